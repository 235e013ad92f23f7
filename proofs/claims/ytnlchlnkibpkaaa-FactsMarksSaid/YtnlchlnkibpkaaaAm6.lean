/- The abstract machine: stores, appends; each operation against the model. -/
import Derived.Test.YtnlchlnkibpkaaaAm5
namespace Go.Proofs.Ytnlchlnkibpkaaa.Am
set_option linter.unusedSimpArgs false
set_option linter.unusedVariables false
open Go.RowKit

section
variable {N : Env} {B : Bs} {n : Nat} {μ μ' : Mu} {β : Nat → Nat} {s : St} {a : Act} {w w' : World}

/-- an object of the call's own is another one now -/
theorem HeapR.repl {P : Program} {h : Heap} (H : HeapR P μ h w) {id ver ver' : Nat} {cells cells' : List Value} {et : TypeId} {m m' : M} (ho : h[id]? = some (.arr cells ver true et)) (hm : mAt μ id ver = some m)
    (hx : Ext μ μ') (hl : μ'.length = μ.length) (hsame : ∀ i, i ≠ id → μ'[i]? = μ[i]?) (hn : ObjR P μ' w' id cells' ver' true et m') (hb : m'.block = m.block ∨ w.heap.size ≤ m'.block)
    (hsz : w.heap.size ≤ w'.heap.size) (hw : ∀ k, k < w.heap.size → k ≠ m.block → w'.heap[k]? = w.heap[k]?) : HeapR P μ' (h.set id (.arr cells' ver' true et)) w' := by
  have hid : id < h.length := by
    rcases Nat.lt_or_ge id h.length with h' | h'
    · exact h'
    · simp [List.getElem?_eq_none h'] at ho
  have hcase : ∀ {i : Nat} {c : List Value} {v : Nat} {o : Bool} {t : TypeId}, (h.set id (HObj.arr cells' ver' true et))[i]? = some (.arr c v o t) → (i ≠ id ∧ h[i]? = some (.arr c v o t)) ∨ (i = id ∧ c = cells' ∧ v = ver' ∧ o = true ∧ t = et) := by
    intro i c v o t hi
    rw [List.getElem?_set] at hi
    by_cases e : id = i
    · subst e
      simp only [if_true, hid, Option.some.injEq, HObj.arr.injEq] at hi
      obtain ⟨rfl, rfl, rfl, rfl⟩ := hi
      exact .inr ⟨rfl, rfl, rfl, rfl, rfl⟩
    · rw [if_neg e] at hi
      exact .inl ⟨fun e' => e e'.symm, hi⟩
  have hat : ∀ {i v : Nat}, i ≠ id → mAt μ' i v = mAt μ i v := fun {i v} hi => by unfold mAt; rw [hsame i hi]
  have hblk : ∀ {i : Nat} {c : List Value} {v : Nat} {o : Bool} {t : TypeId} {q : M}, i ≠ id → h[i]? = some (.arr c v o t) → mAt μ i v = some q → m'.block ≠ q.block := by
    intro i c v o t q hi h1 h2
    rcases hb with hb | hb
    · rw [hb]
      exact H.sep _ _ _ _ _ _ _ _ _ _ _ (fun e => hi e.symm) ho h1 hm h2
    · have := (H.get h1 h2).blk
      omega
  refine ⟨by simp [hl, H.len], ?_, ?_⟩
  · intro i c v o t hi
    rcases hcase hi with ⟨hne, h1⟩ | ⟨rfl, rfl, rfl, rfl, rfl⟩
    · obtain ⟨q, hq⟩ := H.obj _ _ _ _ _ h1
      exact ⟨q, hq.mono hx (hsame i hne) (hw _ hq.blk fun e => H.sep _ _ _ _ _ _ _ _ _ _ _ (fun e => hne e.symm) ho h1 hm hq.at e.symm) hsz⟩
    · exact ⟨m', hn⟩
  · intro i1 i2 c1 c2 v1 v2 o2 e1 e2 m1 m2 hne h1 h2 k1 k2
    rcases hcase h1 with ⟨hi, g1⟩ | ⟨rfl, rfl, rfl, _, rfl⟩ <;> rcases hcase h2 with ⟨hi', g2⟩ | ⟨rfl, rfl, rfl, rfl, rfl⟩
    · rw [hat hi] at k1
      rw [hat hi'] at k2
      exact H.sep _ _ _ _ _ _ _ _ _ _ _ hne g1 g2 k1 k2
    · rw [hat hi] at k1
      have := hn.at
      rw [k2] at this
      cases this
      exact fun e => hblk hi g1 k1 e.symm
    · rw [hat hi'] at k2
      have := hn.at
      rw [k1] at this
      cases this
      exact hblk hi' g2 k2
    · exact absurd rfl hne
theorem own_repl {h : Heap} {id ver' : Nat} {cells' : List Value} {et : TypeId} {m' : M} {b : Nat} (hsame : ∀ i, i ≠ id → μ'[i]? = μ[i]?) (hm' : mAt μ' id ver' = some m')
    (hb : OwnB μ' (h.set id (.arr cells' ver' true et)) b) : OwnB μ h b ∨ b = m'.block := by
  obtain ⟨i, c, v, t, q, h1, h2, rfl⟩ := hb
  rw [List.getElem?_set] at h1
  by_cases e : id = i
  · subst e
    split at h1
    · split at h1
      · simp only [Option.some.injEq, HObj.arr.injEq] at h1
        obtain ⟨_, rfl, _⟩ := h1
        rw [hm'] at h2
        cases h2
        exact .inr rfl
      · cases h1
    · exact absurd rfl ‹_›
  · rw [if_neg e] at h1
    exact .inl ⟨i, c, v, t, q, h1, by unfold mAt at h2 ⊢; rwa [hsame i (fun e' => e e'.symm)] at h2, rfl⟩
theorem blk_repl {h : Heap} {id ver' : Nat} {cells' : List Value} {et : TypeId} {m' : M} {b : Nat} (hsame : ∀ i, i ≠ id → μ'[i]? = μ[i]?) (hm' : mAt μ' id ver' = some m')
    (hb : BlkB μ' (h.set id (.arr cells' ver' true et)) b) : BlkB μ h b ∨ b = m'.block := by
  obtain ⟨i, c, v, o, t, q, h1, h2, rfl⟩ := hb
  rw [List.getElem?_set] at h1
  by_cases e : id = i
  · subst e
    split at h1
    · split at h1
      · simp only [Option.some.injEq, HObj.arr.injEq] at h1
        obtain ⟨_, rfl, _⟩ := h1
        rw [hm'] at h2
        cases h2
        exact .inr rfl
      · cases h1
    · exact absurd rfl ‹_›
  · rw [if_neg e] at h1
    exact .inl ⟨i, c, v, o, t, q, h1, by unfold mAt at h2 ⊢; rwa [hsame i (fun e' => e e'.symm)] at h2, rfl⟩

/-! ### a new block -/
theorem heap_alloc_lt (w : World) (o : Obj) {k : Nat} (h : k < w.heap.size) : (w.alloc o).heap[k]? = w.heap[k]? := Below.heap_alloc w o k h
theorem FrW.alloc {O : Nat → Prop} {w0 : World} (h : FrW O w0 w) (o : Obj) : FrW O w0 (w.alloc o) :=
  ⟨h.os, h.tape, h.output, by have := h.size; simp; omega, fun k hk hn => (heap_alloc_lt w o (Nat.lt_of_lt_of_le hk h.size)).trans (h.block k hk hn)⟩
/-- new worlds: nothing that was there has turned -/
theorem FrW.grow {O : Nat → Prop} {w0 : World} (h : FrW O w0 w) (ho : w'.os = w.os) (ht : w'.tape = w.tape) (hu : w'.output = w.output) (hsz : w.heap.size ≤ w'.heap.size)
    (hw : ∀ k, k < w.heap.size → w'.heap[k]? = w.heap[k]?) : FrW O w0 w' :=
  ⟨ho.trans h.os, ht.trans h.tape, hu.trans h.output, Nat.le_trans h.size hsz, fun k hk hn => (hw k (Nat.lt_of_lt_of_le hk h.size)).trans (h.block k hk hn)⟩
theorem row_of {P : Program} {cs : List Value} {cur : Array Value} {e : TypeId} {b : Nat} (hr : w.heap[b]? = some (.cells cur e (0, 0))) (h : VRL P μ cs cur.toList) (h1 : cs.all one = true) : RowR P μ b cs w := ⟨cur, e, hr, h, h1⟩
/-- a private block in a slot -/
theorem StR.privNew (R : StR N B n μ β s a w) {d : Nat} {sl : Slot} {cs : List Value} {cur : Array Value} {e : TypeId} {v' : Value} (hd : d < n) (hc : VRL N.P μ cs cur.toList) (h1 : cs.all one = true)
    (hS : (RowR N.P μ w.heap.size cs (w.alloc (.cells cur e)) → SlotR N.P μ w.heap.size (w.alloc (.cells cur e)) sl v')) : ∃ β', StR N B n μ β' (s.put d sl) (a.put (some d) v') (w.alloc (.cells cur e)) := by
  have hnew : (w.alloc (.cells cur e)).heap[w.heap.size]? = some (.cells cur e (0, 0)) := heap_alloc_new w _
  have hlt := fun (t : Nat) (ht : priv (fget s.fr t) = true) => (R.bnew t ht).2
  refine ⟨_, R.upd (h' := s.h) (b := w.heap.size) hd (Ext.refl _) (R.heap.world (by simp) fun b hb => heap_alloc_lt w _ (hb.lt R.heap)) (R.fr.alloc _) R.own R.blk (by simp)
    (fun t ht => heap_alloc_lt w _ (hlt t ht)) R.bsep (hS (row_of hnew hc h1)) fun _ => ⟨R.fr.size, by simp, fun hb => by have := hb.lt R.heap; omega, fun t ht => by have := hlt t ht; omega⟩⟩
/-- a new object -/
theorem StR.objNew (R : StR N B n μ β s a w) {d : Option Nat} {cells : List Value} {cur : Array Value} {e : TypeId} {v v' : Value} {b : Nat} (hd : ∀ x, d = some x → x < n) (ho : w'.os = w.os) (ht : w'.tape = w.tape) (hu : w'.output = w.output)
    (hsz : w.heap.size ≤ w'.heap.size) (hw : ∀ k, k < w.heap.size → w'.heap[k]? = w.heap[k]?) (hb : w.heap.size ≤ b) (hbl : b < w'.heap.size) (hr : w'.heap[b]? = some (.cells cur e (0, 0)))
    (hc : ∀ (j : Nat) (v : Value), cells[j]? = some v → ∃ v', cur[j]? = some v' ∧ VR N.P μ v v') (h1 : cells.all one = true) (hv : VR N.P (μ ++ [[⟨b, 0, cur.size, e⟩]]) v v') :
    ∃ μ' β', Ext μ μ' ∧ StR N B n μ' β' ({ s with h := s.h ++ [HObj.arr cells 0 true e] }.putO d (.val v)) (a.put d v') w' := by
  have hlt := fun (t : Nat) (ht : priv (fget s.fr t) = true) => (R.bnew t ht).2
  obtain ⟨β', h⟩ := R.updO (d := d) hd (Ext.push _ _) (R.heap.new hsz hb hbl hw hr hc h1) (R.fr.grow ho ht hu hsz hw)
    (fun x hx => by
      rcases own_new R.heap.len hx with h | h
      · exact R.own x h
      · have := R.fr.size
        simp only at h
        exact .inr (by omega))
    (fun x hx => by
      rcases blk_new R.heap.len hx with h | h
      · exact R.blk x h
      · have := R.fr.size
        simp only at h
        exact .inr (by omega))
    hsz (fun t ht => hw _ (hlt t ht))
    (fun t ht hx => by
      rcases blk_new R.heap.len hx with h | h
      · exact R.bsep t ht h
      · have := hlt t ht
        simp only at h
        omega) hv
  exact ⟨_, β', Ext.push _ _, h⟩

/-! ### what makes new blocks -/
theorem run_newVar {P : Program} (t : TypeId) (v : Value) (w : World) : (newVar t v).run P w = .ok ⟨w.heap.size, 0, none⟩ (w.alloc (.cells v.cells t)) := by simp [newVar, newRow]
theorem snd_boxC (R : StR N B n μ β s a w) {o : Oper} {t : TypeId} {cs : List Value} (h : boxC N s o.op = some (t, cs)) :
    ∃ cur, (execOp a.eval o).run N.P w = .ok (.value (.pointer (some ⟨w.heap.size, 0, none⟩))) (w.alloc (.cells cur t)) ∧ VRL N.P μ cs cur.toList ∧ cs.all one = true := by
  unfold boxC at h
  split at h
  · rename_i t' ho
    split at h
    · rename_i ti ht
      obtain ⟨i, d, hi, hd, rfl⟩ := tinfo_some ht
      split at h
      · rename_i z hz
        simp only at hz
        split at h
        · rename_i hp
          cases hv : vcells i.size z with
          | none => simp [hv] at h
          | some l =>
            simp only [hv, Option.map_some, Option.some.injEq, Prod.mk.injEq] at h
            obtain ⟨rfl, rfl⟩ := h
            obtain ⟨rfl, h2, h3, h4⟩ := vcells_some hv
            refine ⟨z.cells, ?_, (VR.ofPureV hp).cells, h4⟩
            simp [execOp, ho, Instr.alloc, zeroValue, typeInfo, hi, hz, run_newVar]
        · cases h
      · cases h
    · cases h
  · rename_i t' x ho
    split at h
    · rename_i ti v ht hx
      obtain ⟨i, d, hi, hd, rfl⟩ := tinfo_some ht
      cases hv : vcells i.size v with
      | none => simp [hv] at h
      | some l =>
        simp only [hv, Option.map_some, Option.some.injEq, Prod.mk.injEq] at h
        obtain ⟨rfl, rfl⟩ := h
        obtain ⟨rfl, h2, h3, h4⟩ := vcells_some hv
        refine ⟨(a.eval x).cells, ?_, (ev_sound R hx).cells, h4⟩
        simp [execOp, ho, Instr.box, run_newVar]
    · cases h
  · cases h
theorem range_mod {z : Array Value} : ∀ (k : Nat), ((Array.range (k * z.size)).map fun i => z[i % z.size]!).toList = (List.replicate k z.toList).flatten := by
  intro k
  have e : ∀ k : Nat, (List.range (k * z.size)).map (fun i => z[i % z.size]!) = (List.replicate k z.toList).flatten := by
    intro k
    induction k with
    | zero => simp
    | succ k ih =>
      rw [Nat.succ_mul, List.range_add, List.map_append, ih, List.replicate_succ', List.flatten_append, List.map_map]
      congr 1
      simp only [List.flatten_cons, List.flatten_nil, List.append_nil]
      apply List.ext_getElem
      · simp
      · intro i h1 h2
        simp only [List.length_map, List.length_range] at h1
        simp only [List.getElem_map, List.getElem_range, Function.comp_apply, Nat.mul_add_mod_self_right, Nat.mod_eq_of_lt h1, Array.getElem_toList]
        simp [h1]
  rw [Array.toList_map, Array.toList_range, e]
theorem madeCells_toList {z : Array Value} (k : Nat) : (madeCells z (k * z.size)).toList = (List.replicate k z.toList).flatten := by
  unfold madeCells
  exact range_mod k
theorem VRL.flat {P : Program} {l l' : List Value} (h : VRL P μ l l') : ∀ k : Nat, VRL P μ (List.replicate k l).flatten (List.replicate k l').flatten
  | 0 => trivial
  | k + 1 => by
    rw [List.replicate_succ, List.replicate_succ, List.flatten_cons, List.flatten_cons]
    exact h.append (VRL.flat h k)
theorem all_flat {l : List Value} (h : l.all one = true) : ∀ k : Nat, ((List.replicate k l).flatten).all one = true
  | 0 => rfl
  | k + 1 => by rw [List.replicate_succ, List.flatten_cons, List.all_append, h, all_flat h k]; rfl
theorem wrC_one {cells vs r : List Value} {off : Nat} (h : wrC cells off vs = some r) (h1 : cells.all one = true) (h2 : vs.all one = true) : r.all one = true ∧ r.length = cells.length := by
  unfold Am.wrC at h
  split at h
  · rename_i hle
    cases h
    have a1 : (cells.take off).all one = true := by
      rw [List.all_eq_true] at h1 ⊢
      exact fun x hx => h1 x (List.mem_of_mem_take hx)
    have a2 : (cells.drop (off + vs.length)).all one = true := by
      rw [List.all_eq_true] at h1 ⊢
      exact fun x hx => h1 x (List.mem_of_mem_drop hx)
    refine ⟨by rw [List.all_append, List.all_append, a1, a2, h2]; rfl, ?_⟩
    simp only [List.length_append, List.length_take, List.length_drop]
    omega
  · cases h
theorem putParts_one {place : Nat → Option (Nat × Nat)} : ∀ {ps : List (Nat × Value)} {cells l : List Value}, putParts place cells ps = some l → cells.all one = true → l.all one = true ∧ l.length = cells.length
  | [], cells, l, h, h1 => by
    simp only [putParts] at h
    cases h
    exact ⟨h1, rfl⟩
  | (i, v) :: ps, cells, l, h, h1 => by
    simp only [putParts] at h
    split at h
    · cases h
    · split at h
      · cases h
      · rename_i vs hvs
        split at h
        · cases h
        · rename_i cs hcs
          obtain ⟨_, _, _, h4⟩ := vcells_some hvs
          obtain ⟨k1, k2⟩ := wrC_one hcs h1 h4
          obtain ⟨q1, q2⟩ := putParts_one h k1
          exact ⟨q1, q2.trans k2⟩
theorem snd_bslC (R : StR N B n μ β s a w) {o : Oper} {t : TypeId} {cs : List Value} {m : Nat} (h : bslC N s o.op = some (t, cs, m)) :
    ∃ cur, (execOp a.eval o).run N.P w = .ok (.value (.slice (some ⟨w.heap.size, 0, none⟩) m m)) (w.alloc (.cells cur t)) ∧ VRL N.P μ cs cur.toList ∧ cs.all one = true ∧ cs.length = m * N.P.cellsOf t ∧ m ≤ 16777216 := by
  unfold bslC at h
  split at h
  · rename_i t' len parts ho
    split at h
    · rename_i e hu
      split at h
      · rename_i ti ps ht hps
        obtain ⟨i, d, hi, hd, rfl⟩ := tinfo_some ht
        split at h
        · rename_i z hz
          simp only at hz
          split at h
          · rename_i hc
            simp only [Bool.and_eq_true, decide_eq_true_eq] at hc
            obtain ⟨⟨⟨⟨c1, c2⟩, c3⟩, c4⟩, c5⟩ := hc
            cases hq : putParts (placeA i.size) (List.replicate len z.cells.toList).flatten ps with
            | none => simp [hq] at h
            | some l =>
              simp only [hq, Option.map_some, Option.some.injEq, Prod.mk.injEq] at h
              obtain ⟨rfl, rfl, rfl⟩ := h
              have hz0 : 0 < z.cells.size := by omega
              have hrm := range_mod (z := z.cells) len
              have hzz : VRL N.P μ z.cells.toList z.cells.toList := (VR.ofPureV c1).cells
              obtain ⟨l', k1, k2⟩ := fill_sound (cells' := (Array.range (len * z.cells.size)).map fun i => z.cells[i % z.cells.size]!) (evParts_sound R hps) (by rw [hrm]; exact hzz.flat len) hq
              obtain ⟨q1, q2⟩ := putParts_one hq (all_flat c2 len)
              have hlen : (List.replicate len z.cells.toList).flatten.length = len * z.cells.size := by simp
              refine ⟨l', ?_, k2, q1, ?_, ?_⟩
              · have hl : (parts.map fun (i, x) => (i, a.eval x)).toList = parts.toList.map fun p => (p.1, a.eval p.2) := by simp
                have hz1 : ¬ (len * i.size > 2 ^ 24) := by omega
                have k1' : Instr.fill (fun x => some (x * i.size, i.size)) (Array.map (fun x => z.cells[x % z.cells.size]!) (Array.range (len * i.size))) (parts.map fun (i, x) => (i, a.eval x)).toList = some l' := by
                  rw [hl, ← c3]
                  rw [← c3] at k1
                  exact k1
                by_cases hn : len * i.size = 0
                · have hl0 : len = 0 := by
                    rcases Nat.mul_eq_zero.1 hn with h | h
                    · exact h
                    · omega
                  subst hl0
                  simp only [Nat.zero_mul] at k1'
                  simp only [execOp, ho, Instr.buildSlice, Sem.run_bind, run_underlying hu, Result.andThen_ok, run_sizeOf' hi, Nat.zero_mul, if_true, Sem.run_pure, zeroValue, typeInfo]
                  rw [if_neg (by omega)]
                  simp only [Sem.run_bind, Sem.run_pure, Result.andThen_ok]
                  have e0 : (Array.range 0).map (fun i => (#[] : Array Value)[i % (#[] : Array Value).size]!) = (Array.range 0).map (fun x => z.cells[x % z.cells.size]!) := by simp
                  rw [e0, k1']
                  simp [newRow]
                · simp only [execOp, ho, Instr.buildSlice, Sem.run_bind, run_underlying hu, Result.andThen_ok, run_sizeOf' hi, Sem.run_pure, zeroValue, typeInfo]
                  rw [if_neg hz1, if_neg hn]
                  simp only [Sem.run_bind, Sem.run_pure, Result.andThen_ok, run_program, hi, hz]
                  rw [k1']
                  simp [newRow]
              · rw [q2, hlen, c3]
                simp [Program.cellsOf, hi]
              · have : len * 1 ≤ len * i.size := Nat.mul_le_mul_left _ c4
                omega
          · cases h
        · cases h
      · cases h
    · cases h
  · cases h
theorem snd_mkC (R : StR N B n μ β s a w) {o : Oper} {t : TypeId} {cs : List Value} {m : Nat} (h : mkC N s o.op = some (t, cs, m)) :
    ∃ cur, (execOp a.eval o).run N.P w = .ok (.value (.slice (some ⟨w.heap.size, 0, none⟩) m m)) (w.alloc (.cells cur t)) ∧ VRL N.P μ cs cur.toList ∧ cs.all one = true ∧ cs.length = m * N.P.cellsOf t ∧ m ≤ 140737488355328 := by
  unfold mkC at h
  split at h
  · rename_i t' l c ho
    split at h
    · rename_i e q q' hu hl hc
      split at h
      · rename_i ti ht
        obtain ⟨i, d, hi, hd, rfl⟩ := tinfo_some ht
        split at h
        · rename_i z hz
          simp only at hz
          split at h
          · rename_i hcs
            simp only [Bool.and_eq_true, decide_eq_true_eq] at hcs
            obtain ⟨⟨⟨⟨⟨⟨⟨c1, c2⟩, c3⟩, c4⟩, c5⟩, c6⟩, c7⟩, c8⟩ := hcs
            cases h
            subst c5
            have hz0 : 0 < z.cells.size := by omega
            have hr := run_make (P := N.P) w t' t i z hu hi hz .i64 .i64 q q c6 (Int.le_refl _) (by omega) (by omega)
            refine ⟨madeCells z.cells (q.toNat * i.size), ?_, ?_, all_flat c2 _, ?_, by omega⟩
            · simp only [execOp, ho, (ev_sound R hl).int, (ev_sound R hc).int, Sem.run_bind, hr, Result.andThen_ok, Sem.run_pure]
            · rw [← c3, madeCells_toList]
              exact (VR.ofPureV (P := N.P) (μ := μ) c1).cells.flat _
            · simp [Program.cellsOf, hi, c3]
          · cases h
        · cases h
      · cases h
    · cases h
  · cases h
end
end Go.Proofs.Ytnlchlnkibpkaaa.Am
