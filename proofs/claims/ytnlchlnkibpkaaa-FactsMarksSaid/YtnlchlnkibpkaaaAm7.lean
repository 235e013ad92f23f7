/- The abstract machine: the judgement is sound. -/
import Derived.Test.YtnlchlnkibpkaaaAm6
import Derived.Maps.AppendAt
import Derived.LoopN
namespace Go.Proofs.Ytnlchlnkibpkaaa.Am
set_option linter.unusedSimpArgs false
set_option linter.unusedVariables false
open Go.RowKit

section
variable {N : Env} {B : Bs} {n : Nat} {μ μ' : Mu} {β : Nat → Nat} {s : St} {a : Act} {w w' : World}

theorem wanted_sound (R : StR N B n μ β s a w) {all : Array Oper} {o : Oper} {b : Bool} (h : wantedA all o s = some b) : Region.wanted o (yielded all a.tmps) = b := by
  unfold wantedA at h
  unfold Region.wanted
  split at h
  · rename_i hg
    cases h
    rw [hg]
  · rename_i j want hg
    rw [hg]
    simp only
    split at h
    · rename_i hj
      cases h
      simp [yielded, hj]
    · rename_i q hj
      split at h
      · rename_i hd
        cases h
        simp [yielded, hj, hd]
      · rename_i d hd
        split at h
        · rename_i t ht
          cases h
          have hlt := lt_of_fget R (t := d) (by rw [ht]; simp)
          have hs := R.slot d hlt
          rw [ht] at hs
          have hv : a.tmps.getD d undef = .bool t := VR.bool hs
          have hd' : a.tmps[d]? = some (.bool t) := by
            rw [Array.getD_eq_getD_getElem?] at hv
            have : d < a.tmps.size := by rw [R.size]; exact hlt
            rw [Array.getElem?_eq_getElem this] at hv ⊢
            simpa using hv
          simp only [yielded, hj, Option.bind_some, hd, hd']
          cases t <;> cases want <;> rfl
        · rename_i cs ht
          cases h
          have hlt := lt_of_fget R (t := d) (by rw [ht]; simp)
          have hs := R.slot d hlt
          rw [ht] at hs
          obtain ⟨cs', hv, _⟩ := VR.tupleInv hs
          have hd' : a.tmps[d]? = some (.tuple cs') := by
            rw [Array.getD_eq_getD_getElem?] at hv
            have : d < a.tmps.size := by rw [R.size]; exact hlt
            rw [Array.getElem?_eq_getElem this] at hv ⊢
            simpa using hv
          simp [yielded, hj, hd, hd']
        · cases h
theorem gkeys_sound (R : StR N B n μ β s a w) {all : Array Oper} {o : Oper} {ks : List Key} (h : gkeys all o s = some ks) : Region.wanted o (yielded all a.tmps) = condL ks := by
  unfold gkeys at h
  unfold Region.wanted
  split at h
  · cases h
  · rename_i j want hg
    rw [hg]
    simp only
    split at h
    · cases h
    · rename_i q hj
      split at h
      · cases h
      · rename_i d hd
        have hread : ∀ {v : Value}, d < n → a.tmps.getD d undef = v → a.tmps[d]? = some v := by
          intro v hlt hv
          rw [Array.getD_eq_getD_getElem?] at hv
          have : d < a.tmps.size := by rw [R.size]; exact hlt
          rw [Array.getElem?_eq_getElem this] at hv ⊢
          simpa using hv
        split at h
        · rename_i c ht
          cases h
          have hlt := lt_of_fget R (t := d) (by rw [ht]; simp)
          have hs := R.slot d hlt
          rw [ht] at hs
          have hd' := hread hlt (VR.bool hs)
          simp only [yielded, hj, Option.bind_some, hd, hd', condL, List.all_cons, List.all_nil, Bool.and_true]
          cases c <;> cases want <;> rfl
        · rename_i k0 c ht
          cases h
          have hlt := lt_of_fget R (t := d) (by rw [ht]; simp)
          have hs := R.slot d hlt
          rw [ht] at hs
          simp only [SlotR] at hs
          simp only [condL, List.all_append, List.all_cons, List.all_nil, Bool.and_true]
          by_cases hk : condL k0 = true
          · rw [if_pos hk] at hs
            have hd' := hread hlt (VR.bool hs)
            simp only [condL] at hk
            simp only [yielded, hj, Option.bind_some, hd, hd', hk, Bool.true_and]
            cases c <;> cases want <;> rfl
          · rw [if_neg hk] at hs
            have hd' := hread hlt hs
            simp only [condL] at hk
            simp only [Bool.not_eq_true] at hk
            simp [yielded, hj, hd, hd', undef, hk]
        · cases h
theorem step_of {P : Program} {all : Array Oper} {o : Oper} {rest : List Oper} {Q : Exit → Act → World → Prop} (hw : Region.wanted o (yielded all a.tmps) = true) (h : o.wp P a w (wpList P all Q rest) Q) :
    wpList P all Q (o :: rest) a w := by
  unfold wpList
  rw [if_pos hw]
  exact .inl h
theorem step_val {P : Program} {all : Array Oper} {o : Oper} {rest : List Oper} {Q : Exit → Act → World → Prop} {v : Value} (hw : Region.wanted o (yielded all a.tmps) = true) (hr : (execOp a.eval o).run P w = .ok (.value v) w')
    (h : wpList P all Q rest (a.put o.dst v) w') : wpList P all Q (o :: rest) a w :=
  step_of hw (by unfold Oper.wp; rw [hr]; exact h)

/-- an address in a slot's box -/
theorem epl_sound (R : StR N B n μ β s a w) {o : Oper} {sl off : Nat} (h : epl N s o.op = some (sl, off)) :
    (execOp a.eval o).run N.P w = .ok (.value (.pointer (some ⟨β sl, off, none⟩))) w ∧ ∃ cs, fget s.fr sl = .box cs := by
  unfold epl at h
  split at h
  · rename_i t x f ho
    split at h
    · rename_i o' ft sl' off' hf hp
      cases h
      obtain ⟨he, hb⟩ := plc_sound R hp
      refine ⟨?_, hb⟩
      simp only [execOp, ho, he, Sem.run_bind, run_fieldAt' hf, Result.andThen_ok, Sem.run_pure]
    · cases h
  · rename_i t x i ho
    split at h
    · rename_i m e sl' off' k q hu hp hi
      split at h
      · rename_i ti ht
        split at h
        · rename_i hr
          cases h
          obtain ⟨he, hb⟩ := plc_sound R hp
          refine ⟨?_, hb⟩
          simp only [execOp, ho, he, (ev_sound R hi).int, Sem.run_bind, run_indexAt_arr hu ht _ _ k q hr.1 hr.2, Result.andThen_ok, Sem.run_pure]
        · cases h
      · cases h
    · cases h
  · rename_i x ho
    obtain ⟨he, hb⟩ := plc_sound R h
    exact ⟨by simp [execOp, ho, he], hb⟩
  · rename_i x ho
    obtain ⟨he, hb⟩ := plc_sound R h
    exact ⟨by simp only [execOp, ho, he]; rfl, hb⟩
  · cases h
theorem StR.ephPut (R : StR N B n μ β s a w) {d sl off : Nat} {ks : List Key} {v' : Value} (hd : d < n) (hb : ∃ cs, fget s.fr sl = .box cs) (hne : sl ≠ d) (hv : if condL ks = true then v' = .pointer (some ⟨β sl, off, none⟩) else v' = undef) :
    ∃ β', StR N B n μ β' { s with fr := fput s.fr d .unk, eph := (d, (ks, (sl, off))) :: edrop s.eph d } (a.put (some d) v') w := by
  have R' := R.upd (h' := s.h) (sl := .unk) (b := 0) (v' := v') hd (Ext.refl _) R.heap R.fr R.own R.blk (Nat.le_refl _) (fun _ _ => rfl) R.bsep trivial (fun h => by simp [priv] at h)
  refine ⟨_, { R' with eph := ?_ }⟩
  intro t g sl' off' hm
  rcases List.mem_cons.1 hm with hm | hm
  · cases hm
    refine ⟨hd, ?_, ?_⟩
    · simp only [getD_put a _ _ _ (show _ < a.tmps.size by rw [R.size]; exact hd), if_true, if_neg (fun e => hne (Eq.symm e))]
      exact hv
    · obtain ⟨cs, hcs⟩ := hb
      exact ⟨cs, by simp only [fget_fput]; rw [if_neg (fun e => hne e.symm)]; exact hcs⟩
  · exact R'.eph t g sl' off' hm

/-! ### stores -/
theorem run_storeAt' {P : Program} {t : TypeId} {ti : TI} {v : Value} {b off : Nat} {cur : Array Value} {e : TypeId} (ht : tinfo P t = some ti) (hs : v.cells.size = ti.size) (h1 : v.cells.toList.all one = true)
    (hr : w.heap[b]? = some (.cells cur e (0, 0))) (hl : off + v.cells.size ≤ cur.size) :
    (Instr.storeAt t (.pointer (some ⟨b, off, none⟩)) v).run P w = .ok () (w.setRow b (cur.toList.take off ++ v.cells.toList ++ cur.toList.drop (off + v.cells.toList.length)).toArray) := by
  obtain ⟨i, d, hi, hd, rfl⟩ := tinfo_some ht
  have hst := run_storeCells_at P b off e v.cells.toList 0 cur w hr (by simpa using hl) fun u hu => by
    rw [← one_iff]
    exact List.all_eq_true.1 h1 u hu
  simp only [Nat.add_zero] at hst
  simp only at hs
  simp only [Instr.storeAt, Instr.sureAddr, storeVar, Sem.run_bind, Sem.run_pure, Result.andThen_ok, run_sizeOf' hi, hs, ne_eq, not_true, if_false, hst]
theorem FrW.setRow {O : Nat → Prop} {w0 : World} (h : FrW O w0 w) {b : Nat} (hb : O b ∨ w0.heap.size ≤ b) (cs : Array Value) : FrW O w0 (w.setRow b cs) :=
  ⟨h.os, h.tape, h.output, by simpa using h.size, fun k hk hn => (setRow_other w b k cs (fun e => by rcases hb with hb | hb; exact hn (e ▸ hb); omega)).trans (h.block k hk hn)⟩
theorem StR.stoBox (R : StR N B n μ β s a w) {sl : Nat} {cs cs' vs vs' : List Value} {off : Nat} {cur : Array Value} {e : TypeId} (hb : fget s.fr sl = .box cs) (hr : w.heap[β sl]? = some (.cells cur e (0, 0))) (hc : VRL N.P μ cs cur.toList)
    (h1 : cs.all one = true) (hv : VRL N.P μ vs vs') (hv1 : vs.all one = true) (hw : wrC cs off vs = some cs') :
    StR N B n μ β { s with fr := fput s.fr sl (.box cs') } a (w.setRow (β sl) (cur.toList.take off ++ vs' ++ cur.toList.drop (off + vs'.length)).toArray) := by
  have hp : priv (fget s.fr sl) = true := by rw [hb]; rfl
  have hnb := R.bsep sl hp
  obtain ⟨k1, k2⟩ := hc.wrC hv hw
  obtain ⟨q1, q2⟩ := wrC_one hw h1 hv1
  have hpr : ∀ t, priv (fget (fput s.fr sl (.box cs')) t) = priv (fget s.fr t) := fun t => by
    rw [fget_fput]
    by_cases h : sl = t
    · subst h
      rw [if_pos rfl, hp]
      rfl
    · rw [if_neg h]
  refine ⟨R.defers, R.size, ?_, ?_, ?_, ?_, R.fr.setRow (.inr (R.bnew sl hp).1) _, R.ext, R.own, R.blk, ?_, ?_, ?_⟩
  · intro t ht
    simp only [fget_fput]
    by_cases h : sl = t
    · subst h
      rw [if_pos rfl]
      have hs := R.slot sl ht
      rw [hb] at hs
      exact ⟨hs.1, row_of (setRow_heap w _ cur _ e _ hr) (by simpa using k1) q1⟩
    · rw [if_neg h]
      exact (R.slot t ht).mono (Ext.refl _) fun hp' => setRow_other w _ _ _ fun e' => R.binj t sl hp' hp (fun e'' => h e''.symm) e'
  · intro t ht
    simp only [fget_fput]
    have := lt_of_fget R (t := sl) (by rw [hb]; simp)
    rw [if_neg (by omega)]
    exact R.hi t ht
  · intro t g sl' off' hm
    obtain ⟨g1, g2, c, g3⟩ := R.eph t g sl' off' hm
    refine ⟨g1, g2, ?_⟩
    simp only [fget_fput]
    by_cases h : sl = sl'
    · exact ⟨cs', by rw [if_pos h]⟩
    · exact ⟨c, by rw [if_neg h]; exact g3⟩
  · exact R.heap.world (by simp) fun b hb' => setRow_other w _ _ _ fun e' => hnb (e' ▸ hb')
  · intro t ht
    rw [hpr] at ht
    simpa using R.bnew t ht
  · intro t t' ht ht' hne
    rw [hpr] at ht ht'
    exact R.binj t t' ht ht' hne
  · intro t ht
    rw [hpr] at ht
    exact R.bsep t ht
theorem StR.stoHeap (R : StR N B n μ β s a w) {id ver off : Nat} {cells cells' vs vs' : List Value} {et : TypeId} {m : M} {cur : Array Value} (ho : s.h[id]? = some (.arr cells ver true et)) (hm : mAt μ id ver = some m)
    (hr : w.heap[m.block]? = some (.cells cur et (0, 0))) (hv : VRL N.P μ vs vs') (hv1 : vs.all one = true) (hw : wrC cells off vs = some cells') :
    StR N B n μ β { s with h := s.h.set id (HObj.arr cells' ver true et) } a (w.setRow m.block (cur.toList.take off ++ vs' ++ cur.toList.drop (off + vs'.length)).toArray) ∧ off + vs'.length ≤ cur.size := by
  have O := R.heap.get ho hm
  obtain ⟨hb0, cur', hr', hroom⟩ := O.own rfl
  rw [hr] at hr'
  cases hr'
  have hcell : ∀ (j : Nat) (v : Value), cells[j]? = some v → ∃ v', cur[j]? = some v' ∧ VR N.P μ v v' := fun j v hj => by
    obtain ⟨v', k1, k2⟩ := O.cell j v hj
    rw [hb0, Nat.zero_add] at k1
    simp only [World.cell?, hr] at k1
    exact ⟨v', by simpa using k1, k2⟩
  have hvl := hv.length
  have hw' := hw
  unfold Am.wrC at hw'
  split at hw'
  case isFalse => cases hw'
  rename_i hle
  cases hw'
  have hcl : cells.length ≤ cur.size := by
    rcases Nat.eq_zero_or_pos cells.length with h0 | h0
    · omega
    · obtain ⟨v', k1, _⟩ := hcell (cells.length - 1) cells[cells.length - 1] (by simp [List.getElem?_eq_getElem (show cells.length - 1 < cells.length by omega)])
      have := (Array.getElem?_eq_some_iff.1 k1).1
      omega
  have hfit : off + vs'.length ≤ cur.size := by omega
  refine ⟨?_, hfit⟩
  have hown : OwnB μ s.h m.block := ⟨id, cells, ver, et, m, ho, hm, rfl⟩
  obtain ⟨q1, q2⟩ := wrC_one hw O.one hv1
  have hO : ObjR N.P μ (w.setRow m.block (cur.toList.take off ++ vs' ++ cur.toList.drop (off + vs'.length)).toArray) id (cells.take off ++ vs ++ cells.drop (off + vs.length)) ver true et m := by
    refine ⟨O.hist, O.ez, ?_, q1, by simpa using O.blk, fun _ => ⟨hb0, _, setRow_heap w _ cur _ et _ hr, ?_⟩⟩
    · intro j v hj
      rw [hb0, Nat.zero_add, cell_setRow_same w m.block j cur _ et _ hr]
      simp only [List.getElem?_toArray]
      rw [List.append_assoc] at hj ⊢
      rw [List.getElem?_append] at hj ⊢
      have l1 : (cells.take off).length = off := by simp; omega
      have l2 : (cur.toList.take off).length = off := by simp; omega
      rw [l1] at hj
      rw [l2]
      split at hj
      · rename_i hlt
        rw [if_pos hlt]
        rw [List.getElem?_take_of_lt hlt] at hj ⊢
        obtain ⟨v', k1, k2⟩ := hcell j v hj
        exact ⟨v', by simpa using k1, k2⟩
      · rename_i hge
        rw [if_neg hge]
        rw [List.getElem?_append] at hj ⊢
        rw [← hvl]
        split at hj
        · rename_i hlt
          rw [if_pos hlt]
          exact hv.get hj
        · rename_i hge'
          rw [if_neg hge']
          rw [List.getElem?_drop] at hj ⊢
          obtain ⟨v', k1, k2⟩ := hcell _ v hj
          exact ⟨v', by simpa using k1, k2⟩
    · rw [hroom]
      simp only [List.size_toArray, List.length_append, List.length_take, List.length_drop, Array.length_toList]
      omega
  have hx := R.own _ hown
  refine R.updN (Ext.refl _) (R.heap.repl ho hm (Ext.refl _) rfl (fun _ _ => rfl) hO (.inl rfl) (by simp) fun k _ hk => setRow_other w _ _ _ hk) (R.fr.setRow hx _) ?_ ?_ (by simp) ?_ ?_
  · intro b hb
    rcases own_repl (μ := μ) (fun _ _ => rfl) hm hb with h | h
    · exact R.own b h
    · rw [h]; exact hx
  · intro b hb
    rcases blk_repl (μ := μ) (fun _ _ => rfl) hm hb with h | h
    · exact R.blk b h
    · rw [h]; exact R.blk _ hown.blk
  · intro t ht
    exact setRow_other w _ _ _ fun e => R.bsep t ht (e ▸ hown.blk)
  · intro t ht hb
    rcases blk_repl (μ := μ) (fun _ _ => rfl) hm hb with h | h
    · exact R.bsep t ht h
    · exact R.bsep t ht (h ▸ hown.blk)
end
end Go.Proofs.Ytnlchlnkibpkaaa.Am
