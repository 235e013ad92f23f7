/- The abstract machine: what becomes of frames and of the heap. -/
import Derived.Test.YtnlchlnkibpkaaaAm4
namespace Go.Proofs.Ytnlchlnkibpkaaa.Am
set_option linter.unusedSimpArgs false
set_option linter.unusedVariables false
open Go.RowKit

theorem fget_fput (v : Slot) : ∀ (l : Fr) (i j : Nat), fget (fput l i v) j = if i = j then v else fget l j
  | [], i, j => by simp [fput, fget]
  | (k, u) :: r, i, j => by
    simp only [fput]
    by_cases h : k = i
    · subst h
      simp only [if_true, fget]
      split <;> rfl
    · rw [if_neg h]
      simp only [fget, fget_fput v r i j]
      by_cases h1 : k = j
      · subst h1
        rw [if_pos rfl, if_pos rfl, if_neg (fun e => h e.symm)]
      · rw [if_neg h1, if_neg h1]

theorem getD_put (a : Act) (d t : Nat) (v : Value) (hd : d < a.tmps.size) : (a.put (some d) v).tmps.getD t undef = if d = t then v else a.tmps.getD t undef := by
  simp only [Act.put, Array.getD_eq_getD_getElem?, Array.getElem?_setIfInBounds]
  by_cases h : d = t
  · subst h
    simp [hd]
  · simp [h]
theorem RowR.mono {P : Program} {μ μ' : Mu} {w w' : World} {b : Nat} {cs : List Value} (hx : Ext μ μ') (hw : w'.heap[b]? = w.heap[b]?) (h : RowR P μ b cs w) : RowR P μ' b cs w' := by
  obtain ⟨cur, e, h1, h2, h3⟩ := h
  exact ⟨cur, e, hw.trans h1, h2.mono hx, h3⟩
theorem SlotR.mono {P : Program} {μ μ' : Mu} {w w' : World} {b : Nat} {sl : Slot} {v : Value} (hx : Ext μ μ') (hw : priv sl = true → w'.heap[b]? = w.heap[b]?) (h : SlotR P μ b w sl v) : SlotR P μ' b w' sl v := by
  cases sl with
  | val u => exact VR.mono hx h
  | cnd ks u =>
    simp only [SlotR] at h ⊢
    split at h
    · rename_i hc
      rw [if_pos hc]
      exact VR.mono hx h
    · rename_i hc
      rw [if_neg hc]
      exact h
  | box cs => exact ⟨h.1, h.2.mono hx (hw rfl)⟩
  | bsl cs n => exact ⟨h.1, h.2.mono hx (hw rfl)⟩
  | unk => trivial

section
variable {N : Env} {B : Bs} {n : Nat} {μ μ' : Mu} {β : Nat → Nat} {s : St} {a : Act} {w w' : World}

/-- one slot is written, the heap may turn -/
theorem StR.upd (R : StR N B n μ β s a w) {d : Nat} {sl : Slot} {b : Nat} {v' : Value} {h' : Heap} (hd : d < n) (hx : Ext μ μ') (hH : HeapR N.P μ' h' w') (hF : FrW B.own B.w0 w')
    (hO : ∀ b, OwnB μ' h' b → B.own b ∨ B.w0.heap.size ≤ b) (hK : ∀ b, BlkB μ' h' b → B.blk b ∨ B.w0.heap.size ≤ b) (hsz : w.heap.size ≤ w'.heap.size)
    (hP : ∀ t, priv (fget s.fr t) = true → w'.heap[β t]? = w.heap[β t]?) (hB : ∀ t, priv (fget s.fr t) = true → ¬ BlkB μ' h' (β t))
    (hS : SlotR N.P μ' b w' sl v') (hN : priv sl = true → B.w0.heap.size ≤ b ∧ b < w'.heap.size ∧ ¬ BlkB μ' h' b ∧ ∀ t, priv (fget s.fr t) = true → β t ≠ b) :
    StR N B n μ' (fun t => if d = t then b else β t) ({ s with h := h' }.put d sl) (a.put (some d) v') w' := by
  have hdt : d < a.tmps.size := by rw [R.size]; exact hd
  refine ⟨R.defers, by simpa [Act.put] using R.size, ?_, ?_, ?_, hH, hF, R.ext.trans hx, hO, hK, ?_, ?_, ?_⟩
  · intro t ht
    simp only [St.put, fget_fput, getD_put a d t v' hdt]
    by_cases h : d = t
    · subst h
      simp only [if_true]
      exact hS
    · simp only [if_neg h]
      exact (R.slot t ht).mono hx (hP t)
  · intro t ht
    simp only [St.put, fget_fput]
    rw [if_neg (by omega)]
    exact R.hi t ht
  · intro t g sl' off hm
    obtain ⟨h1, h2, h3⟩ := mem_edrop d hm
    obtain ⟨k1, k2, k3⟩ := R.eph t g sl' off h1
    refine ⟨k1, ?_, ?_⟩
    · simp only [getD_put a d t v' hdt, if_neg (fun e : d = t => h2 e.symm), if_neg (fun e : d = sl' => h3 e.symm)]
      exact k2
    · simp only [St.put, fget_fput]
      rw [if_neg (fun e => h3 e.symm)]
      exact k3
  · intro t ht
    simp only [St.put, fget_fput] at ht ⊢
    by_cases h : d = t
    · rw [if_pos h] at ht ⊢
      exact ⟨(hN ht).1, (hN ht).2.1⟩
    · rw [if_neg h] at ht ⊢
      exact ⟨(R.bnew t ht).1, Nat.lt_of_lt_of_le (R.bnew t ht).2 hsz⟩
  · intro t t' ht ht' hne
    simp only [St.put, fget_fput] at ht ht' ⊢
    by_cases h : d = t
    · rw [if_pos h] at ht ⊢
      rw [if_neg (fun e => hne (h.symm.trans e))] at ht' ⊢
      exact fun e => (hN ht).2.2.2 t' ht' e.symm
    · rw [if_neg h] at ht ⊢
      by_cases h' : d = t'
      · rw [if_pos h'] at ht' ⊢
        exact (hN ht').2.2.2 t ht
      · rw [if_neg h'] at ht' ⊢
        exact R.binj t t' ht ht' hne
  · intro t ht
    simp only [St.put, fget_fput] at ht ⊢
    by_cases h : d = t
    · rw [if_pos h] at ht ⊢
      exact (hN ht).2.2.1
    · rw [if_neg h] at ht ⊢
      exact hB t ht
/-- no slot is written, the heap may turn -/
theorem StR.updN (R : StR N B n μ β s a w) {h' : Heap} (hx : Ext μ μ') (hH : HeapR N.P μ' h' w') (hF : FrW B.own B.w0 w')
    (hO : ∀ b, OwnB μ' h' b → B.own b ∨ B.w0.heap.size ≤ b) (hK : ∀ b, BlkB μ' h' b → B.blk b ∨ B.w0.heap.size ≤ b) (hsz : w.heap.size ≤ w'.heap.size)
    (hP : ∀ t, priv (fget s.fr t) = true → w'.heap[β t]? = w.heap[β t]?) (hB : ∀ t, priv (fget s.fr t) = true → ¬ BlkB μ' h' (β t)) :
    StR N B n μ' β { s with h := h' } a w' :=
  ⟨R.defers, R.size, fun t ht => (R.slot t ht).mono hx (hP t), R.hi, R.eph, hH, hF, R.ext.trans hx, hO, hK, fun t ht => ⟨(R.bnew t ht).1, Nat.lt_of_lt_of_le (R.bnew t ht).2 hsz⟩, R.binj, hB⟩
/-- both -/
theorem StR.updO (R : StR N B n μ β s a w) {d : Option Nat} {v v' : Value} {h' : Heap} (hd : ∀ x, d = some x → x < n) (hx : Ext μ μ') (hH : HeapR N.P μ' h' w') (hF : FrW B.own B.w0 w')
    (hO : ∀ b, OwnB μ' h' b → B.own b ∨ B.w0.heap.size ≤ b) (hK : ∀ b, BlkB μ' h' b → B.blk b ∨ B.w0.heap.size ≤ b) (hsz : w.heap.size ≤ w'.heap.size)
    (hP : ∀ t, priv (fget s.fr t) = true → w'.heap[β t]? = w.heap[β t]?) (hB : ∀ t, priv (fget s.fr t) = true → ¬ BlkB μ' h' (β t)) (hS : VR N.P μ' v v') :
    ∃ β', StR N B n μ' β' ({ s with h := h' }.putO d (.val v)) (a.put d v') w' := by
  cases d with
  | none => exact ⟨β, R.updN hx hH hF hO hK hsz hP hB⟩
  | some d => exact ⟨_, R.upd (b := 0) (hd d rfl) hx hH hF hO hK hsz hP hB hS (fun h => by simp [priv] at h)⟩
/-! ### guards that are taken for met -/
theorem strip_cond : ∀ {ks k r : List Key}, strip ks k = some r → condL ks = true → condL k = condL r
  | [], k, r, h, _ => by
    simp only [strip] at h
    cases h
    rfl
  | _ :: _, [], r, h, _ => by simp [strip] at h
  | (d, w, c) :: ks, (d', w', c') :: k, r, h, hc => by
    simp only [strip] at h
    split at h
    · split at h
      · split at h
        · rename_i e
          subst e
          simp only [condL, List.all_cons, Bool.and_eq_true] at hc
          have ih := strip_cond h hc.2
          simp only [condL, List.all_cons, hc.1, Bool.true_and]
          exact ih
        · cases h
      · cases h
    · cases h
theorem fget_asm (ks : List Key) : ∀ (f : Fr) (t : Nat), fget (asmF ks f) t = asmS ks (fget f t)
  | [], t => rfl
  | (k, v) :: r, t => by
    simp only [asmF, fget]
    split
    · rfl
    · exact fget_asm ks r t
theorem mem_asm (ks : List Key) {t : Nat} {g : List Key} {p : Nat × Nat} : ∀ {e : Eph}, (t, (g, p)) ∈ asmE ks e → ∃ g0, (t, (g0, p)) ∈ e ∧ ((strip ks g0 = some g) ∨ g = g0)
  | [], h => by simp [asmE] at h
  | (k, (q, p')) :: r, h => by
    simp only [asmE] at h
    rcases List.mem_cons.1 h with h | h
    · simp only [Prod.mk.injEq] at h
      obtain ⟨rfl, h1, rfl⟩ := h
      refine ⟨q, List.mem_cons_self, ?_⟩
      split at h1
      · rename_i g' hg
        exact .inl (by rw [hg, h1])
      · exact .inr h1
    · obtain ⟨g0, h1, h2⟩ := mem_asm ks h
      exact ⟨g0, List.mem_cons_of_mem _ h1, h2⟩
theorem asmS_priv (ks : List Key) (sl : Slot) : priv (asmS ks sl) = priv sl := by
  cases sl with
  | cnd k v =>
    simp only [asmS]
    split <;> rfl
  | _ => rfl
theorem asmS_box (ks : List Key) {sl : Slot} {cs : List Value} : sl = .box cs → asmS ks sl = .box cs := by
  rintro rfl
  rfl
theorem StR.asm (R : StR N B n μ β s a w) {ks : List Key} (hc : condL ks = true) : StR N B n μ β (s.asm ks) a w := by
  refine ⟨R.defers, R.size, ?_, ?_, ?_, R.heap, R.fr, R.ext, R.own, R.blk, ?_, ?_, ?_⟩
  · intro t ht
    simp only [St.asm, fget_asm]
    have hs := R.slot t ht
    generalize fget s.fr t = sl at hs
    cases sl with
    | cnd k v =>
      simp only [asmS]
      split
      · rename_i h
        have := strip_cond h hc
        simp only [SlotR] at hs ⊢
        rw [this] at hs
        simpa [condL] using hs
      · rename_i x r h
        have := strip_cond h hc
        simp only [SlotR] at hs ⊢
        rwa [this] at hs
      · exact hs
    | _ => exact hs
  · intro t ht
    simp only [St.asm, fget_asm, R.hi t ht]
    rfl
  · intro t g sl off hm
    obtain ⟨g0, h1, h2⟩ := mem_asm ks hm
    obtain ⟨k1, k2, cs, k3⟩ := R.eph t g0 sl off h1
    refine ⟨k1, ?_, cs, ?_⟩
    · rcases h2 with h2 | rfl
      · rwa [strip_cond h2 hc] at k2
      · exact k2
    · simp only [St.asm, fget_asm]
      exact asmS_box ks k3
  · intro t ht
    simp only [St.asm, fget_asm, asmS_priv] at ht
    exact R.bnew t ht
  · intro t t' ht ht'
    simp only [St.asm, fget_asm, asmS_priv] at ht ht'
    exact R.binj t t' ht ht'
  · intro t ht
    simp only [St.asm, fget_asm, asmS_priv] at ht
    exact R.bsep t ht
/-- a value goes into a slot -/
theorem StR.val (R : StR N B n μ β s a w) {d : Option Nat} {v v' : Value} (hd : ∀ x, d = some x → x < n) (hS : VR N.P μ v v') : ∃ β', StR N B n μ β' (s.putO d (.val v)) (a.put d v') w :=
  R.updO (h' := s.h) hd (Ext.refl _) R.heap R.fr R.own R.blk (Nat.le_refl _) (fun _ _ => rfl) R.bsep hS

/-! ### the heap's own -/
theorem cell_of_block {w w' : World} {b o : Nat} (h : w'.heap[b]? = w.heap[b]?) : w'.cell? ⟨b, o, none⟩ = w.cell? ⟨b, o, none⟩ := by simp [World.cell?, h]
theorem ObjR.mono {P : Program} {id ver : Nat} {cells : List Value} {own : Bool} {et : TypeId} {m : M} (h : ObjR P μ w id cells ver own et m) (hx : Ext μ μ') (hl : μ'[id]? = μ[id]?) (hw : w'.heap[m.block]? = w.heap[m.block]?)
    (hsz : w.heap.size ≤ w'.heap.size) : ObjR P μ' w' id cells ver own et m := by
  refine ⟨by rw [hl]; exact h.hist, h.ez, ?_, h.one, Nat.lt_of_lt_of_le h.blk hsz, ?_⟩
  · intro j v hj
    obtain ⟨v', h1, h2⟩ := h.cell j v hj
    exact ⟨v', (cell_of_block hw).trans h1, h2.mono hx⟩
  · intro ho
    obtain ⟨h1, cur, h2, h3⟩ := h.own ho
    exact ⟨h1, cur, hw.trans h2, h3⟩
/-- an object of the heap's, by its place -/
theorem HeapR.get {P : Program} {h : Heap} (H : HeapR P μ h w) {id ver : Nat} {cells : List Value} {own : Bool} {et : TypeId} {m : M} (ho : h[id]? = some (.arr cells ver own et)) (hm : mAt μ id ver = some m) :
    ObjR P μ w id cells ver own et m := by
  obtain ⟨m', h'⟩ := H.obj _ _ _ _ _ ho
  have := h'.at
  rw [hm] at this
  cases this
  exact h'
theorem HeapR.world {P : Program} {h : Heap} (H : HeapR P μ h w) (hsz : w.heap.size ≤ w'.heap.size) (hw : ∀ b, BlkB μ h b → w'.heap[b]? = w.heap[b]?) : HeapR P μ h w' := by
  refine ⟨H.len, ?_, H.sep⟩
  intro id cells ver own et ho
  obtain ⟨m, hm⟩ := H.obj _ _ _ _ _ ho
  exact ⟨m, hm.mono (Ext.refl _) rfl (hw _ ⟨id, cells, ver, own, et, m, ho, hm.at, rfl⟩) hsz⟩
theorem getElem?_push_old {α : Type} {l : List α} {x : α} {i : Nat} (h : i < l.length) : (l ++ [x])[i]? = l[i]? := List.getElem?_append_left h
/-- a new object of the call's own -/
theorem HeapR.new {P : Program} {h : Heap} (H : HeapR P μ h w) {cells : List Value} {cur : Array Value} {e : TypeId} {b : Nat} (hsz : w.heap.size ≤ w'.heap.size) (hb : w.heap.size ≤ b) (hbl : b < w'.heap.size)
    (hw : ∀ k, k < w.heap.size → w'.heap[k]? = w.heap[k]?) (hr : w'.heap[b]? = some (.cells cur e (0, 0))) (hc : ∀ (j : Nat) (v : Value), cells[j]? = some v → ∃ v', cur[j]? = some v' ∧ VR P μ v v') (h1 : cells.all one = true) :
    HeapR P (μ ++ [[⟨b, 0, cur.size, e⟩]]) (h ++ [.arr cells 0 true e]) w' := by
  have hlt : ∀ {id : Nat} {o : HObj}, h[id]? = some o → id < h.length := fun {id o} ho => by
    rcases Nat.lt_or_ge id h.length with h' | h'
    · exact h'
    · simp [List.getElem?_eq_none h'] at ho
  have hold : ∀ {id : Nat}, id < h.length → (μ ++ [[(⟨b, 0, cur.size, e⟩ : M)]])[id]? = μ[id]? := fun {id} hi => getElem?_push_old (by rw [H.len]; exact hi)
  have hcase : ∀ {id : Nat} {c : List Value} {v : Nat} {o : Bool} {t : TypeId}, (h ++ [HObj.arr cells 0 true e])[id]? = some (.arr c v o t) → (id < h.length ∧ h[id]? = some (.arr c v o t)) ∨ (id = h.length ∧ c = cells ∧ v = 0 ∧ o = true ∧ t = e) := by
    intro id c v o t ho
    rcases Nat.lt_trichotomy id h.length with hi | hi | hi
    · rw [getElem?_push_old hi] at ho
      exact .inl ⟨hi, ho⟩
    · subst hi
      simp at ho
      obtain ⟨rfl, rfl, rfl, rfl⟩ := ho
      exact .inr ⟨rfl, rfl, rfl, rfl, rfl⟩
    · rw [List.getElem?_eq_none (by simp; omega)] at ho
      cases ho
  have hnew : mAt (μ ++ [[(⟨b, 0, cur.size, e⟩ : M)]]) h.length 0 = some ⟨b, 0, cur.size, e⟩ := by rw [← H.len]; exact mAt_push_new _ _
  have hatold : ∀ {id v : Nat}, id < h.length → mAt (μ ++ [[(⟨b, 0, cur.size, e⟩ : M)]]) id v = mAt μ id v := fun {id v} hi => by unfold mAt; rw [hold hi]
  refine ⟨by simp [H.len], ?_, ?_⟩
  · intro id c v o t ho
    rcases hcase ho with ⟨hi, ho'⟩ | ⟨rfl, rfl, rfl, rfl, rfl⟩
    · obtain ⟨m, hm⟩ := H.obj _ _ _ _ _ ho'
      exact ⟨m, hm.mono (Ext.push _ _) (hold hi) (hw _ hm.blk) hsz⟩
    · refine ⟨⟨b, 0, cur.size, t⟩, ⟨[⟨b, 0, cur.size, t⟩], by rw [← H.len]; simp, rfl, rfl⟩, rfl, ?_, h1, hbl, fun _ => ⟨rfl, cur, hr, rfl⟩⟩
      intro j v hj
      obtain ⟨v', k1, k2⟩ := hc j v hj
      exact ⟨v', by simp [World.cell?, hr, k1], k2.mono (Ext.push _ _)⟩
  · intro id1 id2 c1 c2 v1 v2 o2 e1 e2 m1 m2 hne h1 h2 k1 k2
    rcases hcase h1 with ⟨hi, ho⟩ | ⟨rfl, rfl, rfl, _, rfl⟩ <;> rcases hcase h2 with ⟨hi', ho'⟩ | ⟨rfl, rfl, rfl, rfl, rfl⟩
    · rw [hatold hi] at k1
      rw [hatold hi'] at k2
      exact H.sep _ _ _ _ _ _ _ _ _ _ _ hne ho ho' k1 k2
    · rw [hatold hi] at k1
      rw [hnew] at k2
      cases k2
      have := (H.get ho k1).blk
      simp only
      omega
    · rw [hatold hi'] at k2
      rw [hnew] at k1
      cases k1
      have := (H.get ho' k2).blk
      simp only
      omega
    · exact absurd rfl hne
theorem own_new {h : Heap} {cells : List Value} {m : M} {e : TypeId} {b : Nat} (hlen : μ.length = h.length) (hb : OwnB (μ ++ [[m]]) (h ++ [.arr cells 0 true e]) b) : OwnB μ h b ∨ b = m.block := by
  obtain ⟨id, c, v, t, m', h1, h2, rfl⟩ := hb
  rcases Nat.lt_trichotomy id h.length with hi | hi | hi
  · rw [getElem?_push_old hi] at h1
    exact .inl ⟨id, c, v, t, m', h1, by unfold mAt at h2 ⊢; rwa [getElem?_push_old (by omega)] at h2, rfl⟩
  · subst hi
    simp at h1
    obtain ⟨_, rfl, _⟩ := h1
    rw [← hlen, mAt_push_new] at h2
    cases h2
    exact .inr rfl
  · rw [List.getElem?_eq_none (by simp; omega)] at h1
    cases h1
theorem blk_new {h : Heap} {cells : List Value} {m : M} {e : TypeId} {b : Nat} (hlen : μ.length = h.length) (hb : BlkB (μ ++ [[m]]) (h ++ [.arr cells 0 true e]) b) : BlkB μ h b ∨ b = m.block := by
  obtain ⟨id, c, v, o, t, m', h1, h2, rfl⟩ := hb
  rcases Nat.lt_trichotomy id h.length with hi | hi | hi
  · rw [getElem?_push_old hi] at h1
    exact .inl ⟨id, c, v, o, t, m', h1, by unfold mAt at h2 ⊢; rwa [getElem?_push_old (by omega)] at h2, rfl⟩
  · subst hi
    simp at h1
    obtain ⟨_, rfl, _⟩ := h1
    rw [← hlen, mAt_push_new] at h2
    cases h2
    exact .inr rfl
  · rw [List.getElem?_eq_none (by simp; omega)] at h1
    cases h1
end
end Go.Proofs.Ytnlchlnkibpkaaa.Am
