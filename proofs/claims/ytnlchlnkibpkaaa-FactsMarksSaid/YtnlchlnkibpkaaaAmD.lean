/- The abstract machine: a region whose operations go in any order, by a certificate. -/
import Derived.Test.YtnlchlnkibpkaaaAmC
namespace Go.Proofs.Ytnlchlnkibpkaaa.Am
set_option linter.unusedSimpArgs false
set_option linter.unusedVariables false
open Go.RowKit

def dstAt (ops : Array Oper) (j : Nat) : Option Nat := match ops[j]? with | some o => o.dst | none => none
def ancs (L : List (List Nat)) (i : Nat) : List Nat := (L[i]?).getD []
/-- what lies behind each operation, by the edges -/
def mkAnc (ops : Array Oper) : List (List Nat) :=
  ops.toList.foldl (fun L o => L ++ [(o.after.toList.foldl (fun acc e => if Region.binds .any e then (e.on :: ancs L e.on).foldl (fun acc j => if acc.contains j then acc else j :: acc) acc else acc) [])]) []
def ordB (ops : Array Oper) (L : List (List Nat)) (act : List Nat) : Bool :=
  ((List.range ops.size).all fun i => match ops[i]? with
    | some o => (o.after.toList.all fun e => !Region.binds .any e || decide (e.on < i)) && ((ancs L i).all fun j => o.after.toList.any fun e => Region.binds .any e && (decide (e.on = j) || (ancs L e.on).contains j))
    | none => true) &&
  ((List.range ops.size).all fun i => (List.range i).all fun j => match dstAt ops i, dstAt ops j with
    | some d, some d' => !decide (d = d')
    | _, _ => true) &&
  ((List.range act.length).all fun j => (List.range j).all fun i => (ancs L (act.getD j 0)).contains (act.getD i 0))
/-- may operation i go when k of the active ones are done? -/
def stageB (L : List (List Nat)) (act : List Nat) (i k : Nat) : Bool :=
  (List.range act.length).all fun j => (!(ancs L i).contains (act.getD j 0) || decide (j < k)) && (!(ancs L (act.getD j 0)).contains i || decide (k ≤ j)) && (!decide (act.getD j 0 = i) || decide (k = j))

section
variable {N : Env} {ops : Array Oper} {L : List (List Nat)} {act : List Nat} {s0 : St} {res : Nat → Res} {Hs : Nat → Heap}
structure Cert (ops : Array Oper) (L : List (List Nat)) (act : List Nat) : Prop where
  low : ∀ i o, ops[i]? = some o → ∀ e ∈ o.after, Region.binds .any e = true → e.on < i
  anc : ∀ i j, j ∈ ancs L i → i < ops.size → ∃ o, ops[i]? = some o ∧ ∃ e ∈ o.after, Region.binds .any e = true ∧ (e.on = j ∨ j ∈ ancs L e.on)
  dst : ∀ i j d, dstAt ops i = some d → dstAt ops j = some d → i = j
  act : ∀ i j, i < j → j < act.length → act.getD i 0 ∈ ancs L (act.getD j 0)
theorem dstAt_lt {j d : Nat} (h : dstAt ops j = some d) : j < ops.size := by
  unfold dstAt at h
  split at h
  · rename_i o ho
    exact (Array.getElem?_eq_some_iff.1 ho).1
  · cases h
theorem ordB_cert (h : ordB ops L act = true) : Cert ops L act := by
  unfold ordB at h
  simp only [Bool.and_eq_true, List.all_eq_true, List.mem_range] at h
  obtain ⟨⟨h1, h2⟩, h3⟩ := h
  have hd : ∀ i j d, j < i → dstAt ops i = some d → dstAt ops j = some d → False := fun i j d hij hi hj => by
    have := h2 i (dstAt_lt hi) j hij
    rw [hi, hj] at this
    simp at this
  refine ⟨fun i o ho e he hb => ?_, fun i j hj hi => ?_, fun i j d hi hj => ?_, fun i j hij hj => ?_⟩
  · have := h1 i (Array.getElem?_eq_some_iff.1 ho).1
    rw [ho] at this
    simp only [Bool.and_eq_true, List.all_eq_true] at this
    have := this.1 e (by simpa using he)
    simpa [hb] using this
  · have := h1 i hi
    rw [Array.getElem?_eq_getElem hi] at this ⊢
    simp only [Bool.and_eq_true, List.all_eq_true, List.any_eq_true, Bool.or_eq_true, decide_eq_true_eq, List.contains_iff_mem] at this
    obtain ⟨e, he, hb, hc⟩ := this.2 j hj
    exact ⟨_, rfl, e, by simpa using he, hb, hc⟩
  · rcases Nat.lt_trichotomy i j with h | h | h
    · exact (hd j i d h hj hi).elim
    · exact h
    · exact (hd i j d h hi hj).elim
  · exact List.contains_iff_mem.1 (h3 j hj i hij)

structure OInv (N : Env) (ops : Array Oper) (act : List Nat) (s0 : St) (res : Nat → Res) (Hs : Nat → Heap) (S : Array Bool) (t : St) : Prop where
  size : S.size = ops.size
  closed : ∀ j o, ops[j]? = some o → S.getD j false = true → ∀ e ∈ o.after, Region.binds .any e = true → S.getD e.on false = true
  pre : ∃ k, k ≤ act.length ∧ t.h = Hs k ∧ ∀ j, j < act.length → (S.getD (act.getD j 0) false = true ↔ j < k)
  out : ∀ x, (∀ j, dstAt ops j ≠ some x) → fget t.fr x = fget s0.fr x ∧ eget t.eph x = none
  gotS : ∀ j d v, dstAt ops j = some d → S.getD j false = true → res j = .sl v → fget t.fr d = v ∧ eget t.eph d = none
  gotE : ∀ j d sl off, dstAt ops j = some d → S.getD j false = true → res j = .ep sl off → eget t.eph d = some ([], (sl, off))
  tgt : ∀ q ∈ t.eph, ∀ j, dstAt ops j ≠ some q.2.2.1
theorem anc_in (C : Cert ops L act) {S : Array Bool} (hsz : S.size = ops.size) (hcl : ∀ j o, ops[j]? = some o → S.getD j false = true → ∀ e ∈ o.after, Region.binds .any e = true → S.getD e.on false = true) :
    ∀ (i j : Nat), i < ops.size → (∀ o, ops[i]? = some o → ∀ e ∈ o.after, Region.binds .any e = true → S.getD e.on false = true) → j ∈ ancs L i → S.getD j false = true := by
  intro i
  induction i using Nat.strongRecOn with
  | _ i ih =>
    intro j hi hr hj
    obtain ⟨o, ho, e, he, hb, h⟩ := C.anc i j hj hi
    have h1 := hr o ho e he hb
    rcases h with rfl | h
    · exact h1
    · have hlt := C.low i o ho e he hb
      exact ih e.on hlt j (by omega) (fun o' ho' e' he' hb' => hcl e.on o' ho' h1 e' he' hb') h
theorem eget_edrop_self : ∀ (e : Eph) (d : Nat), eget (edrop e d) d = none
  | [], d => rfl
  | (k, (g, (s, o))) :: r, d => by
    simp only [edrop]
    split
    · exact eget_edrop_self r d
    · split
      · exact eget_edrop_self r d
      · rename_i h _
        simp only [eget, if_neg h]
        exact eget_edrop_self r d
theorem eget_edrop : ∀ {e : Eph} {d x : Nat}, (∀ q ∈ e, q.2.2.1 ≠ d) → x ≠ d → eget (edrop e d) x = eget e x
  | [], d, x, _, _ => rfl
  | (k, (g, (s, o))) :: r, d, x, h, hx => by
    have hr := eget_edrop (e := r) (d := d) (x := x) (fun q hq => h q (List.mem_cons_of_mem _ hq)) hx
    have hs : s ≠ d := h (k, (g, (s, o))) List.mem_cons_self
    simp only [edrop]
    split
    · rename_i hk
      simp only [eget]
      rw [if_neg (by omega)]
      exact hr
    · try rw [if_neg hs]
      simp only [eget]
      split
      · rfl
      · exact hr
theorem edrop_sub {q : Nat × (List Key × (Nat × Nat))} {d : Nat} : ∀ {e : Eph}, q ∈ edrop e d → q ∈ e
  | [], h => h
  | (k, (g, (s, o))) :: r, h => by
    simp only [edrop] at h
    split at h
    · exact List.mem_cons_of_mem _ (edrop_sub h)
    · split at h
      · exact List.mem_cons_of_mem _ (edrop_sub h)
      · rcases List.mem_cons.1 h with h | h
        · exact h ▸ List.mem_cons_self
        · exact List.mem_cons_of_mem _ (edrop_sub h)
/-- what an operation may look at -/
structure View (ops : Array Oper) (L : List (List Nat)) (s0 : St) (res : Nat → Res) (i : Nat) (V : St) : Prop where
  f : ∀ x, fget V.fr x = .unk ∨ ((∀ j, dstAt ops j ≠ some x) ∧ fget s0.fr x = fget V.fr x) ∨ ∃ j, dstAt ops j = some x ∧ j ∈ ancs L i ∧ res j = .sl (fget V.fr x)
  e : ∀ x p, eget V.eph x = some p → ∃ j sl off, dstAt ops j = some x ∧ j ∈ ancs L i ∧ res j = .ep sl off ∧ p = ([], (sl, off))
  n : ∀ x, fget V.fr x ≠ .unk → eget V.eph x = none
theorem View.sub (C : Cert ops L act) {S : Array Bool} {t V : St} {i : Nat} (I : OInv N ops act s0 res Hs S t) (hi : i < ops.size) (hr : ∀ o, ops[i]? = some o → ∀ e ∈ o.after, Region.binds .any e = true → S.getD e.on false = true)
    (hV : View ops L s0 res i V) (hh : V.h = t.h) : SubS V t := by
  have hin : ∀ j, j ∈ ancs L i → S.getD j false = true := fun j hj => anc_in C I.size I.closed i j hi hr hj
  refine ⟨hh, fun x => ?_, fun x p hp => ?_, fun x hx => ?_⟩
  · rcases hV.f x with h | ⟨h, h2⟩ | ⟨j, h, h2, h3⟩
    · exact .inl h
    · exact .inr ((I.out x h).1.trans h2)
    · exact .inr (I.gotS j x _ h (hin j h2) h3).1
  · obtain ⟨j, sl, off, h, h2, h3, rfl⟩ := hV.e x p hp
    exact I.gotE j x sl off h (hin j h2) h3
  · rw [hV.n x hx]
    rcases hV.f x with h | ⟨h, h2⟩ | ⟨j, h, h2, h3⟩
    · exact (hx h).elim
    · exact (I.out x h).2
    · exact (I.gotS j x _ h (hin j h2) h3).2
theorem getD_set_ite {S : Array Bool} {i j : Nat} (hi : i < S.size) : ((S.setIfInBounds i true).getD j false = true) ↔ (j = i ∨ S.getD j false = true) := by
  by_cases h : i = j
  · subst h
    simp [hi]
  · rw [getD_set_ne false h]
    exact ⟨.inr, fun h' => h'.resolve_left fun e => h e.symm⟩
theorem OInv.step (C : Cert ops L act) (hT : ∀ j sl off, res j = .ep sl off → ∀ i, dstAt ops i ≠ some sl)
    (hstep : ∀ i o k, ops[i]? = some o → k ≤ act.length → stageB L act i k = true → ∃ V, View ops L s0 res i V ∧ V.h = Hs k ∧ One N ops o V (res i) (Hs (if i ∈ act then k + 1 else k)))
    {S : Array Bool} {t : St} {i : Nat} {o : Oper} (I : OInv N ops act s0 res Hs S t) (hi : i ∈ Region.ready .any ops S) (ho : ops[i]? = some o) :
    ∃ s', Ev N (.ops ops [o] t s') ∧ OInv N ops act s0 res Hs (S.setIfInBounds i true) s' := by
  obtain ⟨hun, oi, hoi, hall⟩ := mem_ready.1 hi
  obtain rfl : oi = o := Option.some.inj (hoi.symm.trans ho)
  have hlt : i < ops.size := (Array.getElem?_eq_some_iff.1 ho).1
  have hltS : i < S.size := by rw [I.size]; exact hlt
  have hnot : ¬ S.getD i false = true := by
    have h1 := getD_both hun
    rw [h1]
    simp
  have hr : ∀ o, ops[i]? = some o → ∀ e ∈ o.after, Region.binds .any e = true → S.getD e.on false = true := fun o' ho' e he hb => by
    obtain rfl : oi = o' := Option.some.inj (ho.symm.trans ho')
    exact hall e he hb
  have hin : ∀ j, j ∈ ancs L i → S.getD j false = true := fun j hj => anc_in C I.size I.closed i j hlt hr hj
  obtain ⟨k, hk, hh, hpre⟩ := I.pre
  have hst : stageB L act i k = true := by
    unfold stageB
    rw [List.all_eq_true]
    intro j hj
    rw [List.mem_range] at hj
    simp only [Bool.and_eq_true, Bool.or_eq_true, Bool.not_eq_true', decide_eq_true_eq, decide_eq_false_iff_not]
    refine ⟨⟨?_, ?_⟩, ?_⟩
    · by_cases h : act.getD j 0 ∈ ancs L i
      · exact .inr ((hpre j hj).1 (hin _ h))
      · exact .inl (by simpa using h)
    · by_cases h : i ∈ ancs L (act.getD j 0)
      · refine .inr (Nat.le_of_not_lt fun hjk => ?_)
        have h1 := (hpre j hj).2 hjk
        have hal : act.getD j 0 < ops.size := by
          rcases Nat.lt_or_ge (act.getD j 0) ops.size with h2 | h2
          · exact h2
          · have : S.size ≤ act.getD j 0 := by rw [I.size]; exact h2
            rw [Array.getD_eq_getD_getElem?, Array.getElem?_eq_none this] at h1
            cases h1
        exact hnot (anc_in C I.size I.closed _ i hal (fun o' ho' e he hb => I.closed _ o' ho' h1 e he hb) h)
      · exact .inl (by simpa using h)
    · by_cases h : act.getD j 0 = i
      · refine .inr (Nat.le_antisymm (Nat.le_of_not_lt fun hjk => ?_) (Nat.le_of_not_lt fun hkj => ?_))
        · exact hnot (h ▸ (hpre j hj).2 hjk)
        · have h1 := C.act k j hkj hj
          rw [h] at h1
          have := (hpre k (by omega)).1 (hin _ h1)
          omega
      · exact .inl h
  obtain ⟨V, hV, hVh, hone⟩ := hstep i oi k ho hk hst
  have hsub := hV.sub C I hlt hr (hVh.trans hh.symm)
  refine ⟨_, (hone.mono hsub).ev, ?_⟩
  have hset : ∀ j, ((S.setIfInBounds i true).getD j false = true) ↔ (j = i ∨ S.getD j false = true) := fun j => getD_set_ite hltS
  have hpre' : ∃ k', k' ≤ act.length ∧ Hs (if i ∈ act then k + 1 else k) = Hs k' ∧ ∀ j, j < act.length → ((S.setIfInBounds i true).getD (act.getD j 0) false = true ↔ j < k') := by
    have hst' : ∀ j, j < act.length → act.getD j 0 = i → k = j := fun j hj h => by
      unfold stageB at hst
      rw [List.all_eq_true] at hst
      have := hst j (List.mem_range.2 hj)
      simp only [Bool.and_eq_true, Bool.or_eq_true, Bool.not_eq_true', decide_eq_true_eq, decide_eq_false_iff_not] at this
      exact this.2.resolve_left fun hn => hn h
    by_cases hia : i ∈ act
    · rw [if_pos hia]
      obtain ⟨j0, hj0, hji⟩ := List.mem_iff_getElem.1 hia
      have hg : act.getD j0 0 = i := by simp [hj0, hji]
      have hk0 := hst' j0 hj0 hg
      refine ⟨k + 1, by omega, rfl, fun j hj => ?_⟩
      rw [hset]
      constructor
      · rintro (h | h)
        · have := hst' j hj h
          omega
        · have := (hpre j hj).1 h
          omega
      · intro h
        rcases Nat.lt_or_ge j k with h1 | h1
        · exact .inr ((hpre j hj).2 h1)
        · obtain rfl : j = j0 := by omega
          exact .inl hg
    · rw [if_neg hia]
      refine ⟨k, hk, rfl, fun j hj => ?_⟩
      rw [hset]
      constructor
      · rintro (h | h)
        · exact (hia (by rw [← h]; simp [hj])).elim
        · exact (hpre j hj).1 h
      · exact fun h => .inr ((hpre j hj).2 h)
  have hcl' : ∀ j o, ops[j]? = some o → (S.setIfInBounds i true).getD j false = true → ∀ e ∈ o.after, Region.binds .any e = true → (S.setIfInBounds i true).getD e.on false = true := fun j o hj hl e he hb => by
    rw [hset]
    rcases (hset j).1 hl with rfl | h
    · exact .inr (hr o hj e he hb)
    · exact .inr (I.closed j o hj h e he hb)
  cases hd : oi.dst with
  | none =>
    have hda : dstAt ops i = none := by simp [dstAt, ho, hd]
    have hne : ∀ j d, dstAt ops j = some d → j ≠ i := fun j d h e => by rw [e, hda] at h; cases h
    exact ⟨by simp [I.size], hcl', hpre', I.out, fun j d v hj hl => I.gotS j d v hj (((hset j).1 hl).resolve_left (hne j d hj)), fun j d sl off hj hl => I.gotE j d sl off hj (((hset j).1 hl).resolve_left (hne j d hj)), I.tgt⟩
  | some d =>
    have hda : dstAt ops i = some d := by simp [dstAt, ho, hd]
    have hdn : ∀ q ∈ t.eph, q.2.2.1 ≠ d := fun q hq e => I.tgt q hq i (by rw [e]; exact hda)
    have hdne : ∀ j d', j ≠ i → dstAt ops j = some d' → d' ≠ d := fun j d' hj h e => hj (C.dst j i d (e ▸ h) hda)
    cases hres : res i with
    | sl v =>
      refine ⟨by simp [I.size], hcl', hpre', fun x hx => ?_, fun j d' v' hj hl hv => ?_, fun j d' sl off hj hl hv => ?_, fun q hq => I.tgt q (edrop_sub hq)⟩
      · have hxd : x ≠ d := fun e => hx i (e ▸ hda)
        simp only [updR, fget_fput]
        rw [if_neg (fun e => hxd e.symm), eget_edrop hdn hxd]
        exact I.out x hx
      · simp only [updR, fget_fput]
        by_cases hji : j = i
        · subst hji
          obtain rfl : d = d' := Option.some.inj (hda.symm.trans hj)
          rw [if_pos rfl, eget_edrop_self]
          rw [hres] at hv
          cases hv
          exact ⟨rfl, rfl⟩
        · have := hdne j d' hji hj
          rw [if_neg (fun e => this e.symm), eget_edrop hdn this]
          exact I.gotS j d' v' hj (((hset j).1 hl).resolve_left hji) hv
      · by_cases hji : j = i
        · subst hji
          rw [hres] at hv
          cases hv
        · have := hdne j d' hji hj
          simp only [updR]
          rw [eget_edrop hdn this]
          exact I.gotE j d' sl off hj (((hset j).1 hl).resolve_left hji) hv
    | ep sl0 off0 =>
      refine ⟨by simp [I.size], hcl', hpre', fun x hx => ?_, fun j d' v' hj hl hv => ?_, fun j d' sl off hj hl hv => ?_, fun q hq => ?_⟩
      · have hxd : x ≠ d := fun e => hx i (e ▸ hda)
        simp only [updR, fget_fput, eget]
        rw [if_neg (fun e => hxd e.symm), if_neg (fun e => hxd e.symm), eget_edrop hdn hxd]
        exact I.out x hx
      · by_cases hji : j = i
        · subst hji
          rw [hres] at hv
          cases hv
        · have := hdne j d' hji hj
          simp only [updR, fget_fput, eget]
          rw [if_neg (fun e => this e.symm), if_neg (fun e => this e.symm), eget_edrop hdn this]
          exact I.gotS j d' v' hj (((hset j).1 hl).resolve_left hji) hv
      · by_cases hji : j = i
        · subst hji
          obtain rfl : d = d' := Option.some.inj (hda.symm.trans hj)
          simp only [updR, eget, if_true]
          rw [hres] at hv
          cases hv
          rfl
        · have := hdne j d' hji hj
          simp only [updR, eget]
          rw [if_neg (fun e => this e.symm), eget_edrop hdn this]
          exact I.gotE j d' sl off hj (((hset j).1 hl).resolve_left hji) hv
      · rcases List.mem_cons.1 hq with rfl | hq
        · exact fun j => hT i sl0 off0 hres j
        · exact I.tgt q (edrop_sub hq)
theorem ev_order {id : Nat} {s : St} {frF : Fr} (hm : N.P.follows .mixedOrders = true) (C : Cert ops L act) (hT : ∀ j sl off, res j = .ep sl off → ∀ i, dstAt ops i ≠ some sl)
    (hstep : ∀ i o k, ops[i]? = some o → k ≤ act.length → stageB L act i k = true → ∃ V, View ops L s res i V ∧ V.h = Hs k ∧ One N ops o V (res i) (Hs (if i ∈ act then k + 1 else k)))
    (hact : ∀ a ∈ act, a < ops.size) (h0 : s.h = Hs 0) (hF : ∀ p ∈ frF, ((∀ j, dstAt ops j ≠ some p.1) ∧ fget s.fr p.1 = p.2) ∨ ∃ j, dstAt ops j = some p.1 ∧ res j = .sl p.2) :
    Ev N (.code (.region id ops true) s .normal ⟨frF, [], Hs act.length⟩) := by
  classical
  refine .regionO (OInv N ops act s res Hs) (fun S t i => match ops[i]? with
    | some o => if h : ∃ s', Ev N (.ops ops [o] t s') ∧ OInv N ops act s res Hs (S.setIfInBounds i true) s' then h.choose else t
    | none => t) hm ?_ ?_ ?_ ?_ rfl
  · refine ⟨by simp, fun j o _ hl => ?_, ⟨0, Nat.zero_le _, h0, fun j _ => ?_⟩, fun x _ => ⟨rfl, rfl⟩, fun j d v _ hl => ?_, fun j d sl off _ hl => ?_, fun q hq => by cases hq⟩
    · rw [getD_replicate_false] at hl
      cases hl
    · rw [getD_replicate_false]
      simp
    · rw [getD_replicate_false] at hl
      cases hl
    · rw [getD_replicate_false] at hl
      cases hl
  · intro S t i o I hi ho
    simp only [ho]
    have h := I.step C hT hstep hi ho
    rw [dif_pos h]
    exact h.choose_spec.1
  · intro S t i o I hi ho
    simp only [ho]
    have h := I.step C hT hstep hi ho
    rw [dif_pos h]
    exact h.choose_spec.2
  · intro S t I hr
    have hall : ∀ i, i < ops.size → S.getD i false = true := by
      intro i
      induction i using Nat.strongRecOn with
      | _ i ih =>
        intro hi
        cases hb : S.getD i false with
        | true => rfl
        | false =>
          have : i ∈ Region.ready .any ops S := mem_ready.2 ⟨getD_in (by rw [I.size]; exact hi) hb, ops[i], Array.getElem?_eq_getElem hi, fun e he hbi => by
            have hlow := C.low i _ (Array.getElem?_eq_getElem hi) e he hbi
            exact ih e.on hlow (by omega)⟩
          rw [hr] at this
          cases this
    refine ⟨fun p hp => ?_, ?_⟩
    · rcases hF p hp with ⟨h1, h2⟩ | ⟨j, h1, h2⟩
      · exact (I.out p.1 h1).1.trans h2
      · exact (I.gotS j p.1 p.2 h1 (hall j (dstAt_lt h1)) h2).1
    · obtain ⟨k, hk, hh, hpre⟩ := I.pre
      have : k = act.length := by
        rcases Nat.lt_or_ge k act.length with h | h
        · have := (hpre k h).1 (hall _ (hact _ (by simp [h])))
          omega
        · omega
      rw [hh, this]
end
end Go.Proofs.Ytnlchlnkibpkaaa.Am
