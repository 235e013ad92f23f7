/- Plain facts: first bytes. -/
import Derived.Test.YtnlchlnkibpkaaaP2
import Derived.Test.YtnlchlnkibpkaaaP3
namespace Go.Proofs.Ytnlchlnkibpkaaa
set_option linter.unusedSimpArgs false
set_option linter.unusedVariables false
open Go.RowKit Am Ty

def NullS (D : Int → Prop) (s : KSym) : Prop := 0 ≤ s.nt ∧ D s.nt
inductive Fst (rules : List Rule) (D : Int → Prop) (b : Nat) : Int → Prop
  | mk (r : Rule) (k : Nat) (hk : k < r.rhs.length) : r ∈ rules → (∀ s ∈ r.rhs.take k, NullS D s) → (r.rhs[k].nt < 0 → r.rhs[k].set.has b = true) → (0 ≤ r.rhs[k].nt → Fst rules D b r.rhs[k].nt) → Fst rules D b r.lhs
def sget (l : List BSet) (i : Int) : BSet := l.getD i.toNat BSet.zero
theorem sget_get {l : List BSet} {i : Int} (h0 : 0 ≤ i) (h1 : i < l.length) : sget l i = l[i.toNat]'(by omega) := by
  unfold sget
  rw [List.getD_eq_getElem?_getD, List.getElem?_eq_getElem (by omega : i.toNat < l.length)]
  rfl
theorem sget_set {l : List BSet} {i j : Int} {b : BSet} (h0 : 0 ≤ i) (h1 : i < l.length) (j0 : 0 ≤ j) : sget (l.set i.toNat b) j = if i = j then b else sget l j := by
  unfold sget
  simp only [List.getD_eq_getElem?_getD, List.getElem?_set]
  by_cases h : i = j
  · subst h
    rw [if_pos rfl, if_pos rfl, if_pos (by omega)]
    rfl
  · rw [if_neg (by omega), if_neg h]
theorem sget_rep {n : Nat} {i : Int} : sget (List.replicate n BSet.zero) i = BSet.zero := by
  unfold sget
  rw [List.getD_eq_getElem?_getD, List.getElem?_replicate]
  split <;> rfl
theorem sget_cells {l : List BSet} {i : Int} (h0 : 0 ≤ i) (h1 : i < l.length) : rdH (l.flatMap BSet.cells) (i.toNat * 4) 4 = some [u64 (sget l i).a, u64 (sget l i).b, u64 (sget l i).c, u64 (sget l i).d] := by
  rw [sget_get h0 h1]
  exact sets_get (by omega)
def SLe (s t : BSet) : Prop := ∀ b, b < 256 → s.has b = true → t.has b = true
theorem SLe.refl {s : BSet} : SLe s s := fun _ _ h => h
theorem SLe.trans {a b c : BSet} (h : SLe a b) (k : SLe b c) : SLe a c := fun i h0 h1 => k i h0 (h i h0 h1)
theorem SLe.left {s t : BSet} : SLe s (s.union t) := fun b _ h => by rw [union_has, h]; rfl
theorem SLe.right {s t : BSet} : SLe t (s.union t) := fun b _ h => by rw [union_has, h, Bool.or_true]
/-- what a symbol gives, by what is known -/
def symSet (out : List BSet) (s : KSym) : BSet := if s.nt < 0 then s.set else sget out s.nt
structure FInv (g : Gram) (D : Int → Prop) (out : List BSet) : Prop where
  n : (out.length : Int) = g.nts
  wf : ∀ i : Int, 0 ≤ i → i < g.nts → SetWf (sget out i)
  s : ∀ i : Int, 0 ≤ i → i < g.nts → ∀ b, b < 256 → (sget out i).has b = true → Fst g.rules D b i
/-- all that a rule gives is there -/
def FClosed (D : Int → Prop) (out : List BSet) (r : Rule) (s : BSet) : Prop := ∀ (k : Nat) (hk : k < r.rhs.length), (∀ x ∈ r.rhs.take k, NullS D x) → SLe (symSet out r.rhs[k]) s
def Firsts (g : Gram) (D : Int → Prop) (out : List BSet) : Prop := (out.length : Int) = g.nts ∧ ∀ i : Int, 0 ≤ i → i < g.nts → SetWf (sget out i) ∧ ∀ b, b < 256 → ((sget out i).has b = true ↔ Fst g.rules D b i)
theorem FInv.fin {g : Gram} {D : Int → Prop} {out : List BSet} (R : RightS g) (h : FInv g D out) (hc : ∀ r ∈ g.rules, FClosed D out r (sget out r.lhs)) : Firsts g D out := by
  refine ⟨h.n, fun i h0 h1 => ⟨h.wf i h0 h1, fun b hb => ⟨h.s i h0 h1 b hb, fun hf => ?_⟩⟩⟩
  clear h0 h1
  induction hf with
  | mk r k hk hr hp hs hn ih =>
    refine hc r hr k hk hp b hb ?_
    unfold symSet
    split
    · rename_i h0
      exact hs h0
    · rename_i h0
      exact ih (by omega)
theorem Firsts.eq {g : Gram} {D : Int → Prop} {a b : List BSet} (ha : Firsts g D a) (hb : Firsts g D b) : a = b := by
  have hl : a.length = b.length := by have := ha.1; have := hb.1; omega
  refine List.ext_getElem hl fun i h1 h2 => ?_
  have hn := ha.1
  have a1 := ha.2 i (by omega) (by omega)
  have a2 := hb.2 i (by omega) (by omega)
  rw [sget_get (by omega) (by omega)] at a1 a2
  simp only [Int.toNat_natCast] at a1 a2
  refine BSet.ext a1.1 a2.1 fun n hn => ?_
  have := (a1.2 n hn).trans (a2.2 n hn).symm
  cases h3 : a[i].has n <;> cases h4 : b[i].has n <;> simp_all
/-- how much may still come -/
def card (s : BSet) : Nat := ((List.range 256).filter fun b => !s.has b).length
theorem card_le {s t : BSet} (h : SLe s t) : card t ≤ card s := by
  unfold card
  refine List.Sublist.length_le ?_
  have : ((List.range 256).filter fun b => !t.has b) = ((List.range 256).filter fun b => !s.has b).filter fun b => !t.has b := by
    rw [List.filter_filter]
    refine List.filter_congr fun b hb => ?_
    have := h b (List.mem_range.1 hb)
    cases h1 : s.has b <;> cases h2 : t.has b <;> simp_all
  rw [this]
  exact List.filter_sublist
theorem card_lt {s t : BSet} (hs : SetWf s) (ht : SetWf t) (h : SLe s t) (hne : t ≠ s) : card t < card s := by
  have : ∃ b, b < 256 ∧ s.has b = false ∧ t.has b = true := by
    refine Classical.byContradiction fun c => hne (BSet.ext ht hs fun b hb => ?_)
    have := h b hb
    cases h1 : s.has b <;> cases h2 : t.has b
    · rfl
    · exact (c ⟨b, hb, h1, h2⟩).elim
    · simp_all
    · rfl
  obtain ⟨b, hb, h1, h2⟩ := this
  have hle := card_le h
  refine Nat.lt_of_le_of_ne hle fun e => ?_
  unfold card at e
  have e2 : ((List.range 256).filter fun b => !t.has b) = ((List.range 256).filter fun b => !s.has b).filter fun b => !t.has b := by
    rw [List.filter_filter]
    refine List.filter_congr fun b hb => ?_
    have := h b (List.mem_range.1 hb)
    cases h1 : s.has b <;> cases h2 : t.has b <;> simp_all
  rw [e2] at e
  have := List.length_filter_eq_length_iff.1 e b (by simp [hb, h1])
  simp [h2] at this
def room (l : List BSet) : Nat := (l.map card).sum
theorem room_set : ∀ {l : List BSet} {i : Nat} {s : BSet} (hi : i < l.length), card s < card l[i] → room (l.set i s) < room l
  | x :: l, 0, s, _, h => by
    simp only [List.getElem_cons_zero] at h
    simp only [room, List.set_cons_zero, List.map_cons, List.sum_cons]
    omega
  | x :: l, i + 1, s, hi, h => by
    have ih := room_set (l := l) (i := i) (s := s) (by simpa using hi) (by simpa using h)
    simp only [room, List.set_cons_succ, List.map_cons, List.sum_cons] at ih ⊢
    omega
/-- what is told of a prefix of a rule's symbols -/
structure FPre (g : Gram) (D : Int → Prop) (out : List BSet) (r : Rule) (j : Nat) (s : BSet) : Prop where
  wf : SetWf s
  le : SLe (sget out r.lhs) s
  so : ∀ b, b < 256 → s.has b = true → Fst g.rules D b r.lhs
  c : ∀ (k : Nat) (hk : k < r.rhs.length), k < j → (∀ x ∈ r.rhs.take k, NullS D x) → SLe (symSet out r.rhs[k]) s
theorem FPre.start {g : Gram} {D : Int → Prop} {out : List BSet} {r : Rule} (R : RightS g) (h : FInv g D out) (hr : r ∈ g.rules) : FPre g D out r 0 (sget out r.lhs) := by
  obtain ⟨l1, l2, _⟩ := R.r r hr
  exact ⟨h.wf _ l1 l2, .refl, h.s _ l1 l2, fun k _ hk => by omega⟩
/-- one symbol more, of a grammar whose sets are right -/
theorem FPre.step {g : Gram} {D : Int → Prop} {out : List BSet} {r : Rule} {j : Nat} {s : BSet} (R : RightS g) (hW : ∀ r ∈ g.rules, ∀ s ∈ r.rhs, SetWf s.set) (h : FInv g D out) (hr : r ∈ g.rules) (hp : FPre g D out r j s) (hj : j < r.rhs.length) (hn : ∀ x ∈ r.rhs.take j, NullS D x) :
    FPre g D out r (j + 1) (s.union (symSet out r.rhs[j])) := by
  obtain ⟨l1, l2, l3, hS⟩ := R.r r hr
  have hs := hS _ (List.getElem_mem hj)
  have hw : SetWf (symSet out r.rhs[j]) := by
    unfold symSet
    split
    · exact hW r hr _ (List.getElem_mem hj)
    · exact h.wf _ (by omega) (by omega)
  refine ⟨union_wf hp.wf hw, hp.le.trans .left, fun b hb hh => ?_, fun k hk hkj hx => ?_⟩
  · rw [union_has, Bool.or_eq_true] at hh
    rcases hh with hh | hh
    · exact hp.so b hb hh
    · refine .mk r j hj hr hn (fun h0 => ?_) fun h0 => ?_
      · unfold symSet at hh
        rwa [if_pos h0] at hh
      · unfold symSet at hh
        rw [if_neg (by omega)] at hh
        exact h.s _ h0 hs.2.1 b hb hh
  · rcases Nat.lt_or_ge k j with h1 | h1
    · exact (hp.c k hk h1 hx).trans .left
    · obtain rfl : k = j := by omega
      exact .right
/-- behind a symbol that is not nullable nothing more is given -/
theorem FPre.stop {g : Gram} {D : Int → Prop} {out : List BSet} {r : Rule} {j : Nat} {s : BSet} (hp : FPre g D out r (j + 1) s) (hj : j < r.rhs.length) (hn : ¬ NullS D r.rhs[j]) : FClosed D out r s := by
  intro k hk hx
  rcases Nat.lt_or_ge k (j + 1) with h1 | h1
  · exact hp.c k hk h1 hx
  · refine (hn (hx _ ?_)).elim
    rw [List.mem_take_iff_getElem]
    exact ⟨j, by omega, rfl⟩
theorem FPre.all {g : Gram} {D : Int → Prop} {out : List BSet} {r : Rule} {s : BSet} (hp : FPre g D out r r.rhs.length s) : FClosed D out r s := fun k hk hx => hp.c k hk hk hx
end Go.Proofs.Ytnlchlnkibpkaaa
