/- Plain facts: what is reached. -/
import Derived.Test.YtnlchlnkibpkaaaP1
namespace Go.Proofs.Ytnlchlnkibpkaaa
set_option linter.unusedSimpArgs false
set_option linter.unusedVariables false
open Go.RowKit Am Ty

inductive Reached (g : Gram) : Int → Prop
  | start : Reached g g.start
  | step (r : Rule) (s : KSym) : r ∈ g.rules → s ∈ r.rhs → 0 ≤ s.nt → Reached g r.lhs → Reached g s.nt
/-- all that a nonterminal leads to is marked -/
def Proc (g : Gram) (m : List Bool) (i : Int) : Prop := ∀ r ∈ g.rules, r.lhs = i → ∀ s ∈ r.rhs, 0 ≤ s.nt → bit m s.nt = true
def AllLe (m m' : List Bool) : Prop := ∀ i : Int, 0 ≤ i → bit m i = true → bit m' i = true
theorem AllLe.refl {m : List Bool} : AllLe m m := fun _ _ h => h
theorem AllLe.trans {a b c : List Bool} (h : AllLe a b) (k : AllLe b c) : AllLe a c := fun i h0 h1 => k i h0 (h i h0 h1)
theorem AllLe.set {m : List Bool} {i : Int} (h0 : 0 ≤ i) (h1 : i < m.length) : AllLe m (m.set i.toNat true) := fun j j0 hj => by
  rw [bit_set h0 h1 j0]
  split
  · rfl
  · exact hj
theorem Proc.mono {g : Gram} {m m' : List Bool} {i : Int} (h : Proc g m i) (hl : AllLe m m') : Proc g m' i := fun r hr e s hs h0 => hl _ h0 (h r hr e s hs h0)
/-- the marks while they are made; `at`: what is under way; `l`: what is to be done -/
structure RInv (g : Gram) (m : List Bool) (l : List Int) (now : Int → Prop) : Prop where
  n : (m.length : Int) = g.nts
  s : ∀ i : Int, 0 ≤ i → bit m i = true → Reached g i
  st : bit m g.start = true
  li : ∀ x ∈ l, 0 ≤ x ∧ x < g.nts ∧ bit m x = true
  p : ∀ i : Int, 0 ≤ i → bit m i = true → i ∈ l ∨ now i ∨ Proc g m i
theorem RInv.fin {g : Gram} {m : List Bool} (R : RightS g) (h : RInv g m [] fun _ => False) : Marks g.nts (Reached g) m := by
  refine ⟨h.n, fun i h0 h1 => ⟨h.s i h0, fun hr => ?_⟩⟩
  clear h0 h1
  induction hr with
  | start => exact h.st
  | step r s hr hs h0 _ ih =>
    rcases h.p r.lhs (R.r r hr).1 ih with h1 | h1 | h1
    · cases h1
    · exact h1.elim
    · exact h1 r hr rfl s hs h0
theorem RInv.mark {g : Gram} {m : List Bool} {l : List Int} {now : Int → Prop} {i : Int} (R : RightS g) (h : RInv g m l now) (h0 : 0 ≤ i) (h1 : i < g.nts) (hr : Reached g i) : RInv g (m.set i.toNat true) (l ++ [i]) now := by
  have hn := h.n
  have hle : AllLe m (m.set i.toNat true) := .set h0 (by omega)
  have hself : bit (m.set i.toNat true) i = true := by rw [bit_set h0 (by omega) h0, if_pos rfl]
  refine ⟨by simp [hn], fun j j0 hj => ?_, hle _ R.s1 h.st, fun x hx => ?_, fun j j0 hj => ?_⟩
  · rw [bit_set h0 (by omega) j0] at hj
    split at hj
    · rename_i e
      exact e ▸ hr
    · exact h.s j j0 hj
  · rw [List.mem_append] at hx
    rcases hx with hx | hx
    · have := h.li x hx
      exact ⟨this.1, this.2.1, hle _ this.1 this.2.2⟩
    · obtain rfl : x = _ := by simpa using hx
      exact ⟨h0, h1, hself⟩
  · rw [bit_set h0 (by omega) j0] at hj
    split at hj
    · rename_i e
      exact .inl (by simp [e])
    · rcases h.p j j0 hj with k | k | k
      · exact .inl (List.mem_append_left _ k)
      · exact .inr (.inl k)
      · exact .inr (.inr (k.mono hle))
theorem RInv.pop {g : Gram} {m : List Bool} {l : List Int} {x : Int} (h : RInv g m (l ++ [x]) fun _ => False) : RInv g m l fun i => i = x := by
  refine ⟨h.n, h.s, h.st, fun y hy => h.li y (List.mem_append_left _ hy), fun i h0 h1 => ?_⟩
  rcases h.p i h0 h1 with k | k | k
  · rw [List.mem_append] at k
    rcases k with k | k
    · exact .inl k
    · exact .inr (.inl (by simpa using k))
  · exact k.elim
  · exact .inr (.inr k)
theorem RInv.next {g : Gram} {m : List Bool} {l : List Int} {x : Int} (h : RInv g m l fun i => i = x) (hp : Proc g m x) : RInv g m l fun _ => False := by
  refine ⟨h.n, h.s, h.st, h.li, fun i h0 h1 => ?_⟩
  rcases h.p i h0 h1 with k | k | k
  · exact .inl k
  · exact .inr (.inr (k ▸ hp))
  · exact .inr (.inr k)
theorem RInv.start {g : Gram} {N : Nat} (R : RightS g) (hN : g.nts = N) : RInv g ((List.replicate N false).set g.start.toNat true) [g.start] fun _ => False := by
  have s1 := R.s1
  have s2 := R.s2
  have hb : ∀ i : Int, 0 ≤ i → (bit ((List.replicate N false).set g.start.toNat true) i = true ↔ i = g.start) := fun i h0 => by
    rw [bit_set s1 (by simp; omega) h0, bit_rep]
    constructor
    · intro h
      split at h
      · rename_i e
        exact e.symm
      · cases h
    · rintro rfl
      rw [if_pos rfl]
  refine ⟨by simp [hN], fun i h0 h1 => (hb i h0).1 h1 ▸ .start, (hb _ s1).2 rfl, fun x hx => ?_, fun i h0 h1 => ?_⟩
  · obtain rfl : x = _ := by simpa using hx
    exact ⟨s1, s2, (hb _ s1).2 rfl⟩
  · exact .inl (by simp [(hb i h0).1 h1])

/-! ### rounds in place -/
def ClosedR (g : Gram) (m : List Bool) : Prop := ∀ r ∈ g.rules, bit m r.lhs = true → ∀ s ∈ r.rhs, 0 ≤ s.nt → bit m s.nt = true
structure RRounds (g : Gram) (k : Nat) (m : List Bool) : Prop where
  n : (m.length : Int) = g.nts
  s : ∀ i : Int, 0 ≤ i → bit m i = true → Reached g i
  st : bit m g.start = true
  c : k + 1 ≤ m.count true ∨ ClosedR g m
/-- one round: what was marked ahead of it has its own marked behind it -/
structure RRound (g : Gram) (m : List Bool) (k : Nat) (m' : List Bool) : Prop where
  n : (m'.length : Int) = g.nts
  s : ∀ i : Int, 0 ≤ i → bit m' i = true → Reached g i
  le : AllLe m m'
  d : ∀ r ∈ g.rules.take k, bit m r.lhs = true → ∀ s ∈ r.rhs, 0 ≤ s.nt → bit m' s.nt = true
theorem RRounds.start {g : Gram} {N : Nat} (R : RightS g) (hN : g.nts = N) : RRounds g 0 ((List.replicate N false).set g.start.toNat true) := by
  have h := RInv.start R hN
  have s1 := R.s1
  refine ⟨h.n, h.s, h.st, .inl ?_⟩
  have h1 := h.st
  have hn := h.n
  have s2 := R.s2
  rw [bit_get s1 (by omega)] at h1
  exact List.count_pos_iff.2 (List.mem_iff_getElem.2 ⟨_, _, h1⟩)
theorem RRounds.step {g : Gram} {m m' : List Bool} {k : Nat} (R : RightS g) (h : RRounds g k m) (hr : RRound g m g.rules.length m') : RRounds g (k + 1) m' := by
  have hd := hr.d
  rw [List.take_length] at hd
  refine ⟨hr.n, hr.s, hr.le _ R.s1 h.st, ?_⟩
  have hl := h.n
  have hl' := hr.n
  have hle : ∀ (i : Nat) (h1 : i < m.length) (h2 : i < m'.length), m[i] = true → m'[i] = true := BLe.get (n := g.nts) (fun i h0 _ => hr.le i h0) hl hl'
  by_cases hc : ∃ i : Int, 0 ≤ i ∧ i < g.nts ∧ bit m i = false ∧ bit m' i = true
  · rcases h.c with h3 | h3
    · obtain ⟨i, h0, h1, h2, h4⟩ := hc
      have := cnt_lt (by omega) hle ⟨i.toNat, by omega, by omega, by rw [← bit_get h0 (by omega)]; exact h2, by rw [← bit_get h0 (by omega)]; exact h4⟩
      exact .inl (by omega)
    · -- what is closed stays: but something was added, which is reached: no
      obtain ⟨i, h0, h1, h2, h4⟩ := hc
      have hre := hr.s i h0 h4
      have : ∀ j, Reached g j → bit m j = true := fun j hj => by
        induction hj with
        | start => exact h.st
        | step r s hr hs h0 _ ih => exact h3 r hr ih s hs h0
      rw [this i hre] at h2
      cases h2
  · refine .inr fun r hr1 hb s hs h0 => ?_
    obtain ⟨l1, l2, _, hS⟩ := R.r r hr1
    have hs2 := hS s hs
    have hge : ∀ i : Int, 0 ≤ i → i < g.nts → bit m' i = true → bit m i = true := fun i h0 h1 hb => by
      cases h : bit m i with
      | true => rfl
      | false => exact (hc ⟨i, h0, h1, h, hb⟩).elim
    exact hd r hr1 (hge _ l1 l2 hb) s hs h0
theorem RRounds.fin {g : Gram} {m : List Bool} {k : Nat} (R : RightS g) (h : RRounds g k m) (hk : g.nts ≤ k + 1) : Marks g.nts (Reached g) m := by
  have hl := h.n
  refine ⟨h.n, fun i h0 h1 => ⟨h.s i h0, fun hr => ?_⟩⟩
  rcases h.c with hc | hc
  · have := cnt_full (m := m) (by omega)
    rw [bit_get h0 (by omega)]
    exact this _ (List.getElem_mem _)
  · clear h0 h1
    induction hr with
    | start => exact h.st
    | step r s hr hs h0 _ ih => exact hc r hr ih s hs h0
end Go.Proofs.Ytnlchlnkibpkaaa
