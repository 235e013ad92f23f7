/- Plain facts: rounds of marks end in what is derived. -/
import Derived.Test.YtnlchlnkibpkaaaD2
namespace Go.Proofs.Ytnlchlnkibpkaaa
set_option linter.unusedSimpArgs false
set_option linter.unusedVariables false
open Go.RowKit Am Ty

theorem cnt_le : ∀ {m m' : List Bool}, m.length = m'.length → (∀ (i : Nat) (h1 : i < m.length) (h2 : i < m'.length), m[i] = true → m'[i] = true) → m.count true ≤ m'.count true
  | [], [], _, _ => Nat.le_refl _
  | a :: m, b :: m', hl, hh => by
    have ih := cnt_le (m := m) (m' := m') (by simpa using hl) fun i h1 h2 h => hh (i + 1) (by simpa using h1) (by simpa using h2) h
    have h0 := hh 0 (by simp) (by simp)
    simp only [List.getElem_cons_zero] at h0
    rw [List.count_cons, List.count_cons]
    cases a <;> cases b <;> simp_all <;> omega
theorem cnt_lt : ∀ {m m' : List Bool}, m.length = m'.length → (∀ (i : Nat) (h1 : i < m.length) (h2 : i < m'.length), m[i] = true → m'[i] = true) → (∃ (i : Nat) (h1 : i < m.length) (h2 : i < m'.length), m[i] = false ∧ m'[i] = true) → m.count true < m'.count true
  | [], [], _, _, ⟨i, h1, _⟩ => by simp at h1
  | a :: m, b :: m', hl, hh, ⟨i, h1, h2, h3, h4⟩ => by
    have hl' : m.length = m'.length := by simpa using hl
    have hh' : ∀ (i : Nat) (h1 : i < m.length) (h2 : i < m'.length), m[i] = true → m'[i] = true := fun i h1 h2 h => hh (i + 1) (by simpa using h1) (by simpa using h2) h
    have h0 := hh 0 (by simp) (by simp)
    simp only [List.getElem_cons_zero] at h0
    rw [List.count_cons, List.count_cons]
    cases i with
    | zero =>
      simp only [List.getElem_cons_zero] at h3 h4
      subst h3 h4
      have := cnt_le hl' hh'
      simp
      omega
    | succ i =>
      have ih := cnt_lt hl' hh' ⟨i, by simpa using h1, by simpa using h2, by simpa using h3, by simpa using h4⟩
      cases a <;> cases b <;> simp_all <;> omega
theorem cnt_full {m : List Bool} (h : m.length ≤ m.count true) : ∀ b ∈ m, b = true := by
  have : m.count true = m.length := Nat.le_antisymm List.count_le_length h
  rw [List.count_eq_length] at this
  exact fun b hb => (this b hb).symm
/-- pointwise, by bits -/
def BLe (n : Int) (m m' : List Bool) : Prop := ∀ i : Int, 0 ≤ i → i < n → bit m i = true → bit m' i = true
theorem BLe.get {n : Int} {m m' : List Bool} (h : BLe n m m') (h1 : (m.length : Int) = n) (h2 : (m'.length : Int) = n) : ∀ (i : Nat) (h1 : i < m.length) (h2 : i < m'.length), m[i] = true → m'[i] = true := by
  intro i k1 k2 k
  have := h i (by omega) (by omega)
  rw [bit_get (by omega) (by omega), bit_get (by omega) (by omega)] at this
  exact this k
def POK (T : KSym → Prop) (P : KSym → List Bool → Bool) : Prop := ∀ s m, P s m = true ↔ (s.nt < 0 → T s) ∧ (0 ≤ s.nt → bit m s.nt = true)
def Sat (P : KSym → List Bool → Bool) (m : List Bool) (r : Rule) : Prop := ∀ s ∈ r.rhs, P s m = true
def ClosedM (P : KSym → List Bool → Bool) (rules : List Rule) (m : List Bool) : Prop := ∀ r ∈ rules, Sat P m r → bit m r.lhs = true
/-- one round from `m` -/
def Round (P : KSym → List Bool → Bool) (g : Gram) (m m' : List Bool) : Prop := (m'.length : Int) = g.nts ∧ ∀ i : Int, 0 ≤ i → i < g.nts → (bit m' i = true ↔ ∃ r ∈ g.rules, r.lhs = i ∧ Sat P m r)
/-- behind k rounds -/
structure Rounds (T : KSym → Prop) (P : KSym → List Bool → Bool) (g : Gram) (k : Nat) (m : List Bool) : Prop where
  l : (m.length : Int) = g.nts
  s : ∀ i : Int, 0 ≤ i → i < g.nts → bit m i = true → Der T g.rules i
  u : ∀ i : Int, 0 ≤ i → i < g.nts → bit m i = true → ∃ r ∈ g.rules, r.lhs = i ∧ Sat P m r
  c : k ≤ m.count true ∨ ClosedM P g.rules m
section
variable {T : KSym → Prop} {P : KSym → List Bool → Bool} {g : Gram} {m m' : List Bool} {k : Nat}
theorem Sat.mono (hP : POK T P) (R : RightS g) {r : Rule} (hr : r ∈ g.rules) (hle : BLe g.nts m m') (h : Sat P m r) : Sat P m' r := by
  intro s hs
  have h1 := (hP s m).1 (h s hs)
  obtain ⟨_, _, _, hS⟩ := R.r r hr
  have h2 := hS s hs
  exact (hP s m').2 ⟨h1.1, fun h0 => hle _ h0 (by omega) (h1.2 h0)⟩
theorem Rounds.start (hn : (m.length : Int) = g.nts) (h : ∀ i, bit m i = false) : Rounds T P g 0 m :=
  ⟨hn, fun i _ _ hb => (by rw [h] at hb; cases hb), fun i _ _ hb => (by rw [h] at hb; cases hb), .inl (Nat.zero_le _)⟩
theorem Rounds.step (hP : POK T P) (R : RightS g) (h : Rounds T P g k m) (hr : Round P g m m') : Rounds T P g (k + 1) m' := by
  have hle : BLe g.nts m m' := fun i h0 h1 hb => (hr.2 i h0 h1).2 (h.u i h0 h1 hb)
  refine ⟨hr.1, fun i h0 h1 hb => ?_, fun i h0 h1 hb => ?_, ?_⟩
  · obtain ⟨r, hr1, rfl, hS⟩ := (hr.2 i h0 h1).1 hb
    obtain ⟨_, _, _, hS'⟩ := R.r r hr1
    exact .mk r hr1 (fun s hs => ((hP s m).1 (hS s hs)).1) (fun s hs k0 => h.s _ k0 (by have := hS' s hs; omega) (((hP s m).1 (hS s hs)).2 k0))
  · obtain ⟨r, hr1, rfl, hS⟩ := (hr.2 i h0 h1).1 hb
    exact ⟨r, hr1, rfl, hS.mono hP R hr1 hle⟩
  · by_cases hc : ClosedM P g.rules m
    · have hge : BLe g.nts m' m := fun i h0 h1 hb => by
        obtain ⟨r, hr1, rfl, hS⟩ := (hr.2 i h0 h1).1 hb
        exact hc r hr1 hS
      refine .inr fun r hr1 hS => ?_
      obtain ⟨l1, l2, _⟩ := R.r r hr1
      exact (hr.2 _ l1 l2).2 ⟨r, hr1, rfl, hS.mono hP R hr1 hge⟩
    · rcases h.c with h3 | h3
      · refine .inl ?_
        have : ∃ r, r ∈ g.rules ∧ Sat P m r ∧ bit m r.lhs = false := by
          refine Classical.byContradiction fun hn => hc fun r hr1 hS => ?_
          cases hb : bit m r.lhs with
          | true => rfl
          | false => exact (hn ⟨r, hr1, hS, hb⟩).elim
        obtain ⟨r, hr1, hS, hb⟩ := this
        obtain ⟨l1, l2, _⟩ := R.r r hr1
        have hb' : bit m' r.lhs = true := (hr.2 _ l1 l2).2 ⟨r, hr1, rfl, hS⟩
        have hl := h.l
        have hl' := hr.1
        have : m.count true < m'.count true := by
          refine cnt_lt (by omega) (hle.get hl hl') ⟨r.lhs.toNat, by omega, by omega, ?_, ?_⟩
          · rw [← bit_get l1 (by omega)]; exact hb
          · rw [← bit_get l1 (by omega)]; exact hb'
        omega
      · exact (hc h3).elim
theorem ClosedM.der (hP : POK T P) (hc : ClosedM P g.rules m) {i : Int} (hd : Der T g.rules i) : bit m i = true := by
  induction hd with
  | mk r hr hT hD ih => exact hc r hr fun s hs => (hP s m).2 ⟨hT s hs, fun h0 => ih s hs h0⟩
theorem Rounds.fin (hP : POK T P) (R : RightS g) (h : Rounds T P g k m) (hk : g.nts ≤ k) : Marks g.nts (Der T g.rules) m := by
  refine ⟨h.l, fun i h0 h1 => ⟨h.s i h0 h1, fun hd => ?_⟩⟩
  have hl := h.l
  rcases h.c with hc | hc
  · have := cnt_full (m := m) (by omega)
    rw [bit_get h0 (by omega)]
    exact this _ (List.getElem_mem _)
  · exact hc.der hP hd
end
end Go.Proofs.Ytnlchlnkibpkaaa
