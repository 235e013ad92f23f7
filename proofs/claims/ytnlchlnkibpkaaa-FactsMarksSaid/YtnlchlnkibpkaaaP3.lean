/- Plain facts: sets of bytes. -/
import Derived.Test.YtnlchlnkibpkaaaD2
namespace Go.Proofs.Ytnlchlnkibpkaaa
set_option linter.unusedSimpArgs false
set_option linter.unusedVariables false
open Go.RowKit Am Ty

def WWf (w : Int) : Prop := 0 ≤ w ∧ w < 18446744073709551616
def wbit (w : Int) (j : Nat) : Bool := w.toNat.testBit j
def BSet.word (s : BSet) : Nat → Int
  | 0 => s.a
  | 1 => s.b
  | 2 => s.c
  | _ => s.d
def BSet.has (s : BSet) (n : Nat) : Bool := wbit (s.word (n / 64)) (n % 64)
structure SetWf (s : BSet) : Prop where
  a : WWf s.a
  b : WWf s.b
  c : WWf s.c
  d : WWf s.d
theorem SetWf.word {s : BSet} (h : SetWf s) (i : Nat) : WWf (s.word i) := by
  match i with
  | 0 => exact h.a
  | 1 => exact h.b
  | 2 => exact h.c
  | n + 3 => exact h.d
theorem word_ext {v w : Int} (hv : WWf v) (hw : WWf w) (h : ∀ j, j < 64 → wbit v j = wbit w j) : v = w := by
  have : v.toNat = w.toNat := by
    refine Nat.eq_of_testBit_eq fun j => ?_
    by_cases hj : j < 64
    · exact h j hj
    · have e : ∀ u : Int, WWf u → u.toNat.testBit j = false := fun u hu => by
        refine Nat.testBit_lt_two_pow (Nat.lt_of_lt_of_le (m := 2 ^ 64) (by have := hu.1; have := hu.2; omega) (Nat.pow_le_pow_right (by decide) (by omega)))
      rw [e v hv, e w hw]
  have := hv.1
  have := hw.1
  omega
theorem BSet.ext {s t : BSet} (hs : SetWf s) (ht : SetWf t) (h : ∀ n, n < 256 → s.has n = t.has n) : s = t := by
  have key : ∀ i, i < 4 → s.word i = t.word i := fun i hi => word_ext (hs.word i) (ht.word i) fun j hj => by
    have := h (i * 64 + j) (by omega)
    unfold BSet.has at this
    rwa [show (i * 64 + j) / 64 = i by omega, show (i * 64 + j) % 64 = j by omega] at this
  have h0 := key 0 (by decide)
  have h1 := key 1 (by decide)
  have h2 := key 2 (by decide)
  have h3 := key 3 (by decide)
  cases s; cases t
  simp only [BSet.word] at h0 h1 h2 h3
  simp only [h0, h1, h2, h3]
def wor (v w : Int) : Int := ((v.toNat ||| w.toNat : Nat) : Int)
theorem wor_wf {v w : Int} (hv : WWf v) (hw : WWf w) : WWf (wor v w) := by
  have : v.toNat ||| w.toNat < 2 ^ 64 := Nat.or_lt_two_pow (by have := hv.1; have := hv.2; omega) (by have := hw.1; have := hw.2; omega)
  exact ⟨Int.natCast_nonneg _, by unfold wor; omega⟩
theorem wor_bit {v w : Int} {j : Nat} : wbit (wor v w) j = (wbit v j || wbit w j) := by
  unfold wbit wor
  rw [Int.toNat_natCast, Nat.testBit_or]
theorem wrap_u64 {x : Int} (h : WWf x) : IntKind.u64.wrap x = x := by
  have h1 := h.1
  have h2 := h.2
  unfold IntKind.wrap
  simp only [IntKind.bits, IntKind.signed, Bool.false_and, Bool.false_eq_true, if_false]
  omega
theorem wor_op {v w : Int} (hv : WWf v) (hw : WWf w) : IntKind.u64.wrap ((BitVec.ofInt 64 v ||| BitVec.ofInt 64 w).toNat) = wor v w := by
  have e : ∀ u : Int, WWf u → (BitVec.ofInt 64 u).toNat = u.toNat := fun u hu => by
    rw [BitVec.toNat_ofInt]
    have := hu.1
    have := hu.2
    congr 1
    exact Int.emod_eq_of_lt hu.1 (by simpa using hu.2)
  rw [BitVec.toNat_or, e v hv, e w hw]
  exact wrap_u64 (wor_wf hv hw)
def BSet.union (s t : BSet) : BSet := ⟨wor s.a t.a, wor s.b t.b, wor s.c t.c, wor s.d t.d⟩
theorem union_wf {s t : BSet} (hs : SetWf s) (ht : SetWf t) : SetWf (s.union t) := ⟨wor_wf hs.a ht.a, wor_wf hs.b ht.b, wor_wf hs.c ht.c, wor_wf hs.d ht.d⟩
theorem union_has {s t : BSet} {n : Nat} : (s.union t).has n = (s.has n || t.has n) := by
  unfold BSet.has
  have : (s.union t).word (n / 64) = wor (s.word (n / 64)) (t.word (n / 64)) := by
    match n / 64 with
    | 0 => rfl
    | 1 => rfl
    | 2 => rfl
    | k + 3 => rfl
  rw [this, wor_bit]
theorem zero_wf : SetWf BSet.zero := ⟨⟨by decide, by decide⟩, ⟨by decide, by decide⟩, ⟨by decide, by decide⟩, ⟨by decide, by decide⟩⟩
theorem zero_has {n : Nat} : BSet.zero.has n = false := by
  unfold BSet.has wbit
  have : BSet.zero.word (n / 64) = 0 := by
    match n / 64 with
    | 0 => rfl
    | 1 => rfl
    | 2 => rfl
    | k + 3 => rfl
  rw [this]
  simp
theorem zero_of {s : BSet} (hs : SetWf s) (h : ∀ n, n < 256 → s.has n = false) : s = BSet.zero := BSet.ext hs zero_wf fun n hn => by rw [h n hn, zero_has]
theorem has_of_ne {s : BSet} (hs : SetWf s) (h : s ≠ BSet.zero) : ∃ n, n < 256 ∧ s.has n = true := by
  refine Classical.byContradiction fun c => h (zero_of hs fun n hn => ?_)
  cases hb : s.has n with
  | false => rfl
  | true => exact (c ⟨n, hn, hb⟩).elim
theorem wbit_div {w : Int} (hw : WWf w) {j : Nat} : wbit w j = decide (w / 2 ^ j % 2 = 1) := by
  have h0 := hw.1
  obtain ⟨x, rfl⟩ : ∃ x : Nat, w = x := ⟨w.toNat, by omega⟩
  unfold wbit
  rw [Int.toNat_natCast, Nat.testBit_eq_decide_div_mod_eq]
  have : (x : Int) / 2 ^ j % 2 = ((x / 2 ^ j % 2 : Nat) : Int) := by simp
  rw [this]
  by_cases h : x / 2 ^ j % 2 = 1
  · rw [decide_eq_true h, decide_eq_true (by omega)]
  · rw [decide_eq_false h, decide_eq_false (by omega)]
/-- a word with a bit more -/
theorem wadd {w : Int} (hw : WWf w) {j : Nat} (hj : j < 64) (hb : wbit w j = false) : WWf (w + 2 ^ j) ∧ ∀ i, wbit (w + 2 ^ j) i = (wbit w i || decide (i = j)) := by
  have h0 := hw.1
  have h1 := hw.2
  obtain ⟨x, rfl⟩ : ∃ x : Nat, w = x := ⟨w.toNat, by omega⟩
  unfold wbit at hb ⊢
  simp only [Int.toNat_natCast] at hb ⊢
  have hx : x < 2 ^ 64 := by omega
  have hp : 2 ^ j < 2 ^ 64 := Nat.pow_lt_pow_right (by decide) hj
  have ht : ∀ i, (2 ^ j).testBit i = decide (i = j) := fun i => by rw [Nat.testBit_two_pow]; simp [eq_comm]
  have hand : BitVec.ofNat 64 x &&& BitVec.ofNat 64 (2 ^ j) = 0#64 := by
    apply BitVec.eq_of_toNat_eq
    rw [BitVec.toNat_and, BitVec.toNat_ofNat, BitVec.toNat_ofNat, Nat.mod_eq_of_lt hx, Nat.mod_eq_of_lt hp]
    refine Nat.eq_of_testBit_eq fun i => ?_
    rw [Nat.testBit_and, ht]
    by_cases e : i = j
    · subst e
      simp [hb]
    · simp [e]
  have hadd := congrArg BitVec.toNat (BitVec.add_eq_or_of_and_eq_zero _ _ hand)
  rw [BitVec.toNat_add, BitVec.toNat_or, BitVec.toNat_ofNat, BitVec.toNat_ofNat, Nat.mod_eq_of_lt hx, Nat.mod_eq_of_lt hp] at hadd
  have hor : x ||| 2 ^ j < 2 ^ 64 := Nat.or_lt_two_pow hx hp
  have hlt : x + 2 ^ j < 2 ^ 64 := by
    refine Classical.byContradiction fun c => ?_
    have hm : (x + 2 ^ j) % 2 ^ 64 = x + 2 ^ j - 2 ^ 64 := by
      rw [Nat.mod_eq_sub_mod (by omega), Nat.mod_eq_of_lt (by omega)]
    rw [hm] at hadd
    have : x ≤ x ||| 2 ^ j := Nat.left_le_or
    omega
  rw [Nat.mod_eq_of_lt hlt] at hadd
  have e2 : ((x : Int) + 2 ^ j).toNat = x + 2 ^ j := by
    have : ((2 : Int) ^ j) = ((2 ^ j : Nat) : Int) := by simp
    rw [this]
    omega
  refine ⟨⟨?_, ?_⟩, fun i => ?_⟩
  · have : (0 : Int) ≤ 2 ^ j := Int.pow_nonneg (by decide)
    omega
  · have : ((2 : Int) ^ j) = ((2 ^ j : Nat) : Int) := by simp
    rw [this]
    omega
  · rw [e2, hadd, Nat.testBit_or, ht]
end Go.Proofs.Ytnlchlnkibpkaaa
