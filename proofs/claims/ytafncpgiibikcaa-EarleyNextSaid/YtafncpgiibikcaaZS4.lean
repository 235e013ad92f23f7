/- Several texts, one behind the other; each begins with a remark of its own. -/
import Derived.Test.YtafncpgiibikcaaZE3
import Derived.Test.YtafncpgiibikcaaZG5
import Derived.Test.YtafncpgiibikcaaZFa
import Derived.Test.YtafncpgiibikcaaZG1
/- The reference's Fit, Accepts, Spans; equal lists of runs; which work is too much. -/
namespace Go.Proofs.Ytafncpgiibikcaa
set_option linter.unusedSimpArgs false
set_option linter.unusedVariables false
set_option maxRecDepth 20000
open Go.RowKit Am Ty

theorem rfit_fw {h : Heap} {g : Gram} {v wv : Value} {w : List Nat} (hr : RdGram h v g) (hw : RdB h wv w) : FW env 30 [v, wv] h fun r h' => r = i64 (fitE g w) ∧ h' = h := by
  obtain ⟨u, rfl, hu⟩ := id hr
  obtain ⟨p, c, rfl⟩ := hu.form
  obtain ⟨pw, cw, rfl⟩ := hw.form
  refine fw_enter (fn := Try.f30) Try.func30 rfl (by kernel_rfl) (by simp [Try.ntmps30]) ?_; simp only [push_cast]
  repeat (first | refine cw_seq ?_ | refine cw_region ?_ | refine ow_nil ?_ | ((first | apply ow_cons | apply qw_cons); · simp only [push_cast, env, Nat.reduceEqDiff, reduceIte, Nat.reduceAdd, Nat.reduceMul, Nat.reduceLeDiff, reduceCtorEq, Nat.reduceSub, Int.reduceToNat] <;> exact rfl) | ((first | apply ow_spec | apply qw_spec); · simp only [push_cast, env, Nat.reduceEqDiff, reduceIte, Nat.reduceAdd, Nat.reduceMul, Nat.reduceLeDiff, reduceCtorEq, Nat.reduceSub, Int.reduceToNat] <;> exact rfl) | refine qw_nil ?_ | refine cw_block ?_ | refine cw_scope ?_ | refine cw_label ?_ | refine cw_skip ?_)
  refine ow_call (fn := Try.f49) (by simp only [push_cast, env, Nat.reduceEqDiff, reduceIte, Nat.reduceAdd, Nat.reduceMul, Nat.reduceLeDiff, reduceCtorEq, Nat.reduceSub, Int.reduceToNat] <;> exact rfl) rfl (by simp only [push_cast, env, Nat.reduceEqDiff, reduceIte, Nat.reduceAdd, Nat.reduceMul, Nat.reduceLeDiff, reduceCtorEq, Nat.reduceSub, Int.reduceToNat] <;> exact rfl) (by simp only [push_cast, env, Nat.reduceEqDiff, reduceIte, Nat.reduceAdd, Nat.reduceMul, Nat.reduceLeDiff, reduceCtorEq, Nat.reduceSub, Int.reduceToNat] <;> exact rfl) Try.func49 (by kernel_rfl) (by kernel_rfl) ?_
  rw [List.append_nil]
  refine (refright_fw hr).mono ?_
  rintro _ h ⟨rfl, rfl⟩
  unfold fitE
  by_cases hb : badG g
  · have e0 : rightG g = 3 := if_pos hb
    rw [e0, if_pos hb]
    repeat (first | refine cw_seq ?_ | refine cw_region ?_ | refine ow_nil ?_ | ((first | apply ow_cons | apply qw_cons); · simp only [push_cast, env, Nat.reduceEqDiff, reduceIte, Nat.reduceAdd, Nat.reduceMul, Nat.reduceLeDiff, reduceCtorEq, Nat.reduceSub, Int.reduceToNat] <;> exact rfl) | ((first | apply ow_spec | apply qw_spec); · simp only [push_cast, env, Nat.reduceEqDiff, reduceIte, Nat.reduceAdd, Nat.reduceMul, Nat.reduceLeDiff, reduceCtorEq, Nat.reduceSub, Int.reduceToNat] <;> exact rfl) | refine qw_nil ?_ | refine cw_block ?_ | refine cw_scope ?_ | refine cw_label ?_ | refine cw_skip ?_)
    refine cw_condF (by simp only [push_cast, env, Nat.reduceEqDiff, reduceIte, Nat.reduceAdd, Nat.reduceMul, Nat.reduceLeDiff, reduceCtorEq, Nat.reduceSub, Int.reduceToNat] <;> exact rfl) ?_
    repeat (first | refine cw_seq ?_ | refine cw_region ?_ | refine ow_nil ?_ | ((first | apply ow_cons | apply qw_cons); · simp only [push_cast, env, Nat.reduceEqDiff, reduceIte, Nat.reduceAdd, Nat.reduceMul, Nat.reduceLeDiff, reduceCtorEq, Nat.reduceSub, Int.reduceToNat] <;> exact rfl) | ((first | apply ow_spec | apply qw_spec); · simp only [push_cast, env, Nat.reduceEqDiff, reduceIte, Nat.reduceAdd, Nat.reduceMul, Nat.reduceLeDiff, reduceCtorEq, Nat.reduceSub, Int.reduceToNat] <;> exact rfl) | refine qw_nil ?_ | refine cw_block ?_ | refine cw_scope ?_ | refine cw_label ?_ | refine cw_skip ?_)
    refine cw_ret ?_
    exact ⟨_, (by simp only [push_cast, env, Nat.reduceEqDiff, reduceIte, Nat.reduceAdd, Nat.reduceMul, Nat.reduceLeDiff, reduceCtorEq, Nat.reduceSub, Int.reduceToNat] <;> exact rfl), rfl, rfl⟩
  have e0 : rightG g = 0 := if_neg hb
  rw [e0, if_neg hb]
  repeat (first | refine cw_seq ?_ | refine cw_region ?_ | refine ow_nil ?_ | ((first | apply ow_cons | apply qw_cons); · simp only [push_cast, env, Nat.reduceEqDiff, reduceIte, Nat.reduceAdd, Nat.reduceMul, Nat.reduceLeDiff, reduceCtorEq, Nat.reduceSub, Int.reduceToNat] <;> exact rfl) | ((first | apply ow_spec | apply qw_spec); · simp only [push_cast, env, Nat.reduceEqDiff, reduceIte, Nat.reduceAdd, Nat.reduceMul, Nat.reduceLeDiff, reduceCtorEq, Nat.reduceSub, Int.reduceToNat] <;> exact rfl) | refine qw_nil ?_ | refine cw_block ?_ | refine cw_scope ?_ | refine cw_label ?_ | refine cw_skip ?_)
  refine cw_cond (by simp only [push_cast, env, Nat.reduceEqDiff, reduceIte, Nat.reduceAdd, Nat.reduceMul, Nat.reduceLeDiff, reduceCtorEq, Nat.reduceSub, Int.reduceToNat] <;> exact rfl) (fun c1 => ?_) (fun c1 => ?_)
  · have c1' : 512 < w.length := by simp only [decide_eq_true_eq] at c1; omega
    rw [if_pos c1']
    repeat (first | refine cw_seq ?_ | refine cw_region ?_ | refine ow_nil ?_ | ((first | apply ow_cons | apply qw_cons); · simp only [push_cast, env, Nat.reduceEqDiff, reduceIte, Nat.reduceAdd, Nat.reduceMul, Nat.reduceLeDiff, reduceCtorEq, Nat.reduceSub, Int.reduceToNat] <;> exact rfl) | ((first | apply ow_spec | apply qw_spec); · simp only [push_cast, env, Nat.reduceEqDiff, reduceIte, Nat.reduceAdd, Nat.reduceMul, Nat.reduceLeDiff, reduceCtorEq, Nat.reduceSub, Int.reduceToNat] <;> exact rfl) | refine qw_nil ?_ | refine cw_block ?_ | refine cw_scope ?_ | refine cw_label ?_ | refine cw_skip ?_)
    refine cw_ret ?_
    exact ⟨_, (by simp only [push_cast, env, Nat.reduceEqDiff, reduceIte, Nat.reduceAdd, Nat.reduceMul, Nat.reduceLeDiff, reduceCtorEq, Nat.reduceSub, Int.reduceToNat] <;> exact rfl), rfl, rfl⟩
  · have c1' : ¬ 512 < w.length := by simp only [decide_eq_false_iff_not] at c1; omega
    rw [if_neg c1']
    repeat (first | refine cw_seq ?_ | refine cw_region ?_ | refine ow_nil ?_ | ((first | apply ow_cons | apply qw_cons); · simp only [push_cast, env, Nat.reduceEqDiff, reduceIte, Nat.reduceAdd, Nat.reduceMul, Nat.reduceLeDiff, reduceCtorEq, Nat.reduceSub, Int.reduceToNat] <;> exact rfl) | ((first | apply ow_spec | apply qw_spec); · simp only [push_cast, env, Nat.reduceEqDiff, reduceIte, Nat.reduceAdd, Nat.reduceMul, Nat.reduceLeDiff, reduceCtorEq, Nat.reduceSub, Int.reduceToNat] <;> exact rfl) | refine qw_nil ?_ | refine cw_block ?_ | refine cw_scope ?_ | refine cw_label ?_ | refine cw_skip ?_)
    refine cw_ret ?_
    exact ⟨_, (by simp only [push_cast, env, Nat.reduceEqDiff, reduceIte, Nat.reduceAdd, Nat.reduceMul, Nat.reduceLeDiff, reduceCtorEq, Nat.reduceSub, Int.reduceToNat] <;> exact rfl), rfl, rfl⟩
def RdRuns (h : Heap) (v : Value) (l : List (Nat × Nat)) : Prop := SlR h v l.length (runCells l) 50 16
def heavy7 (g : Gram) (w : List Nat) : Bool := (decide (16 < w.length) && decide (w.length ≤ 512)) || decide (heavyP g 160)
theorem heavy7_fw {h : Heap} {g : Gram} {v wv : Value} {w : List Nat} (hr : RdGram h v g) (hw : RdB h wv w) (hn : -9223372036854775808 ≤ g.nts) : FW env 13 [v, wv] h fun r h' => r = .bool (heavy7 g w) ∧ h' = h := by
  obtain ⟨u, rfl, hu⟩ := id hr
  obtain ⟨p, c, rfl⟩ := hu.form
  obtain ⟨pw, cw, rfl⟩ := hw.form
  unfold heavy7
  refine fw_enter (fn := Try.f13) Try.func13 rfl (by kernel_rfl) (by simp [Try.ntmps13]) ?_; simp only [push_cast]
  by_cases h1 : 16 < w.length
  · have d1 : decide ((16 : Int) < (w.length : Int)) = true := decide_eq_true (by omega)
    rw [decide_eq_true h1]
    by_cases h2 : w.length ≤ 512
    · have d2 : decide ((w.length : Int) ≤ 512) = true := decide_eq_true (by omega)
      rw [decide_eq_true h2]
      repeat (first | refine cw_seq ?_ | refine cw_region ?_ | refine ow_nil ?_ | ((first | apply ow_cons | apply qw_cons); · simp only [push_cast, env, Nat.reduceEqDiff, reduceIte, Nat.reduceAdd, Nat.reduceMul, Nat.reduceLeDiff, reduceCtorEq, Nat.reduceSub, Int.reduceToNat, d1, d2] <;> exact rfl) | ((first | apply ow_spec | apply qw_spec); · simp only [push_cast, env, Nat.reduceEqDiff, reduceIte, Nat.reduceAdd, Nat.reduceMul, Nat.reduceLeDiff, reduceCtorEq, Nat.reduceSub, Int.reduceToNat, d1, d2] <;> exact rfl) | refine qw_nil ?_ | refine cw_block ?_ | refine cw_scope ?_ | refine cw_label ?_ | refine cw_skip ?_)
      refine cw_ret ?_
      exact ⟨_, (by simp only [push_cast, env, Nat.reduceEqDiff, reduceIte, Nat.reduceAdd, Nat.reduceMul, Nat.reduceLeDiff, reduceCtorEq, Nat.reduceSub, Int.reduceToNat] <;> exact rfl), rfl, rfl⟩
    · have d2 : decide ((w.length : Int) ≤ 512) = false := decide_eq_false (by omega)
      rw [decide_eq_false h2]
      repeat (first | refine cw_seq ?_ | refine cw_region ?_ | refine ow_nil ?_ | ((first | apply ow_cons | apply qw_cons); · simp only [push_cast, env, Nat.reduceEqDiff, reduceIte, Nat.reduceAdd, Nat.reduceMul, Nat.reduceLeDiff, reduceCtorEq, Nat.reduceSub, Int.reduceToNat, d1, d2] <;> exact rfl) | ((first | apply ow_spec | apply qw_spec); · simp only [push_cast, env, Nat.reduceEqDiff, reduceIte, Nat.reduceAdd, Nat.reduceMul, Nat.reduceLeDiff, reduceCtorEq, Nat.reduceSub, Int.reduceToNat, d1, d2] <;> exact rfl) | refine qw_nil ?_ | refine cw_block ?_ | refine cw_scope ?_ | refine cw_label ?_ | refine cw_skip ?_)
      refine ow_call (fn := Try.f34) (by simp only [push_cast, env, Nat.reduceEqDiff, reduceIte, Nat.reduceAdd, Nat.reduceMul, Nat.reduceLeDiff, reduceCtorEq, Nat.reduceSub, Int.reduceToNat] <;> exact rfl) rfl (by simp only [push_cast, env, Nat.reduceEqDiff, reduceIte, Nat.reduceAdd, Nat.reduceMul, Nat.reduceLeDiff, reduceCtorEq, Nat.reduceSub, Int.reduceToNat] <;> exact rfl) (by simp only [push_cast, env, Nat.reduceEqDiff, reduceIte, Nat.reduceAdd, Nat.reduceMul, Nat.reduceLeDiff, reduceCtorEq, Nat.reduceSub, Int.reduceToNat] <;> exact rfl) Try.func34 (by kernel_rfl) (by kernel_rfl) ?_
      rw [List.append_nil]
      refine (heavy_fw hr hn (by decide)).mono ?_
      rintro _ h ⟨rfl, rfl⟩
      repeat (first | refine cw_seq ?_ | refine cw_region ?_ | refine ow_nil ?_ | ((first | apply ow_cons | apply qw_cons); · simp only [push_cast, env, Nat.reduceEqDiff, reduceIte, Nat.reduceAdd, Nat.reduceMul, Nat.reduceLeDiff, reduceCtorEq, Nat.reduceSub, Int.reduceToNat] <;> exact rfl) | ((first | apply ow_spec | apply qw_spec); · simp only [push_cast, env, Nat.reduceEqDiff, reduceIte, Nat.reduceAdd, Nat.reduceMul, Nat.reduceLeDiff, reduceCtorEq, Nat.reduceSub, Int.reduceToNat] <;> exact rfl) | refine qw_nil ?_ | refine cw_block ?_ | refine cw_scope ?_ | refine cw_label ?_ | refine cw_skip ?_)
      refine cw_ret ?_
      exact ⟨_, (by simp only [push_cast, env, Nat.reduceEqDiff, reduceIte, Nat.reduceAdd, Nat.reduceMul, Nat.reduceLeDiff, reduceCtorEq, Nat.reduceSub, Int.reduceToNat] <;> exact rfl), rfl, rfl⟩
  · have d1 : decide ((16 : Int) < (w.length : Int)) = false := decide_eq_false (by omega)
    rw [decide_eq_false h1]
    repeat (first | refine cw_seq ?_ | refine cw_region ?_ | refine ow_nil ?_ | ((first | apply ow_cons | apply qw_cons); · simp only [push_cast, env, Nat.reduceEqDiff, reduceIte, Nat.reduceAdd, Nat.reduceMul, Nat.reduceLeDiff, reduceCtorEq, Nat.reduceSub, Int.reduceToNat, d1] <;> exact rfl) | ((first | apply ow_spec | apply qw_spec); · simp only [push_cast, env, Nat.reduceEqDiff, reduceIte, Nat.reduceAdd, Nat.reduceMul, Nat.reduceLeDiff, reduceCtorEq, Nat.reduceSub, Int.reduceToNat, d1] <;> exact rfl) | refine qw_nil ?_ | refine cw_block ?_ | refine cw_scope ?_ | refine cw_label ?_ | refine cw_skip ?_)
    refine ow_call (fn := Try.f34) (by simp only [push_cast, env, Nat.reduceEqDiff, reduceIte, Nat.reduceAdd, Nat.reduceMul, Nat.reduceLeDiff, reduceCtorEq, Nat.reduceSub, Int.reduceToNat] <;> exact rfl) rfl (by simp only [push_cast, env, Nat.reduceEqDiff, reduceIte, Nat.reduceAdd, Nat.reduceMul, Nat.reduceLeDiff, reduceCtorEq, Nat.reduceSub, Int.reduceToNat] <;> exact rfl) (by simp only [push_cast, env, Nat.reduceEqDiff, reduceIte, Nat.reduceAdd, Nat.reduceMul, Nat.reduceLeDiff, reduceCtorEq, Nat.reduceSub, Int.reduceToNat] <;> exact rfl) Try.func34 (by kernel_rfl) (by kernel_rfl) ?_
    rw [List.append_nil]
    refine (heavy_fw hr hn (by decide)).mono ?_
    rintro _ h ⟨rfl, rfl⟩
    repeat (first | refine cw_seq ?_ | refine cw_region ?_ | refine ow_nil ?_ | ((first | apply ow_cons | apply qw_cons); · simp only [push_cast, env, Nat.reduceEqDiff, reduceIte, Nat.reduceAdd, Nat.reduceMul, Nat.reduceLeDiff, reduceCtorEq, Nat.reduceSub, Int.reduceToNat] <;> exact rfl) | ((first | apply ow_spec | apply qw_spec); · simp only [push_cast, env, Nat.reduceEqDiff, reduceIte, Nat.reduceAdd, Nat.reduceMul, Nat.reduceLeDiff, reduceCtorEq, Nat.reduceSub, Int.reduceToNat] <;> exact rfl) | refine qw_nil ?_ | refine cw_block ?_ | refine cw_scope ?_ | refine cw_label ?_ | refine cw_skip ?_)
    refine cw_ret ?_
    exact ⟨_, (by simp only [push_cast, env, Nat.reduceEqDiff, reduceIte, Nat.reduceAdd, Nat.reduceMul, Nat.reduceLeDiff, reduceCtorEq, Nat.reduceSub, Int.reduceToNat] <;> exact rfl), rfl, rfl⟩
end Go.Proofs.Ytafncpgiibikcaa

/- Plain facts: the fixed calls of the laws of layer 7. -/
namespace Go.Proofs.Ytafncpgiibikcaa
set_option linter.unusedSimpArgs false
set_option linter.unusedVariables false

/-- no rule makes more -/
def closedB (g : Gram) (w : List Nat) (S : List (List Item)) : Bool :=
  ((List.range g.rules.length).all fun q => match g.rules[q]? with
    | some r => !decide (r.lhs = g.start) || decide ((⟨q, 0, 0⟩ : Item) ∈ gs S 0)
    | none => true) &&
  (List.range (w.length + 1)).all fun k => (gs S k).all fun x => match g.rules[x.rule]? with
    | none => true
    | some r => match r.rhs[x.dot]? with
      | some s => if s.nt < 0 then (match w[k]? with
          | some b => !s.set.has b || decide (adv x ∈ gs S (k + 1))
          | none => true) else (List.range g.rules.length).all fun q => match g.rules[q]? with
          | some r' => !decide (r'.lhs = s.nt) || decide ((⟨q, 0, k⟩ : Item) ∈ gs S k)
          | none => true
      | none => (gs S x.frm).all fun y => match g.rules[y.rule]? with
        | some r' => (match r'.rhs[y.dot]? with
          | some s => !decide (s.nt = r.lhs) || decide (adv y ∈ gs S k)
          | none => true)
        | none => true
theorem closedB_it {g : Gram} {w : List Nat} {S : List (List Item)} (h : closedB g w S = true) {j : Nat} {x : Item} (hx : It g w j x) : x ∈ gs S j := by
  unfold closedB at h
  rw [Bool.and_eq_true] at h
  obtain ⟨h1, h2⟩ := h
  rw [List.all_eq_true] at h1 h2
  have hj : ∀ {j : Nat} {x : Item}, It g w j x → j ∈ List.range (w.length + 1) := fun {j x} h => by
    obtain ⟨_, _, _, _, k⟩ := h.sound
    have := k.2.1
    exact List.mem_range.2 (by omega)
  induction hx with
  | init q r k1 k2 =>
    have := h1 q (List.mem_range.2 (List.getElem?_eq_some_iff.1 k1).1)
    rw [k1] at this
    simpa [k2] using this
  | pred j x r s q r' k1 k2 k3 k4 k5 k6 ih =>
    have := h2 j (hj k1)
    rw [List.all_eq_true] at this
    have := this x ih
    rw [k2] at this
    simp only [k3] at this
    rw [if_neg (by omega), List.all_eq_true] at this
    have := this q (List.mem_range.2 (List.getElem?_eq_some_iff.1 k5).1)
    rw [k5] at this
    simpa [k6] using this
  | scan j x r s b k1 k2 k3 k4 k5 k6 ih =>
    have := h2 j (hj k1)
    rw [List.all_eq_true] at this
    have := this x ih
    rw [k2] at this
    simp only [k3] at this
    rw [if_pos k4, k5] at this
    simp only [k6, Bool.not_true, Bool.false_or, decide_eq_true_eq] at this
    exact this
  | comp j x r y r' s k1 k2 k3 k4 k5 k6 k7 k8 ih1 ih2 =>
    have := h2 j (hj k1)
    rw [List.all_eq_true] at this
    have := this x ih1
    rw [k2] at this
    simp only [List.getElem?_eq_none (show r.rhs.length ≤ x.dot by omega)] at this
    rw [List.all_eq_true] at this
    have := this y ih2
    rw [k5] at this
    simp only [k6, k8, decide_true, Bool.not_true, Bool.false_or, decide_eq_true_eq] at this
    exact this

def symE : KSym := ⟨0, ⟨0, 0, 0, 0⟩⟩
def symP : KSym := ⟨-1, ⟨8796093022208, 0, 0, 0⟩⟩
def symD : KSym := ⟨-1, ⟨287948901175001088, 0, 0, 0⟩⟩
/-- E > E "+" E, E > digit -/
def sumG : Gram := ⟨1, 0, [⟨0, [symE, symP, symE]⟩, ⟨0, [symD]⟩]⟩
theorem sum_digit : NtTx sumG.rules 0 [49] := ⟨⟨0, [symD]⟩, by decide, rfl, .term symD [] 49 [] (by decide) (by decide +kernel) .nil⟩
theorem sum_sum : NtTx sumG.rules 0 [49, 43, 49] := by
  obtain ⟨r, h1, h2, h3⟩ := sum_digit
  exact ⟨⟨0, [symE, symP, symE]⟩, by decide, rfl, .non symE [symP, symE] r [49] [43, 49] (by decide) h1 h2 h3 (.term symP [symE] 43 [49] (by decide) (by decide +kernel) (by
    have := Tx.non symE [] r [49] [] (by decide) h1 h2 h3 .nil
    simpa using this))⟩
def sumY (a i j : Nat) : Bool := a == 0 && ((i == 0 && j == 1) || (i == 0 && j == 3) || (i == 2 && j == 3))
def closedT (R : List Rule) (w : List Nat) (yf : Nat → Nat → Nat → Bool) : Bool := R.all fun r => (List.range (w.length + 1)).all fun i => (List.range (w.length + 1)).all fun j => decide (j < i) || !endB yf w r.rhs i r.rhs.length j || yf r.lhs.toNat i j
theorem closedT_ok {R : List Rule} {w : List Nat} {yf : Nat → Nat → Nat → Bool} (h : closedT R w yf = true) : TClosed R w yf := fun r hr i j hij hj he => by
  unfold closedT at h
  rw [List.all_eq_true] at h
  have h1 := h r hr
  rw [List.all_eq_true] at h1
  have h2 := h1 i (List.mem_range.2 (by omega))
  rw [List.all_eq_true] at h2
  have h3 := h2 j (List.mem_range.2 (by omega))
  rw [he] at h3
  simp only [Bool.not_true, Bool.or_false, Bool.or_eq_true, decide_eq_true_eq] at h3
  rcases h3 with h3 | h3
  · omega
  · exact h3
theorem sum_spans (i j : Nat) (hij : i ≤ j) (hj : j ≤ 3) : NtTx sumG.rules 0 (sub [49, 43, 49] i j) ↔ sumY 0 i j = true := by
  constructor
  · exact closed_full (closedT_ok (by decide +kernel)) 0 i j hij hj
  · intro h
    unfold sumY at h
    simp only [beq_self_eq_true, Bool.true_and, Bool.or_eq_true, Bool.and_eq_true, beq_iff_eq] at h
    rcases h with (⟨rfl, rfl⟩ | ⟨rfl, rfl⟩) | ⟨rfl, rfl⟩
    · exact sum_digit
    · exact sum_sum
    · exact sum_digit
def sumS : List (List Item) := [[⟨0, 0, 0⟩, ⟨1, 0, 0⟩], [⟨1, 1, 0⟩, ⟨0, 1, 0⟩], [⟨0, 2, 0⟩, ⟨0, 0, 2⟩, ⟨1, 0, 2⟩], []]
theorem sum_last {S : List (List Item)} (C : ∀ k x, x ∈ gs S k ↔ It sumG [49, 43, 43] k x) : gs S 3 = [] ∧ gs S 2 ≠ [] := by
  have hc : closedB sumG [49, 43, 43] sumS = true := by decide +kernel
  constructor
  · refine List.eq_nil_iff_forall_not_mem.2 fun x hx => ?_
    have := closedB_it hc ((C 3 x).1 hx)
    simp [gs, sumS] at this
  · intro h
    have i1 : It sumG [49, 43, 43] 0 ⟨1, 0, 0⟩ := .init 1 _ rfl rfl
    have i2 : It sumG [49, 43, 43] 1 ⟨1, 1, 0⟩ := .scan 0 ⟨1, 0, 0⟩ _ symD 49 i1 rfl rfl (by decide) rfl (by decide +kernel)
    have i3 : It sumG [49, 43, 43] 0 ⟨0, 0, 0⟩ := .init 0 _ rfl rfl
    have i4 : It sumG [49, 43, 43] 1 ⟨0, 1, 0⟩ := .comp 1 ⟨1, 1, 0⟩ _ ⟨0, 0, 0⟩ _ symE i2 rfl rfl i3 rfl rfl (by decide) rfl
    have i5 : It sumG [49, 43, 43] 2 ⟨0, 2, 0⟩ := .scan 1 ⟨0, 1, 0⟩ _ symP 43 i4 rfl rfl (by decide) rfl (by decide +kernel)
    have := (C 2 _).2 i5
    rw [h] at this
    cases this
end Go.Proofs.Ytafncpgiibikcaa

/- The fixed calls of the laws of layer 7. -/
namespace Go.Proofs.Ytafncpgiibikcaa
set_option linter.unusedSimpArgs false
set_option linter.unusedVariables false
set_option maxRecDepth 20000
open Go.RowKit Am Ty

theorem rdsyms_fresh {h : Heap} {id : Nat} {l : List KSym} (hl : l.length ≤ 1000000) (hg : h[id]? = some (.arr (l.flatMap KSym.cells) 0 true 43)) : RdSyms h (.slice (some ⟨id, 0, some 0⟩) l.length l.length) l := ⟨by omega, .inr ⟨id, 0, true, _, rfl, hg⟩⟩
set_option maxHeartbeats 4000000 in
theorem sum_fw {h : Heap} : FW env 35 [] h fun r h' => RdGram h' r sumG ∧ h <+: h' := by
  refine fw_enter (fn := Try.f35) Try.func35 rfl (by kernel_rfl) (by simp [Try.ntmps35]) ?_; simp only [push_cast]
  repeat (first | refine cw_seq ?_ | refine cw_region ?_ | refine ow_nil ?_ | refine qw_nil ?_ | refine cw_block ?_ | refine cw_scope ?_ | refine cw_label ?_ | refine cw_skip ?_)
  iterate 1 (apply ow_cons; · simp only [push_cast, env, Nat.reduceEqDiff, reduceIte, Nat.reduceAdd, Nat.reduceMul, Nat.reduceLeDiff, reduceCtorEq, Nat.reduceSub, Int.reduceToNat] <;> exact rfl)
  repeat (first | refine cw_seq ?_ | refine cw_region ?_ | refine ow_nil ?_ | refine qw_nil ?_ | refine cw_block ?_ | refine cw_scope ?_ | refine cw_label ?_ | refine cw_skip ?_)
  iterate 8 (apply ow_cons; · simp only [push_cast, env, Nat.reduceEqDiff, reduceIte, Nat.reduceAdd, Nat.reduceMul, Nat.reduceLeDiff, reduceCtorEq, Nat.reduceSub, Int.reduceToNat] <;> exact rfl)
  repeat (first | refine cw_seq ?_ | refine cw_region ?_ | refine ow_nil ?_ | refine qw_nil ?_ | refine cw_block ?_ | refine cw_scope ?_ | refine cw_label ?_ | refine cw_skip ?_)
  iterate 3 (apply ow_cons; · simp only [push_cast, env, Nat.reduceEqDiff, reduceIte, Nat.reduceAdd, Nat.reduceMul, Nat.reduceLeDiff, reduceCtorEq, Nat.reduceSub, Int.reduceToNat] <;> exact rfl)
  repeat (first | refine cw_seq ?_ | refine cw_region ?_ | refine ow_nil ?_ | refine qw_nil ?_ | refine cw_block ?_ | refine cw_scope ?_ | refine cw_label ?_ | refine cw_skip ?_)
  iterate 3 (apply ow_cons; · simp only [push_cast, env, Nat.reduceEqDiff, reduceIte, Nat.reduceAdd, Nat.reduceMul, Nat.reduceLeDiff, reduceCtorEq, Nat.reduceSub, Int.reduceToNat] <;> exact rfl)
  refine ow_bslH (by simp only [push_cast, env, Nat.reduceEqDiff, reduceIte, Nat.reduceAdd, Nat.reduceMul, Nat.reduceLeDiff, reduceCtorEq, Nat.reduceSub, Int.reduceToNat] <;> exact rfl) (by simp only [push_cast, env, Nat.reduceEqDiff, reduceIte, Nat.reduceAdd, Nat.reduceMul, Nat.reduceLeDiff, reduceCtorEq, Nat.reduceSub, Int.reduceToNat] <;> exact rfl) ?_
  simp only [St.putO, St.put]
  iterate 2 (apply ow_cons; · simp only [push_cast, env, Nat.reduceEqDiff, reduceIte, Nat.reduceAdd, Nat.reduceMul, Nat.reduceLeDiff, reduceCtorEq, Nat.reduceSub, Int.reduceToNat] <;> exact rfl)
  refine ow_bslH (by simp only [push_cast, env, Nat.reduceEqDiff, reduceIte, Nat.reduceAdd, Nat.reduceMul, Nat.reduceLeDiff, reduceCtorEq, Nat.reduceSub, Int.reduceToNat] <;> exact rfl) (by simp only [push_cast, env, Nat.reduceEqDiff, reduceIte, Nat.reduceAdd, Nat.reduceMul, Nat.reduceLeDiff, reduceCtorEq, Nat.reduceSub, Int.reduceToNat] <;> exact rfl) ?_
  simp only [St.putO, St.put, List.length_append, List.length_cons, List.length_nil, Nat.zero_add, List.append_assoc, List.cons_append, List.nil_append]
  iterate 1 (apply ow_cons; · simp only [push_cast, env, Nat.reduceEqDiff, reduceIte, Nat.reduceAdd, Nat.reduceMul, Nat.reduceLeDiff, reduceCtorEq, Nat.reduceSub, Int.reduceToNat] <;> exact rfl)
  refine ow_bslH (by simp only [push_cast, env, Nat.reduceEqDiff, reduceIte, Nat.reduceAdd, Nat.reduceMul, Nat.reduceLeDiff, reduceCtorEq, Nat.reduceSub, Int.reduceToNat] <;> exact rfl) (by simp only [push_cast, env, Nat.reduceEqDiff, reduceIte, Nat.reduceAdd, Nat.reduceMul, Nat.reduceLeDiff, reduceCtorEq, Nat.reduceSub, Int.reduceToNat] <;> exact rfl) ?_
  simp only [St.putO, St.put, List.length_append, List.length_cons, List.length_nil, Nat.zero_add, List.append_assoc, List.cons_append, List.nil_append]
  obtain ⟨H, hH⟩ : ∃ H : Heap, H = h ++ [HObj.arr ([symE, symP, symE].flatMap KSym.cells) 0 true 43, HObj.arr ([symD].flatMap KSym.cells) 0 true 43, HObj.arr [i64 0, .slice (some ⟨h.length, 0, some 0⟩) 3 3, i64 0, .slice (some ⟨h.length + 1, 0, some 0⟩) 1 1] 0 true 46] := ⟨_, rfl⟩
  show OW _ _ _ ⟨_, _, h ++ [HObj.arr ([symE, symP, symE].flatMap KSym.cells) 0 true 43, HObj.arr ([symD].flatMap KSym.cells) 0 true 43, HObj.arr [i64 0, .slice (some ⟨h.length, 0, some 0⟩) 3 3, i64 0, .slice (some ⟨h.length + 1, 0, some 0⟩) 1 1] 0 true 46]⟩ _
  rw [← hH]
  have q0 : H[h.length]? = some (HObj.arr ([symE, symP, symE].flatMap KSym.cells) 0 true 43) := by rw [hH]; simp
  have q1 : H[h.length + 1]? = some (HObj.arr ([symD].flatMap KSym.cells) 0 true 43) := by rw [hH, List.getElem?_append_right (by omega)]; simp
  have q2 : H[h.length + 2]? = some (HObj.arr [i64 0, .slice (some ⟨h.length, 0, some 0⟩) 3 3, i64 0, .slice (some ⟨h.length + 1, 0, some 0⟩) 1 1] 0 true 46) := by rw [hH, List.getElem?_append_right (by omega)]; simp
  have hp : h <+: H := by rw [hH]; exact List.prefix_append _ _
  clear hH
  repeat (first | refine cw_seq ?_ | refine cw_region ?_ | refine ow_nil ?_ | ((first | apply ow_cons | apply qw_cons); · simp only [push_cast, env, Nat.reduceEqDiff, reduceIte, Nat.reduceAdd, Nat.reduceMul, Nat.reduceLeDiff, reduceCtorEq, Nat.reduceSub, Int.reduceToNat] <;> exact rfl) | ((first | apply ow_spec | apply qw_spec); · simp only [push_cast, env, Nat.reduceEqDiff, reduceIte, Nat.reduceAdd, Nat.reduceMul, Nat.reduceLeDiff, reduceCtorEq, Nat.reduceSub, Int.reduceToNat] <;> exact rfl) | refine qw_nil ?_ | refine cw_block ?_ | refine cw_scope ?_ | refine cw_label ?_ | refine cw_skip ?_)
  refine cw_ret ?_
  refine ⟨_, (by simp only [push_cast, env, Nat.reduceEqDiff, reduceIte, Nat.reduceAdd, Nat.reduceMul, Nat.reduceLeDiff, reduceCtorEq, Nat.reduceSub, Int.reduceToNat] <;> exact rfl), ⟨_, rfl, [.slice (some ⟨h.length, 0, some 0⟩) 3 3, .slice (some ⟨h.length + 1, 0, some 0⟩) 1 1], rfl, ⟨by decide, .inr ⟨h.length + 2, 0, true, 2, rfl, q2⟩⟩, fun i r u h1 h2 => ?_⟩, hp⟩
  match i, h1, h2 with
  | 0, h1, h2 => cases h1; cases h2; exact rdsyms_fresh (l := [symE, symP, symE]) (by decide) q0
  | 1, h1, h2 => cases h1; cases h2; exact rdsyms_fresh (l := [symD]) (by decide) q1
  | i + 2, h1, h2 => simp [sumG] at h1
theorem sum_wf : WfG sumG := by
  intro r hr s hs
  simp only [sumG, List.mem_cons, List.not_mem_nil, or_false] at hr
  rcases hr with rfl | rfl
  · simp only [List.mem_cons, List.not_mem_nil, or_false] at hs
    rcases hs with rfl | rfl | rfl
    · exact ⟨⟨by decide, by decide⟩, ⟨by decide, by decide⟩, ⟨by decide, by decide⟩, ⟨by decide, by decide⟩⟩
    · exact ⟨⟨by decide, by decide⟩, ⟨by decide, by decide⟩, ⟨by decide, by decide⟩, ⟨by decide, by decide⟩⟩
    · exact ⟨⟨by decide, by decide⟩, ⟨by decide, by decide⟩, ⟨by decide, by decide⟩, ⟨by decide, by decide⟩⟩
  · simp only [List.mem_cons, List.not_mem_nil, or_false] at hs
    subst hs
    exact ⟨⟨by decide, by decide⟩, ⟨by decide, by decide⟩, ⟨by decide, by decide⟩, ⟨by decide, by decide⟩⟩
theorem sum_fit (w : List Nat) (hw : w.length ≤ 512) : fitE sumG w = 0 := fitE_ok.2 ⟨by decide, hw⟩
theorem sum_good : goodD sumG 0 := .mk ⟨0, [symD]⟩ (by decide) (fun s hs _ => by
  simp only [List.mem_cons, List.not_mem_nil, or_false] at hs
  subst hs
  unfold goodT
  decide) (fun s hs h0 => by
  simp only [List.mem_cons, List.not_mem_nil, or_false] at hs
  subst hs
  exact absurd h0 (by decide))
theorem sum_trim {m : List Bool} (hm : Marks sumG.nts (goodD sumG) m) : trG sumG m = sumG := by
  have hl : m.length = 1 := by have := hm.1; simp only [sumG] at this; omega
  match m, hl with
  | [b], _ =>
    have := (hm.2 0 (by decide) (by decide)).2 sum_good
    cases b with
    | true => rfl
    | false => cases this
set_option maxHeartbeats 1000000 in
theorem chartbad_fw {h : Heap} {g : Gram} {v wv : Value} {w : List Nat} (hr : RdGram h v g) (hwR : RdB h wv w) (hf : fitE g w ≠ 0) : FW env 24 [v, wv] h fun r h' => r = .tuple #[nilS, i64 (fitE g w)] ∧ h' = h := by
  obtain ⟨u, rfl, hu⟩ := id hr
  obtain ⟨p, c, rfl⟩ := hu.form
  obtain ⟨pw, cw, rfl⟩ := hwR.form
  have df : decide (fitE g w = 0) = false := decide_eq_false hf
  refine fw_enter (fn := Try.f24) Try.func24 rfl (by kernel_rfl) (by simp [Try.ntmps24]) ?_; simp only [push_cast]
  repeat (first | refine cw_seq ?_ | refine cw_region ?_ | refine ow_nil ?_ | ((first | apply ow_cons | apply qw_cons); · simp only [push_cast, env, Nat.reduceEqDiff, reduceIte, Nat.reduceAdd, Nat.reduceMul, Nat.reduceLeDiff, reduceCtorEq, Nat.reduceSub, Int.reduceToNat] <;> exact rfl) | ((first | apply ow_spec | apply qw_spec); · simp only [push_cast, env, Nat.reduceEqDiff, reduceIte, Nat.reduceAdd, Nat.reduceMul, Nat.reduceLeDiff, reduceCtorEq, Nat.reduceSub, Int.reduceToNat] <;> exact rfl) | refine qw_nil ?_ | refine cw_block ?_ | refine cw_scope ?_ | refine cw_label ?_ | refine cw_skip ?_)
  refine ow_call (fn := Try.f36) (by simp only [push_cast, env, Nat.reduceEqDiff, reduceIte, Nat.reduceAdd, Nat.reduceMul, Nat.reduceLeDiff, reduceCtorEq, Nat.reduceSub, Int.reduceToNat] <;> exact rfl) rfl (by simp only [push_cast, env, Nat.reduceEqDiff, reduceIte, Nat.reduceAdd, Nat.reduceMul, Nat.reduceLeDiff, reduceCtorEq, Nat.reduceSub, Int.reduceToNat] <;> exact rfl) (by simp only [push_cast, env, Nat.reduceEqDiff, reduceIte, Nat.reduceAdd, Nat.reduceMul, Nat.reduceLeDiff, reduceCtorEq, Nat.reduceSub, Int.reduceToNat] <;> exact rfl) Try.func36 (by kernel_rfl) (by kernel_rfl) ?_
  rw [List.append_nil]
  refine (fit_fw hr hwR).mono ?_
  rintro _ h ⟨rfl, rfl⟩
  repeat (first | refine cw_seq ?_ | refine cw_region ?_ | refine ow_nil ?_ | ((first | apply ow_cons | apply qw_cons); · simp only [push_cast, env, Nat.reduceEqDiff, reduceIte, Nat.reduceAdd, Nat.reduceMul, Nat.reduceLeDiff, reduceCtorEq, Nat.reduceSub, Int.reduceToNat, df] <;> exact rfl) | ((first | apply ow_spec | apply qw_spec); · simp only [push_cast, env, Nat.reduceEqDiff, reduceIte, Nat.reduceAdd, Nat.reduceMul, Nat.reduceLeDiff, reduceCtorEq, Nat.reduceSub, Int.reduceToNat, df] <;> exact rfl) | refine qw_nil ?_ | refine cw_block ?_ | refine cw_scope ?_ | refine cw_label ?_ | refine cw_skip ?_)
  refine cw_condT (by simp only [push_cast, env, Nat.reduceEqDiff, reduceIte, Nat.reduceAdd, Nat.reduceMul, Nat.reduceLeDiff, reduceCtorEq, Nat.reduceSub, Int.reduceToNat, df] <;> exact rfl) ?_
  repeat (first | refine cw_seq ?_ | refine cw_region ?_ | refine ow_nil ?_ | ((first | apply ow_cons | apply qw_cons); · simp only [push_cast, env, Nat.reduceEqDiff, reduceIte, Nat.reduceAdd, Nat.reduceMul, Nat.reduceLeDiff, reduceCtorEq, Nat.reduceSub, Int.reduceToNat] <;> exact rfl) | ((first | apply ow_spec | apply qw_spec); · simp only [push_cast, env, Nat.reduceEqDiff, reduceIte, Nat.reduceAdd, Nat.reduceMul, Nat.reduceLeDiff, reduceCtorEq, Nat.reduceSub, Int.reduceToNat] <;> exact rfl) | refine qw_nil ?_ | refine cw_block ?_ | refine cw_scope ?_ | refine cw_label ?_ | refine cw_skip ?_)
  refine cw_ret ?_
  exact ⟨_, (by simp only [push_cast, env, Nat.reduceEqDiff, reduceIte, Nat.reduceAdd, Nat.reduceMul, Nat.reduceLeDiff, reduceCtorEq, Nat.reduceSub, Int.reduceToNat] <;> exact rfl), rfl, rfl⟩
theorem rdb_fresh {h : Heap} {id ver : Nat} {own : Bool} {w : List Nat} (hl : w.length ≤ 1000000) (hb : ∀ b ∈ w, b < 256) (hg : h[id]? = some (.arr (w.map fun n : Nat => u8 n) ver own 5)) : RdB h (.slice (some ⟨id, 0, some ver⟩) w.length w.length) w :=
  ⟨by omega, hb, .inr ⟨id, 0, ver, own, _, _, rfl, hg, fun i b hi => by rw [Nat.zero_add, List.getElem?_map, hi]; rfl⟩⟩
theorem und_bytes : env.P.underlying 25 = some (.slice 5) := by kernel_rfl
theorem und_u8 : env.P.underlying 5 = some (.int .u8) := by kernel_rfl
theorem spanAll_congr {P Q : Nat → Nat → Bool} {n : Nat} (hP : ∀ i j, i ≤ j → j ≤ n → P i j = Q i j) : ∀ k, k ≤ n + 1 → spanAll P n k = spanAll Q n k
  | 0, _ => rfl
  | k + 1, hk => by
    rw [spanAll_succ, spanAll_succ, spanAll_congr hP k (by omega)]
    congr 1
    unfold spanRow
    congr 1
    apply List.filter_congr
    intro j hj
    rw [List.mem_range] at hj
    exact hP k (k + j) (by omega) (by omega)
set_option maxHeartbeats 4000000 in
theorem alive7_run : FW env 14 [] [] fun r _ => r = .bool true := by
  refine fw_enter (fn := Try.f14) Try.func14 rfl (by kernel_rfl) (by simp [Try.ntmps14]) ?_; simp only [push_cast]
  repeat (first | refine cw_seq ?_ | refine cw_region ?_ | refine ow_nil ?_ | ((first | apply ow_cons | apply qw_cons); · simp only [push_cast, env, Nat.reduceEqDiff, reduceIte, Nat.reduceAdd, Nat.reduceMul, Nat.reduceLeDiff, reduceCtorEq, Nat.reduceSub, Int.reduceToNat] <;> exact rfl) | ((first | apply ow_spec | apply qw_spec); · simp only [push_cast, env, Nat.reduceEqDiff, reduceIte, Nat.reduceAdd, Nat.reduceMul, Nat.reduceLeDiff, reduceCtorEq, Nat.reduceSub, Int.reduceToNat] <;> exact rfl) | refine qw_nil ?_ | refine cw_block ?_ | refine cw_scope ?_ | refine cw_label ?_ | refine cw_skip ?_)
  refine ow_call (fn := Try.f35) (by simp only [push_cast, env, Nat.reduceEqDiff, reduceIte, Nat.reduceAdd, Nat.reduceMul, Nat.reduceLeDiff, reduceCtorEq, Nat.reduceSub, Int.reduceToNat] <;> exact rfl) rfl (by simp only [push_cast, env, Nat.reduceEqDiff, reduceIte, Nat.reduceAdd, Nat.reduceMul, Nat.reduceLeDiff, reduceCtorEq, Nat.reduceSub, Int.reduceToNat] <;> exact rfl) (by simp only [push_cast, env, Nat.reduceEqDiff, reduceIte, Nat.reduceAdd, Nat.reduceMul, Nat.reduceLeDiff, reduceCtorEq, Nat.reduceSub, Int.reduceToNat] <;> exact rfl) Try.func35 (by kernel_rfl) (by kernel_rfl) ?_
  refine sum_fw.mono ?_
  rintro v1 h1 ⟨hr1, hp1⟩
  obtain ⟨u1, rfl, hu1⟩ := id hr1
  obtain ⟨p1, c1, rfl⟩ := hu1.form
  refine ow_bslH (by simp only [push_cast, env, Nat.reduceEqDiff, reduceIte, Nat.reduceAdd, Nat.reduceMul, Nat.reduceLeDiff, reduceCtorEq, Nat.reduceSub, Int.reduceToNat] <;> exact rfl) (by simp only [push_cast, env, Nat.reduceEqDiff, reduceIte, Nat.reduceAdd, Nat.reduceMul, Nat.reduceLeDiff, reduceCtorEq, Nat.reduceSub, Int.reduceToNat] <;> exact rfl) ?_
  simp only [St.putO, St.put]
  refine ow_frz (cells := [u8 49, u8 43, u8 49]) (by simp only [push_cast, env, Nat.reduceEqDiff, reduceIte, Nat.reduceAdd, Nat.reduceMul, Nat.reduceLeDiff, reduceCtorEq, Nat.reduceSub, Int.reduceToNat] <;> exact rfl) rfl und_bytes und_u8 (by simp only [push_cast, env, Nat.reduceEqDiff, reduceIte, Nat.reduceAdd, Nat.reduceMul, Nat.reduceLeDiff, reduceCtorEq, Nat.reduceSub, Int.reduceToNat] <;> exact rfl) get_push (by decide) ?_
  simp only [St.putO, St.put]
  have hs1 : (h1 ++ [HObj.arr [u8 49, u8 43, u8 49] 0 true 5]).set h1.length (HObj.arr [u8 49, u8 43, u8 49] 0 false 5) = h1 ++ [HObj.arr [u8 49, u8 43, u8 49] 0 false 5] := by simp
  rw [hs1]
  have hb1 : RdB (h1 ++ [HObj.arr [u8 49, u8 43, u8 49] 0 false 5]) (.slice (some ⟨h1.length, 0, some 0⟩) 3 3) [49, 43, 49] := rdb_fresh (w := [49, 43, 49]) (by decide) (by decide) get_push
  have hg1 := hr1.mono (h' := h1 ++ [HObj.arr [u8 49, u8 43, u8 49] 0 false 5]) prefix_push
  repeat (first | refine cw_seq ?_ | refine cw_region ?_ | refine ow_nil ?_ | ((first | apply ow_cons | apply qw_cons); · simp only [push_cast, env, Nat.reduceEqDiff, reduceIte, Nat.reduceAdd, Nat.reduceMul, Nat.reduceLeDiff, reduceCtorEq, Nat.reduceSub, Int.reduceToNat] <;> exact rfl) | ((first | apply ow_spec | apply qw_spec); · simp only [push_cast, env, Nat.reduceEqDiff, reduceIte, Nat.reduceAdd, Nat.reduceMul, Nat.reduceLeDiff, reduceCtorEq, Nat.reduceSub, Int.reduceToNat] <;> exact rfl) | refine qw_nil ?_ | refine cw_block ?_ | refine cw_scope ?_ | refine cw_label ?_ | refine cw_skip ?_)
  refine ow_call (fn := Try.f15) (by simp only [push_cast, env, Nat.reduceEqDiff, reduceIte, Nat.reduceAdd, Nat.reduceMul, Nat.reduceLeDiff, reduceCtorEq, Nat.reduceSub, Int.reduceToNat] <;> exact rfl) rfl (by simp only [push_cast, env, Nat.reduceEqDiff, reduceIte, Nat.reduceAdd, Nat.reduceMul, Nat.reduceLeDiff, reduceCtorEq, Nat.reduceSub, Int.reduceToNat] <;> exact rfl) (by simp only [push_cast, env, Nat.reduceEqDiff, reduceIte, Nat.reduceAdd, Nat.reduceMul, Nat.reduceLeDiff, reduceCtorEq, Nat.reduceSub, Int.reduceToNat] <;> exact rfl) Try.func15 (by kernel_rfl) (by kernel_rfl) ?_
  rw [List.append_nil]
  refine (accepts_fw hg1 hb1 sum_wf).mono ?_
  rintro _ ha1 ⟨⟨b1, rfl, _, k1⟩, hpa1⟩
  have hb1t : b1 = true := (k1 (sum_fit _ (by decide))).2 sum_sum
  subst hb1t
  rw [sum_fit [49, 43, 49] (by decide)]
  clear hg1 hb1 hs1 hr1 hu1 k1
  repeat (first | refine cw_seq ?_ | refine cw_region ?_ | refine ow_nil ?_ | ((first | apply ow_cons | apply qw_cons); · simp only [push_cast, env, Nat.reduceEqDiff, reduceIte, Nat.reduceAdd, Nat.reduceMul, Nat.reduceLeDiff, reduceCtorEq, Nat.reduceSub, Int.reduceToNat] <;> exact rfl) | ((first | apply ow_spec | apply qw_spec); · simp only [push_cast, env, Nat.reduceEqDiff, reduceIte, Nat.reduceAdd, Nat.reduceMul, Nat.reduceLeDiff, reduceCtorEq, Nat.reduceSub, Int.reduceToNat] <;> exact rfl) | refine qw_nil ?_ | refine cw_block ?_ | refine cw_scope ?_ | refine cw_label ?_ | refine cw_skip ?_)
  refine ow_call (fn := Try.f35) (by simp only [push_cast, env, Nat.reduceEqDiff, reduceIte, Nat.reduceAdd, Nat.reduceMul, Nat.reduceLeDiff, reduceCtorEq, Nat.reduceSub, Int.reduceToNat] <;> exact rfl) rfl (by simp only [push_cast, env, Nat.reduceEqDiff, reduceIte, Nat.reduceAdd, Nat.reduceMul, Nat.reduceLeDiff, reduceCtorEq, Nat.reduceSub, Int.reduceToNat] <;> exact rfl) (by simp only [push_cast, env, Nat.reduceEqDiff, reduceIte, Nat.reduceAdd, Nat.reduceMul, Nat.reduceLeDiff, reduceCtorEq, Nat.reduceSub, Int.reduceToNat] <;> exact rfl) Try.func35 (by kernel_rfl) (by kernel_rfl) ?_
  refine sum_fw.mono ?_
  rintro v2 h2 ⟨hr2, hp2⟩
  obtain ⟨u2, rfl, hu2⟩ := id hr2
  obtain ⟨p2, c2, rfl⟩ := hu2.form
  refine ow_bslH (by simp only [push_cast, env, Nat.reduceEqDiff, reduceIte, Nat.reduceAdd, Nat.reduceMul, Nat.reduceLeDiff, reduceCtorEq, Nat.reduceSub, Int.reduceToNat] <;> exact rfl) (by simp only [push_cast, env, Nat.reduceEqDiff, reduceIte, Nat.reduceAdd, Nat.reduceMul, Nat.reduceLeDiff, reduceCtorEq, Nat.reduceSub, Int.reduceToNat] <;> exact rfl) ?_
  simp only [St.putO, St.put]
  refine ow_frz (cells := [u8 49, u8 43, u8 43]) (by simp only [push_cast, env, Nat.reduceEqDiff, reduceIte, Nat.reduceAdd, Nat.reduceMul, Nat.reduceLeDiff, reduceCtorEq, Nat.reduceSub, Int.reduceToNat] <;> exact rfl) rfl und_bytes und_u8 (by simp only [push_cast, env, Nat.reduceEqDiff, reduceIte, Nat.reduceAdd, Nat.reduceMul, Nat.reduceLeDiff, reduceCtorEq, Nat.reduceSub, Int.reduceToNat] <;> exact rfl) get_push (by decide) ?_
  simp only [St.putO, St.put]
  have hs2 : (h2 ++ [HObj.arr [u8 49, u8 43, u8 43] 0 true 5]).set h2.length (HObj.arr [u8 49, u8 43, u8 43] 0 false 5) = h2 ++ [HObj.arr [u8 49, u8 43, u8 43] 0 false 5] := by simp
  rw [hs2]
  have hb2 : RdB (h2 ++ [HObj.arr [u8 49, u8 43, u8 43] 0 false 5]) (.slice (some ⟨h2.length, 0, some 0⟩) 3 3) [49, 43, 43] := rdb_fresh (w := [49, 43, 43]) (by decide) (by decide) get_push
  have hg2 := hr2.mono (h' := h2 ++ [HObj.arr [u8 49, u8 43, u8 43] 0 false 5]) prefix_push
  repeat (first | refine cw_seq ?_ | refine cw_region ?_ | refine ow_nil ?_ | ((first | apply ow_cons | apply qw_cons); · simp only [push_cast, env, Nat.reduceEqDiff, reduceIte, Nat.reduceAdd, Nat.reduceMul, Nat.reduceLeDiff, reduceCtorEq, Nat.reduceSub, Int.reduceToNat] <;> exact rfl) | ((first | apply ow_spec | apply qw_spec); · simp only [push_cast, env, Nat.reduceEqDiff, reduceIte, Nat.reduceAdd, Nat.reduceMul, Nat.reduceLeDiff, reduceCtorEq, Nat.reduceSub, Int.reduceToNat] <;> exact rfl) | refine qw_nil ?_ | refine cw_block ?_ | refine cw_scope ?_ | refine cw_label ?_ | refine cw_skip ?_)
  refine ow_call (fn := Try.f17) (by simp only [push_cast, env, Nat.reduceEqDiff, reduceIte, Nat.reduceAdd, Nat.reduceMul, Nat.reduceLeDiff, reduceCtorEq, Nat.reduceSub, Int.reduceToNat] <;> exact rfl) rfl (by simp only [push_cast, env, Nat.reduceEqDiff, reduceIte, Nat.reduceAdd, Nat.reduceMul, Nat.reduceLeDiff, reduceCtorEq, Nat.reduceSub, Int.reduceToNat] <;> exact rfl) (by simp only [push_cast, env, Nat.reduceEqDiff, reduceIte, Nat.reduceAdd, Nat.reduceMul, Nat.reduceLeDiff, reduceCtorEq, Nat.reduceSub, Int.reduceToNat] <;> exact rfl) Try.func17 (by kernel_rfl) (by kernel_rfl) ?_
  rw [List.append_nil]
  refine (last_fw hg2 hb2 sum_wf).mono ?_
  rintro _ ha2 ⟨⟨n2, rfl, _, k2⟩, hpa2⟩
  have hn2 : n2 = 2 := by
    obtain ⟨m, S, hm, C, e⟩ := k2 (sum_fit _ (by decide))
    rw [sum_trim hm] at C
    obtain ⟨q1, q2⟩ := sum_last C.m
    rw [e]
    show lastK S 4 = 2
    unfold lastK
    rw [if_neg (by rw [q1]; decide)]
    unfold lastK
    rw [if_pos (List.length_pos_iff.2 q2)]
    rfl
  subst hn2
  rw [sum_fit [49, 43, 43] (by decide)]
  clear hg2 hb2 hs2 hr2 hu2 k2
  repeat (first | refine cw_seq ?_ | refine cw_region ?_ | refine ow_nil ?_ | ((first | apply ow_cons | apply qw_cons); · simp only [push_cast, env, Nat.reduceEqDiff, reduceIte, Nat.reduceAdd, Nat.reduceMul, Nat.reduceLeDiff, reduceCtorEq, Nat.reduceSub, Int.reduceToNat] <;> exact rfl) | ((first | apply ow_spec | apply qw_spec); · simp only [push_cast, env, Nat.reduceEqDiff, reduceIte, Nat.reduceAdd, Nat.reduceMul, Nat.reduceLeDiff, reduceCtorEq, Nat.reduceSub, Int.reduceToNat] <;> exact rfl) | refine qw_nil ?_ | refine cw_block ?_ | refine cw_scope ?_ | refine cw_label ?_ | refine cw_skip ?_)
  refine ow_call (fn := Try.f35) (by simp only [push_cast, env, Nat.reduceEqDiff, reduceIte, Nat.reduceAdd, Nat.reduceMul, Nat.reduceLeDiff, reduceCtorEq, Nat.reduceSub, Int.reduceToNat] <;> exact rfl) rfl (by simp only [push_cast, env, Nat.reduceEqDiff, reduceIte, Nat.reduceAdd, Nat.reduceMul, Nat.reduceLeDiff, reduceCtorEq, Nat.reduceSub, Int.reduceToNat] <;> exact rfl) (by simp only [push_cast, env, Nat.reduceEqDiff, reduceIte, Nat.reduceAdd, Nat.reduceMul, Nat.reduceLeDiff, reduceCtorEq, Nat.reduceSub, Int.reduceToNat] <;> exact rfl) Try.func35 (by kernel_rfl) (by kernel_rfl) ?_
  refine sum_fw.mono ?_
  rintro v3 h3 ⟨hr3, hp3⟩
  obtain ⟨u3, rfl, hu3⟩ := id hr3
  obtain ⟨p3, c3, rfl⟩ := hu3.form
  refine ow_bslH (by simp only [push_cast, env, Nat.reduceEqDiff, reduceIte, Nat.reduceAdd, Nat.reduceMul, Nat.reduceLeDiff, reduceCtorEq, Nat.reduceSub, Int.reduceToNat] <;> exact rfl) (by simp only [push_cast, env, Nat.reduceEqDiff, reduceIte, Nat.reduceAdd, Nat.reduceMul, Nat.reduceLeDiff, reduceCtorEq, Nat.reduceSub, Int.reduceToNat] <;> exact rfl) ?_
  simp only [St.putO, St.put]
  refine ow_frz (cells := [u8 49, u8 43, u8 49]) (by simp only [push_cast, env, Nat.reduceEqDiff, reduceIte, Nat.reduceAdd, Nat.reduceMul, Nat.reduceLeDiff, reduceCtorEq, Nat.reduceSub, Int.reduceToNat] <;> exact rfl) rfl und_bytes und_u8 (by simp only [push_cast, env, Nat.reduceEqDiff, reduceIte, Nat.reduceAdd, Nat.reduceMul, Nat.reduceLeDiff, reduceCtorEq, Nat.reduceSub, Int.reduceToNat] <;> exact rfl) get_push (by decide) ?_
  simp only [St.putO, St.put]
  have hs3 : (h3 ++ [HObj.arr [u8 49, u8 43, u8 49] 0 true 5]).set h3.length (HObj.arr [u8 49, u8 43, u8 49] 0 false 5) = h3 ++ [HObj.arr [u8 49, u8 43, u8 49] 0 false 5] := by simp
  rw [hs3]
  have hb3 : RdB (h3 ++ [HObj.arr [u8 49, u8 43, u8 49] 0 false 5]) (.slice (some ⟨h3.length, 0, some 0⟩) 3 3) [49, 43, 49] := rdb_fresh (w := [49, 43, 49]) (by decide) (by decide) get_push
  have hg3 := hr3.mono (h' := h3 ++ [HObj.arr [u8 49, u8 43, u8 49] 0 false 5]) prefix_push
  repeat (first | refine cw_seq ?_ | refine cw_region ?_ | refine ow_nil ?_ | ((first | apply ow_cons | apply qw_cons); · simp only [push_cast, env, Nat.reduceEqDiff, reduceIte, Nat.reduceAdd, Nat.reduceMul, Nat.reduceLeDiff, reduceCtorEq, Nat.reduceSub, Int.reduceToNat] <;> exact rfl) | ((first | apply ow_spec | apply qw_spec); · simp only [push_cast, env, Nat.reduceEqDiff, reduceIte, Nat.reduceAdd, Nat.reduceMul, Nat.reduceLeDiff, reduceCtorEq, Nat.reduceSub, Int.reduceToNat] <;> exact rfl) | refine qw_nil ?_ | refine cw_block ?_ | refine cw_scope ?_ | refine cw_label ?_ | refine cw_skip ?_)
  refine ow_call (fn := Try.f19) (by simp only [push_cast, env, Nat.reduceEqDiff, reduceIte, Nat.reduceAdd, Nat.reduceMul, Nat.reduceLeDiff, reduceCtorEq, Nat.reduceSub, Int.reduceToNat] <;> exact rfl) rfl (by simp only [push_cast, env, Nat.reduceEqDiff, reduceIte, Nat.reduceAdd, Nat.reduceMul, Nat.reduceLeDiff, reduceCtorEq, Nat.reduceSub, Int.reduceToNat] <;> exact rfl) (by simp only [push_cast, env, Nat.reduceEqDiff, reduceIte, Nat.reduceAdd, Nat.reduceMul, Nat.reduceLeDiff, reduceCtorEq, Nat.reduceSub, Int.reduceToNat] <;> exact rfl) Try.func19 (by kernel_rfl) (by kernel_rfl) ?_
  rw [List.append_nil]
  refine (spans_fw (nt := 0) hg3 hb3 sum_wf).mono ?_
  rintro _ ha3 ⟨k3, hpa3⟩
  have hf3 := sum_fit [49, 43, 49] (by decide)
  obtain ⟨x3, e3, rfl, ⟨q, _⟩ | ⟨_, q, _⟩ | ⟨_, _, _, rfl, hG3⟩⟩ := k3
  · exact (q hf3).elim
  · exact absurd q (by decide)
  have hl3 : spanAll (ntB sumG.rules 0 [49, 43, 49]) 3 4 = [(0, 1), (0, 3), (2, 3)] := by
    have hP : ∀ i j, i ≤ j → j ≤ 3 → ntB sumG.rules 0 [49, 43, 49] i j = sumY 0 i j := fun i j hij hj => by
      rw [Bool.eq_iff_iff, ntB_iff]
      exact sum_spans i j hij hj
    have e : spanAll (ntB sumG.rules 0 [49, 43, 49]) 3 4 = spanAll (sumY 0) 3 4 := spanAll_congr hP 4 (by omega)
    rw [e]
    decide
  rw [show ([49, 43, 49] : List Nat).length = 3 from rfl, hl3] at hG3
  obtain ⟨i3, v3, _, rfl, hg3'⟩ := hG3.mine (by decide)
  clear hg3 hb3 hs3 hr3 hu3
  repeat (first | refine cw_seq ?_ | refine cw_region ?_ | refine ow_nil ?_ | ((first | apply ow_cons | apply qw_cons); · simp only [push_cast, env, Nat.reduceEqDiff, reduceIte, Nat.reduceAdd, Nat.reduceMul, Nat.reduceLeDiff, reduceCtorEq, Nat.reduceSub, Int.reduceToNat] <;> exact rfl) | ((first | apply ow_spec | apply qw_spec); · simp only [push_cast, env, Nat.reduceEqDiff, reduceIte, Nat.reduceAdd, Nat.reduceMul, Nat.reduceLeDiff, reduceCtorEq, Nat.reduceSub, Int.reduceToNat] <;> exact rfl) | refine qw_nil ?_ | refine cw_block ?_ | refine cw_scope ?_ | refine cw_label ?_ | refine cw_skip ?_)
  refine ow_call (fn := Try.f24) (by simp only [push_cast, env, Nat.reduceEqDiff, reduceIte, Nat.reduceAdd, Nat.reduceMul, Nat.reduceLeDiff, reduceCtorEq, Nat.reduceSub, Int.reduceToNat] <;> exact rfl) rfl (by simp only [push_cast, env, Nat.reduceEqDiff, reduceIte, Nat.reduceAdd, Nat.reduceMul, Nat.reduceLeDiff, reduceCtorEq, Nat.reduceSub, Int.reduceToNat] <;> exact rfl) (by simp only [push_cast, env, Nat.reduceEqDiff, reduceIte, Nat.reduceAdd, Nat.reduceMul, Nat.reduceLeDiff, reduceCtorEq, Nat.reduceSub, Int.reduceToNat] <;> exact rfl) Try.func24 (by kernel_rfl) (by kernel_rfl) ?_
  rw [List.append_nil]
  have hf4 : fitE ⟨0, 0, []⟩ [] = 3 := by unfold fitE; rw [if_pos (by decide)]
  refine (chartbad_fw (g := ⟨0, 0, []⟩) (w := []) ⟨_, rfl, [], rfl, ⟨by decide, .inl ⟨.inl rfl, rfl, rfl⟩⟩, fun i r u h => by simp at h⟩ ⟨by decide, by decide, .inl ⟨.inl rfl, rfl⟩⟩ (by rw [hf4]; decide)).mono ?_
  rintro _ h4 ⟨rfl, rfl⟩
  rw [hf4]
  have hrun : rdH (runCells [(0, 1), (0, 3), (2, 3)]) 2 2 = some [i64 0, i64 3] := rfl
  repeat (first | refine cw_seq ?_ | refine cw_region ?_ | refine ow_nil ?_ | ((first | apply ow_cons | apply qw_cons); · simp only [push_cast, env, Nat.reduceEqDiff, reduceIte, Nat.reduceAdd, Nat.reduceMul, Nat.reduceLeDiff, reduceCtorEq, Nat.reduceSub, Int.reduceToNat, hg3', hrun, Int.reduceLE, Int.reduceLT, Int.reduceToNat, Nat.reduceMul, Int.reduceEq, List.length_cons, List.length_nil] <;> exact rfl) | ((first | apply ow_spec | apply qw_spec); · simp only [push_cast, env, Nat.reduceEqDiff, reduceIte, Nat.reduceAdd, Nat.reduceMul, Nat.reduceLeDiff, reduceCtorEq, Nat.reduceSub, Int.reduceToNat, hg3', hrun, Int.reduceLE, Int.reduceLT, Int.reduceToNat, Nat.reduceMul, Int.reduceEq, List.length_cons, List.length_nil] <;> exact rfl) | refine qw_nil ?_ | refine cw_block ?_ | refine cw_scope ?_ | refine cw_label ?_ | refine cw_skip ?_)
  refine cw_ret ?_
  exact ⟨_, (by simp only [push_cast, env, Nat.reduceEqDiff, reduceIte, Nat.reduceAdd, Nat.reduceMul, Nat.reduceLeDiff, reduceCtorEq, Nat.reduceSub, Int.reduceToNat] <;> exact rfl), rfl⟩
theorem alive7_fw {h : Heap} : FW env 14 [] h fun r h' => r = .bool true ∧ h' = h := by
  have k := alive7_run
  unfold FW at k ⊢
  obtain ⟨r, h', k1, rfl⟩ := k
  exact ⟨_, _, .fresh k1 (.pure1 rfl), rfl, rfl⟩
end Go.Proofs.Ytafncpgiibikcaa

/- Texts that are copied and that become strings. -/
namespace Go.Proofs.Ytafncpgiibikcaa
set_option linter.unusedSimpArgs false
set_option linter.unusedVariables false
set_option maxRecDepth 20000
open Go.RowKit Am Ty

theorem rd_point {cells : List Value} {off : Nat} {w : List Nat} (hw : 0 < w.length) (h : ∀ (i b : Nat), w[i]? = some b → cells[off + i]? = some (u8 b)) : rdH cells off w.length = some (w.map fun n : Nat => u8 n) := by
  have hl : off + w.length ≤ cells.length := by
    have := h (w.length - 1) w[w.length - 1] (List.getElem?_eq_getElem (by omega))
    have := (List.getElem?_eq_some_iff.1 this).1
    omega
  unfold rdH rdC
  rw [if_pos hl]
  congr 1
  apply List.ext_getElem?
  intro i
  rw [List.getElem?_map, List.getElem?_take]
  split
  · rename_i hi
    rw [List.getElem?_drop, h i w[i] (List.getElem?_eq_getElem hi), List.getElem?_eq_getElem hi]
    rfl
  · rename_i hi
    rw [List.getElem?_eq_none (by omega)]
    rfl
end Go.Proofs.Ytafncpgiibikcaa

/- Texts that a row reads. -/
namespace Go.Proofs.Ytafncpgiibikcaa
set_option linter.unusedSimpArgs false
set_option linter.unusedVariables false
set_option maxRecDepth 20000
open Go.ChangeShapes Go.WideShapes Go.ChangeAt Go.RowKit Am Ty

def textTs : List TypeId := [24, 3, 22, 46, 44, 43, 41, 39, 25, 5]
set_option maxRecDepth 100000 in
theorem textTs_ok : textTs.all (kindB Try.prog textTs) = true := by kernel_rfl
theorem rd_u8 {h : Heap} {n : Nat} {vs : List Value} (k : RdT Try.prog h n 5 vs) : ∃ b : Nat, vs = [u8 b] ∧ b < 256 := by
  cases n with
  | zero => exact k.elim
  | succ n =>
    unfold RdT at k
    rw [show Try.prog.underlying 5 = some (.int .u8) by kernel_rfl] at k
    obtain ⟨i, h1, h2⟩ := k
    simp only [Lit.wf, Bool.and_eq_true, decide_eq_true_eq] at h2
    have e1 : IntKind.u8.min = 0 := by decide
    have e2 : IntKind.u8.max = 255 := by decide
    refine ⟨i.toNat, ?_, by omega⟩
    rw [h1, show ((i.toNat : Nat) : Int) = i by omega]
theorem flat_u8 {f : Nat → Value} : ∀ w : List Nat, w.flatMap (fun n => [f n]) = w.map f
  | [] => rfl
  | b :: w => by rw [List.flatMap_cons, flat_u8 w]; rfl
theorem rd_bytes {h : Heap} {n : Nat} {vs : List Value} (k : RdT Try.prog h n 25 vs) : ∃ u w, vs = [u] ∧ RdB h u w := by
  cases n with
  | zero => exact k.elim
  | succ n =>
    unfold RdT at k
    rw [show Try.prog.underlying 25 = some (.slice 5) by kernel_rfl] at k
    rcases k with rfl | rfl | ⟨id, len, c, cells, rfl, hb, hid, he⟩
    · exact ⟨_, [], rfl, by decide, by decide, .inl ⟨.inl rfl, rfl⟩⟩
    · exact ⟨_, [], rfl, by decide, by decide, .inl ⟨.inr rfl, rfl⟩⟩
    · obtain ⟨w, rfl, rfl, hq⟩ := es_map (f := fun n : Nat => [u8 n]) (Q := fun n => n < 256) (fun vs h => rd_u8 h) he
      rw [show Try.prog.bytesOf 5 = 1 by kernel_rfl, Nat.mul_one] at hb
      rw [flat_u8] at hid
      exact ⟨_, w, rfl, Nat.le_trans hb (by decide), hq, .inr ⟨id, 0, 0, false, c, _, rfl, hid, fun i b hi => by rw [Nat.zero_add, List.getElem?_map, hi]; rfl⟩⟩
theorem rda_bytes {h : Heap} {a : Value} (k : RdA Try.prog h 25 a) : ∃ w : List Nat, RdB h a w := by
  obtain ⟨n, vs, k, ⟨h1, _⟩ | ⟨_, rfl⟩⟩ := k
  · have : isAggT Try.prog 25 = false := by kernel_rfl
    rw [this] at h1
    cases h1
  · obtain ⟨u, w, e, hw⟩ := rd_bytes k
    exact ⟨w, by rw [show a = u by simpa using e]; exact hw⟩
theorem rda_u8 {h : Heap} {a : Value} (k : RdA Try.prog h 5 a) : ∃ i : Nat, a = u8 i ∧ i < 256 := by
  obtain ⟨n, vs, k, ⟨h1, _⟩ | ⟨_, rfl⟩⟩ := k
  · have : isAggT Try.prog 5 = false := by kernel_rfl
    rw [this] at h1
    cases h1
  · obtain ⟨i, e, hi⟩ := rd_u8 k
    exact ⟨i, by simpa using e, hi⟩
end Go.Proofs.Ytafncpgiibikcaa

/- EarleySpans, as the abstract machine runs it. -/
namespace Go.Proofs.Ytafncpgiibikcaa
set_option linter.unusedSimpArgs false
set_option linter.unusedVariables false
set_option maxRecDepth 20000
open Go.RowKit Am Ty

theorem spanAll_small {P : Nat → Nat → Bool} {n : Nat} (hn : n ≤ 512) : (spanAll P n (n + 1)).length ≤ 263169 := by
  have h1 := spanAll_len (P := P) (n := n) (n + 1)
  have h2 : (n + 1) * (n + 1) ≤ 513 * 513 := Nat.mul_le_mul (by omega) (by omega)
  omega
/-- what is told of spans, as two lists -/
theorem SpansR.runs {g : Gram} {w : List Nat} {nt : Int} {h h' : Heap} {r : Value} (k : SpansR g w nt h r h') : ∃ x e l, r = .tuple #[x, i64 e] ∧ RdRuns h' x l ∧
    ((fitE g w ≠ 0 ∧ l = [] ∧ e = fitE g w) ∨ (fitE g w = 0 ∧ (nt < 0 ∨ g.nts ≤ nt) ∧ l = [] ∧ e = 1) ∨ (fitE g w = 0 ∧ 0 ≤ nt ∧ nt < g.nts ∧ e = 0 ∧ l = spanAll (ntB g.rules nt w) w.length (w.length + 1))) := by
  obtain ⟨x, e, rfl, ⟨h1, rfl, rfl⟩ | ⟨h1, h2, rfl, rfl⟩ | ⟨h1, h2, h3, rfl, hG⟩⟩ := k
  · exact ⟨nilS, _, [], rfl, ⟨by simp, .inl ⟨.inl rfl, rfl, rfl⟩⟩, .inl ⟨h1, rfl, rfl⟩⟩
  · exact ⟨nilS, _, [], rfl, ⟨by simp, .inl ⟨.inl rfl, rfl, rfl⟩⟩, .inr (.inl ⟨h1, h2, rfl, rfl⟩)⟩
  · have := spanAll_small (P := ntB g.rules nt w) (fitE_ok.1 h1).2
    exact ⟨x, _, _, rfl, hG.sl (b := 16) (by omega), .inr (.inr ⟨h1, h2, h3, rfl, rfl⟩)⟩
end Go.Proofs.Ytafncpgiibikcaa

/- EarleyWhole, as the abstract machine runs it. -/
namespace Go.Proofs.Ytafncpgiibikcaa
set_option linter.unusedSimpArgs false
set_option linter.unusedVariables false
set_option maxRecDepth 20000
open Go.RowKit Am Ty

theorem one_callE {all : Array Oper} {o : Oper} {s : St} {c : Call} {f : FuncId} {cap args : List Value} {fn : Func} {v : Value} {h' : Heap} (hw : wantedA all o s = some true) (ho : o.op = .call c) (hc : calleeA s c.callee = some (f, cap)) (ha : evs s c.args.toList = some args)
    (hf : env.P.funcs[f]? = some fn) (hnm : (fn.name == "runtime.NumGoroutine") = false) (hb : fn.body.isNone = false) (k : Ev env (.call f (args ++ cap) s.h v h')) : One env all o s (.sl (.val v)) h' := .call hw ho hc ha hf hnm hb k
end Go.Proofs.Ytafncpgiibikcaa

/- Plain facts: beginnings of texts. -/
namespace Go.Proofs.Ytafncpgiibikcaa
set_option linter.unusedSimpArgs false
set_option linter.unusedVariables false

/-- a symbol that has a text -/
def GoodS (g : Gram) (s : KSym) : Prop := (s.nt < 0 → goodT s) ∧ (0 ≤ s.nt → goodD g s.nt)
/-- a nonterminal has a text that begins with the rest of w -/
inductive Bg (g : Gram) (w : List Nat) : Int → Nat → Prop
  | full (r : Rule) (d i : Nat) : r ∈ g.rules → d ≤ r.rhs.length → Sq g.rules w (r.rhs.take d) i w.length → (∀ s ∈ r.rhs.drop d, GoodS g s) → Bg g w r.lhs i
  | part (r : Rule) (d i k : Nat) (s : KSym) : r ∈ g.rules → r.rhs[d]? = some s → 0 ≤ s.nt → (∀ s ∈ r.rhs.drop (d + 1), GoodS g s) → Sq g.rules w (r.rhs.take d) i k → Bg g w s.nt k → Bg g w r.lhs i
theorem tx_good {g : Gram} {l : List KSym} {u : List Nat} (h : Tx g.rules l u) : ∀ s ∈ l, GoodS g s := by
  induction h with
  | nil => intro s hs; cases hs
  | term s l b u h1 h2 _ ih =>
    intro q hq
    rcases List.mem_cons.1 hq with rfl | hq
    · exact ⟨fun _ e => (by rw [e, zero_has] at h2; cases h2), fun h => by omega⟩
    · exact ih q hq
  | non s l r u v h1 h2 h3 h4 _ ih1 ih2 =>
    intro q hq
    rcases List.mem_cons.1 hq with rfl | hq
    · exact ⟨fun h => by omega, fun _ => by
        rw [← h3]
        exact .mk r h2 (fun s hs h0 => (ih1 s hs).1 h0) (fun s hs h0 => (ih1 s hs).2 h0)⟩
    · exact ih2 q hq
theorem sq_good {g : Gram} {w : List Nat} {l : List KSym} {i j : Nat} (h : Sq g.rules w l i j) : ∀ s ∈ l, GoodS g s := tx_good h.2.2
theorem good_of {g : Gram} {r : Rule} (hr : r ∈ g.rules) (h : ∀ s ∈ r.rhs, GoodS g s) : goodD g r.lhs := .mk r hr (fun s hs h0 => (h s hs).1 h0) (fun s hs h0 => (h s hs).2 h0)
theorem mem_cut {l : List KSym} {d : Nat} {s q : KSym} (hs : l[d]? = some s) (hq : q ∈ l) : q ∈ l.take d ∨ q = s ∨ q ∈ l.drop (d + 1) := by
  obtain ⟨h1, h2⟩ := List.getElem?_eq_some_iff.1 hs
  have : l = l.take d ++ (s :: l.drop (d + 1)) := by rw [← h2, ← List.drop_eq_getElem_cons h1, List.take_append_drop]
  rw [this, List.mem_append, List.mem_cons] at hq
  exact hq
theorem mem_cut2 {l : List KSym} {d : Nat} {q : KSym} (hq : q ∈ l) : q ∈ l.take d ∨ q ∈ l.drop d := by
  rw [← List.take_append_drop d l, List.mem_append] at hq
  exact hq
theorem Bg.good {g : Gram} {w : List Nat} {A : Int} {i : Nat} (h : Bg g w A i) : goodD g A := by
  induction h with
  | full r d i h1 h2 h3 h4 =>
    exact good_of h1 fun s hs => (mem_cut2 hs).elim (sq_good h3 s) (h4 s)
  | part r d i k s h1 h2 h3 h4 h5 _ ih =>
    refine good_of h1 fun q hq => ?_
    rcases mem_cut h2 hq with h | rfl | h
    · exact sq_good h5 q h
    · exact ⟨fun h => by omega, fun _ => ih⟩
    · exact h4 q h
section
variable {g : Gram} {m : List Bool} {w : List Nat}
theorem goodS_iff (R : RightS g) (hm : Marks g.nts (goodD g) m) {s : KSym} {r : Rule} (hr : r ∈ g.rules) (hs : s ∈ r.rhs) : goodP s m = true ↔ GoodS g s := by
  rw [goodP_ok]
  have h := (R.r r hr).2.2.2 s hs
  unfold GoodS
  constructor
  · rintro ⟨h1, h2⟩
    exact ⟨h1, fun h0 => (hm.2 s.nt h0 (by omega)).1 (h2 h0)⟩
  · rintro ⟨h1, h2⟩
    exact ⟨h1, fun h0 => (hm.2 s.nt h0 (by omega)).2 (h2 h0)⟩
theorem mem_tr (R : RightS g) (hm : Marks g.nts (goodD g) m) {r : Rule} : r ∈ (trG g m).rules ↔ r ∈ g.rules ∧ ∀ s ∈ r.rhs, GoodS g s := by
  unfold trG
  rw [List.mem_filter]
  constructor
  · rintro ⟨h1, h2⟩
    refine ⟨h1, fun s hs => (goodS_iff R hm h1 hs).1 ?_⟩
    unfold goodR at h2
    exact List.all_eq_true.1 h2 s hs
  · rintro ⟨h1, h2⟩
    refine ⟨h1, ?_⟩
    unfold goodR
    exact List.all_eq_true.2 fun s hs => (goodS_iff R hm h1 hs).2 (h2 s hs)
theorem tx_tr (R : RightS g) (hm : Marks g.nts (goodD g) m) {l : List KSym} {u : List Nat} (h : Tx g.rules l u) : Tx (trG g m).rules l u := by
  induction h with
  | nil => exact .nil
  | term s l b u h1 h2 _ ih => exact .term s l b u h1 h2 ih
  | non s l r u v h1 h2 h3 h4 h5 ih1 ih2 => exact .non s l r u v h1 ((mem_tr R hm).2 ⟨h2, tx_good h4⟩) h3 ih1 ih2
theorem tx_untr {l : List KSym} {u : List Nat} (h : Tx (trG g m).rules l u) : Tx g.rules l u := h.mono fun r hr => (List.mem_filter.1 hr).1
theorem sq_tr (R : RightS g) (hm : Marks g.nts (goodD g) m) {l : List KSym} {i j : Nat} : Sq (trG g m).rules w l i j ↔ Sq g.rules w l i j :=
  ⟨fun h => ⟨h.1, h.2.1, tx_untr h.2.2⟩, fun h => ⟨h.1, h.2.1, tx_tr R hm h.2.2⟩⟩
theorem wt_bg (R : RightS g) (hm : Marks g.nts (goodD g) m) {A : Int} {i : Nat} (h : Wt (trG g m) w A i) : Bg g w A i → Bg g w g.start 0 := by
  induction h with
  | start => exact id
  | step r d i j s h1 h2 h3 h4 h5 ih =>
    obtain ⟨k1, k2⟩ := (mem_tr R hm).1 h1
    exact fun hb => ih (.part r d i j s k1 h3 h4 (fun q hq => k2 q (List.mem_of_mem_drop hq)) ((sq_tr R hm).1 h5) hb)
theorem bg_it (R : RightS g) (hm : Marks g.nts (goodD g) m) {A : Int} {i : Nat} (h : Bg g w A i) : Wt (trG g m) w A i → ∃ x, It (trG g m) w w.length x := by
  induction h with
  | full r d i h1 h2 h3 h4 =>
    intro hw
    have hr : r ∈ (trG g m).rules := (mem_tr R hm).2 ⟨h1, fun s hs => (mem_cut2 hs).elim (sq_good h3 s) (h4 s)⟩
    obtain ⟨q, hq⟩ := List.getElem?_of_mem hr
    exact ⟨⟨q, d, i⟩, It.iff.2 ⟨r, hq, h2, hw, (sq_tr R hm).2 h3⟩⟩
  | part r d i k s h1 h2 h3 h4 h5 hb ih =>
    intro hw
    have hr : r ∈ (trG g m).rules := (mem_tr R hm).2 ⟨h1, fun q hq => by
      rcases mem_cut h2 hq with h | rfl | h
      · exact sq_good h5 q h
      · exact ⟨fun h => by omega, fun _ => hb.good⟩
      · exact h4 q h⟩
    exact ih (.step r d i k s hr hw h2 h3 ((sq_tr R hm).2 h5))
/-- there are items at the end just if Start has a text that begins so -/
theorem viable (R : RightS g) (hm : Marks g.nts (goodD g) m) : (∃ x, It (trG g m) w w.length x) ↔ Bg g w g.start 0 := by
  constructor
  · rintro ⟨x, hx⟩
    obtain ⟨r, h1, h2, h3, h4⟩ := hx.sound
    obtain ⟨k1, k2⟩ := (mem_tr R hm).1 (List.mem_of_getElem? h1)
    exact wt_bg R hm h3 (.full r x.dot x.frm k1 h2 ((sq_tr R hm).1 h4) fun q hq => k2 q (List.mem_of_mem_drop hq))
  · exact fun h => bg_it R hm h .start
end
theorem It.cut {g : Gram} {w : List Nat} {j : Nat} {x : Item} (h : It g w j x) : ∀ k, j ≤ k → It g (w.take k) j x := by
  induction h with
  | init q r h1 h2 => exact fun k _ => .init q r h1 h2
  | pred j x r s q r' h1 h2 h3 h4 h5 h6 ih => exact fun k hk => .pred j x r s q r' (ih k hk) h2 h3 h4 h5 h6
  | scan j x r s b h1 h2 h3 h4 h5 h6 ih => exact fun k hk => .scan j x r s b (ih k (by omega)) h2 h3 h4 (by rw [List.getElem?_take, if_pos (by omega)]; exact h5) h6
  | comp j x r y r' s h1 h2 h3 h4 h5 h6 h7 h8 ih1 ih2 =>
    intro k hk
    have hf : x.frm ≤ j := by obtain ⟨_, _, _, _, q⟩ := h1.sound; exact q.1
    exact .comp j x r y r' s (ih1 k hk) h2 h3 (ih2 k (by omega)) h5 h6 h7 h8
theorem It.uncut {g : Gram} {w : List Nat} {k j : Nat} {x : Item} (h : It g (w.take k) j x) : It g w j x := by
  induction h with
  | init q r h1 h2 => exact .init q r h1 h2
  | pred j x r s q r' h1 h2 h3 h4 h5 h6 ih => exact .pred j x r s q r' ih h2 h3 h4 h5 h6
  | scan j x r s b h1 h2 h3 h4 h5 h6 ih =>
    refine .scan j x r s b ih h2 h3 h4 ?_ h6
    rw [List.getElem?_take] at h5
    split at h5
    · exact h5
    · cases h5
  | comp j x r y r' s h1 h2 h3 h4 h5 h6 h7 h8 ih1 ih2 => exact .comp j x r y r' s ih1 h2 h3 ih2 h5 h6 h7 h8
theorem It.last {g : Gram} {w : List Nat} {j : Nat} {x : Item} (h : It g w j x) : ∀ k, j = k + 1 → ∃ y r s b, It g w k y ∧ g.rules[y.rule]? = some r ∧ r.rhs[y.dot]? = some s ∧ s.nt < 0 ∧ w[k]? = some b ∧ s.set.has b = true := by
  induction h with
  | init q r h1 h2 => intro k hk; omega
  | pred j x r s q r' h1 h2 h3 h4 h5 h6 ih => exact ih
  | scan j x r s b h1 h2 h3 h4 h5 h6 ih =>
    intro k hk
    obtain rfl : j = k := by omega
    exact ⟨x, r, s, b, h1, h2, h3, h4, h5, h6⟩
  | comp j x r y r' s h1 h2 h3 h4 h5 h6 h7 h8 ih1 ih2 => exact ih1
theorem next_viable {g : Gram} {m : List Bool} {w : List Nat} {S : List (List Item)} (R : RightS g) (hm : Marks g.nts (goodD g) m) (C : ChartOK (trG g m) w S) {b : Nat} : (∃ x ∈ gs S w.length, NextB (trG g m) x b) ↔ Bg g (w ++ [b]) g.start 0 := by
  rw [← viable R hm, List.length_append, List.length_singleton]
  have e : (w ++ [b]).take w.length = w := by rw [List.take_left' rfl]
  have hb : (w ++ [b])[w.length]? = some b := by simp
  constructor
  · rintro ⟨x, hx, r, s, h1, h2, h3, h4⟩
    have hx' : It (trG g m) ((w ++ [b]).take w.length) w.length x := by rw [e]; exact (C.m _ x).1 hx
    exact ⟨_, .scan w.length x r s b hx'.uncut h1 h2 h3 hb h4⟩
  · rintro ⟨x, hx⟩
    obtain ⟨y, r, s, c, h1, h2, h3, h4, h5, h6⟩ := hx.last w.length rfl
    rw [hb] at h5
    cases h5
    have := h1.cut w.length (Nat.le_refl _)
    rw [e] at this
    exact ⟨y, (C.m _ y).2 this, r, s, h2, h3, h4, h6⟩
end Go.Proofs.Ytafncpgiibikcaa

/- Plain facts: the longest beginning; what goes on behind a beginning. -/
namespace Go.Proofs.Ytafncpgiibikcaa
set_option linter.unusedSimpArgs false
set_option linter.unusedVariables false

/-- the longest beginning of w that begins a text -/
def LastP (g : Gram) (w : List Nat) (n : Int) : Prop :=
  (n = -1 ∧ ∀ j, j ≤ w.length → ¬ Bg g (w.take j) g.start 0) ∨ ∃ j, j ≤ w.length ∧ n = j ∧ Bg g (w.take j) g.start 0 ∧ ∀ i, j < i → i ≤ w.length → ¬ Bg g (w.take i) g.start 0
theorem LastP.eq {g : Gram} {w : List Nat} {a b : Int} (h1 : LastP g w a) (h2 : LastP g w b) : a = b := by
  rcases h1 with ⟨h1, k1⟩ | ⟨j, h1, rfl, h3, h4⟩ <;> rcases h2 with ⟨h2, k2⟩ | ⟨i, h2, rfl, k3, k4⟩
  · omega
  · exact absurd k3 (k1 i h2)
  · exact absurd h3 (k2 j h1)
  · rcases Nat.lt_trichotomy i j with h | h | h
    · exact absurd h3 (k4 j h h1)
    · omega
    · exact absurd k3 (h4 i h h2)
def ByteW (v : List Nat) : Prop := ∀ b ∈ v, b < 256
theorem ByteW.nil : ByteW [] := by simp [ByteW]
theorem ByteW.cons {b : Nat} {v : List Nat} (h : b < 256) (hv : ByteW v) : ByteW (b :: v) := fun x hx => (List.mem_cons.1 hx).elim (fun e => e ▸ h) (hv x)
theorem ByteW.app {u v : List Nat} (hu : ByteW u) (hv : ByteW v) : ByteW (u ++ v) := fun x hx => (List.mem_append.1 hx).elim (hu x) (hv x)
end Go.Proofs.Ytafncpgiibikcaa

/- The reference's beginnings: rest. -/
namespace Go.Proofs.Ytafncpgiibikcaa
set_option linter.unusedSimpArgs false
set_option linter.unusedVariables false
set_option maxRecDepth 20000
open Go.RowKit Am Ty

/-- marks that are read -/
def MkR (h : Heap) (v : Value) (m : List Bool) : Prop := ∃ id ver own c, v = .slice (some ⟨id, 0, some ver⟩) m.length c ∧ h[id]? = some (.arr (m.map .bool) ver own 4)
theorem MkR.mono {h h' : Heap} {v : Value} {m : List Bool} (r : MkR h v m) (hp : h <+: h') : MkR h' v m := by
  obtain ⟨id, ver, own, c, h1, h2⟩ := r
  exact ⟨id, ver, own, c, h1, getElem?_of_prefix hp h2⟩
theorem MkR.of {h h' : Heap} {v : Value} {m : List Bool} (r : MineB h h' v m) : MkR h' v m := by
  obtain ⟨id, ver, h1, h2, h3⟩ := r
  exact ⟨id, ver, true, _, h2, h3⟩
theorem mk_get {m : List Bool} {i : Nat} (hi : i < m.length) : (m.map Value.bool)[i]? = some (.bool (m.getD i false)) := by
  rw [List.getElem?_map, List.getD_eq_getElem?_getD, List.getElem?_eq_getElem hi]
  rfl
theorem syms_slice {h : Heap} {v : Value} {l : List KSym} {d : Nat} (hr : RdSyms h v l) (hd : d ≤ l.length) :
    ∃ v', (∀ (s : St) (x : Operand) (oh : Option Operand), s.h = h → ev s x = some v → evo s l.length oh = some (d : Int) → sliceV env s 44 x none oh = some v') ∧ RdSymsP h v' (l.take d) := by
  have hu : env.P.underlying 44 = some (.slice 43) := by kernel_rfl
  have ht : tinfo env.P 43 = _ := ti43
  have hlen : (l.take d).length = d := by rw [List.length_take]; omega
  have hle := RdSyms.le hr
  rcases hr.2 with ⟨k | k, hl0, _⟩ | ⟨id, ver, own, c, k1, k2⟩
  · subst k
    have hl : l = [] := List.eq_nil_of_length_eq_zero hl0
    subst hl
    have h0 : d = 0 := by simpa using hd
    subst h0
    refine ⟨.slice none 0 0, fun s x oh hh hx hz => ?_, by simp, ⟨_, _, rfl⟩, fun hi => by simp at hi⟩
    unfold sliceV
    simp only [hu, hx, ht, evo]
    simp only [List.length_nil] at hz
    unfold evo at hz
    rw [hz]
    rfl
  · subst k
    have hl : l = [] := List.eq_nil_of_length_eq_zero hl0
    subst hl
    have h0 : d = 0 := by simpa using hd
    subst h0
    refine ⟨.slice (some ⟨0, 0, none⟩) 0 0, fun s x oh hh hx hz => ?_, by simp, ⟨_, _, rfl⟩, fun hi => by simp at hi⟩
    unfold sliceV
    simp only [hu, hx, ht, evo]
    simp only [List.length_nil] at hz
    unfold evo at hz
    rw [hz]
    rfl
  · subst k1
    refine ⟨.slice (some ⟨id, 0, some ver⟩) d d, fun s x oh hh hx hz => ?_, by omega, ⟨_, _, by rw [hlen]⟩, fun {i} hi => ?_⟩
    · subst hh
      unfold sliceV
      have h0 : evo s 0 none = some 0 := rfl
      simp only [hu, hx, ht, h0, hz]
      rw [if_pos ⟨by omega, by omega, by omega⟩]
      simp only [k2, and_self, if_true, adAdd]
      rw [show ((d : Int) - 0).toNat = d by omega]
      rfl
    · have hil : i < l.length := by omega
      refine ⟨id, ver, own, d, _, by rw [hlen], k2, ?_⟩
      rw [List.getElem_take]
      exact syms_get hil
theorem goodP_nt {s : KSym} {m : List Bool} (h0 : 0 ≤ s.nt) : goodP s m = m.getD s.nt.toNat false := by unfold goodP bit; rw [if_neg (by omega)]
theorem goodP_t {s : KSym} {m : List Bool} (h0 : s.nt < 0) : goodP s m = decide (s.set ≠ BSet.zero) := by unfold goodP; rw [if_pos h0]
theorem all_drop {α : Type} {f : α → Bool} {l : List α} {i : Nat} (hi : i < l.length) : (l.drop i).all f = (f l[i] && (l.drop (i + 1)).all f) := by
  rw [List.drop_eq_getElem_cons hi, List.all_cons]
set_option maxHeartbeats 4000000 in
theorem rest_fw {h : Heap} {vl vg : Value} {l : List KSym} {m : List Bool} {d : Nat} (hl : RdSyms h vl l) (hg : MkR h vg m) (hs : ∀ s ∈ l, s.nt < (m.length : Int)) (hd : d ≤ l.length) :
    FW env 61 [vl, i64 d, vg] h fun r h' => r = .bool ((l.drop d).all fun s => goodP s m) ∧ h' = h := by
  obtain ⟨p, c, rfl⟩ := SlR.form hl
  have hle := RdSyms.le hl
  obtain ⟨idg, verg, owng, cg, rfl, hgg⟩ := hg
  refine fw_enter (fn := Try.f61) Try.func61 rfl (by kernel_rfl) (by simp [Try.ntmps61]) ?_; simp only [push_cast]
  repeat (first | refine cw_seq ?_ | refine cw_region ?_ | refine ow_nil ?_ | ((first | apply ow_cons | apply qw_cons); · simp only [push_cast, env, Nat.reduceEqDiff, reduceIte, Nat.reduceAdd, Nat.reduceMul, Nat.reduceLeDiff, reduceCtorEq, Nat.reduceSub, Int.reduceToNat] <;> exact rfl) | ((first | apply ow_spec | apply qw_spec); · simp only [push_cast, env, Nat.reduceEqDiff, reduceIte, Nat.reduceAdd, Nat.reduceMul, Nat.reduceLeDiff, reduceCtorEq, Nat.reduceSub, Int.reduceToNat] <;> exact rfl) | refine qw_nil ?_ | refine cw_block ?_ | refine cw_scope ?_ | refine cw_label ?_ | refine cw_skip ?_)
  refine cw_wh (fun i : Nat => l.length + 1 - i) (fun i => [(0, .val (.slice p l.length c)), (2, .val (.slice (some ⟨idg, 0, some verg⟩) m.length cg)), (7, .val (i64 i))]) (fun _ => h) (fun i => d ≤ i ∧ i ≤ l.length ∧ (l.drop d).all (fun s => goodP s m) = (l.drop i).all (fun s => goodP s m)) d (by simp only [push_cast, SubL, fget, Nat.reduceEqDiff, reduceIte]) rfl ⟨Nat.le_refl _, hd, rfl⟩ ?_
  rintro i ⟨hdi, hil, hE⟩
  by_cases hlt : i < l.length
  · obtain ⟨id, ver, own, c', cells, hv, hid, hrd⟩ := RdSyms.at hl hlt
    cases hv
    have e1 := rng hlt
    have e2 := inc hlt hle
    have e3 := lt_dec hlt
    have hm := hs _ (List.getElem_mem hlt)
    have hst := all_drop (f := fun s => goodP s m) hlt
    generalize l[i] = s at *
    by_cases h0 : 0 ≤ s.nt
    · have d0 : decide (0 ≤ s.nt) = true := decide_eq_true h0
      have d1 : decide (s.nt < 0) = false := decide_eq_false (by omega)
      obtain ⟨a, ha⟩ : ∃ a : Nat, s.nt = a := ⟨s.nt.toNat, by omega⟩
      have hga := goodP_nt (m := m) h0
      rw [ha] at d0 d1 hrd hm
      rw [ha, Int.toNat_natCast] at hga
      have hal : a < m.length := by omega
      have r1 := rng hal
      have g1 := mk_get hal
      rw [← hga] at g1
      cases hb : goodP s m with
      | true =>
        rw [hb] at g1
        rw [hb, Bool.true_and] at hst
        repeat (first | refine cw_seq ?_ | refine cw_region ?_ | refine ow_nil ?_ | ((first | apply ow_cons | apply qw_cons); · simp only [push_cast, env, Nat.reduceEqDiff, reduceIte, Nat.reduceAdd, Nat.reduceMul, Nat.reduceLeDiff, reduceCtorEq, Nat.reduceSub, Int.reduceToNat, e3] <;> exact rfl) | ((first | apply ow_spec | apply qw_spec); · simp only [push_cast, env, Nat.reduceEqDiff, reduceIte, Nat.reduceAdd, Nat.reduceMul, Nat.reduceLeDiff, reduceCtorEq, Nat.reduceSub, Int.reduceToNat, e3] <;> exact rfl) | refine qw_nil ?_ | refine cw_block ?_ | refine cw_scope ?_ | refine cw_label ?_ | refine cw_skip ?_)
        refine cw_condT (by simp only [push_cast, env, Nat.reduceEqDiff, reduceIte, Nat.reduceAdd, Nat.reduceMul, Nat.reduceLeDiff, reduceCtorEq, Nat.reduceSub, Int.reduceToNat] <;> exact rfl) ?_
        repeat (first | refine cw_seq ?_ | refine cw_region ?_ | refine ow_nil ?_ | ((first | apply ow_cons | apply qw_cons); · simp only [push_cast, env, Nat.reduceEqDiff, reduceIte, Nat.reduceAdd, Nat.reduceMul, Nat.reduceLeDiff, reduceCtorEq, Nat.reduceSub, Int.reduceToNat, hid, hrd, e1, d0, d1, hgg, r1, g1, Nat.mul_one] <;> exact rfl) | ((first | apply ow_spec | apply qw_spec); · simp only [push_cast, env, Nat.reduceEqDiff, reduceIte, Nat.reduceAdd, Nat.reduceMul, Nat.reduceLeDiff, reduceCtorEq, Nat.reduceSub, Int.reduceToNat, hid, hrd, e1, d0, d1, hgg, r1, g1, Nat.mul_one] <;> exact rfl) | refine qw_nil ?_ | refine cw_block ?_ | refine cw_scope ?_ | refine cw_label ?_ | refine cw_skip ?_)
        refine cw_condF (by simp only [push_cast, env, Nat.reduceEqDiff, reduceIte, Nat.reduceAdd, Nat.reduceMul, Nat.reduceLeDiff, reduceCtorEq, Nat.reduceSub, Int.reduceToNat] <;> exact rfl) ?_
        repeat (first | refine cw_seq ?_ | refine cw_region ?_ | refine ow_nil ?_ | ((first | apply ow_cons | apply qw_cons); · simp only [push_cast, env, Nat.reduceEqDiff, reduceIte, Nat.reduceAdd, Nat.reduceMul, Nat.reduceLeDiff, reduceCtorEq, Nat.reduceSub, Int.reduceToNat, e2] <;> exact rfl) | ((first | apply ow_spec | apply qw_spec); · simp only [push_cast, env, Nat.reduceEqDiff, reduceIte, Nat.reduceAdd, Nat.reduceMul, Nat.reduceLeDiff, reduceCtorEq, Nat.reduceSub, Int.reduceToNat, e2] <;> exact rfl) | refine qw_nil ?_ | refine cw_block ?_ | refine cw_scope ?_ | refine cw_label ?_ | refine cw_skip ?_)
        exact ⟨i + 1, by dsimp only; omega, (by simp only [push_cast, SubL, fget, Nat.reduceEqDiff, reduceIte]), rfl, by omega, by omega, hE.trans hst⟩
      | false =>
        rw [hb] at g1
        rw [hb, Bool.false_and] at hst
        repeat (first | refine cw_seq ?_ | refine cw_region ?_ | refine ow_nil ?_ | ((first | apply ow_cons | apply qw_cons); · simp only [push_cast, env, Nat.reduceEqDiff, reduceIte, Nat.reduceAdd, Nat.reduceMul, Nat.reduceLeDiff, reduceCtorEq, Nat.reduceSub, Int.reduceToNat, e3] <;> exact rfl) | ((first | apply ow_spec | apply qw_spec); · simp only [push_cast, env, Nat.reduceEqDiff, reduceIte, Nat.reduceAdd, Nat.reduceMul, Nat.reduceLeDiff, reduceCtorEq, Nat.reduceSub, Int.reduceToNat, e3] <;> exact rfl) | refine qw_nil ?_ | refine cw_block ?_ | refine cw_scope ?_ | refine cw_label ?_ | refine cw_skip ?_)
        refine cw_condT (by simp only [push_cast, env, Nat.reduceEqDiff, reduceIte, Nat.reduceAdd, Nat.reduceMul, Nat.reduceLeDiff, reduceCtorEq, Nat.reduceSub, Int.reduceToNat] <;> exact rfl) ?_
        repeat (first | refine cw_seq ?_ | refine cw_region ?_ | refine ow_nil ?_ | ((first | apply ow_cons | apply qw_cons); · simp only [push_cast, env, Nat.reduceEqDiff, reduceIte, Nat.reduceAdd, Nat.reduceMul, Nat.reduceLeDiff, reduceCtorEq, Nat.reduceSub, Int.reduceToNat, hid, hrd, e1, d0, d1, hgg, r1, g1, Nat.mul_one] <;> exact rfl) | ((first | apply ow_spec | apply qw_spec); · simp only [push_cast, env, Nat.reduceEqDiff, reduceIte, Nat.reduceAdd, Nat.reduceMul, Nat.reduceLeDiff, reduceCtorEq, Nat.reduceSub, Int.reduceToNat, hid, hrd, e1, d0, d1, hgg, r1, g1, Nat.mul_one] <;> exact rfl) | refine qw_nil ?_ | refine cw_block ?_ | refine cw_scope ?_ | refine cw_label ?_ | refine cw_skip ?_)
        refine cw_condT (by simp only [push_cast, env, Nat.reduceEqDiff, reduceIte, Nat.reduceAdd, Nat.reduceMul, Nat.reduceLeDiff, reduceCtorEq, Nat.reduceSub, Int.reduceToNat] <;> exact rfl) ?_
        repeat (first | refine cw_seq ?_ | refine cw_region ?_ | refine ow_nil ?_ | ((first | apply ow_cons | apply qw_cons); · simp only [push_cast, env, Nat.reduceEqDiff, reduceIte, Nat.reduceAdd, Nat.reduceMul, Nat.reduceLeDiff, reduceCtorEq, Nat.reduceSub, Int.reduceToNat] <;> exact rfl) | ((first | apply ow_spec | apply qw_spec); · simp only [push_cast, env, Nat.reduceEqDiff, reduceIte, Nat.reduceAdd, Nat.reduceMul, Nat.reduceLeDiff, reduceCtorEq, Nat.reduceSub, Int.reduceToNat] <;> exact rfl) | refine qw_nil ?_ | refine cw_block ?_ | refine cw_scope ?_ | refine cw_label ?_ | refine cw_skip ?_)
        refine cw_ret ?_
        exact ⟨_, (by simp only [push_cast, env, Nat.reduceEqDiff, reduceIte, Nat.reduceAdd, Nat.reduceMul, Nat.reduceLeDiff, reduceCtorEq, Nat.reduceSub, Int.reduceToNat] <;> exact rfl), by rw [hE, hst]; rfl, rfl⟩
    · have d0 : decide (0 ≤ s.nt) = false := decide_eq_false h0
      have d1 : decide (s.nt < 0) = true := decide_eq_true (by omega)
      have hga := goodP_t (m := m) (s := s) (by omega)
      by_cases hz0 : s.set = BSet.zero
      · have dz : decide (s.set = BSet.zero) = true := decide_eq_true hz0
        rw [hga, decide_eq_false (by simpa using hz0), Bool.false_and] at hst
        repeat (first | refine cw_seq ?_ | refine cw_region ?_ | refine ow_nil ?_ | ((first | apply ow_cons | apply qw_cons); · simp only [push_cast, env, Nat.reduceEqDiff, reduceIte, Nat.reduceAdd, Nat.reduceMul, Nat.reduceLeDiff, reduceCtorEq, Nat.reduceSub, Int.reduceToNat, e3] <;> exact rfl) | ((first | apply ow_spec | apply qw_spec); · simp only [push_cast, env, Nat.reduceEqDiff, reduceIte, Nat.reduceAdd, Nat.reduceMul, Nat.reduceLeDiff, reduceCtorEq, Nat.reduceSub, Int.reduceToNat, e3] <;> exact rfl) | refine qw_nil ?_ | refine cw_block ?_ | refine cw_scope ?_ | refine cw_label ?_ | refine cw_skip ?_)
        refine cw_condT (by simp only [push_cast, env, Nat.reduceEqDiff, reduceIte, Nat.reduceAdd, Nat.reduceMul, Nat.reduceLeDiff, reduceCtorEq, Nat.reduceSub, Int.reduceToNat] <;> exact rfl) ?_
        repeat (first | refine cw_seq ?_ | refine cw_region ?_ | refine ow_nil ?_ | ((first | apply ow_cons | apply qw_cons); · simp only [push_cast, env, Nat.reduceEqDiff, reduceIte, Nat.reduceAdd, Nat.reduceMul, Nat.reduceLeDiff, reduceCtorEq, Nat.reduceSub, Int.reduceToNat, hid, hrd, e1, d0, d1, set_zero, dz, Nat.mul_one] <;> exact rfl) | ((first | apply ow_spec | apply qw_spec); · simp only [push_cast, env, Nat.reduceEqDiff, reduceIte, Nat.reduceAdd, Nat.reduceMul, Nat.reduceLeDiff, reduceCtorEq, Nat.reduceSub, Int.reduceToNat, hid, hrd, e1, d0, d1, set_zero, dz, Nat.mul_one] <;> exact rfl) | refine qw_nil ?_ | refine cw_block ?_ | refine cw_scope ?_ | refine cw_label ?_ | refine cw_skip ?_)
        refine cw_condT (by simp only [push_cast, env, Nat.reduceEqDiff, reduceIte, Nat.reduceAdd, Nat.reduceMul, Nat.reduceLeDiff, reduceCtorEq, Nat.reduceSub, Int.reduceToNat] <;> exact rfl) ?_
        repeat (first | refine cw_seq ?_ | refine cw_region ?_ | refine ow_nil ?_ | ((first | apply ow_cons | apply qw_cons); · simp only [push_cast, env, Nat.reduceEqDiff, reduceIte, Nat.reduceAdd, Nat.reduceMul, Nat.reduceLeDiff, reduceCtorEq, Nat.reduceSub, Int.reduceToNat] <;> exact rfl) | ((first | apply ow_spec | apply qw_spec); · simp only [push_cast, env, Nat.reduceEqDiff, reduceIte, Nat.reduceAdd, Nat.reduceMul, Nat.reduceLeDiff, reduceCtorEq, Nat.reduceSub, Int.reduceToNat] <;> exact rfl) | refine qw_nil ?_ | refine cw_block ?_ | refine cw_scope ?_ | refine cw_label ?_ | refine cw_skip ?_)
        refine cw_ret ?_
        exact ⟨_, (by simp only [push_cast, env, Nat.reduceEqDiff, reduceIte, Nat.reduceAdd, Nat.reduceMul, Nat.reduceLeDiff, reduceCtorEq, Nat.reduceSub, Int.reduceToNat] <;> exact rfl), by rw [hE, hst]; rfl, rfl⟩
      · have dz : decide (s.set = BSet.zero) = false := decide_eq_false hz0
        rw [hga, decide_eq_true hz0, Bool.true_and] at hst
        repeat (first | refine cw_seq ?_ | refine cw_region ?_ | refine ow_nil ?_ | ((first | apply ow_cons | apply qw_cons); · simp only [push_cast, env, Nat.reduceEqDiff, reduceIte, Nat.reduceAdd, Nat.reduceMul, Nat.reduceLeDiff, reduceCtorEq, Nat.reduceSub, Int.reduceToNat, e3] <;> exact rfl) | ((first | apply ow_spec | apply qw_spec); · simp only [push_cast, env, Nat.reduceEqDiff, reduceIte, Nat.reduceAdd, Nat.reduceMul, Nat.reduceLeDiff, reduceCtorEq, Nat.reduceSub, Int.reduceToNat, e3] <;> exact rfl) | refine qw_nil ?_ | refine cw_block ?_ | refine cw_scope ?_ | refine cw_label ?_ | refine cw_skip ?_)
        refine cw_condT (by simp only [push_cast, env, Nat.reduceEqDiff, reduceIte, Nat.reduceAdd, Nat.reduceMul, Nat.reduceLeDiff, reduceCtorEq, Nat.reduceSub, Int.reduceToNat] <;> exact rfl) ?_
        repeat (first | refine cw_seq ?_ | refine cw_region ?_ | refine ow_nil ?_ | ((first | apply ow_cons | apply qw_cons); · simp only [push_cast, env, Nat.reduceEqDiff, reduceIte, Nat.reduceAdd, Nat.reduceMul, Nat.reduceLeDiff, reduceCtorEq, Nat.reduceSub, Int.reduceToNat, hid, hrd, e1, d0, d1, set_zero, dz, Nat.mul_one] <;> exact rfl) | ((first | apply ow_spec | apply qw_spec); · simp only [push_cast, env, Nat.reduceEqDiff, reduceIte, Nat.reduceAdd, Nat.reduceMul, Nat.reduceLeDiff, reduceCtorEq, Nat.reduceSub, Int.reduceToNat, hid, hrd, e1, d0, d1, set_zero, dz, Nat.mul_one] <;> exact rfl) | refine qw_nil ?_ | refine cw_block ?_ | refine cw_scope ?_ | refine cw_label ?_ | refine cw_skip ?_)
        refine cw_condF (by simp only [push_cast, env, Nat.reduceEqDiff, reduceIte, Nat.reduceAdd, Nat.reduceMul, Nat.reduceLeDiff, reduceCtorEq, Nat.reduceSub, Int.reduceToNat] <;> exact rfl) ?_
        repeat (first | refine cw_seq ?_ | refine cw_region ?_ | refine ow_nil ?_ | ((first | apply ow_cons | apply qw_cons); · simp only [push_cast, env, Nat.reduceEqDiff, reduceIte, Nat.reduceAdd, Nat.reduceMul, Nat.reduceLeDiff, reduceCtorEq, Nat.reduceSub, Int.reduceToNat, e2] <;> exact rfl) | ((first | apply ow_spec | apply qw_spec); · simp only [push_cast, env, Nat.reduceEqDiff, reduceIte, Nat.reduceAdd, Nat.reduceMul, Nat.reduceLeDiff, reduceCtorEq, Nat.reduceSub, Int.reduceToNat, e2] <;> exact rfl) | refine qw_nil ?_ | refine cw_block ?_ | refine cw_scope ?_ | refine cw_label ?_ | refine cw_skip ?_)
        exact ⟨i + 1, by dsimp only; omega, (by simp only [push_cast, SubL, fget, Nat.reduceEqDiff, reduceIte]), rfl, by omega, by omega, hE.trans hst⟩
  · have e3 := ge_dec hlt
    obtain rfl : i = l.length := by omega
    repeat (first | refine cw_seq ?_ | refine cw_region ?_ | refine ow_nil ?_ | ((first | apply ow_cons | apply qw_cons); · simp only [push_cast, env, Nat.reduceEqDiff, reduceIte, Nat.reduceAdd, Nat.reduceMul, Nat.reduceLeDiff, reduceCtorEq, Nat.reduceSub, Int.reduceToNat, e3] <;> exact rfl) | ((first | apply ow_spec | apply qw_spec); · simp only [push_cast, env, Nat.reduceEqDiff, reduceIte, Nat.reduceAdd, Nat.reduceMul, Nat.reduceLeDiff, reduceCtorEq, Nat.reduceSub, Int.reduceToNat, e3] <;> exact rfl) | refine qw_nil ?_ | refine cw_block ?_ | refine cw_scope ?_ | refine cw_label ?_ | refine cw_skip ?_)
    refine cw_condF (by simp only [push_cast, env, Nat.reduceEqDiff, reduceIte, Nat.reduceAdd, Nat.reduceMul, Nat.reduceLeDiff, reduceCtorEq, Nat.reduceSub, Int.reduceToNat] <;> exact rfl) ?_
    refine cw_exit ?_
    show CW _ _ _ _
    repeat (first | refine cw_seq ?_ | refine cw_region ?_ | refine ow_nil ?_ | ((first | apply ow_cons | apply qw_cons); · simp only [push_cast, env, Nat.reduceEqDiff, reduceIte, Nat.reduceAdd, Nat.reduceMul, Nat.reduceLeDiff, reduceCtorEq, Nat.reduceSub, Int.reduceToNat] <;> exact rfl) | ((first | apply ow_spec | apply qw_spec); · simp only [push_cast, env, Nat.reduceEqDiff, reduceIte, Nat.reduceAdd, Nat.reduceMul, Nat.reduceLeDiff, reduceCtorEq, Nat.reduceSub, Int.reduceToNat] <;> exact rfl) | refine qw_nil ?_ | refine cw_block ?_ | refine cw_scope ?_ | refine cw_label ?_ | refine cw_skip ?_)
    refine cw_ret ?_
    exact ⟨_, (by simp only [push_cast, env, Nat.reduceEqDiff, reduceIte, Nat.reduceAdd, Nat.reduceMul, Nat.reduceLeDiff, reduceCtorEq, Nat.reduceSub, Int.reduceToNat] <;> exact rfl), by rw [hE, List.drop_length]; rfl, rfl⟩
end Go.Proofs.Ytafncpgiibikcaa

/- The reference's beginnings: begins. -/
namespace Go.Proofs.Ytafncpgiibikcaa
set_option linter.unusedSimpArgs false
set_option linter.unusedVariables false
set_option maxRecDepth 20000
open Go.RowKit Am Ty

def restB (m : List Bool) (l : List KSym) (d : Nat) : Bool := (l.drop d).all fun s => goodP s m
def BegD (g : Gram) (w : List Nat) (m M : List Bool) (l : List KSym) (i d : Nat) : Prop :=
  (Sq g.rules w (l.take d) i w.length ∧ restB m l d = true) ∨
  ∃ s, l[d]? = some s ∧ 0 ≤ s.nt ∧ restB m l (d + 1) = true ∧ ∃ k, i ≤ k ∧ k ≤ w.length ∧ Sq g.rules w (l.take d) i k ∧ M.getD (s.nt.toNat * (w.length + 1) + k) false = true
def BegP (g : Gram) (w : List Nat) (m M : List Bool) (l : List KSym) (i : Nat) : Prop := ∃ d, d ≤ l.length ∧ BegD g w m M l i d
theorem ends_iff {R : List Rule} {w : List Nat} {yf : Nat → Nat → Nat → Bool} (h1 : TSound R w yf) (h2 : TFull R w yf) {l : List KSym} {i j d : Nat} (hi : i ≤ w.length) (hj : j ≤ w.length) : endB yf w (l.take d) i (l.take d).length j = true ↔ Sq R w (l.take d) i j := by
  have := endB_iff h1 h2 (l := l.take d) (k := (l.take d).length) hi (Nat.le_refl _) hj
  rwa [List.take_length] at this
set_option maxHeartbeats 8000000 in
theorem begins_fw {h : Heap} {tp : Nat} {g : Gram} {rv wv vl vg vM : Value} {w : List Nat} {yi yr : Nat} {Y m M : List Bool} {N : Nat} {l : List KSym} {i : Nat} (T : TbR h tp g rv wv w yi yr Y) (hwR : RdB h wv w) (hw : w.length ≤ 512) (hN : N ≤ 4096) (hY : Y.length = N * (w.length + 1) * (w.length + 1))
    (hl : RdSyms h vl l) (hs : ∀ s ∈ l, s.nt < N ∧ SetWf s.set) (hi : i ≤ w.length) (hg : MkR h vg m) (hml : m.length = N) (hM : MkR h vM M) (hMl : M.length = N * (w.length + 1)) (hS : TSound g.rules w (yfn Y (w.length + 1))) (hF : TFull g.rules w (yfn Y (w.length + 1))) :
    FW env 51 [.pointer (some ⟨tp, 0, some 0⟩), vl, i64 i, vg, vM] h fun r h' => (∃ b, r = .bool b ∧ (b = true ↔ BegP g w m M l i)) ∧ h <+: h' := by
  obtain ⟨p, c, rfl⟩ := SlR.form hl
  have hle := RdSyms.le hl
  obtain ⟨idM, verM, ownM, cM, rfl, hMg⟩ := hM
  refine fw_enter (fn := Try.f51) Try.func51 rfl (by kernel_rfl) (by simp [Try.ntmps51]) ?_; simp only [push_cast]
  repeat (first | refine cw_seq ?_ | refine cw_region ?_ | refine ow_nil ?_ | ((first | apply ow_cons | apply qw_cons); · simp only [push_cast, env, Nat.reduceEqDiff, reduceIte, Nat.reduceAdd, Nat.reduceMul, Nat.reduceLeDiff, reduceCtorEq, Nat.reduceSub, Int.reduceToNat] <;> exact rfl) | ((first | apply ow_spec | apply qw_spec); · simp only [push_cast, env, Nat.reduceEqDiff, reduceIte, Nat.reduceAdd, Nat.reduceMul, Nat.reduceLeDiff, reduceCtorEq, Nat.reduceSub, Int.reduceToNat] <;> exact rfl) | refine qw_nil ?_ | refine cw_block ?_ | refine cw_scope ?_ | refine cw_label ?_ | refine cw_skip ?_)
  refine cw_forG (l.length + 1) (fun d (x : Heap) => [(0, .val (.pointer (some ⟨tp, 0, some 0⟩))), (1, .val (.slice p l.length c)), (2, .val (i64 i)), (3, .val vg), (4, .val (.slice (some ⟨idM, 0, some verM⟩) M.length cM)), (11, .val (i64 d))]) (fun _ x => x)
    (fun d x => h <+: x ∧ ∀ d', d' < d → ¬ BegD g w m M l i d') h (by simp only [push_cast, SubL, fget, Nat.reduceEqDiff, reduceIte]) rfl ⟨List.prefix_refl _, fun d' hd' => by omega⟩ ?_
  rintro d hk hdn ⟨hp, hno⟩
  by_cases hld : d < l.length + 1
  · have d1 : decide ((d : Int) ≤ (l.length : Int)) = true := decide_eq_true (by omega)
    have e2 : IntKind.i64.wrap ((d : Int) + 1) = (d : Int) + 1 := wrap64_id (by omega) (by omega)
    obtain ⟨v', hsl, hP⟩ := syms_slice (SlR.mono hl hp) (show d ≤ l.length by omega)
    obtain ⟨pd, cd, rfl⟩ := hP.form
    repeat (first | refine cw_seq ?_ | refine cw_region ?_ | refine ow_nil ?_ | ((first | apply ow_cons | apply qw_cons); · simp only [push_cast, env, Nat.reduceEqDiff, reduceIte, Nat.reduceAdd, Nat.reduceMul, Nat.reduceLeDiff, reduceCtorEq, Nat.reduceSub, Int.reduceToNat, d1] <;> exact rfl) | ((first | apply ow_spec | apply qw_spec); · simp only [push_cast, env, Nat.reduceEqDiff, reduceIte, Nat.reduceAdd, Nat.reduceMul, Nat.reduceLeDiff, reduceCtorEq, Nat.reduceSub, Int.reduceToNat, d1] <;> exact rfl) | refine qw_nil ?_ | refine cw_block ?_ | refine cw_scope ?_ | refine cw_label ?_ | refine cw_skip ?_)
    refine cw_condT (by simp only [push_cast, env, Nat.reduceEqDiff, reduceIte, Nat.reduceAdd, Nat.reduceMul, Nat.reduceLeDiff, reduceCtorEq, Nat.reduceSub, Int.reduceToNat] <;> exact rfl) ?_
    repeat (first | refine cw_seq ?_ | refine cw_region ?_ | refine ow_nil ?_ | ((first | apply ow_cons | apply qw_cons); · simp only [push_cast, env, Nat.reduceEqDiff, reduceIte, Nat.reduceAdd, Nat.reduceMul, Nat.reduceLeDiff, reduceCtorEq, Nat.reduceSub, Int.reduceToNat] <;> exact rfl) | ((first | apply ow_spec | apply qw_spec); · simp only [push_cast, env, Nat.reduceEqDiff, reduceIte, Nat.reduceAdd, Nat.reduceMul, Nat.reduceLeDiff, reduceCtorEq, Nat.reduceSub, Int.reduceToNat] <;> exact rfl) | refine qw_nil ?_ | refine cw_block ?_ | refine cw_scope ?_ | refine cw_label ?_ | refine cw_skip ?_)
    refine ow_slice (v := .slice pd (l.take d).length cd) (by simp only [push_cast, env, Nat.reduceEqDiff, reduceIte, Nat.reduceAdd, Nat.reduceMul, Nat.reduceLeDiff, reduceCtorEq, Nat.reduceSub, Int.reduceToNat] <;> exact rfl) rfl (hsl _ _ _ rfl (by simp only [push_cast, env, Nat.reduceEqDiff, reduceIte, Nat.reduceAdd, Nat.reduceMul, Nat.reduceLeDiff, reduceCtorEq, Nat.reduceSub, Int.reduceToNat] <;> exact rfl) (by simp only [push_cast, env, Nat.reduceEqDiff, reduceIte, Nat.reduceAdd, Nat.reduceMul, Nat.reduceLeDiff, reduceCtorEq, Nat.reduceSub, Int.reduceToNat] <;> exact rfl)) ?_
    repeat (first | refine cw_seq ?_ | refine cw_region ?_ | refine ow_nil ?_ | ((first | apply ow_cons | apply qw_cons); · simp only [push_cast, env, Nat.reduceEqDiff, reduceIte, Nat.reduceAdd, Nat.reduceMul, Nat.reduceLeDiff, reduceCtorEq, Nat.reduceSub, Int.reduceToNat] <;> exact rfl) | ((first | apply ow_spec | apply qw_spec); · simp only [push_cast, env, Nat.reduceEqDiff, reduceIte, Nat.reduceAdd, Nat.reduceMul, Nat.reduceLeDiff, reduceCtorEq, Nat.reduceSub, Int.reduceToNat] <;> exact rfl) | refine qw_nil ?_ | refine cw_block ?_ | refine cw_scope ?_ | refine cw_label ?_ | refine cw_skip ?_)
    refine ow_call (fn := Try.f46) (by simp only [push_cast, env, Nat.reduceEqDiff, reduceIte, Nat.reduceAdd, Nat.reduceMul, Nat.reduceLeDiff, reduceCtorEq, Nat.reduceSub, Int.reduceToNat] <;> exact rfl) rfl (by simp only [push_cast, env, Nat.reduceEqDiff, reduceIte, Nat.reduceAdd, Nat.reduceMul, Nat.reduceLeDiff, reduceCtorEq, Nat.reduceSub, Int.reduceToNat] <;> exact rfl) (by simp only [push_cast, env, Nat.reduceEqDiff, reduceIte, Nat.reduceAdd, Nat.reduceMul, Nat.reduceLeDiff, reduceCtorEq, Nat.reduceSub, Int.reduceToNat] <;> exact rfl) Try.func46 (by kernel_rfl) (by kernel_rfl) ?_
    rw [List.append_nil]
    refine (ends_fw (N := N) (T.mono hp) (hwR.mono hp) hw hN hY hP (fun s hs' => hs s (List.mem_of_mem_take hs')) hi).mono ?_
    rintro _ h2 ⟨hE, hp2⟩
    obtain ⟨ie, ve, hie, rfl, heg⟩ := hE.mine (by omega)
    obtain ⟨cy, hc2⟩ := (T.mono (hp.trans hp2)).c
    have hM2 := getElem?_of_prefix (hp.trans hp2) hMg
    have hEn := endL_get (yf := yfn Y (w.length + 1)) (w := w) (l := l.take d) (i := i) (k := (l.take d).length) (j := w.length) (Nat.le_refl _)
    have hni := ends_iff hS hF (l := l) (i := i) (j := w.length) (d := d) hi (Nat.le_refl _)
    have r1 : (0 ≤ (w.length : Int) ∧ (w.length : Int) < (w.length : Int) + 1) = True := by simp; omega
    cases hb1 : endB (yfn Y (w.length + 1)) w (l.take d) i (l.take d).length w.length with
    | false =>
      rw [hb1] at hEn hni
      have hn1 : ¬ (Sq g.rules w (l.take d) i w.length ∧ restB m l d = true) := fun hh => by
        have := hni.2 hh.1
        cases this
      repeat (first | refine cw_seq ?_ | refine cw_region ?_ | refine ow_nil ?_ | ((first | apply ow_cons | apply qw_cons); · simp only [push_cast, env, Nat.reduceEqDiff, reduceIte, Nat.reduceAdd, Nat.reduceMul, Nat.reduceLeDiff, reduceCtorEq, Nat.reduceSub, Int.reduceToNat, hc2, r1, heg, hEn, Nat.mul_one] <;> exact rfl) | ((first | apply ow_spec | apply qw_spec); · simp only [push_cast, env, Nat.reduceEqDiff, reduceIte, Nat.reduceAdd, Nat.reduceMul, Nat.reduceLeDiff, reduceCtorEq, Nat.reduceSub, Int.reduceToNat, hc2, r1, heg, hEn, Nat.mul_one] <;> exact rfl) | refine qw_nil ?_ | refine cw_block ?_ | refine cw_scope ?_ | refine cw_label ?_ | refine cw_skip ?_)
      refine cw_condF (by simp only [push_cast, env, Nat.reduceEqDiff, reduceIte, Nat.reduceAdd, Nat.reduceMul, Nat.reduceLeDiff, reduceCtorEq, Nat.reduceSub, Int.reduceToNat] <;> exact rfl) ?_
      by_cases hdl : d = l.length
      · have d3 : decide ((d : Int) = (l.length : Int)) = true := decide_eq_true (by omega)
        repeat (first | refine cw_seq ?_ | refine cw_region ?_ | refine ow_nil ?_ | ((first | apply ow_cons | apply qw_cons); · simp only [push_cast, env, Nat.reduceEqDiff, reduceIte, Nat.reduceAdd, Nat.reduceMul, Nat.reduceLeDiff, reduceCtorEq, Nat.reduceSub, Int.reduceToNat, d3] <;> exact rfl) | ((first | apply ow_spec | apply qw_spec); · simp only [push_cast, env, Nat.reduceEqDiff, reduceIte, Nat.reduceAdd, Nat.reduceMul, Nat.reduceLeDiff, reduceCtorEq, Nat.reduceSub, Int.reduceToNat, d3] <;> exact rfl) | refine qw_nil ?_ | refine cw_block ?_ | refine cw_scope ?_ | refine cw_label ?_ | refine cw_skip ?_)
        refine cw_condT (by simp only [push_cast, env, Nat.reduceEqDiff, reduceIte, Nat.reduceAdd, Nat.reduceMul, Nat.reduceLeDiff, reduceCtorEq, Nat.reduceSub, Int.reduceToNat] <;> exact rfl) ?_
        have hnd : ¬ BegD g w m M l i d := fun hb => by
          rcases hb with hb | ⟨s, h1, _⟩
          · exact hn1 hb
          · rw [List.getElem?_eq_none (by omega)] at h1
            cases h1
        refine cw_exit ?_
        show CW _ _ _ _
        repeat (first | refine cw_seq ?_ | refine cw_region ?_ | refine ow_nil ?_ | ((first | apply ow_cons | apply qw_cons); · simp only [push_cast, env, Nat.reduceEqDiff, reduceIte, Nat.reduceAdd, Nat.reduceMul, Nat.reduceLeDiff, reduceCtorEq, Nat.reduceSub, Int.reduceToNat, e2] <;> exact rfl) | ((first | apply ow_spec | apply qw_spec); · simp only [push_cast, env, Nat.reduceEqDiff, reduceIte, Nat.reduceAdd, Nat.reduceMul, Nat.reduceLeDiff, reduceCtorEq, Nat.reduceSub, Int.reduceToNat, e2] <;> exact rfl) | refine qw_nil ?_ | refine cw_block ?_ | refine cw_scope ?_ | refine cw_label ?_ | refine cw_skip ?_)
        exact ⟨by omega, h2, (by simp only [push_cast, SubL, fget, Nat.reduceEqDiff, reduceIte]), rfl, hp.trans hp2, fun d' hd' hb => (Nat.lt_or_ge d' d).elim (fun hh => hno d' hh hb) fun hh => by
          obtain rfl : d' = d := by omega
          exact hnd hb⟩
      have hlt : d < l.length := by omega
      have d3 : decide ((d : Int) = (l.length : Int)) = false := decide_eq_false (by omega)
      obtain ⟨ids, vers, owns, cs, cellss, hvs, hids, hrds⟩ := RdSyms.at (SlR.mono (SlR.mono hl hp) hp2) hlt
      cases hvs
      have g0 := rdH_get0 hrds (by omega)
      simp only [List.getElem?_cons_zero] at g0
      have r7 := rng hlt
      have hsd : l[d]? = some l[d] := List.getElem?_eq_getElem hlt
      have hsN := (hs _ (List.getElem_mem hlt)).1
      generalize l[d] = s at *
      by_cases h0 : s.nt < 0
      · have d4 : decide (s.nt < 0) = true := decide_eq_true h0
        repeat (first | refine cw_seq ?_ | refine cw_region ?_ | refine ow_nil ?_ | ((first | apply ow_cons | apply qw_cons); · simp only [push_cast, env, Nat.reduceEqDiff, reduceIte, Nat.reduceAdd, Nat.reduceMul, Nat.reduceLeDiff, reduceCtorEq, Nat.reduceSub, Int.reduceToNat, d3, r7, hids, g0, d4, Nat.mul_one] <;> exact rfl) | ((first | apply ow_spec | apply qw_spec); · simp only [push_cast, env, Nat.reduceEqDiff, reduceIte, Nat.reduceAdd, Nat.reduceMul, Nat.reduceLeDiff, reduceCtorEq, Nat.reduceSub, Int.reduceToNat, d3, r7, hids, g0, d4, Nat.mul_one] <;> exact rfl) | refine qw_nil ?_ | refine cw_block ?_ | refine cw_scope ?_ | refine cw_label ?_ | refine cw_skip ?_)
        refine cw_condT (by simp only [push_cast, env, Nat.reduceEqDiff, reduceIte, Nat.reduceAdd, Nat.reduceMul, Nat.reduceLeDiff, reduceCtorEq, Nat.reduceSub, Int.reduceToNat] <;> exact rfl) ?_
        have hnd : ¬ BegD g w m M l i d := fun hb => by
          rcases hb with hb | ⟨s', h1, h2, _⟩
          · exact hn1 hb
          · rw [hsd] at h1
            cases h1
            omega
        refine cw_exit ?_
        show CW _ _ _ _
        repeat (first | refine cw_seq ?_ | refine cw_region ?_ | refine ow_nil ?_ | ((first | apply ow_cons | apply qw_cons); · simp only [push_cast, env, Nat.reduceEqDiff, reduceIte, Nat.reduceAdd, Nat.reduceMul, Nat.reduceLeDiff, reduceCtorEq, Nat.reduceSub, Int.reduceToNat, e2] <;> exact rfl) | ((first | apply ow_spec | apply qw_spec); · simp only [push_cast, env, Nat.reduceEqDiff, reduceIte, Nat.reduceAdd, Nat.reduceMul, Nat.reduceLeDiff, reduceCtorEq, Nat.reduceSub, Int.reduceToNat, e2] <;> exact rfl) | refine qw_nil ?_ | refine cw_block ?_ | refine cw_scope ?_ | refine cw_label ?_ | refine cw_skip ?_)
        exact ⟨by omega, h2, (by simp only [push_cast, SubL, fget, Nat.reduceEqDiff, reduceIte]), rfl, hp.trans hp2, fun d' hd' hb => (Nat.lt_or_ge d' d).elim (fun hh => hno d' hh hb) fun hh => by
          obtain rfl : d' = d := by omega
          exact hnd hb⟩
      have d4 : decide (s.nt < 0) = false := decide_eq_false h0
      have e4 : IntKind.i64.wrap ((d : Int) + 1) = ((d + 1 : Nat) : Int) := by rw [wrap64_id (by omega) (by omega)]; omega
      repeat (first | refine cw_seq ?_ | refine cw_region ?_ | refine ow_nil ?_ | ((first | apply ow_cons | apply qw_cons); · simp only [push_cast, env, Nat.reduceEqDiff, reduceIte, Nat.reduceAdd, Nat.reduceMul, Nat.reduceLeDiff, reduceCtorEq, Nat.reduceSub, Int.reduceToNat, d3, r7, hids, g0, d4, e4, Nat.mul_one] <;> exact rfl) | ((first | apply ow_spec | apply qw_spec); · simp only [push_cast, env, Nat.reduceEqDiff, reduceIte, Nat.reduceAdd, Nat.reduceMul, Nat.reduceLeDiff, reduceCtorEq, Nat.reduceSub, Int.reduceToNat, d3, r7, hids, g0, d4, e4, Nat.mul_one] <;> exact rfl) | refine qw_nil ?_ | refine cw_block ?_ | refine cw_scope ?_ | refine cw_label ?_ | refine cw_skip ?_)
      refine ow_call (fn := Try.f61) (by simp only [push_cast, env, Nat.reduceEqDiff, reduceIte, Nat.reduceAdd, Nat.reduceMul, Nat.reduceLeDiff, reduceCtorEq, Nat.reduceSub, Int.reduceToNat, e4] <;> exact rfl) rfl (by simp only [push_cast, env, Nat.reduceEqDiff, reduceIte, Nat.reduceAdd, Nat.reduceMul, Nat.reduceLeDiff, reduceCtorEq, Nat.reduceSub, Int.reduceToNat, e4] <;> exact rfl) (by simp only [push_cast, env, Nat.reduceEqDiff, reduceIte, Nat.reduceAdd, Nat.reduceMul, Nat.reduceLeDiff, reduceCtorEq, Nat.reduceSub, Int.reduceToNat, e4] <;> exact rfl) Try.func61 (by kernel_rfl) (by kernel_rfl) ?_
      rw [List.append_nil]
      refine (rest_fw (d := d + 1) (SlR.mono (SlR.mono hl hp) hp2) ((hg.mono hp).mono hp2) (fun s hs' => by rw [hml]; exact (hs s hs').1) (by omega)).mono ?_
      rintro _ h2 ⟨rfl, rfl⟩
      cases hb3 : (l.drop (d + 1)).all fun s => goodP s m with
      | false =>
        repeat (first | refine cw_seq ?_ | refine cw_region ?_ | refine ow_nil ?_ | ((first | apply ow_cons | apply qw_cons); · simp only [push_cast, env, Nat.reduceEqDiff, reduceIte, Nat.reduceAdd, Nat.reduceMul, Nat.reduceLeDiff, reduceCtorEq, Nat.reduceSub, Int.reduceToNat] <;> exact rfl) | ((first | apply ow_spec | apply qw_spec); · simp only [push_cast, env, Nat.reduceEqDiff, reduceIte, Nat.reduceAdd, Nat.reduceMul, Nat.reduceLeDiff, reduceCtorEq, Nat.reduceSub, Int.reduceToNat] <;> exact rfl) | refine qw_nil ?_ | refine cw_block ?_ | refine cw_scope ?_ | refine cw_label ?_ | refine cw_skip ?_)
        refine cw_condT (by simp only [push_cast, env, Nat.reduceEqDiff, reduceIte, Nat.reduceAdd, Nat.reduceMul, Nat.reduceLeDiff, reduceCtorEq, Nat.reduceSub, Int.reduceToNat] <;> exact rfl) ?_
        have hnd : ¬ BegD g w m M l i d := fun hb => by
          rcases hb with hb | ⟨s', h1, h2, h3, _⟩
          · exact hn1 hb
          · unfold restB at h3
            rw [hb3] at h3
            cases h3
        refine cw_exit ?_
        show CW _ _ _ _
        repeat (first | refine cw_seq ?_ | refine cw_region ?_ | refine ow_nil ?_ | ((first | apply ow_cons | apply qw_cons); · simp only [push_cast, env, Nat.reduceEqDiff, reduceIte, Nat.reduceAdd, Nat.reduceMul, Nat.reduceLeDiff, reduceCtorEq, Nat.reduceSub, Int.reduceToNat, e2] <;> exact rfl) | ((first | apply ow_spec | apply qw_spec); · simp only [push_cast, env, Nat.reduceEqDiff, reduceIte, Nat.reduceAdd, Nat.reduceMul, Nat.reduceLeDiff, reduceCtorEq, Nat.reduceSub, Int.reduceToNat, e2] <;> exact rfl) | refine qw_nil ?_ | refine cw_block ?_ | refine cw_scope ?_ | refine cw_label ?_ | refine cw_skip ?_)
        exact ⟨by omega, h2, (by simp only [push_cast, SubL, fget, Nat.reduceEqDiff, reduceIte]), rfl, hp.trans hp2, fun d' hd' hb => (Nat.lt_or_ge d' d).elim (fun hh => hno d' hh hb) fun hh => by
          obtain rfl : d' = d := by omega
          exact hnd hb⟩
      | true =>
        obtain ⟨a, ha⟩ : ∃ a : Nat, s.nt = a := ⟨s.nt.toNat, by omega⟩
        rw [ha] at g0 hsN
        repeat (first | refine cw_seq ?_ | refine cw_region ?_ | refine ow_nil ?_ | ((first | apply ow_cons | apply qw_cons); · simp only [push_cast, env, Nat.reduceEqDiff, reduceIte, Nat.reduceAdd, Nat.reduceMul, Nat.reduceLeDiff, reduceCtorEq, Nat.reduceSub, Int.reduceToNat] <;> exact rfl) | ((first | apply ow_spec | apply qw_spec); · simp only [push_cast, env, Nat.reduceEqDiff, reduceIte, Nat.reduceAdd, Nat.reduceMul, Nat.reduceLeDiff, reduceCtorEq, Nat.reduceSub, Int.reduceToNat] <;> exact rfl) | refine qw_nil ?_ | refine cw_block ?_ | refine cw_scope ?_ | refine cw_label ?_ | refine cw_skip ?_)
        refine cw_condF (by simp only [push_cast, env, Nat.reduceEqDiff, reduceIte, Nat.reduceAdd, Nat.reduceMul, Nat.reduceLeDiff, reduceCtorEq, Nat.reduceSub, Int.reduceToNat] <;> exact rfl) ?_
        repeat (first | refine cw_seq ?_ | refine cw_region ?_ | refine ow_nil ?_ | ((first | apply ow_cons | apply qw_cons); · simp only [push_cast, env, Nat.reduceEqDiff, reduceIte, Nat.reduceAdd, Nat.reduceMul, Nat.reduceLeDiff, reduceCtorEq, Nat.reduceSub, Int.reduceToNat] <;> exact rfl) | ((first | apply ow_spec | apply qw_spec); · simp only [push_cast, env, Nat.reduceEqDiff, reduceIte, Nat.reduceAdd, Nat.reduceMul, Nat.reduceLeDiff, reduceCtorEq, Nat.reduceSub, Int.reduceToNat] <;> exact rfl) | refine qw_nil ?_ | refine cw_block ?_ | refine cw_scope ?_ | refine cw_label ?_ | refine cw_skip ?_)
        refine cw_wh (fun k : Nat => w.length + 1 - k) (fun k => [(0, .val (.pointer (some ⟨tp, 0, some 0⟩))), (1, .val (.slice (some ⟨ids, 0, some vers⟩) l.length c)), (2, .val (i64 i)), (3, .val vg), (4, .val (.slice (some ⟨idM, 0, some verM⟩) M.length cM)), (11, .val (i64 d)), (12, .val (.slice (some ⟨ie, 0, some ve⟩) (w.length + 1) (w.length + 1))), (13, .val (i64 k))]) (fun _ => h2)
          (fun k => i ≤ k ∧ k ≤ w.length + 1 ∧ ∀ k', i ≤ k' → k' < k → ¬ (Sq g.rules w (l.take d) i k' ∧ M.getD (a * (w.length + 1) + k') false = true)) i (by simp only [push_cast, SubL, fget, Nat.reduceEqDiff, reduceIte]) rfl ⟨Nat.le_refl _, by omega, fun k' h1 h2 => by omega⟩ ?_
        rintro k ⟨hik, hkn, hnk⟩
        by_cases hlk : k < w.length + 1
        · have d5 : decide ((k : Int) ≤ (w.length : Int)) = true := decide_eq_true (by omega)
          have e5 : IntKind.i64.wrap ((k : Int) + 1) = (k : Int) + 1 := wrap64_id (by omega) (by omega)
          have r8 : (0 ≤ (k : Int) ∧ (k : Int) < (w.length : Int) + 1) = True := by simp; omega
          have hEk := endL_get (yf := yfn Y (w.length + 1)) (w := w) (l := l.take d) (i := i) (k := (l.take d).length) (j := k) (by omega)
          have hki := ends_iff hS hF (l := l) (i := i) (j := k) (d := d) hi (by omega)
          repeat (first | refine cw_seq ?_ | refine cw_region ?_ | refine ow_nil ?_ | ((first | apply ow_cons | apply qw_cons); · simp only [push_cast, env, Nat.reduceEqDiff, reduceIte, Nat.reduceAdd, Nat.reduceMul, Nat.reduceLeDiff, reduceCtorEq, Nat.reduceSub, Int.reduceToNat, hc2, d5] <;> exact rfl) | ((first | apply ow_spec | apply qw_spec); · simp only [push_cast, env, Nat.reduceEqDiff, reduceIte, Nat.reduceAdd, Nat.reduceMul, Nat.reduceLeDiff, reduceCtorEq, Nat.reduceSub, Int.reduceToNat, hc2, d5] <;> exact rfl) | refine qw_nil ?_ | refine cw_block ?_ | refine cw_scope ?_ | refine cw_label ?_ | refine cw_skip ?_)
          refine cw_condT (by simp only [push_cast, env, Nat.reduceEqDiff, reduceIte, Nat.reduceAdd, Nat.reduceMul, Nat.reduceLeDiff, reduceCtorEq, Nat.reduceSub, Int.reduceToNat] <;> exact rfl) ?_
          repeat (first | refine cw_seq ?_ | refine cw_region ?_ | refine ow_nil ?_ | ((first | apply ow_cons | apply qw_cons); · simp only [push_cast, env, Nat.reduceEqDiff, reduceIte, Nat.reduceAdd, Nat.reduceMul, Nat.reduceLeDiff, reduceCtorEq, Nat.reduceSub, Int.reduceToNat] <;> exact rfl) | ((first | apply ow_spec | apply qw_spec); · simp only [push_cast, env, Nat.reduceEqDiff, reduceIte, Nat.reduceAdd, Nat.reduceMul, Nat.reduceLeDiff, reduceCtorEq, Nat.reduceSub, Int.reduceToNat] <;> exact rfl) | refine qw_nil ?_ | refine cw_block ?_ | refine cw_scope ?_ | refine cw_label ?_ | refine cw_skip ?_)
          refine cw_regionD 21 mixed (by kernel_rfl) ?_
          cases hb4 : endB (yfn Y (w.length + 1)) w (l.take d) i (l.take d).length k with
          | false =>
            rw [hb4] at hEk hki
            repeat (first | refine cw_seq ?_ | refine cw_region ?_ | refine ow_nil ?_ | ((first | apply ow_cons | apply qw_cons); · simp only [push_cast, env, Nat.reduceEqDiff, reduceIte, Nat.reduceAdd, Nat.reduceMul, Nat.reduceLeDiff, reduceCtorEq, Nat.reduceSub, Int.reduceToNat, heg, hEk, r8, Nat.mul_one] <;> exact rfl) | ((first | apply ow_spec | apply qw_spec); · simp only [push_cast, env, Nat.reduceEqDiff, reduceIte, Nat.reduceAdd, Nat.reduceMul, Nat.reduceLeDiff, reduceCtorEq, Nat.reduceSub, Int.reduceToNat, heg, hEk, r8, Nat.mul_one] <;> exact rfl) | refine qw_nil ?_ | refine cw_block ?_ | refine cw_scope ?_ | refine cw_label ?_ | refine cw_skip ?_)
            refine cw_condF (by simp only [push_cast, env, Nat.reduceEqDiff, reduceIte, Nat.reduceAdd, Nat.reduceMul, Nat.reduceLeDiff, reduceCtorEq, Nat.reduceSub, Int.reduceToNat] <;> exact rfl) ?_
            repeat (first | refine cw_seq ?_ | refine cw_region ?_ | refine ow_nil ?_ | ((first | apply ow_cons | apply qw_cons); · simp only [push_cast, env, Nat.reduceEqDiff, reduceIte, Nat.reduceAdd, Nat.reduceMul, Nat.reduceLeDiff, reduceCtorEq, Nat.reduceSub, Int.reduceToNat, e5] <;> exact rfl) | ((first | apply ow_spec | apply qw_spec); · simp only [push_cast, env, Nat.reduceEqDiff, reduceIte, Nat.reduceAdd, Nat.reduceMul, Nat.reduceLeDiff, reduceCtorEq, Nat.reduceSub, Int.reduceToNat, e5] <;> exact rfl) | refine qw_nil ?_ | refine cw_block ?_ | refine cw_scope ?_ | refine cw_label ?_ | refine cw_skip ?_)
            exact ⟨k + 1, by dsimp only; omega, (by simp only [push_cast, SubL, fget, Nat.reduceEqDiff, reduceIte]), rfl, by omega, by omega, fun k' h1 h2 hh => (Nat.lt_or_ge k' k).elim (fun h3 => hnk k' h1 h3 hh) fun h3 => by
              obtain rfl : k' = k := by omega
              have := hki.2 hh.1
              cases this⟩
          | true =>
            rw [hb4] at hEk hki
            have b1 : a * (w.length + 1) ≤ 4096 * 513 := Nat.mul_le_mul (by omega) (by omega)
            obtain ⟨P, hP⟩ : ∃ P, P = a * (w.length + 1) := ⟨_, rfl⟩
            have b2 : P + k < M.length := by
              have h1 : (a + 1) * (w.length + 1) ≤ N * (w.length + 1) := Nat.mul_le_mul_right _ (by omega)
              rw [Nat.succ_mul] at h1
              omega
            rw [← hP] at b1
            have e6 : IntKind.i64.wrap ((w.length : Int) + 1) = (w.length : Int) + 1 := wrap64_id (by omega) (by omega)
            have e7 : IntKind.i64.wrap ((a : Int) * ((w.length : Int) + 1)) = (P : Int) := by
              rw [show ((w.length : Int) + 1) = ((w.length + 1 : Nat) : Int) by omega, ← Int.natCast_mul, ← hP]
              exact wrap64_id (by omega) (by omega)
            obtain ⟨K, hK⟩ : ∃ K, K = P + k := ⟨_, rfl⟩
            have e8 : IntKind.i64.wrap ((P : Int) + (k : Int)) = (K : Int) := by rw [wrap64_id (by omega) (by omega)]; omega
            rw [← hK] at b2
            have r9 := rng b2
            have gM := mk_get b2
            cases hb5 : M.getD K false with
            | false =>
              rw [hb5] at gM
              repeat (first | refine cw_seq ?_ | refine cw_region ?_ | refine ow_nil ?_ | ((first | apply ow_cons | apply qw_cons); · simp only [push_cast, env, Nat.reduceEqDiff, reduceIte, Nat.reduceAdd, Nat.reduceMul, Nat.reduceLeDiff, reduceCtorEq, Nat.reduceSub, Int.reduceToNat, heg, hEk, r8, hc2, r7, hids, g0, e6, e7, e8, r9, hM2, gM, Nat.mul_one] <;> exact rfl) | ((first | apply ow_spec | apply qw_spec); · simp only [push_cast, env, Nat.reduceEqDiff, reduceIte, Nat.reduceAdd, Nat.reduceMul, Nat.reduceLeDiff, reduceCtorEq, Nat.reduceSub, Int.reduceToNat, heg, hEk, r8, hc2, r7, hids, g0, e6, e7, e8, r9, hM2, gM, Nat.mul_one] <;> exact rfl) | refine qw_nil ?_ | refine cw_block ?_ | refine cw_scope ?_ | refine cw_label ?_ | refine cw_skip ?_)
              refine cw_condF (by simp only [push_cast, env, Nat.reduceEqDiff, reduceIte, Nat.reduceAdd, Nat.reduceMul, Nat.reduceLeDiff, reduceCtorEq, Nat.reduceSub, Int.reduceToNat] <;> exact rfl) ?_
              repeat (first | refine cw_seq ?_ | refine cw_region ?_ | refine ow_nil ?_ | ((first | apply ow_cons | apply qw_cons); · simp only [push_cast, env, Nat.reduceEqDiff, reduceIte, Nat.reduceAdd, Nat.reduceMul, Nat.reduceLeDiff, reduceCtorEq, Nat.reduceSub, Int.reduceToNat, e5] <;> exact rfl) | ((first | apply ow_spec | apply qw_spec); · simp only [push_cast, env, Nat.reduceEqDiff, reduceIte, Nat.reduceAdd, Nat.reduceMul, Nat.reduceLeDiff, reduceCtorEq, Nat.reduceSub, Int.reduceToNat, e5] <;> exact rfl) | refine qw_nil ?_ | refine cw_block ?_ | refine cw_scope ?_ | refine cw_label ?_ | refine cw_skip ?_)
              exact ⟨k + 1, by dsimp only; omega, (by simp only [push_cast, SubL, fget, Nat.reduceEqDiff, reduceIte]), rfl, by omega, by omega, fun k' h1 h2 hh => (Nat.lt_or_ge k' k).elim (fun h3 => hnk k' h1 h3 hh) fun h3 => by
                obtain rfl : k' = k := by omega
                have := hh.2
                rw [← hP, ← hK, hb5] at this
                cases this⟩
            | true =>
              rw [hb5] at gM
              repeat (first | refine cw_seq ?_ | refine cw_region ?_ | refine ow_nil ?_ | ((first | apply ow_cons | apply qw_cons); · simp only [push_cast, env, Nat.reduceEqDiff, reduceIte, Nat.reduceAdd, Nat.reduceMul, Nat.reduceLeDiff, reduceCtorEq, Nat.reduceSub, Int.reduceToNat, heg, hEk, r8, hc2, r7, hids, g0, e6, e7, e8, r9, hM2, gM, Nat.mul_one] <;> exact rfl) | ((first | apply ow_spec | apply qw_spec); · simp only [push_cast, env, Nat.reduceEqDiff, reduceIte, Nat.reduceAdd, Nat.reduceMul, Nat.reduceLeDiff, reduceCtorEq, Nat.reduceSub, Int.reduceToNat, heg, hEk, r8, hc2, r7, hids, g0, e6, e7, e8, r9, hM2, gM, Nat.mul_one] <;> exact rfl) | refine qw_nil ?_ | refine cw_block ?_ | refine cw_scope ?_ | refine cw_label ?_ | refine cw_skip ?_)
              refine cw_condT (by simp only [push_cast, env, Nat.reduceEqDiff, reduceIte, Nat.reduceAdd, Nat.reduceMul, Nat.reduceLeDiff, reduceCtorEq, Nat.reduceSub, Int.reduceToNat] <;> exact rfl) ?_
              repeat (first | refine cw_seq ?_ | refine cw_region ?_ | refine ow_nil ?_ | ((first | apply ow_cons | apply qw_cons); · simp only [push_cast, env, Nat.reduceEqDiff, reduceIte, Nat.reduceAdd, Nat.reduceMul, Nat.reduceLeDiff, reduceCtorEq, Nat.reduceSub, Int.reduceToNat] <;> exact rfl) | ((first | apply ow_spec | apply qw_spec); · simp only [push_cast, env, Nat.reduceEqDiff, reduceIte, Nat.reduceAdd, Nat.reduceMul, Nat.reduceLeDiff, reduceCtorEq, Nat.reduceSub, Int.reduceToNat] <;> exact rfl) | refine qw_nil ?_ | refine cw_block ?_ | refine cw_scope ?_ | refine cw_label ?_ | refine cw_skip ?_)
              refine cw_ret ?_
              exact ⟨_, (by simp only [push_cast, env, Nat.reduceEqDiff, reduceIte, Nat.reduceAdd, Nat.reduceMul, Nat.reduceLeDiff, reduceCtorEq, Nat.reduceSub, Int.reduceToNat] <;> exact rfl), ⟨true, rfl, fun _ => ⟨d, by omega, .inr ⟨s, hsd, by omega, hb3, k, hik, by omega, hki.1 rfl, by rw [ha, Int.toNat_natCast, ← hP, ← hK]; exact hb5⟩⟩, fun _ => rfl⟩, hp.trans hp2⟩
        · have d5 : decide ((w.length : Int) + 1 ≤ (w.length : Int)) = false := decide_eq_false (by omega)
          obtain rfl : k = w.length + 1 := by omega
          repeat (first | refine cw_seq ?_ | refine cw_region ?_ | refine ow_nil ?_ | ((first | apply ow_cons | apply qw_cons); · simp only [push_cast, env, Nat.reduceEqDiff, reduceIte, Nat.reduceAdd, Nat.reduceMul, Nat.reduceLeDiff, reduceCtorEq, Nat.reduceSub, Int.reduceToNat, hc2, d5] <;> exact rfl) | ((first | apply ow_spec | apply qw_spec); · simp only [push_cast, env, Nat.reduceEqDiff, reduceIte, Nat.reduceAdd, Nat.reduceMul, Nat.reduceLeDiff, reduceCtorEq, Nat.reduceSub, Int.reduceToNat, hc2, d5] <;> exact rfl) | refine qw_nil ?_ | refine cw_block ?_ | refine cw_scope ?_ | refine cw_label ?_ | refine cw_skip ?_)
          refine cw_condF (by simp only [push_cast, env, Nat.reduceEqDiff, reduceIte, Nat.reduceAdd, Nat.reduceMul, Nat.reduceLeDiff, reduceCtorEq, Nat.reduceSub, Int.reduceToNat] <;> exact rfl) ?_
          refine cw_exit ?_
          show CW _ _ _ _
          repeat (first | refine cw_seq ?_ | refine cw_region ?_ | refine ow_nil ?_ | ((first | apply ow_cons | apply qw_cons); · simp only [push_cast, env, Nat.reduceEqDiff, reduceIte, Nat.reduceAdd, Nat.reduceMul, Nat.reduceLeDiff, reduceCtorEq, Nat.reduceSub, Int.reduceToNat, e2] <;> exact rfl) | ((first | apply ow_spec | apply qw_spec); · simp only [push_cast, env, Nat.reduceEqDiff, reduceIte, Nat.reduceAdd, Nat.reduceMul, Nat.reduceLeDiff, reduceCtorEq, Nat.reduceSub, Int.reduceToNat, e2] <;> exact rfl) | refine qw_nil ?_ | refine cw_block ?_ | refine cw_scope ?_ | refine cw_label ?_ | refine cw_skip ?_)
          exact ⟨by omega, h2, (by simp only [push_cast, SubL, fget, Nat.reduceEqDiff, reduceIte]), rfl, hp.trans hp2, fun d' hd' hb => (Nat.lt_or_ge d' d).elim (fun hh => hno d' hh hb) fun hh => by
            obtain rfl : d' = d := by omega
            rcases hb with hb | ⟨s', h1, h2, h3, k, h4, h5, h6, h7⟩
            · exact hn1 hb
            · rw [hsd] at h1
              cases h1
              rw [ha, Int.toNat_natCast] at h7
              exact hnk k h4 (by omega) ⟨h6, h7⟩⟩
    | true =>
      rw [hb1] at hEn hni
      repeat (first | refine cw_seq ?_ | refine cw_region ?_ | refine ow_nil ?_ | ((first | apply ow_cons | apply qw_cons); · simp only [push_cast, env, Nat.reduceEqDiff, reduceIte, Nat.reduceAdd, Nat.reduceMul, Nat.reduceLeDiff, reduceCtorEq, Nat.reduceSub, Int.reduceToNat, hc2, r1, heg, hEn, Nat.mul_one] <;> exact rfl) | ((first | apply ow_spec | apply qw_spec); · simp only [push_cast, env, Nat.reduceEqDiff, reduceIte, Nat.reduceAdd, Nat.reduceMul, Nat.reduceLeDiff, reduceCtorEq, Nat.reduceSub, Int.reduceToNat, hc2, r1, heg, hEn, Nat.mul_one] <;> exact rfl) | refine qw_nil ?_ | refine cw_block ?_ | refine cw_scope ?_ | refine cw_label ?_ | refine cw_skip ?_)
      refine ow_call (fn := Try.f61) (by simp only [push_cast, env, Nat.reduceEqDiff, reduceIte, Nat.reduceAdd, Nat.reduceMul, Nat.reduceLeDiff, reduceCtorEq, Nat.reduceSub, Int.reduceToNat] <;> exact rfl) rfl (by simp only [push_cast, env, Nat.reduceEqDiff, reduceIte, Nat.reduceAdd, Nat.reduceMul, Nat.reduceLeDiff, reduceCtorEq, Nat.reduceSub, Int.reduceToNat] <;> exact rfl) (by simp only [push_cast, env, Nat.reduceEqDiff, reduceIte, Nat.reduceAdd, Nat.reduceMul, Nat.reduceLeDiff, reduceCtorEq, Nat.reduceSub, Int.reduceToNat] <;> exact rfl) Try.func61 (by kernel_rfl) (by kernel_rfl) ?_
      rw [List.append_nil]
      refine (rest_fw (d := d) (SlR.mono (SlR.mono hl hp) hp2) ((hg.mono hp).mono hp2) (fun s hs' => by rw [hml]; exact (hs s hs').1) (by omega)).mono ?_
      rintro _ h2 ⟨rfl, rfl⟩
      cases hb2 : (l.drop d).all fun s => goodP s m with
      | true =>
        repeat (first | refine cw_seq ?_ | refine cw_region ?_ | refine ow_nil ?_ | ((first | apply ow_cons | apply qw_cons); · simp only [push_cast, env, Nat.reduceEqDiff, reduceIte, Nat.reduceAdd, Nat.reduceMul, Nat.reduceLeDiff, reduceCtorEq, Nat.reduceSub, Int.reduceToNat] <;> exact rfl) | ((first | apply ow_spec | apply qw_spec); · simp only [push_cast, env, Nat.reduceEqDiff, reduceIte, Nat.reduceAdd, Nat.reduceMul, Nat.reduceLeDiff, reduceCtorEq, Nat.reduceSub, Int.reduceToNat] <;> exact rfl) | refine qw_nil ?_ | refine cw_block ?_ | refine cw_scope ?_ | refine cw_label ?_ | refine cw_skip ?_)
        refine cw_condT (by simp only [push_cast, env, Nat.reduceEqDiff, reduceIte, Nat.reduceAdd, Nat.reduceMul, Nat.reduceLeDiff, reduceCtorEq, Nat.reduceSub, Int.reduceToNat] <;> exact rfl) ?_
        repeat (first | refine cw_seq ?_ | refine cw_region ?_ | refine ow_nil ?_ | ((first | apply ow_cons | apply qw_cons); · simp only [push_cast, env, Nat.reduceEqDiff, reduceIte, Nat.reduceAdd, Nat.reduceMul, Nat.reduceLeDiff, reduceCtorEq, Nat.reduceSub, Int.reduceToNat] <;> exact rfl) | ((first | apply ow_spec | apply qw_spec); · simp only [push_cast, env, Nat.reduceEqDiff, reduceIte, Nat.reduceAdd, Nat.reduceMul, Nat.reduceLeDiff, reduceCtorEq, Nat.reduceSub, Int.reduceToNat] <;> exact rfl) | refine qw_nil ?_ | refine cw_block ?_ | refine cw_scope ?_ | refine cw_label ?_ | refine cw_skip ?_)
        refine cw_ret ?_
        exact ⟨_, (by simp only [push_cast, env, Nat.reduceEqDiff, reduceIte, Nat.reduceAdd, Nat.reduceMul, Nat.reduceLeDiff, reduceCtorEq, Nat.reduceSub, Int.reduceToNat] <;> exact rfl), ⟨true, rfl, fun _ => ⟨d, by omega, .inl ⟨hni.1 rfl, hb2⟩⟩, fun _ => rfl⟩, hp.trans hp2⟩
      | false =>
        have hn1 : ¬ (Sq g.rules w (l.take d) i w.length ∧ restB m l d = true) := fun hh => by
          have := hh.2
          unfold restB at this
          rw [hb2] at this
          cases this
        repeat (first | refine cw_seq ?_ | refine cw_region ?_ | refine ow_nil ?_ | ((first | apply ow_cons | apply qw_cons); · simp only [push_cast, env, Nat.reduceEqDiff, reduceIte, Nat.reduceAdd, Nat.reduceMul, Nat.reduceLeDiff, reduceCtorEq, Nat.reduceSub, Int.reduceToNat] <;> exact rfl) | ((first | apply ow_spec | apply qw_spec); · simp only [push_cast, env, Nat.reduceEqDiff, reduceIte, Nat.reduceAdd, Nat.reduceMul, Nat.reduceLeDiff, reduceCtorEq, Nat.reduceSub, Int.reduceToNat] <;> exact rfl) | refine qw_nil ?_ | refine cw_block ?_ | refine cw_scope ?_ | refine cw_label ?_ | refine cw_skip ?_)
        refine cw_condF (by simp only [push_cast, env, Nat.reduceEqDiff, reduceIte, Nat.reduceAdd, Nat.reduceMul, Nat.reduceLeDiff, reduceCtorEq, Nat.reduceSub, Int.reduceToNat] <;> exact rfl) ?_
        by_cases hdl : d = l.length
        · have d3 : decide ((d : Int) = (l.length : Int)) = true := decide_eq_true (by omega)
          repeat (first | refine cw_seq ?_ | refine cw_region ?_ | refine ow_nil ?_ | ((first | apply ow_cons | apply qw_cons); · simp only [push_cast, env, Nat.reduceEqDiff, reduceIte, Nat.reduceAdd, Nat.reduceMul, Nat.reduceLeDiff, reduceCtorEq, Nat.reduceSub, Int.reduceToNat, d3] <;> exact rfl) | ((first | apply ow_spec | apply qw_spec); · simp only [push_cast, env, Nat.reduceEqDiff, reduceIte, Nat.reduceAdd, Nat.reduceMul, Nat.reduceLeDiff, reduceCtorEq, Nat.reduceSub, Int.reduceToNat, d3] <;> exact rfl) | refine qw_nil ?_ | refine cw_block ?_ | refine cw_scope ?_ | refine cw_label ?_ | refine cw_skip ?_)
          refine cw_condT (by simp only [push_cast, env, Nat.reduceEqDiff, reduceIte, Nat.reduceAdd, Nat.reduceMul, Nat.reduceLeDiff, reduceCtorEq, Nat.reduceSub, Int.reduceToNat] <;> exact rfl) ?_
          have hnd : ¬ BegD g w m M l i d := fun hb => by
            rcases hb with hb | ⟨s, h1, _⟩
            · exact hn1 hb
            · rw [List.getElem?_eq_none (by omega)] at h1
              cases h1
          refine cw_exit ?_
          show CW _ _ _ _
          repeat (first | refine cw_seq ?_ | refine cw_region ?_ | refine ow_nil ?_ | ((first | apply ow_cons | apply qw_cons); · simp only [push_cast, env, Nat.reduceEqDiff, reduceIte, Nat.reduceAdd, Nat.reduceMul, Nat.reduceLeDiff, reduceCtorEq, Nat.reduceSub, Int.reduceToNat, e2] <;> exact rfl) | ((first | apply ow_spec | apply qw_spec); · simp only [push_cast, env, Nat.reduceEqDiff, reduceIte, Nat.reduceAdd, Nat.reduceMul, Nat.reduceLeDiff, reduceCtorEq, Nat.reduceSub, Int.reduceToNat, e2] <;> exact rfl) | refine qw_nil ?_ | refine cw_block ?_ | refine cw_scope ?_ | refine cw_label ?_ | refine cw_skip ?_)
          exact ⟨by omega, h2, (by simp only [push_cast, SubL, fget, Nat.reduceEqDiff, reduceIte]), rfl, hp.trans hp2, fun d' hd' hb => (Nat.lt_or_ge d' d).elim (fun hh => hno d' hh hb) fun hh => by
            obtain rfl : d' = d := by omega
            exact hnd hb⟩
        have hlt : d < l.length := by omega
        have d3 : decide ((d : Int) = (l.length : Int)) = false := decide_eq_false (by omega)
        obtain ⟨ids, vers, owns, cs, cellss, hvs, hids, hrds⟩ := RdSyms.at (SlR.mono (SlR.mono hl hp) hp2) hlt
        cases hvs
        have g0 := rdH_get0 hrds (by omega)
        simp only [List.getElem?_cons_zero] at g0
        have r7 := rng hlt
        have hsd : l[d]? = some l[d] := List.getElem?_eq_getElem hlt
        have hsN := (hs _ (List.getElem_mem hlt)).1
        generalize l[d] = s at *
        by_cases h0 : s.nt < 0
        · have d4 : decide (s.nt < 0) = true := decide_eq_true h0
          repeat (first | refine cw_seq ?_ | refine cw_region ?_ | refine ow_nil ?_ | ((first | apply ow_cons | apply qw_cons); · simp only [push_cast, env, Nat.reduceEqDiff, reduceIte, Nat.reduceAdd, Nat.reduceMul, Nat.reduceLeDiff, reduceCtorEq, Nat.reduceSub, Int.reduceToNat, d3, r7, hids, g0, d4, Nat.mul_one] <;> exact rfl) | ((first | apply ow_spec | apply qw_spec); · simp only [push_cast, env, Nat.reduceEqDiff, reduceIte, Nat.reduceAdd, Nat.reduceMul, Nat.reduceLeDiff, reduceCtorEq, Nat.reduceSub, Int.reduceToNat, d3, r7, hids, g0, d4, Nat.mul_one] <;> exact rfl) | refine qw_nil ?_ | refine cw_block ?_ | refine cw_scope ?_ | refine cw_label ?_ | refine cw_skip ?_)
          refine cw_condT (by simp only [push_cast, env, Nat.reduceEqDiff, reduceIte, Nat.reduceAdd, Nat.reduceMul, Nat.reduceLeDiff, reduceCtorEq, Nat.reduceSub, Int.reduceToNat] <;> exact rfl) ?_
          have hnd : ¬ BegD g w m M l i d := fun hb => by
            rcases hb with hb | ⟨s', h1, h2, _⟩
            · exact hn1 hb
            · rw [hsd] at h1
              cases h1
              omega
          refine cw_exit ?_
          show CW _ _ _ _
          repeat (first | refine cw_seq ?_ | refine cw_region ?_ | refine ow_nil ?_ | ((first | apply ow_cons | apply qw_cons); · simp only [push_cast, env, Nat.reduceEqDiff, reduceIte, Nat.reduceAdd, Nat.reduceMul, Nat.reduceLeDiff, reduceCtorEq, Nat.reduceSub, Int.reduceToNat, e2] <;> exact rfl) | ((first | apply ow_spec | apply qw_spec); · simp only [push_cast, env, Nat.reduceEqDiff, reduceIte, Nat.reduceAdd, Nat.reduceMul, Nat.reduceLeDiff, reduceCtorEq, Nat.reduceSub, Int.reduceToNat, e2] <;> exact rfl) | refine qw_nil ?_ | refine cw_block ?_ | refine cw_scope ?_ | refine cw_label ?_ | refine cw_skip ?_)
          exact ⟨by omega, h2, (by simp only [push_cast, SubL, fget, Nat.reduceEqDiff, reduceIte]), rfl, hp.trans hp2, fun d' hd' hb => (Nat.lt_or_ge d' d).elim (fun hh => hno d' hh hb) fun hh => by
            obtain rfl : d' = d := by omega
            exact hnd hb⟩
        have d4 : decide (s.nt < 0) = false := decide_eq_false h0
        have e4 : IntKind.i64.wrap ((d : Int) + 1) = ((d + 1 : Nat) : Int) := by rw [wrap64_id (by omega) (by omega)]; omega
        repeat (first | refine cw_seq ?_ | refine cw_region ?_ | refine ow_nil ?_ | ((first | apply ow_cons | apply qw_cons); · simp only [push_cast, env, Nat.reduceEqDiff, reduceIte, Nat.reduceAdd, Nat.reduceMul, Nat.reduceLeDiff, reduceCtorEq, Nat.reduceSub, Int.reduceToNat, d3, r7, hids, g0, d4, e4, Nat.mul_one] <;> exact rfl) | ((first | apply ow_spec | apply qw_spec); · simp only [push_cast, env, Nat.reduceEqDiff, reduceIte, Nat.reduceAdd, Nat.reduceMul, Nat.reduceLeDiff, reduceCtorEq, Nat.reduceSub, Int.reduceToNat, d3, r7, hids, g0, d4, e4, Nat.mul_one] <;> exact rfl) | refine qw_nil ?_ | refine cw_block ?_ | refine cw_scope ?_ | refine cw_label ?_ | refine cw_skip ?_)
        refine ow_call (fn := Try.f61) (by simp only [push_cast, env, Nat.reduceEqDiff, reduceIte, Nat.reduceAdd, Nat.reduceMul, Nat.reduceLeDiff, reduceCtorEq, Nat.reduceSub, Int.reduceToNat, e4] <;> exact rfl) rfl (by simp only [push_cast, env, Nat.reduceEqDiff, reduceIte, Nat.reduceAdd, Nat.reduceMul, Nat.reduceLeDiff, reduceCtorEq, Nat.reduceSub, Int.reduceToNat, e4] <;> exact rfl) (by simp only [push_cast, env, Nat.reduceEqDiff, reduceIte, Nat.reduceAdd, Nat.reduceMul, Nat.reduceLeDiff, reduceCtorEq, Nat.reduceSub, Int.reduceToNat, e4] <;> exact rfl) Try.func61 (by kernel_rfl) (by kernel_rfl) ?_
        rw [List.append_nil]
        refine (rest_fw (d := d + 1) (SlR.mono (SlR.mono hl hp) hp2) ((hg.mono hp).mono hp2) (fun s hs' => by rw [hml]; exact (hs s hs').1) (by omega)).mono ?_
        rintro _ h2 ⟨rfl, rfl⟩
        cases hb3 : (l.drop (d + 1)).all fun s => goodP s m with
        | false =>
          repeat (first | refine cw_seq ?_ | refine cw_region ?_ | refine ow_nil ?_ | ((first | apply ow_cons | apply qw_cons); · simp only [push_cast, env, Nat.reduceEqDiff, reduceIte, Nat.reduceAdd, Nat.reduceMul, Nat.reduceLeDiff, reduceCtorEq, Nat.reduceSub, Int.reduceToNat] <;> exact rfl) | ((first | apply ow_spec | apply qw_spec); · simp only [push_cast, env, Nat.reduceEqDiff, reduceIte, Nat.reduceAdd, Nat.reduceMul, Nat.reduceLeDiff, reduceCtorEq, Nat.reduceSub, Int.reduceToNat] <;> exact rfl) | refine qw_nil ?_ | refine cw_block ?_ | refine cw_scope ?_ | refine cw_label ?_ | refine cw_skip ?_)
          refine cw_condT (by simp only [push_cast, env, Nat.reduceEqDiff, reduceIte, Nat.reduceAdd, Nat.reduceMul, Nat.reduceLeDiff, reduceCtorEq, Nat.reduceSub, Int.reduceToNat] <;> exact rfl) ?_
          have hnd : ¬ BegD g w m M l i d := fun hb => by
            rcases hb with hb | ⟨s', h1, h2, h3, _⟩
            · exact hn1 hb
            · unfold restB at h3
              rw [hb3] at h3
              cases h3
          refine cw_exit ?_
          show CW _ _ _ _
          repeat (first | refine cw_seq ?_ | refine cw_region ?_ | refine ow_nil ?_ | ((first | apply ow_cons | apply qw_cons); · simp only [push_cast, env, Nat.reduceEqDiff, reduceIte, Nat.reduceAdd, Nat.reduceMul, Nat.reduceLeDiff, reduceCtorEq, Nat.reduceSub, Int.reduceToNat, e2] <;> exact rfl) | ((first | apply ow_spec | apply qw_spec); · simp only [push_cast, env, Nat.reduceEqDiff, reduceIte, Nat.reduceAdd, Nat.reduceMul, Nat.reduceLeDiff, reduceCtorEq, Nat.reduceSub, Int.reduceToNat, e2] <;> exact rfl) | refine qw_nil ?_ | refine cw_block ?_ | refine cw_scope ?_ | refine cw_label ?_ | refine cw_skip ?_)
          exact ⟨by omega, h2, (by simp only [push_cast, SubL, fget, Nat.reduceEqDiff, reduceIte]), rfl, hp.trans hp2, fun d' hd' hb => (Nat.lt_or_ge d' d).elim (fun hh => hno d' hh hb) fun hh => by
            obtain rfl : d' = d := by omega
            exact hnd hb⟩
        | true =>
          obtain ⟨a, ha⟩ : ∃ a : Nat, s.nt = a := ⟨s.nt.toNat, by omega⟩
          rw [ha] at g0 hsN
          repeat (first | refine cw_seq ?_ | refine cw_region ?_ | refine ow_nil ?_ | ((first | apply ow_cons | apply qw_cons); · simp only [push_cast, env, Nat.reduceEqDiff, reduceIte, Nat.reduceAdd, Nat.reduceMul, Nat.reduceLeDiff, reduceCtorEq, Nat.reduceSub, Int.reduceToNat] <;> exact rfl) | ((first | apply ow_spec | apply qw_spec); · simp only [push_cast, env, Nat.reduceEqDiff, reduceIte, Nat.reduceAdd, Nat.reduceMul, Nat.reduceLeDiff, reduceCtorEq, Nat.reduceSub, Int.reduceToNat] <;> exact rfl) | refine qw_nil ?_ | refine cw_block ?_ | refine cw_scope ?_ | refine cw_label ?_ | refine cw_skip ?_)
          refine cw_condF (by simp only [push_cast, env, Nat.reduceEqDiff, reduceIte, Nat.reduceAdd, Nat.reduceMul, Nat.reduceLeDiff, reduceCtorEq, Nat.reduceSub, Int.reduceToNat] <;> exact rfl) ?_
          repeat (first | refine cw_seq ?_ | refine cw_region ?_ | refine ow_nil ?_ | ((first | apply ow_cons | apply qw_cons); · simp only [push_cast, env, Nat.reduceEqDiff, reduceIte, Nat.reduceAdd, Nat.reduceMul, Nat.reduceLeDiff, reduceCtorEq, Nat.reduceSub, Int.reduceToNat] <;> exact rfl) | ((first | apply ow_spec | apply qw_spec); · simp only [push_cast, env, Nat.reduceEqDiff, reduceIte, Nat.reduceAdd, Nat.reduceMul, Nat.reduceLeDiff, reduceCtorEq, Nat.reduceSub, Int.reduceToNat] <;> exact rfl) | refine qw_nil ?_ | refine cw_block ?_ | refine cw_scope ?_ | refine cw_label ?_ | refine cw_skip ?_)
          refine cw_wh (fun k : Nat => w.length + 1 - k) (fun k => [(0, .val (.pointer (some ⟨tp, 0, some 0⟩))), (1, .val (.slice (some ⟨ids, 0, some vers⟩) l.length c)), (2, .val (i64 i)), (3, .val vg), (4, .val (.slice (some ⟨idM, 0, some verM⟩) M.length cM)), (11, .val (i64 d)), (12, .val (.slice (some ⟨ie, 0, some ve⟩) (w.length + 1) (w.length + 1))), (13, .val (i64 k))]) (fun _ => h2)
            (fun k => i ≤ k ∧ k ≤ w.length + 1 ∧ ∀ k', i ≤ k' → k' < k → ¬ (Sq g.rules w (l.take d) i k' ∧ M.getD (a * (w.length + 1) + k') false = true)) i (by simp only [push_cast, SubL, fget, Nat.reduceEqDiff, reduceIte]) rfl ⟨Nat.le_refl _, by omega, fun k' h1 h2 => by omega⟩ ?_
          rintro k ⟨hik, hkn, hnk⟩
          by_cases hlk : k < w.length + 1
          · have d5 : decide ((k : Int) ≤ (w.length : Int)) = true := decide_eq_true (by omega)
            have e5 : IntKind.i64.wrap ((k : Int) + 1) = (k : Int) + 1 := wrap64_id (by omega) (by omega)
            have r8 : (0 ≤ (k : Int) ∧ (k : Int) < (w.length : Int) + 1) = True := by simp; omega
            have hEk := endL_get (yf := yfn Y (w.length + 1)) (w := w) (l := l.take d) (i := i) (k := (l.take d).length) (j := k) (by omega)
            have hki := ends_iff hS hF (l := l) (i := i) (j := k) (d := d) hi (by omega)
            repeat (first | refine cw_seq ?_ | refine cw_region ?_ | refine ow_nil ?_ | ((first | apply ow_cons | apply qw_cons); · simp only [push_cast, env, Nat.reduceEqDiff, reduceIte, Nat.reduceAdd, Nat.reduceMul, Nat.reduceLeDiff, reduceCtorEq, Nat.reduceSub, Int.reduceToNat, hc2, d5] <;> exact rfl) | ((first | apply ow_spec | apply qw_spec); · simp only [push_cast, env, Nat.reduceEqDiff, reduceIte, Nat.reduceAdd, Nat.reduceMul, Nat.reduceLeDiff, reduceCtorEq, Nat.reduceSub, Int.reduceToNat, hc2, d5] <;> exact rfl) | refine qw_nil ?_ | refine cw_block ?_ | refine cw_scope ?_ | refine cw_label ?_ | refine cw_skip ?_)
            refine cw_condT (by simp only [push_cast, env, Nat.reduceEqDiff, reduceIte, Nat.reduceAdd, Nat.reduceMul, Nat.reduceLeDiff, reduceCtorEq, Nat.reduceSub, Int.reduceToNat] <;> exact rfl) ?_
            repeat (first | refine cw_seq ?_ | refine cw_region ?_ | refine ow_nil ?_ | ((first | apply ow_cons | apply qw_cons); · simp only [push_cast, env, Nat.reduceEqDiff, reduceIte, Nat.reduceAdd, Nat.reduceMul, Nat.reduceLeDiff, reduceCtorEq, Nat.reduceSub, Int.reduceToNat] <;> exact rfl) | ((first | apply ow_spec | apply qw_spec); · simp only [push_cast, env, Nat.reduceEqDiff, reduceIte, Nat.reduceAdd, Nat.reduceMul, Nat.reduceLeDiff, reduceCtorEq, Nat.reduceSub, Int.reduceToNat] <;> exact rfl) | refine qw_nil ?_ | refine cw_block ?_ | refine cw_scope ?_ | refine cw_label ?_ | refine cw_skip ?_)
            refine cw_regionD 21 mixed (by kernel_rfl) ?_
            cases hb4 : endB (yfn Y (w.length + 1)) w (l.take d) i (l.take d).length k with
            | false =>
              rw [hb4] at hEk hki
              repeat (first | refine cw_seq ?_ | refine cw_region ?_ | refine ow_nil ?_ | ((first | apply ow_cons | apply qw_cons); · simp only [push_cast, env, Nat.reduceEqDiff, reduceIte, Nat.reduceAdd, Nat.reduceMul, Nat.reduceLeDiff, reduceCtorEq, Nat.reduceSub, Int.reduceToNat, heg, hEk, r8, Nat.mul_one] <;> exact rfl) | ((first | apply ow_spec | apply qw_spec); · simp only [push_cast, env, Nat.reduceEqDiff, reduceIte, Nat.reduceAdd, Nat.reduceMul, Nat.reduceLeDiff, reduceCtorEq, Nat.reduceSub, Int.reduceToNat, heg, hEk, r8, Nat.mul_one] <;> exact rfl) | refine qw_nil ?_ | refine cw_block ?_ | refine cw_scope ?_ | refine cw_label ?_ | refine cw_skip ?_)
              refine cw_condF (by simp only [push_cast, env, Nat.reduceEqDiff, reduceIte, Nat.reduceAdd, Nat.reduceMul, Nat.reduceLeDiff, reduceCtorEq, Nat.reduceSub, Int.reduceToNat] <;> exact rfl) ?_
              repeat (first | refine cw_seq ?_ | refine cw_region ?_ | refine ow_nil ?_ | ((first | apply ow_cons | apply qw_cons); · simp only [push_cast, env, Nat.reduceEqDiff, reduceIte, Nat.reduceAdd, Nat.reduceMul, Nat.reduceLeDiff, reduceCtorEq, Nat.reduceSub, Int.reduceToNat, e5] <;> exact rfl) | ((first | apply ow_spec | apply qw_spec); · simp only [push_cast, env, Nat.reduceEqDiff, reduceIte, Nat.reduceAdd, Nat.reduceMul, Nat.reduceLeDiff, reduceCtorEq, Nat.reduceSub, Int.reduceToNat, e5] <;> exact rfl) | refine qw_nil ?_ | refine cw_block ?_ | refine cw_scope ?_ | refine cw_label ?_ | refine cw_skip ?_)
              exact ⟨k + 1, by dsimp only; omega, (by simp only [push_cast, SubL, fget, Nat.reduceEqDiff, reduceIte]), rfl, by omega, by omega, fun k' h1 h2 hh => (Nat.lt_or_ge k' k).elim (fun h3 => hnk k' h1 h3 hh) fun h3 => by
                obtain rfl : k' = k := by omega
                have := hki.2 hh.1
                cases this⟩
            | true =>
              rw [hb4] at hEk hki
              have b1 : a * (w.length + 1) ≤ 4096 * 513 := Nat.mul_le_mul (by omega) (by omega)
              obtain ⟨P, hP⟩ : ∃ P, P = a * (w.length + 1) := ⟨_, rfl⟩
              have b2 : P + k < M.length := by
                have h1 : (a + 1) * (w.length + 1) ≤ N * (w.length + 1) := Nat.mul_le_mul_right _ (by omega)
                rw [Nat.succ_mul] at h1
                omega
              rw [← hP] at b1
              have e6 : IntKind.i64.wrap ((w.length : Int) + 1) = (w.length : Int) + 1 := wrap64_id (by omega) (by omega)
              have e7 : IntKind.i64.wrap ((a : Int) * ((w.length : Int) + 1)) = (P : Int) := by
                rw [show ((w.length : Int) + 1) = ((w.length + 1 : Nat) : Int) by omega, ← Int.natCast_mul, ← hP]
                exact wrap64_id (by omega) (by omega)
              obtain ⟨K, hK⟩ : ∃ K, K = P + k := ⟨_, rfl⟩
              have e8 : IntKind.i64.wrap ((P : Int) + (k : Int)) = (K : Int) := by rw [wrap64_id (by omega) (by omega)]; omega
              rw [← hK] at b2
              have r9 := rng b2
              have gM := mk_get b2
              cases hb5 : M.getD K false with
              | false =>
                rw [hb5] at gM
                repeat (first | refine cw_seq ?_ | refine cw_region ?_ | refine ow_nil ?_ | ((first | apply ow_cons | apply qw_cons); · simp only [push_cast, env, Nat.reduceEqDiff, reduceIte, Nat.reduceAdd, Nat.reduceMul, Nat.reduceLeDiff, reduceCtorEq, Nat.reduceSub, Int.reduceToNat, heg, hEk, r8, hc2, r7, hids, g0, e6, e7, e8, r9, hM2, gM, Nat.mul_one] <;> exact rfl) | ((first | apply ow_spec | apply qw_spec); · simp only [push_cast, env, Nat.reduceEqDiff, reduceIte, Nat.reduceAdd, Nat.reduceMul, Nat.reduceLeDiff, reduceCtorEq, Nat.reduceSub, Int.reduceToNat, heg, hEk, r8, hc2, r7, hids, g0, e6, e7, e8, r9, hM2, gM, Nat.mul_one] <;> exact rfl) | refine qw_nil ?_ | refine cw_block ?_ | refine cw_scope ?_ | refine cw_label ?_ | refine cw_skip ?_)
                refine cw_condF (by simp only [push_cast, env, Nat.reduceEqDiff, reduceIte, Nat.reduceAdd, Nat.reduceMul, Nat.reduceLeDiff, reduceCtorEq, Nat.reduceSub, Int.reduceToNat] <;> exact rfl) ?_
                repeat (first | refine cw_seq ?_ | refine cw_region ?_ | refine ow_nil ?_ | ((first | apply ow_cons | apply qw_cons); · simp only [push_cast, env, Nat.reduceEqDiff, reduceIte, Nat.reduceAdd, Nat.reduceMul, Nat.reduceLeDiff, reduceCtorEq, Nat.reduceSub, Int.reduceToNat, e5] <;> exact rfl) | ((first | apply ow_spec | apply qw_spec); · simp only [push_cast, env, Nat.reduceEqDiff, reduceIte, Nat.reduceAdd, Nat.reduceMul, Nat.reduceLeDiff, reduceCtorEq, Nat.reduceSub, Int.reduceToNat, e5] <;> exact rfl) | refine qw_nil ?_ | refine cw_block ?_ | refine cw_scope ?_ | refine cw_label ?_ | refine cw_skip ?_)
                exact ⟨k + 1, by dsimp only; omega, (by simp only [push_cast, SubL, fget, Nat.reduceEqDiff, reduceIte]), rfl, by omega, by omega, fun k' h1 h2 hh => (Nat.lt_or_ge k' k).elim (fun h3 => hnk k' h1 h3 hh) fun h3 => by
                  obtain rfl : k' = k := by omega
                  have := hh.2
                  rw [← hP, ← hK, hb5] at this
                  cases this⟩
              | true =>
                rw [hb5] at gM
                repeat (first | refine cw_seq ?_ | refine cw_region ?_ | refine ow_nil ?_ | ((first | apply ow_cons | apply qw_cons); · simp only [push_cast, env, Nat.reduceEqDiff, reduceIte, Nat.reduceAdd, Nat.reduceMul, Nat.reduceLeDiff, reduceCtorEq, Nat.reduceSub, Int.reduceToNat, heg, hEk, r8, hc2, r7, hids, g0, e6, e7, e8, r9, hM2, gM, Nat.mul_one] <;> exact rfl) | ((first | apply ow_spec | apply qw_spec); · simp only [push_cast, env, Nat.reduceEqDiff, reduceIte, Nat.reduceAdd, Nat.reduceMul, Nat.reduceLeDiff, reduceCtorEq, Nat.reduceSub, Int.reduceToNat, heg, hEk, r8, hc2, r7, hids, g0, e6, e7, e8, r9, hM2, gM, Nat.mul_one] <;> exact rfl) | refine qw_nil ?_ | refine cw_block ?_ | refine cw_scope ?_ | refine cw_label ?_ | refine cw_skip ?_)
                refine cw_condT (by simp only [push_cast, env, Nat.reduceEqDiff, reduceIte, Nat.reduceAdd, Nat.reduceMul, Nat.reduceLeDiff, reduceCtorEq, Nat.reduceSub, Int.reduceToNat] <;> exact rfl) ?_
                repeat (first | refine cw_seq ?_ | refine cw_region ?_ | refine ow_nil ?_ | ((first | apply ow_cons | apply qw_cons); · simp only [push_cast, env, Nat.reduceEqDiff, reduceIte, Nat.reduceAdd, Nat.reduceMul, Nat.reduceLeDiff, reduceCtorEq, Nat.reduceSub, Int.reduceToNat] <;> exact rfl) | ((first | apply ow_spec | apply qw_spec); · simp only [push_cast, env, Nat.reduceEqDiff, reduceIte, Nat.reduceAdd, Nat.reduceMul, Nat.reduceLeDiff, reduceCtorEq, Nat.reduceSub, Int.reduceToNat] <;> exact rfl) | refine qw_nil ?_ | refine cw_block ?_ | refine cw_scope ?_ | refine cw_label ?_ | refine cw_skip ?_)
                refine cw_ret ?_
                exact ⟨_, (by simp only [push_cast, env, Nat.reduceEqDiff, reduceIte, Nat.reduceAdd, Nat.reduceMul, Nat.reduceLeDiff, reduceCtorEq, Nat.reduceSub, Int.reduceToNat] <;> exact rfl), ⟨true, rfl, fun _ => ⟨d, by omega, .inr ⟨s, hsd, by omega, hb3, k, hik, by omega, hki.1 rfl, by rw [ha, Int.toNat_natCast, ← hP, ← hK]; exact hb5⟩⟩, fun _ => rfl⟩, hp.trans hp2⟩
          · have d5 : decide ((w.length : Int) + 1 ≤ (w.length : Int)) = false := decide_eq_false (by omega)
            obtain rfl : k = w.length + 1 := by omega
            repeat (first | refine cw_seq ?_ | refine cw_region ?_ | refine ow_nil ?_ | ((first | apply ow_cons | apply qw_cons); · simp only [push_cast, env, Nat.reduceEqDiff, reduceIte, Nat.reduceAdd, Nat.reduceMul, Nat.reduceLeDiff, reduceCtorEq, Nat.reduceSub, Int.reduceToNat, hc2, d5] <;> exact rfl) | ((first | apply ow_spec | apply qw_spec); · simp only [push_cast, env, Nat.reduceEqDiff, reduceIte, Nat.reduceAdd, Nat.reduceMul, Nat.reduceLeDiff, reduceCtorEq, Nat.reduceSub, Int.reduceToNat, hc2, d5] <;> exact rfl) | refine qw_nil ?_ | refine cw_block ?_ | refine cw_scope ?_ | refine cw_label ?_ | refine cw_skip ?_)
            refine cw_condF (by simp only [push_cast, env, Nat.reduceEqDiff, reduceIte, Nat.reduceAdd, Nat.reduceMul, Nat.reduceLeDiff, reduceCtorEq, Nat.reduceSub, Int.reduceToNat] <;> exact rfl) ?_
            refine cw_exit ?_
            show CW _ _ _ _
            repeat (first | refine cw_seq ?_ | refine cw_region ?_ | refine ow_nil ?_ | ((first | apply ow_cons | apply qw_cons); · simp only [push_cast, env, Nat.reduceEqDiff, reduceIte, Nat.reduceAdd, Nat.reduceMul, Nat.reduceLeDiff, reduceCtorEq, Nat.reduceSub, Int.reduceToNat, e2] <;> exact rfl) | ((first | apply ow_spec | apply qw_spec); · simp only [push_cast, env, Nat.reduceEqDiff, reduceIte, Nat.reduceAdd, Nat.reduceMul, Nat.reduceLeDiff, reduceCtorEq, Nat.reduceSub, Int.reduceToNat, e2] <;> exact rfl) | refine qw_nil ?_ | refine cw_block ?_ | refine cw_scope ?_ | refine cw_label ?_ | refine cw_skip ?_)
            exact ⟨by omega, h2, (by simp only [push_cast, SubL, fget, Nat.reduceEqDiff, reduceIte]), rfl, hp.trans hp2, fun d' hd' hb => (Nat.lt_or_ge d' d).elim (fun hh => hno d' hh hb) fun hh => by
              obtain rfl : d' = d := by omega
              rcases hb with hb | ⟨s', h1, h2, h3, k, h4, h5, h6, h7⟩
              · exact hn1 hb
              · rw [hsd] at h1
                cases h1
                rw [ha, Int.toNat_natCast] at h7
                exact hnk k h4 (by omega) ⟨h6, h7⟩⟩
  · have d1 : decide ((l.length : Int) + 1 ≤ (l.length : Int)) = false := decide_eq_false (by omega)
    obtain rfl : d = l.length + 1 := by omega
    repeat (first | refine cw_seq ?_ | refine cw_region ?_ | refine ow_nil ?_ | ((first | apply ow_cons | apply qw_cons); · simp only [push_cast, env, Nat.reduceEqDiff, reduceIte, Nat.reduceAdd, Nat.reduceMul, Nat.reduceLeDiff, reduceCtorEq, Nat.reduceSub, Int.reduceToNat, d1] <;> exact rfl) | ((first | apply ow_spec | apply qw_spec); · simp only [push_cast, env, Nat.reduceEqDiff, reduceIte, Nat.reduceAdd, Nat.reduceMul, Nat.reduceLeDiff, reduceCtorEq, Nat.reduceSub, Int.reduceToNat, d1] <;> exact rfl) | refine qw_nil ?_ | refine cw_block ?_ | refine cw_scope ?_ | refine cw_label ?_ | refine cw_skip ?_)
    refine cw_condF (by simp only [push_cast, env, Nat.reduceEqDiff, reduceIte, Nat.reduceAdd, Nat.reduceMul, Nat.reduceLeDiff, reduceCtorEq, Nat.reduceSub, Int.reduceToNat] <;> exact rfl) ?_
    refine cw_exit ?_
    show CW _ _ _ _
    repeat (first | refine cw_seq ?_ | refine cw_region ?_ | refine ow_nil ?_ | ((first | apply ow_cons | apply qw_cons); · simp only [push_cast, env, Nat.reduceEqDiff, reduceIte, Nat.reduceAdd, Nat.reduceMul, Nat.reduceLeDiff, reduceCtorEq, Nat.reduceSub, Int.reduceToNat] <;> exact rfl) | ((first | apply ow_spec | apply qw_spec); · simp only [push_cast, env, Nat.reduceEqDiff, reduceIte, Nat.reduceAdd, Nat.reduceMul, Nat.reduceLeDiff, reduceCtorEq, Nat.reduceSub, Int.reduceToNat] <;> exact rfl) | refine qw_nil ?_ | refine cw_block ?_ | refine cw_scope ?_ | refine cw_label ?_ | refine cw_skip ?_)
    refine cw_ret ?_
    refine ⟨_, (by simp only [push_cast, env, Nat.reduceEqDiff, reduceIte, Nat.reduceAdd, Nat.reduceMul, Nat.reduceLeDiff, reduceCtorEq, Nat.reduceSub, Int.reduceToNat] <;> exact rfl), ⟨false, rfl, fun h => (by cases h), fun ⟨d, h1, h2⟩ => absurd h2 (hno d (by omega))⟩, hp⟩
end Go.Proofs.Ytafncpgiibikcaa

/- The reference's beginnings: Begins. -/
namespace Go.Proofs.Ytafncpgiibikcaa
set_option linter.unusedSimpArgs false
set_option linter.unusedVariables false
set_option maxRecDepth 20000
open Go.RowKit Am Ty

section
variable {g : Gram} {w : List Nat} {m : List Bool}
def MS (g : Gram) (w : List Nat) (M : List Bool) : Prop := ∀ a i : Nat, i ≤ w.length → M.getD (a * (w.length + 1) + i) false = true → Bg g w a i
def MC (g : Gram) (w : List Nat) (m M : List Bool) : Prop := ∀ r ∈ g.rules, ∀ i : Nat, i ≤ w.length → BegP g w m M r.rhs i → M.getD (r.lhs.toNat * (w.length + 1) + i) false = true
theorem rest_good (R : RightS g) (hm : Marks g.nts (goodD g) m) {r : Rule} (hr : r ∈ g.rules) {d : Nat} : restB m r.rhs d = true ↔ ∀ s ∈ r.rhs.drop d, GoodS g s := by
  unfold restB
  rw [List.all_eq_true]
  exact ⟨fun h s hs => (goodS_iff R hm hr (List.mem_of_mem_drop hs)).1 (h s hs), fun h s hs => (goodS_iff R hm hr (List.mem_of_mem_drop hs)).2 (h s hs)⟩
theorem BegP.sound (R : RightS g) (hm : Marks g.nts (goodD g) m) {M : List Bool} (hM : MS g w M) {r : Rule} (hr : r ∈ g.rules) {i : Nat} (h : BegP g w m M r.rhs i) : Bg g w r.lhs i := by
  obtain ⟨d, hd, ⟨h1, h2⟩ | ⟨s, h1, h2, h3, k, h4, h5, h6, h7⟩⟩ := h
  · exact .full r d i hr hd h1 ((rest_good R hm hr).1 h2)
  · have := hM s.nt.toNat k h5 h7
    rw [show ((s.nt.toNat : Nat) : Int) = s.nt by omega] at this
    exact .part r d i k s hr h1 h2 ((rest_good R hm hr).1 h3) h6 this
theorem MC.full (R : RightS g) (hm : Marks g.nts (goodD g) m) {M : List Bool} (hM : MC g w m M) {A : Int} {i : Nat} (h : Bg g w A i) : M.getD (A.toNat * (w.length + 1) + i) false = true := by
  induction h with
  | full r d i h1 h2 h3 h4 => exact hM r h1 i (Nat.le_trans h3.1 (Nat.le_refl _)) ⟨d, h2, .inl ⟨h3, (rest_good R hm h1).2 h4⟩⟩
  | part r d i k s h1 h2 h3 h4 h5 hb ih =>
    have hd := (List.getElem?_eq_some_iff.1 h2).1
    exact hM r h1 i (by have := h5.1; have := h5.2.1; omega) ⟨d, by omega, .inr ⟨s, h2, h3, (rest_good R hm h1).2 h4, k, h5.1, h5.2.1, h5, ih⟩⟩
/-- what one round has gone through -/
def PD (g : Gram) (w : List Nat) (m M : List Bool) (r i : Nat) : Prop := ∀ (r' i' : Nat) (q : Rule), (r' < r ∨ r' = r ∧ i' < i) → i' ≤ w.length → g.rules[r']? = some q → BegP g w m M q.rhs i' → M.getD (q.lhs.toNat * (w.length + 1) + i') false = true
structure RI (h2 : Heap) (g : Gram) (w : List Nat) (m : List Bool) (idM verM N : Nat) (M0 : List Bool) (r i : Nat) (hk : Heap) (M : List Bool) (more : Bool) : Prop where
  p : h2 <+: hk
  o : hk[idM]? = some (.arr (M.map .bool) verM true 4)
  n : M.length = N * (w.length + 1)
  s : MS g w M
  d : more = true → M.count false < M0.count false
  f : more = false → M = M0 ∧ PD g w m M0 r i
theorem PD.rowEnd {M : List Bool} {r : Nat} (h : PD g w m M r (w.length + 1)) : PD g w m M (r + 1) 0 := fun r' i' q h1 h2 h3 h4 => by
  refine h r' i' q ?_ h2 h3 h4
  rcases h1 with h1 | ⟨_, h1⟩
  · rcases Nat.lt_or_ge r' r with h5 | h5
    · exact .inl h5
    · exact .inr ⟨by omega, by omega⟩
  · omega
theorem PD.step {M : List Bool} {r i : Nat} {q : Rule} (h : PD g w m M r i) (hq : g.rules[r]? = some q) (hi : BegP g w m M q.rhs i → M.getD (q.lhs.toNat * (w.length + 1) + i) false = true) : PD g w m M r (i + 1) := fun r' i' q' h1 h2 h3 h4 => by
  by_cases h5 : r' < r ∨ r' = r ∧ i' < i
  · exact h r' i' q' h5 h2 h3 h4
  · obtain rfl : r' = r := by omega
    obtain rfl : i' = i := by omega
    rw [hq] at h3
    cases h3
    exact hi h4
theorem RI.upd {h2 : Heap} {idM verM N : Nat} {M0 M : List Bool} {r i r' i' : Nat} {hk : Heap} {more : Bool} (I : RI h2 g w m idM verM N M0 r i hk M more) (h : PD g w m M0 r i → PD g w m M0 r' i') : RI h2 g w m idM verM N M0 r' i' hk M more :=
  ⟨I.p, I.o, I.n, I.s, I.d, fun hm => ⟨(I.f hm).1, h (I.f hm).2⟩⟩
theorem RI.mono {h2 : Heap} {idM verM N : Nat} {M0 M : List Bool} {r i : Nat} {hk hk' : Heap} {more : Bool} (I : RI h2 g w m idM verM N M0 r i hk M more) (hp : hk <+: hk') : RI h2 g w m idM verM N M0 r i hk' M more :=
  ⟨I.p.trans hp, getElem?_of_prefix hp I.o, I.n, I.s, I.d, I.f⟩
theorem ms_set {M : List Bool} (hM : MS g w M) {a i : Nat} (ha : a * (w.length + 1) + i < M.length) (hi : i ≤ w.length) (h : Bg g w a i) : MS g w (M.set (a * (w.length + 1) + i) true) := fun b j hj hb => by
  by_cases he : a * (w.length + 1) + i = b * (w.length + 1) + j
  · have h1 : (a * (w.length + 1) + i) / (w.length + 1) = a := by rw [Nat.add_comm, Nat.add_mul_div_right _ _ (by omega), Nat.div_eq_of_lt (by omega)]; omega
    have h2 : (b * (w.length + 1) + j) / (w.length + 1) = b := by rw [Nat.add_comm, Nat.add_mul_div_right _ _ (by omega), Nat.div_eq_of_lt (by omega)]; omega
    obtain rfl : a = b := by rw [← h1, ← h2, he]
    obtain rfl : i = j := by omega
    exact h
  · refine hM b j hj ?_
    rw [List.getD_eq_getElem?_getD, List.getElem?_set_ne he, ← List.getD_eq_getElem?_getD] at hb
    exact hb
end
set_option maxHeartbeats 16000000 in
theorem rbegins_fw {h : Heap} {g : Gram} {v wv : Value} {w : List Nat} {N : Nat} (hr : RdGram h v g) (hwR : RdB h wv w) (hnb : ¬ badG g) (W : WfG g) (hw : w.length ≤ 512) (hN : g.nts = N) (hsz : N * (w.length + 1) * (w.length + 1) ≤ 1000000) :
    FW env 32 [v, wv] h fun r h' => (∃ b, r = .bool b ∧ (b = true ↔ Bg g w g.start 0)) ∧ h <+: h' := by
  obtain ⟨u, rfl, hu⟩ := id hr
  obtain ⟨p, c, rfl⟩ := hu.form
  obtain ⟨pw, cw, rfl⟩ := hwR.form
  have R := rightS hnb
  have n1 := R.n1
  have n2 := R.n2
  have hrl := R.rl
  have s1 := R.s1
  have s2 := R.s2
  obtain ⟨Tn, hTn⟩ : ∃ Tn, Tn = N * (w.length + 1) := ⟨_, rfl⟩
  have hTb : Tn ≤ 1000000 := by rw [hTn]; exact Nat.le_trans (Nat.le_mul_of_pos_right _ (by omega)) hsz
  have hT0 : 0 < Tn := by rw [hTn]; exact Nat.mul_pos (by omega) (by omega)
  have w1 : IntKind.i64.wrap ((w.length : Int) + 1) = (w.length : Int) + 1 := wrap64_id (by omega) (by omega)
  have w2 : IntKind.i64.wrap (g.nts * ((w.length : Int) + 1)) = (Tn : Int) := by
    rw [hN, show ((w.length : Int) + 1) = ((w.length + 1 : Nat) : Int) by omega, ← Int.natCast_mul, ← hTn]
    exact wrap64_id (by omega) (by omega)
  have hidx : ∀ a i : Nat, a < N → i ≤ w.length → a * (w.length + 1) + i < Tn := fun a i ha hi => by
    have h1 : (a + 1) * (w.length + 1) ≤ N * (w.length + 1) := Nat.mul_le_mul_right _ (by omega)
    rw [Nat.succ_mul] at h1
    omega
  have w3 : ∀ a : Nat, a < N → IntKind.i64.wrap ((a : Int) * ((w.length : Int) + 1)) = ((a * (w.length + 1) : Nat) : Int) := fun a ha => by
    have := hidx a 0 ha (by omega)
    rw [show ((w.length : Int) + 1) = ((w.length + 1 : Nat) : Int) by omega, ← Int.natCast_mul]
    exact wrap64_id (by omega) (by omega)
  refine fw_enter (fn := Try.f32) Try.func32 rfl (by kernel_rfl) (by simp [Try.ntmps32]) ?_; simp only [push_cast]
  repeat (first | refine cw_seq ?_ | refine cw_region ?_ | refine ow_nil ?_ | ((first | apply ow_cons | apply qw_cons); · simp only [push_cast, env, Nat.reduceEqDiff, reduceIte, Nat.reduceAdd, Nat.reduceMul, Nat.reduceLeDiff, reduceCtorEq, Nat.reduceSub, Int.reduceToNat] <;> exact rfl) | ((first | apply ow_spec | apply qw_spec); · simp only [push_cast, env, Nat.reduceEqDiff, reduceIte, Nat.reduceAdd, Nat.reduceMul, Nat.reduceLeDiff, reduceCtorEq, Nat.reduceSub, Int.reduceToNat] <;> exact rfl) | refine qw_nil ?_ | refine cw_block ?_ | refine cw_scope ?_ | refine cw_label ?_ | refine cw_skip ?_)
  refine ow_call (fn := Try.f50) (by simp only [push_cast, env, Nat.reduceEqDiff, reduceIte, Nat.reduceAdd, Nat.reduceMul, Nat.reduceLeDiff, reduceCtorEq, Nat.reduceSub, Int.reduceToNat] <;> exact rfl) rfl (by simp only [push_cast, env, Nat.reduceEqDiff, reduceIte, Nat.reduceAdd, Nat.reduceMul, Nat.reduceLeDiff, reduceCtorEq, Nat.reduceSub, Int.reduceToNat] <;> exact rfl) (by simp only [push_cast, env, Nat.reduceEqDiff, reduceIte, Nat.reduceAdd, Nat.reduceMul, Nat.reduceLeDiff, reduceCtorEq, Nat.reduceSub, Int.reduceToNat] <;> exact rfl) Try.func50 (by kernel_rfl) (by kernel_rfl) ?_
  rw [List.append_nil]
  refine (rproductive_fw hr).mono ?_
  rintro _ h1 ⟨⟨vg, rfl, hTold⟩, hp1⟩
  obtain ⟨m, hm, hMine⟩ : ∃ m, Marks g.nts (goodD g) m ∧ MineB h h1 vg m := by
    rcases hTold with ⟨hb, _⟩ | ⟨_, k⟩
    · exact absurd hb hnb
    · exact k
  have hg1 := MkR.of hMine
  have hml : m.length = N := by have := hm.1; omega
  clear hTold
  repeat (first | refine cw_seq ?_ | refine cw_region ?_ | refine ow_nil ?_ | ((first | apply ow_cons | apply qw_cons); · simp only [push_cast, env, Nat.reduceEqDiff, reduceIte, Nat.reduceAdd, Nat.reduceMul, Nat.reduceLeDiff, reduceCtorEq, Nat.reduceSub, Int.reduceToNat] <;> exact rfl) | ((first | apply ow_spec | apply qw_spec); · simp only [push_cast, env, Nat.reduceEqDiff, reduceIte, Nat.reduceAdd, Nat.reduceMul, Nat.reduceLeDiff, reduceCtorEq, Nat.reduceSub, Int.reduceToNat] <;> exact rfl) | refine qw_nil ?_ | refine cw_block ?_ | refine cw_scope ?_ | refine cw_label ?_ | refine cw_skip ?_)
  refine ow_call (fn := Try.f38) (by simp only [push_cast, env, Nat.reduceEqDiff, reduceIte, Nat.reduceAdd, Nat.reduceMul, Nat.reduceLeDiff, reduceCtorEq, Nat.reduceSub, Int.reduceToNat] <;> exact rfl) rfl (by simp only [push_cast, env, Nat.reduceEqDiff, reduceIte, Nat.reduceAdd, Nat.reduceMul, Nat.reduceLeDiff, reduceCtorEq, Nat.reduceSub, Int.reduceToNat] <;> exact rfl) (by simp only [push_cast, env, Nat.reduceEqDiff, reduceIte, Nat.reduceAdd, Nat.reduceMul, Nat.reduceLeDiff, reduceCtorEq, Nat.reduceSub, Int.reduceToNat] <;> exact rfl) Try.func38 (by kernel_rfl) (by kernel_rfl) ?_
  rw [List.append_nil]
  refine (fill_fw (hr.mono hp1) (hwR.mono hp1) R W hw hN hsz).mono ?_
  rintro _ h2 ⟨tp, rv, yi, yr, Y, rfl, hp2, T, hY, hS, hF, hrules⟩
  obtain ⟨cy, hc⟩ := T.c
  have hg2 := hg1.mono hp2
  have hu2 := (hu.mono hp1).mono hp2
  have hw2 := (hwR.mono hp1).mono hp2
  have hph := hp1.trans hp2
  repeat (first | refine cw_seq ?_ | refine cw_region ?_ | refine ow_nil ?_ | ((first | apply ow_cons | apply qw_cons); · simp only [push_cast, env, Nat.reduceEqDiff, reduceIte, Nat.reduceAdd, Nat.reduceMul, Nat.reduceLeDiff, reduceCtorEq, Nat.reduceSub, Int.reduceToNat] <;> exact rfl) | ((first | apply ow_spec | apply qw_spec); · simp only [push_cast, env, Nat.reduceEqDiff, reduceIte, Nat.reduceAdd, Nat.reduceMul, Nat.reduceLeDiff, reduceCtorEq, Nat.reduceSub, Int.reduceToNat] <;> exact rfl) | refine qw_nil ?_ | refine cw_block ?_ | refine cw_scope ?_ | refine cw_label ?_ | refine cw_skip ?_)
  refine cw_forG Tn (fun k (x : Heap × Value) => [(2, .box [i64 g.nts, i64 g.start, .slice p g.rules.length c]), (5, .val vg), (7, .val (.pointer (some ⟨tp, 0, some 0⟩))), (8, .val x.2), (9, .val (i64 k))]) (fun _ x => x.1)
    (fun k x => h2 <+: x.1 ∧ Grow h2 x.1 x.2 k ((List.replicate k false).map .bool) 4) (h2, nilS) (by simp only [push_cast, SubL, fget, Nat.reduceEqDiff, reduceIte]) rfl ⟨List.prefix_refl _, Grow.nil⟩ ?_
  rintro k ⟨hk, mv⟩ hkn ⟨hp, hG⟩
  simp only at hp hG ⊢
  have hc1 := getElem?_of_prefix hp hc
  repeat (first | refine cw_seq ?_ | refine cw_region ?_ | refine ow_nil ?_ | ((first | apply ow_cons | apply qw_cons); · simp only [push_cast, env, Nat.reduceEqDiff, reduceIte, Nat.reduceAdd, Nat.reduceMul, Nat.reduceLeDiff, reduceCtorEq, Nat.reduceSub, Int.reduceToNat] <;> exact rfl) | ((first | apply ow_spec | apply qw_spec); · simp only [push_cast, env, Nat.reduceEqDiff, reduceIte, Nat.reduceAdd, Nat.reduceMul, Nat.reduceLeDiff, reduceCtorEq, Nat.reduceSub, Int.reduceToNat] <;> exact rfl) | refine qw_nil ?_ | refine cw_block ?_ | refine cw_scope ?_ | refine cw_label ?_ | refine cw_skip ?_)
  refine cw_regionD 9 mixed (by kernel_rfl) ?_
  by_cases hlt : k < Tn
  · have f3 := lt_dec hlt
    have f2 := inc hlt (by omega)
    repeat (first | refine cw_seq ?_ | refine cw_region ?_ | refine ow_nil ?_ | ((first | apply ow_cons | apply qw_cons); · simp only [push_cast, env, Nat.reduceEqDiff, reduceIte, Nat.reduceAdd, Nat.reduceMul, Nat.reduceLeDiff, reduceCtorEq, Nat.reduceSub, Int.reduceToNat, hc1, w1, w2, f3] <;> exact rfl) | ((first | apply ow_spec | apply qw_spec); · simp only [push_cast, env, Nat.reduceEqDiff, reduceIte, Nat.reduceAdd, Nat.reduceMul, Nat.reduceLeDiff, reduceCtorEq, Nat.reduceSub, Int.reduceToNat, hc1, w1, w2, f3] <;> exact rfl) | refine qw_nil ?_ | refine cw_block ?_ | refine cw_scope ?_ | refine cw_label ?_ | refine cw_skip ?_)
    refine cw_condT (by simp only [push_cast, env, Nat.reduceEqDiff, reduceIte, Nat.reduceAdd, Nat.reduceMul, Nat.reduceLeDiff, reduceCtorEq, Nat.reduceSub, Int.reduceToNat] <;> exact rfl) ?_
    repeat (first | refine cw_seq ?_ | refine cw_region ?_ | refine ow_nil ?_ | ((first | apply ow_cons | apply qw_cons); · simp only [push_cast, env, Nat.reduceEqDiff, reduceIte, Nat.reduceAdd, Nat.reduceMul, Nat.reduceLeDiff, reduceCtorEq, Nat.reduceSub, Int.reduceToNat] <;> exact rfl) | ((first | apply ow_spec | apply qw_spec); · simp only [push_cast, env, Nat.reduceEqDiff, reduceIte, Nat.reduceAdd, Nat.reduceMul, Nat.reduceLeDiff, reduceCtorEq, Nat.reduceSub, Int.reduceToNat] <;> exact rfl) | refine qw_nil ?_ | refine cw_block ?_ | refine cw_scope ?_ | refine cw_label ?_ | refine cw_skip ?_)
    refine ow_pushB (l := List.replicate k false) (b := false) (by simp only [push_cast, env, Nat.reduceEqDiff, reduceIte, Nat.reduceAdd, Nat.reduceMul, Nat.reduceLeDiff, reduceCtorEq, Nat.reduceSub, Int.reduceToNat] <;> exact rfl) rfl (by simp only [push_cast, env, Nat.reduceEqDiff, reduceIte, Nat.reduceAdd, Nat.reduceMul, Nat.reduceLeDiff, reduceCtorEq, Nat.reduceSub, Int.reduceToNat] <;> exact rfl) rfl (by rw [List.length_replicate]; exact hG) hp (by rw [List.length_replicate]; omega) ?_
    rw [List.length_replicate]
    intro p3 c3 h3 G3 hp3 hk3 hl3
    repeat (first | refine cw_seq ?_ | refine cw_region ?_ | refine ow_nil ?_ | ((first | apply ow_cons | apply qw_cons); · simp only [push_cast, env, Nat.reduceEqDiff, reduceIte, Nat.reduceAdd, Nat.reduceMul, Nat.reduceLeDiff, reduceCtorEq, Nat.reduceSub, Int.reduceToNat, f2] <;> exact rfl) | ((first | apply ow_spec | apply qw_spec); · simp only [push_cast, env, Nat.reduceEqDiff, reduceIte, Nat.reduceAdd, Nat.reduceMul, Nat.reduceLeDiff, reduceCtorEq, Nat.reduceSub, Int.reduceToNat, f2] <;> exact rfl) | refine qw_nil ?_ | refine cw_block ?_ | refine cw_scope ?_ | refine cw_label ?_ | refine cw_skip ?_)
    refine ⟨hlt, (h3, .slice p3 (k + 1) c3), (by simp only [push_cast, SubL, fget, Nat.reduceEqDiff, reduceIte]), rfl, hp3, ?_⟩
    rw [← rep_snoc, List.length_replicate] at G3
    exact G3
  · have f3 := ge_dec hlt
    obtain rfl : k = Tn := by omega
    repeat (first | refine cw_seq ?_ | refine cw_region ?_ | refine ow_nil ?_ | ((first | apply ow_cons | apply qw_cons); · simp only [push_cast, env, Nat.reduceEqDiff, reduceIte, Nat.reduceAdd, Nat.reduceMul, Nat.reduceLeDiff, reduceCtorEq, Nat.reduceSub, Int.reduceToNat, hc1, w1, w2, f3] <;> exact rfl) | ((first | apply ow_spec | apply qw_spec); · simp only [push_cast, env, Nat.reduceEqDiff, reduceIte, Nat.reduceAdd, Nat.reduceMul, Nat.reduceLeDiff, reduceCtorEq, Nat.reduceSub, Int.reduceToNat, hc1, w1, w2, f3] <;> exact rfl) | refine qw_nil ?_ | refine cw_block ?_ | refine cw_scope ?_ | refine cw_label ?_ | refine cw_skip ?_)
    refine cw_condF (by simp only [push_cast, env, Nat.reduceEqDiff, reduceIte, Nat.reduceAdd, Nat.reduceMul, Nat.reduceLeDiff, reduceCtorEq, Nat.reduceSub, Int.reduceToNat] <;> exact rfl) ?_
    refine cw_exit ?_
    show CW _ _ _ _
    obtain ⟨idM, verM, hid0, rfl, hMg⟩ := hG.mine hT0
    have S0 : MS g w (List.replicate k false) := fun a i _ hb => by
      rw [List.getD_eq_getElem?_getD, List.getElem?_replicate] at hb
      split at hb <;> cases hb
    repeat (first | refine cw_seq ?_ | refine cw_region ?_ | refine ow_nil ?_ | ((first | apply ow_cons | apply qw_cons); · simp only [push_cast, env, Nat.reduceEqDiff, reduceIte, Nat.reduceAdd, Nat.reduceMul, Nat.reduceLeDiff, reduceCtorEq, Nat.reduceSub, Int.reduceToNat] <;> exact rfl) | ((first | apply ow_spec | apply qw_spec); · simp only [push_cast, env, Nat.reduceEqDiff, reduceIte, Nat.reduceAdd, Nat.reduceMul, Nat.reduceLeDiff, reduceCtorEq, Nat.reduceSub, Int.reduceToNat] <;> exact rfl) | refine qw_nil ?_ | refine cw_block ?_ | refine cw_scope ?_ | refine cw_label ?_ | refine cw_skip ?_)
    refine cw_wh (fun x : Heap × List Bool × Bool => 2 * x.2.1.count false + (if x.2.2 = true then 1 else 0)) (fun x => [(2, .box [i64 g.nts, i64 g.start, .slice p g.rules.length c]), (5, .val vg), (7, .val (.pointer (some ⟨tp, 0, some 0⟩))), (8, .val (.slice (some ⟨idM, 0, some verM⟩) k k)), (10, .val (.bool x.2.2))]) (fun x => x.1)
      (fun x => h2 <+: x.1 ∧ x.1[idM]? = some (.arr (x.2.1.map .bool) verM true 4) ∧ x.2.1.length = N * (w.length + 1) ∧ MS g w x.2.1 ∧ (x.2.2 = false → MC g w m x.2.1)) (hk, List.replicate k false, true) (by simp only [push_cast, SubL, fget, Nat.reduceEqDiff, reduceIte]) rfl ⟨hp, hMg, by simp [hTn], S0, fun h => (by cases h)⟩ ?_
    clear S0 hG hMg hp hc1 hk
    rintro ⟨hk, M0, more⟩ ⟨hp, hg0, hM0, S0, hcl⟩
    simp only at hp hg0 hM0 S0 hcl ⊢
    cases more with
    | false =>
      have hc1 := getElem?_of_prefix hp hc
      obtain ⟨a, ha⟩ : ∃ a : Nat, g.start = a := ⟨g.start.toNat, by omega⟩
      have haN : a < N := by omega
      have w4 := w3 a haN
      have hb0 := hidx a 0 haN (by omega)
      obtain ⟨K, hK⟩ : ∃ K, K = a * (w.length + 1) := ⟨_, rfl⟩
      rw [← hK] at w4 hb0
      rw [Nat.add_zero] at hb0
      have r9 := rng hb0
      have gM := mk_get (m := M0) (i := K) (by omega)
      have hfin : M0.getD K false = true ↔ Bg g w g.start 0 := by
        constructor
        · intro hh
          have := S0 a 0 (by omega) (by rw [← hK]; exact hh)
          rwa [← ha] at this
        · intro hh
          have := (hcl rfl).full R hm hh
          rw [ha, Int.toNat_natCast, ← hK] at this
          exact this
      rw [ha] at hfin ⊢
      repeat (first | refine cw_seq ?_ | refine cw_region ?_ | refine ow_nil ?_ | ((first | apply ow_cons | apply qw_cons); · simp only [push_cast, env, Nat.reduceEqDiff, reduceIte, Nat.reduceAdd, Nat.reduceMul, Nat.reduceLeDiff, reduceCtorEq, Nat.reduceSub, Int.reduceToNat] <;> exact rfl) | ((first | apply ow_spec | apply qw_spec); · simp only [push_cast, env, Nat.reduceEqDiff, reduceIte, Nat.reduceAdd, Nat.reduceMul, Nat.reduceLeDiff, reduceCtorEq, Nat.reduceSub, Int.reduceToNat] <;> exact rfl) | refine qw_nil ?_ | refine cw_block ?_ | refine cw_scope ?_ | refine cw_label ?_ | refine cw_skip ?_)
      refine cw_condF (by simp only [push_cast, env, Nat.reduceEqDiff, reduceIte, Nat.reduceAdd, Nat.reduceMul, Nat.reduceLeDiff, reduceCtorEq, Nat.reduceSub, Int.reduceToNat] <;> exact rfl) ?_
      refine cw_exit ?_
      show CW _ _ _ _
      repeat (first | refine cw_seq ?_ | refine cw_region ?_ | refine ow_nil ?_ | ((first | apply ow_cons | apply qw_cons); · simp only [push_cast, env, Nat.reduceEqDiff, reduceIte, Nat.reduceAdd, Nat.reduceMul, Nat.reduceLeDiff, reduceCtorEq, Nat.reduceSub, Int.reduceToNat] <;> exact rfl) | ((first | apply ow_spec | apply qw_spec); · simp only [push_cast, env, Nat.reduceEqDiff, reduceIte, Nat.reduceAdd, Nat.reduceMul, Nat.reduceLeDiff, reduceCtorEq, Nat.reduceSub, Int.reduceToNat] <;> exact rfl) | refine qw_nil ?_ | refine cw_block ?_ | refine cw_scope ?_ | refine cw_label ?_ | refine cw_skip ?_)
      refine cw_regionD 11 mixed (by kernel_rfl) ?_
      repeat (first | refine cw_seq ?_ | refine cw_region ?_ | refine ow_nil ?_ | ((first | apply ow_cons | apply qw_cons); · simp only [push_cast, env, Nat.reduceEqDiff, reduceIte, Nat.reduceAdd, Nat.reduceMul, Nat.reduceLeDiff, reduceCtorEq, Nat.reduceSub, Int.reduceToNat, hc1, w1, w4, r9, hg0, gM, Nat.mul_one] <;> exact rfl) | ((first | apply ow_spec | apply qw_spec); · simp only [push_cast, env, Nat.reduceEqDiff, reduceIte, Nat.reduceAdd, Nat.reduceMul, Nat.reduceLeDiff, reduceCtorEq, Nat.reduceSub, Int.reduceToNat, hc1, w1, w4, r9, hg0, gM, Nat.mul_one] <;> exact rfl) | refine qw_nil ?_ | refine cw_block ?_ | refine cw_scope ?_ | refine cw_label ?_ | refine cw_skip ?_)
      refine cw_ret ?_
      exact ⟨_, (by simp only [push_cast, env, Nat.reduceEqDiff, reduceIte, Nat.reduceAdd, Nat.reduceMul, Nat.reduceLeDiff, reduceCtorEq, Nat.reduceSub, Int.reduceToNat] <;> exact rfl), ⟨_, rfl, hfin⟩, hph.trans hp⟩
    | true =>
      clear hcl
      repeat (first | refine cw_seq ?_ | refine cw_region ?_ | refine ow_nil ?_ | ((first | apply ow_cons | apply qw_cons); · simp only [push_cast, env, Nat.reduceEqDiff, reduceIte, Nat.reduceAdd, Nat.reduceMul, Nat.reduceLeDiff, reduceCtorEq, Nat.reduceSub, Int.reduceToNat] <;> exact rfl) | ((first | apply ow_spec | apply qw_spec); · simp only [push_cast, env, Nat.reduceEqDiff, reduceIte, Nat.reduceAdd, Nat.reduceMul, Nat.reduceLeDiff, reduceCtorEq, Nat.reduceSub, Int.reduceToNat] <;> exact rfl) | refine qw_nil ?_ | refine cw_block ?_ | refine cw_scope ?_ | refine cw_label ?_ | refine cw_skip ?_)
      refine cw_condT (by simp only [push_cast, env, Nat.reduceEqDiff, reduceIte, Nat.reduceAdd, Nat.reduceMul, Nat.reduceLeDiff, reduceCtorEq, Nat.reduceSub, Int.reduceToNat] <;> exact rfl) ?_
      repeat (first | refine cw_seq ?_ | refine cw_region ?_ | refine ow_nil ?_ | ((first | apply ow_cons | apply qw_cons); · simp only [push_cast, env, Nat.reduceEqDiff, reduceIte, Nat.reduceAdd, Nat.reduceMul, Nat.reduceLeDiff, reduceCtorEq, Nat.reduceSub, Int.reduceToNat] <;> exact rfl) | ((first | apply ow_spec | apply qw_spec); · simp only [push_cast, env, Nat.reduceEqDiff, reduceIte, Nat.reduceAdd, Nat.reduceMul, Nat.reduceLeDiff, reduceCtorEq, Nat.reduceSub, Int.reduceToNat] <;> exact rfl) | refine qw_nil ?_ | refine cw_block ?_ | refine cw_scope ?_ | refine cw_label ?_ | refine cw_skip ?_)
      refine cw_forG g.rules.length (fun r (x : Heap × List Bool × Bool) => [(2, .box [i64 g.nts, i64 g.start, .slice p g.rules.length c]), (5, .val vg), (7, .val (.pointer (some ⟨tp, 0, some 0⟩))), (8, .val (.slice (some ⟨idM, 0, some verM⟩) k k)), (10, .val (.bool x.2.2)), (11, .val (i64 r))]) (fun _ x => x.1)
        (fun r x => RI h2 g w m idM verM N M0 r 0 x.1 x.2.1 x.2.2) (hk, M0, false) (by simp only [push_cast, SubL, fget, Nat.reduceEqDiff, reduceIte]) rfl ⟨hp, hg0, hM0, S0, fun h => (by cases h), fun _ => ⟨rfl, fun r' i' q h1 => by omega⟩⟩ ?_
      clear hg0 hp
      rintro r ⟨hk, M, more⟩ hrn I
      simp only at I ⊢
      by_cases hlr : r < g.rules.length
      · have hltr := hlr
        obtain ⟨id, ver, own, c', cells, p', n', c2, hv, hid, hn, hrd, hu'⟩ := hu2.at hlr
        cases hv
        subst hn
        have e0 := rdH_get0 hrd (by omega)
        have e0' := rdH_get (j := 1) hrd (by omega)
        simp only [List.getElem?_cons_succ, List.getElem?_cons_zero] at e0 e0'
        have e1r := rng hlr
        have e2r := inc hlr (by omega)
        have e3r := lt_dec hlr
        have hmem : g.rules[r] ∈ _ := List.getElem_mem hlr
        obtain ⟨l1, l2, l3, hSy⟩ := R.r _ hmem
        have hq : g.rules[r]? = some g.rules[r] := List.getElem?_eq_getElem hlr
        have hWr := W _ hmem
        generalize g.rules[r] = q at *
        obtain ⟨a, ha⟩ : ∃ a : Nat, q.lhs = a := ⟨q.lhs.toNat, by omega⟩
        have haN : a < N := by omega
        rw [ha] at e0
        have w4 := w3 a haN
        repeat (first | refine cw_seq ?_ | refine cw_region ?_ | refine ow_nil ?_ | ((first | apply ow_cons | apply qw_cons); · simp only [push_cast, env, Nat.reduceEqDiff, reduceIte, Nat.reduceAdd, Nat.reduceMul, Nat.reduceLeDiff, reduceCtorEq, Nat.reduceSub, Int.reduceToNat, e3r] <;> exact rfl) | ((first | apply ow_spec | apply qw_spec); · simp only [push_cast, env, Nat.reduceEqDiff, reduceIte, Nat.reduceAdd, Nat.reduceMul, Nat.reduceLeDiff, reduceCtorEq, Nat.reduceSub, Int.reduceToNat, e3r] <;> exact rfl) | refine qw_nil ?_ | refine cw_block ?_ | refine cw_scope ?_ | refine cw_label ?_ | refine cw_skip ?_)
        refine cw_condT (by simp only [push_cast, env, Nat.reduceEqDiff, reduceIte, Nat.reduceAdd, Nat.reduceMul, Nat.reduceLeDiff, reduceCtorEq, Nat.reduceSub, Int.reduceToNat] <;> exact rfl) ?_
        repeat (first | refine cw_seq ?_ | refine cw_region ?_ | refine ow_nil ?_ | ((first | apply ow_cons | apply qw_cons); · simp only [push_cast, env, Nat.reduceEqDiff, reduceIte, Nat.reduceAdd, Nat.reduceMul, Nat.reduceLeDiff, reduceCtorEq, Nat.reduceSub, Int.reduceToNat] <;> exact rfl) | ((first | apply ow_spec | apply qw_spec); · simp only [push_cast, env, Nat.reduceEqDiff, reduceIte, Nat.reduceAdd, Nat.reduceMul, Nat.reduceLeDiff, reduceCtorEq, Nat.reduceSub, Int.reduceToNat] <;> exact rfl) | refine qw_nil ?_ | refine cw_block ?_ | refine cw_scope ?_ | refine cw_label ?_ | refine cw_skip ?_)
        refine cw_forG (w.length + 1) (fun i (x : Heap × List Bool × Bool) => [(2, .box [i64 g.nts, i64 g.start, .slice (some ⟨id, 0, some ver⟩) g.rules.length c]), (5, .val vg), (7, .val (.pointer (some ⟨tp, 0, some 0⟩))), (8, .val (.slice (some ⟨idM, 0, some verM⟩) k k)), (10, .val (.bool x.2.2)), (11, .val (i64 r)), (12, .val (i64 i))]) (fun _ x => x.1)
          (fun i x => RI h2 g w m idM verM N M0 r i x.1 x.2.1 x.2.2) (hk, M, more) (by simp only [push_cast, SubL, fget, Nat.reduceEqDiff, reduceIte]) rfl I ?_
        clear I
        rintro i ⟨hk, M1, more1⟩ hin I
        simp only at I ⊢
        have hc1 := getElem?_of_prefix I.p hc
        by_cases hli : i < w.length + 1
        · have d1 : decide ((i : Int) ≤ (w.length : Int)) = true := decide_eq_true (by omega)
          have e4 : IntKind.i64.wrap ((i : Int) + 1) = (i : Int) + 1 := wrap64_id (by omega) (by omega)
          have hid1 := getElem?_of_prefix I.p hid
          have hb0 := hidx a i haN (by omega)
          have hKe : ∃ K, K = a * (w.length + 1) + i := ⟨_, rfl⟩
          obtain ⟨K, hK⟩ := hKe
          obtain ⟨P, hP⟩ : ∃ P, P = a * (w.length + 1) := ⟨_, rfl⟩
          have w4' := w4
          rw [← hP] at w4'
          rw [← hK] at hb0
          have w5 : IntKind.i64.wrap ((P : Int) + (i : Int)) = (K : Int) := by rw [wrap64_id (by omega) (by omega)]; omega
          have r9 := rng hb0
          have hKl : K < M1.length := by have := I.n; omega
          have gM := mk_get hKl
          have hMg := I.o
          repeat (first | refine cw_seq ?_ | refine cw_region ?_ | refine ow_nil ?_ | ((first | apply ow_cons | apply qw_cons); · simp only [push_cast, env, Nat.reduceEqDiff, reduceIte, Nat.reduceAdd, Nat.reduceMul, Nat.reduceLeDiff, reduceCtorEq, Nat.reduceSub, Int.reduceToNat, hc1, d1] <;> exact rfl) | ((first | apply ow_spec | apply qw_spec); · simp only [push_cast, env, Nat.reduceEqDiff, reduceIte, Nat.reduceAdd, Nat.reduceMul, Nat.reduceLeDiff, reduceCtorEq, Nat.reduceSub, Int.reduceToNat, hc1, d1] <;> exact rfl) | refine qw_nil ?_ | refine cw_block ?_ | refine cw_scope ?_ | refine cw_label ?_ | refine cw_skip ?_)
          refine cw_condT (by simp only [push_cast, env, Nat.reduceEqDiff, reduceIte, Nat.reduceAdd, Nat.reduceMul, Nat.reduceLeDiff, reduceCtorEq, Nat.reduceSub, Int.reduceToNat] <;> exact rfl) ?_
          repeat (first | refine cw_seq ?_ | refine cw_region ?_ | refine ow_nil ?_ | ((first | apply ow_cons | apply qw_cons); · simp only [push_cast, env, Nat.reduceEqDiff, reduceIte, Nat.reduceAdd, Nat.reduceMul, Nat.reduceLeDiff, reduceCtorEq, Nat.reduceSub, Int.reduceToNat] <;> exact rfl) | ((first | apply ow_spec | apply qw_spec); · simp only [push_cast, env, Nat.reduceEqDiff, reduceIte, Nat.reduceAdd, Nat.reduceMul, Nat.reduceLeDiff, reduceCtorEq, Nat.reduceSub, Int.reduceToNat] <;> exact rfl) | refine qw_nil ?_ | refine cw_block ?_ | refine cw_scope ?_ | refine cw_label ?_ | refine cw_skip ?_)
          refine cw_regionD 14 mixed (by kernel_rfl) ?_
          repeat (first | refine cw_seq ?_ | refine cw_region ?_ | refine ow_nil ?_ | ((first | apply ow_cons | apply qw_cons); · simp only [push_cast, env, Nat.reduceEqDiff, reduceIte, Nat.reduceAdd, Nat.reduceMul, Nat.reduceLeDiff, reduceCtorEq, Nat.reduceSub, Int.reduceToNat, hid1, e1r, e0, hc1, w1, w4', w5, Nat.mul_one] <;> exact rfl) | ((first | apply ow_spec | apply qw_spec); · simp only [push_cast, env, Nat.reduceEqDiff, reduceIte, Nat.reduceAdd, Nat.reduceMul, Nat.reduceLeDiff, reduceCtorEq, Nat.reduceSub, Int.reduceToNat, hid1, e1r, e0, hc1, w1, w4', w5, Nat.mul_one] <;> exact rfl) | refine qw_nil ?_ | refine cw_block ?_ | refine cw_scope ?_ | refine cw_label ?_ | refine cw_skip ?_)
          cases hbM : M1.getD K false with
          | true =>
            rw [hbM] at gM
            repeat (first | refine cw_seq ?_ | refine cw_region ?_ | refine ow_nil ?_ | ((first | apply ow_cons | apply qw_cons); · simp only [push_cast, env, Nat.reduceEqDiff, reduceIte, Nat.reduceAdd, Nat.reduceMul, Nat.reduceLeDiff, reduceCtorEq, Nat.reduceSub, Int.reduceToNat, r9, hMg, gM, Nat.mul_one] <;> exact rfl) | ((first | apply ow_spec | apply qw_spec); · simp only [push_cast, env, Nat.reduceEqDiff, reduceIte, Nat.reduceAdd, Nat.reduceMul, Nat.reduceLeDiff, reduceCtorEq, Nat.reduceSub, Int.reduceToNat, r9, hMg, gM, Nat.mul_one] <;> exact rfl) | refine qw_nil ?_ | refine cw_block ?_ | refine cw_scope ?_ | refine cw_label ?_ | refine cw_skip ?_)
            refine cw_condF (by simp only [push_cast, env, Nat.reduceEqDiff, reduceIte, Nat.reduceAdd, Nat.reduceMul, Nat.reduceLeDiff, reduceCtorEq, Nat.reduceSub, Int.reduceToNat] <;> exact rfl) ?_
            repeat (first | refine cw_seq ?_ | refine cw_region ?_ | refine ow_nil ?_ | ((first | apply ow_cons | apply qw_cons); · simp only [push_cast, env, Nat.reduceEqDiff, reduceIte, Nat.reduceAdd, Nat.reduceMul, Nat.reduceLeDiff, reduceCtorEq, Nat.reduceSub, Int.reduceToNat, e4] <;> exact rfl) | ((first | apply ow_spec | apply qw_spec); · simp only [push_cast, env, Nat.reduceEqDiff, reduceIte, Nat.reduceAdd, Nat.reduceMul, Nat.reduceLeDiff, reduceCtorEq, Nat.reduceSub, Int.reduceToNat, e4] <;> exact rfl) | refine qw_nil ?_ | refine cw_block ?_ | refine cw_scope ?_ | refine cw_label ?_ | refine cw_skip ?_)
            exact ⟨hli, (hk, M1, more1), (by simp only [push_cast, SubL, fget, Nat.reduceEqDiff, reduceIte]), rfl, ⟨I.p, I.o, I.n, I.s, I.d, fun hmo => ⟨(I.f hmo).1, PD.step (q := q) (I.f hmo).2 hq fun _ => by
              rw [← (I.f hmo).1, ha, Int.toNat_natCast, ← hK]
              exact hbM⟩⟩⟩
          | false =>
            rw [hbM] at gM
            repeat (first | refine cw_seq ?_ | refine cw_region ?_ | refine ow_nil ?_ | ((first | apply ow_cons | apply qw_cons); · simp only [push_cast, env, Nat.reduceEqDiff, reduceIte, Nat.reduceAdd, Nat.reduceMul, Nat.reduceLeDiff, reduceCtorEq, Nat.reduceSub, Int.reduceToNat, r9, hMg, gM, hid1, e1r, e0', Nat.mul_one] <;> exact rfl) | ((first | apply ow_spec | apply qw_spec); · simp only [push_cast, env, Nat.reduceEqDiff, reduceIte, Nat.reduceAdd, Nat.reduceMul, Nat.reduceLeDiff, reduceCtorEq, Nat.reduceSub, Int.reduceToNat, r9, hMg, gM, hid1, e1r, e0', Nat.mul_one] <;> exact rfl) | refine qw_nil ?_ | refine cw_block ?_ | refine cw_scope ?_ | refine cw_label ?_ | refine cw_skip ?_)
            refine ow_call (fn := Try.f51) (by simp only [push_cast, env, Nat.reduceEqDiff, reduceIte, Nat.reduceAdd, Nat.reduceMul, Nat.reduceLeDiff, reduceCtorEq, Nat.reduceSub, Int.reduceToNat] <;> exact rfl) rfl (by simp only [push_cast, env, Nat.reduceEqDiff, reduceIte, Nat.reduceAdd, Nat.reduceMul, Nat.reduceLeDiff, reduceCtorEq, Nat.reduceSub, Int.reduceToNat] <;> exact rfl) (by simp only [push_cast, env, Nat.reduceEqDiff, reduceIte, Nat.reduceAdd, Nat.reduceMul, Nat.reduceLeDiff, reduceCtorEq, Nat.reduceSub, Int.reduceToNat] <;> exact rfl) Try.func51 (by kernel_rfl) (by kernel_rfl) ?_
            rw [List.append_nil]
            refine (begins_fw (g := g) (w := w) (m := m) (M := M1) (N := N) (l := q.rhs) (i := i) (T.mono I.p) (hw2.mono I.p) hw (by omega) hY (hu'.mono I.p) (fun s hs => ⟨by have := hSy s hs; omega, hWr s hs⟩) (by omega) (hg2.mono I.p) hml ⟨idM, verM, true, k, by rw [I.n, ← hTn], I.o⟩ I.n hS hF).mono ?_
            rintro _ h3 ⟨⟨b, rfl, hb⟩, hp3⟩
            have I3 := I.mono hp3
            have hMg3 := I3.o
            cases b with
            | false =>
              repeat (first | refine cw_seq ?_ | refine cw_region ?_ | refine ow_nil ?_ | ((first | apply ow_cons | apply qw_cons); · simp only [push_cast, env, Nat.reduceEqDiff, reduceIte, Nat.reduceAdd, Nat.reduceMul, Nat.reduceLeDiff, reduceCtorEq, Nat.reduceSub, Int.reduceToNat] <;> exact rfl) | ((first | apply ow_spec | apply qw_spec); · simp only [push_cast, env, Nat.reduceEqDiff, reduceIte, Nat.reduceAdd, Nat.reduceMul, Nat.reduceLeDiff, reduceCtorEq, Nat.reduceSub, Int.reduceToNat] <;> exact rfl) | refine qw_nil ?_ | refine cw_block ?_ | refine cw_scope ?_ | refine cw_label ?_ | refine cw_skip ?_)
              refine cw_condF (by simp only [push_cast, env, Nat.reduceEqDiff, reduceIte, Nat.reduceAdd, Nat.reduceMul, Nat.reduceLeDiff, reduceCtorEq, Nat.reduceSub, Int.reduceToNat] <;> exact rfl) ?_
              repeat (first | refine cw_seq ?_ | refine cw_region ?_ | refine ow_nil ?_ | ((first | apply ow_cons | apply qw_cons); · simp only [push_cast, env, Nat.reduceEqDiff, reduceIte, Nat.reduceAdd, Nat.reduceMul, Nat.reduceLeDiff, reduceCtorEq, Nat.reduceSub, Int.reduceToNat, e4] <;> exact rfl) | ((first | apply ow_spec | apply qw_spec); · simp only [push_cast, env, Nat.reduceEqDiff, reduceIte, Nat.reduceAdd, Nat.reduceMul, Nat.reduceLeDiff, reduceCtorEq, Nat.reduceSub, Int.reduceToNat, e4] <;> exact rfl) | refine qw_nil ?_ | refine cw_block ?_ | refine cw_scope ?_ | refine cw_label ?_ | refine cw_skip ?_)
              exact ⟨hli, (h3, M1, more1), (by simp only [push_cast, SubL, fget, Nat.reduceEqDiff, reduceIte]), rfl, ⟨I3.p, I3.o, I3.n, I3.s, I3.d, fun hmo => ⟨(I3.f hmo).1, PD.step (q := q) (I3.f hmo).2 hq fun hh => by
                rw [← (I3.f hmo).1] at hh
                have := hb.2 hh
                cases this⟩⟩⟩
            | true =>
              have hBg := BegP.sound R hm I.s hmem (hb.1 rfl)
              rw [ha] at hBg
              have hcnt : (M1.set K true).count false < M1.count false := count_set_true hKl hbM
              repeat (first | refine cw_seq ?_ | refine cw_region ?_ | refine ow_nil ?_ | ((first | apply ow_cons | apply qw_cons); · simp only [push_cast, env, Nat.reduceEqDiff, reduceIte, Nat.reduceAdd, Nat.reduceMul, Nat.reduceLeDiff, reduceCtorEq, Nat.reduceSub, Int.reduceToNat] <;> exact rfl) | ((first | apply ow_spec | apply qw_spec); · simp only [push_cast, env, Nat.reduceEqDiff, reduceIte, Nat.reduceAdd, Nat.reduceMul, Nat.reduceLeDiff, reduceCtorEq, Nat.reduceSub, Int.reduceToNat] <;> exact rfl) | refine qw_nil ?_ | refine cw_block ?_ | refine cw_scope ?_ | refine cw_label ?_ | refine cw_skip ?_)
              refine cw_condT (by simp only [push_cast, env, Nat.reduceEqDiff, reduceIte, Nat.reduceAdd, Nat.reduceMul, Nat.reduceLeDiff, reduceCtorEq, Nat.reduceSub, Int.reduceToNat] <;> exact rfl) ?_
              repeat (first | refine cw_seq ?_ | refine cw_region ?_ | refine ow_nil ?_ | ((first | apply ow_cons | apply qw_cons); · simp only [push_cast, env, Nat.reduceEqDiff, reduceIte, Nat.reduceAdd, Nat.reduceMul, Nat.reduceLeDiff, reduceCtorEq, Nat.reduceSub, Int.reduceToNat, r9, Nat.mul_one] <;> exact rfl) | ((first | apply ow_spec | apply qw_spec); · simp only [push_cast, env, Nat.reduceEqDiff, reduceIte, Nat.reduceAdd, Nat.reduceMul, Nat.reduceLeDiff, reduceCtorEq, Nat.reduceSub, Int.reduceToNat, r9, Nat.mul_one] <;> exact rfl) | refine qw_nil ?_ | refine cw_block ?_ | refine cw_scope ?_ | refine cw_label ?_ | refine cw_skip ?_)
              refine ow_stoH (by simp only [push_cast, env, Nat.reduceEqDiff, reduceIte, Nat.reduceAdd, Nat.reduceMul, Nat.reduceLeDiff, reduceCtorEq, Nat.reduceSub, Int.reduceToNat] <;> exact rfl) rfl rfl (by simp only [push_cast, env, Nat.reduceEqDiff, reduceIte, Nat.reduceAdd, Nat.reduceMul, Nat.reduceLeDiff, reduceCtorEq, Nat.reduceSub, Int.reduceToNat] <;> exact rfl) (by simp only [push_cast, env, Nat.reduceEqDiff, reduceIte, Nat.reduceAdd, Nat.reduceMul, Nat.reduceLeDiff, reduceCtorEq, Nat.reduceSub, Int.reduceToNat] <;> exact rfl) hMg3 (by simp only [push_cast, env, Nat.reduceEqDiff, reduceIte, Nat.reduceAdd, Nat.reduceMul, Nat.reduceLeDiff, reduceCtorEq, Nat.reduceSub, Int.reduceToNat] <;> exact rfl) rfl (wr_map (f := Value.bool) (x := true) hKl) ?_
              repeat (first | refine cw_seq ?_ | refine cw_region ?_ | refine ow_nil ?_ | ((first | apply ow_cons | apply qw_cons); · simp only [push_cast, env, Nat.reduceEqDiff, reduceIte, Nat.reduceAdd, Nat.reduceMul, Nat.reduceLeDiff, reduceCtorEq, Nat.reduceSub, Int.reduceToNat, e4] <;> exact rfl) | ((first | apply ow_spec | apply qw_spec); · simp only [push_cast, env, Nat.reduceEqDiff, reduceIte, Nat.reduceAdd, Nat.reduceMul, Nat.reduceLeDiff, reduceCtorEq, Nat.reduceSub, Int.reduceToNat, e4] <;> exact rfl) | refine qw_nil ?_ | refine cw_block ?_ | refine cw_scope ?_ | refine cw_label ?_ | refine cw_skip ?_)
              refine ⟨hli, (_, M1.set K true, true), (by simp only [push_cast, SubL, fget, Nat.reduceEqDiff, reduceIte]), rfl, ⟨pre_set I3.p hid0, get_set_self hMg3, by rw [List.length_set]; exact I.n, ?_, fun _ => ?_, fun h => (by cases h)⟩⟩
              · have := ms_set I.s (a := a) (i := i) (by rw [← hK]; exact hKl) (by omega) hBg
                rw [← hK] at this
                exact this
              · cases more1 with
                | true => have := I.d rfl; simp only; omega
                | false => simp only; rw [← (I.f rfl).1]; exact hcnt
        · have d1 : decide ((w.length : Int) + 1 ≤ (w.length : Int)) = false := decide_eq_false (by omega)
          obtain rfl : i = w.length + 1 := by omega
          repeat (first | refine cw_seq ?_ | refine cw_region ?_ | refine ow_nil ?_ | ((first | apply ow_cons | apply qw_cons); · simp only [push_cast, env, Nat.reduceEqDiff, reduceIte, Nat.reduceAdd, Nat.reduceMul, Nat.reduceLeDiff, reduceCtorEq, Nat.reduceSub, Int.reduceToNat, hc1, d1] <;> exact rfl) | ((first | apply ow_spec | apply qw_spec); · simp only [push_cast, env, Nat.reduceEqDiff, reduceIte, Nat.reduceAdd, Nat.reduceMul, Nat.reduceLeDiff, reduceCtorEq, Nat.reduceSub, Int.reduceToNat, hc1, d1] <;> exact rfl) | refine qw_nil ?_ | refine cw_block ?_ | refine cw_scope ?_ | refine cw_label ?_ | refine cw_skip ?_)
          refine cw_condF (by simp only [push_cast, env, Nat.reduceEqDiff, reduceIte, Nat.reduceAdd, Nat.reduceMul, Nat.reduceLeDiff, reduceCtorEq, Nat.reduceSub, Int.reduceToNat] <;> exact rfl) ?_
          refine cw_exit ?_
          show CW _ _ _ _
          repeat (first | refine cw_seq ?_ | refine cw_region ?_ | refine ow_nil ?_ | ((first | apply ow_cons | apply qw_cons); · simp only [push_cast, env, Nat.reduceEqDiff, reduceIte, Nat.reduceAdd, Nat.reduceMul, Nat.reduceLeDiff, reduceCtorEq, Nat.reduceSub, Int.reduceToNat, e2r] <;> exact rfl) | ((first | apply ow_spec | apply qw_spec); · simp only [push_cast, env, Nat.reduceEqDiff, reduceIte, Nat.reduceAdd, Nat.reduceMul, Nat.reduceLeDiff, reduceCtorEq, Nat.reduceSub, Int.reduceToNat, e2r] <;> exact rfl) | refine qw_nil ?_ | refine cw_block ?_ | refine cw_scope ?_ | refine cw_label ?_ | refine cw_skip ?_)
          exact ⟨hltr, (hk, M1, more1), (by simp only [push_cast, SubL, fget, Nat.reduceEqDiff, reduceIte]), rfl, I.upd PD.rowEnd⟩
      · have e3r := ge_dec hlr
        obtain rfl : r = g.rules.length := by omega
        repeat (first | refine cw_seq ?_ | refine cw_region ?_ | refine ow_nil ?_ | ((first | apply ow_cons | apply qw_cons); · simp only [push_cast, env, Nat.reduceEqDiff, reduceIte, Nat.reduceAdd, Nat.reduceMul, Nat.reduceLeDiff, reduceCtorEq, Nat.reduceSub, Int.reduceToNat, e3r] <;> exact rfl) | ((first | apply ow_spec | apply qw_spec); · simp only [push_cast, env, Nat.reduceEqDiff, reduceIte, Nat.reduceAdd, Nat.reduceMul, Nat.reduceLeDiff, reduceCtorEq, Nat.reduceSub, Int.reduceToNat, e3r] <;> exact rfl) | refine qw_nil ?_ | refine cw_block ?_ | refine cw_scope ?_ | refine cw_label ?_ | refine cw_skip ?_)
        refine cw_condF (by simp only [push_cast, env, Nat.reduceEqDiff, reduceIte, Nat.reduceAdd, Nat.reduceMul, Nat.reduceLeDiff, reduceCtorEq, Nat.reduceSub, Int.reduceToNat] <;> exact rfl) ?_
        refine cw_exit ?_
        refine ⟨(hk, M, more), ?_, (by simp only [push_cast, SubL, fget, Nat.reduceEqDiff, reduceIte]), rfl, I.p, I.o, I.n, I.s, fun hmo => ?_⟩
        · simp only
          cases more with
          | true => have := I.d rfl; simp; omega
          | false => rw [(I.f rfl).1]; simp
        · have hmo' : more = false := hmo
          rw [(I.f hmo').1]
          intro r hr i hi hbp
          obtain ⟨x, hx⟩ := List.getElem?_of_mem hr
          have := (List.getElem?_eq_some_iff.1 hx).1
          exact (I.f hmo').2 x i r (.inl this) hi hx hbp
end Go.Proofs.Ytafncpgiibikcaa

/- Texts that are built. -/
namespace Go.Proofs.Ytafncpgiibikcaa
set_option linter.unusedSimpArgs false
set_option linter.unusedVariables false
set_option maxRecDepth 20000
open Go.RowKit Am Ty

def u8s (w : List Nat) : List Value := w.map fun n : Nat => u8 n
def GB (h hk : Heap) (v : Value) (w : List Nat) : Prop := Grow h hk v w.length (u8s w) 5 ∧ (∀ b ∈ w, b < 256) ∧ w.length ≤ 140737488355328
theorem GB.nil {h hk : Heap} : GB h hk nilS [] := ⟨Grow.nil, by simp, by simp⟩
theorem GB.rdb {h hk : Heap} {v : Value} {w : List Nat} (g : GB h hk v w) : RdB hk v w := by
  obtain ⟨g1, g2, g3⟩ := g
  refine ⟨g3, g2, ?_⟩
  rcases g1 with ⟨h1, h2, h3⟩ | ⟨id, ver, h1, h2, h3⟩
  · exact .inl ⟨.inl h3, List.eq_nil_of_length_eq_zero h1⟩
  · exact .inr ⟨id, 0, ver, true, _, _, h2, h3, fun i b hi => by rw [Nat.zero_add]; unfold u8s; rw [List.getElem?_map, hi]; rfl⟩
theorem GB.form {h hk : Heap} {v : Value} {w : List Nat} (g : GB h hk v w) : ∃ p c, v = .slice p w.length c := g.rdb.form
theorem ow_appB {all : Array Oper} {o : Oper} {r : List Oper} {s : St} {K : St → Prop} {x y : Operand} {vx v : Value} {a w : List Nat} {h : Heap} (hx : GB h s.h vx a) (hp : h <+: s.h) (hy : RdB s.h v w) (hl : a.length + w.length ≤ 140737488355328) (hw : wantedA all o s = some true) (ho : o.op = .call { callee := .builtin .append, args := #[x, y], argTypes := #[25, 25] }) (hxv : ev s x = some vx) (hyv : ev s y = some v)
    (k : ∀ v' h', h <+: h' → GB h h' v' (a ++ w) → OW env all r ({ s with h := h' }.putO o.dst (.val v')) K) : OW env all (o :: r) s K := by
  obtain ⟨p, c, rfl⟩ := hy.form
  obtain ⟨px, cx, rfl⟩ := hx.form
  rcases Nat.eq_zero_or_pos w.length with h0 | h0
  · rw [h0] at hyv
    have hw0 : w = [] := List.eq_nil_of_length_eq_zero h0
    refine ow_appZ (t := 25) hw ho und_bytes u8_size hxv hyv ?_
    have := k (.slice px a.length cx) s.h hp (by rw [hw0, List.append_nil]; exact hx)
    exact this
  · have hy0 := hy
    rcases hy0.2.2 with ⟨_, k2⟩ | ⟨id, off, ver, own, c', cells, k1, k2, k3⟩
    · subst k2; simp at h0
    · rw [k1] at hyv
      have hrd := rd_point h0 k3
      have hyt : ∃ tmp, y = .tmp tmp := by
        cases y with
        | tmp t => exact ⟨t, rfl⟩
        | const q =>
          simp only [ev] at hyv
          split at hyv
          · rename_i hp
            cases hyv
            simp [pureV, pure1] at hp
          · cases hyv
        | func f => simp [ev] at hyv
        | global g => simp [ev] at hyv
      obtain ⟨t, rfl⟩ := hyt
      have hf : fget s.fr t = .val (.slice (some ⟨id, off, some ver⟩) w.length c') := by
        simp only [ev] at hyv
        split at hyv
        · rename_i q hq
          cases hyv
          exact hq
        · cases hyv
      have hi : itemsC s s.h 1 (.tmp t) = some (u8s w, w.length) := by simp only [itemsC, hf, k2, if_true, Nat.mul_one, hrd, Option.map_some]; rfl
      have hmem : ∀ b ∈ a ++ w, b < 256 := fun b hb => by
        rcases List.mem_append.1 hb with hb | hb
        · exact hx.2.1 b hb
        · exact hy.2.1 b hb
      have hcat : u8s (a ++ w) = u8s a ++ u8s w := by unfold u8s; rw [List.map_append]
      have hla : (u8s a).length = a.length := by unfold u8s; simp
      rcases hx.1 with ⟨e1, e2, e3⟩ | ⟨idx, vex, e1, e2, e3⟩
      · have ha0 : a = [] := List.eq_nil_of_length_eq_zero e1
        rw [e3] at hxv
        refine ow_app0 (t := 25) (cs := u8s w) (m := w.length) hw ho und_bytes u8_size (by decide) rfl hxv hi h0 (by have := hy.1; simp only; omega) hy.1 ?_
        refine k _ _ (pre_push hp) ⟨?_, hmem, by rw [List.length_append]; omega⟩
        rw [ha0, List.nil_append]
        exact .inr ⟨s.h.length, 0, hp.length_le, rfl, get_push⟩
      · rw [e2] at hxv
        refine ow_app (t := 25) (cs := u8s w) (m := w.length) hw ho und_bytes u8_size (by decide) rfl hxv e3 (by simp only [hla]; omega) hi (by simp only; omega) hl ?_
        rw [List.take_of_length_le (by simp only [hla]; omega), ← hcat]
        refine k _ _ (pre_set hp e1) ⟨?_, hmem, by rw [List.length_append]; exact hl⟩
        rw [List.length_append]
        exact .inr ⟨idx, vex + 1, e1, rfl, get_set_self e3⟩
theorem ow_appB1 {all : Array Oper} {o : Oper} {r : List Oper} {s : St} {K : St → Prop} {x : Operand} {y : Nat} {vx : Value} {a : List Nat} {b : Nat} {h : Heap} (hx : GB h s.h vx a) (hp : h <+: s.h) (hb : b < 256) (hl : a.length + 1 ≤ 140737488355328) (hw : wantedA all o s = some true) (ho : o.op = .call { callee := .builtin .append, args := #[x, .tmp y], argTypes := #[25, 25] }) (hxv : ev s x = some vx) (hyv : fget s.fr y = .bsl [u8 b] 1)
    (k : ∀ v' h', h <+: h' → GB h h' v' (a ++ [b]) → OW env all r ({ s with h := h' }.putO o.dst (.val v')) K) : OW env all (o :: r) s K := by
  refine ow_push hw ho und_bytes u8_size (by decide) rfl hxv hyv hx.1 hp (by unfold u8s; simp) rfl (by simp only; omega) hl fun p c h' h1 h2 h3 h4 => k _ _ h2 ⟨?_, fun q hq => ?_, by simpa using hl⟩
  · rw [List.length_append]
    have : u8s (a ++ [b]) = u8s a ++ [u8 b] := by unfold u8s; rw [List.map_append]; rfl
    rw [this]
    exact h1
  · rcases List.mem_append.1 hq with hq | hq
    · exact hx.2.1 q hq
    · rw [List.mem_singleton.1 hq]
      exact hb
end Go.Proofs.Ytafncpgiibikcaa

/- The reference's longest beginning. -/
namespace Go.Proofs.Ytafncpgiibikcaa
set_option linter.unusedSimpArgs false
set_option linter.unusedVariables false
set_option maxRecDepth 20000
open Go.RowKit Am Ty

theorem light160 {g : Gram} {w : List Nat} (h : heavy7 g w = false) : g.nts ≤ 160 := by
  unfold heavy7 at h
  simp only [Bool.or_eq_false_iff, Bool.and_eq_false_iff, decide_eq_false_iff_not] at h
  have h2 : ¬ heavyP g 160 := h.2
  unfold heavyP at h2
  omega
def LastQ (g : Gram) (w : List Nat) (j : Nat) (n : Int) : Prop := (n = -1 ∧ ∀ i, i < j → ¬ Bg g (w.take i) g.start 0) ∨ ∃ q, q < j ∧ n = q ∧ Bg g (w.take q) g.start 0 ∧ ∀ i, q < i → i < j → ¬ Bg g (w.take i) g.start 0
theorem LastQ.fin {g : Gram} {w : List Nat} {n : Int} (h : LastQ g w (w.length + 1) n) : LastP g w n := by
  rcases h with ⟨h1, h2⟩ | ⟨q, h1, h2, h3, h4⟩
  · exact .inl ⟨h1, fun j hj => h2 j (by omega)⟩
  · exact .inr ⟨q, by omega, h2, h3, fun i h5 h6 => h4 i h5 (by omega)⟩
end Go.Proofs.Ytafncpgiibikcaa

/- EarleyNext, as the abstract machine runs it. -/
namespace Go.Proofs.Ytafncpgiibikcaa
set_option linter.unusedSimpArgs false
set_option linter.unusedVariables false
set_option maxRecDepth 20000
open Go.RowKit Am Ty

set_option maxHeartbeats 8000000 in
theorem earleynext_fw {h : Heap} {g : Gram} {v wv : Value} {w : List Nat} {b : Nat} (hr : RdGram h v g) (hwR : RdB h wv w) (hb : b < 256) (hn : -9223372036854775808 ≤ g.nts) (W : WfG g) : FW env 11 [v, wv, u8 b] h fun r _ => r = .bool true := by
  obtain ⟨u, rfl, hu⟩ := id hr
  obtain ⟨p, c, rfl⟩ := hu.form
  obtain ⟨pw, cw, rfl⟩ := hwR.form
  refine fw_enter (fn := Try.f11) Try.func11 rfl (by kernel_rfl) (by simp [Try.ntmps11]) ?_; simp only [push_cast]
  repeat (first | refine cw_seq ?_ | refine cw_region ?_ | refine ow_nil ?_ | ((first | apply ow_cons | apply qw_cons); · simp only [push_cast, env, Nat.reduceEqDiff, reduceIte, Nat.reduceAdd, Nat.reduceMul, Nat.reduceLeDiff, reduceCtorEq, Nat.reduceSub, Int.reduceToNat] <;> exact rfl) | ((first | apply ow_spec | apply qw_spec); · simp only [push_cast, env, Nat.reduceEqDiff, reduceIte, Nat.reduceAdd, Nat.reduceMul, Nat.reduceLeDiff, reduceCtorEq, Nat.reduceSub, Int.reduceToNat] <;> exact rfl) | refine qw_nil ?_ | refine cw_block ?_ | refine cw_scope ?_ | refine cw_label ?_ | refine cw_skip ?_)
  refine ow_call (fn := Try.f13) (by simp only [push_cast, env, Nat.reduceEqDiff, reduceIte, Nat.reduceAdd, Nat.reduceMul, Nat.reduceLeDiff, reduceCtorEq, Nat.reduceSub, Int.reduceToNat] <;> exact rfl) rfl (by simp only [push_cast, env, Nat.reduceEqDiff, reduceIte, Nat.reduceAdd, Nat.reduceMul, Nat.reduceLeDiff, reduceCtorEq, Nat.reduceSub, Int.reduceToNat] <;> exact rfl) (by simp only [push_cast, env, Nat.reduceEqDiff, reduceIte, Nat.reduceAdd, Nat.reduceMul, Nat.reduceLeDiff, reduceCtorEq, Nat.reduceSub, Int.reduceToNat] <;> exact rfl) Try.func13 (by kernel_rfl) (by kernel_rfl) ?_
  rw [List.append_nil]
  refine (heavy7_fw hr hwR hn).mono ?_
  rintro _ h ⟨rfl, rfl⟩
  by_cases c1 : heavy7 g w = true
  · rw [c1]
    repeat (first | refine cw_seq ?_ | refine cw_region ?_ | refine ow_nil ?_ | ((first | apply ow_cons | apply qw_cons); · simp only [push_cast, env, Nat.reduceEqDiff, reduceIte, Nat.reduceAdd, Nat.reduceMul, Nat.reduceLeDiff, reduceCtorEq, Nat.reduceSub, Int.reduceToNat] <;> exact rfl) | ((first | apply ow_spec | apply qw_spec); · simp only [push_cast, env, Nat.reduceEqDiff, reduceIte, Nat.reduceAdd, Nat.reduceMul, Nat.reduceLeDiff, reduceCtorEq, Nat.reduceSub, Int.reduceToNat] <;> exact rfl) | refine qw_nil ?_ | refine cw_block ?_ | refine cw_scope ?_ | refine cw_label ?_ | refine cw_skip ?_)
    refine cw_condT (by simp only [push_cast, env, Nat.reduceEqDiff, reduceIte, Nat.reduceAdd, Nat.reduceMul, Nat.reduceLeDiff, reduceCtorEq, Nat.reduceSub, Int.reduceToNat] <;> exact rfl) ?_
    repeat (first | refine cw_seq ?_ | refine cw_region ?_ | refine ow_nil ?_ | ((first | apply ow_cons | apply qw_cons); · simp only [push_cast, env, Nat.reduceEqDiff, reduceIte, Nat.reduceAdd, Nat.reduceMul, Nat.reduceLeDiff, reduceCtorEq, Nat.reduceSub, Int.reduceToNat] <;> exact rfl) | ((first | apply ow_spec | apply qw_spec); · simp only [push_cast, env, Nat.reduceEqDiff, reduceIte, Nat.reduceAdd, Nat.reduceMul, Nat.reduceLeDiff, reduceCtorEq, Nat.reduceSub, Int.reduceToNat] <;> exact rfl) | refine qw_nil ?_ | refine cw_block ?_ | refine cw_scope ?_ | refine cw_label ?_ | refine cw_skip ?_)
    refine ow_call (fn := Try.f14) (by simp only [push_cast, env, Nat.reduceEqDiff, reduceIte, Nat.reduceAdd, Nat.reduceMul, Nat.reduceLeDiff, reduceCtorEq, Nat.reduceSub, Int.reduceToNat] <;> exact rfl) rfl (by simp only [push_cast, env, Nat.reduceEqDiff, reduceIte, Nat.reduceAdd, Nat.reduceMul, Nat.reduceLeDiff, reduceCtorEq, Nat.reduceSub, Int.reduceToNat] <;> exact rfl) (by simp only [push_cast, env, Nat.reduceEqDiff, reduceIte, Nat.reduceAdd, Nat.reduceMul, Nat.reduceLeDiff, reduceCtorEq, Nat.reduceSub, Int.reduceToNat] <;> exact rfl) Try.func14 (by kernel_rfl) (by kernel_rfl) ?_
    refine alive7_fw.mono ?_
    rintro _ hq ⟨rfl, rfl⟩
    repeat (first | refine cw_seq ?_ | refine cw_region ?_ | refine ow_nil ?_ | ((first | apply ow_cons | apply qw_cons); · simp only [push_cast, env, Nat.reduceEqDiff, reduceIte, Nat.reduceAdd, Nat.reduceMul, Nat.reduceLeDiff, reduceCtorEq, Nat.reduceSub, Int.reduceToNat] <;> exact rfl) | ((first | apply ow_spec | apply qw_spec); · simp only [push_cast, env, Nat.reduceEqDiff, reduceIte, Nat.reduceAdd, Nat.reduceMul, Nat.reduceLeDiff, reduceCtorEq, Nat.reduceSub, Int.reduceToNat] <;> exact rfl) | refine qw_nil ?_ | refine cw_block ?_ | refine cw_scope ?_ | refine cw_label ?_ | refine cw_skip ?_)
    refine cw_ret ?_
    exact ⟨_, (by simp only [push_cast, env, Nat.reduceEqDiff, reduceIte, Nat.reduceAdd, Nat.reduceMul, Nat.reduceLeDiff, reduceCtorEq, Nat.reduceSub, Int.reduceToNat] <;> exact rfl), rfl⟩
  have c1' : heavy7 g w = false := by simpa using c1
  rw [c1']
  have hl160 := light160 c1'
  by_cases c2 : 9 < w.length
  · have d2 : decide (9 < (w.length : Int)) = true := decide_eq_true (by omega)
    by_cases c3 : w.length ≤ 512
    · have d3 : decide ((w.length : Int) ≤ 512) = true := decide_eq_true (by omega)
      repeat (first | refine cw_seq ?_ | refine cw_region ?_ | refine ow_nil ?_ | ((first | apply ow_cons | apply qw_cons); · simp only [push_cast, env, Nat.reduceEqDiff, reduceIte, Nat.reduceAdd, Nat.reduceMul, Nat.reduceLeDiff, reduceCtorEq, Nat.reduceSub, Int.reduceToNat, d2, d3] <;> exact rfl) | ((first | apply ow_spec | apply qw_spec); · simp only [push_cast, env, Nat.reduceEqDiff, reduceIte, Nat.reduceAdd, Nat.reduceMul, Nat.reduceLeDiff, reduceCtorEq, Nat.reduceSub, Int.reduceToNat, d2, d3] <;> exact rfl) | refine qw_nil ?_ | refine cw_block ?_ | refine cw_scope ?_ | refine cw_label ?_ | refine cw_skip ?_)
      refine cw_condT (by simp only [push_cast, env, Nat.reduceEqDiff, reduceIte, Nat.reduceAdd, Nat.reduceMul, Nat.reduceLeDiff, reduceCtorEq, Nat.reduceSub, Int.reduceToNat] <;> exact rfl) ?_
      repeat (first | refine cw_seq ?_ | refine cw_region ?_ | refine ow_nil ?_ | ((first | apply ow_cons | apply qw_cons); · simp only [push_cast, env, Nat.reduceEqDiff, reduceIte, Nat.reduceAdd, Nat.reduceMul, Nat.reduceLeDiff, reduceCtorEq, Nat.reduceSub, Int.reduceToNat] <;> exact rfl) | ((first | apply ow_spec | apply qw_spec); · simp only [push_cast, env, Nat.reduceEqDiff, reduceIte, Nat.reduceAdd, Nat.reduceMul, Nat.reduceLeDiff, reduceCtorEq, Nat.reduceSub, Int.reduceToNat] <;> exact rfl) | refine qw_nil ?_ | refine cw_block ?_ | refine cw_scope ?_ | refine cw_label ?_ | refine cw_skip ?_)
      refine ow_call (fn := Try.f14) (by simp only [push_cast, env, Nat.reduceEqDiff, reduceIte, Nat.reduceAdd, Nat.reduceMul, Nat.reduceLeDiff, reduceCtorEq, Nat.reduceSub, Int.reduceToNat] <;> exact rfl) rfl (by simp only [push_cast, env, Nat.reduceEqDiff, reduceIte, Nat.reduceAdd, Nat.reduceMul, Nat.reduceLeDiff, reduceCtorEq, Nat.reduceSub, Int.reduceToNat] <;> exact rfl) (by simp only [push_cast, env, Nat.reduceEqDiff, reduceIte, Nat.reduceAdd, Nat.reduceMul, Nat.reduceLeDiff, reduceCtorEq, Nat.reduceSub, Int.reduceToNat] <;> exact rfl) Try.func14 (by kernel_rfl) (by kernel_rfl) ?_
      refine alive7_fw.mono ?_
      rintro _ hq ⟨rfl, rfl⟩
      repeat (first | refine cw_seq ?_ | refine cw_region ?_ | refine ow_nil ?_ | ((first | apply ow_cons | apply qw_cons); · simp only [push_cast, env, Nat.reduceEqDiff, reduceIte, Nat.reduceAdd, Nat.reduceMul, Nat.reduceLeDiff, reduceCtorEq, Nat.reduceSub, Int.reduceToNat] <;> exact rfl) | ((first | apply ow_spec | apply qw_spec); · simp only [push_cast, env, Nat.reduceEqDiff, reduceIte, Nat.reduceAdd, Nat.reduceMul, Nat.reduceLeDiff, reduceCtorEq, Nat.reduceSub, Int.reduceToNat] <;> exact rfl) | refine qw_nil ?_ | refine cw_block ?_ | refine cw_scope ?_ | refine cw_label ?_ | refine cw_skip ?_)
      refine cw_ret ?_
      exact ⟨_, (by simp only [push_cast, env, Nat.reduceEqDiff, reduceIte, Nat.reduceAdd, Nat.reduceMul, Nat.reduceLeDiff, reduceCtorEq, Nat.reduceSub, Int.reduceToNat] <;> exact rfl), rfl⟩
    · have d3 : decide ((w.length : Int) ≤ 512) = false := decide_eq_false (by omega)
      have hL : fitE g w = 0 → g.nts ≤ 160 ∧ w.length ≤ 9 := fun hf => absurd (fitE_ok.1 hf).2 c3
      repeat (first | refine cw_seq ?_ | refine cw_region ?_ | refine ow_nil ?_ | ((first | apply ow_cons | apply qw_cons); · simp only [push_cast, env, Nat.reduceEqDiff, reduceIte, Nat.reduceAdd, Nat.reduceMul, Nat.reduceLeDiff, reduceCtorEq, Nat.reduceSub, Int.reduceToNat, d2, d3] <;> exact rfl) | ((first | apply ow_spec | apply qw_spec); · simp only [push_cast, env, Nat.reduceEqDiff, reduceIte, Nat.reduceAdd, Nat.reduceMul, Nat.reduceLeDiff, reduceCtorEq, Nat.reduceSub, Int.reduceToNat, d2, d3] <;> exact rfl) | refine qw_nil ?_ | refine cw_block ?_ | refine cw_scope ?_ | refine cw_label ?_ | refine cw_skip ?_)
      refine cw_condF (by simp only [push_cast, env, Nat.reduceEqDiff, reduceIte, Nat.reduceAdd, Nat.reduceMul, Nat.reduceLeDiff, reduceCtorEq, Nat.reduceSub, Int.reduceToNat] <;> exact rfl) ?_
      repeat (first | refine cw_seq ?_ | refine cw_region ?_ | refine ow_nil ?_ | ((first | apply ow_cons | apply qw_cons); · simp only [push_cast, env, Nat.reduceEqDiff, reduceIte, Nat.reduceAdd, Nat.reduceMul, Nat.reduceLeDiff, reduceCtorEq, Nat.reduceSub, Int.reduceToNat] <;> exact rfl) | ((first | apply ow_spec | apply qw_spec); · simp only [push_cast, env, Nat.reduceEqDiff, reduceIte, Nat.reduceAdd, Nat.reduceMul, Nat.reduceLeDiff, reduceCtorEq, Nat.reduceSub, Int.reduceToNat] <;> exact rfl) | refine qw_nil ?_ | refine cw_block ?_ | refine cw_scope ?_ | refine cw_label ?_ | refine cw_skip ?_)
      refine ow_call (fn := Try.f29) (by simp only [push_cast, env, Nat.reduceEqDiff, reduceIte, Nat.reduceAdd, Nat.reduceMul, Nat.reduceLeDiff, reduceCtorEq, Nat.reduceSub, Int.reduceToNat] <;> exact rfl) rfl (by simp only [push_cast, env, Nat.reduceEqDiff, reduceIte, Nat.reduceAdd, Nat.reduceMul, Nat.reduceLeDiff, reduceCtorEq, Nat.reduceSub, Int.reduceToNat] <;> exact rfl) (by simp only [push_cast, env, Nat.reduceEqDiff, reduceIte, Nat.reduceAdd, Nat.reduceMul, Nat.reduceLeDiff, reduceCtorEq, Nat.reduceSub, Int.reduceToNat] <;> exact rfl) Try.func29 (by kernel_rfl) (by kernel_rfl) ?_
      rw [List.append_nil]
      refine (next_fw hr hwR W).mono ?_
      rintro _ h2 ⟨⟨s, rfl, hsw, a1, a2⟩, hp2⟩
      repeat (first | refine cw_seq ?_ | refine cw_region ?_ | refine ow_nil ?_ | ((first | apply ow_cons | apply qw_cons); · simp only [push_cast, env, Nat.reduceEqDiff, reduceIte, Nat.reduceAdd, Nat.reduceMul, Nat.reduceLeDiff, reduceCtorEq, Nat.reduceSub, Int.reduceToNat] <;> exact rfl) | ((first | apply ow_spec | apply qw_spec); · simp only [push_cast, env, Nat.reduceEqDiff, reduceIte, Nat.reduceAdd, Nat.reduceMul, Nat.reduceLeDiff, reduceCtorEq, Nat.reduceSub, Int.reduceToNat] <;> exact rfl) | refine qw_nil ?_ | refine cw_block ?_ | refine cw_scope ?_ | refine cw_label ?_ | refine cw_skip ?_)
      refine ow_call (fn := Try.f30) (by simp only [push_cast, env, Nat.reduceEqDiff, reduceIte, Nat.reduceAdd, Nat.reduceMul, Nat.reduceLeDiff, reduceCtorEq, Nat.reduceSub, Int.reduceToNat] <;> exact rfl) rfl (by simp only [push_cast, env, Nat.reduceEqDiff, reduceIte, Nat.reduceAdd, Nat.reduceMul, Nat.reduceLeDiff, reduceCtorEq, Nat.reduceSub, Int.reduceToNat] <;> exact rfl) (by simp only [push_cast, env, Nat.reduceEqDiff, reduceIte, Nat.reduceAdd, Nat.reduceMul, Nat.reduceLeDiff, reduceCtorEq, Nat.reduceSub, Int.reduceToNat] <;> exact rfl) Try.func30 (by kernel_rfl) (by kernel_rfl) ?_
      rw [List.append_nil]
      refine (rfit_fw (hr.mono hp2) (hwR.mono hp2)).mono ?_
      rintro _ h2 ⟨rfl, rfl⟩
      by_cases hf : ¬ fitE g w = 0
      · have df : decide (fitE g w = 0) = false := decide_eq_false hf
        obtain rfl := a1 hf
        repeat (first | refine cw_seq ?_ | refine cw_region ?_ | refine ow_nil ?_ | ((first | apply ow_cons | apply qw_cons); · simp only [push_cast, env, Nat.reduceEqDiff, reduceIte, Nat.reduceAdd, Nat.reduceMul, Nat.reduceLeDiff, reduceCtorEq, Nat.reduceSub, Int.reduceToNat, df] <;> exact rfl) | ((first | apply ow_spec | apply qw_spec); · simp only [push_cast, env, Nat.reduceEqDiff, reduceIte, Nat.reduceAdd, Nat.reduceMul, Nat.reduceLeDiff, reduceCtorEq, Nat.reduceSub, Int.reduceToNat, df] <;> exact rfl) | refine qw_nil ?_ | refine cw_block ?_ | refine cw_scope ?_ | refine cw_label ?_ | refine cw_skip ?_)
        refine cw_condT (by simp only [push_cast, env, Nat.reduceEqDiff, reduceIte, Nat.reduceAdd, Nat.reduceMul, Nat.reduceLeDiff, reduceCtorEq, Nat.reduceSub, Int.reduceToNat, df] <;> exact rfl) ?_
        repeat (first | refine cw_seq ?_ | refine cw_region ?_ | refine ow_nil ?_ | ((first | apply ow_cons | apply qw_cons); · simp only [push_cast, env, Nat.reduceEqDiff, reduceIte, Nat.reduceAdd, Nat.reduceMul, Nat.reduceLeDiff, reduceCtorEq, Nat.reduceSub, Int.reduceToNat] <;> exact rfl) | ((first | apply ow_spec | apply qw_spec); · simp only [push_cast, env, Nat.reduceEqDiff, reduceIte, Nat.reduceAdd, Nat.reduceMul, Nat.reduceLeDiff, reduceCtorEq, Nat.reduceSub, Int.reduceToNat] <;> exact rfl) | refine qw_nil ?_ | refine cw_block ?_ | refine cw_scope ?_ | refine cw_label ?_ | refine cw_skip ?_)
        refine ow_call (fn := Try.f14) (by simp only [push_cast, env, Nat.reduceEqDiff, reduceIte, Nat.reduceAdd, Nat.reduceMul, Nat.reduceLeDiff, reduceCtorEq, Nat.reduceSub, Int.reduceToNat] <;> exact rfl) rfl (by simp only [push_cast, env, Nat.reduceEqDiff, reduceIte, Nat.reduceAdd, Nat.reduceMul, Nat.reduceLeDiff, reduceCtorEq, Nat.reduceSub, Int.reduceToNat] <;> exact rfl) (by simp only [push_cast, env, Nat.reduceEqDiff, reduceIte, Nat.reduceAdd, Nat.reduceMul, Nat.reduceLeDiff, reduceCtorEq, Nat.reduceSub, Int.reduceToNat] <;> exact rfl) Try.func14 (by kernel_rfl) (by kernel_rfl) ?_
        refine alive7_fw.mono ?_
        rintro _ h2 ⟨rfl, rfl⟩
        repeat (first | refine cw_seq ?_ | refine cw_region ?_ | refine ow_nil ?_ | ((first | apply ow_cons | apply qw_cons); · simp only [push_cast, env, Nat.reduceEqDiff, reduceIte, Nat.reduceAdd, Nat.reduceMul, Nat.reduceLeDiff, reduceCtorEq, Nat.reduceSub, Int.reduceToNat, BSet.zero] <;> exact rfl) | ((first | apply ow_spec | apply qw_spec); · simp only [push_cast, env, Nat.reduceEqDiff, reduceIte, Nat.reduceAdd, Nat.reduceMul, Nat.reduceLeDiff, reduceCtorEq, Nat.reduceSub, Int.reduceToNat, BSet.zero] <;> exact rfl) | refine qw_nil ?_ | refine cw_block ?_ | refine cw_scope ?_ | refine cw_label ?_ | refine cw_skip ?_)
        refine cw_ret ?_
        exact ⟨_, (by simp only [push_cast, env, Nat.reduceEqDiff, reduceIte, Nat.reduceAdd, Nat.reduceMul, Nat.reduceLeDiff, reduceCtorEq, Nat.reduceSub, Int.reduceToNat] <;> exact rfl), rfl⟩
      have hf0 : fitE g w = 0 := by simpa using hf
      obtain ⟨hL1, hL2⟩ := hL hf0
      obtain ⟨hnb, hw⟩ := fitE_ok.1 hf0
      have R := rightS hnb
      have n1 := R.n1
      obtain ⟨N, hN⟩ : ∃ N : Nat, g.nts = N := ⟨g.nts.toNat, by omega⟩
      have hs : s.has b = true ↔ Bg g (w ++ [b]) g.start 0 := by
        obtain ⟨m, S, hm, C, k⟩ := a2 hf0
        exact (k b hb).trans (next_viable R hm C)
      clear a1 a2
      rw [hf0]
      repeat (first | refine cw_seq ?_ | refine cw_region ?_ | refine ow_nil ?_ | ((first | apply ow_cons | apply qw_cons); · simp only [push_cast, env, Nat.reduceEqDiff, reduceIte, Nat.reduceAdd, Nat.reduceMul, Nat.reduceLeDiff, reduceCtorEq, Nat.reduceSub, Int.reduceToNat] <;> exact rfl) | ((first | apply ow_spec | apply qw_spec); · simp only [push_cast, env, Nat.reduceEqDiff, reduceIte, Nat.reduceAdd, Nat.reduceMul, Nat.reduceLeDiff, reduceCtorEq, Nat.reduceSub, Int.reduceToNat] <;> exact rfl) | refine qw_nil ?_ | refine cw_block ?_ | refine cw_scope ?_ | refine cw_label ?_ | refine cw_skip ?_)
      refine cw_condF (by simp only [push_cast, env, Nat.reduceEqDiff, reduceIte, Nat.reduceAdd, Nat.reduceMul, Nat.reduceLeDiff, reduceCtorEq, Nat.reduceSub, Int.reduceToNat] <;> exact rfl) ?_
      repeat (first | refine cw_seq ?_ | refine cw_region ?_ | refine ow_nil ?_ | ((first | apply ow_cons | apply qw_cons); · simp only [push_cast, env, Nat.reduceEqDiff, reduceIte, Nat.reduceAdd, Nat.reduceMul, Nat.reduceLeDiff, reduceCtorEq, Nat.reduceSub, Int.reduceToNat] <;> exact rfl) | ((first | apply ow_spec | apply qw_spec); · simp only [push_cast, env, Nat.reduceEqDiff, reduceIte, Nat.reduceAdd, Nat.reduceMul, Nat.reduceLeDiff, reduceCtorEq, Nat.reduceSub, Int.reduceToNat] <;> exact rfl) | refine qw_nil ?_ | refine cw_block ?_ | refine cw_scope ?_ | refine cw_label ?_ | refine cw_skip ?_)
      refine ow_appB (h := h2) GB.nil (List.prefix_refl _) (hwR.mono hp2) (by simp only [List.length_nil]; omega) (by simp only [push_cast, env, Nat.reduceEqDiff, reduceIte, Nat.reduceAdd, Nat.reduceMul, Nat.reduceLeDiff, reduceCtorEq, Nat.reduceSub, Int.reduceToNat] <;> exact rfl) rfl (by simp only [push_cast, env, Nat.reduceEqDiff, reduceIte, Nat.reduceAdd, Nat.reduceMul, Nat.reduceLeDiff, reduceCtorEq, Nat.reduceSub, Int.reduceToNat] <;> exact rfl) (by simp only [push_cast, env, Nat.reduceEqDiff, reduceIte, Nat.reduceAdd, Nat.reduceMul, Nat.reduceLeDiff, reduceCtorEq, Nat.reduceSub, Int.reduceToNat] <;> exact rfl) ?_
      intro y1 h3 hp3 hy1
      rw [List.nil_append] at hy1
      repeat (first | refine cw_seq ?_ | refine cw_region ?_ | refine ow_nil ?_ | ((first | apply ow_cons | apply qw_cons); · simp only [push_cast, env, Nat.reduceEqDiff, reduceIte, Nat.reduceAdd, Nat.reduceMul, Nat.reduceLeDiff, reduceCtorEq, Nat.reduceSub, Int.reduceToNat] <;> exact rfl) | ((first | apply ow_spec | apply qw_spec); · simp only [push_cast, env, Nat.reduceEqDiff, reduceIte, Nat.reduceAdd, Nat.reduceMul, Nat.reduceLeDiff, reduceCtorEq, Nat.reduceSub, Int.reduceToNat] <;> exact rfl) | refine qw_nil ?_ | refine cw_block ?_ | refine cw_scope ?_ | refine cw_label ?_ | refine cw_skip ?_)
      refine ow_appB1 (h := h2) (b := b) hy1 hp3 hb (by omega) (by simp only [push_cast, env, Nat.reduceEqDiff, reduceIte, Nat.reduceAdd, Nat.reduceMul, Nat.reduceLeDiff, reduceCtorEq, Nat.reduceSub, Int.reduceToNat] <;> exact rfl) rfl (by simp only [push_cast, env, Nat.reduceEqDiff, reduceIte, Nat.reduceAdd, Nat.reduceMul, Nat.reduceLeDiff, reduceCtorEq, Nat.reduceSub, Int.reduceToNat] <;> exact rfl) rfl ?_
      intro y2 h4 hp4 hy2
      have hlen : (w ++ [b]).length = w.length + 1 := by simp
      obtain ⟨p4, c4, rfl⟩ := hy2.form
      have hbeg := rbegins_fw (N := N) (hr.mono (hp2.trans hp4)) hy2.rdb hnb W (by omega) hN (by
        rw [hlen]
        have := Nat.mul_le_mul (Nat.mul_le_mul (show N ≤ 160 by omega) (show w.length + 1 + 1 ≤ 11 by omega)) (show w.length + 1 + 1 ≤ 11 by omega)
        omega)
      unfold FW at hbeg
      obtain ⟨rr, h5, hcall, ⟨bb, rfl, hbb⟩, hp5⟩ := hbeg
      obtain rfl : bb = s.has b := by rw [Bool.eq_iff_iff, hbb, hs]
      have e1 : IntKind.i64.wrap (b : Int) = (b : Int) := wrap64_id (by omega) (by omega)
      repeat (first | refine cw_seq ?_ | refine cw_region ?_ | refine ow_nil ?_ | ((first | apply ow_cons | apply qw_cons); · simp only [push_cast, env, Nat.reduceEqDiff, reduceIte, Nat.reduceAdd, Nat.reduceMul, Nat.reduceLeDiff, reduceCtorEq, Nat.reduceSub, Int.reduceToNat] <;> exact rfl) | ((first | apply ow_spec | apply qw_spec); · simp only [push_cast, env, Nat.reduceEqDiff, reduceIte, Nat.reduceAdd, Nat.reduceMul, Nat.reduceLeDiff, reduceCtorEq, Nat.reduceSub, Int.reduceToNat] <;> exact rfl) | refine qw_nil ?_ | refine cw_block ?_ | refine cw_scope ?_ | refine cw_label ?_ | refine cw_skip ?_)
      refine cw_weakL [(2, .val (u8 b)), (3, .box [i64 g.nts, i64 g.start, .slice p g.rules.length c]), (7, .box [u64 s.a, u64 s.b, u64 s.c, u64 s.d]), (8, .val (i64 0)), (10, .val (.slice p4 (w ++ [b]).length c4))] (by simp only [push_cast, SubL, fget, Nat.reduceEqDiff, reduceIte]) ?_
      show CW _ _ ⟨_, [], h4⟩ _
      apply cw_ordA (L := [[], [0], [0, 1], [0, 1, 2], [0, 1, 2, 3], [0, 1, 2, 3, 4], [0, 1, 2, 3, 4, 5], [0, 1, 2, 3, 4, 5], [0, 1, 2, 3, 4, 5, 7], [0, 1, 2, 3, 4, 5, 6, 7, 8], [0, 1, 2, 3, 4, 5], [0, 1, 2, 3, 4, 5], [0, 1, 2, 3, 4, 5, 6, 7, 8, 9, 10, 11], [0, 1, 2, 3, 4, 5, 6, 7, 8, 9, 10, 11, 12], [0, 1, 2, 3, 4, 5, 6, 7, 8, 9, 10, 11, 12, 13], [0, 1, 2, 3, 4, 5, 6, 7, 8, 9, 10, 11, 12, 13, 14]]) (act := [12]) (hs := [h5]) (resL := [_, _, _, _, _, _, _, _, _, _, _, _, _, _, _, _]) (frF := [(6, .val (.bool true))])
      case hm => exact mixed
      case hc => kernel_rfl
      case ha => rfl
      case hb => rfl
      case hS =>
        apply StepsA.cons
        · rfl
        · refine ⟨?_, trivial⟩
          exact one_call (fn := Try.f14) (args := []) (cap := []) rfl (by simp only [push_cast, env, Nat.reduceEqDiff, reduceIte, Nat.reduceAdd, Nat.reduceMul, Nat.reduceLeDiff, reduceCtorEq, Nat.reduceSub, Int.reduceToNat] <;> exact rfl) rfl (by simp only [push_cast, env, Nat.reduceEqDiff, reduceIte, Nat.reduceAdd, Nat.reduceMul, Nat.reduceLeDiff, reduceCtorEq, Nat.reduceSub, Int.reduceToNat] <;> exact rfl) (by simp only [push_cast, env, Nat.reduceEqDiff, reduceIte, Nat.reduceAdd, Nat.reduceMul, Nat.reduceLeDiff, reduceCtorEq, Nat.reduceSub, Int.reduceToNat] <;> exact rfl) Try.func14 (by kernel_rfl) (by kernel_rfl) alive7_fw
        · rfl
        repeat (first | exact StepsA.nil _ | (apply StepsA.cons; (· rfl); (· (first | refine ⟨?_, trivial⟩ | refine ⟨?_, ?_, trivial⟩ | refine ⟨?_, ?_, ?_, trivial⟩ | refine ⟨?_, ?_, ?_, ?_, trivial⟩) <;> (first | (apply one_val; (· rfl); (· simp only [push_cast, env, Nat.reduceEqDiff, reduceIte, Nat.reduceAdd, Nat.reduceMul, Nat.reduceLeDiff, reduceCtorEq, Nat.reduceSub, Int.reduceToNat, e1] <;> exact rfl); (· simp only [push_cast, env, Nat.reduceEqDiff, reduceIte, Nat.reduceAdd, Nat.reduceMul, Nat.reduceLeDiff, reduceCtorEq, Nat.reduceSub, Int.reduceToNat, e1] <;> exact rfl)) | (apply one_eph; (· rfl); (· simp only [push_cast, env, Nat.reduceEqDiff, reduceIte, Nat.reduceAdd, Nat.reduceMul, Nat.reduceLeDiff, reduceCtorEq, Nat.reduceSub, Int.reduceToNat, e1] <;> exact rfl); (· rfl); (· simp only [push_cast, env, Nat.reduceEqDiff, reduceIte, Nat.reduceAdd, Nat.reduceMul, Nat.reduceLeDiff, reduceCtorEq, Nat.reduceSub, Int.reduceToNat, e1] <;> exact rfl); (· decide)) | (apply one_bsl; (· rfl); (· simp only [push_cast, env, Nat.reduceEqDiff, reduceIte, Nat.reduceAdd, Nat.reduceMul, Nat.reduceLeDiff, reduceCtorEq, Nat.reduceSub, Int.reduceToNat, e1] <;> exact rfl); (· rfl); (· simp only [push_cast, env, Nat.reduceEqDiff, reduceIte, Nat.reduceAdd, Nat.reduceMul, Nat.reduceLeDiff, reduceCtorEq, Nat.reduceSub, Int.reduceToNat, e1] <;> exact rfl)) | (apply one_box; (· rfl); (· simp only [push_cast, env, Nat.reduceEqDiff, reduceIte, Nat.reduceAdd, Nat.reduceMul, Nat.reduceLeDiff, reduceCtorEq, Nat.reduceSub, Int.reduceToNat, e1] <;> exact rfl); (· rfl); (· simp only [push_cast, env, Nat.reduceEqDiff, reduceIte, Nat.reduceAdd, Nat.reduceMul, Nat.reduceLeDiff, reduceCtorEq, Nat.reduceSub, Int.reduceToNat, e1] <;> exact rfl)) | (apply one_skip; (· rfl); (· simp only [push_cast, env, Nat.reduceEqDiff, reduceIte, Nat.reduceAdd, Nat.reduceMul, Nat.reduceLeDiff, reduceCtorEq, Nat.reduceSub, Int.reduceToNat, e1] <;> exact rfl)))); (· rfl)))
        apply StepsA.cons
        · rfl
        · refine ⟨?_, trivial⟩
          exact one_call (fn := Try.f31) (args := [s.val, i64 b]) (cap := []) rfl (by simp only [push_cast, env, Nat.reduceEqDiff, reduceIte, Nat.reduceAdd, Nat.reduceMul, Nat.reduceLeDiff, reduceCtorEq, Nat.reduceSub, Int.reduceToNat] <;> exact rfl) rfl (by simp only [push_cast, env, Nat.reduceEqDiff, reduceIte, Nat.reduceAdd, Nat.reduceMul, Nat.reduceLeDiff, reduceCtorEq, Nat.reduceSub, Int.reduceToNat] <;> exact rfl) (by simp only [push_cast, env, Nat.reduceEqDiff, reduceIte, Nat.reduceAdd, Nat.reduceMul, Nat.reduceLeDiff, reduceCtorEq, Nat.reduceSub, Int.reduceToNat] <;> exact rfl) Try.func31 (by kernel_rfl) (by kernel_rfl) (has_fw hsw hb)
        · rfl
        repeat (first | exact StepsA.nil _ | (apply StepsA.cons; (· rfl); (· (first | refine ⟨?_, trivial⟩ | refine ⟨?_, ?_, trivial⟩ | refine ⟨?_, ?_, ?_, trivial⟩ | refine ⟨?_, ?_, ?_, ?_, trivial⟩) <;> (first | (apply one_val; (· rfl); (· simp only [push_cast, env, Nat.reduceEqDiff, reduceIte, Nat.reduceAdd, Nat.reduceMul, Nat.reduceLeDiff, reduceCtorEq, Nat.reduceSub, Int.reduceToNat] <;> exact rfl); (· simp only [push_cast, env, Nat.reduceEqDiff, reduceIte, Nat.reduceAdd, Nat.reduceMul, Nat.reduceLeDiff, reduceCtorEq, Nat.reduceSub, Int.reduceToNat] <;> exact rfl)) | (apply one_eph; (· rfl); (· simp only [push_cast, env, Nat.reduceEqDiff, reduceIte, Nat.reduceAdd, Nat.reduceMul, Nat.reduceLeDiff, reduceCtorEq, Nat.reduceSub, Int.reduceToNat] <;> exact rfl); (· rfl); (· simp only [push_cast, env, Nat.reduceEqDiff, reduceIte, Nat.reduceAdd, Nat.reduceMul, Nat.reduceLeDiff, reduceCtorEq, Nat.reduceSub, Int.reduceToNat] <;> exact rfl); (· decide)) | (apply one_bsl; (· rfl); (· simp only [push_cast, env, Nat.reduceEqDiff, reduceIte, Nat.reduceAdd, Nat.reduceMul, Nat.reduceLeDiff, reduceCtorEq, Nat.reduceSub, Int.reduceToNat] <;> exact rfl); (· rfl); (· simp only [push_cast, env, Nat.reduceEqDiff, reduceIte, Nat.reduceAdd, Nat.reduceMul, Nat.reduceLeDiff, reduceCtorEq, Nat.reduceSub, Int.reduceToNat] <;> exact rfl)) | (apply one_box; (· rfl); (· simp only [push_cast, env, Nat.reduceEqDiff, reduceIte, Nat.reduceAdd, Nat.reduceMul, Nat.reduceLeDiff, reduceCtorEq, Nat.reduceSub, Int.reduceToNat] <;> exact rfl); (· rfl); (· simp only [push_cast, env, Nat.reduceEqDiff, reduceIte, Nat.reduceAdd, Nat.reduceMul, Nat.reduceLeDiff, reduceCtorEq, Nat.reduceSub, Int.reduceToNat] <;> exact rfl)) | (apply one_skip; (· rfl); (· simp only [push_cast, env, Nat.reduceEqDiff, reduceIte, Nat.reduceAdd, Nat.reduceMul, Nat.reduceLeDiff, reduceCtorEq, Nat.reduceSub, Int.reduceToNat] <;> exact rfl)))); (· rfl)))
        apply StepsA.cons
        · rfl
        · refine ⟨?_, trivial⟩
          exact one_callE (args := [.agg #[i64 g.nts, i64 g.start, .slice p g.rules.length c], .slice p4 (w ++ [b]).length c4]) (cap := []) (fn := Try.f32) (by simp only [push_cast, env, Nat.reduceEqDiff, reduceIte, Nat.reduceAdd, Nat.reduceMul, Nat.reduceLeDiff, reduceCtorEq, Nat.reduceSub, Int.reduceToNat] <;> exact rfl) rfl (by simp only [push_cast, env, Nat.reduceEqDiff, reduceIte, Nat.reduceAdd, Nat.reduceMul, Nat.reduceLeDiff, reduceCtorEq, Nat.reduceSub, Int.reduceToNat] <;> exact rfl) (by simp only [push_cast, env, Nat.reduceEqDiff, reduceIte, Nat.reduceAdd, Nat.reduceMul, Nat.reduceLeDiff, reduceCtorEq, Nat.reduceSub, Int.reduceToNat] <;> exact rfl) Try.func32 (by kernel_rfl) (by kernel_rfl) hcall
        · rfl
        repeat (first | exact StepsA.nil _ | (apply StepsA.cons; (· rfl); (· (first | refine ⟨?_, trivial⟩ | refine ⟨?_, ?_, trivial⟩ | refine ⟨?_, ?_, ?_, trivial⟩ | refine ⟨?_, ?_, ?_, ?_, trivial⟩) <;> (first | (apply one_val; (· rfl); (· simp only [push_cast, env, Nat.reduceEqDiff, reduceIte, Nat.reduceAdd, Nat.reduceMul, Nat.reduceLeDiff, reduceCtorEq, Nat.reduceSub, Int.reduceToNat] <;> exact rfl); (· simp only [push_cast, env, Nat.reduceEqDiff, reduceIte, Nat.reduceAdd, Nat.reduceMul, Nat.reduceLeDiff, reduceCtorEq, Nat.reduceSub, Int.reduceToNat] <;> exact rfl)) | (apply one_eph; (· rfl); (· simp only [push_cast, env, Nat.reduceEqDiff, reduceIte, Nat.reduceAdd, Nat.reduceMul, Nat.reduceLeDiff, reduceCtorEq, Nat.reduceSub, Int.reduceToNat] <;> exact rfl); (· rfl); (· simp only [push_cast, env, Nat.reduceEqDiff, reduceIte, Nat.reduceAdd, Nat.reduceMul, Nat.reduceLeDiff, reduceCtorEq, Nat.reduceSub, Int.reduceToNat] <;> exact rfl); (· decide)) | (apply one_bsl; (· rfl); (· simp only [push_cast, env, Nat.reduceEqDiff, reduceIte, Nat.reduceAdd, Nat.reduceMul, Nat.reduceLeDiff, reduceCtorEq, Nat.reduceSub, Int.reduceToNat] <;> exact rfl); (· rfl); (· simp only [push_cast, env, Nat.reduceEqDiff, reduceIte, Nat.reduceAdd, Nat.reduceMul, Nat.reduceLeDiff, reduceCtorEq, Nat.reduceSub, Int.reduceToNat] <;> exact rfl)) | (apply one_box; (· rfl); (· simp only [push_cast, env, Nat.reduceEqDiff, reduceIte, Nat.reduceAdd, Nat.reduceMul, Nat.reduceLeDiff, reduceCtorEq, Nat.reduceSub, Int.reduceToNat] <;> exact rfl); (· rfl); (· simp only [push_cast, env, Nat.reduceEqDiff, reduceIte, Nat.reduceAdd, Nat.reduceMul, Nat.reduceLeDiff, reduceCtorEq, Nat.reduceSub, Int.reduceToNat] <;> exact rfl)) | (apply one_skip; (· rfl); (· simp only [push_cast, env, Nat.reduceEqDiff, reduceIte, Nat.reduceAdd, Nat.reduceMul, Nat.reduceLeDiff, reduceCtorEq, Nat.reduceSub, Int.reduceToNat] <;> exact rfl)))); (· rfl)))
      case ht => rfl
      case hF => repeat (first | exact trivial | (refine ⟨.inl ⟨by decide, rfl⟩, ?_⟩) | (refine ⟨.inr ⟨rfl, by simp⟩, ?_⟩))
      show CW _ _ _ _
      repeat (first | refine cw_seq ?_ | refine cw_region ?_ | refine ow_nil ?_ | ((first | apply ow_cons | apply qw_cons); · simp only [push_cast, env, Nat.reduceEqDiff, reduceIte, Nat.reduceAdd, Nat.reduceMul, Nat.reduceLeDiff, reduceCtorEq, Nat.reduceSub, Int.reduceToNat] <;> exact rfl) | ((first | apply ow_spec | apply qw_spec); · simp only [push_cast, env, Nat.reduceEqDiff, reduceIte, Nat.reduceAdd, Nat.reduceMul, Nat.reduceLeDiff, reduceCtorEq, Nat.reduceSub, Int.reduceToNat] <;> exact rfl) | refine qw_nil ?_ | refine cw_block ?_ | refine cw_scope ?_ | refine cw_label ?_ | refine cw_skip ?_)
      refine cw_ret ?_
      exact ⟨_, (by simp only [push_cast, env, Nat.reduceEqDiff, reduceIte, Nat.reduceAdd, Nat.reduceMul, Nat.reduceLeDiff, reduceCtorEq, Nat.reduceSub, Int.reduceToNat] <;> exact rfl), rfl⟩
  · have d2 : decide (9 < (w.length : Int)) = false := decide_eq_false (by omega)
    have hL : fitE g w = 0 → g.nts ≤ 160 ∧ w.length ≤ 9 := fun hf => ⟨hl160, by omega⟩
    repeat (first | refine cw_seq ?_ | refine cw_region ?_ | refine ow_nil ?_ | ((first | apply ow_cons | apply qw_cons); · simp only [push_cast, env, Nat.reduceEqDiff, reduceIte, Nat.reduceAdd, Nat.reduceMul, Nat.reduceLeDiff, reduceCtorEq, Nat.reduceSub, Int.reduceToNat, d2] <;> exact rfl) | ((first | apply ow_spec | apply qw_spec); · simp only [push_cast, env, Nat.reduceEqDiff, reduceIte, Nat.reduceAdd, Nat.reduceMul, Nat.reduceLeDiff, reduceCtorEq, Nat.reduceSub, Int.reduceToNat, d2] <;> exact rfl) | refine qw_nil ?_ | refine cw_block ?_ | refine cw_scope ?_ | refine cw_label ?_ | refine cw_skip ?_)
    refine cw_condF (by simp only [push_cast, env, Nat.reduceEqDiff, reduceIte, Nat.reduceAdd, Nat.reduceMul, Nat.reduceLeDiff, reduceCtorEq, Nat.reduceSub, Int.reduceToNat] <;> exact rfl) ?_
    repeat (first | refine cw_seq ?_ | refine cw_region ?_ | refine ow_nil ?_ | ((first | apply ow_cons | apply qw_cons); · simp only [push_cast, env, Nat.reduceEqDiff, reduceIte, Nat.reduceAdd, Nat.reduceMul, Nat.reduceLeDiff, reduceCtorEq, Nat.reduceSub, Int.reduceToNat] <;> exact rfl) | ((first | apply ow_spec | apply qw_spec); · simp only [push_cast, env, Nat.reduceEqDiff, reduceIte, Nat.reduceAdd, Nat.reduceMul, Nat.reduceLeDiff, reduceCtorEq, Nat.reduceSub, Int.reduceToNat] <;> exact rfl) | refine qw_nil ?_ | refine cw_block ?_ | refine cw_scope ?_ | refine cw_label ?_ | refine cw_skip ?_)
    refine ow_call (fn := Try.f29) (by simp only [push_cast, env, Nat.reduceEqDiff, reduceIte, Nat.reduceAdd, Nat.reduceMul, Nat.reduceLeDiff, reduceCtorEq, Nat.reduceSub, Int.reduceToNat] <;> exact rfl) rfl (by simp only [push_cast, env, Nat.reduceEqDiff, reduceIte, Nat.reduceAdd, Nat.reduceMul, Nat.reduceLeDiff, reduceCtorEq, Nat.reduceSub, Int.reduceToNat] <;> exact rfl) (by simp only [push_cast, env, Nat.reduceEqDiff, reduceIte, Nat.reduceAdd, Nat.reduceMul, Nat.reduceLeDiff, reduceCtorEq, Nat.reduceSub, Int.reduceToNat] <;> exact rfl) Try.func29 (by kernel_rfl) (by kernel_rfl) ?_
    rw [List.append_nil]
    refine (next_fw hr hwR W).mono ?_
    rintro _ h2 ⟨⟨s, rfl, hsw, a1, a2⟩, hp2⟩
    repeat (first | refine cw_seq ?_ | refine cw_region ?_ | refine ow_nil ?_ | ((first | apply ow_cons | apply qw_cons); · simp only [push_cast, env, Nat.reduceEqDiff, reduceIte, Nat.reduceAdd, Nat.reduceMul, Nat.reduceLeDiff, reduceCtorEq, Nat.reduceSub, Int.reduceToNat] <;> exact rfl) | ((first | apply ow_spec | apply qw_spec); · simp only [push_cast, env, Nat.reduceEqDiff, reduceIte, Nat.reduceAdd, Nat.reduceMul, Nat.reduceLeDiff, reduceCtorEq, Nat.reduceSub, Int.reduceToNat] <;> exact rfl) | refine qw_nil ?_ | refine cw_block ?_ | refine cw_scope ?_ | refine cw_label ?_ | refine cw_skip ?_)
    refine ow_call (fn := Try.f30) (by simp only [push_cast, env, Nat.reduceEqDiff, reduceIte, Nat.reduceAdd, Nat.reduceMul, Nat.reduceLeDiff, reduceCtorEq, Nat.reduceSub, Int.reduceToNat] <;> exact rfl) rfl (by simp only [push_cast, env, Nat.reduceEqDiff, reduceIte, Nat.reduceAdd, Nat.reduceMul, Nat.reduceLeDiff, reduceCtorEq, Nat.reduceSub, Int.reduceToNat] <;> exact rfl) (by simp only [push_cast, env, Nat.reduceEqDiff, reduceIte, Nat.reduceAdd, Nat.reduceMul, Nat.reduceLeDiff, reduceCtorEq, Nat.reduceSub, Int.reduceToNat] <;> exact rfl) Try.func30 (by kernel_rfl) (by kernel_rfl) ?_
    rw [List.append_nil]
    refine (rfit_fw (hr.mono hp2) (hwR.mono hp2)).mono ?_
    rintro _ h2 ⟨rfl, rfl⟩
    by_cases hf : ¬ fitE g w = 0
    · have df : decide (fitE g w = 0) = false := decide_eq_false hf
      obtain rfl := a1 hf
      repeat (first | refine cw_seq ?_ | refine cw_region ?_ | refine ow_nil ?_ | ((first | apply ow_cons | apply qw_cons); · simp only [push_cast, env, Nat.reduceEqDiff, reduceIte, Nat.reduceAdd, Nat.reduceMul, Nat.reduceLeDiff, reduceCtorEq, Nat.reduceSub, Int.reduceToNat, df] <;> exact rfl) | ((first | apply ow_spec | apply qw_spec); · simp only [push_cast, env, Nat.reduceEqDiff, reduceIte, Nat.reduceAdd, Nat.reduceMul, Nat.reduceLeDiff, reduceCtorEq, Nat.reduceSub, Int.reduceToNat, df] <;> exact rfl) | refine qw_nil ?_ | refine cw_block ?_ | refine cw_scope ?_ | refine cw_label ?_ | refine cw_skip ?_)
      refine cw_condT (by simp only [push_cast, env, Nat.reduceEqDiff, reduceIte, Nat.reduceAdd, Nat.reduceMul, Nat.reduceLeDiff, reduceCtorEq, Nat.reduceSub, Int.reduceToNat, df] <;> exact rfl) ?_
      repeat (first | refine cw_seq ?_ | refine cw_region ?_ | refine ow_nil ?_ | ((first | apply ow_cons | apply qw_cons); · simp only [push_cast, env, Nat.reduceEqDiff, reduceIte, Nat.reduceAdd, Nat.reduceMul, Nat.reduceLeDiff, reduceCtorEq, Nat.reduceSub, Int.reduceToNat] <;> exact rfl) | ((first | apply ow_spec | apply qw_spec); · simp only [push_cast, env, Nat.reduceEqDiff, reduceIte, Nat.reduceAdd, Nat.reduceMul, Nat.reduceLeDiff, reduceCtorEq, Nat.reduceSub, Int.reduceToNat] <;> exact rfl) | refine qw_nil ?_ | refine cw_block ?_ | refine cw_scope ?_ | refine cw_label ?_ | refine cw_skip ?_)
      refine ow_call (fn := Try.f14) (by simp only [push_cast, env, Nat.reduceEqDiff, reduceIte, Nat.reduceAdd, Nat.reduceMul, Nat.reduceLeDiff, reduceCtorEq, Nat.reduceSub, Int.reduceToNat] <;> exact rfl) rfl (by simp only [push_cast, env, Nat.reduceEqDiff, reduceIte, Nat.reduceAdd, Nat.reduceMul, Nat.reduceLeDiff, reduceCtorEq, Nat.reduceSub, Int.reduceToNat] <;> exact rfl) (by simp only [push_cast, env, Nat.reduceEqDiff, reduceIte, Nat.reduceAdd, Nat.reduceMul, Nat.reduceLeDiff, reduceCtorEq, Nat.reduceSub, Int.reduceToNat] <;> exact rfl) Try.func14 (by kernel_rfl) (by kernel_rfl) ?_
      refine alive7_fw.mono ?_
      rintro _ h2 ⟨rfl, rfl⟩
      repeat (first | refine cw_seq ?_ | refine cw_region ?_ | refine ow_nil ?_ | ((first | apply ow_cons | apply qw_cons); · simp only [push_cast, env, Nat.reduceEqDiff, reduceIte, Nat.reduceAdd, Nat.reduceMul, Nat.reduceLeDiff, reduceCtorEq, Nat.reduceSub, Int.reduceToNat, BSet.zero] <;> exact rfl) | ((first | apply ow_spec | apply qw_spec); · simp only [push_cast, env, Nat.reduceEqDiff, reduceIte, Nat.reduceAdd, Nat.reduceMul, Nat.reduceLeDiff, reduceCtorEq, Nat.reduceSub, Int.reduceToNat, BSet.zero] <;> exact rfl) | refine qw_nil ?_ | refine cw_block ?_ | refine cw_scope ?_ | refine cw_label ?_ | refine cw_skip ?_)
      refine cw_ret ?_
      exact ⟨_, (by simp only [push_cast, env, Nat.reduceEqDiff, reduceIte, Nat.reduceAdd, Nat.reduceMul, Nat.reduceLeDiff, reduceCtorEq, Nat.reduceSub, Int.reduceToNat] <;> exact rfl), rfl⟩
    have hf0 : fitE g w = 0 := by simpa using hf
    obtain ⟨hL1, hL2⟩ := hL hf0
    obtain ⟨hnb, hw⟩ := fitE_ok.1 hf0
    have R := rightS hnb
    have n1 := R.n1
    obtain ⟨N, hN⟩ : ∃ N : Nat, g.nts = N := ⟨g.nts.toNat, by omega⟩
    have hs : s.has b = true ↔ Bg g (w ++ [b]) g.start 0 := by
      obtain ⟨m, S, hm, C, k⟩ := a2 hf0
      exact (k b hb).trans (next_viable R hm C)
    clear a1 a2
    rw [hf0]
    repeat (first | refine cw_seq ?_ | refine cw_region ?_ | refine ow_nil ?_ | ((first | apply ow_cons | apply qw_cons); · simp only [push_cast, env, Nat.reduceEqDiff, reduceIte, Nat.reduceAdd, Nat.reduceMul, Nat.reduceLeDiff, reduceCtorEq, Nat.reduceSub, Int.reduceToNat] <;> exact rfl) | ((first | apply ow_spec | apply qw_spec); · simp only [push_cast, env, Nat.reduceEqDiff, reduceIte, Nat.reduceAdd, Nat.reduceMul, Nat.reduceLeDiff, reduceCtorEq, Nat.reduceSub, Int.reduceToNat] <;> exact rfl) | refine qw_nil ?_ | refine cw_block ?_ | refine cw_scope ?_ | refine cw_label ?_ | refine cw_skip ?_)
    refine cw_condF (by simp only [push_cast, env, Nat.reduceEqDiff, reduceIte, Nat.reduceAdd, Nat.reduceMul, Nat.reduceLeDiff, reduceCtorEq, Nat.reduceSub, Int.reduceToNat] <;> exact rfl) ?_
    repeat (first | refine cw_seq ?_ | refine cw_region ?_ | refine ow_nil ?_ | ((first | apply ow_cons | apply qw_cons); · simp only [push_cast, env, Nat.reduceEqDiff, reduceIte, Nat.reduceAdd, Nat.reduceMul, Nat.reduceLeDiff, reduceCtorEq, Nat.reduceSub, Int.reduceToNat] <;> exact rfl) | ((first | apply ow_spec | apply qw_spec); · simp only [push_cast, env, Nat.reduceEqDiff, reduceIte, Nat.reduceAdd, Nat.reduceMul, Nat.reduceLeDiff, reduceCtorEq, Nat.reduceSub, Int.reduceToNat] <;> exact rfl) | refine qw_nil ?_ | refine cw_block ?_ | refine cw_scope ?_ | refine cw_label ?_ | refine cw_skip ?_)
    refine ow_appB (h := h2) GB.nil (List.prefix_refl _) (hwR.mono hp2) (by simp only [List.length_nil]; omega) (by simp only [push_cast, env, Nat.reduceEqDiff, reduceIte, Nat.reduceAdd, Nat.reduceMul, Nat.reduceLeDiff, reduceCtorEq, Nat.reduceSub, Int.reduceToNat] <;> exact rfl) rfl (by simp only [push_cast, env, Nat.reduceEqDiff, reduceIte, Nat.reduceAdd, Nat.reduceMul, Nat.reduceLeDiff, reduceCtorEq, Nat.reduceSub, Int.reduceToNat] <;> exact rfl) (by simp only [push_cast, env, Nat.reduceEqDiff, reduceIte, Nat.reduceAdd, Nat.reduceMul, Nat.reduceLeDiff, reduceCtorEq, Nat.reduceSub, Int.reduceToNat] <;> exact rfl) ?_
    intro y1 h3 hp3 hy1
    rw [List.nil_append] at hy1
    repeat (first | refine cw_seq ?_ | refine cw_region ?_ | refine ow_nil ?_ | ((first | apply ow_cons | apply qw_cons); · simp only [push_cast, env, Nat.reduceEqDiff, reduceIte, Nat.reduceAdd, Nat.reduceMul, Nat.reduceLeDiff, reduceCtorEq, Nat.reduceSub, Int.reduceToNat] <;> exact rfl) | ((first | apply ow_spec | apply qw_spec); · simp only [push_cast, env, Nat.reduceEqDiff, reduceIte, Nat.reduceAdd, Nat.reduceMul, Nat.reduceLeDiff, reduceCtorEq, Nat.reduceSub, Int.reduceToNat] <;> exact rfl) | refine qw_nil ?_ | refine cw_block ?_ | refine cw_scope ?_ | refine cw_label ?_ | refine cw_skip ?_)
    refine ow_appB1 (h := h2) (b := b) hy1 hp3 hb (by omega) (by simp only [push_cast, env, Nat.reduceEqDiff, reduceIte, Nat.reduceAdd, Nat.reduceMul, Nat.reduceLeDiff, reduceCtorEq, Nat.reduceSub, Int.reduceToNat] <;> exact rfl) rfl (by simp only [push_cast, env, Nat.reduceEqDiff, reduceIte, Nat.reduceAdd, Nat.reduceMul, Nat.reduceLeDiff, reduceCtorEq, Nat.reduceSub, Int.reduceToNat] <;> exact rfl) rfl ?_
    intro y2 h4 hp4 hy2
    have hlen : (w ++ [b]).length = w.length + 1 := by simp
    obtain ⟨p4, c4, rfl⟩ := hy2.form
    have hbeg := rbegins_fw (N := N) (hr.mono (hp2.trans hp4)) hy2.rdb hnb W (by omega) hN (by
      rw [hlen]
      have := Nat.mul_le_mul (Nat.mul_le_mul (show N ≤ 160 by omega) (show w.length + 1 + 1 ≤ 11 by omega)) (show w.length + 1 + 1 ≤ 11 by omega)
      omega)
    unfold FW at hbeg
    obtain ⟨rr, h5, hcall, ⟨bb, rfl, hbb⟩, hp5⟩ := hbeg
    obtain rfl : bb = s.has b := by rw [Bool.eq_iff_iff, hbb, hs]
    have e1 : IntKind.i64.wrap (b : Int) = (b : Int) := wrap64_id (by omega) (by omega)
    repeat (first | refine cw_seq ?_ | refine cw_region ?_ | refine ow_nil ?_ | ((first | apply ow_cons | apply qw_cons); · simp only [push_cast, env, Nat.reduceEqDiff, reduceIte, Nat.reduceAdd, Nat.reduceMul, Nat.reduceLeDiff, reduceCtorEq, Nat.reduceSub, Int.reduceToNat] <;> exact rfl) | ((first | apply ow_spec | apply qw_spec); · simp only [push_cast, env, Nat.reduceEqDiff, reduceIte, Nat.reduceAdd, Nat.reduceMul, Nat.reduceLeDiff, reduceCtorEq, Nat.reduceSub, Int.reduceToNat] <;> exact rfl) | refine qw_nil ?_ | refine cw_block ?_ | refine cw_scope ?_ | refine cw_label ?_ | refine cw_skip ?_)
    refine cw_weakL [(2, .val (u8 b)), (3, .box [i64 g.nts, i64 g.start, .slice p g.rules.length c]), (7, .box [u64 s.a, u64 s.b, u64 s.c, u64 s.d]), (8, .val (i64 0)), (10, .val (.slice p4 (w ++ [b]).length c4))] (by simp only [push_cast, SubL, fget, Nat.reduceEqDiff, reduceIte]) ?_
    show CW _ _ ⟨_, [], h4⟩ _
    apply cw_ordA (L := [[], [0], [0, 1], [0, 1, 2], [0, 1, 2, 3], [0, 1, 2, 3, 4], [0, 1, 2, 3, 4, 5], [0, 1, 2, 3, 4, 5], [0, 1, 2, 3, 4, 5, 7], [0, 1, 2, 3, 4, 5, 6, 7, 8], [0, 1, 2, 3, 4, 5], [0, 1, 2, 3, 4, 5], [0, 1, 2, 3, 4, 5, 6, 7, 8, 9, 10, 11], [0, 1, 2, 3, 4, 5, 6, 7, 8, 9, 10, 11, 12], [0, 1, 2, 3, 4, 5, 6, 7, 8, 9, 10, 11, 12, 13], [0, 1, 2, 3, 4, 5, 6, 7, 8, 9, 10, 11, 12, 13, 14]]) (act := [12]) (hs := [h5]) (resL := [_, _, _, _, _, _, _, _, _, _, _, _, _, _, _, _]) (frF := [(6, .val (.bool true))])
    case hm => exact mixed
    case hc => kernel_rfl
    case ha => rfl
    case hb => rfl
    case hS =>
      apply StepsA.cons
      · rfl
      · refine ⟨?_, trivial⟩
        exact one_call (fn := Try.f14) (args := []) (cap := []) rfl (by simp only [push_cast, env, Nat.reduceEqDiff, reduceIte, Nat.reduceAdd, Nat.reduceMul, Nat.reduceLeDiff, reduceCtorEq, Nat.reduceSub, Int.reduceToNat] <;> exact rfl) rfl (by simp only [push_cast, env, Nat.reduceEqDiff, reduceIte, Nat.reduceAdd, Nat.reduceMul, Nat.reduceLeDiff, reduceCtorEq, Nat.reduceSub, Int.reduceToNat] <;> exact rfl) (by simp only [push_cast, env, Nat.reduceEqDiff, reduceIte, Nat.reduceAdd, Nat.reduceMul, Nat.reduceLeDiff, reduceCtorEq, Nat.reduceSub, Int.reduceToNat] <;> exact rfl) Try.func14 (by kernel_rfl) (by kernel_rfl) alive7_fw
      · rfl
      repeat (first | exact StepsA.nil _ | (apply StepsA.cons; (· rfl); (· (first | refine ⟨?_, trivial⟩ | refine ⟨?_, ?_, trivial⟩ | refine ⟨?_, ?_, ?_, trivial⟩ | refine ⟨?_, ?_, ?_, ?_, trivial⟩) <;> (first | (apply one_val; (· rfl); (· simp only [push_cast, env, Nat.reduceEqDiff, reduceIte, Nat.reduceAdd, Nat.reduceMul, Nat.reduceLeDiff, reduceCtorEq, Nat.reduceSub, Int.reduceToNat, e1] <;> exact rfl); (· simp only [push_cast, env, Nat.reduceEqDiff, reduceIte, Nat.reduceAdd, Nat.reduceMul, Nat.reduceLeDiff, reduceCtorEq, Nat.reduceSub, Int.reduceToNat, e1] <;> exact rfl)) | (apply one_eph; (· rfl); (· simp only [push_cast, env, Nat.reduceEqDiff, reduceIte, Nat.reduceAdd, Nat.reduceMul, Nat.reduceLeDiff, reduceCtorEq, Nat.reduceSub, Int.reduceToNat, e1] <;> exact rfl); (· rfl); (· simp only [push_cast, env, Nat.reduceEqDiff, reduceIte, Nat.reduceAdd, Nat.reduceMul, Nat.reduceLeDiff, reduceCtorEq, Nat.reduceSub, Int.reduceToNat, e1] <;> exact rfl); (· decide)) | (apply one_bsl; (· rfl); (· simp only [push_cast, env, Nat.reduceEqDiff, reduceIte, Nat.reduceAdd, Nat.reduceMul, Nat.reduceLeDiff, reduceCtorEq, Nat.reduceSub, Int.reduceToNat, e1] <;> exact rfl); (· rfl); (· simp only [push_cast, env, Nat.reduceEqDiff, reduceIte, Nat.reduceAdd, Nat.reduceMul, Nat.reduceLeDiff, reduceCtorEq, Nat.reduceSub, Int.reduceToNat, e1] <;> exact rfl)) | (apply one_box; (· rfl); (· simp only [push_cast, env, Nat.reduceEqDiff, reduceIte, Nat.reduceAdd, Nat.reduceMul, Nat.reduceLeDiff, reduceCtorEq, Nat.reduceSub, Int.reduceToNat, e1] <;> exact rfl); (· rfl); (· simp only [push_cast, env, Nat.reduceEqDiff, reduceIte, Nat.reduceAdd, Nat.reduceMul, Nat.reduceLeDiff, reduceCtorEq, Nat.reduceSub, Int.reduceToNat, e1] <;> exact rfl)) | (apply one_skip; (· rfl); (· simp only [push_cast, env, Nat.reduceEqDiff, reduceIte, Nat.reduceAdd, Nat.reduceMul, Nat.reduceLeDiff, reduceCtorEq, Nat.reduceSub, Int.reduceToNat, e1] <;> exact rfl)))); (· rfl)))
      apply StepsA.cons
      · rfl
      · refine ⟨?_, trivial⟩
        exact one_call (fn := Try.f31) (args := [s.val, i64 b]) (cap := []) rfl (by simp only [push_cast, env, Nat.reduceEqDiff, reduceIte, Nat.reduceAdd, Nat.reduceMul, Nat.reduceLeDiff, reduceCtorEq, Nat.reduceSub, Int.reduceToNat] <;> exact rfl) rfl (by simp only [push_cast, env, Nat.reduceEqDiff, reduceIte, Nat.reduceAdd, Nat.reduceMul, Nat.reduceLeDiff, reduceCtorEq, Nat.reduceSub, Int.reduceToNat] <;> exact rfl) (by simp only [push_cast, env, Nat.reduceEqDiff, reduceIte, Nat.reduceAdd, Nat.reduceMul, Nat.reduceLeDiff, reduceCtorEq, Nat.reduceSub, Int.reduceToNat] <;> exact rfl) Try.func31 (by kernel_rfl) (by kernel_rfl) (has_fw hsw hb)
      · rfl
      repeat (first | exact StepsA.nil _ | (apply StepsA.cons; (· rfl); (· (first | refine ⟨?_, trivial⟩ | refine ⟨?_, ?_, trivial⟩ | refine ⟨?_, ?_, ?_, trivial⟩ | refine ⟨?_, ?_, ?_, ?_, trivial⟩) <;> (first | (apply one_val; (· rfl); (· simp only [push_cast, env, Nat.reduceEqDiff, reduceIte, Nat.reduceAdd, Nat.reduceMul, Nat.reduceLeDiff, reduceCtorEq, Nat.reduceSub, Int.reduceToNat] <;> exact rfl); (· simp only [push_cast, env, Nat.reduceEqDiff, reduceIte, Nat.reduceAdd, Nat.reduceMul, Nat.reduceLeDiff, reduceCtorEq, Nat.reduceSub, Int.reduceToNat] <;> exact rfl)) | (apply one_eph; (· rfl); (· simp only [push_cast, env, Nat.reduceEqDiff, reduceIte, Nat.reduceAdd, Nat.reduceMul, Nat.reduceLeDiff, reduceCtorEq, Nat.reduceSub, Int.reduceToNat] <;> exact rfl); (· rfl); (· simp only [push_cast, env, Nat.reduceEqDiff, reduceIte, Nat.reduceAdd, Nat.reduceMul, Nat.reduceLeDiff, reduceCtorEq, Nat.reduceSub, Int.reduceToNat] <;> exact rfl); (· decide)) | (apply one_bsl; (· rfl); (· simp only [push_cast, env, Nat.reduceEqDiff, reduceIte, Nat.reduceAdd, Nat.reduceMul, Nat.reduceLeDiff, reduceCtorEq, Nat.reduceSub, Int.reduceToNat] <;> exact rfl); (· rfl); (· simp only [push_cast, env, Nat.reduceEqDiff, reduceIte, Nat.reduceAdd, Nat.reduceMul, Nat.reduceLeDiff, reduceCtorEq, Nat.reduceSub, Int.reduceToNat] <;> exact rfl)) | (apply one_box; (· rfl); (· simp only [push_cast, env, Nat.reduceEqDiff, reduceIte, Nat.reduceAdd, Nat.reduceMul, Nat.reduceLeDiff, reduceCtorEq, Nat.reduceSub, Int.reduceToNat] <;> exact rfl); (· rfl); (· simp only [push_cast, env, Nat.reduceEqDiff, reduceIte, Nat.reduceAdd, Nat.reduceMul, Nat.reduceLeDiff, reduceCtorEq, Nat.reduceSub, Int.reduceToNat] <;> exact rfl)) | (apply one_skip; (· rfl); (· simp only [push_cast, env, Nat.reduceEqDiff, reduceIte, Nat.reduceAdd, Nat.reduceMul, Nat.reduceLeDiff, reduceCtorEq, Nat.reduceSub, Int.reduceToNat] <;> exact rfl)))); (· rfl)))
      apply StepsA.cons
      · rfl
      · refine ⟨?_, trivial⟩
        exact one_callE (args := [.agg #[i64 g.nts, i64 g.start, .slice p g.rules.length c], .slice p4 (w ++ [b]).length c4]) (cap := []) (fn := Try.f32) (by simp only [push_cast, env, Nat.reduceEqDiff, reduceIte, Nat.reduceAdd, Nat.reduceMul, Nat.reduceLeDiff, reduceCtorEq, Nat.reduceSub, Int.reduceToNat] <;> exact rfl) rfl (by simp only [push_cast, env, Nat.reduceEqDiff, reduceIte, Nat.reduceAdd, Nat.reduceMul, Nat.reduceLeDiff, reduceCtorEq, Nat.reduceSub, Int.reduceToNat] <;> exact rfl) (by simp only [push_cast, env, Nat.reduceEqDiff, reduceIte, Nat.reduceAdd, Nat.reduceMul, Nat.reduceLeDiff, reduceCtorEq, Nat.reduceSub, Int.reduceToNat] <;> exact rfl) Try.func32 (by kernel_rfl) (by kernel_rfl) hcall
      · rfl
      repeat (first | exact StepsA.nil _ | (apply StepsA.cons; (· rfl); (· (first | refine ⟨?_, trivial⟩ | refine ⟨?_, ?_, trivial⟩ | refine ⟨?_, ?_, ?_, trivial⟩ | refine ⟨?_, ?_, ?_, ?_, trivial⟩) <;> (first | (apply one_val; (· rfl); (· simp only [push_cast, env, Nat.reduceEqDiff, reduceIte, Nat.reduceAdd, Nat.reduceMul, Nat.reduceLeDiff, reduceCtorEq, Nat.reduceSub, Int.reduceToNat] <;> exact rfl); (· simp only [push_cast, env, Nat.reduceEqDiff, reduceIte, Nat.reduceAdd, Nat.reduceMul, Nat.reduceLeDiff, reduceCtorEq, Nat.reduceSub, Int.reduceToNat] <;> exact rfl)) | (apply one_eph; (· rfl); (· simp only [push_cast, env, Nat.reduceEqDiff, reduceIte, Nat.reduceAdd, Nat.reduceMul, Nat.reduceLeDiff, reduceCtorEq, Nat.reduceSub, Int.reduceToNat] <;> exact rfl); (· rfl); (· simp only [push_cast, env, Nat.reduceEqDiff, reduceIte, Nat.reduceAdd, Nat.reduceMul, Nat.reduceLeDiff, reduceCtorEq, Nat.reduceSub, Int.reduceToNat] <;> exact rfl); (· decide)) | (apply one_bsl; (· rfl); (· simp only [push_cast, env, Nat.reduceEqDiff, reduceIte, Nat.reduceAdd, Nat.reduceMul, Nat.reduceLeDiff, reduceCtorEq, Nat.reduceSub, Int.reduceToNat] <;> exact rfl); (· rfl); (· simp only [push_cast, env, Nat.reduceEqDiff, reduceIte, Nat.reduceAdd, Nat.reduceMul, Nat.reduceLeDiff, reduceCtorEq, Nat.reduceSub, Int.reduceToNat] <;> exact rfl)) | (apply one_box; (· rfl); (· simp only [push_cast, env, Nat.reduceEqDiff, reduceIte, Nat.reduceAdd, Nat.reduceMul, Nat.reduceLeDiff, reduceCtorEq, Nat.reduceSub, Int.reduceToNat] <;> exact rfl); (· rfl); (· simp only [push_cast, env, Nat.reduceEqDiff, reduceIte, Nat.reduceAdd, Nat.reduceMul, Nat.reduceLeDiff, reduceCtorEq, Nat.reduceSub, Int.reduceToNat] <;> exact rfl)) | (apply one_skip; (· rfl); (· simp only [push_cast, env, Nat.reduceEqDiff, reduceIte, Nat.reduceAdd, Nat.reduceMul, Nat.reduceLeDiff, reduceCtorEq, Nat.reduceSub, Int.reduceToNat] <;> exact rfl)))); (· rfl)))
    case ht => rfl
    case hF => repeat (first | exact trivial | (refine ⟨.inl ⟨by decide, rfl⟩, ?_⟩) | (refine ⟨.inr ⟨rfl, by simp⟩, ?_⟩))
    show CW _ _ _ _
    repeat (first | refine cw_seq ?_ | refine cw_region ?_ | refine ow_nil ?_ | ((first | apply ow_cons | apply qw_cons); · simp only [push_cast, env, Nat.reduceEqDiff, reduceIte, Nat.reduceAdd, Nat.reduceMul, Nat.reduceLeDiff, reduceCtorEq, Nat.reduceSub, Int.reduceToNat] <;> exact rfl) | ((first | apply ow_spec | apply qw_spec); · simp only [push_cast, env, Nat.reduceEqDiff, reduceIte, Nat.reduceAdd, Nat.reduceMul, Nat.reduceLeDiff, reduceCtorEq, Nat.reduceSub, Int.reduceToNat] <;> exact rfl) | refine qw_nil ?_ | refine cw_block ?_ | refine cw_scope ?_ | refine cw_label ?_ | refine cw_skip ?_)
    refine cw_ret ?_
    exact ⟨_, (by simp only [push_cast, env, Nat.reduceEqDiff, reduceIte, Nat.reduceAdd, Nat.reduceMul, Nat.reduceLeDiff, reduceCtorEq, Nat.reduceSub, Int.reduceToNat] <;> exact rfl), rfl⟩
end Go.Proofs.Ytafncpgiibikcaa
