/- Several texts, one behind the other; each begins with a remark of its own. -/
import Derived.Test.YtnlchlnkibpkaaaZG1
import Derived.Test.YtnlchlnkibpkaaaZFa
import Derived.Test.YtnlchlnkibpkaaaZTy
import Derived.Test.YtnlchlnkibpkaaaRows
import Derived.WalkKit
import Derived.ProofKit
import Derived.OpenShut
import Derived.ChangeOld
import Derived.Below
import Derived.Carry
import Derived.SizedLaws
/- Sets of bytes: Union of the program; Has, With, Op of the reference. -/
namespace Go.Proofs.Ytnlchlnkibpkaaa
set_option linter.unusedSimpArgs false
set_option linter.unusedVariables false
open Go.RowKit Am Ty

abbrev BSet.val (s : BSet) : Value := .agg #[u64 s.a, u64 s.b, u64 s.c, u64 s.d]
def ub (s t : BSet) : Nat → List Value
  | 0 => [u64 s.a, u64 s.b, u64 s.c, u64 s.d]
  | 1 => [u64 (wor s.a t.a), u64 s.b, u64 s.c, u64 s.d]
  | 2 => [u64 (wor s.a t.a), u64 (wor s.b t.b), u64 s.c, u64 s.d]
  | 3 => [u64 (wor s.a t.a), u64 (wor s.b t.b), u64 (wor s.c t.c), u64 s.d]
  | _ => [u64 (wor s.a t.a), u64 (wor s.b t.b), u64 (wor s.c t.c), u64 (wor s.d t.d)]
theorem union_fw {h : Heap} {s t : BSet} (hs : SetWf s) (ht : SetWf t) : FW env 39 [s.val, t.val] h fun r h' => r = (s.union t).val ∧ h' = h := by
  have w0 : IntKind.u64.wrap ((BitVec.ofInt IntKind.u64.bits s.a ||| BitVec.ofInt IntKind.u64.bits t.a).toNat) = wor s.a t.a := wor_op hs.a ht.a
  have w1 : IntKind.u64.wrap ((BitVec.ofInt IntKind.u64.bits s.b ||| BitVec.ofInt IntKind.u64.bits t.b).toNat) = wor s.b t.b := wor_op hs.b ht.b
  have w2 : IntKind.u64.wrap ((BitVec.ofInt IntKind.u64.bits s.c ||| BitVec.ofInt IntKind.u64.bits t.c).toNat) = wor s.c t.c := wor_op hs.c ht.c
  have w3 : IntKind.u64.wrap ((BitVec.ofInt IntKind.u64.bits s.d ||| BitVec.ofInt IntKind.u64.bits t.d).toNat) = wor s.d t.d := wor_op hs.d ht.d
  refine fw_enter (fn := Try.f39) Try.func39 rfl (by kernel_rfl) (by simp [Try.ntmps39]) ?_; simp only [push_cast]
  repeat (first | refine cw_seq ?_ | refine cw_region ?_ | refine ow_nil ?_ | ((first | apply ow_cons | apply qw_cons); · simp only [push_cast, env, Nat.reduceEqDiff, reduceIte, Nat.reduceAdd, Nat.reduceMul, Nat.reduceLeDiff, reduceCtorEq, Nat.reduceSub, Int.reduceToNat] <;> exact rfl) | ((first | apply ow_spec | apply qw_spec); · simp only [push_cast, env, Nat.reduceEqDiff, reduceIte, Nat.reduceAdd, Nat.reduceMul, Nat.reduceLeDiff, reduceCtorEq, Nat.reduceSub, Int.reduceToNat] <;> exact rfl) | refine qw_nil ?_ | refine cw_block ?_ | refine cw_scope ?_ | refine cw_label ?_ | refine cw_skip ?_)
  refine cw_for 4 (fun k => [(2, .box (ub s t k)), (3, .box [u64 t.a, u64 t.b, u64 t.c, u64 t.d]), (4, .box [u64 0, u64 0, u64 0, u64 0]), (6, .val (i64 k))]) (fun _ => h) (fun _ => True) ⟨rfl, rfl, rfl, rfl, trivial⟩ rfl trivial ?_
  intro k hk _
  rcases (by omega : k = 0 ∨ k = 1 ∨ k = 2 ∨ k = 3 ∨ k = 4) with rfl | rfl | rfl | rfl | rfl
  · show CW _ _ ⟨[(2, .box [u64 s.a, u64 s.b, u64 s.c, u64 s.d]), (3, .box [u64 t.a, u64 t.b, u64 t.c, u64 t.d]), (4, .box [u64 0, u64 0, u64 0, u64 0]), (6, .val (i64 0))], [], h⟩ _
    have e1 : IntKind.i64.wrap (0 + 1) = 1 := by decide
    repeat (first | refine cw_seq ?_ | refine cw_region ?_ | refine ow_nil ?_ | ((first | apply ow_cons | apply qw_cons); · simp only [push_cast, env, Nat.reduceEqDiff, reduceIte, Nat.reduceAdd, Nat.reduceMul, Nat.reduceLeDiff, reduceCtorEq, Nat.reduceSub, Int.reduceToNat] <;> exact rfl) | ((first | apply ow_spec | apply qw_spec); · simp only [push_cast, env, Nat.reduceEqDiff, reduceIte, Nat.reduceAdd, Nat.reduceMul, Nat.reduceLeDiff, reduceCtorEq, Nat.reduceSub, Int.reduceToNat] <;> exact rfl) | refine qw_nil ?_ | refine cw_block ?_ | refine cw_scope ?_ | refine cw_label ?_ | refine cw_skip ?_)
    refine cw_condT (by simp only [push_cast, env, Nat.reduceEqDiff, reduceIte, Nat.reduceAdd, Nat.reduceMul, Nat.reduceLeDiff, reduceCtorEq, Nat.reduceSub, Int.reduceToNat] <;> exact rfl) ?_
    repeat (first | refine cw_seq ?_ | refine cw_region ?_ | refine ow_nil ?_ | ((first | apply ow_cons | apply qw_cons); · simp only [push_cast, env, Nat.reduceEqDiff, reduceIte, Nat.reduceAdd, Nat.reduceMul, Nat.reduceLeDiff, reduceCtorEq, Nat.reduceSub, Int.reduceToNat] <;> exact rfl) | ((first | apply ow_spec | apply qw_spec); · simp only [push_cast, env, Nat.reduceEqDiff, reduceIte, Nat.reduceAdd, Nat.reduceMul, Nat.reduceLeDiff, reduceCtorEq, Nat.reduceSub, Int.reduceToNat] <;> exact rfl) | refine qw_nil ?_ | refine cw_block ?_ | refine cw_scope ?_ | refine cw_label ?_ | refine cw_skip ?_)
    refine cw_regionD 8 mixed (by kernel_rfl) ?_
    repeat (first | refine cw_seq ?_ | refine cw_region ?_ | refine ow_nil ?_ | ((first | apply ow_cons | apply qw_cons); · simp only [push_cast, env, Nat.reduceEqDiff, reduceIte, Nat.reduceAdd, Nat.reduceMul, Nat.reduceLeDiff, reduceCtorEq, Nat.reduceSub, Int.reduceToNat, w0, e1, Int.reduceToNat] <;> exact rfl) | ((first | apply ow_spec | apply qw_spec); · simp only [push_cast, env, Nat.reduceEqDiff, reduceIte, Nat.reduceAdd, Nat.reduceMul, Nat.reduceLeDiff, reduceCtorEq, Nat.reduceSub, Int.reduceToNat, w0, e1, Int.reduceToNat] <;> exact rfl) | refine qw_nil ?_ | refine cw_block ?_ | refine cw_scope ?_ | refine cw_label ?_ | refine cw_skip ?_)
    exact ⟨by decide, ⟨rfl, rfl, rfl, rfl, trivial⟩, rfl, trivial⟩
  · show CW _ _ ⟨[(2, .box [u64 (wor s.a t.a), u64 s.b, u64 s.c, u64 s.d]), (3, .box [u64 t.a, u64 t.b, u64 t.c, u64 t.d]), (4, .box [u64 0, u64 0, u64 0, u64 0]), (6, .val (i64 1))], [], h⟩ _
    have e1 : IntKind.i64.wrap (1 + 1) = 2 := by decide
    repeat (first | refine cw_seq ?_ | refine cw_region ?_ | refine ow_nil ?_ | ((first | apply ow_cons | apply qw_cons); · simp only [push_cast, env, Nat.reduceEqDiff, reduceIte, Nat.reduceAdd, Nat.reduceMul, Nat.reduceLeDiff, reduceCtorEq, Nat.reduceSub, Int.reduceToNat] <;> exact rfl) | ((first | apply ow_spec | apply qw_spec); · simp only [push_cast, env, Nat.reduceEqDiff, reduceIte, Nat.reduceAdd, Nat.reduceMul, Nat.reduceLeDiff, reduceCtorEq, Nat.reduceSub, Int.reduceToNat] <;> exact rfl) | refine qw_nil ?_ | refine cw_block ?_ | refine cw_scope ?_ | refine cw_label ?_ | refine cw_skip ?_)
    refine cw_condT (by simp only [push_cast, env, Nat.reduceEqDiff, reduceIte, Nat.reduceAdd, Nat.reduceMul, Nat.reduceLeDiff, reduceCtorEq, Nat.reduceSub, Int.reduceToNat] <;> exact rfl) ?_
    repeat (first | refine cw_seq ?_ | refine cw_region ?_ | refine ow_nil ?_ | ((first | apply ow_cons | apply qw_cons); · simp only [push_cast, env, Nat.reduceEqDiff, reduceIte, Nat.reduceAdd, Nat.reduceMul, Nat.reduceLeDiff, reduceCtorEq, Nat.reduceSub, Int.reduceToNat] <;> exact rfl) | ((first | apply ow_spec | apply qw_spec); · simp only [push_cast, env, Nat.reduceEqDiff, reduceIte, Nat.reduceAdd, Nat.reduceMul, Nat.reduceLeDiff, reduceCtorEq, Nat.reduceSub, Int.reduceToNat] <;> exact rfl) | refine qw_nil ?_ | refine cw_block ?_ | refine cw_scope ?_ | refine cw_label ?_ | refine cw_skip ?_)
    refine cw_regionD 8 mixed (by kernel_rfl) ?_
    repeat (first | refine cw_seq ?_ | refine cw_region ?_ | refine ow_nil ?_ | ((first | apply ow_cons | apply qw_cons); · simp only [push_cast, env, Nat.reduceEqDiff, reduceIte, Nat.reduceAdd, Nat.reduceMul, Nat.reduceLeDiff, reduceCtorEq, Nat.reduceSub, Int.reduceToNat, w1, e1, Int.reduceToNat] <;> exact rfl) | ((first | apply ow_spec | apply qw_spec); · simp only [push_cast, env, Nat.reduceEqDiff, reduceIte, Nat.reduceAdd, Nat.reduceMul, Nat.reduceLeDiff, reduceCtorEq, Nat.reduceSub, Int.reduceToNat, w1, e1, Int.reduceToNat] <;> exact rfl) | refine qw_nil ?_ | refine cw_block ?_ | refine cw_scope ?_ | refine cw_label ?_ | refine cw_skip ?_)
    exact ⟨by decide, ⟨rfl, rfl, rfl, rfl, trivial⟩, rfl, trivial⟩
  · show CW _ _ ⟨[(2, .box [u64 (wor s.a t.a), u64 (wor s.b t.b), u64 s.c, u64 s.d]), (3, .box [u64 t.a, u64 t.b, u64 t.c, u64 t.d]), (4, .box [u64 0, u64 0, u64 0, u64 0]), (6, .val (i64 2))], [], h⟩ _
    have e1 : IntKind.i64.wrap (2 + 1) = 3 := by decide
    repeat (first | refine cw_seq ?_ | refine cw_region ?_ | refine ow_nil ?_ | ((first | apply ow_cons | apply qw_cons); · simp only [push_cast, env, Nat.reduceEqDiff, reduceIte, Nat.reduceAdd, Nat.reduceMul, Nat.reduceLeDiff, reduceCtorEq, Nat.reduceSub, Int.reduceToNat] <;> exact rfl) | ((first | apply ow_spec | apply qw_spec); · simp only [push_cast, env, Nat.reduceEqDiff, reduceIte, Nat.reduceAdd, Nat.reduceMul, Nat.reduceLeDiff, reduceCtorEq, Nat.reduceSub, Int.reduceToNat] <;> exact rfl) | refine qw_nil ?_ | refine cw_block ?_ | refine cw_scope ?_ | refine cw_label ?_ | refine cw_skip ?_)
    refine cw_condT (by simp only [push_cast, env, Nat.reduceEqDiff, reduceIte, Nat.reduceAdd, Nat.reduceMul, Nat.reduceLeDiff, reduceCtorEq, Nat.reduceSub, Int.reduceToNat] <;> exact rfl) ?_
    repeat (first | refine cw_seq ?_ | refine cw_region ?_ | refine ow_nil ?_ | ((first | apply ow_cons | apply qw_cons); · simp only [push_cast, env, Nat.reduceEqDiff, reduceIte, Nat.reduceAdd, Nat.reduceMul, Nat.reduceLeDiff, reduceCtorEq, Nat.reduceSub, Int.reduceToNat] <;> exact rfl) | ((first | apply ow_spec | apply qw_spec); · simp only [push_cast, env, Nat.reduceEqDiff, reduceIte, Nat.reduceAdd, Nat.reduceMul, Nat.reduceLeDiff, reduceCtorEq, Nat.reduceSub, Int.reduceToNat] <;> exact rfl) | refine qw_nil ?_ | refine cw_block ?_ | refine cw_scope ?_ | refine cw_label ?_ | refine cw_skip ?_)
    refine cw_regionD 8 mixed (by kernel_rfl) ?_
    repeat (first | refine cw_seq ?_ | refine cw_region ?_ | refine ow_nil ?_ | ((first | apply ow_cons | apply qw_cons); · simp only [push_cast, env, Nat.reduceEqDiff, reduceIte, Nat.reduceAdd, Nat.reduceMul, Nat.reduceLeDiff, reduceCtorEq, Nat.reduceSub, Int.reduceToNat, w2, e1, Int.reduceToNat] <;> exact rfl) | ((first | apply ow_spec | apply qw_spec); · simp only [push_cast, env, Nat.reduceEqDiff, reduceIte, Nat.reduceAdd, Nat.reduceMul, Nat.reduceLeDiff, reduceCtorEq, Nat.reduceSub, Int.reduceToNat, w2, e1, Int.reduceToNat] <;> exact rfl) | refine qw_nil ?_ | refine cw_block ?_ | refine cw_scope ?_ | refine cw_label ?_ | refine cw_skip ?_)
    exact ⟨by decide, ⟨rfl, rfl, rfl, rfl, trivial⟩, rfl, trivial⟩
  · show CW _ _ ⟨[(2, .box [u64 (wor s.a t.a), u64 (wor s.b t.b), u64 (wor s.c t.c), u64 s.d]), (3, .box [u64 t.a, u64 t.b, u64 t.c, u64 t.d]), (4, .box [u64 0, u64 0, u64 0, u64 0]), (6, .val (i64 3))], [], h⟩ _
    have e1 : IntKind.i64.wrap (3 + 1) = 4 := by decide
    repeat (first | refine cw_seq ?_ | refine cw_region ?_ | refine ow_nil ?_ | ((first | apply ow_cons | apply qw_cons); · simp only [push_cast, env, Nat.reduceEqDiff, reduceIte, Nat.reduceAdd, Nat.reduceMul, Nat.reduceLeDiff, reduceCtorEq, Nat.reduceSub, Int.reduceToNat] <;> exact rfl) | ((first | apply ow_spec | apply qw_spec); · simp only [push_cast, env, Nat.reduceEqDiff, reduceIte, Nat.reduceAdd, Nat.reduceMul, Nat.reduceLeDiff, reduceCtorEq, Nat.reduceSub, Int.reduceToNat] <;> exact rfl) | refine qw_nil ?_ | refine cw_block ?_ | refine cw_scope ?_ | refine cw_label ?_ | refine cw_skip ?_)
    refine cw_condT (by simp only [push_cast, env, Nat.reduceEqDiff, reduceIte, Nat.reduceAdd, Nat.reduceMul, Nat.reduceLeDiff, reduceCtorEq, Nat.reduceSub, Int.reduceToNat] <;> exact rfl) ?_
    repeat (first | refine cw_seq ?_ | refine cw_region ?_ | refine ow_nil ?_ | ((first | apply ow_cons | apply qw_cons); · simp only [push_cast, env, Nat.reduceEqDiff, reduceIte, Nat.reduceAdd, Nat.reduceMul, Nat.reduceLeDiff, reduceCtorEq, Nat.reduceSub, Int.reduceToNat] <;> exact rfl) | ((first | apply ow_spec | apply qw_spec); · simp only [push_cast, env, Nat.reduceEqDiff, reduceIte, Nat.reduceAdd, Nat.reduceMul, Nat.reduceLeDiff, reduceCtorEq, Nat.reduceSub, Int.reduceToNat] <;> exact rfl) | refine qw_nil ?_ | refine cw_block ?_ | refine cw_scope ?_ | refine cw_label ?_ | refine cw_skip ?_)
    refine cw_regionD 8 mixed (by kernel_rfl) ?_
    repeat (first | refine cw_seq ?_ | refine cw_region ?_ | refine ow_nil ?_ | ((first | apply ow_cons | apply qw_cons); · simp only [push_cast, env, Nat.reduceEqDiff, reduceIte, Nat.reduceAdd, Nat.reduceMul, Nat.reduceLeDiff, reduceCtorEq, Nat.reduceSub, Int.reduceToNat, w3, e1, Int.reduceToNat] <;> exact rfl) | ((first | apply ow_spec | apply qw_spec); · simp only [push_cast, env, Nat.reduceEqDiff, reduceIte, Nat.reduceAdd, Nat.reduceMul, Nat.reduceLeDiff, reduceCtorEq, Nat.reduceSub, Int.reduceToNat, w3, e1, Int.reduceToNat] <;> exact rfl) | refine qw_nil ?_ | refine cw_block ?_ | refine cw_scope ?_ | refine cw_label ?_ | refine cw_skip ?_)
    exact ⟨by decide, ⟨rfl, rfl, rfl, rfl, trivial⟩, rfl, trivial⟩
  · show CW _ _ ⟨[(2, .box [u64 (wor s.a t.a), u64 (wor s.b t.b), u64 (wor s.c t.c), u64 (wor s.d t.d)]), (3, .box [u64 t.a, u64 t.b, u64 t.c, u64 t.d]), (4, .box [u64 0, u64 0, u64 0, u64 0]), (6, .val (i64 4))], [], h⟩ _
    repeat (first | refine cw_seq ?_ | refine cw_region ?_ | refine ow_nil ?_ | ((first | apply ow_cons | apply qw_cons); · simp only [push_cast, env, Nat.reduceEqDiff, reduceIte, Nat.reduceAdd, Nat.reduceMul, Nat.reduceLeDiff, reduceCtorEq, Nat.reduceSub, Int.reduceToNat] <;> exact rfl) | ((first | apply ow_spec | apply qw_spec); · simp only [push_cast, env, Nat.reduceEqDiff, reduceIte, Nat.reduceAdd, Nat.reduceMul, Nat.reduceLeDiff, reduceCtorEq, Nat.reduceSub, Int.reduceToNat] <;> exact rfl) | refine qw_nil ?_ | refine cw_block ?_ | refine cw_scope ?_ | refine cw_label ?_ | refine cw_skip ?_)
    refine cw_condF (by simp only [push_cast, env, Nat.reduceEqDiff, reduceIte, Nat.reduceAdd, Nat.reduceMul, Nat.reduceLeDiff, reduceCtorEq, Nat.reduceSub, Int.reduceToNat] <;> exact rfl) ?_
    refine cw_exit ?_
    show CW _ _ _ _
    repeat (first | refine cw_seq ?_ | refine cw_region ?_ | refine ow_nil ?_ | ((first | apply ow_cons | apply qw_cons); · simp only [push_cast, env, Nat.reduceEqDiff, reduceIte, Nat.reduceAdd, Nat.reduceMul, Nat.reduceLeDiff, reduceCtorEq, Nat.reduceSub, Int.reduceToNat] <;> exact rfl) | ((first | apply ow_spec | apply qw_spec); · simp only [push_cast, env, Nat.reduceEqDiff, reduceIte, Nat.reduceAdd, Nat.reduceMul, Nat.reduceLeDiff, reduceCtorEq, Nat.reduceSub, Int.reduceToNat] <;> exact rfl) | refine qw_nil ?_ | refine cw_block ?_ | refine cw_scope ?_ | refine cw_label ?_ | refine cw_skip ?_)
    refine cw_ret ?_
    refine ⟨_, (by simp only [push_cast, env, Nat.reduceEqDiff, reduceIte, Nat.reduceAdd, Nat.reduceMul, Nat.reduceLeDiff, reduceCtorEq, Nat.reduceSub, Int.reduceToNat] <;> exact rfl), ?_, rfl⟩
    rfl
theorem div_pow {w : Int} (hw : WWf w) (j : Nat) : 0 ≤ w / 2 ^ j ∧ w / 2 ^ j < 18446744073709551616 := by
  obtain ⟨x, rfl⟩ : ∃ x : Nat, w = x := ⟨w.toNat, by have := hw.1; omega⟩
  have e : (x : Int) / 2 ^ j = ((x / 2 ^ j : Nat) : Int) := by simp
  have h1 : x / 2 ^ j ≤ x := Nat.div_le_self _ _
  have := hw.2
  rw [e]
  generalize x / 2 ^ j = q at h1 ⊢
  omega
theorem half_step {w : Int} (hw : WWf w) (j : Nat) : IntKind.u64.wrap ((w / 2 ^ j).tdiv 2) = w / 2 ^ (j + 1) := by
  have h := div_pow hw j
  have h2 := div_pow hw (j + 1)
  rw [Int.tdiv_eq_ediv_of_nonneg h.1, Int.ediv_ediv_of_nonneg (Int.pow_nonneg (by decide)), ← Int.pow_succ]
  exact wrap_u64 h2
set_option maxHeartbeats 1000000 in
theorem has_fw {h : Heap} {s : BSet} {n : Nat} (hs : SetWf s) (hn : n < 256) : FW env 52 [s.val, i64 n] h fun r h' => r = .bool (s.has n) ∧ h' = h := by
  have d1 : decide ((n : Int) < 0) = false := decide_eq_false (by omega)
  have d2 : decide (255 < (n : Int)) = false := decide_eq_false (by omega)
  have q1 : IntKind.i64.wrap ((n : Int).tdiv 64) = (n : Int) / 64 := by
    rw [Int.tdiv_eq_ediv_of_nonneg (by omega)]
    exact wrap64_id (by omega) (by omega)
  have q2 : (n : Int).tmod 64 = (n : Int) % 64 := Int.tmod_eq_emod_of_nonneg (by omega)
  have ww := hs.word (n / 64)
  refine fw_enter (fn := Try.f52) Try.func52 rfl (by kernel_rfl) (by simp [Try.ntmps52]) ?_; simp only [push_cast]
  repeat (first | refine cw_seq ?_ | refine cw_region ?_ | refine ow_nil ?_ | ((first | apply ow_cons | apply qw_cons); · simp only [push_cast, env, Nat.reduceEqDiff, reduceIte, Nat.reduceAdd, Nat.reduceMul, Nat.reduceLeDiff, reduceCtorEq, Nat.reduceSub, Int.reduceToNat, d1, d2] <;> exact rfl) | ((first | apply ow_spec | apply qw_spec); · simp only [push_cast, env, Nat.reduceEqDiff, reduceIte, Nat.reduceAdd, Nat.reduceMul, Nat.reduceLeDiff, reduceCtorEq, Nat.reduceSub, Int.reduceToNat, d1, d2] <;> exact rfl) | refine qw_nil ?_ | refine cw_block ?_ | refine cw_scope ?_ | refine cw_label ?_ | refine cw_skip ?_)
  refine cw_condF (by simp only [push_cast, env, Nat.reduceEqDiff, reduceIte, Nat.reduceAdd, Nat.reduceMul, Nat.reduceLeDiff, reduceCtorEq, Nat.reduceSub, Int.reduceToNat, d1, d2] <;> exact rfl) ?_
  repeat (first | refine cw_seq ?_ | refine cw_region ?_ | refine ow_nil ?_ | ((first | apply ow_cons | apply qw_cons); · simp only [push_cast, env, Nat.reduceEqDiff, reduceIte, Nat.reduceAdd, Nat.reduceMul, Nat.reduceLeDiff, reduceCtorEq, Nat.reduceSub, Int.reduceToNat, q1, Int.reduceEq, Int.reduceLT, Int.reduceLE, Int.reduceToNat] <;> exact rfl) | ((first | apply ow_spec | apply qw_spec); · simp only [push_cast, env, Nat.reduceEqDiff, reduceIte, Nat.reduceAdd, Nat.reduceMul, Nat.reduceLeDiff, reduceCtorEq, Nat.reduceSub, Int.reduceToNat, q1, Int.reduceEq, Int.reduceLT, Int.reduceLE, Int.reduceToNat] <;> exact rfl) | refine qw_nil ?_ | refine cw_block ?_ | refine cw_scope ?_ | refine cw_label ?_ | refine cw_skip ?_)
  refine CW.mono (Q := fun e s' => e = .normal ∧ s'.h = h ∧ SubL [(1, .val (i64 n)), (5, .val (u64 (s.word (n / 64))))] s'.fr) ?_ ?_
  · rcases (by omega : n / 64 = 0 ∨ n / 64 = 1 ∨ n / 64 = 2 ∨ n / 64 = 3) with e | e | e | e
    all_goals rw [e]
    · refine cw_condF (by simp [ev, fget]; omega) ?_
      repeat (first | refine cw_seq ?_ | refine cw_region ?_ | refine ow_nil ?_ | ((first | apply ow_cons | apply qw_cons); · simp only [push_cast, env, Nat.reduceEqDiff, reduceIte, Nat.reduceAdd, Nat.reduceMul, Nat.reduceLeDiff, reduceCtorEq, Nat.reduceSub, Int.reduceToNat, e] <;> exact rfl) | ((first | apply ow_spec | apply qw_spec); · simp only [push_cast, env, Nat.reduceEqDiff, reduceIte, Nat.reduceAdd, Nat.reduceMul, Nat.reduceLeDiff, reduceCtorEq, Nat.reduceSub, Int.reduceToNat, e] <;> exact rfl) | refine qw_nil ?_ | refine cw_block ?_ | refine cw_scope ?_ | refine cw_label ?_ | refine cw_skip ?_)
      refine cw_condF (by simp [ev, fget]; omega) ?_
      repeat (first | refine cw_seq ?_ | refine cw_region ?_ | refine ow_nil ?_ | ((first | apply ow_cons | apply qw_cons); · simp only [push_cast, env, Nat.reduceEqDiff, reduceIte, Nat.reduceAdd, Nat.reduceMul, Nat.reduceLeDiff, reduceCtorEq, Nat.reduceSub, Int.reduceToNat, e] <;> exact rfl) | ((first | apply ow_spec | apply qw_spec); · simp only [push_cast, env, Nat.reduceEqDiff, reduceIte, Nat.reduceAdd, Nat.reduceMul, Nat.reduceLeDiff, reduceCtorEq, Nat.reduceSub, Int.reduceToNat, e] <;> exact rfl) | refine qw_nil ?_ | refine cw_block ?_ | refine cw_scope ?_ | refine cw_label ?_ | refine cw_skip ?_)
      refine cw_condF (by simp [ev, fget]; omega) ?_
      repeat (first | refine cw_seq ?_ | refine cw_region ?_ | refine ow_nil ?_ | ((first | apply ow_cons | apply qw_cons); · simp only [push_cast, env, Nat.reduceEqDiff, reduceIte, Nat.reduceAdd, Nat.reduceMul, Nat.reduceLeDiff, reduceCtorEq, Nat.reduceSub, Int.reduceToNat] <;> exact rfl) | ((first | apply ow_spec | apply qw_spec); · simp only [push_cast, env, Nat.reduceEqDiff, reduceIte, Nat.reduceAdd, Nat.reduceMul, Nat.reduceLeDiff, reduceCtorEq, Nat.reduceSub, Int.reduceToNat] <;> exact rfl) | refine qw_nil ?_ | refine cw_block ?_ | refine cw_scope ?_ | refine cw_label ?_ | refine cw_skip ?_)
      exact ⟨rfl, rfl, (by simp only [push_cast, SubL, fget, Nat.reduceEqDiff, reduceIte, BSet.word])⟩
    · refine cw_condT (by simp [ev, fget]; omega) ?_
      repeat (first | refine cw_seq ?_ | refine cw_region ?_ | refine ow_nil ?_ | ((first | apply ow_cons | apply qw_cons); · simp only [push_cast, env, Nat.reduceEqDiff, reduceIte, Nat.reduceAdd, Nat.reduceMul, Nat.reduceLeDiff, reduceCtorEq, Nat.reduceSub, Int.reduceToNat, e] <;> exact rfl) | ((first | apply ow_spec | apply qw_spec); · simp only [push_cast, env, Nat.reduceEqDiff, reduceIte, Nat.reduceAdd, Nat.reduceMul, Nat.reduceLeDiff, reduceCtorEq, Nat.reduceSub, Int.reduceToNat, e] <;> exact rfl) | refine qw_nil ?_ | refine cw_block ?_ | refine cw_scope ?_ | refine cw_label ?_ | refine cw_skip ?_)
      exact ⟨rfl, rfl, (by simp only [push_cast, SubL, fget, Nat.reduceEqDiff, reduceIte, BSet.word])⟩
    · refine cw_condF (by simp [ev, fget]; omega) ?_
      repeat (first | refine cw_seq ?_ | refine cw_region ?_ | refine ow_nil ?_ | ((first | apply ow_cons | apply qw_cons); · simp only [push_cast, env, Nat.reduceEqDiff, reduceIte, Nat.reduceAdd, Nat.reduceMul, Nat.reduceLeDiff, reduceCtorEq, Nat.reduceSub, Int.reduceToNat, e] <;> exact rfl) | ((first | apply ow_spec | apply qw_spec); · simp only [push_cast, env, Nat.reduceEqDiff, reduceIte, Nat.reduceAdd, Nat.reduceMul, Nat.reduceLeDiff, reduceCtorEq, Nat.reduceSub, Int.reduceToNat, e] <;> exact rfl) | refine qw_nil ?_ | refine cw_block ?_ | refine cw_scope ?_ | refine cw_label ?_ | refine cw_skip ?_)
      refine cw_condT (by simp [ev, fget]; omega) ?_
      repeat (first | refine cw_seq ?_ | refine cw_region ?_ | refine ow_nil ?_ | ((first | apply ow_cons | apply qw_cons); · simp only [push_cast, env, Nat.reduceEqDiff, reduceIte, Nat.reduceAdd, Nat.reduceMul, Nat.reduceLeDiff, reduceCtorEq, Nat.reduceSub, Int.reduceToNat, e] <;> exact rfl) | ((first | apply ow_spec | apply qw_spec); · simp only [push_cast, env, Nat.reduceEqDiff, reduceIte, Nat.reduceAdd, Nat.reduceMul, Nat.reduceLeDiff, reduceCtorEq, Nat.reduceSub, Int.reduceToNat, e] <;> exact rfl) | refine qw_nil ?_ | refine cw_block ?_ | refine cw_scope ?_ | refine cw_label ?_ | refine cw_skip ?_)
      exact ⟨rfl, rfl, (by simp only [push_cast, SubL, fget, Nat.reduceEqDiff, reduceIte, BSet.word])⟩
    · refine cw_condF (by simp [ev, fget]; omega) ?_
      repeat (first | refine cw_seq ?_ | refine cw_region ?_ | refine ow_nil ?_ | ((first | apply ow_cons | apply qw_cons); · simp only [push_cast, env, Nat.reduceEqDiff, reduceIte, Nat.reduceAdd, Nat.reduceMul, Nat.reduceLeDiff, reduceCtorEq, Nat.reduceSub, Int.reduceToNat, e] <;> exact rfl) | ((first | apply ow_spec | apply qw_spec); · simp only [push_cast, env, Nat.reduceEqDiff, reduceIte, Nat.reduceAdd, Nat.reduceMul, Nat.reduceLeDiff, reduceCtorEq, Nat.reduceSub, Int.reduceToNat, e] <;> exact rfl) | refine qw_nil ?_ | refine cw_block ?_ | refine cw_scope ?_ | refine cw_label ?_ | refine cw_skip ?_)
      refine cw_condF (by simp [ev, fget]; omega) ?_
      repeat (first | refine cw_seq ?_ | refine cw_region ?_ | refine ow_nil ?_ | ((first | apply ow_cons | apply qw_cons); · simp only [push_cast, env, Nat.reduceEqDiff, reduceIte, Nat.reduceAdd, Nat.reduceMul, Nat.reduceLeDiff, reduceCtorEq, Nat.reduceSub, Int.reduceToNat, e] <;> exact rfl) | ((first | apply ow_spec | apply qw_spec); · simp only [push_cast, env, Nat.reduceEqDiff, reduceIte, Nat.reduceAdd, Nat.reduceMul, Nat.reduceLeDiff, reduceCtorEq, Nat.reduceSub, Int.reduceToNat, e] <;> exact rfl) | refine qw_nil ?_ | refine cw_block ?_ | refine cw_scope ?_ | refine cw_label ?_ | refine cw_skip ?_)
      refine cw_condT (by simp [ev, fget]; omega) ?_
      repeat (first | refine cw_seq ?_ | refine cw_region ?_ | refine ow_nil ?_ | ((first | apply ow_cons | apply qw_cons); · simp only [push_cast, env, Nat.reduceEqDiff, reduceIte, Nat.reduceAdd, Nat.reduceMul, Nat.reduceLeDiff, reduceCtorEq, Nat.reduceSub, Int.reduceToNat, e] <;> exact rfl) | ((first | apply ow_spec | apply qw_spec); · simp only [push_cast, env, Nat.reduceEqDiff, reduceIte, Nat.reduceAdd, Nat.reduceMul, Nat.reduceLeDiff, reduceCtorEq, Nat.reduceSub, Int.reduceToNat, e] <;> exact rfl) | refine qw_nil ?_ | refine cw_block ?_ | refine cw_scope ?_ | refine cw_label ?_ | refine cw_skip ?_)
      exact ⟨rfl, rfl, (by simp only [push_cast, SubL, fget, Nat.reduceEqDiff, reduceIte, BSet.word])⟩
  rintro e s' ⟨rfl, hh, hf⟩
  show CW _ _ _ _
  refine cw_weakL _ hf ?_
  rw [hh]
  repeat (first | refine cw_seq ?_ | refine cw_region ?_ | refine ow_nil ?_ | ((first | apply ow_cons | apply qw_cons); · simp only [push_cast, env, Nat.reduceEqDiff, reduceIte, Nat.reduceAdd, Nat.reduceMul, Nat.reduceLeDiff, reduceCtorEq, Nat.reduceSub, Int.reduceToNat] <;> exact rfl) | ((first | apply ow_spec | apply qw_spec); · simp only [push_cast, env, Nat.reduceEqDiff, reduceIte, Nat.reduceAdd, Nat.reduceMul, Nat.reduceLeDiff, reduceCtorEq, Nat.reduceSub, Int.reduceToNat] <;> exact rfl) | refine qw_nil ?_ | refine cw_block ?_ | refine cw_scope ?_ | refine cw_label ?_ | refine cw_skip ?_)
  refine cw_for (n % 64) (fun k => [(1, .val (i64 n)), (5, .val (u64 (s.word (n / 64) / 2 ^ k))), (6, .val (i64 k))]) (fun _ => h) (fun _ => True) (by simp only [push_cast, SubL, fget, Nat.reduceEqDiff, reduceIte, Int.pow_zero, Int.ediv_one]) rfl trivial ?_
  intro k hk _
  by_cases hlt : k < n % 64
  · have e2 := inc hlt (by omega)
    have e3 : decide ((k : Int) < (n : Int) % 64) = true := decide_eq_true (by omega)
    have e4 := half_step ww k
    repeat (first | refine cw_seq ?_ | refine cw_region ?_ | refine ow_nil ?_ | ((first | apply ow_cons | apply qw_cons); · simp only [push_cast, env, Nat.reduceEqDiff, reduceIte, Nat.reduceAdd, Nat.reduceMul, Nat.reduceLeDiff, reduceCtorEq, Nat.reduceSub, Int.reduceToNat, q2, e3, Int.reduceEq] <;> exact rfl) | ((first | apply ow_spec | apply qw_spec); · simp only [push_cast, env, Nat.reduceEqDiff, reduceIte, Nat.reduceAdd, Nat.reduceMul, Nat.reduceLeDiff, reduceCtorEq, Nat.reduceSub, Int.reduceToNat, q2, e3, Int.reduceEq] <;> exact rfl) | refine qw_nil ?_ | refine cw_block ?_ | refine cw_scope ?_ | refine cw_label ?_ | refine cw_skip ?_)
    refine cw_condT (by simp only [push_cast, env, Nat.reduceEqDiff, reduceIte, Nat.reduceAdd, Nat.reduceMul, Nat.reduceLeDiff, reduceCtorEq, Nat.reduceSub, Int.reduceToNat] <;> exact rfl) ?_
    repeat (first | refine cw_seq ?_ | refine cw_region ?_ | refine ow_nil ?_ | ((first | apply ow_cons | apply qw_cons); · simp only [push_cast, env, Nat.reduceEqDiff, reduceIte, Nat.reduceAdd, Nat.reduceMul, Nat.reduceLeDiff, reduceCtorEq, Nat.reduceSub, Int.reduceToNat, e2, e4, Int.reduceEq] <;> exact rfl) | ((first | apply ow_spec | apply qw_spec); · simp only [push_cast, env, Nat.reduceEqDiff, reduceIte, Nat.reduceAdd, Nat.reduceMul, Nat.reduceLeDiff, reduceCtorEq, Nat.reduceSub, Int.reduceToNat, e2, e4, Int.reduceEq] <;> exact rfl) | refine qw_nil ?_ | refine cw_block ?_ | refine cw_scope ?_ | refine cw_label ?_ | refine cw_skip ?_)
    exact ⟨hlt, (by simp only [push_cast, SubL, fget, Nat.reduceEqDiff, reduceIte]), rfl, trivial⟩
  · have e3 : decide ((k : Int) < (n : Int) % 64) = false := decide_eq_false (by omega)
    have hk' : k = n % 64 := by omega
    repeat (first | refine cw_seq ?_ | refine cw_region ?_ | refine ow_nil ?_ | ((first | apply ow_cons | apply qw_cons); · simp only [push_cast, env, Nat.reduceEqDiff, reduceIte, Nat.reduceAdd, Nat.reduceMul, Nat.reduceLeDiff, reduceCtorEq, Nat.reduceSub, Int.reduceToNat, q2, e3, Int.reduceEq] <;> exact rfl) | ((first | apply ow_spec | apply qw_spec); · simp only [push_cast, env, Nat.reduceEqDiff, reduceIte, Nat.reduceAdd, Nat.reduceMul, Nat.reduceLeDiff, reduceCtorEq, Nat.reduceSub, Int.reduceToNat, q2, e3, Int.reduceEq] <;> exact rfl) | refine qw_nil ?_ | refine cw_block ?_ | refine cw_scope ?_ | refine cw_label ?_ | refine cw_skip ?_)
    refine cw_condF (by simp only [push_cast, env, Nat.reduceEqDiff, reduceIte, Nat.reduceAdd, Nat.reduceMul, Nat.reduceLeDiff, reduceCtorEq, Nat.reduceSub, Int.reduceToNat] <;> exact rfl) ?_
    refine cw_exit ?_
    show CW _ _ _ _
    repeat (first | refine cw_seq ?_ | refine cw_region ?_ | refine ow_nil ?_ | ((first | apply ow_cons | apply qw_cons); · simp only [push_cast, env, Nat.reduceEqDiff, reduceIte, Nat.reduceAdd, Nat.reduceMul, Nat.reduceLeDiff, reduceCtorEq, Nat.reduceSub, Int.reduceToNat, Int.reduceEq] <;> exact rfl) | ((first | apply ow_spec | apply qw_spec); · simp only [push_cast, env, Nat.reduceEqDiff, reduceIte, Nat.reduceAdd, Nat.reduceMul, Nat.reduceLeDiff, reduceCtorEq, Nat.reduceSub, Int.reduceToNat, Int.reduceEq] <;> exact rfl) | refine qw_nil ?_ | refine cw_block ?_ | refine cw_scope ?_ | refine cw_label ?_ | refine cw_skip ?_)
    refine cw_ret ?_
    refine ⟨_, (by simp only [push_cast, env, Nat.reduceEqDiff, reduceIte, Nat.reduceAdd, Nat.reduceMul, Nat.reduceLeDiff, reduceCtorEq, Nat.reduceSub, Int.reduceToNat] <;> exact rfl), ?_, rfl⟩
    have : s.has n = decide ((s.word (n / 64) / 2 ^ k).tmod 2 = 1) := by
      rw [hk']
      unfold BSet.has
      rw [wbit_div ww, Int.tmod_eq_emod_of_nonneg (div_pow ww _).1]
    rw [this]
    rfl
def BSet.setWord (s : BSet) (i : Nat) (w : Int) : BSet := match i with
  | 0 => ⟨w, s.b, s.c, s.d⟩
  | 1 => ⟨s.a, w, s.c, s.d⟩
  | 2 => ⟨s.a, s.b, w, s.d⟩
  | _ => ⟨s.a, s.b, s.c, w⟩
theorem setWord_wf {s : BSet} {i : Nat} {w : Int} (hs : SetWf s) (hw : WWf w) : SetWf (s.setWord i w) := by
  match i with
  | 0 => exact ⟨hw, hs.b, hs.c, hs.d⟩
  | 1 => exact ⟨hs.a, hw, hs.c, hs.d⟩
  | 2 => exact ⟨hs.a, hs.b, hw, hs.d⟩
  | k + 3 => exact ⟨hs.a, hs.b, hs.c, hw⟩
theorem setWord_word {s : BSet} {i j : Nat} {w : Int} (hi : i < 4) (hj : j < 4) : (s.setWord i w).word j = if i = j then w else s.word j := by
  rcases (by omega : i = 0 ∨ i = 1 ∨ i = 2 ∨ i = 3) with rfl | rfl | rfl | rfl <;> rcases (by omega : j = 0 ∨ j = 1 ∨ j = 2 ∨ j = 3) with rfl | rfl | rfl | rfl <;> rfl
/-- a set with a byte more -/
structure WithR (s : BSet) (n : Nat) (t : BSet) : Prop where
  wf : SetWf t
  has : ∀ m, m < 256 → t.has m = (s.has m || decide (m = n))
theorem with_ok {s : BSet} {n : Nat} (hs : SetWf s) (hn : n < 256) (hb : s.has n = false) : WithR s n (s.setWord (n / 64) (s.word (n / 64) + 2 ^ (n % 64))) ∧ WWf (s.word (n / 64) + 2 ^ (n % 64)) := by
  obtain ⟨h1, h2⟩ := wadd (hs.word (n / 64)) (j := n % 64) (by omega) hb
  refine ⟨⟨setWord_wf hs h1, fun m hm => ?_⟩, h1⟩
  unfold BSet.has
  rw [setWord_word (by omega) (by omega)]
  by_cases e : n / 64 = m / 64
  · rw [if_pos e, h2, e]
    congr 1
    by_cases e2 : m % 64 = n % 64
    · rw [decide_eq_true e2, decide_eq_true (by omega)]
    · rw [decide_eq_false e2, decide_eq_false (by omega)]
  · rw [if_neg e, decide_eq_false (by omega), Bool.or_false]
theorem pow64 {k : Nat} (h : k < 64) : (0 : Int) ≤ 2 ^ k ∧ (2 : Int) ^ k < 18446744073709551616 := by
  have e : ((2 : Int) ^ k) = ((2 ^ k : Nat) : Int) := by simp
  have : 2 ^ k < 2 ^ 64 := Nat.pow_lt_pow_right (by decide) h
  rw [e]
  generalize 2 ^ k = q at this ⊢
  omega
set_option maxHeartbeats 2000000 in
theorem with_fw {h : Heap} {s : BSet} {n : Nat} (hs : SetWf s) (hn : n < 256) : FW env 53 [s.val, i64 n] h fun r h' => (∃ t, r = t.val ∧ WithR s n t) ∧ h' = h := by
  have d1 : decide ((n : Int) < 0) = false := decide_eq_false (by omega)
  have d2 : decide (255 < (n : Int)) = false := decide_eq_false (by omega)
  have q1 : IntKind.i64.wrap ((n : Int).tdiv 64) = (n : Int) / 64 := by
    rw [Int.tdiv_eq_ediv_of_nonneg (by omega)]
    exact wrap64_id (by omega) (by omega)
  have q2 : (n : Int).tmod 64 = (n : Int) % 64 := Int.tmod_eq_emod_of_nonneg (by omega)
  refine fw_enter (fn := Try.f53) Try.func53 rfl (by kernel_rfl) (by simp [Try.ntmps53]) ?_; simp only [push_cast]
  repeat (first | refine cw_seq ?_ | refine cw_region ?_ | refine ow_nil ?_ | ((first | apply ow_cons | apply qw_cons); · simp only [push_cast, env, Nat.reduceEqDiff, reduceIte, Nat.reduceAdd, Nat.reduceMul, Nat.reduceLeDiff, reduceCtorEq, Nat.reduceSub, Int.reduceToNat, d1, d2] <;> exact rfl) | ((first | apply ow_spec | apply qw_spec); · simp only [push_cast, env, Nat.reduceEqDiff, reduceIte, Nat.reduceAdd, Nat.reduceMul, Nat.reduceLeDiff, reduceCtorEq, Nat.reduceSub, Int.reduceToNat, d1, d2] <;> exact rfl) | refine qw_nil ?_ | refine cw_block ?_ | refine cw_scope ?_ | refine cw_label ?_ | refine cw_skip ?_)
  refine ow_call (fn := Try.f52) (by simp only [push_cast, env, Nat.reduceEqDiff, reduceIte, Nat.reduceAdd, Nat.reduceMul, Nat.reduceLeDiff, reduceCtorEq, Nat.reduceSub, Int.reduceToNat, d1, d2] <;> exact rfl) rfl (by simp only [push_cast, env, Nat.reduceEqDiff, reduceIte, Nat.reduceAdd, Nat.reduceMul, Nat.reduceLeDiff, reduceCtorEq, Nat.reduceSub, Int.reduceToNat, d1, d2] <;> exact rfl) (by simp only [push_cast, env, Nat.reduceEqDiff, reduceIte, Nat.reduceAdd, Nat.reduceMul, Nat.reduceLeDiff, reduceCtorEq, Nat.reduceSub, Int.reduceToNat, d1, d2] <;> exact rfl) Try.func52 (by kernel_rfl) (by kernel_rfl) ?_
  rw [List.append_nil]
  refine (has_fw hs hn).mono ?_
  rintro _ h ⟨rfl, rfl⟩
  repeat (first | refine cw_seq ?_ | refine cw_region ?_ | refine ow_nil ?_ | ((first | apply ow_cons | apply qw_cons); · simp only [push_cast, env, Nat.reduceEqDiff, reduceIte, Nat.reduceAdd, Nat.reduceMul, Nat.reduceLeDiff, reduceCtorEq, Nat.reduceSub, Int.reduceToNat, d1, d2] <;> exact rfl) | ((first | apply ow_spec | apply qw_spec); · simp only [push_cast, env, Nat.reduceEqDiff, reduceIte, Nat.reduceAdd, Nat.reduceMul, Nat.reduceLeDiff, reduceCtorEq, Nat.reduceSub, Int.reduceToNat, d1, d2] <;> exact rfl) | refine qw_nil ?_ | refine cw_block ?_ | refine cw_scope ?_ | refine cw_label ?_ | refine cw_skip ?_)
  refine cw_cond (by simp only [push_cast, env, Nat.reduceEqDiff, reduceIte, Nat.reduceAdd, Nat.reduceMul, Nat.reduceLeDiff, reduceCtorEq, Nat.reduceSub, Int.reduceToNat] <;> exact rfl) (fun c1 => ?_) (fun c1 => ?_)
  · repeat (first | refine cw_seq ?_ | refine cw_region ?_ | refine ow_nil ?_ | ((first | apply ow_cons | apply qw_cons); · simp only [push_cast, env, Nat.reduceEqDiff, reduceIte, Nat.reduceAdd, Nat.reduceMul, Nat.reduceLeDiff, reduceCtorEq, Nat.reduceSub, Int.reduceToNat] <;> exact rfl) | ((first | apply ow_spec | apply qw_spec); · simp only [push_cast, env, Nat.reduceEqDiff, reduceIte, Nat.reduceAdd, Nat.reduceMul, Nat.reduceLeDiff, reduceCtorEq, Nat.reduceSub, Int.reduceToNat] <;> exact rfl) | refine qw_nil ?_ | refine cw_block ?_ | refine cw_scope ?_ | refine cw_label ?_ | refine cw_skip ?_)
    refine cw_ret ?_
    refine ⟨_, (by simp only [push_cast, env, Nat.reduceEqDiff, reduceIte, Nat.reduceAdd, Nat.reduceMul, Nat.reduceLeDiff, reduceCtorEq, Nat.reduceSub, Int.reduceToNat] <;> exact rfl), ⟨s, rfl, hs, fun m hm => ?_⟩, rfl⟩
    by_cases e : m = n
    · subst e
      rw [c1]
      rfl
    · rw [decide_eq_false e, Bool.or_false]
  obtain ⟨hW, hw⟩ := with_ok hs hn c1
  repeat (first | refine cw_seq ?_ | refine cw_region ?_ | refine ow_nil ?_ | ((first | apply ow_cons | apply qw_cons); · simp only [push_cast, env, Nat.reduceEqDiff, reduceIte, Nat.reduceAdd, Nat.reduceMul, Nat.reduceLeDiff, reduceCtorEq, Nat.reduceSub, Int.reduceToNat] <;> exact rfl) | ((first | apply ow_spec | apply qw_spec); · simp only [push_cast, env, Nat.reduceEqDiff, reduceIte, Nat.reduceAdd, Nat.reduceMul, Nat.reduceLeDiff, reduceCtorEq, Nat.reduceSub, Int.reduceToNat] <;> exact rfl) | refine qw_nil ?_ | refine cw_block ?_ | refine cw_scope ?_ | refine cw_label ?_ | refine cw_skip ?_)
  refine cw_for (n % 64) (fun k => [(1, .val (i64 n)), (2, .box [u64 s.a, u64 s.b, u64 s.c, u64 s.d]), (4, .box [u64 0, u64 0, u64 0, u64 0]), (5, .val (u64 (2 ^ k))), (6, .val (i64 k))]) (fun _ => h) (fun _ => True) (by simp only [push_cast, SubL, fget, Nat.reduceEqDiff, reduceIte, Int.pow_zero]) rfl trivial ?_
  intro k hk _
  by_cases hlt : k < n % 64
  · have e2 := inc hlt (by omega)
    have e3 : decide ((k : Int) < (n : Int) % 64) = true := decide_eq_true (by omega)
    have e4 : IntKind.u64.wrap (2 ^ k * 2) = 2 ^ (k + 1) := by
      rw [← Int.pow_succ]
      exact wrap_u64 (pow64 (by omega))
    repeat (first | refine cw_seq ?_ | refine cw_region ?_ | refine ow_nil ?_ | ((first | apply ow_cons | apply qw_cons); · simp only [push_cast, env, Nat.reduceEqDiff, reduceIte, Nat.reduceAdd, Nat.reduceMul, Nat.reduceLeDiff, reduceCtorEq, Nat.reduceSub, Int.reduceToNat, q2, e3, Int.reduceEq] <;> exact rfl) | ((first | apply ow_spec | apply qw_spec); · simp only [push_cast, env, Nat.reduceEqDiff, reduceIte, Nat.reduceAdd, Nat.reduceMul, Nat.reduceLeDiff, reduceCtorEq, Nat.reduceSub, Int.reduceToNat, q2, e3, Int.reduceEq] <;> exact rfl) | refine qw_nil ?_ | refine cw_block ?_ | refine cw_scope ?_ | refine cw_label ?_ | refine cw_skip ?_)
    refine cw_condT (by simp only [push_cast, env, Nat.reduceEqDiff, reduceIte, Nat.reduceAdd, Nat.reduceMul, Nat.reduceLeDiff, reduceCtorEq, Nat.reduceSub, Int.reduceToNat] <;> exact rfl) ?_
    repeat (first | refine cw_seq ?_ | refine cw_region ?_ | refine ow_nil ?_ | ((first | apply ow_cons | apply qw_cons); · simp only [push_cast, env, Nat.reduceEqDiff, reduceIte, Nat.reduceAdd, Nat.reduceMul, Nat.reduceLeDiff, reduceCtorEq, Nat.reduceSub, Int.reduceToNat, e2, e4, Int.reduceEq] <;> exact rfl) | ((first | apply ow_spec | apply qw_spec); · simp only [push_cast, env, Nat.reduceEqDiff, reduceIte, Nat.reduceAdd, Nat.reduceMul, Nat.reduceLeDiff, reduceCtorEq, Nat.reduceSub, Int.reduceToNat, e2, e4, Int.reduceEq] <;> exact rfl) | refine qw_nil ?_ | refine cw_block ?_ | refine cw_scope ?_ | refine cw_label ?_ | refine cw_skip ?_)
    exact ⟨hlt, (by simp only [push_cast, SubL, fget, Nat.reduceEqDiff, reduceIte]), rfl, trivial⟩
  · have e3 : decide ((k : Int) < (n : Int) % 64) = false := decide_eq_false (by omega)
    have hk' : k = n % 64 := by omega
    repeat (first | refine cw_seq ?_ | refine cw_region ?_ | refine ow_nil ?_ | ((first | apply ow_cons | apply qw_cons); · simp only [push_cast, env, Nat.reduceEqDiff, reduceIte, Nat.reduceAdd, Nat.reduceMul, Nat.reduceLeDiff, reduceCtorEq, Nat.reduceSub, Int.reduceToNat, q2, e3, Int.reduceEq] <;> exact rfl) | ((first | apply ow_spec | apply qw_spec); · simp only [push_cast, env, Nat.reduceEqDiff, reduceIte, Nat.reduceAdd, Nat.reduceMul, Nat.reduceLeDiff, reduceCtorEq, Nat.reduceSub, Int.reduceToNat, q2, e3, Int.reduceEq] <;> exact rfl) | refine qw_nil ?_ | refine cw_block ?_ | refine cw_scope ?_ | refine cw_label ?_ | refine cw_skip ?_)
    refine cw_condF (by simp only [push_cast, env, Nat.reduceEqDiff, reduceIte, Nat.reduceAdd, Nat.reduceMul, Nat.reduceLeDiff, reduceCtorEq, Nat.reduceSub, Int.reduceToNat] <;> exact rfl) ?_
    refine cw_exit ?_
    show CW _ _ _ _
    rw [← hk'] at hW hw
    repeat (first | refine cw_seq ?_ | refine cw_region ?_ | refine ow_nil ?_ | ((first | apply ow_cons | apply qw_cons); · simp only [push_cast, env, Nat.reduceEqDiff, reduceIte, Nat.reduceAdd, Nat.reduceMul, Nat.reduceLeDiff, reduceCtorEq, Nat.reduceSub, Int.reduceToNat, q1, Int.reduceEq, Int.reduceLT, Int.reduceLE, Int.reduceToNat] <;> exact rfl) | ((first | apply ow_spec | apply qw_spec); · simp only [push_cast, env, Nat.reduceEqDiff, reduceIte, Nat.reduceAdd, Nat.reduceMul, Nat.reduceLeDiff, reduceCtorEq, Nat.reduceSub, Int.reduceToNat, q1, Int.reduceEq, Int.reduceLT, Int.reduceLE, Int.reduceToNat] <;> exact rfl) | refine qw_nil ?_ | refine cw_block ?_ | refine cw_scope ?_ | refine cw_label ?_ | refine cw_skip ?_)
    rcases (by omega : n / 64 = 0 ∨ n / 64 = 1 ∨ n / 64 = 2 ∨ n / 64 = 3) with e | e | e | e
    all_goals
      rw [e] at hW hw
      simp only [BSet.word, BSet.setWord] at hW hw
      have hwr := wrap_u64 hw
    · refine cw_condT (by simp [ev, fget]; omega) ?_
      repeat (first | refine cw_seq ?_ | refine cw_region ?_ | refine ow_nil ?_ | ((first | apply ow_cons | apply qw_cons); · simp only [push_cast, env, Nat.reduceEqDiff, reduceIte, Nat.reduceAdd, Nat.reduceMul, Nat.reduceLeDiff, reduceCtorEq, Nat.reduceSub, Int.reduceToNat, hwr, Int.reduceEq, Int.reduceLT, Int.reduceLE, Int.reduceToNat] <;> exact rfl) | ((first | apply ow_spec | apply qw_spec); · simp only [push_cast, env, Nat.reduceEqDiff, reduceIte, Nat.reduceAdd, Nat.reduceMul, Nat.reduceLeDiff, reduceCtorEq, Nat.reduceSub, Int.reduceToNat, hwr, Int.reduceEq, Int.reduceLT, Int.reduceLE, Int.reduceToNat] <;> exact rfl) | refine qw_nil ?_ | refine cw_block ?_ | refine cw_scope ?_ | refine cw_label ?_ | refine cw_skip ?_)
      refine cw_ret ?_
      refine ⟨_, (by simp only [push_cast, env, Nat.reduceEqDiff, reduceIte, Nat.reduceAdd, Nat.reduceMul, Nat.reduceLeDiff, reduceCtorEq, Nat.reduceSub, Int.reduceToNat] <;> exact rfl), ⟨_, ?_, hW⟩, rfl⟩
      rfl
    · refine cw_condF (by simp [ev, fget]; omega) ?_
      repeat (first | refine cw_seq ?_ | refine cw_region ?_ | refine ow_nil ?_ | ((first | apply ow_cons | apply qw_cons); · simp only [push_cast, env, Nat.reduceEqDiff, reduceIte, Nat.reduceAdd, Nat.reduceMul, Nat.reduceLeDiff, reduceCtorEq, Nat.reduceSub, Int.reduceToNat] <;> exact rfl) | ((first | apply ow_spec | apply qw_spec); · simp only [push_cast, env, Nat.reduceEqDiff, reduceIte, Nat.reduceAdd, Nat.reduceMul, Nat.reduceLeDiff, reduceCtorEq, Nat.reduceSub, Int.reduceToNat] <;> exact rfl) | refine qw_nil ?_ | refine cw_block ?_ | refine cw_scope ?_ | refine cw_label ?_ | refine cw_skip ?_)
      refine cw_condT (by simp [ev, fget]; omega) ?_
      repeat (first | refine cw_seq ?_ | refine cw_region ?_ | refine ow_nil ?_ | ((first | apply ow_cons | apply qw_cons); · simp only [push_cast, env, Nat.reduceEqDiff, reduceIte, Nat.reduceAdd, Nat.reduceMul, Nat.reduceLeDiff, reduceCtorEq, Nat.reduceSub, Int.reduceToNat, hwr, Int.reduceEq, Int.reduceLT, Int.reduceLE, Int.reduceToNat] <;> exact rfl) | ((first | apply ow_spec | apply qw_spec); · simp only [push_cast, env, Nat.reduceEqDiff, reduceIte, Nat.reduceAdd, Nat.reduceMul, Nat.reduceLeDiff, reduceCtorEq, Nat.reduceSub, Int.reduceToNat, hwr, Int.reduceEq, Int.reduceLT, Int.reduceLE, Int.reduceToNat] <;> exact rfl) | refine qw_nil ?_ | refine cw_block ?_ | refine cw_scope ?_ | refine cw_label ?_ | refine cw_skip ?_)
      refine cw_ret ?_
      refine ⟨_, (by simp only [push_cast, env, Nat.reduceEqDiff, reduceIte, Nat.reduceAdd, Nat.reduceMul, Nat.reduceLeDiff, reduceCtorEq, Nat.reduceSub, Int.reduceToNat] <;> exact rfl), ⟨_, ?_, hW⟩, rfl⟩
      rfl
    · refine cw_condF (by simp [ev, fget]; omega) ?_
      repeat (first | refine cw_seq ?_ | refine cw_region ?_ | refine ow_nil ?_ | ((first | apply ow_cons | apply qw_cons); · simp only [push_cast, env, Nat.reduceEqDiff, reduceIte, Nat.reduceAdd, Nat.reduceMul, Nat.reduceLeDiff, reduceCtorEq, Nat.reduceSub, Int.reduceToNat] <;> exact rfl) | ((first | apply ow_spec | apply qw_spec); · simp only [push_cast, env, Nat.reduceEqDiff, reduceIte, Nat.reduceAdd, Nat.reduceMul, Nat.reduceLeDiff, reduceCtorEq, Nat.reduceSub, Int.reduceToNat] <;> exact rfl) | refine qw_nil ?_ | refine cw_block ?_ | refine cw_scope ?_ | refine cw_label ?_ | refine cw_skip ?_)
      refine cw_condF (by simp [ev, fget]; omega) ?_
      repeat (first | refine cw_seq ?_ | refine cw_region ?_ | refine ow_nil ?_ | ((first | apply ow_cons | apply qw_cons); · simp only [push_cast, env, Nat.reduceEqDiff, reduceIte, Nat.reduceAdd, Nat.reduceMul, Nat.reduceLeDiff, reduceCtorEq, Nat.reduceSub, Int.reduceToNat] <;> exact rfl) | ((first | apply ow_spec | apply qw_spec); · simp only [push_cast, env, Nat.reduceEqDiff, reduceIte, Nat.reduceAdd, Nat.reduceMul, Nat.reduceLeDiff, reduceCtorEq, Nat.reduceSub, Int.reduceToNat] <;> exact rfl) | refine qw_nil ?_ | refine cw_block ?_ | refine cw_scope ?_ | refine cw_label ?_ | refine cw_skip ?_)
      refine cw_condT (by simp [ev, fget]; omega) ?_
      repeat (first | refine cw_seq ?_ | refine cw_region ?_ | refine ow_nil ?_ | ((first | apply ow_cons | apply qw_cons); · simp only [push_cast, env, Nat.reduceEqDiff, reduceIte, Nat.reduceAdd, Nat.reduceMul, Nat.reduceLeDiff, reduceCtorEq, Nat.reduceSub, Int.reduceToNat, hwr, Int.reduceEq, Int.reduceLT, Int.reduceLE, Int.reduceToNat] <;> exact rfl) | ((first | apply ow_spec | apply qw_spec); · simp only [push_cast, env, Nat.reduceEqDiff, reduceIte, Nat.reduceAdd, Nat.reduceMul, Nat.reduceLeDiff, reduceCtorEq, Nat.reduceSub, Int.reduceToNat, hwr, Int.reduceEq, Int.reduceLT, Int.reduceLE, Int.reduceToNat] <;> exact rfl) | refine qw_nil ?_ | refine cw_block ?_ | refine cw_scope ?_ | refine cw_label ?_ | refine cw_skip ?_)
      refine cw_ret ?_
      refine ⟨_, (by simp only [push_cast, env, Nat.reduceEqDiff, reduceIte, Nat.reduceAdd, Nat.reduceMul, Nat.reduceLeDiff, reduceCtorEq, Nat.reduceSub, Int.reduceToNat] <;> exact rfl), ⟨_, ?_, hW⟩, rfl⟩
      rfl
    · refine cw_condF (by simp [ev, fget]; omega) ?_
      repeat (first | refine cw_seq ?_ | refine cw_region ?_ | refine ow_nil ?_ | ((first | apply ow_cons | apply qw_cons); · simp only [push_cast, env, Nat.reduceEqDiff, reduceIte, Nat.reduceAdd, Nat.reduceMul, Nat.reduceLeDiff, reduceCtorEq, Nat.reduceSub, Int.reduceToNat] <;> exact rfl) | ((first | apply ow_spec | apply qw_spec); · simp only [push_cast, env, Nat.reduceEqDiff, reduceIte, Nat.reduceAdd, Nat.reduceMul, Nat.reduceLeDiff, reduceCtorEq, Nat.reduceSub, Int.reduceToNat] <;> exact rfl) | refine qw_nil ?_ | refine cw_block ?_ | refine cw_scope ?_ | refine cw_label ?_ | refine cw_skip ?_)
      refine cw_condF (by simp [ev, fget]; omega) ?_
      repeat (first | refine cw_seq ?_ | refine cw_region ?_ | refine ow_nil ?_ | ((first | apply ow_cons | apply qw_cons); · simp only [push_cast, env, Nat.reduceEqDiff, reduceIte, Nat.reduceAdd, Nat.reduceMul, Nat.reduceLeDiff, reduceCtorEq, Nat.reduceSub, Int.reduceToNat] <;> exact rfl) | ((first | apply ow_spec | apply qw_spec); · simp only [push_cast, env, Nat.reduceEqDiff, reduceIte, Nat.reduceAdd, Nat.reduceMul, Nat.reduceLeDiff, reduceCtorEq, Nat.reduceSub, Int.reduceToNat] <;> exact rfl) | refine qw_nil ?_ | refine cw_block ?_ | refine cw_scope ?_ | refine cw_label ?_ | refine cw_skip ?_)
      refine cw_condF (by simp [ev, fget]; omega) ?_
      repeat (first | refine cw_seq ?_ | refine cw_region ?_ | refine ow_nil ?_ | ((first | apply ow_cons | apply qw_cons); · simp only [push_cast, env, Nat.reduceEqDiff, reduceIte, Nat.reduceAdd, Nat.reduceMul, Nat.reduceLeDiff, reduceCtorEq, Nat.reduceSub, Int.reduceToNat, hwr, Int.reduceEq, Int.reduceLT, Int.reduceLE, Int.reduceToNat] <;> exact rfl) | ((first | apply ow_spec | apply qw_spec); · simp only [push_cast, env, Nat.reduceEqDiff, reduceIte, Nat.reduceAdd, Nat.reduceMul, Nat.reduceLeDiff, reduceCtorEq, Nat.reduceSub, Int.reduceToNat, hwr, Int.reduceEq, Int.reduceLT, Int.reduceLE, Int.reduceToNat] <;> exact rfl) | refine qw_nil ?_ | refine cw_block ?_ | refine cw_scope ?_ | refine cw_label ?_ | refine cw_skip ?_)
      refine cw_ret ?_
      refine ⟨_, (by simp only [push_cast, env, Nat.reduceEqDiff, reduceIte, Nat.reduceAdd, Nat.reduceMul, Nat.reduceLeDiff, reduceCtorEq, Nat.reduceSub, Int.reduceToNat] <;> exact rfl), ⟨_, ?_, hW⟩, rfl⟩
      rfl
set_option maxHeartbeats 2000000 in
theorem op_fw {h : Heap} {s t : BSet} (hs : SetWf s) (ht : SetWf t) : FW env 40 [i64 0, s.val, t.val] h fun r h' => r = (s.union t).val ∧ h' = h := by
  refine fw_enter (fn := Try.f40) Try.func40 rfl (by kernel_rfl) (by simp [Try.ntmps40]) ?_; simp only [push_cast]
  repeat (first | refine cw_seq ?_ | refine cw_region ?_ | refine ow_nil ?_ | ((first | apply ow_cons | apply qw_cons); · simp only [push_cast, env, Nat.reduceEqDiff, reduceIte, Nat.reduceAdd, Nat.reduceMul, Nat.reduceLeDiff, reduceCtorEq, Nat.reduceSub, Int.reduceToNat] <;> exact rfl) | ((first | apply ow_spec | apply qw_spec); · simp only [push_cast, env, Nat.reduceEqDiff, reduceIte, Nat.reduceAdd, Nat.reduceMul, Nat.reduceLeDiff, reduceCtorEq, Nat.reduceSub, Int.reduceToNat] <;> exact rfl) | refine qw_nil ?_ | refine cw_block ?_ | refine cw_scope ?_ | refine cw_label ?_ | refine cw_skip ?_)
  refine cw_forG 256 (fun k (o : BSet) => [(0, .val (i64 0)), (4, .box [u64 s.a, u64 s.b, u64 s.c, u64 s.d]), (5, .box [u64 t.a, u64 t.b, u64 t.c, u64 t.d]), (6, .box [u64 0, u64 0, u64 0, u64 0]), (7, .box [u64 o.a, u64 o.b, u64 o.c, u64 o.d]), (8, .val (i64 k))]) (fun _ _ => h)
    (fun k o => SetWf o ∧ ∀ m, m < 256 → o.has m = (decide (m < k) && (s.has m || t.has m))) BSet.zero (by simp only [push_cast, SubL, fget, Nat.reduceEqDiff, reduceIte, BSet.zero]) rfl ⟨zero_wf, fun m _ => by rw [zero_has]; simp⟩ ?_
  rintro k o hk ⟨ho, hI⟩
  by_cases hlt : k < 256
  · have e2 := inc hlt (by omega)
    have e3 : decide ((k : Int) < 256) = true := decide_eq_true (by omega)
    repeat (first | refine cw_seq ?_ | refine cw_region ?_ | refine ow_nil ?_ | ((first | apply ow_cons | apply qw_cons); · simp only [push_cast, env, Nat.reduceEqDiff, reduceIte, Nat.reduceAdd, Nat.reduceMul, Nat.reduceLeDiff, reduceCtorEq, Nat.reduceSub, Int.reduceToNat, e3] <;> exact rfl) | ((first | apply ow_spec | apply qw_spec); · simp only [push_cast, env, Nat.reduceEqDiff, reduceIte, Nat.reduceAdd, Nat.reduceMul, Nat.reduceLeDiff, reduceCtorEq, Nat.reduceSub, Int.reduceToNat, e3] <;> exact rfl) | refine qw_nil ?_ | refine cw_block ?_ | refine cw_scope ?_ | refine cw_label ?_ | refine cw_skip ?_)
    refine cw_condT (by simp only [push_cast, env, Nat.reduceEqDiff, reduceIte, Nat.reduceAdd, Nat.reduceMul, Nat.reduceLeDiff, reduceCtorEq, Nat.reduceSub, Int.reduceToNat] <;> exact rfl) ?_
    repeat (first | refine cw_seq ?_ | refine cw_region ?_ | refine ow_nil ?_ | ((first | apply ow_cons | apply qw_cons); · simp only [push_cast, env, Nat.reduceEqDiff, reduceIte, Nat.reduceAdd, Nat.reduceMul, Nat.reduceLeDiff, reduceCtorEq, Nat.reduceSub, Int.reduceToNat] <;> exact rfl) | ((first | apply ow_spec | apply qw_spec); · simp only [push_cast, env, Nat.reduceEqDiff, reduceIte, Nat.reduceAdd, Nat.reduceMul, Nat.reduceLeDiff, reduceCtorEq, Nat.reduceSub, Int.reduceToNat] <;> exact rfl) | refine qw_nil ?_ | refine cw_block ?_ | refine cw_scope ?_ | refine cw_label ?_ | refine cw_skip ?_)
    refine cw_order0 (h := h) [[], [], [0, 1], [], [], [3, 4], [2], [5]]
      [.sl (.val s.val), .sl (.val (i64 k)), .sl (.val (.bool (s.has k))), .sl (.val t.val), .sl (.val (i64 k)), .sl (.val (.bool (t.has k))), .sl (.val (.bool (s.has k))), .sl (.val (.bool (t.has k)))]
      [(0, .val (i64 0)), (4, .box [u64 s.a, u64 s.b, u64 s.c, u64 s.d]), (5, .box [u64 t.a, u64 t.b, u64 t.c, u64 t.d]), (6, .box [u64 0, u64 0, u64 0, u64 0]), (7, .box [u64 o.a, u64 o.b, u64 o.c, u64 o.d]), (8, .val (i64 k)), (11, .val (i64 k)), (12, .val (.bool true))]
      [(0, .val (i64 0)), (4, .box [u64 s.a, u64 s.b, u64 s.c, u64 s.d]), (5, .box [u64 t.a, u64 t.b, u64 t.c, u64 t.d]), (6, .box [u64 0, u64 0, u64 0, u64 0]), (7, .box [u64 o.a, u64 o.b, u64 o.c, u64 o.d]), (8, .val (i64 k)), (9, .val (.bool (s.has k))), (10, .val (.bool (t.has k)))] mixed (by kernel_rfl) rfl rfl (by simp only [push_cast, env, Nat.reduceEqDiff, reduceIte, Nat.reduceAdd, Nat.reduceMul, Nat.reduceLeDiff, reduceCtorEq, Nat.reduceSub, Int.reduceToNat, e3] <;> exact rfl) ?_ ?_ ?_
    · repeat (first | exact Steps0.nil _ | (apply Steps0.cons; (· (apply one_val; (· rfl); (· simp only [push_cast, env, Nat.reduceEqDiff, reduceIte, Nat.reduceAdd, Nat.reduceMul, Nat.reduceLeDiff, reduceCtorEq, Nat.reduceSub, Int.reduceToNat] <;> exact rfl); (· simp only [push_cast, env, Nat.reduceEqDiff, reduceIte, Nat.reduceAdd, Nat.reduceMul, Nat.reduceLeDiff, reduceCtorEq, Nat.reduceSub, Int.reduceToNat] <;> exact rfl))); (· rfl)))
      apply Steps0.cons; · refine one_call (fn := Try.f52) rfl (by simp only [push_cast, env, Nat.reduceEqDiff, reduceIte, Nat.reduceAdd, Nat.reduceMul, Nat.reduceLeDiff, reduceCtorEq, Nat.reduceSub, Int.reduceToNat] <;> exact rfl) rfl (by simp only [push_cast, env, Nat.reduceEqDiff, reduceIte, Nat.reduceAdd, Nat.reduceMul, Nat.reduceLeDiff, reduceCtorEq, Nat.reduceSub, Int.reduceToNat] <;> exact rfl) (by simp only [push_cast, env, Nat.reduceEqDiff, reduceIte, Nat.reduceAdd, Nat.reduceMul, Nat.reduceLeDiff, reduceCtorEq, Nat.reduceSub, Int.reduceToNat] <;> exact rfl) Try.func52 (by kernel_rfl) (by kernel_rfl) (has_fw hs hlt)
      · rfl
      repeat (first | exact Steps0.nil _ | (apply Steps0.cons; (· (apply one_val; (· rfl); (· simp only [push_cast, env, Nat.reduceEqDiff, reduceIte, Nat.reduceAdd, Nat.reduceMul, Nat.reduceLeDiff, reduceCtorEq, Nat.reduceSub, Int.reduceToNat] <;> exact rfl); (· simp only [push_cast, env, Nat.reduceEqDiff, reduceIte, Nat.reduceAdd, Nat.reduceMul, Nat.reduceLeDiff, reduceCtorEq, Nat.reduceSub, Int.reduceToNat] <;> exact rfl))); (· rfl)))
      apply Steps0.cons; · refine one_call (fn := Try.f52) rfl (by simp only [push_cast, env, Nat.reduceEqDiff, reduceIte, Nat.reduceAdd, Nat.reduceMul, Nat.reduceLeDiff, reduceCtorEq, Nat.reduceSub, Int.reduceToNat] <;> exact rfl) rfl (by simp only [push_cast, env, Nat.reduceEqDiff, reduceIte, Nat.reduceAdd, Nat.reduceMul, Nat.reduceLeDiff, reduceCtorEq, Nat.reduceSub, Int.reduceToNat] <;> exact rfl) (by simp only [push_cast, env, Nat.reduceEqDiff, reduceIte, Nat.reduceAdd, Nat.reduceMul, Nat.reduceLeDiff, reduceCtorEq, Nat.reduceSub, Int.reduceToNat] <;> exact rfl) Try.func52 (by kernel_rfl) (by kernel_rfl) (has_fw ht hlt)
      · rfl
      repeat (first | exact Steps0.nil _ | (apply Steps0.cons; (· (apply one_val; (· rfl); (· simp only [push_cast, env, Nat.reduceEqDiff, reduceIte, Nat.reduceAdd, Nat.reduceMul, Nat.reduceLeDiff, reduceCtorEq, Nat.reduceSub, Int.reduceToNat] <;> exact rfl); (· simp only [push_cast, env, Nat.reduceEqDiff, reduceIte, Nat.reduceAdd, Nat.reduceMul, Nat.reduceLeDiff, reduceCtorEq, Nat.reduceSub, Int.reduceToNat] <;> exact rfl))); (· rfl)))
    · exact ⟨.inl ⟨by decide, rfl⟩, .inl ⟨by decide, rfl⟩, .inl ⟨by decide, rfl⟩, .inl ⟨by decide, rfl⟩, .inl ⟨by decide, rfl⟩, .inl ⟨by decide, rfl⟩, .inr ⟨rfl, by simp⟩, .inr ⟨rfl, by simp⟩, trivial⟩
    · show CW _ _ _ _
      cases ha : s.has k <;> cases hb : t.has k
      · repeat (first | refine cw_seq ?_ | refine cw_region ?_ | refine ow_nil ?_ | ((first | apply ow_cons | apply qw_cons); · simp only [push_cast, env, Nat.reduceEqDiff, reduceIte, Nat.reduceAdd, Nat.reduceMul, Nat.reduceLeDiff, reduceCtorEq, Nat.reduceSub, Int.reduceToNat] <;> exact rfl) | ((first | apply ow_spec | apply qw_spec); · simp only [push_cast, env, Nat.reduceEqDiff, reduceIte, Nat.reduceAdd, Nat.reduceMul, Nat.reduceLeDiff, reduceCtorEq, Nat.reduceSub, Int.reduceToNat] <;> exact rfl) | refine qw_nil ?_ | refine cw_block ?_ | refine cw_scope ?_ | refine cw_label ?_ | refine cw_skip ?_)
        refine cw_condF (by simp only [push_cast, env, Nat.reduceEqDiff, reduceIte, Nat.reduceAdd, Nat.reduceMul, Nat.reduceLeDiff, reduceCtorEq, Nat.reduceSub, Int.reduceToNat] <;> exact rfl) ?_
        repeat (first | refine cw_seq ?_ | refine cw_region ?_ | refine ow_nil ?_ | ((first | apply ow_cons | apply qw_cons); · simp only [push_cast, env, Nat.reduceEqDiff, reduceIte, Nat.reduceAdd, Nat.reduceMul, Nat.reduceLeDiff, reduceCtorEq, Nat.reduceSub, Int.reduceToNat, e2] <;> exact rfl) | ((first | apply ow_spec | apply qw_spec); · simp only [push_cast, env, Nat.reduceEqDiff, reduceIte, Nat.reduceAdd, Nat.reduceMul, Nat.reduceLeDiff, reduceCtorEq, Nat.reduceSub, Int.reduceToNat, e2] <;> exact rfl) | refine qw_nil ?_ | refine cw_block ?_ | refine cw_scope ?_ | refine cw_label ?_ | refine cw_skip ?_)
        refine ⟨hlt, o, (by simp only [push_cast, SubL, fget, Nat.reduceEqDiff, reduceIte]), rfl, ho, fun m hm => ?_⟩
        rw [hI m hm]
        by_cases e : m = k
        · subst e
          simp [ha, hb]
        · rw [show decide (m < k + 1) = decide (m < k) by rw [decide_eq_decide]; omega]
      · repeat (first | refine cw_seq ?_ | refine cw_region ?_ | refine ow_nil ?_ | ((first | apply ow_cons | apply qw_cons); · simp only [push_cast, env, Nat.reduceEqDiff, reduceIte, Nat.reduceAdd, Nat.reduceMul, Nat.reduceLeDiff, reduceCtorEq, Nat.reduceSub, Int.reduceToNat] <;> exact rfl) | ((first | apply ow_spec | apply qw_spec); · simp only [push_cast, env, Nat.reduceEqDiff, reduceIte, Nat.reduceAdd, Nat.reduceMul, Nat.reduceLeDiff, reduceCtorEq, Nat.reduceSub, Int.reduceToNat] <;> exact rfl) | refine qw_nil ?_ | refine cw_block ?_ | refine cw_scope ?_ | refine cw_label ?_ | refine cw_skip ?_)
        refine cw_condT (by simp only [push_cast, env, Nat.reduceEqDiff, reduceIte, Nat.reduceAdd, Nat.reduceMul, Nat.reduceLeDiff, reduceCtorEq, Nat.reduceSub, Int.reduceToNat] <;> exact rfl) ?_
        repeat (first | refine cw_seq ?_ | refine cw_region ?_ | refine ow_nil ?_ | ((first | apply ow_cons | apply qw_cons); · simp only [push_cast, env, Nat.reduceEqDiff, reduceIte, Nat.reduceAdd, Nat.reduceMul, Nat.reduceLeDiff, reduceCtorEq, Nat.reduceSub, Int.reduceToNat] <;> exact rfl) | ((first | apply ow_spec | apply qw_spec); · simp only [push_cast, env, Nat.reduceEqDiff, reduceIte, Nat.reduceAdd, Nat.reduceMul, Nat.reduceLeDiff, reduceCtorEq, Nat.reduceSub, Int.reduceToNat] <;> exact rfl) | refine qw_nil ?_ | refine cw_block ?_ | refine cw_scope ?_ | refine cw_label ?_ | refine cw_skip ?_)
        refine ow_call (fn := Try.f53) (by simp only [push_cast, env, Nat.reduceEqDiff, reduceIte, Nat.reduceAdd, Nat.reduceMul, Nat.reduceLeDiff, reduceCtorEq, Nat.reduceSub, Int.reduceToNat] <;> exact rfl) rfl (by simp only [push_cast, env, Nat.reduceEqDiff, reduceIte, Nat.reduceAdd, Nat.reduceMul, Nat.reduceLeDiff, reduceCtorEq, Nat.reduceSub, Int.reduceToNat] <;> exact rfl) (by simp only [push_cast, env, Nat.reduceEqDiff, reduceIte, Nat.reduceAdd, Nat.reduceMul, Nat.reduceLeDiff, reduceCtorEq, Nat.reduceSub, Int.reduceToNat] <;> exact rfl) Try.func53 (by kernel_rfl) (by kernel_rfl) ?_
        rw [List.append_nil]
        refine (with_fw ho hlt).mono ?_
        rintro _ h ⟨⟨q, rfl, hq⟩, rfl⟩
        repeat (first | refine cw_seq ?_ | refine cw_region ?_ | refine ow_nil ?_ | ((first | apply ow_cons | apply qw_cons); · simp only [push_cast, env, Nat.reduceEqDiff, reduceIte, Nat.reduceAdd, Nat.reduceMul, Nat.reduceLeDiff, reduceCtorEq, Nat.reduceSub, Int.reduceToNat, e2] <;> exact rfl) | ((first | apply ow_spec | apply qw_spec); · simp only [push_cast, env, Nat.reduceEqDiff, reduceIte, Nat.reduceAdd, Nat.reduceMul, Nat.reduceLeDiff, reduceCtorEq, Nat.reduceSub, Int.reduceToNat, e2] <;> exact rfl) | refine qw_nil ?_ | refine cw_block ?_ | refine cw_scope ?_ | refine cw_label ?_ | refine cw_skip ?_)
        refine ⟨hlt, q, (by simp only [push_cast, SubL, fget, Nat.reduceEqDiff, reduceIte]), rfl, hq.wf, fun m hm => ?_⟩
        rw [hq.has m hm, hI m hm]
        by_cases e : m = k
        · subst e
          simp [ha, hb]
        · rw [show decide (m < k + 1) = decide (m < k) by rw [decide_eq_decide]; omega, decide_eq_false e, Bool.or_false]
      · repeat (first | refine cw_seq ?_ | refine cw_region ?_ | refine ow_nil ?_ | ((first | apply ow_cons | apply qw_cons); · simp only [push_cast, env, Nat.reduceEqDiff, reduceIte, Nat.reduceAdd, Nat.reduceMul, Nat.reduceLeDiff, reduceCtorEq, Nat.reduceSub, Int.reduceToNat] <;> exact rfl) | ((first | apply ow_spec | apply qw_spec); · simp only [push_cast, env, Nat.reduceEqDiff, reduceIte, Nat.reduceAdd, Nat.reduceMul, Nat.reduceLeDiff, reduceCtorEq, Nat.reduceSub, Int.reduceToNat] <;> exact rfl) | refine qw_nil ?_ | refine cw_block ?_ | refine cw_scope ?_ | refine cw_label ?_ | refine cw_skip ?_)
        refine cw_condT (by simp only [push_cast, env, Nat.reduceEqDiff, reduceIte, Nat.reduceAdd, Nat.reduceMul, Nat.reduceLeDiff, reduceCtorEq, Nat.reduceSub, Int.reduceToNat] <;> exact rfl) ?_
        repeat (first | refine cw_seq ?_ | refine cw_region ?_ | refine ow_nil ?_ | ((first | apply ow_cons | apply qw_cons); · simp only [push_cast, env, Nat.reduceEqDiff, reduceIte, Nat.reduceAdd, Nat.reduceMul, Nat.reduceLeDiff, reduceCtorEq, Nat.reduceSub, Int.reduceToNat] <;> exact rfl) | ((first | apply ow_spec | apply qw_spec); · simp only [push_cast, env, Nat.reduceEqDiff, reduceIte, Nat.reduceAdd, Nat.reduceMul, Nat.reduceLeDiff, reduceCtorEq, Nat.reduceSub, Int.reduceToNat] <;> exact rfl) | refine qw_nil ?_ | refine cw_block ?_ | refine cw_scope ?_ | refine cw_label ?_ | refine cw_skip ?_)
        refine ow_call (fn := Try.f53) (by simp only [push_cast, env, Nat.reduceEqDiff, reduceIte, Nat.reduceAdd, Nat.reduceMul, Nat.reduceLeDiff, reduceCtorEq, Nat.reduceSub, Int.reduceToNat] <;> exact rfl) rfl (by simp only [push_cast, env, Nat.reduceEqDiff, reduceIte, Nat.reduceAdd, Nat.reduceMul, Nat.reduceLeDiff, reduceCtorEq, Nat.reduceSub, Int.reduceToNat] <;> exact rfl) (by simp only [push_cast, env, Nat.reduceEqDiff, reduceIte, Nat.reduceAdd, Nat.reduceMul, Nat.reduceLeDiff, reduceCtorEq, Nat.reduceSub, Int.reduceToNat] <;> exact rfl) Try.func53 (by kernel_rfl) (by kernel_rfl) ?_
        rw [List.append_nil]
        refine (with_fw ho hlt).mono ?_
        rintro _ h ⟨⟨q, rfl, hq⟩, rfl⟩
        repeat (first | refine cw_seq ?_ | refine cw_region ?_ | refine ow_nil ?_ | ((first | apply ow_cons | apply qw_cons); · simp only [push_cast, env, Nat.reduceEqDiff, reduceIte, Nat.reduceAdd, Nat.reduceMul, Nat.reduceLeDiff, reduceCtorEq, Nat.reduceSub, Int.reduceToNat, e2] <;> exact rfl) | ((first | apply ow_spec | apply qw_spec); · simp only [push_cast, env, Nat.reduceEqDiff, reduceIte, Nat.reduceAdd, Nat.reduceMul, Nat.reduceLeDiff, reduceCtorEq, Nat.reduceSub, Int.reduceToNat, e2] <;> exact rfl) | refine qw_nil ?_ | refine cw_block ?_ | refine cw_scope ?_ | refine cw_label ?_ | refine cw_skip ?_)
        refine ⟨hlt, q, (by simp only [push_cast, SubL, fget, Nat.reduceEqDiff, reduceIte]), rfl, hq.wf, fun m hm => ?_⟩
        rw [hq.has m hm, hI m hm]
        by_cases e : m = k
        · subst e
          simp [ha, hb]
        · rw [show decide (m < k + 1) = decide (m < k) by rw [decide_eq_decide]; omega, decide_eq_false e, Bool.or_false]
      · repeat (first | refine cw_seq ?_ | refine cw_region ?_ | refine ow_nil ?_ | ((first | apply ow_cons | apply qw_cons); · simp only [push_cast, env, Nat.reduceEqDiff, reduceIte, Nat.reduceAdd, Nat.reduceMul, Nat.reduceLeDiff, reduceCtorEq, Nat.reduceSub, Int.reduceToNat] <;> exact rfl) | ((first | apply ow_spec | apply qw_spec); · simp only [push_cast, env, Nat.reduceEqDiff, reduceIte, Nat.reduceAdd, Nat.reduceMul, Nat.reduceLeDiff, reduceCtorEq, Nat.reduceSub, Int.reduceToNat] <;> exact rfl) | refine qw_nil ?_ | refine cw_block ?_ | refine cw_scope ?_ | refine cw_label ?_ | refine cw_skip ?_)
        refine cw_condT (by simp only [push_cast, env, Nat.reduceEqDiff, reduceIte, Nat.reduceAdd, Nat.reduceMul, Nat.reduceLeDiff, reduceCtorEq, Nat.reduceSub, Int.reduceToNat] <;> exact rfl) ?_
        repeat (first | refine cw_seq ?_ | refine cw_region ?_ | refine ow_nil ?_ | ((first | apply ow_cons | apply qw_cons); · simp only [push_cast, env, Nat.reduceEqDiff, reduceIte, Nat.reduceAdd, Nat.reduceMul, Nat.reduceLeDiff, reduceCtorEq, Nat.reduceSub, Int.reduceToNat] <;> exact rfl) | ((first | apply ow_spec | apply qw_spec); · simp only [push_cast, env, Nat.reduceEqDiff, reduceIte, Nat.reduceAdd, Nat.reduceMul, Nat.reduceLeDiff, reduceCtorEq, Nat.reduceSub, Int.reduceToNat] <;> exact rfl) | refine qw_nil ?_ | refine cw_block ?_ | refine cw_scope ?_ | refine cw_label ?_ | refine cw_skip ?_)
        refine ow_call (fn := Try.f53) (by simp only [push_cast, env, Nat.reduceEqDiff, reduceIte, Nat.reduceAdd, Nat.reduceMul, Nat.reduceLeDiff, reduceCtorEq, Nat.reduceSub, Int.reduceToNat] <;> exact rfl) rfl (by simp only [push_cast, env, Nat.reduceEqDiff, reduceIte, Nat.reduceAdd, Nat.reduceMul, Nat.reduceLeDiff, reduceCtorEq, Nat.reduceSub, Int.reduceToNat] <;> exact rfl) (by simp only [push_cast, env, Nat.reduceEqDiff, reduceIte, Nat.reduceAdd, Nat.reduceMul, Nat.reduceLeDiff, reduceCtorEq, Nat.reduceSub, Int.reduceToNat] <;> exact rfl) Try.func53 (by kernel_rfl) (by kernel_rfl) ?_
        rw [List.append_nil]
        refine (with_fw ho hlt).mono ?_
        rintro _ h ⟨⟨q, rfl, hq⟩, rfl⟩
        repeat (first | refine cw_seq ?_ | refine cw_region ?_ | refine ow_nil ?_ | ((first | apply ow_cons | apply qw_cons); · simp only [push_cast, env, Nat.reduceEqDiff, reduceIte, Nat.reduceAdd, Nat.reduceMul, Nat.reduceLeDiff, reduceCtorEq, Nat.reduceSub, Int.reduceToNat, e2] <;> exact rfl) | ((first | apply ow_spec | apply qw_spec); · simp only [push_cast, env, Nat.reduceEqDiff, reduceIte, Nat.reduceAdd, Nat.reduceMul, Nat.reduceLeDiff, reduceCtorEq, Nat.reduceSub, Int.reduceToNat, e2] <;> exact rfl) | refine qw_nil ?_ | refine cw_block ?_ | refine cw_scope ?_ | refine cw_label ?_ | refine cw_skip ?_)
        refine ⟨hlt, q, (by simp only [push_cast, SubL, fget, Nat.reduceEqDiff, reduceIte]), rfl, hq.wf, fun m hm => ?_⟩
        rw [hq.has m hm, hI m hm]
        by_cases e : m = k
        · subst e
          simp [ha, hb]
        · rw [show decide (m < k + 1) = decide (m < k) by rw [decide_eq_decide]; omega, decide_eq_false e, Bool.or_false]
  · have e3 : decide ((k : Int) < 256) = false := decide_eq_false (by omega)
    have hk' : k = 256 := by omega
    repeat (first | refine cw_seq ?_ | refine cw_region ?_ | refine ow_nil ?_ | ((first | apply ow_cons | apply qw_cons); · simp only [push_cast, env, Nat.reduceEqDiff, reduceIte, Nat.reduceAdd, Nat.reduceMul, Nat.reduceLeDiff, reduceCtorEq, Nat.reduceSub, Int.reduceToNat, e3] <;> exact rfl) | ((first | apply ow_spec | apply qw_spec); · simp only [push_cast, env, Nat.reduceEqDiff, reduceIte, Nat.reduceAdd, Nat.reduceMul, Nat.reduceLeDiff, reduceCtorEq, Nat.reduceSub, Int.reduceToNat, e3] <;> exact rfl) | refine qw_nil ?_ | refine cw_block ?_ | refine cw_scope ?_ | refine cw_label ?_ | refine cw_skip ?_)
    refine cw_condF (by simp only [push_cast, env, Nat.reduceEqDiff, reduceIte, Nat.reduceAdd, Nat.reduceMul, Nat.reduceLeDiff, reduceCtorEq, Nat.reduceSub, Int.reduceToNat] <;> exact rfl) ?_
    refine cw_exit ?_
    show CW _ _ _ _
    repeat (first | refine cw_seq ?_ | refine cw_region ?_ | refine ow_nil ?_ | ((first | apply ow_cons | apply qw_cons); · simp only [push_cast, env, Nat.reduceEqDiff, reduceIte, Nat.reduceAdd, Nat.reduceMul, Nat.reduceLeDiff, reduceCtorEq, Nat.reduceSub, Int.reduceToNat] <;> exact rfl) | ((first | apply ow_spec | apply qw_spec); · simp only [push_cast, env, Nat.reduceEqDiff, reduceIte, Nat.reduceAdd, Nat.reduceMul, Nat.reduceLeDiff, reduceCtorEq, Nat.reduceSub, Int.reduceToNat] <;> exact rfl) | refine qw_nil ?_ | refine cw_block ?_ | refine cw_scope ?_ | refine cw_label ?_ | refine cw_skip ?_)
    refine cw_ret ?_
    refine ⟨_, (by simp only [push_cast, env, Nat.reduceEqDiff, reduceIte, Nat.reduceAdd, Nat.reduceMul, Nat.reduceLeDiff, reduceCtorEq, Nat.reduceSub, Int.reduceToNat] <;> exact rfl), ?_, rfl⟩
    have : o = s.union t := BSet.ext ho (union_wf hs ht) fun m hm => by rw [hI m hm, union_has, decide_eq_true (by omega), Bool.true_and]
    rw [← this]
    rfl
end Go.Proofs.Ytnlchlnkibpkaaa

/- First, of the program. -/
namespace Go.Proofs.Ytnlchlnkibpkaaa
set_option linter.unusedSimpArgs false
set_option linter.unusedVariables false
open Go.RowKit Am Ty

/-- a grammar whose sets are right -/
def WfG (g : Gram) : Prop := ∀ r ∈ g.rules, ∀ s ∈ r.rhs, SetWf s.set
abbrev MineS (h h' : Heap) (v : Value) (l : List BSet) : Prop := Mine h h' v l.length (l.flatMap BSet.cells) 45
structure FG where
  hk : Heap
  out : List BSet
  ch : Bool
structure FGI (h1 : Heap) (io : Nat) (x : FG) : Prop where
  p : h1 <+: x.hk
  o : x.hk[io]? = some (.arr (x.out.flatMap BSet.cells) 0 true 45)
set_option maxHeartbeats 4000000 in
theorem first_fw {h : Heap} {g : Gram} {v : Value} (hr : RdGram h v g) (hW : WfG g) : FW env 19 [v] h fun r h' => Told g nilS (fun x h' => ∃ l, Firsts g (nullD g) l ∧ MineS h h' x l) r h' ∧ h <+: h' := by
  obtain ⟨u, rfl, hu⟩ := id hr
  obtain ⟨p, c, rfl⟩ := hu.form
  have hle := hu.le
  refine fw_enter (fn := Try.f19) Try.func19 rfl (by kernel_rfl) (by simp [Try.ntmps19]) ?_; simp only [push_cast]
  repeat (first | refine cw_seq ?_ | refine cw_region ?_ | refine ow_nil ?_ | ((first | apply ow_cons | apply qw_cons); · simp only [push_cast, env, Nat.reduceEqDiff, reduceIte, Nat.reduceAdd, Nat.reduceMul, Nat.reduceLeDiff, reduceCtorEq, Nat.reduceSub, Int.reduceToNat] <;> exact rfl) | ((first | apply ow_spec | apply qw_spec); · simp only [push_cast, env, Nat.reduceEqDiff, reduceIte, Nat.reduceAdd, Nat.reduceMul, Nat.reduceLeDiff, reduceCtorEq, Nat.reduceSub, Int.reduceToNat] <;> exact rfl) | refine qw_nil ?_ | refine cw_block ?_ | refine cw_scope ?_ | refine cw_label ?_ | refine cw_skip ?_)
  refine ow_call (fn := Try.f22) (by simp only [push_cast, env, Nat.reduceEqDiff, reduceIte, Nat.reduceAdd, Nat.reduceMul, Nat.reduceLeDiff, reduceCtorEq, Nat.reduceSub, Int.reduceToNat] <;> exact rfl) rfl (by simp only [push_cast, env, Nat.reduceEqDiff, reduceIte, Nat.reduceAdd, Nat.reduceMul, Nat.reduceLeDiff, reduceCtorEq, Nat.reduceSub, Int.reduceToNat] <;> exact rfl) (by simp only [push_cast, env, Nat.reduceEqDiff, reduceIte, Nat.reduceAdd, Nat.reduceMul, Nat.reduceLeDiff, reduceCtorEq, Nat.reduceSub, Int.reduceToNat] <;> exact rfl) Try.func22 (by kernel_rfl) (by kernel_rfl) ?_
  rw [List.append_nil]
  refine (nullable_fw hr).mono ?_
  rintro _ h1 ⟨⟨x, rfl, ⟨hb, rfl⟩ | ⟨hb, m, hm, idm, verm, him, rfl, hgm⟩⟩, hp1⟩
  · have e0 : rightG g = 3 := if_pos hb
    rw [e0]
    repeat (first | refine cw_seq ?_ | refine cw_region ?_ | refine ow_nil ?_ | ((first | apply ow_cons | apply qw_cons); · simp only [push_cast, env, Nat.reduceEqDiff, reduceIte, Nat.reduceAdd, Nat.reduceMul, Nat.reduceLeDiff, reduceCtorEq, Nat.reduceSub, Int.reduceToNat] <;> exact rfl) | ((first | apply ow_spec | apply qw_spec); · simp only [push_cast, env, Nat.reduceEqDiff, reduceIte, Nat.reduceAdd, Nat.reduceMul, Nat.reduceLeDiff, reduceCtorEq, Nat.reduceSub, Int.reduceToNat] <;> exact rfl) | refine qw_nil ?_ | refine cw_block ?_ | refine cw_scope ?_ | refine cw_label ?_ | refine cw_skip ?_)
    refine cw_condT (by simp only [push_cast, env, Nat.reduceEqDiff, reduceIte, Nat.reduceAdd, Nat.reduceMul, Nat.reduceLeDiff, reduceCtorEq, Nat.reduceSub, Int.reduceToNat] <;> exact rfl) ?_
    repeat (first | refine cw_seq ?_ | refine cw_region ?_ | refine ow_nil ?_ | ((first | apply ow_cons | apply qw_cons); · simp only [push_cast, env, Nat.reduceEqDiff, reduceIte, Nat.reduceAdd, Nat.reduceMul, Nat.reduceLeDiff, reduceCtorEq, Nat.reduceSub, Int.reduceToNat] <;> exact rfl) | ((first | apply ow_spec | apply qw_spec); · simp only [push_cast, env, Nat.reduceEqDiff, reduceIte, Nat.reduceAdd, Nat.reduceMul, Nat.reduceLeDiff, reduceCtorEq, Nat.reduceSub, Int.reduceToNat] <;> exact rfl) | refine qw_nil ?_ | refine cw_block ?_ | refine cw_scope ?_ | refine cw_label ?_ | refine cw_skip ?_)
    refine cw_ret ?_
    exact ⟨_, (by simp only [push_cast, env, Nat.reduceEqDiff, reduceIte, Nat.reduceAdd, Nat.reduceMul, Nat.reduceLeDiff, reduceCtorEq, Nat.reduceSub, Int.reduceToNat] <;> exact rfl), ⟨_, by rw [e0]; rfl, .inl ⟨hb, rfl⟩⟩, hp1⟩
  have e0 : rightG g = 0 := if_neg hb
  have R := rightS hb
  have n1 := R.n1
  have n2 := R.n2
  rw [e0]
  repeat (first | refine cw_seq ?_ | refine cw_region ?_ | refine ow_nil ?_ | ((first | apply ow_cons | apply qw_cons); · simp only [push_cast, env, Nat.reduceEqDiff, reduceIte, Nat.reduceAdd, Nat.reduceMul, Nat.reduceLeDiff, reduceCtorEq, Nat.reduceSub, Int.reduceToNat] <;> exact rfl) | ((first | apply ow_spec | apply qw_spec); · simp only [push_cast, env, Nat.reduceEqDiff, reduceIte, Nat.reduceAdd, Nat.reduceMul, Nat.reduceLeDiff, reduceCtorEq, Nat.reduceSub, Int.reduceToNat] <;> exact rfl) | refine qw_nil ?_ | refine cw_block ?_ | refine cw_scope ?_ | refine cw_label ?_ | refine cw_skip ?_)
  refine cw_condF (by simp only [push_cast, env, Nat.reduceEqDiff, reduceIte, Nat.reduceAdd, Nat.reduceMul, Nat.reduceLeDiff, reduceCtorEq, Nat.reduceSub, Int.reduceToNat] <;> exact rfl) ?_
  obtain ⟨N, hN⟩ : ∃ N : Nat, g.nts = N := ⟨g.nts.toNat, by omega⟩
  have hml : m.length = N := by have := hm.1; omega
  repeat (first | refine cw_seq ?_ | refine cw_region ?_ | refine ow_nil ?_ | ((first | apply ow_cons | apply qw_cons); · simp only [push_cast, env, Nat.reduceEqDiff, reduceIte, Nat.reduceAdd, Nat.reduceMul, Nat.reduceLeDiff, reduceCtorEq, Nat.reduceSub, Int.reduceToNat] <;> exact rfl) | ((first | apply ow_spec | apply qw_spec); · simp only [push_cast, env, Nat.reduceEqDiff, reduceIte, Nat.reduceAdd, Nat.reduceMul, Nat.reduceLeDiff, reduceCtorEq, Nat.reduceSub, Int.reduceToNat] <;> exact rfl) | refine qw_nil ?_ | refine cw_block ?_ | refine cw_scope ?_ | refine cw_label ?_ | refine cw_skip ?_)
  refine ow_mkSet (N := N) (by simp only [push_cast, env, Nat.reduceEqDiff, reduceIte, Nat.reduceAdd, Nat.reduceMul, Nat.reduceLeDiff, reduceCtorEq, Nat.reduceSub, Int.reduceToNat] <;> exact rfl) rfl (by simp only [push_cast, env, Nat.reduceEqDiff, reduceIte, Nat.reduceAdd, Nat.reduceMul, Nat.reduceLeDiff, reduceCtorEq, Nat.reduceSub, Int.reduceToNat] <;> exact rfl) hN (by omega) ?_
  repeat (first | refine cw_seq ?_ | refine cw_region ?_ | refine ow_nil ?_ | ((first | apply ow_cons | apply qw_cons); · simp only [push_cast, env, Nat.reduceEqDiff, reduceIte, Nat.reduceAdd, Nat.reduceMul, Nat.reduceLeDiff, reduceCtorEq, Nat.reduceSub, Int.reduceToNat] <;> exact rfl) | ((first | apply ow_spec | apply qw_spec); · simp only [push_cast, env, Nat.reduceEqDiff, reduceIte, Nat.reduceAdd, Nat.reduceMul, Nat.reduceLeDiff, reduceCtorEq, Nat.reduceSub, Int.reduceToNat] <;> exact rfl) | refine qw_nil ?_ | refine cw_block ?_ | refine cw_scope ?_ | refine cw_label ?_ | refine cw_skip ?_)
  refine cw_wh (fun x : FG => 2 * room x.out + x.ch.toNat) (fun x => [(1, .box [i64 g.nts, i64 g.start, .slice p g.rules.length c]), (4, .val (.slice (some ⟨idm, 0, some verm⟩) m.length m.length)), (6, .val (.slice (some ⟨h1.length, 0, some 0⟩) N N)), (7, .val (.bool x.ch))]) (fun x => x.hk)
    (fun x => FGI h1 h1.length x ∧ FInv g (nullD g) x.out ∧ (x.ch = false → ∀ r ∈ g.rules, FClosed (nullD g) x.out r (sget x.out r.lhs))) ⟨_, List.replicate N BSet.zero, true⟩ (by simp only [push_cast, SubL, fget, Nat.reduceEqDiff, reduceIte]) rfl ⟨⟨prefix_push, get_push⟩, ⟨by simp [hN], fun i _ _ => by rw [sget_rep]; exact zero_wf, fun i _ _ b _ hh => by rw [sget_rep, zero_has] at hh; cases hh⟩, by simp⟩ ?_
  rintro ⟨hk0, out0, ch0⟩ ⟨⟨hp0, ho0⟩, hI0, hc0⟩
  simp only at hp0 ho0 hI0 hc0 ⊢
  have hn0 := hI0.n
  cases ch0 with
  | false =>
    repeat (first | refine cw_seq ?_ | refine cw_region ?_ | refine ow_nil ?_ | ((first | apply ow_cons | apply qw_cons); · simp only [push_cast, env, Nat.reduceEqDiff, reduceIte, Nat.reduceAdd, Nat.reduceMul, Nat.reduceLeDiff, reduceCtorEq, Nat.reduceSub, Int.reduceToNat] <;> exact rfl) | ((first | apply ow_spec | apply qw_spec); · simp only [push_cast, env, Nat.reduceEqDiff, reduceIte, Nat.reduceAdd, Nat.reduceMul, Nat.reduceLeDiff, reduceCtorEq, Nat.reduceSub, Int.reduceToNat] <;> exact rfl) | refine qw_nil ?_ | refine cw_block ?_ | refine cw_scope ?_ | refine cw_label ?_ | refine cw_skip ?_)
    refine cw_condF (by simp only [push_cast, env, Nat.reduceEqDiff, reduceIte, Nat.reduceAdd, Nat.reduceMul, Nat.reduceLeDiff, reduceCtorEq, Nat.reduceSub, Int.reduceToNat] <;> exact rfl) ?_
    refine cw_exit ?_
    show CW _ _ _ _
    repeat (first | refine cw_seq ?_ | refine cw_region ?_ | refine ow_nil ?_ | ((first | apply ow_cons | apply qw_cons); · simp only [push_cast, env, Nat.reduceEqDiff, reduceIte, Nat.reduceAdd, Nat.reduceMul, Nat.reduceLeDiff, reduceCtorEq, Nat.reduceSub, Int.reduceToNat] <;> exact rfl) | ((first | apply ow_spec | apply qw_spec); · simp only [push_cast, env, Nat.reduceEqDiff, reduceIte, Nat.reduceAdd, Nat.reduceMul, Nat.reduceLeDiff, reduceCtorEq, Nat.reduceSub, Int.reduceToNat] <;> exact rfl) | refine qw_nil ?_ | refine cw_block ?_ | refine cw_scope ?_ | refine cw_label ?_ | refine cw_skip ?_)
    refine cw_ret ?_
    refine ⟨_, (by simp only [push_cast, env, Nat.reduceEqDiff, reduceIte, Nat.reduceAdd, Nat.reduceMul, Nat.reduceLeDiff, reduceCtorEq, Nat.reduceSub, Int.reduceToNat] <;> exact rfl), ⟨_, by rw [e0]; rfl, .inr ⟨hb, out0, hI0.fin R (hc0 rfl), h1.length, 0, hp1.length_le, ?_, ho0⟩⟩, hp1.trans hp0⟩
    rw [show out0.length = N by omega]
  | true =>
  repeat (first | refine cw_seq ?_ | refine cw_region ?_ | refine ow_nil ?_ | ((first | apply ow_cons | apply qw_cons); · simp only [push_cast, env, Nat.reduceEqDiff, reduceIte, Nat.reduceAdd, Nat.reduceMul, Nat.reduceLeDiff, reduceCtorEq, Nat.reduceSub, Int.reduceToNat] <;> exact rfl) | ((first | apply ow_spec | apply qw_spec); · simp only [push_cast, env, Nat.reduceEqDiff, reduceIte, Nat.reduceAdd, Nat.reduceMul, Nat.reduceLeDiff, reduceCtorEq, Nat.reduceSub, Int.reduceToNat] <;> exact rfl) | refine qw_nil ?_ | refine cw_block ?_ | refine cw_scope ?_ | refine cw_label ?_ | refine cw_skip ?_)
  refine cw_condT (by simp only [push_cast, env, Nat.reduceEqDiff, reduceIte, Nat.reduceAdd, Nat.reduceMul, Nat.reduceLeDiff, reduceCtorEq, Nat.reduceSub, Int.reduceToNat] <;> exact rfl) ?_
  repeat (first | refine cw_seq ?_ | refine cw_region ?_ | refine ow_nil ?_ | ((first | apply ow_cons | apply qw_cons); · simp only [push_cast, env, Nat.reduceEqDiff, reduceIte, Nat.reduceAdd, Nat.reduceMul, Nat.reduceLeDiff, reduceCtorEq, Nat.reduceSub, Int.reduceToNat] <;> exact rfl) | ((first | apply ow_spec | apply qw_spec); · simp only [push_cast, env, Nat.reduceEqDiff, reduceIte, Nat.reduceAdd, Nat.reduceMul, Nat.reduceLeDiff, reduceCtorEq, Nat.reduceSub, Int.reduceToNat] <;> exact rfl) | refine qw_nil ?_ | refine cw_block ?_ | refine cw_scope ?_ | refine cw_label ?_ | refine cw_skip ?_)
  refine cw_forG g.rules.length (fun k (x : FG) => [(1, .box [i64 g.nts, i64 g.start, .slice p g.rules.length c]), (4, .val (.slice (some ⟨idm, 0, some verm⟩) m.length m.length)), (6, .val (.slice (some ⟨h1.length, 0, some 0⟩) N N)), (7, .val (.bool x.ch)), (26, .val (.slice p g.rules.length c)), (27, .val (i64 g.rules.length)), (28, .val (i64 k))]) (fun _ x => x.hk)
    (fun k x => FGI h1 h1.length x ∧ FInv g (nullD g) x.out ∧ room x.out ≤ room out0 ∧ (x.ch = true → room x.out < room out0) ∧ (x.ch = false → ∀ r ∈ g.rules.take k, FClosed (nullD g) x.out r (sget x.out r.lhs))) ⟨hk0, out0, false⟩ (by simp only [push_cast, SubL, fget, Nat.reduceEqDiff, reduceIte]) rfl ⟨⟨hp0, ho0⟩, hI0, Nat.le_refl _, by simp, by simp⟩ ?_
  rintro k ⟨hk, out, ch⟩ hkn ⟨⟨hp, ho⟩, hI, hle1, hch1, hcl⟩
  simp only at hp ho hI hle1 hch1 hcl ⊢
  have hn := hI.n
  by_cases hlt : k < g.rules.length
  · obtain ⟨id, ver, own, c', cells, p', n', c2, hv, hid, hn, hrd, hu'⟩ := hu.at hlt
    cases hv
    subst hn
    have e0 := rdH_get0 hrd (by omega)
    have e0' := rdH_get (j := 1) hrd (by omega)
    simp only [List.getElem?_cons_succ, List.getElem?_cons_zero] at e0 e0'
    have e1 := rng hlt
    have e2 := inc hlt hle
    have e3 := lt_dec hlt
    have hmem : g.rules[k] ∈ _ := List.getElem_mem hlt
    have hn2 := RdSyms.le hu'
    obtain ⟨a1, a2, a3, hS⟩ := R.r _ hmem
    have hid2 := getElem?_prefix (hp1.trans hp) hid
    have r1 := rng0 (N := N) a1 (by omega)
    have sl := sget_cells (l := out) a1 (by omega)
    repeat (first | refine cw_seq ?_ | refine cw_region ?_ | refine ow_nil ?_ | ((first | apply ow_cons | apply qw_cons); · simp only [push_cast, env, Nat.reduceEqDiff, reduceIte, Nat.reduceAdd, Nat.reduceMul, Nat.reduceLeDiff, reduceCtorEq, Nat.reduceSub, Int.reduceToNat, e1, hid2, hrd, e3] <;> exact rfl) | ((first | apply ow_spec | apply qw_spec); · simp only [push_cast, env, Nat.reduceEqDiff, reduceIte, Nat.reduceAdd, Nat.reduceMul, Nat.reduceLeDiff, reduceCtorEq, Nat.reduceSub, Int.reduceToNat, e1, hid2, hrd, e3] <;> exact rfl) | refine qw_nil ?_ | refine cw_block ?_ | refine cw_scope ?_ | refine cw_label ?_ | refine cw_skip ?_)
    refine cw_condT (by simp only [push_cast, env, Nat.reduceEqDiff, reduceIte, Nat.reduceAdd, Nat.reduceMul, Nat.reduceLeDiff, reduceCtorEq, Nat.reduceSub, Int.reduceToNat] <;> exact rfl) ?_
    repeat (first | refine cw_seq ?_ | refine cw_region ?_ | refine ow_nil ?_ | ((first | apply ow_cons | apply qw_cons); · simp only [push_cast, env, Nat.reduceEqDiff, reduceIte, Nat.reduceAdd, Nat.reduceMul, Nat.reduceLeDiff, reduceCtorEq, Nat.reduceSub, Int.reduceToNat, e1, hid2, hrd, r1, ho, sl] <;> exact rfl) | ((first | apply ow_spec | apply qw_spec); · simp only [push_cast, env, Nat.reduceEqDiff, reduceIte, Nat.reduceAdd, Nat.reduceMul, Nat.reduceLeDiff, reduceCtorEq, Nat.reduceSub, Int.reduceToNat, e1, hid2, hrd, r1, ho, sl] <;> exact rfl) | refine qw_nil ?_ | refine cw_block ?_ | refine cw_scope ?_ | refine cw_label ?_ | refine cw_skip ?_)
    refine CW.mono (Q := fun e s' => e = .exit 4 ∧ s'.h = hk ∧ ∃ s : BSet, SubL [(1, .box [i64 g.nts, i64 g.start, .slice (some ⟨id, 0, some ver⟩) g.rules.length c]), (4, .val (.slice (some ⟨idm, 0, some verm⟩) m.length m.length)), (6, .val (.slice (some ⟨h1.length, 0, some 0⟩) N N)), (7, .val (.bool ch)), (9, .box [i64 g.rules[k].lhs, .slice p' g.rules[k].rhs.length c2]), (10, .box [u64 s.a, u64 s.b, u64 s.c, u64 s.d]), (26, .val (.slice (some ⟨id, 0, some ver⟩) g.rules.length c)), (27, .val (i64 g.rules.length)), (28, .val (i64 k))] s'.fr ∧
      SetWf s ∧ SLe (sget out g.rules[k].lhs) s ∧ (∀ b, b < 256 → s.has b = true → Fst g.rules (nullD g) b g.rules[k].lhs) ∧ FClosed (nullD g) out g.rules[k] s) ?_ ?_
    · refine cw_forG g.rules[k].rhs.length (fun j (s : BSet) => [(1, .box [i64 g.nts, i64 g.start, .slice (some ⟨id, 0, some ver⟩) g.rules.length c]), (4, .val (.slice (some ⟨idm, 0, some verm⟩) m.length m.length)), (6, .val (.slice (some ⟨h1.length, 0, some 0⟩) N N)), (7, .val (.bool ch)), (9, .box [i64 g.rules[k].lhs, .slice p' g.rules[k].rhs.length c2]), (10, .box [u64 s.a, u64 s.b, u64 s.c, u64 s.d]), (26, .val (.slice (some ⟨id, 0, some ver⟩) g.rules.length c)), (27, .val (i64 g.rules.length)), (28, .val (i64 k)), (38, .val (.slice p' g.rules[k].rhs.length c2)), (39, .val (i64 g.rules[k].rhs.length)), (40, .val (i64 j))]) (fun _ _ => hk)
        (fun j s => FPre g (nullD g) out g.rules[k] j s ∧ ∀ x ∈ g.rules[k].rhs.take j, NullS (nullD g) x) (sget out g.rules[k].lhs) (by simp only [push_cast, SubL, fget, Nat.reduceEqDiff, reduceIte]) rfl ⟨.start R hI hmem, by simp⟩ ?_
      rintro j s hjn ⟨hP, hnl⟩
      by_cases hjl : j < g.rules[k].rhs.length
      · obtain ⟨id2, ver2, own2, c3, cells2, hv2, hid2, hrd2⟩ := hu'.at hjl
        cases hv2
        have e9 := rng hjl
        have e10 := inc hjl (by omega)
        have e11 := lt_dec hjl
        have g0 := rdH_get0 hrd2 (by omega)
        simp only [List.getElem?_cons_zero] at g0
        have hmem2 : g.rules[k].rhs[j] ∈ _ := List.getElem_mem hjl
        have hid4 := getElem?_prefix (hp1.trans hp) hid2
        have hs2 := hS _ hmem2
        have hws : SetWf (symSet out g.rules[k].rhs[j]) := by
          unfold symSet
          split
          · exact hW _ hmem _ hmem2
          · exact hI.wf _ (by omega) (by omega)
        have hstep := hP.step R hW hI hmem hjl hnl
        repeat (first | refine cw_seq ?_ | refine cw_region ?_ | refine ow_nil ?_ | ((first | apply ow_cons | apply qw_cons); · simp only [push_cast, env, Nat.reduceEqDiff, reduceIte, Nat.reduceAdd, Nat.reduceMul, Nat.reduceLeDiff, reduceCtorEq, Nat.reduceSub, Int.reduceToNat, e9, hid4, hrd2, e11] <;> exact rfl) | ((first | apply ow_spec | apply qw_spec); · simp only [push_cast, env, Nat.reduceEqDiff, reduceIte, Nat.reduceAdd, Nat.reduceMul, Nat.reduceLeDiff, reduceCtorEq, Nat.reduceSub, Int.reduceToNat, e9, hid4, hrd2, e11] <;> exact rfl) | refine qw_nil ?_ | refine cw_block ?_ | refine cw_scope ?_ | refine cw_label ?_ | refine cw_skip ?_)
        refine cw_condT (by simp only [push_cast, env, Nat.reduceEqDiff, reduceIte, Nat.reduceAdd, Nat.reduceMul, Nat.reduceLeDiff, reduceCtorEq, Nat.reduceSub, Int.reduceToNat] <;> exact rfl) ?_
        repeat (first | refine cw_seq ?_ | refine cw_region ?_ | refine ow_nil ?_ | ((first | apply ow_cons | apply qw_cons); · simp only [push_cast, env, Nat.reduceEqDiff, reduceIte, Nat.reduceAdd, Nat.reduceMul, Nat.reduceLeDiff, reduceCtorEq, Nat.reduceSub, Int.reduceToNat, e9, hid4, hrd2] <;> exact rfl) | ((first | apply ow_spec | apply qw_spec); · simp only [push_cast, env, Nat.reduceEqDiff, reduceIte, Nat.reduceAdd, Nat.reduceMul, Nat.reduceLeDiff, reduceCtorEq, Nat.reduceSub, Int.reduceToNat, e9, hid4, hrd2] <;> exact rfl) | refine qw_nil ?_ | refine cw_block ?_ | refine cw_scope ?_ | refine cw_label ?_ | refine cw_skip ?_)
        refine cw_cond (by simp only [push_cast, env, Nat.reduceEqDiff, reduceIte, Nat.reduceAdd, Nat.reduceMul, Nat.reduceLeDiff, reduceCtorEq, Nat.reduceSub, Int.reduceToNat] <;> exact rfl) (fun b1 => ?_) (fun b1 => ?_)
        · have b1 : g.rules[k].rhs[j].nt < 0 := by simpa using b1
          repeat (first | refine cw_seq ?_ | refine cw_region ?_ | refine ow_nil ?_ | ((first | apply ow_cons | apply qw_cons); · simp only [push_cast, env, Nat.reduceEqDiff, reduceIte, Nat.reduceAdd, Nat.reduceMul, Nat.reduceLeDiff, reduceCtorEq, Nat.reduceSub, Int.reduceToNat] <;> exact rfl) | ((first | apply ow_spec | apply qw_spec); · simp only [push_cast, env, Nat.reduceEqDiff, reduceIte, Nat.reduceAdd, Nat.reduceMul, Nat.reduceLeDiff, reduceCtorEq, Nat.reduceSub, Int.reduceToNat] <;> exact rfl) | refine qw_nil ?_ | refine cw_block ?_ | refine cw_scope ?_ | refine cw_label ?_ | refine cw_skip ?_)
          refine ow_call (fn := Try.f39) (by simp only [push_cast, env, Nat.reduceEqDiff, reduceIte, Nat.reduceAdd, Nat.reduceMul, Nat.reduceLeDiff, reduceCtorEq, Nat.reduceSub, Int.reduceToNat] <;> exact rfl) rfl (by simp only [push_cast, env, Nat.reduceEqDiff, reduceIte, Nat.reduceAdd, Nat.reduceMul, Nat.reduceLeDiff, reduceCtorEq, Nat.reduceSub, Int.reduceToNat] <;> exact rfl) (by simp only [push_cast, env, Nat.reduceEqDiff, reduceIte, Nat.reduceAdd, Nat.reduceMul, Nat.reduceLeDiff, reduceCtorEq, Nat.reduceSub, Int.reduceToNat] <;> exact rfl) Try.func39 (by kernel_rfl) (by kernel_rfl) ?_
          rw [List.append_nil]
          refine (union_fw (t := g.rules[k].rhs[j].set) hP.wf (hW _ hmem _ hmem2)).mono ?_
          rintro _ h2 ⟨rfl, rfl⟩
          repeat (first | refine cw_seq ?_ | refine cw_region ?_ | refine ow_nil ?_ | ((first | apply ow_cons | apply qw_cons); · simp only [push_cast, env, Nat.reduceEqDiff, reduceIte, Nat.reduceAdd, Nat.reduceMul, Nat.reduceLeDiff, reduceCtorEq, Nat.reduceSub, Int.reduceToNat] <;> exact rfl) | ((first | apply ow_spec | apply qw_spec); · simp only [push_cast, env, Nat.reduceEqDiff, reduceIte, Nat.reduceAdd, Nat.reduceMul, Nat.reduceLeDiff, reduceCtorEq, Nat.reduceSub, Int.reduceToNat] <;> exact rfl) | refine qw_nil ?_ | refine cw_block ?_ | refine cw_scope ?_ | refine cw_label ?_ | refine cw_skip ?_)
          refine cw_exit ?_
          have e : symSet out g.rules[k].rhs[j] = g.rules[k].rhs[j].set := if_pos b1
          rw [e] at hstep
          have hcl2 := hstep.stop hjl (fun hn => by have := hn.1; omega)
          exact ⟨rfl, rfl, s.union g.rules[k].rhs[j].set, (by simp only [push_cast, SubL, fget, Nat.reduceEqDiff, reduceIte, BSet.union]), hstep.wf, hstep.le, hstep.so, hcl2⟩
        · have b1 : ¬ g.rules[k].rhs[j].nt < 0 := by simpa using b1
          have h0 : 0 ≤ g.rules[k].rhs[j].nt := by omega
          have q1 := rng0 (N := N) h0 (by omega)
          have q3 := rng0 (N := m.length) h0 (by omega)
          have sl2 := sget_cells (l := out) h0 (by omega)
          have hgm2 := getElem?_prefix hp hgm
          have qb := bit_map (m := m) h0 (by omega)
          have e : symSet out g.rules[k].rhs[j] = sget out g.rules[k].rhs[j].nt := if_neg b1
          rw [e] at hstep hws
          repeat (first | refine cw_seq ?_ | refine cw_region ?_ | refine ow_nil ?_ | ((first | apply ow_cons | apply qw_cons); · simp only [push_cast, env, Nat.reduceEqDiff, reduceIte, Nat.reduceAdd, Nat.reduceMul, Nat.reduceLeDiff, reduceCtorEq, Nat.reduceSub, Int.reduceToNat] <;> exact rfl) | ((first | apply ow_spec | apply qw_spec); · simp only [push_cast, env, Nat.reduceEqDiff, reduceIte, Nat.reduceAdd, Nat.reduceMul, Nat.reduceLeDiff, reduceCtorEq, Nat.reduceSub, Int.reduceToNat] <;> exact rfl) | refine qw_nil ?_ | refine cw_block ?_ | refine cw_scope ?_ | refine cw_label ?_ | refine cw_skip ?_)
          refine cw_regionD 6 mixed (by kernel_rfl) ?_
          repeat (first | refine cw_seq ?_ | refine cw_region ?_ | refine ow_nil ?_ | ((first | apply ow_cons | apply qw_cons); · simp only [push_cast, env, Nat.reduceEqDiff, reduceIte, Nat.reduceAdd, Nat.reduceMul, Nat.reduceLeDiff, reduceCtorEq, Nat.reduceSub, Int.reduceToNat, q1, ho, sl2] <;> exact rfl) | ((first | apply ow_spec | apply qw_spec); · simp only [push_cast, env, Nat.reduceEqDiff, reduceIte, Nat.reduceAdd, Nat.reduceMul, Nat.reduceLeDiff, reduceCtorEq, Nat.reduceSub, Int.reduceToNat, q1, ho, sl2] <;> exact rfl) | refine qw_nil ?_ | refine cw_block ?_ | refine cw_scope ?_ | refine cw_label ?_ | refine cw_skip ?_)
          refine ow_call (fn := Try.f39) (by simp only [push_cast, env, Nat.reduceEqDiff, reduceIte, Nat.reduceAdd, Nat.reduceMul, Nat.reduceLeDiff, reduceCtorEq, Nat.reduceSub, Int.reduceToNat] <;> exact rfl) rfl (by simp only [push_cast, env, Nat.reduceEqDiff, reduceIte, Nat.reduceAdd, Nat.reduceMul, Nat.reduceLeDiff, reduceCtorEq, Nat.reduceSub, Int.reduceToNat] <;> exact rfl) (by simp only [push_cast, env, Nat.reduceEqDiff, reduceIte, Nat.reduceAdd, Nat.reduceMul, Nat.reduceLeDiff, reduceCtorEq, Nat.reduceSub, Int.reduceToNat] <;> exact rfl) Try.func39 (by kernel_rfl) (by kernel_rfl) ?_
          rw [List.append_nil]
          refine (union_fw (t := sget out g.rules[k].rhs[j].nt) hP.wf hws).mono ?_
          rintro _ h2 ⟨rfl, rfl⟩
          repeat (first | refine cw_seq ?_ | refine cw_region ?_ | refine ow_nil ?_ | ((first | apply ow_cons | apply qw_cons); · simp only [push_cast, env, Nat.reduceEqDiff, reduceIte, Nat.reduceAdd, Nat.reduceMul, Nat.reduceLeDiff, reduceCtorEq, Nat.reduceSub, Int.reduceToNat, q3, hgm2, qb, Nat.mul_one] <;> exact rfl) | ((first | apply ow_spec | apply qw_spec); · simp only [push_cast, env, Nat.reduceEqDiff, reduceIte, Nat.reduceAdd, Nat.reduceMul, Nat.reduceLeDiff, reduceCtorEq, Nat.reduceSub, Int.reduceToNat, q3, hgm2, qb, Nat.mul_one] <;> exact rfl) | refine qw_nil ?_ | refine cw_block ?_ | refine cw_scope ?_ | refine cw_label ?_ | refine cw_skip ?_)
          refine cw_cond (by simp only [push_cast, env, Nat.reduceEqDiff, reduceIte, Nat.reduceAdd, Nat.reduceMul, Nat.reduceLeDiff, reduceCtorEq, Nat.reduceSub, Int.reduceToNat] <;> exact rfl) (fun b2 => ?_) (fun b2 => ?_)
          · have b2 : bit m g.rules[k].rhs[j].nt = false := by simpa using b2
            refine cw_exit ?_
            have hcl2 := hstep.stop hjl (fun hn => by rw [(hm.2 _ h0 (by omega)).2 hn.2] at b2; cases b2)
            exact ⟨rfl, rfl, s.union (sget out g.rules[k].rhs[j].nt), (by simp only [push_cast, SubL, fget, Nat.reduceEqDiff, reduceIte, BSet.union]), hstep.wf, hstep.le, hstep.so, hcl2⟩
          · have b2 : bit m g.rules[k].rhs[j].nt = true := by simpa using b2
            repeat (first | refine cw_seq ?_ | refine cw_region ?_ | refine ow_nil ?_ | ((first | apply ow_cons | apply qw_cons); · simp only [push_cast, env, Nat.reduceEqDiff, reduceIte, Nat.reduceAdd, Nat.reduceMul, Nat.reduceLeDiff, reduceCtorEq, Nat.reduceSub, Int.reduceToNat, e10] <;> exact rfl) | ((first | apply ow_spec | apply qw_spec); · simp only [push_cast, env, Nat.reduceEqDiff, reduceIte, Nat.reduceAdd, Nat.reduceMul, Nat.reduceLeDiff, reduceCtorEq, Nat.reduceSub, Int.reduceToNat, e10] <;> exact rfl) | refine qw_nil ?_ | refine cw_block ?_ | refine cw_scope ?_ | refine cw_label ?_ | refine cw_skip ?_)
            refine ⟨hjl, s.union (sget out g.rules[k].rhs[j].nt), (by simp only [push_cast, SubL, fget, Nat.reduceEqDiff, reduceIte, BSet.union]), rfl, hstep, fun x hx => ?_⟩
            rw [List.take_succ_eq_append_getElem hjl, List.mem_append] at hx
            rcases hx with hx | hx
            · exact hnl x hx
            · obtain rfl : x = _ := by simpa using hx
              exact ⟨h0, (hm.2 _ h0 (by omega)).1 b2⟩
      · have e11 := ge_dec hjl
        obtain rfl : j = g.rules[k].rhs.length := by omega
        repeat (first | refine cw_seq ?_ | refine cw_region ?_ | refine ow_nil ?_ | ((first | apply ow_cons | apply qw_cons); · simp only [push_cast, env, Nat.reduceEqDiff, reduceIte, Nat.reduceAdd, Nat.reduceMul, Nat.reduceLeDiff, reduceCtorEq, Nat.reduceSub, Int.reduceToNat, e11] <;> exact rfl) | ((first | apply ow_spec | apply qw_spec); · simp only [push_cast, env, Nat.reduceEqDiff, reduceIte, Nat.reduceAdd, Nat.reduceMul, Nat.reduceLeDiff, reduceCtorEq, Nat.reduceSub, Int.reduceToNat, e11] <;> exact rfl) | refine qw_nil ?_ | refine cw_block ?_ | refine cw_scope ?_ | refine cw_label ?_ | refine cw_skip ?_)
        refine cw_condF (by simp only [push_cast, env, Nat.reduceEqDiff, reduceIte, Nat.reduceAdd, Nat.reduceMul, Nat.reduceLeDiff, reduceCtorEq, Nat.reduceSub, Int.reduceToNat] <;> exact rfl) ?_
        refine cw_exit ?_
        exact ⟨rfl, rfl, s, (by simp only [push_cast, SubL, fget, Nat.reduceEqDiff, reduceIte]), hP.wf, hP.le, hP.so, hP.all⟩
    rintro e s' ⟨rfl, hh, s, hf, hw, hle2, hso, hcl2⟩
    show CW _ _ _ _
    refine cw_weakL _ hf ?_
    rw [hh]
    have hwl := hI.wf _ a1 a2
    repeat (first | refine cw_seq ?_ | refine cw_region ?_ | refine ow_nil ?_ | ((first | apply ow_cons | apply qw_cons); · simp only [push_cast, env, Nat.reduceEqDiff, reduceIte, Nat.reduceAdd, Nat.reduceMul, Nat.reduceLeDiff, reduceCtorEq, Nat.reduceSub, Int.reduceToNat] <;> exact rfl) | ((first | apply ow_spec | apply qw_spec); · simp only [push_cast, env, Nat.reduceEqDiff, reduceIte, Nat.reduceAdd, Nat.reduceMul, Nat.reduceLeDiff, reduceCtorEq, Nat.reduceSub, Int.reduceToNat] <;> exact rfl) | refine qw_nil ?_ | refine cw_block ?_ | refine cw_scope ?_ | refine cw_label ?_ | refine cw_skip ?_)
    refine cw_regionD 6 mixed (by kernel_rfl) ?_
    repeat (first | refine cw_seq ?_ | refine cw_region ?_ | refine ow_nil ?_ | ((first | apply ow_cons | apply qw_cons); · simp only [push_cast, env, Nat.reduceEqDiff, reduceIte, Nat.reduceAdd, Nat.reduceMul, Nat.reduceLeDiff, reduceCtorEq, Nat.reduceSub, Int.reduceToNat, r1, ho, sl, set_eq2] <;> exact rfl) | ((first | apply ow_spec | apply qw_spec); · simp only [push_cast, env, Nat.reduceEqDiff, reduceIte, Nat.reduceAdd, Nat.reduceMul, Nat.reduceLeDiff, reduceCtorEq, Nat.reduceSub, Int.reduceToNat, r1, ho, sl, set_eq2] <;> exact rfl) | refine qw_nil ?_ | refine cw_block ?_ | refine cw_scope ?_ | refine cw_label ?_ | refine cw_skip ?_)
    refine cw_cond (by simp only [push_cast, env, Nat.reduceEqDiff, reduceIte, Nat.reduceAdd, Nat.reduceMul, Nat.reduceLeDiff, reduceCtorEq, Nat.reduceSub, Int.reduceToNat] <;> exact rfl) (fun b1 => ?_) (fun b1 => ?_)
    · have b1 : s ≠ sget out g.rules[k].lhs := by simpa using b1
      repeat (first | refine cw_seq ?_ | refine cw_region ?_ | refine ow_nil ?_ | ((first | apply ow_cons | apply qw_cons); · simp only [push_cast, env, Nat.reduceEqDiff, reduceIte, Nat.reduceAdd, Nat.reduceMul, Nat.reduceLeDiff, reduceCtorEq, Nat.reduceSub, Int.reduceToNat, r1] <;> exact rfl) | ((first | apply ow_spec | apply qw_spec); · simp only [push_cast, env, Nat.reduceEqDiff, reduceIte, Nat.reduceAdd, Nat.reduceMul, Nat.reduceLeDiff, reduceCtorEq, Nat.reduceSub, Int.reduceToNat, r1] <;> exact rfl) | refine qw_nil ?_ | refine cw_block ?_ | refine cw_scope ?_ | refine cw_label ?_ | refine cw_skip ?_)
      refine ow_stoH (by simp only [push_cast, env, Nat.reduceEqDiff, reduceIte, Nat.reduceAdd, Nat.reduceMul, Nat.reduceLeDiff, reduceCtorEq, Nat.reduceSub, Int.reduceToNat] <;> exact rfl) rfl rfl (by simp only [push_cast, env, Nat.reduceEqDiff, reduceIte, Nat.reduceAdd, Nat.reduceMul, Nat.reduceLeDiff, reduceCtorEq, Nat.reduceSub, Int.reduceToNat] <;> exact rfl) (by simp only [push_cast, env, Nat.reduceEqDiff, reduceIte, Nat.reduceAdd, Nat.reduceMul, Nat.reduceLeDiff, reduceCtorEq, Nat.reduceSub, Int.reduceToNat, r1] <;> exact rfl) ho rfl rfl (wr_flat (f := BSet.cells) (fun _ => rfl) (x := s) (by omega)) ?_
      repeat (first | refine cw_seq ?_ | refine cw_region ?_ | refine ow_nil ?_ | ((first | apply ow_cons | apply qw_cons); · simp only [push_cast, env, Nat.reduceEqDiff, reduceIte, Nat.reduceAdd, Nat.reduceMul, Nat.reduceLeDiff, reduceCtorEq, Nat.reduceSub, Int.reduceToNat, e2] <;> exact rfl) | ((first | apply ow_spec | apply qw_spec); · simp only [push_cast, env, Nat.reduceEqDiff, reduceIte, Nat.reduceAdd, Nat.reduceMul, Nat.reduceLeDiff, reduceCtorEq, Nat.reduceSub, Int.reduceToNat, e2] <;> exact rfl) | refine qw_nil ?_ | refine cw_block ?_ | refine cw_scope ?_ | refine cw_label ?_ | refine cw_skip ?_)
      have hlt2 : room (out.set g.rules[k].lhs.toNat s) < room out := room_set (by omega) (by have := card_lt hwl hw hle2 b1; rwa [sget_get a1 (by omega)] at this)
      refine ⟨hlt, ⟨hk.set h1.length (.arr ((out.set g.rules[k].lhs.toNat s).flatMap BSet.cells) 0 true 45), out.set g.rules[k].lhs.toNat s, true⟩, (by simp only [push_cast, SubL, fget, Nat.reduceEqDiff, reduceIte]), rfl, ⟨pre_set hp (Nat.le_refl _), get_set_self ho⟩, ⟨by simp [hn], fun i h0 h1 => ?_, fun i h0 h1 b hb hh => ?_⟩, by simp only; omega, fun _ => by simp only; omega, fun h => by cases h⟩
      · rw [sget_set a1 (by omega) h0]
        split
        · exact hw
        · exact hI.wf i h0 h1
      · rw [sget_set a1 (by omega) h0] at hh
        split at hh
        · rename_i e
          exact e ▸ hso b hb hh
        · exact hI.s i h0 h1 b hb hh
    · have b1 : s = sget out g.rules[k].lhs := by simpa using b1
      repeat (first | refine cw_seq ?_ | refine cw_region ?_ | refine ow_nil ?_ | ((first | apply ow_cons | apply qw_cons); · simp only [push_cast, env, Nat.reduceEqDiff, reduceIte, Nat.reduceAdd, Nat.reduceMul, Nat.reduceLeDiff, reduceCtorEq, Nat.reduceSub, Int.reduceToNat, e2] <;> exact rfl) | ((first | apply ow_spec | apply qw_spec); · simp only [push_cast, env, Nat.reduceEqDiff, reduceIte, Nat.reduceAdd, Nat.reduceMul, Nat.reduceLeDiff, reduceCtorEq, Nat.reduceSub, Int.reduceToNat, e2] <;> exact rfl) | refine qw_nil ?_ | refine cw_block ?_ | refine cw_scope ?_ | refine cw_label ?_ | refine cw_skip ?_)
      refine ⟨hlt, ⟨hk, out, ch⟩, (by simp only [push_cast, SubL, fget, Nat.reduceEqDiff, reduceIte]), rfl, ⟨hp, ho⟩, hI, hle1, hch1, fun hc r hr => ?_⟩
      rw [List.take_succ_eq_append_getElem hlt, List.mem_append] at hr
      rcases hr with hr | hr
      · exact hcl hc r hr
      · obtain rfl : r = _ := by simpa using hr
        exact b1 ▸ hcl2
  · have e3 := ge_dec hlt
    obtain rfl : k = g.rules.length := by omega
    repeat (first | refine cw_seq ?_ | refine cw_region ?_ | refine ow_nil ?_ | ((first | apply ow_cons | apply qw_cons); · simp only [push_cast, env, Nat.reduceEqDiff, reduceIte, Nat.reduceAdd, Nat.reduceMul, Nat.reduceLeDiff, reduceCtorEq, Nat.reduceSub, Int.reduceToNat, e3] <;> exact rfl) | ((first | apply ow_spec | apply qw_spec); · simp only [push_cast, env, Nat.reduceEqDiff, reduceIte, Nat.reduceAdd, Nat.reduceMul, Nat.reduceLeDiff, reduceCtorEq, Nat.reduceSub, Int.reduceToNat, e3] <;> exact rfl) | refine qw_nil ?_ | refine cw_block ?_ | refine cw_scope ?_ | refine cw_label ?_ | refine cw_skip ?_)
    refine cw_condF (by simp only [push_cast, env, Nat.reduceEqDiff, reduceIte, Nat.reduceAdd, Nat.reduceMul, Nat.reduceLeDiff, reduceCtorEq, Nat.reduceSub, Int.reduceToNat] <;> exact rfl) ?_
    refine cw_exit ?_
    rw [List.take_length] at hcl
    refine ⟨⟨hk, out, ch⟩, ?_, (by simp only [push_cast, SubL, fget, Nat.reduceEqDiff, reduceIte]), rfl, ⟨hp, ho⟩, hI, hcl⟩
    cases ch with
    | false => simp; omega
    | true => have := hch1 rfl; simp; omega
end Go.Proofs.Ytnlchlnkibpkaaa

/- From a grammar that a row reads to one of the abstract machine. -/
namespace Go.Proofs.Ytnlchlnkibpkaaa
set_option linter.unusedSimpArgs false
set_option linter.unusedVariables false
open Go.RowKit Am Ty

def RdTs (P : Program) (R : TypeId → List Value → Prop) : List TypeId → List Value → Prop
  | [], vs => vs = []
  | t :: r, vs => ∃ a b, vs = a ++ b ∧ a.length = P.cellsOf t ∧ R t a ∧ RdTs P R r b
theorem fs_types {P : Program} {R : TypeId → List Value → Prop} : ∀ {l : List Field} {vs : List Value}, RdFs P R l vs → RdTs P R (l.map (·.type)) vs
  | [], _, h => h
  | _ :: _, _, ⟨a, b, h1, h2, h3, h4⟩ => ⟨a, b, h1, h2, h3, fs_types h4⟩
theorem es_map {α : Type} {c : Nat} {R : List Value → Prop} {f : α → List Value} {Q : α → Prop} (k : ∀ vs, R vs → ∃ x, vs = f x ∧ Q x) : ∀ {m : Nat} {vs : List Value}, RdEs c R m vs → ∃ l : List α, l.length = m ∧ vs = l.flatMap f ∧ ∀ x ∈ l, Q x
  | 0, vs, h => ⟨[], rfl, h, fun x hx => by cases hx⟩
  | m + 1, vs, ⟨a, b, h1, _, h3, h4⟩ => by
    obtain ⟨x, rfl, hx⟩ := k a h3
    obtain ⟨l, rfl, rfl, hl⟩ := es_map k h4
    refine ⟨x :: l, rfl, by rw [h1]; rfl, fun y hy => ?_⟩
    rcases List.mem_cons.1 hy with rfl | hy
    · exact hx
    · exact hl y hy
theorem rd_struct {h : Heap} {n : Nat} {t : TypeId} {l : List TypeId} {vs : List Value} (hu : Try.prog.underlying t = some (.struct (Try.prog.fieldsOf t))) (hl : (Try.prog.fieldsOf t).toList.map (·.type) = l) (k : RdT Try.prog h (n + 1) t vs) : RdTs Try.prog (RdT Try.prog h n) l vs := by
  unfold RdT at k
  rw [hu] at k
  exact hl ▸ fs_types k
theorem rd_int {h : Heap} {n : Nat} {vs : List Value} (k : RdT Try.prog h n 3 vs) : ∃ i, vs = [i64 i] ∧ (Lit.int .i64 i).wf = true := by
  cases n with
  | zero => exact k.elim
  | succ n =>
    unfold RdT at k
    rw [show Try.prog.underlying 3 = some (.int .i64) by kernel_rfl] at k
    exact k
theorem rd_u64 {h : Heap} {n : Nat} {vs : List Value} (k : RdT Try.prog h n 43 vs) : ∃ i, vs = [u64 i] ∧ WWf i := by
  cases n with
  | zero => exact k.elim
  | succ n =>
    unfold RdT at k
    rw [show Try.prog.underlying 43 = some (.int .u64) by kernel_rfl] at k
    obtain ⟨i, h1, h2⟩ := k
    simp only [Lit.wf, Bool.and_eq_true, decide_eq_true_eq] at h2
    have e1 : IntKind.u64.min = 0 := by decide
    have e2 : IntKind.u64.max = 18446744073709551615 := by decide
    exact ⟨i, h1, by omega, by omega⟩
theorem rd_set {h : Heap} {n : Nat} {vs : List Value} (k : RdT Try.prog h n 45 vs) : ∃ s : BSet, vs = s.cells ∧ SetWf s := by
  cases n with
  | zero => exact k.elim
  | succ n =>
    unfold RdT at k
    rw [show Try.prog.underlying 45 = some (.array 4 43) by kernel_rfl] at k
    obtain ⟨l, hl, rfl, hq⟩ := es_map (f := fun i => [u64 i]) (Q := fun i => WWf i) (fun vs h => rd_u64 h) k
    match l, hl with
    | [a, b, c, d], _ => exact ⟨⟨a, b, c, d⟩, rfl, hq a (by simp), hq b (by simp), hq c (by simp), hq d (by simp)⟩
theorem rd_sym {h : Heap} {n : Nat} {vs : List Value} (k : RdT Try.prog h n 56 vs) : ∃ s : KSym, vs = s.cells ∧ SetWf s.set := by
  cases n with
  | zero => exact k.elim
  | succ n =>
    obtain ⟨a, b, rfl, _, h1, c, d, rfl, _, h2, rfl⟩ := rd_struct (l := [3, 45]) (by kernel_rfl) (by kernel_rfl) k
    obtain ⟨i, rfl, _⟩ := rd_int h1
    obtain ⟨s, rfl, hs⟩ := rd_set h2
    exact ⟨⟨i, s⟩, rfl, hs⟩
theorem rd_syms {h : Heap} {n : Nat} {vs : List Value} (k : RdT Try.prog h n 46 vs) : ∃ u l, vs = [u] ∧ RdSyms h u l ∧ ∀ s ∈ l, SetWf s.set := by
  cases n with
  | zero => exact k.elim
  | succ n =>
    unfold RdT at k
    rw [show Try.prog.underlying 46 = some (.slice 56) by kernel_rfl] at k
    rcases k with rfl | rfl | ⟨id, len, c, cells, rfl, hb, hid, he⟩
    · exact ⟨_, [], rfl, ⟨by simp, .inl ⟨.inl rfl, rfl, rfl⟩⟩, by simp⟩
    · exact ⟨_, [], rfl, ⟨by simp, .inl ⟨.inr rfl, rfl, rfl⟩⟩, by simp⟩
    · obtain ⟨l, rfl, rfl, hq⟩ := es_map (f := KSym.cells) (Q := fun s => SetWf s.set) (fun vs h => rd_sym h) he
      rw [show Try.prog.bytesOf 56 = 40 by kernel_rfl] at hb
      exact ⟨_, l, rfl, ⟨Nat.le_trans hb (by decide), .inr ⟨id, 0, false, c, rfl, hid⟩⟩, hq⟩
theorem rd_rule {h : Heap} {n : Nat} {vs : List Value} (k : RdT Try.prog h n 48 vs) : ∃ p : Rule × Value, vs = [i64 p.1.lhs, p.2] ∧ RdSyms h p.2 p.1.rhs ∧ (∀ s ∈ p.1.rhs, SetWf s.set) ∧ (Lit.int .i64 p.1.lhs).wf = true := by
  cases n with
  | zero => exact k.elim
  | succ n =>
    obtain ⟨a, b, rfl, _, h1, c, d, rfl, _, h2, rfl⟩ := rd_struct (l := [3, 46]) (by kernel_rfl) (by kernel_rfl) k
    obtain ⟨i, rfl, hi⟩ := rd_int h1
    obtain ⟨u, l, rfl, hl, hq⟩ := rd_syms h2
    exact ⟨⟨⟨i, l⟩, u⟩, rfl, hl, hq, hi⟩
theorem zip_fst_snd {α β : Type} : ∀ (z : List (α × β)), (z.map (·.1)).zip (z.map (·.2)) = z
  | [] => rfl
  | (a, b) :: z => by simp [zip_fst_snd z]
theorem rd_rules {h : Heap} {n : Nat} {vs : List Value} (k : RdT Try.prog h n 22 vs) : ∃ u l, vs = [u] ∧ RdRules h u l ∧ ∀ r ∈ l, ∀ s ∈ r.rhs, SetWf s.set := by
  cases n with
  | zero => exact k.elim
  | succ n =>
    unfold RdT at k
    rw [show Try.prog.underlying 22 = some (.slice 48) by kernel_rfl] at k
    rcases k with rfl | rfl | ⟨id, len, c, cells, rfl, hb, hid, he⟩
    · exact ⟨_, [], rfl, ⟨[], rfl, ⟨by simp, .inl ⟨.inl rfl, rfl, rfl⟩⟩, fun i r u h => by simp at h⟩, by simp⟩
    · exact ⟨_, [], rfl, ⟨[], rfl, ⟨by simp, .inl ⟨.inr rfl, rfl, rfl⟩⟩, fun i r u h => by simp at h⟩, by simp⟩
    · obtain ⟨z, rfl, rfl, hz⟩ := es_map (f := fun p : Rule × Value => [i64 p.1.lhs, p.2]) (Q := fun p => RdSyms h p.2 p.1.rhs ∧ ∀ s ∈ p.1.rhs, SetWf s.set) (fun vs h => (rd_rule h).imp fun p k => ⟨k.1, k.2.1, k.2.2.1⟩) he
      rw [show Try.prog.bytesOf 48 = 32 by kernel_rfl] at hb
      refine ⟨_, z.map (·.1), rfl, ⟨z.map (·.2), by simp, ⟨by rw [List.length_map]; exact Nat.le_trans hb (by decide), .inr ⟨id, 0, false, c, by rw [List.length_map], by rw [zip_fst_snd]; exact hid⟩⟩, fun i r u h1 h2 => ?_⟩, fun r hr => ?_⟩
      · rw [List.getElem?_map, Option.map_eq_some_iff] at h1 h2
        obtain ⟨p, h3, rfl⟩ := h1
        obtain ⟨q, h4, rfl⟩ := h2
        obtain rfl := Option.some.inj (h3.symm.trans h4)
        exact (hz p (List.mem_of_getElem? h3)).1
      · rw [List.mem_map] at hr
        obtain ⟨p, hp, rfl⟩ := hr
        exact (hz p hp).2
theorem rd_gram {h : Heap} {n : Nat} {vs : List Value} (k : RdT Try.prog h n 24 vs) : ∃ g : Gram, RdGram h (.agg vs.toArray) g ∧ (Lit.int .i64 g.nts).wf = true ∧ (Lit.int .i64 g.start).wf = true ∧ WfG g := by
  cases n with
  | zero => exact k.elim
  | succ n =>
    obtain ⟨a, b, rfl, _, h1, c, d, rfl, _, h2, e, f, rfl, _, h3, rfl⟩ := rd_struct (l := [3, 3, 22]) (by kernel_rfl) (by kernel_rfl) k
    obtain ⟨i, rfl, w1⟩ := rd_int h1
    obtain ⟨j, rfl, w2⟩ := rd_int h2
    obtain ⟨u, l, rfl, hl, hq⟩ := rd_rules h3
    exact ⟨⟨i, j, l⟩, ⟨u, rfl, hl⟩, w1, w2, hq⟩
end Go.Proofs.Ytnlchlnkibpkaaa

/- What a law of one grammar asks of its rows, out of the abstract machine. -/
namespace Go.Proofs.Ytnlchlnkibpkaaa
set_option linter.unusedSimpArgs false
set_option linter.unusedVariables false
open Go.ChangeShapes Go.WideShapes Go.ChangeAt Go.RowKit Am Ty

theorem own : ownKnob Try.prog.godebug = none := by kernel_rfl
theorem laidOut : laidOutB Try.prog = true := by kernel_rfl
def gramTs : List TypeId := [24, 3, 22, 48, 46, 56, 45, 43]
theorem gramTs_ok : gramTs.all (kindB Try.prog gramTs) = true := by kernel_rfl
theorem noOwn_below {μ : Mu} {h : Heap} {W w' : World} (hn : noOwn h) (k : FrW (OwnB μ h) W w') : Below W.heap.size W w' :=
  ⟨k.os, k.tape, k.output, k.size, fun i hi => k.block i hi fun ⟨_, _, _, _, _, h1, _⟩ => by have := hn _ _ _ _ _ h1; cases this⟩
/-- a call of one grammar that yields true -/
theorem calls_gram {H : Type} {enc : TypeId × Value → H} {f : FuncId} {W : World} {base : Nat} {v : Value} {d : DataW H} {p : List MemPlace}
    (hf : ∀ (h : Heap) (g : Gram) (x : Value), RdGram h x g → (Lit.int .i64 g.nts).wf = true → (Lit.int .i64 g.start).wf = true → WfG g → FW env f [x] h fun r _ => r = .bool true)
    (hval : Value.okWide Try.prog W .any base 24 v) (h0 : DataW.Trod enc Try.prog W 0 (fun _ => true) true 24 v d p) (hw : (d.weights Try.prog 24).all (fun b => decide (b ≤ reachBytes)) = true) :
    Calls Try.prog f #[v] W fun e W' => e = .returned (.bool true) ∧ Below W.heap.size W W' := by
  have hu : Try.prog.underlying 24 = some (.struct (Try.prog.fieldsOf 24)) := by kernel_rfl
  unfold Value.okWide at hval
  rw [hu] at hval
  obtain ⟨cs, rfl, _, _⟩ := hval
  obtain ⟨n, hn⟩ := h0
  obtain ⟨μ, h, vs, _, _, H, hno, hv, _, hr⟩ := tells_trod gramTs_ok n _ _ _ (by simp [gramTs]) hn hw [] [] ⟨rfl, fun id c v o t h1 => by simp at h1, fun a b c1 c2 v1 v2 o e1 e2 m1 m2 _ h1 => by simp at h1⟩ (fun id c v o e h1 => by simp at h1)
  obtain ⟨g, hg, w1, w2, w3⟩ := rd_gram hr
  have k := hf h g _ hg w1 w2 w3
  unfold FW at k
  obtain ⟨r, h', k1, rfl⟩ := k
  refine (Ev.calls env_ok k1 μ W #[.agg cs] H ⟨VRL.agg hv, trivial⟩).mono fun e W' ⟨μ', r', he, hvr, _, _, hfr, _, _⟩ => ?_
  exact ⟨by rw [he, VR.bool hvr], noOwn_below hno hfr⟩
theorem nts_wf {n : Int} (h : (Lit.int .i64 n).wf = true) : -9223372036854775808 ≤ n := by
  simp only [Lit.wf, Bool.and_eq_true, decide_eq_true_eq] at h
  have h2 : IntKind.i64.min = -9223372036854775808 := by decide
  omega
end Go.Proofs.Ytnlchlnkibpkaaa

/- From a call's arguments that a row reads to those of the abstract machine. -/
namespace Go.Proofs.Ytnlchlnkibpkaaa.Am
set_option linter.unusedSimpArgs false
set_option linter.unusedVariables false
open Go.RowKit

def isAggT (P : Program) (t : TypeId) : Bool := match P.underlying t with
  | some (.struct _) => true
  | some (.array _ _) => true
  | _ => false
/-- an argument that is read -/
def RdA (P : Program) (h : Heap) (t : TypeId) (a : Value) : Prop := ∃ n vs, RdT P h n t vs ∧ ((isAggT P t = true ∧ a = .agg vs.toArray) ∨ (isAggT P t = false ∧ vs = [a]))
def AllRd (P : Program) (h : Heap) : List TypeId → List Value → Prop
  | [], [] => True
  | t :: ts, a :: avs => RdA P h t a ∧ AllRd P h ts avs
  | _, _ => False
theorem RdA.mono {P : Program} {h h' : Heap} {t : TypeId} {a : Value} (hp : h <+: h') : RdA P h t a → RdA P h' t a := fun ⟨n, vs, k, e⟩ => ⟨n, vs, k.mono hp, e⟩
section
variable {P : Program} {W : World}
theorem okWide_cells {ts : List TypeId} {base : Nat} {t : TypeId} {v : Value} (hk : kindB P ts t = true) (hval : Value.okWide P W .any base t v) (ha : isAggT P t = false) : v.cells.toList = [v] := by
  unfold Value.okWide at hval
  unfold kindB at hk
  unfold isAggT at ha
  cases hu : P.underlying t with
  | none => rw [hu] at hk; simp at hk
  | some d =>
    rw [hu] at hk ha hval
    cases d <;> simp at hk ha <;> simp only [Cell.okWide, Cell.ok, hu] at hval <;> cases v <;> first | rfl | exact hval.elim | simp at hval
theorem okWide_agg {base : Nat} {t : TypeId} {v : Value} (hval : Value.okWide P W .any base t v) (ha : isAggT P t = true) : ∃ cs, v = .agg cs := by
  unfold Value.okWide at hval
  unfold isAggT at ha
  split at ha
  · rename_i hu
    rw [hu] at hval
    exact hval.imp fun _ h => h.1
  · rename_i hu
    rw [hu] at hval
    exact hval.imp fun _ h => h.1
  · cases ha
theorem tells_arg {H : Type} {enc : TypeId × Value → H} {held : Bool} {ts : List TypeId} (hcl : ts.all (kindB P ts) = true) {base : Nat} {t : TypeId} {v : Value} {d : DataW H} {p : List MemPlace} (ht : t ∈ ts) (hval : Value.okWide P W .any base t v)
    (h0 : DataW.Trod enc P W 0 (fun _ => true) held t v d p) (hw : (d.weights P t).all (fun b => decide (b ≤ reachBytes)) = true) {μ : Mu} {h : Heap} (H : HeapR P μ h W) (hn : noOwn h) :
    ∃ μ' h' a, h <+: h' ∧ Ext μ μ' ∧ HeapR P μ' h' W ∧ noOwn h' ∧ VR P μ' a v ∧ RdA P h' t a := by
  obtain ⟨n, hn0⟩ := h0
  obtain ⟨μ', h', vs, h1, h2, h3, h4, h5, h6, h7⟩ := tells_trod hcl n _ _ _ ht hn0 hw μ h H hn
  cases ha : isAggT P t with
  | true =>
    obtain ⟨cs, rfl⟩ := okWide_agg hval ha
    have h5' : VRL P μ' vs cs.toList := h5
    refine ⟨μ', h', .agg vs.toArray, h1, h2, h3, h4, ?_, n, vs, h7, .inl ⟨ha, rfl⟩⟩
    have := VRL.agg h5'
    simpa using this
  | false =>
    have e := okWide_cells (List.all_eq_true.1 hcl t ht) hval ha
    rw [e] at h5
    match vs, h5, h7 with
    | [a], h5, h7 => exact ⟨μ', h', a, h1, h2, h3, h4, h5.1, n, [a], h7, .inr ⟨ha, rfl⟩⟩
theorem AllRd.mono {h h' : Heap} (hp : h <+: h') : ∀ {ts : List TypeId} {avs : List Value}, AllRd P h ts avs → AllRd P h' ts avs
  | [], [], _ => trivial
  | _ :: _, _ :: _, ⟨h1, h2⟩ => ⟨h1.mono hp, AllRd.mono hp h2⟩
  | [], _ :: _, h => h.elim
  | _ :: _, [], h => h.elim
theorem tells_args {H : Type} {enc : TypeId × Value → H} {held : Bool} {ts : List TypeId} (hcl : ts.all (kindB P ts) = true) {base : Nat} : ∀ {tys : List TypeId} {vs : List Value} {ds : List (DataW H)} {p : List MemPlace}, (∀ t ∈ tys, t ∈ ts) →
    DataW.TrodAll enc P W 0 (fun _ => true) held tys vs ds p → (∀ (i : Nat) (t : TypeId) (v : Value), tys[i]? = some t → vs[i]? = some v → Value.okWide P W .any base t v) →
    (∀ (i : Nat) (t : TypeId) (d : DataW H), tys[i]? = some t → ds[i]? = some d → (d.weights P t).all (fun b => decide (b ≤ reachBytes)) = true) → ∀ {μ : Mu} {h : Heap}, HeapR P μ h W → noOwn h →
    ∃ μ' h' avs, h <+: h' ∧ Ext μ μ' ∧ HeapR P μ' h' W ∧ noOwn h' ∧ VRL P μ' avs vs ∧ AllRd P h' tys avs
  | [], [], [], _, _, _, _, _, μ, h, H, hn => ⟨μ, h, [], List.prefix_refl _, Ext.refl _, H, hn, trivial, trivial⟩
  | t :: tys, v :: vs, d :: ds, _, ht, ⟨p, q, k1, k2, _⟩, hv, hw, μ, h, H, hn => by
    obtain ⟨μ1, h1, a, p1, x1, H1, n1, v1, r1⟩ := tells_arg hcl (ht t List.mem_cons_self) (hv 0 t v rfl rfl) k1 (hw 0 t d rfl rfl) H hn
    obtain ⟨μ2, h2, avs, p2, x2, H2, n2, v2, r2⟩ := tells_args hcl (fun t h => ht t (List.mem_cons_of_mem _ h)) k2 (fun i t v e1 e2 => hv (i + 1) t v (by simpa using e1) (by simpa using e2)) (fun i t d e1 e2 => hw (i + 1) t d (by simpa using e1) (by simpa using e2)) H1 n1
    exact ⟨μ2, h2, a :: avs, p1.trans p2, x1.trans x2, H2, n2, ⟨v1.mono x2, v2⟩, r1.mono p2, r2⟩
  | [], _ :: _, _, _, _, h, _, _, _, _, _, _ => by simp [DataW.TrodAll] at h
  | [], [], _ :: _, _, _, h, _, _, _, _, _, _ => by simp [DataW.TrodAll] at h
  | _ :: _, [], _, _, _, h, _, _, _, _, _, _ => by simp [DataW.TrodAll] at h
  | _ :: _, _ :: _, [], _, _, h, _, _, _, _, _, _ => by simp [DataW.TrodAll] at h
end
end Go.Proofs.Ytnlchlnkibpkaaa.Am

/- What a law asks of its rows, out of the abstract machine: any arguments. -/
namespace Go.Proofs.Ytnlchlnkibpkaaa
set_option linter.unusedSimpArgs false
set_option linter.unusedVariables false
open Go.ChangeShapes Go.WideShapes Go.ChangeAt Go.RowKit Am Ty

theorem heap_nil {W : World} : HeapR Try.prog [] [] W := ⟨rfl, fun id c v o t h1 => by simp at h1, fun a b c1 c2 v1 v2 o e1 e2 m1 m2 _ h1 => by simp at h1⟩
set_option maxRecDepth 100000 in
theorem calls_args {H : Type} {enc : TypeId × Value → H} {f : FuncId} {W : World} {base : Nat} {tys ts : List TypeId} {args : Array Value} {ds : List (DataW H)} {p : List MemPlace} (hcl : ts.all (kindB Try.prog ts) = true) (htys : tys.all (fun t => ts.contains t) = true)
    (hf : ∀ (h : Heap) (avs : List Value), AllRd Try.prog h tys avs → FW env f avs h fun r _ => r = .bool true)
    (hval : ∀ (j : Nat) (t : TypeId) (v : Value), tys[j]? = some t → args.toList[j]? = some v → Value.okWide Try.prog W .any base t v) (h0 : DataW.TrodAll enc Try.prog W 0 (fun _ => true) true tys args.toList ds p)
    (hw : ∀ (i : Nat) (t : TypeId) (d : DataW H), tys[i]? = some t → ds[i]? = some d → (d.weights Try.prog t).all (fun b => decide (b ≤ reachBytes)) = true) :
    Calls Try.prog f args W fun e W' => e = .returned (.bool true) ∧ Below W.heap.size W W' := by
  obtain ⟨μ, h, avs, _, _, H, hno, hv, hr⟩ := tells_args hcl (fun t ht => by have := List.all_eq_true.1 htys t ht; simpa using this) h0 hval hw (μ := []) (h := []) heap_nil (fun id c v o e h1 => by simp at h1)
  have k := hf h avs hr
  unfold FW at k
  obtain ⟨r, h', k1, rfl⟩ := k
  refine (Ev.calls env_ok k1 μ W args H hv).mono fun e W' ⟨μ', r', he, hvr, _, _, hfr, _, _⟩ => ?_
  exact ⟨by rw [he, VR.bool hvr], noOwn_below hno hfr⟩
theorem below_all {H : Type} {enc : TypeId × Value → H} {W W' : World} (hb : Below W.heap.size W W') (tys : List TypeId) (ht : ∀ t ∈ tys, Try.prog.readableRec t = true ∧ t < Try.prog.types.size) : ∀ (vs : List Value) (ds : List (DataW H)) (p : List MemPlace),
    DataW.TrodAll enc Try.prog W 0 (fun _ => true) true tys vs ds p → DataW.TrodAll enc Try.prog W' 0 (fun b => decide (b < W.heap.size)) true tys vs ds p := by
  induction tys with
  | nil =>
    intro vs ds p h
    obtain ⟨rfl, rfl, rfl⟩ := trodAll_nil h
    exact trodAll_mk0
  | cons t tys ih =>
    intro vs ds p h
    obtain ⟨v, vs', d, ds', p1, q1, rfl, rfl, rfl, k1, k2⟩ := trodAll_cons h
    have lt0 : ∀ x ∈ p1, x.block < W.heap.size := by obtain ⟨m, hm⟩ := k1; exact DataW.trod_lt m _ _ _ hm
    have h1 := ht t List.mem_cons_self
    exact trodAll_cons_mk (Below.trod laidOut h1.1 h1.2 k1 hb lt0) (ih (fun t h => ht t (List.mem_cons_of_mem _ h)) _ _ _ k2)
theorem below_all' {H : Type} {enc : TypeId × Value → H} {W W' : World} (hb : Below W.heap.size W W') {tys : List TypeId} (ht : tys.all (fun t => Try.prog.readableRec t && decide (t < Try.prog.types.size)) = true) {vs : List Value} {ds : List (DataW H)} {p : List MemPlace}
    (h : DataW.TrodAll enc Try.prog W 0 (fun _ => true) true tys vs ds p) : DataW.TrodAll enc Try.prog W' 0 (fun b => decide (b < W.heap.size)) true tys vs ds p :=
  below_all hb tys (fun t h => by have := List.all_eq_true.1 ht t h; simp only [Bool.and_eq_true, decide_eq_true_eq] at this; exact this) _ _ _ h
/-- arguments as they are read -/
theorem rda_gram {h : Heap} {a : Value} (k : RdA Try.prog h 24 a) : ∃ g : Gram, RdGram h a g ∧ (Lit.int .i64 g.nts).wf = true ∧ (Lit.int .i64 g.start).wf = true ∧ WfG g := by
  obtain ⟨n, vs, k, ⟨_, rfl⟩ | ⟨h1, _⟩⟩ := k
  · exact rd_gram k
  · have : isAggT Try.prog 24 = true := by kernel_rfl
    rw [this] at h1
    cases h1
theorem rda_int {h : Heap} {a : Value} (k : RdA Try.prog h 3 a) : ∃ i, a = i64 i ∧ (Lit.int .i64 i).wf = true := by
  obtain ⟨n, vs, k, ⟨h1, _⟩ | ⟨_, rfl⟩⟩ := k
  · have : isAggT Try.prog 3 = false := by kernel_rfl
    rw [this] at h1
    cases h1
  · obtain ⟨i, e, hi⟩ := rd_int k
    exact ⟨i, by simpa using e, hi⟩
end Go.Proofs.Ytnlchlnkibpkaaa
