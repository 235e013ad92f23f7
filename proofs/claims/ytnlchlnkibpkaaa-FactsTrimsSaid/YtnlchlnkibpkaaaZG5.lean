/- Several texts, one behind the other; each begins with a remark of its own. -/
import Derived.Test.YtnlchlnkibpkaaaZG1
import Derived.Test.YtnlchlnkibpkaaaZFa
import Derived.Test.YtnlchlnkibpkaaaZTy
import Derived.Test.YtnlchlnkibpkaaaRows
import Derived.WalkKit
import Derived.ProofKit
import Derived.OpenShut
import Derived.ChangeOld
import Derived.Below
import Derived.Carry
import Derived.SizedLaws
import Derived.Test.YtnlchlnkibpkaaaZG8
/- Sets of bytes: Union of the program; Has, With, Op of the reference. -/
namespace Go.Proofs.Ytnlchlnkibpkaaa
set_option linter.unusedSimpArgs false
set_option linter.unusedVariables false
open Go.RowKit Am Ty

abbrev BSet.val (s : BSet) : Value := .agg #[u64 s.a, u64 s.b, u64 s.c, u64 s.d]
def ub (s t : BSet) : Nat → List Value
  | 0 => [u64 s.a, u64 s.b, u64 s.c, u64 s.d]
  | 1 => [u64 (wor s.a t.a), u64 s.b, u64 s.c, u64 s.d]
  | 2 => [u64 (wor s.a t.a), u64 (wor s.b t.b), u64 s.c, u64 s.d]
  | 3 => [u64 (wor s.a t.a), u64 (wor s.b t.b), u64 (wor s.c t.c), u64 s.d]
  | _ => [u64 (wor s.a t.a), u64 (wor s.b t.b), u64 (wor s.c t.c), u64 (wor s.d t.d)]
theorem union_fw {h : Heap} {s t : BSet} (hs : SetWf s) (ht : SetWf t) : FW env 39 [s.val, t.val] h fun r h' => r = (s.union t).val ∧ h' = h := by
  have w0 : IntKind.u64.wrap ((BitVec.ofInt IntKind.u64.bits s.a ||| BitVec.ofInt IntKind.u64.bits t.a).toNat) = wor s.a t.a := wor_op hs.a ht.a
  have w1 : IntKind.u64.wrap ((BitVec.ofInt IntKind.u64.bits s.b ||| BitVec.ofInt IntKind.u64.bits t.b).toNat) = wor s.b t.b := wor_op hs.b ht.b
  have w2 : IntKind.u64.wrap ((BitVec.ofInt IntKind.u64.bits s.c ||| BitVec.ofInt IntKind.u64.bits t.c).toNat) = wor s.c t.c := wor_op hs.c ht.c
  have w3 : IntKind.u64.wrap ((BitVec.ofInt IntKind.u64.bits s.d ||| BitVec.ofInt IntKind.u64.bits t.d).toNat) = wor s.d t.d := wor_op hs.d ht.d
  refine fw_enter (fn := Try.f39) Try.func39 rfl (by kernel_rfl) (by simp [Try.ntmps39]) ?_; simp only [push_cast]
  repeat (first | refine cw_seq ?_ | refine cw_region ?_ | refine ow_nil ?_ | ((first | apply ow_cons | apply qw_cons); · simp only [push_cast, env, Nat.reduceEqDiff, reduceIte, Nat.reduceAdd, Nat.reduceMul, Nat.reduceLeDiff, reduceCtorEq, Nat.reduceSub, Int.reduceToNat] <;> exact rfl) | ((first | apply ow_spec | apply qw_spec); · simp only [push_cast, env, Nat.reduceEqDiff, reduceIte, Nat.reduceAdd, Nat.reduceMul, Nat.reduceLeDiff, reduceCtorEq, Nat.reduceSub, Int.reduceToNat] <;> exact rfl) | refine qw_nil ?_ | refine cw_block ?_ | refine cw_scope ?_ | refine cw_label ?_ | refine cw_skip ?_)
  refine cw_for 4 (fun k => [(2, .box (ub s t k)), (3, .box [u64 t.a, u64 t.b, u64 t.c, u64 t.d]), (4, .box [u64 0, u64 0, u64 0, u64 0]), (6, .val (i64 k))]) (fun _ => h) (fun _ => True) ⟨rfl, rfl, rfl, rfl, trivial⟩ rfl trivial ?_
  intro k hk _
  rcases (by omega : k = 0 ∨ k = 1 ∨ k = 2 ∨ k = 3 ∨ k = 4) with rfl | rfl | rfl | rfl | rfl
  · show CW _ _ ⟨[(2, .box [u64 s.a, u64 s.b, u64 s.c, u64 s.d]), (3, .box [u64 t.a, u64 t.b, u64 t.c, u64 t.d]), (4, .box [u64 0, u64 0, u64 0, u64 0]), (6, .val (i64 0))], [], h⟩ _
    have e1 : IntKind.i64.wrap (0 + 1) = 1 := by decide
    repeat (first | refine cw_seq ?_ | refine cw_region ?_ | refine ow_nil ?_ | ((first | apply ow_cons | apply qw_cons); · simp only [push_cast, env, Nat.reduceEqDiff, reduceIte, Nat.reduceAdd, Nat.reduceMul, Nat.reduceLeDiff, reduceCtorEq, Nat.reduceSub, Int.reduceToNat] <;> exact rfl) | ((first | apply ow_spec | apply qw_spec); · simp only [push_cast, env, Nat.reduceEqDiff, reduceIte, Nat.reduceAdd, Nat.reduceMul, Nat.reduceLeDiff, reduceCtorEq, Nat.reduceSub, Int.reduceToNat] <;> exact rfl) | refine qw_nil ?_ | refine cw_block ?_ | refine cw_scope ?_ | refine cw_label ?_ | refine cw_skip ?_)
    refine cw_condT (by simp only [push_cast, env, Nat.reduceEqDiff, reduceIte, Nat.reduceAdd, Nat.reduceMul, Nat.reduceLeDiff, reduceCtorEq, Nat.reduceSub, Int.reduceToNat] <;> exact rfl) ?_
    repeat (first | refine cw_seq ?_ | refine cw_region ?_ | refine ow_nil ?_ | ((first | apply ow_cons | apply qw_cons); · simp only [push_cast, env, Nat.reduceEqDiff, reduceIte, Nat.reduceAdd, Nat.reduceMul, Nat.reduceLeDiff, reduceCtorEq, Nat.reduceSub, Int.reduceToNat] <;> exact rfl) | ((first | apply ow_spec | apply qw_spec); · simp only [push_cast, env, Nat.reduceEqDiff, reduceIte, Nat.reduceAdd, Nat.reduceMul, Nat.reduceLeDiff, reduceCtorEq, Nat.reduceSub, Int.reduceToNat] <;> exact rfl) | refine qw_nil ?_ | refine cw_block ?_ | refine cw_scope ?_ | refine cw_label ?_ | refine cw_skip ?_)
    refine cw_regionD 8 mixed (by kernel_rfl) ?_
    repeat (first | refine cw_seq ?_ | refine cw_region ?_ | refine ow_nil ?_ | ((first | apply ow_cons | apply qw_cons); · simp only [push_cast, env, Nat.reduceEqDiff, reduceIte, Nat.reduceAdd, Nat.reduceMul, Nat.reduceLeDiff, reduceCtorEq, Nat.reduceSub, Int.reduceToNat, w0, e1, Int.reduceToNat] <;> exact rfl) | ((first | apply ow_spec | apply qw_spec); · simp only [push_cast, env, Nat.reduceEqDiff, reduceIte, Nat.reduceAdd, Nat.reduceMul, Nat.reduceLeDiff, reduceCtorEq, Nat.reduceSub, Int.reduceToNat, w0, e1, Int.reduceToNat] <;> exact rfl) | refine qw_nil ?_ | refine cw_block ?_ | refine cw_scope ?_ | refine cw_label ?_ | refine cw_skip ?_)
    exact ⟨by decide, ⟨rfl, rfl, rfl, rfl, trivial⟩, rfl, trivial⟩
  · show CW _ _ ⟨[(2, .box [u64 (wor s.a t.a), u64 s.b, u64 s.c, u64 s.d]), (3, .box [u64 t.a, u64 t.b, u64 t.c, u64 t.d]), (4, .box [u64 0, u64 0, u64 0, u64 0]), (6, .val (i64 1))], [], h⟩ _
    have e1 : IntKind.i64.wrap (1 + 1) = 2 := by decide
    repeat (first | refine cw_seq ?_ | refine cw_region ?_ | refine ow_nil ?_ | ((first | apply ow_cons | apply qw_cons); · simp only [push_cast, env, Nat.reduceEqDiff, reduceIte, Nat.reduceAdd, Nat.reduceMul, Nat.reduceLeDiff, reduceCtorEq, Nat.reduceSub, Int.reduceToNat] <;> exact rfl) | ((first | apply ow_spec | apply qw_spec); · simp only [push_cast, env, Nat.reduceEqDiff, reduceIte, Nat.reduceAdd, Nat.reduceMul, Nat.reduceLeDiff, reduceCtorEq, Nat.reduceSub, Int.reduceToNat] <;> exact rfl) | refine qw_nil ?_ | refine cw_block ?_ | refine cw_scope ?_ | refine cw_label ?_ | refine cw_skip ?_)
    refine cw_condT (by simp only [push_cast, env, Nat.reduceEqDiff, reduceIte, Nat.reduceAdd, Nat.reduceMul, Nat.reduceLeDiff, reduceCtorEq, Nat.reduceSub, Int.reduceToNat] <;> exact rfl) ?_
    repeat (first | refine cw_seq ?_ | refine cw_region ?_ | refine ow_nil ?_ | ((first | apply ow_cons | apply qw_cons); · simp only [push_cast, env, Nat.reduceEqDiff, reduceIte, Nat.reduceAdd, Nat.reduceMul, Nat.reduceLeDiff, reduceCtorEq, Nat.reduceSub, Int.reduceToNat] <;> exact rfl) | ((first | apply ow_spec | apply qw_spec); · simp only [push_cast, env, Nat.reduceEqDiff, reduceIte, Nat.reduceAdd, Nat.reduceMul, Nat.reduceLeDiff, reduceCtorEq, Nat.reduceSub, Int.reduceToNat] <;> exact rfl) | refine qw_nil ?_ | refine cw_block ?_ | refine cw_scope ?_ | refine cw_label ?_ | refine cw_skip ?_)
    refine cw_regionD 8 mixed (by kernel_rfl) ?_
    repeat (first | refine cw_seq ?_ | refine cw_region ?_ | refine ow_nil ?_ | ((first | apply ow_cons | apply qw_cons); · simp only [push_cast, env, Nat.reduceEqDiff, reduceIte, Nat.reduceAdd, Nat.reduceMul, Nat.reduceLeDiff, reduceCtorEq, Nat.reduceSub, Int.reduceToNat, w1, e1, Int.reduceToNat] <;> exact rfl) | ((first | apply ow_spec | apply qw_spec); · simp only [push_cast, env, Nat.reduceEqDiff, reduceIte, Nat.reduceAdd, Nat.reduceMul, Nat.reduceLeDiff, reduceCtorEq, Nat.reduceSub, Int.reduceToNat, w1, e1, Int.reduceToNat] <;> exact rfl) | refine qw_nil ?_ | refine cw_block ?_ | refine cw_scope ?_ | refine cw_label ?_ | refine cw_skip ?_)
    exact ⟨by decide, ⟨rfl, rfl, rfl, rfl, trivial⟩, rfl, trivial⟩
  · show CW _ _ ⟨[(2, .box [u64 (wor s.a t.a), u64 (wor s.b t.b), u64 s.c, u64 s.d]), (3, .box [u64 t.a, u64 t.b, u64 t.c, u64 t.d]), (4, .box [u64 0, u64 0, u64 0, u64 0]), (6, .val (i64 2))], [], h⟩ _
    have e1 : IntKind.i64.wrap (2 + 1) = 3 := by decide
    repeat (first | refine cw_seq ?_ | refine cw_region ?_ | refine ow_nil ?_ | ((first | apply ow_cons | apply qw_cons); · simp only [push_cast, env, Nat.reduceEqDiff, reduceIte, Nat.reduceAdd, Nat.reduceMul, Nat.reduceLeDiff, reduceCtorEq, Nat.reduceSub, Int.reduceToNat] <;> exact rfl) | ((first | apply ow_spec | apply qw_spec); · simp only [push_cast, env, Nat.reduceEqDiff, reduceIte, Nat.reduceAdd, Nat.reduceMul, Nat.reduceLeDiff, reduceCtorEq, Nat.reduceSub, Int.reduceToNat] <;> exact rfl) | refine qw_nil ?_ | refine cw_block ?_ | refine cw_scope ?_ | refine cw_label ?_ | refine cw_skip ?_)
    refine cw_condT (by simp only [push_cast, env, Nat.reduceEqDiff, reduceIte, Nat.reduceAdd, Nat.reduceMul, Nat.reduceLeDiff, reduceCtorEq, Nat.reduceSub, Int.reduceToNat] <;> exact rfl) ?_
    repeat (first | refine cw_seq ?_ | refine cw_region ?_ | refine ow_nil ?_ | ((first | apply ow_cons | apply qw_cons); · simp only [push_cast, env, Nat.reduceEqDiff, reduceIte, Nat.reduceAdd, Nat.reduceMul, Nat.reduceLeDiff, reduceCtorEq, Nat.reduceSub, Int.reduceToNat] <;> exact rfl) | ((first | apply ow_spec | apply qw_spec); · simp only [push_cast, env, Nat.reduceEqDiff, reduceIte, Nat.reduceAdd, Nat.reduceMul, Nat.reduceLeDiff, reduceCtorEq, Nat.reduceSub, Int.reduceToNat] <;> exact rfl) | refine qw_nil ?_ | refine cw_block ?_ | refine cw_scope ?_ | refine cw_label ?_ | refine cw_skip ?_)
    refine cw_regionD 8 mixed (by kernel_rfl) ?_
    repeat (first | refine cw_seq ?_ | refine cw_region ?_ | refine ow_nil ?_ | ((first | apply ow_cons | apply qw_cons); · simp only [push_cast, env, Nat.reduceEqDiff, reduceIte, Nat.reduceAdd, Nat.reduceMul, Nat.reduceLeDiff, reduceCtorEq, Nat.reduceSub, Int.reduceToNat, w2, e1, Int.reduceToNat] <;> exact rfl) | ((first | apply ow_spec | apply qw_spec); · simp only [push_cast, env, Nat.reduceEqDiff, reduceIte, Nat.reduceAdd, Nat.reduceMul, Nat.reduceLeDiff, reduceCtorEq, Nat.reduceSub, Int.reduceToNat, w2, e1, Int.reduceToNat] <;> exact rfl) | refine qw_nil ?_ | refine cw_block ?_ | refine cw_scope ?_ | refine cw_label ?_ | refine cw_skip ?_)
    exact ⟨by decide, ⟨rfl, rfl, rfl, rfl, trivial⟩, rfl, trivial⟩
  · show CW _ _ ⟨[(2, .box [u64 (wor s.a t.a), u64 (wor s.b t.b), u64 (wor s.c t.c), u64 s.d]), (3, .box [u64 t.a, u64 t.b, u64 t.c, u64 t.d]), (4, .box [u64 0, u64 0, u64 0, u64 0]), (6, .val (i64 3))], [], h⟩ _
    have e1 : IntKind.i64.wrap (3 + 1) = 4 := by decide
    repeat (first | refine cw_seq ?_ | refine cw_region ?_ | refine ow_nil ?_ | ((first | apply ow_cons | apply qw_cons); · simp only [push_cast, env, Nat.reduceEqDiff, reduceIte, Nat.reduceAdd, Nat.reduceMul, Nat.reduceLeDiff, reduceCtorEq, Nat.reduceSub, Int.reduceToNat] <;> exact rfl) | ((first | apply ow_spec | apply qw_spec); · simp only [push_cast, env, Nat.reduceEqDiff, reduceIte, Nat.reduceAdd, Nat.reduceMul, Nat.reduceLeDiff, reduceCtorEq, Nat.reduceSub, Int.reduceToNat] <;> exact rfl) | refine qw_nil ?_ | refine cw_block ?_ | refine cw_scope ?_ | refine cw_label ?_ | refine cw_skip ?_)
    refine cw_condT (by simp only [push_cast, env, Nat.reduceEqDiff, reduceIte, Nat.reduceAdd, Nat.reduceMul, Nat.reduceLeDiff, reduceCtorEq, Nat.reduceSub, Int.reduceToNat] <;> exact rfl) ?_
    repeat (first | refine cw_seq ?_ | refine cw_region ?_ | refine ow_nil ?_ | ((first | apply ow_cons | apply qw_cons); · simp only [push_cast, env, Nat.reduceEqDiff, reduceIte, Nat.reduceAdd, Nat.reduceMul, Nat.reduceLeDiff, reduceCtorEq, Nat.reduceSub, Int.reduceToNat] <;> exact rfl) | ((first | apply ow_spec | apply qw_spec); · simp only [push_cast, env, Nat.reduceEqDiff, reduceIte, Nat.reduceAdd, Nat.reduceMul, Nat.reduceLeDiff, reduceCtorEq, Nat.reduceSub, Int.reduceToNat] <;> exact rfl) | refine qw_nil ?_ | refine cw_block ?_ | refine cw_scope ?_ | refine cw_label ?_ | refine cw_skip ?_)
    refine cw_regionD 8 mixed (by kernel_rfl) ?_
    repeat (first | refine cw_seq ?_ | refine cw_region ?_ | refine ow_nil ?_ | ((first | apply ow_cons | apply qw_cons); · simp only [push_cast, env, Nat.reduceEqDiff, reduceIte, Nat.reduceAdd, Nat.reduceMul, Nat.reduceLeDiff, reduceCtorEq, Nat.reduceSub, Int.reduceToNat, w3, e1, Int.reduceToNat] <;> exact rfl) | ((first | apply ow_spec | apply qw_spec); · simp only [push_cast, env, Nat.reduceEqDiff, reduceIte, Nat.reduceAdd, Nat.reduceMul, Nat.reduceLeDiff, reduceCtorEq, Nat.reduceSub, Int.reduceToNat, w3, e1, Int.reduceToNat] <;> exact rfl) | refine qw_nil ?_ | refine cw_block ?_ | refine cw_scope ?_ | refine cw_label ?_ | refine cw_skip ?_)
    exact ⟨by decide, ⟨rfl, rfl, rfl, rfl, trivial⟩, rfl, trivial⟩
  · show CW _ _ ⟨[(2, .box [u64 (wor s.a t.a), u64 (wor s.b t.b), u64 (wor s.c t.c), u64 (wor s.d t.d)]), (3, .box [u64 t.a, u64 t.b, u64 t.c, u64 t.d]), (4, .box [u64 0, u64 0, u64 0, u64 0]), (6, .val (i64 4))], [], h⟩ _
    repeat (first | refine cw_seq ?_ | refine cw_region ?_ | refine ow_nil ?_ | ((first | apply ow_cons | apply qw_cons); · simp only [push_cast, env, Nat.reduceEqDiff, reduceIte, Nat.reduceAdd, Nat.reduceMul, Nat.reduceLeDiff, reduceCtorEq, Nat.reduceSub, Int.reduceToNat] <;> exact rfl) | ((first | apply ow_spec | apply qw_spec); · simp only [push_cast, env, Nat.reduceEqDiff, reduceIte, Nat.reduceAdd, Nat.reduceMul, Nat.reduceLeDiff, reduceCtorEq, Nat.reduceSub, Int.reduceToNat] <;> exact rfl) | refine qw_nil ?_ | refine cw_block ?_ | refine cw_scope ?_ | refine cw_label ?_ | refine cw_skip ?_)
    refine cw_condF (by simp only [push_cast, env, Nat.reduceEqDiff, reduceIte, Nat.reduceAdd, Nat.reduceMul, Nat.reduceLeDiff, reduceCtorEq, Nat.reduceSub, Int.reduceToNat] <;> exact rfl) ?_
    refine cw_exit ?_
    show CW _ _ _ _
    repeat (first | refine cw_seq ?_ | refine cw_region ?_ | refine ow_nil ?_ | ((first | apply ow_cons | apply qw_cons); · simp only [push_cast, env, Nat.reduceEqDiff, reduceIte, Nat.reduceAdd, Nat.reduceMul, Nat.reduceLeDiff, reduceCtorEq, Nat.reduceSub, Int.reduceToNat] <;> exact rfl) | ((first | apply ow_spec | apply qw_spec); · simp only [push_cast, env, Nat.reduceEqDiff, reduceIte, Nat.reduceAdd, Nat.reduceMul, Nat.reduceLeDiff, reduceCtorEq, Nat.reduceSub, Int.reduceToNat] <;> exact rfl) | refine qw_nil ?_ | refine cw_block ?_ | refine cw_scope ?_ | refine cw_label ?_ | refine cw_skip ?_)
    refine cw_ret ?_
    refine ⟨_, (by simp only [push_cast, env, Nat.reduceEqDiff, reduceIte, Nat.reduceAdd, Nat.reduceMul, Nat.reduceLeDiff, reduceCtorEq, Nat.reduceSub, Int.reduceToNat] <;> exact rfl), ?_, rfl⟩
    rfl
theorem div_pow {w : Int} (hw : WWf w) (j : Nat) : 0 ≤ w / 2 ^ j ∧ w / 2 ^ j < 18446744073709551616 := by
  obtain ⟨x, rfl⟩ : ∃ x : Nat, w = x := ⟨w.toNat, by have := hw.1; omega⟩
  have e : (x : Int) / 2 ^ j = ((x / 2 ^ j : Nat) : Int) := by simp
  have h1 : x / 2 ^ j ≤ x := Nat.div_le_self _ _
  have := hw.2
  rw [e]
  generalize x / 2 ^ j = q at h1 ⊢
  omega
theorem half_step {w : Int} (hw : WWf w) (j : Nat) : IntKind.u64.wrap ((w / 2 ^ j).tdiv 2) = w / 2 ^ (j + 1) := by
  have h := div_pow hw j
  have h2 := div_pow hw (j + 1)
  rw [Int.tdiv_eq_ediv_of_nonneg h.1, Int.ediv_ediv_of_nonneg (Int.pow_nonneg (by decide)), ← Int.pow_succ]
  exact wrap_u64 h2
set_option maxHeartbeats 1000000 in
theorem has_fw {h : Heap} {s : BSet} {n : Nat} (hs : SetWf s) (hn : n < 256) : FW env 52 [s.val, i64 n] h fun r h' => r = .bool (s.has n) ∧ h' = h := by
  have d1 : decide ((n : Int) < 0) = false := decide_eq_false (by omega)
  have d2 : decide (255 < (n : Int)) = false := decide_eq_false (by omega)
  have q1 : IntKind.i64.wrap ((n : Int).tdiv 64) = (n : Int) / 64 := by
    rw [Int.tdiv_eq_ediv_of_nonneg (by omega)]
    exact wrap64_id (by omega) (by omega)
  have q2 : (n : Int).tmod 64 = (n : Int) % 64 := Int.tmod_eq_emod_of_nonneg (by omega)
  have ww := hs.word (n / 64)
  refine fw_enter (fn := Try.f52) Try.func52 rfl (by kernel_rfl) (by simp [Try.ntmps52]) ?_; simp only [push_cast]
  repeat (first | refine cw_seq ?_ | refine cw_region ?_ | refine ow_nil ?_ | ((first | apply ow_cons | apply qw_cons); · simp only [push_cast, env, Nat.reduceEqDiff, reduceIte, Nat.reduceAdd, Nat.reduceMul, Nat.reduceLeDiff, reduceCtorEq, Nat.reduceSub, Int.reduceToNat, d1, d2] <;> exact rfl) | ((first | apply ow_spec | apply qw_spec); · simp only [push_cast, env, Nat.reduceEqDiff, reduceIte, Nat.reduceAdd, Nat.reduceMul, Nat.reduceLeDiff, reduceCtorEq, Nat.reduceSub, Int.reduceToNat, d1, d2] <;> exact rfl) | refine qw_nil ?_ | refine cw_block ?_ | refine cw_scope ?_ | refine cw_label ?_ | refine cw_skip ?_)
  refine cw_condF (by simp only [push_cast, env, Nat.reduceEqDiff, reduceIte, Nat.reduceAdd, Nat.reduceMul, Nat.reduceLeDiff, reduceCtorEq, Nat.reduceSub, Int.reduceToNat, d1, d2] <;> exact rfl) ?_
  repeat (first | refine cw_seq ?_ | refine cw_region ?_ | refine ow_nil ?_ | ((first | apply ow_cons | apply qw_cons); · simp only [push_cast, env, Nat.reduceEqDiff, reduceIte, Nat.reduceAdd, Nat.reduceMul, Nat.reduceLeDiff, reduceCtorEq, Nat.reduceSub, Int.reduceToNat, q1, Int.reduceEq, Int.reduceLT, Int.reduceLE, Int.reduceToNat] <;> exact rfl) | ((first | apply ow_spec | apply qw_spec); · simp only [push_cast, env, Nat.reduceEqDiff, reduceIte, Nat.reduceAdd, Nat.reduceMul, Nat.reduceLeDiff, reduceCtorEq, Nat.reduceSub, Int.reduceToNat, q1, Int.reduceEq, Int.reduceLT, Int.reduceLE, Int.reduceToNat] <;> exact rfl) | refine qw_nil ?_ | refine cw_block ?_ | refine cw_scope ?_ | refine cw_label ?_ | refine cw_skip ?_)
  refine CW.mono (Q := fun e s' => e = .normal ∧ s'.h = h ∧ SubL [(1, .val (i64 n)), (5, .val (u64 (s.word (n / 64))))] s'.fr) ?_ ?_
  · rcases (by omega : n / 64 = 0 ∨ n / 64 = 1 ∨ n / 64 = 2 ∨ n / 64 = 3) with e | e | e | e
    all_goals rw [e]
    · refine cw_condF (by simp [ev, fget]; omega) ?_
      repeat (first | refine cw_seq ?_ | refine cw_region ?_ | refine ow_nil ?_ | ((first | apply ow_cons | apply qw_cons); · simp only [push_cast, env, Nat.reduceEqDiff, reduceIte, Nat.reduceAdd, Nat.reduceMul, Nat.reduceLeDiff, reduceCtorEq, Nat.reduceSub, Int.reduceToNat, e] <;> exact rfl) | ((first | apply ow_spec | apply qw_spec); · simp only [push_cast, env, Nat.reduceEqDiff, reduceIte, Nat.reduceAdd, Nat.reduceMul, Nat.reduceLeDiff, reduceCtorEq, Nat.reduceSub, Int.reduceToNat, e] <;> exact rfl) | refine qw_nil ?_ | refine cw_block ?_ | refine cw_scope ?_ | refine cw_label ?_ | refine cw_skip ?_)
      refine cw_condF (by simp [ev, fget]; omega) ?_
      repeat (first | refine cw_seq ?_ | refine cw_region ?_ | refine ow_nil ?_ | ((first | apply ow_cons | apply qw_cons); · simp only [push_cast, env, Nat.reduceEqDiff, reduceIte, Nat.reduceAdd, Nat.reduceMul, Nat.reduceLeDiff, reduceCtorEq, Nat.reduceSub, Int.reduceToNat, e] <;> exact rfl) | ((first | apply ow_spec | apply qw_spec); · simp only [push_cast, env, Nat.reduceEqDiff, reduceIte, Nat.reduceAdd, Nat.reduceMul, Nat.reduceLeDiff, reduceCtorEq, Nat.reduceSub, Int.reduceToNat, e] <;> exact rfl) | refine qw_nil ?_ | refine cw_block ?_ | refine cw_scope ?_ | refine cw_label ?_ | refine cw_skip ?_)
      refine cw_condF (by simp [ev, fget]; omega) ?_
      repeat (first | refine cw_seq ?_ | refine cw_region ?_ | refine ow_nil ?_ | ((first | apply ow_cons | apply qw_cons); · simp only [push_cast, env, Nat.reduceEqDiff, reduceIte, Nat.reduceAdd, Nat.reduceMul, Nat.reduceLeDiff, reduceCtorEq, Nat.reduceSub, Int.reduceToNat] <;> exact rfl) | ((first | apply ow_spec | apply qw_spec); · simp only [push_cast, env, Nat.reduceEqDiff, reduceIte, Nat.reduceAdd, Nat.reduceMul, Nat.reduceLeDiff, reduceCtorEq, Nat.reduceSub, Int.reduceToNat] <;> exact rfl) | refine qw_nil ?_ | refine cw_block ?_ | refine cw_scope ?_ | refine cw_label ?_ | refine cw_skip ?_)
      exact ⟨rfl, rfl, (by simp only [push_cast, SubL, fget, Nat.reduceEqDiff, reduceIte, BSet.word])⟩
    · refine cw_condT (by simp [ev, fget]; omega) ?_
      repeat (first | refine cw_seq ?_ | refine cw_region ?_ | refine ow_nil ?_ | ((first | apply ow_cons | apply qw_cons); · simp only [push_cast, env, Nat.reduceEqDiff, reduceIte, Nat.reduceAdd, Nat.reduceMul, Nat.reduceLeDiff, reduceCtorEq, Nat.reduceSub, Int.reduceToNat, e] <;> exact rfl) | ((first | apply ow_spec | apply qw_spec); · simp only [push_cast, env, Nat.reduceEqDiff, reduceIte, Nat.reduceAdd, Nat.reduceMul, Nat.reduceLeDiff, reduceCtorEq, Nat.reduceSub, Int.reduceToNat, e] <;> exact rfl) | refine qw_nil ?_ | refine cw_block ?_ | refine cw_scope ?_ | refine cw_label ?_ | refine cw_skip ?_)
      exact ⟨rfl, rfl, (by simp only [push_cast, SubL, fget, Nat.reduceEqDiff, reduceIte, BSet.word])⟩
    · refine cw_condF (by simp [ev, fget]; omega) ?_
      repeat (first | refine cw_seq ?_ | refine cw_region ?_ | refine ow_nil ?_ | ((first | apply ow_cons | apply qw_cons); · simp only [push_cast, env, Nat.reduceEqDiff, reduceIte, Nat.reduceAdd, Nat.reduceMul, Nat.reduceLeDiff, reduceCtorEq, Nat.reduceSub, Int.reduceToNat, e] <;> exact rfl) | ((first | apply ow_spec | apply qw_spec); · simp only [push_cast, env, Nat.reduceEqDiff, reduceIte, Nat.reduceAdd, Nat.reduceMul, Nat.reduceLeDiff, reduceCtorEq, Nat.reduceSub, Int.reduceToNat, e] <;> exact rfl) | refine qw_nil ?_ | refine cw_block ?_ | refine cw_scope ?_ | refine cw_label ?_ | refine cw_skip ?_)
      refine cw_condT (by simp [ev, fget]; omega) ?_
      repeat (first | refine cw_seq ?_ | refine cw_region ?_ | refine ow_nil ?_ | ((first | apply ow_cons | apply qw_cons); · simp only [push_cast, env, Nat.reduceEqDiff, reduceIte, Nat.reduceAdd, Nat.reduceMul, Nat.reduceLeDiff, reduceCtorEq, Nat.reduceSub, Int.reduceToNat, e] <;> exact rfl) | ((first | apply ow_spec | apply qw_spec); · simp only [push_cast, env, Nat.reduceEqDiff, reduceIte, Nat.reduceAdd, Nat.reduceMul, Nat.reduceLeDiff, reduceCtorEq, Nat.reduceSub, Int.reduceToNat, e] <;> exact rfl) | refine qw_nil ?_ | refine cw_block ?_ | refine cw_scope ?_ | refine cw_label ?_ | refine cw_skip ?_)
      exact ⟨rfl, rfl, (by simp only [push_cast, SubL, fget, Nat.reduceEqDiff, reduceIte, BSet.word])⟩
    · refine cw_condF (by simp [ev, fget]; omega) ?_
      repeat (first | refine cw_seq ?_ | refine cw_region ?_ | refine ow_nil ?_ | ((first | apply ow_cons | apply qw_cons); · simp only [push_cast, env, Nat.reduceEqDiff, reduceIte, Nat.reduceAdd, Nat.reduceMul, Nat.reduceLeDiff, reduceCtorEq, Nat.reduceSub, Int.reduceToNat, e] <;> exact rfl) | ((first | apply ow_spec | apply qw_spec); · simp only [push_cast, env, Nat.reduceEqDiff, reduceIte, Nat.reduceAdd, Nat.reduceMul, Nat.reduceLeDiff, reduceCtorEq, Nat.reduceSub, Int.reduceToNat, e] <;> exact rfl) | refine qw_nil ?_ | refine cw_block ?_ | refine cw_scope ?_ | refine cw_label ?_ | refine cw_skip ?_)
      refine cw_condF (by simp [ev, fget]; omega) ?_
      repeat (first | refine cw_seq ?_ | refine cw_region ?_ | refine ow_nil ?_ | ((first | apply ow_cons | apply qw_cons); · simp only [push_cast, env, Nat.reduceEqDiff, reduceIte, Nat.reduceAdd, Nat.reduceMul, Nat.reduceLeDiff, reduceCtorEq, Nat.reduceSub, Int.reduceToNat, e] <;> exact rfl) | ((first | apply ow_spec | apply qw_spec); · simp only [push_cast, env, Nat.reduceEqDiff, reduceIte, Nat.reduceAdd, Nat.reduceMul, Nat.reduceLeDiff, reduceCtorEq, Nat.reduceSub, Int.reduceToNat, e] <;> exact rfl) | refine qw_nil ?_ | refine cw_block ?_ | refine cw_scope ?_ | refine cw_label ?_ | refine cw_skip ?_)
      refine cw_condT (by simp [ev, fget]; omega) ?_
      repeat (first | refine cw_seq ?_ | refine cw_region ?_ | refine ow_nil ?_ | ((first | apply ow_cons | apply qw_cons); · simp only [push_cast, env, Nat.reduceEqDiff, reduceIte, Nat.reduceAdd, Nat.reduceMul, Nat.reduceLeDiff, reduceCtorEq, Nat.reduceSub, Int.reduceToNat, e] <;> exact rfl) | ((first | apply ow_spec | apply qw_spec); · simp only [push_cast, env, Nat.reduceEqDiff, reduceIte, Nat.reduceAdd, Nat.reduceMul, Nat.reduceLeDiff, reduceCtorEq, Nat.reduceSub, Int.reduceToNat, e] <;> exact rfl) | refine qw_nil ?_ | refine cw_block ?_ | refine cw_scope ?_ | refine cw_label ?_ | refine cw_skip ?_)
      exact ⟨rfl, rfl, (by simp only [push_cast, SubL, fget, Nat.reduceEqDiff, reduceIte, BSet.word])⟩
  rintro e s' ⟨rfl, hh, hf⟩
  show CW _ _ _ _
  refine cw_weakL _ hf ?_
  rw [hh]
  repeat (first | refine cw_seq ?_ | refine cw_region ?_ | refine ow_nil ?_ | ((first | apply ow_cons | apply qw_cons); · simp only [push_cast, env, Nat.reduceEqDiff, reduceIte, Nat.reduceAdd, Nat.reduceMul, Nat.reduceLeDiff, reduceCtorEq, Nat.reduceSub, Int.reduceToNat] <;> exact rfl) | ((first | apply ow_spec | apply qw_spec); · simp only [push_cast, env, Nat.reduceEqDiff, reduceIte, Nat.reduceAdd, Nat.reduceMul, Nat.reduceLeDiff, reduceCtorEq, Nat.reduceSub, Int.reduceToNat] <;> exact rfl) | refine qw_nil ?_ | refine cw_block ?_ | refine cw_scope ?_ | refine cw_label ?_ | refine cw_skip ?_)
  refine cw_for (n % 64) (fun k => [(1, .val (i64 n)), (5, .val (u64 (s.word (n / 64) / 2 ^ k))), (6, .val (i64 k))]) (fun _ => h) (fun _ => True) (by simp only [push_cast, SubL, fget, Nat.reduceEqDiff, reduceIte, Int.pow_zero, Int.ediv_one]) rfl trivial ?_
  intro k hk _
  by_cases hlt : k < n % 64
  · have e2 := inc hlt (by omega)
    have e3 : decide ((k : Int) < (n : Int) % 64) = true := decide_eq_true (by omega)
    have e4 := half_step ww k
    repeat (first | refine cw_seq ?_ | refine cw_region ?_ | refine ow_nil ?_ | ((first | apply ow_cons | apply qw_cons); · simp only [push_cast, env, Nat.reduceEqDiff, reduceIte, Nat.reduceAdd, Nat.reduceMul, Nat.reduceLeDiff, reduceCtorEq, Nat.reduceSub, Int.reduceToNat, q2, e3, Int.reduceEq] <;> exact rfl) | ((first | apply ow_spec | apply qw_spec); · simp only [push_cast, env, Nat.reduceEqDiff, reduceIte, Nat.reduceAdd, Nat.reduceMul, Nat.reduceLeDiff, reduceCtorEq, Nat.reduceSub, Int.reduceToNat, q2, e3, Int.reduceEq] <;> exact rfl) | refine qw_nil ?_ | refine cw_block ?_ | refine cw_scope ?_ | refine cw_label ?_ | refine cw_skip ?_)
    refine cw_condT (by simp only [push_cast, env, Nat.reduceEqDiff, reduceIte, Nat.reduceAdd, Nat.reduceMul, Nat.reduceLeDiff, reduceCtorEq, Nat.reduceSub, Int.reduceToNat] <;> exact rfl) ?_
    repeat (first | refine cw_seq ?_ | refine cw_region ?_ | refine ow_nil ?_ | ((first | apply ow_cons | apply qw_cons); · simp only [push_cast, env, Nat.reduceEqDiff, reduceIte, Nat.reduceAdd, Nat.reduceMul, Nat.reduceLeDiff, reduceCtorEq, Nat.reduceSub, Int.reduceToNat, e2, e4, Int.reduceEq] <;> exact rfl) | ((first | apply ow_spec | apply qw_spec); · simp only [push_cast, env, Nat.reduceEqDiff, reduceIte, Nat.reduceAdd, Nat.reduceMul, Nat.reduceLeDiff, reduceCtorEq, Nat.reduceSub, Int.reduceToNat, e2, e4, Int.reduceEq] <;> exact rfl) | refine qw_nil ?_ | refine cw_block ?_ | refine cw_scope ?_ | refine cw_label ?_ | refine cw_skip ?_)
    exact ⟨hlt, (by simp only [push_cast, SubL, fget, Nat.reduceEqDiff, reduceIte]), rfl, trivial⟩
  · have e3 : decide ((k : Int) < (n : Int) % 64) = false := decide_eq_false (by omega)
    have hk' : k = n % 64 := by omega
    repeat (first | refine cw_seq ?_ | refine cw_region ?_ | refine ow_nil ?_ | ((first | apply ow_cons | apply qw_cons); · simp only [push_cast, env, Nat.reduceEqDiff, reduceIte, Nat.reduceAdd, Nat.reduceMul, Nat.reduceLeDiff, reduceCtorEq, Nat.reduceSub, Int.reduceToNat, q2, e3, Int.reduceEq] <;> exact rfl) | ((first | apply ow_spec | apply qw_spec); · simp only [push_cast, env, Nat.reduceEqDiff, reduceIte, Nat.reduceAdd, Nat.reduceMul, Nat.reduceLeDiff, reduceCtorEq, Nat.reduceSub, Int.reduceToNat, q2, e3, Int.reduceEq] <;> exact rfl) | refine qw_nil ?_ | refine cw_block ?_ | refine cw_scope ?_ | refine cw_label ?_ | refine cw_skip ?_)
    refine cw_condF (by simp only [push_cast, env, Nat.reduceEqDiff, reduceIte, Nat.reduceAdd, Nat.reduceMul, Nat.reduceLeDiff, reduceCtorEq, Nat.reduceSub, Int.reduceToNat] <;> exact rfl) ?_
    refine cw_exit ?_
    show CW _ _ _ _
    repeat (first | refine cw_seq ?_ | refine cw_region ?_ | refine ow_nil ?_ | ((first | apply ow_cons | apply qw_cons); · simp only [push_cast, env, Nat.reduceEqDiff, reduceIte, Nat.reduceAdd, Nat.reduceMul, Nat.reduceLeDiff, reduceCtorEq, Nat.reduceSub, Int.reduceToNat, Int.reduceEq] <;> exact rfl) | ((first | apply ow_spec | apply qw_spec); · simp only [push_cast, env, Nat.reduceEqDiff, reduceIte, Nat.reduceAdd, Nat.reduceMul, Nat.reduceLeDiff, reduceCtorEq, Nat.reduceSub, Int.reduceToNat, Int.reduceEq] <;> exact rfl) | refine qw_nil ?_ | refine cw_block ?_ | refine cw_scope ?_ | refine cw_label ?_ | refine cw_skip ?_)
    refine cw_ret ?_
    refine ⟨_, (by simp only [push_cast, env, Nat.reduceEqDiff, reduceIte, Nat.reduceAdd, Nat.reduceMul, Nat.reduceLeDiff, reduceCtorEq, Nat.reduceSub, Int.reduceToNat] <;> exact rfl), ?_, rfl⟩
    have : s.has n = decide ((s.word (n / 64) / 2 ^ k).tmod 2 = 1) := by
      rw [hk']
      unfold BSet.has
      rw [wbit_div ww, Int.tmod_eq_emod_of_nonneg (div_pow ww _).1]
    rw [this]
    rfl
def BSet.setWord (s : BSet) (i : Nat) (w : Int) : BSet := match i with
  | 0 => ⟨w, s.b, s.c, s.d⟩
  | 1 => ⟨s.a, w, s.c, s.d⟩
  | 2 => ⟨s.a, s.b, w, s.d⟩
  | _ => ⟨s.a, s.b, s.c, w⟩
theorem setWord_wf {s : BSet} {i : Nat} {w : Int} (hs : SetWf s) (hw : WWf w) : SetWf (s.setWord i w) := by
  match i with
  | 0 => exact ⟨hw, hs.b, hs.c, hs.d⟩
  | 1 => exact ⟨hs.a, hw, hs.c, hs.d⟩
  | 2 => exact ⟨hs.a, hs.b, hw, hs.d⟩
  | k + 3 => exact ⟨hs.a, hs.b, hs.c, hw⟩
theorem setWord_word {s : BSet} {i j : Nat} {w : Int} (hi : i < 4) (hj : j < 4) : (s.setWord i w).word j = if i = j then w else s.word j := by
  rcases (by omega : i = 0 ∨ i = 1 ∨ i = 2 ∨ i = 3) with rfl | rfl | rfl | rfl <;> rcases (by omega : j = 0 ∨ j = 1 ∨ j = 2 ∨ j = 3) with rfl | rfl | rfl | rfl <;> rfl
/-- a set with a byte more -/
structure WithR (s : BSet) (n : Nat) (t : BSet) : Prop where
  wf : SetWf t
  has : ∀ m, m < 256 → t.has m = (s.has m || decide (m = n))
theorem with_ok {s : BSet} {n : Nat} (hs : SetWf s) (hn : n < 256) (hb : s.has n = false) : WithR s n (s.setWord (n / 64) (s.word (n / 64) + 2 ^ (n % 64))) ∧ WWf (s.word (n / 64) + 2 ^ (n % 64)) := by
  obtain ⟨h1, h2⟩ := wadd (hs.word (n / 64)) (j := n % 64) (by omega) hb
  refine ⟨⟨setWord_wf hs h1, fun m hm => ?_⟩, h1⟩
  unfold BSet.has
  rw [setWord_word (by omega) (by omega)]
  by_cases e : n / 64 = m / 64
  · rw [if_pos e, h2, e]
    congr 1
    by_cases e2 : m % 64 = n % 64
    · rw [decide_eq_true e2, decide_eq_true (by omega)]
    · rw [decide_eq_false e2, decide_eq_false (by omega)]
  · rw [if_neg e, decide_eq_false (by omega), Bool.or_false]
theorem pow64 {k : Nat} (h : k < 64) : (0 : Int) ≤ 2 ^ k ∧ (2 : Int) ^ k < 18446744073709551616 := by
  have e : ((2 : Int) ^ k) = ((2 ^ k : Nat) : Int) := by simp
  have : 2 ^ k < 2 ^ 64 := Nat.pow_lt_pow_right (by decide) h
  rw [e]
  generalize 2 ^ k = q at this ⊢
  omega
set_option maxHeartbeats 2000000 in
theorem with_fw {h : Heap} {s : BSet} {n : Nat} (hs : SetWf s) (hn : n < 256) : FW env 53 [s.val, i64 n] h fun r h' => (∃ t, r = t.val ∧ WithR s n t) ∧ h' = h := by
  have d1 : decide ((n : Int) < 0) = false := decide_eq_false (by omega)
  have d2 : decide (255 < (n : Int)) = false := decide_eq_false (by omega)
  have q1 : IntKind.i64.wrap ((n : Int).tdiv 64) = (n : Int) / 64 := by
    rw [Int.tdiv_eq_ediv_of_nonneg (by omega)]
    exact wrap64_id (by omega) (by omega)
  have q2 : (n : Int).tmod 64 = (n : Int) % 64 := Int.tmod_eq_emod_of_nonneg (by omega)
  refine fw_enter (fn := Try.f53) Try.func53 rfl (by kernel_rfl) (by simp [Try.ntmps53]) ?_; simp only [push_cast]
  repeat (first | refine cw_seq ?_ | refine cw_region ?_ | refine ow_nil ?_ | ((first | apply ow_cons | apply qw_cons); · simp only [push_cast, env, Nat.reduceEqDiff, reduceIte, Nat.reduceAdd, Nat.reduceMul, Nat.reduceLeDiff, reduceCtorEq, Nat.reduceSub, Int.reduceToNat, d1, d2] <;> exact rfl) | ((first | apply ow_spec | apply qw_spec); · simp only [push_cast, env, Nat.reduceEqDiff, reduceIte, Nat.reduceAdd, Nat.reduceMul, Nat.reduceLeDiff, reduceCtorEq, Nat.reduceSub, Int.reduceToNat, d1, d2] <;> exact rfl) | refine qw_nil ?_ | refine cw_block ?_ | refine cw_scope ?_ | refine cw_label ?_ | refine cw_skip ?_)
  refine ow_call (fn := Try.f52) (by simp only [push_cast, env, Nat.reduceEqDiff, reduceIte, Nat.reduceAdd, Nat.reduceMul, Nat.reduceLeDiff, reduceCtorEq, Nat.reduceSub, Int.reduceToNat, d1, d2] <;> exact rfl) rfl (by simp only [push_cast, env, Nat.reduceEqDiff, reduceIte, Nat.reduceAdd, Nat.reduceMul, Nat.reduceLeDiff, reduceCtorEq, Nat.reduceSub, Int.reduceToNat, d1, d2] <;> exact rfl) (by simp only [push_cast, env, Nat.reduceEqDiff, reduceIte, Nat.reduceAdd, Nat.reduceMul, Nat.reduceLeDiff, reduceCtorEq, Nat.reduceSub, Int.reduceToNat, d1, d2] <;> exact rfl) Try.func52 (by kernel_rfl) (by kernel_rfl) ?_
  rw [List.append_nil]
  refine (has_fw hs hn).mono ?_
  rintro _ h ⟨rfl, rfl⟩
  repeat (first | refine cw_seq ?_ | refine cw_region ?_ | refine ow_nil ?_ | ((first | apply ow_cons | apply qw_cons); · simp only [push_cast, env, Nat.reduceEqDiff, reduceIte, Nat.reduceAdd, Nat.reduceMul, Nat.reduceLeDiff, reduceCtorEq, Nat.reduceSub, Int.reduceToNat, d1, d2] <;> exact rfl) | ((first | apply ow_spec | apply qw_spec); · simp only [push_cast, env, Nat.reduceEqDiff, reduceIte, Nat.reduceAdd, Nat.reduceMul, Nat.reduceLeDiff, reduceCtorEq, Nat.reduceSub, Int.reduceToNat, d1, d2] <;> exact rfl) | refine qw_nil ?_ | refine cw_block ?_ | refine cw_scope ?_ | refine cw_label ?_ | refine cw_skip ?_)
  refine cw_cond (by simp only [push_cast, env, Nat.reduceEqDiff, reduceIte, Nat.reduceAdd, Nat.reduceMul, Nat.reduceLeDiff, reduceCtorEq, Nat.reduceSub, Int.reduceToNat] <;> exact rfl) (fun c1 => ?_) (fun c1 => ?_)
  · repeat (first | refine cw_seq ?_ | refine cw_region ?_ | refine ow_nil ?_ | ((first | apply ow_cons | apply qw_cons); · simp only [push_cast, env, Nat.reduceEqDiff, reduceIte, Nat.reduceAdd, Nat.reduceMul, Nat.reduceLeDiff, reduceCtorEq, Nat.reduceSub, Int.reduceToNat] <;> exact rfl) | ((first | apply ow_spec | apply qw_spec); · simp only [push_cast, env, Nat.reduceEqDiff, reduceIte, Nat.reduceAdd, Nat.reduceMul, Nat.reduceLeDiff, reduceCtorEq, Nat.reduceSub, Int.reduceToNat] <;> exact rfl) | refine qw_nil ?_ | refine cw_block ?_ | refine cw_scope ?_ | refine cw_label ?_ | refine cw_skip ?_)
    refine cw_ret ?_
    refine ⟨_, (by simp only [push_cast, env, Nat.reduceEqDiff, reduceIte, Nat.reduceAdd, Nat.reduceMul, Nat.reduceLeDiff, reduceCtorEq, Nat.reduceSub, Int.reduceToNat] <;> exact rfl), ⟨s, rfl, hs, fun m hm => ?_⟩, rfl⟩
    by_cases e : m = n
    · subst e
      rw [c1]
      rfl
    · rw [decide_eq_false e, Bool.or_false]
  obtain ⟨hW, hw⟩ := with_ok hs hn c1
  repeat (first | refine cw_seq ?_ | refine cw_region ?_ | refine ow_nil ?_ | ((first | apply ow_cons | apply qw_cons); · simp only [push_cast, env, Nat.reduceEqDiff, reduceIte, Nat.reduceAdd, Nat.reduceMul, Nat.reduceLeDiff, reduceCtorEq, Nat.reduceSub, Int.reduceToNat] <;> exact rfl) | ((first | apply ow_spec | apply qw_spec); · simp only [push_cast, env, Nat.reduceEqDiff, reduceIte, Nat.reduceAdd, Nat.reduceMul, Nat.reduceLeDiff, reduceCtorEq, Nat.reduceSub, Int.reduceToNat] <;> exact rfl) | refine qw_nil ?_ | refine cw_block ?_ | refine cw_scope ?_ | refine cw_label ?_ | refine cw_skip ?_)
  refine cw_for (n % 64) (fun k => [(1, .val (i64 n)), (2, .box [u64 s.a, u64 s.b, u64 s.c, u64 s.d]), (4, .box [u64 0, u64 0, u64 0, u64 0]), (5, .val (u64 (2 ^ k))), (6, .val (i64 k))]) (fun _ => h) (fun _ => True) (by simp only [push_cast, SubL, fget, Nat.reduceEqDiff, reduceIte, Int.pow_zero]) rfl trivial ?_
  intro k hk _
  by_cases hlt : k < n % 64
  · have e2 := inc hlt (by omega)
    have e3 : decide ((k : Int) < (n : Int) % 64) = true := decide_eq_true (by omega)
    have e4 : IntKind.u64.wrap (2 ^ k * 2) = 2 ^ (k + 1) := by
      rw [← Int.pow_succ]
      exact wrap_u64 (pow64 (by omega))
    repeat (first | refine cw_seq ?_ | refine cw_region ?_ | refine ow_nil ?_ | ((first | apply ow_cons | apply qw_cons); · simp only [push_cast, env, Nat.reduceEqDiff, reduceIte, Nat.reduceAdd, Nat.reduceMul, Nat.reduceLeDiff, reduceCtorEq, Nat.reduceSub, Int.reduceToNat, q2, e3, Int.reduceEq] <;> exact rfl) | ((first | apply ow_spec | apply qw_spec); · simp only [push_cast, env, Nat.reduceEqDiff, reduceIte, Nat.reduceAdd, Nat.reduceMul, Nat.reduceLeDiff, reduceCtorEq, Nat.reduceSub, Int.reduceToNat, q2, e3, Int.reduceEq] <;> exact rfl) | refine qw_nil ?_ | refine cw_block ?_ | refine cw_scope ?_ | refine cw_label ?_ | refine cw_skip ?_)
    refine cw_condT (by simp only [push_cast, env, Nat.reduceEqDiff, reduceIte, Nat.reduceAdd, Nat.reduceMul, Nat.reduceLeDiff, reduceCtorEq, Nat.reduceSub, Int.reduceToNat] <;> exact rfl) ?_
    repeat (first | refine cw_seq ?_ | refine cw_region ?_ | refine ow_nil ?_ | ((first | apply ow_cons | apply qw_cons); · simp only [push_cast, env, Nat.reduceEqDiff, reduceIte, Nat.reduceAdd, Nat.reduceMul, Nat.reduceLeDiff, reduceCtorEq, Nat.reduceSub, Int.reduceToNat, e2, e4, Int.reduceEq] <;> exact rfl) | ((first | apply ow_spec | apply qw_spec); · simp only [push_cast, env, Nat.reduceEqDiff, reduceIte, Nat.reduceAdd, Nat.reduceMul, Nat.reduceLeDiff, reduceCtorEq, Nat.reduceSub, Int.reduceToNat, e2, e4, Int.reduceEq] <;> exact rfl) | refine qw_nil ?_ | refine cw_block ?_ | refine cw_scope ?_ | refine cw_label ?_ | refine cw_skip ?_)
    exact ⟨hlt, (by simp only [push_cast, SubL, fget, Nat.reduceEqDiff, reduceIte]), rfl, trivial⟩
  · have e3 : decide ((k : Int) < (n : Int) % 64) = false := decide_eq_false (by omega)
    have hk' : k = n % 64 := by omega
    repeat (first | refine cw_seq ?_ | refine cw_region ?_ | refine ow_nil ?_ | ((first | apply ow_cons | apply qw_cons); · simp only [push_cast, env, Nat.reduceEqDiff, reduceIte, Nat.reduceAdd, Nat.reduceMul, Nat.reduceLeDiff, reduceCtorEq, Nat.reduceSub, Int.reduceToNat, q2, e3, Int.reduceEq] <;> exact rfl) | ((first | apply ow_spec | apply qw_spec); · simp only [push_cast, env, Nat.reduceEqDiff, reduceIte, Nat.reduceAdd, Nat.reduceMul, Nat.reduceLeDiff, reduceCtorEq, Nat.reduceSub, Int.reduceToNat, q2, e3, Int.reduceEq] <;> exact rfl) | refine qw_nil ?_ | refine cw_block ?_ | refine cw_scope ?_ | refine cw_label ?_ | refine cw_skip ?_)
    refine cw_condF (by simp only [push_cast, env, Nat.reduceEqDiff, reduceIte, Nat.reduceAdd, Nat.reduceMul, Nat.reduceLeDiff, reduceCtorEq, Nat.reduceSub, Int.reduceToNat] <;> exact rfl) ?_
    refine cw_exit ?_
    show CW _ _ _ _
    rw [← hk'] at hW hw
    repeat (first | refine cw_seq ?_ | refine cw_region ?_ | refine ow_nil ?_ | ((first | apply ow_cons | apply qw_cons); · simp only [push_cast, env, Nat.reduceEqDiff, reduceIte, Nat.reduceAdd, Nat.reduceMul, Nat.reduceLeDiff, reduceCtorEq, Nat.reduceSub, Int.reduceToNat, q1, Int.reduceEq, Int.reduceLT, Int.reduceLE, Int.reduceToNat] <;> exact rfl) | ((first | apply ow_spec | apply qw_spec); · simp only [push_cast, env, Nat.reduceEqDiff, reduceIte, Nat.reduceAdd, Nat.reduceMul, Nat.reduceLeDiff, reduceCtorEq, Nat.reduceSub, Int.reduceToNat, q1, Int.reduceEq, Int.reduceLT, Int.reduceLE, Int.reduceToNat] <;> exact rfl) | refine qw_nil ?_ | refine cw_block ?_ | refine cw_scope ?_ | refine cw_label ?_ | refine cw_skip ?_)
    rcases (by omega : n / 64 = 0 ∨ n / 64 = 1 ∨ n / 64 = 2 ∨ n / 64 = 3) with e | e | e | e
    all_goals
      rw [e] at hW hw
      simp only [BSet.word, BSet.setWord] at hW hw
      have hwr := wrap_u64 hw
    · refine cw_condT (by simp [ev, fget]; omega) ?_
      repeat (first | refine cw_seq ?_ | refine cw_region ?_ | refine ow_nil ?_ | ((first | apply ow_cons | apply qw_cons); · simp only [push_cast, env, Nat.reduceEqDiff, reduceIte, Nat.reduceAdd, Nat.reduceMul, Nat.reduceLeDiff, reduceCtorEq, Nat.reduceSub, Int.reduceToNat, hwr, Int.reduceEq, Int.reduceLT, Int.reduceLE, Int.reduceToNat] <;> exact rfl) | ((first | apply ow_spec | apply qw_spec); · simp only [push_cast, env, Nat.reduceEqDiff, reduceIte, Nat.reduceAdd, Nat.reduceMul, Nat.reduceLeDiff, reduceCtorEq, Nat.reduceSub, Int.reduceToNat, hwr, Int.reduceEq, Int.reduceLT, Int.reduceLE, Int.reduceToNat] <;> exact rfl) | refine qw_nil ?_ | refine cw_block ?_ | refine cw_scope ?_ | refine cw_label ?_ | refine cw_skip ?_)
      refine cw_ret ?_
      refine ⟨_, (by simp only [push_cast, env, Nat.reduceEqDiff, reduceIte, Nat.reduceAdd, Nat.reduceMul, Nat.reduceLeDiff, reduceCtorEq, Nat.reduceSub, Int.reduceToNat] <;> exact rfl), ⟨_, ?_, hW⟩, rfl⟩
      rfl
    · refine cw_condF (by simp [ev, fget]; omega) ?_
      repeat (first | refine cw_seq ?_ | refine cw_region ?_ | refine ow_nil ?_ | ((first | apply ow_cons | apply qw_cons); · simp only [push_cast, env, Nat.reduceEqDiff, reduceIte, Nat.reduceAdd, Nat.reduceMul, Nat.reduceLeDiff, reduceCtorEq, Nat.reduceSub, Int.reduceToNat] <;> exact rfl) | ((first | apply ow_spec | apply qw_spec); · simp only [push_cast, env, Nat.reduceEqDiff, reduceIte, Nat.reduceAdd, Nat.reduceMul, Nat.reduceLeDiff, reduceCtorEq, Nat.reduceSub, Int.reduceToNat] <;> exact rfl) | refine qw_nil ?_ | refine cw_block ?_ | refine cw_scope ?_ | refine cw_label ?_ | refine cw_skip ?_)
      refine cw_condT (by simp [ev, fget]; omega) ?_
      repeat (first | refine cw_seq ?_ | refine cw_region ?_ | refine ow_nil ?_ | ((first | apply ow_cons | apply qw_cons); · simp only [push_cast, env, Nat.reduceEqDiff, reduceIte, Nat.reduceAdd, Nat.reduceMul, Nat.reduceLeDiff, reduceCtorEq, Nat.reduceSub, Int.reduceToNat, hwr, Int.reduceEq, Int.reduceLT, Int.reduceLE, Int.reduceToNat] <;> exact rfl) | ((first | apply ow_spec | apply qw_spec); · simp only [push_cast, env, Nat.reduceEqDiff, reduceIte, Nat.reduceAdd, Nat.reduceMul, Nat.reduceLeDiff, reduceCtorEq, Nat.reduceSub, Int.reduceToNat, hwr, Int.reduceEq, Int.reduceLT, Int.reduceLE, Int.reduceToNat] <;> exact rfl) | refine qw_nil ?_ | refine cw_block ?_ | refine cw_scope ?_ | refine cw_label ?_ | refine cw_skip ?_)
      refine cw_ret ?_
      refine ⟨_, (by simp only [push_cast, env, Nat.reduceEqDiff, reduceIte, Nat.reduceAdd, Nat.reduceMul, Nat.reduceLeDiff, reduceCtorEq, Nat.reduceSub, Int.reduceToNat] <;> exact rfl), ⟨_, ?_, hW⟩, rfl⟩
      rfl
    · refine cw_condF (by simp [ev, fget]; omega) ?_
      repeat (first | refine cw_seq ?_ | refine cw_region ?_ | refine ow_nil ?_ | ((first | apply ow_cons | apply qw_cons); · simp only [push_cast, env, Nat.reduceEqDiff, reduceIte, Nat.reduceAdd, Nat.reduceMul, Nat.reduceLeDiff, reduceCtorEq, Nat.reduceSub, Int.reduceToNat] <;> exact rfl) | ((first | apply ow_spec | apply qw_spec); · simp only [push_cast, env, Nat.reduceEqDiff, reduceIte, Nat.reduceAdd, Nat.reduceMul, Nat.reduceLeDiff, reduceCtorEq, Nat.reduceSub, Int.reduceToNat] <;> exact rfl) | refine qw_nil ?_ | refine cw_block ?_ | refine cw_scope ?_ | refine cw_label ?_ | refine cw_skip ?_)
      refine cw_condF (by simp [ev, fget]; omega) ?_
      repeat (first | refine cw_seq ?_ | refine cw_region ?_ | refine ow_nil ?_ | ((first | apply ow_cons | apply qw_cons); · simp only [push_cast, env, Nat.reduceEqDiff, reduceIte, Nat.reduceAdd, Nat.reduceMul, Nat.reduceLeDiff, reduceCtorEq, Nat.reduceSub, Int.reduceToNat] <;> exact rfl) | ((first | apply ow_spec | apply qw_spec); · simp only [push_cast, env, Nat.reduceEqDiff, reduceIte, Nat.reduceAdd, Nat.reduceMul, Nat.reduceLeDiff, reduceCtorEq, Nat.reduceSub, Int.reduceToNat] <;> exact rfl) | refine qw_nil ?_ | refine cw_block ?_ | refine cw_scope ?_ | refine cw_label ?_ | refine cw_skip ?_)
      refine cw_condT (by simp [ev, fget]; omega) ?_
      repeat (first | refine cw_seq ?_ | refine cw_region ?_ | refine ow_nil ?_ | ((first | apply ow_cons | apply qw_cons); · simp only [push_cast, env, Nat.reduceEqDiff, reduceIte, Nat.reduceAdd, Nat.reduceMul, Nat.reduceLeDiff, reduceCtorEq, Nat.reduceSub, Int.reduceToNat, hwr, Int.reduceEq, Int.reduceLT, Int.reduceLE, Int.reduceToNat] <;> exact rfl) | ((first | apply ow_spec | apply qw_spec); · simp only [push_cast, env, Nat.reduceEqDiff, reduceIte, Nat.reduceAdd, Nat.reduceMul, Nat.reduceLeDiff, reduceCtorEq, Nat.reduceSub, Int.reduceToNat, hwr, Int.reduceEq, Int.reduceLT, Int.reduceLE, Int.reduceToNat] <;> exact rfl) | refine qw_nil ?_ | refine cw_block ?_ | refine cw_scope ?_ | refine cw_label ?_ | refine cw_skip ?_)
      refine cw_ret ?_
      refine ⟨_, (by simp only [push_cast, env, Nat.reduceEqDiff, reduceIte, Nat.reduceAdd, Nat.reduceMul, Nat.reduceLeDiff, reduceCtorEq, Nat.reduceSub, Int.reduceToNat] <;> exact rfl), ⟨_, ?_, hW⟩, rfl⟩
      rfl
    · refine cw_condF (by simp [ev, fget]; omega) ?_
      repeat (first | refine cw_seq ?_ | refine cw_region ?_ | refine ow_nil ?_ | ((first | apply ow_cons | apply qw_cons); · simp only [push_cast, env, Nat.reduceEqDiff, reduceIte, Nat.reduceAdd, Nat.reduceMul, Nat.reduceLeDiff, reduceCtorEq, Nat.reduceSub, Int.reduceToNat] <;> exact rfl) | ((first | apply ow_spec | apply qw_spec); · simp only [push_cast, env, Nat.reduceEqDiff, reduceIte, Nat.reduceAdd, Nat.reduceMul, Nat.reduceLeDiff, reduceCtorEq, Nat.reduceSub, Int.reduceToNat] <;> exact rfl) | refine qw_nil ?_ | refine cw_block ?_ | refine cw_scope ?_ | refine cw_label ?_ | refine cw_skip ?_)
      refine cw_condF (by simp [ev, fget]; omega) ?_
      repeat (first | refine cw_seq ?_ | refine cw_region ?_ | refine ow_nil ?_ | ((first | apply ow_cons | apply qw_cons); · simp only [push_cast, env, Nat.reduceEqDiff, reduceIte, Nat.reduceAdd, Nat.reduceMul, Nat.reduceLeDiff, reduceCtorEq, Nat.reduceSub, Int.reduceToNat] <;> exact rfl) | ((first | apply ow_spec | apply qw_spec); · simp only [push_cast, env, Nat.reduceEqDiff, reduceIte, Nat.reduceAdd, Nat.reduceMul, Nat.reduceLeDiff, reduceCtorEq, Nat.reduceSub, Int.reduceToNat] <;> exact rfl) | refine qw_nil ?_ | refine cw_block ?_ | refine cw_scope ?_ | refine cw_label ?_ | refine cw_skip ?_)
      refine cw_condF (by simp [ev, fget]; omega) ?_
      repeat (first | refine cw_seq ?_ | refine cw_region ?_ | refine ow_nil ?_ | ((first | apply ow_cons | apply qw_cons); · simp only [push_cast, env, Nat.reduceEqDiff, reduceIte, Nat.reduceAdd, Nat.reduceMul, Nat.reduceLeDiff, reduceCtorEq, Nat.reduceSub, Int.reduceToNat, hwr, Int.reduceEq, Int.reduceLT, Int.reduceLE, Int.reduceToNat] <;> exact rfl) | ((first | apply ow_spec | apply qw_spec); · simp only [push_cast, env, Nat.reduceEqDiff, reduceIte, Nat.reduceAdd, Nat.reduceMul, Nat.reduceLeDiff, reduceCtorEq, Nat.reduceSub, Int.reduceToNat, hwr, Int.reduceEq, Int.reduceLT, Int.reduceLE, Int.reduceToNat] <;> exact rfl) | refine qw_nil ?_ | refine cw_block ?_ | refine cw_scope ?_ | refine cw_label ?_ | refine cw_skip ?_)
      refine cw_ret ?_
      refine ⟨_, (by simp only [push_cast, env, Nat.reduceEqDiff, reduceIte, Nat.reduceAdd, Nat.reduceMul, Nat.reduceLeDiff, reduceCtorEq, Nat.reduceSub, Int.reduceToNat] <;> exact rfl), ⟨_, ?_, hW⟩, rfl⟩
      rfl
set_option maxHeartbeats 2000000 in
theorem op_fw {h : Heap} {s t : BSet} (hs : SetWf s) (ht : SetWf t) : FW env 40 [i64 0, s.val, t.val] h fun r h' => r = (s.union t).val ∧ h' = h := by
  refine fw_enter (fn := Try.f40) Try.func40 rfl (by kernel_rfl) (by simp [Try.ntmps40]) ?_; simp only [push_cast]
  repeat (first | refine cw_seq ?_ | refine cw_region ?_ | refine ow_nil ?_ | ((first | apply ow_cons | apply qw_cons); · simp only [push_cast, env, Nat.reduceEqDiff, reduceIte, Nat.reduceAdd, Nat.reduceMul, Nat.reduceLeDiff, reduceCtorEq, Nat.reduceSub, Int.reduceToNat] <;> exact rfl) | ((first | apply ow_spec | apply qw_spec); · simp only [push_cast, env, Nat.reduceEqDiff, reduceIte, Nat.reduceAdd, Nat.reduceMul, Nat.reduceLeDiff, reduceCtorEq, Nat.reduceSub, Int.reduceToNat] <;> exact rfl) | refine qw_nil ?_ | refine cw_block ?_ | refine cw_scope ?_ | refine cw_label ?_ | refine cw_skip ?_)
  refine cw_forG 256 (fun k (o : BSet) => [(0, .val (i64 0)), (4, .box [u64 s.a, u64 s.b, u64 s.c, u64 s.d]), (5, .box [u64 t.a, u64 t.b, u64 t.c, u64 t.d]), (6, .box [u64 0, u64 0, u64 0, u64 0]), (7, .box [u64 o.a, u64 o.b, u64 o.c, u64 o.d]), (8, .val (i64 k))]) (fun _ _ => h)
    (fun k o => SetWf o ∧ ∀ m, m < 256 → o.has m = (decide (m < k) && (s.has m || t.has m))) BSet.zero (by simp only [push_cast, SubL, fget, Nat.reduceEqDiff, reduceIte, BSet.zero]) rfl ⟨zero_wf, fun m _ => by rw [zero_has]; simp⟩ ?_
  rintro k o hk ⟨ho, hI⟩
  by_cases hlt : k < 256
  · have e2 := inc hlt (by omega)
    have e3 : decide ((k : Int) < 256) = true := decide_eq_true (by omega)
    repeat (first | refine cw_seq ?_ | refine cw_region ?_ | refine ow_nil ?_ | ((first | apply ow_cons | apply qw_cons); · simp only [push_cast, env, Nat.reduceEqDiff, reduceIte, Nat.reduceAdd, Nat.reduceMul, Nat.reduceLeDiff, reduceCtorEq, Nat.reduceSub, Int.reduceToNat, e3] <;> exact rfl) | ((first | apply ow_spec | apply qw_spec); · simp only [push_cast, env, Nat.reduceEqDiff, reduceIte, Nat.reduceAdd, Nat.reduceMul, Nat.reduceLeDiff, reduceCtorEq, Nat.reduceSub, Int.reduceToNat, e3] <;> exact rfl) | refine qw_nil ?_ | refine cw_block ?_ | refine cw_scope ?_ | refine cw_label ?_ | refine cw_skip ?_)
    refine cw_condT (by simp only [push_cast, env, Nat.reduceEqDiff, reduceIte, Nat.reduceAdd, Nat.reduceMul, Nat.reduceLeDiff, reduceCtorEq, Nat.reduceSub, Int.reduceToNat] <;> exact rfl) ?_
    repeat (first | refine cw_seq ?_ | refine cw_region ?_ | refine ow_nil ?_ | ((first | apply ow_cons | apply qw_cons); · simp only [push_cast, env, Nat.reduceEqDiff, reduceIte, Nat.reduceAdd, Nat.reduceMul, Nat.reduceLeDiff, reduceCtorEq, Nat.reduceSub, Int.reduceToNat] <;> exact rfl) | ((first | apply ow_spec | apply qw_spec); · simp only [push_cast, env, Nat.reduceEqDiff, reduceIte, Nat.reduceAdd, Nat.reduceMul, Nat.reduceLeDiff, reduceCtorEq, Nat.reduceSub, Int.reduceToNat] <;> exact rfl) | refine qw_nil ?_ | refine cw_block ?_ | refine cw_scope ?_ | refine cw_label ?_ | refine cw_skip ?_)
    refine cw_order0 (h := h) [[], [], [0, 1], [], [], [3, 4], [2], [5]]
      [.sl (.val s.val), .sl (.val (i64 k)), .sl (.val (.bool (s.has k))), .sl (.val t.val), .sl (.val (i64 k)), .sl (.val (.bool (t.has k))), .sl (.val (.bool (s.has k))), .sl (.val (.bool (t.has k)))]
      [(0, .val (i64 0)), (4, .box [u64 s.a, u64 s.b, u64 s.c, u64 s.d]), (5, .box [u64 t.a, u64 t.b, u64 t.c, u64 t.d]), (6, .box [u64 0, u64 0, u64 0, u64 0]), (7, .box [u64 o.a, u64 o.b, u64 o.c, u64 o.d]), (8, .val (i64 k)), (11, .val (i64 k)), (12, .val (.bool true))]
      [(0, .val (i64 0)), (4, .box [u64 s.a, u64 s.b, u64 s.c, u64 s.d]), (5, .box [u64 t.a, u64 t.b, u64 t.c, u64 t.d]), (6, .box [u64 0, u64 0, u64 0, u64 0]), (7, .box [u64 o.a, u64 o.b, u64 o.c, u64 o.d]), (8, .val (i64 k)), (9, .val (.bool (s.has k))), (10, .val (.bool (t.has k)))] mixed (by kernel_rfl) rfl rfl (by simp only [push_cast, env, Nat.reduceEqDiff, reduceIte, Nat.reduceAdd, Nat.reduceMul, Nat.reduceLeDiff, reduceCtorEq, Nat.reduceSub, Int.reduceToNat, e3] <;> exact rfl) ?_ ?_ ?_
    · repeat (first | exact Steps0.nil _ | (apply Steps0.cons; (· (apply one_val; (· rfl); (· simp only [push_cast, env, Nat.reduceEqDiff, reduceIte, Nat.reduceAdd, Nat.reduceMul, Nat.reduceLeDiff, reduceCtorEq, Nat.reduceSub, Int.reduceToNat] <;> exact rfl); (· simp only [push_cast, env, Nat.reduceEqDiff, reduceIte, Nat.reduceAdd, Nat.reduceMul, Nat.reduceLeDiff, reduceCtorEq, Nat.reduceSub, Int.reduceToNat] <;> exact rfl))); (· rfl)))
      apply Steps0.cons; · refine one_call (fn := Try.f52) rfl (by simp only [push_cast, env, Nat.reduceEqDiff, reduceIte, Nat.reduceAdd, Nat.reduceMul, Nat.reduceLeDiff, reduceCtorEq, Nat.reduceSub, Int.reduceToNat] <;> exact rfl) rfl (by simp only [push_cast, env, Nat.reduceEqDiff, reduceIte, Nat.reduceAdd, Nat.reduceMul, Nat.reduceLeDiff, reduceCtorEq, Nat.reduceSub, Int.reduceToNat] <;> exact rfl) (by simp only [push_cast, env, Nat.reduceEqDiff, reduceIte, Nat.reduceAdd, Nat.reduceMul, Nat.reduceLeDiff, reduceCtorEq, Nat.reduceSub, Int.reduceToNat] <;> exact rfl) Try.func52 (by kernel_rfl) (by kernel_rfl) (has_fw hs hlt)
      · rfl
      repeat (first | exact Steps0.nil _ | (apply Steps0.cons; (· (apply one_val; (· rfl); (· simp only [push_cast, env, Nat.reduceEqDiff, reduceIte, Nat.reduceAdd, Nat.reduceMul, Nat.reduceLeDiff, reduceCtorEq, Nat.reduceSub, Int.reduceToNat] <;> exact rfl); (· simp only [push_cast, env, Nat.reduceEqDiff, reduceIte, Nat.reduceAdd, Nat.reduceMul, Nat.reduceLeDiff, reduceCtorEq, Nat.reduceSub, Int.reduceToNat] <;> exact rfl))); (· rfl)))
      apply Steps0.cons; · refine one_call (fn := Try.f52) rfl (by simp only [push_cast, env, Nat.reduceEqDiff, reduceIte, Nat.reduceAdd, Nat.reduceMul, Nat.reduceLeDiff, reduceCtorEq, Nat.reduceSub, Int.reduceToNat] <;> exact rfl) rfl (by simp only [push_cast, env, Nat.reduceEqDiff, reduceIte, Nat.reduceAdd, Nat.reduceMul, Nat.reduceLeDiff, reduceCtorEq, Nat.reduceSub, Int.reduceToNat] <;> exact rfl) (by simp only [push_cast, env, Nat.reduceEqDiff, reduceIte, Nat.reduceAdd, Nat.reduceMul, Nat.reduceLeDiff, reduceCtorEq, Nat.reduceSub, Int.reduceToNat] <;> exact rfl) Try.func52 (by kernel_rfl) (by kernel_rfl) (has_fw ht hlt)
      · rfl
      repeat (first | exact Steps0.nil _ | (apply Steps0.cons; (· (apply one_val; (· rfl); (· simp only [push_cast, env, Nat.reduceEqDiff, reduceIte, Nat.reduceAdd, Nat.reduceMul, Nat.reduceLeDiff, reduceCtorEq, Nat.reduceSub, Int.reduceToNat] <;> exact rfl); (· simp only [push_cast, env, Nat.reduceEqDiff, reduceIte, Nat.reduceAdd, Nat.reduceMul, Nat.reduceLeDiff, reduceCtorEq, Nat.reduceSub, Int.reduceToNat] <;> exact rfl))); (· rfl)))
    · exact ⟨.inl ⟨by decide, rfl⟩, .inl ⟨by decide, rfl⟩, .inl ⟨by decide, rfl⟩, .inl ⟨by decide, rfl⟩, .inl ⟨by decide, rfl⟩, .inl ⟨by decide, rfl⟩, .inr ⟨rfl, by simp⟩, .inr ⟨rfl, by simp⟩, trivial⟩
    · show CW _ _ _ _
      cases ha : s.has k <;> cases hb : t.has k
      · repeat (first | refine cw_seq ?_ | refine cw_region ?_ | refine ow_nil ?_ | ((first | apply ow_cons | apply qw_cons); · simp only [push_cast, env, Nat.reduceEqDiff, reduceIte, Nat.reduceAdd, Nat.reduceMul, Nat.reduceLeDiff, reduceCtorEq, Nat.reduceSub, Int.reduceToNat] <;> exact rfl) | ((first | apply ow_spec | apply qw_spec); · simp only [push_cast, env, Nat.reduceEqDiff, reduceIte, Nat.reduceAdd, Nat.reduceMul, Nat.reduceLeDiff, reduceCtorEq, Nat.reduceSub, Int.reduceToNat] <;> exact rfl) | refine qw_nil ?_ | refine cw_block ?_ | refine cw_scope ?_ | refine cw_label ?_ | refine cw_skip ?_)
        refine cw_condF (by simp only [push_cast, env, Nat.reduceEqDiff, reduceIte, Nat.reduceAdd, Nat.reduceMul, Nat.reduceLeDiff, reduceCtorEq, Nat.reduceSub, Int.reduceToNat] <;> exact rfl) ?_
        repeat (first | refine cw_seq ?_ | refine cw_region ?_ | refine ow_nil ?_ | ((first | apply ow_cons | apply qw_cons); · simp only [push_cast, env, Nat.reduceEqDiff, reduceIte, Nat.reduceAdd, Nat.reduceMul, Nat.reduceLeDiff, reduceCtorEq, Nat.reduceSub, Int.reduceToNat, e2] <;> exact rfl) | ((first | apply ow_spec | apply qw_spec); · simp only [push_cast, env, Nat.reduceEqDiff, reduceIte, Nat.reduceAdd, Nat.reduceMul, Nat.reduceLeDiff, reduceCtorEq, Nat.reduceSub, Int.reduceToNat, e2] <;> exact rfl) | refine qw_nil ?_ | refine cw_block ?_ | refine cw_scope ?_ | refine cw_label ?_ | refine cw_skip ?_)
        refine ⟨hlt, o, (by simp only [push_cast, SubL, fget, Nat.reduceEqDiff, reduceIte]), rfl, ho, fun m hm => ?_⟩
        rw [hI m hm]
        by_cases e : m = k
        · subst e
          simp [ha, hb]
        · rw [show decide (m < k + 1) = decide (m < k) by rw [decide_eq_decide]; omega]
      · repeat (first | refine cw_seq ?_ | refine cw_region ?_ | refine ow_nil ?_ | ((first | apply ow_cons | apply qw_cons); · simp only [push_cast, env, Nat.reduceEqDiff, reduceIte, Nat.reduceAdd, Nat.reduceMul, Nat.reduceLeDiff, reduceCtorEq, Nat.reduceSub, Int.reduceToNat] <;> exact rfl) | ((first | apply ow_spec | apply qw_spec); · simp only [push_cast, env, Nat.reduceEqDiff, reduceIte, Nat.reduceAdd, Nat.reduceMul, Nat.reduceLeDiff, reduceCtorEq, Nat.reduceSub, Int.reduceToNat] <;> exact rfl) | refine qw_nil ?_ | refine cw_block ?_ | refine cw_scope ?_ | refine cw_label ?_ | refine cw_skip ?_)
        refine cw_condT (by simp only [push_cast, env, Nat.reduceEqDiff, reduceIte, Nat.reduceAdd, Nat.reduceMul, Nat.reduceLeDiff, reduceCtorEq, Nat.reduceSub, Int.reduceToNat] <;> exact rfl) ?_
        repeat (first | refine cw_seq ?_ | refine cw_region ?_ | refine ow_nil ?_ | ((first | apply ow_cons | apply qw_cons); · simp only [push_cast, env, Nat.reduceEqDiff, reduceIte, Nat.reduceAdd, Nat.reduceMul, Nat.reduceLeDiff, reduceCtorEq, Nat.reduceSub, Int.reduceToNat] <;> exact rfl) | ((first | apply ow_spec | apply qw_spec); · simp only [push_cast, env, Nat.reduceEqDiff, reduceIte, Nat.reduceAdd, Nat.reduceMul, Nat.reduceLeDiff, reduceCtorEq, Nat.reduceSub, Int.reduceToNat] <;> exact rfl) | refine qw_nil ?_ | refine cw_block ?_ | refine cw_scope ?_ | refine cw_label ?_ | refine cw_skip ?_)
        refine ow_call (fn := Try.f53) (by simp only [push_cast, env, Nat.reduceEqDiff, reduceIte, Nat.reduceAdd, Nat.reduceMul, Nat.reduceLeDiff, reduceCtorEq, Nat.reduceSub, Int.reduceToNat] <;> exact rfl) rfl (by simp only [push_cast, env, Nat.reduceEqDiff, reduceIte, Nat.reduceAdd, Nat.reduceMul, Nat.reduceLeDiff, reduceCtorEq, Nat.reduceSub, Int.reduceToNat] <;> exact rfl) (by simp only [push_cast, env, Nat.reduceEqDiff, reduceIte, Nat.reduceAdd, Nat.reduceMul, Nat.reduceLeDiff, reduceCtorEq, Nat.reduceSub, Int.reduceToNat] <;> exact rfl) Try.func53 (by kernel_rfl) (by kernel_rfl) ?_
        rw [List.append_nil]
        refine (with_fw ho hlt).mono ?_
        rintro _ h ⟨⟨q, rfl, hq⟩, rfl⟩
        repeat (first | refine cw_seq ?_ | refine cw_region ?_ | refine ow_nil ?_ | ((first | apply ow_cons | apply qw_cons); · simp only [push_cast, env, Nat.reduceEqDiff, reduceIte, Nat.reduceAdd, Nat.reduceMul, Nat.reduceLeDiff, reduceCtorEq, Nat.reduceSub, Int.reduceToNat, e2] <;> exact rfl) | ((first | apply ow_spec | apply qw_spec); · simp only [push_cast, env, Nat.reduceEqDiff, reduceIte, Nat.reduceAdd, Nat.reduceMul, Nat.reduceLeDiff, reduceCtorEq, Nat.reduceSub, Int.reduceToNat, e2] <;> exact rfl) | refine qw_nil ?_ | refine cw_block ?_ | refine cw_scope ?_ | refine cw_label ?_ | refine cw_skip ?_)
        refine ⟨hlt, q, (by simp only [push_cast, SubL, fget, Nat.reduceEqDiff, reduceIte]), rfl, hq.wf, fun m hm => ?_⟩
        rw [hq.has m hm, hI m hm]
        by_cases e : m = k
        · subst e
          simp [ha, hb]
        · rw [show decide (m < k + 1) = decide (m < k) by rw [decide_eq_decide]; omega, decide_eq_false e, Bool.or_false]
      · repeat (first | refine cw_seq ?_ | refine cw_region ?_ | refine ow_nil ?_ | ((first | apply ow_cons | apply qw_cons); · simp only [push_cast, env, Nat.reduceEqDiff, reduceIte, Nat.reduceAdd, Nat.reduceMul, Nat.reduceLeDiff, reduceCtorEq, Nat.reduceSub, Int.reduceToNat] <;> exact rfl) | ((first | apply ow_spec | apply qw_spec); · simp only [push_cast, env, Nat.reduceEqDiff, reduceIte, Nat.reduceAdd, Nat.reduceMul, Nat.reduceLeDiff, reduceCtorEq, Nat.reduceSub, Int.reduceToNat] <;> exact rfl) | refine qw_nil ?_ | refine cw_block ?_ | refine cw_scope ?_ | refine cw_label ?_ | refine cw_skip ?_)
        refine cw_condT (by simp only [push_cast, env, Nat.reduceEqDiff, reduceIte, Nat.reduceAdd, Nat.reduceMul, Nat.reduceLeDiff, reduceCtorEq, Nat.reduceSub, Int.reduceToNat] <;> exact rfl) ?_
        repeat (first | refine cw_seq ?_ | refine cw_region ?_ | refine ow_nil ?_ | ((first | apply ow_cons | apply qw_cons); · simp only [push_cast, env, Nat.reduceEqDiff, reduceIte, Nat.reduceAdd, Nat.reduceMul, Nat.reduceLeDiff, reduceCtorEq, Nat.reduceSub, Int.reduceToNat] <;> exact rfl) | ((first | apply ow_spec | apply qw_spec); · simp only [push_cast, env, Nat.reduceEqDiff, reduceIte, Nat.reduceAdd, Nat.reduceMul, Nat.reduceLeDiff, reduceCtorEq, Nat.reduceSub, Int.reduceToNat] <;> exact rfl) | refine qw_nil ?_ | refine cw_block ?_ | refine cw_scope ?_ | refine cw_label ?_ | refine cw_skip ?_)
        refine ow_call (fn := Try.f53) (by simp only [push_cast, env, Nat.reduceEqDiff, reduceIte, Nat.reduceAdd, Nat.reduceMul, Nat.reduceLeDiff, reduceCtorEq, Nat.reduceSub, Int.reduceToNat] <;> exact rfl) rfl (by simp only [push_cast, env, Nat.reduceEqDiff, reduceIte, Nat.reduceAdd, Nat.reduceMul, Nat.reduceLeDiff, reduceCtorEq, Nat.reduceSub, Int.reduceToNat] <;> exact rfl) (by simp only [push_cast, env, Nat.reduceEqDiff, reduceIte, Nat.reduceAdd, Nat.reduceMul, Nat.reduceLeDiff, reduceCtorEq, Nat.reduceSub, Int.reduceToNat] <;> exact rfl) Try.func53 (by kernel_rfl) (by kernel_rfl) ?_
        rw [List.append_nil]
        refine (with_fw ho hlt).mono ?_
        rintro _ h ⟨⟨q, rfl, hq⟩, rfl⟩
        repeat (first | refine cw_seq ?_ | refine cw_region ?_ | refine ow_nil ?_ | ((first | apply ow_cons | apply qw_cons); · simp only [push_cast, env, Nat.reduceEqDiff, reduceIte, Nat.reduceAdd, Nat.reduceMul, Nat.reduceLeDiff, reduceCtorEq, Nat.reduceSub, Int.reduceToNat, e2] <;> exact rfl) | ((first | apply ow_spec | apply qw_spec); · simp only [push_cast, env, Nat.reduceEqDiff, reduceIte, Nat.reduceAdd, Nat.reduceMul, Nat.reduceLeDiff, reduceCtorEq, Nat.reduceSub, Int.reduceToNat, e2] <;> exact rfl) | refine qw_nil ?_ | refine cw_block ?_ | refine cw_scope ?_ | refine cw_label ?_ | refine cw_skip ?_)
        refine ⟨hlt, q, (by simp only [push_cast, SubL, fget, Nat.reduceEqDiff, reduceIte]), rfl, hq.wf, fun m hm => ?_⟩
        rw [hq.has m hm, hI m hm]
        by_cases e : m = k
        · subst e
          simp [ha, hb]
        · rw [show decide (m < k + 1) = decide (m < k) by rw [decide_eq_decide]; omega, decide_eq_false e, Bool.or_false]
      · repeat (first | refine cw_seq ?_ | refine cw_region ?_ | refine ow_nil ?_ | ((first | apply ow_cons | apply qw_cons); · simp only [push_cast, env, Nat.reduceEqDiff, reduceIte, Nat.reduceAdd, Nat.reduceMul, Nat.reduceLeDiff, reduceCtorEq, Nat.reduceSub, Int.reduceToNat] <;> exact rfl) | ((first | apply ow_spec | apply qw_spec); · simp only [push_cast, env, Nat.reduceEqDiff, reduceIte, Nat.reduceAdd, Nat.reduceMul, Nat.reduceLeDiff, reduceCtorEq, Nat.reduceSub, Int.reduceToNat] <;> exact rfl) | refine qw_nil ?_ | refine cw_block ?_ | refine cw_scope ?_ | refine cw_label ?_ | refine cw_skip ?_)
        refine cw_condT (by simp only [push_cast, env, Nat.reduceEqDiff, reduceIte, Nat.reduceAdd, Nat.reduceMul, Nat.reduceLeDiff, reduceCtorEq, Nat.reduceSub, Int.reduceToNat] <;> exact rfl) ?_
        repeat (first | refine cw_seq ?_ | refine cw_region ?_ | refine ow_nil ?_ | ((first | apply ow_cons | apply qw_cons); · simp only [push_cast, env, Nat.reduceEqDiff, reduceIte, Nat.reduceAdd, Nat.reduceMul, Nat.reduceLeDiff, reduceCtorEq, Nat.reduceSub, Int.reduceToNat] <;> exact rfl) | ((first | apply ow_spec | apply qw_spec); · simp only [push_cast, env, Nat.reduceEqDiff, reduceIte, Nat.reduceAdd, Nat.reduceMul, Nat.reduceLeDiff, reduceCtorEq, Nat.reduceSub, Int.reduceToNat] <;> exact rfl) | refine qw_nil ?_ | refine cw_block ?_ | refine cw_scope ?_ | refine cw_label ?_ | refine cw_skip ?_)
        refine ow_call (fn := Try.f53) (by simp only [push_cast, env, Nat.reduceEqDiff, reduceIte, Nat.reduceAdd, Nat.reduceMul, Nat.reduceLeDiff, reduceCtorEq, Nat.reduceSub, Int.reduceToNat] <;> exact rfl) rfl (by simp only [push_cast, env, Nat.reduceEqDiff, reduceIte, Nat.reduceAdd, Nat.reduceMul, Nat.reduceLeDiff, reduceCtorEq, Nat.reduceSub, Int.reduceToNat] <;> exact rfl) (by simp only [push_cast, env, Nat.reduceEqDiff, reduceIte, Nat.reduceAdd, Nat.reduceMul, Nat.reduceLeDiff, reduceCtorEq, Nat.reduceSub, Int.reduceToNat] <;> exact rfl) Try.func53 (by kernel_rfl) (by kernel_rfl) ?_
        rw [List.append_nil]
        refine (with_fw ho hlt).mono ?_
        rintro _ h ⟨⟨q, rfl, hq⟩, rfl⟩
        repeat (first | refine cw_seq ?_ | refine cw_region ?_ | refine ow_nil ?_ | ((first | apply ow_cons | apply qw_cons); · simp only [push_cast, env, Nat.reduceEqDiff, reduceIte, Nat.reduceAdd, Nat.reduceMul, Nat.reduceLeDiff, reduceCtorEq, Nat.reduceSub, Int.reduceToNat, e2] <;> exact rfl) | ((first | apply ow_spec | apply qw_spec); · simp only [push_cast, env, Nat.reduceEqDiff, reduceIte, Nat.reduceAdd, Nat.reduceMul, Nat.reduceLeDiff, reduceCtorEq, Nat.reduceSub, Int.reduceToNat, e2] <;> exact rfl) | refine qw_nil ?_ | refine cw_block ?_ | refine cw_scope ?_ | refine cw_label ?_ | refine cw_skip ?_)
        refine ⟨hlt, q, (by simp only [push_cast, SubL, fget, Nat.reduceEqDiff, reduceIte]), rfl, hq.wf, fun m hm => ?_⟩
        rw [hq.has m hm, hI m hm]
        by_cases e : m = k
        · subst e
          simp [ha, hb]
        · rw [show decide (m < k + 1) = decide (m < k) by rw [decide_eq_decide]; omega, decide_eq_false e, Bool.or_false]
  · have e3 : decide ((k : Int) < 256) = false := decide_eq_false (by omega)
    have hk' : k = 256 := by omega
    repeat (first | refine cw_seq ?_ | refine cw_region ?_ | refine ow_nil ?_ | ((first | apply ow_cons | apply qw_cons); · simp only [push_cast, env, Nat.reduceEqDiff, reduceIte, Nat.reduceAdd, Nat.reduceMul, Nat.reduceLeDiff, reduceCtorEq, Nat.reduceSub, Int.reduceToNat, e3] <;> exact rfl) | ((first | apply ow_spec | apply qw_spec); · simp only [push_cast, env, Nat.reduceEqDiff, reduceIte, Nat.reduceAdd, Nat.reduceMul, Nat.reduceLeDiff, reduceCtorEq, Nat.reduceSub, Int.reduceToNat, e3] <;> exact rfl) | refine qw_nil ?_ | refine cw_block ?_ | refine cw_scope ?_ | refine cw_label ?_ | refine cw_skip ?_)
    refine cw_condF (by simp only [push_cast, env, Nat.reduceEqDiff, reduceIte, Nat.reduceAdd, Nat.reduceMul, Nat.reduceLeDiff, reduceCtorEq, Nat.reduceSub, Int.reduceToNat] <;> exact rfl) ?_
    refine cw_exit ?_
    show CW _ _ _ _
    repeat (first | refine cw_seq ?_ | refine cw_region ?_ | refine ow_nil ?_ | ((first | apply ow_cons | apply qw_cons); · simp only [push_cast, env, Nat.reduceEqDiff, reduceIte, Nat.reduceAdd, Nat.reduceMul, Nat.reduceLeDiff, reduceCtorEq, Nat.reduceSub, Int.reduceToNat] <;> exact rfl) | ((first | apply ow_spec | apply qw_spec); · simp only [push_cast, env, Nat.reduceEqDiff, reduceIte, Nat.reduceAdd, Nat.reduceMul, Nat.reduceLeDiff, reduceCtorEq, Nat.reduceSub, Int.reduceToNat] <;> exact rfl) | refine qw_nil ?_ | refine cw_block ?_ | refine cw_scope ?_ | refine cw_label ?_ | refine cw_skip ?_)
    refine cw_ret ?_
    refine ⟨_, (by simp only [push_cast, env, Nat.reduceEqDiff, reduceIte, Nat.reduceAdd, Nat.reduceMul, Nat.reduceLeDiff, reduceCtorEq, Nat.reduceSub, Int.reduceToNat] <;> exact rfl), ?_, rfl⟩
    have : o = s.union t := BSet.ext ho (union_wf hs ht) fun m hm => by rw [hI m hm, union_has, decide_eq_true (by omega), Bool.true_and]
    rw [← this]
    rfl
end Go.Proofs.Ytnlchlnkibpkaaa

/- First, of the program. -/
namespace Go.Proofs.Ytnlchlnkibpkaaa
set_option linter.unusedSimpArgs false
set_option linter.unusedVariables false
open Go.RowKit Am Ty

/-- a grammar whose sets are right -/
def WfG (g : Gram) : Prop := ∀ r ∈ g.rules, ∀ s ∈ r.rhs, SetWf s.set
abbrev MineS (h h' : Heap) (v : Value) (l : List BSet) : Prop := Mine h h' v l.length (l.flatMap BSet.cells) 45
structure FG where
  hk : Heap
  out : List BSet
  ch : Bool
structure FGI (h1 : Heap) (io : Nat) (x : FG) : Prop where
  p : h1 <+: x.hk
  o : x.hk[io]? = some (.arr (x.out.flatMap BSet.cells) 0 true 45)
set_option maxHeartbeats 4000000 in
theorem first_fw {h : Heap} {g : Gram} {v : Value} (hr : RdGram h v g) (hW : WfG g) : FW env 19 [v] h fun r h' => Told g nilS (fun x h' => ∃ l, Firsts g (nullD g) l ∧ MineS h h' x l) r h' ∧ h <+: h' := by
  obtain ⟨u, rfl, hu⟩ := id hr
  obtain ⟨p, c, rfl⟩ := hu.form
  have hle := hu.le
  refine fw_enter (fn := Try.f19) Try.func19 rfl (by kernel_rfl) (by simp [Try.ntmps19]) ?_; simp only [push_cast]
  repeat (first | refine cw_seq ?_ | refine cw_region ?_ | refine ow_nil ?_ | ((first | apply ow_cons | apply qw_cons); · simp only [push_cast, env, Nat.reduceEqDiff, reduceIte, Nat.reduceAdd, Nat.reduceMul, Nat.reduceLeDiff, reduceCtorEq, Nat.reduceSub, Int.reduceToNat] <;> exact rfl) | ((first | apply ow_spec | apply qw_spec); · simp only [push_cast, env, Nat.reduceEqDiff, reduceIte, Nat.reduceAdd, Nat.reduceMul, Nat.reduceLeDiff, reduceCtorEq, Nat.reduceSub, Int.reduceToNat] <;> exact rfl) | refine qw_nil ?_ | refine cw_block ?_ | refine cw_scope ?_ | refine cw_label ?_ | refine cw_skip ?_)
  refine ow_call (fn := Try.f22) (by simp only [push_cast, env, Nat.reduceEqDiff, reduceIte, Nat.reduceAdd, Nat.reduceMul, Nat.reduceLeDiff, reduceCtorEq, Nat.reduceSub, Int.reduceToNat] <;> exact rfl) rfl (by simp only [push_cast, env, Nat.reduceEqDiff, reduceIte, Nat.reduceAdd, Nat.reduceMul, Nat.reduceLeDiff, reduceCtorEq, Nat.reduceSub, Int.reduceToNat] <;> exact rfl) (by simp only [push_cast, env, Nat.reduceEqDiff, reduceIte, Nat.reduceAdd, Nat.reduceMul, Nat.reduceLeDiff, reduceCtorEq, Nat.reduceSub, Int.reduceToNat] <;> exact rfl) Try.func22 (by kernel_rfl) (by kernel_rfl) ?_
  rw [List.append_nil]
  refine (nullable_fw hr).mono ?_
  rintro _ h1 ⟨⟨x, rfl, ⟨hb, rfl⟩ | ⟨hb, m, hm, idm, verm, him, rfl, hgm⟩⟩, hp1⟩
  · have e0 : rightG g = 3 := if_pos hb
    rw [e0]
    repeat (first | refine cw_seq ?_ | refine cw_region ?_ | refine ow_nil ?_ | ((first | apply ow_cons | apply qw_cons); · simp only [push_cast, env, Nat.reduceEqDiff, reduceIte, Nat.reduceAdd, Nat.reduceMul, Nat.reduceLeDiff, reduceCtorEq, Nat.reduceSub, Int.reduceToNat] <;> exact rfl) | ((first | apply ow_spec | apply qw_spec); · simp only [push_cast, env, Nat.reduceEqDiff, reduceIte, Nat.reduceAdd, Nat.reduceMul, Nat.reduceLeDiff, reduceCtorEq, Nat.reduceSub, Int.reduceToNat] <;> exact rfl) | refine qw_nil ?_ | refine cw_block ?_ | refine cw_scope ?_ | refine cw_label ?_ | refine cw_skip ?_)
    refine cw_condT (by simp only [push_cast, env, Nat.reduceEqDiff, reduceIte, Nat.reduceAdd, Nat.reduceMul, Nat.reduceLeDiff, reduceCtorEq, Nat.reduceSub, Int.reduceToNat] <;> exact rfl) ?_
    repeat (first | refine cw_seq ?_ | refine cw_region ?_ | refine ow_nil ?_ | ((first | apply ow_cons | apply qw_cons); · simp only [push_cast, env, Nat.reduceEqDiff, reduceIte, Nat.reduceAdd, Nat.reduceMul, Nat.reduceLeDiff, reduceCtorEq, Nat.reduceSub, Int.reduceToNat] <;> exact rfl) | ((first | apply ow_spec | apply qw_spec); · simp only [push_cast, env, Nat.reduceEqDiff, reduceIte, Nat.reduceAdd, Nat.reduceMul, Nat.reduceLeDiff, reduceCtorEq, Nat.reduceSub, Int.reduceToNat] <;> exact rfl) | refine qw_nil ?_ | refine cw_block ?_ | refine cw_scope ?_ | refine cw_label ?_ | refine cw_skip ?_)
    refine cw_ret ?_
    exact ⟨_, (by simp only [push_cast, env, Nat.reduceEqDiff, reduceIte, Nat.reduceAdd, Nat.reduceMul, Nat.reduceLeDiff, reduceCtorEq, Nat.reduceSub, Int.reduceToNat] <;> exact rfl), ⟨_, by rw [e0]; rfl, .inl ⟨hb, rfl⟩⟩, hp1⟩
  have e0 : rightG g = 0 := if_neg hb
  have R := rightS hb
  have n1 := R.n1
  have n2 := R.n2
  rw [e0]
  repeat (first | refine cw_seq ?_ | refine cw_region ?_ | refine ow_nil ?_ | ((first | apply ow_cons | apply qw_cons); · simp only [push_cast, env, Nat.reduceEqDiff, reduceIte, Nat.reduceAdd, Nat.reduceMul, Nat.reduceLeDiff, reduceCtorEq, Nat.reduceSub, Int.reduceToNat] <;> exact rfl) | ((first | apply ow_spec | apply qw_spec); · simp only [push_cast, env, Nat.reduceEqDiff, reduceIte, Nat.reduceAdd, Nat.reduceMul, Nat.reduceLeDiff, reduceCtorEq, Nat.reduceSub, Int.reduceToNat] <;> exact rfl) | refine qw_nil ?_ | refine cw_block ?_ | refine cw_scope ?_ | refine cw_label ?_ | refine cw_skip ?_)
  refine cw_condF (by simp only [push_cast, env, Nat.reduceEqDiff, reduceIte, Nat.reduceAdd, Nat.reduceMul, Nat.reduceLeDiff, reduceCtorEq, Nat.reduceSub, Int.reduceToNat] <;> exact rfl) ?_
  obtain ⟨N, hN⟩ : ∃ N : Nat, g.nts = N := ⟨g.nts.toNat, by omega⟩
  have hml : m.length = N := by have := hm.1; omega
  repeat (first | refine cw_seq ?_ | refine cw_region ?_ | refine ow_nil ?_ | ((first | apply ow_cons | apply qw_cons); · simp only [push_cast, env, Nat.reduceEqDiff, reduceIte, Nat.reduceAdd, Nat.reduceMul, Nat.reduceLeDiff, reduceCtorEq, Nat.reduceSub, Int.reduceToNat] <;> exact rfl) | ((first | apply ow_spec | apply qw_spec); · simp only [push_cast, env, Nat.reduceEqDiff, reduceIte, Nat.reduceAdd, Nat.reduceMul, Nat.reduceLeDiff, reduceCtorEq, Nat.reduceSub, Int.reduceToNat] <;> exact rfl) | refine qw_nil ?_ | refine cw_block ?_ | refine cw_scope ?_ | refine cw_label ?_ | refine cw_skip ?_)
  refine ow_mkSet (N := N) (by simp only [push_cast, env, Nat.reduceEqDiff, reduceIte, Nat.reduceAdd, Nat.reduceMul, Nat.reduceLeDiff, reduceCtorEq, Nat.reduceSub, Int.reduceToNat] <;> exact rfl) rfl (by simp only [push_cast, env, Nat.reduceEqDiff, reduceIte, Nat.reduceAdd, Nat.reduceMul, Nat.reduceLeDiff, reduceCtorEq, Nat.reduceSub, Int.reduceToNat] <;> exact rfl) hN (by omega) ?_
  repeat (first | refine cw_seq ?_ | refine cw_region ?_ | refine ow_nil ?_ | ((first | apply ow_cons | apply qw_cons); · simp only [push_cast, env, Nat.reduceEqDiff, reduceIte, Nat.reduceAdd, Nat.reduceMul, Nat.reduceLeDiff, reduceCtorEq, Nat.reduceSub, Int.reduceToNat] <;> exact rfl) | ((first | apply ow_spec | apply qw_spec); · simp only [push_cast, env, Nat.reduceEqDiff, reduceIte, Nat.reduceAdd, Nat.reduceMul, Nat.reduceLeDiff, reduceCtorEq, Nat.reduceSub, Int.reduceToNat] <;> exact rfl) | refine qw_nil ?_ | refine cw_block ?_ | refine cw_scope ?_ | refine cw_label ?_ | refine cw_skip ?_)
  refine cw_wh (fun x : FG => 2 * room x.out + x.ch.toNat) (fun x => [(1, .box [i64 g.nts, i64 g.start, .slice p g.rules.length c]), (4, .val (.slice (some ⟨idm, 0, some verm⟩) m.length m.length)), (6, .val (.slice (some ⟨h1.length, 0, some 0⟩) N N)), (7, .val (.bool x.ch))]) (fun x => x.hk)
    (fun x => FGI h1 h1.length x ∧ FInv g (nullD g) x.out ∧ (x.ch = false → ∀ r ∈ g.rules, FClosed (nullD g) x.out r (sget x.out r.lhs))) ⟨_, List.replicate N BSet.zero, true⟩ (by simp only [push_cast, SubL, fget, Nat.reduceEqDiff, reduceIte]) rfl ⟨⟨prefix_push, get_push⟩, ⟨by simp [hN], fun i _ _ => by rw [sget_rep]; exact zero_wf, fun i _ _ b _ hh => by rw [sget_rep, zero_has] at hh; cases hh⟩, by simp⟩ ?_
  rintro ⟨hk0, out0, ch0⟩ ⟨⟨hp0, ho0⟩, hI0, hc0⟩
  simp only at hp0 ho0 hI0 hc0 ⊢
  have hn0 := hI0.n
  cases ch0 with
  | false =>
    repeat (first | refine cw_seq ?_ | refine cw_region ?_ | refine ow_nil ?_ | ((first | apply ow_cons | apply qw_cons); · simp only [push_cast, env, Nat.reduceEqDiff, reduceIte, Nat.reduceAdd, Nat.reduceMul, Nat.reduceLeDiff, reduceCtorEq, Nat.reduceSub, Int.reduceToNat] <;> exact rfl) | ((first | apply ow_spec | apply qw_spec); · simp only [push_cast, env, Nat.reduceEqDiff, reduceIte, Nat.reduceAdd, Nat.reduceMul, Nat.reduceLeDiff, reduceCtorEq, Nat.reduceSub, Int.reduceToNat] <;> exact rfl) | refine qw_nil ?_ | refine cw_block ?_ | refine cw_scope ?_ | refine cw_label ?_ | refine cw_skip ?_)
    refine cw_condF (by simp only [push_cast, env, Nat.reduceEqDiff, reduceIte, Nat.reduceAdd, Nat.reduceMul, Nat.reduceLeDiff, reduceCtorEq, Nat.reduceSub, Int.reduceToNat] <;> exact rfl) ?_
    refine cw_exit ?_
    show CW _ _ _ _
    repeat (first | refine cw_seq ?_ | refine cw_region ?_ | refine ow_nil ?_ | ((first | apply ow_cons | apply qw_cons); · simp only [push_cast, env, Nat.reduceEqDiff, reduceIte, Nat.reduceAdd, Nat.reduceMul, Nat.reduceLeDiff, reduceCtorEq, Nat.reduceSub, Int.reduceToNat] <;> exact rfl) | ((first | apply ow_spec | apply qw_spec); · simp only [push_cast, env, Nat.reduceEqDiff, reduceIte, Nat.reduceAdd, Nat.reduceMul, Nat.reduceLeDiff, reduceCtorEq, Nat.reduceSub, Int.reduceToNat] <;> exact rfl) | refine qw_nil ?_ | refine cw_block ?_ | refine cw_scope ?_ | refine cw_label ?_ | refine cw_skip ?_)
    refine cw_ret ?_
    refine ⟨_, (by simp only [push_cast, env, Nat.reduceEqDiff, reduceIte, Nat.reduceAdd, Nat.reduceMul, Nat.reduceLeDiff, reduceCtorEq, Nat.reduceSub, Int.reduceToNat] <;> exact rfl), ⟨_, by rw [e0]; rfl, .inr ⟨hb, out0, hI0.fin R (hc0 rfl), h1.length, 0, hp1.length_le, ?_, ho0⟩⟩, hp1.trans hp0⟩
    rw [show out0.length = N by omega]
  | true =>
  repeat (first | refine cw_seq ?_ | refine cw_region ?_ | refine ow_nil ?_ | ((first | apply ow_cons | apply qw_cons); · simp only [push_cast, env, Nat.reduceEqDiff, reduceIte, Nat.reduceAdd, Nat.reduceMul, Nat.reduceLeDiff, reduceCtorEq, Nat.reduceSub, Int.reduceToNat] <;> exact rfl) | ((first | apply ow_spec | apply qw_spec); · simp only [push_cast, env, Nat.reduceEqDiff, reduceIte, Nat.reduceAdd, Nat.reduceMul, Nat.reduceLeDiff, reduceCtorEq, Nat.reduceSub, Int.reduceToNat] <;> exact rfl) | refine qw_nil ?_ | refine cw_block ?_ | refine cw_scope ?_ | refine cw_label ?_ | refine cw_skip ?_)
  refine cw_condT (by simp only [push_cast, env, Nat.reduceEqDiff, reduceIte, Nat.reduceAdd, Nat.reduceMul, Nat.reduceLeDiff, reduceCtorEq, Nat.reduceSub, Int.reduceToNat] <;> exact rfl) ?_
  repeat (first | refine cw_seq ?_ | refine cw_region ?_ | refine ow_nil ?_ | ((first | apply ow_cons | apply qw_cons); · simp only [push_cast, env, Nat.reduceEqDiff, reduceIte, Nat.reduceAdd, Nat.reduceMul, Nat.reduceLeDiff, reduceCtorEq, Nat.reduceSub, Int.reduceToNat] <;> exact rfl) | ((first | apply ow_spec | apply qw_spec); · simp only [push_cast, env, Nat.reduceEqDiff, reduceIte, Nat.reduceAdd, Nat.reduceMul, Nat.reduceLeDiff, reduceCtorEq, Nat.reduceSub, Int.reduceToNat] <;> exact rfl) | refine qw_nil ?_ | refine cw_block ?_ | refine cw_scope ?_ | refine cw_label ?_ | refine cw_skip ?_)
  refine cw_forG g.rules.length (fun k (x : FG) => [(1, .box [i64 g.nts, i64 g.start, .slice p g.rules.length c]), (4, .val (.slice (some ⟨idm, 0, some verm⟩) m.length m.length)), (6, .val (.slice (some ⟨h1.length, 0, some 0⟩) N N)), (7, .val (.bool x.ch)), (26, .val (.slice p g.rules.length c)), (27, .val (i64 g.rules.length)), (28, .val (i64 k))]) (fun _ x => x.hk)
    (fun k x => FGI h1 h1.length x ∧ FInv g (nullD g) x.out ∧ room x.out ≤ room out0 ∧ (x.ch = true → room x.out < room out0) ∧ (x.ch = false → ∀ r ∈ g.rules.take k, FClosed (nullD g) x.out r (sget x.out r.lhs))) ⟨hk0, out0, false⟩ (by simp only [push_cast, SubL, fget, Nat.reduceEqDiff, reduceIte]) rfl ⟨⟨hp0, ho0⟩, hI0, Nat.le_refl _, by simp, by simp⟩ ?_
  rintro k ⟨hk, out, ch⟩ hkn ⟨⟨hp, ho⟩, hI, hle1, hch1, hcl⟩
  simp only at hp ho hI hle1 hch1 hcl ⊢
  have hn := hI.n
  by_cases hlt : k < g.rules.length
  · obtain ⟨id, ver, own, c', cells, p', n', c2, hv, hid, hn, hrd, hu'⟩ := hu.at hlt
    cases hv
    subst hn
    have e0 := rdH_get0 hrd (by omega)
    have e0' := rdH_get (j := 1) hrd (by omega)
    simp only [List.getElem?_cons_succ, List.getElem?_cons_zero] at e0 e0'
    have e1 := rng hlt
    have e2 := inc hlt hle
    have e3 := lt_dec hlt
    have hmem : g.rules[k] ∈ _ := List.getElem_mem hlt
    have hn2 := RdSyms.le hu'
    obtain ⟨a1, a2, a3, hS⟩ := R.r _ hmem
    have hid2 := getElem?_prefix (hp1.trans hp) hid
    have r1 := rng0 (N := N) a1 (by omega)
    have sl := sget_cells (l := out) a1 (by omega)
    repeat (first | refine cw_seq ?_ | refine cw_region ?_ | refine ow_nil ?_ | ((first | apply ow_cons | apply qw_cons); · simp only [push_cast, env, Nat.reduceEqDiff, reduceIte, Nat.reduceAdd, Nat.reduceMul, Nat.reduceLeDiff, reduceCtorEq, Nat.reduceSub, Int.reduceToNat, e1, hid2, hrd, e3] <;> exact rfl) | ((first | apply ow_spec | apply qw_spec); · simp only [push_cast, env, Nat.reduceEqDiff, reduceIte, Nat.reduceAdd, Nat.reduceMul, Nat.reduceLeDiff, reduceCtorEq, Nat.reduceSub, Int.reduceToNat, e1, hid2, hrd, e3] <;> exact rfl) | refine qw_nil ?_ | refine cw_block ?_ | refine cw_scope ?_ | refine cw_label ?_ | refine cw_skip ?_)
    refine cw_condT (by simp only [push_cast, env, Nat.reduceEqDiff, reduceIte, Nat.reduceAdd, Nat.reduceMul, Nat.reduceLeDiff, reduceCtorEq, Nat.reduceSub, Int.reduceToNat] <;> exact rfl) ?_
    repeat (first | refine cw_seq ?_ | refine cw_region ?_ | refine ow_nil ?_ | ((first | apply ow_cons | apply qw_cons); · simp only [push_cast, env, Nat.reduceEqDiff, reduceIte, Nat.reduceAdd, Nat.reduceMul, Nat.reduceLeDiff, reduceCtorEq, Nat.reduceSub, Int.reduceToNat, e1, hid2, hrd, r1, ho, sl] <;> exact rfl) | ((first | apply ow_spec | apply qw_spec); · simp only [push_cast, env, Nat.reduceEqDiff, reduceIte, Nat.reduceAdd, Nat.reduceMul, Nat.reduceLeDiff, reduceCtorEq, Nat.reduceSub, Int.reduceToNat, e1, hid2, hrd, r1, ho, sl] <;> exact rfl) | refine qw_nil ?_ | refine cw_block ?_ | refine cw_scope ?_ | refine cw_label ?_ | refine cw_skip ?_)
    refine CW.mono (Q := fun e s' => e = .exit 4 ∧ s'.h = hk ∧ ∃ s : BSet, SubL [(1, .box [i64 g.nts, i64 g.start, .slice (some ⟨id, 0, some ver⟩) g.rules.length c]), (4, .val (.slice (some ⟨idm, 0, some verm⟩) m.length m.length)), (6, .val (.slice (some ⟨h1.length, 0, some 0⟩) N N)), (7, .val (.bool ch)), (9, .box [i64 g.rules[k].lhs, .slice p' g.rules[k].rhs.length c2]), (10, .box [u64 s.a, u64 s.b, u64 s.c, u64 s.d]), (26, .val (.slice (some ⟨id, 0, some ver⟩) g.rules.length c)), (27, .val (i64 g.rules.length)), (28, .val (i64 k))] s'.fr ∧
      SetWf s ∧ SLe (sget out g.rules[k].lhs) s ∧ (∀ b, b < 256 → s.has b = true → Fst g.rules (nullD g) b g.rules[k].lhs) ∧ FClosed (nullD g) out g.rules[k] s) ?_ ?_
    · refine cw_forG g.rules[k].rhs.length (fun j (s : BSet) => [(1, .box [i64 g.nts, i64 g.start, .slice (some ⟨id, 0, some ver⟩) g.rules.length c]), (4, .val (.slice (some ⟨idm, 0, some verm⟩) m.length m.length)), (6, .val (.slice (some ⟨h1.length, 0, some 0⟩) N N)), (7, .val (.bool ch)), (9, .box [i64 g.rules[k].lhs, .slice p' g.rules[k].rhs.length c2]), (10, .box [u64 s.a, u64 s.b, u64 s.c, u64 s.d]), (26, .val (.slice (some ⟨id, 0, some ver⟩) g.rules.length c)), (27, .val (i64 g.rules.length)), (28, .val (i64 k)), (38, .val (.slice p' g.rules[k].rhs.length c2)), (39, .val (i64 g.rules[k].rhs.length)), (40, .val (i64 j))]) (fun _ _ => hk)
        (fun j s => FPre g (nullD g) out g.rules[k] j s ∧ ∀ x ∈ g.rules[k].rhs.take j, NullS (nullD g) x) (sget out g.rules[k].lhs) (by simp only [push_cast, SubL, fget, Nat.reduceEqDiff, reduceIte]) rfl ⟨.start R hI hmem, by simp⟩ ?_
      rintro j s hjn ⟨hP, hnl⟩
      by_cases hjl : j < g.rules[k].rhs.length
      · obtain ⟨id2, ver2, own2, c3, cells2, hv2, hid2, hrd2⟩ := hu'.at hjl
        cases hv2
        have e9 := rng hjl
        have e10 := inc hjl (by omega)
        have e11 := lt_dec hjl
        have g0 := rdH_get0 hrd2 (by omega)
        simp only [List.getElem?_cons_zero] at g0
        have hmem2 : g.rules[k].rhs[j] ∈ _ := List.getElem_mem hjl
        have hid4 := getElem?_prefix (hp1.trans hp) hid2
        have hs2 := hS _ hmem2
        have hws : SetWf (symSet out g.rules[k].rhs[j]) := by
          unfold symSet
          split
          · exact hW _ hmem _ hmem2
          · exact hI.wf _ (by omega) (by omega)
        have hstep := hP.step R hW hI hmem hjl hnl
        repeat (first | refine cw_seq ?_ | refine cw_region ?_ | refine ow_nil ?_ | ((first | apply ow_cons | apply qw_cons); · simp only [push_cast, env, Nat.reduceEqDiff, reduceIte, Nat.reduceAdd, Nat.reduceMul, Nat.reduceLeDiff, reduceCtorEq, Nat.reduceSub, Int.reduceToNat, e9, hid4, hrd2, e11] <;> exact rfl) | ((first | apply ow_spec | apply qw_spec); · simp only [push_cast, env, Nat.reduceEqDiff, reduceIte, Nat.reduceAdd, Nat.reduceMul, Nat.reduceLeDiff, reduceCtorEq, Nat.reduceSub, Int.reduceToNat, e9, hid4, hrd2, e11] <;> exact rfl) | refine qw_nil ?_ | refine cw_block ?_ | refine cw_scope ?_ | refine cw_label ?_ | refine cw_skip ?_)
        refine cw_condT (by simp only [push_cast, env, Nat.reduceEqDiff, reduceIte, Nat.reduceAdd, Nat.reduceMul, Nat.reduceLeDiff, reduceCtorEq, Nat.reduceSub, Int.reduceToNat] <;> exact rfl) ?_
        repeat (first | refine cw_seq ?_ | refine cw_region ?_ | refine ow_nil ?_ | ((first | apply ow_cons | apply qw_cons); · simp only [push_cast, env, Nat.reduceEqDiff, reduceIte, Nat.reduceAdd, Nat.reduceMul, Nat.reduceLeDiff, reduceCtorEq, Nat.reduceSub, Int.reduceToNat, e9, hid4, hrd2] <;> exact rfl) | ((first | apply ow_spec | apply qw_spec); · simp only [push_cast, env, Nat.reduceEqDiff, reduceIte, Nat.reduceAdd, Nat.reduceMul, Nat.reduceLeDiff, reduceCtorEq, Nat.reduceSub, Int.reduceToNat, e9, hid4, hrd2] <;> exact rfl) | refine qw_nil ?_ | refine cw_block ?_ | refine cw_scope ?_ | refine cw_label ?_ | refine cw_skip ?_)
        refine cw_cond (by simp only [push_cast, env, Nat.reduceEqDiff, reduceIte, Nat.reduceAdd, Nat.reduceMul, Nat.reduceLeDiff, reduceCtorEq, Nat.reduceSub, Int.reduceToNat] <;> exact rfl) (fun b1 => ?_) (fun b1 => ?_)
        · have b1 : g.rules[k].rhs[j].nt < 0 := by simpa using b1
          repeat (first | refine cw_seq ?_ | refine cw_region ?_ | refine ow_nil ?_ | ((first | apply ow_cons | apply qw_cons); · simp only [push_cast, env, Nat.reduceEqDiff, reduceIte, Nat.reduceAdd, Nat.reduceMul, Nat.reduceLeDiff, reduceCtorEq, Nat.reduceSub, Int.reduceToNat] <;> exact rfl) | ((first | apply ow_spec | apply qw_spec); · simp only [push_cast, env, Nat.reduceEqDiff, reduceIte, Nat.reduceAdd, Nat.reduceMul, Nat.reduceLeDiff, reduceCtorEq, Nat.reduceSub, Int.reduceToNat] <;> exact rfl) | refine qw_nil ?_ | refine cw_block ?_ | refine cw_scope ?_ | refine cw_label ?_ | refine cw_skip ?_)
          refine ow_call (fn := Try.f39) (by simp only [push_cast, env, Nat.reduceEqDiff, reduceIte, Nat.reduceAdd, Nat.reduceMul, Nat.reduceLeDiff, reduceCtorEq, Nat.reduceSub, Int.reduceToNat] <;> exact rfl) rfl (by simp only [push_cast, env, Nat.reduceEqDiff, reduceIte, Nat.reduceAdd, Nat.reduceMul, Nat.reduceLeDiff, reduceCtorEq, Nat.reduceSub, Int.reduceToNat] <;> exact rfl) (by simp only [push_cast, env, Nat.reduceEqDiff, reduceIte, Nat.reduceAdd, Nat.reduceMul, Nat.reduceLeDiff, reduceCtorEq, Nat.reduceSub, Int.reduceToNat] <;> exact rfl) Try.func39 (by kernel_rfl) (by kernel_rfl) ?_
          rw [List.append_nil]
          refine (union_fw (t := g.rules[k].rhs[j].set) hP.wf (hW _ hmem _ hmem2)).mono ?_
          rintro _ h2 ⟨rfl, rfl⟩
          repeat (first | refine cw_seq ?_ | refine cw_region ?_ | refine ow_nil ?_ | ((first | apply ow_cons | apply qw_cons); · simp only [push_cast, env, Nat.reduceEqDiff, reduceIte, Nat.reduceAdd, Nat.reduceMul, Nat.reduceLeDiff, reduceCtorEq, Nat.reduceSub, Int.reduceToNat] <;> exact rfl) | ((first | apply ow_spec | apply qw_spec); · simp only [push_cast, env, Nat.reduceEqDiff, reduceIte, Nat.reduceAdd, Nat.reduceMul, Nat.reduceLeDiff, reduceCtorEq, Nat.reduceSub, Int.reduceToNat] <;> exact rfl) | refine qw_nil ?_ | refine cw_block ?_ | refine cw_scope ?_ | refine cw_label ?_ | refine cw_skip ?_)
          refine cw_exit ?_
          have e : symSet out g.rules[k].rhs[j] = g.rules[k].rhs[j].set := if_pos b1
          rw [e] at hstep
          have hcl2 := hstep.stop hjl (fun hn => by have := hn.1; omega)
          exact ⟨rfl, rfl, s.union g.rules[k].rhs[j].set, (by simp only [push_cast, SubL, fget, Nat.reduceEqDiff, reduceIte, BSet.union]), hstep.wf, hstep.le, hstep.so, hcl2⟩
        · have b1 : ¬ g.rules[k].rhs[j].nt < 0 := by simpa using b1
          have h0 : 0 ≤ g.rules[k].rhs[j].nt := by omega
          have q1 := rng0 (N := N) h0 (by omega)
          have q3 := rng0 (N := m.length) h0 (by omega)
          have sl2 := sget_cells (l := out) h0 (by omega)
          have hgm2 := getElem?_prefix hp hgm
          have qb := bit_map (m := m) h0 (by omega)
          have e : symSet out g.rules[k].rhs[j] = sget out g.rules[k].rhs[j].nt := if_neg b1
          rw [e] at hstep hws
          repeat (first | refine cw_seq ?_ | refine cw_region ?_ | refine ow_nil ?_ | ((first | apply ow_cons | apply qw_cons); · simp only [push_cast, env, Nat.reduceEqDiff, reduceIte, Nat.reduceAdd, Nat.reduceMul, Nat.reduceLeDiff, reduceCtorEq, Nat.reduceSub, Int.reduceToNat] <;> exact rfl) | ((first | apply ow_spec | apply qw_spec); · simp only [push_cast, env, Nat.reduceEqDiff, reduceIte, Nat.reduceAdd, Nat.reduceMul, Nat.reduceLeDiff, reduceCtorEq, Nat.reduceSub, Int.reduceToNat] <;> exact rfl) | refine qw_nil ?_ | refine cw_block ?_ | refine cw_scope ?_ | refine cw_label ?_ | refine cw_skip ?_)
          refine cw_regionD 6 mixed (by kernel_rfl) ?_
          repeat (first | refine cw_seq ?_ | refine cw_region ?_ | refine ow_nil ?_ | ((first | apply ow_cons | apply qw_cons); · simp only [push_cast, env, Nat.reduceEqDiff, reduceIte, Nat.reduceAdd, Nat.reduceMul, Nat.reduceLeDiff, reduceCtorEq, Nat.reduceSub, Int.reduceToNat, q1, ho, sl2] <;> exact rfl) | ((first | apply ow_spec | apply qw_spec); · simp only [push_cast, env, Nat.reduceEqDiff, reduceIte, Nat.reduceAdd, Nat.reduceMul, Nat.reduceLeDiff, reduceCtorEq, Nat.reduceSub, Int.reduceToNat, q1, ho, sl2] <;> exact rfl) | refine qw_nil ?_ | refine cw_block ?_ | refine cw_scope ?_ | refine cw_label ?_ | refine cw_skip ?_)
          refine ow_call (fn := Try.f39) (by simp only [push_cast, env, Nat.reduceEqDiff, reduceIte, Nat.reduceAdd, Nat.reduceMul, Nat.reduceLeDiff, reduceCtorEq, Nat.reduceSub, Int.reduceToNat] <;> exact rfl) rfl (by simp only [push_cast, env, Nat.reduceEqDiff, reduceIte, Nat.reduceAdd, Nat.reduceMul, Nat.reduceLeDiff, reduceCtorEq, Nat.reduceSub, Int.reduceToNat] <;> exact rfl) (by simp only [push_cast, env, Nat.reduceEqDiff, reduceIte, Nat.reduceAdd, Nat.reduceMul, Nat.reduceLeDiff, reduceCtorEq, Nat.reduceSub, Int.reduceToNat] <;> exact rfl) Try.func39 (by kernel_rfl) (by kernel_rfl) ?_
          rw [List.append_nil]
          refine (union_fw (t := sget out g.rules[k].rhs[j].nt) hP.wf hws).mono ?_
          rintro _ h2 ⟨rfl, rfl⟩
          repeat (first | refine cw_seq ?_ | refine cw_region ?_ | refine ow_nil ?_ | ((first | apply ow_cons | apply qw_cons); · simp only [push_cast, env, Nat.reduceEqDiff, reduceIte, Nat.reduceAdd, Nat.reduceMul, Nat.reduceLeDiff, reduceCtorEq, Nat.reduceSub, Int.reduceToNat, q3, hgm2, qb, Nat.mul_one] <;> exact rfl) | ((first | apply ow_spec | apply qw_spec); · simp only [push_cast, env, Nat.reduceEqDiff, reduceIte, Nat.reduceAdd, Nat.reduceMul, Nat.reduceLeDiff, reduceCtorEq, Nat.reduceSub, Int.reduceToNat, q3, hgm2, qb, Nat.mul_one] <;> exact rfl) | refine qw_nil ?_ | refine cw_block ?_ | refine cw_scope ?_ | refine cw_label ?_ | refine cw_skip ?_)
          refine cw_cond (by simp only [push_cast, env, Nat.reduceEqDiff, reduceIte, Nat.reduceAdd, Nat.reduceMul, Nat.reduceLeDiff, reduceCtorEq, Nat.reduceSub, Int.reduceToNat] <;> exact rfl) (fun b2 => ?_) (fun b2 => ?_)
          · have b2 : bit m g.rules[k].rhs[j].nt = false := by simpa using b2
            refine cw_exit ?_
            have hcl2 := hstep.stop hjl (fun hn => by rw [(hm.2 _ h0 (by omega)).2 hn.2] at b2; cases b2)
            exact ⟨rfl, rfl, s.union (sget out g.rules[k].rhs[j].nt), (by simp only [push_cast, SubL, fget, Nat.reduceEqDiff, reduceIte, BSet.union]), hstep.wf, hstep.le, hstep.so, hcl2⟩
          · have b2 : bit m g.rules[k].rhs[j].nt = true := by simpa using b2
            repeat (first | refine cw_seq ?_ | refine cw_region ?_ | refine ow_nil ?_ | ((first | apply ow_cons | apply qw_cons); · simp only [push_cast, env, Nat.reduceEqDiff, reduceIte, Nat.reduceAdd, Nat.reduceMul, Nat.reduceLeDiff, reduceCtorEq, Nat.reduceSub, Int.reduceToNat, e10] <;> exact rfl) | ((first | apply ow_spec | apply qw_spec); · simp only [push_cast, env, Nat.reduceEqDiff, reduceIte, Nat.reduceAdd, Nat.reduceMul, Nat.reduceLeDiff, reduceCtorEq, Nat.reduceSub, Int.reduceToNat, e10] <;> exact rfl) | refine qw_nil ?_ | refine cw_block ?_ | refine cw_scope ?_ | refine cw_label ?_ | refine cw_skip ?_)
            refine ⟨hjl, s.union (sget out g.rules[k].rhs[j].nt), (by simp only [push_cast, SubL, fget, Nat.reduceEqDiff, reduceIte, BSet.union]), rfl, hstep, fun x hx => ?_⟩
            rw [List.take_succ_eq_append_getElem hjl, List.mem_append] at hx
            rcases hx with hx | hx
            · exact hnl x hx
            · obtain rfl : x = _ := by simpa using hx
              exact ⟨h0, (hm.2 _ h0 (by omega)).1 b2⟩
      · have e11 := ge_dec hjl
        obtain rfl : j = g.rules[k].rhs.length := by omega
        repeat (first | refine cw_seq ?_ | refine cw_region ?_ | refine ow_nil ?_ | ((first | apply ow_cons | apply qw_cons); · simp only [push_cast, env, Nat.reduceEqDiff, reduceIte, Nat.reduceAdd, Nat.reduceMul, Nat.reduceLeDiff, reduceCtorEq, Nat.reduceSub, Int.reduceToNat, e11] <;> exact rfl) | ((first | apply ow_spec | apply qw_spec); · simp only [push_cast, env, Nat.reduceEqDiff, reduceIte, Nat.reduceAdd, Nat.reduceMul, Nat.reduceLeDiff, reduceCtorEq, Nat.reduceSub, Int.reduceToNat, e11] <;> exact rfl) | refine qw_nil ?_ | refine cw_block ?_ | refine cw_scope ?_ | refine cw_label ?_ | refine cw_skip ?_)
        refine cw_condF (by simp only [push_cast, env, Nat.reduceEqDiff, reduceIte, Nat.reduceAdd, Nat.reduceMul, Nat.reduceLeDiff, reduceCtorEq, Nat.reduceSub, Int.reduceToNat] <;> exact rfl) ?_
        refine cw_exit ?_
        exact ⟨rfl, rfl, s, (by simp only [push_cast, SubL, fget, Nat.reduceEqDiff, reduceIte]), hP.wf, hP.le, hP.so, hP.all⟩
    rintro e s' ⟨rfl, hh, s, hf, hw, hle2, hso, hcl2⟩
    show CW _ _ _ _
    refine cw_weakL _ hf ?_
    rw [hh]
    have hwl := hI.wf _ a1 a2
    repeat (first | refine cw_seq ?_ | refine cw_region ?_ | refine ow_nil ?_ | ((first | apply ow_cons | apply qw_cons); · simp only [push_cast, env, Nat.reduceEqDiff, reduceIte, Nat.reduceAdd, Nat.reduceMul, Nat.reduceLeDiff, reduceCtorEq, Nat.reduceSub, Int.reduceToNat] <;> exact rfl) | ((first | apply ow_spec | apply qw_spec); · simp only [push_cast, env, Nat.reduceEqDiff, reduceIte, Nat.reduceAdd, Nat.reduceMul, Nat.reduceLeDiff, reduceCtorEq, Nat.reduceSub, Int.reduceToNat] <;> exact rfl) | refine qw_nil ?_ | refine cw_block ?_ | refine cw_scope ?_ | refine cw_label ?_ | refine cw_skip ?_)
    refine cw_regionD 6 mixed (by kernel_rfl) ?_
    repeat (first | refine cw_seq ?_ | refine cw_region ?_ | refine ow_nil ?_ | ((first | apply ow_cons | apply qw_cons); · simp only [push_cast, env, Nat.reduceEqDiff, reduceIte, Nat.reduceAdd, Nat.reduceMul, Nat.reduceLeDiff, reduceCtorEq, Nat.reduceSub, Int.reduceToNat, r1, ho, sl, set_eq2] <;> exact rfl) | ((first | apply ow_spec | apply qw_spec); · simp only [push_cast, env, Nat.reduceEqDiff, reduceIte, Nat.reduceAdd, Nat.reduceMul, Nat.reduceLeDiff, reduceCtorEq, Nat.reduceSub, Int.reduceToNat, r1, ho, sl, set_eq2] <;> exact rfl) | refine qw_nil ?_ | refine cw_block ?_ | refine cw_scope ?_ | refine cw_label ?_ | refine cw_skip ?_)
    refine cw_cond (by simp only [push_cast, env, Nat.reduceEqDiff, reduceIte, Nat.reduceAdd, Nat.reduceMul, Nat.reduceLeDiff, reduceCtorEq, Nat.reduceSub, Int.reduceToNat] <;> exact rfl) (fun b1 => ?_) (fun b1 => ?_)
    · have b1 : s ≠ sget out g.rules[k].lhs := by simpa using b1
      repeat (first | refine cw_seq ?_ | refine cw_region ?_ | refine ow_nil ?_ | ((first | apply ow_cons | apply qw_cons); · simp only [push_cast, env, Nat.reduceEqDiff, reduceIte, Nat.reduceAdd, Nat.reduceMul, Nat.reduceLeDiff, reduceCtorEq, Nat.reduceSub, Int.reduceToNat, r1] <;> exact rfl) | ((first | apply ow_spec | apply qw_spec); · simp only [push_cast, env, Nat.reduceEqDiff, reduceIte, Nat.reduceAdd, Nat.reduceMul, Nat.reduceLeDiff, reduceCtorEq, Nat.reduceSub, Int.reduceToNat, r1] <;> exact rfl) | refine qw_nil ?_ | refine cw_block ?_ | refine cw_scope ?_ | refine cw_label ?_ | refine cw_skip ?_)
      refine ow_stoH (by simp only [push_cast, env, Nat.reduceEqDiff, reduceIte, Nat.reduceAdd, Nat.reduceMul, Nat.reduceLeDiff, reduceCtorEq, Nat.reduceSub, Int.reduceToNat] <;> exact rfl) rfl rfl (by simp only [push_cast, env, Nat.reduceEqDiff, reduceIte, Nat.reduceAdd, Nat.reduceMul, Nat.reduceLeDiff, reduceCtorEq, Nat.reduceSub, Int.reduceToNat] <;> exact rfl) (by simp only [push_cast, env, Nat.reduceEqDiff, reduceIte, Nat.reduceAdd, Nat.reduceMul, Nat.reduceLeDiff, reduceCtorEq, Nat.reduceSub, Int.reduceToNat, r1] <;> exact rfl) ho rfl rfl (wr_flat (f := BSet.cells) (fun _ => rfl) (x := s) (by omega)) ?_
      repeat (first | refine cw_seq ?_ | refine cw_region ?_ | refine ow_nil ?_ | ((first | apply ow_cons | apply qw_cons); · simp only [push_cast, env, Nat.reduceEqDiff, reduceIte, Nat.reduceAdd, Nat.reduceMul, Nat.reduceLeDiff, reduceCtorEq, Nat.reduceSub, Int.reduceToNat, e2] <;> exact rfl) | ((first | apply ow_spec | apply qw_spec); · simp only [push_cast, env, Nat.reduceEqDiff, reduceIte, Nat.reduceAdd, Nat.reduceMul, Nat.reduceLeDiff, reduceCtorEq, Nat.reduceSub, Int.reduceToNat, e2] <;> exact rfl) | refine qw_nil ?_ | refine cw_block ?_ | refine cw_scope ?_ | refine cw_label ?_ | refine cw_skip ?_)
      have hlt2 : room (out.set g.rules[k].lhs.toNat s) < room out := room_set (by omega) (by have := card_lt hwl hw hle2 b1; rwa [sget_get a1 (by omega)] at this)
      refine ⟨hlt, ⟨hk.set h1.length (.arr ((out.set g.rules[k].lhs.toNat s).flatMap BSet.cells) 0 true 45), out.set g.rules[k].lhs.toNat s, true⟩, (by simp only [push_cast, SubL, fget, Nat.reduceEqDiff, reduceIte]), rfl, ⟨pre_set hp (Nat.le_refl _), get_set_self ho⟩, ⟨by simp [hn], fun i h0 h1 => ?_, fun i h0 h1 b hb hh => ?_⟩, by simp only; omega, fun _ => by simp only; omega, fun h => by cases h⟩
      · rw [sget_set a1 (by omega) h0]
        split
        · exact hw
        · exact hI.wf i h0 h1
      · rw [sget_set a1 (by omega) h0] at hh
        split at hh
        · rename_i e
          exact e ▸ hso b hb hh
        · exact hI.s i h0 h1 b hb hh
    · have b1 : s = sget out g.rules[k].lhs := by simpa using b1
      repeat (first | refine cw_seq ?_ | refine cw_region ?_ | refine ow_nil ?_ | ((first | apply ow_cons | apply qw_cons); · simp only [push_cast, env, Nat.reduceEqDiff, reduceIte, Nat.reduceAdd, Nat.reduceMul, Nat.reduceLeDiff, reduceCtorEq, Nat.reduceSub, Int.reduceToNat, e2] <;> exact rfl) | ((first | apply ow_spec | apply qw_spec); · simp only [push_cast, env, Nat.reduceEqDiff, reduceIte, Nat.reduceAdd, Nat.reduceMul, Nat.reduceLeDiff, reduceCtorEq, Nat.reduceSub, Int.reduceToNat, e2] <;> exact rfl) | refine qw_nil ?_ | refine cw_block ?_ | refine cw_scope ?_ | refine cw_label ?_ | refine cw_skip ?_)
      refine ⟨hlt, ⟨hk, out, ch⟩, (by simp only [push_cast, SubL, fget, Nat.reduceEqDiff, reduceIte]), rfl, ⟨hp, ho⟩, hI, hle1, hch1, fun hc r hr => ?_⟩
      rw [List.take_succ_eq_append_getElem hlt, List.mem_append] at hr
      rcases hr with hr | hr
      · exact hcl hc r hr
      · obtain rfl : r = _ := by simpa using hr
        exact b1 ▸ hcl2
  · have e3 := ge_dec hlt
    obtain rfl : k = g.rules.length := by omega
    repeat (first | refine cw_seq ?_ | refine cw_region ?_ | refine ow_nil ?_ | ((first | apply ow_cons | apply qw_cons); · simp only [push_cast, env, Nat.reduceEqDiff, reduceIte, Nat.reduceAdd, Nat.reduceMul, Nat.reduceLeDiff, reduceCtorEq, Nat.reduceSub, Int.reduceToNat, e3] <;> exact rfl) | ((first | apply ow_spec | apply qw_spec); · simp only [push_cast, env, Nat.reduceEqDiff, reduceIte, Nat.reduceAdd, Nat.reduceMul, Nat.reduceLeDiff, reduceCtorEq, Nat.reduceSub, Int.reduceToNat, e3] <;> exact rfl) | refine qw_nil ?_ | refine cw_block ?_ | refine cw_scope ?_ | refine cw_label ?_ | refine cw_skip ?_)
    refine cw_condF (by simp only [push_cast, env, Nat.reduceEqDiff, reduceIte, Nat.reduceAdd, Nat.reduceMul, Nat.reduceLeDiff, reduceCtorEq, Nat.reduceSub, Int.reduceToNat] <;> exact rfl) ?_
    refine cw_exit ?_
    rw [List.take_length] at hcl
    refine ⟨⟨hk, out, ch⟩, ?_, (by simp only [push_cast, SubL, fget, Nat.reduceEqDiff, reduceIte]), rfl, ⟨hp, ho⟩, hI, hcl⟩
    cases ch with
    | false => simp; omega
    | true => have := hch1 rfl; simp; omega
end Go.Proofs.Ytnlchlnkibpkaaa

/- From a grammar that a row reads to one of the abstract machine. -/
namespace Go.Proofs.Ytnlchlnkibpkaaa
set_option linter.unusedSimpArgs false
set_option linter.unusedVariables false
open Go.RowKit Am Ty

def RdTs (P : Program) (R : TypeId → List Value → Prop) : List TypeId → List Value → Prop
  | [], vs => vs = []
  | t :: r, vs => ∃ a b, vs = a ++ b ∧ a.length = P.cellsOf t ∧ R t a ∧ RdTs P R r b
theorem fs_types {P : Program} {R : TypeId → List Value → Prop} : ∀ {l : List Field} {vs : List Value}, RdFs P R l vs → RdTs P R (l.map (·.type)) vs
  | [], _, h => h
  | _ :: _, _, ⟨a, b, h1, h2, h3, h4⟩ => ⟨a, b, h1, h2, h3, fs_types h4⟩
theorem es_map {α : Type} {c : Nat} {R : List Value → Prop} {f : α → List Value} {Q : α → Prop} (k : ∀ vs, R vs → ∃ x, vs = f x ∧ Q x) : ∀ {m : Nat} {vs : List Value}, RdEs c R m vs → ∃ l : List α, l.length = m ∧ vs = l.flatMap f ∧ ∀ x ∈ l, Q x
  | 0, vs, h => ⟨[], rfl, h, fun x hx => by cases hx⟩
  | m + 1, vs, ⟨a, b, h1, _, h3, h4⟩ => by
    obtain ⟨x, rfl, hx⟩ := k a h3
    obtain ⟨l, rfl, rfl, hl⟩ := es_map k h4
    refine ⟨x :: l, rfl, by rw [h1]; rfl, fun y hy => ?_⟩
    rcases List.mem_cons.1 hy with rfl | hy
    · exact hx
    · exact hl y hy
theorem rd_struct {h : Heap} {n : Nat} {t : TypeId} {l : List TypeId} {vs : List Value} (hu : Try.prog.underlying t = some (.struct (Try.prog.fieldsOf t))) (hl : (Try.prog.fieldsOf t).toList.map (·.type) = l) (k : RdT Try.prog h (n + 1) t vs) : RdTs Try.prog (RdT Try.prog h n) l vs := by
  unfold RdT at k
  rw [hu] at k
  exact hl ▸ fs_types k
theorem rd_int {h : Heap} {n : Nat} {vs : List Value} (k : RdT Try.prog h n 3 vs) : ∃ i, vs = [i64 i] ∧ (Lit.int .i64 i).wf = true := by
  cases n with
  | zero => exact k.elim
  | succ n =>
    unfold RdT at k
    rw [show Try.prog.underlying 3 = some (.int .i64) by kernel_rfl] at k
    exact k
theorem rd_u64 {h : Heap} {n : Nat} {vs : List Value} (k : RdT Try.prog h n 43 vs) : ∃ i, vs = [u64 i] ∧ WWf i := by
  cases n with
  | zero => exact k.elim
  | succ n =>
    unfold RdT at k
    rw [show Try.prog.underlying 43 = some (.int .u64) by kernel_rfl] at k
    obtain ⟨i, h1, h2⟩ := k
    simp only [Lit.wf, Bool.and_eq_true, decide_eq_true_eq] at h2
    have e1 : IntKind.u64.min = 0 := by decide
    have e2 : IntKind.u64.max = 18446744073709551615 := by decide
    exact ⟨i, h1, by omega, by omega⟩
theorem rd_set {h : Heap} {n : Nat} {vs : List Value} (k : RdT Try.prog h n 45 vs) : ∃ s : BSet, vs = s.cells ∧ SetWf s := by
  cases n with
  | zero => exact k.elim
  | succ n =>
    unfold RdT at k
    rw [show Try.prog.underlying 45 = some (.array 4 43) by kernel_rfl] at k
    obtain ⟨l, hl, rfl, hq⟩ := es_map (f := fun i => [u64 i]) (Q := fun i => WWf i) (fun vs h => rd_u64 h) k
    match l, hl with
    | [a, b, c, d], _ => exact ⟨⟨a, b, c, d⟩, rfl, hq a (by simp), hq b (by simp), hq c (by simp), hq d (by simp)⟩
theorem rd_sym {h : Heap} {n : Nat} {vs : List Value} (k : RdT Try.prog h n 56 vs) : ∃ s : KSym, vs = s.cells ∧ SetWf s.set := by
  cases n with
  | zero => exact k.elim
  | succ n =>
    obtain ⟨a, b, rfl, _, h1, c, d, rfl, _, h2, rfl⟩ := rd_struct (l := [3, 45]) (by kernel_rfl) (by kernel_rfl) k
    obtain ⟨i, rfl, _⟩ := rd_int h1
    obtain ⟨s, rfl, hs⟩ := rd_set h2
    exact ⟨⟨i, s⟩, rfl, hs⟩
theorem rd_syms {h : Heap} {n : Nat} {vs : List Value} (k : RdT Try.prog h n 46 vs) : ∃ u l, vs = [u] ∧ RdSyms h u l ∧ ∀ s ∈ l, SetWf s.set := by
  cases n with
  | zero => exact k.elim
  | succ n =>
    unfold RdT at k
    rw [show Try.prog.underlying 46 = some (.slice 56) by kernel_rfl] at k
    rcases k with rfl | rfl | ⟨id, len, c, cells, rfl, hb, hid, he⟩
    · exact ⟨_, [], rfl, ⟨by simp, .inl ⟨.inl rfl, rfl, rfl⟩⟩, by simp⟩
    · exact ⟨_, [], rfl, ⟨by simp, .inl ⟨.inr rfl, rfl, rfl⟩⟩, by simp⟩
    · obtain ⟨l, rfl, rfl, hq⟩ := es_map (f := KSym.cells) (Q := fun s => SetWf s.set) (fun vs h => rd_sym h) he
      rw [show Try.prog.bytesOf 56 = 40 by kernel_rfl] at hb
      exact ⟨_, l, rfl, ⟨Nat.le_trans hb (by decide), .inr ⟨id, 0, false, c, rfl, hid⟩⟩, hq⟩
theorem rd_rule {h : Heap} {n : Nat} {vs : List Value} (k : RdT Try.prog h n 48 vs) : ∃ p : Rule × Value, vs = [i64 p.1.lhs, p.2] ∧ RdSyms h p.2 p.1.rhs ∧ (∀ s ∈ p.1.rhs, SetWf s.set) ∧ (Lit.int .i64 p.1.lhs).wf = true := by
  cases n with
  | zero => exact k.elim
  | succ n =>
    obtain ⟨a, b, rfl, _, h1, c, d, rfl, _, h2, rfl⟩ := rd_struct (l := [3, 46]) (by kernel_rfl) (by kernel_rfl) k
    obtain ⟨i, rfl, hi⟩ := rd_int h1
    obtain ⟨u, l, rfl, hl, hq⟩ := rd_syms h2
    exact ⟨⟨⟨i, l⟩, u⟩, rfl, hl, hq, hi⟩
theorem zip_fst_snd {α β : Type} : ∀ (z : List (α × β)), (z.map (·.1)).zip (z.map (·.2)) = z
  | [] => rfl
  | (a, b) :: z => by simp [zip_fst_snd z]
theorem rd_rules {h : Heap} {n : Nat} {vs : List Value} (k : RdT Try.prog h n 22 vs) : ∃ u l, vs = [u] ∧ RdRules h u l ∧ ∀ r ∈ l, ∀ s ∈ r.rhs, SetWf s.set := by
  cases n with
  | zero => exact k.elim
  | succ n =>
    unfold RdT at k
    rw [show Try.prog.underlying 22 = some (.slice 48) by kernel_rfl] at k
    rcases k with rfl | rfl | ⟨id, len, c, cells, rfl, hb, hid, he⟩
    · exact ⟨_, [], rfl, ⟨[], rfl, ⟨by simp, .inl ⟨.inl rfl, rfl, rfl⟩⟩, fun i r u h => by simp at h⟩, by simp⟩
    · exact ⟨_, [], rfl, ⟨[], rfl, ⟨by simp, .inl ⟨.inr rfl, rfl, rfl⟩⟩, fun i r u h => by simp at h⟩, by simp⟩
    · obtain ⟨z, rfl, rfl, hz⟩ := es_map (f := fun p : Rule × Value => [i64 p.1.lhs, p.2]) (Q := fun p => RdSyms h p.2 p.1.rhs ∧ ∀ s ∈ p.1.rhs, SetWf s.set) (fun vs h => (rd_rule h).imp fun p k => ⟨k.1, k.2.1, k.2.2.1⟩) he
      rw [show Try.prog.bytesOf 48 = 32 by kernel_rfl] at hb
      refine ⟨_, z.map (·.1), rfl, ⟨z.map (·.2), by simp, ⟨by rw [List.length_map]; exact Nat.le_trans hb (by decide), .inr ⟨id, 0, false, c, by rw [List.length_map], by rw [zip_fst_snd]; exact hid⟩⟩, fun i r u h1 h2 => ?_⟩, fun r hr => ?_⟩
      · rw [List.getElem?_map, Option.map_eq_some_iff] at h1 h2
        obtain ⟨p, h3, rfl⟩ := h1
        obtain ⟨q, h4, rfl⟩ := h2
        obtain rfl := Option.some.inj (h3.symm.trans h4)
        exact (hz p (List.mem_of_getElem? h3)).1
      · rw [List.mem_map] at hr
        obtain ⟨p, hp, rfl⟩ := hr
        exact (hz p hp).2
theorem rd_gram {h : Heap} {n : Nat} {vs : List Value} (k : RdT Try.prog h n 24 vs) : ∃ g : Gram, RdGram h (.agg vs.toArray) g ∧ (Lit.int .i64 g.nts).wf = true ∧ (Lit.int .i64 g.start).wf = true ∧ WfG g := by
  cases n with
  | zero => exact k.elim
  | succ n =>
    obtain ⟨a, b, rfl, _, h1, c, d, rfl, _, h2, e, f, rfl, _, h3, rfl⟩ := rd_struct (l := [3, 3, 22]) (by kernel_rfl) (by kernel_rfl) k
    obtain ⟨i, rfl, w1⟩ := rd_int h1
    obtain ⟨j, rfl, w2⟩ := rd_int h2
    obtain ⟨u, l, rfl, hl, hq⟩ := rd_rules h3
    exact ⟨⟨i, j, l⟩, ⟨u, rfl, hl⟩, w1, w2, hq⟩
end Go.Proofs.Ytnlchlnkibpkaaa

/- What a law of one grammar asks of its rows, out of the abstract machine. -/
namespace Go.Proofs.Ytnlchlnkibpkaaa
set_option linter.unusedSimpArgs false
set_option linter.unusedVariables false
open Go.ChangeShapes Go.WideShapes Go.ChangeAt Go.RowKit Am Ty

theorem own : ownKnob Try.prog.godebug = none := by kernel_rfl
theorem laidOut : laidOutB Try.prog = true := by kernel_rfl
def gramTs : List TypeId := [24, 3, 22, 48, 46, 56, 45, 43]
theorem gramTs_ok : gramTs.all (kindB Try.prog gramTs) = true := by kernel_rfl
theorem noOwn_below {μ : Mu} {h : Heap} {W w' : World} (hn : noOwn h) (k : FrW (OwnB μ h) W w') : Below W.heap.size W w' :=
  ⟨k.os, k.tape, k.output, k.size, fun i hi => k.block i hi fun ⟨_, _, _, _, _, h1, _⟩ => by have := hn _ _ _ _ _ h1; cases this⟩
/-- a call of one grammar that yields true -/
theorem calls_gram {H : Type} {enc : TypeId × Value → H} {f : FuncId} {W : World} {base : Nat} {v : Value} {d : DataW H} {p : List MemPlace}
    (hf : ∀ (h : Heap) (g : Gram) (x : Value), RdGram h x g → (Lit.int .i64 g.nts).wf = true → (Lit.int .i64 g.start).wf = true → WfG g → FW env f [x] h fun r _ => r = .bool true)
    (hval : Value.okWide Try.prog W .any base 24 v) (h0 : DataW.Trod enc Try.prog W 0 (fun _ => true) true 24 v d p) (hw : (d.weights Try.prog 24).all (fun b => decide (b ≤ reachBytes)) = true) :
    Calls Try.prog f #[v] W fun e W' => e = .returned (.bool true) ∧ Below W.heap.size W W' := by
  have hu : Try.prog.underlying 24 = some (.struct (Try.prog.fieldsOf 24)) := by kernel_rfl
  unfold Value.okWide at hval
  rw [hu] at hval
  obtain ⟨cs, rfl, _, _⟩ := hval
  obtain ⟨n, hn⟩ := h0
  obtain ⟨μ, h, vs, _, _, H, hno, hv, _, hr⟩ := tells_trod gramTs_ok n _ _ _ (by simp [gramTs]) hn hw [] [] ⟨rfl, fun id c v o t h1 => by simp at h1, fun a b c1 c2 v1 v2 o e1 e2 m1 m2 _ h1 => by simp at h1⟩ (fun id c v o e h1 => by simp at h1)
  obtain ⟨g, hg, w1, w2, w3⟩ := rd_gram hr
  have k := hf h g _ hg w1 w2 w3
  unfold FW at k
  obtain ⟨r, h', k1, rfl⟩ := k
  refine (Ev.calls env_ok k1 μ W #[.agg cs] H ⟨VRL.agg hv, trivial⟩).mono fun e W' ⟨μ', r', he, hvr, _, _, hfr, _, _⟩ => ?_
  exact ⟨by rw [he, VR.bool hvr], noOwn_below hno hfr⟩
theorem nts_wf {n : Int} (h : (Lit.int .i64 n).wf = true) : -9223372036854775808 ≤ n := by
  simp only [Lit.wf, Bool.and_eq_true, decide_eq_true_eq] at h
  have h2 : IntKind.i64.min = -9223372036854775808 := by decide
  omega
end Go.Proofs.Ytnlchlnkibpkaaa

/- steps: the nonterminals to which each one leads. -/
namespace Go.Proofs.Ytnlchlnkibpkaaa
set_option linter.unusedSimpArgs false
set_option linter.unusedVariables false
open Go.RowKit Am Ty

theorem push_one {v : Value} {l : List Int} {b : Int} {h hk : Heap} (G : Grow h hk v l.length (l.map i64) 3) (hp : h <+: hk) (hn : l.length ≤ 1000000) : ∃ p c h',
    (∀ (all : Array Oper) (o : Oper) (s : St) (x : Operand) (y : Nat), s.h = hk → wantedA all o s = some true → o.op = .call { callee := .builtin .append, args := #[x, .tmp y], argTypes := #[40, 40] } → ev s x = some v → fget s.fr y = .bsl [i64 b] 1 →
      One env all o s (.sl (.val (.slice p (l.length + 1) c))) h') ∧
    Grow h h' (.slice p (l.length + 1) c) (l ++ [b]).length ((l ++ [b]).map i64) 3 ∧ h <+: h' ∧ (∀ j o, isAt v j = false → hk[j]? = some o → h'[j]? = some o) ∧ ∀ x, isAt (.slice p (l.length + 1) c) x = true → isAt v x = true ∨ x = hk.length := by
  have hu : env.P.underlying 40 = some (.slice 3) := by kernel_rfl
  have ht : tinfo env.P 3 = _ := ti3
  have hl : (l ++ [b]).length = l.length + 1 := by simp
  have hm : (l ++ [b]).map i64 = l.map i64 ++ [i64 b] := by simp
  rw [hl, hm]
  have hi : ∀ (s : St) (y : Nat), fget s.fr y = .bsl [i64 b] 1 → itemsC s s.h 1 (.tmp y) = some ([i64 b], 1) := fun s y hy => by simp only [itemsC, hy]; rfl
  rcases G with ⟨h0, hc, rfl⟩ | ⟨id, ver, h1, rfl, h3⟩
  · have hl0 : l = [] := List.eq_nil_of_length_eq_zero h0
    subst hl0
    refine ⟨some ⟨hk.length, 0, some 0⟩, 1, hk ++ [HObj.arr [i64 b] 0 true 3], fun all o s x y e hw ho hx hy => ?_, .inr ⟨hk.length, 0, hp.length_le, rfl, get_push⟩, pre_push hp, fun j o _ h => get_of_push h, fun x hx => ?_⟩
    · subst e
      exact .app0 hw ho hu rfl ht (by decide) rfl hx (hi s y hy) (by decide) (by decide) (by decide)
    · simp only [isAt, beq_iff_eq] at hx
      exact .inr hx.symm
  · refine ⟨some ⟨id, 0, some (ver + 1)⟩, l.length + 1, hk.set id (HObj.arr (l.map i64 ++ [i64 b]) (ver + 1) true 3), fun all o s x y e hw ho hx hy => ?_, .inr ⟨id, ver + 1, h1, rfl, get_set_self h3⟩, pre_set hp h1, fun j o hj h => ?_, fun x hx => ?_⟩
    · subst e
      have := One.app (N := env) hw ho hu rfl ht (by decide) rfl hx h3 (by simp) (hi s y hy) (by simp only; omega) (by omega)
      rwa [List.take_of_length_le (by simp)] at this
    · simp only [isAt, beq_eq_false_iff_ne] at hj
      rw [get_set_ne hj]
      exact h
    · simp only [isAt] at hx ⊢
      exact .inl hx
theorem one_bsl {all : Array Oper} {o : Oper} {s : St} {h : Heap} {d n : Nat} {t : TypeId} {cs : List Value} (hh : s.h = h) (hw : wantedA all o s = some true) (hd : o.dst = some d) (hb : bslC env s o.op = some (t, cs, n)) : One env all o s (.sl (.bsl cs n)) h := hh ▸ .bsl hw hd hb
theorem one_sto {all : Array Oper} {o : Oper} {s : St} {h h' : Heap} {t et : TypeId} {a x : Operand} {ti : TI} {id off ver : Nat} {cells vs cells' : List Value} {v : Value} {r : Res} (hh : s.h = h) (hw : wantedA all o s = some true) (ho : o.op = .store t a x) (ht : tinfo env.P t = some ti) (ha : ev s a = some (.pointer (some ⟨id, off, some ver⟩))) (hid : h[id]? = some (.arr cells ver true et)) (hx : ev s x = some v) (hv : vcells ti.size v = some vs)
    (hq : wrC cells off vs = some cells') (hd : o.dst = none) (he : h' = h.set id (HObj.arr cells' ver true et)) : One env all o s r h' := by
  subst hh he
  exact .stoH hw ho ht ha hid hx hv hq hd
/-- lists of the call's own in a list of the call's own -/
structure NL (h hk : Heap) (io : Nat) (us : List Value) (ls : List (List Int)) : Prop where
  n : us.length = ls.length
  g : ∀ (i : Nat) (u : Value) (l : List Int), us[i]? = some u → ls[i]? = some l → Grow h hk u l.length (l.map i64) 3
  d : ∀ (i j : Nat) (u w : Value) (x : Nat), i ≠ j → us[i]? = some u → us[j]? = some w → isAt u x = true → isAt w x = false
  o : ∀ (i : Nat) (u : Value), us[i]? = some u → isAt u io = false
theorem NL.put {h hk h' : Heap} {io i : Nat} {us : List Value} {ls : List (List Int)} {v v' : Value} {l l' : List Int} {vs : List Value} (H : NL h hk io us ls) (hi : us[i]? = some v) (hl : ls[i]? = some l) (hio : io < hk.length)
    (G : Grow h h' v' l'.length (l'.map i64) 3) (hp : ∀ j o, isAt v j = false → hk[j]? = some o → h'[j]? = some o) (hx : ∀ x, isAt v' x = true → isAt v x = true ∨ x = hk.length) :
    NL h (h'.set io (.arr vs 0 true 40)) io (us.set i v') (ls.set i l') := by
  have hiu : i < us.length := (List.getElem?_eq_some_iff.1 hi).1
  have hil : i < ls.length := (List.getElem?_eq_some_iff.1 hl).1
  have at' : ∀ (j : Nat) (u : Value), us[j]? = some u → ∀ x, isAt u x = true → x < hk.length ∧ x ≠ io := fun j u hj x hu => by
    obtain ⟨l, hl⟩ : ∃ l, ls[j]? = some l := ⟨ls[j]'(by rw [← H.n]; exact (List.getElem?_eq_some_iff.1 hj).1), by simp⟩
    have h1 := (H.g j u l hj hl).lt hu
    refine ⟨h1.2, ?_⟩
    rintro rfl
    rw [H.o j u hj] at hu
    cases hu
  have v'io : isAt v' io = false := by
    cases hb : isAt v' io with
    | false => rfl
    | true =>
      rcases hx io hb with h1 | h1
      · exact ((at' i v hi io h1).2 rfl).elim
      · omega
  have setne : ∀ (u : Value), isAt u io = false → ∀ j o, isAt u j = true → h'[j]? = some o → (h'.set io (.arr vs 0 true 40))[j]? = some o := fun u hu j o hj ho => by
    rw [get_set_ne (by rintro rfl; rw [hu] at hj; cases hj)]
    exact ho
  refine ⟨by simp [H.n], fun j u q hj hq => ?_, fun j k u w x hjk hj hk2 hu => ?_, fun j u hj => ?_⟩
  · rw [List.getElem?_set] at hj hq
    by_cases e : i = j
    · subst e
      rw [if_pos rfl, if_pos hiu] at hj
      rw [if_pos rfl, if_pos hil] at hq
      cases hj; cases hq
      exact G.mono (setne _ v'io)
    · rw [if_neg e] at hj hq
      refine (H.g j u q hj hq).mono fun x o hx1 ho => ?_
      exact setne u (H.o j u hj) x o hx1 (hp x o (H.d j i u v x (Ne.symm e) hj hi hx1) ho)
  · rw [List.getElem?_set] at hj hk2
    by_cases e : i = j
    · subst e
      rw [if_pos rfl, if_pos hiu] at hj
      rw [if_neg hjk] at hk2
      cases hj
      rcases hx x hu with h1 | h1
      · exact H.d i k v w x hjk hi hk2 h1
      · cases hb : isAt w x with
        | false => rfl
        | true => have := (at' k w hk2 x hb).1; omega
    · rw [if_neg e] at hj
      by_cases e2 : i = k
      · subst e2
        rw [if_pos rfl, if_pos hiu] at hk2
        cases hk2
        cases hb : isAt v' x with
        | false => rfl
        | true =>
          rcases hx x hb with h1 | h1
          · rw [H.d j i u v x hjk hj hi hu] at h1
            cases h1
          · have := (at' j u hj x hu).1; omega
      · rw [if_neg e2] at hk2
        exact H.d j k u w x hjk hj hk2 hu
  · rw [List.getElem?_set] at hj
    by_cases e : i = j
    · subst e
      rw [if_pos rfl, if_pos hiu] at hj
      cases hj
      exact v'io
    · rw [if_neg e] at hj
      exact H.o j u hj
theorem wrV {us : List Value} {i : Nat} {u : Value} (hi : i < us.length) : wrC us i [u] = some (us.set i u) := by
  have := wr_map (f := id) (l := us) (x := u) hi
  simpa using this
def lget (ls : List (List Int)) (i : Int) : List Int := ls.getD i.toNat []
theorem lget_set {ls : List (List Int)} {i j : Int} {l : List Int} (h0 : 0 ≤ i) (h1 : i < ls.length) (j0 : 0 ≤ j) : lget (ls.set i.toNat l) j = if i = j then l else lget ls j := by
  unfold lget
  simp only [List.getD_eq_getElem?_getD, List.getElem?_set]
  by_cases h : i = j
  · subst h
    rw [if_pos rfl, if_pos rfl, if_pos (by omega)]
    rfl
  · rw [if_neg (by omega), if_neg h]
theorem lget_rep {n : Nat} {i : Int} : lget (List.replicate n []) i = [] := by
  unfold lget
  rw [List.getD_eq_getElem?_getD, List.getElem?_replicate]
  split <;> rfl
theorem lget_get {ls : List (List Int)} {i : Int} (h0 : 0 ≤ i) (h1 : i < ls.length) : ls[i.toNat]? = some (lget ls i) := by
  unfold lget
  rw [List.getD_eq_getElem?_getD, List.getElem?_eq_getElem (by omega : i.toNat < ls.length)]
  rfl
def EdgeR (D : Int → Prop) (r : Rule) (n : Nat) (b : Int) : Prop := ∃ (k : Nat) (hk : k < r.rhs.length), k < n ∧ 0 ≤ r.rhs[k].nt ∧ r.rhs[k].nt = b ∧ ∀ (j : Nat) (hj : j < r.rhs.length), j ≠ k → NullS D r.rhs[j]
structure LI (g : Gram) (D : Int → Prop) (k : Nat) (ls : List (List Int)) : Prop where
  n : (ls.length : Int) = g.nts
  m : ∀ a b : Int, 0 ≤ a → a < g.nts → (b ∈ lget ls a ↔ ∃ r ∈ g.rules.take k, r.lhs = a ∧ EdgeR D r r.rhs.length b)
theorem LI.edge {g : Gram} {D : Int → Prop} {ls : List (List Int)} (h : LI g D g.rules.length ls) {a b : Int} (h0 : 0 ≤ a) (h1 : a < g.nts) : b ∈ lget ls a ↔ Edge g D a b := by
  rw [h.m a b h0 h1, List.take_length]
  constructor
  · rintro ⟨r, hr, e, k, hk, _, h2, h3, h4⟩
    exact ⟨r, hr, e, k, hk, h2, h3, h4⟩
  · rintro ⟨r, hr, e, k, hk, h2, h3, h4⟩
    exact ⟨r, hr, e, k, hk, hk, h2, h3, h4⟩
structure SG where
  hk : Heap
  us : List Value
  ls : List (List Int)
structure SGI (h : Heap) (N k : Nat) (x : SG) : Prop where
  p : h <+: x.hk
  o : x.hk[h.length]? = some (.arr x.us 0 true 40)
  l : NL h x.hk h.length x.us x.ls
  n : x.us.length = N
  b : ∀ l ∈ x.ls, l.length ≤ 80 * k
theorem ow_mkInts {all : Array Oper} {o : Oper} {r : List Oper} {s : St} {K : St → Prop} {x : Operand} {n : Int} {N : Nat} (hw : wantedA all o s = some true) (ho : o.op = .makeSlice 63 x x) (hx : ev s x = some (i64 n)) (hN : n = N) (hN2 : N ≤ 1000000)
    (k : OW env all r ({ s with h := s.h ++ [HObj.arr (List.replicate N nilS) 0 true 40] }.putO o.dst (.val (.slice (some ⟨s.h.length, 0, some 0⟩) N N))) K) : OW env all (o :: r) s K := by
  exact ow_mkv hw ho hx hN (by kernel_rfl) ti40 rfl (by rfl) (by simp only; omega) (by omega) flat_rep1 k
/-- what steps makes -/
def StepsR (g : Gram) (h h' : Heap) (x : Value) : Prop := ∃ us ls, x = .slice (some ⟨h.length, 0, some 0⟩) us.length us.length ∧ h'[h.length]? = some (.arr us 0 true 40) ∧ NL h h' h.length us ls ∧ LI g (nullD g) g.rules.length ls ∧ ∀ l ∈ ls, l.length ≤ 655360
set_option maxHeartbeats 8000000 in
theorem steps_fw {h : Heap} {g : Gram} {v mv : Value} {m : List Bool} (hr : RdGram h v g) (R : RightS g) (hm : Marks g.nts (nullD g) m) (hmr : RdBools h mv m) : FW env 45 [v, mv] h fun x h' => StepsR g h h' x ∧ h <+: h' := by
  obtain ⟨u, rfl, hu⟩ := id hr
  obtain ⟨p, c, rfl⟩ := hu.form
  have hle := hu.le
  have n1 := R.n1
  have n2 := R.n2
  have hrl := R.rl
  obtain ⟨N, hN⟩ : ∃ N : Nat, g.nts = N := ⟨g.nts.toNat, by omega⟩
  have hml := hm.1
  obtain ⟨idm, verm, om, cm, rfl, hgm⟩ := SlR.at hmr (by omega)
  have hm2 : m.length = N := by omega
  refine fw_enter (fn := Try.f45) Try.func45 rfl (by kernel_rfl) (by simp [Try.ntmps45]) ?_; simp only [push_cast]
  repeat (first | refine cw_seq ?_ | refine cw_region ?_ | refine ow_nil ?_ | ((first | apply ow_cons | apply qw_cons); · simp only [push_cast, env, Nat.reduceEqDiff, reduceIte, Nat.reduceAdd, Nat.reduceMul, Nat.reduceLeDiff, reduceCtorEq, Nat.reduceSub, Int.reduceToNat] <;> exact rfl) | ((first | apply ow_spec | apply qw_spec); · simp only [push_cast, env, Nat.reduceEqDiff, reduceIte, Nat.reduceAdd, Nat.reduceMul, Nat.reduceLeDiff, reduceCtorEq, Nat.reduceSub, Int.reduceToNat] <;> exact rfl) | refine qw_nil ?_ | refine cw_block ?_ | refine cw_scope ?_ | refine cw_label ?_ | refine cw_skip ?_)
  refine ow_mkInts (N := N) (by simp only [push_cast, env, Nat.reduceEqDiff, reduceIte, Nat.reduceAdd, Nat.reduceMul, Nat.reduceLeDiff, reduceCtorEq, Nat.reduceSub, Int.reduceToNat] <;> exact rfl) rfl (by simp only [push_cast, env, Nat.reduceEqDiff, reduceIte, Nat.reduceAdd, Nat.reduceMul, Nat.reduceLeDiff, reduceCtorEq, Nat.reduceSub, Int.reduceToNat] <;> exact rfl) hN (by omega) ?_
  repeat (first | refine cw_seq ?_ | refine cw_region ?_ | refine ow_nil ?_ | ((first | apply ow_cons | apply qw_cons); · simp only [push_cast, env, Nat.reduceEqDiff, reduceIte, Nat.reduceAdd, Nat.reduceMul, Nat.reduceLeDiff, reduceCtorEq, Nat.reduceSub, Int.reduceToNat] <;> exact rfl) | ((first | apply ow_spec | apply qw_spec); · simp only [push_cast, env, Nat.reduceEqDiff, reduceIte, Nat.reduceAdd, Nat.reduceMul, Nat.reduceLeDiff, reduceCtorEq, Nat.reduceSub, Int.reduceToNat] <;> exact rfl) | refine qw_nil ?_ | refine cw_block ?_ | refine cw_scope ?_ | refine cw_label ?_ | refine cw_skip ?_)
  refine cw_forG g.rules.length (fun k (x : SG) => [(1, .val (.slice (some ⟨idm, 0, some verm⟩) m.length cm)), (2, .box [i64 g.nts, i64 g.start, .slice p g.rules.length c]), (5, .val (.slice (some ⟨h.length, 0, some 0⟩) N N)), (17, .val (.slice p g.rules.length c)), (18, .val (i64 g.rules.length)), (19, .val (i64 k))]) (fun _ x => x.hk)
    (fun k x => SGI h N k x ∧ LI g (nullD g) k x.ls) ⟨_, List.replicate N nilS, List.replicate N []⟩ (by simp only [push_cast, SubL, fget, Nat.reduceEqDiff, reduceIte]) rfl ⟨⟨prefix_push, get_push, ⟨by simp, ?_, ?_, ?_⟩, by simp, ?_⟩, ⟨by simp [hN], ?_⟩⟩ ?_
  · intro i u l h1 h2
    have hi : i < N := by have := (List.getElem?_eq_some_iff.1 h1).1; simpa using this
    rw [List.getElem?_replicate, if_pos hi] at h1 h2
    cases h1; cases h2
    exact Grow.nil
  · intro i j u w x _ h1 _ h3
    rw [List.getElem?_replicate] at h1
    split at h1 <;> cases h1
    simp [isAt] at h3
  · intro i u h1
    rw [List.getElem?_replicate] at h1
    split at h1 <;> cases h1
    rfl
  · intro l hl
    rw [List.mem_replicate] at hl
    rw [hl.2]
    simp
  · intro a b h0 h1
    rw [lget_rep]
    simp
  rintro k ⟨hk, us, ls⟩ hkn ⟨⟨hp, ho, hl, hn, hb⟩, hI⟩
  simp only at hp ho hl hn hb hI ⊢
  by_cases hlt : k < g.rules.length
  · obtain ⟨id, ver, own, c', cells, p', n', c2, hv, hid, hn, hrd, hu'⟩ := hu.at hlt
    cases hv
    subst hn
    have e0 := rdH_get0 hrd (by omega)
    have e0' := rdH_get (j := 1) hrd (by omega)
    simp only [List.getElem?_cons_succ, List.getElem?_cons_zero] at e0 e0'
    have e1 := rng hlt
    have e2 := inc hlt hle
    have e3 := lt_dec hlt
    have hmem : g.rules[k] ∈ _ := List.getElem_mem hlt
    have hn2 := RdSyms.le hu'
    obtain ⟨a1, a2, a3, hS⟩ := R.r _ hmem
    have hid2 := getElem?_prefix hp hid
    have hgm2 := getElem?_prefix hp hgm
    repeat (first | refine cw_seq ?_ | refine cw_region ?_ | refine ow_nil ?_ | ((first | apply ow_cons | apply qw_cons); · simp only [push_cast, env, Nat.reduceEqDiff, reduceIte, Nat.reduceAdd, Nat.reduceMul, Nat.reduceLeDiff, reduceCtorEq, Nat.reduceSub, Int.reduceToNat, e1, hid2, hrd, e3] <;> exact rfl) | ((first | apply ow_spec | apply qw_spec); · simp only [push_cast, env, Nat.reduceEqDiff, reduceIte, Nat.reduceAdd, Nat.reduceMul, Nat.reduceLeDiff, reduceCtorEq, Nat.reduceSub, Int.reduceToNat, e1, hid2, hrd, e3] <;> exact rfl) | refine qw_nil ?_ | refine cw_block ?_ | refine cw_scope ?_ | refine cw_label ?_ | refine cw_skip ?_)
    refine cw_condT (by simp only [push_cast, env, Nat.reduceEqDiff, reduceIte, Nat.reduceAdd, Nat.reduceMul, Nat.reduceLeDiff, reduceCtorEq, Nat.reduceSub, Int.reduceToNat] <;> exact rfl) ?_
    repeat (first | refine cw_seq ?_ | refine cw_region ?_ | refine ow_nil ?_ | ((first | apply ow_cons | apply qw_cons); · simp only [push_cast, env, Nat.reduceEqDiff, reduceIte, Nat.reduceAdd, Nat.reduceMul, Nat.reduceLeDiff, reduceCtorEq, Nat.reduceSub, Int.reduceToNat, e1, hid2, hrd] <;> exact rfl) | ((first | apply ow_spec | apply qw_spec); · simp only [push_cast, env, Nat.reduceEqDiff, reduceIte, Nat.reduceAdd, Nat.reduceMul, Nat.reduceLeDiff, reduceCtorEq, Nat.reduceSub, Int.reduceToNat, e1, hid2, hrd] <;> exact rfl) | refine qw_nil ?_ | refine cw_block ?_ | refine cw_scope ?_ | refine cw_label ?_ | refine cw_skip ?_)
    refine CW.mono (Q := fun e s' => e = .exit 2 ∧ s'.h = hk ∧ SubL [(1, .val (.slice (some ⟨idm, 0, some verm⟩) m.length cm)), (2, .box [i64 g.nts, i64 g.start, .slice (some ⟨id, 0, some ver⟩) g.rules.length c]), (5, .val (.slice (some ⟨h.length, 0, some 0⟩) N N)), (7, .box [i64 g.rules[k].lhs, .slice p' g.rules[k].rhs.length c2]), (8, .val (i64 (badN m g.rules[k].rhs))), (17, .val (.slice (some ⟨id, 0, some ver⟩) g.rules.length c)), (18, .val (i64 g.rules.length)), (19, .val (i64 k))] s'.fr) ?_ ?_
    · refine cw_for g.rules[k].rhs.length (fun j => [(1, .val (.slice (some ⟨idm, 0, some verm⟩) m.length cm)), (2, .box [i64 g.nts, i64 g.start, .slice (some ⟨id, 0, some ver⟩) g.rules.length c]), (5, .val (.slice (some ⟨h.length, 0, some 0⟩) N N)), (7, .box [i64 g.rules[k].lhs, .slice p' g.rules[k].rhs.length c2]), (8, .val (i64 (badN m (g.rules[k].rhs.take j)))), (17, .val (.slice (some ⟨id, 0, some ver⟩) g.rules.length c)), (18, .val (i64 g.rules.length)), (19, .val (i64 k)), (24, .val (.slice p' g.rules[k].rhs.length c2)), (25, .val (i64 g.rules[k].rhs.length)), (26, .val (i64 j))]) (fun _ => hk)
        (fun _ => True) (by simp only [push_cast, SubL, fget, Nat.reduceEqDiff, reduceIte, List.take_zero, badN, List.countP_nil]) rfl trivial ?_
      intro j hj _
      by_cases hjl : j < g.rules[k].rhs.length
      · obtain ⟨id2, ver2, own2, c3, cells2, hv2, hid2, hrd2⟩ := hu'.at hjl
        cases hv2
        have e9 := rng hjl
        have e10 := inc hjl (by omega)
        have e11 := lt_dec hjl
        have g0 := rdH_get0 hrd2 (by omega)
        simp only [List.getElem?_cons_zero] at g0
        have hmem2 : g.rules[k].rhs[j] ∈ _ := List.getElem_mem hjl
        have hs2 := hS _ hmem2
        have hid4 := getElem?_prefix hp hid2
        have hbt := badN_take (m := m) hjl
        have hble := badN_le (m := m) (l := g.rules[k].rhs.take j)
        rw [List.length_take, Nat.min_eq_left hj] at hble
        have e4 : IntKind.i64.wrap ((badN m (g.rules[k].rhs.take j) : Int) + 1) = (badN m (g.rules[k].rhs.take j) : Int) + 1 := wrap64_id (by omega) (by omega)
        repeat (first | refine cw_seq ?_ | refine cw_region ?_ | refine ow_nil ?_ | ((first | apply ow_cons | apply qw_cons); · simp only [push_cast, env, Nat.reduceEqDiff, reduceIte, Nat.reduceAdd, Nat.reduceMul, Nat.reduceLeDiff, reduceCtorEq, Nat.reduceSub, Int.reduceToNat, e9, hid4, hrd2, e11] <;> exact rfl) | ((first | apply ow_spec | apply qw_spec); · simp only [push_cast, env, Nat.reduceEqDiff, reduceIte, Nat.reduceAdd, Nat.reduceMul, Nat.reduceLeDiff, reduceCtorEq, Nat.reduceSub, Int.reduceToNat, e9, hid4, hrd2, e11] <;> exact rfl) | refine qw_nil ?_ | refine cw_block ?_ | refine cw_scope ?_ | refine cw_label ?_ | refine cw_skip ?_)
        refine cw_condT (by simp only [push_cast, env, Nat.reduceEqDiff, reduceIte, Nat.reduceAdd, Nat.reduceMul, Nat.reduceLeDiff, reduceCtorEq, Nat.reduceSub, Int.reduceToNat] <;> exact rfl) ?_
        repeat (first | refine cw_seq ?_ | refine cw_region ?_ | refine ow_nil ?_ | ((first | apply ow_cons | apply qw_cons); · simp only [push_cast, env, Nat.reduceEqDiff, reduceIte, Nat.reduceAdd, Nat.reduceMul, Nat.reduceLeDiff, reduceCtorEq, Nat.reduceSub, Int.reduceToNat, e9, hid4, hrd2] <;> exact rfl) | ((first | apply ow_spec | apply qw_spec); · simp only [push_cast, env, Nat.reduceEqDiff, reduceIte, Nat.reduceAdd, Nat.reduceMul, Nat.reduceLeDiff, reduceCtorEq, Nat.reduceSub, Int.reduceToNat, e9, hid4, hrd2] <;> exact rfl) | refine qw_nil ?_ | refine cw_block ?_ | refine cw_scope ?_ | refine cw_label ?_ | refine cw_skip ?_)
        by_cases h0 : 0 ≤ g.rules[k].rhs[j].nt
        · have d1 : decide (g.rules[k].rhs[j].nt < 0) = false := decide_eq_false (by omega)
          have q3 := rng0 (N := m.length) h0 (by omega)
          have qb := bit_map (m := m) h0 (by omega)
          repeat (first | refine cw_seq ?_ | refine cw_region ?_ | refine ow_nil ?_ | ((first | apply ow_cons | apply qw_cons); · simp only [push_cast, env, Nat.reduceEqDiff, reduceIte, Nat.reduceAdd, Nat.reduceMul, Nat.reduceLeDiff, reduceCtorEq, Nat.reduceSub, Int.reduceToNat, d1, q3, hgm2, qb, Nat.mul_one] <;> exact rfl) | ((first | apply ow_spec | apply qw_spec); · simp only [push_cast, env, Nat.reduceEqDiff, reduceIte, Nat.reduceAdd, Nat.reduceMul, Nat.reduceLeDiff, reduceCtorEq, Nat.reduceSub, Int.reduceToNat, d1, q3, hgm2, qb, Nat.mul_one] <;> exact rfl) | refine qw_nil ?_ | refine cw_block ?_ | refine cw_scope ?_ | refine cw_label ?_ | refine cw_skip ?_)
          refine cw_cond (by simp only [push_cast, env, Nat.reduceEqDiff, reduceIte, Nat.reduceAdd, Nat.reduceMul, Nat.reduceLeDiff, reduceCtorEq, Nat.reduceSub, Int.reduceToNat] <;> exact rfl) (fun b1 => ?_) (fun b1 => ?_)
          · have e : nullB m g.rules[k].rhs[j] = false := by unfold nullB; rw [decide_eq_true h0]; simpa using b1
            rw [e] at hbt
            repeat (first | refine cw_seq ?_ | refine cw_region ?_ | refine ow_nil ?_ | ((first | apply ow_cons | apply qw_cons); · simp only [push_cast, env, Nat.reduceEqDiff, reduceIte, Nat.reduceAdd, Nat.reduceMul, Nat.reduceLeDiff, reduceCtorEq, Nat.reduceSub, Int.reduceToNat, e4, e10] <;> exact rfl) | ((first | apply ow_spec | apply qw_spec); · simp only [push_cast, env, Nat.reduceEqDiff, reduceIte, Nat.reduceAdd, Nat.reduceMul, Nat.reduceLeDiff, reduceCtorEq, Nat.reduceSub, Int.reduceToNat, e4, e10] <;> exact rfl) | refine qw_nil ?_ | refine cw_block ?_ | refine cw_scope ?_ | refine cw_label ?_ | refine cw_skip ?_)
            exact ⟨hjl, (by simp only [push_cast, SubL, fget, Nat.reduceEqDiff, reduceIte, hbt, Bool.false_eq_true, if_false]), rfl, trivial⟩
          · have e : nullB m g.rules[k].rhs[j] = true := by unfold nullB; rw [decide_eq_true h0]; simpa using b1
            rw [e] at hbt
            repeat (first | refine cw_seq ?_ | refine cw_region ?_ | refine ow_nil ?_ | ((first | apply ow_cons | apply qw_cons); · simp only [push_cast, env, Nat.reduceEqDiff, reduceIte, Nat.reduceAdd, Nat.reduceMul, Nat.reduceLeDiff, reduceCtorEq, Nat.reduceSub, Int.reduceToNat, e10] <;> exact rfl) | ((first | apply ow_spec | apply qw_spec); · simp only [push_cast, env, Nat.reduceEqDiff, reduceIte, Nat.reduceAdd, Nat.reduceMul, Nat.reduceLeDiff, reduceCtorEq, Nat.reduceSub, Int.reduceToNat, e10] <;> exact rfl) | refine qw_nil ?_ | refine cw_block ?_ | refine cw_scope ?_ | refine cw_label ?_ | refine cw_skip ?_)
            exact ⟨hjl, (by simp only [push_cast, SubL, fget, Nat.reduceEqDiff, reduceIte, hbt]), rfl, trivial⟩
        · have d1 : decide (g.rules[k].rhs[j].nt < 0) = true := decide_eq_true (by omega)
          have e : nullB m g.rules[k].rhs[j] = false := by unfold nullB; rw [decide_eq_false h0]; rfl
          rw [e] at hbt
          repeat (first | refine cw_seq ?_ | refine cw_region ?_ | refine ow_nil ?_ | ((first | apply ow_cons | apply qw_cons); · simp only [push_cast, env, Nat.reduceEqDiff, reduceIte, Nat.reduceAdd, Nat.reduceMul, Nat.reduceLeDiff, reduceCtorEq, Nat.reduceSub, Int.reduceToNat, d1] <;> exact rfl) | ((first | apply ow_spec | apply qw_spec); · simp only [push_cast, env, Nat.reduceEqDiff, reduceIte, Nat.reduceAdd, Nat.reduceMul, Nat.reduceLeDiff, reduceCtorEq, Nat.reduceSub, Int.reduceToNat, d1] <;> exact rfl) | refine qw_nil ?_ | refine cw_block ?_ | refine cw_scope ?_ | refine cw_label ?_ | refine cw_skip ?_)
          refine cw_condT (by simp only [push_cast, env, Nat.reduceEqDiff, reduceIte, Nat.reduceAdd, Nat.reduceMul, Nat.reduceLeDiff, reduceCtorEq, Nat.reduceSub, Int.reduceToNat] <;> exact rfl) ?_
          repeat (first | refine cw_seq ?_ | refine cw_region ?_ | refine ow_nil ?_ | ((first | apply ow_cons | apply qw_cons); · simp only [push_cast, env, Nat.reduceEqDiff, reduceIte, Nat.reduceAdd, Nat.reduceMul, Nat.reduceLeDiff, reduceCtorEq, Nat.reduceSub, Int.reduceToNat, e4, e10] <;> exact rfl) | ((first | apply ow_spec | apply qw_spec); · simp only [push_cast, env, Nat.reduceEqDiff, reduceIte, Nat.reduceAdd, Nat.reduceMul, Nat.reduceLeDiff, reduceCtorEq, Nat.reduceSub, Int.reduceToNat, e4, e10] <;> exact rfl) | refine qw_nil ?_ | refine cw_block ?_ | refine cw_scope ?_ | refine cw_label ?_ | refine cw_skip ?_)
          exact ⟨hjl, (by simp only [push_cast, SubL, fget, Nat.reduceEqDiff, reduceIte, hbt, Bool.false_eq_true, if_false]), rfl, trivial⟩
      · have e11 := ge_dec hjl
        obtain rfl : j = g.rules[k].rhs.length := by omega
        repeat (first | refine cw_seq ?_ | refine cw_region ?_ | refine ow_nil ?_ | ((first | apply ow_cons | apply qw_cons); · simp only [push_cast, env, Nat.reduceEqDiff, reduceIte, Nat.reduceAdd, Nat.reduceMul, Nat.reduceLeDiff, reduceCtorEq, Nat.reduceSub, Int.reduceToNat, e11] <;> exact rfl) | ((first | apply ow_spec | apply qw_spec); · simp only [push_cast, env, Nat.reduceEqDiff, reduceIte, Nat.reduceAdd, Nat.reduceMul, Nat.reduceLeDiff, reduceCtorEq, Nat.reduceSub, Int.reduceToNat, e11] <;> exact rfl) | refine qw_nil ?_ | refine cw_block ?_ | refine cw_scope ?_ | refine cw_label ?_ | refine cw_skip ?_)
        refine cw_condF (by simp only [push_cast, env, Nat.reduceEqDiff, reduceIte, Nat.reduceAdd, Nat.reduceMul, Nat.reduceLeDiff, reduceCtorEq, Nat.reduceSub, Int.reduceToNat] <;> exact rfl) ?_
        refine cw_exit ?_
        rw [List.take_length]
        exact ⟨rfl, rfl, (by simp only [push_cast, SubL, fget, Nat.reduceEqDiff, reduceIte])⟩
    rintro e s' ⟨rfl, hh, hf⟩
    show CW _ _ _ _
    refine cw_weakL _ hf ?_
    rw [hh]
    clear hh hf s'
    repeat (first | refine cw_seq ?_ | refine cw_region ?_ | refine ow_nil ?_ | ((first | apply ow_cons | apply qw_cons); · simp only [push_cast, env, Nat.reduceEqDiff, reduceIte, Nat.reduceAdd, Nat.reduceMul, Nat.reduceLeDiff, reduceCtorEq, Nat.reduceSub, Int.reduceToNat] <;> exact rfl) | ((first | apply ow_spec | apply qw_spec); · simp only [push_cast, env, Nat.reduceEqDiff, reduceIte, Nat.reduceAdd, Nat.reduceMul, Nat.reduceLeDiff, reduceCtorEq, Nat.reduceSub, Int.reduceToNat] <;> exact rfl) | refine qw_nil ?_ | refine cw_block ?_ | refine cw_scope ?_ | refine cw_label ?_ | refine cw_skip ?_)
    refine cw_forG g.rules[k].rhs.length (fun j (x : SG) => [(1, .val (.slice (some ⟨idm, 0, some verm⟩) m.length cm)), (2, .box [i64 g.nts, i64 g.start, .slice (some ⟨id, 0, some ver⟩) g.rules.length c]), (5, .val (.slice (some ⟨h.length, 0, some 0⟩) N N)), (7, .box [i64 g.rules[k].lhs, .slice p' g.rules[k].rhs.length c2]), (8, .val (i64 (badN m g.rules[k].rhs))), (17, .val (.slice (some ⟨id, 0, some ver⟩) g.rules.length c)), (18, .val (i64 g.rules.length)), (19, .val (i64 k)), (45, .val (.slice p' g.rules[k].rhs.length c2)), (46, .val (i64 g.rules[k].rhs.length)), (47, .val (i64 j))]) (fun _ x => x.hk)
      (fun j x => h <+: x.hk ∧ x.hk[h.length]? = some (.arr x.us 0 true 40) ∧ NL h x.hk h.length x.us x.ls ∧ x.us.length = N ∧ (∀ l ∈ x.ls, l.length ≤ 80 * k + j) ∧ (x.ls.length : Int) = g.nts ∧ ∀ a b : Int, 0 ≤ a → a < g.nts → (b ∈ lget x.ls a ↔ (∃ r ∈ g.rules.take k, r.lhs = a ∧ EdgeR (nullD g) r r.rhs.length b) ∨ g.rules[k].lhs = a ∧ EdgeR (nullD g) g.rules[k] j b)) ⟨hk, us, ls⟩ (by simp only [push_cast, SubL, fget, Nat.reduceEqDiff, reduceIte]) rfl ⟨hp, ho, hl, hn, hb, hI.n, ?_⟩ ?_
    · intro a b h0 h1
      rw [hI.m a b h0 h1]
      refine ⟨.inl, fun hh => hh.elim (fun h => h) fun h => ?_⟩
      obtain ⟨_, k0, _, hlt0, _⟩ := h
      exact absurd hlt0 (Nat.not_lt_zero _)
    rintro j ⟨hk1, us1, ls1⟩ hjn ⟨hp1, ho1, hl1, hn1, hb1, hnl1, hm1⟩
    simp only at hp1 ho1 hl1 hn1 hb1 hnl1 hm1 ⊢
    by_cases hjl : j < g.rules[k].rhs.length
    · obtain ⟨id2, ver2, own2, c3, cells2, hv2, hid2, hrd2⟩ := hu'.at hjl
      cases hv2
      have e9 := rng hjl
      have e10 := inc hjl (by omega)
      have e11 := lt_dec hjl
      have g0 := rdH_get0 hrd2 (by omega)
      simp only [List.getElem?_cons_zero] at g0
      have hmem2 : g.rules[k].rhs[j] ∈ _ := List.getElem_mem hjl
      have hs2 := hS _ hmem2
      have hid4 := getElem?_prefix hp1 hid2
      have hgm3 := getElem?_prefix hp1 hgm
      have hbo := bad_others (m := m) hjl
      have hedge : EdgeR (nullD g) g.rules[k] (j + 1) g.rules[k].rhs[j].nt ↔ EdgeR (nullD g) g.rules[k] (j + 1) g.rules[k].rhs[j].nt := Iff.rfl
      have hone : (0 ≤ g.rules[k].rhs[j].nt ∧ (badN m g.rules[k].rhs = 0 ∨ (badN m g.rules[k].rhs = 1 ∧ nullB m g.rules[k].rhs[j] = false))) → ∀ b, EdgeR (nullD g) g.rules[k] (j + 1) b ↔ EdgeR (nullD g) g.rules[k] j b ∨ b = g.rules[k].rhs[j].nt := by
        rintro ⟨h0, hB⟩ b
        have hB := hbo.1 hB
        constructor
        · rintro ⟨k0, hk0, h1, h2, h3, h4⟩
          by_cases e : k0 = j
          · subst e
            exact .inr h3.symm
          · exact .inl ⟨k0, hk0, by omega, h2, h3, h4⟩
        · rintro (⟨k0, hk0, h1, h2, h3, h4⟩ | rfl)
          · exact ⟨k0, hk0, by omega, h2, h3, h4⟩
          · exact ⟨j, hjl, by omega, h0, rfl, fun y hy hne => (nullB_iff hm (hS _ (List.getElem_mem hy)).2.1).1 (hB y hy hne)⟩
      have hnot : ¬ (0 ≤ g.rules[k].rhs[j].nt ∧ (badN m g.rules[k].rhs = 0 ∨ (badN m g.rules[k].rhs = 1 ∧ nullB m g.rules[k].rhs[j] = false))) → ∀ b, EdgeR (nullD g) g.rules[k] (j + 1) b ↔ EdgeR (nullD g) g.rules[k] j b := by
        intro hc b
        constructor
        · rintro ⟨k0, hk0, h1, h2, h3, h4⟩
          by_cases e : k0 = j
          · subst e
            exact (hc ⟨h2, hbo.2 fun y hy hne => (nullB_iff hm (hS _ (List.getElem_mem hy)).2.1).2 (h4 y hy hne)⟩).elim
          · exact ⟨k0, hk0, by omega, h2, h3, h4⟩
        · rintro ⟨k0, hk0, h1, h2, h3, h4⟩
          exact ⟨k0, hk0, by omega, h2, h3, h4⟩
      repeat (first | refine cw_seq ?_ | refine cw_region ?_ | refine ow_nil ?_ | ((first | apply ow_cons | apply qw_cons); · simp only [push_cast, env, Nat.reduceEqDiff, reduceIte, Nat.reduceAdd, Nat.reduceMul, Nat.reduceLeDiff, reduceCtorEq, Nat.reduceSub, Int.reduceToNat, e9, hid4, hrd2, e11] <;> exact rfl) | ((first | apply ow_spec | apply qw_spec); · simp only [push_cast, env, Nat.reduceEqDiff, reduceIte, Nat.reduceAdd, Nat.reduceMul, Nat.reduceLeDiff, reduceCtorEq, Nat.reduceSub, Int.reduceToNat, e9, hid4, hrd2, e11] <;> exact rfl) | refine qw_nil ?_ | refine cw_block ?_ | refine cw_scope ?_ | refine cw_label ?_ | refine cw_skip ?_)
      refine cw_condT (by simp only [push_cast, env, Nat.reduceEqDiff, reduceIte, Nat.reduceAdd, Nat.reduceMul, Nat.reduceLeDiff, reduceCtorEq, Nat.reduceSub, Int.reduceToNat] <;> exact rfl) ?_
      by_cases h0 : 0 ≤ g.rules[k].rhs[j].nt
      · have d0 := decide_eq_true h0
        have q3 := rng0 (N := m.length) h0 (by omega)
        have qb := bit_map (m := m) h0 (by omega)
        have hnb : nullB m g.rules[k].rhs[j] = bit m g.rules[k].rhs[j].nt := by unfold nullB; rw [d0]; rfl
        by_cases w1 : badN m g.rules[k].rhs = 0
        · have d1 : decide ((badN m g.rules[k].rhs : Int) = 0) = true := decide_eq_true (by omega)
          have hB : 0 ≤ g.rules[k].rhs[j].nt ∧ (badN m g.rules[k].rhs = 0 ∨ (badN m g.rules[k].rhs = 1 ∧ nullB m g.rules[k].rhs[j] = false)) := ⟨h0, (.inl w1)⟩
          repeat (first | refine cw_seq ?_ | refine cw_region ?_ | refine ow_nil ?_ | ((first | apply ow_cons | apply qw_cons); · simp only [push_cast, env, Nat.reduceEqDiff, reduceIte, Nat.reduceAdd, Nat.reduceMul, Nat.reduceLeDiff, reduceCtorEq, Nat.reduceSub, Int.reduceToNat, e9, hid4, hrd2, d0, d1] <;> exact rfl) | ((first | apply ow_spec | apply qw_spec); · simp only [push_cast, env, Nat.reduceEqDiff, reduceIte, Nat.reduceAdd, Nat.reduceMul, Nat.reduceLeDiff, reduceCtorEq, Nat.reduceSub, Int.reduceToNat, e9, hid4, hrd2, d0, d1] <;> exact rfl) | refine qw_nil ?_ | refine cw_block ?_ | refine cw_scope ?_ | refine cw_label ?_ | refine cw_skip ?_)
          refine cw_condT (by simp only [push_cast, env, Nat.reduceEqDiff, reduceIte, Nat.reduceAdd, Nat.reduceMul, Nat.reduceLeDiff, reduceCtorEq, Nat.reduceSub, Int.reduceToNat, d1] <;> exact rfl) ?_
          repeat (first | refine cw_seq ?_ | refine cw_region ?_ | refine ow_nil ?_ | ((first | apply ow_cons | apply qw_cons); · simp only [push_cast, env, Nat.reduceEqDiff, reduceIte, Nat.reduceAdd, Nat.reduceMul, Nat.reduceLeDiff, reduceCtorEq, Nat.reduceSub, Int.reduceToNat] <;> exact rfl) | ((first | apply ow_spec | apply qw_spec); · simp only [push_cast, env, Nat.reduceEqDiff, reduceIte, Nat.reduceAdd, Nat.reduceMul, Nat.reduceLeDiff, reduceCtorEq, Nat.reduceSub, Int.reduceToNat] <;> exact rfl) | refine qw_nil ?_ | refine cw_block ?_ | refine cw_scope ?_ | refine cw_label ?_ | refine cw_skip ?_)
          refine cw_weakL [(1, .val (.slice (some ⟨idm, 0, some verm⟩) m.length cm)), (2, .box [i64 g.nts, i64 g.start, .slice (some ⟨id, 0, some ver⟩) g.rules.length c]), (5, .val (.slice (some ⟨h.length, 0, some 0⟩) N N)), (7, .box [i64 g.rules[k].lhs, .slice (some ⟨id2, 0, some ver2⟩) g.rules[k].rhs.length c2]), (8, .val (i64 (badN m g.rules[k].rhs))), (17, .val (.slice (some ⟨id, 0, some ver⟩) g.rules.length c)), (18, .val (i64 g.rules.length)), (19, .val (i64 k)), (45, .val (.slice (some ⟨id2, 0, some ver2⟩) g.rules[k].rhs.length c2)), (46, .val (i64 g.rules[k].rhs.length)), (47, .val (i64 j)), (12, .box [i64 g.rules[k].rhs[j].nt, u64 g.rules[k].rhs[j].set.a, u64 g.rules[k].rhs[j].set.b, u64 g.rules[k].rhs[j].set.c, u64 g.rules[k].rhs[j].set.d])] (by simp only [push_cast, SubL, fget, Nat.reduceEqDiff, reduceIte]) ?_
          have hA : g.rules[k].lhs.toNat < us1.length := by omega
          obtain ⟨v, hv⟩ : ∃ v, us1[g.rules[k].lhs.toNat]? = some v := ⟨_, List.getElem?_eq_getElem hA⟩
          have hlA := lget_get (ls := ls1) a1 (by omega)
          have G := hl1.g _ _ _ hv hlA
          obtain ⟨pv, cv, rfl⟩ := G.form
          have hlen : (lget ls1 g.rules[k].lhs).length ≤ 80 * k + j := hb1 _ (List.mem_of_getElem? hlA)
          obtain ⟨p2, c2', h2, hone1, G2, hp2, hpr, hx2⟩ := push_one (b := g.rules[k].rhs[j].nt) G hp1 (by omega)
          have ho2 : h2[h.length]? = some (.arr us1 0 true 40) := hpr _ _ (hl1.o _ _ hv) ho1
          have r1 := rng0 (N := N) a1 (by omega)
          refine cw_orderA [[], [], [1], [], [], [4], [3, 5], [6], [], [8], [9], [7, 10], [0, 2], [0, 1, 2, 3, 4, 5, 6, 7, 8, 9, 10, 11, 12]] [11, 13] [hk1, h2, h2.set h.length (.arr (us1.set g.rules[k].lhs.toNat (.slice p2 ((lget ls1 g.rules[k].lhs).length + 1) c2')) 0 true 40)]
            [.sl (.val (.slice (some ⟨h.length, 0, some 0⟩) N N)), .ep 7 0, .sl (.val (i64 g.rules[k].lhs)), .sl (.val (.slice (some ⟨h.length, 0, some 0⟩) N N)), .ep 7 0, .sl (.val (i64 g.rules[k].lhs)), .sl (.val (.pointer (some ⟨h.length, g.rules[k].lhs.toNat, some 0⟩))), .sl (.val (.slice pv (lget ls1 g.rules[k].lhs).length cv)),
             .ep 12 0, .sl (.val (i64 g.rules[k].rhs[j].nt)), .sl (.bsl [i64 g.rules[k].rhs[j].nt] 1), .sl (.val (.slice p2 ((lget ls1 g.rules[k].lhs).length + 1) c2')), .sl (.val (.pointer (some ⟨h.length, g.rules[k].lhs.toNat, some 0⟩))), .sl .unk]
            [(1, .val (.slice (some ⟨idm, 0, some verm⟩) m.length cm)), (2, .box [i64 g.nts, i64 g.start, .slice (some ⟨id, 0, some ver⟩) g.rules.length c]), (5, .val (.slice (some ⟨h.length, 0, some 0⟩) N N)), (7, .box [i64 g.rules[k].lhs, .slice (some ⟨id2, 0, some ver2⟩) g.rules[k].rhs.length c2]), (8, .val (i64 (badN m g.rules[k].rhs))), (17, .val (.slice (some ⟨id, 0, some ver⟩) g.rules.length c)), (18, .val (i64 g.rules.length)), (19, .val (i64 k)), (45, .val (.slice (some ⟨id2, 0, some ver2⟩) g.rules[k].rhs.length c2)), (46, .val (i64 g.rules[k].rhs.length)), (47, .val (i64 j)), (12, .box [i64 g.rules[k].rhs[j].nt, u64 g.rules[k].rhs[j].set.a, u64 g.rules[k].rhs[j].set.b, u64 g.rules[k].rhs[j].set.c, u64 g.rules[k].rhs[j].set.d])]
            [(1, .val (.slice (some ⟨idm, 0, some verm⟩) m.length cm)), (2, .box [i64 g.nts, i64 g.start, .slice (some ⟨id, 0, some ver⟩) g.rules.length c]), (5, .val (.slice (some ⟨h.length, 0, some 0⟩) N N)), (7, .box [i64 g.rules[k].lhs, .slice (some ⟨id2, 0, some ver2⟩) g.rules[k].rhs.length c2]), (8, .val (i64 (badN m g.rules[k].rhs))), (17, .val (.slice (some ⟨id, 0, some ver⟩) g.rules.length c)), (18, .val (i64 g.rules.length)), (19, .val (i64 k)), (45, .val (.slice (some ⟨id2, 0, some ver2⟩) g.rules[k].rhs.length c2)), (46, .val (i64 g.rules[k].rhs.length)), (47, .val (i64 j))] _ mixed (by kernel_rfl) rfl rfl rfl rfl rfl ?_ ⟨.inl ⟨by decide, rfl⟩, .inl ⟨by decide, rfl⟩, .inl ⟨by decide, rfl⟩, .inl ⟨by decide, rfl⟩, .inl ⟨by decide, rfl⟩, .inl ⟨by decide, rfl⟩, .inl ⟨by decide, rfl⟩, .inl ⟨by decide, rfl⟩, .inl ⟨by decide, rfl⟩, .inl ⟨by decide, rfl⟩, .inl ⟨by decide, rfl⟩, trivial⟩ ?_
          · repeat (first | exact StepsA.nil _ | (apply StepsA.cons; (· rfl); (· first | (refine ⟨?_, trivial⟩; (· (first | (apply one_val; (· rfl); (· simp only [push_cast, env, Nat.reduceEqDiff, reduceIte, Nat.reduceAdd, Nat.reduceMul, Nat.reduceLeDiff, reduceCtorEq, Nat.reduceSub, Int.reduceToNat, r1, ho1, hv, Nat.mul_one] <;> exact rfl); (· simp only [push_cast, env, Nat.reduceEqDiff, reduceIte, Nat.reduceAdd, Nat.reduceMul, Nat.reduceLeDiff, reduceCtorEq, Nat.reduceSub, Int.reduceToNat, r1, ho1, hv, Nat.mul_one] <;> exact rfl)) | (apply one_eph; (· rfl); (· simp only [push_cast, env, Nat.reduceEqDiff, reduceIte, Nat.reduceAdd, Nat.reduceMul, Nat.reduceLeDiff, reduceCtorEq, Nat.reduceSub, Int.reduceToNat, r1, ho1, hv, Nat.mul_one] <;> exact rfl); (· rfl); (· simp only [push_cast, env, Nat.reduceEqDiff, reduceIte, Nat.reduceAdd, Nat.reduceMul, Nat.reduceLeDiff, reduceCtorEq, Nat.reduceSub, Int.reduceToNat, r1, ho1, hv, Nat.mul_one] <;> exact rfl); (· decide))))) | (refine ⟨?_, ?_, trivial⟩; (· (first | (apply one_val; (· rfl); (· simp only [push_cast, env, Nat.reduceEqDiff, reduceIte, Nat.reduceAdd, Nat.reduceMul, Nat.reduceLeDiff, reduceCtorEq, Nat.reduceSub, Int.reduceToNat, r1, ho1, hv, Nat.mul_one] <;> exact rfl); (· simp only [push_cast, env, Nat.reduceEqDiff, reduceIte, Nat.reduceAdd, Nat.reduceMul, Nat.reduceLeDiff, reduceCtorEq, Nat.reduceSub, Int.reduceToNat, r1, ho1, hv, Nat.mul_one] <;> exact rfl)) | (apply one_eph; (· rfl); (· simp only [push_cast, env, Nat.reduceEqDiff, reduceIte, Nat.reduceAdd, Nat.reduceMul, Nat.reduceLeDiff, reduceCtorEq, Nat.reduceSub, Int.reduceToNat, r1, ho1, hv, Nat.mul_one] <;> exact rfl); (· rfl); (· simp only [push_cast, env, Nat.reduceEqDiff, reduceIte, Nat.reduceAdd, Nat.reduceMul, Nat.reduceLeDiff, reduceCtorEq, Nat.reduceSub, Int.reduceToNat, r1, ho1, hv, Nat.mul_one] <;> exact rfl); (· decide)))); (· (first | (apply one_val; (· rfl); (· simp only [push_cast, env, Nat.reduceEqDiff, reduceIte, Nat.reduceAdd, Nat.reduceMul, Nat.reduceLeDiff, reduceCtorEq, Nat.reduceSub, Int.reduceToNat, r1, ho1, hv, Nat.mul_one] <;> exact rfl); (· simp only [push_cast, env, Nat.reduceEqDiff, reduceIte, Nat.reduceAdd, Nat.reduceMul, Nat.reduceLeDiff, reduceCtorEq, Nat.reduceSub, Int.reduceToNat, r1, ho1, hv, Nat.mul_one] <;> exact rfl)) | (apply one_eph; (· rfl); (· simp only [push_cast, env, Nat.reduceEqDiff, reduceIte, Nat.reduceAdd, Nat.reduceMul, Nat.reduceLeDiff, reduceCtorEq, Nat.reduceSub, Int.reduceToNat, r1, ho1, hv, Nat.mul_one] <;> exact rfl); (· rfl); (· simp only [push_cast, env, Nat.reduceEqDiff, reduceIte, Nat.reduceAdd, Nat.reduceMul, Nat.reduceLeDiff, reduceCtorEq, Nat.reduceSub, Int.reduceToNat, r1, ho1, hv, Nat.mul_one] <;> exact rfl); (· decide))))) | (refine ⟨?_, ?_, ?_, trivial⟩; (· (first | (apply one_val; (· rfl); (· simp only [push_cast, env, Nat.reduceEqDiff, reduceIte, Nat.reduceAdd, Nat.reduceMul, Nat.reduceLeDiff, reduceCtorEq, Nat.reduceSub, Int.reduceToNat, r1, ho1, hv, Nat.mul_one] <;> exact rfl); (· simp only [push_cast, env, Nat.reduceEqDiff, reduceIte, Nat.reduceAdd, Nat.reduceMul, Nat.reduceLeDiff, reduceCtorEq, Nat.reduceSub, Int.reduceToNat, r1, ho1, hv, Nat.mul_one] <;> exact rfl)) | (apply one_eph; (· rfl); (· simp only [push_cast, env, Nat.reduceEqDiff, reduceIte, Nat.reduceAdd, Nat.reduceMul, Nat.reduceLeDiff, reduceCtorEq, Nat.reduceSub, Int.reduceToNat, r1, ho1, hv, Nat.mul_one] <;> exact rfl); (· rfl); (· simp only [push_cast, env, Nat.reduceEqDiff, reduceIte, Nat.reduceAdd, Nat.reduceMul, Nat.reduceLeDiff, reduceCtorEq, Nat.reduceSub, Int.reduceToNat, r1, ho1, hv, Nat.mul_one] <;> exact rfl); (· decide)))); (· (first | (apply one_val; (· rfl); (· simp only [push_cast, env, Nat.reduceEqDiff, reduceIte, Nat.reduceAdd, Nat.reduceMul, Nat.reduceLeDiff, reduceCtorEq, Nat.reduceSub, Int.reduceToNat, r1, ho1, hv, Nat.mul_one] <;> exact rfl); (· simp only [push_cast, env, Nat.reduceEqDiff, reduceIte, Nat.reduceAdd, Nat.reduceMul, Nat.reduceLeDiff, reduceCtorEq, Nat.reduceSub, Int.reduceToNat, r1, ho1, hv, Nat.mul_one] <;> exact rfl)) | (apply one_eph; (· rfl); (· simp only [push_cast, env, Nat.reduceEqDiff, reduceIte, Nat.reduceAdd, Nat.reduceMul, Nat.reduceLeDiff, reduceCtorEq, Nat.reduceSub, Int.reduceToNat, r1, ho1, hv, Nat.mul_one] <;> exact rfl); (· rfl); (· simp only [push_cast, env, Nat.reduceEqDiff, reduceIte, Nat.reduceAdd, Nat.reduceMul, Nat.reduceLeDiff, reduceCtorEq, Nat.reduceSub, Int.reduceToNat, r1, ho1, hv, Nat.mul_one] <;> exact rfl); (· decide)))); (· (first | (apply one_val; (· rfl); (· simp only [push_cast, env, Nat.reduceEqDiff, reduceIte, Nat.reduceAdd, Nat.reduceMul, Nat.reduceLeDiff, reduceCtorEq, Nat.reduceSub, Int.reduceToNat, r1, ho1, hv, Nat.mul_one] <;> exact rfl); (· simp only [push_cast, env, Nat.reduceEqDiff, reduceIte, Nat.reduceAdd, Nat.reduceMul, Nat.reduceLeDiff, reduceCtorEq, Nat.reduceSub, Int.reduceToNat, r1, ho1, hv, Nat.mul_one] <;> exact rfl)) | (apply one_eph; (· rfl); (· simp only [push_cast, env, Nat.reduceEqDiff, reduceIte, Nat.reduceAdd, Nat.reduceMul, Nat.reduceLeDiff, reduceCtorEq, Nat.reduceSub, Int.reduceToNat, r1, ho1, hv, Nat.mul_one] <;> exact rfl); (· rfl); (· simp only [push_cast, env, Nat.reduceEqDiff, reduceIte, Nat.reduceAdd, Nat.reduceMul, Nat.reduceLeDiff, reduceCtorEq, Nat.reduceSub, Int.reduceToNat, r1, ho1, hv, Nat.mul_one] <;> exact rfl); (· decide))))) | (refine ⟨?_, ?_, ?_, ?_, trivial⟩; (· (first | (apply one_val; (· rfl); (· simp only [push_cast, env, Nat.reduceEqDiff, reduceIte, Nat.reduceAdd, Nat.reduceMul, Nat.reduceLeDiff, reduceCtorEq, Nat.reduceSub, Int.reduceToNat, r1, ho1, hv, Nat.mul_one] <;> exact rfl); (· simp only [push_cast, env, Nat.reduceEqDiff, reduceIte, Nat.reduceAdd, Nat.reduceMul, Nat.reduceLeDiff, reduceCtorEq, Nat.reduceSub, Int.reduceToNat, r1, ho1, hv, Nat.mul_one] <;> exact rfl)) | (apply one_eph; (· rfl); (· simp only [push_cast, env, Nat.reduceEqDiff, reduceIte, Nat.reduceAdd, Nat.reduceMul, Nat.reduceLeDiff, reduceCtorEq, Nat.reduceSub, Int.reduceToNat, r1, ho1, hv, Nat.mul_one] <;> exact rfl); (· rfl); (· simp only [push_cast, env, Nat.reduceEqDiff, reduceIte, Nat.reduceAdd, Nat.reduceMul, Nat.reduceLeDiff, reduceCtorEq, Nat.reduceSub, Int.reduceToNat, r1, ho1, hv, Nat.mul_one] <;> exact rfl); (· decide)))); (· (first | (apply one_val; (· rfl); (· simp only [push_cast, env, Nat.reduceEqDiff, reduceIte, Nat.reduceAdd, Nat.reduceMul, Nat.reduceLeDiff, reduceCtorEq, Nat.reduceSub, Int.reduceToNat, r1, ho1, hv, Nat.mul_one] <;> exact rfl); (· simp only [push_cast, env, Nat.reduceEqDiff, reduceIte, Nat.reduceAdd, Nat.reduceMul, Nat.reduceLeDiff, reduceCtorEq, Nat.reduceSub, Int.reduceToNat, r1, ho1, hv, Nat.mul_one] <;> exact rfl)) | (apply one_eph; (· rfl); (· simp only [push_cast, env, Nat.reduceEqDiff, reduceIte, Nat.reduceAdd, Nat.reduceMul, Nat.reduceLeDiff, reduceCtorEq, Nat.reduceSub, Int.reduceToNat, r1, ho1, hv, Nat.mul_one] <;> exact rfl); (· rfl); (· simp only [push_cast, env, Nat.reduceEqDiff, reduceIte, Nat.reduceAdd, Nat.reduceMul, Nat.reduceLeDiff, reduceCtorEq, Nat.reduceSub, Int.reduceToNat, r1, ho1, hv, Nat.mul_one] <;> exact rfl); (· decide)))); (· (first | (apply one_val; (· rfl); (· simp only [push_cast, env, Nat.reduceEqDiff, reduceIte, Nat.reduceAdd, Nat.reduceMul, Nat.reduceLeDiff, reduceCtorEq, Nat.reduceSub, Int.reduceToNat, r1, ho1, hv, Nat.mul_one] <;> exact rfl); (· simp only [push_cast, env, Nat.reduceEqDiff, reduceIte, Nat.reduceAdd, Nat.reduceMul, Nat.reduceLeDiff, reduceCtorEq, Nat.reduceSub, Int.reduceToNat, r1, ho1, hv, Nat.mul_one] <;> exact rfl)) | (apply one_eph; (· rfl); (· simp only [push_cast, env, Nat.reduceEqDiff, reduceIte, Nat.reduceAdd, Nat.reduceMul, Nat.reduceLeDiff, reduceCtorEq, Nat.reduceSub, Int.reduceToNat, r1, ho1, hv, Nat.mul_one] <;> exact rfl); (· rfl); (· simp only [push_cast, env, Nat.reduceEqDiff, reduceIte, Nat.reduceAdd, Nat.reduceMul, Nat.reduceLeDiff, reduceCtorEq, Nat.reduceSub, Int.reduceToNat, r1, ho1, hv, Nat.mul_one] <;> exact rfl); (· decide)))); (· (first | (apply one_val; (· rfl); (· simp only [push_cast, env, Nat.reduceEqDiff, reduceIte, Nat.reduceAdd, Nat.reduceMul, Nat.reduceLeDiff, reduceCtorEq, Nat.reduceSub, Int.reduceToNat, r1, ho1, hv, Nat.mul_one] <;> exact rfl); (· simp only [push_cast, env, Nat.reduceEqDiff, reduceIte, Nat.reduceAdd, Nat.reduceMul, Nat.reduceLeDiff, reduceCtorEq, Nat.reduceSub, Int.reduceToNat, r1, ho1, hv, Nat.mul_one] <;> exact rfl)) | (apply one_eph; (· rfl); (· simp only [push_cast, env, Nat.reduceEqDiff, reduceIte, Nat.reduceAdd, Nat.reduceMul, Nat.reduceLeDiff, reduceCtorEq, Nat.reduceSub, Int.reduceToNat, r1, ho1, hv, Nat.mul_one] <;> exact rfl); (· rfl); (· simp only [push_cast, env, Nat.reduceEqDiff, reduceIte, Nat.reduceAdd, Nat.reduceMul, Nat.reduceLeDiff, reduceCtorEq, Nat.reduceSub, Int.reduceToNat, r1, ho1, hv, Nat.mul_one] <;> exact rfl); (· decide)))))); (· rfl)))
            apply StepsA.cons
            · rfl
            · refine ⟨?_, trivial⟩
              exact one_bsl (t := 3) rfl (by simp only [push_cast, env, Nat.reduceEqDiff, reduceIte, Nat.reduceAdd, Nat.reduceMul, Nat.reduceLeDiff, reduceCtorEq, Nat.reduceSub, Int.reduceToNat] <;> exact rfl) rfl (by simp only [push_cast, env, Nat.reduceEqDiff, reduceIte, Nat.reduceAdd, Nat.reduceMul, Nat.reduceLeDiff, reduceCtorEq, Nat.reduceSub, Int.reduceToNat] <;> exact rfl)
            · rfl
            apply StepsA.cons
            · rfl
            · refine ⟨?_, trivial⟩
              exact hone1 _ _ _ _ _ rfl (by simp only [push_cast, env, Nat.reduceEqDiff, reduceIte, Nat.reduceAdd, Nat.reduceMul, Nat.reduceLeDiff, reduceCtorEq, Nat.reduceSub, Int.reduceToNat] <;> exact rfl) rfl (by simp only [push_cast, env, Nat.reduceEqDiff, reduceIte, Nat.reduceAdd, Nat.reduceMul, Nat.reduceLeDiff, reduceCtorEq, Nat.reduceSub, Int.reduceToNat] <;> exact rfl) (by simp only [push_cast, env, Nat.reduceEqDiff, reduceIte, Nat.reduceAdd, Nat.reduceMul, Nat.reduceLeDiff, reduceCtorEq, Nat.reduceSub, Int.reduceToNat] <;> exact rfl)
            · rfl
            repeat (first | exact StepsA.nil _ | (apply StepsA.cons; (· rfl); (· first | (refine ⟨?_, trivial⟩; (· (first | (apply one_val; (· rfl); (· simp only [push_cast, env, Nat.reduceEqDiff, reduceIte, Nat.reduceAdd, Nat.reduceMul, Nat.reduceLeDiff, reduceCtorEq, Nat.reduceSub, Int.reduceToNat, r1, Nat.mul_one] <;> exact rfl); (· simp only [push_cast, env, Nat.reduceEqDiff, reduceIte, Nat.reduceAdd, Nat.reduceMul, Nat.reduceLeDiff, reduceCtorEq, Nat.reduceSub, Int.reduceToNat, r1, Nat.mul_one] <;> exact rfl)) | (apply one_eph; (· rfl); (· simp only [push_cast, env, Nat.reduceEqDiff, reduceIte, Nat.reduceAdd, Nat.reduceMul, Nat.reduceLeDiff, reduceCtorEq, Nat.reduceSub, Int.reduceToNat, r1, Nat.mul_one] <;> exact rfl); (· rfl); (· simp only [push_cast, env, Nat.reduceEqDiff, reduceIte, Nat.reduceAdd, Nat.reduceMul, Nat.reduceLeDiff, reduceCtorEq, Nat.reduceSub, Int.reduceToNat, r1, Nat.mul_one] <;> exact rfl); (· decide))))) | (refine ⟨?_, ?_, trivial⟩; (· (first | (apply one_val; (· rfl); (· simp only [push_cast, env, Nat.reduceEqDiff, reduceIte, Nat.reduceAdd, Nat.reduceMul, Nat.reduceLeDiff, reduceCtorEq, Nat.reduceSub, Int.reduceToNat, r1, Nat.mul_one] <;> exact rfl); (· simp only [push_cast, env, Nat.reduceEqDiff, reduceIte, Nat.reduceAdd, Nat.reduceMul, Nat.reduceLeDiff, reduceCtorEq, Nat.reduceSub, Int.reduceToNat, r1, Nat.mul_one] <;> exact rfl)) | (apply one_eph; (· rfl); (· simp only [push_cast, env, Nat.reduceEqDiff, reduceIte, Nat.reduceAdd, Nat.reduceMul, Nat.reduceLeDiff, reduceCtorEq, Nat.reduceSub, Int.reduceToNat, r1, Nat.mul_one] <;> exact rfl); (· rfl); (· simp only [push_cast, env, Nat.reduceEqDiff, reduceIte, Nat.reduceAdd, Nat.reduceMul, Nat.reduceLeDiff, reduceCtorEq, Nat.reduceSub, Int.reduceToNat, r1, Nat.mul_one] <;> exact rfl); (· decide)))); (· (first | (apply one_val; (· rfl); (· simp only [push_cast, env, Nat.reduceEqDiff, reduceIte, Nat.reduceAdd, Nat.reduceMul, Nat.reduceLeDiff, reduceCtorEq, Nat.reduceSub, Int.reduceToNat, r1, Nat.mul_one] <;> exact rfl); (· simp only [push_cast, env, Nat.reduceEqDiff, reduceIte, Nat.reduceAdd, Nat.reduceMul, Nat.reduceLeDiff, reduceCtorEq, Nat.reduceSub, Int.reduceToNat, r1, Nat.mul_one] <;> exact rfl)) | (apply one_eph; (· rfl); (· simp only [push_cast, env, Nat.reduceEqDiff, reduceIte, Nat.reduceAdd, Nat.reduceMul, Nat.reduceLeDiff, reduceCtorEq, Nat.reduceSub, Int.reduceToNat, r1, Nat.mul_one] <;> exact rfl); (· rfl); (· simp only [push_cast, env, Nat.reduceEqDiff, reduceIte, Nat.reduceAdd, Nat.reduceMul, Nat.reduceLeDiff, reduceCtorEq, Nat.reduceSub, Int.reduceToNat, r1, Nat.mul_one] <;> exact rfl); (· decide))))) | (refine ⟨?_, ?_, ?_, trivial⟩; (· (first | (apply one_val; (· rfl); (· simp only [push_cast, env, Nat.reduceEqDiff, reduceIte, Nat.reduceAdd, Nat.reduceMul, Nat.reduceLeDiff, reduceCtorEq, Nat.reduceSub, Int.reduceToNat, r1, Nat.mul_one] <;> exact rfl); (· simp only [push_cast, env, Nat.reduceEqDiff, reduceIte, Nat.reduceAdd, Nat.reduceMul, Nat.reduceLeDiff, reduceCtorEq, Nat.reduceSub, Int.reduceToNat, r1, Nat.mul_one] <;> exact rfl)) | (apply one_eph; (· rfl); (· simp only [push_cast, env, Nat.reduceEqDiff, reduceIte, Nat.reduceAdd, Nat.reduceMul, Nat.reduceLeDiff, reduceCtorEq, Nat.reduceSub, Int.reduceToNat, r1, Nat.mul_one] <;> exact rfl); (· rfl); (· simp only [push_cast, env, Nat.reduceEqDiff, reduceIte, Nat.reduceAdd, Nat.reduceMul, Nat.reduceLeDiff, reduceCtorEq, Nat.reduceSub, Int.reduceToNat, r1, Nat.mul_one] <;> exact rfl); (· decide)))); (· (first | (apply one_val; (· rfl); (· simp only [push_cast, env, Nat.reduceEqDiff, reduceIte, Nat.reduceAdd, Nat.reduceMul, Nat.reduceLeDiff, reduceCtorEq, Nat.reduceSub, Int.reduceToNat, r1, Nat.mul_one] <;> exact rfl); (· simp only [push_cast, env, Nat.reduceEqDiff, reduceIte, Nat.reduceAdd, Nat.reduceMul, Nat.reduceLeDiff, reduceCtorEq, Nat.reduceSub, Int.reduceToNat, r1, Nat.mul_one] <;> exact rfl)) | (apply one_eph; (· rfl); (· simp only [push_cast, env, Nat.reduceEqDiff, reduceIte, Nat.reduceAdd, Nat.reduceMul, Nat.reduceLeDiff, reduceCtorEq, Nat.reduceSub, Int.reduceToNat, r1, Nat.mul_one] <;> exact rfl); (· rfl); (· simp only [push_cast, env, Nat.reduceEqDiff, reduceIte, Nat.reduceAdd, Nat.reduceMul, Nat.reduceLeDiff, reduceCtorEq, Nat.reduceSub, Int.reduceToNat, r1, Nat.mul_one] <;> exact rfl); (· decide)))); (· (first | (apply one_val; (· rfl); (· simp only [push_cast, env, Nat.reduceEqDiff, reduceIte, Nat.reduceAdd, Nat.reduceMul, Nat.reduceLeDiff, reduceCtorEq, Nat.reduceSub, Int.reduceToNat, r1, Nat.mul_one] <;> exact rfl); (· simp only [push_cast, env, Nat.reduceEqDiff, reduceIte, Nat.reduceAdd, Nat.reduceMul, Nat.reduceLeDiff, reduceCtorEq, Nat.reduceSub, Int.reduceToNat, r1, Nat.mul_one] <;> exact rfl)) | (apply one_eph; (· rfl); (· simp only [push_cast, env, Nat.reduceEqDiff, reduceIte, Nat.reduceAdd, Nat.reduceMul, Nat.reduceLeDiff, reduceCtorEq, Nat.reduceSub, Int.reduceToNat, r1, Nat.mul_one] <;> exact rfl); (· rfl); (· simp only [push_cast, env, Nat.reduceEqDiff, reduceIte, Nat.reduceAdd, Nat.reduceMul, Nat.reduceLeDiff, reduceCtorEq, Nat.reduceSub, Int.reduceToNat, r1, Nat.mul_one] <;> exact rfl); (· decide))))) | (refine ⟨?_, ?_, ?_, ?_, trivial⟩; (· (first | (apply one_val; (· rfl); (· simp only [push_cast, env, Nat.reduceEqDiff, reduceIte, Nat.reduceAdd, Nat.reduceMul, Nat.reduceLeDiff, reduceCtorEq, Nat.reduceSub, Int.reduceToNat, r1, Nat.mul_one] <;> exact rfl); (· simp only [push_cast, env, Nat.reduceEqDiff, reduceIte, Nat.reduceAdd, Nat.reduceMul, Nat.reduceLeDiff, reduceCtorEq, Nat.reduceSub, Int.reduceToNat, r1, Nat.mul_one] <;> exact rfl)) | (apply one_eph; (· rfl); (· simp only [push_cast, env, Nat.reduceEqDiff, reduceIte, Nat.reduceAdd, Nat.reduceMul, Nat.reduceLeDiff, reduceCtorEq, Nat.reduceSub, Int.reduceToNat, r1, Nat.mul_one] <;> exact rfl); (· rfl); (· simp only [push_cast, env, Nat.reduceEqDiff, reduceIte, Nat.reduceAdd, Nat.reduceMul, Nat.reduceLeDiff, reduceCtorEq, Nat.reduceSub, Int.reduceToNat, r1, Nat.mul_one] <;> exact rfl); (· decide)))); (· (first | (apply one_val; (· rfl); (· simp only [push_cast, env, Nat.reduceEqDiff, reduceIte, Nat.reduceAdd, Nat.reduceMul, Nat.reduceLeDiff, reduceCtorEq, Nat.reduceSub, Int.reduceToNat, r1, Nat.mul_one] <;> exact rfl); (· simp only [push_cast, env, Nat.reduceEqDiff, reduceIte, Nat.reduceAdd, Nat.reduceMul, Nat.reduceLeDiff, reduceCtorEq, Nat.reduceSub, Int.reduceToNat, r1, Nat.mul_one] <;> exact rfl)) | (apply one_eph; (· rfl); (· simp only [push_cast, env, Nat.reduceEqDiff, reduceIte, Nat.reduceAdd, Nat.reduceMul, Nat.reduceLeDiff, reduceCtorEq, Nat.reduceSub, Int.reduceToNat, r1, Nat.mul_one] <;> exact rfl); (· rfl); (· simp only [push_cast, env, Nat.reduceEqDiff, reduceIte, Nat.reduceAdd, Nat.reduceMul, Nat.reduceLeDiff, reduceCtorEq, Nat.reduceSub, Int.reduceToNat, r1, Nat.mul_one] <;> exact rfl); (· decide)))); (· (first | (apply one_val; (· rfl); (· simp only [push_cast, env, Nat.reduceEqDiff, reduceIte, Nat.reduceAdd, Nat.reduceMul, Nat.reduceLeDiff, reduceCtorEq, Nat.reduceSub, Int.reduceToNat, r1, Nat.mul_one] <;> exact rfl); (· simp only [push_cast, env, Nat.reduceEqDiff, reduceIte, Nat.reduceAdd, Nat.reduceMul, Nat.reduceLeDiff, reduceCtorEq, Nat.reduceSub, Int.reduceToNat, r1, Nat.mul_one] <;> exact rfl)) | (apply one_eph; (· rfl); (· simp only [push_cast, env, Nat.reduceEqDiff, reduceIte, Nat.reduceAdd, Nat.reduceMul, Nat.reduceLeDiff, reduceCtorEq, Nat.reduceSub, Int.reduceToNat, r1, Nat.mul_one] <;> exact rfl); (· rfl); (· simp only [push_cast, env, Nat.reduceEqDiff, reduceIte, Nat.reduceAdd, Nat.reduceMul, Nat.reduceLeDiff, reduceCtorEq, Nat.reduceSub, Int.reduceToNat, r1, Nat.mul_one] <;> exact rfl); (· decide)))); (· (first | (apply one_val; (· rfl); (· simp only [push_cast, env, Nat.reduceEqDiff, reduceIte, Nat.reduceAdd, Nat.reduceMul, Nat.reduceLeDiff, reduceCtorEq, Nat.reduceSub, Int.reduceToNat, r1, Nat.mul_one] <;> exact rfl); (· simp only [push_cast, env, Nat.reduceEqDiff, reduceIte, Nat.reduceAdd, Nat.reduceMul, Nat.reduceLeDiff, reduceCtorEq, Nat.reduceSub, Int.reduceToNat, r1, Nat.mul_one] <;> exact rfl)) | (apply one_eph; (· rfl); (· simp only [push_cast, env, Nat.reduceEqDiff, reduceIte, Nat.reduceAdd, Nat.reduceMul, Nat.reduceLeDiff, reduceCtorEq, Nat.reduceSub, Int.reduceToNat, r1, Nat.mul_one] <;> exact rfl); (· rfl); (· simp only [push_cast, env, Nat.reduceEqDiff, reduceIte, Nat.reduceAdd, Nat.reduceMul, Nat.reduceLeDiff, reduceCtorEq, Nat.reduceSub, Int.reduceToNat, r1, Nat.mul_one] <;> exact rfl); (· decide)))))); (· rfl)))
            apply StepsA.cons
            · rfl
            · refine ⟨?_, trivial⟩
              exact one_sto (r := .sl .unk) rfl (by simp only [push_cast, env, Nat.reduceEqDiff, reduceIte, Nat.reduceAdd, Nat.reduceMul, Nat.reduceLeDiff, reduceCtorEq, Nat.reduceSub, Int.reduceToNat] <;> exact rfl) rfl (by simp only [push_cast, env, Nat.reduceEqDiff, reduceIte, Nat.reduceAdd, Nat.reduceMul, Nat.reduceLeDiff, reduceCtorEq, Nat.reduceSub, Int.reduceToNat] <;> exact rfl) (by simp only [push_cast, env, Nat.reduceEqDiff, reduceIte, Nat.reduceAdd, Nat.reduceMul, Nat.reduceLeDiff, reduceCtorEq, Nat.reduceSub, Int.reduceToNat] <;> exact rfl) ho2 (by simp only [push_cast, env, Nat.reduceEqDiff, reduceIte, Nat.reduceAdd, Nat.reduceMul, Nat.reduceLeDiff, reduceCtorEq, Nat.reduceSub, Int.reduceToNat] <;> exact rfl) rfl (wrV hA) rfl rfl
            · rfl
            exact StepsA.nil _
          · show CW _ _ _ _
            repeat (first | refine cw_seq ?_ | refine cw_region ?_ | refine ow_nil ?_ | ((first | apply ow_cons | apply qw_cons); · simp only [push_cast, env, Nat.reduceEqDiff, reduceIte, Nat.reduceAdd, Nat.reduceMul, Nat.reduceLeDiff, reduceCtorEq, Nat.reduceSub, Int.reduceToNat, e10] <;> exact rfl) | ((first | apply ow_spec | apply qw_spec); · simp only [push_cast, env, Nat.reduceEqDiff, reduceIte, Nat.reduceAdd, Nat.reduceMul, Nat.reduceLeDiff, reduceCtorEq, Nat.reduceSub, Int.reduceToNat, e10] <;> exact rfl) | refine qw_nil ?_ | refine cw_block ?_ | refine cw_scope ?_ | refine cw_label ?_ | refine cw_skip ?_)
            have hN2 := hl1.put (vs := us1.set g.rules[k].lhs.toNat (.slice p2 ((lget ls1 g.rules[k].lhs).length + 1) c2')) hv hlA (lt_of_get ho1) (l' := lget ls1 g.rules[k].lhs ++ [g.rules[k].rhs[j].nt]) (by rw [List.length_append] at G2 ⊢; exact G2) hpr hx2
            refine ⟨hjl, ⟨_, us1.set g.rules[k].lhs.toNat (.slice p2 ((lget ls1 g.rules[k].lhs).length + 1) c2'), ls1.set g.rules[k].lhs.toNat (lget ls1 g.rules[k].lhs ++ [g.rules[k].rhs[j].nt])⟩, (by simp only [push_cast, SubL, fget, Nat.reduceEqDiff, reduceIte]), rfl, pre_set hp2 (Nat.le_refl _), get_set_self ho2, hN2, by simp [hn1], fun l hl => ?_, by simp [hnl1], fun a b y0 y1 => ?_⟩
            · rcases List.mem_or_eq_of_mem_set hl with h | rfl
              · have := hb1 l h
                omega
              · simp only [List.length_append, List.length_singleton]
                omega
            · simp only
              rw [lget_set a1 (by omega) y0]
              by_cases e : g.rules[k].lhs = a
              · subst e
                rw [if_pos rfl, List.mem_append, hm1 _ b y0 y1, List.mem_singleton]
                simp only [true_and]
                rw [hone hB b, or_assoc]
              · rw [if_neg e, hm1 a b y0 y1]
                simp only [e, false_and, or_false]
        · have d1 : decide ((badN m g.rules[k].rhs : Int) = 0) = false := decide_eq_false (by omega)
          by_cases w2 : badN m g.rules[k].rhs = 1
          · have d2 : decide ((badN m g.rules[k].rhs : Int) = 1) = true := decide_eq_true (by omega)
            cases w3 : bit m g.rules[k].rhs[j].nt with
            | true =>
              rw [w3] at qb hnb
              have hno : ¬ (0 ≤ g.rules[k].rhs[j].nt ∧ (badN m g.rules[k].rhs = 0 ∨ (badN m g.rules[k].rhs = 1 ∧ nullB m g.rules[k].rhs[j] = false))) := fun hh => hh.2.elim w1 fun h => (by rw [hnb] at h; cases h.2)
              repeat (first | refine cw_seq ?_ | refine cw_region ?_ | refine ow_nil ?_ | ((first | apply ow_cons | apply qw_cons); · simp only [push_cast, env, Nat.reduceEqDiff, reduceIte, Nat.reduceAdd, Nat.reduceMul, Nat.reduceLeDiff, reduceCtorEq, Nat.reduceSub, Int.reduceToNat, e9, hid4, hrd2, d0, d1, d2, q3, hgm3, qb, Nat.mul_one] <;> exact rfl) | ((first | apply ow_spec | apply qw_spec); · simp only [push_cast, env, Nat.reduceEqDiff, reduceIte, Nat.reduceAdd, Nat.reduceMul, Nat.reduceLeDiff, reduceCtorEq, Nat.reduceSub, Int.reduceToNat, e9, hid4, hrd2, d0, d1, d2, q3, hgm3, qb, Nat.mul_one] <;> exact rfl) | refine qw_nil ?_ | refine cw_block ?_ | refine cw_scope ?_ | refine cw_label ?_ | refine cw_skip ?_)
              refine cw_condF (by simp only [push_cast, env, Nat.reduceEqDiff, reduceIte, Nat.reduceAdd, Nat.reduceMul, Nat.reduceLeDiff, reduceCtorEq, Nat.reduceSub, Int.reduceToNat, d0, d1, d2, q3, hgm3, qb, Nat.mul_one] <;> exact rfl) ?_
              repeat (first | refine cw_seq ?_ | refine cw_region ?_ | refine ow_nil ?_ | ((first | apply ow_cons | apply qw_cons); · simp only [push_cast, env, Nat.reduceEqDiff, reduceIte, Nat.reduceAdd, Nat.reduceMul, Nat.reduceLeDiff, reduceCtorEq, Nat.reduceSub, Int.reduceToNat, e10] <;> exact rfl) | ((first | apply ow_spec | apply qw_spec); · simp only [push_cast, env, Nat.reduceEqDiff, reduceIte, Nat.reduceAdd, Nat.reduceMul, Nat.reduceLeDiff, reduceCtorEq, Nat.reduceSub, Int.reduceToNat, e10] <;> exact rfl) | refine qw_nil ?_ | refine cw_block ?_ | refine cw_scope ?_ | refine cw_label ?_ | refine cw_skip ?_)
              refine ⟨hjl, ⟨hk1, us1, ls1⟩, (by simp only [push_cast, SubL, fget, Nat.reduceEqDiff, reduceIte]), rfl, hp1, ho1, hl1, hn1, fun l h => by have := hb1 l h; omega, hnl1, fun a b y0 y1 => ?_⟩
              rw [hm1 a b y0 y1, hnot hno b]
            | false =>
              rw [w3] at qb hnb
              have hB : 0 ≤ g.rules[k].rhs[j].nt ∧ (badN m g.rules[k].rhs = 0 ∨ (badN m g.rules[k].rhs = 1 ∧ nullB m g.rules[k].rhs[j] = false)) := ⟨h0, (.inr ⟨w2, hnb⟩)⟩
              repeat (first | refine cw_seq ?_ | refine cw_region ?_ | refine ow_nil ?_ | ((first | apply ow_cons | apply qw_cons); · simp only [push_cast, env, Nat.reduceEqDiff, reduceIte, Nat.reduceAdd, Nat.reduceMul, Nat.reduceLeDiff, reduceCtorEq, Nat.reduceSub, Int.reduceToNat, e9, hid4, hrd2, d0, d1, d2, q3, hgm3, qb, Nat.mul_one] <;> exact rfl) | ((first | apply ow_spec | apply qw_spec); · simp only [push_cast, env, Nat.reduceEqDiff, reduceIte, Nat.reduceAdd, Nat.reduceMul, Nat.reduceLeDiff, reduceCtorEq, Nat.reduceSub, Int.reduceToNat, e9, hid4, hrd2, d0, d1, d2, q3, hgm3, qb, Nat.mul_one] <;> exact rfl) | refine qw_nil ?_ | refine cw_block ?_ | refine cw_scope ?_ | refine cw_label ?_ | refine cw_skip ?_)
              refine cw_condT (by simp only [push_cast, env, Nat.reduceEqDiff, reduceIte, Nat.reduceAdd, Nat.reduceMul, Nat.reduceLeDiff, reduceCtorEq, Nat.reduceSub, Int.reduceToNat, d1, d2, q3, hgm3, qb, Nat.mul_one] <;> exact rfl) ?_
              repeat (first | refine cw_seq ?_ | refine cw_region ?_ | refine ow_nil ?_ | ((first | apply ow_cons | apply qw_cons); · simp only [push_cast, env, Nat.reduceEqDiff, reduceIte, Nat.reduceAdd, Nat.reduceMul, Nat.reduceLeDiff, reduceCtorEq, Nat.reduceSub, Int.reduceToNat] <;> exact rfl) | ((first | apply ow_spec | apply qw_spec); · simp only [push_cast, env, Nat.reduceEqDiff, reduceIte, Nat.reduceAdd, Nat.reduceMul, Nat.reduceLeDiff, reduceCtorEq, Nat.reduceSub, Int.reduceToNat] <;> exact rfl) | refine qw_nil ?_ | refine cw_block ?_ | refine cw_scope ?_ | refine cw_label ?_ | refine cw_skip ?_)
              refine cw_weakL [(1, .val (.slice (some ⟨idm, 0, some verm⟩) m.length cm)), (2, .box [i64 g.nts, i64 g.start, .slice (some ⟨id, 0, some ver⟩) g.rules.length c]), (5, .val (.slice (some ⟨h.length, 0, some 0⟩) N N)), (7, .box [i64 g.rules[k].lhs, .slice (some ⟨id2, 0, some ver2⟩) g.rules[k].rhs.length c2]), (8, .val (i64 (badN m g.rules[k].rhs))), (17, .val (.slice (some ⟨id, 0, some ver⟩) g.rules.length c)), (18, .val (i64 g.rules.length)), (19, .val (i64 k)), (45, .val (.slice (some ⟨id2, 0, some ver2⟩) g.rules[k].rhs.length c2)), (46, .val (i64 g.rules[k].rhs.length)), (47, .val (i64 j)), (12, .box [i64 g.rules[k].rhs[j].nt, u64 g.rules[k].rhs[j].set.a, u64 g.rules[k].rhs[j].set.b, u64 g.rules[k].rhs[j].set.c, u64 g.rules[k].rhs[j].set.d])] (by simp only [push_cast, SubL, fget, Nat.reduceEqDiff, reduceIte]) ?_
              have hA : g.rules[k].lhs.toNat < us1.length := by omega
              obtain ⟨v, hv⟩ : ∃ v, us1[g.rules[k].lhs.toNat]? = some v := ⟨_, List.getElem?_eq_getElem hA⟩
              have hlA := lget_get (ls := ls1) a1 (by omega)
              have G := hl1.g _ _ _ hv hlA
              obtain ⟨pv, cv, rfl⟩ := G.form
              have hlen : (lget ls1 g.rules[k].lhs).length ≤ 80 * k + j := hb1 _ (List.mem_of_getElem? hlA)
              obtain ⟨p2, c2', h2, hone1, G2, hp2, hpr, hx2⟩ := push_one (b := g.rules[k].rhs[j].nt) G hp1 (by omega)
              have ho2 : h2[h.length]? = some (.arr us1 0 true 40) := hpr _ _ (hl1.o _ _ hv) ho1
              have r1 := rng0 (N := N) a1 (by omega)
              refine cw_orderA [[], [], [1], [], [], [4], [3, 5], [6], [], [8], [9], [7, 10], [0, 2], [0, 1, 2, 3, 4, 5, 6, 7, 8, 9, 10, 11, 12]] [11, 13] [hk1, h2, h2.set h.length (.arr (us1.set g.rules[k].lhs.toNat (.slice p2 ((lget ls1 g.rules[k].lhs).length + 1) c2')) 0 true 40)]
                [.sl (.val (.slice (some ⟨h.length, 0, some 0⟩) N N)), .ep 7 0, .sl (.val (i64 g.rules[k].lhs)), .sl (.val (.slice (some ⟨h.length, 0, some 0⟩) N N)), .ep 7 0, .sl (.val (i64 g.rules[k].lhs)), .sl (.val (.pointer (some ⟨h.length, g.rules[k].lhs.toNat, some 0⟩))), .sl (.val (.slice pv (lget ls1 g.rules[k].lhs).length cv)),
                 .ep 12 0, .sl (.val (i64 g.rules[k].rhs[j].nt)), .sl (.bsl [i64 g.rules[k].rhs[j].nt] 1), .sl (.val (.slice p2 ((lget ls1 g.rules[k].lhs).length + 1) c2')), .sl (.val (.pointer (some ⟨h.length, g.rules[k].lhs.toNat, some 0⟩))), .sl .unk]
                [(1, .val (.slice (some ⟨idm, 0, some verm⟩) m.length cm)), (2, .box [i64 g.nts, i64 g.start, .slice (some ⟨id, 0, some ver⟩) g.rules.length c]), (5, .val (.slice (some ⟨h.length, 0, some 0⟩) N N)), (7, .box [i64 g.rules[k].lhs, .slice (some ⟨id2, 0, some ver2⟩) g.rules[k].rhs.length c2]), (8, .val (i64 (badN m g.rules[k].rhs))), (17, .val (.slice (some ⟨id, 0, some ver⟩) g.rules.length c)), (18, .val (i64 g.rules.length)), (19, .val (i64 k)), (45, .val (.slice (some ⟨id2, 0, some ver2⟩) g.rules[k].rhs.length c2)), (46, .val (i64 g.rules[k].rhs.length)), (47, .val (i64 j)), (12, .box [i64 g.rules[k].rhs[j].nt, u64 g.rules[k].rhs[j].set.a, u64 g.rules[k].rhs[j].set.b, u64 g.rules[k].rhs[j].set.c, u64 g.rules[k].rhs[j].set.d])]
                [(1, .val (.slice (some ⟨idm, 0, some verm⟩) m.length cm)), (2, .box [i64 g.nts, i64 g.start, .slice (some ⟨id, 0, some ver⟩) g.rules.length c]), (5, .val (.slice (some ⟨h.length, 0, some 0⟩) N N)), (7, .box [i64 g.rules[k].lhs, .slice (some ⟨id2, 0, some ver2⟩) g.rules[k].rhs.length c2]), (8, .val (i64 (badN m g.rules[k].rhs))), (17, .val (.slice (some ⟨id, 0, some ver⟩) g.rules.length c)), (18, .val (i64 g.rules.length)), (19, .val (i64 k)), (45, .val (.slice (some ⟨id2, 0, some ver2⟩) g.rules[k].rhs.length c2)), (46, .val (i64 g.rules[k].rhs.length)), (47, .val (i64 j))] _ mixed (by kernel_rfl) rfl rfl rfl rfl rfl ?_ ⟨.inl ⟨by decide, rfl⟩, .inl ⟨by decide, rfl⟩, .inl ⟨by decide, rfl⟩, .inl ⟨by decide, rfl⟩, .inl ⟨by decide, rfl⟩, .inl ⟨by decide, rfl⟩, .inl ⟨by decide, rfl⟩, .inl ⟨by decide, rfl⟩, .inl ⟨by decide, rfl⟩, .inl ⟨by decide, rfl⟩, .inl ⟨by decide, rfl⟩, trivial⟩ ?_
              · repeat (first | exact StepsA.nil _ | (apply StepsA.cons; (· rfl); (· first | (refine ⟨?_, trivial⟩; (· (first | (apply one_val; (· rfl); (· simp only [push_cast, env, Nat.reduceEqDiff, reduceIte, Nat.reduceAdd, Nat.reduceMul, Nat.reduceLeDiff, reduceCtorEq, Nat.reduceSub, Int.reduceToNat, r1, ho1, hv, Nat.mul_one] <;> exact rfl); (· simp only [push_cast, env, Nat.reduceEqDiff, reduceIte, Nat.reduceAdd, Nat.reduceMul, Nat.reduceLeDiff, reduceCtorEq, Nat.reduceSub, Int.reduceToNat, r1, ho1, hv, Nat.mul_one] <;> exact rfl)) | (apply one_eph; (· rfl); (· simp only [push_cast, env, Nat.reduceEqDiff, reduceIte, Nat.reduceAdd, Nat.reduceMul, Nat.reduceLeDiff, reduceCtorEq, Nat.reduceSub, Int.reduceToNat, r1, ho1, hv, Nat.mul_one] <;> exact rfl); (· rfl); (· simp only [push_cast, env, Nat.reduceEqDiff, reduceIte, Nat.reduceAdd, Nat.reduceMul, Nat.reduceLeDiff, reduceCtorEq, Nat.reduceSub, Int.reduceToNat, r1, ho1, hv, Nat.mul_one] <;> exact rfl); (· decide))))) | (refine ⟨?_, ?_, trivial⟩; (· (first | (apply one_val; (· rfl); (· simp only [push_cast, env, Nat.reduceEqDiff, reduceIte, Nat.reduceAdd, Nat.reduceMul, Nat.reduceLeDiff, reduceCtorEq, Nat.reduceSub, Int.reduceToNat, r1, ho1, hv, Nat.mul_one] <;> exact rfl); (· simp only [push_cast, env, Nat.reduceEqDiff, reduceIte, Nat.reduceAdd, Nat.reduceMul, Nat.reduceLeDiff, reduceCtorEq, Nat.reduceSub, Int.reduceToNat, r1, ho1, hv, Nat.mul_one] <;> exact rfl)) | (apply one_eph; (· rfl); (· simp only [push_cast, env, Nat.reduceEqDiff, reduceIte, Nat.reduceAdd, Nat.reduceMul, Nat.reduceLeDiff, reduceCtorEq, Nat.reduceSub, Int.reduceToNat, r1, ho1, hv, Nat.mul_one] <;> exact rfl); (· rfl); (· simp only [push_cast, env, Nat.reduceEqDiff, reduceIte, Nat.reduceAdd, Nat.reduceMul, Nat.reduceLeDiff, reduceCtorEq, Nat.reduceSub, Int.reduceToNat, r1, ho1, hv, Nat.mul_one] <;> exact rfl); (· decide)))); (· (first | (apply one_val; (· rfl); (· simp only [push_cast, env, Nat.reduceEqDiff, reduceIte, Nat.reduceAdd, Nat.reduceMul, Nat.reduceLeDiff, reduceCtorEq, Nat.reduceSub, Int.reduceToNat, r1, ho1, hv, Nat.mul_one] <;> exact rfl); (· simp only [push_cast, env, Nat.reduceEqDiff, reduceIte, Nat.reduceAdd, Nat.reduceMul, Nat.reduceLeDiff, reduceCtorEq, Nat.reduceSub, Int.reduceToNat, r1, ho1, hv, Nat.mul_one] <;> exact rfl)) | (apply one_eph; (· rfl); (· simp only [push_cast, env, Nat.reduceEqDiff, reduceIte, Nat.reduceAdd, Nat.reduceMul, Nat.reduceLeDiff, reduceCtorEq, Nat.reduceSub, Int.reduceToNat, r1, ho1, hv, Nat.mul_one] <;> exact rfl); (· rfl); (· simp only [push_cast, env, Nat.reduceEqDiff, reduceIte, Nat.reduceAdd, Nat.reduceMul, Nat.reduceLeDiff, reduceCtorEq, Nat.reduceSub, Int.reduceToNat, r1, ho1, hv, Nat.mul_one] <;> exact rfl); (· decide))))) | (refine ⟨?_, ?_, ?_, trivial⟩; (· (first | (apply one_val; (· rfl); (· simp only [push_cast, env, Nat.reduceEqDiff, reduceIte, Nat.reduceAdd, Nat.reduceMul, Nat.reduceLeDiff, reduceCtorEq, Nat.reduceSub, Int.reduceToNat, r1, ho1, hv, Nat.mul_one] <;> exact rfl); (· simp only [push_cast, env, Nat.reduceEqDiff, reduceIte, Nat.reduceAdd, Nat.reduceMul, Nat.reduceLeDiff, reduceCtorEq, Nat.reduceSub, Int.reduceToNat, r1, ho1, hv, Nat.mul_one] <;> exact rfl)) | (apply one_eph; (· rfl); (· simp only [push_cast, env, Nat.reduceEqDiff, reduceIte, Nat.reduceAdd, Nat.reduceMul, Nat.reduceLeDiff, reduceCtorEq, Nat.reduceSub, Int.reduceToNat, r1, ho1, hv, Nat.mul_one] <;> exact rfl); (· rfl); (· simp only [push_cast, env, Nat.reduceEqDiff, reduceIte, Nat.reduceAdd, Nat.reduceMul, Nat.reduceLeDiff, reduceCtorEq, Nat.reduceSub, Int.reduceToNat, r1, ho1, hv, Nat.mul_one] <;> exact rfl); (· decide)))); (· (first | (apply one_val; (· rfl); (· simp only [push_cast, env, Nat.reduceEqDiff, reduceIte, Nat.reduceAdd, Nat.reduceMul, Nat.reduceLeDiff, reduceCtorEq, Nat.reduceSub, Int.reduceToNat, r1, ho1, hv, Nat.mul_one] <;> exact rfl); (· simp only [push_cast, env, Nat.reduceEqDiff, reduceIte, Nat.reduceAdd, Nat.reduceMul, Nat.reduceLeDiff, reduceCtorEq, Nat.reduceSub, Int.reduceToNat, r1, ho1, hv, Nat.mul_one] <;> exact rfl)) | (apply one_eph; (· rfl); (· simp only [push_cast, env, Nat.reduceEqDiff, reduceIte, Nat.reduceAdd, Nat.reduceMul, Nat.reduceLeDiff, reduceCtorEq, Nat.reduceSub, Int.reduceToNat, r1, ho1, hv, Nat.mul_one] <;> exact rfl); (· rfl); (· simp only [push_cast, env, Nat.reduceEqDiff, reduceIte, Nat.reduceAdd, Nat.reduceMul, Nat.reduceLeDiff, reduceCtorEq, Nat.reduceSub, Int.reduceToNat, r1, ho1, hv, Nat.mul_one] <;> exact rfl); (· decide)))); (· (first | (apply one_val; (· rfl); (· simp only [push_cast, env, Nat.reduceEqDiff, reduceIte, Nat.reduceAdd, Nat.reduceMul, Nat.reduceLeDiff, reduceCtorEq, Nat.reduceSub, Int.reduceToNat, r1, ho1, hv, Nat.mul_one] <;> exact rfl); (· simp only [push_cast, env, Nat.reduceEqDiff, reduceIte, Nat.reduceAdd, Nat.reduceMul, Nat.reduceLeDiff, reduceCtorEq, Nat.reduceSub, Int.reduceToNat, r1, ho1, hv, Nat.mul_one] <;> exact rfl)) | (apply one_eph; (· rfl); (· simp only [push_cast, env, Nat.reduceEqDiff, reduceIte, Nat.reduceAdd, Nat.reduceMul, Nat.reduceLeDiff, reduceCtorEq, Nat.reduceSub, Int.reduceToNat, r1, ho1, hv, Nat.mul_one] <;> exact rfl); (· rfl); (· simp only [push_cast, env, Nat.reduceEqDiff, reduceIte, Nat.reduceAdd, Nat.reduceMul, Nat.reduceLeDiff, reduceCtorEq, Nat.reduceSub, Int.reduceToNat, r1, ho1, hv, Nat.mul_one] <;> exact rfl); (· decide))))) | (refine ⟨?_, ?_, ?_, ?_, trivial⟩; (· (first | (apply one_val; (· rfl); (· simp only [push_cast, env, Nat.reduceEqDiff, reduceIte, Nat.reduceAdd, Nat.reduceMul, Nat.reduceLeDiff, reduceCtorEq, Nat.reduceSub, Int.reduceToNat, r1, ho1, hv, Nat.mul_one] <;> exact rfl); (· simp only [push_cast, env, Nat.reduceEqDiff, reduceIte, Nat.reduceAdd, Nat.reduceMul, Nat.reduceLeDiff, reduceCtorEq, Nat.reduceSub, Int.reduceToNat, r1, ho1, hv, Nat.mul_one] <;> exact rfl)) | (apply one_eph; (· rfl); (· simp only [push_cast, env, Nat.reduceEqDiff, reduceIte, Nat.reduceAdd, Nat.reduceMul, Nat.reduceLeDiff, reduceCtorEq, Nat.reduceSub, Int.reduceToNat, r1, ho1, hv, Nat.mul_one] <;> exact rfl); (· rfl); (· simp only [push_cast, env, Nat.reduceEqDiff, reduceIte, Nat.reduceAdd, Nat.reduceMul, Nat.reduceLeDiff, reduceCtorEq, Nat.reduceSub, Int.reduceToNat, r1, ho1, hv, Nat.mul_one] <;> exact rfl); (· decide)))); (· (first | (apply one_val; (· rfl); (· simp only [push_cast, env, Nat.reduceEqDiff, reduceIte, Nat.reduceAdd, Nat.reduceMul, Nat.reduceLeDiff, reduceCtorEq, Nat.reduceSub, Int.reduceToNat, r1, ho1, hv, Nat.mul_one] <;> exact rfl); (· simp only [push_cast, env, Nat.reduceEqDiff, reduceIte, Nat.reduceAdd, Nat.reduceMul, Nat.reduceLeDiff, reduceCtorEq, Nat.reduceSub, Int.reduceToNat, r1, ho1, hv, Nat.mul_one] <;> exact rfl)) | (apply one_eph; (· rfl); (· simp only [push_cast, env, Nat.reduceEqDiff, reduceIte, Nat.reduceAdd, Nat.reduceMul, Nat.reduceLeDiff, reduceCtorEq, Nat.reduceSub, Int.reduceToNat, r1, ho1, hv, Nat.mul_one] <;> exact rfl); (· rfl); (· simp only [push_cast, env, Nat.reduceEqDiff, reduceIte, Nat.reduceAdd, Nat.reduceMul, Nat.reduceLeDiff, reduceCtorEq, Nat.reduceSub, Int.reduceToNat, r1, ho1, hv, Nat.mul_one] <;> exact rfl); (· decide)))); (· (first | (apply one_val; (· rfl); (· simp only [push_cast, env, Nat.reduceEqDiff, reduceIte, Nat.reduceAdd, Nat.reduceMul, Nat.reduceLeDiff, reduceCtorEq, Nat.reduceSub, Int.reduceToNat, r1, ho1, hv, Nat.mul_one] <;> exact rfl); (· simp only [push_cast, env, Nat.reduceEqDiff, reduceIte, Nat.reduceAdd, Nat.reduceMul, Nat.reduceLeDiff, reduceCtorEq, Nat.reduceSub, Int.reduceToNat, r1, ho1, hv, Nat.mul_one] <;> exact rfl)) | (apply one_eph; (· rfl); (· simp only [push_cast, env, Nat.reduceEqDiff, reduceIte, Nat.reduceAdd, Nat.reduceMul, Nat.reduceLeDiff, reduceCtorEq, Nat.reduceSub, Int.reduceToNat, r1, ho1, hv, Nat.mul_one] <;> exact rfl); (· rfl); (· simp only [push_cast, env, Nat.reduceEqDiff, reduceIte, Nat.reduceAdd, Nat.reduceMul, Nat.reduceLeDiff, reduceCtorEq, Nat.reduceSub, Int.reduceToNat, r1, ho1, hv, Nat.mul_one] <;> exact rfl); (· decide)))); (· (first | (apply one_val; (· rfl); (· simp only [push_cast, env, Nat.reduceEqDiff, reduceIte, Nat.reduceAdd, Nat.reduceMul, Nat.reduceLeDiff, reduceCtorEq, Nat.reduceSub, Int.reduceToNat, r1, ho1, hv, Nat.mul_one] <;> exact rfl); (· simp only [push_cast, env, Nat.reduceEqDiff, reduceIte, Nat.reduceAdd, Nat.reduceMul, Nat.reduceLeDiff, reduceCtorEq, Nat.reduceSub, Int.reduceToNat, r1, ho1, hv, Nat.mul_one] <;> exact rfl)) | (apply one_eph; (· rfl); (· simp only [push_cast, env, Nat.reduceEqDiff, reduceIte, Nat.reduceAdd, Nat.reduceMul, Nat.reduceLeDiff, reduceCtorEq, Nat.reduceSub, Int.reduceToNat, r1, ho1, hv, Nat.mul_one] <;> exact rfl); (· rfl); (· simp only [push_cast, env, Nat.reduceEqDiff, reduceIte, Nat.reduceAdd, Nat.reduceMul, Nat.reduceLeDiff, reduceCtorEq, Nat.reduceSub, Int.reduceToNat, r1, ho1, hv, Nat.mul_one] <;> exact rfl); (· decide)))))); (· rfl)))
                apply StepsA.cons
                · rfl
                · refine ⟨?_, trivial⟩
                  exact one_bsl (t := 3) rfl (by simp only [push_cast, env, Nat.reduceEqDiff, reduceIte, Nat.reduceAdd, Nat.reduceMul, Nat.reduceLeDiff, reduceCtorEq, Nat.reduceSub, Int.reduceToNat] <;> exact rfl) rfl (by simp only [push_cast, env, Nat.reduceEqDiff, reduceIte, Nat.reduceAdd, Nat.reduceMul, Nat.reduceLeDiff, reduceCtorEq, Nat.reduceSub, Int.reduceToNat] <;> exact rfl)
                · rfl
                apply StepsA.cons
                · rfl
                · refine ⟨?_, trivial⟩
                  exact hone1 _ _ _ _ _ rfl (by simp only [push_cast, env, Nat.reduceEqDiff, reduceIte, Nat.reduceAdd, Nat.reduceMul, Nat.reduceLeDiff, reduceCtorEq, Nat.reduceSub, Int.reduceToNat] <;> exact rfl) rfl (by simp only [push_cast, env, Nat.reduceEqDiff, reduceIte, Nat.reduceAdd, Nat.reduceMul, Nat.reduceLeDiff, reduceCtorEq, Nat.reduceSub, Int.reduceToNat] <;> exact rfl) (by simp only [push_cast, env, Nat.reduceEqDiff, reduceIte, Nat.reduceAdd, Nat.reduceMul, Nat.reduceLeDiff, reduceCtorEq, Nat.reduceSub, Int.reduceToNat] <;> exact rfl)
                · rfl
                repeat (first | exact StepsA.nil _ | (apply StepsA.cons; (· rfl); (· first | (refine ⟨?_, trivial⟩; (· (first | (apply one_val; (· rfl); (· simp only [push_cast, env, Nat.reduceEqDiff, reduceIte, Nat.reduceAdd, Nat.reduceMul, Nat.reduceLeDiff, reduceCtorEq, Nat.reduceSub, Int.reduceToNat, r1, Nat.mul_one] <;> exact rfl); (· simp only [push_cast, env, Nat.reduceEqDiff, reduceIte, Nat.reduceAdd, Nat.reduceMul, Nat.reduceLeDiff, reduceCtorEq, Nat.reduceSub, Int.reduceToNat, r1, Nat.mul_one] <;> exact rfl)) | (apply one_eph; (· rfl); (· simp only [push_cast, env, Nat.reduceEqDiff, reduceIte, Nat.reduceAdd, Nat.reduceMul, Nat.reduceLeDiff, reduceCtorEq, Nat.reduceSub, Int.reduceToNat, r1, Nat.mul_one] <;> exact rfl); (· rfl); (· simp only [push_cast, env, Nat.reduceEqDiff, reduceIte, Nat.reduceAdd, Nat.reduceMul, Nat.reduceLeDiff, reduceCtorEq, Nat.reduceSub, Int.reduceToNat, r1, Nat.mul_one] <;> exact rfl); (· decide))))) | (refine ⟨?_, ?_, trivial⟩; (· (first | (apply one_val; (· rfl); (· simp only [push_cast, env, Nat.reduceEqDiff, reduceIte, Nat.reduceAdd, Nat.reduceMul, Nat.reduceLeDiff, reduceCtorEq, Nat.reduceSub, Int.reduceToNat, r1, Nat.mul_one] <;> exact rfl); (· simp only [push_cast, env, Nat.reduceEqDiff, reduceIte, Nat.reduceAdd, Nat.reduceMul, Nat.reduceLeDiff, reduceCtorEq, Nat.reduceSub, Int.reduceToNat, r1, Nat.mul_one] <;> exact rfl)) | (apply one_eph; (· rfl); (· simp only [push_cast, env, Nat.reduceEqDiff, reduceIte, Nat.reduceAdd, Nat.reduceMul, Nat.reduceLeDiff, reduceCtorEq, Nat.reduceSub, Int.reduceToNat, r1, Nat.mul_one] <;> exact rfl); (· rfl); (· simp only [push_cast, env, Nat.reduceEqDiff, reduceIte, Nat.reduceAdd, Nat.reduceMul, Nat.reduceLeDiff, reduceCtorEq, Nat.reduceSub, Int.reduceToNat, r1, Nat.mul_one] <;> exact rfl); (· decide)))); (· (first | (apply one_val; (· rfl); (· simp only [push_cast, env, Nat.reduceEqDiff, reduceIte, Nat.reduceAdd, Nat.reduceMul, Nat.reduceLeDiff, reduceCtorEq, Nat.reduceSub, Int.reduceToNat, r1, Nat.mul_one] <;> exact rfl); (· simp only [push_cast, env, Nat.reduceEqDiff, reduceIte, Nat.reduceAdd, Nat.reduceMul, Nat.reduceLeDiff, reduceCtorEq, Nat.reduceSub, Int.reduceToNat, r1, Nat.mul_one] <;> exact rfl)) | (apply one_eph; (· rfl); (· simp only [push_cast, env, Nat.reduceEqDiff, reduceIte, Nat.reduceAdd, Nat.reduceMul, Nat.reduceLeDiff, reduceCtorEq, Nat.reduceSub, Int.reduceToNat, r1, Nat.mul_one] <;> exact rfl); (· rfl); (· simp only [push_cast, env, Nat.reduceEqDiff, reduceIte, Nat.reduceAdd, Nat.reduceMul, Nat.reduceLeDiff, reduceCtorEq, Nat.reduceSub, Int.reduceToNat, r1, Nat.mul_one] <;> exact rfl); (· decide))))) | (refine ⟨?_, ?_, ?_, trivial⟩; (· (first | (apply one_val; (· rfl); (· simp only [push_cast, env, Nat.reduceEqDiff, reduceIte, Nat.reduceAdd, Nat.reduceMul, Nat.reduceLeDiff, reduceCtorEq, Nat.reduceSub, Int.reduceToNat, r1, Nat.mul_one] <;> exact rfl); (· simp only [push_cast, env, Nat.reduceEqDiff, reduceIte, Nat.reduceAdd, Nat.reduceMul, Nat.reduceLeDiff, reduceCtorEq, Nat.reduceSub, Int.reduceToNat, r1, Nat.mul_one] <;> exact rfl)) | (apply one_eph; (· rfl); (· simp only [push_cast, env, Nat.reduceEqDiff, reduceIte, Nat.reduceAdd, Nat.reduceMul, Nat.reduceLeDiff, reduceCtorEq, Nat.reduceSub, Int.reduceToNat, r1, Nat.mul_one] <;> exact rfl); (· rfl); (· simp only [push_cast, env, Nat.reduceEqDiff, reduceIte, Nat.reduceAdd, Nat.reduceMul, Nat.reduceLeDiff, reduceCtorEq, Nat.reduceSub, Int.reduceToNat, r1, Nat.mul_one] <;> exact rfl); (· decide)))); (· (first | (apply one_val; (· rfl); (· simp only [push_cast, env, Nat.reduceEqDiff, reduceIte, Nat.reduceAdd, Nat.reduceMul, Nat.reduceLeDiff, reduceCtorEq, Nat.reduceSub, Int.reduceToNat, r1, Nat.mul_one] <;> exact rfl); (· simp only [push_cast, env, Nat.reduceEqDiff, reduceIte, Nat.reduceAdd, Nat.reduceMul, Nat.reduceLeDiff, reduceCtorEq, Nat.reduceSub, Int.reduceToNat, r1, Nat.mul_one] <;> exact rfl)) | (apply one_eph; (· rfl); (· simp only [push_cast, env, Nat.reduceEqDiff, reduceIte, Nat.reduceAdd, Nat.reduceMul, Nat.reduceLeDiff, reduceCtorEq, Nat.reduceSub, Int.reduceToNat, r1, Nat.mul_one] <;> exact rfl); (· rfl); (· simp only [push_cast, env, Nat.reduceEqDiff, reduceIte, Nat.reduceAdd, Nat.reduceMul, Nat.reduceLeDiff, reduceCtorEq, Nat.reduceSub, Int.reduceToNat, r1, Nat.mul_one] <;> exact rfl); (· decide)))); (· (first | (apply one_val; (· rfl); (· simp only [push_cast, env, Nat.reduceEqDiff, reduceIte, Nat.reduceAdd, Nat.reduceMul, Nat.reduceLeDiff, reduceCtorEq, Nat.reduceSub, Int.reduceToNat, r1, Nat.mul_one] <;> exact rfl); (· simp only [push_cast, env, Nat.reduceEqDiff, reduceIte, Nat.reduceAdd, Nat.reduceMul, Nat.reduceLeDiff, reduceCtorEq, Nat.reduceSub, Int.reduceToNat, r1, Nat.mul_one] <;> exact rfl)) | (apply one_eph; (· rfl); (· simp only [push_cast, env, Nat.reduceEqDiff, reduceIte, Nat.reduceAdd, Nat.reduceMul, Nat.reduceLeDiff, reduceCtorEq, Nat.reduceSub, Int.reduceToNat, r1, Nat.mul_one] <;> exact rfl); (· rfl); (· simp only [push_cast, env, Nat.reduceEqDiff, reduceIte, Nat.reduceAdd, Nat.reduceMul, Nat.reduceLeDiff, reduceCtorEq, Nat.reduceSub, Int.reduceToNat, r1, Nat.mul_one] <;> exact rfl); (· decide))))) | (refine ⟨?_, ?_, ?_, ?_, trivial⟩; (· (first | (apply one_val; (· rfl); (· simp only [push_cast, env, Nat.reduceEqDiff, reduceIte, Nat.reduceAdd, Nat.reduceMul, Nat.reduceLeDiff, reduceCtorEq, Nat.reduceSub, Int.reduceToNat, r1, Nat.mul_one] <;> exact rfl); (· simp only [push_cast, env, Nat.reduceEqDiff, reduceIte, Nat.reduceAdd, Nat.reduceMul, Nat.reduceLeDiff, reduceCtorEq, Nat.reduceSub, Int.reduceToNat, r1, Nat.mul_one] <;> exact rfl)) | (apply one_eph; (· rfl); (· simp only [push_cast, env, Nat.reduceEqDiff, reduceIte, Nat.reduceAdd, Nat.reduceMul, Nat.reduceLeDiff, reduceCtorEq, Nat.reduceSub, Int.reduceToNat, r1, Nat.mul_one] <;> exact rfl); (· rfl); (· simp only [push_cast, env, Nat.reduceEqDiff, reduceIte, Nat.reduceAdd, Nat.reduceMul, Nat.reduceLeDiff, reduceCtorEq, Nat.reduceSub, Int.reduceToNat, r1, Nat.mul_one] <;> exact rfl); (· decide)))); (· (first | (apply one_val; (· rfl); (· simp only [push_cast, env, Nat.reduceEqDiff, reduceIte, Nat.reduceAdd, Nat.reduceMul, Nat.reduceLeDiff, reduceCtorEq, Nat.reduceSub, Int.reduceToNat, r1, Nat.mul_one] <;> exact rfl); (· simp only [push_cast, env, Nat.reduceEqDiff, reduceIte, Nat.reduceAdd, Nat.reduceMul, Nat.reduceLeDiff, reduceCtorEq, Nat.reduceSub, Int.reduceToNat, r1, Nat.mul_one] <;> exact rfl)) | (apply one_eph; (· rfl); (· simp only [push_cast, env, Nat.reduceEqDiff, reduceIte, Nat.reduceAdd, Nat.reduceMul, Nat.reduceLeDiff, reduceCtorEq, Nat.reduceSub, Int.reduceToNat, r1, Nat.mul_one] <;> exact rfl); (· rfl); (· simp only [push_cast, env, Nat.reduceEqDiff, reduceIte, Nat.reduceAdd, Nat.reduceMul, Nat.reduceLeDiff, reduceCtorEq, Nat.reduceSub, Int.reduceToNat, r1, Nat.mul_one] <;> exact rfl); (· decide)))); (· (first | (apply one_val; (· rfl); (· simp only [push_cast, env, Nat.reduceEqDiff, reduceIte, Nat.reduceAdd, Nat.reduceMul, Nat.reduceLeDiff, reduceCtorEq, Nat.reduceSub, Int.reduceToNat, r1, Nat.mul_one] <;> exact rfl); (· simp only [push_cast, env, Nat.reduceEqDiff, reduceIte, Nat.reduceAdd, Nat.reduceMul, Nat.reduceLeDiff, reduceCtorEq, Nat.reduceSub, Int.reduceToNat, r1, Nat.mul_one] <;> exact rfl)) | (apply one_eph; (· rfl); (· simp only [push_cast, env, Nat.reduceEqDiff, reduceIte, Nat.reduceAdd, Nat.reduceMul, Nat.reduceLeDiff, reduceCtorEq, Nat.reduceSub, Int.reduceToNat, r1, Nat.mul_one] <;> exact rfl); (· rfl); (· simp only [push_cast, env, Nat.reduceEqDiff, reduceIte, Nat.reduceAdd, Nat.reduceMul, Nat.reduceLeDiff, reduceCtorEq, Nat.reduceSub, Int.reduceToNat, r1, Nat.mul_one] <;> exact rfl); (· decide)))); (· (first | (apply one_val; (· rfl); (· simp only [push_cast, env, Nat.reduceEqDiff, reduceIte, Nat.reduceAdd, Nat.reduceMul, Nat.reduceLeDiff, reduceCtorEq, Nat.reduceSub, Int.reduceToNat, r1, Nat.mul_one] <;> exact rfl); (· simp only [push_cast, env, Nat.reduceEqDiff, reduceIte, Nat.reduceAdd, Nat.reduceMul, Nat.reduceLeDiff, reduceCtorEq, Nat.reduceSub, Int.reduceToNat, r1, Nat.mul_one] <;> exact rfl)) | (apply one_eph; (· rfl); (· simp only [push_cast, env, Nat.reduceEqDiff, reduceIte, Nat.reduceAdd, Nat.reduceMul, Nat.reduceLeDiff, reduceCtorEq, Nat.reduceSub, Int.reduceToNat, r1, Nat.mul_one] <;> exact rfl); (· rfl); (· simp only [push_cast, env, Nat.reduceEqDiff, reduceIte, Nat.reduceAdd, Nat.reduceMul, Nat.reduceLeDiff, reduceCtorEq, Nat.reduceSub, Int.reduceToNat, r1, Nat.mul_one] <;> exact rfl); (· decide)))))); (· rfl)))
                apply StepsA.cons
                · rfl
                · refine ⟨?_, trivial⟩
                  exact one_sto (r := .sl .unk) rfl (by simp only [push_cast, env, Nat.reduceEqDiff, reduceIte, Nat.reduceAdd, Nat.reduceMul, Nat.reduceLeDiff, reduceCtorEq, Nat.reduceSub, Int.reduceToNat] <;> exact rfl) rfl (by simp only [push_cast, env, Nat.reduceEqDiff, reduceIte, Nat.reduceAdd, Nat.reduceMul, Nat.reduceLeDiff, reduceCtorEq, Nat.reduceSub, Int.reduceToNat] <;> exact rfl) (by simp only [push_cast, env, Nat.reduceEqDiff, reduceIte, Nat.reduceAdd, Nat.reduceMul, Nat.reduceLeDiff, reduceCtorEq, Nat.reduceSub, Int.reduceToNat] <;> exact rfl) ho2 (by simp only [push_cast, env, Nat.reduceEqDiff, reduceIte, Nat.reduceAdd, Nat.reduceMul, Nat.reduceLeDiff, reduceCtorEq, Nat.reduceSub, Int.reduceToNat] <;> exact rfl) rfl (wrV hA) rfl rfl
                · rfl
                exact StepsA.nil _
              · show CW _ _ _ _
                repeat (first | refine cw_seq ?_ | refine cw_region ?_ | refine ow_nil ?_ | ((first | apply ow_cons | apply qw_cons); · simp only [push_cast, env, Nat.reduceEqDiff, reduceIte, Nat.reduceAdd, Nat.reduceMul, Nat.reduceLeDiff, reduceCtorEq, Nat.reduceSub, Int.reduceToNat, e10] <;> exact rfl) | ((first | apply ow_spec | apply qw_spec); · simp only [push_cast, env, Nat.reduceEqDiff, reduceIte, Nat.reduceAdd, Nat.reduceMul, Nat.reduceLeDiff, reduceCtorEq, Nat.reduceSub, Int.reduceToNat, e10] <;> exact rfl) | refine qw_nil ?_ | refine cw_block ?_ | refine cw_scope ?_ | refine cw_label ?_ | refine cw_skip ?_)
                have hN2 := hl1.put (vs := us1.set g.rules[k].lhs.toNat (.slice p2 ((lget ls1 g.rules[k].lhs).length + 1) c2')) hv hlA (lt_of_get ho1) (l' := lget ls1 g.rules[k].lhs ++ [g.rules[k].rhs[j].nt]) (by rw [List.length_append] at G2 ⊢; exact G2) hpr hx2
                refine ⟨hjl, ⟨_, us1.set g.rules[k].lhs.toNat (.slice p2 ((lget ls1 g.rules[k].lhs).length + 1) c2'), ls1.set g.rules[k].lhs.toNat (lget ls1 g.rules[k].lhs ++ [g.rules[k].rhs[j].nt])⟩, (by simp only [push_cast, SubL, fget, Nat.reduceEqDiff, reduceIte]), rfl, pre_set hp2 (Nat.le_refl _), get_set_self ho2, hN2, by simp [hn1], fun l hl => ?_, by simp [hnl1], fun a b y0 y1 => ?_⟩
                · rcases List.mem_or_eq_of_mem_set hl with h | rfl
                  · have := hb1 l h
                    omega
                  · simp only [List.length_append, List.length_singleton]
                    omega
                · simp only
                  rw [lget_set a1 (by omega) y0]
                  by_cases e : g.rules[k].lhs = a
                  · subst e
                    rw [if_pos rfl, List.mem_append, hm1 _ b y0 y1, List.mem_singleton]
                    simp only [true_and]
                    rw [hone hB b, or_assoc]
                  · rw [if_neg e, hm1 a b y0 y1]
                    simp only [e, false_and, or_false]
          · have d2 : decide ((badN m g.rules[k].rhs : Int) = 1) = false := decide_eq_false (by omega)
            have hno : ¬ (0 ≤ g.rules[k].rhs[j].nt ∧ (badN m g.rules[k].rhs = 0 ∨ (badN m g.rules[k].rhs = 1 ∧ nullB m g.rules[k].rhs[j] = false))) := fun hh => hh.2.elim w1 fun h => w2 h.1
            repeat (first | refine cw_seq ?_ | refine cw_region ?_ | refine ow_nil ?_ | ((first | apply ow_cons | apply qw_cons); · simp only [push_cast, env, Nat.reduceEqDiff, reduceIte, Nat.reduceAdd, Nat.reduceMul, Nat.reduceLeDiff, reduceCtorEq, Nat.reduceSub, Int.reduceToNat, e9, hid4, hrd2, d0, d1, d2] <;> exact rfl) | ((first | apply ow_spec | apply qw_spec); · simp only [push_cast, env, Nat.reduceEqDiff, reduceIte, Nat.reduceAdd, Nat.reduceMul, Nat.reduceLeDiff, reduceCtorEq, Nat.reduceSub, Int.reduceToNat, e9, hid4, hrd2, d0, d1, d2] <;> exact rfl) | refine qw_nil ?_ | refine cw_block ?_ | refine cw_scope ?_ | refine cw_label ?_ | refine cw_skip ?_)
            refine cw_condF (by simp only [push_cast, env, Nat.reduceEqDiff, reduceIte, Nat.reduceAdd, Nat.reduceMul, Nat.reduceLeDiff, reduceCtorEq, Nat.reduceSub, Int.reduceToNat, d0, d1, d2] <;> exact rfl) ?_
            repeat (first | refine cw_seq ?_ | refine cw_region ?_ | refine ow_nil ?_ | ((first | apply ow_cons | apply qw_cons); · simp only [push_cast, env, Nat.reduceEqDiff, reduceIte, Nat.reduceAdd, Nat.reduceMul, Nat.reduceLeDiff, reduceCtorEq, Nat.reduceSub, Int.reduceToNat, e10] <;> exact rfl) | ((first | apply ow_spec | apply qw_spec); · simp only [push_cast, env, Nat.reduceEqDiff, reduceIte, Nat.reduceAdd, Nat.reduceMul, Nat.reduceLeDiff, reduceCtorEq, Nat.reduceSub, Int.reduceToNat, e10] <;> exact rfl) | refine qw_nil ?_ | refine cw_block ?_ | refine cw_scope ?_ | refine cw_label ?_ | refine cw_skip ?_)
            refine ⟨hjl, ⟨hk1, us1, ls1⟩, (by simp only [push_cast, SubL, fget, Nat.reduceEqDiff, reduceIte]), rfl, hp1, ho1, hl1, hn1, fun l h => by have := hb1 l h; omega, hnl1, fun a b y0 y1 => ?_⟩
            rw [hm1 a b y0 y1, hnot hno b]
      · have d0 := decide_eq_false h0
        repeat (first | refine cw_seq ?_ | refine cw_region ?_ | refine ow_nil ?_ | ((first | apply ow_cons | apply qw_cons); · simp only [push_cast, env, Nat.reduceEqDiff, reduceIte, Nat.reduceAdd, Nat.reduceMul, Nat.reduceLeDiff, reduceCtorEq, Nat.reduceSub, Int.reduceToNat, e9, hid4, hrd2, d0] <;> exact rfl) | ((first | apply ow_spec | apply qw_spec); · simp only [push_cast, env, Nat.reduceEqDiff, reduceIte, Nat.reduceAdd, Nat.reduceMul, Nat.reduceLeDiff, reduceCtorEq, Nat.reduceSub, Int.reduceToNat, e9, hid4, hrd2, d0] <;> exact rfl) | refine qw_nil ?_ | refine cw_block ?_ | refine cw_scope ?_ | refine cw_label ?_ | refine cw_skip ?_)
        refine cw_condF (by simp only [push_cast, env, Nat.reduceEqDiff, reduceIte, Nat.reduceAdd, Nat.reduceMul, Nat.reduceLeDiff, reduceCtorEq, Nat.reduceSub, Int.reduceToNat, d0] <;> exact rfl) ?_
        repeat (first | refine cw_seq ?_ | refine cw_region ?_ | refine ow_nil ?_ | ((first | apply ow_cons | apply qw_cons); · simp only [push_cast, env, Nat.reduceEqDiff, reduceIte, Nat.reduceAdd, Nat.reduceMul, Nat.reduceLeDiff, reduceCtorEq, Nat.reduceSub, Int.reduceToNat, e10] <;> exact rfl) | ((first | apply ow_spec | apply qw_spec); · simp only [push_cast, env, Nat.reduceEqDiff, reduceIte, Nat.reduceAdd, Nat.reduceMul, Nat.reduceLeDiff, reduceCtorEq, Nat.reduceSub, Int.reduceToNat, e10] <;> exact rfl) | refine qw_nil ?_ | refine cw_block ?_ | refine cw_scope ?_ | refine cw_label ?_ | refine cw_skip ?_)
        refine ⟨hjl, ⟨hk1, us1, ls1⟩, (by simp only [push_cast, SubL, fget, Nat.reduceEqDiff, reduceIte]), rfl, hp1, ho1, hl1, hn1, fun l h => by have := hb1 l h; omega, hnl1, fun a b y0 y1 => ?_⟩
        rw [hm1 a b y0 y1, hnot (fun hh => h0 hh.1) b]
    · have e11 := ge_dec hjl
      obtain rfl : j = g.rules[k].rhs.length := by omega
      repeat (first | refine cw_seq ?_ | refine cw_region ?_ | refine ow_nil ?_ | ((first | apply ow_cons | apply qw_cons); · simp only [push_cast, env, Nat.reduceEqDiff, reduceIte, Nat.reduceAdd, Nat.reduceMul, Nat.reduceLeDiff, reduceCtorEq, Nat.reduceSub, Int.reduceToNat, e11] <;> exact rfl) | ((first | apply ow_spec | apply qw_spec); · simp only [push_cast, env, Nat.reduceEqDiff, reduceIte, Nat.reduceAdd, Nat.reduceMul, Nat.reduceLeDiff, reduceCtorEq, Nat.reduceSub, Int.reduceToNat, e11] <;> exact rfl) | refine qw_nil ?_ | refine cw_block ?_ | refine cw_scope ?_ | refine cw_label ?_ | refine cw_skip ?_)
      refine cw_condF (by simp only [push_cast, env, Nat.reduceEqDiff, reduceIte, Nat.reduceAdd, Nat.reduceMul, Nat.reduceLeDiff, reduceCtorEq, Nat.reduceSub, Int.reduceToNat] <;> exact rfl) ?_
      refine cw_exit ?_
      show CW _ _ _ _
      repeat (first | refine cw_seq ?_ | refine cw_region ?_ | refine ow_nil ?_ | ((first | apply ow_cons | apply qw_cons); · simp only [push_cast, env, Nat.reduceEqDiff, reduceIte, Nat.reduceAdd, Nat.reduceMul, Nat.reduceLeDiff, reduceCtorEq, Nat.reduceSub, Int.reduceToNat, e2] <;> exact rfl) | ((first | apply ow_spec | apply qw_spec); · simp only [push_cast, env, Nat.reduceEqDiff, reduceIte, Nat.reduceAdd, Nat.reduceMul, Nat.reduceLeDiff, reduceCtorEq, Nat.reduceSub, Int.reduceToNat, e2] <;> exact rfl) | refine qw_nil ?_ | refine cw_block ?_ | refine cw_scope ?_ | refine cw_label ?_ | refine cw_skip ?_)
      refine ⟨hlt, ⟨hk1, us1, ls1⟩, (by simp only [push_cast, SubL, fget, Nat.reduceEqDiff, reduceIte]), rfl, ⟨hp1, ho1, hl1, hn1, fun l h => by have := hb1 l h; omega⟩, hnl1, fun a b h0 h1 => ?_⟩
      rw [hm1 a b h0 h1, take_mem hlt]
  · have e3 := ge_dec hlt
    obtain rfl : k = g.rules.length := by omega
    repeat (first | refine cw_seq ?_ | refine cw_region ?_ | refine ow_nil ?_ | ((first | apply ow_cons | apply qw_cons); · simp only [push_cast, env, Nat.reduceEqDiff, reduceIte, Nat.reduceAdd, Nat.reduceMul, Nat.reduceLeDiff, reduceCtorEq, Nat.reduceSub, Int.reduceToNat, e3] <;> exact rfl) | ((first | apply ow_spec | apply qw_spec); · simp only [push_cast, env, Nat.reduceEqDiff, reduceIte, Nat.reduceAdd, Nat.reduceMul, Nat.reduceLeDiff, reduceCtorEq, Nat.reduceSub, Int.reduceToNat, e3] <;> exact rfl) | refine qw_nil ?_ | refine cw_block ?_ | refine cw_scope ?_ | refine cw_label ?_ | refine cw_skip ?_)
    refine cw_condF (by simp only [push_cast, env, Nat.reduceEqDiff, reduceIte, Nat.reduceAdd, Nat.reduceMul, Nat.reduceLeDiff, reduceCtorEq, Nat.reduceSub, Int.reduceToNat] <;> exact rfl) ?_
    refine cw_exit ?_
    show CW _ _ _ _
    repeat (first | refine cw_seq ?_ | refine cw_region ?_ | refine ow_nil ?_ | ((first | apply ow_cons | apply qw_cons); · simp only [push_cast, env, Nat.reduceEqDiff, reduceIte, Nat.reduceAdd, Nat.reduceMul, Nat.reduceLeDiff, reduceCtorEq, Nat.reduceSub, Int.reduceToNat] <;> exact rfl) | ((first | apply ow_spec | apply qw_spec); · simp only [push_cast, env, Nat.reduceEqDiff, reduceIte, Nat.reduceAdd, Nat.reduceMul, Nat.reduceLeDiff, reduceCtorEq, Nat.reduceSub, Int.reduceToNat] <;> exact rfl) | refine qw_nil ?_ | refine cw_block ?_ | refine cw_scope ?_ | refine cw_label ?_ | refine cw_skip ?_)
    refine cw_ret ?_
    refine ⟨_, (by simp only [push_cast, env, Nat.reduceEqDiff, reduceIte, Nat.reduceAdd, Nat.reduceMul, Nat.reduceLeDiff, reduceCtorEq, Nat.reduceSub, Int.reduceToNat] <;> exact rfl), ⟨us, ls, by rw [hn]; rfl, ho, hl, hI, fun l h => by have := hb l h; omega⟩, hp⟩
end Go.Proofs.Ytnlchlnkibpkaaa
