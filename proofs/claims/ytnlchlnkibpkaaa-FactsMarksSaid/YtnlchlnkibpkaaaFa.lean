/- Size. -/
import Derived.Test.YtnlchlnkibpkaaaD1
namespace Go.Proofs.Ytnlchlnkibpkaaa
set_option linter.unusedSimpArgs false
set_option linter.unusedVariables false
open Go.RowKit Am Ty

def sizeOfG (l : List Rule) : Int := (l.map fun r => (r.rhs.length : Int) + 1).sum
theorem sizeOfG_take {l : List Rule} {k : Nat} (h : k < l.length) : sizeOfG (l.take (k + 1)) = sizeOfG (l.take k) + ((l[k].rhs.length : Int) + 1) := by
  simp only [sizeOfG, List.take_succ_eq_append_getElem h, List.map_append, List.sum_append, List.map_cons, List.map_nil, List.sum_cons, List.sum_nil]
  omega
theorem sizeOfG_nonneg (l : List Rule) : 0 ≤ sizeOfG l := by
  induction l with
  | nil => simp [sizeOfG]
  | cons r l ih => simp only [sizeOfG, List.map_cons, List.sum_cons] at ih ⊢; omega
theorem sizeOfG_le (l : List Rule) (k : Nat) : sizeOfG (l.take k) ≤ sizeOfG l := by
  have h := List.take_append_drop k l
  have h2 : sizeOfG l = sizeOfG (l.take k) + sizeOfG (l.drop k) := by
    conv => lhs; rw [← h]
    simp only [sizeOfG, List.map_append, List.sum_append]
  have := sizeOfG_nonneg (l.drop k)
  omega
theorem size_fw {h : Heap} {g : Gram} {v : Value} (hr : RdGram h v g) (hb : sizeOfG g.rules ≤ 9000000000000000000) : FW env 16 [v] h fun r h' => r = i64 (sizeOfG g.rules) ∧ h' = h := by
  obtain ⟨u, rfl, hu⟩ := hr
  obtain ⟨p, c, rfl⟩ := hu.form
  have hle := hu.le
  refine fw_enter (fn := Try.f16) Try.func16 rfl (by kernel_rfl) (by simp [Try.ntmps16]) ?_; simp only [push_cast]
  repeat (first | refine cw_seq ?_ | refine cw_region ?_ | refine ow_nil ?_ | (apply ow_cons; · simp only [push_cast, env, Nat.reduceEqDiff, reduceIte, Nat.reduceAdd, Nat.reduceMul, Nat.reduceLeDiff, reduceCtorEq, Bool.false_eq_true, Nat.reduceSub, Int.reduceToNat] <;> exact rfl) | (apply ow_spec; · simp only [push_cast, env, Nat.reduceEqDiff, reduceIte, Nat.reduceAdd, Nat.reduceMul, Nat.reduceLeDiff, reduceCtorEq, Bool.false_eq_true, Nat.reduceSub, Int.reduceToNat] <;> exact rfl) | refine qw_nil ?_ | (apply qw_cons; · simp only [push_cast, env, Nat.reduceEqDiff, reduceIte, Nat.reduceAdd, Nat.reduceMul, Nat.reduceLeDiff, reduceCtorEq, Bool.false_eq_true, Nat.reduceSub, Int.reduceToNat] <;> exact rfl) | (apply qw_spec; · simp only [push_cast, env, Nat.reduceEqDiff, reduceIte, Nat.reduceAdd, Nat.reduceMul, Nat.reduceLeDiff, reduceCtorEq, Bool.false_eq_true, Nat.reduceSub, Int.reduceToNat] <;> exact rfl) | refine cw_block ?_ | refine cw_scope ?_ | refine cw_label ?_ | refine cw_skip ?_)
  refine cw_for g.rules.length (fun k => [(3, .val (i64 (sizeOfG (g.rules.take k)))), (7, .val (.slice p g.rules.length c)), (8, .val (i64 g.rules.length)), (9, .val (i64 k))]) (fun _ => h) (fun _ => True) ?_ rfl trivial ?_
  · exact (by simp only [push_cast, SubL, fget, Nat.reduceEqDiff, reduceIte, sizeOfG, List.sum_nil])
  · intro k hk _
    by_cases hlt : k < g.rules.length
    · obtain ⟨id, ver, own, c', cells, p', n', c2, hv, hid, hn, hrd, hu'⟩ := hu.at hlt
      cases hv
      have e1 := rng hlt
      have e2 := inc hlt hle
      have e3 := lt_dec hlt
      have hs := sizeOfG_take hlt
      have h1 := sizeOfG_le g.rules (k + 1)
      have h2 := sizeOfG_nonneg (g.rules.take k)
      have e4 : IntKind.i64.wrap ((n' : Int) + 1) = (n' : Int) + 1 := wrap64_id (by omega) (by omega)
      have e5 : IntKind.i64.wrap (sizeOfG (g.rules.take k) + ((n' : Int) + 1)) = sizeOfG (g.rules.take (k + 1)) := by rw [hs, hn]; exact wrap64_id (by omega) (by omega)
      repeat (first | refine cw_seq ?_ | refine cw_region ?_ | refine ow_nil ?_ | (apply ow_cons; · simp only [push_cast, env, Nat.reduceEqDiff, reduceIte, Nat.reduceAdd, Nat.reduceMul, Nat.reduceLeDiff, reduceCtorEq, Bool.false_eq_true, Nat.reduceSub, Int.reduceToNat, e1, hid, hrd, e3] <;> exact rfl) | (apply ow_spec; · simp only [push_cast, env, Nat.reduceEqDiff, reduceIte, Nat.reduceAdd, Nat.reduceMul, Nat.reduceLeDiff, reduceCtorEq, Bool.false_eq_true, Nat.reduceSub, Int.reduceToNat, e1, hid, hrd, e3] <;> exact rfl) | refine qw_nil ?_ | (apply qw_cons; · simp only [push_cast, env, Nat.reduceEqDiff, reduceIte, Nat.reduceAdd, Nat.reduceMul, Nat.reduceLeDiff, reduceCtorEq, Bool.false_eq_true, Nat.reduceSub, Int.reduceToNat, e1, hid, hrd, e3] <;> exact rfl) | (apply qw_spec; · simp only [push_cast, env, Nat.reduceEqDiff, reduceIte, Nat.reduceAdd, Nat.reduceMul, Nat.reduceLeDiff, reduceCtorEq, Bool.false_eq_true, Nat.reduceSub, Int.reduceToNat, e1, hid, hrd, e3] <;> exact rfl) | refine cw_block ?_ | refine cw_scope ?_ | refine cw_label ?_ | refine cw_skip ?_)
      refine cw_condT (by simp only [push_cast, env, Nat.reduceEqDiff, reduceIte, Nat.reduceAdd, Nat.reduceMul, Nat.reduceLeDiff, reduceCtorEq, Bool.false_eq_true, Nat.reduceSub, Int.reduceToNat] <;> exact rfl) ?_
      repeat (first | refine cw_seq ?_ | refine cw_region ?_ | refine ow_nil ?_ | (apply ow_cons; · simp only [push_cast, env, Nat.reduceEqDiff, reduceIte, Nat.reduceAdd, Nat.reduceMul, Nat.reduceLeDiff, reduceCtorEq, Bool.false_eq_true, Nat.reduceSub, Int.reduceToNat, e1, hid, hrd, e4, e5, e2] <;> exact rfl) | (apply ow_spec; · simp only [push_cast, env, Nat.reduceEqDiff, reduceIte, Nat.reduceAdd, Nat.reduceMul, Nat.reduceLeDiff, reduceCtorEq, Bool.false_eq_true, Nat.reduceSub, Int.reduceToNat, e1, hid, hrd, e4, e5, e2] <;> exact rfl) | refine qw_nil ?_ | (apply qw_cons; · simp only [push_cast, env, Nat.reduceEqDiff, reduceIte, Nat.reduceAdd, Nat.reduceMul, Nat.reduceLeDiff, reduceCtorEq, Bool.false_eq_true, Nat.reduceSub, Int.reduceToNat, e1, hid, hrd, e4, e5, e2] <;> exact rfl) | (apply qw_spec; · simp only [push_cast, env, Nat.reduceEqDiff, reduceIte, Nat.reduceAdd, Nat.reduceMul, Nat.reduceLeDiff, reduceCtorEq, Bool.false_eq_true, Nat.reduceSub, Int.reduceToNat, e1, hid, hrd, e4, e5, e2] <;> exact rfl) | refine cw_block ?_ | refine cw_scope ?_ | refine cw_label ?_ | refine cw_skip ?_)
      exact ⟨hlt, (by simp only [push_cast, SubL, fget, Nat.reduceEqDiff, reduceIte]), rfl, trivial⟩
    · have e3 := ge_dec hlt
      obtain rfl : k = g.rules.length := by omega
      repeat (first | refine cw_seq ?_ | refine cw_region ?_ | refine ow_nil ?_ | (apply ow_cons; · simp only [push_cast, env, Nat.reduceEqDiff, reduceIte, Nat.reduceAdd, Nat.reduceMul, Nat.reduceLeDiff, reduceCtorEq, Bool.false_eq_true, Nat.reduceSub, Int.reduceToNat, e3] <;> exact rfl) | (apply ow_spec; · simp only [push_cast, env, Nat.reduceEqDiff, reduceIte, Nat.reduceAdd, Nat.reduceMul, Nat.reduceLeDiff, reduceCtorEq, Bool.false_eq_true, Nat.reduceSub, Int.reduceToNat, e3] <;> exact rfl) | refine qw_nil ?_ | (apply qw_cons; · simp only [push_cast, env, Nat.reduceEqDiff, reduceIte, Nat.reduceAdd, Nat.reduceMul, Nat.reduceLeDiff, reduceCtorEq, Bool.false_eq_true, Nat.reduceSub, Int.reduceToNat, e3] <;> exact rfl) | (apply qw_spec; · simp only [push_cast, env, Nat.reduceEqDiff, reduceIte, Nat.reduceAdd, Nat.reduceMul, Nat.reduceLeDiff, reduceCtorEq, Bool.false_eq_true, Nat.reduceSub, Int.reduceToNat, e3] <;> exact rfl) | refine cw_block ?_ | refine cw_scope ?_ | refine cw_label ?_ | refine cw_skip ?_)
      refine cw_condF (by simp only [push_cast, env, Nat.reduceEqDiff, reduceIte, Nat.reduceAdd, Nat.reduceMul, Nat.reduceLeDiff, reduceCtorEq, Bool.false_eq_true, Nat.reduceSub, Int.reduceToNat] <;> exact rfl) ?_
      refine cw_exit ?_
      show CW _ _ _ _
      repeat (first | refine cw_seq ?_ | refine cw_region ?_ | refine ow_nil ?_ | (apply ow_cons; · simp only [push_cast, env, Nat.reduceEqDiff, reduceIte, Nat.reduceAdd, Nat.reduceMul, Nat.reduceLeDiff, reduceCtorEq, Bool.false_eq_true, Nat.reduceSub, Int.reduceToNat] <;> exact rfl) | (apply ow_spec; · simp only [push_cast, env, Nat.reduceEqDiff, reduceIte, Nat.reduceAdd, Nat.reduceMul, Nat.reduceLeDiff, reduceCtorEq, Bool.false_eq_true, Nat.reduceSub, Int.reduceToNat] <;> exact rfl) | refine qw_nil ?_ | (apply qw_cons; · simp only [push_cast, env, Nat.reduceEqDiff, reduceIte, Nat.reduceAdd, Nat.reduceMul, Nat.reduceLeDiff, reduceCtorEq, Bool.false_eq_true, Nat.reduceSub, Int.reduceToNat] <;> exact rfl) | (apply qw_spec; · simp only [push_cast, env, Nat.reduceEqDiff, reduceIte, Nat.reduceAdd, Nat.reduceMul, Nat.reduceLeDiff, reduceCtorEq, Bool.false_eq_true, Nat.reduceSub, Int.reduceToNat] <;> exact rfl) | refine cw_block ?_ | refine cw_scope ?_ | refine cw_label ?_ | refine cw_skip ?_)
      refine cw_ret ?_
      exact ⟨_, (by simp only [push_cast, env, Nat.reduceEqDiff, reduceIte, Nat.reduceAdd, Nat.reduceMul, Nat.reduceLeDiff, reduceCtorEq, Bool.false_eq_true, Nat.reduceSub, Int.reduceToNat] <;> exact rfl), by rw [List.take_length]; exact ⟨rfl, rfl⟩⟩
end Go.Proofs.Ytnlchlnkibpkaaa
