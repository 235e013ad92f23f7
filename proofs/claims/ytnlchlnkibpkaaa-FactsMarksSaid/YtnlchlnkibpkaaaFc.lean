/- Heavy, the reference's Size and Right. -/
import Derived.Test.YtnlchlnkibpkaaaFb
namespace Go.Proofs.Ytnlchlnkibpkaaa
set_option linter.unusedSimpArgs false
set_option linter.unusedVariables false
open Go.RowKit Am Ty

theorem rdH_get {cells l : List Value} {off n j : Nat} (h : rdH cells off n = some l) (hj : j < n) : cells[off + j]? = l[j]? := by
  unfold rdH rdC at h
  split at h
  · cases h
    rw [List.getElem?_take_of_lt hj, List.getElem?_drop]
  · cases h
theorem rdH_get0 {cells l : List Value} {off n : Nat} (h : rdH cells off n = some l) (hj : 0 < n) : cells[off]? = l[0]? := rdH_get (j := 0) h hj
def heavyP (g : Gram) (lim : Int) : Prop := lim < g.nts ∨ lim < g.rules.length ∨ lim < g.nts + sizeOfG g.rules
instance (g : Gram) (lim : Int) : Decidable (heavyP g lim) := by unfold heavyP; infer_instance
theorem heavy_fw {h : Heap} {g : Gram} {v : Value} {lim : Int} (hr : RdGram h v g) (hn : -9223372036854775808 ≤ g.nts) (hl : lim ≤ 1000000) :
    FW env 11 [v, i64 lim] h fun r h' => r = .bool (decide (heavyP g lim)) ∧ h' = h := by
  obtain ⟨u, rfl, hu⟩ := hr
  obtain ⟨p, c, rfl⟩ := hu.form
  have hle := hu.le
  refine fw_enter (fn := Try.f11) Try.func11 rfl (by kernel_rfl) (by simp [Try.ntmps11]) ?_; simp only [push_cast]
  repeat (first | refine cw_seq ?_ | refine cw_region ?_ | refine ow_nil ?_ | (apply ow_cons; · simp only [push_cast, env, Nat.reduceEqDiff, reduceIte, Nat.reduceAdd, Nat.reduceMul, Nat.reduceLeDiff, reduceCtorEq, Bool.false_eq_true, Nat.reduceSub, Int.reduceToNat] <;> exact rfl) | (apply ow_spec; · simp only [push_cast, env, Nat.reduceEqDiff, reduceIte, Nat.reduceAdd, Nat.reduceMul, Nat.reduceLeDiff, reduceCtorEq, Bool.false_eq_true, Nat.reduceSub, Int.reduceToNat] <;> exact rfl) | refine qw_nil ?_ | (apply qw_cons; · simp only [push_cast, env, Nat.reduceEqDiff, reduceIte, Nat.reduceAdd, Nat.reduceMul, Nat.reduceLeDiff, reduceCtorEq, Bool.false_eq_true, Nat.reduceSub, Int.reduceToNat] <;> exact rfl) | (apply qw_spec; · simp only [push_cast, env, Nat.reduceEqDiff, reduceIte, Nat.reduceAdd, Nat.reduceMul, Nat.reduceLeDiff, reduceCtorEq, Bool.false_eq_true, Nat.reduceSub, Int.reduceToNat] <;> exact rfl) | refine cw_block ?_ | refine cw_scope ?_ | refine cw_label ?_ | refine cw_skip ?_)
  refine cw_cond (by simp only [push_cast, env, Nat.reduceEqDiff, reduceIte, Nat.reduceAdd, Nat.reduceMul, Nat.reduceLeDiff, reduceCtorEq, Bool.false_eq_true, Nat.reduceSub, Int.reduceToNat] <;> exact rfl) (fun c1 => ?_) (fun c1 => ?_)
  · simp only [Bool.or_eq_true, decide_eq_true_eq] at c1
    repeat (first | refine cw_seq ?_ | refine cw_region ?_ | refine ow_nil ?_ | (apply ow_cons; · simp only [push_cast, env, Nat.reduceEqDiff, reduceIte, Nat.reduceAdd, Nat.reduceMul, Nat.reduceLeDiff, reduceCtorEq, Bool.false_eq_true, Nat.reduceSub, Int.reduceToNat] <;> exact rfl) | (apply ow_spec; · simp only [push_cast, env, Nat.reduceEqDiff, reduceIte, Nat.reduceAdd, Nat.reduceMul, Nat.reduceLeDiff, reduceCtorEq, Bool.false_eq_true, Nat.reduceSub, Int.reduceToNat] <;> exact rfl) | refine qw_nil ?_ | (apply qw_cons; · simp only [push_cast, env, Nat.reduceEqDiff, reduceIte, Nat.reduceAdd, Nat.reduceMul, Nat.reduceLeDiff, reduceCtorEq, Bool.false_eq_true, Nat.reduceSub, Int.reduceToNat] <;> exact rfl) | (apply qw_spec; · simp only [push_cast, env, Nat.reduceEqDiff, reduceIte, Nat.reduceAdd, Nat.reduceMul, Nat.reduceLeDiff, reduceCtorEq, Bool.false_eq_true, Nat.reduceSub, Int.reduceToNat] <;> exact rfl) | refine cw_block ?_ | refine cw_scope ?_ | refine cw_label ?_ | refine cw_skip ?_)
    refine cw_ret ?_
    exact ⟨_, (by simp only [push_cast, env, Nat.reduceEqDiff, reduceIte, Nat.reduceAdd, Nat.reduceMul, Nat.reduceLeDiff, reduceCtorEq, Bool.false_eq_true, Nat.reduceSub, Int.reduceToNat] <;> exact rfl), by rw [decide_eq_true]; exact ⟨rfl, rfl⟩; exact c1.elim .inl fun h => .inr (.inl h)⟩
  simp only [Bool.or_eq_false_iff, decide_eq_false_iff_not] at c1
  repeat (first | refine cw_seq ?_ | refine cw_region ?_ | refine ow_nil ?_ | (apply ow_cons; · simp only [push_cast, env, Nat.reduceEqDiff, reduceIte, Nat.reduceAdd, Nat.reduceMul, Nat.reduceLeDiff, reduceCtorEq, Bool.false_eq_true, Nat.reduceSub, Int.reduceToNat] <;> exact rfl) | (apply ow_spec; · simp only [push_cast, env, Nat.reduceEqDiff, reduceIte, Nat.reduceAdd, Nat.reduceMul, Nat.reduceLeDiff, reduceCtorEq, Bool.false_eq_true, Nat.reduceSub, Int.reduceToNat] <;> exact rfl) | refine qw_nil ?_ | (apply qw_cons; · simp only [push_cast, env, Nat.reduceEqDiff, reduceIte, Nat.reduceAdd, Nat.reduceMul, Nat.reduceLeDiff, reduceCtorEq, Bool.false_eq_true, Nat.reduceSub, Int.reduceToNat] <;> exact rfl) | (apply qw_spec; · simp only [push_cast, env, Nat.reduceEqDiff, reduceIte, Nat.reduceAdd, Nat.reduceMul, Nat.reduceLeDiff, reduceCtorEq, Bool.false_eq_true, Nat.reduceSub, Int.reduceToNat] <;> exact rfl) | refine cw_block ?_ | refine cw_scope ?_ | refine cw_label ?_ | refine cw_skip ?_)
  refine cw_for g.rules.length (fun k => [(1, .val (i64 lim)), (2, .box [i64 g.nts, i64 g.start, .slice p g.rules.length c]), (5, .val (i64 (g.nts + sizeOfG (g.rules.take k)))), (6, .val (i64 k))]) (fun _ => h) (fun k => g.nts + sizeOfG (g.rules.take k) ≤ lim) ?_ rfl ?_ ?_
  · exact (by simp only [push_cast, SubL, fget, Nat.reduceEqDiff, reduceIte, List.take_zero, sizeOfG, List.map_nil, List.sum_nil, Int.add_zero])
  · simp only [List.take_zero, sizeOfG, List.map_nil, List.sum_nil]
    omega
  · intro k hk hI
    by_cases hlt : k < g.rules.length
    · obtain ⟨id, ver, own, c', cells, p', n', c2, hv, hid, hn', hrd, hu'⟩ := hu.at hlt
      cases hv
      have e0 := rdH_get (j := 1) hrd (by omega)
      simp only [List.getElem?_cons_succ, List.getElem?_cons_zero] at e0
      have e1 := rng hlt
      have e2 := inc hlt hle
      have e3 := lt_dec hlt
      have hs := sizeOfG_take hlt
      have h2 := sizeOfG_nonneg (g.rules.take k)
      have hn2 : n' ≤ 140737488355328 := by rw [hn']; exact RdSyms.le hu'
      have e4 : IntKind.i64.wrap (g.nts + sizeOfG (g.rules.take k) + 1) = g.nts + sizeOfG (g.rules.take k) + 1 := wrap64_id (by omega) (by omega)
      have e5 : IntKind.i64.wrap (g.nts + sizeOfG (g.rules.take k) + 1 + (n' : Int)) = g.nts + sizeOfG (g.rules.take (k + 1)) := by
        rw [hs, ← hn', wrap64_id (by omega) (by omega)]
        omega
      repeat (first | refine cw_seq ?_ | refine cw_region ?_ | refine ow_nil ?_ | (apply ow_cons; · simp only [push_cast, env, Nat.reduceEqDiff, reduceIte, Nat.reduceAdd, Nat.reduceMul, Nat.reduceLeDiff, reduceCtorEq, Bool.false_eq_true, Nat.reduceSub, Int.reduceToNat, e1, hid, e0, e3] <;> exact rfl) | (apply ow_spec; · simp only [push_cast, env, Nat.reduceEqDiff, reduceIte, Nat.reduceAdd, Nat.reduceMul, Nat.reduceLeDiff, reduceCtorEq, Bool.false_eq_true, Nat.reduceSub, Int.reduceToNat, e1, hid, e0, e3] <;> exact rfl) | refine qw_nil ?_ | (apply qw_cons; · simp only [push_cast, env, Nat.reduceEqDiff, reduceIte, Nat.reduceAdd, Nat.reduceMul, Nat.reduceLeDiff, reduceCtorEq, Bool.false_eq_true, Nat.reduceSub, Int.reduceToNat, e1, hid, e0, e3] <;> exact rfl) | (apply qw_spec; · simp only [push_cast, env, Nat.reduceEqDiff, reduceIte, Nat.reduceAdd, Nat.reduceMul, Nat.reduceLeDiff, reduceCtorEq, Bool.false_eq_true, Nat.reduceSub, Int.reduceToNat, e1, hid, e0, e3] <;> exact rfl) | refine cw_block ?_ | refine cw_scope ?_ | refine cw_label ?_ | refine cw_skip ?_)
      refine cw_condT (by simp only [push_cast, env, Nat.reduceEqDiff, reduceIte, Nat.reduceAdd, Nat.reduceMul, Nat.reduceLeDiff, reduceCtorEq, Bool.false_eq_true, Nat.reduceSub, Int.reduceToNat] <;> exact rfl) ?_
      repeat (first | refine cw_seq ?_ | refine cw_region ?_ | refine ow_nil ?_ | (apply ow_cons; · simp only [push_cast, env, Nat.reduceEqDiff, reduceIte, Nat.reduceAdd, Nat.reduceMul, Nat.reduceLeDiff, reduceCtorEq, Bool.false_eq_true, Nat.reduceSub, Int.reduceToNat, e1, hid, e0, e4, e5] <;> exact rfl) | (apply ow_spec; · simp only [push_cast, env, Nat.reduceEqDiff, reduceIte, Nat.reduceAdd, Nat.reduceMul, Nat.reduceLeDiff, reduceCtorEq, Bool.false_eq_true, Nat.reduceSub, Int.reduceToNat, e1, hid, e0, e4, e5] <;> exact rfl) | refine qw_nil ?_ | (apply qw_cons; · simp only [push_cast, env, Nat.reduceEqDiff, reduceIte, Nat.reduceAdd, Nat.reduceMul, Nat.reduceLeDiff, reduceCtorEq, Bool.false_eq_true, Nat.reduceSub, Int.reduceToNat, e1, hid, e0, e4, e5] <;> exact rfl) | (apply qw_spec; · simp only [push_cast, env, Nat.reduceEqDiff, reduceIte, Nat.reduceAdd, Nat.reduceMul, Nat.reduceLeDiff, reduceCtorEq, Bool.false_eq_true, Nat.reduceSub, Int.reduceToNat, e1, hid, e0, e4, e5] <;> exact rfl) | refine cw_block ?_ | refine cw_scope ?_ | refine cw_label ?_ | refine cw_skip ?_)
      refine cw_cond (by simp only [push_cast, env, Nat.reduceEqDiff, reduceIte, Nat.reduceAdd, Nat.reduceMul, Nat.reduceLeDiff, reduceCtorEq, Bool.false_eq_true, Nat.reduceSub, Int.reduceToNat] <;> exact rfl) (fun c2 => ?_) (fun c2 => ?_)
      · simp only [decide_eq_true_eq] at c2
        repeat (first | refine cw_seq ?_ | refine cw_region ?_ | refine ow_nil ?_ | (apply ow_cons; · simp only [push_cast, env, Nat.reduceEqDiff, reduceIte, Nat.reduceAdd, Nat.reduceMul, Nat.reduceLeDiff, reduceCtorEq, Bool.false_eq_true, Nat.reduceSub, Int.reduceToNat] <;> exact rfl) | (apply ow_spec; · simp only [push_cast, env, Nat.reduceEqDiff, reduceIte, Nat.reduceAdd, Nat.reduceMul, Nat.reduceLeDiff, reduceCtorEq, Bool.false_eq_true, Nat.reduceSub, Int.reduceToNat] <;> exact rfl) | refine qw_nil ?_ | (apply qw_cons; · simp only [push_cast, env, Nat.reduceEqDiff, reduceIte, Nat.reduceAdd, Nat.reduceMul, Nat.reduceLeDiff, reduceCtorEq, Bool.false_eq_true, Nat.reduceSub, Int.reduceToNat] <;> exact rfl) | (apply qw_spec; · simp only [push_cast, env, Nat.reduceEqDiff, reduceIte, Nat.reduceAdd, Nat.reduceMul, Nat.reduceLeDiff, reduceCtorEq, Bool.false_eq_true, Nat.reduceSub, Int.reduceToNat] <;> exact rfl) | refine cw_block ?_ | refine cw_scope ?_ | refine cw_label ?_ | refine cw_skip ?_)
        refine cw_ret ?_
        refine ⟨_, (by simp only [push_cast, env, Nat.reduceEqDiff, reduceIte, Nat.reduceAdd, Nat.reduceMul, Nat.reduceLeDiff, reduceCtorEq, Bool.false_eq_true, Nat.reduceSub, Int.reduceToNat] <;> exact rfl), ?_⟩
        rw [decide_eq_true]
        · exact ⟨rfl, rfl⟩
        · have := sizeOfG_le g.rules (k + 1)
          exact .inr (.inr (by omega))
      · simp only [decide_eq_false_iff_not] at c2
        repeat (first | refine cw_seq ?_ | refine cw_region ?_ | refine ow_nil ?_ | (apply ow_cons; · simp only [push_cast, env, Nat.reduceEqDiff, reduceIte, Nat.reduceAdd, Nat.reduceMul, Nat.reduceLeDiff, reduceCtorEq, Bool.false_eq_true, Nat.reduceSub, Int.reduceToNat, e2] <;> exact rfl) | (apply ow_spec; · simp only [push_cast, env, Nat.reduceEqDiff, reduceIte, Nat.reduceAdd, Nat.reduceMul, Nat.reduceLeDiff, reduceCtorEq, Bool.false_eq_true, Nat.reduceSub, Int.reduceToNat, e2] <;> exact rfl) | refine qw_nil ?_ | (apply qw_cons; · simp only [push_cast, env, Nat.reduceEqDiff, reduceIte, Nat.reduceAdd, Nat.reduceMul, Nat.reduceLeDiff, reduceCtorEq, Bool.false_eq_true, Nat.reduceSub, Int.reduceToNat, e2] <;> exact rfl) | (apply qw_spec; · simp only [push_cast, env, Nat.reduceEqDiff, reduceIte, Nat.reduceAdd, Nat.reduceMul, Nat.reduceLeDiff, reduceCtorEq, Bool.false_eq_true, Nat.reduceSub, Int.reduceToNat, e2] <;> exact rfl) | refine cw_block ?_ | refine cw_scope ?_ | refine cw_label ?_ | refine cw_skip ?_)
        exact ⟨hlt, (by simp only [push_cast, SubL, fget, Nat.reduceEqDiff, reduceIte]), rfl, by omega⟩
    · have e3 := ge_dec hlt
      obtain rfl : k = g.rules.length := by omega
      repeat (first | refine cw_seq ?_ | refine cw_region ?_ | refine ow_nil ?_ | (apply ow_cons; · simp only [push_cast, env, Nat.reduceEqDiff, reduceIte, Nat.reduceAdd, Nat.reduceMul, Nat.reduceLeDiff, reduceCtorEq, Bool.false_eq_true, Nat.reduceSub, Int.reduceToNat, e3] <;> exact rfl) | (apply ow_spec; · simp only [push_cast, env, Nat.reduceEqDiff, reduceIte, Nat.reduceAdd, Nat.reduceMul, Nat.reduceLeDiff, reduceCtorEq, Bool.false_eq_true, Nat.reduceSub, Int.reduceToNat, e3] <;> exact rfl) | refine qw_nil ?_ | (apply qw_cons; · simp only [push_cast, env, Nat.reduceEqDiff, reduceIte, Nat.reduceAdd, Nat.reduceMul, Nat.reduceLeDiff, reduceCtorEq, Bool.false_eq_true, Nat.reduceSub, Int.reduceToNat, e3] <;> exact rfl) | (apply qw_spec; · simp only [push_cast, env, Nat.reduceEqDiff, reduceIte, Nat.reduceAdd, Nat.reduceMul, Nat.reduceLeDiff, reduceCtorEq, Bool.false_eq_true, Nat.reduceSub, Int.reduceToNat, e3] <;> exact rfl) | refine cw_block ?_ | refine cw_scope ?_ | refine cw_label ?_ | refine cw_skip ?_)
      refine cw_condF (by simp only [push_cast, env, Nat.reduceEqDiff, reduceIte, Nat.reduceAdd, Nat.reduceMul, Nat.reduceLeDiff, reduceCtorEq, Bool.false_eq_true, Nat.reduceSub, Int.reduceToNat] <;> exact rfl) ?_
      refine cw_exit ?_
      show CW _ _ _ _
      repeat (first | refine cw_seq ?_ | refine cw_region ?_ | refine ow_nil ?_ | (apply ow_cons; · simp only [push_cast, env, Nat.reduceEqDiff, reduceIte, Nat.reduceAdd, Nat.reduceMul, Nat.reduceLeDiff, reduceCtorEq, Bool.false_eq_true, Nat.reduceSub, Int.reduceToNat] <;> exact rfl) | (apply ow_spec; · simp only [push_cast, env, Nat.reduceEqDiff, reduceIte, Nat.reduceAdd, Nat.reduceMul, Nat.reduceLeDiff, reduceCtorEq, Bool.false_eq_true, Nat.reduceSub, Int.reduceToNat] <;> exact rfl) | refine qw_nil ?_ | (apply qw_cons; · simp only [push_cast, env, Nat.reduceEqDiff, reduceIte, Nat.reduceAdd, Nat.reduceMul, Nat.reduceLeDiff, reduceCtorEq, Bool.false_eq_true, Nat.reduceSub, Int.reduceToNat] <;> exact rfl) | (apply qw_spec; · simp only [push_cast, env, Nat.reduceEqDiff, reduceIte, Nat.reduceAdd, Nat.reduceMul, Nat.reduceLeDiff, reduceCtorEq, Bool.false_eq_true, Nat.reduceSub, Int.reduceToNat] <;> exact rfl) | refine cw_block ?_ | refine cw_scope ?_ | refine cw_label ?_ | refine cw_skip ?_)
      refine cw_ret ?_
      refine ⟨_, (by simp only [push_cast, env, Nat.reduceEqDiff, reduceIte, Nat.reduceAdd, Nat.reduceMul, Nat.reduceLeDiff, reduceCtorEq, Bool.false_eq_true, Nat.reduceSub, Int.reduceToNat] <;> exact rfl), ?_⟩
      rw [decide_eq_false]
      · exact ⟨rfl, rfl⟩
      · rw [List.take_length] at hI
        rintro (h1 | h1 | h1)
        · exact c1.1 h1
        · exact c1.2 h1
        · omega
theorem refsize_fw {h : Heap} {g : Gram} {v : Value} (hr : RdGram h v g) (hb : sizeOfG g.rules ≤ 9000000000000000000) : FW env 17 [v] h fun r h' => r = i64 (sizeOfG g.rules) ∧ h' = h := by
  obtain ⟨u, rfl, hu⟩ := hr
  obtain ⟨p, c, rfl⟩ := hu.form
  have hle := hu.le
  refine fw_enter (fn := Try.f17) Try.func17 rfl (by kernel_rfl) (by simp [Try.ntmps17]) ?_; simp only [push_cast]
  repeat (first | refine cw_seq ?_ | refine cw_region ?_ | refine ow_nil ?_ | (apply ow_cons; · simp only [push_cast, env, Nat.reduceEqDiff, reduceIte, Nat.reduceAdd, Nat.reduceMul, Nat.reduceLeDiff, reduceCtorEq, Bool.false_eq_true, Nat.reduceSub, Int.reduceToNat] <;> exact rfl) | (apply ow_spec; · simp only [push_cast, env, Nat.reduceEqDiff, reduceIte, Nat.reduceAdd, Nat.reduceMul, Nat.reduceLeDiff, reduceCtorEq, Bool.false_eq_true, Nat.reduceSub, Int.reduceToNat] <;> exact rfl) | refine qw_nil ?_ | (apply qw_cons; · simp only [push_cast, env, Nat.reduceEqDiff, reduceIte, Nat.reduceAdd, Nat.reduceMul, Nat.reduceLeDiff, reduceCtorEq, Bool.false_eq_true, Nat.reduceSub, Int.reduceToNat] <;> exact rfl) | (apply qw_spec; · simp only [push_cast, env, Nat.reduceEqDiff, reduceIte, Nat.reduceAdd, Nat.reduceMul, Nat.reduceLeDiff, reduceCtorEq, Bool.false_eq_true, Nat.reduceSub, Int.reduceToNat] <;> exact rfl) | refine cw_block ?_ | refine cw_scope ?_ | refine cw_label ?_ | refine cw_skip ?_)
  refine cw_for g.rules.length (fun k => [(1, .box [i64 g.nts, i64 g.start, .slice p g.rules.length c]), (3, .val (i64 (sizeOfG (g.rules.take k)))), (4, .val (i64 k))]) (fun _ => h) (fun _ => True) ?_ rfl trivial ?_
  · exact (by simp only [push_cast, SubL, fget, Nat.reduceEqDiff, reduceIte, List.take_zero, sizeOfG, List.map_nil, List.sum_nil])
  · intro k hk _
    by_cases hlt : k < g.rules.length
    · obtain ⟨id, ver, own, c', cells, p', n', c2, hv, hid, hn', hrd, hu'⟩ := hu.at hlt
      cases hv
      have e0 := rdH_get (j := 1) hrd (by omega)
      simp only [List.getElem?_cons_succ, List.getElem?_cons_zero] at e0
      have e1 := rng hlt
      have e2 := inc hlt hle
      have e3 := lt_dec hlt
      have hs := sizeOfG_take hlt
      have h1 := sizeOfG_le g.rules (k + 1)
      have h2 := sizeOfG_nonneg (g.rules.take k)
      have e4 : IntKind.i64.wrap (sizeOfG (g.rules.take k) + 1) = sizeOfG (g.rules.take k) + 1 := wrap64_id (by omega) (by omega)
      have e5 : IntKind.i64.wrap (sizeOfG (g.rules.take k) + 1 + (n' : Int)) = sizeOfG (g.rules.take (k + 1)) := by
        rw [hs, ← hn', wrap64_id (by omega) (by omega)]
        omega
      repeat (first | refine cw_seq ?_ | refine cw_region ?_ | refine ow_nil ?_ | (apply ow_cons; · simp only [push_cast, env, Nat.reduceEqDiff, reduceIte, Nat.reduceAdd, Nat.reduceMul, Nat.reduceLeDiff, reduceCtorEq, Bool.false_eq_true, Nat.reduceSub, Int.reduceToNat, e1, hid, e0, e3] <;> exact rfl) | (apply ow_spec; · simp only [push_cast, env, Nat.reduceEqDiff, reduceIte, Nat.reduceAdd, Nat.reduceMul, Nat.reduceLeDiff, reduceCtorEq, Bool.false_eq_true, Nat.reduceSub, Int.reduceToNat, e1, hid, e0, e3] <;> exact rfl) | refine qw_nil ?_ | (apply qw_cons; · simp only [push_cast, env, Nat.reduceEqDiff, reduceIte, Nat.reduceAdd, Nat.reduceMul, Nat.reduceLeDiff, reduceCtorEq, Bool.false_eq_true, Nat.reduceSub, Int.reduceToNat, e1, hid, e0, e3] <;> exact rfl) | (apply qw_spec; · simp only [push_cast, env, Nat.reduceEqDiff, reduceIte, Nat.reduceAdd, Nat.reduceMul, Nat.reduceLeDiff, reduceCtorEq, Bool.false_eq_true, Nat.reduceSub, Int.reduceToNat, e1, hid, e0, e3] <;> exact rfl) | refine cw_block ?_ | refine cw_scope ?_ | refine cw_label ?_ | refine cw_skip ?_)
      refine cw_condT (by simp only [push_cast, env, Nat.reduceEqDiff, reduceIte, Nat.reduceAdd, Nat.reduceMul, Nat.reduceLeDiff, reduceCtorEq, Bool.false_eq_true, Nat.reduceSub, Int.reduceToNat] <;> exact rfl) ?_
      repeat (first | refine cw_seq ?_ | refine cw_region ?_ | refine ow_nil ?_ | (apply ow_cons; · simp only [push_cast, env, Nat.reduceEqDiff, reduceIte, Nat.reduceAdd, Nat.reduceMul, Nat.reduceLeDiff, reduceCtorEq, Bool.false_eq_true, Nat.reduceSub, Int.reduceToNat, e1, hid, e0, e4, e5, e2] <;> exact rfl) | (apply ow_spec; · simp only [push_cast, env, Nat.reduceEqDiff, reduceIte, Nat.reduceAdd, Nat.reduceMul, Nat.reduceLeDiff, reduceCtorEq, Bool.false_eq_true, Nat.reduceSub, Int.reduceToNat, e1, hid, e0, e4, e5, e2] <;> exact rfl) | refine qw_nil ?_ | (apply qw_cons; · simp only [push_cast, env, Nat.reduceEqDiff, reduceIte, Nat.reduceAdd, Nat.reduceMul, Nat.reduceLeDiff, reduceCtorEq, Bool.false_eq_true, Nat.reduceSub, Int.reduceToNat, e1, hid, e0, e4, e5, e2] <;> exact rfl) | (apply qw_spec; · simp only [push_cast, env, Nat.reduceEqDiff, reduceIte, Nat.reduceAdd, Nat.reduceMul, Nat.reduceLeDiff, reduceCtorEq, Bool.false_eq_true, Nat.reduceSub, Int.reduceToNat, e1, hid, e0, e4, e5, e2] <;> exact rfl) | refine cw_block ?_ | refine cw_scope ?_ | refine cw_label ?_ | refine cw_skip ?_)
      exact ⟨hlt, (by simp only [push_cast, SubL, fget, Nat.reduceEqDiff, reduceIte]), rfl, trivial⟩
    · have e3 := ge_dec hlt
      obtain rfl : k = g.rules.length := by omega
      repeat (first | refine cw_seq ?_ | refine cw_region ?_ | refine ow_nil ?_ | (apply ow_cons; · simp only [push_cast, env, Nat.reduceEqDiff, reduceIte, Nat.reduceAdd, Nat.reduceMul, Nat.reduceLeDiff, reduceCtorEq, Bool.false_eq_true, Nat.reduceSub, Int.reduceToNat, e3] <;> exact rfl) | (apply ow_spec; · simp only [push_cast, env, Nat.reduceEqDiff, reduceIte, Nat.reduceAdd, Nat.reduceMul, Nat.reduceLeDiff, reduceCtorEq, Bool.false_eq_true, Nat.reduceSub, Int.reduceToNat, e3] <;> exact rfl) | refine qw_nil ?_ | (apply qw_cons; · simp only [push_cast, env, Nat.reduceEqDiff, reduceIte, Nat.reduceAdd, Nat.reduceMul, Nat.reduceLeDiff, reduceCtorEq, Bool.false_eq_true, Nat.reduceSub, Int.reduceToNat, e3] <;> exact rfl) | (apply qw_spec; · simp only [push_cast, env, Nat.reduceEqDiff, reduceIte, Nat.reduceAdd, Nat.reduceMul, Nat.reduceLeDiff, reduceCtorEq, Bool.false_eq_true, Nat.reduceSub, Int.reduceToNat, e3] <;> exact rfl) | refine cw_block ?_ | refine cw_scope ?_ | refine cw_label ?_ | refine cw_skip ?_)
      refine cw_condF (by simp only [push_cast, env, Nat.reduceEqDiff, reduceIte, Nat.reduceAdd, Nat.reduceMul, Nat.reduceLeDiff, reduceCtorEq, Bool.false_eq_true, Nat.reduceSub, Int.reduceToNat] <;> exact rfl) ?_
      refine cw_exit ?_
      show CW _ _ _ _
      repeat (first | refine cw_seq ?_ | refine cw_region ?_ | refine ow_nil ?_ | (apply ow_cons; · simp only [push_cast, env, Nat.reduceEqDiff, reduceIte, Nat.reduceAdd, Nat.reduceMul, Nat.reduceLeDiff, reduceCtorEq, Bool.false_eq_true, Nat.reduceSub, Int.reduceToNat] <;> exact rfl) | (apply ow_spec; · simp only [push_cast, env, Nat.reduceEqDiff, reduceIte, Nat.reduceAdd, Nat.reduceMul, Nat.reduceLeDiff, reduceCtorEq, Bool.false_eq_true, Nat.reduceSub, Int.reduceToNat] <;> exact rfl) | refine qw_nil ?_ | (apply qw_cons; · simp only [push_cast, env, Nat.reduceEqDiff, reduceIte, Nat.reduceAdd, Nat.reduceMul, Nat.reduceLeDiff, reduceCtorEq, Bool.false_eq_true, Nat.reduceSub, Int.reduceToNat] <;> exact rfl) | (apply qw_spec; · simp only [push_cast, env, Nat.reduceEqDiff, reduceIte, Nat.reduceAdd, Nat.reduceMul, Nat.reduceLeDiff, reduceCtorEq, Bool.false_eq_true, Nat.reduceSub, Int.reduceToNat] <;> exact rfl) | refine cw_block ?_ | refine cw_scope ?_ | refine cw_label ?_ | refine cw_skip ?_)
      refine cw_ret ?_
      exact ⟨_, (by simp only [push_cast, env, Nat.reduceEqDiff, reduceIte, Nat.reduceAdd, Nat.reduceMul, Nat.reduceLeDiff, reduceCtorEq, Bool.false_eq_true, Nat.reduceSub, Int.reduceToNat] <;> exact rfl), by rw [List.take_length]; exact ⟨rfl, rfl⟩⟩
end Go.Proofs.Ytnlchlnkibpkaaa
