/- The reference's Right; SameRule, SameGram. -/
import Derived.Test.YtnlchlnkibpkaaaFc
namespace Go.Proofs.Ytnlchlnkibpkaaa
set_option linter.unusedSimpArgs false
set_option linter.unusedVariables false
open Go.RowKit Am Ty
set_option maxHeartbeats 4000000 in
theorem refright_fw {h : Heap} {g : Gram} {v : Value} (hr : RdGram h v g) : FW env 15 [v] h fun r h' => r = i64 (rightG g) ∧ h' = h := by
  obtain ⟨u, rfl, hu⟩ := hr
  obtain ⟨p, c, rfl⟩ := hu.form
  have hle := hu.le
  refine fw_enter (fn := Try.f15) Try.func15 rfl (by kernel_rfl) (by simp [Try.ntmps15]) ?_; simp only [push_cast]
  repeat (first | refine cw_seq ?_ | refine cw_region ?_ | refine ow_nil ?_ | (apply ow_cons; · simp only [push_cast, env, Nat.reduceEqDiff, reduceIte, Nat.reduceAdd, Nat.reduceMul, Nat.reduceLeDiff, reduceCtorEq, Bool.false_eq_true, Nat.reduceSub, Int.reduceToNat] <;> exact rfl) | (apply ow_spec; · simp only [push_cast, env, Nat.reduceEqDiff, reduceIte, Nat.reduceAdd, Nat.reduceMul, Nat.reduceLeDiff, reduceCtorEq, Bool.false_eq_true, Nat.reduceSub, Int.reduceToNat] <;> exact rfl) | refine qw_nil ?_ | (apply qw_cons; · simp only [push_cast, env, Nat.reduceEqDiff, reduceIte, Nat.reduceAdd, Nat.reduceMul, Nat.reduceLeDiff, reduceCtorEq, Bool.false_eq_true, Nat.reduceSub, Int.reduceToNat] <;> exact rfl) | (apply qw_spec; · simp only [push_cast, env, Nat.reduceEqDiff, reduceIte, Nat.reduceAdd, Nat.reduceMul, Nat.reduceLeDiff, reduceCtorEq, Bool.false_eq_true, Nat.reduceSub, Int.reduceToNat] <;> exact rfl) | refine cw_block ?_ | refine cw_scope ?_ | refine cw_label ?_ | refine cw_skip ?_)
  refine cw_cond (by simp only [push_cast, env, Nat.reduceEqDiff, reduceIte, Nat.reduceAdd, Nat.reduceMul, Nat.reduceLeDiff, reduceCtorEq, Bool.false_eq_true, Nat.reduceSub, Int.reduceToNat] <;> exact rfl) (fun c1 => ?_) (fun c1 => ?_)
  · simp only [Bool.or_eq_true, decide_eq_true_eq] at c1
    repeat (first | refine cw_seq ?_ | refine cw_region ?_ | refine ow_nil ?_ | (apply ow_cons; · simp only [push_cast, env, Nat.reduceEqDiff, reduceIte, Nat.reduceAdd, Nat.reduceMul, Nat.reduceLeDiff, reduceCtorEq, Bool.false_eq_true, Nat.reduceSub, Int.reduceToNat] <;> exact rfl) | (apply ow_spec; · simp only [push_cast, env, Nat.reduceEqDiff, reduceIte, Nat.reduceAdd, Nat.reduceMul, Nat.reduceLeDiff, reduceCtorEq, Bool.false_eq_true, Nat.reduceSub, Int.reduceToNat] <;> exact rfl) | refine qw_nil ?_ | (apply qw_cons; · simp only [push_cast, env, Nat.reduceEqDiff, reduceIte, Nat.reduceAdd, Nat.reduceMul, Nat.reduceLeDiff, reduceCtorEq, Bool.false_eq_true, Nat.reduceSub, Int.reduceToNat] <;> exact rfl) | (apply qw_spec; · simp only [push_cast, env, Nat.reduceEqDiff, reduceIte, Nat.reduceAdd, Nat.reduceMul, Nat.reduceLeDiff, reduceCtorEq, Bool.false_eq_true, Nat.reduceSub, Int.reduceToNat] <;> exact rfl) | refine cw_block ?_ | refine cw_scope ?_ | refine cw_label ?_ | refine cw_skip ?_)
    refine cw_ret ?_
    refine ⟨_, (by simp only [push_cast, env, Nat.reduceEqDiff, reduceIte, Nat.reduceAdd, Nat.reduceMul, Nat.reduceLeDiff, reduceCtorEq, Bool.false_eq_true, Nat.reduceSub, Int.reduceToNat] <;> exact rfl), ?_⟩
    rw [rightG, if_pos]
    · exact ⟨rfl, rfl⟩
    · unfold badG
      rcases c1 with (((h | h) | h) | h) | h
      · exact .inl h
      · exact .inr (.inl h)
      · exact .inr (.inr (.inl h))
      · exact .inr (.inr (.inr (.inl h)))
      · exact .inr (.inr (.inr (.inr (.inl (by omega)))))
  simp only [Bool.or_eq_false_iff, decide_eq_false_iff_not] at c1
  obtain ⟨⟨⟨⟨d1, d2⟩, d3⟩, d4⟩, d5⟩ := c1
  repeat (first | refine cw_seq ?_ | refine cw_region ?_ | refine ow_nil ?_ | (apply ow_cons; · simp only [push_cast, env, Nat.reduceEqDiff, reduceIte, Nat.reduceAdd, Nat.reduceMul, Nat.reduceLeDiff, reduceCtorEq, Bool.false_eq_true, Nat.reduceSub, Int.reduceToNat] <;> exact rfl) | (apply ow_spec; · simp only [push_cast, env, Nat.reduceEqDiff, reduceIte, Nat.reduceAdd, Nat.reduceMul, Nat.reduceLeDiff, reduceCtorEq, Bool.false_eq_true, Nat.reduceSub, Int.reduceToNat] <;> exact rfl) | refine qw_nil ?_ | (apply qw_cons; · simp only [push_cast, env, Nat.reduceEqDiff, reduceIte, Nat.reduceAdd, Nat.reduceMul, Nat.reduceLeDiff, reduceCtorEq, Bool.false_eq_true, Nat.reduceSub, Int.reduceToNat] <;> exact rfl) | (apply qw_spec; · simp only [push_cast, env, Nat.reduceEqDiff, reduceIte, Nat.reduceAdd, Nat.reduceMul, Nat.reduceLeDiff, reduceCtorEq, Bool.false_eq_true, Nat.reduceSub, Int.reduceToNat] <;> exact rfl) | refine cw_block ?_ | refine cw_scope ?_ | refine cw_label ?_ | refine cw_skip ?_)
  refine cw_for g.rules.length (fun k => [(1, .box [i64 g.nts, i64 g.start, .slice p g.rules.length c]), (3, .val (i64 k))]) (fun _ => h) (fun k => ∀ r ∈ g.rules.take k, ¬ badR g.nts r) (by simp only [push_cast, SubL, fget, Nat.reduceEqDiff, reduceIte]) rfl (by simp) ?_
  intro k hk hI
  by_cases hlt : k < g.rules.length
  · obtain ⟨id, ver, own, c', cells, p', n', c2, hv, hid, hn, hrd, hu'⟩ := hu.at hlt
    cases hv
    have e6 := rng hlt
    have e7 := inc hlt hle
    have e8 := lt_dec hlt
    have hmem : g.rules[k] ∈ g.rules := List.getElem_mem hlt
    repeat (first | refine cw_seq ?_ | refine cw_region ?_ | refine ow_nil ?_ | (apply ow_cons; · simp only [push_cast, env, Nat.reduceEqDiff, reduceIte, Nat.reduceAdd, Nat.reduceMul, Nat.reduceLeDiff, reduceCtorEq, Bool.false_eq_true, Nat.reduceSub, Int.reduceToNat, e6, hid, hrd, e8] <;> exact rfl) | (apply ow_spec; · simp only [push_cast, env, Nat.reduceEqDiff, reduceIte, Nat.reduceAdd, Nat.reduceMul, Nat.reduceLeDiff, reduceCtorEq, Bool.false_eq_true, Nat.reduceSub, Int.reduceToNat, e6, hid, hrd, e8] <;> exact rfl) | refine qw_nil ?_ | (apply qw_cons; · simp only [push_cast, env, Nat.reduceEqDiff, reduceIte, Nat.reduceAdd, Nat.reduceMul, Nat.reduceLeDiff, reduceCtorEq, Bool.false_eq_true, Nat.reduceSub, Int.reduceToNat, e6, hid, hrd, e8] <;> exact rfl) | (apply qw_spec; · simp only [push_cast, env, Nat.reduceEqDiff, reduceIte, Nat.reduceAdd, Nat.reduceMul, Nat.reduceLeDiff, reduceCtorEq, Bool.false_eq_true, Nat.reduceSub, Int.reduceToNat, e6, hid, hrd, e8] <;> exact rfl) | refine cw_block ?_ | refine cw_scope ?_ | refine cw_label ?_ | refine cw_skip ?_)
    refine cw_condT (by simp only [push_cast, env, Nat.reduceEqDiff, reduceIte, Nat.reduceAdd, Nat.reduceMul, Nat.reduceLeDiff, reduceCtorEq, Bool.false_eq_true, Nat.reduceSub, Int.reduceToNat] <;> exact rfl) ?_
    repeat (first | refine cw_seq ?_ | refine cw_region ?_ | refine ow_nil ?_ | (apply ow_cons; · simp only [push_cast, env, Nat.reduceEqDiff, reduceIte, Nat.reduceAdd, Nat.reduceMul, Nat.reduceLeDiff, reduceCtorEq, Bool.false_eq_true, Nat.reduceSub, Int.reduceToNat, e6, hid, hrd] <;> exact rfl) | (apply ow_spec; · simp only [push_cast, env, Nat.reduceEqDiff, reduceIte, Nat.reduceAdd, Nat.reduceMul, Nat.reduceLeDiff, reduceCtorEq, Bool.false_eq_true, Nat.reduceSub, Int.reduceToNat, e6, hid, hrd] <;> exact rfl) | refine qw_nil ?_ | (apply qw_cons; · simp only [push_cast, env, Nat.reduceEqDiff, reduceIte, Nat.reduceAdd, Nat.reduceMul, Nat.reduceLeDiff, reduceCtorEq, Bool.false_eq_true, Nat.reduceSub, Int.reduceToNat, e6, hid, hrd] <;> exact rfl) | (apply qw_spec; · simp only [push_cast, env, Nat.reduceEqDiff, reduceIte, Nat.reduceAdd, Nat.reduceMul, Nat.reduceLeDiff, reduceCtorEq, Bool.false_eq_true, Nat.reduceSub, Int.reduceToNat, e6, hid, hrd] <;> exact rfl) | refine cw_block ?_ | refine cw_scope ?_ | refine cw_label ?_ | refine cw_skip ?_)
    refine cw_cond (by simp only [push_cast, env, Nat.reduceEqDiff, reduceIte, Nat.reduceAdd, Nat.reduceMul, Nat.reduceLeDiff, reduceCtorEq, Bool.false_eq_true, Nat.reduceSub, Int.reduceToNat] <;> exact rfl) (fun c3 => ?_) (fun c3 => ?_)
    · simp only [Bool.or_eq_true, decide_eq_true_eq] at c3
      repeat (first | refine cw_seq ?_ | refine cw_region ?_ | refine ow_nil ?_ | (apply ow_cons; · simp only [push_cast, env, Nat.reduceEqDiff, reduceIte, Nat.reduceAdd, Nat.reduceMul, Nat.reduceLeDiff, reduceCtorEq, Bool.false_eq_true, Nat.reduceSub, Int.reduceToNat] <;> exact rfl) | (apply ow_spec; · simp only [push_cast, env, Nat.reduceEqDiff, reduceIte, Nat.reduceAdd, Nat.reduceMul, Nat.reduceLeDiff, reduceCtorEq, Bool.false_eq_true, Nat.reduceSub, Int.reduceToNat] <;> exact rfl) | refine qw_nil ?_ | (apply qw_cons; · simp only [push_cast, env, Nat.reduceEqDiff, reduceIte, Nat.reduceAdd, Nat.reduceMul, Nat.reduceLeDiff, reduceCtorEq, Bool.false_eq_true, Nat.reduceSub, Int.reduceToNat] <;> exact rfl) | (apply qw_spec; · simp only [push_cast, env, Nat.reduceEqDiff, reduceIte, Nat.reduceAdd, Nat.reduceMul, Nat.reduceLeDiff, reduceCtorEq, Bool.false_eq_true, Nat.reduceSub, Int.reduceToNat] <;> exact rfl) | refine cw_block ?_ | refine cw_scope ?_ | refine cw_label ?_ | refine cw_skip ?_)
      refine cw_ret ?_
      refine ⟨_, (by simp only [push_cast, env, Nat.reduceEqDiff, reduceIte, Nat.reduceAdd, Nat.reduceMul, Nat.reduceLeDiff, reduceCtorEq, Bool.false_eq_true, Nat.reduceSub, Int.reduceToNat] <;> exact rfl), ?_⟩
      rw [rightG, if_pos]
      · exact ⟨rfl, rfl⟩
      · refine .inr (.inr (.inr (.inr (.inr ⟨_, hmem, ?_⟩))))
        rcases c3 with (h | h) | h
        · exact .inl h
        · exact .inr (.inl h)
        · exact .inr (.inr (.inl (by omega)))
    simp only [Bool.or_eq_false_iff, decide_eq_false_iff_not] at c3
    obtain ⟨⟨r1, r2⟩, r3⟩ := c3
    repeat (first | refine cw_seq ?_ | refine cw_region ?_ | refine ow_nil ?_ | (apply ow_cons; · simp only [push_cast, env, Nat.reduceEqDiff, reduceIte, Nat.reduceAdd, Nat.reduceMul, Nat.reduceLeDiff, reduceCtorEq, Bool.false_eq_true, Nat.reduceSub, Int.reduceToNat] <;> exact rfl) | (apply ow_spec; · simp only [push_cast, env, Nat.reduceEqDiff, reduceIte, Nat.reduceAdd, Nat.reduceMul, Nat.reduceLeDiff, reduceCtorEq, Bool.false_eq_true, Nat.reduceSub, Int.reduceToNat] <;> exact rfl) | refine qw_nil ?_ | (apply qw_cons; · simp only [push_cast, env, Nat.reduceEqDiff, reduceIte, Nat.reduceAdd, Nat.reduceMul, Nat.reduceLeDiff, reduceCtorEq, Bool.false_eq_true, Nat.reduceSub, Int.reduceToNat] <;> exact rfl) | (apply qw_spec; · simp only [push_cast, env, Nat.reduceEqDiff, reduceIte, Nat.reduceAdd, Nat.reduceMul, Nat.reduceLeDiff, reduceCtorEq, Bool.false_eq_true, Nat.reduceSub, Int.reduceToNat] <;> exact rfl) | refine cw_block ?_ | refine cw_scope ?_ | refine cw_label ?_ | refine cw_skip ?_)
    have hn2 : n' ≤ 140737488355328 := by rw [hn]; exact RdSyms.le hu'
    refine cw_for n' (fun j => [(1, .box [i64 g.nts, i64 g.start, .slice (some ⟨id, 0, some ver⟩) g.rules.length c]), (3, .val (i64 k)), (4, .box [i64 g.rules[k].lhs, .slice p' n' c2]), (5, .val (i64 j))]) (fun _ => h)
      (fun j => ∀ s ∈ g.rules[k].rhs.take j, ¬ badS g.nts s) (by simp only [push_cast, SubL, fget, Nat.reduceEqDiff, reduceIte]) rfl (by simp) ?_
    intro j hj hJ
    by_cases hjl : j < n'
    · rw [hn] at hu' hj hjl hn2 ⊢
      obtain ⟨id2, ver2, own2, c3', cells2, hv2, hid2, hrd2⟩ := hu'.at hjl
      cases hv2
      have e9 := rng hjl
      have e10 := inc hjl (by omega)
      have e11 := lt_dec hjl
      have hmem2 : g.rules[k].rhs[j] ∈ g.rules[k].rhs := List.getElem_mem hjl
      repeat (first | refine cw_seq ?_ | refine cw_region ?_ | refine ow_nil ?_ | (apply ow_cons; · simp only [push_cast, env, Nat.reduceEqDiff, reduceIte, Nat.reduceAdd, Nat.reduceMul, Nat.reduceLeDiff, reduceCtorEq, Bool.false_eq_true, Nat.reduceSub, Int.reduceToNat, e9, hid2, hrd2, e11] <;> exact rfl) | (apply ow_spec; · simp only [push_cast, env, Nat.reduceEqDiff, reduceIte, Nat.reduceAdd, Nat.reduceMul, Nat.reduceLeDiff, reduceCtorEq, Bool.false_eq_true, Nat.reduceSub, Int.reduceToNat, e9, hid2, hrd2, e11] <;> exact rfl) | refine qw_nil ?_ | (apply qw_cons; · simp only [push_cast, env, Nat.reduceEqDiff, reduceIte, Nat.reduceAdd, Nat.reduceMul, Nat.reduceLeDiff, reduceCtorEq, Bool.false_eq_true, Nat.reduceSub, Int.reduceToNat, e9, hid2, hrd2, e11] <;> exact rfl) | (apply qw_spec; · simp only [push_cast, env, Nat.reduceEqDiff, reduceIte, Nat.reduceAdd, Nat.reduceMul, Nat.reduceLeDiff, reduceCtorEq, Bool.false_eq_true, Nat.reduceSub, Int.reduceToNat, e9, hid2, hrd2, e11] <;> exact rfl) | refine cw_block ?_ | refine cw_scope ?_ | refine cw_label ?_ | refine cw_skip ?_)
      refine cw_condT (by simp only [push_cast, env, Nat.reduceEqDiff, reduceIte, Nat.reduceAdd, Nat.reduceMul, Nat.reduceLeDiff, reduceCtorEq, Bool.false_eq_true, Nat.reduceSub, Int.reduceToNat] <;> exact rfl) ?_
      repeat (first | refine cw_seq ?_ | refine cw_region ?_ | refine ow_nil ?_ | (apply ow_cons; · simp only [push_cast, env, Nat.reduceEqDiff, reduceIte, Nat.reduceAdd, Nat.reduceMul, Nat.reduceLeDiff, reduceCtorEq, Bool.false_eq_true, Nat.reduceSub, Int.reduceToNat, e9, hid2, hrd2, set_zero] <;> exact rfl) | (apply ow_spec; · simp only [push_cast, env, Nat.reduceEqDiff, reduceIte, Nat.reduceAdd, Nat.reduceMul, Nat.reduceLeDiff, reduceCtorEq, Bool.false_eq_true, Nat.reduceSub, Int.reduceToNat, e9, hid2, hrd2, set_zero] <;> exact rfl) | refine qw_nil ?_ | (apply qw_cons; · simp only [push_cast, env, Nat.reduceEqDiff, reduceIte, Nat.reduceAdd, Nat.reduceMul, Nat.reduceLeDiff, reduceCtorEq, Bool.false_eq_true, Nat.reduceSub, Int.reduceToNat, e9, hid2, hrd2, set_zero] <;> exact rfl) | (apply qw_spec; · simp only [push_cast, env, Nat.reduceEqDiff, reduceIte, Nat.reduceAdd, Nat.reduceMul, Nat.reduceLeDiff, reduceCtorEq, Bool.false_eq_true, Nat.reduceSub, Int.reduceToNat, e9, hid2, hrd2, set_zero] <;> exact rfl) | refine cw_block ?_ | refine cw_scope ?_ | refine cw_label ?_ | refine cw_skip ?_)
      refine cw_cond (by simp only [push_cast, env, Nat.reduceEqDiff, reduceIte, Nat.reduceAdd, Nat.reduceMul, Nat.reduceLeDiff, reduceCtorEq, Bool.false_eq_true, Nat.reduceSub, Int.reduceToNat] <;> exact rfl) (fun c4 => ?_) (fun c4 => ?_)
      · simp only [Bool.and_eq_true, Bool.or_eq_true, Bool.not_eq_true', decide_eq_true_eq, decide_eq_false_iff_not] at c4
        repeat (first | refine cw_seq ?_ | refine cw_region ?_ | refine ow_nil ?_ | (apply ow_cons; · simp only [push_cast, env, Nat.reduceEqDiff, reduceIte, Nat.reduceAdd, Nat.reduceMul, Nat.reduceLeDiff, reduceCtorEq, Bool.false_eq_true, Nat.reduceSub, Int.reduceToNat] <;> exact rfl) | (apply ow_spec; · simp only [push_cast, env, Nat.reduceEqDiff, reduceIte, Nat.reduceAdd, Nat.reduceMul, Nat.reduceLeDiff, reduceCtorEq, Bool.false_eq_true, Nat.reduceSub, Int.reduceToNat] <;> exact rfl) | refine qw_nil ?_ | (apply qw_cons; · simp only [push_cast, env, Nat.reduceEqDiff, reduceIte, Nat.reduceAdd, Nat.reduceMul, Nat.reduceLeDiff, reduceCtorEq, Bool.false_eq_true, Nat.reduceSub, Int.reduceToNat] <;> exact rfl) | (apply qw_spec; · simp only [push_cast, env, Nat.reduceEqDiff, reduceIte, Nat.reduceAdd, Nat.reduceMul, Nat.reduceLeDiff, reduceCtorEq, Bool.false_eq_true, Nat.reduceSub, Int.reduceToNat] <;> exact rfl) | refine cw_block ?_ | refine cw_scope ?_ | refine cw_label ?_ | refine cw_skip ?_)
        refine cw_ret ?_
        refine ⟨_, (by simp only [push_cast, env, Nat.reduceEqDiff, reduceIte, Nat.reduceAdd, Nat.reduceMul, Nat.reduceLeDiff, reduceCtorEq, Bool.false_eq_true, Nat.reduceSub, Int.reduceToNat] <;> exact rfl), ?_⟩
        rw [rightG, if_pos]
        · exact ⟨rfl, rfl⟩
        · refine .inr (.inr (.inr (.inr (.inr ⟨_, hmem, .inr (.inr (.inr ⟨_, hmem2, ?_⟩))⟩))))
          obtain ⟨q1, (q2 | q2) | q2⟩ := c4
          · exact .inl (by omega)
          · exact .inr (.inl q2)
          · by_cases q3 : 0 ≤ g.rules[k].rhs[j].nt
            · exact .inr (.inr ⟨q3, q2⟩)
            · exact .inl (by omega)
      · have c5 : ¬ badS g.nts g.rules[k].rhs[j] := by
          intro hb
          simp only [Bool.and_eq_false_iff, Bool.or_eq_false_iff, Bool.not_eq_false', decide_eq_true_eq, decide_eq_false_iff_not] at c4
          rcases c4 with q | ⟨⟨q1, q2⟩, q3⟩
          · rcases hb with b | b | ⟨b, _⟩ <;> omega
          · rcases hb with b | b | ⟨_, b⟩
            · omega
            · exact q2 b
            · exact b q3
        repeat (first | refine cw_seq ?_ | refine cw_region ?_ | refine ow_nil ?_ | (apply ow_cons; · simp only [push_cast, env, Nat.reduceEqDiff, reduceIte, Nat.reduceAdd, Nat.reduceMul, Nat.reduceLeDiff, reduceCtorEq, Bool.false_eq_true, Nat.reduceSub, Int.reduceToNat, e10] <;> exact rfl) | (apply ow_spec; · simp only [push_cast, env, Nat.reduceEqDiff, reduceIte, Nat.reduceAdd, Nat.reduceMul, Nat.reduceLeDiff, reduceCtorEq, Bool.false_eq_true, Nat.reduceSub, Int.reduceToNat, e10] <;> exact rfl) | refine qw_nil ?_ | (apply qw_cons; · simp only [push_cast, env, Nat.reduceEqDiff, reduceIte, Nat.reduceAdd, Nat.reduceMul, Nat.reduceLeDiff, reduceCtorEq, Bool.false_eq_true, Nat.reduceSub, Int.reduceToNat, e10] <;> exact rfl) | (apply qw_spec; · simp only [push_cast, env, Nat.reduceEqDiff, reduceIte, Nat.reduceAdd, Nat.reduceMul, Nat.reduceLeDiff, reduceCtorEq, Bool.false_eq_true, Nat.reduceSub, Int.reduceToNat, e10] <;> exact rfl) | refine cw_block ?_ | refine cw_scope ?_ | refine cw_label ?_ | refine cw_skip ?_)
        refine ⟨hjl, (by simp only [push_cast, SubL, fget, Nat.reduceEqDiff, reduceIte]), rfl, ?_⟩
        intro s hs
        rw [List.take_succ_eq_append_getElem hjl, List.mem_append] at hs
        rcases hs with hs | hs
        · exact hJ s hs
        · obtain rfl : s = _ := by simpa using hs
          exact c5
    · obtain rfl : j = n' := by omega
      have e11 := ge_dec hjl
      repeat (first | refine cw_seq ?_ | refine cw_region ?_ | refine ow_nil ?_ | (apply ow_cons; · simp only [push_cast, env, Nat.reduceEqDiff, reduceIte, Nat.reduceAdd, Nat.reduceMul, Nat.reduceLeDiff, reduceCtorEq, Bool.false_eq_true, Nat.reduceSub, Int.reduceToNat, e11] <;> exact rfl) | (apply ow_spec; · simp only [push_cast, env, Nat.reduceEqDiff, reduceIte, Nat.reduceAdd, Nat.reduceMul, Nat.reduceLeDiff, reduceCtorEq, Bool.false_eq_true, Nat.reduceSub, Int.reduceToNat, e11] <;> exact rfl) | refine qw_nil ?_ | (apply qw_cons; · simp only [push_cast, env, Nat.reduceEqDiff, reduceIte, Nat.reduceAdd, Nat.reduceMul, Nat.reduceLeDiff, reduceCtorEq, Bool.false_eq_true, Nat.reduceSub, Int.reduceToNat, e11] <;> exact rfl) | (apply qw_spec; · simp only [push_cast, env, Nat.reduceEqDiff, reduceIte, Nat.reduceAdd, Nat.reduceMul, Nat.reduceLeDiff, reduceCtorEq, Bool.false_eq_true, Nat.reduceSub, Int.reduceToNat, e11] <;> exact rfl) | refine cw_block ?_ | refine cw_scope ?_ | refine cw_label ?_ | refine cw_skip ?_)
      refine cw_condF (by simp only [push_cast, env, Nat.reduceEqDiff, reduceIte, Nat.reduceAdd, Nat.reduceMul, Nat.reduceLeDiff, reduceCtorEq, Bool.false_eq_true, Nat.reduceSub, Int.reduceToNat] <;> exact rfl) ?_
      refine cw_exit ?_
      show CW _ _ _ _
      repeat (first | refine cw_seq ?_ | refine cw_region ?_ | refine ow_nil ?_ | (apply ow_cons; · simp only [push_cast, env, Nat.reduceEqDiff, reduceIte, Nat.reduceAdd, Nat.reduceMul, Nat.reduceLeDiff, reduceCtorEq, Bool.false_eq_true, Nat.reduceSub, Int.reduceToNat, e7] <;> exact rfl) | (apply ow_spec; · simp only [push_cast, env, Nat.reduceEqDiff, reduceIte, Nat.reduceAdd, Nat.reduceMul, Nat.reduceLeDiff, reduceCtorEq, Bool.false_eq_true, Nat.reduceSub, Int.reduceToNat, e7] <;> exact rfl) | refine qw_nil ?_ | (apply qw_cons; · simp only [push_cast, env, Nat.reduceEqDiff, reduceIte, Nat.reduceAdd, Nat.reduceMul, Nat.reduceLeDiff, reduceCtorEq, Bool.false_eq_true, Nat.reduceSub, Int.reduceToNat, e7] <;> exact rfl) | (apply qw_spec; · simp only [push_cast, env, Nat.reduceEqDiff, reduceIte, Nat.reduceAdd, Nat.reduceMul, Nat.reduceLeDiff, reduceCtorEq, Bool.false_eq_true, Nat.reduceSub, Int.reduceToNat, e7] <;> exact rfl) | refine cw_block ?_ | refine cw_scope ?_ | refine cw_label ?_ | refine cw_skip ?_)
      refine ⟨hlt, (by simp only [push_cast, SubL, fget, Nat.reduceEqDiff, reduceIte]), rfl, ?_⟩
      intro r hr
      rw [List.take_succ_eq_append_getElem hlt, List.mem_append] at hr
      rcases hr with hr | hr
      · exact hI r hr
      · obtain rfl : r = _ := by simpa using hr
        rw [hn, List.take_length] at hJ
        unfold badR
        rintro (h1 | h1 | h1 | ⟨s, h1, h2⟩)
        · exact r1 h1
        · exact r2 h1
        · omega
        · exact hJ s h1 h2
  · have e8 := ge_dec hlt
    obtain rfl : k = g.rules.length := by omega
    repeat (first | refine cw_seq ?_ | refine cw_region ?_ | refine ow_nil ?_ | (apply ow_cons; · simp only [push_cast, env, Nat.reduceEqDiff, reduceIte, Nat.reduceAdd, Nat.reduceMul, Nat.reduceLeDiff, reduceCtorEq, Bool.false_eq_true, Nat.reduceSub, Int.reduceToNat, e8] <;> exact rfl) | (apply ow_spec; · simp only [push_cast, env, Nat.reduceEqDiff, reduceIte, Nat.reduceAdd, Nat.reduceMul, Nat.reduceLeDiff, reduceCtorEq, Bool.false_eq_true, Nat.reduceSub, Int.reduceToNat, e8] <;> exact rfl) | refine qw_nil ?_ | (apply qw_cons; · simp only [push_cast, env, Nat.reduceEqDiff, reduceIte, Nat.reduceAdd, Nat.reduceMul, Nat.reduceLeDiff, reduceCtorEq, Bool.false_eq_true, Nat.reduceSub, Int.reduceToNat, e8] <;> exact rfl) | (apply qw_spec; · simp only [push_cast, env, Nat.reduceEqDiff, reduceIte, Nat.reduceAdd, Nat.reduceMul, Nat.reduceLeDiff, reduceCtorEq, Bool.false_eq_true, Nat.reduceSub, Int.reduceToNat, e8] <;> exact rfl) | refine cw_block ?_ | refine cw_scope ?_ | refine cw_label ?_ | refine cw_skip ?_)
    refine cw_condF (by simp only [push_cast, env, Nat.reduceEqDiff, reduceIte, Nat.reduceAdd, Nat.reduceMul, Nat.reduceLeDiff, reduceCtorEq, Bool.false_eq_true, Nat.reduceSub, Int.reduceToNat] <;> exact rfl) ?_
    refine cw_exit ?_
    show CW _ _ _ _
    repeat (first | refine cw_seq ?_ | refine cw_region ?_ | refine ow_nil ?_ | (apply ow_cons; · simp only [push_cast, env, Nat.reduceEqDiff, reduceIte, Nat.reduceAdd, Nat.reduceMul, Nat.reduceLeDiff, reduceCtorEq, Bool.false_eq_true, Nat.reduceSub, Int.reduceToNat] <;> exact rfl) | (apply ow_spec; · simp only [push_cast, env, Nat.reduceEqDiff, reduceIte, Nat.reduceAdd, Nat.reduceMul, Nat.reduceLeDiff, reduceCtorEq, Bool.false_eq_true, Nat.reduceSub, Int.reduceToNat] <;> exact rfl) | refine qw_nil ?_ | (apply qw_cons; · simp only [push_cast, env, Nat.reduceEqDiff, reduceIte, Nat.reduceAdd, Nat.reduceMul, Nat.reduceLeDiff, reduceCtorEq, Bool.false_eq_true, Nat.reduceSub, Int.reduceToNat] <;> exact rfl) | (apply qw_spec; · simp only [push_cast, env, Nat.reduceEqDiff, reduceIte, Nat.reduceAdd, Nat.reduceMul, Nat.reduceLeDiff, reduceCtorEq, Bool.false_eq_true, Nat.reduceSub, Int.reduceToNat] <;> exact rfl) | refine cw_block ?_ | refine cw_scope ?_ | refine cw_label ?_ | refine cw_skip ?_)
    refine cw_ret ?_
    rw [List.take_length] at hI
    refine ⟨_, (by simp only [push_cast, env, Nat.reduceEqDiff, reduceIte, Nat.reduceAdd, Nat.reduceMul, Nat.reduceLeDiff, reduceCtorEq, Bool.false_eq_true, Nat.reduceSub, Int.reduceToNat] <;> exact rfl), ?_⟩
    rw [rightG, if_neg]
    · exact ⟨rfl, rfl⟩
    · unfold badG
      rintro (h1 | h1 | h1 | h1 | h1 | ⟨r, h1, h2⟩)
      · exact d1 h1
      · exact d2 h1
      · exact d3 h1
      · exact d4 h1
      · omega
      · exact hI r h1 h2
end Go.Proofs.Ytnlchlnkibpkaaa
