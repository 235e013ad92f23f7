/- Several texts, one behind the other; each begins with a remark of its own. -/
import Derived.Test.YtnlchlnkibpkaaaZG1
import Derived.Test.YtnlchlnkibpkaaaZFa
import Derived.Test.YtnlchlnkibpkaaaZTy
/- Shortest, of the program and of the reference. -/
namespace Go.Proofs.Ytnlchlnkibpkaaa
set_option linter.unusedSimpArgs false
set_option linter.unusedVariables false
open Go.RowKit Am Ty

abbrev MineI (h h' : Heap) (v : Value) (l : List Int) : Prop := Mine h h' v l.length (l.map i64) 3
theorem take_forall' {α : Type} {l : List α} {k : Nat} {P : α → Prop} (hk : k < l.length) (h : ∀ x ∈ l.take k, P x) (h2 : P l[k]) : ∀ x ∈ l.take (k + 1), P x := by
  intro x hx
  rw [List.take_succ_eq_append_getElem hk, List.mem_append] at hx
  rcases hx with hx | hx
  · exact h x hx
  · obtain rfl : x = _ := by simpa using hx
    exact h2
theorem length_fw {h : Heap} {r : Rule} {rv kv : Value} {out : List Int} {n : Int} (hr : RdRule h rv r) (hk : RdInts h kv out) (hn : (out.length : Int) = n) (hs : ∀ s ∈ r.rhs, s.nt < n) (hl : r.rhs.length ≤ 80) (hb : ∀ s ∈ r.rhs, -1 ≤ slen out s ∧ slen out s ≤ 513) :
    FW env 47 [rv, kv] h fun x h' => x = i64 (rlen out r.rhs) ∧ h' = h := by
  obtain ⟨u, rfl, hu'⟩ := hr
  obtain ⟨p, c, rfl⟩ := SlR.form hu'
  obtain ⟨pm, cm, rfl⟩ := SlR.form hk
  have hle := RdSyms.le hu'
  refine fw_enter (fn := Try.f47) Try.func47 rfl (by kernel_rfl) (by simp [Try.ntmps47]) ?_; simp only [push_cast]
  repeat (first | refine cw_seq ?_ | refine cw_region ?_ | refine ow_nil ?_ | ((first | apply ow_cons | apply qw_cons); · simp only [push_cast, env, Nat.reduceEqDiff, reduceIte, Nat.reduceAdd, Nat.reduceMul, Nat.reduceLeDiff, reduceCtorEq, Nat.reduceSub, Int.reduceToNat] <;> exact rfl) | ((first | apply ow_spec | apply qw_spec); · simp only [push_cast, env, Nat.reduceEqDiff, reduceIte, Nat.reduceAdd, Nat.reduceMul, Nat.reduceLeDiff, reduceCtorEq, Nat.reduceSub, Int.reduceToNat] <;> exact rfl) | refine qw_nil ?_ | refine cw_block ?_ | refine cw_scope ?_ | refine cw_label ?_ | refine cw_skip ?_)
  refine cw_for r.rhs.length (fun k => [(1, .val (.slice pm out.length cm)), (2, .box [i64 r.lhs, .slice p r.rhs.length c]), (5, .val (i64 (psum out (r.rhs.take k)))), (6, .val (i64 k))]) (fun _ => h) (fun k => ∀ s ∈ r.rhs.take k, 0 ≤ slen out s) (by simp only [push_cast, SubL, fget, Nat.reduceEqDiff, reduceIte, List.take_zero, psum, List.map_nil, List.sum_nil]) rfl (by simp) ?_
  intro j hj hJ
  have hps := psum_nonneg hJ
  have hpl := psum_le (k := out) (l := r.rhs.take j) fun s hs => (hb s (List.mem_of_mem_take hs)).2
  rw [List.length_take, Nat.min_eq_left hj] at hpl
  by_cases hjl : j < r.rhs.length
  · obtain ⟨id2, ver2, own2, c3, cells2, hv2, hid2, hrd2⟩ := hu'.at hjl
    cases hv2
    have e9 := rng hjl
    have e10 := inc hjl (by omega)
    have e11 := lt_dec hjl
    have g0 := rdH_get0 hrd2 (by omega)
    simp only [List.getElem?_cons_zero] at g0
    have hmem2 : r.rhs[j] ∈ _ := List.getElem_mem hjl
    have hs2 := hs _ hmem2
    have hb2 := hb _ hmem2
    have hpt := psum_take (k := out) hjl
    have g1 : rdH cells2 (j * 5 + 1) 4 = some [u64 r.rhs[j].set.a, u64 r.rhs[j].set.b, u64 r.rhs[j].set.c, u64 r.rhs[j].set.d] := by
      have hh := hrd2
      unfold rdH rdC at hh ⊢
      split at hh
      · rename_i hle
        rw [if_pos (by omega)]
        simp only [Option.some.injEq] at hh ⊢
        have h2 : List.drop 1 (List.take 5 (List.drop (j * 5) cells2)) = [u64 r.rhs[j].set.a, u64 r.rhs[j].set.b, u64 r.rhs[j].set.c, u64 r.rhs[j].set.d] := by rw [hh]; rfl
        rw [List.drop_take, List.drop_drop] at h2
        exact h2
      · cases hh
    repeat (first | refine cw_seq ?_ | refine cw_region ?_ | refine ow_nil ?_ | ((first | apply ow_cons | apply qw_cons); · simp only [push_cast, env, Nat.reduceEqDiff, reduceIte, Nat.reduceAdd, Nat.reduceMul, Nat.reduceLeDiff, reduceCtorEq, Nat.reduceSub, Int.reduceToNat, e11] <;> exact rfl) | ((first | apply ow_spec | apply qw_spec); · simp only [push_cast, env, Nat.reduceEqDiff, reduceIte, Nat.reduceAdd, Nat.reduceMul, Nat.reduceLeDiff, reduceCtorEq, Nat.reduceSub, Int.reduceToNat, e11] <;> exact rfl) | refine qw_nil ?_ | refine cw_block ?_ | refine cw_scope ?_ | refine cw_label ?_ | refine cw_skip ?_)
    refine cw_condT (by simp only [push_cast, env, Nat.reduceEqDiff, reduceIte, Nat.reduceAdd, Nat.reduceMul, Nat.reduceLeDiff, reduceCtorEq, Nat.reduceSub, Int.reduceToNat] <;> exact rfl) ?_
    repeat (first | refine cw_seq ?_ | refine cw_region ?_ | refine ow_nil ?_ | ((first | apply ow_cons | apply qw_cons); · simp only [push_cast, env, Nat.reduceEqDiff, reduceIte, Nat.reduceAdd, Nat.reduceMul, Nat.reduceLeDiff, reduceCtorEq, Nat.reduceSub, Int.reduceToNat, e9, hid2, g0] <;> exact rfl) | ((first | apply ow_spec | apply qw_spec); · simp only [push_cast, env, Nat.reduceEqDiff, reduceIte, Nat.reduceAdd, Nat.reduceMul, Nat.reduceLeDiff, reduceCtorEq, Nat.reduceSub, Int.reduceToNat, e9, hid2, g0] <;> exact rfl) | refine qw_nil ?_ | refine cw_block ?_ | refine cw_scope ?_ | refine cw_label ?_ | refine cw_skip ?_)
    refine CW.mono (Q := fun e s' => e = .normal ∧ s'.h = h ∧ SubL [(1, .val (.slice pm out.length cm)), (2, .box [i64 r.lhs, .slice (some ⟨id2, 0, some ver2⟩) r.rhs.length c]), (5, .val (i64 (psum out (r.rhs.take j)))), (6, .val (i64 j)), (7, .val (i64 (slen out r.rhs[j])))] s'.fr) ?_ ?_
    · refine cw_cond (by simp only [push_cast, env, Nat.reduceEqDiff, reduceIte, Nat.reduceAdd, Nat.reduceMul, Nat.reduceLeDiff, reduceCtorEq, Nat.reduceSub, Int.reduceToNat] <;> exact rfl) (fun b1 => ?_) (fun b1 => ?_)
      · have h0 : 0 ≤ r.rhs[j].nt := by simpa using b1
        obtain ⟨id4, ver4, own4, c4, hv4, hid4⟩ := SlR.at hk (by omega)
        cases hv4
        have q1 := rng0 (N := out.length) h0 (by omega)
        have q2 := iget_map (l := out) h0 (by omega)
        have e : slen out r.rhs[j] = iget out r.rhs[j].nt := if_pos h0
        rw [e]
        repeat (first | refine cw_seq ?_ | refine cw_region ?_ | refine ow_nil ?_ | ((first | apply ow_cons | apply qw_cons); · simp only [push_cast, env, Nat.reduceEqDiff, reduceIte, Nat.reduceAdd, Nat.reduceMul, Nat.reduceLeDiff, reduceCtorEq, Nat.reduceSub, Int.reduceToNat, e9, hid2, g0, q1, hid4, q2, Nat.mul_one] <;> exact rfl) | ((first | apply ow_spec | apply qw_spec); · simp only [push_cast, env, Nat.reduceEqDiff, reduceIte, Nat.reduceAdd, Nat.reduceMul, Nat.reduceLeDiff, reduceCtorEq, Nat.reduceSub, Int.reduceToNat, e9, hid2, g0, q1, hid4, q2, Nat.mul_one] <;> exact rfl) | refine qw_nil ?_ | refine cw_block ?_ | refine cw_scope ?_ | refine cw_label ?_ | refine cw_skip ?_)
        exact ⟨rfl, rfl, (by simp only [push_cast, SubL, fget, Nat.reduceEqDiff, reduceIte])⟩
      · have h0 : ¬ 0 ≤ r.rhs[j].nt := by simpa using b1
        repeat (first | refine cw_seq ?_ | refine cw_region ?_ | refine ow_nil ?_ | ((first | apply ow_cons | apply qw_cons); · simp only [push_cast, env, Nat.reduceEqDiff, reduceIte, Nat.reduceAdd, Nat.reduceMul, Nat.reduceLeDiff, reduceCtorEq, Nat.reduceSub, Int.reduceToNat, e9, hid2, g1, set_zero] <;> exact rfl) | ((first | apply ow_spec | apply qw_spec); · simp only [push_cast, env, Nat.reduceEqDiff, reduceIte, Nat.reduceAdd, Nat.reduceMul, Nat.reduceLeDiff, reduceCtorEq, Nat.reduceSub, Int.reduceToNat, e9, hid2, g1, set_zero] <;> exact rfl) | refine qw_nil ?_ | refine cw_block ?_ | refine cw_scope ?_ | refine cw_label ?_ | refine cw_skip ?_)
        refine cw_cond (by simp only [push_cast, env, Nat.reduceEqDiff, reduceIte, Nat.reduceAdd, Nat.reduceMul, Nat.reduceLeDiff, reduceCtorEq, Nat.reduceSub, Int.reduceToNat] <;> exact rfl) (fun b2 => ?_) (fun b2 => ?_)
        · have e : slen out r.rhs[j] = 1 := by unfold slen; rw [if_neg h0, if_pos (by simpa using b2)]
          rw [e]
          repeat (first | refine cw_seq ?_ | refine cw_region ?_ | refine ow_nil ?_ | ((first | apply ow_cons | apply qw_cons); · simp only [push_cast, env, Nat.reduceEqDiff, reduceIte, Nat.reduceAdd, Nat.reduceMul, Nat.reduceLeDiff, reduceCtorEq, Nat.reduceSub, Int.reduceToNat] <;> exact rfl) | ((first | apply ow_spec | apply qw_spec); · simp only [push_cast, env, Nat.reduceEqDiff, reduceIte, Nat.reduceAdd, Nat.reduceMul, Nat.reduceLeDiff, reduceCtorEq, Nat.reduceSub, Int.reduceToNat] <;> exact rfl) | refine qw_nil ?_ | refine cw_block ?_ | refine cw_scope ?_ | refine cw_label ?_ | refine cw_skip ?_)
          exact ⟨rfl, rfl, (by simp only [push_cast, SubL, fget, Nat.reduceEqDiff, reduceIte])⟩
        · have e : slen out r.rhs[j] = -1 := by unfold slen; rw [if_neg h0, if_neg (by simpa using b2)]
          rw [e]
          repeat (first | refine cw_seq ?_ | refine cw_region ?_ | refine ow_nil ?_ | ((first | apply ow_cons | apply qw_cons); · simp only [push_cast, env, Nat.reduceEqDiff, reduceIte, Nat.reduceAdd, Nat.reduceMul, Nat.reduceLeDiff, reduceCtorEq, Nat.reduceSub, Int.reduceToNat] <;> exact rfl) | ((first | apply ow_spec | apply qw_spec); · simp only [push_cast, env, Nat.reduceEqDiff, reduceIte, Nat.reduceAdd, Nat.reduceMul, Nat.reduceLeDiff, reduceCtorEq, Nat.reduceSub, Int.reduceToNat] <;> exact rfl) | refine qw_nil ?_ | refine cw_block ?_ | refine cw_scope ?_ | refine cw_label ?_ | refine cw_skip ?_)
          exact ⟨rfl, rfl, (by simp only [push_cast, SubL, fget, Nat.reduceEqDiff, reduceIte])⟩
    rintro e s' ⟨rfl, hh, hf⟩
    show CW _ _ _ _
    refine cw_weakL _ hf ?_
    rw [hh]
    repeat (first | refine cw_seq ?_ | refine cw_region ?_ | refine ow_nil ?_ | ((first | apply ow_cons | apply qw_cons); · simp only [push_cast, env, Nat.reduceEqDiff, reduceIte, Nat.reduceAdd, Nat.reduceMul, Nat.reduceLeDiff, reduceCtorEq, Nat.reduceSub, Int.reduceToNat] <;> exact rfl) | ((first | apply ow_spec | apply qw_spec); · simp only [push_cast, env, Nat.reduceEqDiff, reduceIte, Nat.reduceAdd, Nat.reduceMul, Nat.reduceLeDiff, reduceCtorEq, Nat.reduceSub, Int.reduceToNat] <;> exact rfl) | refine qw_nil ?_ | refine cw_block ?_ | refine cw_scope ?_ | refine cw_label ?_ | refine cw_skip ?_)
    refine cw_cond (by simp only [push_cast, env, Nat.reduceEqDiff, reduceIte, Nat.reduceAdd, Nat.reduceMul, Nat.reduceLeDiff, reduceCtorEq, Nat.reduceSub, Int.reduceToNat] <;> exact rfl) (fun b1 => ?_) (fun b1 => ?_)
    · have b1 : slen out r.rhs[j] < 0 := by simpa using b1
      repeat (first | refine cw_seq ?_ | refine cw_region ?_ | refine ow_nil ?_ | ((first | apply ow_cons | apply qw_cons); · simp only [push_cast, env, Nat.reduceEqDiff, reduceIte, Nat.reduceAdd, Nat.reduceMul, Nat.reduceLeDiff, reduceCtorEq, Nat.reduceSub, Int.reduceToNat] <;> exact rfl) | ((first | apply ow_spec | apply qw_spec); · simp only [push_cast, env, Nat.reduceEqDiff, reduceIte, Nat.reduceAdd, Nat.reduceMul, Nat.reduceLeDiff, reduceCtorEq, Nat.reduceSub, Int.reduceToNat] <;> exact rfl) | refine qw_nil ?_ | refine cw_block ?_ | refine cw_scope ?_ | refine cw_label ?_ | refine cw_skip ?_)
      refine cw_ret ?_
      refine ⟨_, (by simp only [push_cast, env, Nat.reduceEqDiff, reduceIte, Nat.reduceAdd, Nat.reduceMul, Nat.reduceLeDiff, reduceCtorEq, Nat.reduceSub, Int.reduceToNat] <;> exact rfl), ?_, rfl⟩
      rw [rlen_no hmem2 b1]
      rfl
    · have b1 : 0 ≤ slen out r.rhs[j] := by simpa using b1
      have e4 : IntKind.i64.wrap (psum out (r.rhs.take j) + slen out r.rhs[j]) = psum out (r.rhs.take (j + 1)) := by rw [hpt]; exact wrap64_id (by omega) (by omega)
      repeat (first | refine cw_seq ?_ | refine cw_region ?_ | refine ow_nil ?_ | ((first | apply ow_cons | apply qw_cons); · simp only [push_cast, env, Nat.reduceEqDiff, reduceIte, Nat.reduceAdd, Nat.reduceMul, Nat.reduceLeDiff, reduceCtorEq, Nat.reduceSub, Int.reduceToNat, e10, e4] <;> exact rfl) | ((first | apply ow_spec | apply qw_spec); · simp only [push_cast, env, Nat.reduceEqDiff, reduceIte, Nat.reduceAdd, Nat.reduceMul, Nat.reduceLeDiff, reduceCtorEq, Nat.reduceSub, Int.reduceToNat, e10, e4] <;> exact rfl) | refine qw_nil ?_ | refine cw_block ?_ | refine cw_scope ?_ | refine cw_label ?_ | refine cw_skip ?_)
      exact ⟨hjl, (by simp only [push_cast, SubL, fget, Nat.reduceEqDiff, reduceIte]), rfl, take_forall' hjl hJ b1⟩
  · have e11 := ge_dec hjl
    obtain rfl : j = r.rhs.length := by omega
    rw [List.take_length] at hJ
    have hrl := rlen_ok hJ
    repeat (first | refine cw_seq ?_ | refine cw_region ?_ | refine ow_nil ?_ | ((first | apply ow_cons | apply qw_cons); · simp only [push_cast, env, Nat.reduceEqDiff, reduceIte, Nat.reduceAdd, Nat.reduceMul, Nat.reduceLeDiff, reduceCtorEq, Nat.reduceSub, Int.reduceToNat, e11] <;> exact rfl) | ((first | apply ow_spec | apply qw_spec); · simp only [push_cast, env, Nat.reduceEqDiff, reduceIte, Nat.reduceAdd, Nat.reduceMul, Nat.reduceLeDiff, reduceCtorEq, Nat.reduceSub, Int.reduceToNat, e11] <;> exact rfl) | refine qw_nil ?_ | refine cw_block ?_ | refine cw_scope ?_ | refine cw_label ?_ | refine cw_skip ?_)
    refine cw_condF (by simp only [push_cast, env, Nat.reduceEqDiff, reduceIte, Nat.reduceAdd, Nat.reduceMul, Nat.reduceLeDiff, reduceCtorEq, Nat.reduceSub, Int.reduceToNat] <;> exact rfl) ?_
    refine cw_exit ?_
    show CW _ _ _ _
    rw [List.take_length]
    repeat (first | refine cw_seq ?_ | refine cw_region ?_ | refine ow_nil ?_ | ((first | apply ow_cons | apply qw_cons); · simp only [push_cast, env, Nat.reduceEqDiff, reduceIte, Nat.reduceAdd, Nat.reduceMul, Nat.reduceLeDiff, reduceCtorEq, Nat.reduceSub, Int.reduceToNat] <;> exact rfl) | ((first | apply ow_spec | apply qw_spec); · simp only [push_cast, env, Nat.reduceEqDiff, reduceIte, Nat.reduceAdd, Nat.reduceMul, Nat.reduceLeDiff, reduceCtorEq, Nat.reduceSub, Int.reduceToNat] <;> exact rfl) | refine qw_nil ?_ | refine cw_block ?_ | refine cw_scope ?_ | refine cw_label ?_ | refine cw_skip ?_)
    refine cw_cond (by simp only [push_cast, env, Nat.reduceEqDiff, reduceIte, Nat.reduceAdd, Nat.reduceMul, Nat.reduceLeDiff, reduceCtorEq, Nat.reduceSub, Int.reduceToNat] <;> exact rfl) (fun b1 => ?_) (fun b1 => ?_)
    · have b1 : 512 < psum out r.rhs := by simpa using b1
      repeat (first | refine cw_seq ?_ | refine cw_region ?_ | refine ow_nil ?_ | ((first | apply ow_cons | apply qw_cons); · simp only [push_cast, env, Nat.reduceEqDiff, reduceIte, Nat.reduceAdd, Nat.reduceMul, Nat.reduceLeDiff, reduceCtorEq, Nat.reduceSub, Int.reduceToNat] <;> exact rfl) | ((first | apply ow_spec | apply qw_spec); · simp only [push_cast, env, Nat.reduceEqDiff, reduceIte, Nat.reduceAdd, Nat.reduceMul, Nat.reduceLeDiff, reduceCtorEq, Nat.reduceSub, Int.reduceToNat] <;> exact rfl) | refine qw_nil ?_ | refine cw_block ?_ | refine cw_scope ?_ | refine cw_label ?_ | refine cw_skip ?_)
      refine cw_ret ?_
      refine ⟨_, (by simp only [push_cast, env, Nat.reduceEqDiff, reduceIte, Nat.reduceAdd, Nat.reduceMul, Nat.reduceLeDiff, reduceCtorEq, Nat.reduceSub, Int.reduceToNat] <;> exact rfl), ?_, rfl⟩
      rw [hrl, show min (psum out r.rhs) 513 = 513 by omega]
      rfl
    · have b1 : psum out r.rhs ≤ 512 := by simpa using b1
      repeat (first | refine cw_seq ?_ | refine cw_region ?_ | refine ow_nil ?_ | ((first | apply ow_cons | apply qw_cons); · simp only [push_cast, env, Nat.reduceEqDiff, reduceIte, Nat.reduceAdd, Nat.reduceMul, Nat.reduceLeDiff, reduceCtorEq, Nat.reduceSub, Int.reduceToNat] <;> exact rfl) | ((first | apply ow_spec | apply qw_spec); · simp only [push_cast, env, Nat.reduceEqDiff, reduceIte, Nat.reduceAdd, Nat.reduceMul, Nat.reduceLeDiff, reduceCtorEq, Nat.reduceSub, Int.reduceToNat] <;> exact rfl) | refine qw_nil ?_ | refine cw_block ?_ | refine cw_scope ?_ | refine cw_label ?_ | refine cw_skip ?_)
      refine cw_ret ?_
      refine ⟨_, (by simp only [push_cast, env, Nat.reduceEqDiff, reduceIte, Nat.reduceAdd, Nat.reduceMul, Nat.reduceLeDiff, reduceCtorEq, Nat.reduceSub, Int.reduceToNat] <;> exact rfl), ?_, rfl⟩
      rw [hrl, show min (psum out r.rhs) 513 = psum out r.rhs by omega]
      rfl
set_option maxHeartbeats 4000000 in
theorem rshortest_fw {h : Heap} {g : Gram} {v : Value} (hr : RdGram h v g) : FW env 27 [v] h fun r h' => Told g nilS (fun x h' => ∃ l, Shorts g l ∧ MineI h h' x l) r h' ∧ h <+: h' := by
  obtain ⟨u, rfl, hu⟩ := id hr
  obtain ⟨p, c, rfl⟩ := hu.form
  have hle := hu.le
  refine fw_enter (fn := Try.f27) Try.func27 rfl (by kernel_rfl) (by simp [Try.ntmps27]) ?_; simp only [push_cast]
  repeat (first | refine cw_seq ?_ | refine cw_region ?_ | refine ow_nil ?_ | ((first | apply ow_cons | apply qw_cons); · simp only [push_cast, env, Nat.reduceEqDiff, reduceIte, Nat.reduceAdd, Nat.reduceMul, Nat.reduceLeDiff, reduceCtorEq, Nat.reduceSub, Int.reduceToNat] <;> exact rfl) | ((first | apply ow_spec | apply qw_spec); · simp only [push_cast, env, Nat.reduceEqDiff, reduceIte, Nat.reduceAdd, Nat.reduceMul, Nat.reduceLeDiff, reduceCtorEq, Nat.reduceSub, Int.reduceToNat] <;> exact rfl) | refine qw_nil ?_ | refine cw_block ?_ | refine cw_scope ?_ | refine cw_label ?_ | refine cw_skip ?_)
  refine ow_call (fn := Try.f15) (by simp only [push_cast, env, Nat.reduceEqDiff, reduceIte, Nat.reduceAdd, Nat.reduceMul, Nat.reduceLeDiff, reduceCtorEq, Nat.reduceSub, Int.reduceToNat] <;> exact rfl) rfl (by simp only [push_cast, env, Nat.reduceEqDiff, reduceIte, Nat.reduceAdd, Nat.reduceMul, Nat.reduceLeDiff, reduceCtorEq, Nat.reduceSub, Int.reduceToNat] <;> exact rfl) (by simp only [push_cast, env, Nat.reduceEqDiff, reduceIte, Nat.reduceAdd, Nat.reduceMul, Nat.reduceLeDiff, reduceCtorEq, Nat.reduceSub, Int.reduceToNat] <;> exact rfl) Try.func15 (by kernel_rfl) (by kernel_rfl) ?_
  rw [List.append_nil]
  refine (refright_fw hr).mono ?_
  rintro _ h ⟨rfl, rfl⟩
  by_cases hb : badG g
  · have e0 : rightG g = 3 := if_pos hb
    rw [e0]
    repeat (first | refine cw_seq ?_ | refine cw_region ?_ | refine ow_nil ?_ | ((first | apply ow_cons | apply qw_cons); · simp only [push_cast, env, Nat.reduceEqDiff, reduceIte, Nat.reduceAdd, Nat.reduceMul, Nat.reduceLeDiff, reduceCtorEq, Nat.reduceSub, Int.reduceToNat] <;> exact rfl) | ((first | apply ow_spec | apply qw_spec); · simp only [push_cast, env, Nat.reduceEqDiff, reduceIte, Nat.reduceAdd, Nat.reduceMul, Nat.reduceLeDiff, reduceCtorEq, Nat.reduceSub, Int.reduceToNat] <;> exact rfl) | refine qw_nil ?_ | refine cw_block ?_ | refine cw_scope ?_ | refine cw_label ?_ | refine cw_skip ?_)
    refine cw_condT (by simp only [push_cast, env, Nat.reduceEqDiff, reduceIte, Nat.reduceAdd, Nat.reduceMul, Nat.reduceLeDiff, reduceCtorEq, Nat.reduceSub, Int.reduceToNat] <;> exact rfl) ?_
    repeat (first | refine cw_seq ?_ | refine cw_region ?_ | refine ow_nil ?_ | ((first | apply ow_cons | apply qw_cons); · simp only [push_cast, env, Nat.reduceEqDiff, reduceIte, Nat.reduceAdd, Nat.reduceMul, Nat.reduceLeDiff, reduceCtorEq, Nat.reduceSub, Int.reduceToNat] <;> exact rfl) | ((first | apply ow_spec | apply qw_spec); · simp only [push_cast, env, Nat.reduceEqDiff, reduceIte, Nat.reduceAdd, Nat.reduceMul, Nat.reduceLeDiff, reduceCtorEq, Nat.reduceSub, Int.reduceToNat] <;> exact rfl) | refine qw_nil ?_ | refine cw_block ?_ | refine cw_scope ?_ | refine cw_label ?_ | refine cw_skip ?_)
    refine cw_ret ?_
    exact ⟨_, (by simp only [push_cast, env, Nat.reduceEqDiff, reduceIte, Nat.reduceAdd, Nat.reduceMul, Nat.reduceLeDiff, reduceCtorEq, Nat.reduceSub, Int.reduceToNat] <;> exact rfl), ⟨_, by rw [e0]; rfl, .inl ⟨hb, rfl⟩⟩, List.prefix_refl _⟩
  have e0 : rightG g = 0 := if_neg hb
  rw [e0]
  repeat (first | refine cw_seq ?_ | refine cw_region ?_ | refine ow_nil ?_ | ((first | apply ow_cons | apply qw_cons); · simp only [push_cast, env, Nat.reduceEqDiff, reduceIte, Nat.reduceAdd, Nat.reduceMul, Nat.reduceLeDiff, reduceCtorEq, Nat.reduceSub, Int.reduceToNat] <;> exact rfl) | ((first | apply ow_spec | apply qw_spec); · simp only [push_cast, env, Nat.reduceEqDiff, reduceIte, Nat.reduceAdd, Nat.reduceMul, Nat.reduceLeDiff, reduceCtorEq, Nat.reduceSub, Int.reduceToNat] <;> exact rfl) | refine qw_nil ?_ | refine cw_block ?_ | refine cw_scope ?_ | refine cw_label ?_ | refine cw_skip ?_)
  refine cw_condF (by simp only [push_cast, env, Nat.reduceEqDiff, reduceIte, Nat.reduceAdd, Nat.reduceMul, Nat.reduceLeDiff, reduceCtorEq, Nat.reduceSub, Int.reduceToNat] <;> exact rfl) ?_
  have R := rightS hb
  have n1 := R.n1
  have n2 := R.n2
  obtain ⟨N, hN⟩ : ∃ N : Nat, g.nts = N := ⟨g.nts.toNat, by omega⟩
  repeat (first | refine cw_seq ?_ | refine cw_region ?_ | refine ow_nil ?_ | ((first | apply ow_cons | apply qw_cons); · simp only [push_cast, env, Nat.reduceEqDiff, reduceIte, Nat.reduceAdd, Nat.reduceMul, Nat.reduceLeDiff, reduceCtorEq, Nat.reduceSub, Int.reduceToNat] <;> exact rfl) | ((first | apply ow_spec | apply qw_spec); · simp only [push_cast, env, Nat.reduceEqDiff, reduceIte, Nat.reduceAdd, Nat.reduceMul, Nat.reduceLeDiff, reduceCtorEq, Nat.reduceSub, Int.reduceToNat] <;> exact rfl) | refine qw_nil ?_ | refine cw_block ?_ | refine cw_scope ?_ | refine cw_label ?_ | refine cw_skip ?_)
  refine CW.mono (Q := fun e s' => e = .exit 0 ∧ ∃ hk io vo, h <+: hk ∧ h.length ≤ io ∧ hk[io]? = some (.arr ((List.replicate N (-1)).map i64) vo true 3) ∧ s'.h = hk ∧ SubL [(1, .box [i64 g.nts, i64 g.start, .slice p g.rules.length c]), (4, .val (i64 0)), (5, .val (.slice (some ⟨io, 0, some vo⟩) N N))] s'.fr) ?_ ?_
  · refine cw_forG N (fun k (x : Heap × Option Addr × Nat) => [(1, .box [i64 g.nts, i64 g.start, .slice p g.rules.length c]), (4, .val (i64 0)), (5, .val (.slice x.2.1 k x.2.2)), (6, .val (i64 k))]) (fun _ x => x.1)
      (fun k x => h <+: x.1 ∧ Grow h x.1 (.slice x.2.1 k x.2.2) k ((List.replicate k (-1)).map i64) 3) (h, none, 0) (by simp only [push_cast, SubL, fget, Nat.reduceEqDiff, reduceIte]) rfl ⟨List.prefix_refl _, Grow.nil⟩ ?_
    rintro k ⟨hk, q, cq⟩ hkn ⟨hp, hG⟩
    simp only at hp hG ⊢
    by_cases hlt : k < N
    · have e2 := inc hlt (by omega)
      have e3 : decide ((k : Int) < g.nts) = true := by rw [hN]; exact lt_dec hlt
      repeat (first | refine cw_seq ?_ | refine cw_region ?_ | refine ow_nil ?_ | ((first | apply ow_cons | apply qw_cons); · simp only [push_cast, env, Nat.reduceEqDiff, reduceIte, Nat.reduceAdd, Nat.reduceMul, Nat.reduceLeDiff, reduceCtorEq, Nat.reduceSub, Int.reduceToNat, e3] <;> exact rfl) | ((first | apply ow_spec | apply qw_spec); · simp only [push_cast, env, Nat.reduceEqDiff, reduceIte, Nat.reduceAdd, Nat.reduceMul, Nat.reduceLeDiff, reduceCtorEq, Nat.reduceSub, Int.reduceToNat, e3] <;> exact rfl) | refine qw_nil ?_ | refine cw_block ?_ | refine cw_scope ?_ | refine cw_label ?_ | refine cw_skip ?_)
      refine cw_condT (by simp only [push_cast, env, Nat.reduceEqDiff, reduceIte, Nat.reduceAdd, Nat.reduceMul, Nat.reduceLeDiff, reduceCtorEq, Nat.reduceSub, Int.reduceToNat] <;> exact rfl) ?_
      repeat (first | refine cw_seq ?_ | refine cw_region ?_ | refine ow_nil ?_ | ((first | apply ow_cons | apply qw_cons); · simp only [push_cast, env, Nat.reduceEqDiff, reduceIte, Nat.reduceAdd, Nat.reduceMul, Nat.reduceLeDiff, reduceCtorEq, Nat.reduceSub, Int.reduceToNat] <;> exact rfl) | ((first | apply ow_spec | apply qw_spec); · simp only [push_cast, env, Nat.reduceEqDiff, reduceIte, Nat.reduceAdd, Nat.reduceMul, Nat.reduceLeDiff, reduceCtorEq, Nat.reduceSub, Int.reduceToNat] <;> exact rfl) | refine qw_nil ?_ | refine cw_block ?_ | refine cw_scope ?_ | refine cw_label ?_ | refine cw_skip ?_)
      refine ow_pushI (l := List.replicate k (-1)) (b := -1) (h := h) (by simp only [push_cast, env, Nat.reduceEqDiff, reduceIte, Nat.reduceAdd, Nat.reduceMul, Nat.reduceLeDiff, reduceCtorEq, Nat.reduceSub, Int.reduceToNat] <;> exact rfl) rfl (by simp only [push_cast, env, Nat.reduceEqDiff, reduceIte, Nat.reduceAdd, Nat.reduceMul, Nat.reduceLeDiff, reduceCtorEq, Nat.reduceSub, Int.reduceToNat] <;> exact rfl) (by simp only [push_cast, env, Nat.reduceEqDiff, reduceIte, Nat.reduceAdd, Nat.reduceMul, Nat.reduceLeDiff, reduceCtorEq, Nat.reduceSub, Int.reduceToNat] <;> exact rfl) (by rw [List.length_replicate]; exact hG) hp (by rw [List.length_replicate]; omega) ?_
      intro p' c' h' k1 k2 _ _
      rw [List.length_replicate]
      rw [← List.replicate_succ', List.length_replicate, List.length_replicate] at k1
      repeat (first | refine cw_seq ?_ | refine cw_region ?_ | refine ow_nil ?_ | ((first | apply ow_cons | apply qw_cons); · simp only [push_cast, env, Nat.reduceEqDiff, reduceIte, Nat.reduceAdd, Nat.reduceMul, Nat.reduceLeDiff, reduceCtorEq, Nat.reduceSub, Int.reduceToNat, e2] <;> exact rfl) | ((first | apply ow_spec | apply qw_spec); · simp only [push_cast, env, Nat.reduceEqDiff, reduceIte, Nat.reduceAdd, Nat.reduceMul, Nat.reduceLeDiff, reduceCtorEq, Nat.reduceSub, Int.reduceToNat, e2] <;> exact rfl) | refine qw_nil ?_ | refine cw_block ?_ | refine cw_scope ?_ | refine cw_label ?_ | refine cw_skip ?_)
      exact ⟨hlt, (h', p', c'), (by simp only [push_cast, SubL, fget, Nat.reduceEqDiff, reduceIte]), rfl, k2, k1⟩
    · have e3 : decide ((k : Int) < g.nts) = false := by rw [hN]; exact ge_dec hlt
      obtain rfl : k = N := by omega
      repeat (first | refine cw_seq ?_ | refine cw_region ?_ | refine ow_nil ?_ | ((first | apply ow_cons | apply qw_cons); · simp only [push_cast, env, Nat.reduceEqDiff, reduceIte, Nat.reduceAdd, Nat.reduceMul, Nat.reduceLeDiff, reduceCtorEq, Nat.reduceSub, Int.reduceToNat, e3] <;> exact rfl) | ((first | apply ow_spec | apply qw_spec); · simp only [push_cast, env, Nat.reduceEqDiff, reduceIte, Nat.reduceAdd, Nat.reduceMul, Nat.reduceLeDiff, reduceCtorEq, Nat.reduceSub, Int.reduceToNat, e3] <;> exact rfl) | refine qw_nil ?_ | refine cw_block ?_ | refine cw_scope ?_ | refine cw_label ?_ | refine cw_skip ?_)
      refine cw_condF (by simp only [push_cast, env, Nat.reduceEqDiff, reduceIte, Nat.reduceAdd, Nat.reduceMul, Nat.reduceLeDiff, reduceCtorEq, Nat.reduceSub, Int.reduceToNat] <;> exact rfl) ?_
      refine cw_exit ?_
      obtain ⟨io, vo, i1, i2, i3⟩ := hG.mine (by omega)
      rw [i2]
      exact ⟨rfl, hk, io, vo, hp, i1, i3, rfl, (by simp only [push_cast, SubL, fget, Nat.reduceEqDiff, reduceIte])⟩
  rintro e s' ⟨rfl, hk, io, vo, hpk, hio, hgo, hh, hf⟩
  show CW _ _ _ _
  refine cw_weakL _ hf ?_
  rw [hh]
  clear hh hf s'
  repeat (first | refine cw_seq ?_ | refine cw_region ?_ | refine ow_nil ?_ | ((first | apply ow_cons | apply qw_cons); · simp only [push_cast, env, Nat.reduceEqDiff, reduceIte, Nat.reduceAdd, Nat.reduceMul, Nat.reduceLeDiff, reduceCtorEq, Nat.reduceSub, Int.reduceToNat] <;> exact rfl) | ((first | apply ow_spec | apply qw_spec); · simp only [push_cast, env, Nat.reduceEqDiff, reduceIte, Nat.reduceAdd, Nat.reduceMul, Nat.reduceLeDiff, reduceCtorEq, Nat.reduceSub, Int.reduceToNat] <;> exact rfl) | refine qw_nil ?_ | refine cw_block ?_ | refine cw_scope ?_ | refine cw_label ?_ | refine cw_skip ?_)
  refine cw_forG (N + 1) (fun k (x : Heap × List Int) => [(1, .box [i64 g.nts, i64 g.start, .slice p g.rules.length c]), (4, .val (i64 0)), (5, .val (.slice (some ⟨io, 0, some vo⟩) N N)), (7, .val (i64 k))]) (fun _ x => x.1)
    (fun k x => h <+: x.1 ∧ x.1[io]? = some (.arr (x.2.map i64) vo true 3) ∧ LRounds g k x.2) (hk, List.replicate N (-1)) (by simp only [push_cast, SubL, fget, Nat.reduceEqDiff, reduceIte]) rfl ⟨hpk, hgo, .start hN⟩ ?_
  rintro k ⟨hk0, out0⟩ hkn ⟨hp0, ho0, hI0⟩
  simp only at hp0 ho0 hI0 ⊢
  have hn0 := hI0.i.n
  by_cases hkl : k < N + 1
  · have f2 := inc hkl (by omega)
    have f3 : decide ((k : Int) ≤ g.nts) = true := decide_eq_true (by omega)
    repeat (first | refine cw_seq ?_ | refine cw_region ?_ | refine ow_nil ?_ | ((first | apply ow_cons | apply qw_cons); · simp only [push_cast, env, Nat.reduceEqDiff, reduceIte, Nat.reduceAdd, Nat.reduceMul, Nat.reduceLeDiff, reduceCtorEq, Nat.reduceSub, Int.reduceToNat, f3] <;> exact rfl) | ((first | apply ow_spec | apply qw_spec); · simp only [push_cast, env, Nat.reduceEqDiff, reduceIte, Nat.reduceAdd, Nat.reduceMul, Nat.reduceLeDiff, reduceCtorEq, Nat.reduceSub, Int.reduceToNat, f3] <;> exact rfl) | refine qw_nil ?_ | refine cw_block ?_ | refine cw_scope ?_ | refine cw_label ?_ | refine cw_skip ?_)
    refine cw_condT (by simp only [push_cast, env, Nat.reduceEqDiff, reduceIte, Nat.reduceAdd, Nat.reduceMul, Nat.reduceLeDiff, reduceCtorEq, Nat.reduceSub, Int.reduceToNat] <;> exact rfl) ?_
    repeat (first | refine cw_seq ?_ | refine cw_region ?_ | refine ow_nil ?_ | ((first | apply ow_cons | apply qw_cons); · simp only [push_cast, env, Nat.reduceEqDiff, reduceIte, Nat.reduceAdd, Nat.reduceMul, Nat.reduceLeDiff, reduceCtorEq, Nat.reduceSub, Int.reduceToNat] <;> exact rfl) | ((first | apply ow_spec | apply qw_spec); · simp only [push_cast, env, Nat.reduceEqDiff, reduceIte, Nat.reduceAdd, Nat.reduceMul, Nat.reduceLeDiff, reduceCtorEq, Nat.reduceSub, Int.reduceToNat] <;> exact rfl) | refine qw_nil ?_ | refine cw_block ?_ | refine cw_scope ?_ | refine cw_label ?_ | refine cw_skip ?_)
    refine cw_forG g.rules.length (fun i (x : Heap × List Int) => [(1, .box [i64 g.nts, i64 g.start, .slice p g.rules.length c]), (4, .val (i64 0)), (5, .val (.slice (some ⟨io, 0, some vo⟩) N N)), (7, .val (i64 k)), (8, .val (i64 i))]) (fun _ x => x.1)
      (fun i x => h <+: x.1 ∧ x.1[io]? = some (.arr (x.2.map i64) vo true 3) ∧ LRound g out0 i x.2) (hk0, out0) (by simp only [push_cast, SubL, fget, Nat.reduceEqDiff, reduceIte]) rfl ⟨hp0, ho0, hI0.i, .refl, by simp⟩ ?_
    rintro i ⟨hk1, out⟩ hin ⟨hpp1, ho1, hI1⟩
    simp only at hpp1 ho1 hI1 ⊢
    have hn1 := hI1.i.n
    by_cases hlt : i < g.rules.length
    · obtain ⟨id, ver, own, c', cells, p', n', c2, hv, hid, hn, hrd, hu'⟩ := hu.at hlt
      cases hv
      subst hn
      have e0 := rdH_get0 hrd (by omega)
      have e0' := rdH_get (j := 1) hrd (by omega)
      simp only [List.getElem?_cons_succ, List.getElem?_cons_zero] at e0 e0'
      have e1 := rng hlt
      have e2 := inc hlt hle
      have e3 := lt_dec hlt
      have hmem : g.rules[i] ∈ _ := List.getElem_mem hlt
      have hn2 := RdSyms.le hu'
      obtain ⟨a1, a2, a3, hS⟩ := R.r _ hmem
      have hid2 := getElem?_prefix hpp1 hid
      have r1 := rng0 (N := N) a1 (by omega)
      have sl := iget_map (l := out) a1 (by omega)
      have hrr := rlen_range out g.rules[i].rhs
      have hbt := hI1.b.rlen (l := g.rules[i].rhs) (fun s hs => (hS s hs).2.1)
      have hir := hI1.i.range a1 a2
      repeat (first | refine cw_seq ?_ | refine cw_region ?_ | refine ow_nil ?_ | ((first | apply ow_cons | apply qw_cons); · simp only [push_cast, env, Nat.reduceEqDiff, reduceIte, Nat.reduceAdd, Nat.reduceMul, Nat.reduceLeDiff, reduceCtorEq, Nat.reduceSub, Int.reduceToNat, e3] <;> exact rfl) | ((first | apply ow_spec | apply qw_spec); · simp only [push_cast, env, Nat.reduceEqDiff, reduceIte, Nat.reduceAdd, Nat.reduceMul, Nat.reduceLeDiff, reduceCtorEq, Nat.reduceSub, Int.reduceToNat, e3] <;> exact rfl) | refine qw_nil ?_ | refine cw_block ?_ | refine cw_scope ?_ | refine cw_label ?_ | refine cw_skip ?_)
      refine cw_condT (by simp only [push_cast, env, Nat.reduceEqDiff, reduceIte, Nat.reduceAdd, Nat.reduceMul, Nat.reduceLeDiff, reduceCtorEq, Nat.reduceSub, Int.reduceToNat] <;> exact rfl) ?_
      repeat (first | refine cw_seq ?_ | refine cw_region ?_ | refine ow_nil ?_ | ((first | apply ow_cons | apply qw_cons); · simp only [push_cast, env, Nat.reduceEqDiff, reduceIte, Nat.reduceAdd, Nat.reduceMul, Nat.reduceLeDiff, reduceCtorEq, Nat.reduceSub, Int.reduceToNat, e1, hid2, hrd] <;> exact rfl) | ((first | apply ow_spec | apply qw_spec); · simp only [push_cast, env, Nat.reduceEqDiff, reduceIte, Nat.reduceAdd, Nat.reduceMul, Nat.reduceLeDiff, reduceCtorEq, Nat.reduceSub, Int.reduceToNat, e1, hid2, hrd] <;> exact rfl) | refine qw_nil ?_ | refine cw_block ?_ | refine cw_scope ?_ | refine cw_label ?_ | refine cw_skip ?_)
      refine ow_call (fn := Try.f47) (by simp only [push_cast, env, Nat.reduceEqDiff, reduceIte, Nat.reduceAdd, Nat.reduceMul, Nat.reduceLeDiff, reduceCtorEq, Nat.reduceSub, Int.reduceToNat, e1, hid2, hrd] <;> exact rfl) rfl (by simp only [push_cast, env, Nat.reduceEqDiff, reduceIte, Nat.reduceAdd, Nat.reduceMul, Nat.reduceLeDiff, reduceCtorEq, Nat.reduceSub, Int.reduceToNat, e1, hid2, hrd] <;> exact rfl) (by simp only [push_cast, env, Nat.reduceEqDiff, reduceIte, Nat.reduceAdd, Nat.reduceMul, Nat.reduceLeDiff, reduceCtorEq, Nat.reduceSub, Int.reduceToNat, e1, hid2, hrd] <;> exact rfl) Try.func47 (by kernel_rfl) (by kernel_rfl) ?_
      rw [List.append_nil]
      refine (length_fw (r := g.rules[i]) (out := out) (n := g.nts) ⟨_, rfl, SlR.mono hu' hpp1⟩ ⟨by omega, .inr ⟨io, vo, true, N, by rw [show out.length = N by omega], ho1⟩⟩ hn1 (fun s hs => (hS s hs).2.1) a3 (fun s hs => hI1.i.slen (hS s hs).2.1)).mono ?_
      rintro _ hk1 ⟨rfl, rfl⟩
      repeat (first | refine cw_seq ?_ | refine cw_region ?_ | refine ow_nil ?_ | ((first | apply ow_cons | apply qw_cons); · simp only [push_cast, env, Nat.reduceEqDiff, reduceIte, Nat.reduceAdd, Nat.reduceMul, Nat.reduceLeDiff, reduceCtorEq, Nat.reduceSub, Int.reduceToNat, e1, hid2, e0] <;> exact rfl) | ((first | apply ow_spec | apply qw_spec); · simp only [push_cast, env, Nat.reduceEqDiff, reduceIte, Nat.reduceAdd, Nat.reduceMul, Nat.reduceLeDiff, reduceCtorEq, Nat.reduceSub, Int.reduceToNat, e1, hid2, e0] <;> exact rfl) | refine qw_nil ?_ | refine cw_block ?_ | refine cw_scope ?_ | refine cw_label ?_ | refine cw_skip ?_)
      by_cases c0 : 0 ≤ rlen out g.rules[i].rhs
      · have d0 := decide_eq_true c0
        repeat (first | refine cw_seq ?_ | refine cw_region ?_ | refine ow_nil ?_ | ((first | apply ow_cons | apply qw_cons); · simp only [push_cast, env, Nat.reduceEqDiff, reduceIte, Nat.reduceAdd, Nat.reduceMul, Nat.reduceLeDiff, reduceCtorEq, Nat.reduceSub, Int.reduceToNat, d0, r1, ho1, sl, Nat.mul_one] <;> exact rfl) | ((first | apply ow_spec | apply qw_spec); · simp only [push_cast, env, Nat.reduceEqDiff, reduceIte, Nat.reduceAdd, Nat.reduceMul, Nat.reduceLeDiff, reduceCtorEq, Nat.reduceSub, Int.reduceToNat, d0, r1, ho1, sl, Nat.mul_one] <;> exact rfl) | refine qw_nil ?_ | refine cw_block ?_ | refine cw_scope ?_ | refine cw_label ?_ | refine cw_skip ?_)
        refine cw_cond (by simp only [push_cast, env, Nat.reduceEqDiff, reduceIte, Nat.reduceAdd, Nat.reduceMul, Nat.reduceLeDiff, reduceCtorEq, Nat.reduceSub, Int.reduceToNat] <;> exact rfl) (fun b1 => ?_) (fun b1 => ?_)
        · have b1 : iget out g.rules[i].lhs < 0 ∨ rlen out g.rules[i].rhs < iget out g.rules[i].lhs := by simpa using b1
          repeat (first | refine cw_seq ?_ | refine cw_region ?_ | refine ow_nil ?_ | ((first | apply ow_cons | apply qw_cons); · simp only [push_cast, env, Nat.reduceEqDiff, reduceIte, Nat.reduceAdd, Nat.reduceMul, Nat.reduceLeDiff, reduceCtorEq, Nat.reduceSub, Int.reduceToNat, r1] <;> exact rfl) | ((first | apply ow_spec | apply qw_spec); · simp only [push_cast, env, Nat.reduceEqDiff, reduceIte, Nat.reduceAdd, Nat.reduceMul, Nat.reduceLeDiff, reduceCtorEq, Nat.reduceSub, Int.reduceToNat, r1] <;> exact rfl) | refine qw_nil ?_ | refine cw_block ?_ | refine cw_scope ?_ | refine cw_label ?_ | refine cw_skip ?_)
          refine ow_stoH (by simp only [push_cast, env, Nat.reduceEqDiff, reduceIte, Nat.reduceAdd, Nat.reduceMul, Nat.reduceLeDiff, reduceCtorEq, Nat.reduceSub, Int.reduceToNat] <;> exact rfl) rfl rfl (by simp only [push_cast, env, Nat.reduceEqDiff, reduceIte, Nat.reduceAdd, Nat.reduceMul, Nat.reduceLeDiff, reduceCtorEq, Nat.reduceSub, Int.reduceToNat] <;> exact rfl) (by simp only [push_cast, env, Nat.reduceEqDiff, reduceIte, Nat.reduceAdd, Nat.reduceMul, Nat.reduceLeDiff, reduceCtorEq, Nat.reduceSub, Int.reduceToNat, r1, Nat.mul_one] <;> exact rfl) ho1 rfl rfl (wr_map (f := i64) (x := rlen out g.rules[i].rhs) (by omega)) ?_
          repeat (first | refine cw_seq ?_ | refine cw_region ?_ | refine ow_nil ?_ | ((first | apply ow_cons | apply qw_cons); · simp only [push_cast, env, Nat.reduceEqDiff, reduceIte, Nat.reduceAdd, Nat.reduceMul, Nat.reduceLeDiff, reduceCtorEq, Nat.reduceSub, Int.reduceToNat, e2] <;> exact rfl) | ((first | apply ow_spec | apply qw_spec); · simp only [push_cast, env, Nat.reduceEqDiff, reduceIte, Nat.reduceAdd, Nat.reduceMul, Nat.reduceLeDiff, reduceCtorEq, Nat.reduceSub, Int.reduceToNat, e2] <;> exact rfl) | refine qw_nil ?_ | refine cw_block ?_ | refine cw_scope ?_ | refine cw_label ?_ | refine cw_skip ?_)
          have hbs : Bt g.nts out (out.set g.rules[i].lhs.toNat (rlen out g.rules[i].rhs)) := fun y y0 y1 h0 => by
            rw [iget_set a1 (by omega) y0]
            split
            · rename_i e
              subst e
              omega
            · omega
          refine ⟨hlt, (hk1.set io _, out.set g.rules[i].lhs.toNat (rlen out g.rules[i].rhs)), (by simp only [push_cast, SubL, fget, Nat.reduceEqDiff, reduceIte]), rfl, pre_set hpp1 hio, get_set_self ho1, hI1.i.put R hmem rfl c0, hI1.b.trans hbs, ?_⟩
          refine take_forall' hlt (fun r hr h0 => ?_) fun h0 => ?_
          · obtain ⟨l1, l2, _⟩ := R.r r (List.mem_of_mem_take hr)
            have q1 := hI1.d r hr h0
            have q2 := hbs _ l1 l2 q1.1
            dsimp only
            omega
          · rw [iget_set a1 (by omega) a1, if_pos rfl]
            have := hbt h0
            omega
        · have b1 : 0 ≤ iget out g.rules[i].lhs ∧ iget out g.rules[i].lhs ≤ rlen out g.rules[i].rhs := by simpa using b1
          repeat (first | refine cw_seq ?_ | refine cw_region ?_ | refine ow_nil ?_ | ((first | apply ow_cons | apply qw_cons); · simp only [push_cast, env, Nat.reduceEqDiff, reduceIte, Nat.reduceAdd, Nat.reduceMul, Nat.reduceLeDiff, reduceCtorEq, Nat.reduceSub, Int.reduceToNat, e2] <;> exact rfl) | ((first | apply ow_spec | apply qw_spec); · simp only [push_cast, env, Nat.reduceEqDiff, reduceIte, Nat.reduceAdd, Nat.reduceMul, Nat.reduceLeDiff, reduceCtorEq, Nat.reduceSub, Int.reduceToNat, e2] <;> exact rfl) | refine qw_nil ?_ | refine cw_block ?_ | refine cw_scope ?_ | refine cw_label ?_ | refine cw_skip ?_)
          refine ⟨hlt, (hk1, out), (by simp only [push_cast, SubL, fget, Nat.reduceEqDiff, reduceIte]), rfl, hpp1, ho1, hI1.i, hI1.b, take_forall' hlt hI1.d fun h0 => ?_⟩
          have := hbt h0
          dsimp only
          omega
      · have d0 := decide_eq_false c0
        repeat (first | refine cw_seq ?_ | refine cw_region ?_ | refine ow_nil ?_ | ((first | apply ow_cons | apply qw_cons); · simp only [push_cast, env, Nat.reduceEqDiff, reduceIte, Nat.reduceAdd, Nat.reduceMul, Nat.reduceLeDiff, reduceCtorEq, Nat.reduceSub, Int.reduceToNat, d0] <;> exact rfl) | ((first | apply ow_spec | apply qw_spec); · simp only [push_cast, env, Nat.reduceEqDiff, reduceIte, Nat.reduceAdd, Nat.reduceMul, Nat.reduceLeDiff, reduceCtorEq, Nat.reduceSub, Int.reduceToNat, d0] <;> exact rfl) | refine qw_nil ?_ | refine cw_block ?_ | refine cw_scope ?_ | refine cw_label ?_ | refine cw_skip ?_)
        refine cw_condF (by simp only [push_cast, env, Nat.reduceEqDiff, reduceIte, Nat.reduceAdd, Nat.reduceMul, Nat.reduceLeDiff, reduceCtorEq, Nat.reduceSub, Int.reduceToNat] <;> exact rfl) ?_
        repeat (first | refine cw_seq ?_ | refine cw_region ?_ | refine ow_nil ?_ | ((first | apply ow_cons | apply qw_cons); · simp only [push_cast, env, Nat.reduceEqDiff, reduceIte, Nat.reduceAdd, Nat.reduceMul, Nat.reduceLeDiff, reduceCtorEq, Nat.reduceSub, Int.reduceToNat, e2] <;> exact rfl) | ((first | apply ow_spec | apply qw_spec); · simp only [push_cast, env, Nat.reduceEqDiff, reduceIte, Nat.reduceAdd, Nat.reduceMul, Nat.reduceLeDiff, reduceCtorEq, Nat.reduceSub, Int.reduceToNat, e2] <;> exact rfl) | refine qw_nil ?_ | refine cw_block ?_ | refine cw_scope ?_ | refine cw_label ?_ | refine cw_skip ?_)
        exact ⟨hlt, (hk1, out), (by simp only [push_cast, SubL, fget, Nat.reduceEqDiff, reduceIte]), rfl, hpp1, ho1, hI1.i, hI1.b, take_forall' hlt hI1.d fun h0 => (c0 (hbt h0).1).elim⟩
    · have e3 := ge_dec hlt
      obtain rfl : i = g.rules.length := by omega
      repeat (first | refine cw_seq ?_ | refine cw_region ?_ | refine ow_nil ?_ | ((first | apply ow_cons | apply qw_cons); · simp only [push_cast, env, Nat.reduceEqDiff, reduceIte, Nat.reduceAdd, Nat.reduceMul, Nat.reduceLeDiff, reduceCtorEq, Nat.reduceSub, Int.reduceToNat, e3] <;> exact rfl) | ((first | apply ow_spec | apply qw_spec); · simp only [push_cast, env, Nat.reduceEqDiff, reduceIte, Nat.reduceAdd, Nat.reduceMul, Nat.reduceLeDiff, reduceCtorEq, Nat.reduceSub, Int.reduceToNat, e3] <;> exact rfl) | refine qw_nil ?_ | refine cw_block ?_ | refine cw_scope ?_ | refine cw_label ?_ | refine cw_skip ?_)
      refine cw_condF (by simp only [push_cast, env, Nat.reduceEqDiff, reduceIte, Nat.reduceAdd, Nat.reduceMul, Nat.reduceLeDiff, reduceCtorEq, Nat.reduceSub, Int.reduceToNat] <;> exact rfl) ?_
      refine cw_exit ?_
      show CW _ _ _ _
      repeat (first | refine cw_seq ?_ | refine cw_region ?_ | refine ow_nil ?_ | ((first | apply ow_cons | apply qw_cons); · simp only [push_cast, env, Nat.reduceEqDiff, reduceIte, Nat.reduceAdd, Nat.reduceMul, Nat.reduceLeDiff, reduceCtorEq, Nat.reduceSub, Int.reduceToNat, f2] <;> exact rfl) | ((first | apply ow_spec | apply qw_spec); · simp only [push_cast, env, Nat.reduceEqDiff, reduceIte, Nat.reduceAdd, Nat.reduceMul, Nat.reduceLeDiff, reduceCtorEq, Nat.reduceSub, Int.reduceToNat, f2] <;> exact rfl) | refine qw_nil ?_ | refine cw_block ?_ | refine cw_scope ?_ | refine cw_label ?_ | refine cw_skip ?_)
      exact ⟨hkl, (hk1, out), (by simp only [push_cast, SubL, fget, Nat.reduceEqDiff, reduceIte]), rfl, hpp1, ho1, hI0.step R hI1⟩
  · have f3 : decide ((k : Int) ≤ g.nts) = false := decide_eq_false (by omega)
    repeat (first | refine cw_seq ?_ | refine cw_region ?_ | refine ow_nil ?_ | ((first | apply ow_cons | apply qw_cons); · simp only [push_cast, env, Nat.reduceEqDiff, reduceIte, Nat.reduceAdd, Nat.reduceMul, Nat.reduceLeDiff, reduceCtorEq, Nat.reduceSub, Int.reduceToNat, f3] <;> exact rfl) | ((first | apply ow_spec | apply qw_spec); · simp only [push_cast, env, Nat.reduceEqDiff, reduceIte, Nat.reduceAdd, Nat.reduceMul, Nat.reduceLeDiff, reduceCtorEq, Nat.reduceSub, Int.reduceToNat, f3] <;> exact rfl) | refine qw_nil ?_ | refine cw_block ?_ | refine cw_scope ?_ | refine cw_label ?_ | refine cw_skip ?_)
    refine cw_condF (by simp only [push_cast, env, Nat.reduceEqDiff, reduceIte, Nat.reduceAdd, Nat.reduceMul, Nat.reduceLeDiff, reduceCtorEq, Nat.reduceSub, Int.reduceToNat] <;> exact rfl) ?_
    refine cw_exit ?_
    show CW _ _ _ _
    repeat (first | refine cw_seq ?_ | refine cw_region ?_ | refine ow_nil ?_ | ((first | apply ow_cons | apply qw_cons); · simp only [push_cast, env, Nat.reduceEqDiff, reduceIte, Nat.reduceAdd, Nat.reduceMul, Nat.reduceLeDiff, reduceCtorEq, Nat.reduceSub, Int.reduceToNat] <;> exact rfl) | ((first | apply ow_spec | apply qw_spec); · simp only [push_cast, env, Nat.reduceEqDiff, reduceIte, Nat.reduceAdd, Nat.reduceMul, Nat.reduceLeDiff, reduceCtorEq, Nat.reduceSub, Int.reduceToNat] <;> exact rfl) | refine qw_nil ?_ | refine cw_block ?_ | refine cw_scope ?_ | refine cw_label ?_ | refine cw_skip ?_)
    refine cw_ret ?_
    refine ⟨_, (by simp only [push_cast, env, Nat.reduceEqDiff, reduceIte, Nat.reduceAdd, Nat.reduceMul, Nat.reduceLeDiff, reduceCtorEq, Nat.reduceSub, Int.reduceToNat] <;> exact rfl), ⟨_, by rw [e0]; rfl, .inr ⟨hb, out0, hI0.fin R (by omega), io, vo, hio, ?_, ho0⟩⟩, hp0⟩
    rw [show out0.length = N by omega]
structure LG where
  hk : Heap
  out : List Int
  ch : Bool
structure LGI (h1 : Heap) (io : Nat) (x : LG) : Prop where
  p : h1 <+: x.hk
  o : x.hk[io]? = some (.arr (x.out.map i64) 0 true 3)
theorem set_rep {k N : Nat} (hk : k < N) : (List.replicate k (-1 : Int) ++ List.replicate (N - k) 0).set k (-1) = List.replicate (k + 1) (-1) ++ List.replicate (N - (k + 1)) 0 := by
  rw [show N - k = (N - (k + 1)) + 1 by omega, List.replicate_succ, List.set_append_right _ _ (by simp), List.length_replicate, Nat.sub_self, List.set_cons_zero, List.replicate_succ' (n := k), List.append_assoc]
  rfl
set_option maxHeartbeats 4000000 in
theorem shortest_fw {h : Heap} {g : Gram} {v : Value} (hr : RdGram h v g) : FW env 24 [v] h fun r h' => Told g nilS (fun x h' => ∃ l, Shorts g l ∧ MineI h h' x l) r h' ∧ h <+: h' := by
  obtain ⟨u, rfl, hu⟩ := id hr
  obtain ⟨p, c, rfl⟩ := hu.form
  have hle := hu.le
  refine fw_enter (fn := Try.f24) Try.func24 rfl (by kernel_rfl) (by simp [Try.ntmps24]) ?_; simp only [push_cast]
  repeat (first | refine cw_seq ?_ | refine cw_region ?_ | refine ow_nil ?_ | ((first | apply ow_cons | apply qw_cons); · simp only [push_cast, env, Nat.reduceEqDiff, reduceIte, Nat.reduceAdd, Nat.reduceMul, Nat.reduceLeDiff, reduceCtorEq, Nat.reduceSub, Int.reduceToNat] <;> exact rfl) | ((first | apply ow_spec | apply qw_spec); · simp only [push_cast, env, Nat.reduceEqDiff, reduceIte, Nat.reduceAdd, Nat.reduceMul, Nat.reduceLeDiff, reduceCtorEq, Nat.reduceSub, Int.reduceToNat] <;> exact rfl) | refine qw_nil ?_ | refine cw_block ?_ | refine cw_scope ?_ | refine cw_label ?_ | refine cw_skip ?_)
  refine ow_call (fn := Try.f13) (by simp only [push_cast, env, Nat.reduceEqDiff, reduceIte, Nat.reduceAdd, Nat.reduceMul, Nat.reduceLeDiff, reduceCtorEq, Nat.reduceSub, Int.reduceToNat] <;> exact rfl) rfl (by simp only [push_cast, env, Nat.reduceEqDiff, reduceIte, Nat.reduceAdd, Nat.reduceMul, Nat.reduceLeDiff, reduceCtorEq, Nat.reduceSub, Int.reduceToNat] <;> exact rfl) (by simp only [push_cast, env, Nat.reduceEqDiff, reduceIte, Nat.reduceAdd, Nat.reduceMul, Nat.reduceLeDiff, reduceCtorEq, Nat.reduceSub, Int.reduceToNat] <;> exact rfl) Try.func13 (by kernel_rfl) (by kernel_rfl) ?_
  rw [List.append_nil]
  refine (right_fw hr).mono ?_
  rintro _ h ⟨rfl, rfl⟩
  by_cases hb : badG g
  · have e0 : rightG g = 3 := if_pos hb
    rw [e0]
    repeat (first | refine cw_seq ?_ | refine cw_region ?_ | refine ow_nil ?_ | ((first | apply ow_cons | apply qw_cons); · simp only [push_cast, env, Nat.reduceEqDiff, reduceIte, Nat.reduceAdd, Nat.reduceMul, Nat.reduceLeDiff, reduceCtorEq, Nat.reduceSub, Int.reduceToNat] <;> exact rfl) | ((first | apply ow_spec | apply qw_spec); · simp only [push_cast, env, Nat.reduceEqDiff, reduceIte, Nat.reduceAdd, Nat.reduceMul, Nat.reduceLeDiff, reduceCtorEq, Nat.reduceSub, Int.reduceToNat] <;> exact rfl) | refine qw_nil ?_ | refine cw_block ?_ | refine cw_scope ?_ | refine cw_label ?_ | refine cw_skip ?_)
    refine cw_condT (by simp only [push_cast, env, Nat.reduceEqDiff, reduceIte, Nat.reduceAdd, Nat.reduceMul, Nat.reduceLeDiff, reduceCtorEq, Nat.reduceSub, Int.reduceToNat] <;> exact rfl) ?_
    repeat (first | refine cw_seq ?_ | refine cw_region ?_ | refine ow_nil ?_ | ((first | apply ow_cons | apply qw_cons); · simp only [push_cast, env, Nat.reduceEqDiff, reduceIte, Nat.reduceAdd, Nat.reduceMul, Nat.reduceLeDiff, reduceCtorEq, Nat.reduceSub, Int.reduceToNat] <;> exact rfl) | ((first | apply ow_spec | apply qw_spec); · simp only [push_cast, env, Nat.reduceEqDiff, reduceIte, Nat.reduceAdd, Nat.reduceMul, Nat.reduceLeDiff, reduceCtorEq, Nat.reduceSub, Int.reduceToNat] <;> exact rfl) | refine qw_nil ?_ | refine cw_block ?_ | refine cw_scope ?_ | refine cw_label ?_ | refine cw_skip ?_)
    refine cw_ret ?_
    exact ⟨_, (by simp only [push_cast, env, Nat.reduceEqDiff, reduceIte, Nat.reduceAdd, Nat.reduceMul, Nat.reduceLeDiff, reduceCtorEq, Nat.reduceSub, Int.reduceToNat] <;> exact rfl), ⟨_, by rw [e0]; rfl, .inl ⟨hb, rfl⟩⟩, List.prefix_refl _⟩
  have e0 : rightG g = 0 := if_neg hb
  rw [e0]
  repeat (first | refine cw_seq ?_ | refine cw_region ?_ | refine ow_nil ?_ | ((first | apply ow_cons | apply qw_cons); · simp only [push_cast, env, Nat.reduceEqDiff, reduceIte, Nat.reduceAdd, Nat.reduceMul, Nat.reduceLeDiff, reduceCtorEq, Nat.reduceSub, Int.reduceToNat] <;> exact rfl) | ((first | apply ow_spec | apply qw_spec); · simp only [push_cast, env, Nat.reduceEqDiff, reduceIte, Nat.reduceAdd, Nat.reduceMul, Nat.reduceLeDiff, reduceCtorEq, Nat.reduceSub, Int.reduceToNat] <;> exact rfl) | refine qw_nil ?_ | refine cw_block ?_ | refine cw_scope ?_ | refine cw_label ?_ | refine cw_skip ?_)
  refine cw_condF (by simp only [push_cast, env, Nat.reduceEqDiff, reduceIte, Nat.reduceAdd, Nat.reduceMul, Nat.reduceLeDiff, reduceCtorEq, Nat.reduceSub, Int.reduceToNat] <;> exact rfl) ?_
  have R := rightS hb
  have n1 := R.n1
  have n2 := R.n2
  obtain ⟨N, hN⟩ : ∃ N : Nat, g.nts = N := ⟨g.nts.toNat, by omega⟩
  repeat (first | refine cw_seq ?_ | refine cw_region ?_ | refine ow_nil ?_ | ((first | apply ow_cons | apply qw_cons); · simp only [push_cast, env, Nat.reduceEqDiff, reduceIte, Nat.reduceAdd, Nat.reduceMul, Nat.reduceLeDiff, reduceCtorEq, Nat.reduceSub, Int.reduceToNat] <;> exact rfl) | ((first | apply ow_spec | apply qw_spec); · simp only [push_cast, env, Nat.reduceEqDiff, reduceIte, Nat.reduceAdd, Nat.reduceMul, Nat.reduceLeDiff, reduceCtorEq, Nat.reduceSub, Int.reduceToNat] <;> exact rfl) | refine qw_nil ?_ | refine cw_block ?_ | refine cw_scope ?_ | refine cw_label ?_ | refine cw_skip ?_)
  refine ow_mkInt (N := N) (by simp only [push_cast, env, Nat.reduceEqDiff, reduceIte, Nat.reduceAdd, Nat.reduceMul, Nat.reduceLeDiff, reduceCtorEq, Nat.reduceSub, Int.reduceToNat] <;> exact rfl) rfl (by simp only [push_cast, env, Nat.reduceEqDiff, reduceIte, Nat.reduceAdd, Nat.reduceMul, Nat.reduceLeDiff, reduceCtorEq, Nat.reduceSub, Int.reduceToNat] <;> exact rfl) hN (by omega) ?_
  repeat (first | refine cw_seq ?_ | refine cw_region ?_ | refine ow_nil ?_ | ((first | apply ow_cons | apply qw_cons); · simp only [push_cast, env, Nat.reduceEqDiff, reduceIte, Nat.reduceAdd, Nat.reduceMul, Nat.reduceLeDiff, reduceCtorEq, Nat.reduceSub, Int.reduceToNat] <;> exact rfl) | ((first | apply ow_spec | apply qw_spec); · simp only [push_cast, env, Nat.reduceEqDiff, reduceIte, Nat.reduceAdd, Nat.reduceMul, Nat.reduceLeDiff, reduceCtorEq, Nat.reduceSub, Int.reduceToNat] <;> exact rfl) | refine qw_nil ?_ | refine cw_block ?_ | refine cw_scope ?_ | refine cw_label ?_ | refine cw_skip ?_)
  refine cw_for N (fun k => [(1, .box [i64 g.nts, i64 g.start, .slice p g.rules.length c]), (5, .val (.slice (some ⟨h.length, 0, some 0⟩) N N)), (22, .val (i64 N)), (23, .val (i64 k))]) (fun k => h ++ [.arr ((List.replicate k (-1 : Int) ++ List.replicate (N - k) 0).map i64) 0 true 3]) (fun _ => True) (by simp only [push_cast, SubL, fget, Nat.reduceEqDiff, reduceIte]) (by simp) trivial ?_
  intro k hk _
  by_cases hlt : k < N
  · have e1 := rng hlt
    have e2 := inc hlt (by omega)
    have e3 := lt_dec hlt
    repeat (first | refine cw_seq ?_ | refine cw_region ?_ | refine ow_nil ?_ | ((first | apply ow_cons | apply qw_cons); · simp only [push_cast, env, Nat.reduceEqDiff, reduceIte, Nat.reduceAdd, Nat.reduceMul, Nat.reduceLeDiff, reduceCtorEq, Nat.reduceSub, Int.reduceToNat, e3] <;> exact rfl) | ((first | apply ow_spec | apply qw_spec); · simp only [push_cast, env, Nat.reduceEqDiff, reduceIte, Nat.reduceAdd, Nat.reduceMul, Nat.reduceLeDiff, reduceCtorEq, Nat.reduceSub, Int.reduceToNat, e3] <;> exact rfl) | refine qw_nil ?_ | refine cw_block ?_ | refine cw_scope ?_ | refine cw_label ?_ | refine cw_skip ?_)
    refine cw_condT (by simp only [push_cast, env, Nat.reduceEqDiff, reduceIte, Nat.reduceAdd, Nat.reduceMul, Nat.reduceLeDiff, reduceCtorEq, Nat.reduceSub, Int.reduceToNat] <;> exact rfl) ?_
    repeat (first | refine cw_seq ?_ | refine cw_region ?_ | refine ow_nil ?_ | ((first | apply ow_cons | apply qw_cons); · simp only [push_cast, env, Nat.reduceEqDiff, reduceIte, Nat.reduceAdd, Nat.reduceMul, Nat.reduceLeDiff, reduceCtorEq, Nat.reduceSub, Int.reduceToNat, e1] <;> exact rfl) | ((first | apply ow_spec | apply qw_spec); · simp only [push_cast, env, Nat.reduceEqDiff, reduceIte, Nat.reduceAdd, Nat.reduceMul, Nat.reduceLeDiff, reduceCtorEq, Nat.reduceSub, Int.reduceToNat, e1] <;> exact rfl) | refine qw_nil ?_ | refine cw_block ?_ | refine cw_scope ?_ | refine cw_label ?_ | refine cw_skip ?_)
    refine ow_stoH (by simp only [push_cast, env, Nat.reduceEqDiff, reduceIte, Nat.reduceAdd, Nat.reduceMul, Nat.reduceLeDiff, reduceCtorEq, Nat.reduceSub, Int.reduceToNat] <;> exact rfl) rfl rfl (by simp only [push_cast, env, Nat.reduceEqDiff, reduceIte, Nat.reduceAdd, Nat.reduceMul, Nat.reduceLeDiff, reduceCtorEq, Nat.reduceSub, Int.reduceToNat] <;> exact rfl) (by simp only [push_cast, env, Nat.reduceEqDiff, reduceIte, Nat.reduceAdd, Nat.reduceMul, Nat.reduceLeDiff, reduceCtorEq, Nat.reduceSub, Int.reduceToNat, e1, Nat.mul_one] <;> exact rfl) get_push rfl rfl (wr_map (f := i64) (x := -1) (by simp; omega)) ?_
    repeat (first | refine cw_seq ?_ | refine cw_region ?_ | refine ow_nil ?_ | ((first | apply ow_cons | apply qw_cons); · simp only [push_cast, env, Nat.reduceEqDiff, reduceIte, Nat.reduceAdd, Nat.reduceMul, Nat.reduceLeDiff, reduceCtorEq, Nat.reduceSub, Int.reduceToNat, e2] <;> exact rfl) | ((first | apply ow_spec | apply qw_spec); · simp only [push_cast, env, Nat.reduceEqDiff, reduceIte, Nat.reduceAdd, Nat.reduceMul, Nat.reduceLeDiff, reduceCtorEq, Nat.reduceSub, Int.reduceToNat, e2] <;> exact rfl) | refine qw_nil ?_ | refine cw_block ?_ | refine cw_scope ?_ | refine cw_label ?_ | refine cw_skip ?_)
    exact ⟨hlt, (by simp only [push_cast, SubL, fget, Nat.reduceEqDiff, reduceIte]), by simp only []; rw [set_rep hlt]; simp, trivial⟩
  have e3 := ge_dec hlt
  obtain rfl : k = N := by omega
  rw [Nat.sub_self, List.replicate_zero, List.append_nil]
  repeat (first | refine cw_seq ?_ | refine cw_region ?_ | refine ow_nil ?_ | ((first | apply ow_cons | apply qw_cons); · simp only [push_cast, env, Nat.reduceEqDiff, reduceIte, Nat.reduceAdd, Nat.reduceMul, Nat.reduceLeDiff, reduceCtorEq, Nat.reduceSub, Int.reduceToNat, e3] <;> exact rfl) | ((first | apply ow_spec | apply qw_spec); · simp only [push_cast, env, Nat.reduceEqDiff, reduceIte, Nat.reduceAdd, Nat.reduceMul, Nat.reduceLeDiff, reduceCtorEq, Nat.reduceSub, Int.reduceToNat, e3] <;> exact rfl) | refine qw_nil ?_ | refine cw_block ?_ | refine cw_scope ?_ | refine cw_label ?_ | refine cw_skip ?_)
  refine cw_condF (by simp only [push_cast, env, Nat.reduceEqDiff, reduceIte, Nat.reduceAdd, Nat.reduceMul, Nat.reduceLeDiff, reduceCtorEq, Nat.reduceSub, Int.reduceToNat] <;> exact rfl) ?_
  refine cw_exit ?_
  show CW _ _ _ _
  repeat (first | refine cw_seq ?_ | refine cw_region ?_ | refine ow_nil ?_ | ((first | apply ow_cons | apply qw_cons); · simp only [push_cast, env, Nat.reduceEqDiff, reduceIte, Nat.reduceAdd, Nat.reduceMul, Nat.reduceLeDiff, reduceCtorEq, Nat.reduceSub, Int.reduceToNat] <;> exact rfl) | ((first | apply ow_spec | apply qw_spec); · simp only [push_cast, env, Nat.reduceEqDiff, reduceIte, Nat.reduceAdd, Nat.reduceMul, Nat.reduceLeDiff, reduceCtorEq, Nat.reduceSub, Int.reduceToNat] <;> exact rfl) | refine qw_nil ?_ | refine cw_block ?_ | refine cw_scope ?_ | refine cw_label ?_ | refine cw_skip ?_)
  refine cw_wh (fun x : LG => 2 * gaps x.out + x.ch.toNat) (fun x => [(1, .box [i64 g.nts, i64 g.start, .slice p g.rules.length c]), (5, .val (.slice (some ⟨h.length, 0, some 0⟩) k k)), (7, .val (.bool x.ch))]) (fun x => x.hk)
    (fun x => LGI h h.length x ∧ LInv g x.out ∧ (x.ch = false → ∀ r ∈ g.rules, LClosed x.out r)) ⟨_, List.replicate k (-1), true⟩ (by simp only [push_cast, SubL, fget, Nat.reduceEqDiff, reduceIte]) rfl ⟨⟨prefix_push, get_push⟩, ⟨by simp [hN], fun i _ _ => .inl iget_rep⟩, by simp⟩ ?_
  rintro ⟨hk0, out0, ch0⟩ ⟨⟨hp0, ho0⟩, hI0, hc0⟩
  simp only at hp0 ho0 hI0 hc0 ⊢
  have hn0 := hI0.n
  cases ch0 with
  | false =>
    repeat (first | refine cw_seq ?_ | refine cw_region ?_ | refine ow_nil ?_ | ((first | apply ow_cons | apply qw_cons); · simp only [push_cast, env, Nat.reduceEqDiff, reduceIte, Nat.reduceAdd, Nat.reduceMul, Nat.reduceLeDiff, reduceCtorEq, Nat.reduceSub, Int.reduceToNat] <;> exact rfl) | ((first | apply ow_spec | apply qw_spec); · simp only [push_cast, env, Nat.reduceEqDiff, reduceIte, Nat.reduceAdd, Nat.reduceMul, Nat.reduceLeDiff, reduceCtorEq, Nat.reduceSub, Int.reduceToNat] <;> exact rfl) | refine qw_nil ?_ | refine cw_block ?_ | refine cw_scope ?_ | refine cw_label ?_ | refine cw_skip ?_)
    refine cw_condF (by simp only [push_cast, env, Nat.reduceEqDiff, reduceIte, Nat.reduceAdd, Nat.reduceMul, Nat.reduceLeDiff, reduceCtorEq, Nat.reduceSub, Int.reduceToNat] <;> exact rfl) ?_
    refine cw_exit ?_
    show CW _ _ _ _
    repeat (first | refine cw_seq ?_ | refine cw_region ?_ | refine ow_nil ?_ | ((first | apply ow_cons | apply qw_cons); · simp only [push_cast, env, Nat.reduceEqDiff, reduceIte, Nat.reduceAdd, Nat.reduceMul, Nat.reduceLeDiff, reduceCtorEq, Nat.reduceSub, Int.reduceToNat] <;> exact rfl) | ((first | apply ow_spec | apply qw_spec); · simp only [push_cast, env, Nat.reduceEqDiff, reduceIte, Nat.reduceAdd, Nat.reduceMul, Nat.reduceLeDiff, reduceCtorEq, Nat.reduceSub, Int.reduceToNat] <;> exact rfl) | refine qw_nil ?_ | refine cw_block ?_ | refine cw_scope ?_ | refine cw_label ?_ | refine cw_skip ?_)
    refine cw_ret ?_
    refine ⟨_, (by simp only [push_cast, env, Nat.reduceEqDiff, reduceIte, Nat.reduceAdd, Nat.reduceMul, Nat.reduceLeDiff, reduceCtorEq, Nat.reduceSub, Int.reduceToNat] <;> exact rfl), ⟨_, by rw [e0]; rfl, .inr ⟨hb, out0, hI0.closed (hc0 rfl), h.length, 0, Nat.le_refl _, ?_, ho0⟩⟩, hp0⟩
    rw [show out0.length = k by omega]
  | true =>
  repeat (first | refine cw_seq ?_ | refine cw_region ?_ | refine ow_nil ?_ | ((first | apply ow_cons | apply qw_cons); · simp only [push_cast, env, Nat.reduceEqDiff, reduceIte, Nat.reduceAdd, Nat.reduceMul, Nat.reduceLeDiff, reduceCtorEq, Nat.reduceSub, Int.reduceToNat] <;> exact rfl) | ((first | apply ow_spec | apply qw_spec); · simp only [push_cast, env, Nat.reduceEqDiff, reduceIte, Nat.reduceAdd, Nat.reduceMul, Nat.reduceLeDiff, reduceCtorEq, Nat.reduceSub, Int.reduceToNat] <;> exact rfl) | refine qw_nil ?_ | refine cw_block ?_ | refine cw_scope ?_ | refine cw_label ?_ | refine cw_skip ?_)
  refine cw_condT (by simp only [push_cast, env, Nat.reduceEqDiff, reduceIte, Nat.reduceAdd, Nat.reduceMul, Nat.reduceLeDiff, reduceCtorEq, Nat.reduceSub, Int.reduceToNat] <;> exact rfl) ?_
  repeat (first | refine cw_seq ?_ | refine cw_region ?_ | refine ow_nil ?_ | ((first | apply ow_cons | apply qw_cons); · simp only [push_cast, env, Nat.reduceEqDiff, reduceIte, Nat.reduceAdd, Nat.reduceMul, Nat.reduceLeDiff, reduceCtorEq, Nat.reduceSub, Int.reduceToNat] <;> exact rfl) | ((first | apply ow_spec | apply qw_spec); · simp only [push_cast, env, Nat.reduceEqDiff, reduceIte, Nat.reduceAdd, Nat.reduceMul, Nat.reduceLeDiff, reduceCtorEq, Nat.reduceSub, Int.reduceToNat] <;> exact rfl) | refine qw_nil ?_ | refine cw_block ?_ | refine cw_scope ?_ | refine cw_label ?_ | refine cw_skip ?_)
  refine cw_forG g.rules.length (fun i (x : LG) => [(1, .box [i64 g.nts, i64 g.start, .slice p g.rules.length c]), (5, .val (.slice (some ⟨h.length, 0, some 0⟩) k k)), (7, .val (.bool x.ch)), (32, .val (.slice p g.rules.length c)), (33, .val (i64 g.rules.length)), (34, .val (i64 i))]) (fun _ x => x.hk)
    (fun i x => LGI h h.length x ∧ LInv g x.out ∧ gaps x.out ≤ gaps out0 ∧ (x.ch = true → gaps x.out < gaps out0) ∧ (x.ch = false → ∀ r ∈ g.rules.take i, LClosed x.out r)) ⟨hk0, out0, false⟩ (by simp only [push_cast, SubL, fget, Nat.reduceEqDiff, reduceIte]) rfl ⟨⟨hp0, ho0⟩, hI0, Nat.le_refl _, by simp, by simp⟩ ?_
  rintro i ⟨hk1, out, ch⟩ hin ⟨⟨hp, ho⟩, hI, hle1, hch1, hcl⟩
  simp only at hp ho hI hle1 hch1 hcl ⊢
  have hn := hI.n
  by_cases hlt : i < g.rules.length
  · obtain ⟨id, ver, own, c', cells, p', n', c2, hv, hid, hn, hrd, hu'⟩ := hu.at hlt
    cases hv
    subst hn
    have e0 := rdH_get0 hrd (by omega)
    have e0' := rdH_get (j := 1) hrd (by omega)
    simp only [List.getElem?_cons_succ, List.getElem?_cons_zero] at e0 e0'
    have e1 := rng hlt
    have e2 := inc hlt hle
    have e3 := lt_dec hlt
    have hmem : g.rules[i] ∈ _ := List.getElem_mem hlt
    have hn2 := RdSyms.le hu'
    obtain ⟨a1, a2, a3, hS⟩ := R.r _ hmem
    have hid2 := getElem?_prefix hp hid
    have r1 := rng0 (N := k) a1 (by omega)
    have sl := iget_map (l := out) a1 (by omega)
    have hir := hI.range a1 a2
    repeat (first | refine cw_seq ?_ | refine cw_region ?_ | refine ow_nil ?_ | ((first | apply ow_cons | apply qw_cons); · simp only [push_cast, env, Nat.reduceEqDiff, reduceIte, Nat.reduceAdd, Nat.reduceMul, Nat.reduceLeDiff, reduceCtorEq, Nat.reduceSub, Int.reduceToNat, e1, hid2, hrd, e3] <;> exact rfl) | ((first | apply ow_spec | apply qw_spec); · simp only [push_cast, env, Nat.reduceEqDiff, reduceIte, Nat.reduceAdd, Nat.reduceMul, Nat.reduceLeDiff, reduceCtorEq, Nat.reduceSub, Int.reduceToNat, e1, hid2, hrd, e3] <;> exact rfl) | refine qw_nil ?_ | refine cw_block ?_ | refine cw_scope ?_ | refine cw_label ?_ | refine cw_skip ?_)
    refine cw_condT (by simp only [push_cast, env, Nat.reduceEqDiff, reduceIte, Nat.reduceAdd, Nat.reduceMul, Nat.reduceLeDiff, reduceCtorEq, Nat.reduceSub, Int.reduceToNat] <;> exact rfl) ?_
    repeat (first | refine cw_seq ?_ | refine cw_region ?_ | refine ow_nil ?_ | ((first | apply ow_cons | apply qw_cons); · simp only [push_cast, env, Nat.reduceEqDiff, reduceIte, Nat.reduceAdd, Nat.reduceMul, Nat.reduceLeDiff, reduceCtorEq, Nat.reduceSub, Int.reduceToNat, e1, hid2, hrd] <;> exact rfl) | ((first | apply ow_spec | apply qw_spec); · simp only [push_cast, env, Nat.reduceEqDiff, reduceIte, Nat.reduceAdd, Nat.reduceMul, Nat.reduceLeDiff, reduceCtorEq, Nat.reduceSub, Int.reduceToNat, e1, hid2, hrd] <;> exact rfl) | refine qw_nil ?_ | refine cw_block ?_ | refine cw_scope ?_ | refine cw_label ?_ | refine cw_skip ?_)
    refine cw_for g.rules[i].rhs.length (fun j => [(1, .box [i64 g.nts, i64 g.start, .slice (some ⟨id, 0, some ver⟩) g.rules.length c]), (5, .val (.slice (some ⟨h.length, 0, some 0⟩) k k)), (7, .val (.bool ch)), (9, .box [i64 g.rules[i].lhs, .slice p' g.rules[i].rhs.length c2]), (10, .val (i64 (psum out (g.rules[i].rhs.take j)))), (32, .val (.slice (some ⟨id, 0, some ver⟩) g.rules.length c)), (33, .val (i64 g.rules.length)), (34, .val (i64 i)), (39, .val (.slice p' g.rules[i].rhs.length c2)), (40, .val (i64 g.rules[i].rhs.length)), (41, .val (i64 j))]) (fun _ => hk1)
      (fun j => ∀ s ∈ g.rules[i].rhs.take j, 0 ≤ slen out s) (by simp only [push_cast, SubL, fget, Nat.reduceEqDiff, reduceIte, List.take_zero, psum, List.map_nil, List.sum_nil]) rfl (by simp) ?_
    intro j hj hJ
    have hps := psum_nonneg hJ
    have hpl := psum_le (k := out) (l := g.rules[i].rhs.take j) fun s hs => (hI.slen (hS s (List.mem_of_mem_take hs)).2.1).2
    rw [List.length_take, Nat.min_eq_left hj] at hpl
    by_cases hjl : j < g.rules[i].rhs.length
    · obtain ⟨id2, ver2, own2, c3, cells2, hv2, hid2, hrd2⟩ := hu'.at hjl
      cases hv2
      have e9 := rng hjl
      have e10 := inc hjl (by omega)
      have e11 := lt_dec hjl
      have g0 := rdH_get0 hrd2 (by omega)
      simp only [List.getElem?_cons_zero] at g0
      have hmem2 : g.rules[i].rhs[j] ∈ _ := List.getElem_mem hjl
      have hs2 := hS _ hmem2
      have hid4 := getElem?_prefix hp hid2
      have hpt := psum_take (k := out) hjl
      have hb2 := hI.slen hs2.2.1
      have hskip : slen out g.rules[i].rhs[j] < 0 → LClosed out g.rules[i] := fun h0 h1 => by rw [rlen_no hmem2 h0] at h1; omega
      repeat (first | refine cw_seq ?_ | refine cw_region ?_ | refine ow_nil ?_ | ((first | apply ow_cons | apply qw_cons); · simp only [push_cast, env, Nat.reduceEqDiff, reduceIte, Nat.reduceAdd, Nat.reduceMul, Nat.reduceLeDiff, reduceCtorEq, Nat.reduceSub, Int.reduceToNat, e9, hid4, hrd2, e11] <;> exact rfl) | ((first | apply ow_spec | apply qw_spec); · simp only [push_cast, env, Nat.reduceEqDiff, reduceIte, Nat.reduceAdd, Nat.reduceMul, Nat.reduceLeDiff, reduceCtorEq, Nat.reduceSub, Int.reduceToNat, e9, hid4, hrd2, e11] <;> exact rfl) | refine qw_nil ?_ | refine cw_block ?_ | refine cw_scope ?_ | refine cw_label ?_ | refine cw_skip ?_)
      refine cw_condT (by simp only [push_cast, env, Nat.reduceEqDiff, reduceIte, Nat.reduceAdd, Nat.reduceMul, Nat.reduceLeDiff, reduceCtorEq, Nat.reduceSub, Int.reduceToNat] <;> exact rfl) ?_
      repeat (first | refine cw_seq ?_ | refine cw_region ?_ | refine ow_nil ?_ | ((first | apply ow_cons | apply qw_cons); · simp only [push_cast, env, Nat.reduceEqDiff, reduceIte, Nat.reduceAdd, Nat.reduceMul, Nat.reduceLeDiff, reduceCtorEq, Nat.reduceSub, Int.reduceToNat, e9, hid4, hrd2] <;> exact rfl) | ((first | apply ow_spec | apply qw_spec); · simp only [push_cast, env, Nat.reduceEqDiff, reduceIte, Nat.reduceAdd, Nat.reduceMul, Nat.reduceLeDiff, reduceCtorEq, Nat.reduceSub, Int.reduceToNat, e9, hid4, hrd2] <;> exact rfl) | refine qw_nil ?_ | refine cw_block ?_ | refine cw_scope ?_ | refine cw_label ?_ | refine cw_skip ?_)
      by_cases h0 : 0 ≤ g.rules[i].rhs[j].nt
      · have d0 := decide_eq_true h0
        have d1 : decide (g.rules[i].rhs[j].nt < 0) = false := decide_eq_false (by omega)
        have e : slen out g.rules[i].rhs[j] = iget out g.rules[i].rhs[j].nt := if_pos h0
        have q1 := rng0 (N := k) h0 (by omega)
        have q2 := iget_map (l := out) h0 (by omega)
        by_cases h1 : 0 ≤ iget out g.rules[i].rhs[j].nt
        · have d2 := decide_eq_true h1
          repeat (first | refine cw_seq ?_ | refine cw_region ?_ | refine ow_nil ?_ | ((first | apply ow_cons | apply qw_cons); · simp only [push_cast, env, Nat.reduceEqDiff, reduceIte, Nat.reduceAdd, Nat.reduceMul, Nat.reduceLeDiff, reduceCtorEq, Nat.reduceSub, Int.reduceToNat, d0, q1, ho, q2, Nat.mul_one, d2] <;> exact rfl) | ((first | apply ow_spec | apply qw_spec); · simp only [push_cast, env, Nat.reduceEqDiff, reduceIte, Nat.reduceAdd, Nat.reduceMul, Nat.reduceLeDiff, reduceCtorEq, Nat.reduceSub, Int.reduceToNat, d0, q1, ho, q2, Nat.mul_one, d2] <;> exact rfl) | refine qw_nil ?_ | refine cw_block ?_ | refine cw_scope ?_ | refine cw_label ?_ | refine cw_skip ?_)
          refine cw_condT (by simp only [push_cast, env, Nat.reduceEqDiff, reduceIte, Nat.reduceAdd, Nat.reduceMul, Nat.reduceLeDiff, reduceCtorEq, Nat.reduceSub, Int.reduceToNat] <;> exact rfl) ?_
          have e4 : IntKind.i64.wrap (psum out (g.rules[i].rhs.take j) + iget out g.rules[i].rhs[j].nt) = psum out (g.rules[i].rhs.take (j + 1)) := by rw [hpt, e]; exact wrap64_id (by omega) (by omega)
          repeat (first | refine cw_seq ?_ | refine cw_region ?_ | refine ow_nil ?_ | ((first | apply ow_cons | apply qw_cons); · simp only [push_cast, env, Nat.reduceEqDiff, reduceIte, Nat.reduceAdd, Nat.reduceMul, Nat.reduceLeDiff, reduceCtorEq, Nat.reduceSub, Int.reduceToNat, q1, ho, q2, Nat.mul_one,e4, e10] <;> exact rfl) | ((first | apply ow_spec | apply qw_spec); · simp only [push_cast, env, Nat.reduceEqDiff, reduceIte, Nat.reduceAdd, Nat.reduceMul, Nat.reduceLeDiff, reduceCtorEq, Nat.reduceSub, Int.reduceToNat, q1, ho, q2, Nat.mul_one,e4, e10] <;> exact rfl) | refine qw_nil ?_ | refine cw_block ?_ | refine cw_scope ?_ | refine cw_label ?_ | refine cw_skip ?_)
          exact ⟨hjl, (by simp only [push_cast, SubL, fget, Nat.reduceEqDiff, reduceIte]), rfl, take_forall' hjl hJ (by omega)⟩
        · have d2 := decide_eq_false h1
          repeat (first | refine cw_seq ?_ | refine cw_region ?_ | refine ow_nil ?_ | ((first | apply ow_cons | apply qw_cons); · simp only [push_cast, env, Nat.reduceEqDiff, reduceIte, Nat.reduceAdd, Nat.reduceMul, Nat.reduceLeDiff, reduceCtorEq, Nat.reduceSub, Int.reduceToNat, d0, q1, ho, q2, Nat.mul_one, d2] <;> exact rfl) | ((first | apply ow_spec | apply qw_spec); · simp only [push_cast, env, Nat.reduceEqDiff, reduceIte, Nat.reduceAdd, Nat.reduceMul, Nat.reduceLeDiff, reduceCtorEq, Nat.reduceSub, Int.reduceToNat, d0, q1, ho, q2, Nat.mul_one, d2] <;> exact rfl) | refine qw_nil ?_ | refine cw_block ?_ | refine cw_scope ?_ | refine cw_label ?_ | refine cw_skip ?_)
          refine cw_condF (by simp only [push_cast, env, Nat.reduceEqDiff, reduceIte, Nat.reduceAdd, Nat.reduceMul, Nat.reduceLeDiff, reduceCtorEq, Nat.reduceSub, Int.reduceToNat] <;> exact rfl) ?_
          repeat (first | refine cw_seq ?_ | refine cw_region ?_ | refine ow_nil ?_ | ((first | apply ow_cons | apply qw_cons); · simp only [push_cast, env, Nat.reduceEqDiff, reduceIte, Nat.reduceAdd, Nat.reduceMul, Nat.reduceLeDiff, reduceCtorEq, Nat.reduceSub, Int.reduceToNat, d1] <;> exact rfl) | ((first | apply ow_spec | apply qw_spec); · simp only [push_cast, env, Nat.reduceEqDiff, reduceIte, Nat.reduceAdd, Nat.reduceMul, Nat.reduceLeDiff, reduceCtorEq, Nat.reduceSub, Int.reduceToNat, d1] <;> exact rfl) | refine qw_nil ?_ | refine cw_block ?_ | refine cw_scope ?_ | refine cw_label ?_ | refine cw_skip ?_)
          refine cw_condF (by simp only [push_cast, env, Nat.reduceEqDiff, reduceIte, Nat.reduceAdd, Nat.reduceMul, Nat.reduceLeDiff, reduceCtorEq, Nat.reduceSub, Int.reduceToNat] <;> exact rfl) ?_
          refine cw_exit ?_
          show CW _ _ _ _
          repeat (first | refine cw_seq ?_ | refine cw_region ?_ | refine ow_nil ?_ | ((first | apply ow_cons | apply qw_cons); · simp only [push_cast, env, Nat.reduceEqDiff, reduceIte, Nat.reduceAdd, Nat.reduceMul, Nat.reduceLeDiff, reduceCtorEq, Nat.reduceSub, Int.reduceToNat, e2] <;> exact rfl) | ((first | apply ow_spec | apply qw_spec); · simp only [push_cast, env, Nat.reduceEqDiff, reduceIte, Nat.reduceAdd, Nat.reduceMul, Nat.reduceLeDiff, reduceCtorEq, Nat.reduceSub, Int.reduceToNat, e2] <;> exact rfl) | refine qw_nil ?_ | refine cw_block ?_ | refine cw_scope ?_ | refine cw_label ?_ | refine cw_skip ?_)
          exact ⟨hlt, ⟨hk1, out, ch⟩, (by simp only [push_cast, SubL, fget, Nat.reduceEqDiff, reduceIte]), rfl, ⟨hp, ho⟩, hI, hle1, hch1, fun hc => take_forall' hlt (hcl hc) (hskip (by omega))⟩
      · have d0 := decide_eq_false h0
        have d1 : decide (g.rules[i].rhs[j].nt < 0) = true := decide_eq_true (by omega)
        repeat (first | refine cw_seq ?_ | refine cw_region ?_ | refine ow_nil ?_ | ((first | apply ow_cons | apply qw_cons); · simp only [push_cast, env, Nat.reduceEqDiff, reduceIte, Nat.reduceAdd, Nat.reduceMul, Nat.reduceLeDiff, reduceCtorEq, Nat.reduceSub, Int.reduceToNat, d0] <;> exact rfl) | ((first | apply ow_spec | apply qw_spec); · simp only [push_cast, env, Nat.reduceEqDiff, reduceIte, Nat.reduceAdd, Nat.reduceMul, Nat.reduceLeDiff, reduceCtorEq, Nat.reduceSub, Int.reduceToNat, d0] <;> exact rfl) | refine qw_nil ?_ | refine cw_block ?_ | refine cw_scope ?_ | refine cw_label ?_ | refine cw_skip ?_)
        refine cw_condF (by simp only [push_cast, env, Nat.reduceEqDiff, reduceIte, Nat.reduceAdd, Nat.reduceMul, Nat.reduceLeDiff, reduceCtorEq, Nat.reduceSub, Int.reduceToNat] <;> exact rfl) ?_
        by_cases h1 : g.rules[i].rhs[j].set = BSet.zero
        · have d2 := decide_eq_true h1
          have e : slen out g.rules[i].rhs[j] = -1 := by unfold slen; rw [if_neg h0, if_neg (by simpa using h1)]
          repeat (first | refine cw_seq ?_ | refine cw_region ?_ | refine ow_nil ?_ | ((first | apply ow_cons | apply qw_cons); · simp only [push_cast, env, Nat.reduceEqDiff, reduceIte, Nat.reduceAdd, Nat.reduceMul, Nat.reduceLeDiff, reduceCtorEq, Nat.reduceSub, Int.reduceToNat, d1, set_zero, d2] <;> exact rfl) | ((first | apply ow_spec | apply qw_spec); · simp only [push_cast, env, Nat.reduceEqDiff, reduceIte, Nat.reduceAdd, Nat.reduceMul, Nat.reduceLeDiff, reduceCtorEq, Nat.reduceSub, Int.reduceToNat, d1, set_zero, d2] <;> exact rfl) | refine qw_nil ?_ | refine cw_block ?_ | refine cw_scope ?_ | refine cw_label ?_ | refine cw_skip ?_)
          refine cw_condF (by simp only [push_cast, env, Nat.reduceEqDiff, reduceIte, Nat.reduceAdd, Nat.reduceMul, Nat.reduceLeDiff, reduceCtorEq, Nat.reduceSub, Int.reduceToNat] <;> exact rfl) ?_
          refine cw_exit ?_
          show CW _ _ _ _
          repeat (first | refine cw_seq ?_ | refine cw_region ?_ | refine ow_nil ?_ | ((first | apply ow_cons | apply qw_cons); · simp only [push_cast, env, Nat.reduceEqDiff, reduceIte, Nat.reduceAdd, Nat.reduceMul, Nat.reduceLeDiff, reduceCtorEq, Nat.reduceSub, Int.reduceToNat, e2] <;> exact rfl) | ((first | apply ow_spec | apply qw_spec); · simp only [push_cast, env, Nat.reduceEqDiff, reduceIte, Nat.reduceAdd, Nat.reduceMul, Nat.reduceLeDiff, reduceCtorEq, Nat.reduceSub, Int.reduceToNat, e2] <;> exact rfl) | refine qw_nil ?_ | refine cw_block ?_ | refine cw_scope ?_ | refine cw_label ?_ | refine cw_skip ?_)
          exact ⟨hlt, ⟨hk1, out, ch⟩, (by simp only [push_cast, SubL, fget, Nat.reduceEqDiff, reduceIte]), rfl, ⟨hp, ho⟩, hI, hle1, hch1, fun hc => take_forall' hlt (hcl hc) (hskip (by omega))⟩
        · have d2 := decide_eq_false h1
          have e : slen out g.rules[i].rhs[j] = 1 := by unfold slen; rw [if_neg h0, if_pos h1]
          repeat (first | refine cw_seq ?_ | refine cw_region ?_ | refine ow_nil ?_ | ((first | apply ow_cons | apply qw_cons); · simp only [push_cast, env, Nat.reduceEqDiff, reduceIte, Nat.reduceAdd, Nat.reduceMul, Nat.reduceLeDiff, reduceCtorEq, Nat.reduceSub, Int.reduceToNat, d1, set_zero, d2] <;> exact rfl) | ((first | apply ow_spec | apply qw_spec); · simp only [push_cast, env, Nat.reduceEqDiff, reduceIte, Nat.reduceAdd, Nat.reduceMul, Nat.reduceLeDiff, reduceCtorEq, Nat.reduceSub, Int.reduceToNat, d1, set_zero, d2] <;> exact rfl) | refine qw_nil ?_ | refine cw_block ?_ | refine cw_scope ?_ | refine cw_label ?_ | refine cw_skip ?_)
          refine cw_condT (by simp only [push_cast, env, Nat.reduceEqDiff, reduceIte, Nat.reduceAdd, Nat.reduceMul, Nat.reduceLeDiff, reduceCtorEq, Nat.reduceSub, Int.reduceToNat] <;> exact rfl) ?_
          have e4 : IntKind.i64.wrap (psum out (g.rules[i].rhs.take j) + 1) = psum out (g.rules[i].rhs.take (j + 1)) := by rw [hpt, e]; exact wrap64_id (by omega) (by omega)
          repeat (first | refine cw_seq ?_ | refine cw_region ?_ | refine ow_nil ?_ | ((first | apply ow_cons | apply qw_cons); · simp only [push_cast, env, Nat.reduceEqDiff, reduceIte, Nat.reduceAdd, Nat.reduceMul, Nat.reduceLeDiff, reduceCtorEq, Nat.reduceSub, Int.reduceToNat, e4, e10] <;> exact rfl) | ((first | apply ow_spec | apply qw_spec); · simp only [push_cast, env, Nat.reduceEqDiff, reduceIte, Nat.reduceAdd, Nat.reduceMul, Nat.reduceLeDiff, reduceCtorEq, Nat.reduceSub, Int.reduceToNat, e4, e10] <;> exact rfl) | refine qw_nil ?_ | refine cw_block ?_ | refine cw_scope ?_ | refine cw_label ?_ | refine cw_skip ?_)
          exact ⟨hjl, (by simp only [push_cast, SubL, fget, Nat.reduceEqDiff, reduceIte]), rfl, take_forall' hjl hJ (by omega)⟩
    · have e11 := ge_dec hjl
      obtain rfl : j = g.rules[i].rhs.length := by omega
      repeat (first | refine cw_seq ?_ | refine cw_region ?_ | refine ow_nil ?_ | ((first | apply ow_cons | apply qw_cons); · simp only [push_cast, env, Nat.reduceEqDiff, reduceIte, Nat.reduceAdd, Nat.reduceMul, Nat.reduceLeDiff, reduceCtorEq, Nat.reduceSub, Int.reduceToNat, e11] <;> exact rfl) | ((first | apply ow_spec | apply qw_spec); · simp only [push_cast, env, Nat.reduceEqDiff, reduceIte, Nat.reduceAdd, Nat.reduceMul, Nat.reduceLeDiff, reduceCtorEq, Nat.reduceSub, Int.reduceToNat, e11] <;> exact rfl) | refine qw_nil ?_ | refine cw_block ?_ | refine cw_scope ?_ | refine cw_label ?_ | refine cw_skip ?_)
      refine cw_condF (by simp only [push_cast, env, Nat.reduceEqDiff, reduceIte, Nat.reduceAdd, Nat.reduceMul, Nat.reduceLeDiff, reduceCtorEq, Nat.reduceSub, Int.reduceToNat] <;> exact rfl) ?_
      refine cw_exit ?_
      show CW _ _ _ _
      rw [List.take_length] at hJ hps hpl ⊢
      have hrl := rlen_ok hJ
      have hmin : (if (513 : Int) < psum out g.rules[i].rhs then 513 else psum out g.rules[i].rhs) = rlen out g.rules[i].rhs := by rw [hrl]; split <;> omega
      have hr0 : 0 ≤ rlen out g.rules[i].rhs := by rw [hrl]; omega
      repeat (first | refine cw_seq ?_ | refine cw_region ?_ | refine ow_nil ?_ | ((first | apply ow_cons | apply qw_cons); · simp only [push_cast, env, Nat.reduceEqDiff, reduceIte, Nat.reduceAdd, Nat.reduceMul, Nat.reduceLeDiff, reduceCtorEq, Nat.reduceSub, Int.reduceToNat, hmin, r1, ho, sl, Nat.mul_one] <;> exact rfl) | ((first | apply ow_spec | apply qw_spec); · simp only [push_cast, env, Nat.reduceEqDiff, reduceIte, Nat.reduceAdd, Nat.reduceMul, Nat.reduceLeDiff, reduceCtorEq, Nat.reduceSub, Int.reduceToNat, hmin, r1, ho, sl, Nat.mul_one] <;> exact rfl) | refine qw_nil ?_ | refine cw_block ?_ | refine cw_scope ?_ | refine cw_label ?_ | refine cw_skip ?_)
      refine cw_cond (by simp only [push_cast, env, Nat.reduceEqDiff, reduceIte, Nat.reduceAdd, Nat.reduceMul, Nat.reduceLeDiff, reduceCtorEq, Nat.reduceSub, Int.reduceToNat] <;> exact rfl) (fun b1 => ?_) (fun b1 => ?_)
      · have b1 : iget out g.rules[i].lhs < 0 ∨ rlen out g.rules[i].rhs < iget out g.rules[i].lhs := by simpa using b1
        repeat (first | refine cw_seq ?_ | refine cw_region ?_ | refine ow_nil ?_ | ((first | apply ow_cons | apply qw_cons); · simp only [push_cast, env, Nat.reduceEqDiff, reduceIte, Nat.reduceAdd, Nat.reduceMul, Nat.reduceLeDiff, reduceCtorEq, Nat.reduceSub, Int.reduceToNat, r1] <;> exact rfl) | ((first | apply ow_spec | apply qw_spec); · simp only [push_cast, env, Nat.reduceEqDiff, reduceIte, Nat.reduceAdd, Nat.reduceMul, Nat.reduceLeDiff, reduceCtorEq, Nat.reduceSub, Int.reduceToNat, r1] <;> exact rfl) | refine qw_nil ?_ | refine cw_block ?_ | refine cw_scope ?_ | refine cw_label ?_ | refine cw_skip ?_)
        refine ow_stoH (by simp only [push_cast, env, Nat.reduceEqDiff, reduceIte, Nat.reduceAdd, Nat.reduceMul, Nat.reduceLeDiff, reduceCtorEq, Nat.reduceSub, Int.reduceToNat] <;> exact rfl) rfl rfl (by simp only [push_cast, env, Nat.reduceEqDiff, reduceIte, Nat.reduceAdd, Nat.reduceMul, Nat.reduceLeDiff, reduceCtorEq, Nat.reduceSub, Int.reduceToNat] <;> exact rfl) (by simp only [push_cast, env, Nat.reduceEqDiff, reduceIte, Nat.reduceAdd, Nat.reduceMul, Nat.reduceLeDiff, reduceCtorEq, Nat.reduceSub, Int.reduceToNat, r1, Nat.mul_one] <;> exact rfl) ho rfl rfl (wr_map (f := i64) (x := rlen out g.rules[i].rhs) (by omega)) ?_
        repeat (first | refine cw_seq ?_ | refine cw_region ?_ | refine ow_nil ?_ | ((first | apply ow_cons | apply qw_cons); · simp only [push_cast, env, Nat.reduceEqDiff, reduceIte, Nat.reduceAdd, Nat.reduceMul, Nat.reduceLeDiff, reduceCtorEq, Nat.reduceSub, Int.reduceToNat, e2] <;> exact rfl) | ((first | apply ow_spec | apply qw_spec); · simp only [push_cast, env, Nat.reduceEqDiff, reduceIte, Nat.reduceAdd, Nat.reduceMul, Nat.reduceLeDiff, reduceCtorEq, Nat.reduceSub, Int.reduceToNat, e2] <;> exact rfl) | refine qw_nil ?_ | refine cw_block ?_ | refine cw_scope ?_ | refine cw_label ?_ | refine cw_skip ?_)
        have hlt2 : gaps (out.set g.rules[i].lhs.toNat (rlen out g.rules[i].rhs)) < gaps out := gaps_set (by omega) (by
          have hg := iget_get (l := out) a1 (by omega)
          rw [← hg]
          unfold gap
          have := rlen_range out g.rules[i].rhs
          split <;> split <;> omega)
        exact ⟨hlt, ⟨hk1.set h.length (.arr ((out.set g.rules[i].lhs.toNat (rlen out g.rules[i].rhs)).map i64) 0 true 3), out.set g.rules[i].lhs.toNat (rlen out g.rules[i].rhs), true⟩, (by simp only [push_cast, SubL, fget, Nat.reduceEqDiff, reduceIte]), rfl, ⟨pre_set hp (Nat.le_refl _), get_set_self ho⟩, hI.put R hmem rfl hr0, by simp only; omega, fun _ => by simp only; omega, fun h => by cases h⟩
      · have b1 : 0 ≤ iget out g.rules[i].lhs ∧ iget out g.rules[i].lhs ≤ rlen out g.rules[i].rhs := by simpa using b1
        repeat (first | refine cw_seq ?_ | refine cw_region ?_ | refine ow_nil ?_ | ((first | apply ow_cons | apply qw_cons); · simp only [push_cast, env, Nat.reduceEqDiff, reduceIte, Nat.reduceAdd, Nat.reduceMul, Nat.reduceLeDiff, reduceCtorEq, Nat.reduceSub, Int.reduceToNat, e2] <;> exact rfl) | ((first | apply ow_spec | apply qw_spec); · simp only [push_cast, env, Nat.reduceEqDiff, reduceIte, Nat.reduceAdd, Nat.reduceMul, Nat.reduceLeDiff, reduceCtorEq, Nat.reduceSub, Int.reduceToNat, e2] <;> exact rfl) | refine qw_nil ?_ | refine cw_block ?_ | refine cw_scope ?_ | refine cw_label ?_ | refine cw_skip ?_)
        exact ⟨hlt, ⟨hk1, out, ch⟩, (by simp only [push_cast, SubL, fget, Nat.reduceEqDiff, reduceIte]), rfl, ⟨hp, ho⟩, hI, hle1, hch1, fun hc => take_forall' hlt (hcl hc) fun _ => b1⟩
  · have e3 := ge_dec hlt
    obtain rfl : i = g.rules.length := by omega
    repeat (first | refine cw_seq ?_ | refine cw_region ?_ | refine ow_nil ?_ | ((first | apply ow_cons | apply qw_cons); · simp only [push_cast, env, Nat.reduceEqDiff, reduceIte, Nat.reduceAdd, Nat.reduceMul, Nat.reduceLeDiff, reduceCtorEq, Nat.reduceSub, Int.reduceToNat, e3] <;> exact rfl) | ((first | apply ow_spec | apply qw_spec); · simp only [push_cast, env, Nat.reduceEqDiff, reduceIte, Nat.reduceAdd, Nat.reduceMul, Nat.reduceLeDiff, reduceCtorEq, Nat.reduceSub, Int.reduceToNat, e3] <;> exact rfl) | refine qw_nil ?_ | refine cw_block ?_ | refine cw_scope ?_ | refine cw_label ?_ | refine cw_skip ?_)
    refine cw_condF (by simp only [push_cast, env, Nat.reduceEqDiff, reduceIte, Nat.reduceAdd, Nat.reduceMul, Nat.reduceLeDiff, reduceCtorEq, Nat.reduceSub, Int.reduceToNat] <;> exact rfl) ?_
    refine cw_exit ?_
    rw [List.take_length] at hcl
    refine ⟨⟨hk1, out, ch⟩, ?_, (by simp only [push_cast, SubL, fget, Nat.reduceEqDiff, reduceIte]), rfl, ⟨hp, ho⟩, hI, hcl⟩
    cases ch with
    | false => simp; omega
    | true => have := hch1 rfl; simp; omega
end Go.Proofs.Ytnlchlnkibpkaaa

/- Trim, of the program and of the reference. -/
namespace Go.Proofs.Ytnlchlnkibpkaaa
set_option linter.unusedSimpArgs false
set_option linter.unusedVariables false
open Go.RowKit Am Ty

def goodR (m : List Bool) (r : Rule) : Bool := r.rhs.all fun s => goodP s m
def trimK (g : Gram) (m : List Bool) (k : Nat) : List Int := ((List.range k).filter fun i => (g.rules[i]?).any (goodR m)).map fun i : Nat => (i : Int)
theorem trimK_yes {g : Gram} {m : List Bool} {k : Nat} (hk : k < g.rules.length) (h : goodR m g.rules[k] = true) : trimK g m (k + 1) = trimK g m k ++ [(k : Int)] := by
  unfold trimK
  rw [List.range_succ, List.filter_append, List.map_append]
  congr 1
  simp [List.getElem?_eq_getElem hk, h]
theorem trimK_no {g : Gram} {m : List Bool} {k : Nat} (hk : k < g.rules.length) (h : goodR m g.rules[k] = false) : trimK g m (k + 1) = trimK g m k := by
  unfold trimK
  rw [List.range_succ, List.filter_append, List.map_append]
  simp [List.getElem?_eq_getElem hk, h]
theorem trimK_len {g : Gram} {m : List Bool} {k : Nat} : (trimK g m k).length ≤ k := by
  unfold trimK
  rw [List.length_map]
  exact Nat.le_trans (List.length_filter_le _ _) (by simp)
abbrev TrimR (g : Gram) (h : Heap) (x : Value) (h' : Heap) : Prop := ∃ m, Marks g.nts (goodD g) m ∧ Grow h h' x (trimK g m g.rules.length).length ((trimK g m g.rules.length).map i64) 3
set_option maxHeartbeats 4000000 in
theorem trim_fw {h : Heap} {g : Gram} {v : Value} (hr : RdGram h v g) : FW env 28 [v] h fun r h' => Told g nilS (TrimR g h) r h' ∧ h <+: h' := by
  obtain ⟨u, rfl, hu⟩ := id hr
  obtain ⟨p, c, rfl⟩ := hu.form
  have hle := hu.le
  refine fw_enter (fn := Try.f28) Try.func28 rfl (by kernel_rfl) (by simp [Try.ntmps28]) ?_; simp only [push_cast]
  repeat (first | refine cw_seq ?_ | refine cw_region ?_ | refine ow_nil ?_ | ((first | apply ow_cons | apply qw_cons); · simp only [push_cast, env, Nat.reduceEqDiff, reduceIte, Nat.reduceAdd, Nat.reduceMul, Nat.reduceLeDiff, reduceCtorEq, Nat.reduceSub, Int.reduceToNat] <;> exact rfl) | ((first | apply ow_spec | apply qw_spec); · simp only [push_cast, env, Nat.reduceEqDiff, reduceIte, Nat.reduceAdd, Nat.reduceMul, Nat.reduceLeDiff, reduceCtorEq, Nat.reduceSub, Int.reduceToNat] <;> exact rfl) | refine qw_nil ?_ | refine cw_block ?_ | refine cw_scope ?_ | refine cw_label ?_ | refine cw_skip ?_)
  refine ow_call (fn := Try.f23) (by simp only [push_cast, env, Nat.reduceEqDiff, reduceIte, Nat.reduceAdd, Nat.reduceMul, Nat.reduceLeDiff, reduceCtorEq, Nat.reduceSub, Int.reduceToNat] <;> exact rfl) rfl (by simp only [push_cast, env, Nat.reduceEqDiff, reduceIte, Nat.reduceAdd, Nat.reduceMul, Nat.reduceLeDiff, reduceCtorEq, Nat.reduceSub, Int.reduceToNat] <;> exact rfl) (by simp only [push_cast, env, Nat.reduceEqDiff, reduceIte, Nat.reduceAdd, Nat.reduceMul, Nat.reduceLeDiff, reduceCtorEq, Nat.reduceSub, Int.reduceToNat] <;> exact rfl) Try.func23 (by kernel_rfl) (by kernel_rfl) ?_
  rw [List.append_nil]
  refine (productive_fw hr).mono ?_
  rintro _ h1 ⟨⟨x, rfl, ⟨hb, rfl⟩ | ⟨hb, m, hm, idm, verm, him, rfl, hgm⟩⟩, hp1⟩
  · have e0 : rightG g = 3 := if_pos hb
    rw [e0]
    repeat (first | refine cw_seq ?_ | refine cw_region ?_ | refine ow_nil ?_ | ((first | apply ow_cons | apply qw_cons); · simp only [push_cast, env, Nat.reduceEqDiff, reduceIte, Nat.reduceAdd, Nat.reduceMul, Nat.reduceLeDiff, reduceCtorEq, Nat.reduceSub, Int.reduceToNat] <;> exact rfl) | ((first | apply ow_spec | apply qw_spec); · simp only [push_cast, env, Nat.reduceEqDiff, reduceIte, Nat.reduceAdd, Nat.reduceMul, Nat.reduceLeDiff, reduceCtorEq, Nat.reduceSub, Int.reduceToNat] <;> exact rfl) | refine qw_nil ?_ | refine cw_block ?_ | refine cw_scope ?_ | refine cw_label ?_ | refine cw_skip ?_)
    refine cw_condT (by simp only [push_cast, env, Nat.reduceEqDiff, reduceIte, Nat.reduceAdd, Nat.reduceMul, Nat.reduceLeDiff, reduceCtorEq, Nat.reduceSub, Int.reduceToNat] <;> exact rfl) ?_
    repeat (first | refine cw_seq ?_ | refine cw_region ?_ | refine ow_nil ?_ | ((first | apply ow_cons | apply qw_cons); · simp only [push_cast, env, Nat.reduceEqDiff, reduceIte, Nat.reduceAdd, Nat.reduceMul, Nat.reduceLeDiff, reduceCtorEq, Nat.reduceSub, Int.reduceToNat] <;> exact rfl) | ((first | apply ow_spec | apply qw_spec); · simp only [push_cast, env, Nat.reduceEqDiff, reduceIte, Nat.reduceAdd, Nat.reduceMul, Nat.reduceLeDiff, reduceCtorEq, Nat.reduceSub, Int.reduceToNat] <;> exact rfl) | refine qw_nil ?_ | refine cw_block ?_ | refine cw_scope ?_ | refine cw_label ?_ | refine cw_skip ?_)
    refine cw_ret ?_
    exact ⟨_, (by simp only [push_cast, env, Nat.reduceEqDiff, reduceIte, Nat.reduceAdd, Nat.reduceMul, Nat.reduceLeDiff, reduceCtorEq, Nat.reduceSub, Int.reduceToNat] <;> exact rfl), ⟨_, by rw [e0]; rfl, .inl ⟨hb, rfl⟩⟩, hp1⟩
  have e0 : rightG g = 0 := if_neg hb
  have R := rightS hb
  have n1 := R.n1
  have n2 := R.n2
  have hrl := R.rl
  have hml := hm.1
  have hgm0 := hgm
  rw [e0]
  repeat (first | refine cw_seq ?_ | refine cw_region ?_ | refine ow_nil ?_ | ((first | apply ow_cons | apply qw_cons); · simp only [push_cast, env, Nat.reduceEqDiff, reduceIte, Nat.reduceAdd, Nat.reduceMul, Nat.reduceLeDiff, reduceCtorEq, Nat.reduceSub, Int.reduceToNat] <;> exact rfl) | ((first | apply ow_spec | apply qw_spec); · simp only [push_cast, env, Nat.reduceEqDiff, reduceIte, Nat.reduceAdd, Nat.reduceMul, Nat.reduceLeDiff, reduceCtorEq, Nat.reduceSub, Int.reduceToNat] <;> exact rfl) | refine qw_nil ?_ | refine cw_block ?_ | refine cw_scope ?_ | refine cw_label ?_ | refine cw_skip ?_)
  refine cw_condF (by simp only [push_cast, env, Nat.reduceEqDiff, reduceIte, Nat.reduceAdd, Nat.reduceMul, Nat.reduceLeDiff, reduceCtorEq, Nat.reduceSub, Int.reduceToNat] <;> exact rfl) ?_
  repeat (first | refine cw_seq ?_ | refine cw_region ?_ | refine ow_nil ?_ | ((first | apply ow_cons | apply qw_cons); · simp only [push_cast, env, Nat.reduceEqDiff, reduceIte, Nat.reduceAdd, Nat.reduceMul, Nat.reduceLeDiff, reduceCtorEq, Nat.reduceSub, Int.reduceToNat] <;> exact rfl) | ((first | apply ow_spec | apply qw_spec); · simp only [push_cast, env, Nat.reduceEqDiff, reduceIte, Nat.reduceAdd, Nat.reduceMul, Nat.reduceLeDiff, reduceCtorEq, Nat.reduceSub, Int.reduceToNat] <;> exact rfl) | refine qw_nil ?_ | refine cw_block ?_ | refine cw_scope ?_ | refine cw_label ?_ | refine cw_skip ?_)
  refine cw_forG g.rules.length (fun k (x : Heap × Option Addr × Nat) => [(1, .box [i64 g.nts, i64 g.start, .slice p g.rules.length c]), (4, .val (.slice (some ⟨idm, 0, some verm⟩) m.length m.length)), (6, .val (.slice x.2.1 (trimK g m k).length x.2.2)), (20, .val (.slice p g.rules.length c)), (21, .val (i64 g.rules.length)), (22, .val (i64 k))]) (fun _ x => x.1)
    (fun k x => h1 <+: x.1 ∧ Grow h1 x.1 (.slice x.2.1 (trimK g m k).length x.2.2) (trimK g m k).length ((trimK g m k).map i64) 3) (h1, none, 0) (by simp only [push_cast, SubL, fget, Nat.reduceEqDiff, reduceIte, show trimK g m 0 = [] from rfl]) rfl ⟨List.prefix_refl _, Grow.nil⟩ ?_
  rintro k ⟨hk, q, cq⟩ hkn ⟨hp, hG⟩
  simp only at hp hG ⊢
  by_cases hlt : k < g.rules.length
  · obtain ⟨id, ver, own, c', cells, p', n', c2, hv, hid, hn, hrd, hu'⟩ := hu.at hlt
    cases hv
    subst hn
    have e0 := rdH_get0 hrd (by omega)
    have e0' := rdH_get (j := 1) hrd (by omega)
    simp only [List.getElem?_cons_succ, List.getElem?_cons_zero] at e0 e0'
    have e1 := rng hlt
    have e2 := inc hlt hle
    have e3 := lt_dec hlt
    have hmem : g.rules[k] ∈ _ := List.getElem_mem hlt
    have hn2 := RdSyms.le hu'
    obtain ⟨a1, a2, a3, hS⟩ := R.r _ hmem
    have hid2 := getElem?_prefix (hp1.trans hp) hid
    have hgm2 := getElem?_prefix hp hgm
    have htl := trimK_len (g := g) (m := m) (k := k)
    repeat (first | refine cw_seq ?_ | refine cw_region ?_ | refine ow_nil ?_ | ((first | apply ow_cons | apply qw_cons); · simp only [push_cast, env, Nat.reduceEqDiff, reduceIte, Nat.reduceAdd, Nat.reduceMul, Nat.reduceLeDiff, reduceCtorEq, Nat.reduceSub, Int.reduceToNat, e1, hid2, hrd, e3] <;> exact rfl) | ((first | apply ow_spec | apply qw_spec); · simp only [push_cast, env, Nat.reduceEqDiff, reduceIte, Nat.reduceAdd, Nat.reduceMul, Nat.reduceLeDiff, reduceCtorEq, Nat.reduceSub, Int.reduceToNat, e1, hid2, hrd, e3] <;> exact rfl) | refine qw_nil ?_ | refine cw_block ?_ | refine cw_scope ?_ | refine cw_label ?_ | refine cw_skip ?_)
    refine cw_condT (by simp only [push_cast, env, Nat.reduceEqDiff, reduceIte, Nat.reduceAdd, Nat.reduceMul, Nat.reduceLeDiff, reduceCtorEq, Nat.reduceSub, Int.reduceToNat] <;> exact rfl) ?_
    repeat (first | refine cw_seq ?_ | refine cw_region ?_ | refine ow_nil ?_ | ((first | apply ow_cons | apply qw_cons); · simp only [push_cast, env, Nat.reduceEqDiff, reduceIte, Nat.reduceAdd, Nat.reduceMul, Nat.reduceLeDiff, reduceCtorEq, Nat.reduceSub, Int.reduceToNat, e1, hid2, hrd] <;> exact rfl) | ((first | apply ow_spec | apply qw_spec); · simp only [push_cast, env, Nat.reduceEqDiff, reduceIte, Nat.reduceAdd, Nat.reduceMul, Nat.reduceLeDiff, reduceCtorEq, Nat.reduceSub, Int.reduceToNat, e1, hid2, hrd] <;> exact rfl) | refine qw_nil ?_ | refine cw_block ?_ | refine cw_scope ?_ | refine cw_label ?_ | refine cw_skip ?_)
    refine cw_for g.rules[k].rhs.length (fun j => [(1, .box [i64 g.nts, i64 g.start, .slice (some ⟨id, 0, some ver⟩) g.rules.length c]), (4, .val (.slice (some ⟨idm, 0, some verm⟩) m.length m.length)), (6, .val (.slice q (trimK g m k).length cq)), (7, .val (i64 k)), (20, .val (.slice (some ⟨id, 0, some ver⟩) g.rules.length c)), (21, .val (i64 g.rules.length)), (22, .val (i64 k)), (28, .val (.slice p' g.rules[k].rhs.length c2)), (29, .val (i64 g.rules[k].rhs.length)), (30, .val (i64 j))]) (fun _ => hk)
      (fun j => ∀ s ∈ g.rules[k].rhs.take j, goodP s m = true) (by simp only [push_cast, SubL, fget, Nat.reduceEqDiff, reduceIte]) rfl (by simp) ?_
    intro j hj hJ
    by_cases hjl : j < g.rules[k].rhs.length
    · obtain ⟨id2, ver2, own2, c3, cells2, hv2, hid2, hrd2⟩ := hu'.at hjl
      cases hv2
      have e9 := rng hjl
      have e10 := inc hjl (by omega)
      have e11 := lt_dec hjl
      have g0 := rdH_get0 hrd2 (by omega)
      simp only [List.getElem?_cons_zero] at g0
      have hmem2 : g.rules[k].rhs[j] ∈ _ := List.getElem_mem hjl
      have hs2 := hS _ hmem2
      have hid4 := getElem?_prefix (hp1.trans hp) hid2
      repeat (first | refine cw_seq ?_ | refine cw_region ?_ | refine ow_nil ?_ | ((first | apply ow_cons | apply qw_cons); · simp only [push_cast, env, Nat.reduceEqDiff, reduceIte, Nat.reduceAdd, Nat.reduceMul, Nat.reduceLeDiff, reduceCtorEq, Nat.reduceSub, Int.reduceToNat, e9, hid4, hrd2, e11] <;> exact rfl) | ((first | apply ow_spec | apply qw_spec); · simp only [push_cast, env, Nat.reduceEqDiff, reduceIte, Nat.reduceAdd, Nat.reduceMul, Nat.reduceLeDiff, reduceCtorEq, Nat.reduceSub, Int.reduceToNat, e9, hid4, hrd2, e11] <;> exact rfl) | refine qw_nil ?_ | refine cw_block ?_ | refine cw_scope ?_ | refine cw_label ?_ | refine cw_skip ?_)
      refine cw_condT (by simp only [push_cast, env, Nat.reduceEqDiff, reduceIte, Nat.reduceAdd, Nat.reduceMul, Nat.reduceLeDiff, reduceCtorEq, Nat.reduceSub, Int.reduceToNat] <;> exact rfl) ?_
      repeat (first | refine cw_seq ?_ | refine cw_region ?_ | refine ow_nil ?_ | ((first | apply ow_cons | apply qw_cons); · simp only [push_cast, env, Nat.reduceEqDiff, reduceIte, Nat.reduceAdd, Nat.reduceMul, Nat.reduceLeDiff, reduceCtorEq, Nat.reduceSub, Int.reduceToNat, e9, hid4, hrd2] <;> exact rfl) | ((first | apply ow_spec | apply qw_spec); · simp only [push_cast, env, Nat.reduceEqDiff, reduceIte, Nat.reduceAdd, Nat.reduceMul, Nat.reduceLeDiff, reduceCtorEq, Nat.reduceSub, Int.reduceToNat, e9, hid4, hrd2] <;> exact rfl) | refine qw_nil ?_ | refine cw_block ?_ | refine cw_scope ?_ | refine cw_label ?_ | refine cw_skip ?_)
      refine ow_call (fn := Try.f44) (by simp only [push_cast, env, Nat.reduceEqDiff, reduceIte, Nat.reduceAdd, Nat.reduceMul, Nat.reduceLeDiff, reduceCtorEq, Nat.reduceSub, Int.reduceToNat, e9, hid4, hrd2] <;> exact rfl) rfl (by simp only [push_cast, env, Nat.reduceEqDiff, reduceIte, Nat.reduceAdd, Nat.reduceMul, Nat.reduceLeDiff, reduceCtorEq, Nat.reduceSub, Int.reduceToNat, e9, hid4, hrd2] <;> exact rfl) (by simp only [push_cast, env, Nat.reduceEqDiff, reduceIte, Nat.reduceAdd, Nat.reduceMul, Nat.reduceLeDiff, reduceCtorEq, Nat.reduceSub, Int.reduceToNat, e9, hid4, hrd2] <;> exact rfl) Try.func44 (by kernel_rfl) (by kernel_rfl) ?_
      rw [List.append_nil]
      refine (good_fw _ g.rules[k].rhs[j] _ m ⟨by omega, .inr ⟨idm, verm, true, _, rfl, hgm2⟩⟩ (by omega)).mono ?_
      rintro _ hk ⟨rfl, rfl⟩
      repeat (first | refine cw_seq ?_ | refine cw_region ?_ | refine ow_nil ?_ | ((first | apply ow_cons | apply qw_cons); · simp only [push_cast, env, Nat.reduceEqDiff, reduceIte, Nat.reduceAdd, Nat.reduceMul, Nat.reduceLeDiff, reduceCtorEq, Nat.reduceSub, Int.reduceToNat] <;> exact rfl) | ((first | apply ow_spec | apply qw_spec); · simp only [push_cast, env, Nat.reduceEqDiff, reduceIte, Nat.reduceAdd, Nat.reduceMul, Nat.reduceLeDiff, reduceCtorEq, Nat.reduceSub, Int.reduceToNat] <;> exact rfl) | refine qw_nil ?_ | refine cw_block ?_ | refine cw_scope ?_ | refine cw_label ?_ | refine cw_skip ?_)
      refine cw_cond (by simp only [push_cast, env, Nat.reduceEqDiff, reduceIte, Nat.reduceAdd, Nat.reduceMul, Nat.reduceLeDiff, reduceCtorEq, Nat.reduceSub, Int.reduceToNat] <;> exact rfl) (fun b1 => ?_) (fun b1 => ?_)
      · have b1 : goodP g.rules[k].rhs[j] m = false := by simpa using b1
        refine cw_exit ?_
        show CW _ _ _ _
        repeat (first | refine cw_seq ?_ | refine cw_region ?_ | refine ow_nil ?_ | ((first | apply ow_cons | apply qw_cons); · simp only [push_cast, env, Nat.reduceEqDiff, reduceIte, Nat.reduceAdd, Nat.reduceMul, Nat.reduceLeDiff, reduceCtorEq, Nat.reduceSub, Int.reduceToNat, e2] <;> exact rfl) | ((first | apply ow_spec | apply qw_spec); · simp only [push_cast, env, Nat.reduceEqDiff, reduceIte, Nat.reduceAdd, Nat.reduceMul, Nat.reduceLeDiff, reduceCtorEq, Nat.reduceSub, Int.reduceToNat, e2] <;> exact rfl) | refine qw_nil ?_ | refine cw_block ?_ | refine cw_scope ?_ | refine cw_label ?_ | refine cw_skip ?_)
        have e : trimK g m (k + 1) = trimK g m k := trimK_no hlt (List.all_eq_false.2 ⟨_, hmem2, by simp [b1]⟩)
        refine ⟨hlt, (hk, q, cq), (by simp only [push_cast, SubL, fget, Nat.reduceEqDiff, reduceIte, e]), rfl, hp, ?_⟩
        rw [e]
        exact hG
      · have b1 : goodP g.rules[k].rhs[j] m = true := by simpa using b1
        repeat (first | refine cw_seq ?_ | refine cw_region ?_ | refine ow_nil ?_ | ((first | apply ow_cons | apply qw_cons); · simp only [push_cast, env, Nat.reduceEqDiff, reduceIte, Nat.reduceAdd, Nat.reduceMul, Nat.reduceLeDiff, reduceCtorEq, Nat.reduceSub, Int.reduceToNat, e10] <;> exact rfl) | ((first | apply ow_spec | apply qw_spec); · simp only [push_cast, env, Nat.reduceEqDiff, reduceIte, Nat.reduceAdd, Nat.reduceMul, Nat.reduceLeDiff, reduceCtorEq, Nat.reduceSub, Int.reduceToNat, e10] <;> exact rfl) | refine qw_nil ?_ | refine cw_block ?_ | refine cw_scope ?_ | refine cw_label ?_ | refine cw_skip ?_)
        exact ⟨hjl, (by simp only [push_cast, SubL, fget, Nat.reduceEqDiff, reduceIte]), rfl, take_forall' hjl hJ b1⟩
    · have e11 := ge_dec hjl
      obtain rfl : j = g.rules[k].rhs.length := by omega
      repeat (first | refine cw_seq ?_ | refine cw_region ?_ | refine ow_nil ?_ | ((first | apply ow_cons | apply qw_cons); · simp only [push_cast, env, Nat.reduceEqDiff, reduceIte, Nat.reduceAdd, Nat.reduceMul, Nat.reduceLeDiff, reduceCtorEq, Nat.reduceSub, Int.reduceToNat, e11] <;> exact rfl) | ((first | apply ow_spec | apply qw_spec); · simp only [push_cast, env, Nat.reduceEqDiff, reduceIte, Nat.reduceAdd, Nat.reduceMul, Nat.reduceLeDiff, reduceCtorEq, Nat.reduceSub, Int.reduceToNat, e11] <;> exact rfl) | refine qw_nil ?_ | refine cw_block ?_ | refine cw_scope ?_ | refine cw_label ?_ | refine cw_skip ?_)
      refine cw_condF (by simp only [push_cast, env, Nat.reduceEqDiff, reduceIte, Nat.reduceAdd, Nat.reduceMul, Nat.reduceLeDiff, reduceCtorEq, Nat.reduceSub, Int.reduceToNat] <;> exact rfl) ?_
      refine cw_exit ?_
      show CW _ _ _ _
      rw [List.take_length] at hJ
      have e : trimK g m (k + 1) = trimK g m k ++ [(k : Int)] := trimK_yes hlt (List.all_eq_true.2 hJ)
      have htl := trimK_len (g := g) (m := m) (k := k)
      repeat (first | refine cw_seq ?_ | refine cw_region ?_ | refine ow_nil ?_ | ((first | apply ow_cons | apply qw_cons); · simp only [push_cast, env, Nat.reduceEqDiff, reduceIte, Nat.reduceAdd, Nat.reduceMul, Nat.reduceLeDiff, reduceCtorEq, Nat.reduceSub, Int.reduceToNat] <;> exact rfl) | ((first | apply ow_spec | apply qw_spec); · simp only [push_cast, env, Nat.reduceEqDiff, reduceIte, Nat.reduceAdd, Nat.reduceMul, Nat.reduceLeDiff, reduceCtorEq, Nat.reduceSub, Int.reduceToNat] <;> exact rfl) | refine qw_nil ?_ | refine cw_block ?_ | refine cw_scope ?_ | refine cw_label ?_ | refine cw_skip ?_)
      refine ow_pushI (l := trimK g m k) (b := k) (h := h1) (by simp only [push_cast, env, Nat.reduceEqDiff, reduceIte, Nat.reduceAdd, Nat.reduceMul, Nat.reduceLeDiff, reduceCtorEq, Nat.reduceSub, Int.reduceToNat] <;> exact rfl) rfl (by simp only [push_cast, env, Nat.reduceEqDiff, reduceIte, Nat.reduceAdd, Nat.reduceMul, Nat.reduceLeDiff, reduceCtorEq, Nat.reduceSub, Int.reduceToNat] <;> exact rfl) (by simp only [push_cast, env, Nat.reduceEqDiff, reduceIte, Nat.reduceAdd, Nat.reduceMul, Nat.reduceLeDiff, reduceCtorEq, Nat.reduceSub, Int.reduceToNat] <;> exact rfl) hG hp (by omega) ?_
      intro p2 c2 h' k1 k2 _ _
      rw [← e] at k1
      repeat (first | refine cw_seq ?_ | refine cw_region ?_ | refine ow_nil ?_ | ((first | apply ow_cons | apply qw_cons); · simp only [push_cast, env, Nat.reduceEqDiff, reduceIte, Nat.reduceAdd, Nat.reduceMul, Nat.reduceLeDiff, reduceCtorEq, Nat.reduceSub, Int.reduceToNat, e2] <;> exact rfl) | ((first | apply ow_spec | apply qw_spec); · simp only [push_cast, env, Nat.reduceEqDiff, reduceIte, Nat.reduceAdd, Nat.reduceMul, Nat.reduceLeDiff, reduceCtorEq, Nat.reduceSub, Int.reduceToNat, e2] <;> exact rfl) | refine qw_nil ?_ | refine cw_block ?_ | refine cw_scope ?_ | refine cw_label ?_ | refine cw_skip ?_)
      refine ⟨hlt, (h', p2, c2), (by simp only [push_cast, SubL, fget, Nat.reduceEqDiff, reduceIte, e, List.length_append]), rfl, k2, ?_⟩
      rw [show (trimK g m k).length + 1 = (trimK g m (k + 1)).length by rw [e]; simp] at k1
      exact k1
  · have e3 := ge_dec hlt
    obtain rfl : k = g.rules.length := by omega
    repeat (first | refine cw_seq ?_ | refine cw_region ?_ | refine ow_nil ?_ | ((first | apply ow_cons | apply qw_cons); · simp only [push_cast, env, Nat.reduceEqDiff, reduceIte, Nat.reduceAdd, Nat.reduceMul, Nat.reduceLeDiff, reduceCtorEq, Nat.reduceSub, Int.reduceToNat, e3] <;> exact rfl) | ((first | apply ow_spec | apply qw_spec); · simp only [push_cast, env, Nat.reduceEqDiff, reduceIte, Nat.reduceAdd, Nat.reduceMul, Nat.reduceLeDiff, reduceCtorEq, Nat.reduceSub, Int.reduceToNat, e3] <;> exact rfl) | refine qw_nil ?_ | refine cw_block ?_ | refine cw_scope ?_ | refine cw_label ?_ | refine cw_skip ?_)
    refine cw_condF (by simp only [push_cast, env, Nat.reduceEqDiff, reduceIte, Nat.reduceAdd, Nat.reduceMul, Nat.reduceLeDiff, reduceCtorEq, Nat.reduceSub, Int.reduceToNat] <;> exact rfl) ?_
    refine cw_exit ?_
    show CW _ _ _ _
    repeat (first | refine cw_seq ?_ | refine cw_region ?_ | refine ow_nil ?_ | ((first | apply ow_cons | apply qw_cons); · simp only [push_cast, env, Nat.reduceEqDiff, reduceIte, Nat.reduceAdd, Nat.reduceMul, Nat.reduceLeDiff, reduceCtorEq, Nat.reduceSub, Int.reduceToNat] <;> exact rfl) | ((first | apply ow_spec | apply qw_spec); · simp only [push_cast, env, Nat.reduceEqDiff, reduceIte, Nat.reduceAdd, Nat.reduceMul, Nat.reduceLeDiff, reduceCtorEq, Nat.reduceSub, Int.reduceToNat] <;> exact rfl) | refine qw_nil ?_ | refine cw_block ?_ | refine cw_scope ?_ | refine cw_label ?_ | refine cw_skip ?_)
    refine cw_ret ?_
    refine ⟨_, (by simp only [push_cast, env, Nat.reduceEqDiff, reduceIte, Nat.reduceAdd, Nat.reduceMul, Nat.reduceLeDiff, reduceCtorEq, Nat.reduceSub, Int.reduceToNat] <;> exact rfl), ⟨_, by rw [e0]; rfl, .inr ⟨hb, m, hm, ?_⟩⟩, hp1.trans hp⟩
    rcases hG with ⟨z1, z2, z3⟩ | ⟨id, ver, z1, z2, z3⟩
    · exact .inl ⟨z1, z2, z3⟩
    · exact .inr ⟨id, ver, Nat.le_trans hp1.length_le z1, z2, z3⟩
set_option maxHeartbeats 4000000 in
theorem rtrim_fw {h : Heap} {g : Gram} {v : Value} (hr : RdGram h v g) : FW env 29 [v] h fun r h' => Told g nilS (TrimR g h) r h' ∧ h <+: h' := by
  obtain ⟨u, rfl, hu⟩ := id hr
  obtain ⟨p, c, rfl⟩ := hu.form
  have hle := hu.le
  refine fw_enter (fn := Try.f29) Try.func29 rfl (by kernel_rfl) (by simp [Try.ntmps29]) ?_; simp only [push_cast]
  repeat (first | refine cw_seq ?_ | refine cw_region ?_ | refine ow_nil ?_ | ((first | apply ow_cons | apply qw_cons); · simp only [push_cast, env, Nat.reduceEqDiff, reduceIte, Nat.reduceAdd, Nat.reduceMul, Nat.reduceLeDiff, reduceCtorEq, Nat.reduceSub, Int.reduceToNat] <;> exact rfl) | ((first | apply ow_spec | apply qw_spec); · simp only [push_cast, env, Nat.reduceEqDiff, reduceIte, Nat.reduceAdd, Nat.reduceMul, Nat.reduceLeDiff, reduceCtorEq, Nat.reduceSub, Int.reduceToNat] <;> exact rfl) | refine qw_nil ?_ | refine cw_block ?_ | refine cw_scope ?_ | refine cw_label ?_ | refine cw_skip ?_)
  refine ow_call (fn := Try.f32) (by simp only [push_cast, env, Nat.reduceEqDiff, reduceIte, Nat.reduceAdd, Nat.reduceMul, Nat.reduceLeDiff, reduceCtorEq, Nat.reduceSub, Int.reduceToNat] <;> exact rfl) rfl (by simp only [push_cast, env, Nat.reduceEqDiff, reduceIte, Nat.reduceAdd, Nat.reduceMul, Nat.reduceLeDiff, reduceCtorEq, Nat.reduceSub, Int.reduceToNat] <;> exact rfl) (by simp only [push_cast, env, Nat.reduceEqDiff, reduceIte, Nat.reduceAdd, Nat.reduceMul, Nat.reduceLeDiff, reduceCtorEq, Nat.reduceSub, Int.reduceToNat] <;> exact rfl) Try.func32 (by kernel_rfl) (by kernel_rfl) ?_
  rw [List.append_nil]
  refine (rproductive_fw hr).mono ?_
  rintro _ h1 ⟨⟨x, rfl, ⟨hb, rfl⟩ | ⟨hb, m, hm, idm, verm, him, rfl, hgm⟩⟩, hp1⟩
  · have e0 : rightG g = 3 := if_pos hb
    rw [e0]
    repeat (first | refine cw_seq ?_ | refine cw_region ?_ | refine ow_nil ?_ | ((first | apply ow_cons | apply qw_cons); · simp only [push_cast, env, Nat.reduceEqDiff, reduceIte, Nat.reduceAdd, Nat.reduceMul, Nat.reduceLeDiff, reduceCtorEq, Nat.reduceSub, Int.reduceToNat] <;> exact rfl) | ((first | apply ow_spec | apply qw_spec); · simp only [push_cast, env, Nat.reduceEqDiff, reduceIte, Nat.reduceAdd, Nat.reduceMul, Nat.reduceLeDiff, reduceCtorEq, Nat.reduceSub, Int.reduceToNat] <;> exact rfl) | refine qw_nil ?_ | refine cw_block ?_ | refine cw_scope ?_ | refine cw_label ?_ | refine cw_skip ?_)
    refine cw_condT (by simp only [push_cast, env, Nat.reduceEqDiff, reduceIte, Nat.reduceAdd, Nat.reduceMul, Nat.reduceLeDiff, reduceCtorEq, Nat.reduceSub, Int.reduceToNat] <;> exact rfl) ?_
    repeat (first | refine cw_seq ?_ | refine cw_region ?_ | refine ow_nil ?_ | ((first | apply ow_cons | apply qw_cons); · simp only [push_cast, env, Nat.reduceEqDiff, reduceIte, Nat.reduceAdd, Nat.reduceMul, Nat.reduceLeDiff, reduceCtorEq, Nat.reduceSub, Int.reduceToNat] <;> exact rfl) | ((first | apply ow_spec | apply qw_spec); · simp only [push_cast, env, Nat.reduceEqDiff, reduceIte, Nat.reduceAdd, Nat.reduceMul, Nat.reduceLeDiff, reduceCtorEq, Nat.reduceSub, Int.reduceToNat] <;> exact rfl) | refine qw_nil ?_ | refine cw_block ?_ | refine cw_scope ?_ | refine cw_label ?_ | refine cw_skip ?_)
    refine cw_ret ?_
    exact ⟨_, (by simp only [push_cast, env, Nat.reduceEqDiff, reduceIte, Nat.reduceAdd, Nat.reduceMul, Nat.reduceLeDiff, reduceCtorEq, Nat.reduceSub, Int.reduceToNat] <;> exact rfl), ⟨_, by rw [e0]; rfl, .inl ⟨hb, rfl⟩⟩, hp1⟩
  have e0 : rightG g = 0 := if_neg hb
  have R := rightS hb
  have n1 := R.n1
  have n2 := R.n2
  have hrl := R.rl
  have hml := hm.1
  have hgm0 := hgm
  rw [e0]
  repeat (first | refine cw_seq ?_ | refine cw_region ?_ | refine ow_nil ?_ | ((first | apply ow_cons | apply qw_cons); · simp only [push_cast, env, Nat.reduceEqDiff, reduceIte, Nat.reduceAdd, Nat.reduceMul, Nat.reduceLeDiff, reduceCtorEq, Nat.reduceSub, Int.reduceToNat] <;> exact rfl) | ((first | apply ow_spec | apply qw_spec); · simp only [push_cast, env, Nat.reduceEqDiff, reduceIte, Nat.reduceAdd, Nat.reduceMul, Nat.reduceLeDiff, reduceCtorEq, Nat.reduceSub, Int.reduceToNat] <;> exact rfl) | refine qw_nil ?_ | refine cw_block ?_ | refine cw_scope ?_ | refine cw_label ?_ | refine cw_skip ?_)
  refine cw_condF (by simp only [push_cast, env, Nat.reduceEqDiff, reduceIte, Nat.reduceAdd, Nat.reduceMul, Nat.reduceLeDiff, reduceCtorEq, Nat.reduceSub, Int.reduceToNat] <;> exact rfl) ?_
  repeat (first | refine cw_seq ?_ | refine cw_region ?_ | refine ow_nil ?_ | ((first | apply ow_cons | apply qw_cons); · simp only [push_cast, env, Nat.reduceEqDiff, reduceIte, Nat.reduceAdd, Nat.reduceMul, Nat.reduceLeDiff, reduceCtorEq, Nat.reduceSub, Int.reduceToNat] <;> exact rfl) | ((first | apply ow_spec | apply qw_spec); · simp only [push_cast, env, Nat.reduceEqDiff, reduceIte, Nat.reduceAdd, Nat.reduceMul, Nat.reduceLeDiff, reduceCtorEq, Nat.reduceSub, Int.reduceToNat] <;> exact rfl) | refine qw_nil ?_ | refine cw_block ?_ | refine cw_scope ?_ | refine cw_label ?_ | refine cw_skip ?_)
  refine cw_forG g.rules.length (fun k (x : Heap × Option Addr × Nat) => [(1, .box [i64 g.nts, i64 g.start, .slice p g.rules.length c]), (4, .val (.slice (some ⟨idm, 0, some verm⟩) m.length m.length)), (5, .val (i64 0)), (6, .val (.slice x.2.1 (trimK g m k).length x.2.2)), (7, .val (i64 k))]) (fun _ x => x.1)
    (fun k x => h1 <+: x.1 ∧ Grow h1 x.1 (.slice x.2.1 (trimK g m k).length x.2.2) (trimK g m k).length ((trimK g m k).map i64) 3) (h1, none, 0) (by simp only [push_cast, SubL, fget, Nat.reduceEqDiff, reduceIte, show trimK g m 0 = [] from rfl]) rfl ⟨List.prefix_refl _, Grow.nil⟩ ?_
  rintro k ⟨hk, q, cq⟩ hkn ⟨hp, hG⟩
  simp only at hp hG ⊢
  by_cases hlt : k < g.rules.length
  · obtain ⟨id, ver, own, c', cells, p', n', c2, hv, hid, hn, hrd, hu'⟩ := hu.at hlt
    cases hv
    subst hn
    have e0 := rdH_get0 hrd (by omega)
    have e0' := rdH_get (j := 1) hrd (by omega)
    simp only [List.getElem?_cons_succ, List.getElem?_cons_zero] at e0 e0'
    have e1 := rng hlt
    have e2 := inc hlt hle
    have e3 := lt_dec hlt
    have hmem : g.rules[k] ∈ _ := List.getElem_mem hlt
    have hn2 := RdSyms.le hu'
    obtain ⟨a1, a2, a3, hS⟩ := R.r _ hmem
    have hid2 := getElem?_prefix (hp1.trans hp) hid
    have hgm2 := getElem?_prefix hp hgm
    have htl := trimK_len (g := g) (m := m) (k := k)
    repeat (first | refine cw_seq ?_ | refine cw_region ?_ | refine ow_nil ?_ | ((first | apply ow_cons | apply qw_cons); · simp only [push_cast, env, Nat.reduceEqDiff, reduceIte, Nat.reduceAdd, Nat.reduceMul, Nat.reduceLeDiff, reduceCtorEq, Nat.reduceSub, Int.reduceToNat, e3] <;> exact rfl) | ((first | apply ow_spec | apply qw_spec); · simp only [push_cast, env, Nat.reduceEqDiff, reduceIte, Nat.reduceAdd, Nat.reduceMul, Nat.reduceLeDiff, reduceCtorEq, Nat.reduceSub, Int.reduceToNat, e3] <;> exact rfl) | refine qw_nil ?_ | refine cw_block ?_ | refine cw_scope ?_ | refine cw_label ?_ | refine cw_skip ?_)
    refine cw_condT (by simp only [push_cast, env, Nat.reduceEqDiff, reduceIte, Nat.reduceAdd, Nat.reduceMul, Nat.reduceLeDiff, reduceCtorEq, Nat.reduceSub, Int.reduceToNat] <;> exact rfl) ?_
    repeat (first | refine cw_seq ?_ | refine cw_region ?_ | refine ow_nil ?_ | ((first | apply ow_cons | apply qw_cons); · simp only [push_cast, env, Nat.reduceEqDiff, reduceIte, Nat.reduceAdd, Nat.reduceMul, Nat.reduceLeDiff, reduceCtorEq, Nat.reduceSub, Int.reduceToNat, e1, hid2, hrd] <;> exact rfl) | ((first | apply ow_spec | apply qw_spec); · simp only [push_cast, env, Nat.reduceEqDiff, reduceIte, Nat.reduceAdd, Nat.reduceMul, Nat.reduceLeDiff, reduceCtorEq, Nat.reduceSub, Int.reduceToNat, e1, hid2, hrd] <;> exact rfl) | refine qw_nil ?_ | refine cw_block ?_ | refine cw_scope ?_ | refine cw_label ?_ | refine cw_skip ?_)
    refine ow_call (fn := Try.f48) (by simp only [push_cast, env, Nat.reduceEqDiff, reduceIte, Nat.reduceAdd, Nat.reduceMul, Nat.reduceLeDiff, reduceCtorEq, Nat.reduceSub, Int.reduceToNat, e1, hid2, hrd] <;> exact rfl) rfl (by simp only [push_cast, env, Nat.reduceEqDiff, reduceIte, Nat.reduceAdd, Nat.reduceMul, Nat.reduceLeDiff, reduceCtorEq, Nat.reduceSub, Int.reduceToNat, e1, hid2, hrd] <;> exact rfl) (by simp only [push_cast, env, Nat.reduceEqDiff, reduceIte, Nat.reduceAdd, Nat.reduceMul, Nat.reduceLeDiff, reduceCtorEq, Nat.reduceSub, Int.reduceToNat, e1, hid2, hrd] <;> exact rfl) Try.func48 (by kernel_rfl) (by kernel_rfl) ?_
    rw [List.append_nil]
    refine (all_fw _ g.rules[k] _ _ m false ⟨_, rfl, SlR.mono hu' (hp1.trans hp)⟩ ⟨by omega, .inr ⟨idm, verm, true, _, rfl, hgm2⟩⟩ (fun s hs => by have := hS s hs; omega)).mono ?_
    rintro _ hk ⟨rfl, rfl⟩
    have hgr : (g.rules[k].rhs.all fun s => soP false s m) = goodR m g.rules[k] := rfl
    rw [hgr]
    repeat (first | refine cw_seq ?_ | refine cw_region ?_ | refine ow_nil ?_ | ((first | apply ow_cons | apply qw_cons); · simp only [push_cast, env, Nat.reduceEqDiff, reduceIte, Nat.reduceAdd, Nat.reduceMul, Nat.reduceLeDiff, reduceCtorEq, Nat.reduceSub, Int.reduceToNat] <;> exact rfl) | ((first | apply ow_spec | apply qw_spec); · simp only [push_cast, env, Nat.reduceEqDiff, reduceIte, Nat.reduceAdd, Nat.reduceMul, Nat.reduceLeDiff, reduceCtorEq, Nat.reduceSub, Int.reduceToNat] <;> exact rfl) | refine qw_nil ?_ | refine cw_block ?_ | refine cw_scope ?_ | refine cw_label ?_ | refine cw_skip ?_)
    refine cw_cond (by simp only [push_cast, env, Nat.reduceEqDiff, reduceIte, Nat.reduceAdd, Nat.reduceMul, Nat.reduceLeDiff, reduceCtorEq, Nat.reduceSub, Int.reduceToNat] <;> exact rfl) (fun b1 => ?_) (fun b1 => ?_)
    · have e : trimK g m (k + 1) = trimK g m k ++ [(k : Int)] := trimK_yes hlt b1
      repeat (first | refine cw_seq ?_ | refine cw_region ?_ | refine ow_nil ?_ | ((first | apply ow_cons | apply qw_cons); · simp only [push_cast, env, Nat.reduceEqDiff, reduceIte, Nat.reduceAdd, Nat.reduceMul, Nat.reduceLeDiff, reduceCtorEq, Nat.reduceSub, Int.reduceToNat] <;> exact rfl) | ((first | apply ow_spec | apply qw_spec); · simp only [push_cast, env, Nat.reduceEqDiff, reduceIte, Nat.reduceAdd, Nat.reduceMul, Nat.reduceLeDiff, reduceCtorEq, Nat.reduceSub, Int.reduceToNat] <;> exact rfl) | refine qw_nil ?_ | refine cw_block ?_ | refine cw_scope ?_ | refine cw_label ?_ | refine cw_skip ?_)
      refine ow_pushI (l := trimK g m k) (b := k) (h := h1) (by simp only [push_cast, env, Nat.reduceEqDiff, reduceIte, Nat.reduceAdd, Nat.reduceMul, Nat.reduceLeDiff, reduceCtorEq, Nat.reduceSub, Int.reduceToNat] <;> exact rfl) rfl (by simp only [push_cast, env, Nat.reduceEqDiff, reduceIte, Nat.reduceAdd, Nat.reduceMul, Nat.reduceLeDiff, reduceCtorEq, Nat.reduceSub, Int.reduceToNat] <;> exact rfl) (by simp only [push_cast, env, Nat.reduceEqDiff, reduceIte, Nat.reduceAdd, Nat.reduceMul, Nat.reduceLeDiff, reduceCtorEq, Nat.reduceSub, Int.reduceToNat] <;> exact rfl) hG hp (by omega) ?_
      intro p2 c2 h' k1 k2 _ _
      rw [← e] at k1
      repeat (first | refine cw_seq ?_ | refine cw_region ?_ | refine ow_nil ?_ | ((first | apply ow_cons | apply qw_cons); · simp only [push_cast, env, Nat.reduceEqDiff, reduceIte, Nat.reduceAdd, Nat.reduceMul, Nat.reduceLeDiff, reduceCtorEq, Nat.reduceSub, Int.reduceToNat, e2] <;> exact rfl) | ((first | apply ow_spec | apply qw_spec); · simp only [push_cast, env, Nat.reduceEqDiff, reduceIte, Nat.reduceAdd, Nat.reduceMul, Nat.reduceLeDiff, reduceCtorEq, Nat.reduceSub, Int.reduceToNat, e2] <;> exact rfl) | refine qw_nil ?_ | refine cw_block ?_ | refine cw_scope ?_ | refine cw_label ?_ | refine cw_skip ?_)
      refine ⟨hlt, (h', p2, c2), (by simp only [push_cast, SubL, fget, Nat.reduceEqDiff, reduceIte, e, List.length_append]), rfl, k2, ?_⟩
      rw [show (trimK g m k).length + 1 = (trimK g m (k + 1)).length by rw [e]; simp] at k1
      exact k1
    · have e : trimK g m (k + 1) = trimK g m k := trimK_no hlt b1
      repeat (first | refine cw_seq ?_ | refine cw_region ?_ | refine ow_nil ?_ | ((first | apply ow_cons | apply qw_cons); · simp only [push_cast, env, Nat.reduceEqDiff, reduceIte, Nat.reduceAdd, Nat.reduceMul, Nat.reduceLeDiff, reduceCtorEq, Nat.reduceSub, Int.reduceToNat, e2] <;> exact rfl) | ((first | apply ow_spec | apply qw_spec); · simp only [push_cast, env, Nat.reduceEqDiff, reduceIte, Nat.reduceAdd, Nat.reduceMul, Nat.reduceLeDiff, reduceCtorEq, Nat.reduceSub, Int.reduceToNat, e2] <;> exact rfl) | refine qw_nil ?_ | refine cw_block ?_ | refine cw_scope ?_ | refine cw_label ?_ | refine cw_skip ?_)
      refine ⟨hlt, (hk, q, cq), (by simp only [push_cast, SubL, fget, Nat.reduceEqDiff, reduceIte, e]), rfl, hp, ?_⟩
      rw [e]
      exact hG
  · have e3 := ge_dec hlt
    obtain rfl : k = g.rules.length := by omega
    repeat (first | refine cw_seq ?_ | refine cw_region ?_ | refine ow_nil ?_ | ((first | apply ow_cons | apply qw_cons); · simp only [push_cast, env, Nat.reduceEqDiff, reduceIte, Nat.reduceAdd, Nat.reduceMul, Nat.reduceLeDiff, reduceCtorEq, Nat.reduceSub, Int.reduceToNat, e3] <;> exact rfl) | ((first | apply ow_spec | apply qw_spec); · simp only [push_cast, env, Nat.reduceEqDiff, reduceIte, Nat.reduceAdd, Nat.reduceMul, Nat.reduceLeDiff, reduceCtorEq, Nat.reduceSub, Int.reduceToNat, e3] <;> exact rfl) | refine qw_nil ?_ | refine cw_block ?_ | refine cw_scope ?_ | refine cw_label ?_ | refine cw_skip ?_)
    refine cw_condF (by simp only [push_cast, env, Nat.reduceEqDiff, reduceIte, Nat.reduceAdd, Nat.reduceMul, Nat.reduceLeDiff, reduceCtorEq, Nat.reduceSub, Int.reduceToNat] <;> exact rfl) ?_
    refine cw_exit ?_
    show CW _ _ _ _
    repeat (first | refine cw_seq ?_ | refine cw_region ?_ | refine ow_nil ?_ | ((first | apply ow_cons | apply qw_cons); · simp only [push_cast, env, Nat.reduceEqDiff, reduceIte, Nat.reduceAdd, Nat.reduceMul, Nat.reduceLeDiff, reduceCtorEq, Nat.reduceSub, Int.reduceToNat] <;> exact rfl) | ((first | apply ow_spec | apply qw_spec); · simp only [push_cast, env, Nat.reduceEqDiff, reduceIte, Nat.reduceAdd, Nat.reduceMul, Nat.reduceLeDiff, reduceCtorEq, Nat.reduceSub, Int.reduceToNat] <;> exact rfl) | refine qw_nil ?_ | refine cw_block ?_ | refine cw_scope ?_ | refine cw_label ?_ | refine cw_skip ?_)
    refine cw_ret ?_
    refine ⟨_, (by simp only [push_cast, env, Nat.reduceEqDiff, reduceIte, Nat.reduceAdd, Nat.reduceMul, Nat.reduceLeDiff, reduceCtorEq, Nat.reduceSub, Int.reduceToNat] <;> exact rfl), ⟨_, by rw [e0]; rfl, .inr ⟨hb, m, hm, ?_⟩⟩, hp1.trans hp⟩
    rcases hG with ⟨z1, z2, z3⟩ | ⟨id, ver, z1, z2, z3⟩
    · exact .inl ⟨z1, z2, z3⟩
    · exact .inr ⟨id, ver, Nat.le_trans hp1.length_le z1, z2, z3⟩
end Go.Proofs.Ytnlchlnkibpkaaa

/- steps: the nonterminals to which each one leads. -/
namespace Go.Proofs.Ytnlchlnkibpkaaa
set_option linter.unusedSimpArgs false
set_option linter.unusedVariables false
open Go.RowKit Am Ty

theorem push_one {v : Value} {l : List Int} {b : Int} {h hk : Heap} (G : Grow h hk v l.length (l.map i64) 3) (hp : h <+: hk) (hn : l.length ≤ 1000000) : ∃ p c h',
    (∀ (all : Array Oper) (o : Oper) (s : St) (x : Operand) (y : Nat), s.h = hk → wantedA all o s = some true → o.op = .call { callee := .builtin .append, args := #[x, .tmp y], argTypes := #[40, 40] } → ev s x = some v → fget s.fr y = .bsl [i64 b] 1 →
      One env all o s (.sl (.val (.slice p (l.length + 1) c))) h') ∧
    Grow h h' (.slice p (l.length + 1) c) (l ++ [b]).length ((l ++ [b]).map i64) 3 ∧ h <+: h' ∧ (∀ j o, isAt v j = false → hk[j]? = some o → h'[j]? = some o) ∧ ∀ x, isAt (.slice p (l.length + 1) c) x = true → isAt v x = true ∨ x = hk.length := by
  have hu : env.P.underlying 40 = some (.slice 3) := by kernel_rfl
  have ht : tinfo env.P 3 = _ := ti3
  have hl : (l ++ [b]).length = l.length + 1 := by simp
  have hm : (l ++ [b]).map i64 = l.map i64 ++ [i64 b] := by simp
  rw [hl, hm]
  have hi : ∀ (s : St) (y : Nat), fget s.fr y = .bsl [i64 b] 1 → itemsC s s.h 1 (.tmp y) = some ([i64 b], 1) := fun s y hy => by simp only [itemsC, hy]; rfl
  rcases G with ⟨h0, hc, rfl⟩ | ⟨id, ver, h1, rfl, h3⟩
  · have hl0 : l = [] := List.eq_nil_of_length_eq_zero h0
    subst hl0
    refine ⟨some ⟨hk.length, 0, some 0⟩, 1, hk ++ [HObj.arr [i64 b] 0 true 3], fun all o s x y e hw ho hx hy => ?_, .inr ⟨hk.length, 0, hp.length_le, rfl, get_push⟩, pre_push hp, fun j o _ h => get_of_push h, fun x hx => ?_⟩
    · subst e
      exact .app0 hw ho hu rfl ht (by decide) rfl hx (hi s y hy) (by decide) (by decide) (by decide)
    · simp only [isAt, beq_iff_eq] at hx
      exact .inr hx.symm
  · refine ⟨some ⟨id, 0, some (ver + 1)⟩, l.length + 1, hk.set id (HObj.arr (l.map i64 ++ [i64 b]) (ver + 1) true 3), fun all o s x y e hw ho hx hy => ?_, .inr ⟨id, ver + 1, h1, rfl, get_set_self h3⟩, pre_set hp h1, fun j o hj h => ?_, fun x hx => ?_⟩
    · subst e
      have := One.app (N := env) hw ho hu rfl ht (by decide) rfl hx h3 (by simp) (hi s y hy) (by simp only; omega) (by omega)
      rwa [List.take_of_length_le (by simp)] at this
    · simp only [isAt, beq_eq_false_iff_ne] at hj
      rw [get_set_ne hj]
      exact h
    · simp only [isAt] at hx ⊢
      exact .inl hx
theorem one_bsl {all : Array Oper} {o : Oper} {s : St} {h : Heap} {d n : Nat} {t : TypeId} {cs : List Value} (hh : s.h = h) (hw : wantedA all o s = some true) (hd : o.dst = some d) (hb : bslC env s o.op = some (t, cs, n)) : One env all o s (.sl (.bsl cs n)) h := hh ▸ .bsl hw hd hb
theorem one_sto {all : Array Oper} {o : Oper} {s : St} {h h' : Heap} {t et : TypeId} {a x : Operand} {ti : TI} {id off ver : Nat} {cells vs cells' : List Value} {v : Value} {r : Res} (hh : s.h = h) (hw : wantedA all o s = some true) (ho : o.op = .store t a x) (ht : tinfo env.P t = some ti) (ha : ev s a = some (.pointer (some ⟨id, off, some ver⟩))) (hid : h[id]? = some (.arr cells ver true et)) (hx : ev s x = some v) (hv : vcells ti.size v = some vs)
    (hq : wrC cells off vs = some cells') (hd : o.dst = none) (he : h' = h.set id (HObj.arr cells' ver true et)) : One env all o s r h' := by
  subst hh he
  exact .stoH hw ho ht ha hid hx hv hq hd
/-- lists of the call's own in a list of the call's own -/
structure NL (h hk : Heap) (io : Nat) (us : List Value) (ls : List (List Int)) : Prop where
  n : us.length = ls.length
  g : ∀ (i : Nat) (u : Value) (l : List Int), us[i]? = some u → ls[i]? = some l → Grow h hk u l.length (l.map i64) 3
  d : ∀ (i j : Nat) (u w : Value) (x : Nat), i ≠ j → us[i]? = some u → us[j]? = some w → isAt u x = true → isAt w x = false
  o : ∀ (i : Nat) (u : Value), us[i]? = some u → isAt u io = false
theorem NL.put {h hk h' : Heap} {io i : Nat} {us : List Value} {ls : List (List Int)} {v v' : Value} {l l' : List Int} {vs : List Value} (H : NL h hk io us ls) (hi : us[i]? = some v) (hl : ls[i]? = some l) (hio : io < hk.length)
    (G : Grow h h' v' l'.length (l'.map i64) 3) (hp : ∀ j o, isAt v j = false → hk[j]? = some o → h'[j]? = some o) (hx : ∀ x, isAt v' x = true → isAt v x = true ∨ x = hk.length) :
    NL h (h'.set io (.arr vs 0 true 40)) io (us.set i v') (ls.set i l') := by
  have hiu : i < us.length := (List.getElem?_eq_some_iff.1 hi).1
  have hil : i < ls.length := (List.getElem?_eq_some_iff.1 hl).1
  have at' : ∀ (j : Nat) (u : Value), us[j]? = some u → ∀ x, isAt u x = true → x < hk.length ∧ x ≠ io := fun j u hj x hu => by
    obtain ⟨l, hl⟩ : ∃ l, ls[j]? = some l := ⟨ls[j]'(by rw [← H.n]; exact (List.getElem?_eq_some_iff.1 hj).1), by simp⟩
    have h1 := (H.g j u l hj hl).lt hu
    refine ⟨h1.2, ?_⟩
    rintro rfl
    rw [H.o j u hj] at hu
    cases hu
  have v'io : isAt v' io = false := by
    cases hb : isAt v' io with
    | false => rfl
    | true =>
      rcases hx io hb with h1 | h1
      · exact ((at' i v hi io h1).2 rfl).elim
      · omega
  have setne : ∀ (u : Value), isAt u io = false → ∀ j o, isAt u j = true → h'[j]? = some o → (h'.set io (.arr vs 0 true 40))[j]? = some o := fun u hu j o hj ho => by
    rw [get_set_ne (by rintro rfl; rw [hu] at hj; cases hj)]
    exact ho
  refine ⟨by simp [H.n], fun j u q hj hq => ?_, fun j k u w x hjk hj hk2 hu => ?_, fun j u hj => ?_⟩
  · rw [List.getElem?_set] at hj hq
    by_cases e : i = j
    · subst e
      rw [if_pos rfl, if_pos hiu] at hj
      rw [if_pos rfl, if_pos hil] at hq
      cases hj; cases hq
      exact G.mono (setne _ v'io)
    · rw [if_neg e] at hj hq
      refine (H.g j u q hj hq).mono fun x o hx1 ho => ?_
      exact setne u (H.o j u hj) x o hx1 (hp x o (H.d j i u v x (Ne.symm e) hj hi hx1) ho)
  · rw [List.getElem?_set] at hj hk2
    by_cases e : i = j
    · subst e
      rw [if_pos rfl, if_pos hiu] at hj
      rw [if_neg hjk] at hk2
      cases hj
      rcases hx x hu with h1 | h1
      · exact H.d i k v w x hjk hi hk2 h1
      · cases hb : isAt w x with
        | false => rfl
        | true => have := (at' k w hk2 x hb).1; omega
    · rw [if_neg e] at hj
      by_cases e2 : i = k
      · subst e2
        rw [if_pos rfl, if_pos hiu] at hk2
        cases hk2
        cases hb : isAt v' x with
        | false => rfl
        | true =>
          rcases hx x hb with h1 | h1
          · rw [H.d j i u v x hjk hj hi hu] at h1
            cases h1
          · have := (at' j u hj x hu).1; omega
      · rw [if_neg e2] at hk2
        exact H.d j k u w x hjk hj hk2 hu
  · rw [List.getElem?_set] at hj
    by_cases e : i = j
    · subst e
      rw [if_pos rfl, if_pos hiu] at hj
      cases hj
      exact v'io
    · rw [if_neg e] at hj
      exact H.o j u hj
theorem wrV {us : List Value} {i : Nat} {u : Value} (hi : i < us.length) : wrC us i [u] = some (us.set i u) := by
  have := wr_map (f := id) (l := us) (x := u) hi
  simpa using this
def lget (ls : List (List Int)) (i : Int) : List Int := ls.getD i.toNat []
theorem lget_set {ls : List (List Int)} {i j : Int} {l : List Int} (h0 : 0 ≤ i) (h1 : i < ls.length) (j0 : 0 ≤ j) : lget (ls.set i.toNat l) j = if i = j then l else lget ls j := by
  unfold lget
  simp only [List.getD_eq_getElem?_getD, List.getElem?_set]
  by_cases h : i = j
  · subst h
    rw [if_pos rfl, if_pos rfl, if_pos (by omega)]
    rfl
  · rw [if_neg (by omega), if_neg h]
theorem lget_rep {n : Nat} {i : Int} : lget (List.replicate n []) i = [] := by
  unfold lget
  rw [List.getD_eq_getElem?_getD, List.getElem?_replicate]
  split <;> rfl
theorem lget_get {ls : List (List Int)} {i : Int} (h0 : 0 ≤ i) (h1 : i < ls.length) : ls[i.toNat]? = some (lget ls i) := by
  unfold lget
  rw [List.getD_eq_getElem?_getD, List.getElem?_eq_getElem (by omega : i.toNat < ls.length)]
  rfl
def EdgeR (D : Int → Prop) (r : Rule) (n : Nat) (b : Int) : Prop := ∃ (k : Nat) (hk : k < r.rhs.length), k < n ∧ 0 ≤ r.rhs[k].nt ∧ r.rhs[k].nt = b ∧ ∀ (j : Nat) (hj : j < r.rhs.length), j ≠ k → NullS D r.rhs[j]
structure LI (g : Gram) (D : Int → Prop) (k : Nat) (ls : List (List Int)) : Prop where
  n : (ls.length : Int) = g.nts
  m : ∀ a b : Int, 0 ≤ a → a < g.nts → (b ∈ lget ls a ↔ ∃ r ∈ g.rules.take k, r.lhs = a ∧ EdgeR D r r.rhs.length b)
theorem LI.edge {g : Gram} {D : Int → Prop} {ls : List (List Int)} (h : LI g D g.rules.length ls) {a b : Int} (h0 : 0 ≤ a) (h1 : a < g.nts) : b ∈ lget ls a ↔ Edge g D a b := by
  rw [h.m a b h0 h1, List.take_length]
  constructor
  · rintro ⟨r, hr, e, k, hk, _, h2, h3, h4⟩
    exact ⟨r, hr, e, k, hk, h2, h3, h4⟩
  · rintro ⟨r, hr, e, k, hk, h2, h3, h4⟩
    exact ⟨r, hr, e, k, hk, hk, h2, h3, h4⟩
structure SG where
  hk : Heap
  us : List Value
  ls : List (List Int)
structure SGI (h : Heap) (N k : Nat) (x : SG) : Prop where
  p : h <+: x.hk
  o : x.hk[h.length]? = some (.arr x.us 0 true 40)
  l : NL h x.hk h.length x.us x.ls
  n : x.us.length = N
  b : ∀ l ∈ x.ls, l.length ≤ 80 * k
theorem ow_mkInts {all : Array Oper} {o : Oper} {r : List Oper} {s : St} {K : St → Prop} {x : Operand} {n : Int} {N : Nat} (hw : wantedA all o s = some true) (ho : o.op = .makeSlice 63 x x) (hx : ev s x = some (i64 n)) (hN : n = N) (hN2 : N ≤ 1000000)
    (k : OW env all r ({ s with h := s.h ++ [HObj.arr (List.replicate N nilS) 0 true 40] }.putO o.dst (.val (.slice (some ⟨s.h.length, 0, some 0⟩) N N))) K) : OW env all (o :: r) s K := by
  exact ow_mkv hw ho hx hN (by kernel_rfl) ti40 rfl (by rfl) (by simp only; omega) (by omega) flat_rep1 k
/-- what steps makes -/
def StepsR (g : Gram) (h h' : Heap) (x : Value) : Prop := ∃ us ls, x = .slice (some ⟨h.length, 0, some 0⟩) us.length us.length ∧ h'[h.length]? = some (.arr us 0 true 40) ∧ NL h h' h.length us ls ∧ LI g (nullD g) g.rules.length ls ∧ ∀ l ∈ ls, l.length ≤ 655360
set_option maxHeartbeats 8000000 in
theorem steps_fw {h : Heap} {g : Gram} {v mv : Value} {m : List Bool} (hr : RdGram h v g) (R : RightS g) (hm : Marks g.nts (nullD g) m) (hmr : RdBools h mv m) : FW env 45 [v, mv] h fun x h' => StepsR g h h' x ∧ h <+: h' := by
  obtain ⟨u, rfl, hu⟩ := id hr
  obtain ⟨p, c, rfl⟩ := hu.form
  have hle := hu.le
  have n1 := R.n1
  have n2 := R.n2
  have hrl := R.rl
  obtain ⟨N, hN⟩ : ∃ N : Nat, g.nts = N := ⟨g.nts.toNat, by omega⟩
  have hml := hm.1
  obtain ⟨idm, verm, om, cm, rfl, hgm⟩ := SlR.at hmr (by omega)
  have hm2 : m.length = N := by omega
  refine fw_enter (fn := Try.f45) Try.func45 rfl (by kernel_rfl) (by simp [Try.ntmps45]) ?_; simp only [push_cast]
  repeat (first | refine cw_seq ?_ | refine cw_region ?_ | refine ow_nil ?_ | ((first | apply ow_cons | apply qw_cons); · simp only [push_cast, env, Nat.reduceEqDiff, reduceIte, Nat.reduceAdd, Nat.reduceMul, Nat.reduceLeDiff, reduceCtorEq, Nat.reduceSub, Int.reduceToNat] <;> exact rfl) | ((first | apply ow_spec | apply qw_spec); · simp only [push_cast, env, Nat.reduceEqDiff, reduceIte, Nat.reduceAdd, Nat.reduceMul, Nat.reduceLeDiff, reduceCtorEq, Nat.reduceSub, Int.reduceToNat] <;> exact rfl) | refine qw_nil ?_ | refine cw_block ?_ | refine cw_scope ?_ | refine cw_label ?_ | refine cw_skip ?_)
  refine ow_mkInts (N := N) (by simp only [push_cast, env, Nat.reduceEqDiff, reduceIte, Nat.reduceAdd, Nat.reduceMul, Nat.reduceLeDiff, reduceCtorEq, Nat.reduceSub, Int.reduceToNat] <;> exact rfl) rfl (by simp only [push_cast, env, Nat.reduceEqDiff, reduceIte, Nat.reduceAdd, Nat.reduceMul, Nat.reduceLeDiff, reduceCtorEq, Nat.reduceSub, Int.reduceToNat] <;> exact rfl) hN (by omega) ?_
  repeat (first | refine cw_seq ?_ | refine cw_region ?_ | refine ow_nil ?_ | ((first | apply ow_cons | apply qw_cons); · simp only [push_cast, env, Nat.reduceEqDiff, reduceIte, Nat.reduceAdd, Nat.reduceMul, Nat.reduceLeDiff, reduceCtorEq, Nat.reduceSub, Int.reduceToNat] <;> exact rfl) | ((first | apply ow_spec | apply qw_spec); · simp only [push_cast, env, Nat.reduceEqDiff, reduceIte, Nat.reduceAdd, Nat.reduceMul, Nat.reduceLeDiff, reduceCtorEq, Nat.reduceSub, Int.reduceToNat] <;> exact rfl) | refine qw_nil ?_ | refine cw_block ?_ | refine cw_scope ?_ | refine cw_label ?_ | refine cw_skip ?_)
  refine cw_forG g.rules.length (fun k (x : SG) => [(1, .val (.slice (some ⟨idm, 0, some verm⟩) m.length cm)), (2, .box [i64 g.nts, i64 g.start, .slice p g.rules.length c]), (5, .val (.slice (some ⟨h.length, 0, some 0⟩) N N)), (17, .val (.slice p g.rules.length c)), (18, .val (i64 g.rules.length)), (19, .val (i64 k))]) (fun _ x => x.hk)
    (fun k x => SGI h N k x ∧ LI g (nullD g) k x.ls) ⟨_, List.replicate N nilS, List.replicate N []⟩ (by simp only [push_cast, SubL, fget, Nat.reduceEqDiff, reduceIte]) rfl ⟨⟨prefix_push, get_push, ⟨by simp, ?_, ?_, ?_⟩, by simp, ?_⟩, ⟨by simp [hN], ?_⟩⟩ ?_
  · intro i u l h1 h2
    have hi : i < N := by have := (List.getElem?_eq_some_iff.1 h1).1; simpa using this
    rw [List.getElem?_replicate, if_pos hi] at h1 h2
    cases h1; cases h2
    exact Grow.nil
  · intro i j u w x _ h1 _ h3
    rw [List.getElem?_replicate] at h1
    split at h1 <;> cases h1
    simp [isAt] at h3
  · intro i u h1
    rw [List.getElem?_replicate] at h1
    split at h1 <;> cases h1
    rfl
  · intro l hl
    rw [List.mem_replicate] at hl
    rw [hl.2]
    simp
  · intro a b h0 h1
    rw [lget_rep]
    simp
  rintro k ⟨hk, us, ls⟩ hkn ⟨⟨hp, ho, hl, hn, hb⟩, hI⟩
  simp only at hp ho hl hn hb hI ⊢
  by_cases hlt : k < g.rules.length
  · obtain ⟨id, ver, own, c', cells, p', n', c2, hv, hid, hn, hrd, hu'⟩ := hu.at hlt
    cases hv
    subst hn
    have e0 := rdH_get0 hrd (by omega)
    have e0' := rdH_get (j := 1) hrd (by omega)
    simp only [List.getElem?_cons_succ, List.getElem?_cons_zero] at e0 e0'
    have e1 := rng hlt
    have e2 := inc hlt hle
    have e3 := lt_dec hlt
    have hmem : g.rules[k] ∈ _ := List.getElem_mem hlt
    have hn2 := RdSyms.le hu'
    obtain ⟨a1, a2, a3, hS⟩ := R.r _ hmem
    have hid2 := getElem?_prefix hp hid
    have hgm2 := getElem?_prefix hp hgm
    repeat (first | refine cw_seq ?_ | refine cw_region ?_ | refine ow_nil ?_ | ((first | apply ow_cons | apply qw_cons); · simp only [push_cast, env, Nat.reduceEqDiff, reduceIte, Nat.reduceAdd, Nat.reduceMul, Nat.reduceLeDiff, reduceCtorEq, Nat.reduceSub, Int.reduceToNat, e1, hid2, hrd, e3] <;> exact rfl) | ((first | apply ow_spec | apply qw_spec); · simp only [push_cast, env, Nat.reduceEqDiff, reduceIte, Nat.reduceAdd, Nat.reduceMul, Nat.reduceLeDiff, reduceCtorEq, Nat.reduceSub, Int.reduceToNat, e1, hid2, hrd, e3] <;> exact rfl) | refine qw_nil ?_ | refine cw_block ?_ | refine cw_scope ?_ | refine cw_label ?_ | refine cw_skip ?_)
    refine cw_condT (by simp only [push_cast, env, Nat.reduceEqDiff, reduceIte, Nat.reduceAdd, Nat.reduceMul, Nat.reduceLeDiff, reduceCtorEq, Nat.reduceSub, Int.reduceToNat] <;> exact rfl) ?_
    repeat (first | refine cw_seq ?_ | refine cw_region ?_ | refine ow_nil ?_ | ((first | apply ow_cons | apply qw_cons); · simp only [push_cast, env, Nat.reduceEqDiff, reduceIte, Nat.reduceAdd, Nat.reduceMul, Nat.reduceLeDiff, reduceCtorEq, Nat.reduceSub, Int.reduceToNat, e1, hid2, hrd] <;> exact rfl) | ((first | apply ow_spec | apply qw_spec); · simp only [push_cast, env, Nat.reduceEqDiff, reduceIte, Nat.reduceAdd, Nat.reduceMul, Nat.reduceLeDiff, reduceCtorEq, Nat.reduceSub, Int.reduceToNat, e1, hid2, hrd] <;> exact rfl) | refine qw_nil ?_ | refine cw_block ?_ | refine cw_scope ?_ | refine cw_label ?_ | refine cw_skip ?_)
    refine CW.mono (Q := fun e s' => e = .exit 2 ∧ s'.h = hk ∧ SubL [(1, .val (.slice (some ⟨idm, 0, some verm⟩) m.length cm)), (2, .box [i64 g.nts, i64 g.start, .slice (some ⟨id, 0, some ver⟩) g.rules.length c]), (5, .val (.slice (some ⟨h.length, 0, some 0⟩) N N)), (7, .box [i64 g.rules[k].lhs, .slice p' g.rules[k].rhs.length c2]), (8, .val (i64 (badN m g.rules[k].rhs))), (17, .val (.slice (some ⟨id, 0, some ver⟩) g.rules.length c)), (18, .val (i64 g.rules.length)), (19, .val (i64 k))] s'.fr) ?_ ?_
    · refine cw_for g.rules[k].rhs.length (fun j => [(1, .val (.slice (some ⟨idm, 0, some verm⟩) m.length cm)), (2, .box [i64 g.nts, i64 g.start, .slice (some ⟨id, 0, some ver⟩) g.rules.length c]), (5, .val (.slice (some ⟨h.length, 0, some 0⟩) N N)), (7, .box [i64 g.rules[k].lhs, .slice p' g.rules[k].rhs.length c2]), (8, .val (i64 (badN m (g.rules[k].rhs.take j)))), (17, .val (.slice (some ⟨id, 0, some ver⟩) g.rules.length c)), (18, .val (i64 g.rules.length)), (19, .val (i64 k)), (24, .val (.slice p' g.rules[k].rhs.length c2)), (25, .val (i64 g.rules[k].rhs.length)), (26, .val (i64 j))]) (fun _ => hk)
        (fun _ => True) (by simp only [push_cast, SubL, fget, Nat.reduceEqDiff, reduceIte, List.take_zero, badN, List.countP_nil]) rfl trivial ?_
      intro j hj _
      by_cases hjl : j < g.rules[k].rhs.length
      · obtain ⟨id2, ver2, own2, c3, cells2, hv2, hid2, hrd2⟩ := hu'.at hjl
        cases hv2
        have e9 := rng hjl
        have e10 := inc hjl (by omega)
        have e11 := lt_dec hjl
        have g0 := rdH_get0 hrd2 (by omega)
        simp only [List.getElem?_cons_zero] at g0
        have hmem2 : g.rules[k].rhs[j] ∈ _ := List.getElem_mem hjl
        have hs2 := hS _ hmem2
        have hid4 := getElem?_prefix hp hid2
        have hbt := badN_take (m := m) hjl
        have hble := badN_le (m := m) (l := g.rules[k].rhs.take j)
        rw [List.length_take, Nat.min_eq_left hj] at hble
        have e4 : IntKind.i64.wrap ((badN m (g.rules[k].rhs.take j) : Int) + 1) = (badN m (g.rules[k].rhs.take j) : Int) + 1 := wrap64_id (by omega) (by omega)
        repeat (first | refine cw_seq ?_ | refine cw_region ?_ | refine ow_nil ?_ | ((first | apply ow_cons | apply qw_cons); · simp only [push_cast, env, Nat.reduceEqDiff, reduceIte, Nat.reduceAdd, Nat.reduceMul, Nat.reduceLeDiff, reduceCtorEq, Nat.reduceSub, Int.reduceToNat, e9, hid4, hrd2, e11] <;> exact rfl) | ((first | apply ow_spec | apply qw_spec); · simp only [push_cast, env, Nat.reduceEqDiff, reduceIte, Nat.reduceAdd, Nat.reduceMul, Nat.reduceLeDiff, reduceCtorEq, Nat.reduceSub, Int.reduceToNat, e9, hid4, hrd2, e11] <;> exact rfl) | refine qw_nil ?_ | refine cw_block ?_ | refine cw_scope ?_ | refine cw_label ?_ | refine cw_skip ?_)
        refine cw_condT (by simp only [push_cast, env, Nat.reduceEqDiff, reduceIte, Nat.reduceAdd, Nat.reduceMul, Nat.reduceLeDiff, reduceCtorEq, Nat.reduceSub, Int.reduceToNat] <;> exact rfl) ?_
        repeat (first | refine cw_seq ?_ | refine cw_region ?_ | refine ow_nil ?_ | ((first | apply ow_cons | apply qw_cons); · simp only [push_cast, env, Nat.reduceEqDiff, reduceIte, Nat.reduceAdd, Nat.reduceMul, Nat.reduceLeDiff, reduceCtorEq, Nat.reduceSub, Int.reduceToNat, e9, hid4, hrd2] <;> exact rfl) | ((first | apply ow_spec | apply qw_spec); · simp only [push_cast, env, Nat.reduceEqDiff, reduceIte, Nat.reduceAdd, Nat.reduceMul, Nat.reduceLeDiff, reduceCtorEq, Nat.reduceSub, Int.reduceToNat, e9, hid4, hrd2] <;> exact rfl) | refine qw_nil ?_ | refine cw_block ?_ | refine cw_scope ?_ | refine cw_label ?_ | refine cw_skip ?_)
        by_cases h0 : 0 ≤ g.rules[k].rhs[j].nt
        · have d1 : decide (g.rules[k].rhs[j].nt < 0) = false := decide_eq_false (by omega)
          have q3 := rng0 (N := m.length) h0 (by omega)
          have qb := bit_map (m := m) h0 (by omega)
          repeat (first | refine cw_seq ?_ | refine cw_region ?_ | refine ow_nil ?_ | ((first | apply ow_cons | apply qw_cons); · simp only [push_cast, env, Nat.reduceEqDiff, reduceIte, Nat.reduceAdd, Nat.reduceMul, Nat.reduceLeDiff, reduceCtorEq, Nat.reduceSub, Int.reduceToNat, d1, q3, hgm2, qb, Nat.mul_one] <;> exact rfl) | ((first | apply ow_spec | apply qw_spec); · simp only [push_cast, env, Nat.reduceEqDiff, reduceIte, Nat.reduceAdd, Nat.reduceMul, Nat.reduceLeDiff, reduceCtorEq, Nat.reduceSub, Int.reduceToNat, d1, q3, hgm2, qb, Nat.mul_one] <;> exact rfl) | refine qw_nil ?_ | refine cw_block ?_ | refine cw_scope ?_ | refine cw_label ?_ | refine cw_skip ?_)
          refine cw_cond (by simp only [push_cast, env, Nat.reduceEqDiff, reduceIte, Nat.reduceAdd, Nat.reduceMul, Nat.reduceLeDiff, reduceCtorEq, Nat.reduceSub, Int.reduceToNat] <;> exact rfl) (fun b1 => ?_) (fun b1 => ?_)
          · have e : nullB m g.rules[k].rhs[j] = false := by unfold nullB; rw [decide_eq_true h0]; simpa using b1
            rw [e] at hbt
            repeat (first | refine cw_seq ?_ | refine cw_region ?_ | refine ow_nil ?_ | ((first | apply ow_cons | apply qw_cons); · simp only [push_cast, env, Nat.reduceEqDiff, reduceIte, Nat.reduceAdd, Nat.reduceMul, Nat.reduceLeDiff, reduceCtorEq, Nat.reduceSub, Int.reduceToNat, e4, e10] <;> exact rfl) | ((first | apply ow_spec | apply qw_spec); · simp only [push_cast, env, Nat.reduceEqDiff, reduceIte, Nat.reduceAdd, Nat.reduceMul, Nat.reduceLeDiff, reduceCtorEq, Nat.reduceSub, Int.reduceToNat, e4, e10] <;> exact rfl) | refine qw_nil ?_ | refine cw_block ?_ | refine cw_scope ?_ | refine cw_label ?_ | refine cw_skip ?_)
            exact ⟨hjl, (by simp only [push_cast, SubL, fget, Nat.reduceEqDiff, reduceIte, hbt, Bool.false_eq_true, if_false]), rfl, trivial⟩
          · have e : nullB m g.rules[k].rhs[j] = true := by unfold nullB; rw [decide_eq_true h0]; simpa using b1
            rw [e] at hbt
            repeat (first | refine cw_seq ?_ | refine cw_region ?_ | refine ow_nil ?_ | ((first | apply ow_cons | apply qw_cons); · simp only [push_cast, env, Nat.reduceEqDiff, reduceIte, Nat.reduceAdd, Nat.reduceMul, Nat.reduceLeDiff, reduceCtorEq, Nat.reduceSub, Int.reduceToNat, e10] <;> exact rfl) | ((first | apply ow_spec | apply qw_spec); · simp only [push_cast, env, Nat.reduceEqDiff, reduceIte, Nat.reduceAdd, Nat.reduceMul, Nat.reduceLeDiff, reduceCtorEq, Nat.reduceSub, Int.reduceToNat, e10] <;> exact rfl) | refine qw_nil ?_ | refine cw_block ?_ | refine cw_scope ?_ | refine cw_label ?_ | refine cw_skip ?_)
            exact ⟨hjl, (by simp only [push_cast, SubL, fget, Nat.reduceEqDiff, reduceIte, hbt]), rfl, trivial⟩
        · have d1 : decide (g.rules[k].rhs[j].nt < 0) = true := decide_eq_true (by omega)
          have e : nullB m g.rules[k].rhs[j] = false := by unfold nullB; rw [decide_eq_false h0]; rfl
          rw [e] at hbt
          repeat (first | refine cw_seq ?_ | refine cw_region ?_ | refine ow_nil ?_ | ((first | apply ow_cons | apply qw_cons); · simp only [push_cast, env, Nat.reduceEqDiff, reduceIte, Nat.reduceAdd, Nat.reduceMul, Nat.reduceLeDiff, reduceCtorEq, Nat.reduceSub, Int.reduceToNat, d1] <;> exact rfl) | ((first | apply ow_spec | apply qw_spec); · simp only [push_cast, env, Nat.reduceEqDiff, reduceIte, Nat.reduceAdd, Nat.reduceMul, Nat.reduceLeDiff, reduceCtorEq, Nat.reduceSub, Int.reduceToNat, d1] <;> exact rfl) | refine qw_nil ?_ | refine cw_block ?_ | refine cw_scope ?_ | refine cw_label ?_ | refine cw_skip ?_)
          refine cw_condT (by simp only [push_cast, env, Nat.reduceEqDiff, reduceIte, Nat.reduceAdd, Nat.reduceMul, Nat.reduceLeDiff, reduceCtorEq, Nat.reduceSub, Int.reduceToNat] <;> exact rfl) ?_
          repeat (first | refine cw_seq ?_ | refine cw_region ?_ | refine ow_nil ?_ | ((first | apply ow_cons | apply qw_cons); · simp only [push_cast, env, Nat.reduceEqDiff, reduceIte, Nat.reduceAdd, Nat.reduceMul, Nat.reduceLeDiff, reduceCtorEq, Nat.reduceSub, Int.reduceToNat, e4, e10] <;> exact rfl) | ((first | apply ow_spec | apply qw_spec); · simp only [push_cast, env, Nat.reduceEqDiff, reduceIte, Nat.reduceAdd, Nat.reduceMul, Nat.reduceLeDiff, reduceCtorEq, Nat.reduceSub, Int.reduceToNat, e4, e10] <;> exact rfl) | refine qw_nil ?_ | refine cw_block ?_ | refine cw_scope ?_ | refine cw_label ?_ | refine cw_skip ?_)
          exact ⟨hjl, (by simp only [push_cast, SubL, fget, Nat.reduceEqDiff, reduceIte, hbt, Bool.false_eq_true, if_false]), rfl, trivial⟩
      · have e11 := ge_dec hjl
        obtain rfl : j = g.rules[k].rhs.length := by omega
        repeat (first | refine cw_seq ?_ | refine cw_region ?_ | refine ow_nil ?_ | ((first | apply ow_cons | apply qw_cons); · simp only [push_cast, env, Nat.reduceEqDiff, reduceIte, Nat.reduceAdd, Nat.reduceMul, Nat.reduceLeDiff, reduceCtorEq, Nat.reduceSub, Int.reduceToNat, e11] <;> exact rfl) | ((first | apply ow_spec | apply qw_spec); · simp only [push_cast, env, Nat.reduceEqDiff, reduceIte, Nat.reduceAdd, Nat.reduceMul, Nat.reduceLeDiff, reduceCtorEq, Nat.reduceSub, Int.reduceToNat, e11] <;> exact rfl) | refine qw_nil ?_ | refine cw_block ?_ | refine cw_scope ?_ | refine cw_label ?_ | refine cw_skip ?_)
        refine cw_condF (by simp only [push_cast, env, Nat.reduceEqDiff, reduceIte, Nat.reduceAdd, Nat.reduceMul, Nat.reduceLeDiff, reduceCtorEq, Nat.reduceSub, Int.reduceToNat] <;> exact rfl) ?_
        refine cw_exit ?_
        rw [List.take_length]
        exact ⟨rfl, rfl, (by simp only [push_cast, SubL, fget, Nat.reduceEqDiff, reduceIte])⟩
    rintro e s' ⟨rfl, hh, hf⟩
    show CW _ _ _ _
    refine cw_weakL _ hf ?_
    rw [hh]
    clear hh hf s'
    repeat (first | refine cw_seq ?_ | refine cw_region ?_ | refine ow_nil ?_ | ((first | apply ow_cons | apply qw_cons); · simp only [push_cast, env, Nat.reduceEqDiff, reduceIte, Nat.reduceAdd, Nat.reduceMul, Nat.reduceLeDiff, reduceCtorEq, Nat.reduceSub, Int.reduceToNat] <;> exact rfl) | ((first | apply ow_spec | apply qw_spec); · simp only [push_cast, env, Nat.reduceEqDiff, reduceIte, Nat.reduceAdd, Nat.reduceMul, Nat.reduceLeDiff, reduceCtorEq, Nat.reduceSub, Int.reduceToNat] <;> exact rfl) | refine qw_nil ?_ | refine cw_block ?_ | refine cw_scope ?_ | refine cw_label ?_ | refine cw_skip ?_)
    refine cw_forG g.rules[k].rhs.length (fun j (x : SG) => [(1, .val (.slice (some ⟨idm, 0, some verm⟩) m.length cm)), (2, .box [i64 g.nts, i64 g.start, .slice (some ⟨id, 0, some ver⟩) g.rules.length c]), (5, .val (.slice (some ⟨h.length, 0, some 0⟩) N N)), (7, .box [i64 g.rules[k].lhs, .slice p' g.rules[k].rhs.length c2]), (8, .val (i64 (badN m g.rules[k].rhs))), (17, .val (.slice (some ⟨id, 0, some ver⟩) g.rules.length c)), (18, .val (i64 g.rules.length)), (19, .val (i64 k)), (45, .val (.slice p' g.rules[k].rhs.length c2)), (46, .val (i64 g.rules[k].rhs.length)), (47, .val (i64 j))]) (fun _ x => x.hk)
      (fun j x => h <+: x.hk ∧ x.hk[h.length]? = some (.arr x.us 0 true 40) ∧ NL h x.hk h.length x.us x.ls ∧ x.us.length = N ∧ (∀ l ∈ x.ls, l.length ≤ 80 * k + j) ∧ (x.ls.length : Int) = g.nts ∧ ∀ a b : Int, 0 ≤ a → a < g.nts → (b ∈ lget x.ls a ↔ (∃ r ∈ g.rules.take k, r.lhs = a ∧ EdgeR (nullD g) r r.rhs.length b) ∨ g.rules[k].lhs = a ∧ EdgeR (nullD g) g.rules[k] j b)) ⟨hk, us, ls⟩ (by simp only [push_cast, SubL, fget, Nat.reduceEqDiff, reduceIte]) rfl ⟨hp, ho, hl, hn, hb, hI.n, ?_⟩ ?_
    · intro a b h0 h1
      rw [hI.m a b h0 h1]
      refine ⟨.inl, fun hh => hh.elim (fun h => h) fun h => ?_⟩
      obtain ⟨_, k0, _, hlt0, _⟩ := h
      exact absurd hlt0 (Nat.not_lt_zero _)
    rintro j ⟨hk1, us1, ls1⟩ hjn ⟨hp1, ho1, hl1, hn1, hb1, hnl1, hm1⟩
    simp only at hp1 ho1 hl1 hn1 hb1 hnl1 hm1 ⊢
    by_cases hjl : j < g.rules[k].rhs.length
    · obtain ⟨id2, ver2, own2, c3, cells2, hv2, hid2, hrd2⟩ := hu'.at hjl
      cases hv2
      have e9 := rng hjl
      have e10 := inc hjl (by omega)
      have e11 := lt_dec hjl
      have g0 := rdH_get0 hrd2 (by omega)
      simp only [List.getElem?_cons_zero] at g0
      have hmem2 : g.rules[k].rhs[j] ∈ _ := List.getElem_mem hjl
      have hs2 := hS _ hmem2
      have hid4 := getElem?_prefix hp1 hid2
      have hgm3 := getElem?_prefix hp1 hgm
      have hbo := bad_others (m := m) hjl
      have hedge : EdgeR (nullD g) g.rules[k] (j + 1) g.rules[k].rhs[j].nt ↔ EdgeR (nullD g) g.rules[k] (j + 1) g.rules[k].rhs[j].nt := Iff.rfl
      have hone : (0 ≤ g.rules[k].rhs[j].nt ∧ (badN m g.rules[k].rhs = 0 ∨ (badN m g.rules[k].rhs = 1 ∧ nullB m g.rules[k].rhs[j] = false))) → ∀ b, EdgeR (nullD g) g.rules[k] (j + 1) b ↔ EdgeR (nullD g) g.rules[k] j b ∨ b = g.rules[k].rhs[j].nt := by
        rintro ⟨h0, hB⟩ b
        have hB := hbo.1 hB
        constructor
        · rintro ⟨k0, hk0, h1, h2, h3, h4⟩
          by_cases e : k0 = j
          · subst e
            exact .inr h3.symm
          · exact .inl ⟨k0, hk0, by omega, h2, h3, h4⟩
        · rintro (⟨k0, hk0, h1, h2, h3, h4⟩ | rfl)
          · exact ⟨k0, hk0, by omega, h2, h3, h4⟩
          · exact ⟨j, hjl, by omega, h0, rfl, fun y hy hne => (nullB_iff hm (hS _ (List.getElem_mem hy)).2.1).1 (hB y hy hne)⟩
      have hnot : ¬ (0 ≤ g.rules[k].rhs[j].nt ∧ (badN m g.rules[k].rhs = 0 ∨ (badN m g.rules[k].rhs = 1 ∧ nullB m g.rules[k].rhs[j] = false))) → ∀ b, EdgeR (nullD g) g.rules[k] (j + 1) b ↔ EdgeR (nullD g) g.rules[k] j b := by
        intro hc b
        constructor
        · rintro ⟨k0, hk0, h1, h2, h3, h4⟩
          by_cases e : k0 = j
          · subst e
            exact (hc ⟨h2, hbo.2 fun y hy hne => (nullB_iff hm (hS _ (List.getElem_mem hy)).2.1).2 (h4 y hy hne)⟩).elim
          · exact ⟨k0, hk0, by omega, h2, h3, h4⟩
        · rintro ⟨k0, hk0, h1, h2, h3, h4⟩
          exact ⟨k0, hk0, by omega, h2, h3, h4⟩
      repeat (first | refine cw_seq ?_ | refine cw_region ?_ | refine ow_nil ?_ | ((first | apply ow_cons | apply qw_cons); · simp only [push_cast, env, Nat.reduceEqDiff, reduceIte, Nat.reduceAdd, Nat.reduceMul, Nat.reduceLeDiff, reduceCtorEq, Nat.reduceSub, Int.reduceToNat, e9, hid4, hrd2, e11] <;> exact rfl) | ((first | apply ow_spec | apply qw_spec); · simp only [push_cast, env, Nat.reduceEqDiff, reduceIte, Nat.reduceAdd, Nat.reduceMul, Nat.reduceLeDiff, reduceCtorEq, Nat.reduceSub, Int.reduceToNat, e9, hid4, hrd2, e11] <;> exact rfl) | refine qw_nil ?_ | refine cw_block ?_ | refine cw_scope ?_ | refine cw_label ?_ | refine cw_skip ?_)
      refine cw_condT (by simp only [push_cast, env, Nat.reduceEqDiff, reduceIte, Nat.reduceAdd, Nat.reduceMul, Nat.reduceLeDiff, reduceCtorEq, Nat.reduceSub, Int.reduceToNat] <;> exact rfl) ?_
      by_cases h0 : 0 ≤ g.rules[k].rhs[j].nt
      · have d0 := decide_eq_true h0
        have q3 := rng0 (N := m.length) h0 (by omega)
        have qb := bit_map (m := m) h0 (by omega)
        have hnb : nullB m g.rules[k].rhs[j] = bit m g.rules[k].rhs[j].nt := by unfold nullB; rw [d0]; rfl
        by_cases w1 : badN m g.rules[k].rhs = 0
        · have d1 : decide ((badN m g.rules[k].rhs : Int) = 0) = true := decide_eq_true (by omega)
          have hB : 0 ≤ g.rules[k].rhs[j].nt ∧ (badN m g.rules[k].rhs = 0 ∨ (badN m g.rules[k].rhs = 1 ∧ nullB m g.rules[k].rhs[j] = false)) := ⟨h0, (.inl w1)⟩
          repeat (first | refine cw_seq ?_ | refine cw_region ?_ | refine ow_nil ?_ | ((first | apply ow_cons | apply qw_cons); · simp only [push_cast, env, Nat.reduceEqDiff, reduceIte, Nat.reduceAdd, Nat.reduceMul, Nat.reduceLeDiff, reduceCtorEq, Nat.reduceSub, Int.reduceToNat, e9, hid4, hrd2, d0, d1] <;> exact rfl) | ((first | apply ow_spec | apply qw_spec); · simp only [push_cast, env, Nat.reduceEqDiff, reduceIte, Nat.reduceAdd, Nat.reduceMul, Nat.reduceLeDiff, reduceCtorEq, Nat.reduceSub, Int.reduceToNat, e9, hid4, hrd2, d0, d1] <;> exact rfl) | refine qw_nil ?_ | refine cw_block ?_ | refine cw_scope ?_ | refine cw_label ?_ | refine cw_skip ?_)
          refine cw_condT (by simp only [push_cast, env, Nat.reduceEqDiff, reduceIte, Nat.reduceAdd, Nat.reduceMul, Nat.reduceLeDiff, reduceCtorEq, Nat.reduceSub, Int.reduceToNat, d1] <;> exact rfl) ?_
          repeat (first | refine cw_seq ?_ | refine cw_region ?_ | refine ow_nil ?_ | ((first | apply ow_cons | apply qw_cons); · simp only [push_cast, env, Nat.reduceEqDiff, reduceIte, Nat.reduceAdd, Nat.reduceMul, Nat.reduceLeDiff, reduceCtorEq, Nat.reduceSub, Int.reduceToNat] <;> exact rfl) | ((first | apply ow_spec | apply qw_spec); · simp only [push_cast, env, Nat.reduceEqDiff, reduceIte, Nat.reduceAdd, Nat.reduceMul, Nat.reduceLeDiff, reduceCtorEq, Nat.reduceSub, Int.reduceToNat] <;> exact rfl) | refine qw_nil ?_ | refine cw_block ?_ | refine cw_scope ?_ | refine cw_label ?_ | refine cw_skip ?_)
          refine cw_weakL [(1, .val (.slice (some ⟨idm, 0, some verm⟩) m.length cm)), (2, .box [i64 g.nts, i64 g.start, .slice (some ⟨id, 0, some ver⟩) g.rules.length c]), (5, .val (.slice (some ⟨h.length, 0, some 0⟩) N N)), (7, .box [i64 g.rules[k].lhs, .slice (some ⟨id2, 0, some ver2⟩) g.rules[k].rhs.length c2]), (8, .val (i64 (badN m g.rules[k].rhs))), (17, .val (.slice (some ⟨id, 0, some ver⟩) g.rules.length c)), (18, .val (i64 g.rules.length)), (19, .val (i64 k)), (45, .val (.slice (some ⟨id2, 0, some ver2⟩) g.rules[k].rhs.length c2)), (46, .val (i64 g.rules[k].rhs.length)), (47, .val (i64 j)), (12, .box [i64 g.rules[k].rhs[j].nt, u64 g.rules[k].rhs[j].set.a, u64 g.rules[k].rhs[j].set.b, u64 g.rules[k].rhs[j].set.c, u64 g.rules[k].rhs[j].set.d])] (by simp only [push_cast, SubL, fget, Nat.reduceEqDiff, reduceIte]) ?_
          have hA : g.rules[k].lhs.toNat < us1.length := by omega
          obtain ⟨v, hv⟩ : ∃ v, us1[g.rules[k].lhs.toNat]? = some v := ⟨_, List.getElem?_eq_getElem hA⟩
          have hlA := lget_get (ls := ls1) a1 (by omega)
          have G := hl1.g _ _ _ hv hlA
          obtain ⟨pv, cv, rfl⟩ := G.form
          have hlen : (lget ls1 g.rules[k].lhs).length ≤ 80 * k + j := hb1 _ (List.mem_of_getElem? hlA)
          obtain ⟨p2, c2', h2, hone1, G2, hp2, hpr, hx2⟩ := push_one (b := g.rules[k].rhs[j].nt) G hp1 (by omega)
          have ho2 : h2[h.length]? = some (.arr us1 0 true 40) := hpr _ _ (hl1.o _ _ hv) ho1
          have r1 := rng0 (N := N) a1 (by omega)
          refine cw_orderA [[], [], [1], [], [], [4], [3, 5], [6], [], [8], [9], [7, 10], [0, 2], [0, 1, 2, 3, 4, 5, 6, 7, 8, 9, 10, 11, 12]] [11, 13] [hk1, h2, h2.set h.length (.arr (us1.set g.rules[k].lhs.toNat (.slice p2 ((lget ls1 g.rules[k].lhs).length + 1) c2')) 0 true 40)]
            [.sl (.val (.slice (some ⟨h.length, 0, some 0⟩) N N)), .ep 7 0, .sl (.val (i64 g.rules[k].lhs)), .sl (.val (.slice (some ⟨h.length, 0, some 0⟩) N N)), .ep 7 0, .sl (.val (i64 g.rules[k].lhs)), .sl (.val (.pointer (some ⟨h.length, g.rules[k].lhs.toNat, some 0⟩))), .sl (.val (.slice pv (lget ls1 g.rules[k].lhs).length cv)),
             .ep 12 0, .sl (.val (i64 g.rules[k].rhs[j].nt)), .sl (.bsl [i64 g.rules[k].rhs[j].nt] 1), .sl (.val (.slice p2 ((lget ls1 g.rules[k].lhs).length + 1) c2')), .sl (.val (.pointer (some ⟨h.length, g.rules[k].lhs.toNat, some 0⟩))), .sl .unk]
            [(1, .val (.slice (some ⟨idm, 0, some verm⟩) m.length cm)), (2, .box [i64 g.nts, i64 g.start, .slice (some ⟨id, 0, some ver⟩) g.rules.length c]), (5, .val (.slice (some ⟨h.length, 0, some 0⟩) N N)), (7, .box [i64 g.rules[k].lhs, .slice (some ⟨id2, 0, some ver2⟩) g.rules[k].rhs.length c2]), (8, .val (i64 (badN m g.rules[k].rhs))), (17, .val (.slice (some ⟨id, 0, some ver⟩) g.rules.length c)), (18, .val (i64 g.rules.length)), (19, .val (i64 k)), (45, .val (.slice (some ⟨id2, 0, some ver2⟩) g.rules[k].rhs.length c2)), (46, .val (i64 g.rules[k].rhs.length)), (47, .val (i64 j)), (12, .box [i64 g.rules[k].rhs[j].nt, u64 g.rules[k].rhs[j].set.a, u64 g.rules[k].rhs[j].set.b, u64 g.rules[k].rhs[j].set.c, u64 g.rules[k].rhs[j].set.d])]
            [(1, .val (.slice (some ⟨idm, 0, some verm⟩) m.length cm)), (2, .box [i64 g.nts, i64 g.start, .slice (some ⟨id, 0, some ver⟩) g.rules.length c]), (5, .val (.slice (some ⟨h.length, 0, some 0⟩) N N)), (7, .box [i64 g.rules[k].lhs, .slice (some ⟨id2, 0, some ver2⟩) g.rules[k].rhs.length c2]), (8, .val (i64 (badN m g.rules[k].rhs))), (17, .val (.slice (some ⟨id, 0, some ver⟩) g.rules.length c)), (18, .val (i64 g.rules.length)), (19, .val (i64 k)), (45, .val (.slice (some ⟨id2, 0, some ver2⟩) g.rules[k].rhs.length c2)), (46, .val (i64 g.rules[k].rhs.length)), (47, .val (i64 j))] _ mixed (by kernel_rfl) rfl rfl rfl rfl rfl ?_ ⟨.inl ⟨by decide, rfl⟩, .inl ⟨by decide, rfl⟩, .inl ⟨by decide, rfl⟩, .inl ⟨by decide, rfl⟩, .inl ⟨by decide, rfl⟩, .inl ⟨by decide, rfl⟩, .inl ⟨by decide, rfl⟩, .inl ⟨by decide, rfl⟩, .inl ⟨by decide, rfl⟩, .inl ⟨by decide, rfl⟩, .inl ⟨by decide, rfl⟩, trivial⟩ ?_
          · repeat (first | exact StepsA.nil _ | (apply StepsA.cons; (· rfl); (· first | (refine ⟨?_, trivial⟩; (· (first | (apply one_val; (· rfl); (· simp only [push_cast, env, Nat.reduceEqDiff, reduceIte, Nat.reduceAdd, Nat.reduceMul, Nat.reduceLeDiff, reduceCtorEq, Nat.reduceSub, Int.reduceToNat, r1, ho1, hv, Nat.mul_one] <;> exact rfl); (· simp only [push_cast, env, Nat.reduceEqDiff, reduceIte, Nat.reduceAdd, Nat.reduceMul, Nat.reduceLeDiff, reduceCtorEq, Nat.reduceSub, Int.reduceToNat, r1, ho1, hv, Nat.mul_one] <;> exact rfl)) | (apply one_eph; (· rfl); (· simp only [push_cast, env, Nat.reduceEqDiff, reduceIte, Nat.reduceAdd, Nat.reduceMul, Nat.reduceLeDiff, reduceCtorEq, Nat.reduceSub, Int.reduceToNat, r1, ho1, hv, Nat.mul_one] <;> exact rfl); (· rfl); (· simp only [push_cast, env, Nat.reduceEqDiff, reduceIte, Nat.reduceAdd, Nat.reduceMul, Nat.reduceLeDiff, reduceCtorEq, Nat.reduceSub, Int.reduceToNat, r1, ho1, hv, Nat.mul_one] <;> exact rfl); (· decide))))) | (refine ⟨?_, ?_, trivial⟩; (· (first | (apply one_val; (· rfl); (· simp only [push_cast, env, Nat.reduceEqDiff, reduceIte, Nat.reduceAdd, Nat.reduceMul, Nat.reduceLeDiff, reduceCtorEq, Nat.reduceSub, Int.reduceToNat, r1, ho1, hv, Nat.mul_one] <;> exact rfl); (· simp only [push_cast, env, Nat.reduceEqDiff, reduceIte, Nat.reduceAdd, Nat.reduceMul, Nat.reduceLeDiff, reduceCtorEq, Nat.reduceSub, Int.reduceToNat, r1, ho1, hv, Nat.mul_one] <;> exact rfl)) | (apply one_eph; (· rfl); (· simp only [push_cast, env, Nat.reduceEqDiff, reduceIte, Nat.reduceAdd, Nat.reduceMul, Nat.reduceLeDiff, reduceCtorEq, Nat.reduceSub, Int.reduceToNat, r1, ho1, hv, Nat.mul_one] <;> exact rfl); (· rfl); (· simp only [push_cast, env, Nat.reduceEqDiff, reduceIte, Nat.reduceAdd, Nat.reduceMul, Nat.reduceLeDiff, reduceCtorEq, Nat.reduceSub, Int.reduceToNat, r1, ho1, hv, Nat.mul_one] <;> exact rfl); (· decide)))); (· (first | (apply one_val; (· rfl); (· simp only [push_cast, env, Nat.reduceEqDiff, reduceIte, Nat.reduceAdd, Nat.reduceMul, Nat.reduceLeDiff, reduceCtorEq, Nat.reduceSub, Int.reduceToNat, r1, ho1, hv, Nat.mul_one] <;> exact rfl); (· simp only [push_cast, env, Nat.reduceEqDiff, reduceIte, Nat.reduceAdd, Nat.reduceMul, Nat.reduceLeDiff, reduceCtorEq, Nat.reduceSub, Int.reduceToNat, r1, ho1, hv, Nat.mul_one] <;> exact rfl)) | (apply one_eph; (· rfl); (· simp only [push_cast, env, Nat.reduceEqDiff, reduceIte, Nat.reduceAdd, Nat.reduceMul, Nat.reduceLeDiff, reduceCtorEq, Nat.reduceSub, Int.reduceToNat, r1, ho1, hv, Nat.mul_one] <;> exact rfl); (· rfl); (· simp only [push_cast, env, Nat.reduceEqDiff, reduceIte, Nat.reduceAdd, Nat.reduceMul, Nat.reduceLeDiff, reduceCtorEq, Nat.reduceSub, Int.reduceToNat, r1, ho1, hv, Nat.mul_one] <;> exact rfl); (· decide))))) | (refine ⟨?_, ?_, ?_, trivial⟩; (· (first | (apply one_val; (· rfl); (· simp only [push_cast, env, Nat.reduceEqDiff, reduceIte, Nat.reduceAdd, Nat.reduceMul, Nat.reduceLeDiff, reduceCtorEq, Nat.reduceSub, Int.reduceToNat, r1, ho1, hv, Nat.mul_one] <;> exact rfl); (· simp only [push_cast, env, Nat.reduceEqDiff, reduceIte, Nat.reduceAdd, Nat.reduceMul, Nat.reduceLeDiff, reduceCtorEq, Nat.reduceSub, Int.reduceToNat, r1, ho1, hv, Nat.mul_one] <;> exact rfl)) | (apply one_eph; (· rfl); (· simp only [push_cast, env, Nat.reduceEqDiff, reduceIte, Nat.reduceAdd, Nat.reduceMul, Nat.reduceLeDiff, reduceCtorEq, Nat.reduceSub, Int.reduceToNat, r1, ho1, hv, Nat.mul_one] <;> exact rfl); (· rfl); (· simp only [push_cast, env, Nat.reduceEqDiff, reduceIte, Nat.reduceAdd, Nat.reduceMul, Nat.reduceLeDiff, reduceCtorEq, Nat.reduceSub, Int.reduceToNat, r1, ho1, hv, Nat.mul_one] <;> exact rfl); (· decide)))); (· (first | (apply one_val; (· rfl); (· simp only [push_cast, env, Nat.reduceEqDiff, reduceIte, Nat.reduceAdd, Nat.reduceMul, Nat.reduceLeDiff, reduceCtorEq, Nat.reduceSub, Int.reduceToNat, r1, ho1, hv, Nat.mul_one] <;> exact rfl); (· simp only [push_cast, env, Nat.reduceEqDiff, reduceIte, Nat.reduceAdd, Nat.reduceMul, Nat.reduceLeDiff, reduceCtorEq, Nat.reduceSub, Int.reduceToNat, r1, ho1, hv, Nat.mul_one] <;> exact rfl)) | (apply one_eph; (· rfl); (· simp only [push_cast, env, Nat.reduceEqDiff, reduceIte, Nat.reduceAdd, Nat.reduceMul, Nat.reduceLeDiff, reduceCtorEq, Nat.reduceSub, Int.reduceToNat, r1, ho1, hv, Nat.mul_one] <;> exact rfl); (· rfl); (· simp only [push_cast, env, Nat.reduceEqDiff, reduceIte, Nat.reduceAdd, Nat.reduceMul, Nat.reduceLeDiff, reduceCtorEq, Nat.reduceSub, Int.reduceToNat, r1, ho1, hv, Nat.mul_one] <;> exact rfl); (· decide)))); (· (first | (apply one_val; (· rfl); (· simp only [push_cast, env, Nat.reduceEqDiff, reduceIte, Nat.reduceAdd, Nat.reduceMul, Nat.reduceLeDiff, reduceCtorEq, Nat.reduceSub, Int.reduceToNat, r1, ho1, hv, Nat.mul_one] <;> exact rfl); (· simp only [push_cast, env, Nat.reduceEqDiff, reduceIte, Nat.reduceAdd, Nat.reduceMul, Nat.reduceLeDiff, reduceCtorEq, Nat.reduceSub, Int.reduceToNat, r1, ho1, hv, Nat.mul_one] <;> exact rfl)) | (apply one_eph; (· rfl); (· simp only [push_cast, env, Nat.reduceEqDiff, reduceIte, Nat.reduceAdd, Nat.reduceMul, Nat.reduceLeDiff, reduceCtorEq, Nat.reduceSub, Int.reduceToNat, r1, ho1, hv, Nat.mul_one] <;> exact rfl); (· rfl); (· simp only [push_cast, env, Nat.reduceEqDiff, reduceIte, Nat.reduceAdd, Nat.reduceMul, Nat.reduceLeDiff, reduceCtorEq, Nat.reduceSub, Int.reduceToNat, r1, ho1, hv, Nat.mul_one] <;> exact rfl); (· decide))))) | (refine ⟨?_, ?_, ?_, ?_, trivial⟩; (· (first | (apply one_val; (· rfl); (· simp only [push_cast, env, Nat.reduceEqDiff, reduceIte, Nat.reduceAdd, Nat.reduceMul, Nat.reduceLeDiff, reduceCtorEq, Nat.reduceSub, Int.reduceToNat, r1, ho1, hv, Nat.mul_one] <;> exact rfl); (· simp only [push_cast, env, Nat.reduceEqDiff, reduceIte, Nat.reduceAdd, Nat.reduceMul, Nat.reduceLeDiff, reduceCtorEq, Nat.reduceSub, Int.reduceToNat, r1, ho1, hv, Nat.mul_one] <;> exact rfl)) | (apply one_eph; (· rfl); (· simp only [push_cast, env, Nat.reduceEqDiff, reduceIte, Nat.reduceAdd, Nat.reduceMul, Nat.reduceLeDiff, reduceCtorEq, Nat.reduceSub, Int.reduceToNat, r1, ho1, hv, Nat.mul_one] <;> exact rfl); (· rfl); (· simp only [push_cast, env, Nat.reduceEqDiff, reduceIte, Nat.reduceAdd, Nat.reduceMul, Nat.reduceLeDiff, reduceCtorEq, Nat.reduceSub, Int.reduceToNat, r1, ho1, hv, Nat.mul_one] <;> exact rfl); (· decide)))); (· (first | (apply one_val; (· rfl); (· simp only [push_cast, env, Nat.reduceEqDiff, reduceIte, Nat.reduceAdd, Nat.reduceMul, Nat.reduceLeDiff, reduceCtorEq, Nat.reduceSub, Int.reduceToNat, r1, ho1, hv, Nat.mul_one] <;> exact rfl); (· simp only [push_cast, env, Nat.reduceEqDiff, reduceIte, Nat.reduceAdd, Nat.reduceMul, Nat.reduceLeDiff, reduceCtorEq, Nat.reduceSub, Int.reduceToNat, r1, ho1, hv, Nat.mul_one] <;> exact rfl)) | (apply one_eph; (· rfl); (· simp only [push_cast, env, Nat.reduceEqDiff, reduceIte, Nat.reduceAdd, Nat.reduceMul, Nat.reduceLeDiff, reduceCtorEq, Nat.reduceSub, Int.reduceToNat, r1, ho1, hv, Nat.mul_one] <;> exact rfl); (· rfl); (· simp only [push_cast, env, Nat.reduceEqDiff, reduceIte, Nat.reduceAdd, Nat.reduceMul, Nat.reduceLeDiff, reduceCtorEq, Nat.reduceSub, Int.reduceToNat, r1, ho1, hv, Nat.mul_one] <;> exact rfl); (· decide)))); (· (first | (apply one_val; (· rfl); (· simp only [push_cast, env, Nat.reduceEqDiff, reduceIte, Nat.reduceAdd, Nat.reduceMul, Nat.reduceLeDiff, reduceCtorEq, Nat.reduceSub, Int.reduceToNat, r1, ho1, hv, Nat.mul_one] <;> exact rfl); (· simp only [push_cast, env, Nat.reduceEqDiff, reduceIte, Nat.reduceAdd, Nat.reduceMul, Nat.reduceLeDiff, reduceCtorEq, Nat.reduceSub, Int.reduceToNat, r1, ho1, hv, Nat.mul_one] <;> exact rfl)) | (apply one_eph; (· rfl); (· simp only [push_cast, env, Nat.reduceEqDiff, reduceIte, Nat.reduceAdd, Nat.reduceMul, Nat.reduceLeDiff, reduceCtorEq, Nat.reduceSub, Int.reduceToNat, r1, ho1, hv, Nat.mul_one] <;> exact rfl); (· rfl); (· simp only [push_cast, env, Nat.reduceEqDiff, reduceIte, Nat.reduceAdd, Nat.reduceMul, Nat.reduceLeDiff, reduceCtorEq, Nat.reduceSub, Int.reduceToNat, r1, ho1, hv, Nat.mul_one] <;> exact rfl); (· decide)))); (· (first | (apply one_val; (· rfl); (· simp only [push_cast, env, Nat.reduceEqDiff, reduceIte, Nat.reduceAdd, Nat.reduceMul, Nat.reduceLeDiff, reduceCtorEq, Nat.reduceSub, Int.reduceToNat, r1, ho1, hv, Nat.mul_one] <;> exact rfl); (· simp only [push_cast, env, Nat.reduceEqDiff, reduceIte, Nat.reduceAdd, Nat.reduceMul, Nat.reduceLeDiff, reduceCtorEq, Nat.reduceSub, Int.reduceToNat, r1, ho1, hv, Nat.mul_one] <;> exact rfl)) | (apply one_eph; (· rfl); (· simp only [push_cast, env, Nat.reduceEqDiff, reduceIte, Nat.reduceAdd, Nat.reduceMul, Nat.reduceLeDiff, reduceCtorEq, Nat.reduceSub, Int.reduceToNat, r1, ho1, hv, Nat.mul_one] <;> exact rfl); (· rfl); (· simp only [push_cast, env, Nat.reduceEqDiff, reduceIte, Nat.reduceAdd, Nat.reduceMul, Nat.reduceLeDiff, reduceCtorEq, Nat.reduceSub, Int.reduceToNat, r1, ho1, hv, Nat.mul_one] <;> exact rfl); (· decide)))))); (· rfl)))
            apply StepsA.cons
            · rfl
            · refine ⟨?_, trivial⟩
              exact one_bsl (t := 3) rfl (by simp only [push_cast, env, Nat.reduceEqDiff, reduceIte, Nat.reduceAdd, Nat.reduceMul, Nat.reduceLeDiff, reduceCtorEq, Nat.reduceSub, Int.reduceToNat] <;> exact rfl) rfl (by simp only [push_cast, env, Nat.reduceEqDiff, reduceIte, Nat.reduceAdd, Nat.reduceMul, Nat.reduceLeDiff, reduceCtorEq, Nat.reduceSub, Int.reduceToNat] <;> exact rfl)
            · rfl
            apply StepsA.cons
            · rfl
            · refine ⟨?_, trivial⟩
              exact hone1 _ _ _ _ _ rfl (by simp only [push_cast, env, Nat.reduceEqDiff, reduceIte, Nat.reduceAdd, Nat.reduceMul, Nat.reduceLeDiff, reduceCtorEq, Nat.reduceSub, Int.reduceToNat] <;> exact rfl) rfl (by simp only [push_cast, env, Nat.reduceEqDiff, reduceIte, Nat.reduceAdd, Nat.reduceMul, Nat.reduceLeDiff, reduceCtorEq, Nat.reduceSub, Int.reduceToNat] <;> exact rfl) (by simp only [push_cast, env, Nat.reduceEqDiff, reduceIte, Nat.reduceAdd, Nat.reduceMul, Nat.reduceLeDiff, reduceCtorEq, Nat.reduceSub, Int.reduceToNat] <;> exact rfl)
            · rfl
            repeat (first | exact StepsA.nil _ | (apply StepsA.cons; (· rfl); (· first | (refine ⟨?_, trivial⟩; (· (first | (apply one_val; (· rfl); (· simp only [push_cast, env, Nat.reduceEqDiff, reduceIte, Nat.reduceAdd, Nat.reduceMul, Nat.reduceLeDiff, reduceCtorEq, Nat.reduceSub, Int.reduceToNat, r1, Nat.mul_one] <;> exact rfl); (· simp only [push_cast, env, Nat.reduceEqDiff, reduceIte, Nat.reduceAdd, Nat.reduceMul, Nat.reduceLeDiff, reduceCtorEq, Nat.reduceSub, Int.reduceToNat, r1, Nat.mul_one] <;> exact rfl)) | (apply one_eph; (· rfl); (· simp only [push_cast, env, Nat.reduceEqDiff, reduceIte, Nat.reduceAdd, Nat.reduceMul, Nat.reduceLeDiff, reduceCtorEq, Nat.reduceSub, Int.reduceToNat, r1, Nat.mul_one] <;> exact rfl); (· rfl); (· simp only [push_cast, env, Nat.reduceEqDiff, reduceIte, Nat.reduceAdd, Nat.reduceMul, Nat.reduceLeDiff, reduceCtorEq, Nat.reduceSub, Int.reduceToNat, r1, Nat.mul_one] <;> exact rfl); (· decide))))) | (refine ⟨?_, ?_, trivial⟩; (· (first | (apply one_val; (· rfl); (· simp only [push_cast, env, Nat.reduceEqDiff, reduceIte, Nat.reduceAdd, Nat.reduceMul, Nat.reduceLeDiff, reduceCtorEq, Nat.reduceSub, Int.reduceToNat, r1, Nat.mul_one] <;> exact rfl); (· simp only [push_cast, env, Nat.reduceEqDiff, reduceIte, Nat.reduceAdd, Nat.reduceMul, Nat.reduceLeDiff, reduceCtorEq, Nat.reduceSub, Int.reduceToNat, r1, Nat.mul_one] <;> exact rfl)) | (apply one_eph; (· rfl); (· simp only [push_cast, env, Nat.reduceEqDiff, reduceIte, Nat.reduceAdd, Nat.reduceMul, Nat.reduceLeDiff, reduceCtorEq, Nat.reduceSub, Int.reduceToNat, r1, Nat.mul_one] <;> exact rfl); (· rfl); (· simp only [push_cast, env, Nat.reduceEqDiff, reduceIte, Nat.reduceAdd, Nat.reduceMul, Nat.reduceLeDiff, reduceCtorEq, Nat.reduceSub, Int.reduceToNat, r1, Nat.mul_one] <;> exact rfl); (· decide)))); (· (first | (apply one_val; (· rfl); (· simp only [push_cast, env, Nat.reduceEqDiff, reduceIte, Nat.reduceAdd, Nat.reduceMul, Nat.reduceLeDiff, reduceCtorEq, Nat.reduceSub, Int.reduceToNat, r1, Nat.mul_one] <;> exact rfl); (· simp only [push_cast, env, Nat.reduceEqDiff, reduceIte, Nat.reduceAdd, Nat.reduceMul, Nat.reduceLeDiff, reduceCtorEq, Nat.reduceSub, Int.reduceToNat, r1, Nat.mul_one] <;> exact rfl)) | (apply one_eph; (· rfl); (· simp only [push_cast, env, Nat.reduceEqDiff, reduceIte, Nat.reduceAdd, Nat.reduceMul, Nat.reduceLeDiff, reduceCtorEq, Nat.reduceSub, Int.reduceToNat, r1, Nat.mul_one] <;> exact rfl); (· rfl); (· simp only [push_cast, env, Nat.reduceEqDiff, reduceIte, Nat.reduceAdd, Nat.reduceMul, Nat.reduceLeDiff, reduceCtorEq, Nat.reduceSub, Int.reduceToNat, r1, Nat.mul_one] <;> exact rfl); (· decide))))) | (refine ⟨?_, ?_, ?_, trivial⟩; (· (first | (apply one_val; (· rfl); (· simp only [push_cast, env, Nat.reduceEqDiff, reduceIte, Nat.reduceAdd, Nat.reduceMul, Nat.reduceLeDiff, reduceCtorEq, Nat.reduceSub, Int.reduceToNat, r1, Nat.mul_one] <;> exact rfl); (· simp only [push_cast, env, Nat.reduceEqDiff, reduceIte, Nat.reduceAdd, Nat.reduceMul, Nat.reduceLeDiff, reduceCtorEq, Nat.reduceSub, Int.reduceToNat, r1, Nat.mul_one] <;> exact rfl)) | (apply one_eph; (· rfl); (· simp only [push_cast, env, Nat.reduceEqDiff, reduceIte, Nat.reduceAdd, Nat.reduceMul, Nat.reduceLeDiff, reduceCtorEq, Nat.reduceSub, Int.reduceToNat, r1, Nat.mul_one] <;> exact rfl); (· rfl); (· simp only [push_cast, env, Nat.reduceEqDiff, reduceIte, Nat.reduceAdd, Nat.reduceMul, Nat.reduceLeDiff, reduceCtorEq, Nat.reduceSub, Int.reduceToNat, r1, Nat.mul_one] <;> exact rfl); (· decide)))); (· (first | (apply one_val; (· rfl); (· simp only [push_cast, env, Nat.reduceEqDiff, reduceIte, Nat.reduceAdd, Nat.reduceMul, Nat.reduceLeDiff, reduceCtorEq, Nat.reduceSub, Int.reduceToNat, r1, Nat.mul_one] <;> exact rfl); (· simp only [push_cast, env, Nat.reduceEqDiff, reduceIte, Nat.reduceAdd, Nat.reduceMul, Nat.reduceLeDiff, reduceCtorEq, Nat.reduceSub, Int.reduceToNat, r1, Nat.mul_one] <;> exact rfl)) | (apply one_eph; (· rfl); (· simp only [push_cast, env, Nat.reduceEqDiff, reduceIte, Nat.reduceAdd, Nat.reduceMul, Nat.reduceLeDiff, reduceCtorEq, Nat.reduceSub, Int.reduceToNat, r1, Nat.mul_one] <;> exact rfl); (· rfl); (· simp only [push_cast, env, Nat.reduceEqDiff, reduceIte, Nat.reduceAdd, Nat.reduceMul, Nat.reduceLeDiff, reduceCtorEq, Nat.reduceSub, Int.reduceToNat, r1, Nat.mul_one] <;> exact rfl); (· decide)))); (· (first | (apply one_val; (· rfl); (· simp only [push_cast, env, Nat.reduceEqDiff, reduceIte, Nat.reduceAdd, Nat.reduceMul, Nat.reduceLeDiff, reduceCtorEq, Nat.reduceSub, Int.reduceToNat, r1, Nat.mul_one] <;> exact rfl); (· simp only [push_cast, env, Nat.reduceEqDiff, reduceIte, Nat.reduceAdd, Nat.reduceMul, Nat.reduceLeDiff, reduceCtorEq, Nat.reduceSub, Int.reduceToNat, r1, Nat.mul_one] <;> exact rfl)) | (apply one_eph; (· rfl); (· simp only [push_cast, env, Nat.reduceEqDiff, reduceIte, Nat.reduceAdd, Nat.reduceMul, Nat.reduceLeDiff, reduceCtorEq, Nat.reduceSub, Int.reduceToNat, r1, Nat.mul_one] <;> exact rfl); (· rfl); (· simp only [push_cast, env, Nat.reduceEqDiff, reduceIte, Nat.reduceAdd, Nat.reduceMul, Nat.reduceLeDiff, reduceCtorEq, Nat.reduceSub, Int.reduceToNat, r1, Nat.mul_one] <;> exact rfl); (· decide))))) | (refine ⟨?_, ?_, ?_, ?_, trivial⟩; (· (first | (apply one_val; (· rfl); (· simp only [push_cast, env, Nat.reduceEqDiff, reduceIte, Nat.reduceAdd, Nat.reduceMul, Nat.reduceLeDiff, reduceCtorEq, Nat.reduceSub, Int.reduceToNat, r1, Nat.mul_one] <;> exact rfl); (· simp only [push_cast, env, Nat.reduceEqDiff, reduceIte, Nat.reduceAdd, Nat.reduceMul, Nat.reduceLeDiff, reduceCtorEq, Nat.reduceSub, Int.reduceToNat, r1, Nat.mul_one] <;> exact rfl)) | (apply one_eph; (· rfl); (· simp only [push_cast, env, Nat.reduceEqDiff, reduceIte, Nat.reduceAdd, Nat.reduceMul, Nat.reduceLeDiff, reduceCtorEq, Nat.reduceSub, Int.reduceToNat, r1, Nat.mul_one] <;> exact rfl); (· rfl); (· simp only [push_cast, env, Nat.reduceEqDiff, reduceIte, Nat.reduceAdd, Nat.reduceMul, Nat.reduceLeDiff, reduceCtorEq, Nat.reduceSub, Int.reduceToNat, r1, Nat.mul_one] <;> exact rfl); (· decide)))); (· (first | (apply one_val; (· rfl); (· simp only [push_cast, env, Nat.reduceEqDiff, reduceIte, Nat.reduceAdd, Nat.reduceMul, Nat.reduceLeDiff, reduceCtorEq, Nat.reduceSub, Int.reduceToNat, r1, Nat.mul_one] <;> exact rfl); (· simp only [push_cast, env, Nat.reduceEqDiff, reduceIte, Nat.reduceAdd, Nat.reduceMul, Nat.reduceLeDiff, reduceCtorEq, Nat.reduceSub, Int.reduceToNat, r1, Nat.mul_one] <;> exact rfl)) | (apply one_eph; (· rfl); (· simp only [push_cast, env, Nat.reduceEqDiff, reduceIte, Nat.reduceAdd, Nat.reduceMul, Nat.reduceLeDiff, reduceCtorEq, Nat.reduceSub, Int.reduceToNat, r1, Nat.mul_one] <;> exact rfl); (· rfl); (· simp only [push_cast, env, Nat.reduceEqDiff, reduceIte, Nat.reduceAdd, Nat.reduceMul, Nat.reduceLeDiff, reduceCtorEq, Nat.reduceSub, Int.reduceToNat, r1, Nat.mul_one] <;> exact rfl); (· decide)))); (· (first | (apply one_val; (· rfl); (· simp only [push_cast, env, Nat.reduceEqDiff, reduceIte, Nat.reduceAdd, Nat.reduceMul, Nat.reduceLeDiff, reduceCtorEq, Nat.reduceSub, Int.reduceToNat, r1, Nat.mul_one] <;> exact rfl); (· simp only [push_cast, env, Nat.reduceEqDiff, reduceIte, Nat.reduceAdd, Nat.reduceMul, Nat.reduceLeDiff, reduceCtorEq, Nat.reduceSub, Int.reduceToNat, r1, Nat.mul_one] <;> exact rfl)) | (apply one_eph; (· rfl); (· simp only [push_cast, env, Nat.reduceEqDiff, reduceIte, Nat.reduceAdd, Nat.reduceMul, Nat.reduceLeDiff, reduceCtorEq, Nat.reduceSub, Int.reduceToNat, r1, Nat.mul_one] <;> exact rfl); (· rfl); (· simp only [push_cast, env, Nat.reduceEqDiff, reduceIte, Nat.reduceAdd, Nat.reduceMul, Nat.reduceLeDiff, reduceCtorEq, Nat.reduceSub, Int.reduceToNat, r1, Nat.mul_one] <;> exact rfl); (· decide)))); (· (first | (apply one_val; (· rfl); (· simp only [push_cast, env, Nat.reduceEqDiff, reduceIte, Nat.reduceAdd, Nat.reduceMul, Nat.reduceLeDiff, reduceCtorEq, Nat.reduceSub, Int.reduceToNat, r1, Nat.mul_one] <;> exact rfl); (· simp only [push_cast, env, Nat.reduceEqDiff, reduceIte, Nat.reduceAdd, Nat.reduceMul, Nat.reduceLeDiff, reduceCtorEq, Nat.reduceSub, Int.reduceToNat, r1, Nat.mul_one] <;> exact rfl)) | (apply one_eph; (· rfl); (· simp only [push_cast, env, Nat.reduceEqDiff, reduceIte, Nat.reduceAdd, Nat.reduceMul, Nat.reduceLeDiff, reduceCtorEq, Nat.reduceSub, Int.reduceToNat, r1, Nat.mul_one] <;> exact rfl); (· rfl); (· simp only [push_cast, env, Nat.reduceEqDiff, reduceIte, Nat.reduceAdd, Nat.reduceMul, Nat.reduceLeDiff, reduceCtorEq, Nat.reduceSub, Int.reduceToNat, r1, Nat.mul_one] <;> exact rfl); (· decide)))))); (· rfl)))
            apply StepsA.cons
            · rfl
            · refine ⟨?_, trivial⟩
              exact one_sto (r := .sl .unk) rfl (by simp only [push_cast, env, Nat.reduceEqDiff, reduceIte, Nat.reduceAdd, Nat.reduceMul, Nat.reduceLeDiff, reduceCtorEq, Nat.reduceSub, Int.reduceToNat] <;> exact rfl) rfl (by simp only [push_cast, env, Nat.reduceEqDiff, reduceIte, Nat.reduceAdd, Nat.reduceMul, Nat.reduceLeDiff, reduceCtorEq, Nat.reduceSub, Int.reduceToNat] <;> exact rfl) (by simp only [push_cast, env, Nat.reduceEqDiff, reduceIte, Nat.reduceAdd, Nat.reduceMul, Nat.reduceLeDiff, reduceCtorEq, Nat.reduceSub, Int.reduceToNat] <;> exact rfl) ho2 (by simp only [push_cast, env, Nat.reduceEqDiff, reduceIte, Nat.reduceAdd, Nat.reduceMul, Nat.reduceLeDiff, reduceCtorEq, Nat.reduceSub, Int.reduceToNat] <;> exact rfl) rfl (wrV hA) rfl rfl
            · rfl
            exact StepsA.nil _
          · show CW _ _ _ _
            repeat (first | refine cw_seq ?_ | refine cw_region ?_ | refine ow_nil ?_ | ((first | apply ow_cons | apply qw_cons); · simp only [push_cast, env, Nat.reduceEqDiff, reduceIte, Nat.reduceAdd, Nat.reduceMul, Nat.reduceLeDiff, reduceCtorEq, Nat.reduceSub, Int.reduceToNat, e10] <;> exact rfl) | ((first | apply ow_spec | apply qw_spec); · simp only [push_cast, env, Nat.reduceEqDiff, reduceIte, Nat.reduceAdd, Nat.reduceMul, Nat.reduceLeDiff, reduceCtorEq, Nat.reduceSub, Int.reduceToNat, e10] <;> exact rfl) | refine qw_nil ?_ | refine cw_block ?_ | refine cw_scope ?_ | refine cw_label ?_ | refine cw_skip ?_)
            have hN2 := hl1.put (vs := us1.set g.rules[k].lhs.toNat (.slice p2 ((lget ls1 g.rules[k].lhs).length + 1) c2')) hv hlA (lt_of_get ho1) (l' := lget ls1 g.rules[k].lhs ++ [g.rules[k].rhs[j].nt]) (by rw [List.length_append] at G2 ⊢; exact G2) hpr hx2
            refine ⟨hjl, ⟨_, us1.set g.rules[k].lhs.toNat (.slice p2 ((lget ls1 g.rules[k].lhs).length + 1) c2'), ls1.set g.rules[k].lhs.toNat (lget ls1 g.rules[k].lhs ++ [g.rules[k].rhs[j].nt])⟩, (by simp only [push_cast, SubL, fget, Nat.reduceEqDiff, reduceIte]), rfl, pre_set hp2 (Nat.le_refl _), get_set_self ho2, hN2, by simp [hn1], fun l hl => ?_, by simp [hnl1], fun a b y0 y1 => ?_⟩
            · rcases List.mem_or_eq_of_mem_set hl with h | rfl
              · have := hb1 l h
                omega
              · simp only [List.length_append, List.length_singleton]
                omega
            · simp only
              rw [lget_set a1 (by omega) y0]
              by_cases e : g.rules[k].lhs = a
              · subst e
                rw [if_pos rfl, List.mem_append, hm1 _ b y0 y1, List.mem_singleton]
                simp only [true_and]
                rw [hone hB b, or_assoc]
              · rw [if_neg e, hm1 a b y0 y1]
                simp only [e, false_and, or_false]
        · have d1 : decide ((badN m g.rules[k].rhs : Int) = 0) = false := decide_eq_false (by omega)
          by_cases w2 : badN m g.rules[k].rhs = 1
          · have d2 : decide ((badN m g.rules[k].rhs : Int) = 1) = true := decide_eq_true (by omega)
            cases w3 : bit m g.rules[k].rhs[j].nt with
            | true =>
              rw [w3] at qb hnb
              have hno : ¬ (0 ≤ g.rules[k].rhs[j].nt ∧ (badN m g.rules[k].rhs = 0 ∨ (badN m g.rules[k].rhs = 1 ∧ nullB m g.rules[k].rhs[j] = false))) := fun hh => hh.2.elim w1 fun h => (by rw [hnb] at h; cases h.2)
              repeat (first | refine cw_seq ?_ | refine cw_region ?_ | refine ow_nil ?_ | ((first | apply ow_cons | apply qw_cons); · simp only [push_cast, env, Nat.reduceEqDiff, reduceIte, Nat.reduceAdd, Nat.reduceMul, Nat.reduceLeDiff, reduceCtorEq, Nat.reduceSub, Int.reduceToNat, e9, hid4, hrd2, d0, d1, d2, q3, hgm3, qb, Nat.mul_one] <;> exact rfl) | ((first | apply ow_spec | apply qw_spec); · simp only [push_cast, env, Nat.reduceEqDiff, reduceIte, Nat.reduceAdd, Nat.reduceMul, Nat.reduceLeDiff, reduceCtorEq, Nat.reduceSub, Int.reduceToNat, e9, hid4, hrd2, d0, d1, d2, q3, hgm3, qb, Nat.mul_one] <;> exact rfl) | refine qw_nil ?_ | refine cw_block ?_ | refine cw_scope ?_ | refine cw_label ?_ | refine cw_skip ?_)
              refine cw_condF (by simp only [push_cast, env, Nat.reduceEqDiff, reduceIte, Nat.reduceAdd, Nat.reduceMul, Nat.reduceLeDiff, reduceCtorEq, Nat.reduceSub, Int.reduceToNat, d0, d1, d2, q3, hgm3, qb, Nat.mul_one] <;> exact rfl) ?_
              repeat (first | refine cw_seq ?_ | refine cw_region ?_ | refine ow_nil ?_ | ((first | apply ow_cons | apply qw_cons); · simp only [push_cast, env, Nat.reduceEqDiff, reduceIte, Nat.reduceAdd, Nat.reduceMul, Nat.reduceLeDiff, reduceCtorEq, Nat.reduceSub, Int.reduceToNat, e10] <;> exact rfl) | ((first | apply ow_spec | apply qw_spec); · simp only [push_cast, env, Nat.reduceEqDiff, reduceIte, Nat.reduceAdd, Nat.reduceMul, Nat.reduceLeDiff, reduceCtorEq, Nat.reduceSub, Int.reduceToNat, e10] <;> exact rfl) | refine qw_nil ?_ | refine cw_block ?_ | refine cw_scope ?_ | refine cw_label ?_ | refine cw_skip ?_)
              refine ⟨hjl, ⟨hk1, us1, ls1⟩, (by simp only [push_cast, SubL, fget, Nat.reduceEqDiff, reduceIte]), rfl, hp1, ho1, hl1, hn1, fun l h => by have := hb1 l h; omega, hnl1, fun a b y0 y1 => ?_⟩
              rw [hm1 a b y0 y1, hnot hno b]
            | false =>
              rw [w3] at qb hnb
              have hB : 0 ≤ g.rules[k].rhs[j].nt ∧ (badN m g.rules[k].rhs = 0 ∨ (badN m g.rules[k].rhs = 1 ∧ nullB m g.rules[k].rhs[j] = false)) := ⟨h0, (.inr ⟨w2, hnb⟩)⟩
              repeat (first | refine cw_seq ?_ | refine cw_region ?_ | refine ow_nil ?_ | ((first | apply ow_cons | apply qw_cons); · simp only [push_cast, env, Nat.reduceEqDiff, reduceIte, Nat.reduceAdd, Nat.reduceMul, Nat.reduceLeDiff, reduceCtorEq, Nat.reduceSub, Int.reduceToNat, e9, hid4, hrd2, d0, d1, d2, q3, hgm3, qb, Nat.mul_one] <;> exact rfl) | ((first | apply ow_spec | apply qw_spec); · simp only [push_cast, env, Nat.reduceEqDiff, reduceIte, Nat.reduceAdd, Nat.reduceMul, Nat.reduceLeDiff, reduceCtorEq, Nat.reduceSub, Int.reduceToNat, e9, hid4, hrd2, d0, d1, d2, q3, hgm3, qb, Nat.mul_one] <;> exact rfl) | refine qw_nil ?_ | refine cw_block ?_ | refine cw_scope ?_ | refine cw_label ?_ | refine cw_skip ?_)
              refine cw_condT (by simp only [push_cast, env, Nat.reduceEqDiff, reduceIte, Nat.reduceAdd, Nat.reduceMul, Nat.reduceLeDiff, reduceCtorEq, Nat.reduceSub, Int.reduceToNat, d1, d2, q3, hgm3, qb, Nat.mul_one] <;> exact rfl) ?_
              repeat (first | refine cw_seq ?_ | refine cw_region ?_ | refine ow_nil ?_ | ((first | apply ow_cons | apply qw_cons); · simp only [push_cast, env, Nat.reduceEqDiff, reduceIte, Nat.reduceAdd, Nat.reduceMul, Nat.reduceLeDiff, reduceCtorEq, Nat.reduceSub, Int.reduceToNat] <;> exact rfl) | ((first | apply ow_spec | apply qw_spec); · simp only [push_cast, env, Nat.reduceEqDiff, reduceIte, Nat.reduceAdd, Nat.reduceMul, Nat.reduceLeDiff, reduceCtorEq, Nat.reduceSub, Int.reduceToNat] <;> exact rfl) | refine qw_nil ?_ | refine cw_block ?_ | refine cw_scope ?_ | refine cw_label ?_ | refine cw_skip ?_)
              refine cw_weakL [(1, .val (.slice (some ⟨idm, 0, some verm⟩) m.length cm)), (2, .box [i64 g.nts, i64 g.start, .slice (some ⟨id, 0, some ver⟩) g.rules.length c]), (5, .val (.slice (some ⟨h.length, 0, some 0⟩) N N)), (7, .box [i64 g.rules[k].lhs, .slice (some ⟨id2, 0, some ver2⟩) g.rules[k].rhs.length c2]), (8, .val (i64 (badN m g.rules[k].rhs))), (17, .val (.slice (some ⟨id, 0, some ver⟩) g.rules.length c)), (18, .val (i64 g.rules.length)), (19, .val (i64 k)), (45, .val (.slice (some ⟨id2, 0, some ver2⟩) g.rules[k].rhs.length c2)), (46, .val (i64 g.rules[k].rhs.length)), (47, .val (i64 j)), (12, .box [i64 g.rules[k].rhs[j].nt, u64 g.rules[k].rhs[j].set.a, u64 g.rules[k].rhs[j].set.b, u64 g.rules[k].rhs[j].set.c, u64 g.rules[k].rhs[j].set.d])] (by simp only [push_cast, SubL, fget, Nat.reduceEqDiff, reduceIte]) ?_
              have hA : g.rules[k].lhs.toNat < us1.length := by omega
              obtain ⟨v, hv⟩ : ∃ v, us1[g.rules[k].lhs.toNat]? = some v := ⟨_, List.getElem?_eq_getElem hA⟩
              have hlA := lget_get (ls := ls1) a1 (by omega)
              have G := hl1.g _ _ _ hv hlA
              obtain ⟨pv, cv, rfl⟩ := G.form
              have hlen : (lget ls1 g.rules[k].lhs).length ≤ 80 * k + j := hb1 _ (List.mem_of_getElem? hlA)
              obtain ⟨p2, c2', h2, hone1, G2, hp2, hpr, hx2⟩ := push_one (b := g.rules[k].rhs[j].nt) G hp1 (by omega)
              have ho2 : h2[h.length]? = some (.arr us1 0 true 40) := hpr _ _ (hl1.o _ _ hv) ho1
              have r1 := rng0 (N := N) a1 (by omega)
              refine cw_orderA [[], [], [1], [], [], [4], [3, 5], [6], [], [8], [9], [7, 10], [0, 2], [0, 1, 2, 3, 4, 5, 6, 7, 8, 9, 10, 11, 12]] [11, 13] [hk1, h2, h2.set h.length (.arr (us1.set g.rules[k].lhs.toNat (.slice p2 ((lget ls1 g.rules[k].lhs).length + 1) c2')) 0 true 40)]
                [.sl (.val (.slice (some ⟨h.length, 0, some 0⟩) N N)), .ep 7 0, .sl (.val (i64 g.rules[k].lhs)), .sl (.val (.slice (some ⟨h.length, 0, some 0⟩) N N)), .ep 7 0, .sl (.val (i64 g.rules[k].lhs)), .sl (.val (.pointer (some ⟨h.length, g.rules[k].lhs.toNat, some 0⟩))), .sl (.val (.slice pv (lget ls1 g.rules[k].lhs).length cv)),
                 .ep 12 0, .sl (.val (i64 g.rules[k].rhs[j].nt)), .sl (.bsl [i64 g.rules[k].rhs[j].nt] 1), .sl (.val (.slice p2 ((lget ls1 g.rules[k].lhs).length + 1) c2')), .sl (.val (.pointer (some ⟨h.length, g.rules[k].lhs.toNat, some 0⟩))), .sl .unk]
                [(1, .val (.slice (some ⟨idm, 0, some verm⟩) m.length cm)), (2, .box [i64 g.nts, i64 g.start, .slice (some ⟨id, 0, some ver⟩) g.rules.length c]), (5, .val (.slice (some ⟨h.length, 0, some 0⟩) N N)), (7, .box [i64 g.rules[k].lhs, .slice (some ⟨id2, 0, some ver2⟩) g.rules[k].rhs.length c2]), (8, .val (i64 (badN m g.rules[k].rhs))), (17, .val (.slice (some ⟨id, 0, some ver⟩) g.rules.length c)), (18, .val (i64 g.rules.length)), (19, .val (i64 k)), (45, .val (.slice (some ⟨id2, 0, some ver2⟩) g.rules[k].rhs.length c2)), (46, .val (i64 g.rules[k].rhs.length)), (47, .val (i64 j)), (12, .box [i64 g.rules[k].rhs[j].nt, u64 g.rules[k].rhs[j].set.a, u64 g.rules[k].rhs[j].set.b, u64 g.rules[k].rhs[j].set.c, u64 g.rules[k].rhs[j].set.d])]
                [(1, .val (.slice (some ⟨idm, 0, some verm⟩) m.length cm)), (2, .box [i64 g.nts, i64 g.start, .slice (some ⟨id, 0, some ver⟩) g.rules.length c]), (5, .val (.slice (some ⟨h.length, 0, some 0⟩) N N)), (7, .box [i64 g.rules[k].lhs, .slice (some ⟨id2, 0, some ver2⟩) g.rules[k].rhs.length c2]), (8, .val (i64 (badN m g.rules[k].rhs))), (17, .val (.slice (some ⟨id, 0, some ver⟩) g.rules.length c)), (18, .val (i64 g.rules.length)), (19, .val (i64 k)), (45, .val (.slice (some ⟨id2, 0, some ver2⟩) g.rules[k].rhs.length c2)), (46, .val (i64 g.rules[k].rhs.length)), (47, .val (i64 j))] _ mixed (by kernel_rfl) rfl rfl rfl rfl rfl ?_ ⟨.inl ⟨by decide, rfl⟩, .inl ⟨by decide, rfl⟩, .inl ⟨by decide, rfl⟩, .inl ⟨by decide, rfl⟩, .inl ⟨by decide, rfl⟩, .inl ⟨by decide, rfl⟩, .inl ⟨by decide, rfl⟩, .inl ⟨by decide, rfl⟩, .inl ⟨by decide, rfl⟩, .inl ⟨by decide, rfl⟩, .inl ⟨by decide, rfl⟩, trivial⟩ ?_
              · repeat (first | exact StepsA.nil _ | (apply StepsA.cons; (· rfl); (· first | (refine ⟨?_, trivial⟩; (· (first | (apply one_val; (· rfl); (· simp only [push_cast, env, Nat.reduceEqDiff, reduceIte, Nat.reduceAdd, Nat.reduceMul, Nat.reduceLeDiff, reduceCtorEq, Nat.reduceSub, Int.reduceToNat, r1, ho1, hv, Nat.mul_one] <;> exact rfl); (· simp only [push_cast, env, Nat.reduceEqDiff, reduceIte, Nat.reduceAdd, Nat.reduceMul, Nat.reduceLeDiff, reduceCtorEq, Nat.reduceSub, Int.reduceToNat, r1, ho1, hv, Nat.mul_one] <;> exact rfl)) | (apply one_eph; (· rfl); (· simp only [push_cast, env, Nat.reduceEqDiff, reduceIte, Nat.reduceAdd, Nat.reduceMul, Nat.reduceLeDiff, reduceCtorEq, Nat.reduceSub, Int.reduceToNat, r1, ho1, hv, Nat.mul_one] <;> exact rfl); (· rfl); (· simp only [push_cast, env, Nat.reduceEqDiff, reduceIte, Nat.reduceAdd, Nat.reduceMul, Nat.reduceLeDiff, reduceCtorEq, Nat.reduceSub, Int.reduceToNat, r1, ho1, hv, Nat.mul_one] <;> exact rfl); (· decide))))) | (refine ⟨?_, ?_, trivial⟩; (· (first | (apply one_val; (· rfl); (· simp only [push_cast, env, Nat.reduceEqDiff, reduceIte, Nat.reduceAdd, Nat.reduceMul, Nat.reduceLeDiff, reduceCtorEq, Nat.reduceSub, Int.reduceToNat, r1, ho1, hv, Nat.mul_one] <;> exact rfl); (· simp only [push_cast, env, Nat.reduceEqDiff, reduceIte, Nat.reduceAdd, Nat.reduceMul, Nat.reduceLeDiff, reduceCtorEq, Nat.reduceSub, Int.reduceToNat, r1, ho1, hv, Nat.mul_one] <;> exact rfl)) | (apply one_eph; (· rfl); (· simp only [push_cast, env, Nat.reduceEqDiff, reduceIte, Nat.reduceAdd, Nat.reduceMul, Nat.reduceLeDiff, reduceCtorEq, Nat.reduceSub, Int.reduceToNat, r1, ho1, hv, Nat.mul_one] <;> exact rfl); (· rfl); (· simp only [push_cast, env, Nat.reduceEqDiff, reduceIte, Nat.reduceAdd, Nat.reduceMul, Nat.reduceLeDiff, reduceCtorEq, Nat.reduceSub, Int.reduceToNat, r1, ho1, hv, Nat.mul_one] <;> exact rfl); (· decide)))); (· (first | (apply one_val; (· rfl); (· simp only [push_cast, env, Nat.reduceEqDiff, reduceIte, Nat.reduceAdd, Nat.reduceMul, Nat.reduceLeDiff, reduceCtorEq, Nat.reduceSub, Int.reduceToNat, r1, ho1, hv, Nat.mul_one] <;> exact rfl); (· simp only [push_cast, env, Nat.reduceEqDiff, reduceIte, Nat.reduceAdd, Nat.reduceMul, Nat.reduceLeDiff, reduceCtorEq, Nat.reduceSub, Int.reduceToNat, r1, ho1, hv, Nat.mul_one] <;> exact rfl)) | (apply one_eph; (· rfl); (· simp only [push_cast, env, Nat.reduceEqDiff, reduceIte, Nat.reduceAdd, Nat.reduceMul, Nat.reduceLeDiff, reduceCtorEq, Nat.reduceSub, Int.reduceToNat, r1, ho1, hv, Nat.mul_one] <;> exact rfl); (· rfl); (· simp only [push_cast, env, Nat.reduceEqDiff, reduceIte, Nat.reduceAdd, Nat.reduceMul, Nat.reduceLeDiff, reduceCtorEq, Nat.reduceSub, Int.reduceToNat, r1, ho1, hv, Nat.mul_one] <;> exact rfl); (· decide))))) | (refine ⟨?_, ?_, ?_, trivial⟩; (· (first | (apply one_val; (· rfl); (· simp only [push_cast, env, Nat.reduceEqDiff, reduceIte, Nat.reduceAdd, Nat.reduceMul, Nat.reduceLeDiff, reduceCtorEq, Nat.reduceSub, Int.reduceToNat, r1, ho1, hv, Nat.mul_one] <;> exact rfl); (· simp only [push_cast, env, Nat.reduceEqDiff, reduceIte, Nat.reduceAdd, Nat.reduceMul, Nat.reduceLeDiff, reduceCtorEq, Nat.reduceSub, Int.reduceToNat, r1, ho1, hv, Nat.mul_one] <;> exact rfl)) | (apply one_eph; (· rfl); (· simp only [push_cast, env, Nat.reduceEqDiff, reduceIte, Nat.reduceAdd, Nat.reduceMul, Nat.reduceLeDiff, reduceCtorEq, Nat.reduceSub, Int.reduceToNat, r1, ho1, hv, Nat.mul_one] <;> exact rfl); (· rfl); (· simp only [push_cast, env, Nat.reduceEqDiff, reduceIte, Nat.reduceAdd, Nat.reduceMul, Nat.reduceLeDiff, reduceCtorEq, Nat.reduceSub, Int.reduceToNat, r1, ho1, hv, Nat.mul_one] <;> exact rfl); (· decide)))); (· (first | (apply one_val; (· rfl); (· simp only [push_cast, env, Nat.reduceEqDiff, reduceIte, Nat.reduceAdd, Nat.reduceMul, Nat.reduceLeDiff, reduceCtorEq, Nat.reduceSub, Int.reduceToNat, r1, ho1, hv, Nat.mul_one] <;> exact rfl); (· simp only [push_cast, env, Nat.reduceEqDiff, reduceIte, Nat.reduceAdd, Nat.reduceMul, Nat.reduceLeDiff, reduceCtorEq, Nat.reduceSub, Int.reduceToNat, r1, ho1, hv, Nat.mul_one] <;> exact rfl)) | (apply one_eph; (· rfl); (· simp only [push_cast, env, Nat.reduceEqDiff, reduceIte, Nat.reduceAdd, Nat.reduceMul, Nat.reduceLeDiff, reduceCtorEq, Nat.reduceSub, Int.reduceToNat, r1, ho1, hv, Nat.mul_one] <;> exact rfl); (· rfl); (· simp only [push_cast, env, Nat.reduceEqDiff, reduceIte, Nat.reduceAdd, Nat.reduceMul, Nat.reduceLeDiff, reduceCtorEq, Nat.reduceSub, Int.reduceToNat, r1, ho1, hv, Nat.mul_one] <;> exact rfl); (· decide)))); (· (first | (apply one_val; (· rfl); (· simp only [push_cast, env, Nat.reduceEqDiff, reduceIte, Nat.reduceAdd, Nat.reduceMul, Nat.reduceLeDiff, reduceCtorEq, Nat.reduceSub, Int.reduceToNat, r1, ho1, hv, Nat.mul_one] <;> exact rfl); (· simp only [push_cast, env, Nat.reduceEqDiff, reduceIte, Nat.reduceAdd, Nat.reduceMul, Nat.reduceLeDiff, reduceCtorEq, Nat.reduceSub, Int.reduceToNat, r1, ho1, hv, Nat.mul_one] <;> exact rfl)) | (apply one_eph; (· rfl); (· simp only [push_cast, env, Nat.reduceEqDiff, reduceIte, Nat.reduceAdd, Nat.reduceMul, Nat.reduceLeDiff, reduceCtorEq, Nat.reduceSub, Int.reduceToNat, r1, ho1, hv, Nat.mul_one] <;> exact rfl); (· rfl); (· simp only [push_cast, env, Nat.reduceEqDiff, reduceIte, Nat.reduceAdd, Nat.reduceMul, Nat.reduceLeDiff, reduceCtorEq, Nat.reduceSub, Int.reduceToNat, r1, ho1, hv, Nat.mul_one] <;> exact rfl); (· decide))))) | (refine ⟨?_, ?_, ?_, ?_, trivial⟩; (· (first | (apply one_val; (· rfl); (· simp only [push_cast, env, Nat.reduceEqDiff, reduceIte, Nat.reduceAdd, Nat.reduceMul, Nat.reduceLeDiff, reduceCtorEq, Nat.reduceSub, Int.reduceToNat, r1, ho1, hv, Nat.mul_one] <;> exact rfl); (· simp only [push_cast, env, Nat.reduceEqDiff, reduceIte, Nat.reduceAdd, Nat.reduceMul, Nat.reduceLeDiff, reduceCtorEq, Nat.reduceSub, Int.reduceToNat, r1, ho1, hv, Nat.mul_one] <;> exact rfl)) | (apply one_eph; (· rfl); (· simp only [push_cast, env, Nat.reduceEqDiff, reduceIte, Nat.reduceAdd, Nat.reduceMul, Nat.reduceLeDiff, reduceCtorEq, Nat.reduceSub, Int.reduceToNat, r1, ho1, hv, Nat.mul_one] <;> exact rfl); (· rfl); (· simp only [push_cast, env, Nat.reduceEqDiff, reduceIte, Nat.reduceAdd, Nat.reduceMul, Nat.reduceLeDiff, reduceCtorEq, Nat.reduceSub, Int.reduceToNat, r1, ho1, hv, Nat.mul_one] <;> exact rfl); (· decide)))); (· (first | (apply one_val; (· rfl); (· simp only [push_cast, env, Nat.reduceEqDiff, reduceIte, Nat.reduceAdd, Nat.reduceMul, Nat.reduceLeDiff, reduceCtorEq, Nat.reduceSub, Int.reduceToNat, r1, ho1, hv, Nat.mul_one] <;> exact rfl); (· simp only [push_cast, env, Nat.reduceEqDiff, reduceIte, Nat.reduceAdd, Nat.reduceMul, Nat.reduceLeDiff, reduceCtorEq, Nat.reduceSub, Int.reduceToNat, r1, ho1, hv, Nat.mul_one] <;> exact rfl)) | (apply one_eph; (· rfl); (· simp only [push_cast, env, Nat.reduceEqDiff, reduceIte, Nat.reduceAdd, Nat.reduceMul, Nat.reduceLeDiff, reduceCtorEq, Nat.reduceSub, Int.reduceToNat, r1, ho1, hv, Nat.mul_one] <;> exact rfl); (· rfl); (· simp only [push_cast, env, Nat.reduceEqDiff, reduceIte, Nat.reduceAdd, Nat.reduceMul, Nat.reduceLeDiff, reduceCtorEq, Nat.reduceSub, Int.reduceToNat, r1, ho1, hv, Nat.mul_one] <;> exact rfl); (· decide)))); (· (first | (apply one_val; (· rfl); (· simp only [push_cast, env, Nat.reduceEqDiff, reduceIte, Nat.reduceAdd, Nat.reduceMul, Nat.reduceLeDiff, reduceCtorEq, Nat.reduceSub, Int.reduceToNat, r1, ho1, hv, Nat.mul_one] <;> exact rfl); (· simp only [push_cast, env, Nat.reduceEqDiff, reduceIte, Nat.reduceAdd, Nat.reduceMul, Nat.reduceLeDiff, reduceCtorEq, Nat.reduceSub, Int.reduceToNat, r1, ho1, hv, Nat.mul_one] <;> exact rfl)) | (apply one_eph; (· rfl); (· simp only [push_cast, env, Nat.reduceEqDiff, reduceIte, Nat.reduceAdd, Nat.reduceMul, Nat.reduceLeDiff, reduceCtorEq, Nat.reduceSub, Int.reduceToNat, r1, ho1, hv, Nat.mul_one] <;> exact rfl); (· rfl); (· simp only [push_cast, env, Nat.reduceEqDiff, reduceIte, Nat.reduceAdd, Nat.reduceMul, Nat.reduceLeDiff, reduceCtorEq, Nat.reduceSub, Int.reduceToNat, r1, ho1, hv, Nat.mul_one] <;> exact rfl); (· decide)))); (· (first | (apply one_val; (· rfl); (· simp only [push_cast, env, Nat.reduceEqDiff, reduceIte, Nat.reduceAdd, Nat.reduceMul, Nat.reduceLeDiff, reduceCtorEq, Nat.reduceSub, Int.reduceToNat, r1, ho1, hv, Nat.mul_one] <;> exact rfl); (· simp only [push_cast, env, Nat.reduceEqDiff, reduceIte, Nat.reduceAdd, Nat.reduceMul, Nat.reduceLeDiff, reduceCtorEq, Nat.reduceSub, Int.reduceToNat, r1, ho1, hv, Nat.mul_one] <;> exact rfl)) | (apply one_eph; (· rfl); (· simp only [push_cast, env, Nat.reduceEqDiff, reduceIte, Nat.reduceAdd, Nat.reduceMul, Nat.reduceLeDiff, reduceCtorEq, Nat.reduceSub, Int.reduceToNat, r1, ho1, hv, Nat.mul_one] <;> exact rfl); (· rfl); (· simp only [push_cast, env, Nat.reduceEqDiff, reduceIte, Nat.reduceAdd, Nat.reduceMul, Nat.reduceLeDiff, reduceCtorEq, Nat.reduceSub, Int.reduceToNat, r1, ho1, hv, Nat.mul_one] <;> exact rfl); (· decide)))))); (· rfl)))
                apply StepsA.cons
                · rfl
                · refine ⟨?_, trivial⟩
                  exact one_bsl (t := 3) rfl (by simp only [push_cast, env, Nat.reduceEqDiff, reduceIte, Nat.reduceAdd, Nat.reduceMul, Nat.reduceLeDiff, reduceCtorEq, Nat.reduceSub, Int.reduceToNat] <;> exact rfl) rfl (by simp only [push_cast, env, Nat.reduceEqDiff, reduceIte, Nat.reduceAdd, Nat.reduceMul, Nat.reduceLeDiff, reduceCtorEq, Nat.reduceSub, Int.reduceToNat] <;> exact rfl)
                · rfl
                apply StepsA.cons
                · rfl
                · refine ⟨?_, trivial⟩
                  exact hone1 _ _ _ _ _ rfl (by simp only [push_cast, env, Nat.reduceEqDiff, reduceIte, Nat.reduceAdd, Nat.reduceMul, Nat.reduceLeDiff, reduceCtorEq, Nat.reduceSub, Int.reduceToNat] <;> exact rfl) rfl (by simp only [push_cast, env, Nat.reduceEqDiff, reduceIte, Nat.reduceAdd, Nat.reduceMul, Nat.reduceLeDiff, reduceCtorEq, Nat.reduceSub, Int.reduceToNat] <;> exact rfl) (by simp only [push_cast, env, Nat.reduceEqDiff, reduceIte, Nat.reduceAdd, Nat.reduceMul, Nat.reduceLeDiff, reduceCtorEq, Nat.reduceSub, Int.reduceToNat] <;> exact rfl)
                · rfl
                repeat (first | exact StepsA.nil _ | (apply StepsA.cons; (· rfl); (· first | (refine ⟨?_, trivial⟩; (· (first | (apply one_val; (· rfl); (· simp only [push_cast, env, Nat.reduceEqDiff, reduceIte, Nat.reduceAdd, Nat.reduceMul, Nat.reduceLeDiff, reduceCtorEq, Nat.reduceSub, Int.reduceToNat, r1, Nat.mul_one] <;> exact rfl); (· simp only [push_cast, env, Nat.reduceEqDiff, reduceIte, Nat.reduceAdd, Nat.reduceMul, Nat.reduceLeDiff, reduceCtorEq, Nat.reduceSub, Int.reduceToNat, r1, Nat.mul_one] <;> exact rfl)) | (apply one_eph; (· rfl); (· simp only [push_cast, env, Nat.reduceEqDiff, reduceIte, Nat.reduceAdd, Nat.reduceMul, Nat.reduceLeDiff, reduceCtorEq, Nat.reduceSub, Int.reduceToNat, r1, Nat.mul_one] <;> exact rfl); (· rfl); (· simp only [push_cast, env, Nat.reduceEqDiff, reduceIte, Nat.reduceAdd, Nat.reduceMul, Nat.reduceLeDiff, reduceCtorEq, Nat.reduceSub, Int.reduceToNat, r1, Nat.mul_one] <;> exact rfl); (· decide))))) | (refine ⟨?_, ?_, trivial⟩; (· (first | (apply one_val; (· rfl); (· simp only [push_cast, env, Nat.reduceEqDiff, reduceIte, Nat.reduceAdd, Nat.reduceMul, Nat.reduceLeDiff, reduceCtorEq, Nat.reduceSub, Int.reduceToNat, r1, Nat.mul_one] <;> exact rfl); (· simp only [push_cast, env, Nat.reduceEqDiff, reduceIte, Nat.reduceAdd, Nat.reduceMul, Nat.reduceLeDiff, reduceCtorEq, Nat.reduceSub, Int.reduceToNat, r1, Nat.mul_one] <;> exact rfl)) | (apply one_eph; (· rfl); (· simp only [push_cast, env, Nat.reduceEqDiff, reduceIte, Nat.reduceAdd, Nat.reduceMul, Nat.reduceLeDiff, reduceCtorEq, Nat.reduceSub, Int.reduceToNat, r1, Nat.mul_one] <;> exact rfl); (· rfl); (· simp only [push_cast, env, Nat.reduceEqDiff, reduceIte, Nat.reduceAdd, Nat.reduceMul, Nat.reduceLeDiff, reduceCtorEq, Nat.reduceSub, Int.reduceToNat, r1, Nat.mul_one] <;> exact rfl); (· decide)))); (· (first | (apply one_val; (· rfl); (· simp only [push_cast, env, Nat.reduceEqDiff, reduceIte, Nat.reduceAdd, Nat.reduceMul, Nat.reduceLeDiff, reduceCtorEq, Nat.reduceSub, Int.reduceToNat, r1, Nat.mul_one] <;> exact rfl); (· simp only [push_cast, env, Nat.reduceEqDiff, reduceIte, Nat.reduceAdd, Nat.reduceMul, Nat.reduceLeDiff, reduceCtorEq, Nat.reduceSub, Int.reduceToNat, r1, Nat.mul_one] <;> exact rfl)) | (apply one_eph; (· rfl); (· simp only [push_cast, env, Nat.reduceEqDiff, reduceIte, Nat.reduceAdd, Nat.reduceMul, Nat.reduceLeDiff, reduceCtorEq, Nat.reduceSub, Int.reduceToNat, r1, Nat.mul_one] <;> exact rfl); (· rfl); (· simp only [push_cast, env, Nat.reduceEqDiff, reduceIte, Nat.reduceAdd, Nat.reduceMul, Nat.reduceLeDiff, reduceCtorEq, Nat.reduceSub, Int.reduceToNat, r1, Nat.mul_one] <;> exact rfl); (· decide))))) | (refine ⟨?_, ?_, ?_, trivial⟩; (· (first | (apply one_val; (· rfl); (· simp only [push_cast, env, Nat.reduceEqDiff, reduceIte, Nat.reduceAdd, Nat.reduceMul, Nat.reduceLeDiff, reduceCtorEq, Nat.reduceSub, Int.reduceToNat, r1, Nat.mul_one] <;> exact rfl); (· simp only [push_cast, env, Nat.reduceEqDiff, reduceIte, Nat.reduceAdd, Nat.reduceMul, Nat.reduceLeDiff, reduceCtorEq, Nat.reduceSub, Int.reduceToNat, r1, Nat.mul_one] <;> exact rfl)) | (apply one_eph; (· rfl); (· simp only [push_cast, env, Nat.reduceEqDiff, reduceIte, Nat.reduceAdd, Nat.reduceMul, Nat.reduceLeDiff, reduceCtorEq, Nat.reduceSub, Int.reduceToNat, r1, Nat.mul_one] <;> exact rfl); (· rfl); (· simp only [push_cast, env, Nat.reduceEqDiff, reduceIte, Nat.reduceAdd, Nat.reduceMul, Nat.reduceLeDiff, reduceCtorEq, Nat.reduceSub, Int.reduceToNat, r1, Nat.mul_one] <;> exact rfl); (· decide)))); (· (first | (apply one_val; (· rfl); (· simp only [push_cast, env, Nat.reduceEqDiff, reduceIte, Nat.reduceAdd, Nat.reduceMul, Nat.reduceLeDiff, reduceCtorEq, Nat.reduceSub, Int.reduceToNat, r1, Nat.mul_one] <;> exact rfl); (· simp only [push_cast, env, Nat.reduceEqDiff, reduceIte, Nat.reduceAdd, Nat.reduceMul, Nat.reduceLeDiff, reduceCtorEq, Nat.reduceSub, Int.reduceToNat, r1, Nat.mul_one] <;> exact rfl)) | (apply one_eph; (· rfl); (· simp only [push_cast, env, Nat.reduceEqDiff, reduceIte, Nat.reduceAdd, Nat.reduceMul, Nat.reduceLeDiff, reduceCtorEq, Nat.reduceSub, Int.reduceToNat, r1, Nat.mul_one] <;> exact rfl); (· rfl); (· simp only [push_cast, env, Nat.reduceEqDiff, reduceIte, Nat.reduceAdd, Nat.reduceMul, Nat.reduceLeDiff, reduceCtorEq, Nat.reduceSub, Int.reduceToNat, r1, Nat.mul_one] <;> exact rfl); (· decide)))); (· (first | (apply one_val; (· rfl); (· simp only [push_cast, env, Nat.reduceEqDiff, reduceIte, Nat.reduceAdd, Nat.reduceMul, Nat.reduceLeDiff, reduceCtorEq, Nat.reduceSub, Int.reduceToNat, r1, Nat.mul_one] <;> exact rfl); (· simp only [push_cast, env, Nat.reduceEqDiff, reduceIte, Nat.reduceAdd, Nat.reduceMul, Nat.reduceLeDiff, reduceCtorEq, Nat.reduceSub, Int.reduceToNat, r1, Nat.mul_one] <;> exact rfl)) | (apply one_eph; (· rfl); (· simp only [push_cast, env, Nat.reduceEqDiff, reduceIte, Nat.reduceAdd, Nat.reduceMul, Nat.reduceLeDiff, reduceCtorEq, Nat.reduceSub, Int.reduceToNat, r1, Nat.mul_one] <;> exact rfl); (· rfl); (· simp only [push_cast, env, Nat.reduceEqDiff, reduceIte, Nat.reduceAdd, Nat.reduceMul, Nat.reduceLeDiff, reduceCtorEq, Nat.reduceSub, Int.reduceToNat, r1, Nat.mul_one] <;> exact rfl); (· decide))))) | (refine ⟨?_, ?_, ?_, ?_, trivial⟩; (· (first | (apply one_val; (· rfl); (· simp only [push_cast, env, Nat.reduceEqDiff, reduceIte, Nat.reduceAdd, Nat.reduceMul, Nat.reduceLeDiff, reduceCtorEq, Nat.reduceSub, Int.reduceToNat, r1, Nat.mul_one] <;> exact rfl); (· simp only [push_cast, env, Nat.reduceEqDiff, reduceIte, Nat.reduceAdd, Nat.reduceMul, Nat.reduceLeDiff, reduceCtorEq, Nat.reduceSub, Int.reduceToNat, r1, Nat.mul_one] <;> exact rfl)) | (apply one_eph; (· rfl); (· simp only [push_cast, env, Nat.reduceEqDiff, reduceIte, Nat.reduceAdd, Nat.reduceMul, Nat.reduceLeDiff, reduceCtorEq, Nat.reduceSub, Int.reduceToNat, r1, Nat.mul_one] <;> exact rfl); (· rfl); (· simp only [push_cast, env, Nat.reduceEqDiff, reduceIte, Nat.reduceAdd, Nat.reduceMul, Nat.reduceLeDiff, reduceCtorEq, Nat.reduceSub, Int.reduceToNat, r1, Nat.mul_one] <;> exact rfl); (· decide)))); (· (first | (apply one_val; (· rfl); (· simp only [push_cast, env, Nat.reduceEqDiff, reduceIte, Nat.reduceAdd, Nat.reduceMul, Nat.reduceLeDiff, reduceCtorEq, Nat.reduceSub, Int.reduceToNat, r1, Nat.mul_one] <;> exact rfl); (· simp only [push_cast, env, Nat.reduceEqDiff, reduceIte, Nat.reduceAdd, Nat.reduceMul, Nat.reduceLeDiff, reduceCtorEq, Nat.reduceSub, Int.reduceToNat, r1, Nat.mul_one] <;> exact rfl)) | (apply one_eph; (· rfl); (· simp only [push_cast, env, Nat.reduceEqDiff, reduceIte, Nat.reduceAdd, Nat.reduceMul, Nat.reduceLeDiff, reduceCtorEq, Nat.reduceSub, Int.reduceToNat, r1, Nat.mul_one] <;> exact rfl); (· rfl); (· simp only [push_cast, env, Nat.reduceEqDiff, reduceIte, Nat.reduceAdd, Nat.reduceMul, Nat.reduceLeDiff, reduceCtorEq, Nat.reduceSub, Int.reduceToNat, r1, Nat.mul_one] <;> exact rfl); (· decide)))); (· (first | (apply one_val; (· rfl); (· simp only [push_cast, env, Nat.reduceEqDiff, reduceIte, Nat.reduceAdd, Nat.reduceMul, Nat.reduceLeDiff, reduceCtorEq, Nat.reduceSub, Int.reduceToNat, r1, Nat.mul_one] <;> exact rfl); (· simp only [push_cast, env, Nat.reduceEqDiff, reduceIte, Nat.reduceAdd, Nat.reduceMul, Nat.reduceLeDiff, reduceCtorEq, Nat.reduceSub, Int.reduceToNat, r1, Nat.mul_one] <;> exact rfl)) | (apply one_eph; (· rfl); (· simp only [push_cast, env, Nat.reduceEqDiff, reduceIte, Nat.reduceAdd, Nat.reduceMul, Nat.reduceLeDiff, reduceCtorEq, Nat.reduceSub, Int.reduceToNat, r1, Nat.mul_one] <;> exact rfl); (· rfl); (· simp only [push_cast, env, Nat.reduceEqDiff, reduceIte, Nat.reduceAdd, Nat.reduceMul, Nat.reduceLeDiff, reduceCtorEq, Nat.reduceSub, Int.reduceToNat, r1, Nat.mul_one] <;> exact rfl); (· decide)))); (· (first | (apply one_val; (· rfl); (· simp only [push_cast, env, Nat.reduceEqDiff, reduceIte, Nat.reduceAdd, Nat.reduceMul, Nat.reduceLeDiff, reduceCtorEq, Nat.reduceSub, Int.reduceToNat, r1, Nat.mul_one] <;> exact rfl); (· simp only [push_cast, env, Nat.reduceEqDiff, reduceIte, Nat.reduceAdd, Nat.reduceMul, Nat.reduceLeDiff, reduceCtorEq, Nat.reduceSub, Int.reduceToNat, r1, Nat.mul_one] <;> exact rfl)) | (apply one_eph; (· rfl); (· simp only [push_cast, env, Nat.reduceEqDiff, reduceIte, Nat.reduceAdd, Nat.reduceMul, Nat.reduceLeDiff, reduceCtorEq, Nat.reduceSub, Int.reduceToNat, r1, Nat.mul_one] <;> exact rfl); (· rfl); (· simp only [push_cast, env, Nat.reduceEqDiff, reduceIte, Nat.reduceAdd, Nat.reduceMul, Nat.reduceLeDiff, reduceCtorEq, Nat.reduceSub, Int.reduceToNat, r1, Nat.mul_one] <;> exact rfl); (· decide)))))); (· rfl)))
                apply StepsA.cons
                · rfl
                · refine ⟨?_, trivial⟩
                  exact one_sto (r := .sl .unk) rfl (by simp only [push_cast, env, Nat.reduceEqDiff, reduceIte, Nat.reduceAdd, Nat.reduceMul, Nat.reduceLeDiff, reduceCtorEq, Nat.reduceSub, Int.reduceToNat] <;> exact rfl) rfl (by simp only [push_cast, env, Nat.reduceEqDiff, reduceIte, Nat.reduceAdd, Nat.reduceMul, Nat.reduceLeDiff, reduceCtorEq, Nat.reduceSub, Int.reduceToNat] <;> exact rfl) (by simp only [push_cast, env, Nat.reduceEqDiff, reduceIte, Nat.reduceAdd, Nat.reduceMul, Nat.reduceLeDiff, reduceCtorEq, Nat.reduceSub, Int.reduceToNat] <;> exact rfl) ho2 (by simp only [push_cast, env, Nat.reduceEqDiff, reduceIte, Nat.reduceAdd, Nat.reduceMul, Nat.reduceLeDiff, reduceCtorEq, Nat.reduceSub, Int.reduceToNat] <;> exact rfl) rfl (wrV hA) rfl rfl
                · rfl
                exact StepsA.nil _
              · show CW _ _ _ _
                repeat (first | refine cw_seq ?_ | refine cw_region ?_ | refine ow_nil ?_ | ((first | apply ow_cons | apply qw_cons); · simp only [push_cast, env, Nat.reduceEqDiff, reduceIte, Nat.reduceAdd, Nat.reduceMul, Nat.reduceLeDiff, reduceCtorEq, Nat.reduceSub, Int.reduceToNat, e10] <;> exact rfl) | ((first | apply ow_spec | apply qw_spec); · simp only [push_cast, env, Nat.reduceEqDiff, reduceIte, Nat.reduceAdd, Nat.reduceMul, Nat.reduceLeDiff, reduceCtorEq, Nat.reduceSub, Int.reduceToNat, e10] <;> exact rfl) | refine qw_nil ?_ | refine cw_block ?_ | refine cw_scope ?_ | refine cw_label ?_ | refine cw_skip ?_)
                have hN2 := hl1.put (vs := us1.set g.rules[k].lhs.toNat (.slice p2 ((lget ls1 g.rules[k].lhs).length + 1) c2')) hv hlA (lt_of_get ho1) (l' := lget ls1 g.rules[k].lhs ++ [g.rules[k].rhs[j].nt]) (by rw [List.length_append] at G2 ⊢; exact G2) hpr hx2
                refine ⟨hjl, ⟨_, us1.set g.rules[k].lhs.toNat (.slice p2 ((lget ls1 g.rules[k].lhs).length + 1) c2'), ls1.set g.rules[k].lhs.toNat (lget ls1 g.rules[k].lhs ++ [g.rules[k].rhs[j].nt])⟩, (by simp only [push_cast, SubL, fget, Nat.reduceEqDiff, reduceIte]), rfl, pre_set hp2 (Nat.le_refl _), get_set_self ho2, hN2, by simp [hn1], fun l hl => ?_, by simp [hnl1], fun a b y0 y1 => ?_⟩
                · rcases List.mem_or_eq_of_mem_set hl with h | rfl
                  · have := hb1 l h
                    omega
                  · simp only [List.length_append, List.length_singleton]
                    omega
                · simp only
                  rw [lget_set a1 (by omega) y0]
                  by_cases e : g.rules[k].lhs = a
                  · subst e
                    rw [if_pos rfl, List.mem_append, hm1 _ b y0 y1, List.mem_singleton]
                    simp only [true_and]
                    rw [hone hB b, or_assoc]
                  · rw [if_neg e, hm1 a b y0 y1]
                    simp only [e, false_and, or_false]
          · have d2 : decide ((badN m g.rules[k].rhs : Int) = 1) = false := decide_eq_false (by omega)
            have hno : ¬ (0 ≤ g.rules[k].rhs[j].nt ∧ (badN m g.rules[k].rhs = 0 ∨ (badN m g.rules[k].rhs = 1 ∧ nullB m g.rules[k].rhs[j] = false))) := fun hh => hh.2.elim w1 fun h => w2 h.1
            repeat (first | refine cw_seq ?_ | refine cw_region ?_ | refine ow_nil ?_ | ((first | apply ow_cons | apply qw_cons); · simp only [push_cast, env, Nat.reduceEqDiff, reduceIte, Nat.reduceAdd, Nat.reduceMul, Nat.reduceLeDiff, reduceCtorEq, Nat.reduceSub, Int.reduceToNat, e9, hid4, hrd2, d0, d1, d2] <;> exact rfl) | ((first | apply ow_spec | apply qw_spec); · simp only [push_cast, env, Nat.reduceEqDiff, reduceIte, Nat.reduceAdd, Nat.reduceMul, Nat.reduceLeDiff, reduceCtorEq, Nat.reduceSub, Int.reduceToNat, e9, hid4, hrd2, d0, d1, d2] <;> exact rfl) | refine qw_nil ?_ | refine cw_block ?_ | refine cw_scope ?_ | refine cw_label ?_ | refine cw_skip ?_)
            refine cw_condF (by simp only [push_cast, env, Nat.reduceEqDiff, reduceIte, Nat.reduceAdd, Nat.reduceMul, Nat.reduceLeDiff, reduceCtorEq, Nat.reduceSub, Int.reduceToNat, d0, d1, d2] <;> exact rfl) ?_
            repeat (first | refine cw_seq ?_ | refine cw_region ?_ | refine ow_nil ?_ | ((first | apply ow_cons | apply qw_cons); · simp only [push_cast, env, Nat.reduceEqDiff, reduceIte, Nat.reduceAdd, Nat.reduceMul, Nat.reduceLeDiff, reduceCtorEq, Nat.reduceSub, Int.reduceToNat, e10] <;> exact rfl) | ((first | apply ow_spec | apply qw_spec); · simp only [push_cast, env, Nat.reduceEqDiff, reduceIte, Nat.reduceAdd, Nat.reduceMul, Nat.reduceLeDiff, reduceCtorEq, Nat.reduceSub, Int.reduceToNat, e10] <;> exact rfl) | refine qw_nil ?_ | refine cw_block ?_ | refine cw_scope ?_ | refine cw_label ?_ | refine cw_skip ?_)
            refine ⟨hjl, ⟨hk1, us1, ls1⟩, (by simp only [push_cast, SubL, fget, Nat.reduceEqDiff, reduceIte]), rfl, hp1, ho1, hl1, hn1, fun l h => by have := hb1 l h; omega, hnl1, fun a b y0 y1 => ?_⟩
            rw [hm1 a b y0 y1, hnot hno b]
      · have d0 := decide_eq_false h0
        repeat (first | refine cw_seq ?_ | refine cw_region ?_ | refine ow_nil ?_ | ((first | apply ow_cons | apply qw_cons); · simp only [push_cast, env, Nat.reduceEqDiff, reduceIte, Nat.reduceAdd, Nat.reduceMul, Nat.reduceLeDiff, reduceCtorEq, Nat.reduceSub, Int.reduceToNat, e9, hid4, hrd2, d0] <;> exact rfl) | ((first | apply ow_spec | apply qw_spec); · simp only [push_cast, env, Nat.reduceEqDiff, reduceIte, Nat.reduceAdd, Nat.reduceMul, Nat.reduceLeDiff, reduceCtorEq, Nat.reduceSub, Int.reduceToNat, e9, hid4, hrd2, d0] <;> exact rfl) | refine qw_nil ?_ | refine cw_block ?_ | refine cw_scope ?_ | refine cw_label ?_ | refine cw_skip ?_)
        refine cw_condF (by simp only [push_cast, env, Nat.reduceEqDiff, reduceIte, Nat.reduceAdd, Nat.reduceMul, Nat.reduceLeDiff, reduceCtorEq, Nat.reduceSub, Int.reduceToNat, d0] <;> exact rfl) ?_
        repeat (first | refine cw_seq ?_ | refine cw_region ?_ | refine ow_nil ?_ | ((first | apply ow_cons | apply qw_cons); · simp only [push_cast, env, Nat.reduceEqDiff, reduceIte, Nat.reduceAdd, Nat.reduceMul, Nat.reduceLeDiff, reduceCtorEq, Nat.reduceSub, Int.reduceToNat, e10] <;> exact rfl) | ((first | apply ow_spec | apply qw_spec); · simp only [push_cast, env, Nat.reduceEqDiff, reduceIte, Nat.reduceAdd, Nat.reduceMul, Nat.reduceLeDiff, reduceCtorEq, Nat.reduceSub, Int.reduceToNat, e10] <;> exact rfl) | refine qw_nil ?_ | refine cw_block ?_ | refine cw_scope ?_ | refine cw_label ?_ | refine cw_skip ?_)
        refine ⟨hjl, ⟨hk1, us1, ls1⟩, (by simp only [push_cast, SubL, fget, Nat.reduceEqDiff, reduceIte]), rfl, hp1, ho1, hl1, hn1, fun l h => by have := hb1 l h; omega, hnl1, fun a b y0 y1 => ?_⟩
        rw [hm1 a b y0 y1, hnot (fun hh => h0 hh.1) b]
    · have e11 := ge_dec hjl
      obtain rfl : j = g.rules[k].rhs.length := by omega
      repeat (first | refine cw_seq ?_ | refine cw_region ?_ | refine ow_nil ?_ | ((first | apply ow_cons | apply qw_cons); · simp only [push_cast, env, Nat.reduceEqDiff, reduceIte, Nat.reduceAdd, Nat.reduceMul, Nat.reduceLeDiff, reduceCtorEq, Nat.reduceSub, Int.reduceToNat, e11] <;> exact rfl) | ((first | apply ow_spec | apply qw_spec); · simp only [push_cast, env, Nat.reduceEqDiff, reduceIte, Nat.reduceAdd, Nat.reduceMul, Nat.reduceLeDiff, reduceCtorEq, Nat.reduceSub, Int.reduceToNat, e11] <;> exact rfl) | refine qw_nil ?_ | refine cw_block ?_ | refine cw_scope ?_ | refine cw_label ?_ | refine cw_skip ?_)
      refine cw_condF (by simp only [push_cast, env, Nat.reduceEqDiff, reduceIte, Nat.reduceAdd, Nat.reduceMul, Nat.reduceLeDiff, reduceCtorEq, Nat.reduceSub, Int.reduceToNat] <;> exact rfl) ?_
      refine cw_exit ?_
      show CW _ _ _ _
      repeat (first | refine cw_seq ?_ | refine cw_region ?_ | refine ow_nil ?_ | ((first | apply ow_cons | apply qw_cons); · simp only [push_cast, env, Nat.reduceEqDiff, reduceIte, Nat.reduceAdd, Nat.reduceMul, Nat.reduceLeDiff, reduceCtorEq, Nat.reduceSub, Int.reduceToNat, e2] <;> exact rfl) | ((first | apply ow_spec | apply qw_spec); · simp only [push_cast, env, Nat.reduceEqDiff, reduceIte, Nat.reduceAdd, Nat.reduceMul, Nat.reduceLeDiff, reduceCtorEq, Nat.reduceSub, Int.reduceToNat, e2] <;> exact rfl) | refine qw_nil ?_ | refine cw_block ?_ | refine cw_scope ?_ | refine cw_label ?_ | refine cw_skip ?_)
      refine ⟨hlt, ⟨hk1, us1, ls1⟩, (by simp only [push_cast, SubL, fget, Nat.reduceEqDiff, reduceIte]), rfl, ⟨hp1, ho1, hl1, hn1, fun l h => by have := hb1 l h; omega⟩, hnl1, fun a b h0 h1 => ?_⟩
      rw [hm1 a b h0 h1, take_mem hlt]
  · have e3 := ge_dec hlt
    obtain rfl : k = g.rules.length := by omega
    repeat (first | refine cw_seq ?_ | refine cw_region ?_ | refine ow_nil ?_ | ((first | apply ow_cons | apply qw_cons); · simp only [push_cast, env, Nat.reduceEqDiff, reduceIte, Nat.reduceAdd, Nat.reduceMul, Nat.reduceLeDiff, reduceCtorEq, Nat.reduceSub, Int.reduceToNat, e3] <;> exact rfl) | ((first | apply ow_spec | apply qw_spec); · simp only [push_cast, env, Nat.reduceEqDiff, reduceIte, Nat.reduceAdd, Nat.reduceMul, Nat.reduceLeDiff, reduceCtorEq, Nat.reduceSub, Int.reduceToNat, e3] <;> exact rfl) | refine qw_nil ?_ | refine cw_block ?_ | refine cw_scope ?_ | refine cw_label ?_ | refine cw_skip ?_)
    refine cw_condF (by simp only [push_cast, env, Nat.reduceEqDiff, reduceIte, Nat.reduceAdd, Nat.reduceMul, Nat.reduceLeDiff, reduceCtorEq, Nat.reduceSub, Int.reduceToNat] <;> exact rfl) ?_
    refine cw_exit ?_
    show CW _ _ _ _
    repeat (first | refine cw_seq ?_ | refine cw_region ?_ | refine ow_nil ?_ | ((first | apply ow_cons | apply qw_cons); · simp only [push_cast, env, Nat.reduceEqDiff, reduceIte, Nat.reduceAdd, Nat.reduceMul, Nat.reduceLeDiff, reduceCtorEq, Nat.reduceSub, Int.reduceToNat] <;> exact rfl) | ((first | apply ow_spec | apply qw_spec); · simp only [push_cast, env, Nat.reduceEqDiff, reduceIte, Nat.reduceAdd, Nat.reduceMul, Nat.reduceLeDiff, reduceCtorEq, Nat.reduceSub, Int.reduceToNat] <;> exact rfl) | refine qw_nil ?_ | refine cw_block ?_ | refine cw_scope ?_ | refine cw_label ?_ | refine cw_skip ?_)
    refine cw_ret ?_
    refine ⟨_, (by simp only [push_cast, env, Nat.reduceEqDiff, reduceIte, Nat.reduceAdd, Nat.reduceMul, Nat.reduceLeDiff, reduceCtorEq, Nat.reduceSub, Int.reduceToNat] <;> exact rfl), ⟨us, ls, by rw [hn]; rfl, ho, hl, hI, fun l h => by have := hb l h; omega⟩, hp⟩
end Go.Proofs.Ytnlchlnkibpkaaa
