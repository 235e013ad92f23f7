/- Several texts, one behind the other; each begins with a remark of its own. -/
import Derived.Test.YtafncpgiibikcaaZE3
import Derived.Test.YtafncpgiibikcaaZG8
import Derived.Test.YtafncpgiibikcaaZG5
import Derived.Test.YtafncpgiibikcaaZTy
import Derived.Test.YtafncpgiibikcaaZFa
/- trimmed: a grammar with its productive rules alone. -/
namespace Go.Proofs.Ytafncpgiibikcaa
set_option linter.unusedSimpArgs false
set_option linter.unusedVariables false
set_option maxRecDepth 20000
open Go.RowKit Am Ty

def trG (g : Gram) (m : List Bool) : Gram := ⟨g.nts, g.start, g.rules.filter (goodR m)⟩
def pickR (g : Gram) (i : Int) : Rule := (g.rules[i.toNat]?).getD ⟨0, []⟩
theorem trim_pick {g : Gram} {m : List Bool} : ∀ (k : Nat), k ≤ g.rules.length → (trimK g m k).map (pickR g) = (g.rules.take k).filter (goodR m)
  | 0, _ => by simp [trimK]
  | k + 1, h => by
    have hk : k < g.rules.length := by omega
    have ih := trim_pick (g := g) (m := m) k (by omega)
    rw [List.take_succ_eq_append_getElem hk, List.filter_append, ← ih]
    cases hb : goodR m g.rules[k] with
    | true =>
      rw [trimK_yes hk hb, List.map_append, List.filter_cons, hb]
      simp [pickR, hk]
    | false =>
      rw [trimK_no hk hb, List.filter_cons, hb]
      simp
theorem trimK_mem {g : Gram} {m : List Bool} {k : Nat} {i : Int} (h : i ∈ trimK g m k) : ∃ n : Nat, i = n ∧ n < k := by
  unfold trimK at h
  rw [List.mem_map] at h
  obtain ⟨n, hn, rfl⟩ := h
  exact ⟨n, rfl, List.mem_range.1 (List.mem_filter.1 hn).1⟩
theorem rd_at {h : Heap} {v : Value} {n b : Nat} {cells : List Value} {et : TypeId} (hs : SlR h v n cells et b) {j : Nat} (hj : isAtS v j = true) : j < h.length := by
  rcases hs.2 with ⟨h1 | h1, _, _⟩ | ⟨id, ver, own, c, rfl, h2⟩
  · subst h1; simp [isAtS] at hj
  · subst h1; simp [isAtS] at hj
  · simp only [isAtS, beq_iff_eq] at hj
    subst hj
    exact lt_of_get h2
theorem rightS_tr {g : Gram} {m : List Bool} (R : RightS g) : RightS (trG g m) :=
  ⟨R.n1, R.n2, R.s1, R.s2, Nat.le_trans (List.length_filter_le _ _) R.rl, fun r hr => R.r r (List.mem_filter.1 hr).1⟩
theorem wfG_tr {g : Gram} {m : List Bool} (W : WfG g) : WfG (trG g m) := fun r hr => W r (List.mem_filter.1 hr).1
set_option maxHeartbeats 4000000 in
theorem trimmed_fw {h : Heap} {g : Gram} {v : Value} (hr : RdGram h v g) (hb : ¬ badG g) : FW env 40 [v] h fun r h' => ∃ m, Marks g.nts (goodD g) m ∧ RdGram h' r (trG g m) ∧ h <+: h' := by
  obtain ⟨u, rfl, hu⟩ := id hr
  obtain ⟨p, c, rfl⟩ := hu.form
  have R := rightS hb
  have hrl := R.rl
  refine fw_enter (fn := Try.f40) Try.func40 rfl (by kernel_rfl) (by simp [Try.ntmps40]) ?_; simp only [push_cast]
  repeat (first | refine cw_seq ?_ | refine cw_region ?_ | refine ow_nil ?_ | ((first | apply ow_cons | apply qw_cons); · simp only [push_cast, env, Nat.reduceEqDiff, reduceIte, Nat.reduceAdd, Nat.reduceMul, Nat.reduceLeDiff, reduceCtorEq, Nat.reduceSub, Int.reduceToNat] <;> exact rfl) | ((first | apply ow_spec | apply qw_spec); · simp only [push_cast, env, Nat.reduceEqDiff, reduceIte, Nat.reduceAdd, Nat.reduceMul, Nat.reduceLeDiff, reduceCtorEq, Nat.reduceSub, Int.reduceToNat] <;> exact rfl) | refine qw_nil ?_ | refine cw_block ?_ | refine cw_scope ?_ | refine cw_label ?_ | refine cw_skip ?_)
  refine ow_call (fn := Try.f55) (by simp only [push_cast, env, Nat.reduceEqDiff, reduceIte, Nat.reduceAdd, Nat.reduceMul, Nat.reduceLeDiff, reduceCtorEq, Nat.reduceSub, Int.reduceToNat] <;> exact rfl) rfl (by simp only [push_cast, env, Nat.reduceEqDiff, reduceIte, Nat.reduceAdd, Nat.reduceMul, Nat.reduceLeDiff, reduceCtorEq, Nat.reduceSub, Int.reduceToNat] <;> exact rfl) (by simp only [push_cast, env, Nat.reduceEqDiff, reduceIte, Nat.reduceAdd, Nat.reduceMul, Nat.reduceLeDiff, reduceCtorEq, Nat.reduceSub, Int.reduceToNat] <;> exact rfl) Try.func55 (by kernel_rfl) (by kernel_rfl) ?_
  rw [List.append_nil]
  refine (trim_fw hr).mono ?_
  rintro _ h1 ⟨⟨x, rfl, hx⟩, hp1⟩
  rcases hx with ⟨hb', _⟩ | ⟨_, m, hm, hG⟩
  · exact (hb hb').elim
  have hKl := trimK_len (g := g) (m := m) (k := g.rules.length)
  have hpk := trim_pick (g := g) (m := m) g.rules.length (Nat.le_refl _)
  rw [List.take_length] at hpk
  have hmem := fun i => trimK_mem (g := g) (m := m) (k := g.rules.length) (i := i)
  generalize trimK g m g.rules.length = L at hG hKl hpk hmem
  obtain ⟨pl, cl, rfl⟩ := hG.form
  have hLr : RdInts h1 (.slice pl L.length cl) L := hG.sl (by omega)
  repeat (first | refine cw_seq ?_ | refine cw_region ?_ | refine ow_nil ?_ | ((first | apply ow_cons | apply qw_cons); · simp only [push_cast, env, Nat.reduceEqDiff, reduceIte, Nat.reduceAdd, Nat.reduceMul, Nat.reduceLeDiff, reduceCtorEq, Nat.reduceSub, Int.reduceToNat] <;> exact rfl) | ((first | apply ow_spec | apply qw_spec); · simp only [push_cast, env, Nat.reduceEqDiff, reduceIte, Nat.reduceAdd, Nat.reduceMul, Nat.reduceLeDiff, reduceCtorEq, Nat.reduceSub, Int.reduceToNat] <;> exact rfl) | refine qw_nil ?_ | refine cw_block ?_ | refine cw_scope ?_ | refine cw_label ?_ | refine cw_skip ?_)
  refine cw_forG L.length (fun k (x : Heap × Option Addr × Nat × List Value) => [(1, .box [i64 g.nts, i64 g.start, .slice p g.rules.length c]), (2, .box [i64 0, i64 0, nilS]), (5, .box [i64 g.nts, i64 g.start, .slice x.2.1 k x.2.2.1]), (18, .val (.slice pl L.length cl)), (19, .val (i64 L.length)), (20, .val (i64 k))]) (fun _ x => x.1)
    (fun k x => BR h1 x.1 (.slice x.2.1 k x.2.2.1) ((L.take k).map (pickR g)) x.2.2.2 ∧ ∀ y ∈ x.2.2.2, ∀ j, isAtS y j = true → j < h.length) (h1, none, 0, []) (by simp only [push_cast, SubL, fget, Nat.reduceEqDiff, reduceIte]) rfl ⟨BR.nil (List.prefix_refl _), fun y hy => by simp at hy⟩ ?_
  rintro k ⟨hk, q, cq, us⟩ hkn ⟨B, hU⟩
  simp only at B hU ⊢
  by_cases hlt : k < L.length
  · obtain ⟨idl, verl, ownl, cl2, cellsl, hvl, hidl, hgl⟩ := RdInts.at hLr hlt
    cases hvl
    have hidl' := getElem?_of_prefix B.p hidl
    have e1 := rng hlt
    have e2 := inc hlt (by omega)
    have e3 := lt_dec hlt
    obtain ⟨n, hn, hnl⟩ := hmem L[k] (List.getElem_mem hlt)
    rw [hn] at hgl
    obtain ⟨id3, ver3, own3, c3, cells3, p3, n3, c4, hv3, hid3, hn3, hrd3, hu3⟩ := hu.at hnl
    cases hv3
    subst hn3
    have hid3' := getElem?_of_prefix (hp1.trans B.p) hid3
    have g2 := rng hnl
    have hpr : pickR g L[k] = g.rules[n] := by unfold pickR; rw [hn]; simp [hnl]
    have hlk : ((L.take k).map (pickR g)).length = k := by rw [List.length_map, List.length_take]; omega
    have hpl : h.length ≤ hk.length := (hp1.trans B.p).length_le
    obtain ⟨p5, c5, h5, hone, B5, hk5, hx5⟩ := B.push (r := g.rules[n]) (v := .slice p3 g.rules[n].rhs.length c4) (hu3.mono (hp1.trans B.p)) (fun j hj hj2 => by
        cases hq : isAtS (.slice p3 g.rules[n].rhs.length c4) j with
        | false => rfl
        | true =>
          have h6 := rd_at hu3 hq
          have h7 := (B.g.lt hj2).1
          have := hp1.length_le
          omega) (by
        cases hq : isAtS (.slice p3 g.rules[n].rhs.length c4) hk.length with
        | false => rfl
        | true => have := rd_at hu3 hq; omega) (fun x hx => by
        cases hq : isAtS x hk.length with
        | false => rfl
        | true => have := hU x hx _ hq; omega) (by rw [hlk]; omega)
    rw [hlk] at hone B5
    repeat (first | refine cw_seq ?_ | refine cw_region ?_ | refine ow_nil ?_ | ((first | apply ow_cons | apply qw_cons); · simp only [push_cast, env, Nat.reduceEqDiff, reduceIte, Nat.reduceAdd, Nat.reduceMul, Nat.reduceLeDiff, reduceCtorEq, Nat.reduceSub, Int.reduceToNat, e3] <;> exact rfl) | ((first | apply ow_spec | apply qw_spec); · simp only [push_cast, env, Nat.reduceEqDiff, reduceIte, Nat.reduceAdd, Nat.reduceMul, Nat.reduceLeDiff, reduceCtorEq, Nat.reduceSub, Int.reduceToNat, e3] <;> exact rfl) | refine qw_nil ?_ | refine cw_block ?_ | refine cw_scope ?_ | refine cw_label ?_ | refine cw_skip ?_)
    refine cw_condT (by simp only [push_cast, env, Nat.reduceEqDiff, reduceIte, Nat.reduceAdd, Nat.reduceMul, Nat.reduceLeDiff, reduceCtorEq, Nat.reduceSub, Int.reduceToNat] <;> exact rfl) ?_
    repeat (first | refine cw_seq ?_ | refine cw_region ?_ | refine ow_nil ?_ | ((first | apply ow_cons | apply qw_cons); · simp only [push_cast, env, Nat.reduceEqDiff, reduceIte, Nat.reduceAdd, Nat.reduceMul, Nat.reduceLeDiff, reduceCtorEq, Nat.reduceSub, Int.reduceToNat, hidl', e1, hgl, Nat.mul_one] <;> exact rfl) | ((first | apply ow_spec | apply qw_spec); · simp only [push_cast, env, Nat.reduceEqDiff, reduceIte, Nat.reduceAdd, Nat.reduceMul, Nat.reduceLeDiff, reduceCtorEq, Nat.reduceSub, Int.reduceToNat, hidl', e1, hgl, Nat.mul_one] <;> exact rfl) | refine qw_nil ?_ | refine cw_block ?_ | refine cw_scope ?_ | refine cw_label ?_ | refine cw_skip ?_)
    refine cw_weakL [(1, .box [i64 g.nts, i64 g.start, .slice (some ⟨id3, 0, some ver3⟩) g.rules.length c]), (2, .box [i64 0, i64 0, nilS]), (5, .box [i64 g.nts, i64 g.start, .slice q k cq]), (7, .val (i64 n)), (18, .val (.slice (some ⟨idl, 0, some verl⟩) L.length cl)), (19, .val (i64 L.length)), (20, .val (i64 k))] (by simp only [push_cast, SubL, fget, Nat.reduceEqDiff, reduceIte]) ?_
    show CW _ _ ⟨_, [], hk⟩ _
    apply cw_ordT (n := 8) (L := [[], [0], [], [2], [], [2, 3, 4], [2, 3, 4, 5], [2, 3, 4, 5, 6], [0, 1, 2, 3, 4, 5, 6, 7], [0, 1, 2, 3, 4, 5, 6, 7, 8], [0, 1, 2, 3, 4, 5, 6, 7, 8, 9]]) (act := []) (hs := []) (resL := [_, _, _, _, _, _, _, _]) (frP := [(1, .box [i64 g.nts, i64 g.start, .slice (some ⟨id3, 0, some ver3⟩) g.rules.length c]), (2, .box [i64 0, i64 0, nilS]), (5, .box [i64 g.nts, i64 g.start, .slice q k cq]), (18, .val (.slice (some ⟨idl, 0, some verl⟩) L.length cl)), (19, .val (i64 L.length)), (20, .val (i64 k)), (25, .val (.slice q k cq)), (31, .bsl [i64 g.rules[n].lhs, .slice p3 g.rules[n].rhs.length c4] 1)])
    case hm => exact mixed
    case hc => kernel_rfl
    case hn => kernel_rfl
    case ha => rfl
    case hb => rfl
    case hS => repeat (first | exact StepsA.nil _ | (apply StepsA.cons; (· rfl); (· first | (refine ⟨?_, trivial⟩; (· (first | (apply one_val; (· rfl); (· simp only [push_cast, env, Nat.reduceEqDiff, reduceIte, Nat.reduceAdd, Nat.reduceMul, Nat.reduceLeDiff, reduceCtorEq, Nat.reduceSub, Int.reduceToNat, hid3', hrd3, g2] <;> exact rfl); (· simp only [push_cast, env, Nat.reduceEqDiff, reduceIte, Nat.reduceAdd, Nat.reduceMul, Nat.reduceLeDiff, reduceCtorEq, Nat.reduceSub, Int.reduceToNat, hid3', hrd3, g2] <;> exact rfl)) | (apply one_eph; (· rfl); (· simp only [push_cast, env, Nat.reduceEqDiff, reduceIte, Nat.reduceAdd, Nat.reduceMul, Nat.reduceLeDiff, reduceCtorEq, Nat.reduceSub, Int.reduceToNat, hid3', hrd3, g2] <;> exact rfl); (· rfl); (· simp only [push_cast, env, Nat.reduceEqDiff, reduceIte, Nat.reduceAdd, Nat.reduceMul, Nat.reduceLeDiff, reduceCtorEq, Nat.reduceSub, Int.reduceToNat, hid3', hrd3, g2] <;> exact rfl); (· decide)) | (apply one_bsl; (· rfl); (· simp only [push_cast, env, Nat.reduceEqDiff, reduceIte, Nat.reduceAdd, Nat.reduceMul, Nat.reduceLeDiff, reduceCtorEq, Nat.reduceSub, Int.reduceToNat, hid3', hrd3, g2] <;> exact rfl); (· rfl); (· simp only [push_cast, env, Nat.reduceEqDiff, reduceIte, Nat.reduceAdd, Nat.reduceMul, Nat.reduceLeDiff, reduceCtorEq, Nat.reduceSub, Int.reduceToNat, hid3', hrd3, g2] <;> exact rfl)) | (apply one_box; (· rfl); (· simp only [push_cast, env, Nat.reduceEqDiff, reduceIte, Nat.reduceAdd, Nat.reduceMul, Nat.reduceLeDiff, reduceCtorEq, Nat.reduceSub, Int.reduceToNat, hid3', hrd3, g2] <;> exact rfl); (· rfl); (· simp only [push_cast, env, Nat.reduceEqDiff, reduceIte, Nat.reduceAdd, Nat.reduceMul, Nat.reduceLeDiff, reduceCtorEq, Nat.reduceSub, Int.reduceToNat, hid3', hrd3, g2] <;> exact rfl)) | (apply one_skip; (· rfl); (· simp only [push_cast, env, Nat.reduceEqDiff, reduceIte, Nat.reduceAdd, Nat.reduceMul, Nat.reduceLeDiff, reduceCtorEq, Nat.reduceSub, Int.reduceToNat, hid3', hrd3, g2] <;> exact rfl))))) | (refine ⟨?_, ?_, trivial⟩; (· (first | (apply one_val; (· rfl); (· simp only [push_cast, env, Nat.reduceEqDiff, reduceIte, Nat.reduceAdd, Nat.reduceMul, Nat.reduceLeDiff, reduceCtorEq, Nat.reduceSub, Int.reduceToNat, hid3', hrd3, g2] <;> exact rfl); (· simp only [push_cast, env, Nat.reduceEqDiff, reduceIte, Nat.reduceAdd, Nat.reduceMul, Nat.reduceLeDiff, reduceCtorEq, Nat.reduceSub, Int.reduceToNat, hid3', hrd3, g2] <;> exact rfl)) | (apply one_eph; (· rfl); (· simp only [push_cast, env, Nat.reduceEqDiff, reduceIte, Nat.reduceAdd, Nat.reduceMul, Nat.reduceLeDiff, reduceCtorEq, Nat.reduceSub, Int.reduceToNat, hid3', hrd3, g2] <;> exact rfl); (· rfl); (· simp only [push_cast, env, Nat.reduceEqDiff, reduceIte, Nat.reduceAdd, Nat.reduceMul, Nat.reduceLeDiff, reduceCtorEq, Nat.reduceSub, Int.reduceToNat, hid3', hrd3, g2] <;> exact rfl); (· decide)) | (apply one_bsl; (· rfl); (· simp only [push_cast, env, Nat.reduceEqDiff, reduceIte, Nat.reduceAdd, Nat.reduceMul, Nat.reduceLeDiff, reduceCtorEq, Nat.reduceSub, Int.reduceToNat, hid3', hrd3, g2] <;> exact rfl); (· rfl); (· simp only [push_cast, env, Nat.reduceEqDiff, reduceIte, Nat.reduceAdd, Nat.reduceMul, Nat.reduceLeDiff, reduceCtorEq, Nat.reduceSub, Int.reduceToNat, hid3', hrd3, g2] <;> exact rfl)) | (apply one_box; (· rfl); (· simp only [push_cast, env, Nat.reduceEqDiff, reduceIte, Nat.reduceAdd, Nat.reduceMul, Nat.reduceLeDiff, reduceCtorEq, Nat.reduceSub, Int.reduceToNat, hid3', hrd3, g2] <;> exact rfl); (· rfl); (· simp only [push_cast, env, Nat.reduceEqDiff, reduceIte, Nat.reduceAdd, Nat.reduceMul, Nat.reduceLeDiff, reduceCtorEq, Nat.reduceSub, Int.reduceToNat, hid3', hrd3, g2] <;> exact rfl)) | (apply one_skip; (· rfl); (· simp only [push_cast, env, Nat.reduceEqDiff, reduceIte, Nat.reduceAdd, Nat.reduceMul, Nat.reduceLeDiff, reduceCtorEq, Nat.reduceSub, Int.reduceToNat, hid3', hrd3, g2] <;> exact rfl)))); (· (first | (apply one_val; (· rfl); (· simp only [push_cast, env, Nat.reduceEqDiff, reduceIte, Nat.reduceAdd, Nat.reduceMul, Nat.reduceLeDiff, reduceCtorEq, Nat.reduceSub, Int.reduceToNat, hid3', hrd3, g2] <;> exact rfl); (· simp only [push_cast, env, Nat.reduceEqDiff, reduceIte, Nat.reduceAdd, Nat.reduceMul, Nat.reduceLeDiff, reduceCtorEq, Nat.reduceSub, Int.reduceToNat, hid3', hrd3, g2] <;> exact rfl)) | (apply one_eph; (· rfl); (· simp only [push_cast, env, Nat.reduceEqDiff, reduceIte, Nat.reduceAdd, Nat.reduceMul, Nat.reduceLeDiff, reduceCtorEq, Nat.reduceSub, Int.reduceToNat, hid3', hrd3, g2] <;> exact rfl); (· rfl); (· simp only [push_cast, env, Nat.reduceEqDiff, reduceIte, Nat.reduceAdd, Nat.reduceMul, Nat.reduceLeDiff, reduceCtorEq, Nat.reduceSub, Int.reduceToNat, hid3', hrd3, g2] <;> exact rfl); (· decide)) | (apply one_bsl; (· rfl); (· simp only [push_cast, env, Nat.reduceEqDiff, reduceIte, Nat.reduceAdd, Nat.reduceMul, Nat.reduceLeDiff, reduceCtorEq, Nat.reduceSub, Int.reduceToNat, hid3', hrd3, g2] <;> exact rfl); (· rfl); (· simp only [push_cast, env, Nat.reduceEqDiff, reduceIte, Nat.reduceAdd, Nat.reduceMul, Nat.reduceLeDiff, reduceCtorEq, Nat.reduceSub, Int.reduceToNat, hid3', hrd3, g2] <;> exact rfl)) | (apply one_box; (· rfl); (· simp only [push_cast, env, Nat.reduceEqDiff, reduceIte, Nat.reduceAdd, Nat.reduceMul, Nat.reduceLeDiff, reduceCtorEq, Nat.reduceSub, Int.reduceToNat, hid3', hrd3, g2] <;> exact rfl); (· rfl); (· simp only [push_cast, env, Nat.reduceEqDiff, reduceIte, Nat.reduceAdd, Nat.reduceMul, Nat.reduceLeDiff, reduceCtorEq, Nat.reduceSub, Int.reduceToNat, hid3', hrd3, g2] <;> exact rfl)) | (apply one_skip; (· rfl); (· simp only [push_cast, env, Nat.reduceEqDiff, reduceIte, Nat.reduceAdd, Nat.reduceMul, Nat.reduceLeDiff, reduceCtorEq, Nat.reduceSub, Int.reduceToNat, hid3', hrd3, g2] <;> exact rfl))))) | (refine ⟨?_, ?_, ?_, trivial⟩; (· (first | (apply one_val; (· rfl); (· simp only [push_cast, env, Nat.reduceEqDiff, reduceIte, Nat.reduceAdd, Nat.reduceMul, Nat.reduceLeDiff, reduceCtorEq, Nat.reduceSub, Int.reduceToNat, hid3', hrd3, g2] <;> exact rfl); (· simp only [push_cast, env, Nat.reduceEqDiff, reduceIte, Nat.reduceAdd, Nat.reduceMul, Nat.reduceLeDiff, reduceCtorEq, Nat.reduceSub, Int.reduceToNat, hid3', hrd3, g2] <;> exact rfl)) | (apply one_eph; (· rfl); (· simp only [push_cast, env, Nat.reduceEqDiff, reduceIte, Nat.reduceAdd, Nat.reduceMul, Nat.reduceLeDiff, reduceCtorEq, Nat.reduceSub, Int.reduceToNat, hid3', hrd3, g2] <;> exact rfl); (· rfl); (· simp only [push_cast, env, Nat.reduceEqDiff, reduceIte, Nat.reduceAdd, Nat.reduceMul, Nat.reduceLeDiff, reduceCtorEq, Nat.reduceSub, Int.reduceToNat, hid3', hrd3, g2] <;> exact rfl); (· decide)) | (apply one_bsl; (· rfl); (· simp only [push_cast, env, Nat.reduceEqDiff, reduceIte, Nat.reduceAdd, Nat.reduceMul, Nat.reduceLeDiff, reduceCtorEq, Nat.reduceSub, Int.reduceToNat, hid3', hrd3, g2] <;> exact rfl); (· rfl); (· simp only [push_cast, env, Nat.reduceEqDiff, reduceIte, Nat.reduceAdd, Nat.reduceMul, Nat.reduceLeDiff, reduceCtorEq, Nat.reduceSub, Int.reduceToNat, hid3', hrd3, g2] <;> exact rfl)) | (apply one_box; (· rfl); (· simp only [push_cast, env, Nat.reduceEqDiff, reduceIte, Nat.reduceAdd, Nat.reduceMul, Nat.reduceLeDiff, reduceCtorEq, Nat.reduceSub, Int.reduceToNat, hid3', hrd3, g2] <;> exact rfl); (· rfl); (· simp only [push_cast, env, Nat.reduceEqDiff, reduceIte, Nat.reduceAdd, Nat.reduceMul, Nat.reduceLeDiff, reduceCtorEq, Nat.reduceSub, Int.reduceToNat, hid3', hrd3, g2] <;> exact rfl)) | (apply one_skip; (· rfl); (· simp only [push_cast, env, Nat.reduceEqDiff, reduceIte, Nat.reduceAdd, Nat.reduceMul, Nat.reduceLeDiff, reduceCtorEq, Nat.reduceSub, Int.reduceToNat, hid3', hrd3, g2] <;> exact rfl)))); (· (first | (apply one_val; (· rfl); (· simp only [push_cast, env, Nat.reduceEqDiff, reduceIte, Nat.reduceAdd, Nat.reduceMul, Nat.reduceLeDiff, reduceCtorEq, Nat.reduceSub, Int.reduceToNat, hid3', hrd3, g2] <;> exact rfl); (· simp only [push_cast, env, Nat.reduceEqDiff, reduceIte, Nat.reduceAdd, Nat.reduceMul, Nat.reduceLeDiff, reduceCtorEq, Nat.reduceSub, Int.reduceToNat, hid3', hrd3, g2] <;> exact rfl)) | (apply one_eph; (· rfl); (· simp only [push_cast, env, Nat.reduceEqDiff, reduceIte, Nat.reduceAdd, Nat.reduceMul, Nat.reduceLeDiff, reduceCtorEq, Nat.reduceSub, Int.reduceToNat, hid3', hrd3, g2] <;> exact rfl); (· rfl); (· simp only [push_cast, env, Nat.reduceEqDiff, reduceIte, Nat.reduceAdd, Nat.reduceMul, Nat.reduceLeDiff, reduceCtorEq, Nat.reduceSub, Int.reduceToNat, hid3', hrd3, g2] <;> exact rfl); (· decide)) | (apply one_bsl; (· rfl); (· simp only [push_cast, env, Nat.reduceEqDiff, reduceIte, Nat.reduceAdd, Nat.reduceMul, Nat.reduceLeDiff, reduceCtorEq, Nat.reduceSub, Int.reduceToNat, hid3', hrd3, g2] <;> exact rfl); (· rfl); (· simp only [push_cast, env, Nat.reduceEqDiff, reduceIte, Nat.reduceAdd, Nat.reduceMul, Nat.reduceLeDiff, reduceCtorEq, Nat.reduceSub, Int.reduceToNat, hid3', hrd3, g2] <;> exact rfl)) | (apply one_box; (· rfl); (· simp only [push_cast, env, Nat.reduceEqDiff, reduceIte, Nat.reduceAdd, Nat.reduceMul, Nat.reduceLeDiff, reduceCtorEq, Nat.reduceSub, Int.reduceToNat, hid3', hrd3, g2] <;> exact rfl); (· rfl); (· simp only [push_cast, env, Nat.reduceEqDiff, reduceIte, Nat.reduceAdd, Nat.reduceMul, Nat.reduceLeDiff, reduceCtorEq, Nat.reduceSub, Int.reduceToNat, hid3', hrd3, g2] <;> exact rfl)) | (apply one_skip; (· rfl); (· simp only [push_cast, env, Nat.reduceEqDiff, reduceIte, Nat.reduceAdd, Nat.reduceMul, Nat.reduceLeDiff, reduceCtorEq, Nat.reduceSub, Int.reduceToNat, hid3', hrd3, g2] <;> exact rfl)))); (· (first | (apply one_val; (· rfl); (· simp only [push_cast, env, Nat.reduceEqDiff, reduceIte, Nat.reduceAdd, Nat.reduceMul, Nat.reduceLeDiff, reduceCtorEq, Nat.reduceSub, Int.reduceToNat, hid3', hrd3, g2] <;> exact rfl); (· simp only [push_cast, env, Nat.reduceEqDiff, reduceIte, Nat.reduceAdd, Nat.reduceMul, Nat.reduceLeDiff, reduceCtorEq, Nat.reduceSub, Int.reduceToNat, hid3', hrd3, g2] <;> exact rfl)) | (apply one_eph; (· rfl); (· simp only [push_cast, env, Nat.reduceEqDiff, reduceIte, Nat.reduceAdd, Nat.reduceMul, Nat.reduceLeDiff, reduceCtorEq, Nat.reduceSub, Int.reduceToNat, hid3', hrd3, g2] <;> exact rfl); (· rfl); (· simp only [push_cast, env, Nat.reduceEqDiff, reduceIte, Nat.reduceAdd, Nat.reduceMul, Nat.reduceLeDiff, reduceCtorEq, Nat.reduceSub, Int.reduceToNat, hid3', hrd3, g2] <;> exact rfl); (· decide)) | (apply one_bsl; (· rfl); (· simp only [push_cast, env, Nat.reduceEqDiff, reduceIte, Nat.reduceAdd, Nat.reduceMul, Nat.reduceLeDiff, reduceCtorEq, Nat.reduceSub, Int.reduceToNat, hid3', hrd3, g2] <;> exact rfl); (· rfl); (· simp only [push_cast, env, Nat.reduceEqDiff, reduceIte, Nat.reduceAdd, Nat.reduceMul, Nat.reduceLeDiff, reduceCtorEq, Nat.reduceSub, Int.reduceToNat, hid3', hrd3, g2] <;> exact rfl)) | (apply one_box; (· rfl); (· simp only [push_cast, env, Nat.reduceEqDiff, reduceIte, Nat.reduceAdd, Nat.reduceMul, Nat.reduceLeDiff, reduceCtorEq, Nat.reduceSub, Int.reduceToNat, hid3', hrd3, g2] <;> exact rfl); (· rfl); (· simp only [push_cast, env, Nat.reduceEqDiff, reduceIte, Nat.reduceAdd, Nat.reduceMul, Nat.reduceLeDiff, reduceCtorEq, Nat.reduceSub, Int.reduceToNat, hid3', hrd3, g2] <;> exact rfl)) | (apply one_skip; (· rfl); (· simp only [push_cast, env, Nat.reduceEqDiff, reduceIte, Nat.reduceAdd, Nat.reduceMul, Nat.reduceLeDiff, reduceCtorEq, Nat.reduceSub, Int.reduceToNat, hid3', hrd3, g2] <;> exact rfl))))) | (refine ⟨?_, ?_, ?_, ?_, trivial⟩; (· (first | (apply one_val; (· rfl); (· simp only [push_cast, env, Nat.reduceEqDiff, reduceIte, Nat.reduceAdd, Nat.reduceMul, Nat.reduceLeDiff, reduceCtorEq, Nat.reduceSub, Int.reduceToNat, hid3', hrd3, g2] <;> exact rfl); (· simp only [push_cast, env, Nat.reduceEqDiff, reduceIte, Nat.reduceAdd, Nat.reduceMul, Nat.reduceLeDiff, reduceCtorEq, Nat.reduceSub, Int.reduceToNat, hid3', hrd3, g2] <;> exact rfl)) | (apply one_eph; (· rfl); (· simp only [push_cast, env, Nat.reduceEqDiff, reduceIte, Nat.reduceAdd, Nat.reduceMul, Nat.reduceLeDiff, reduceCtorEq, Nat.reduceSub, Int.reduceToNat, hid3', hrd3, g2] <;> exact rfl); (· rfl); (· simp only [push_cast, env, Nat.reduceEqDiff, reduceIte, Nat.reduceAdd, Nat.reduceMul, Nat.reduceLeDiff, reduceCtorEq, Nat.reduceSub, Int.reduceToNat, hid3', hrd3, g2] <;> exact rfl); (· decide)) | (apply one_bsl; (· rfl); (· simp only [push_cast, env, Nat.reduceEqDiff, reduceIte, Nat.reduceAdd, Nat.reduceMul, Nat.reduceLeDiff, reduceCtorEq, Nat.reduceSub, Int.reduceToNat, hid3', hrd3, g2] <;> exact rfl); (· rfl); (· simp only [push_cast, env, Nat.reduceEqDiff, reduceIte, Nat.reduceAdd, Nat.reduceMul, Nat.reduceLeDiff, reduceCtorEq, Nat.reduceSub, Int.reduceToNat, hid3', hrd3, g2] <;> exact rfl)) | (apply one_box; (· rfl); (· simp only [push_cast, env, Nat.reduceEqDiff, reduceIte, Nat.reduceAdd, Nat.reduceMul, Nat.reduceLeDiff, reduceCtorEq, Nat.reduceSub, Int.reduceToNat, hid3', hrd3, g2] <;> exact rfl); (· rfl); (· simp only [push_cast, env, Nat.reduceEqDiff, reduceIte, Nat.reduceAdd, Nat.reduceMul, Nat.reduceLeDiff, reduceCtorEq, Nat.reduceSub, Int.reduceToNat, hid3', hrd3, g2] <;> exact rfl)) | (apply one_skip; (· rfl); (· simp only [push_cast, env, Nat.reduceEqDiff, reduceIte, Nat.reduceAdd, Nat.reduceMul, Nat.reduceLeDiff, reduceCtorEq, Nat.reduceSub, Int.reduceToNat, hid3', hrd3, g2] <;> exact rfl)))); (· (first | (apply one_val; (· rfl); (· simp only [push_cast, env, Nat.reduceEqDiff, reduceIte, Nat.reduceAdd, Nat.reduceMul, Nat.reduceLeDiff, reduceCtorEq, Nat.reduceSub, Int.reduceToNat, hid3', hrd3, g2] <;> exact rfl); (· simp only [push_cast, env, Nat.reduceEqDiff, reduceIte, Nat.reduceAdd, Nat.reduceMul, Nat.reduceLeDiff, reduceCtorEq, Nat.reduceSub, Int.reduceToNat, hid3', hrd3, g2] <;> exact rfl)) | (apply one_eph; (· rfl); (· simp only [push_cast, env, Nat.reduceEqDiff, reduceIte, Nat.reduceAdd, Nat.reduceMul, Nat.reduceLeDiff, reduceCtorEq, Nat.reduceSub, Int.reduceToNat, hid3', hrd3, g2] <;> exact rfl); (· rfl); (· simp only [push_cast, env, Nat.reduceEqDiff, reduceIte, Nat.reduceAdd, Nat.reduceMul, Nat.reduceLeDiff, reduceCtorEq, Nat.reduceSub, Int.reduceToNat, hid3', hrd3, g2] <;> exact rfl); (· decide)) | (apply one_bsl; (· rfl); (· simp only [push_cast, env, Nat.reduceEqDiff, reduceIte, Nat.reduceAdd, Nat.reduceMul, Nat.reduceLeDiff, reduceCtorEq, Nat.reduceSub, Int.reduceToNat, hid3', hrd3, g2] <;> exact rfl); (· rfl); (· simp only [push_cast, env, Nat.reduceEqDiff, reduceIte, Nat.reduceAdd, Nat.reduceMul, Nat.reduceLeDiff, reduceCtorEq, Nat.reduceSub, Int.reduceToNat, hid3', hrd3, g2] <;> exact rfl)) | (apply one_box; (· rfl); (· simp only [push_cast, env, Nat.reduceEqDiff, reduceIte, Nat.reduceAdd, Nat.reduceMul, Nat.reduceLeDiff, reduceCtorEq, Nat.reduceSub, Int.reduceToNat, hid3', hrd3, g2] <;> exact rfl); (· rfl); (· simp only [push_cast, env, Nat.reduceEqDiff, reduceIte, Nat.reduceAdd, Nat.reduceMul, Nat.reduceLeDiff, reduceCtorEq, Nat.reduceSub, Int.reduceToNat, hid3', hrd3, g2] <;> exact rfl)) | (apply one_skip; (· rfl); (· simp only [push_cast, env, Nat.reduceEqDiff, reduceIte, Nat.reduceAdd, Nat.reduceMul, Nat.reduceLeDiff, reduceCtorEq, Nat.reduceSub, Int.reduceToNat, hid3', hrd3, g2] <;> exact rfl)))); (· (first | (apply one_val; (· rfl); (· simp only [push_cast, env, Nat.reduceEqDiff, reduceIte, Nat.reduceAdd, Nat.reduceMul, Nat.reduceLeDiff, reduceCtorEq, Nat.reduceSub, Int.reduceToNat, hid3', hrd3, g2] <;> exact rfl); (· simp only [push_cast, env, Nat.reduceEqDiff, reduceIte, Nat.reduceAdd, Nat.reduceMul, Nat.reduceLeDiff, reduceCtorEq, Nat.reduceSub, Int.reduceToNat, hid3', hrd3, g2] <;> exact rfl)) | (apply one_eph; (· rfl); (· simp only [push_cast, env, Nat.reduceEqDiff, reduceIte, Nat.reduceAdd, Nat.reduceMul, Nat.reduceLeDiff, reduceCtorEq, Nat.reduceSub, Int.reduceToNat, hid3', hrd3, g2] <;> exact rfl); (· rfl); (· simp only [push_cast, env, Nat.reduceEqDiff, reduceIte, Nat.reduceAdd, Nat.reduceMul, Nat.reduceLeDiff, reduceCtorEq, Nat.reduceSub, Int.reduceToNat, hid3', hrd3, g2] <;> exact rfl); (· decide)) | (apply one_bsl; (· rfl); (· simp only [push_cast, env, Nat.reduceEqDiff, reduceIte, Nat.reduceAdd, Nat.reduceMul, Nat.reduceLeDiff, reduceCtorEq, Nat.reduceSub, Int.reduceToNat, hid3', hrd3, g2] <;> exact rfl); (· rfl); (· simp only [push_cast, env, Nat.reduceEqDiff, reduceIte, Nat.reduceAdd, Nat.reduceMul, Nat.reduceLeDiff, reduceCtorEq, Nat.reduceSub, Int.reduceToNat, hid3', hrd3, g2] <;> exact rfl)) | (apply one_box; (· rfl); (· simp only [push_cast, env, Nat.reduceEqDiff, reduceIte, Nat.reduceAdd, Nat.reduceMul, Nat.reduceLeDiff, reduceCtorEq, Nat.reduceSub, Int.reduceToNat, hid3', hrd3, g2] <;> exact rfl); (· rfl); (· simp only [push_cast, env, Nat.reduceEqDiff, reduceIte, Nat.reduceAdd, Nat.reduceMul, Nat.reduceLeDiff, reduceCtorEq, Nat.reduceSub, Int.reduceToNat, hid3', hrd3, g2] <;> exact rfl)) | (apply one_skip; (· rfl); (· simp only [push_cast, env, Nat.reduceEqDiff, reduceIte, Nat.reduceAdd, Nat.reduceMul, Nat.reduceLeDiff, reduceCtorEq, Nat.reduceSub, Int.reduceToNat, hid3', hrd3, g2] <;> exact rfl)))); (· (first | (apply one_val; (· rfl); (· simp only [push_cast, env, Nat.reduceEqDiff, reduceIte, Nat.reduceAdd, Nat.reduceMul, Nat.reduceLeDiff, reduceCtorEq, Nat.reduceSub, Int.reduceToNat, hid3', hrd3, g2] <;> exact rfl); (· simp only [push_cast, env, Nat.reduceEqDiff, reduceIte, Nat.reduceAdd, Nat.reduceMul, Nat.reduceLeDiff, reduceCtorEq, Nat.reduceSub, Int.reduceToNat, hid3', hrd3, g2] <;> exact rfl)) | (apply one_eph; (· rfl); (· simp only [push_cast, env, Nat.reduceEqDiff, reduceIte, Nat.reduceAdd, Nat.reduceMul, Nat.reduceLeDiff, reduceCtorEq, Nat.reduceSub, Int.reduceToNat, hid3', hrd3, g2] <;> exact rfl); (· rfl); (· simp only [push_cast, env, Nat.reduceEqDiff, reduceIte, Nat.reduceAdd, Nat.reduceMul, Nat.reduceLeDiff, reduceCtorEq, Nat.reduceSub, Int.reduceToNat, hid3', hrd3, g2] <;> exact rfl); (· decide)) | (apply one_bsl; (· rfl); (· simp only [push_cast, env, Nat.reduceEqDiff, reduceIte, Nat.reduceAdd, Nat.reduceMul, Nat.reduceLeDiff, reduceCtorEq, Nat.reduceSub, Int.reduceToNat, hid3', hrd3, g2] <;> exact rfl); (· rfl); (· simp only [push_cast, env, Nat.reduceEqDiff, reduceIte, Nat.reduceAdd, Nat.reduceMul, Nat.reduceLeDiff, reduceCtorEq, Nat.reduceSub, Int.reduceToNat, hid3', hrd3, g2] <;> exact rfl)) | (apply one_box; (· rfl); (· simp only [push_cast, env, Nat.reduceEqDiff, reduceIte, Nat.reduceAdd, Nat.reduceMul, Nat.reduceLeDiff, reduceCtorEq, Nat.reduceSub, Int.reduceToNat, hid3', hrd3, g2] <;> exact rfl); (· rfl); (· simp only [push_cast, env, Nat.reduceEqDiff, reduceIte, Nat.reduceAdd, Nat.reduceMul, Nat.reduceLeDiff, reduceCtorEq, Nat.reduceSub, Int.reduceToNat, hid3', hrd3, g2] <;> exact rfl)) | (apply one_skip; (· rfl); (· simp only [push_cast, env, Nat.reduceEqDiff, reduceIte, Nat.reduceAdd, Nat.reduceMul, Nat.reduceLeDiff, reduceCtorEq, Nat.reduceSub, Int.reduceToNat, hid3', hrd3, g2] <;> exact rfl)))))); (· rfl)))
    case ht => rfl
    case hF => repeat (first | exact trivial | (refine ⟨.inl ⟨by decide, rfl⟩, ?_⟩) | (refine ⟨.inr ⟨rfl, by simp⟩, ?_⟩))
    refine owv (hone _ _ _ _ _ rfl (by simp only [push_cast, env, Nat.reduceEqDiff, reduceIte, Nat.reduceAdd, Nat.reduceMul, Nat.reduceLeDiff, reduceCtorEq, Nat.reduceSub, Int.reduceToNat] <;> exact rfl) rfl (by simp only [push_cast, env, Nat.reduceEqDiff, reduceIte, Nat.reduceAdd, Nat.reduceMul, Nat.reduceLeDiff, reduceCtorEq, Nat.reduceSub, Int.reduceToNat] <;> exact rfl) rfl) ?_
    repeat (first | refine cw_seq ?_ | refine cw_region ?_ | refine ow_nil ?_ | ((first | apply ow_cons | apply qw_cons); · simp only [push_cast, env, Nat.reduceEqDiff, reduceIte, Nat.reduceAdd, Nat.reduceMul, Nat.reduceLeDiff, reduceCtorEq, Nat.reduceSub, Int.reduceToNat] <;> exact rfl) | ((first | apply ow_spec | apply qw_spec); · simp only [push_cast, env, Nat.reduceEqDiff, reduceIte, Nat.reduceAdd, Nat.reduceMul, Nat.reduceLeDiff, reduceCtorEq, Nat.reduceSub, Int.reduceToNat] <;> exact rfl) | refine qw_nil ?_ | refine cw_block ?_ | refine cw_scope ?_ | refine cw_label ?_ | refine cw_skip ?_)
    refine ⟨[(1, .box [i64 g.nts, i64 g.start, .slice (some ⟨id3, 0, some ver3⟩) g.rules.length c]), (2, .box [i64 0, i64 0, nilS]), (5, .box [i64 g.nts, i64 g.start, .slice p5 (k + 1) c5]), (18, .val (.slice (some ⟨idl, 0, some verl⟩) L.length cl)), (19, .val (i64 L.length)), (20, .val (i64 k))], (by simp only [push_cast, SubL, fget, Nat.reduceEqDiff, reduceIte]), ?_⟩
    show CW _ _ ⟨_, [], h5⟩ _
    repeat (first | refine cw_seq ?_ | refine cw_region ?_ | refine ow_nil ?_ | ((first | apply ow_cons | apply qw_cons); · simp only [push_cast, env, Nat.reduceEqDiff, reduceIte, Nat.reduceAdd, Nat.reduceMul, Nat.reduceLeDiff, reduceCtorEq, Nat.reduceSub, Int.reduceToNat, e2] <;> exact rfl) | ((first | apply ow_spec | apply qw_spec); · simp only [push_cast, env, Nat.reduceEqDiff, reduceIte, Nat.reduceAdd, Nat.reduceMul, Nat.reduceLeDiff, reduceCtorEq, Nat.reduceSub, Int.reduceToNat, e2] <;> exact rfl) | refine qw_nil ?_ | refine cw_block ?_ | refine cw_scope ?_ | refine cw_label ?_ | refine cw_skip ?_)
    refine ⟨hlt, (h5, p5, c5, us ++ [.slice p3 g.rules[n].rhs.length c4]), (by simp only [push_cast, SubL, fget, Nat.reduceEqDiff, reduceIte]), rfl, ?_, fun y hy j hj => ?_⟩
    · simp only
      rw [List.take_succ_eq_append_getElem hlt, List.map_append, List.map_cons, List.map_nil, hpr]
      exact B5
    · simp only at hy
      rw [List.mem_append, List.mem_singleton] at hy
      rcases hy with hy | rfl
      · exact hU y hy j hj
      · exact rd_at hu3 hj
  · have e3 := ge_dec hlt
    obtain rfl : k = L.length := by omega
    repeat (first | refine cw_seq ?_ | refine cw_region ?_ | refine ow_nil ?_ | ((first | apply ow_cons | apply qw_cons); · simp only [push_cast, env, Nat.reduceEqDiff, reduceIte, Nat.reduceAdd, Nat.reduceMul, Nat.reduceLeDiff, reduceCtorEq, Nat.reduceSub, Int.reduceToNat, e3] <;> exact rfl) | ((first | apply ow_spec | apply qw_spec); · simp only [push_cast, env, Nat.reduceEqDiff, reduceIte, Nat.reduceAdd, Nat.reduceMul, Nat.reduceLeDiff, reduceCtorEq, Nat.reduceSub, Int.reduceToNat, e3] <;> exact rfl) | refine qw_nil ?_ | refine cw_block ?_ | refine cw_scope ?_ | refine cw_label ?_ | refine cw_skip ?_)
    refine cw_condF (by simp only [push_cast, env, Nat.reduceEqDiff, reduceIte, Nat.reduceAdd, Nat.reduceMul, Nat.reduceLeDiff, reduceCtorEq, Nat.reduceSub, Int.reduceToNat] <;> exact rfl) ?_
    refine cw_exit ?_
    show CW _ _ _ _
    rw [List.take_length, hpk] at B
    repeat (first | refine cw_seq ?_ | refine cw_region ?_ | refine ow_nil ?_ | ((first | apply ow_cons | apply qw_cons); · simp only [push_cast, env, Nat.reduceEqDiff, reduceIte, Nat.reduceAdd, Nat.reduceMul, Nat.reduceLeDiff, reduceCtorEq, Nat.reduceSub, Int.reduceToNat] <;> exact rfl) | ((first | apply ow_spec | apply qw_spec); · simp only [push_cast, env, Nat.reduceEqDiff, reduceIte, Nat.reduceAdd, Nat.reduceMul, Nat.reduceLeDiff, reduceCtorEq, Nat.reduceSub, Int.reduceToNat] <;> exact rfl) | refine qw_nil ?_ | refine cw_block ?_ | refine cw_scope ?_ | refine cw_label ?_ | refine cw_skip ?_)
    have hfl : (g.rules.filter (goodR m)).length = L.length := by rw [← hpk, List.length_map]
    have hrd := B.rd (by rw [hfl]; omega)
    refine cw_ret ?_
    exact ⟨_, (by simp only [push_cast, env, Nat.reduceEqDiff, reduceIte, Nat.reduceAdd, Nat.reduceMul, Nat.reduceLeDiff, reduceCtorEq, Nat.reduceSub, Int.reduceToNat] <;> exact rfl), m, hm, ⟨_, rfl, hrd⟩, hp1.trans B.p⟩
/-- the last set with items -/
def lastK (S : List (List Item)) : Nat → Int
  | 0 => -1
  | k + 1 => if 0 < (gs S k).length then (k : Int) else lastK S k
def LastR (g : Gram) (w : List Nat) (r : Value) : Prop := ∃ n, r = .tuple #[i64 n, i64 (fitE g w)] ∧ (fitE g w ≠ 0 → n = 0) ∧ (fitE g w = 0 → ∃ m S, Marks g.nts (goodD g) m ∧ ChartOK (trG g m) w S ∧ n = lastK S (w.length + 1))
set_option maxHeartbeats 4000000 in
theorem last_fw {h : Heap} {g : Gram} {v wv : Value} {w : List Nat} (hr : RdGram h v g) (hwR : RdB h wv w) (W : WfG g) : FW env 17 [v, wv] h fun r h' => LastR g w r ∧ h <+: h' := by
  obtain ⟨u, rfl, hu⟩ := id hr
  obtain ⟨p, c, rfl⟩ := hu.form
  obtain ⟨pw, cw, rfl⟩ := hwR.form
  refine fw_enter (fn := Try.f17) Try.func17 rfl (by kernel_rfl) (by simp [Try.ntmps17]) ?_; simp only [push_cast]
  repeat (first | refine cw_seq ?_ | refine cw_region ?_ | refine ow_nil ?_ | ((first | apply ow_cons | apply qw_cons); · simp only [push_cast, env, Nat.reduceEqDiff, reduceIte, Nat.reduceAdd, Nat.reduceMul, Nat.reduceLeDiff, reduceCtorEq, Nat.reduceSub, Int.reduceToNat] <;> exact rfl) | ((first | apply ow_spec | apply qw_spec); · simp only [push_cast, env, Nat.reduceEqDiff, reduceIte, Nat.reduceAdd, Nat.reduceMul, Nat.reduceLeDiff, reduceCtorEq, Nat.reduceSub, Int.reduceToNat] <;> exact rfl) | refine qw_nil ?_ | refine cw_block ?_ | refine cw_scope ?_ | refine cw_label ?_ | refine cw_skip ?_)
  refine ow_call (fn := Try.f36) (by simp only [push_cast, env, Nat.reduceEqDiff, reduceIte, Nat.reduceAdd, Nat.reduceMul, Nat.reduceLeDiff, reduceCtorEq, Nat.reduceSub, Int.reduceToNat] <;> exact rfl) rfl (by simp only [push_cast, env, Nat.reduceEqDiff, reduceIte, Nat.reduceAdd, Nat.reduceMul, Nat.reduceLeDiff, reduceCtorEq, Nat.reduceSub, Int.reduceToNat] <;> exact rfl) (by simp only [push_cast, env, Nat.reduceEqDiff, reduceIte, Nat.reduceAdd, Nat.reduceMul, Nat.reduceLeDiff, reduceCtorEq, Nat.reduceSub, Int.reduceToNat] <;> exact rfl) Try.func36 (by kernel_rfl) (by kernel_rfl) ?_
  rw [List.append_nil]
  refine (fit_fw hr hwR).mono ?_
  rintro _ h ⟨rfl, rfl⟩
  by_cases hf : ¬ fitE g w = 0
  · have df : decide (fitE g w = 0) = false := decide_eq_false hf
    repeat (first | refine cw_seq ?_ | refine cw_region ?_ | refine ow_nil ?_ | ((first | apply ow_cons | apply qw_cons); · simp only [push_cast, env, Nat.reduceEqDiff, reduceIte, Nat.reduceAdd, Nat.reduceMul, Nat.reduceLeDiff, reduceCtorEq, Nat.reduceSub, Int.reduceToNat, df] <;> exact rfl) | ((first | apply ow_spec | apply qw_spec); · simp only [push_cast, env, Nat.reduceEqDiff, reduceIte, Nat.reduceAdd, Nat.reduceMul, Nat.reduceLeDiff, reduceCtorEq, Nat.reduceSub, Int.reduceToNat, df] <;> exact rfl) | refine qw_nil ?_ | refine cw_block ?_ | refine cw_scope ?_ | refine cw_label ?_ | refine cw_skip ?_)
    refine cw_condT (by simp only [push_cast, env, Nat.reduceEqDiff, reduceIte, Nat.reduceAdd, Nat.reduceMul, Nat.reduceLeDiff, reduceCtorEq, Nat.reduceSub, Int.reduceToNat, df] <;> exact rfl) ?_
    repeat (first | refine cw_seq ?_ | refine cw_region ?_ | refine ow_nil ?_ | ((first | apply ow_cons | apply qw_cons); · simp only [push_cast, env, Nat.reduceEqDiff, reduceIte, Nat.reduceAdd, Nat.reduceMul, Nat.reduceLeDiff, reduceCtorEq, Nat.reduceSub, Int.reduceToNat] <;> exact rfl) | ((first | apply ow_spec | apply qw_spec); · simp only [push_cast, env, Nat.reduceEqDiff, reduceIte, Nat.reduceAdd, Nat.reduceMul, Nat.reduceLeDiff, reduceCtorEq, Nat.reduceSub, Int.reduceToNat] <;> exact rfl) | refine qw_nil ?_ | refine cw_block ?_ | refine cw_scope ?_ | refine cw_label ?_ | refine cw_skip ?_)
    refine cw_ret ?_
    exact ⟨_, (by simp only [push_cast, env, Nat.reduceEqDiff, reduceIte, Nat.reduceAdd, Nat.reduceMul, Nat.reduceLeDiff, reduceCtorEq, Nat.reduceSub, Int.reduceToNat] <;> exact rfl), ⟨0, rfl, fun _ => rfl, fun h => absurd h hf⟩, List.prefix_refl _⟩
  replace hf : fitE g w = 0 := Classical.not_not.1 hf
  obtain ⟨hb, hw⟩ := fitE_ok.1 hf
  have R := rightS hb
  rw [hf]
  repeat (first | refine cw_seq ?_ | refine cw_region ?_ | refine ow_nil ?_ | ((first | apply ow_cons | apply qw_cons); · simp only [push_cast, env, Nat.reduceEqDiff, reduceIte, Nat.reduceAdd, Nat.reduceMul, Nat.reduceLeDiff, reduceCtorEq, Nat.reduceSub, Int.reduceToNat] <;> exact rfl) | ((first | apply ow_spec | apply qw_spec); · simp only [push_cast, env, Nat.reduceEqDiff, reduceIte, Nat.reduceAdd, Nat.reduceMul, Nat.reduceLeDiff, reduceCtorEq, Nat.reduceSub, Int.reduceToNat] <;> exact rfl) | refine qw_nil ?_ | refine cw_block ?_ | refine cw_scope ?_ | refine cw_label ?_ | refine cw_skip ?_)
  refine cw_condF (by simp only [push_cast, env, Nat.reduceEqDiff, reduceIte, Nat.reduceAdd, Nat.reduceMul, Nat.reduceLeDiff, reduceCtorEq, Nat.reduceSub, Int.reduceToNat] <;> exact rfl) ?_
  repeat (first | refine cw_seq ?_ | refine cw_region ?_ | refine ow_nil ?_ | ((first | apply ow_cons | apply qw_cons); · simp only [push_cast, env, Nat.reduceEqDiff, reduceIte, Nat.reduceAdd, Nat.reduceMul, Nat.reduceLeDiff, reduceCtorEq, Nat.reduceSub, Int.reduceToNat] <;> exact rfl) | ((first | apply ow_spec | apply qw_spec); · simp only [push_cast, env, Nat.reduceEqDiff, reduceIte, Nat.reduceAdd, Nat.reduceMul, Nat.reduceLeDiff, reduceCtorEq, Nat.reduceSub, Int.reduceToNat] <;> exact rfl) | refine qw_nil ?_ | refine cw_block ?_ | refine cw_scope ?_ | refine cw_label ?_ | refine cw_skip ?_)
  refine ow_call (fn := Try.f40) (by simp only [push_cast, env, Nat.reduceEqDiff, reduceIte, Nat.reduceAdd, Nat.reduceMul, Nat.reduceLeDiff, reduceCtorEq, Nat.reduceSub, Int.reduceToNat] <;> exact rfl) rfl (by simp only [push_cast, env, Nat.reduceEqDiff, reduceIte, Nat.reduceAdd, Nat.reduceMul, Nat.reduceLeDiff, reduceCtorEq, Nat.reduceSub, Int.reduceToNat] <;> exact rfl) (by simp only [push_cast, env, Nat.reduceEqDiff, reduceIte, Nat.reduceAdd, Nat.reduceMul, Nat.reduceLeDiff, reduceCtorEq, Nat.reduceSub, Int.reduceToNat] <;> exact rfl) Try.func40 (by kernel_rfl) (by kernel_rfl) ?_
  rw [List.append_nil]
  refine (trimmed_fw hr hb).mono ?_
  rintro v1 h1 ⟨m, hm, hr1, hp1⟩
  repeat (first | refine cw_seq ?_ | refine cw_region ?_ | refine ow_nil ?_ | ((first | apply ow_cons | apply qw_cons); · simp only [push_cast, env, Nat.reduceEqDiff, reduceIte, Nat.reduceAdd, Nat.reduceMul, Nat.reduceLeDiff, reduceCtorEq, Nat.reduceSub, Int.reduceToNat] <;> exact rfl) | ((first | apply ow_spec | apply qw_spec); · simp only [push_cast, env, Nat.reduceEqDiff, reduceIte, Nat.reduceAdd, Nat.reduceMul, Nat.reduceLeDiff, reduceCtorEq, Nat.reduceSub, Int.reduceToNat] <;> exact rfl) | refine qw_nil ?_ | refine cw_block ?_ | refine cw_scope ?_ | refine cw_label ?_ | refine cw_skip ?_)
  refine ow_call (fn := Try.f37) (by simp only [push_cast, env, Nat.reduceEqDiff, reduceIte, Nat.reduceAdd, Nat.reduceMul, Nat.reduceLeDiff, reduceCtorEq, Nat.reduceSub, Int.reduceToNat] <;> exact rfl) rfl (by simp only [push_cast, env, Nat.reduceEqDiff, reduceIte, Nat.reduceAdd, Nat.reduceMul, Nat.reduceLeDiff, reduceCtorEq, Nat.reduceSub, Int.reduceToNat] <;> exact rfl) (by simp only [push_cast, env, Nat.reduceEqDiff, reduceIte, Nat.reduceAdd, Nat.reduceMul, Nat.reduceLeDiff, reduceCtorEq, Nat.reduceSub, Int.reduceToNat] <;> exact rfl) Try.func37 (by kernel_rfl) (by kernel_rfl) ?_
  rw [List.append_nil]
  refine (open_fw hr1 (hwR.mono hp1) (rightS_tr R) (wfG_tr W) hw).mono ?_
  rintro _ h' ⟨hB, rv, F, G, rfl, rfl, K, C, hrv⟩
  have hSl := C.n
  have hc := K.c
  have hs := K.s
  unfold chCells at hc
  repeat (first | refine cw_seq ?_ | refine cw_region ?_ | refine ow_nil ?_ | ((first | apply ow_cons | apply qw_cons); · simp only [push_cast, env, Nat.reduceEqDiff, reduceIte, Nat.reduceAdd, Nat.reduceMul, Nat.reduceLeDiff, reduceCtorEq, Nat.reduceSub, Int.reduceToNat, hc] <;> exact rfl) | ((first | apply ow_spec | apply qw_spec); · simp only [push_cast, env, Nat.reduceEqDiff, reduceIte, Nat.reduceAdd, Nat.reduceMul, Nat.reduceLeDiff, reduceCtorEq, Nat.reduceSub, Int.reduceToNat, hc] <;> exact rfl) | refine qw_nil ?_ | refine cw_block ?_ | refine cw_scope ?_ | refine cw_label ?_ | refine cw_skip ?_)
  refine cw_for G.S.length (fun i => [(7, .val (i64 (lastK G.S i))), (22, .val (.slice (some ⟨F.si, 0, some 0⟩) G.S.length G.S.length)), (23, .val (i64 G.S.length)), (24, .val (i64 i))]) (fun _ => G.h)
    (fun i => True) (by simp only [push_cast, SubL, fget, Nat.reduceEqDiff, reduceIte, lastK]) rfl trivial ?_
  intro i hi hI
  by_cases hlt : i < G.S.length
  · have e2 := inc hlt (by omega)
    have e3 := lt_dec hlt
    have f2 := rng hlt
    obtain ⟨u2, cu2, hu2, gu2⟩ := K.us_at hlt
    repeat (first | refine cw_seq ?_ | refine cw_region ?_ | refine ow_nil ?_ | ((first | apply ow_cons | apply qw_cons); · simp only [push_cast, env, Nat.reduceEqDiff, reduceIte, Nat.reduceAdd, Nat.reduceMul, Nat.reduceLeDiff, reduceCtorEq, Nat.reduceSub, Int.reduceToNat, e3] <;> exact rfl) | ((first | apply ow_spec | apply qw_spec); · simp only [push_cast, env, Nat.reduceEqDiff, reduceIte, Nat.reduceAdd, Nat.reduceMul, Nat.reduceLeDiff, reduceCtorEq, Nat.reduceSub, Int.reduceToNat, e3] <;> exact rfl) | refine qw_nil ?_ | refine cw_block ?_ | refine cw_scope ?_ | refine cw_label ?_ | refine cw_skip ?_)
    refine cw_condT (by simp only [push_cast, env, Nat.reduceEqDiff, reduceIte, Nat.reduceAdd, Nat.reduceMul, Nat.reduceLeDiff, reduceCtorEq, Nat.reduceSub, Int.reduceToNat] <;> exact rfl) ?_
    repeat (first | refine cw_seq ?_ | refine cw_region ?_ | refine ow_nil ?_ | ((first | apply ow_cons | apply qw_cons); · simp only [push_cast, env, Nat.reduceEqDiff, reduceIte, Nat.reduceAdd, Nat.reduceMul, Nat.reduceLeDiff, reduceCtorEq, Nat.reduceSub, Int.reduceToNat, hs, hu2, f2, Nat.mul_one] <;> exact rfl) | ((first | apply ow_spec | apply qw_spec); · simp only [push_cast, env, Nat.reduceEqDiff, reduceIte, Nat.reduceAdd, Nat.reduceMul, Nat.reduceLeDiff, reduceCtorEq, Nat.reduceSub, Int.reduceToNat, hs, hu2, f2, Nat.mul_one] <;> exact rfl) | refine qw_nil ?_ | refine cw_block ?_ | refine cw_scope ?_ | refine cw_label ?_ | refine cw_skip ?_)
    refine cw_cond (by simp only [push_cast, env, Nat.reduceEqDiff, reduceIte, Nat.reduceAdd, Nat.reduceMul, Nat.reduceLeDiff, reduceCtorEq, Nat.reduceSub, Int.reduceToNat] <;> exact rfl) (fun c1 => ?_) (fun c1 => ?_)
    · have c1' : 0 < (gs G.S i).length := by simp only [decide_eq_true_eq] at c1; omega
      repeat (first | refine cw_seq ?_ | refine cw_region ?_ | refine ow_nil ?_ | ((first | apply ow_cons | apply qw_cons); · simp only [push_cast, env, Nat.reduceEqDiff, reduceIte, Nat.reduceAdd, Nat.reduceMul, Nat.reduceLeDiff, reduceCtorEq, Nat.reduceSub, Int.reduceToNat, e2] <;> exact rfl) | ((first | apply ow_spec | apply qw_spec); · simp only [push_cast, env, Nat.reduceEqDiff, reduceIte, Nat.reduceAdd, Nat.reduceMul, Nat.reduceLeDiff, reduceCtorEq, Nat.reduceSub, Int.reduceToNat, e2] <;> exact rfl) | refine qw_nil ?_ | refine cw_block ?_ | refine cw_scope ?_ | refine cw_label ?_ | refine cw_skip ?_)
      exact ⟨hlt, (by simp only [push_cast, SubL, fget, Nat.reduceEqDiff, reduceIte, lastK, if_pos c1']), rfl, trivial⟩
    · have c1' : ¬ 0 < (gs G.S i).length := by simp only [decide_eq_false_iff_not] at c1; omega
      repeat (first | refine cw_seq ?_ | refine cw_region ?_ | refine ow_nil ?_ | ((first | apply ow_cons | apply qw_cons); · simp only [push_cast, env, Nat.reduceEqDiff, reduceIte, Nat.reduceAdd, Nat.reduceMul, Nat.reduceLeDiff, reduceCtorEq, Nat.reduceSub, Int.reduceToNat, e2] <;> exact rfl) | ((first | apply ow_spec | apply qw_spec); · simp only [push_cast, env, Nat.reduceEqDiff, reduceIte, Nat.reduceAdd, Nat.reduceMul, Nat.reduceLeDiff, reduceCtorEq, Nat.reduceSub, Int.reduceToNat, e2] <;> exact rfl) | refine qw_nil ?_ | refine cw_block ?_ | refine cw_scope ?_ | refine cw_label ?_ | refine cw_skip ?_)
      exact ⟨hlt, (by simp only [push_cast, SubL, fget, Nat.reduceEqDiff, reduceIte, lastK, if_neg c1']), rfl, trivial⟩
  · have e3 := ge_dec hlt
    obtain rfl : i = G.S.length := by omega
    repeat (first | refine cw_seq ?_ | refine cw_region ?_ | refine ow_nil ?_ | ((first | apply ow_cons | apply qw_cons); · simp only [push_cast, env, Nat.reduceEqDiff, reduceIte, Nat.reduceAdd, Nat.reduceMul, Nat.reduceLeDiff, reduceCtorEq, Nat.reduceSub, Int.reduceToNat, e3] <;> exact rfl) | ((first | apply ow_spec | apply qw_spec); · simp only [push_cast, env, Nat.reduceEqDiff, reduceIte, Nat.reduceAdd, Nat.reduceMul, Nat.reduceLeDiff, reduceCtorEq, Nat.reduceSub, Int.reduceToNat, e3] <;> exact rfl) | refine qw_nil ?_ | refine cw_block ?_ | refine cw_scope ?_ | refine cw_label ?_ | refine cw_skip ?_)
    refine cw_condF (by simp only [push_cast, env, Nat.reduceEqDiff, reduceIte, Nat.reduceAdd, Nat.reduceMul, Nat.reduceLeDiff, reduceCtorEq, Nat.reduceSub, Int.reduceToNat] <;> exact rfl) ?_
    refine cw_exit ?_
    show CW _ _ _ _
    repeat (first | refine cw_seq ?_ | refine cw_region ?_ | refine ow_nil ?_ | ((first | apply ow_cons | apply qw_cons); · simp only [push_cast, env, Nat.reduceEqDiff, reduceIte, Nat.reduceAdd, Nat.reduceMul, Nat.reduceLeDiff, reduceCtorEq, Nat.reduceSub, Int.reduceToNat] <;> exact rfl) | ((first | apply ow_spec | apply qw_spec); · simp only [push_cast, env, Nat.reduceEqDiff, reduceIte, Nat.reduceAdd, Nat.reduceMul, Nat.reduceLeDiff, reduceCtorEq, Nat.reduceSub, Int.reduceToNat] <;> exact rfl) | refine qw_nil ?_ | refine cw_block ?_ | refine cw_scope ?_ | refine cw_label ?_ | refine cw_skip ?_)
    refine cw_ret ?_
    exact ⟨_, (by simp only [push_cast, env, Nat.reduceEqDiff, reduceIte, Nat.reduceAdd, Nat.reduceMul, Nat.reduceLeDiff, reduceCtorEq, Nat.reduceSub, Int.reduceToNat] <;> exact rfl), ⟨lastK G.S G.S.length, by rw [hf]; rfl, fun h => absurd hf h, fun _ => ⟨m, G.S, hm, C, by rw [hSl]⟩⟩, hp1.trans K.p⟩
end Go.Proofs.Ytafncpgiibikcaa

/- First, of the reference. -/
namespace Go.Proofs.Ytafncpgiibikcaa
set_option linter.unusedSimpArgs false
set_option linter.unusedVariables false
open Go.RowKit Am Ty

/-! ### rounds in place -/
def hasL (b : Nat) (out : List BSet) : List Bool := out.map fun s => s.has b
theorem hasL_bit {b : Nat} {out : List BSet} {i : Int} (h0 : 0 ≤ i) (h1 : i < out.length) : bit (hasL b out) i = (sget out i).has b := by
  rw [bit_get h0 (by simp [hasL, h1]), sget_get h0 h1]
  simp [hasL]
def CompleteB (g : Gram) (D : Int → Prop) (b : Nat) (out : List BSet) : Prop := ∀ i : Int, 0 ≤ i → i < g.nts → Fst g.rules D b i → (sget out i).has b = true
structure FRounds (g : Gram) (D : Int → Prop) (k : Nat) (out : List BSet) : Prop where
  i : FInv g D out
  c : ∀ b, b < 256 → k ≤ (hasL b out).count true ∨ CompleteB g D b out
def OLe (n : Int) (a b : List BSet) : Prop := ∀ i : Int, 0 ≤ i → i < n → SLe (sget a i) (sget b i)
structure FRound (g : Gram) (D : Int → Prop) (out0 : List BSet) (k : Nat) (out : List BSet) : Prop where
  i : FInv g D out
  le : OLe g.nts out0 out
  d : ∀ r ∈ g.rules.take k, FClosed D out0 r (sget out r.lhs)
theorem FRounds.step {g : Gram} {D : Int → Prop} {k : Nat} {out out' : List BSet} (R : RightS g) (h : FRounds g D k out) (hr : FRound g D out g.rules.length out') : FRounds g D (k + 1) out' := by
  have hd := hr.d
  rw [List.take_length] at hd
  refine ⟨hr.i, fun b hb => ?_⟩
  have hl := h.i.n
  have hl' := hr.i.n
  by_cases hc : ∃ i : Int, 0 ≤ i ∧ i < g.nts ∧ (sget out i).has b = false ∧ (sget out' i).has b = true
  · rcases h.c b hb with h3 | h3
    · obtain ⟨i, h0, h1, h2, h4⟩ := hc
      have hle : ∀ (i : Nat) (h1 : i < (hasL b out).length) (h2 : i < (hasL b out').length), (hasL b out)[i] = true → (hasL b out')[i] = true :=
        BLe.get (n := g.nts) (fun i h0 h1 => by rw [hasL_bit h0 (by omega), hasL_bit h0 (by omega)]; exact hr.le i h0 h1 b hb) (by simp [hasL, hl]) (by simp [hasL, hl'])
      have e1 : (hasL b out).length = out.length := by simp [hasL]
      have e2 : (hasL b out').length = out'.length := by simp [hasL]
      have := cnt_lt (by omega) hle ⟨i.toNat, by omega, by omega, by rw [← bit_get h0 (by omega), hasL_bit h0 (by omega)]; exact h2, by rw [← bit_get h0 (by omega), hasL_bit h0 (by omega)]; exact h4⟩
      exact .inl (by omega)
    · obtain ⟨i, h0, h1, h2, h4⟩ := hc
      rw [h3 i h0 h1 (hr.i.s i h0 h1 b hb h4)] at h2
      cases h2
  · refine .inr fun i h0 h1 hf => ?_
    clear h0 h1
    induction hf with
    | mk r k hk hr1 hp hs hn ih =>
      refine hd r hr1 k hk hp b hb ?_
      obtain ⟨l1, l2, _, hS⟩ := R.r r hr1
      have hs2 := hS _ (List.getElem_mem hk)
      unfold symSet
      split
      · rename_i h0
        exact hs h0
      · rename_i h0
        have := ih (by omega)
        cases h5 : (sget out r.rhs[k].nt).has b with
        | true => rfl
        | false => exact (hc ⟨_, by omega, hs2.2.1, h5, this⟩).elim
theorem FRounds.fin {g : Gram} {D : Int → Prop} {k : Nat} {out : List BSet} (h : FRounds g D k out) (hk : g.nts ≤ k) : Firsts g D out := by
  have hl := h.i.n
  refine ⟨hl, fun i h0 h1 => ⟨h.i.wf i h0 h1, fun b hb => ⟨h.i.s i h0 h1 b hb, fun hf => ?_⟩⟩⟩
  rcases h.c b hb with hc | hc
  · have e1 : (hasL b out).length = out.length := by simp [hasL]
    have := cnt_full (m := hasL b out) (by omega)
    rw [← hasL_bit h0 (by omega), bit_get h0 (by omega)]
    exact this _ (List.getElem_mem _)
  · exact hc i h0 h1 hf
structure FMid (g : Gram) (D : Int → Prop) (out0 : List BSet) (r : Rule) (j : Nat) (a : Bool) (out : List BSet) : Prop where
  c : ∀ (k : Nat) (hk : k < r.rhs.length), k < j → (∀ x ∈ r.rhs.take k, NullS D x) → SLe (symSet out0 r.rhs[k]) (sget out r.lhs)
  t : a = true → ∀ x ∈ r.rhs.take j, NullS D x
  f : a = false → ∃ (k : Nat) (hk : k < r.rhs.length), k < j ∧ ¬ NullS D r.rhs[k]
theorem FMid.closed {g : Gram} {D : Int → Prop} {out0 : List BSet} {r : Rule} {j : Nat} {a : Bool} {out : List BSet} (h : FMid g D out0 r j a out) (hj : a = false ∨ j = r.rhs.length) : FClosed D out0 r (sget out r.lhs) := by
  intro k hk hx
  rcases Nat.lt_or_ge k j with h1 | h1
  · exact h.c k hk h1 hx
  · rcases hj with hj | hj
    · obtain ⟨k', hk', h2, h3⟩ := h.f hj
      refine (h3 (hx _ ?_)).elim
      rw [List.mem_take_iff_getElem]
      exact ⟨k', by omega, rfl⟩
    · omega
end Go.Proofs.Ytafncpgiibikcaa

/- Spans. -/
namespace Go.Proofs.Ytafncpgiibikcaa
set_option linter.unusedSimpArgs false
set_option linter.unusedVariables false
set_option maxRecDepth 20000
open Go.RowKit Am Ty

abbrev ptr0 (a : Nat) : Value := .pointer (some ⟨a, 0, some 0⟩)
def RdItems (h : Heap) (v : Value) (l : List Item) : Prop := SlR h v l.length (l.flatMap Item.cells) 57 24
/-- what the closure sees -/
structure SpC (h : Heap) (g : Gram) (nt : Int) (a b : Nat) : Prop where
  a : ∃ st p c, h[a]? = some (.arr [i64 g.nts, i64 st, .slice p g.rules.length c] 0 true 24) ∧ RdRules h (.slice p g.rules.length c) g.rules
  b : h[b]? = some (.arr [i64 nt] 0 true 3)
theorem SpC.mono {h h' : Heap} {g : Gram} {nt : Int} {a b : Nat} (s : SpC h g nt a b) (hp : h <+: h') : SpC h' g nt a b := by
  obtain ⟨⟨st, p, c, h1, h2⟩, h3⟩ := s
  exact ⟨⟨st, p, c, getElem?_of_prefix hp h1, h2.mono hp⟩, getElem?_of_prefix hp h3⟩
set_option maxHeartbeats 2000000 in
theorem spans1_fw {h : Heap} {g : Gram} {nt : Int} {a b : Nat} {x : Item} (hC : SpC h g nt a b) (hx : x.rule < g.rules.length) : FW env 42 [x.val, ptr0 a, ptr0 b] h fun r h' => r = .bool (accI g nt x) ∧ h' = h := by
  obtain ⟨⟨st, p, c, ha, hu⟩, hb⟩ := hC
  obtain ⟨id3, ver3, own3, c3, cells3, p3, n3, c4, hv3, hid3, hn3, hrd3, hu3⟩ := hu.at hx
  cases hv3
  subst hn3
  have g2 := rng hx
  have hry : g.rules[x.rule]? = some g.rules[x.rule] := List.getElem?_eq_getElem hx
  have hac : accI g nt x = (decide (g.rules[x.rule].lhs = nt) && decide ((x.frm : Int) = 0) && decide ((x.dot : Int) = (g.rules[x.rule].rhs.length : Int))) := by
    unfold accI
    rw [hry]
    simp only
    rw [Bool.and_assoc, show decide ((x.frm : Int) = 0) = decide (x.frm = 0) by rw [decide_eq_decide]; omega, show decide ((x.dot : Int) = (g.rules[x.rule].rhs.length : Int)) = decide (x.dot = g.rules[x.rule].rhs.length) by rw [decide_eq_decide]; omega]
  rw [hac]
  refine fw_enter (fn := Try.f42) Try.func42 rfl (by kernel_rfl) (by simp [Try.ntmps42]) ?_; simp only [push_cast]
  repeat (first | refine cw_seq ?_ | refine cw_region ?_ | refine ow_nil ?_ | ((first | apply ow_cons | apply qw_cons); · simp only [push_cast, env, Nat.reduceEqDiff, reduceIte, Nat.reduceAdd, Nat.reduceMul, Nat.reduceLeDiff, reduceCtorEq, Nat.reduceSub, Int.reduceToNat, ha, hb, hid3, hrd3, g2] <;> exact rfl) | ((first | apply ow_spec | apply qw_spec); · simp only [push_cast, env, Nat.reduceEqDiff, reduceIte, Nat.reduceAdd, Nat.reduceMul, Nat.reduceLeDiff, reduceCtorEq, Nat.reduceSub, Int.reduceToNat, ha, hb, hid3, hrd3, g2] <;> exact rfl) | refine qw_nil ?_ | refine cw_block ?_ | refine cw_scope ?_ | refine cw_label ?_ | refine cw_skip ?_)
  refine cw_ret ?_
  exact ⟨_, (by simp only [push_cast, env, Nat.reduceEqDiff, reduceIte, Nat.reduceAdd, Nat.reduceMul, Nat.reduceLeDiff, reduceCtorEq, Nat.reduceSub, Int.reduceToNat] <;> exact rfl), rfl, rfl⟩
set_option maxHeartbeats 2000000 in
theorem index_fw {h : Heap} {g : Gram} {nt : Int} {a b : Nat} {v : Value} {l : List Item} (hC : SpC h g nt a b) (hl : RdItems h v l) (hx : ∀ x ∈ l, x.rule < g.rules.length) :
    FW env 56 [v, .func (.func 42) #[] #[ptr0 a, ptr0 b]] h fun r h' => (∃ n : Int, r = i64 n ∧ (decide (0 ≤ n) = l.any (accI g nt))) ∧ h' = h := by
  obtain ⟨p, c, rfl⟩ := SlR.form hl
  have hle : l.length ≤ 140737488355328 := by have := hl.1; omega
  refine fw_enter (fn := Try.f56) Try.func56 rfl (by kernel_rfl) (by simp [Try.ntmps56]) ?_; simp only [push_cast]
  repeat (first | refine cw_seq ?_ | refine cw_region ?_ | refine ow_nil ?_ | ((first | apply ow_cons | apply qw_cons); · simp only [push_cast, env, Nat.reduceEqDiff, reduceIte, Nat.reduceAdd, Nat.reduceMul, Nat.reduceLeDiff, reduceCtorEq, Nat.reduceSub, Int.reduceToNat] <;> exact rfl) | ((first | apply ow_spec | apply qw_spec); · simp only [push_cast, env, Nat.reduceEqDiff, reduceIte, Nat.reduceAdd, Nat.reduceMul, Nat.reduceLeDiff, reduceCtorEq, Nat.reduceSub, Int.reduceToNat] <;> exact rfl) | refine qw_nil ?_ | refine cw_block ?_ | refine cw_scope ?_ | refine cw_label ?_ | refine cw_skip ?_)
  refine cw_for l.length (fun k => [(0, .val (.slice p l.length c)), (1, .val (.func (.func 42) #[] #[ptr0 a, ptr0 b])), (7, .val (i64 l.length)), (8, .val (i64 k))]) (fun _ => h) (fun k => ∀ x ∈ l.take k, accI g nt x = false) (by simp only [push_cast, SubL, fget, Nat.reduceEqDiff, reduceIte]) rfl (fun x hx => by simp at hx) ?_
  intro k hk hI
  by_cases hlt : k < l.length
  · have e1 := rng hlt
    have e2 := inc hlt (by omega)
    have e3 := lt_dec hlt
    obtain ⟨id, ver, own, c', hv, hid⟩ := SlR.at hl (by omega)
    cases hv
    have hrd := rdH_flatMap (f := Item.cells) (k := 3) (fun _ => rfl) l k l[k] (by simp [hlt])
    unfold Item.cells at hrd hid
    have hm : l[k] ∈ l := List.getElem_mem hlt
    generalize hy : l[k] = y at hrd hm
    repeat (first | refine cw_seq ?_ | refine cw_region ?_ | refine ow_nil ?_ | ((first | apply ow_cons | apply qw_cons); · simp only [push_cast, env, Nat.reduceEqDiff, reduceIte, Nat.reduceAdd, Nat.reduceMul, Nat.reduceLeDiff, reduceCtorEq, Nat.reduceSub, Int.reduceToNat, e3] <;> exact rfl) | ((first | apply ow_spec | apply qw_spec); · simp only [push_cast, env, Nat.reduceEqDiff, reduceIte, Nat.reduceAdd, Nat.reduceMul, Nat.reduceLeDiff, reduceCtorEq, Nat.reduceSub, Int.reduceToNat, e3] <;> exact rfl) | refine qw_nil ?_ | refine cw_block ?_ | refine cw_scope ?_ | refine cw_label ?_ | refine cw_skip ?_)
    refine cw_condT (by simp only [push_cast, env, Nat.reduceEqDiff, reduceIte, Nat.reduceAdd, Nat.reduceMul, Nat.reduceLeDiff, reduceCtorEq, Nat.reduceSub, Int.reduceToNat] <;> exact rfl) ?_
    repeat (first | refine cw_seq ?_ | refine cw_region ?_ | refine ow_nil ?_ | ((first | apply ow_cons | apply qw_cons); · simp only [push_cast, env, Nat.reduceEqDiff, reduceIte, Nat.reduceAdd, Nat.reduceMul, Nat.reduceLeDiff, reduceCtorEq, Nat.reduceSub, Int.reduceToNat, e1, hid, hrd] <;> exact rfl) | ((first | apply ow_spec | apply qw_spec); · simp only [push_cast, env, Nat.reduceEqDiff, reduceIte, Nat.reduceAdd, Nat.reduceMul, Nat.reduceLeDiff, reduceCtorEq, Nat.reduceSub, Int.reduceToNat, e1, hid, hrd] <;> exact rfl) | refine qw_nil ?_ | refine cw_block ?_ | refine cw_scope ?_ | refine cw_label ?_ | refine cw_skip ?_)
    refine ow_call (fn := Try.f42) (by simp only [push_cast, env, Nat.reduceEqDiff, reduceIte, Nat.reduceAdd, Nat.reduceMul, Nat.reduceLeDiff, reduceCtorEq, Nat.reduceSub, Int.reduceToNat] <;> exact rfl) rfl (by simp only [push_cast, env, Nat.reduceEqDiff, reduceIte, Nat.reduceAdd, Nat.reduceMul, Nat.reduceLeDiff, reduceCtorEq, Nat.reduceSub, Int.reduceToNat] <;> exact rfl) (by simp only [push_cast, env, Nat.reduceEqDiff, reduceIte, Nat.reduceAdd, Nat.reduceMul, Nat.reduceLeDiff, reduceCtorEq, Nat.reduceSub, Int.reduceToNat] <;> exact rfl) Try.func42 (by kernel_rfl) (by kernel_rfl) ?_
    refine (spans1_fw (x := y) hC (hx y hm)).mono ?_
    rintro _ h ⟨rfl, rfl⟩
    repeat (first | refine cw_seq ?_ | refine cw_region ?_ | refine ow_nil ?_ | ((first | apply ow_cons | apply qw_cons); · simp only [push_cast, env, Nat.reduceEqDiff, reduceIte, Nat.reduceAdd, Nat.reduceMul, Nat.reduceLeDiff, reduceCtorEq, Nat.reduceSub, Int.reduceToNat] <;> exact rfl) | ((first | apply ow_spec | apply qw_spec); · simp only [push_cast, env, Nat.reduceEqDiff, reduceIte, Nat.reduceAdd, Nat.reduceMul, Nat.reduceLeDiff, reduceCtorEq, Nat.reduceSub, Int.reduceToNat] <;> exact rfl) | refine qw_nil ?_ | refine cw_block ?_ | refine cw_scope ?_ | refine cw_label ?_ | refine cw_skip ?_)
    refine cw_cond (by simp only [push_cast, env, Nat.reduceEqDiff, reduceIte, Nat.reduceAdd, Nat.reduceMul, Nat.reduceLeDiff, reduceCtorEq, Nat.reduceSub, Int.reduceToNat] <;> exact rfl) (fun c1 => ?_) (fun c1 => ?_)
    · repeat (first | refine cw_seq ?_ | refine cw_region ?_ | refine ow_nil ?_ | ((first | apply ow_cons | apply qw_cons); · simp only [push_cast, env, Nat.reduceEqDiff, reduceIte, Nat.reduceAdd, Nat.reduceMul, Nat.reduceLeDiff, reduceCtorEq, Nat.reduceSub, Int.reduceToNat] <;> exact rfl) | ((first | apply ow_spec | apply qw_spec); · simp only [push_cast, env, Nat.reduceEqDiff, reduceIte, Nat.reduceAdd, Nat.reduceMul, Nat.reduceLeDiff, reduceCtorEq, Nat.reduceSub, Int.reduceToNat] <;> exact rfl) | refine qw_nil ?_ | refine cw_block ?_ | refine cw_scope ?_ | refine cw_label ?_ | refine cw_skip ?_)
      refine cw_ret ?_
      refine ⟨_, (by simp only [push_cast, env, Nat.reduceEqDiff, reduceIte, Nat.reduceAdd, Nat.reduceMul, Nat.reduceLeDiff, reduceCtorEq, Nat.reduceSub, Int.reduceToNat] <;> exact rfl), ⟨k, rfl, ?_⟩, rfl⟩
      rw [decide_eq_true (Int.natCast_nonneg k), eq_comm, List.any_eq_true]
      exact ⟨y, hm, c1⟩
    · repeat (first | refine cw_seq ?_ | refine cw_region ?_ | refine ow_nil ?_ | ((first | apply ow_cons | apply qw_cons); · simp only [push_cast, env, Nat.reduceEqDiff, reduceIte, Nat.reduceAdd, Nat.reduceMul, Nat.reduceLeDiff, reduceCtorEq, Nat.reduceSub, Int.reduceToNat, e2] <;> exact rfl) | ((first | apply ow_spec | apply qw_spec); · simp only [push_cast, env, Nat.reduceEqDiff, reduceIte, Nat.reduceAdd, Nat.reduceMul, Nat.reduceLeDiff, reduceCtorEq, Nat.reduceSub, Int.reduceToNat, e2] <;> exact rfl) | refine qw_nil ?_ | refine cw_block ?_ | refine cw_scope ?_ | refine cw_label ?_ | refine cw_skip ?_)
      refine ⟨hlt, (by simp only [push_cast, SubL, fget, Nat.reduceEqDiff, reduceIte]), rfl, fun x hx => ?_⟩
      rw [List.take_succ_eq_append_getElem hlt, List.mem_append, List.mem_singleton] at hx
      rcases hx with hx | rfl
      · exact hI x hx
      · rw [hy]; exact c1
  · have e3 := ge_dec hlt
    obtain rfl : k = l.length := by omega
    repeat (first | refine cw_seq ?_ | refine cw_region ?_ | refine ow_nil ?_ | ((first | apply ow_cons | apply qw_cons); · simp only [push_cast, env, Nat.reduceEqDiff, reduceIte, Nat.reduceAdd, Nat.reduceMul, Nat.reduceLeDiff, reduceCtorEq, Nat.reduceSub, Int.reduceToNat, e3] <;> exact rfl) | ((first | apply ow_spec | apply qw_spec); · simp only [push_cast, env, Nat.reduceEqDiff, reduceIte, Nat.reduceAdd, Nat.reduceMul, Nat.reduceLeDiff, reduceCtorEq, Nat.reduceSub, Int.reduceToNat, e3] <;> exact rfl) | refine qw_nil ?_ | refine cw_block ?_ | refine cw_scope ?_ | refine cw_label ?_ | refine cw_skip ?_)
    refine cw_condF (by simp only [push_cast, env, Nat.reduceEqDiff, reduceIte, Nat.reduceAdd, Nat.reduceMul, Nat.reduceLeDiff, reduceCtorEq, Nat.reduceSub, Int.reduceToNat] <;> exact rfl) ?_
    refine cw_exit ?_
    show CW _ _ _ _
    rw [List.take_length] at hI
    repeat (first | refine cw_seq ?_ | refine cw_region ?_ | refine ow_nil ?_ | ((first | apply ow_cons | apply qw_cons); · simp only [push_cast, env, Nat.reduceEqDiff, reduceIte, Nat.reduceAdd, Nat.reduceMul, Nat.reduceLeDiff, reduceCtorEq, Nat.reduceSub, Int.reduceToNat] <;> exact rfl) | ((first | apply ow_spec | apply qw_spec); · simp only [push_cast, env, Nat.reduceEqDiff, reduceIte, Nat.reduceAdd, Nat.reduceMul, Nat.reduceLeDiff, reduceCtorEq, Nat.reduceSub, Int.reduceToNat] <;> exact rfl) | refine qw_nil ?_ | refine cw_block ?_ | refine cw_scope ?_ | refine cw_label ?_ | refine cw_skip ?_)
    refine cw_ret ?_
    refine ⟨_, (by simp only [push_cast, env, Nat.reduceEqDiff, reduceIte, Nat.reduceAdd, Nat.reduceMul, Nat.reduceLeDiff, reduceCtorEq, Nat.reduceSub, Int.reduceToNat] <;> exact rfl), ⟨-1, rfl, ?_⟩, rfl⟩
    rw [decide_eq_false (by omega), eq_comm, List.any_eq_false]
    exact fun x hx => by rw [hI x hx]; simp
theorem contains_fw {h : Heap} {g : Gram} {nt : Int} {a b : Nat} {v : Value} {l : List Item} (hC : SpC h g nt a b) (hl : RdItems h v l) (hx : ∀ x ∈ l, x.rule < g.rules.length) :
    FW env 41 [v, .func (.func 42) #[] #[ptr0 a, ptr0 b]] h fun r h' => r = .bool (l.any (accI g nt)) ∧ h' = h := by
  obtain ⟨p, c, rfl⟩ := SlR.form hl
  refine fw_enter (fn := Try.f41) Try.func41 rfl (by kernel_rfl) (by simp [Try.ntmps41]) ?_; simp only [push_cast]
  repeat (first | refine cw_seq ?_ | refine cw_region ?_ | refine ow_nil ?_ | ((first | apply ow_cons | apply qw_cons); · simp only [push_cast, env, Nat.reduceEqDiff, reduceIte, Nat.reduceAdd, Nat.reduceMul, Nat.reduceLeDiff, reduceCtorEq, Nat.reduceSub, Int.reduceToNat] <;> exact rfl) | ((first | apply ow_spec | apply qw_spec); · simp only [push_cast, env, Nat.reduceEqDiff, reduceIte, Nat.reduceAdd, Nat.reduceMul, Nat.reduceLeDiff, reduceCtorEq, Nat.reduceSub, Int.reduceToNat] <;> exact rfl) | refine qw_nil ?_ | refine cw_block ?_ | refine cw_scope ?_ | refine cw_label ?_ | refine cw_skip ?_)
  refine ow_call (fn := Try.f56) (by simp only [push_cast, env, Nat.reduceEqDiff, reduceIte, Nat.reduceAdd, Nat.reduceMul, Nat.reduceLeDiff, reduceCtorEq, Nat.reduceSub, Int.reduceToNat] <;> exact rfl) rfl (by simp only [push_cast, env, Nat.reduceEqDiff, reduceIte, Nat.reduceAdd, Nat.reduceMul, Nat.reduceLeDiff, reduceCtorEq, Nat.reduceSub, Int.reduceToNat] <;> exact rfl) (by simp only [push_cast, env, Nat.reduceEqDiff, reduceIte, Nat.reduceAdd, Nat.reduceMul, Nat.reduceLeDiff, reduceCtorEq, Nat.reduceSub, Int.reduceToNat] <;> exact rfl) Try.func56 (by kernel_rfl) (by kernel_rfl) ?_
  rw [List.append_nil]
  refine (index_fw hC hl hx).mono ?_
  rintro _ h ⟨⟨n, rfl, hn⟩, rfl⟩
  repeat (first | refine cw_seq ?_ | refine cw_region ?_ | refine ow_nil ?_ | ((first | apply ow_cons | apply qw_cons); · simp only [push_cast, env, Nat.reduceEqDiff, reduceIte, Nat.reduceAdd, Nat.reduceMul, Nat.reduceLeDiff, reduceCtorEq, Nat.reduceSub, Int.reduceToNat, hn] <;> exact rfl) | ((first | apply ow_spec | apply qw_spec); · simp only [push_cast, env, Nat.reduceEqDiff, reduceIte, Nat.reduceAdd, Nat.reduceMul, Nat.reduceLeDiff, reduceCtorEq, Nat.reduceSub, Int.reduceToNat, hn] <;> exact rfl) | refine qw_nil ?_ | refine cw_block ?_ | refine cw_scope ?_ | refine cw_label ?_ | refine cw_skip ?_)
  refine cw_ret ?_
  exact ⟨_, (by simp only [push_cast, env, Nat.reduceEqDiff, reduceIte, Nat.reduceAdd, Nat.reduceMul, Nat.reduceLeDiff, reduceCtorEq, Nat.reduceSub, Int.reduceToNat] <;> exact rfl), rfl, rfl⟩
/-! ### runs -/
def runCells (l : List (Nat × Nat)) : List Value := l.flatMap fun p => [i64 p.1, i64 p.2]
open Classical in
noncomputable def ntB (R : List Rule) (A : Int) (w : List Nat) (i j : Nat) : Bool := decide (NtTx R A (sub w i j))
open Classical in
theorem ntB_iff {R : List Rule} {A : Int} {w : List Nat} {i j : Nat} : ntB R A w i j = true ↔ NtTx R A (sub w i j) := by
  unfold ntB
  exact decide_eq_true_iff
def spanRow (P : Nat → Nat → Bool) (lo k : Nat) : List (Nat × Nat) := ((List.range k).filter fun j => P lo (lo + j)).map fun j => (lo, lo + j)
def spanAll (P : Nat → Nat → Bool) (n k : Nat) : List (Nat × Nat) := (List.range k).flatMap fun lo => spanRow P lo (n + 1 - lo)
theorem spanRow_succ {P : Nat → Nat → Bool} {lo k : Nat} : spanRow P lo (k + 1) = spanRow P lo k ++ if P lo (lo + k) = true then [(lo, lo + k)] else [] := by
  unfold spanRow
  rw [List.range_succ, List.filter_append, List.map_append, List.filter_cons]
  split <;> simp
theorem spanAll_succ {P : Nat → Nat → Bool} {n k : Nat} : spanAll P n (k + 1) = spanAll P n k ++ spanRow P k (n + 1 - k) := by
  unfold spanAll
  rw [List.range_succ, List.flatMap_append]
  simp
theorem spanRow_len {P : Nat → Nat → Bool} {lo k : Nat} : (spanRow P lo k).length ≤ k := by
  unfold spanRow
  rw [List.length_map]
  exact Nat.le_trans (List.length_filter_le _ _) (by simp)
theorem spanAll_len {P : Nat → Nat → Bool} {n : Nat} : ∀ k, (spanAll P n k).length ≤ k * (n + 1)
  | 0 => by simp [spanAll]
  | k + 1 => by
    have h1 := spanAll_len (P := P) (n := n) k
    have h2 := spanRow_len (P := P) (lo := k) (k := n + 1 - k)
    rw [spanAll_succ, List.length_append, Nat.succ_mul]
    omega
theorem sub_drop {w : List Nat} {lo j : Nat} : sub (w.drop lo) 0 j = sub w lo (lo + j) := by
  unfold sub
  rw [List.drop_zero, show lo + j - lo = j - 0 by omega]
/-- but for runs all is as it was -/
def KeepR (h h' : Heap) : Prop := ∀ (i : Nat) (o : HObj), (∀ (cs : List Value) (v : Nat), o ≠ HObj.arr cs v true 50) → h[i]? = some o → h'[i]? = some o
theorem SlR.kept {h h' : Heap} {v : Value} {n b : Nat} {cells : List Value} {et : TypeId} (hs : SlR h v n cells et b) (k : KeepR h h') (he : et ≠ 50) : SlR h' v n cells et b := by
  refine ⟨hs.1, ?_⟩
  rcases hs.2 with h1 | ⟨id, ver, own, c, rfl, h2⟩
  · exact .inl h1
  · exact .inr ⟨id, ver, own, c, rfl, k _ _ (fun cs v e => he (by cases e; rfl)) h2⟩
def SpansR (g : Gram) (w : List Nat) (nt : Int) (h : Heap) (r : Value) (h' : Heap) : Prop := ∃ x e, r = .tuple #[x, i64 e] ∧
  ((fitE g w ≠ 0 ∧ x = nilS ∧ e = fitE g w) ∨ (fitE g w = 0 ∧ (nt < 0 ∨ g.nts ≤ nt) ∧ x = nilS ∧ e = 1) ∨
   (fitE g w = 0 ∧ 0 ≤ nt ∧ nt < g.nts ∧ e = 0 ∧ Grow h h' x (spanAll (ntB g.rules nt w) w.length (w.length + 1)).length (runCells (spanAll (ntB g.rules nt w) w.length (w.length + 1))) 50))
set_option maxHeartbeats 8000000 in
theorem spans_fw {h : Heap} {g : Gram} {v wv : Value} {w : List Nat} {nt : Int} (hr : RdGram h v g) (hwR : RdB h wv w) (W : WfG g) : FW env 19 [v, wv, i64 nt] h fun r h' => SpansR g w nt h r h' ∧ h <+: h' := by
  obtain ⟨u, rfl, hu⟩ := id hr
  obtain ⟨p, c, rfl⟩ := hu.form
  obtain ⟨pw, cw, rfl⟩ := hwR.form
  refine fw_enter (fn := Try.f19) Try.func19 rfl (by kernel_rfl) (by simp [Try.ntmps19]) ?_; simp only [push_cast]
  repeat (first | refine cw_seq ?_ | refine cw_region ?_ | refine ow_nil ?_ | refine qw_nil ?_ | refine cw_block ?_ | refine cw_scope ?_ | refine cw_label ?_ | refine cw_skip ?_)
  refine ow_boxH (by simp only [push_cast, env, Nat.reduceEqDiff, reduceIte, Nat.reduceAdd, Nat.reduceMul, Nat.reduceLeDiff, reduceCtorEq, Nat.reduceSub, Int.reduceToNat] <;> exact rfl) (by simp only [push_cast, env, Nat.reduceEqDiff, reduceIte, Nat.reduceAdd, Nat.reduceMul, Nat.reduceLeDiff, reduceCtorEq, Nat.reduceSub, Int.reduceToNat] <;> exact rfl) ?_
  refine ow_boxH (by simp only [push_cast, env, Nat.reduceEqDiff, reduceIte, Nat.reduceAdd, Nat.reduceMul, Nat.reduceLeDiff, reduceCtorEq, Nat.reduceSub, Int.reduceToNat] <;> exact rfl) (by simp only [push_cast, env, Nat.reduceEqDiff, reduceIte, Nat.reduceAdd, Nat.reduceMul, Nat.reduceLeDiff, reduceCtorEq, Nat.reduceSub, Int.reduceToNat] <;> exact rfl) ?_
  simp only [St.putO, St.put]
  simp only [List.length_append, List.length_cons, List.length_nil, Nat.zero_add, List.append_assoc, List.cons_append, List.nil_append]
  obtain ⟨H2, hH2⟩ : ∃ H2, H2 = h ++ [HObj.arr [i64 g.nts, i64 g.start, .slice p g.rules.length c] 0 true 24, HObj.arr [i64 nt] 0 true 3] := ⟨_, rfl⟩
  have q1 : H2[h.length]? = some (HObj.arr [i64 g.nts, i64 g.start, .slice p g.rules.length c] 0 true 24) := by rw [hH2]; simp
  have q2 : H2[h.length + 1]? = some (HObj.arr [i64 nt] 0 true 3) := by rw [hH2, List.getElem?_append_right (by omega)]; simp
  have hp2 : h <+: H2 := by rw [hH2]; exact List.prefix_append _ _
  rw [← hH2]
  clear hH2
  have hr1 := hr.mono hp2
  have hwR1 := hwR.mono hp2
  repeat (first | refine cw_seq ?_ | refine cw_region ?_ | refine ow_nil ?_ | ((first | apply ow_cons | apply qw_cons); · simp only [push_cast, env, Nat.reduceEqDiff, reduceIte, Nat.reduceAdd, Nat.reduceMul, Nat.reduceLeDiff, reduceCtorEq, Nat.reduceSub, Int.reduceToNat, q1, q2] <;> exact rfl) | ((first | apply ow_spec | apply qw_spec); · simp only [push_cast, env, Nat.reduceEqDiff, reduceIte, Nat.reduceAdd, Nat.reduceMul, Nat.reduceLeDiff, reduceCtorEq, Nat.reduceSub, Int.reduceToNat, q1, q2] <;> exact rfl) | refine qw_nil ?_ | refine cw_block ?_ | refine cw_scope ?_ | refine cw_label ?_ | refine cw_skip ?_)
  refine ow_call (fn := Try.f36) (by simp only [push_cast, env, Nat.reduceEqDiff, reduceIte, Nat.reduceAdd, Nat.reduceMul, Nat.reduceLeDiff, reduceCtorEq, Nat.reduceSub, Int.reduceToNat] <;> exact rfl) rfl (by simp only [push_cast, env, Nat.reduceEqDiff, reduceIte, Nat.reduceAdd, Nat.reduceMul, Nat.reduceLeDiff, reduceCtorEq, Nat.reduceSub, Int.reduceToNat] <;> exact rfl) (by simp only [push_cast, env, Nat.reduceEqDiff, reduceIte, Nat.reduceAdd, Nat.reduceMul, Nat.reduceLeDiff, reduceCtorEq, Nat.reduceSub, Int.reduceToNat] <;> exact rfl) Try.func36 (by kernel_rfl) (by kernel_rfl) ?_
  rw [List.append_nil]
  refine (fit_fw hr1 hwR1).mono ?_
  rintro _ H2 ⟨rfl, rfl⟩
  by_cases hf : ¬ fitE g w = 0
  · have df : decide (fitE g w = 0) = false := decide_eq_false hf
    repeat (first | refine cw_seq ?_ | refine cw_region ?_ | refine ow_nil ?_ | ((first | apply ow_cons | apply qw_cons); · simp only [push_cast, env, Nat.reduceEqDiff, reduceIte, Nat.reduceAdd, Nat.reduceMul, Nat.reduceLeDiff, reduceCtorEq, Nat.reduceSub, Int.reduceToNat, df] <;> exact rfl) | ((first | apply ow_spec | apply qw_spec); · simp only [push_cast, env, Nat.reduceEqDiff, reduceIte, Nat.reduceAdd, Nat.reduceMul, Nat.reduceLeDiff, reduceCtorEq, Nat.reduceSub, Int.reduceToNat, df] <;> exact rfl) | refine qw_nil ?_ | refine cw_block ?_ | refine cw_scope ?_ | refine cw_label ?_ | refine cw_skip ?_)
    refine cw_condT (by simp only [push_cast, env, Nat.reduceEqDiff, reduceIte, Nat.reduceAdd, Nat.reduceMul, Nat.reduceLeDiff, reduceCtorEq, Nat.reduceSub, Int.reduceToNat, df] <;> exact rfl) ?_
    repeat (first | refine cw_seq ?_ | refine cw_region ?_ | refine ow_nil ?_ | ((first | apply ow_cons | apply qw_cons); · simp only [push_cast, env, Nat.reduceEqDiff, reduceIte, Nat.reduceAdd, Nat.reduceMul, Nat.reduceLeDiff, reduceCtorEq, Nat.reduceSub, Int.reduceToNat] <;> exact rfl) | ((first | apply ow_spec | apply qw_spec); · simp only [push_cast, env, Nat.reduceEqDiff, reduceIte, Nat.reduceAdd, Nat.reduceMul, Nat.reduceLeDiff, reduceCtorEq, Nat.reduceSub, Int.reduceToNat] <;> exact rfl) | refine qw_nil ?_ | refine cw_block ?_ | refine cw_scope ?_ | refine cw_label ?_ | refine cw_skip ?_)
    refine cw_ret ?_
    exact ⟨_, (by simp only [push_cast, env, Nat.reduceEqDiff, reduceIte, Nat.reduceAdd, Nat.reduceMul, Nat.reduceLeDiff, reduceCtorEq, Nat.reduceSub, Int.reduceToNat] <;> exact rfl), ⟨nilS, fitE g w, rfl, .inl ⟨hf, rfl, rfl⟩⟩, hp2⟩
  replace hf : fitE g w = 0 := Classical.not_not.1 hf
  obtain ⟨hb, hw⟩ := fitE_ok.1 hf
  have R := rightS hb
  rw [hf]
  repeat (first | refine cw_seq ?_ | refine cw_region ?_ | refine ow_nil ?_ | ((first | apply ow_cons | apply qw_cons); · simp only [push_cast, env, Nat.reduceEqDiff, reduceIte, Nat.reduceAdd, Nat.reduceMul, Nat.reduceLeDiff, reduceCtorEq, Nat.reduceSub, Int.reduceToNat] <;> exact rfl) | ((first | apply ow_spec | apply qw_spec); · simp only [push_cast, env, Nat.reduceEqDiff, reduceIte, Nat.reduceAdd, Nat.reduceMul, Nat.reduceLeDiff, reduceCtorEq, Nat.reduceSub, Int.reduceToNat] <;> exact rfl) | refine qw_nil ?_ | refine cw_block ?_ | refine cw_scope ?_ | refine cw_label ?_ | refine cw_skip ?_)
  refine cw_condF (by simp only [push_cast, env, Nat.reduceEqDiff, reduceIte, Nat.reduceAdd, Nat.reduceMul, Nat.reduceLeDiff, reduceCtorEq, Nat.reduceSub, Int.reduceToNat] <;> exact rfl) ?_
  by_cases hn0 : nt < 0 ∨ g.nts ≤ nt
  · have d1 : (decide (nt < 0) || decide (g.nts ≤ nt)) = true := by simpa using hn0
    repeat (first | refine cw_seq ?_ | refine cw_region ?_ | refine ow_nil ?_ | ((first | apply ow_cons | apply qw_cons); · simp only [push_cast, env, Nat.reduceEqDiff, reduceIte, Nat.reduceAdd, Nat.reduceMul, Nat.reduceLeDiff, reduceCtorEq, Nat.reduceSub, Int.reduceToNat, q1, q2] <;> exact rfl) | ((first | apply ow_spec | apply qw_spec); · simp only [push_cast, env, Nat.reduceEqDiff, reduceIte, Nat.reduceAdd, Nat.reduceMul, Nat.reduceLeDiff, reduceCtorEq, Nat.reduceSub, Int.reduceToNat, q1, q2] <;> exact rfl) | refine qw_nil ?_ | refine cw_block ?_ | refine cw_scope ?_ | refine cw_label ?_ | refine cw_skip ?_)
    refine cw_condT (by simp only [push_cast, env, Nat.reduceEqDiff, reduceIte, Nat.reduceAdd, Nat.reduceMul, Nat.reduceLeDiff, reduceCtorEq, Nat.reduceSub, Int.reduceToNat, d1] <;> exact rfl) ?_
    repeat (first | refine cw_seq ?_ | refine cw_region ?_ | refine ow_nil ?_ | ((first | apply ow_cons | apply qw_cons); · simp only [push_cast, env, Nat.reduceEqDiff, reduceIte, Nat.reduceAdd, Nat.reduceMul, Nat.reduceLeDiff, reduceCtorEq, Nat.reduceSub, Int.reduceToNat] <;> exact rfl) | ((first | apply ow_spec | apply qw_spec); · simp only [push_cast, env, Nat.reduceEqDiff, reduceIte, Nat.reduceAdd, Nat.reduceMul, Nat.reduceLeDiff, reduceCtorEq, Nat.reduceSub, Int.reduceToNat] <;> exact rfl) | refine qw_nil ?_ | refine cw_block ?_ | refine cw_scope ?_ | refine cw_label ?_ | refine cw_skip ?_)
    refine cw_ret ?_
    exact ⟨_, (by simp only [push_cast, env, Nat.reduceEqDiff, reduceIte, Nat.reduceAdd, Nat.reduceMul, Nat.reduceLeDiff, reduceCtorEq, Nat.reduceSub, Int.reduceToNat] <;> exact rfl), ⟨nilS, 1, rfl, .inr (.inl ⟨hf, hn0, rfl, rfl⟩)⟩, hp2⟩
  have d1 : (decide (nt < 0) || decide (g.nts ≤ nt)) = false := by simpa using hn0
  repeat (first | refine cw_seq ?_ | refine cw_region ?_ | refine ow_nil ?_ | ((first | apply ow_cons | apply qw_cons); · simp only [push_cast, env, Nat.reduceEqDiff, reduceIte, Nat.reduceAdd, Nat.reduceMul, Nat.reduceLeDiff, reduceCtorEq, Nat.reduceSub, Int.reduceToNat, q1, q2] <;> exact rfl) | ((first | apply ow_spec | apply qw_spec); · simp only [push_cast, env, Nat.reduceEqDiff, reduceIte, Nat.reduceAdd, Nat.reduceMul, Nat.reduceLeDiff, reduceCtorEq, Nat.reduceSub, Int.reduceToNat, q1, q2] <;> exact rfl) | refine qw_nil ?_ | refine cw_block ?_ | refine cw_scope ?_ | refine cw_label ?_ | refine cw_skip ?_)
  refine cw_condF (by simp only [push_cast, env, Nat.reduceEqDiff, reduceIte, Nat.reduceAdd, Nat.reduceMul, Nat.reduceLeDiff, reduceCtorEq, Nat.reduceSub, Int.reduceToNat, d1] <;> exact rfl) ?_
  repeat (first | refine cw_seq ?_ | refine cw_region ?_ | refine ow_nil ?_ | ((first | apply ow_cons | apply qw_cons); · simp only [push_cast, env, Nat.reduceEqDiff, reduceIte, Nat.reduceAdd, Nat.reduceMul, Nat.reduceLeDiff, reduceCtorEq, Nat.reduceSub, Int.reduceToNat, q1, q2] <;> exact rfl) | ((first | apply ow_spec | apply qw_spec); · simp only [push_cast, env, Nat.reduceEqDiff, reduceIte, Nat.reduceAdd, Nat.reduceMul, Nat.reduceLeDiff, reduceCtorEq, Nat.reduceSub, Int.reduceToNat, q1, q2] <;> exact rfl) | refine qw_nil ?_ | refine cw_block ?_ | refine cw_scope ?_ | refine cw_label ?_ | refine cw_skip ?_)
  refine ow_stoH (cells' := [i64 g.nts, i64 nt, .slice p g.rules.length c]) (by simp only [push_cast, env, Nat.reduceEqDiff, reduceIte, Nat.reduceAdd, Nat.reduceMul, Nat.reduceLeDiff, reduceCtorEq, Nat.reduceSub, Int.reduceToNat] <;> exact rfl) rfl rfl (by simp only [push_cast, env, Nat.reduceEqDiff, reduceIte, Nat.reduceAdd, Nat.reduceMul, Nat.reduceLeDiff, reduceCtorEq, Nat.reduceSub, Int.reduceToNat] <;> exact rfl) (by simp only [push_cast, env, Nat.reduceEqDiff, reduceIte, Nat.reduceAdd, Nat.reduceMul, Nat.reduceLeDiff, reduceCtorEq, Nat.reduceSub, Int.reduceToNat] <;> exact rfl) q1 (by simp only [push_cast, env, Nat.reduceEqDiff, reduceIte, Nat.reduceAdd, Nat.reduceMul, Nat.reduceLeDiff, reduceCtorEq, Nat.reduceSub, Int.reduceToNat] <;> exact rfl) rfl rfl ?_
  have q3 := get_set_self (x := HObj.arr [i64 g.nts, i64 nt, .slice p g.rules.length c] 0 true 24) q1
  have q4 : (H2.set h.length (HObj.arr [i64 g.nts, i64 nt, .slice p g.rules.length c] 0 true 24))[h.length + 1]? = some (HObj.arr [i64 nt] 0 true 3) := by rw [get_set_ne (by omega)]; exact q2
  have hp3 : h <+: H2.set h.length (HObj.arr [i64 g.nts, i64 nt, .slice p g.rules.length c] 0 true 24) := pre_set hp2 (Nat.le_refl _)
  obtain ⟨H3, hH3⟩ : ∃ H3, H3 = H2.set h.length (HObj.arr [i64 g.nts, i64 nt, .slice p g.rules.length c] 0 true 24) := ⟨_, rfl⟩
  show OW _ _ _ ⟨_, _, H2.set h.length (HObj.arr [i64 g.nts, i64 nt, .slice p g.rules.length c] 0 true 24)⟩ _
  rw [← hH3] at q3 q4 hp3 ⊢
  clear q1 q2 hp2 hr1 hwR1 hH3
  repeat (first | refine cw_seq ?_ | refine cw_region ?_ | refine ow_nil ?_ | ((first | apply ow_cons | apply qw_cons); · simp only [push_cast, env, Nat.reduceEqDiff, reduceIte, Nat.reduceAdd, Nat.reduceMul, Nat.reduceLeDiff, reduceCtorEq, Nat.reduceSub, Int.reduceToNat] <;> exact rfl) | ((first | apply ow_spec | apply qw_spec); · simp only [push_cast, env, Nat.reduceEqDiff, reduceIte, Nat.reduceAdd, Nat.reduceMul, Nat.reduceLeDiff, reduceCtorEq, Nat.reduceSub, Int.reduceToNat] <;> exact rfl) | refine qw_nil ?_ | refine cw_block ?_ | refine cw_scope ?_ | refine cw_label ?_ | refine cw_skip ?_)
  refine cw_forG (w.length + 1) (fun lo (x : Heap × Value) => [(1, .val (.slice pw w.length cw)), (3, .val (ptr0 h.length)), (5, .val (ptr0 (h.length + 1))), (9, .val x.2), (10, .val (i64 lo))]) (fun _ x => x.1)
    (fun lo x => h <+: x.1 ∧ x.1[h.length]? = some (HObj.arr [i64 g.nts, i64 nt, .slice p g.rules.length c] 0 true 24) ∧ x.1[h.length + 1]? = some (HObj.arr [i64 nt] 0 true 3) ∧
      Grow h x.1 x.2 (spanAll (ntB g.rules nt w) w.length lo).length (runCells (spanAll (ntB g.rules nt w) w.length lo)) 50) (H3, nilS) (by simp only [push_cast, SubL, fget, Nat.reduceEqDiff, reduceIte]) rfl ⟨hp3, q3, q4, Grow.nil⟩ ?_
  clear hp3 q3 q4 H3
  rintro lo ⟨hk, out⟩ hlo ⟨hp, q3, q4, hG⟩
  simp only at hp q3 q4 hG ⊢
  by_cases hlt : lo < w.length + 1
  · have e3 : decide ((lo : Int) ≤ (w.length : Int)) = true := decide_eq_true (by omega)
    have e2 : IntKind.i64.wrap ((lo : Int) + 1) = ((lo : Int) + 1) := wrap64_id (by omega) (by omega)
    repeat (first | refine cw_seq ?_ | refine cw_region ?_ | refine ow_nil ?_ | ((first | apply ow_cons | apply qw_cons); · simp only [push_cast, env, Nat.reduceEqDiff, reduceIte, Nat.reduceAdd, Nat.reduceMul, Nat.reduceLeDiff, reduceCtorEq, Nat.reduceSub, Int.reduceToNat, e3] <;> exact rfl) | ((first | apply ow_spec | apply qw_spec); · simp only [push_cast, env, Nat.reduceEqDiff, reduceIte, Nat.reduceAdd, Nat.reduceMul, Nat.reduceLeDiff, reduceCtorEq, Nat.reduceSub, Int.reduceToNat, e3] <;> exact rfl) | refine qw_nil ?_ | refine cw_block ?_ | refine cw_scope ?_ | refine cw_label ?_ | refine cw_skip ?_)
    refine cw_condT (by simp only [push_cast, env, Nat.reduceEqDiff, reduceIte, Nat.reduceAdd, Nat.reduceMul, Nat.reduceLeDiff, reduceCtorEq, Nat.reduceSub, Int.reduceToNat] <;> exact rfl) ?_
    repeat (first | refine cw_seq ?_ | refine cw_region ?_ | refine ow_nil ?_ | ((first | apply ow_cons | apply qw_cons); · simp only [push_cast, env, Nat.reduceEqDiff, reduceIte, Nat.reduceAdd, Nat.reduceMul, Nat.reduceLeDiff, reduceCtorEq, Nat.reduceSub, Int.reduceToNat] <;> exact rfl) | ((first | apply ow_spec | apply qw_spec); · simp only [push_cast, env, Nat.reduceEqDiff, reduceIte, Nat.reduceAdd, Nat.reduceMul, Nat.reduceLeDiff, reduceCtorEq, Nat.reduceSub, Int.reduceToNat] <;> exact rfl) | refine qw_nil ?_ | refine cw_block ?_ | refine cw_scope ?_ | refine cw_label ?_ | refine cw_skip ?_)
    have hwk := hwR.mono hp
    obtain ⟨v', hsl, hw'⟩ := rdb_slice (lo := lo) (hi := w.length) hwk (by omega) (Nat.le_refl _)
    have hsube : sub w lo w.length = w.drop lo := by unfold sub; rw [List.take_of_length_le (by simp)]
    rw [hsube] at hw'
    obtain ⟨pv', cv', rfl⟩ := hw'.form
    have hrk : RdGram hk (.agg #[i64 g.nts, i64 nt, .slice p g.rules.length c]) ⟨g.nts, nt, g.rules⟩ := ⟨_, rfl, hu.mono hp⟩
    have Rk : RightS ⟨g.nts, nt, g.rules⟩ := ⟨R.n1, R.n2, by simp only; omega, by simp only; omega, R.rl, R.r⟩
    refine cw_regionD 4 mixed (by kernel_rfl) ?_
    repeat (first | refine cw_seq ?_ | refine cw_region ?_ | refine ow_nil ?_ | ((first | apply ow_cons | apply qw_cons); · simp only [push_cast, env, Nat.reduceEqDiff, reduceIte, Nat.reduceAdd, Nat.reduceMul, Nat.reduceLeDiff, reduceCtorEq, Nat.reduceSub, Int.reduceToNat, q3] <;> exact rfl) | ((first | apply ow_spec | apply qw_spec); · simp only [push_cast, env, Nat.reduceEqDiff, reduceIte, Nat.reduceAdd, Nat.reduceMul, Nat.reduceLeDiff, reduceCtorEq, Nat.reduceSub, Int.reduceToNat, q3] <;> exact rfl) | refine qw_nil ?_ | refine cw_block ?_ | refine cw_scope ?_ | refine cw_label ?_ | refine cw_skip ?_)
    refine qw_slice (v := .slice pv' (w.drop lo).length cv') (by simp only [push_cast, env, Nat.reduceEqDiff, reduceIte, Nat.reduceAdd, Nat.reduceMul, Nat.reduceLeDiff, reduceCtorEq, Nat.reduceSub, Int.reduceToNat] <;> exact rfl) rfl (hsl _ _ _ _ rfl (by simp only [push_cast, env, Nat.reduceEqDiff, reduceIte, Nat.reduceAdd, Nat.reduceMul, Nat.reduceLeDiff, reduceCtorEq, Nat.reduceSub, Int.reduceToNat] <;> exact rfl) (by simp only [push_cast, env, Nat.reduceEqDiff, reduceIte, Nat.reduceAdd, Nat.reduceMul, Nat.reduceLeDiff, reduceCtorEq, Nat.reduceSub, Int.reduceToNat] <;> exact rfl) (by simp only [push_cast, env, Nat.reduceEqDiff, reduceIte, Nat.reduceAdd, Nat.reduceMul, Nat.reduceLeDiff, reduceCtorEq, Nat.reduceSub, Int.reduceToNat] <;> exact rfl)) ?_
    repeat (first | refine cw_seq ?_ | refine cw_region ?_ | refine ow_nil ?_ | ((first | apply ow_cons | apply qw_cons); · simp only [push_cast, env, Nat.reduceEqDiff, reduceIte, Nat.reduceAdd, Nat.reduceMul, Nat.reduceLeDiff, reduceCtorEq, Nat.reduceSub, Int.reduceToNat] <;> exact rfl) | ((first | apply ow_spec | apply qw_spec); · simp only [push_cast, env, Nat.reduceEqDiff, reduceIte, Nat.reduceAdd, Nat.reduceMul, Nat.reduceLeDiff, reduceCtorEq, Nat.reduceSub, Int.reduceToNat] <;> exact rfl) | refine qw_nil ?_ | refine cw_block ?_ | refine cw_scope ?_ | refine cw_label ?_ | refine cw_skip ?_)
    refine ow_call (fn := Try.f37) (by simp only [push_cast, env, Nat.reduceEqDiff, reduceIte, Nat.reduceAdd, Nat.reduceMul, Nat.reduceLeDiff, reduceCtorEq, Nat.reduceSub, Int.reduceToNat] <;> exact rfl) rfl (by simp only [push_cast, env, Nat.reduceEqDiff, reduceIte, Nat.reduceAdd, Nat.reduceMul, Nat.reduceLeDiff, reduceCtorEq, Nat.reduceSub, Int.reduceToNat] <;> exact rfl) (by simp only [push_cast, env, Nat.reduceEqDiff, reduceIte, Nat.reduceAdd, Nat.reduceMul, Nat.reduceLeDiff, reduceCtorEq, Nat.reduceSub, Int.reduceToNat] <;> exact rfl) Try.func37 (by kernel_rfl) (by kernel_rfl) ?_
    rw [List.append_nil]
    refine (open_fw hrk hw' Rk W (by simp; omega)).mono ?_
    rintro _ h' ⟨hB, rv, F, G, rfl, rfl, K, C, hrv⟩
    obtain ⟨g', hg'⟩ : ∃ g' : Gram, g' = ⟨g.nts, nt, g.rules⟩ := ⟨_, rfl⟩
    rw [← hg'] at K C
    have hrl : g'.rules = g.rules := by rw [hg']
    have hst : g'.start = nt := by rw [hg']
    have hnt : g'.nts = g.nts := by rw [hg']
    have hC : SpC G.h g' nt h.length (h.length + 1) := ⟨⟨nt, p, c, by rw [hrl, hnt]; exact getElem?_of_prefix K.p q3, by rw [hrl]; exact (hu.mono hp).mono K.p⟩, getElem?_of_prefix K.p q4⟩
    have hpG := hp.trans K.p
    have hGG : Grow h G.h out (spanAll (ntB g.rules nt w) w.length lo).length (runCells (spanAll (ntB g.rules nt w) w.length lo)) 50 := hG.mono fun i o _ ho => getElem?_of_prefix K.p ho
    have q3' := getElem?_of_prefix K.p q3
    have q4' := getElem?_of_prefix K.p q4
    have hSl := C.n
    rw [List.length_drop] at hSl
    have hc := K.c
    have hs := K.s
    unfold chCells at hc
    have hall := spanAll_len (P := ntB g.rules nt w) (n := w.length) lo
    have hall2 : lo * (w.length + 1) ≤ 513 * 513 := Nat.mul_le_mul (by omega) (by omega)
    have hruns : ∀ x ∈ G.S, True := fun _ _ => trivial
    have hbnd : ∀ j, j < G.S.length → ∀ x ∈ gs G.S j, x.rule < g'.rules.length := fun j hj x hx => by
      obtain ⟨r, h1, _⟩ := ((C.m j x).1 hx).sound
      exact (List.getElem?_eq_some_iff.1 h1).1
    have hany : ∀ j, j < G.S.length → (gs G.S j).any (accI g' nt) = ntB g.rules nt w lo (lo + j) := fun j hj => by
      have h1 := acc_iff C (j := j) (by rw [List.length_drop]; omega)
      rw [sub_drop, hst, hrl] at h1
      rw [Bool.eq_iff_iff, List.any_eq_true, ntB_iff]
      exact h1
    repeat (first | refine cw_seq ?_ | refine cw_region ?_ | refine ow_nil ?_ | ((first | apply ow_cons | apply qw_cons); · simp only [push_cast, env, Nat.reduceEqDiff, reduceIte, Nat.reduceAdd, Nat.reduceMul, Nat.reduceLeDiff, reduceCtorEq, Nat.reduceSub, Int.reduceToNat, hc] <;> exact rfl) | ((first | apply ow_spec | apply qw_spec); · simp only [push_cast, env, Nat.reduceEqDiff, reduceIte, Nat.reduceAdd, Nat.reduceMul, Nat.reduceLeDiff, reduceCtorEq, Nat.reduceSub, Int.reduceToNat, hc] <;> exact rfl) | refine qw_nil ?_ | refine cw_block ?_ | refine cw_scope ?_ | refine cw_label ?_ | refine cw_skip ?_)
    refine cw_forG G.S.length (fun j (x : Heap × Value) => [(1, .val (.slice pw w.length cw)), (3, .val (ptr0 h.length)), (5, .val (ptr0 (h.length + 1))), (9, .val x.2), (10, .val (i64 lo)), (44, .val (.slice (some ⟨F.si, 0, some 0⟩) G.S.length G.S.length)), (45, .val (i64 G.S.length)), (46, .val (i64 j))]) (fun _ x => x.1)
      (fun j x => KeepR G.h x.1 ∧ h <+: x.1 ∧ Grow h x.1 x.2 (spanAll (ntB g.rules nt w) w.length lo ++ spanRow (ntB g.rules nt w) lo j).length (runCells (spanAll (ntB g.rules nt w) w.length lo ++ spanRow (ntB g.rules nt w) lo j)) 50) (G.h, out) (by simp only [push_cast, SubL, fget, Nat.reduceEqDiff, reduceIte]) rfl ⟨fun _ _ _ h => h, hpG, by rw [show spanRow (ntB g.rules nt w) lo 0 = [] from rfl, List.append_nil]; exact hGG⟩ ?_
    rintro j ⟨hj, out⟩ hjn ⟨kp, hpj, hGj⟩
    simp only at kp hpj hGj ⊢
    by_cases hlt2 : j < G.S.length
    · have f2 := inc hlt2 (by omega)
      have f3 := lt_dec hlt2
      have f1 := rng hlt2
      obtain ⟨u2, cu2, hu2, gu2⟩ := K.us_at hlt2
      have hsm := C.small (hg' ▸ Rk) (by simp; omega) (k := j) (by rw [List.length_drop]; omega)
      have hI : RdItems hj (.slice u2 (gs G.S j).length cu2) (gs G.S j) := SlR.kept (gu2.sl (b := 24) (by omega)) kp (by decide)
      have hCj : SpC hj g' nt h.length (h.length + 1) := ⟨⟨nt, p, c, by rw [hrl, hnt]; exact kp _ _ (fun cs v e => by cases e) q3', by rw [hrl]; exact hu.mono hpj⟩, kp _ _ (fun cs v e => by cases e) q4'⟩
      have hs2 := kp _ _ (fun cs v e => by cases e) hs
      have e5 : IntKind.i64.wrap ((lo : Int) + (j : Int)) = ((lo + j : Nat) : Int) := by rw [wrap64_id (by omega) (by omega)]; rfl
      repeat (first | refine cw_seq ?_ | refine cw_region ?_ | refine ow_nil ?_ | ((first | apply ow_cons | apply qw_cons); · simp only [push_cast, env, Nat.reduceEqDiff, reduceIte, Nat.reduceAdd, Nat.reduceMul, Nat.reduceLeDiff, reduceCtorEq, Nat.reduceSub, Int.reduceToNat, f3] <;> exact rfl) | ((first | apply ow_spec | apply qw_spec); · simp only [push_cast, env, Nat.reduceEqDiff, reduceIte, Nat.reduceAdd, Nat.reduceMul, Nat.reduceLeDiff, reduceCtorEq, Nat.reduceSub, Int.reduceToNat, f3] <;> exact rfl) | refine qw_nil ?_ | refine cw_block ?_ | refine cw_scope ?_ | refine cw_label ?_ | refine cw_skip ?_)
      refine cw_condT (by simp only [push_cast, env, Nat.reduceEqDiff, reduceIte, Nat.reduceAdd, Nat.reduceMul, Nat.reduceLeDiff, reduceCtorEq, Nat.reduceSub, Int.reduceToNat] <;> exact rfl) ?_
      repeat (first | refine cw_seq ?_ | refine cw_region ?_ | refine ow_nil ?_ | ((first | apply ow_cons | apply qw_cons); · simp only [push_cast, env, Nat.reduceEqDiff, reduceIte, Nat.reduceAdd, Nat.reduceMul, Nat.reduceLeDiff, reduceCtorEq, Nat.reduceSub, Int.reduceToNat, hs2, f1, hu2, Nat.mul_one] <;> exact rfl) | ((first | apply ow_spec | apply qw_spec); · simp only [push_cast, env, Nat.reduceEqDiff, reduceIte, Nat.reduceAdd, Nat.reduceMul, Nat.reduceLeDiff, reduceCtorEq, Nat.reduceSub, Int.reduceToNat, hs2, f1, hu2, Nat.mul_one] <;> exact rfl) | refine qw_nil ?_ | refine cw_block ?_ | refine cw_scope ?_ | refine cw_label ?_ | refine cw_skip ?_)
      refine ow_call (fn := Try.f41) (by simp only [push_cast, env, Nat.reduceEqDiff, reduceIte, Nat.reduceAdd, Nat.reduceMul, Nat.reduceLeDiff, reduceCtorEq, Nat.reduceSub, Int.reduceToNat] <;> exact rfl) rfl (by simp only [push_cast, env, Nat.reduceEqDiff, reduceIte, Nat.reduceAdd, Nat.reduceMul, Nat.reduceLeDiff, reduceCtorEq, Nat.reduceSub, Int.reduceToNat] <;> exact rfl) (by simp only [push_cast, env, Nat.reduceEqDiff, reduceIte, Nat.reduceAdd, Nat.reduceMul, Nat.reduceLeDiff, reduceCtorEq, Nat.reduceSub, Int.reduceToNat] <;> exact rfl) Try.func41 (by kernel_rfl) (by kernel_rfl) ?_
      rw [List.append_nil]
      refine (contains_fw hCj hI (hbnd j hlt2)).mono ?_
      rintro _ hj ⟨rfl, rfl⟩
      rw [hany j hlt2]
      have hrow := spanRow_succ (P := ntB g.rules nt w) (lo := lo) (k := j)
      have hrlen := spanRow_len (P := ntB g.rules nt w) (lo := lo) (k := j)
      cases hb2 : ntB g.rules nt w lo (lo + j) with
      | true =>
        rw [hb2, if_pos rfl] at hrow
        obtain ⟨po, co, rfl⟩ := hGj.form
        repeat (first | refine cw_seq ?_ | refine cw_region ?_ | refine ow_nil ?_ | ((first | apply ow_cons | apply qw_cons); · simp only [push_cast, env, Nat.reduceEqDiff, reduceIte, Nat.reduceAdd, Nat.reduceMul, Nat.reduceLeDiff, reduceCtorEq, Nat.reduceSub, Int.reduceToNat] <;> exact rfl) | ((first | apply ow_spec | apply qw_spec); · simp only [push_cast, env, Nat.reduceEqDiff, reduceIte, Nat.reduceAdd, Nat.reduceMul, Nat.reduceLeDiff, reduceCtorEq, Nat.reduceSub, Int.reduceToNat] <;> exact rfl) | refine qw_nil ?_ | refine cw_block ?_ | refine cw_scope ?_ | refine cw_label ?_ | refine cw_skip ?_)
        refine cw_condT (by simp only [push_cast, env, Nat.reduceEqDiff, reduceIte, Nat.reduceAdd, Nat.reduceMul, Nat.reduceLeDiff, reduceCtorEq, Nat.reduceSub, Int.reduceToNat] <;> exact rfl) ?_
        repeat (first | refine cw_seq ?_ | refine cw_region ?_ | refine ow_nil ?_ | ((first | apply ow_cons | apply qw_cons); · simp only [push_cast, env, Nat.reduceEqDiff, reduceIte, Nat.reduceAdd, Nat.reduceMul, Nat.reduceLeDiff, reduceCtorEq, Nat.reduceSub, Int.reduceToNat, e5] <;> exact rfl) | ((first | apply ow_spec | apply qw_spec); · simp only [push_cast, env, Nat.reduceEqDiff, reduceIte, Nat.reduceAdd, Nat.reduceMul, Nat.reduceLeDiff, reduceCtorEq, Nat.reduceSub, Int.reduceToNat, e5] <;> exact rfl) | refine qw_nil ?_ | refine cw_block ?_ | refine cw_scope ?_ | refine cw_label ?_ | refine cw_skip ?_)
        refine ow_push (t := 33) (by simp only [push_cast, env, Nat.reduceEqDiff, reduceIte, Nat.reduceAdd, Nat.reduceMul, Nat.reduceLeDiff, reduceCtorEq, Nat.reduceSub, Int.reduceToNat] <;> exact rfl) rfl (by kernel_rfl) ti50 (by decide) rfl (by simp only [push_cast, env, Nat.reduceEqDiff, reduceIte, Nat.reduceAdd, Nat.reduceMul, Nat.reduceLeDiff, reduceCtorEq, Nat.reduceSub, Int.reduceToNat] <;> exact rfl) rfl hGj hpj (by unfold runCells; exact flat_len (k := 2) (fun _ => rfl) _) rfl (by simp only [List.length_append]; omega) (by simp only [List.length_append]; omega) ?_
        intro p6 c6 h6 G6 hp6 hk6 hl6
        repeat (first | refine cw_seq ?_ | refine cw_region ?_ | refine ow_nil ?_ | ((first | apply ow_cons | apply qw_cons); · simp only [push_cast, env, Nat.reduceEqDiff, reduceIte, Nat.reduceAdd, Nat.reduceMul, Nat.reduceLeDiff, reduceCtorEq, Nat.reduceSub, Int.reduceToNat, f2] <;> exact rfl) | ((first | apply ow_spec | apply qw_spec); · simp only [push_cast, env, Nat.reduceEqDiff, reduceIte, Nat.reduceAdd, Nat.reduceMul, Nat.reduceLeDiff, reduceCtorEq, Nat.reduceSub, Int.reduceToNat, f2] <;> exact rfl) | refine qw_nil ?_ | refine cw_block ?_ | refine cw_scope ?_ | refine cw_label ?_ | refine cw_skip ?_)
        refine ⟨hlt2, (h6, .slice p6 ((spanAll (ntB g.rules nt w) w.length lo ++ spanRow (ntB g.rules nt w) lo j).length + 1) c6), (by simp only [push_cast, SubL, fget, Nat.reduceEqDiff, reduceIte]), rfl, fun i o ho hi => ?_, hp6, ?_⟩
        · refine hk6 i o ?_ (kp i o ho hi)
          cases hq : isAt (.slice po (spanAll (ntB g.rules nt w) w.length lo ++ spanRow (ntB g.rules nt w) lo j).length co) i with
          | false => rfl
          | true =>
            obtain ⟨ve, h5⟩ := hGj.obj hq
            rw [kp i o ho hi] at h5
            exact (ho _ _ (Option.some.inj h5)).elim
        · simp only
          rw [hrow, ← List.append_assoc, List.length_append (bs := [(lo, lo + j)])]
          have : runCells (spanAll (ntB g.rules nt w) w.length lo ++ spanRow (ntB g.rules nt w) lo j ++ [(lo, lo + j)]) = runCells (spanAll (ntB g.rules nt w) w.length lo ++ spanRow (ntB g.rules nt w) lo j) ++ [i64 lo, i64 ((lo + j : Nat) : Int)] := by
            unfold runCells
            rw [List.flatMap_append]
            rfl
          rw [this]
          exact G6
      | false =>
        rw [hb2, if_neg (by simp), List.append_nil] at hrow
        repeat (first | refine cw_seq ?_ | refine cw_region ?_ | refine ow_nil ?_ | ((first | apply ow_cons | apply qw_cons); · simp only [push_cast, env, Nat.reduceEqDiff, reduceIte, Nat.reduceAdd, Nat.reduceMul, Nat.reduceLeDiff, reduceCtorEq, Nat.reduceSub, Int.reduceToNat] <;> exact rfl) | ((first | apply ow_spec | apply qw_spec); · simp only [push_cast, env, Nat.reduceEqDiff, reduceIte, Nat.reduceAdd, Nat.reduceMul, Nat.reduceLeDiff, reduceCtorEq, Nat.reduceSub, Int.reduceToNat] <;> exact rfl) | refine qw_nil ?_ | refine cw_block ?_ | refine cw_scope ?_ | refine cw_label ?_ | refine cw_skip ?_)
        refine cw_condF (by simp only [push_cast, env, Nat.reduceEqDiff, reduceIte, Nat.reduceAdd, Nat.reduceMul, Nat.reduceLeDiff, reduceCtorEq, Nat.reduceSub, Int.reduceToNat] <;> exact rfl) ?_
        repeat (first | refine cw_seq ?_ | refine cw_region ?_ | refine ow_nil ?_ | ((first | apply ow_cons | apply qw_cons); · simp only [push_cast, env, Nat.reduceEqDiff, reduceIte, Nat.reduceAdd, Nat.reduceMul, Nat.reduceLeDiff, reduceCtorEq, Nat.reduceSub, Int.reduceToNat, f2] <;> exact rfl) | ((first | apply ow_spec | apply qw_spec); · simp only [push_cast, env, Nat.reduceEqDiff, reduceIte, Nat.reduceAdd, Nat.reduceMul, Nat.reduceLeDiff, reduceCtorEq, Nat.reduceSub, Int.reduceToNat, f2] <;> exact rfl) | refine qw_nil ?_ | refine cw_block ?_ | refine cw_scope ?_ | refine cw_label ?_ | refine cw_skip ?_)
        exact ⟨hlt2, (hj, out), (by simp only [push_cast, SubL, fget, Nat.reduceEqDiff, reduceIte]), rfl, kp, hpj, by simp only; rw [hrow]; exact hGj⟩
    · have e3e := ge_dec hlt2
      obtain rfl : j = G.S.length := by omega
      repeat (first | refine cw_seq ?_ | refine cw_region ?_ | refine ow_nil ?_ | ((first | apply ow_cons | apply qw_cons); · simp only [push_cast, env, Nat.reduceEqDiff, reduceIte, Nat.reduceAdd, Nat.reduceMul, Nat.reduceLeDiff, reduceCtorEq, Nat.reduceSub, Int.reduceToNat, e3e] <;> exact rfl) | ((first | apply ow_spec | apply qw_spec); · simp only [push_cast, env, Nat.reduceEqDiff, reduceIte, Nat.reduceAdd, Nat.reduceMul, Nat.reduceLeDiff, reduceCtorEq, Nat.reduceSub, Int.reduceToNat, e3e] <;> exact rfl) | refine qw_nil ?_ | refine cw_block ?_ | refine cw_scope ?_ | refine cw_label ?_ | refine cw_skip ?_)
      refine cw_condF (by simp only [push_cast, env, Nat.reduceEqDiff, reduceIte, Nat.reduceAdd, Nat.reduceMul, Nat.reduceLeDiff, reduceCtorEq, Nat.reduceSub, Int.reduceToNat] <;> exact rfl) ?_
      refine cw_exit ?_
      show CW _ _ _ _
      repeat (first | refine cw_seq ?_ | refine cw_region ?_ | refine ow_nil ?_ | ((first | apply ow_cons | apply qw_cons); · simp only [push_cast, env, Nat.reduceEqDiff, reduceIte, Nat.reduceAdd, Nat.reduceMul, Nat.reduceLeDiff, reduceCtorEq, Nat.reduceSub, Int.reduceToNat, e2] <;> exact rfl) | ((first | apply ow_spec | apply qw_spec); · simp only [push_cast, env, Nat.reduceEqDiff, reduceIte, Nat.reduceAdd, Nat.reduceMul, Nat.reduceLeDiff, reduceCtorEq, Nat.reduceSub, Int.reduceToNat, e2] <;> exact rfl) | refine qw_nil ?_ | refine cw_block ?_ | refine cw_scope ?_ | refine cw_label ?_ | refine cw_skip ?_)
      refine ⟨hlt, (hj, out), (by simp only [push_cast, SubL, fget, Nat.reduceEqDiff, reduceIte]), rfl, hpj, kp _ _ (fun cs v e => by cases e) q3', kp _ _ (fun cs v e => by cases e) q4', ?_⟩
      simp only
      rw [spanAll_succ, show w.length + 1 - lo = G.S.length by omega]
      exact hGj
  · have e3 : decide ((lo : Int) ≤ (w.length : Int)) = false := decide_eq_false (by omega)
    obtain rfl : lo = w.length + 1 := by omega
    have e3 : decide ((w.length : Int) + 1 ≤ (w.length : Int)) = false := decide_eq_false (by omega)
    repeat (first | refine cw_seq ?_ | refine cw_region ?_ | refine ow_nil ?_ | ((first | apply ow_cons | apply qw_cons); · simp only [push_cast, env, Nat.reduceEqDiff, reduceIte, Nat.reduceAdd, Nat.reduceMul, Nat.reduceLeDiff, reduceCtorEq, Nat.reduceSub, Int.reduceToNat, e3] <;> exact rfl) | ((first | apply ow_spec | apply qw_spec); · simp only [push_cast, env, Nat.reduceEqDiff, reduceIte, Nat.reduceAdd, Nat.reduceMul, Nat.reduceLeDiff, reduceCtorEq, Nat.reduceSub, Int.reduceToNat, e3] <;> exact rfl) | refine qw_nil ?_ | refine cw_block ?_ | refine cw_scope ?_ | refine cw_label ?_ | refine cw_skip ?_)
    refine cw_condF (by simp only [push_cast, env, Nat.reduceEqDiff, reduceIte, Nat.reduceAdd, Nat.reduceMul, Nat.reduceLeDiff, reduceCtorEq, Nat.reduceSub, Int.reduceToNat] <;> exact rfl) ?_
    refine cw_exit ?_
    show CW _ _ _ _
    repeat (first | refine cw_seq ?_ | refine cw_region ?_ | refine ow_nil ?_ | ((first | apply ow_cons | apply qw_cons); · simp only [push_cast, env, Nat.reduceEqDiff, reduceIte, Nat.reduceAdd, Nat.reduceMul, Nat.reduceLeDiff, reduceCtorEq, Nat.reduceSub, Int.reduceToNat] <;> exact rfl) | ((first | apply ow_spec | apply qw_spec); · simp only [push_cast, env, Nat.reduceEqDiff, reduceIte, Nat.reduceAdd, Nat.reduceMul, Nat.reduceLeDiff, reduceCtorEq, Nat.reduceSub, Int.reduceToNat] <;> exact rfl) | refine qw_nil ?_ | refine cw_block ?_ | refine cw_scope ?_ | refine cw_label ?_ | refine cw_skip ?_)
    refine cw_ret ?_
    exact ⟨_, (by simp only [push_cast, env, Nat.reduceEqDiff, reduceIte, Nat.reduceAdd, Nat.reduceMul, Nat.reduceLeDiff, reduceCtorEq, Nat.reduceSub, Int.reduceToNat] <;> exact rfl), ⟨out, 0, rfl, .inr (.inr ⟨hf, by omega, by omega, rfl, hG⟩)⟩, hp⟩
end Go.Proofs.Ytafncpgiibikcaa

/- The reference's Fit, Accepts, Spans; equal lists of runs; which work is too much. -/
namespace Go.Proofs.Ytafncpgiibikcaa
set_option linter.unusedSimpArgs false
set_option linter.unusedVariables false
set_option maxRecDepth 20000
open Go.RowKit Am Ty

theorem rfit_fw {h : Heap} {g : Gram} {v wv : Value} {w : List Nat} (hr : RdGram h v g) (hw : RdB h wv w) : FW env 30 [v, wv] h fun r h' => r = i64 (fitE g w) ∧ h' = h := by
  obtain ⟨u, rfl, hu⟩ := id hr
  obtain ⟨p, c, rfl⟩ := hu.form
  obtain ⟨pw, cw, rfl⟩ := hw.form
  refine fw_enter (fn := Try.f30) Try.func30 rfl (by kernel_rfl) (by simp [Try.ntmps30]) ?_; simp only [push_cast]
  repeat (first | refine cw_seq ?_ | refine cw_region ?_ | refine ow_nil ?_ | ((first | apply ow_cons | apply qw_cons); · simp only [push_cast, env, Nat.reduceEqDiff, reduceIte, Nat.reduceAdd, Nat.reduceMul, Nat.reduceLeDiff, reduceCtorEq, Nat.reduceSub, Int.reduceToNat] <;> exact rfl) | ((first | apply ow_spec | apply qw_spec); · simp only [push_cast, env, Nat.reduceEqDiff, reduceIte, Nat.reduceAdd, Nat.reduceMul, Nat.reduceLeDiff, reduceCtorEq, Nat.reduceSub, Int.reduceToNat] <;> exact rfl) | refine qw_nil ?_ | refine cw_block ?_ | refine cw_scope ?_ | refine cw_label ?_ | refine cw_skip ?_)
  refine ow_call (fn := Try.f49) (by simp only [push_cast, env, Nat.reduceEqDiff, reduceIte, Nat.reduceAdd, Nat.reduceMul, Nat.reduceLeDiff, reduceCtorEq, Nat.reduceSub, Int.reduceToNat] <;> exact rfl) rfl (by simp only [push_cast, env, Nat.reduceEqDiff, reduceIte, Nat.reduceAdd, Nat.reduceMul, Nat.reduceLeDiff, reduceCtorEq, Nat.reduceSub, Int.reduceToNat] <;> exact rfl) (by simp only [push_cast, env, Nat.reduceEqDiff, reduceIte, Nat.reduceAdd, Nat.reduceMul, Nat.reduceLeDiff, reduceCtorEq, Nat.reduceSub, Int.reduceToNat] <;> exact rfl) Try.func49 (by kernel_rfl) (by kernel_rfl) ?_
  rw [List.append_nil]
  refine (refright_fw hr).mono ?_
  rintro _ h ⟨rfl, rfl⟩
  unfold fitE
  by_cases hb : badG g
  · have e0 : rightG g = 3 := if_pos hb
    rw [e0, if_pos hb]
    repeat (first | refine cw_seq ?_ | refine cw_region ?_ | refine ow_nil ?_ | ((first | apply ow_cons | apply qw_cons); · simp only [push_cast, env, Nat.reduceEqDiff, reduceIte, Nat.reduceAdd, Nat.reduceMul, Nat.reduceLeDiff, reduceCtorEq, Nat.reduceSub, Int.reduceToNat] <;> exact rfl) | ((first | apply ow_spec | apply qw_spec); · simp only [push_cast, env, Nat.reduceEqDiff, reduceIte, Nat.reduceAdd, Nat.reduceMul, Nat.reduceLeDiff, reduceCtorEq, Nat.reduceSub, Int.reduceToNat] <;> exact rfl) | refine qw_nil ?_ | refine cw_block ?_ | refine cw_scope ?_ | refine cw_label ?_ | refine cw_skip ?_)
    refine cw_condF (by simp only [push_cast, env, Nat.reduceEqDiff, reduceIte, Nat.reduceAdd, Nat.reduceMul, Nat.reduceLeDiff, reduceCtorEq, Nat.reduceSub, Int.reduceToNat] <;> exact rfl) ?_
    repeat (first | refine cw_seq ?_ | refine cw_region ?_ | refine ow_nil ?_ | ((first | apply ow_cons | apply qw_cons); · simp only [push_cast, env, Nat.reduceEqDiff, reduceIte, Nat.reduceAdd, Nat.reduceMul, Nat.reduceLeDiff, reduceCtorEq, Nat.reduceSub, Int.reduceToNat] <;> exact rfl) | ((first | apply ow_spec | apply qw_spec); · simp only [push_cast, env, Nat.reduceEqDiff, reduceIte, Nat.reduceAdd, Nat.reduceMul, Nat.reduceLeDiff, reduceCtorEq, Nat.reduceSub, Int.reduceToNat] <;> exact rfl) | refine qw_nil ?_ | refine cw_block ?_ | refine cw_scope ?_ | refine cw_label ?_ | refine cw_skip ?_)
    refine cw_ret ?_
    exact ⟨_, (by simp only [push_cast, env, Nat.reduceEqDiff, reduceIte, Nat.reduceAdd, Nat.reduceMul, Nat.reduceLeDiff, reduceCtorEq, Nat.reduceSub, Int.reduceToNat] <;> exact rfl), rfl, rfl⟩
  have e0 : rightG g = 0 := if_neg hb
  rw [e0, if_neg hb]
  repeat (first | refine cw_seq ?_ | refine cw_region ?_ | refine ow_nil ?_ | ((first | apply ow_cons | apply qw_cons); · simp only [push_cast, env, Nat.reduceEqDiff, reduceIte, Nat.reduceAdd, Nat.reduceMul, Nat.reduceLeDiff, reduceCtorEq, Nat.reduceSub, Int.reduceToNat] <;> exact rfl) | ((first | apply ow_spec | apply qw_spec); · simp only [push_cast, env, Nat.reduceEqDiff, reduceIte, Nat.reduceAdd, Nat.reduceMul, Nat.reduceLeDiff, reduceCtorEq, Nat.reduceSub, Int.reduceToNat] <;> exact rfl) | refine qw_nil ?_ | refine cw_block ?_ | refine cw_scope ?_ | refine cw_label ?_ | refine cw_skip ?_)
  refine cw_cond (by simp only [push_cast, env, Nat.reduceEqDiff, reduceIte, Nat.reduceAdd, Nat.reduceMul, Nat.reduceLeDiff, reduceCtorEq, Nat.reduceSub, Int.reduceToNat] <;> exact rfl) (fun c1 => ?_) (fun c1 => ?_)
  · have c1' : 512 < w.length := by simp only [decide_eq_true_eq] at c1; omega
    rw [if_pos c1']
    repeat (first | refine cw_seq ?_ | refine cw_region ?_ | refine ow_nil ?_ | ((first | apply ow_cons | apply qw_cons); · simp only [push_cast, env, Nat.reduceEqDiff, reduceIte, Nat.reduceAdd, Nat.reduceMul, Nat.reduceLeDiff, reduceCtorEq, Nat.reduceSub, Int.reduceToNat] <;> exact rfl) | ((first | apply ow_spec | apply qw_spec); · simp only [push_cast, env, Nat.reduceEqDiff, reduceIte, Nat.reduceAdd, Nat.reduceMul, Nat.reduceLeDiff, reduceCtorEq, Nat.reduceSub, Int.reduceToNat] <;> exact rfl) | refine qw_nil ?_ | refine cw_block ?_ | refine cw_scope ?_ | refine cw_label ?_ | refine cw_skip ?_)
    refine cw_ret ?_
    exact ⟨_, (by simp only [push_cast, env, Nat.reduceEqDiff, reduceIte, Nat.reduceAdd, Nat.reduceMul, Nat.reduceLeDiff, reduceCtorEq, Nat.reduceSub, Int.reduceToNat] <;> exact rfl), rfl, rfl⟩
  · have c1' : ¬ 512 < w.length := by simp only [decide_eq_false_iff_not] at c1; omega
    rw [if_neg c1']
    repeat (first | refine cw_seq ?_ | refine cw_region ?_ | refine ow_nil ?_ | ((first | apply ow_cons | apply qw_cons); · simp only [push_cast, env, Nat.reduceEqDiff, reduceIte, Nat.reduceAdd, Nat.reduceMul, Nat.reduceLeDiff, reduceCtorEq, Nat.reduceSub, Int.reduceToNat] <;> exact rfl) | ((first | apply ow_spec | apply qw_spec); · simp only [push_cast, env, Nat.reduceEqDiff, reduceIte, Nat.reduceAdd, Nat.reduceMul, Nat.reduceLeDiff, reduceCtorEq, Nat.reduceSub, Int.reduceToNat] <;> exact rfl) | refine qw_nil ?_ | refine cw_block ?_ | refine cw_scope ?_ | refine cw_label ?_ | refine cw_skip ?_)
    refine cw_ret ?_
    exact ⟨_, (by simp only [push_cast, env, Nat.reduceEqDiff, reduceIte, Nat.reduceAdd, Nat.reduceMul, Nat.reduceLeDiff, reduceCtorEq, Nat.reduceSub, Int.reduceToNat] <;> exact rfl), rfl, rfl⟩
/-- work that a statement takes -/
def Light (g : Gram) (w : List Nat) : Prop := g.nts.toNat * (w.length + 1) * (w.length + 1) ≤ 1000000
theorem spanRow_len2 {P : Nat → Nat → Bool} {n lo k : Nat} : (spanAll P n lo ++ spanRow P lo k).length ≤ lo * (n + 1) + k := by
  rw [List.length_append]
  have := spanAll_len (P := P) (n := n) lo
  have := spanRow_len (P := P) (lo := lo) (k := k)
  omega
set_option maxHeartbeats 4000000 in
theorem rspans_fw {h : Heap} {g : Gram} {v wv : Value} {w : List Nat} {nt : Int} (hr : RdGram h v g) (hwR : RdB h wv w) (W : WfG g) (hL : fitE g w = 0 → Light g w) : FW env 20 [v, wv, i64 nt] h fun r h' => SpansR g w nt h r h' ∧ h <+: h' := by
  obtain ⟨u, rfl, hu⟩ := id hr
  obtain ⟨p, c, rfl⟩ := hu.form
  obtain ⟨pw, cw, rfl⟩ := hwR.form
  refine fw_enter (fn := Try.f20) Try.func20 rfl (by kernel_rfl) (by simp [Try.ntmps20]) ?_; simp only [push_cast]
  repeat (first | refine cw_seq ?_ | refine cw_region ?_ | refine ow_nil ?_ | ((first | apply ow_cons | apply qw_cons); · simp only [push_cast, env, Nat.reduceEqDiff, reduceIte, Nat.reduceAdd, Nat.reduceMul, Nat.reduceLeDiff, reduceCtorEq, Nat.reduceSub, Int.reduceToNat] <;> exact rfl) | ((first | apply ow_spec | apply qw_spec); · simp only [push_cast, env, Nat.reduceEqDiff, reduceIte, Nat.reduceAdd, Nat.reduceMul, Nat.reduceLeDiff, reduceCtorEq, Nat.reduceSub, Int.reduceToNat] <;> exact rfl) | refine qw_nil ?_ | refine cw_block ?_ | refine cw_scope ?_ | refine cw_label ?_ | refine cw_skip ?_)
  refine ow_call (fn := Try.f30) (by simp only [push_cast, env, Nat.reduceEqDiff, reduceIte, Nat.reduceAdd, Nat.reduceMul, Nat.reduceLeDiff, reduceCtorEq, Nat.reduceSub, Int.reduceToNat] <;> exact rfl) rfl (by simp only [push_cast, env, Nat.reduceEqDiff, reduceIte, Nat.reduceAdd, Nat.reduceMul, Nat.reduceLeDiff, reduceCtorEq, Nat.reduceSub, Int.reduceToNat] <;> exact rfl) (by simp only [push_cast, env, Nat.reduceEqDiff, reduceIte, Nat.reduceAdd, Nat.reduceMul, Nat.reduceLeDiff, reduceCtorEq, Nat.reduceSub, Int.reduceToNat] <;> exact rfl) Try.func30 (by kernel_rfl) (by kernel_rfl) ?_
  rw [List.append_nil]
  refine (rfit_fw hr hwR).mono ?_
  rintro _ h ⟨rfl, rfl⟩
  by_cases hf : ¬ fitE g w = 0
  · have df : decide (fitE g w = 0) = false := decide_eq_false hf
    repeat (first | refine cw_seq ?_ | refine cw_region ?_ | refine ow_nil ?_ | ((first | apply ow_cons | apply qw_cons); · simp only [push_cast, env, Nat.reduceEqDiff, reduceIte, Nat.reduceAdd, Nat.reduceMul, Nat.reduceLeDiff, reduceCtorEq, Nat.reduceSub, Int.reduceToNat, df] <;> exact rfl) | ((first | apply ow_spec | apply qw_spec); · simp only [push_cast, env, Nat.reduceEqDiff, reduceIte, Nat.reduceAdd, Nat.reduceMul, Nat.reduceLeDiff, reduceCtorEq, Nat.reduceSub, Int.reduceToNat, df] <;> exact rfl) | refine qw_nil ?_ | refine cw_block ?_ | refine cw_scope ?_ | refine cw_label ?_ | refine cw_skip ?_)
    refine cw_condT (by simp only [push_cast, env, Nat.reduceEqDiff, reduceIte, Nat.reduceAdd, Nat.reduceMul, Nat.reduceLeDiff, reduceCtorEq, Nat.reduceSub, Int.reduceToNat, df] <;> exact rfl) ?_
    repeat (first | refine cw_seq ?_ | refine cw_region ?_ | refine ow_nil ?_ | ((first | apply ow_cons | apply qw_cons); · simp only [push_cast, env, Nat.reduceEqDiff, reduceIte, Nat.reduceAdd, Nat.reduceMul, Nat.reduceLeDiff, reduceCtorEq, Nat.reduceSub, Int.reduceToNat] <;> exact rfl) | ((first | apply ow_spec | apply qw_spec); · simp only [push_cast, env, Nat.reduceEqDiff, reduceIte, Nat.reduceAdd, Nat.reduceMul, Nat.reduceLeDiff, reduceCtorEq, Nat.reduceSub, Int.reduceToNat] <;> exact rfl) | refine qw_nil ?_ | refine cw_block ?_ | refine cw_scope ?_ | refine cw_label ?_ | refine cw_skip ?_)
    refine cw_ret ?_
    exact ⟨_, (by simp only [push_cast, env, Nat.reduceEqDiff, reduceIte, Nat.reduceAdd, Nat.reduceMul, Nat.reduceLeDiff, reduceCtorEq, Nat.reduceSub, Int.reduceToNat] <;> exact rfl), ⟨nilS, fitE g w, rfl, .inl ⟨hf, rfl, rfl⟩⟩, List.prefix_refl _⟩
  replace hf : fitE g w = 0 := Classical.not_not.1 hf
  obtain ⟨hb, hw⟩ := fitE_ok.1 hf
  have R := rightS hb
  rw [hf]
  repeat (first | refine cw_seq ?_ | refine cw_region ?_ | refine ow_nil ?_ | ((first | apply ow_cons | apply qw_cons); · simp only [push_cast, env, Nat.reduceEqDiff, reduceIte, Nat.reduceAdd, Nat.reduceMul, Nat.reduceLeDiff, reduceCtorEq, Nat.reduceSub, Int.reduceToNat] <;> exact rfl) | ((first | apply ow_spec | apply qw_spec); · simp only [push_cast, env, Nat.reduceEqDiff, reduceIte, Nat.reduceAdd, Nat.reduceMul, Nat.reduceLeDiff, reduceCtorEq, Nat.reduceSub, Int.reduceToNat] <;> exact rfl) | refine qw_nil ?_ | refine cw_block ?_ | refine cw_scope ?_ | refine cw_label ?_ | refine cw_skip ?_)
  refine cw_condF (by simp only [push_cast, env, Nat.reduceEqDiff, reduceIte, Nat.reduceAdd, Nat.reduceMul, Nat.reduceLeDiff, reduceCtorEq, Nat.reduceSub, Int.reduceToNat] <;> exact rfl) ?_
  have n1 := R.n1
  have n2 := R.n2
  by_cases hn0 : nt < 0 ∨ g.nts ≤ nt
  · have d1 : (decide (nt < 0) || decide (g.nts ≤ nt)) = true := by simpa using hn0
    repeat (first | refine cw_seq ?_ | refine cw_region ?_ | refine ow_nil ?_ | ((first | apply ow_cons | apply qw_cons); · simp only [push_cast, env, Nat.reduceEqDiff, reduceIte, Nat.reduceAdd, Nat.reduceMul, Nat.reduceLeDiff, reduceCtorEq, Nat.reduceSub, Int.reduceToNat] <;> exact rfl) | ((first | apply ow_spec | apply qw_spec); · simp only [push_cast, env, Nat.reduceEqDiff, reduceIte, Nat.reduceAdd, Nat.reduceMul, Nat.reduceLeDiff, reduceCtorEq, Nat.reduceSub, Int.reduceToNat] <;> exact rfl) | refine qw_nil ?_ | refine cw_block ?_ | refine cw_scope ?_ | refine cw_label ?_ | refine cw_skip ?_)
    refine cw_condT (by simp only [push_cast, env, Nat.reduceEqDiff, reduceIte, Nat.reduceAdd, Nat.reduceMul, Nat.reduceLeDiff, reduceCtorEq, Nat.reduceSub, Int.reduceToNat, d1] <;> exact rfl) ?_
    repeat (first | refine cw_seq ?_ | refine cw_region ?_ | refine ow_nil ?_ | ((first | apply ow_cons | apply qw_cons); · simp only [push_cast, env, Nat.reduceEqDiff, reduceIte, Nat.reduceAdd, Nat.reduceMul, Nat.reduceLeDiff, reduceCtorEq, Nat.reduceSub, Int.reduceToNat] <;> exact rfl) | ((first | apply ow_spec | apply qw_spec); · simp only [push_cast, env, Nat.reduceEqDiff, reduceIte, Nat.reduceAdd, Nat.reduceMul, Nat.reduceLeDiff, reduceCtorEq, Nat.reduceSub, Int.reduceToNat] <;> exact rfl) | refine qw_nil ?_ | refine cw_block ?_ | refine cw_scope ?_ | refine cw_label ?_ | refine cw_skip ?_)
    refine cw_ret ?_
    exact ⟨_, (by simp only [push_cast, env, Nat.reduceEqDiff, reduceIte, Nat.reduceAdd, Nat.reduceMul, Nat.reduceLeDiff, reduceCtorEq, Nat.reduceSub, Int.reduceToNat] <;> exact rfl), ⟨nilS, 1, rfl, .inr (.inl ⟨hf, hn0, rfl, rfl⟩)⟩, List.prefix_refl _⟩
  have d1 : (decide (nt < 0) || decide (g.nts ≤ nt)) = false := by simpa using hn0
  repeat (first | refine cw_seq ?_ | refine cw_region ?_ | refine ow_nil ?_ | ((first | apply ow_cons | apply qw_cons); · simp only [push_cast, env, Nat.reduceEqDiff, reduceIte, Nat.reduceAdd, Nat.reduceMul, Nat.reduceLeDiff, reduceCtorEq, Nat.reduceSub, Int.reduceToNat] <;> exact rfl) | ((first | apply ow_spec | apply qw_spec); · simp only [push_cast, env, Nat.reduceEqDiff, reduceIte, Nat.reduceAdd, Nat.reduceMul, Nat.reduceLeDiff, reduceCtorEq, Nat.reduceSub, Int.reduceToNat] <;> exact rfl) | refine qw_nil ?_ | refine cw_block ?_ | refine cw_scope ?_ | refine cw_label ?_ | refine cw_skip ?_)
  refine cw_condF (by simp only [push_cast, env, Nat.reduceEqDiff, reduceIte, Nat.reduceAdd, Nat.reduceMul, Nat.reduceLeDiff, reduceCtorEq, Nat.reduceSub, Int.reduceToNat, d1] <;> exact rfl) ?_
  obtain ⟨N, hN⟩ : ∃ N : Nat, g.nts = N := ⟨g.nts.toNat, by omega⟩
  obtain ⟨a, ha⟩ : ∃ a : Nat, nt = a := ⟨nt.toNat, by omega⟩
  subst ha
  have hsz : N * (w.length + 1) * (w.length + 1) ≤ 1000000 := by
    have := hL hf
    unfold Light at this
    rwa [hN, Int.toNat_natCast] at this
  repeat (first | refine cw_seq ?_ | refine cw_region ?_ | refine ow_nil ?_ | ((first | apply ow_cons | apply qw_cons); · simp only [push_cast, env, Nat.reduceEqDiff, reduceIte, Nat.reduceAdd, Nat.reduceMul, Nat.reduceLeDiff, reduceCtorEq, Nat.reduceSub, Int.reduceToNat] <;> exact rfl) | ((first | apply ow_spec | apply qw_spec); · simp only [push_cast, env, Nat.reduceEqDiff, reduceIte, Nat.reduceAdd, Nat.reduceMul, Nat.reduceLeDiff, reduceCtorEq, Nat.reduceSub, Int.reduceToNat] <;> exact rfl) | refine qw_nil ?_ | refine cw_block ?_ | refine cw_scope ?_ | refine cw_label ?_ | refine cw_skip ?_)
  refine ow_call (fn := Try.f38) (by simp only [push_cast, env, Nat.reduceEqDiff, reduceIte, Nat.reduceAdd, Nat.reduceMul, Nat.reduceLeDiff, reduceCtorEq, Nat.reduceSub, Int.reduceToNat] <;> exact rfl) rfl (by simp only [push_cast, env, Nat.reduceEqDiff, reduceIte, Nat.reduceAdd, Nat.reduceMul, Nat.reduceLeDiff, reduceCtorEq, Nat.reduceSub, Int.reduceToNat] <;> exact rfl) (by simp only [push_cast, env, Nat.reduceEqDiff, reduceIte, Nat.reduceAdd, Nat.reduceMul, Nat.reduceLeDiff, reduceCtorEq, Nat.reduceSub, Int.reduceToNat] <;> exact rfl) Try.func38 (by kernel_rfl) (by kernel_rfl) ?_
  rw [List.append_nil]
  refine (fill_fw hr hwR R W hw hN hsz).mono ?_
  rintro _ h' ⟨tp, rv, yi, yr, Y, rfl, hp, T, hY, TS, TF, hrv⟩
  repeat (first | refine cw_seq ?_ | refine cw_region ?_ | refine ow_nil ?_ | ((first | apply ow_cons | apply qw_cons); · simp only [push_cast, env, Nat.reduceEqDiff, reduceIte, Nat.reduceAdd, Nat.reduceMul, Nat.reduceLeDiff, reduceCtorEq, Nat.reduceSub, Int.reduceToNat] <;> exact rfl) | ((first | apply ow_spec | apply qw_spec); · simp only [push_cast, env, Nat.reduceEqDiff, reduceIte, Nat.reduceAdd, Nat.reduceMul, Nat.reduceLeDiff, reduceCtorEq, Nat.reduceSub, Int.reduceToNat] <;> exact rfl) | refine qw_nil ?_ | refine cw_block ?_ | refine cw_scope ?_ | refine cw_label ?_ | refine cw_skip ?_)
  refine cw_forG (w.length + 1) (fun lo (x : Heap × Value) => [(2, .val (i64 a)), (8, .val (i64 0)), (9, .val (.pointer (some ⟨tp, 0, some 0⟩))), (10, .val x.2), (11, .val (i64 lo))]) (fun _ x => x.1)
    (fun lo x => h' <+: x.1 ∧ Grow h' x.1 x.2 (spanAll (ntB g.rules a w) w.length lo).length (runCells (spanAll (ntB g.rules a w) w.length lo)) 50) (h', nilS) (by simp only [push_cast, SubL, fget, Nat.reduceEqDiff, reduceIte]) rfl ⟨List.prefix_refl _, Grow.nil⟩ ?_
  rintro lo ⟨hk, out⟩ hlo ⟨hpk, hG⟩
  simp only at hpk hG ⊢
  have T1 := T.mono hpk
  obtain ⟨cy, hc⟩ := T1.c
  by_cases hlt : lo < w.length + 1
  · have e3 : decide ((lo : Int) ≤ (w.length : Int)) = true := decide_eq_true (by omega)
    have e2 : IntKind.i64.wrap ((lo : Int) + 1) = ((lo : Int) + 1) := wrap64_id (by omega) (by omega)
    have hall2 : lo * (w.length + 1) ≤ 513 * 513 := Nat.mul_le_mul (by omega) (by omega)
    repeat (first | refine cw_seq ?_ | refine cw_region ?_ | refine ow_nil ?_ | ((first | apply ow_cons | apply qw_cons); · simp only [push_cast, env, Nat.reduceEqDiff, reduceIte, Nat.reduceAdd, Nat.reduceMul, Nat.reduceLeDiff, reduceCtorEq, Nat.reduceSub, Int.reduceToNat, hc, e3] <;> exact rfl) | ((first | apply ow_spec | apply qw_spec); · simp only [push_cast, env, Nat.reduceEqDiff, reduceIte, Nat.reduceAdd, Nat.reduceMul, Nat.reduceLeDiff, reduceCtorEq, Nat.reduceSub, Int.reduceToNat, hc, e3] <;> exact rfl) | refine qw_nil ?_ | refine cw_block ?_ | refine cw_scope ?_ | refine cw_label ?_ | refine cw_skip ?_)
    refine cw_condT (by simp only [push_cast, env, Nat.reduceEqDiff, reduceIte, Nat.reduceAdd, Nat.reduceMul, Nat.reduceLeDiff, reduceCtorEq, Nat.reduceSub, Int.reduceToNat] <;> exact rfl) ?_
    repeat (first | refine cw_seq ?_ | refine cw_region ?_ | refine ow_nil ?_ | ((first | apply ow_cons | apply qw_cons); · simp only [push_cast, env, Nat.reduceEqDiff, reduceIte, Nat.reduceAdd, Nat.reduceMul, Nat.reduceLeDiff, reduceCtorEq, Nat.reduceSub, Int.reduceToNat] <;> exact rfl) | ((first | apply ow_spec | apply qw_spec); · simp only [push_cast, env, Nat.reduceEqDiff, reduceIte, Nat.reduceAdd, Nat.reduceMul, Nat.reduceLeDiff, reduceCtorEq, Nat.reduceSub, Int.reduceToNat] <;> exact rfl) | refine qw_nil ?_ | refine cw_block ?_ | refine cw_scope ?_ | refine cw_label ?_ | refine cw_skip ?_)
    refine cw_wh (fun x : Nat × Heap × Value => w.length + 1 - x.1) (fun x => [(2, .val (i64 a)), (8, .val (i64 0)), (9, .val (.pointer (some ⟨tp, 0, some 0⟩))), (10, .val x.2.2), (11, .val (i64 lo)), (12, .val (i64 x.1))]) (fun x => x.2.1)
      (fun x => h' <+: x.2.1 ∧ lo ≤ x.1 ∧ x.1 ≤ w.length + 1 ∧ Grow h' x.2.1 x.2.2 (spanAll (ntB g.rules a w) w.length lo ++ spanRow (ntB g.rules a w) lo (x.1 - lo)).length (runCells (spanAll (ntB g.rules a w) w.length lo ++ spanRow (ntB g.rules a w) lo (x.1 - lo))) 50) (lo, hk, out) (by simp only [push_cast, SubL, fget, Nat.reduceEqDiff, reduceIte]) rfl ⟨hpk, Nat.le_refl _, by simp only; omega, by simp only; rw [Nat.sub_self, show spanRow (ntB g.rules a w) lo 0 = [] from rfl, List.append_nil]; exact hG⟩ ?_
    rintro ⟨j, hj, out⟩ ⟨hpj, hlj, hjn, hGj⟩
    simp only at hpj hlj hjn hGj ⊢
    have T2 := T.mono hpj
    obtain ⟨cy2, hc2⟩ := T2.c
    by_cases hlt2 : j < w.length + 1
    · have f3 : decide ((j : Int) ≤ (w.length : Int)) = true := decide_eq_true (by omega)
      have f2 : IntKind.i64.wrap ((j : Int) + 1) = ((j : Int) + 1) := wrap64_id (by omega) (by omega)
      have hl : tix (w.length + 1) a lo j < Y.length := by rw [hY]; exact tix_lt (by omega) (by omega) (by omega)
      have hPe : ntB g.rules a w lo (lo + (j - lo)) = yfn Y (w.length + 1) a lo j := by
        rw [show lo + (j - lo) = j by omega, Bool.eq_iff_iff, ntB_iff]
        exact ⟨TF a lo j hlj (by omega), TS a lo j hlj (by omega)⟩
      have hrow := spanRow_succ (P := ntB g.rules a w) (lo := lo) (k := j - lo)
      rw [hPe, show lo + (j - lo) = j by omega, show j - lo + 1 = j + 1 - lo by omega] at hrow
      have hlen := spanRow_len2 (P := ntB g.rules a w) (n := w.length) (lo := lo) (k := j - lo)
      repeat (first | refine cw_seq ?_ | refine cw_region ?_ | refine ow_nil ?_ | ((first | apply ow_cons | apply qw_cons); · simp only [push_cast, env, Nat.reduceEqDiff, reduceIte, Nat.reduceAdd, Nat.reduceMul, Nat.reduceLeDiff, reduceCtorEq, Nat.reduceSub, Int.reduceToNat, hc2, f3] <;> exact rfl) | ((first | apply ow_spec | apply qw_spec); · simp only [push_cast, env, Nat.reduceEqDiff, reduceIte, Nat.reduceAdd, Nat.reduceMul, Nat.reduceLeDiff, reduceCtorEq, Nat.reduceSub, Int.reduceToNat, hc2, f3] <;> exact rfl) | refine qw_nil ?_ | refine cw_block ?_ | refine cw_scope ?_ | refine cw_label ?_ | refine cw_skip ?_)
      refine cw_condT (by simp only [push_cast, env, Nat.reduceEqDiff, reduceIte, Nat.reduceAdd, Nat.reduceMul, Nat.reduceLeDiff, reduceCtorEq, Nat.reduceSub, Int.reduceToNat] <;> exact rfl) ?_
      repeat (first | refine cw_seq ?_ | refine cw_region ?_ | refine ow_nil ?_ | ((first | apply ow_cons | apply qw_cons); · simp only [push_cast, env, Nat.reduceEqDiff, reduceIte, Nat.reduceAdd, Nat.reduceMul, Nat.reduceLeDiff, reduceCtorEq, Nat.reduceSub, Int.reduceToNat] <;> exact rfl) | ((first | apply ow_spec | apply qw_spec); · simp only [push_cast, env, Nat.reduceEqDiff, reduceIte, Nat.reduceAdd, Nat.reduceMul, Nat.reduceLeDiff, reduceCtorEq, Nat.reduceSub, Int.reduceToNat] <;> exact rfl) | refine qw_nil ?_ | refine cw_block ?_ | refine cw_scope ?_ | refine cw_label ?_ | refine cw_skip ?_)
      refine ow_call (fn := Try.f39) (by simp only [push_cast, env, Nat.reduceEqDiff, reduceIte, Nat.reduceAdd, Nat.reduceMul, Nat.reduceLeDiff, reduceCtorEq, Nat.reduceSub, Int.reduceToNat] <;> exact rfl) rfl (by simp only [push_cast, env, Nat.reduceEqDiff, reduceIte, Nat.reduceAdd, Nat.reduceMul, Nat.reduceLeDiff, reduceCtorEq, Nat.reduceSub, Int.reduceToNat] <;> exact rfl) (by simp only [push_cast, env, Nat.reduceEqDiff, reduceIte, Nat.reduceAdd, Nat.reduceMul, Nat.reduceLeDiff, reduceCtorEq, Nat.reduceSub, Int.reduceToNat] <;> exact rfl) Try.func39 (by kernel_rfl) (by kernel_rfl) ?_
      rw [List.append_nil]
      refine (thas_fw T2 hw (by omega) (by omega) (by omega) hl).mono ?_
      rintro _ hj ⟨rfl, rfl⟩
      cases hb2 : yfn Y (w.length + 1) a lo j with
      | true =>
        rw [hb2, if_pos rfl] at hrow
        obtain ⟨po, co, rfl⟩ := hGj.form
        repeat (first | refine cw_seq ?_ | refine cw_region ?_ | refine ow_nil ?_ | ((first | apply ow_cons | apply qw_cons); · simp only [push_cast, env, Nat.reduceEqDiff, reduceIte, Nat.reduceAdd, Nat.reduceMul, Nat.reduceLeDiff, reduceCtorEq, Nat.reduceSub, Int.reduceToNat] <;> exact rfl) | ((first | apply ow_spec | apply qw_spec); · simp only [push_cast, env, Nat.reduceEqDiff, reduceIte, Nat.reduceAdd, Nat.reduceMul, Nat.reduceLeDiff, reduceCtorEq, Nat.reduceSub, Int.reduceToNat] <;> exact rfl) | refine qw_nil ?_ | refine cw_block ?_ | refine cw_scope ?_ | refine cw_label ?_ | refine cw_skip ?_)
        refine cw_condT (by simp only [push_cast, env, Nat.reduceEqDiff, reduceIte, Nat.reduceAdd, Nat.reduceMul, Nat.reduceLeDiff, reduceCtorEq, Nat.reduceSub, Int.reduceToNat] <;> exact rfl) ?_
        repeat (first | refine cw_seq ?_ | refine cw_region ?_ | refine ow_nil ?_ | ((first | apply ow_cons | apply qw_cons); · simp only [push_cast, env, Nat.reduceEqDiff, reduceIte, Nat.reduceAdd, Nat.reduceMul, Nat.reduceLeDiff, reduceCtorEq, Nat.reduceSub, Int.reduceToNat] <;> exact rfl) | ((first | apply ow_spec | apply qw_spec); · simp only [push_cast, env, Nat.reduceEqDiff, reduceIte, Nat.reduceAdd, Nat.reduceMul, Nat.reduceLeDiff, reduceCtorEq, Nat.reduceSub, Int.reduceToNat] <;> exact rfl) | refine qw_nil ?_ | refine cw_block ?_ | refine cw_scope ?_ | refine cw_label ?_ | refine cw_skip ?_)
        refine ow_push (t := 33) (by simp only [push_cast, env, Nat.reduceEqDiff, reduceIte, Nat.reduceAdd, Nat.reduceMul, Nat.reduceLeDiff, reduceCtorEq, Nat.reduceSub, Int.reduceToNat] <;> exact rfl) rfl (by kernel_rfl) ti50 (by decide) rfl (by simp only [push_cast, env, Nat.reduceEqDiff, reduceIte, Nat.reduceAdd, Nat.reduceMul, Nat.reduceLeDiff, reduceCtorEq, Nat.reduceSub, Int.reduceToNat] <;> exact rfl) rfl hGj hpj (by unfold runCells; exact flat_len (k := 2) (fun _ => rfl) _) rfl (by simp only; omega) (by omega) ?_
        intro p6 c6 h6 G6 hp6 hk6 hl6
        repeat (first | refine cw_seq ?_ | refine cw_region ?_ | refine ow_nil ?_ | ((first | apply ow_cons | apply qw_cons); · simp only [push_cast, env, Nat.reduceEqDiff, reduceIte, Nat.reduceAdd, Nat.reduceMul, Nat.reduceLeDiff, reduceCtorEq, Nat.reduceSub, Int.reduceToNat, f2] <;> exact rfl) | ((first | apply ow_spec | apply qw_spec); · simp only [push_cast, env, Nat.reduceEqDiff, reduceIte, Nat.reduceAdd, Nat.reduceMul, Nat.reduceLeDiff, reduceCtorEq, Nat.reduceSub, Int.reduceToNat, f2] <;> exact rfl) | refine qw_nil ?_ | refine cw_block ?_ | refine cw_scope ?_ | refine cw_label ?_ | refine cw_skip ?_)
        refine ⟨(j + 1, h6, .slice p6 ((spanAll (ntB g.rules a w) w.length lo ++ spanRow (ntB g.rules a w) lo (j - lo)).length + 1) c6), by simp only; omega, (by simp only [push_cast, SubL, fget, Nat.reduceEqDiff, reduceIte]), rfl, hp6, by simp only; omega, by simp only; omega, ?_⟩
        simp only
        rw [hrow, ← List.append_assoc, List.length_append (bs := [(lo, j)])]
        have : runCells (spanAll (ntB g.rules a w) w.length lo ++ spanRow (ntB g.rules a w) lo (j - lo) ++ [(lo, j)]) = runCells (spanAll (ntB g.rules a w) w.length lo ++ spanRow (ntB g.rules a w) lo (j - lo)) ++ [i64 lo, i64 j] := by
          unfold runCells
          rw [List.flatMap_append]
          rfl
        rw [this]
        exact G6
      | false =>
        rw [hb2, if_neg (by simp), List.append_nil] at hrow
        repeat (first | refine cw_seq ?_ | refine cw_region ?_ | refine ow_nil ?_ | ((first | apply ow_cons | apply qw_cons); · simp only [push_cast, env, Nat.reduceEqDiff, reduceIte, Nat.reduceAdd, Nat.reduceMul, Nat.reduceLeDiff, reduceCtorEq, Nat.reduceSub, Int.reduceToNat] <;> exact rfl) | ((first | apply ow_spec | apply qw_spec); · simp only [push_cast, env, Nat.reduceEqDiff, reduceIte, Nat.reduceAdd, Nat.reduceMul, Nat.reduceLeDiff, reduceCtorEq, Nat.reduceSub, Int.reduceToNat] <;> exact rfl) | refine qw_nil ?_ | refine cw_block ?_ | refine cw_scope ?_ | refine cw_label ?_ | refine cw_skip ?_)
        refine cw_condF (by simp only [push_cast, env, Nat.reduceEqDiff, reduceIte, Nat.reduceAdd, Nat.reduceMul, Nat.reduceLeDiff, reduceCtorEq, Nat.reduceSub, Int.reduceToNat] <;> exact rfl) ?_
        repeat (first | refine cw_seq ?_ | refine cw_region ?_ | refine ow_nil ?_ | ((first | apply ow_cons | apply qw_cons); · simp only [push_cast, env, Nat.reduceEqDiff, reduceIte, Nat.reduceAdd, Nat.reduceMul, Nat.reduceLeDiff, reduceCtorEq, Nat.reduceSub, Int.reduceToNat, f2] <;> exact rfl) | ((first | apply ow_spec | apply qw_spec); · simp only [push_cast, env, Nat.reduceEqDiff, reduceIte, Nat.reduceAdd, Nat.reduceMul, Nat.reduceLeDiff, reduceCtorEq, Nat.reduceSub, Int.reduceToNat, f2] <;> exact rfl) | refine qw_nil ?_ | refine cw_block ?_ | refine cw_scope ?_ | refine cw_label ?_ | refine cw_skip ?_)
        exact ⟨(j + 1, hj, out), by simp only; omega, (by simp only [push_cast, SubL, fget, Nat.reduceEqDiff, reduceIte]), rfl, hpj, by simp only; omega, by simp only; omega, by simp only; rw [hrow]; exact hGj⟩
    · have f3 : decide ((w.length : Int) + 1 ≤ (w.length : Int)) = false := decide_eq_false (by omega)
      obtain rfl : j = w.length + 1 := by omega
      repeat (first | refine cw_seq ?_ | refine cw_region ?_ | refine ow_nil ?_ | ((first | apply ow_cons | apply qw_cons); · simp only [push_cast, env, Nat.reduceEqDiff, reduceIte, Nat.reduceAdd, Nat.reduceMul, Nat.reduceLeDiff, reduceCtorEq, Nat.reduceSub, Int.reduceToNat, hc2, f3] <;> exact rfl) | ((first | apply ow_spec | apply qw_spec); · simp only [push_cast, env, Nat.reduceEqDiff, reduceIte, Nat.reduceAdd, Nat.reduceMul, Nat.reduceLeDiff, reduceCtorEq, Nat.reduceSub, Int.reduceToNat, hc2, f3] <;> exact rfl) | refine qw_nil ?_ | refine cw_block ?_ | refine cw_scope ?_ | refine cw_label ?_ | refine cw_skip ?_)
      refine cw_condF (by simp only [push_cast, env, Nat.reduceEqDiff, reduceIte, Nat.reduceAdd, Nat.reduceMul, Nat.reduceLeDiff, reduceCtorEq, Nat.reduceSub, Int.reduceToNat] <;> exact rfl) ?_
      refine cw_exit ?_
      show CW _ _ _ _
      repeat (first | refine cw_seq ?_ | refine cw_region ?_ | refine ow_nil ?_ | ((first | apply ow_cons | apply qw_cons); · simp only [push_cast, env, Nat.reduceEqDiff, reduceIte, Nat.reduceAdd, Nat.reduceMul, Nat.reduceLeDiff, reduceCtorEq, Nat.reduceSub, Int.reduceToNat, e2] <;> exact rfl) | ((first | apply ow_spec | apply qw_spec); · simp only [push_cast, env, Nat.reduceEqDiff, reduceIte, Nat.reduceAdd, Nat.reduceMul, Nat.reduceLeDiff, reduceCtorEq, Nat.reduceSub, Int.reduceToNat, e2] <;> exact rfl) | refine qw_nil ?_ | refine cw_block ?_ | refine cw_scope ?_ | refine cw_label ?_ | refine cw_skip ?_)
      exact ⟨hlt, (hj, out), (by simp only [push_cast, SubL, fget, Nat.reduceEqDiff, reduceIte]), rfl, hpj, by simp only; rw [spanAll_succ]; exact hGj⟩
  · have e3 : decide ((w.length : Int) + 1 ≤ (w.length : Int)) = false := decide_eq_false (by omega)
    obtain rfl : lo = w.length + 1 := by omega
    repeat (first | refine cw_seq ?_ | refine cw_region ?_ | refine ow_nil ?_ | ((first | apply ow_cons | apply qw_cons); · simp only [push_cast, env, Nat.reduceEqDiff, reduceIte, Nat.reduceAdd, Nat.reduceMul, Nat.reduceLeDiff, reduceCtorEq, Nat.reduceSub, Int.reduceToNat, hc, e3] <;> exact rfl) | ((first | apply ow_spec | apply qw_spec); · simp only [push_cast, env, Nat.reduceEqDiff, reduceIte, Nat.reduceAdd, Nat.reduceMul, Nat.reduceLeDiff, reduceCtorEq, Nat.reduceSub, Int.reduceToNat, hc, e3] <;> exact rfl) | refine qw_nil ?_ | refine cw_block ?_ | refine cw_scope ?_ | refine cw_label ?_ | refine cw_skip ?_)
    refine cw_condF (by simp only [push_cast, env, Nat.reduceEqDiff, reduceIte, Nat.reduceAdd, Nat.reduceMul, Nat.reduceLeDiff, reduceCtorEq, Nat.reduceSub, Int.reduceToNat] <;> exact rfl) ?_
    refine cw_exit ?_
    show CW _ _ _ _
    repeat (first | refine cw_seq ?_ | refine cw_region ?_ | refine ow_nil ?_ | ((first | apply ow_cons | apply qw_cons); · simp only [push_cast, env, Nat.reduceEqDiff, reduceIte, Nat.reduceAdd, Nat.reduceMul, Nat.reduceLeDiff, reduceCtorEq, Nat.reduceSub, Int.reduceToNat] <;> exact rfl) | ((first | apply ow_spec | apply qw_spec); · simp only [push_cast, env, Nat.reduceEqDiff, reduceIte, Nat.reduceAdd, Nat.reduceMul, Nat.reduceLeDiff, reduceCtorEq, Nat.reduceSub, Int.reduceToNat] <;> exact rfl) | refine qw_nil ?_ | refine cw_block ?_ | refine cw_scope ?_ | refine cw_label ?_ | refine cw_skip ?_)
    refine cw_ret ?_
    exact ⟨_, (by simp only [push_cast, env, Nat.reduceEqDiff, reduceIte, Nat.reduceAdd, Nat.reduceMul, Nat.reduceLeDiff, reduceCtorEq, Nat.reduceSub, Int.reduceToNat] <;> exact rfl), ⟨out, 0, rfl, .inr (.inr ⟨hf, by omega, by omega, rfl, hG.low hp.length_le⟩)⟩, hp.trans hpk⟩
def RdRuns (h : Heap) (v : Value) (l : List (Nat × Nat)) : Prop := SlR h v l.length (runCells l) 50 16
theorem runs_get {l : List (Nat × Nat)} {i : Nat} (hi : i < l.length) : rdH (runCells l) (i * 2) 2 = some [i64 l[i].1, i64 l[i].2] := rdH_flatMap (f := fun p : Nat × Nat => [i64 p.1, i64 p.2]) (k := 2) (fun _ => rfl) l i l[i] (by simp [hi])
theorem run_dec (a b : Nat × Nat) : (decide ((a.1 : Int) = (b.1 : Int)) && decide ((a.2 : Int) = (b.2 : Int))) = decide (a = b) := by
  cases a; cases b
  simp only [Prod.mk.injEq, Bool.decide_and, Int.natCast_inj]
set_option maxHeartbeats 2000000 in
theorem sameruns_fw {h : Heap} {a b : List (Nat × Nat)} {va vb : Value} (ha : RdRuns h va a) (hb : RdRuns h vb b) : FW env 21 [va, vb] h fun r h' => r = .bool (decide (a = b)) ∧ h' = h := by
  obtain ⟨p, c, rfl⟩ := SlR.form ha
  obtain ⟨q, d, rfl⟩ := SlR.form hb
  have hla : a.length ≤ 140737488355328 := by have := ha.1; omega
  refine fw_enter (fn := Try.f21) Try.func21 rfl (by kernel_rfl) (by simp [Try.ntmps21]) ?_; simp only [push_cast]
  repeat (first | refine cw_seq ?_ | refine cw_region ?_ | refine ow_nil ?_ | ((first | apply ow_cons | apply qw_cons); · simp only [push_cast, env, Nat.reduceEqDiff, reduceIte, Nat.reduceAdd, Nat.reduceMul, Nat.reduceLeDiff, reduceCtorEq, Nat.reduceSub, Int.reduceToNat] <;> exact rfl) | ((first | apply ow_spec | apply qw_spec); · simp only [push_cast, env, Nat.reduceEqDiff, reduceIte, Nat.reduceAdd, Nat.reduceMul, Nat.reduceLeDiff, reduceCtorEq, Nat.reduceSub, Int.reduceToNat] <;> exact rfl) | refine qw_nil ?_ | refine cw_block ?_ | refine cw_scope ?_ | refine cw_label ?_ | refine cw_skip ?_)
  refine cw_cond (by simp only [push_cast, env, Nat.reduceEqDiff, reduceIte, Nat.reduceAdd, Nat.reduceMul, Nat.reduceLeDiff, reduceCtorEq, Nat.reduceSub, Int.reduceToNat] <;> exact rfl) (fun c1 => ?_) (fun c1 => ?_)
  · simp only [Bool.not_eq_true', decide_eq_false_iff_not] at c1
    repeat (first | refine cw_seq ?_ | refine cw_region ?_ | refine ow_nil ?_ | ((first | apply ow_cons | apply qw_cons); · simp only [push_cast, env, Nat.reduceEqDiff, reduceIte, Nat.reduceAdd, Nat.reduceMul, Nat.reduceLeDiff, reduceCtorEq, Nat.reduceSub, Int.reduceToNat] <;> exact rfl) | ((first | apply ow_spec | apply qw_spec); · simp only [push_cast, env, Nat.reduceEqDiff, reduceIte, Nat.reduceAdd, Nat.reduceMul, Nat.reduceLeDiff, reduceCtorEq, Nat.reduceSub, Int.reduceToNat] <;> exact rfl) | refine qw_nil ?_ | refine cw_block ?_ | refine cw_scope ?_ | refine cw_label ?_ | refine cw_skip ?_)
    refine cw_ret ?_
    exact ⟨_, (by simp only [push_cast, env, Nat.reduceEqDiff, reduceIte, Nat.reduceAdd, Nat.reduceMul, Nat.reduceLeDiff, reduceCtorEq, Nat.reduceSub, Int.reduceToNat] <;> exact rfl), by rw [decide_eq_false (by rintro rfl; exact c1 rfl)]; rfl, rfl⟩
  simp only [Bool.not_eq_false', decide_eq_true_eq] at c1
  have c2 : a.length = b.length := by omega
  repeat (first | refine cw_seq ?_ | refine cw_region ?_ | refine ow_nil ?_ | ((first | apply ow_cons | apply qw_cons); · simp only [push_cast, env, Nat.reduceEqDiff, reduceIte, Nat.reduceAdd, Nat.reduceMul, Nat.reduceLeDiff, reduceCtorEq, Nat.reduceSub, Int.reduceToNat] <;> exact rfl) | ((first | apply ow_spec | apply qw_spec); · simp only [push_cast, env, Nat.reduceEqDiff, reduceIte, Nat.reduceAdd, Nat.reduceMul, Nat.reduceLeDiff, reduceCtorEq, Nat.reduceSub, Int.reduceToNat] <;> exact rfl) | refine qw_nil ?_ | refine cw_block ?_ | refine cw_scope ?_ | refine cw_label ?_ | refine cw_skip ?_)
  refine cw_for a.length (fun k => [(0, .val (.slice p a.length c)), (1, .val (.slice q b.length d)), (5, .val (i64 k))]) (fun _ => h) (fun k => a.take k = b.take k) (by simp only [push_cast, SubL, fget, Nat.reduceEqDiff, reduceIte]) rfl rfl ?_
  intro k hk hI
  by_cases hlt : k < a.length
  · obtain ⟨id, ver, own, c', hv, hid⟩ := SlR.at ha (by omega)
    cases hv
    have hlt2 : k < b.length := c2 ▸ hlt
    obtain ⟨id2, ver2, own2, c3, hv2, hid2⟩ := SlR.at hb (by omega)
    cases hv2
    have g1 := runs_get hlt
    have g2 := runs_get hlt2
    have e1 := rng hlt
    have e1' := rng hlt2
    have e2 := inc hlt hla
    have e3 := lt_dec hlt
    repeat (first | refine cw_seq ?_ | refine cw_region ?_ | refine ow_nil ?_ | ((first | apply ow_cons | apply qw_cons); · simp only [push_cast, env, Nat.reduceEqDiff, reduceIte, Nat.reduceAdd, Nat.reduceMul, Nat.reduceLeDiff, reduceCtorEq, Nat.reduceSub, Int.reduceToNat, e3] <;> exact rfl) | ((first | apply ow_spec | apply qw_spec); · simp only [push_cast, env, Nat.reduceEqDiff, reduceIte, Nat.reduceAdd, Nat.reduceMul, Nat.reduceLeDiff, reduceCtorEq, Nat.reduceSub, Int.reduceToNat, e3] <;> exact rfl) | refine qw_nil ?_ | refine cw_block ?_ | refine cw_scope ?_ | refine cw_label ?_ | refine cw_skip ?_)
    refine cw_condT (by simp only [push_cast, env, Nat.reduceEqDiff, reduceIte, Nat.reduceAdd, Nat.reduceMul, Nat.reduceLeDiff, reduceCtorEq, Nat.reduceSub, Int.reduceToNat] <;> exact rfl) ?_
    repeat (first | refine cw_seq ?_ | refine cw_region ?_ | refine ow_nil ?_ | ((first | apply ow_cons | apply qw_cons); · simp only [push_cast, env, Nat.reduceEqDiff, reduceIte, Nat.reduceAdd, Nat.reduceMul, Nat.reduceLeDiff, reduceCtorEq, Nat.reduceSub, Int.reduceToNat] <;> exact rfl) | ((first | apply ow_spec | apply qw_spec); · simp only [push_cast, env, Nat.reduceEqDiff, reduceIte, Nat.reduceAdd, Nat.reduceMul, Nat.reduceLeDiff, reduceCtorEq, Nat.reduceSub, Int.reduceToNat] <;> exact rfl) | refine qw_nil ?_ | refine cw_block ?_ | refine cw_scope ?_ | refine cw_label ?_ | refine cw_skip ?_)
    refine cw_regionD 8 mixed (by kernel_rfl) ?_
    repeat (first | refine cw_seq ?_ | refine cw_region ?_ | refine ow_nil ?_ | ((first | apply ow_cons | apply qw_cons); · simp only [push_cast, env, Nat.reduceEqDiff, reduceIte, Nat.reduceAdd, Nat.reduceMul, Nat.reduceLeDiff, reduceCtorEq, Nat.reduceSub, Int.reduceToNat, e1, e1', hid, hid2, g1, g2, Nat.mul_one, run_dec] <;> exact rfl) | ((first | apply ow_spec | apply qw_spec); · simp only [push_cast, env, Nat.reduceEqDiff, reduceIte, Nat.reduceAdd, Nat.reduceMul, Nat.reduceLeDiff, reduceCtorEq, Nat.reduceSub, Int.reduceToNat, e1, e1', hid, hid2, g1, g2, Nat.mul_one, run_dec] <;> exact rfl) | refine qw_nil ?_ | refine cw_block ?_ | refine cw_scope ?_ | refine cw_label ?_ | refine cw_skip ?_)
    refine cw_cond (by simp only [push_cast, env, Nat.reduceEqDiff, reduceIte, Nat.reduceAdd, Nat.reduceMul, Nat.reduceLeDiff, reduceCtorEq, Nat.reduceSub, Int.reduceToNat] <;> exact rfl) (fun c4 => ?_) (fun c4 => ?_)
    · simp only [Bool.not_eq_true', decide_eq_false_iff_not] at c4
      repeat (first | refine cw_seq ?_ | refine cw_region ?_ | refine ow_nil ?_ | ((first | apply ow_cons | apply qw_cons); · simp only [push_cast, env, Nat.reduceEqDiff, reduceIte, Nat.reduceAdd, Nat.reduceMul, Nat.reduceLeDiff, reduceCtorEq, Nat.reduceSub, Int.reduceToNat] <;> exact rfl) | ((first | apply ow_spec | apply qw_spec); · simp only [push_cast, env, Nat.reduceEqDiff, reduceIte, Nat.reduceAdd, Nat.reduceMul, Nat.reduceLeDiff, reduceCtorEq, Nat.reduceSub, Int.reduceToNat] <;> exact rfl) | refine qw_nil ?_ | refine cw_block ?_ | refine cw_scope ?_ | refine cw_label ?_ | refine cw_skip ?_)
      refine cw_ret ?_
      exact ⟨_, (by simp only [push_cast, env, Nat.reduceEqDiff, reduceIte, Nat.reduceAdd, Nat.reduceMul, Nat.reduceLeDiff, reduceCtorEq, Nat.reduceSub, Int.reduceToNat] <;> exact rfl), by rw [decide_eq_false (by rintro rfl; exact c4 rfl)]; rfl, rfl⟩
    · simp only [Bool.not_eq_false', decide_eq_true_eq] at c4
      repeat (first | refine cw_seq ?_ | refine cw_region ?_ | refine ow_nil ?_ | ((first | apply ow_cons | apply qw_cons); · simp only [push_cast, env, Nat.reduceEqDiff, reduceIte, Nat.reduceAdd, Nat.reduceMul, Nat.reduceLeDiff, reduceCtorEq, Nat.reduceSub, Int.reduceToNat, e2] <;> exact rfl) | ((first | apply ow_spec | apply qw_spec); · simp only [push_cast, env, Nat.reduceEqDiff, reduceIte, Nat.reduceAdd, Nat.reduceMul, Nat.reduceLeDiff, reduceCtorEq, Nat.reduceSub, Int.reduceToNat, e2] <;> exact rfl) | refine qw_nil ?_ | refine cw_block ?_ | refine cw_scope ?_ | refine cw_label ?_ | refine cw_skip ?_)
      exact ⟨hlt, (by simp only [push_cast, SubL, fget, Nat.reduceEqDiff, reduceIte]), rfl, take_eq_step hI hlt hlt2 c4⟩
  · have e3 := ge_dec hlt
    obtain rfl : k = a.length := by omega
    repeat (first | refine cw_seq ?_ | refine cw_region ?_ | refine ow_nil ?_ | ((first | apply ow_cons | apply qw_cons); · simp only [push_cast, env, Nat.reduceEqDiff, reduceIte, Nat.reduceAdd, Nat.reduceMul, Nat.reduceLeDiff, reduceCtorEq, Nat.reduceSub, Int.reduceToNat, e3] <;> exact rfl) | ((first | apply ow_spec | apply qw_spec); · simp only [push_cast, env, Nat.reduceEqDiff, reduceIte, Nat.reduceAdd, Nat.reduceMul, Nat.reduceLeDiff, reduceCtorEq, Nat.reduceSub, Int.reduceToNat, e3] <;> exact rfl) | refine qw_nil ?_ | refine cw_block ?_ | refine cw_scope ?_ | refine cw_label ?_ | refine cw_skip ?_)
    refine cw_condF (by simp only [push_cast, env, Nat.reduceEqDiff, reduceIte, Nat.reduceAdd, Nat.reduceMul, Nat.reduceLeDiff, reduceCtorEq, Nat.reduceSub, Int.reduceToNat] <;> exact rfl) ?_
    refine cw_exit ?_
    show CW _ _ _ _
    repeat (first | refine cw_seq ?_ | refine cw_region ?_ | refine ow_nil ?_ | ((first | apply ow_cons | apply qw_cons); · simp only [push_cast, env, Nat.reduceEqDiff, reduceIte, Nat.reduceAdd, Nat.reduceMul, Nat.reduceLeDiff, reduceCtorEq, Nat.reduceSub, Int.reduceToNat] <;> exact rfl) | ((first | apply ow_spec | apply qw_spec); · simp only [push_cast, env, Nat.reduceEqDiff, reduceIte, Nat.reduceAdd, Nat.reduceMul, Nat.reduceLeDiff, reduceCtorEq, Nat.reduceSub, Int.reduceToNat] <;> exact rfl) | refine qw_nil ?_ | refine cw_block ?_ | refine cw_scope ?_ | refine cw_label ?_ | refine cw_skip ?_)
    refine cw_ret ?_
    rw [List.take_length, c2, List.take_length] at hI
    exact ⟨_, (by simp only [push_cast, env, Nat.reduceEqDiff, reduceIte, Nat.reduceAdd, Nat.reduceMul, Nat.reduceLeDiff, reduceCtorEq, Nat.reduceSub, Int.reduceToNat] <;> exact rfl), by rw [decide_eq_true hI]; rfl, rfl⟩
def heavy7 (g : Gram) (w : List Nat) : Bool := (decide (16 < w.length) && decide (w.length ≤ 512)) || decide (heavyP g 160)
theorem heavy7_fw {h : Heap} {g : Gram} {v wv : Value} {w : List Nat} (hr : RdGram h v g) (hw : RdB h wv w) (hn : -9223372036854775808 ≤ g.nts) : FW env 13 [v, wv] h fun r h' => r = .bool (heavy7 g w) ∧ h' = h := by
  obtain ⟨u, rfl, hu⟩ := id hr
  obtain ⟨p, c, rfl⟩ := hu.form
  obtain ⟨pw, cw, rfl⟩ := hw.form
  unfold heavy7
  refine fw_enter (fn := Try.f13) Try.func13 rfl (by kernel_rfl) (by simp [Try.ntmps13]) ?_; simp only [push_cast]
  by_cases h1 : 16 < w.length
  · have d1 : decide ((16 : Int) < (w.length : Int)) = true := decide_eq_true (by omega)
    rw [decide_eq_true h1]
    by_cases h2 : w.length ≤ 512
    · have d2 : decide ((w.length : Int) ≤ 512) = true := decide_eq_true (by omega)
      rw [decide_eq_true h2]
      repeat (first | refine cw_seq ?_ | refine cw_region ?_ | refine ow_nil ?_ | ((first | apply ow_cons | apply qw_cons); · simp only [push_cast, env, Nat.reduceEqDiff, reduceIte, Nat.reduceAdd, Nat.reduceMul, Nat.reduceLeDiff, reduceCtorEq, Nat.reduceSub, Int.reduceToNat, d1, d2] <;> exact rfl) | ((first | apply ow_spec | apply qw_spec); · simp only [push_cast, env, Nat.reduceEqDiff, reduceIte, Nat.reduceAdd, Nat.reduceMul, Nat.reduceLeDiff, reduceCtorEq, Nat.reduceSub, Int.reduceToNat, d1, d2] <;> exact rfl) | refine qw_nil ?_ | refine cw_block ?_ | refine cw_scope ?_ | refine cw_label ?_ | refine cw_skip ?_)
      refine cw_ret ?_
      exact ⟨_, (by simp only [push_cast, env, Nat.reduceEqDiff, reduceIte, Nat.reduceAdd, Nat.reduceMul, Nat.reduceLeDiff, reduceCtorEq, Nat.reduceSub, Int.reduceToNat] <;> exact rfl), rfl, rfl⟩
    · have d2 : decide ((w.length : Int) ≤ 512) = false := decide_eq_false (by omega)
      rw [decide_eq_false h2]
      repeat (first | refine cw_seq ?_ | refine cw_region ?_ | refine ow_nil ?_ | ((first | apply ow_cons | apply qw_cons); · simp only [push_cast, env, Nat.reduceEqDiff, reduceIte, Nat.reduceAdd, Nat.reduceMul, Nat.reduceLeDiff, reduceCtorEq, Nat.reduceSub, Int.reduceToNat, d1, d2] <;> exact rfl) | ((first | apply ow_spec | apply qw_spec); · simp only [push_cast, env, Nat.reduceEqDiff, reduceIte, Nat.reduceAdd, Nat.reduceMul, Nat.reduceLeDiff, reduceCtorEq, Nat.reduceSub, Int.reduceToNat, d1, d2] <;> exact rfl) | refine qw_nil ?_ | refine cw_block ?_ | refine cw_scope ?_ | refine cw_label ?_ | refine cw_skip ?_)
      refine ow_call (fn := Try.f34) (by simp only [push_cast, env, Nat.reduceEqDiff, reduceIte, Nat.reduceAdd, Nat.reduceMul, Nat.reduceLeDiff, reduceCtorEq, Nat.reduceSub, Int.reduceToNat] <;> exact rfl) rfl (by simp only [push_cast, env, Nat.reduceEqDiff, reduceIte, Nat.reduceAdd, Nat.reduceMul, Nat.reduceLeDiff, reduceCtorEq, Nat.reduceSub, Int.reduceToNat] <;> exact rfl) (by simp only [push_cast, env, Nat.reduceEqDiff, reduceIte, Nat.reduceAdd, Nat.reduceMul, Nat.reduceLeDiff, reduceCtorEq, Nat.reduceSub, Int.reduceToNat] <;> exact rfl) Try.func34 (by kernel_rfl) (by kernel_rfl) ?_
      rw [List.append_nil]
      refine (heavy_fw hr hn (by decide)).mono ?_
      rintro _ h ⟨rfl, rfl⟩
      repeat (first | refine cw_seq ?_ | refine cw_region ?_ | refine ow_nil ?_ | ((first | apply ow_cons | apply qw_cons); · simp only [push_cast, env, Nat.reduceEqDiff, reduceIte, Nat.reduceAdd, Nat.reduceMul, Nat.reduceLeDiff, reduceCtorEq, Nat.reduceSub, Int.reduceToNat] <;> exact rfl) | ((first | apply ow_spec | apply qw_spec); · simp only [push_cast, env, Nat.reduceEqDiff, reduceIte, Nat.reduceAdd, Nat.reduceMul, Nat.reduceLeDiff, reduceCtorEq, Nat.reduceSub, Int.reduceToNat] <;> exact rfl) | refine qw_nil ?_ | refine cw_block ?_ | refine cw_scope ?_ | refine cw_label ?_ | refine cw_skip ?_)
      refine cw_ret ?_
      exact ⟨_, (by simp only [push_cast, env, Nat.reduceEqDiff, reduceIte, Nat.reduceAdd, Nat.reduceMul, Nat.reduceLeDiff, reduceCtorEq, Nat.reduceSub, Int.reduceToNat] <;> exact rfl), rfl, rfl⟩
  · have d1 : decide ((16 : Int) < (w.length : Int)) = false := decide_eq_false (by omega)
    rw [decide_eq_false h1]
    repeat (first | refine cw_seq ?_ | refine cw_region ?_ | refine ow_nil ?_ | ((first | apply ow_cons | apply qw_cons); · simp only [push_cast, env, Nat.reduceEqDiff, reduceIte, Nat.reduceAdd, Nat.reduceMul, Nat.reduceLeDiff, reduceCtorEq, Nat.reduceSub, Int.reduceToNat, d1] <;> exact rfl) | ((first | apply ow_spec | apply qw_spec); · simp only [push_cast, env, Nat.reduceEqDiff, reduceIte, Nat.reduceAdd, Nat.reduceMul, Nat.reduceLeDiff, reduceCtorEq, Nat.reduceSub, Int.reduceToNat, d1] <;> exact rfl) | refine qw_nil ?_ | refine cw_block ?_ | refine cw_scope ?_ | refine cw_label ?_ | refine cw_skip ?_)
    refine ow_call (fn := Try.f34) (by simp only [push_cast, env, Nat.reduceEqDiff, reduceIte, Nat.reduceAdd, Nat.reduceMul, Nat.reduceLeDiff, reduceCtorEq, Nat.reduceSub, Int.reduceToNat] <;> exact rfl) rfl (by simp only [push_cast, env, Nat.reduceEqDiff, reduceIte, Nat.reduceAdd, Nat.reduceMul, Nat.reduceLeDiff, reduceCtorEq, Nat.reduceSub, Int.reduceToNat] <;> exact rfl) (by simp only [push_cast, env, Nat.reduceEqDiff, reduceIte, Nat.reduceAdd, Nat.reduceMul, Nat.reduceLeDiff, reduceCtorEq, Nat.reduceSub, Int.reduceToNat] <;> exact rfl) Try.func34 (by kernel_rfl) (by kernel_rfl) ?_
    rw [List.append_nil]
    refine (heavy_fw hr hn (by decide)).mono ?_
    rintro _ h ⟨rfl, rfl⟩
    repeat (first | refine cw_seq ?_ | refine cw_region ?_ | refine ow_nil ?_ | ((first | apply ow_cons | apply qw_cons); · simp only [push_cast, env, Nat.reduceEqDiff, reduceIte, Nat.reduceAdd, Nat.reduceMul, Nat.reduceLeDiff, reduceCtorEq, Nat.reduceSub, Int.reduceToNat] <;> exact rfl) | ((first | apply ow_spec | apply qw_spec); · simp only [push_cast, env, Nat.reduceEqDiff, reduceIte, Nat.reduceAdd, Nat.reduceMul, Nat.reduceLeDiff, reduceCtorEq, Nat.reduceSub, Int.reduceToNat] <;> exact rfl) | refine qw_nil ?_ | refine cw_block ?_ | refine cw_scope ?_ | refine cw_label ?_ | refine cw_skip ?_)
    refine cw_ret ?_
    exact ⟨_, (by simp only [push_cast, env, Nat.reduceEqDiff, reduceIte, Nat.reduceAdd, Nat.reduceMul, Nat.reduceLeDiff, reduceCtorEq, Nat.reduceSub, Int.reduceToNat] <;> exact rfl), rfl, rfl⟩
theorem light_of {g : Gram} {w : List Nat} (h : heavy7 g w = false) : fitE g w = 0 → Light g w := fun hf => by
  obtain ⟨_, hw⟩ := fitE_ok.1 hf
  unfold heavy7 at h
  simp only [Bool.or_eq_false_iff, Bool.and_eq_false_iff, decide_eq_false_iff_not] at h
  have h2 : ¬ heavyP g 160 := h.2
  unfold heavyP at h2
  have hn : g.nts.toNat ≤ 160 := by omega
  have hl : w.length + 1 ≤ 17 := by omega
  unfold Light
  have := Nat.mul_le_mul (Nat.mul_le_mul hn hl) hl
  omega
end Go.Proofs.Ytafncpgiibikcaa

/- Plain facts: the fixed calls of the laws of layer 7. -/
namespace Go.Proofs.Ytafncpgiibikcaa
set_option linter.unusedSimpArgs false
set_option linter.unusedVariables false

/-- no rule makes more -/
def closedB (g : Gram) (w : List Nat) (S : List (List Item)) : Bool :=
  ((List.range g.rules.length).all fun q => match g.rules[q]? with
    | some r => !decide (r.lhs = g.start) || decide ((⟨q, 0, 0⟩ : Item) ∈ gs S 0)
    | none => true) &&
  (List.range (w.length + 1)).all fun k => (gs S k).all fun x => match g.rules[x.rule]? with
    | none => true
    | some r => match r.rhs[x.dot]? with
      | some s => if s.nt < 0 then (match w[k]? with
          | some b => !s.set.has b || decide (adv x ∈ gs S (k + 1))
          | none => true) else (List.range g.rules.length).all fun q => match g.rules[q]? with
          | some r' => !decide (r'.lhs = s.nt) || decide ((⟨q, 0, k⟩ : Item) ∈ gs S k)
          | none => true
      | none => (gs S x.frm).all fun y => match g.rules[y.rule]? with
        | some r' => (match r'.rhs[y.dot]? with
          | some s => !decide (s.nt = r.lhs) || decide (adv y ∈ gs S k)
          | none => true)
        | none => true
theorem closedB_it {g : Gram} {w : List Nat} {S : List (List Item)} (h : closedB g w S = true) {j : Nat} {x : Item} (hx : It g w j x) : x ∈ gs S j := by
  unfold closedB at h
  rw [Bool.and_eq_true] at h
  obtain ⟨h1, h2⟩ := h
  rw [List.all_eq_true] at h1 h2
  have hj : ∀ {j : Nat} {x : Item}, It g w j x → j ∈ List.range (w.length + 1) := fun {j x} h => by
    obtain ⟨_, _, _, _, k⟩ := h.sound
    have := k.2.1
    exact List.mem_range.2 (by omega)
  induction hx with
  | init q r k1 k2 =>
    have := h1 q (List.mem_range.2 (List.getElem?_eq_some_iff.1 k1).1)
    rw [k1] at this
    simpa [k2] using this
  | pred j x r s q r' k1 k2 k3 k4 k5 k6 ih =>
    have := h2 j (hj k1)
    rw [List.all_eq_true] at this
    have := this x ih
    rw [k2] at this
    simp only [k3] at this
    rw [if_neg (by omega), List.all_eq_true] at this
    have := this q (List.mem_range.2 (List.getElem?_eq_some_iff.1 k5).1)
    rw [k5] at this
    simpa [k6] using this
  | scan j x r s b k1 k2 k3 k4 k5 k6 ih =>
    have := h2 j (hj k1)
    rw [List.all_eq_true] at this
    have := this x ih
    rw [k2] at this
    simp only [k3] at this
    rw [if_pos k4, k5] at this
    simp only [k6, Bool.not_true, Bool.false_or, decide_eq_true_eq] at this
    exact this
  | comp j x r y r' s k1 k2 k3 k4 k5 k6 k7 k8 ih1 ih2 =>
    have := h2 j (hj k1)
    rw [List.all_eq_true] at this
    have := this x ih1
    rw [k2] at this
    simp only [List.getElem?_eq_none (show r.rhs.length ≤ x.dot by omega)] at this
    rw [List.all_eq_true] at this
    have := this y ih2
    rw [k5] at this
    simp only [k6, k8, decide_true, Bool.not_true, Bool.false_or, decide_eq_true_eq] at this
    exact this

def symE : KSym := ⟨0, ⟨0, 0, 0, 0⟩⟩
def symP : KSym := ⟨-1, ⟨8796093022208, 0, 0, 0⟩⟩
def symD : KSym := ⟨-1, ⟨287948901175001088, 0, 0, 0⟩⟩
/-- E > E "+" E, E > digit -/
def sumG : Gram := ⟨1, 0, [⟨0, [symE, symP, symE]⟩, ⟨0, [symD]⟩]⟩
theorem sum_digit : NtTx sumG.rules 0 [49] := ⟨⟨0, [symD]⟩, by decide, rfl, .term symD [] 49 [] (by decide) (by decide +kernel) .nil⟩
theorem sum_sum : NtTx sumG.rules 0 [49, 43, 49] := by
  obtain ⟨r, h1, h2, h3⟩ := sum_digit
  exact ⟨⟨0, [symE, symP, symE]⟩, by decide, rfl, .non symE [symP, symE] r [49] [43, 49] (by decide) h1 h2 h3 (.term symP [symE] 43 [49] (by decide) (by decide +kernel) (by
    have := Tx.non symE [] r [49] [] (by decide) h1 h2 h3 .nil
    simpa using this))⟩
def sumY (a i j : Nat) : Bool := a == 0 && ((i == 0 && j == 1) || (i == 0 && j == 3) || (i == 2 && j == 3))
def closedT (R : List Rule) (w : List Nat) (yf : Nat → Nat → Nat → Bool) : Bool := R.all fun r => (List.range (w.length + 1)).all fun i => (List.range (w.length + 1)).all fun j => decide (j < i) || !endB yf w r.rhs i r.rhs.length j || yf r.lhs.toNat i j
theorem closedT_ok {R : List Rule} {w : List Nat} {yf : Nat → Nat → Nat → Bool} (h : closedT R w yf = true) : TClosed R w yf := fun r hr i j hij hj he => by
  unfold closedT at h
  rw [List.all_eq_true] at h
  have h1 := h r hr
  rw [List.all_eq_true] at h1
  have h2 := h1 i (List.mem_range.2 (by omega))
  rw [List.all_eq_true] at h2
  have h3 := h2 j (List.mem_range.2 (by omega))
  rw [he] at h3
  simp only [Bool.not_true, Bool.or_false, Bool.or_eq_true, decide_eq_true_eq] at h3
  rcases h3 with h3 | h3
  · omega
  · exact h3
theorem sum_spans (i j : Nat) (hij : i ≤ j) (hj : j ≤ 3) : NtTx sumG.rules 0 (sub [49, 43, 49] i j) ↔ sumY 0 i j = true := by
  constructor
  · exact closed_full (closedT_ok (by decide +kernel)) 0 i j hij hj
  · intro h
    unfold sumY at h
    simp only [beq_self_eq_true, Bool.true_and, Bool.or_eq_true, Bool.and_eq_true, beq_iff_eq] at h
    rcases h with (⟨rfl, rfl⟩ | ⟨rfl, rfl⟩) | ⟨rfl, rfl⟩
    · exact sum_digit
    · exact sum_sum
    · exact sum_digit
def sumS : List (List Item) := [[⟨0, 0, 0⟩, ⟨1, 0, 0⟩], [⟨1, 1, 0⟩, ⟨0, 1, 0⟩], [⟨0, 2, 0⟩, ⟨0, 0, 2⟩, ⟨1, 0, 2⟩], []]
theorem sum_last {S : List (List Item)} (C : ∀ k x, x ∈ gs S k ↔ It sumG [49, 43, 43] k x) : gs S 3 = [] ∧ gs S 2 ≠ [] := by
  have hc : closedB sumG [49, 43, 43] sumS = true := by decide +kernel
  constructor
  · refine List.eq_nil_iff_forall_not_mem.2 fun x hx => ?_
    have := closedB_it hc ((C 3 x).1 hx)
    simp [gs, sumS] at this
  · intro h
    have i1 : It sumG [49, 43, 43] 0 ⟨1, 0, 0⟩ := .init 1 _ rfl rfl
    have i2 : It sumG [49, 43, 43] 1 ⟨1, 1, 0⟩ := .scan 0 ⟨1, 0, 0⟩ _ symD 49 i1 rfl rfl (by decide) rfl (by decide +kernel)
    have i3 : It sumG [49, 43, 43] 0 ⟨0, 0, 0⟩ := .init 0 _ rfl rfl
    have i4 : It sumG [49, 43, 43] 1 ⟨0, 1, 0⟩ := .comp 1 ⟨1, 1, 0⟩ _ ⟨0, 0, 0⟩ _ symE i2 rfl rfl i3 rfl rfl (by decide) rfl
    have i5 : It sumG [49, 43, 43] 2 ⟨0, 2, 0⟩ := .scan 1 ⟨0, 1, 0⟩ _ symP 43 i4 rfl rfl (by decide) rfl (by decide +kernel)
    have := (C 2 _).2 i5
    rw [h] at this
    cases this
end Go.Proofs.Ytafncpgiibikcaa

/- The fixed calls of the laws of layer 7. -/
namespace Go.Proofs.Ytafncpgiibikcaa
set_option linter.unusedSimpArgs false
set_option linter.unusedVariables false
set_option maxRecDepth 20000
open Go.RowKit Am Ty

theorem rdsyms_fresh {h : Heap} {id : Nat} {l : List KSym} (hl : l.length ≤ 1000000) (hg : h[id]? = some (.arr (l.flatMap KSym.cells) 0 true 43)) : RdSyms h (.slice (some ⟨id, 0, some 0⟩) l.length l.length) l := ⟨by omega, .inr ⟨id, 0, true, _, rfl, hg⟩⟩
set_option maxHeartbeats 4000000 in
theorem sum_fw {h : Heap} : FW env 35 [] h fun r h' => RdGram h' r sumG ∧ h <+: h' := by
  refine fw_enter (fn := Try.f35) Try.func35 rfl (by kernel_rfl) (by simp [Try.ntmps35]) ?_; simp only [push_cast]
  repeat (first | refine cw_seq ?_ | refine cw_region ?_ | refine ow_nil ?_ | refine qw_nil ?_ | refine cw_block ?_ | refine cw_scope ?_ | refine cw_label ?_ | refine cw_skip ?_)
  iterate 1 (apply ow_cons; · simp only [push_cast, env, Nat.reduceEqDiff, reduceIte, Nat.reduceAdd, Nat.reduceMul, Nat.reduceLeDiff, reduceCtorEq, Nat.reduceSub, Int.reduceToNat] <;> exact rfl)
  repeat (first | refine cw_seq ?_ | refine cw_region ?_ | refine ow_nil ?_ | refine qw_nil ?_ | refine cw_block ?_ | refine cw_scope ?_ | refine cw_label ?_ | refine cw_skip ?_)
  iterate 8 (apply ow_cons; · simp only [push_cast, env, Nat.reduceEqDiff, reduceIte, Nat.reduceAdd, Nat.reduceMul, Nat.reduceLeDiff, reduceCtorEq, Nat.reduceSub, Int.reduceToNat] <;> exact rfl)
  repeat (first | refine cw_seq ?_ | refine cw_region ?_ | refine ow_nil ?_ | refine qw_nil ?_ | refine cw_block ?_ | refine cw_scope ?_ | refine cw_label ?_ | refine cw_skip ?_)
  iterate 3 (apply ow_cons; · simp only [push_cast, env, Nat.reduceEqDiff, reduceIte, Nat.reduceAdd, Nat.reduceMul, Nat.reduceLeDiff, reduceCtorEq, Nat.reduceSub, Int.reduceToNat] <;> exact rfl)
  repeat (first | refine cw_seq ?_ | refine cw_region ?_ | refine ow_nil ?_ | refine qw_nil ?_ | refine cw_block ?_ | refine cw_scope ?_ | refine cw_label ?_ | refine cw_skip ?_)
  iterate 3 (apply ow_cons; · simp only [push_cast, env, Nat.reduceEqDiff, reduceIte, Nat.reduceAdd, Nat.reduceMul, Nat.reduceLeDiff, reduceCtorEq, Nat.reduceSub, Int.reduceToNat] <;> exact rfl)
  refine ow_bslH (by simp only [push_cast, env, Nat.reduceEqDiff, reduceIte, Nat.reduceAdd, Nat.reduceMul, Nat.reduceLeDiff, reduceCtorEq, Nat.reduceSub, Int.reduceToNat] <;> exact rfl) (by simp only [push_cast, env, Nat.reduceEqDiff, reduceIte, Nat.reduceAdd, Nat.reduceMul, Nat.reduceLeDiff, reduceCtorEq, Nat.reduceSub, Int.reduceToNat] <;> exact rfl) ?_
  simp only [St.putO, St.put]
  iterate 2 (apply ow_cons; · simp only [push_cast, env, Nat.reduceEqDiff, reduceIte, Nat.reduceAdd, Nat.reduceMul, Nat.reduceLeDiff, reduceCtorEq, Nat.reduceSub, Int.reduceToNat] <;> exact rfl)
  refine ow_bslH (by simp only [push_cast, env, Nat.reduceEqDiff, reduceIte, Nat.reduceAdd, Nat.reduceMul, Nat.reduceLeDiff, reduceCtorEq, Nat.reduceSub, Int.reduceToNat] <;> exact rfl) (by simp only [push_cast, env, Nat.reduceEqDiff, reduceIte, Nat.reduceAdd, Nat.reduceMul, Nat.reduceLeDiff, reduceCtorEq, Nat.reduceSub, Int.reduceToNat] <;> exact rfl) ?_
  simp only [St.putO, St.put, List.length_append, List.length_cons, List.length_nil, Nat.zero_add, List.append_assoc, List.cons_append, List.nil_append]
  iterate 1 (apply ow_cons; · simp only [push_cast, env, Nat.reduceEqDiff, reduceIte, Nat.reduceAdd, Nat.reduceMul, Nat.reduceLeDiff, reduceCtorEq, Nat.reduceSub, Int.reduceToNat] <;> exact rfl)
  refine ow_bslH (by simp only [push_cast, env, Nat.reduceEqDiff, reduceIte, Nat.reduceAdd, Nat.reduceMul, Nat.reduceLeDiff, reduceCtorEq, Nat.reduceSub, Int.reduceToNat] <;> exact rfl) (by simp only [push_cast, env, Nat.reduceEqDiff, reduceIte, Nat.reduceAdd, Nat.reduceMul, Nat.reduceLeDiff, reduceCtorEq, Nat.reduceSub, Int.reduceToNat] <;> exact rfl) ?_
  simp only [St.putO, St.put, List.length_append, List.length_cons, List.length_nil, Nat.zero_add, List.append_assoc, List.cons_append, List.nil_append]
  obtain ⟨H, hH⟩ : ∃ H : Heap, H = h ++ [HObj.arr ([symE, symP, symE].flatMap KSym.cells) 0 true 43, HObj.arr ([symD].flatMap KSym.cells) 0 true 43, HObj.arr [i64 0, .slice (some ⟨h.length, 0, some 0⟩) 3 3, i64 0, .slice (some ⟨h.length + 1, 0, some 0⟩) 1 1] 0 true 46] := ⟨_, rfl⟩
  show OW _ _ _ ⟨_, _, h ++ [HObj.arr ([symE, symP, symE].flatMap KSym.cells) 0 true 43, HObj.arr ([symD].flatMap KSym.cells) 0 true 43, HObj.arr [i64 0, .slice (some ⟨h.length, 0, some 0⟩) 3 3, i64 0, .slice (some ⟨h.length + 1, 0, some 0⟩) 1 1] 0 true 46]⟩ _
  rw [← hH]
  have q0 : H[h.length]? = some (HObj.arr ([symE, symP, symE].flatMap KSym.cells) 0 true 43) := by rw [hH]; simp
  have q1 : H[h.length + 1]? = some (HObj.arr ([symD].flatMap KSym.cells) 0 true 43) := by rw [hH, List.getElem?_append_right (by omega)]; simp
  have q2 : H[h.length + 2]? = some (HObj.arr [i64 0, .slice (some ⟨h.length, 0, some 0⟩) 3 3, i64 0, .slice (some ⟨h.length + 1, 0, some 0⟩) 1 1] 0 true 46) := by rw [hH, List.getElem?_append_right (by omega)]; simp
  have hp : h <+: H := by rw [hH]; exact List.prefix_append _ _
  clear hH
  repeat (first | refine cw_seq ?_ | refine cw_region ?_ | refine ow_nil ?_ | ((first | apply ow_cons | apply qw_cons); · simp only [push_cast, env, Nat.reduceEqDiff, reduceIte, Nat.reduceAdd, Nat.reduceMul, Nat.reduceLeDiff, reduceCtorEq, Nat.reduceSub, Int.reduceToNat] <;> exact rfl) | ((first | apply ow_spec | apply qw_spec); · simp only [push_cast, env, Nat.reduceEqDiff, reduceIte, Nat.reduceAdd, Nat.reduceMul, Nat.reduceLeDiff, reduceCtorEq, Nat.reduceSub, Int.reduceToNat] <;> exact rfl) | refine qw_nil ?_ | refine cw_block ?_ | refine cw_scope ?_ | refine cw_label ?_ | refine cw_skip ?_)
  refine cw_ret ?_
  refine ⟨_, (by simp only [push_cast, env, Nat.reduceEqDiff, reduceIte, Nat.reduceAdd, Nat.reduceMul, Nat.reduceLeDiff, reduceCtorEq, Nat.reduceSub, Int.reduceToNat] <;> exact rfl), ⟨_, rfl, [.slice (some ⟨h.length, 0, some 0⟩) 3 3, .slice (some ⟨h.length + 1, 0, some 0⟩) 1 1], rfl, ⟨by decide, .inr ⟨h.length + 2, 0, true, 2, rfl, q2⟩⟩, fun i r u h1 h2 => ?_⟩, hp⟩
  match i, h1, h2 with
  | 0, h1, h2 => cases h1; cases h2; exact rdsyms_fresh (l := [symE, symP, symE]) (by decide) q0
  | 1, h1, h2 => cases h1; cases h2; exact rdsyms_fresh (l := [symD]) (by decide) q1
  | i + 2, h1, h2 => simp [sumG] at h1
theorem sum_wf : WfG sumG := by
  intro r hr s hs
  simp only [sumG, List.mem_cons, List.not_mem_nil, or_false] at hr
  rcases hr with rfl | rfl
  · simp only [List.mem_cons, List.not_mem_nil, or_false] at hs
    rcases hs with rfl | rfl | rfl
    · exact ⟨⟨by decide, by decide⟩, ⟨by decide, by decide⟩, ⟨by decide, by decide⟩, ⟨by decide, by decide⟩⟩
    · exact ⟨⟨by decide, by decide⟩, ⟨by decide, by decide⟩, ⟨by decide, by decide⟩, ⟨by decide, by decide⟩⟩
    · exact ⟨⟨by decide, by decide⟩, ⟨by decide, by decide⟩, ⟨by decide, by decide⟩, ⟨by decide, by decide⟩⟩
  · simp only [List.mem_cons, List.not_mem_nil, or_false] at hs
    subst hs
    exact ⟨⟨by decide, by decide⟩, ⟨by decide, by decide⟩, ⟨by decide, by decide⟩, ⟨by decide, by decide⟩⟩
theorem sum_fit (w : List Nat) (hw : w.length ≤ 512) : fitE sumG w = 0 := fitE_ok.2 ⟨by decide, hw⟩
theorem sum_good : goodD sumG 0 := .mk ⟨0, [symD]⟩ (by decide) (fun s hs _ => by
  simp only [List.mem_cons, List.not_mem_nil, or_false] at hs
  subst hs
  unfold goodT
  decide) (fun s hs h0 => by
  simp only [List.mem_cons, List.not_mem_nil, or_false] at hs
  subst hs
  exact absurd h0 (by decide))
theorem sum_trim {m : List Bool} (hm : Marks sumG.nts (goodD sumG) m) : trG sumG m = sumG := by
  have hl : m.length = 1 := by have := hm.1; simp only [sumG] at this; omega
  match m, hl with
  | [b], _ =>
    have := (hm.2 0 (by decide) (by decide)).2 sum_good
    cases b with
    | true => rfl
    | false => cases this
set_option maxHeartbeats 1000000 in
theorem chartbad_fw {h : Heap} {g : Gram} {v wv : Value} {w : List Nat} (hr : RdGram h v g) (hwR : RdB h wv w) (hf : fitE g w ≠ 0) : FW env 24 [v, wv] h fun r h' => r = .tuple #[nilS, i64 (fitE g w)] ∧ h' = h := by
  obtain ⟨u, rfl, hu⟩ := id hr
  obtain ⟨p, c, rfl⟩ := hu.form
  obtain ⟨pw, cw, rfl⟩ := hwR.form
  have df : decide (fitE g w = 0) = false := decide_eq_false hf
  refine fw_enter (fn := Try.f24) Try.func24 rfl (by kernel_rfl) (by simp [Try.ntmps24]) ?_; simp only [push_cast]
  repeat (first | refine cw_seq ?_ | refine cw_region ?_ | refine ow_nil ?_ | ((first | apply ow_cons | apply qw_cons); · simp only [push_cast, env, Nat.reduceEqDiff, reduceIte, Nat.reduceAdd, Nat.reduceMul, Nat.reduceLeDiff, reduceCtorEq, Nat.reduceSub, Int.reduceToNat] <;> exact rfl) | ((first | apply ow_spec | apply qw_spec); · simp only [push_cast, env, Nat.reduceEqDiff, reduceIte, Nat.reduceAdd, Nat.reduceMul, Nat.reduceLeDiff, reduceCtorEq, Nat.reduceSub, Int.reduceToNat] <;> exact rfl) | refine qw_nil ?_ | refine cw_block ?_ | refine cw_scope ?_ | refine cw_label ?_ | refine cw_skip ?_)
  refine ow_call (fn := Try.f36) (by simp only [push_cast, env, Nat.reduceEqDiff, reduceIte, Nat.reduceAdd, Nat.reduceMul, Nat.reduceLeDiff, reduceCtorEq, Nat.reduceSub, Int.reduceToNat] <;> exact rfl) rfl (by simp only [push_cast, env, Nat.reduceEqDiff, reduceIte, Nat.reduceAdd, Nat.reduceMul, Nat.reduceLeDiff, reduceCtorEq, Nat.reduceSub, Int.reduceToNat] <;> exact rfl) (by simp only [push_cast, env, Nat.reduceEqDiff, reduceIte, Nat.reduceAdd, Nat.reduceMul, Nat.reduceLeDiff, reduceCtorEq, Nat.reduceSub, Int.reduceToNat] <;> exact rfl) Try.func36 (by kernel_rfl) (by kernel_rfl) ?_
  rw [List.append_nil]
  refine (fit_fw hr hwR).mono ?_
  rintro _ h ⟨rfl, rfl⟩
  repeat (first | refine cw_seq ?_ | refine cw_region ?_ | refine ow_nil ?_ | ((first | apply ow_cons | apply qw_cons); · simp only [push_cast, env, Nat.reduceEqDiff, reduceIte, Nat.reduceAdd, Nat.reduceMul, Nat.reduceLeDiff, reduceCtorEq, Nat.reduceSub, Int.reduceToNat, df] <;> exact rfl) | ((first | apply ow_spec | apply qw_spec); · simp only [push_cast, env, Nat.reduceEqDiff, reduceIte, Nat.reduceAdd, Nat.reduceMul, Nat.reduceLeDiff, reduceCtorEq, Nat.reduceSub, Int.reduceToNat, df] <;> exact rfl) | refine qw_nil ?_ | refine cw_block ?_ | refine cw_scope ?_ | refine cw_label ?_ | refine cw_skip ?_)
  refine cw_condT (by simp only [push_cast, env, Nat.reduceEqDiff, reduceIte, Nat.reduceAdd, Nat.reduceMul, Nat.reduceLeDiff, reduceCtorEq, Nat.reduceSub, Int.reduceToNat, df] <;> exact rfl) ?_
  repeat (first | refine cw_seq ?_ | refine cw_region ?_ | refine ow_nil ?_ | ((first | apply ow_cons | apply qw_cons); · simp only [push_cast, env, Nat.reduceEqDiff, reduceIte, Nat.reduceAdd, Nat.reduceMul, Nat.reduceLeDiff, reduceCtorEq, Nat.reduceSub, Int.reduceToNat] <;> exact rfl) | ((first | apply ow_spec | apply qw_spec); · simp only [push_cast, env, Nat.reduceEqDiff, reduceIte, Nat.reduceAdd, Nat.reduceMul, Nat.reduceLeDiff, reduceCtorEq, Nat.reduceSub, Int.reduceToNat] <;> exact rfl) | refine qw_nil ?_ | refine cw_block ?_ | refine cw_scope ?_ | refine cw_label ?_ | refine cw_skip ?_)
  refine cw_ret ?_
  exact ⟨_, (by simp only [push_cast, env, Nat.reduceEqDiff, reduceIte, Nat.reduceAdd, Nat.reduceMul, Nat.reduceLeDiff, reduceCtorEq, Nat.reduceSub, Int.reduceToNat] <;> exact rfl), rfl, rfl⟩
theorem rdb_fresh {h : Heap} {id ver : Nat} {own : Bool} {w : List Nat} (hl : w.length ≤ 1000000) (hb : ∀ b ∈ w, b < 256) (hg : h[id]? = some (.arr (w.map fun n : Nat => u8 n) ver own 5)) : RdB h (.slice (some ⟨id, 0, some ver⟩) w.length w.length) w :=
  ⟨by omega, hb, .inr ⟨id, 0, ver, own, _, _, rfl, hg, fun i b hi => by rw [Nat.zero_add, List.getElem?_map, hi]; rfl⟩⟩
theorem und_bytes : env.P.underlying 25 = some (.slice 5) := by kernel_rfl
theorem und_u8 : env.P.underlying 5 = some (.int .u8) := by kernel_rfl
theorem spanAll_congr {P Q : Nat → Nat → Bool} {n : Nat} (hP : ∀ i j, i ≤ j → j ≤ n → P i j = Q i j) : ∀ k, k ≤ n + 1 → spanAll P n k = spanAll Q n k
  | 0, _ => rfl
  | k + 1, hk => by
    rw [spanAll_succ, spanAll_succ, spanAll_congr hP k (by omega)]
    congr 1
    unfold spanRow
    congr 1
    apply List.filter_congr
    intro j hj
    rw [List.mem_range] at hj
    exact hP k (k + j) (by omega) (by omega)
set_option maxHeartbeats 4000000 in
theorem alive7_run : FW env 14 [] [] fun r _ => r = .bool true := by
  refine fw_enter (fn := Try.f14) Try.func14 rfl (by kernel_rfl) (by simp [Try.ntmps14]) ?_; simp only [push_cast]
  repeat (first | refine cw_seq ?_ | refine cw_region ?_ | refine ow_nil ?_ | ((first | apply ow_cons | apply qw_cons); · simp only [push_cast, env, Nat.reduceEqDiff, reduceIte, Nat.reduceAdd, Nat.reduceMul, Nat.reduceLeDiff, reduceCtorEq, Nat.reduceSub, Int.reduceToNat] <;> exact rfl) | ((first | apply ow_spec | apply qw_spec); · simp only [push_cast, env, Nat.reduceEqDiff, reduceIte, Nat.reduceAdd, Nat.reduceMul, Nat.reduceLeDiff, reduceCtorEq, Nat.reduceSub, Int.reduceToNat] <;> exact rfl) | refine qw_nil ?_ | refine cw_block ?_ | refine cw_scope ?_ | refine cw_label ?_ | refine cw_skip ?_)
  refine ow_call (fn := Try.f35) (by simp only [push_cast, env, Nat.reduceEqDiff, reduceIte, Nat.reduceAdd, Nat.reduceMul, Nat.reduceLeDiff, reduceCtorEq, Nat.reduceSub, Int.reduceToNat] <;> exact rfl) rfl (by simp only [push_cast, env, Nat.reduceEqDiff, reduceIte, Nat.reduceAdd, Nat.reduceMul, Nat.reduceLeDiff, reduceCtorEq, Nat.reduceSub, Int.reduceToNat] <;> exact rfl) (by simp only [push_cast, env, Nat.reduceEqDiff, reduceIte, Nat.reduceAdd, Nat.reduceMul, Nat.reduceLeDiff, reduceCtorEq, Nat.reduceSub, Int.reduceToNat] <;> exact rfl) Try.func35 (by kernel_rfl) (by kernel_rfl) ?_
  refine sum_fw.mono ?_
  rintro v1 h1 ⟨hr1, hp1⟩
  obtain ⟨u1, rfl, hu1⟩ := id hr1
  obtain ⟨p1, c1, rfl⟩ := hu1.form
  refine ow_bslH (by simp only [push_cast, env, Nat.reduceEqDiff, reduceIte, Nat.reduceAdd, Nat.reduceMul, Nat.reduceLeDiff, reduceCtorEq, Nat.reduceSub, Int.reduceToNat] <;> exact rfl) (by simp only [push_cast, env, Nat.reduceEqDiff, reduceIte, Nat.reduceAdd, Nat.reduceMul, Nat.reduceLeDiff, reduceCtorEq, Nat.reduceSub, Int.reduceToNat] <;> exact rfl) ?_
  simp only [St.putO, St.put]
  refine ow_frz (cells := [u8 49, u8 43, u8 49]) (by simp only [push_cast, env, Nat.reduceEqDiff, reduceIte, Nat.reduceAdd, Nat.reduceMul, Nat.reduceLeDiff, reduceCtorEq, Nat.reduceSub, Int.reduceToNat] <;> exact rfl) rfl und_bytes und_u8 (by simp only [push_cast, env, Nat.reduceEqDiff, reduceIte, Nat.reduceAdd, Nat.reduceMul, Nat.reduceLeDiff, reduceCtorEq, Nat.reduceSub, Int.reduceToNat] <;> exact rfl) get_push (by decide) ?_
  simp only [St.putO, St.put]
  have hs1 : (h1 ++ [HObj.arr [u8 49, u8 43, u8 49] 0 true 5]).set h1.length (HObj.arr [u8 49, u8 43, u8 49] 0 false 5) = h1 ++ [HObj.arr [u8 49, u8 43, u8 49] 0 false 5] := by simp
  rw [hs1]
  have hb1 : RdB (h1 ++ [HObj.arr [u8 49, u8 43, u8 49] 0 false 5]) (.slice (some ⟨h1.length, 0, some 0⟩) 3 3) [49, 43, 49] := rdb_fresh (w := [49, 43, 49]) (by decide) (by decide) get_push
  have hg1 := hr1.mono (h' := h1 ++ [HObj.arr [u8 49, u8 43, u8 49] 0 false 5]) prefix_push
  repeat (first | refine cw_seq ?_ | refine cw_region ?_ | refine ow_nil ?_ | ((first | apply ow_cons | apply qw_cons); · simp only [push_cast, env, Nat.reduceEqDiff, reduceIte, Nat.reduceAdd, Nat.reduceMul, Nat.reduceLeDiff, reduceCtorEq, Nat.reduceSub, Int.reduceToNat] <;> exact rfl) | ((first | apply ow_spec | apply qw_spec); · simp only [push_cast, env, Nat.reduceEqDiff, reduceIte, Nat.reduceAdd, Nat.reduceMul, Nat.reduceLeDiff, reduceCtorEq, Nat.reduceSub, Int.reduceToNat] <;> exact rfl) | refine qw_nil ?_ | refine cw_block ?_ | refine cw_scope ?_ | refine cw_label ?_ | refine cw_skip ?_)
  refine ow_call (fn := Try.f15) (by simp only [push_cast, env, Nat.reduceEqDiff, reduceIte, Nat.reduceAdd, Nat.reduceMul, Nat.reduceLeDiff, reduceCtorEq, Nat.reduceSub, Int.reduceToNat] <;> exact rfl) rfl (by simp only [push_cast, env, Nat.reduceEqDiff, reduceIte, Nat.reduceAdd, Nat.reduceMul, Nat.reduceLeDiff, reduceCtorEq, Nat.reduceSub, Int.reduceToNat] <;> exact rfl) (by simp only [push_cast, env, Nat.reduceEqDiff, reduceIte, Nat.reduceAdd, Nat.reduceMul, Nat.reduceLeDiff, reduceCtorEq, Nat.reduceSub, Int.reduceToNat] <;> exact rfl) Try.func15 (by kernel_rfl) (by kernel_rfl) ?_
  rw [List.append_nil]
  refine (accepts_fw hg1 hb1 sum_wf).mono ?_
  rintro _ ha1 ⟨⟨b1, rfl, _, k1⟩, hpa1⟩
  have hb1t : b1 = true := (k1 (sum_fit _ (by decide))).2 sum_sum
  subst hb1t
  rw [sum_fit [49, 43, 49] (by decide)]
  clear hg1 hb1 hs1 hr1 hu1 k1
  repeat (first | refine cw_seq ?_ | refine cw_region ?_ | refine ow_nil ?_ | ((first | apply ow_cons | apply qw_cons); · simp only [push_cast, env, Nat.reduceEqDiff, reduceIte, Nat.reduceAdd, Nat.reduceMul, Nat.reduceLeDiff, reduceCtorEq, Nat.reduceSub, Int.reduceToNat] <;> exact rfl) | ((first | apply ow_spec | apply qw_spec); · simp only [push_cast, env, Nat.reduceEqDiff, reduceIte, Nat.reduceAdd, Nat.reduceMul, Nat.reduceLeDiff, reduceCtorEq, Nat.reduceSub, Int.reduceToNat] <;> exact rfl) | refine qw_nil ?_ | refine cw_block ?_ | refine cw_scope ?_ | refine cw_label ?_ | refine cw_skip ?_)
  refine ow_call (fn := Try.f35) (by simp only [push_cast, env, Nat.reduceEqDiff, reduceIte, Nat.reduceAdd, Nat.reduceMul, Nat.reduceLeDiff, reduceCtorEq, Nat.reduceSub, Int.reduceToNat] <;> exact rfl) rfl (by simp only [push_cast, env, Nat.reduceEqDiff, reduceIte, Nat.reduceAdd, Nat.reduceMul, Nat.reduceLeDiff, reduceCtorEq, Nat.reduceSub, Int.reduceToNat] <;> exact rfl) (by simp only [push_cast, env, Nat.reduceEqDiff, reduceIte, Nat.reduceAdd, Nat.reduceMul, Nat.reduceLeDiff, reduceCtorEq, Nat.reduceSub, Int.reduceToNat] <;> exact rfl) Try.func35 (by kernel_rfl) (by kernel_rfl) ?_
  refine sum_fw.mono ?_
  rintro v2 h2 ⟨hr2, hp2⟩
  obtain ⟨u2, rfl, hu2⟩ := id hr2
  obtain ⟨p2, c2, rfl⟩ := hu2.form
  refine ow_bslH (by simp only [push_cast, env, Nat.reduceEqDiff, reduceIte, Nat.reduceAdd, Nat.reduceMul, Nat.reduceLeDiff, reduceCtorEq, Nat.reduceSub, Int.reduceToNat] <;> exact rfl) (by simp only [push_cast, env, Nat.reduceEqDiff, reduceIte, Nat.reduceAdd, Nat.reduceMul, Nat.reduceLeDiff, reduceCtorEq, Nat.reduceSub, Int.reduceToNat] <;> exact rfl) ?_
  simp only [St.putO, St.put]
  refine ow_frz (cells := [u8 49, u8 43, u8 43]) (by simp only [push_cast, env, Nat.reduceEqDiff, reduceIte, Nat.reduceAdd, Nat.reduceMul, Nat.reduceLeDiff, reduceCtorEq, Nat.reduceSub, Int.reduceToNat] <;> exact rfl) rfl und_bytes und_u8 (by simp only [push_cast, env, Nat.reduceEqDiff, reduceIte, Nat.reduceAdd, Nat.reduceMul, Nat.reduceLeDiff, reduceCtorEq, Nat.reduceSub, Int.reduceToNat] <;> exact rfl) get_push (by decide) ?_
  simp only [St.putO, St.put]
  have hs2 : (h2 ++ [HObj.arr [u8 49, u8 43, u8 43] 0 true 5]).set h2.length (HObj.arr [u8 49, u8 43, u8 43] 0 false 5) = h2 ++ [HObj.arr [u8 49, u8 43, u8 43] 0 false 5] := by simp
  rw [hs2]
  have hb2 : RdB (h2 ++ [HObj.arr [u8 49, u8 43, u8 43] 0 false 5]) (.slice (some ⟨h2.length, 0, some 0⟩) 3 3) [49, 43, 43] := rdb_fresh (w := [49, 43, 43]) (by decide) (by decide) get_push
  have hg2 := hr2.mono (h' := h2 ++ [HObj.arr [u8 49, u8 43, u8 43] 0 false 5]) prefix_push
  repeat (first | refine cw_seq ?_ | refine cw_region ?_ | refine ow_nil ?_ | ((first | apply ow_cons | apply qw_cons); · simp only [push_cast, env, Nat.reduceEqDiff, reduceIte, Nat.reduceAdd, Nat.reduceMul, Nat.reduceLeDiff, reduceCtorEq, Nat.reduceSub, Int.reduceToNat] <;> exact rfl) | ((first | apply ow_spec | apply qw_spec); · simp only [push_cast, env, Nat.reduceEqDiff, reduceIte, Nat.reduceAdd, Nat.reduceMul, Nat.reduceLeDiff, reduceCtorEq, Nat.reduceSub, Int.reduceToNat] <;> exact rfl) | refine qw_nil ?_ | refine cw_block ?_ | refine cw_scope ?_ | refine cw_label ?_ | refine cw_skip ?_)
  refine ow_call (fn := Try.f17) (by simp only [push_cast, env, Nat.reduceEqDiff, reduceIte, Nat.reduceAdd, Nat.reduceMul, Nat.reduceLeDiff, reduceCtorEq, Nat.reduceSub, Int.reduceToNat] <;> exact rfl) rfl (by simp only [push_cast, env, Nat.reduceEqDiff, reduceIte, Nat.reduceAdd, Nat.reduceMul, Nat.reduceLeDiff, reduceCtorEq, Nat.reduceSub, Int.reduceToNat] <;> exact rfl) (by simp only [push_cast, env, Nat.reduceEqDiff, reduceIte, Nat.reduceAdd, Nat.reduceMul, Nat.reduceLeDiff, reduceCtorEq, Nat.reduceSub, Int.reduceToNat] <;> exact rfl) Try.func17 (by kernel_rfl) (by kernel_rfl) ?_
  rw [List.append_nil]
  refine (last_fw hg2 hb2 sum_wf).mono ?_
  rintro _ ha2 ⟨⟨n2, rfl, _, k2⟩, hpa2⟩
  have hn2 : n2 = 2 := by
    obtain ⟨m, S, hm, C, e⟩ := k2 (sum_fit _ (by decide))
    rw [sum_trim hm] at C
    obtain ⟨q1, q2⟩ := sum_last C.m
    rw [e]
    show lastK S 4 = 2
    unfold lastK
    rw [if_neg (by rw [q1]; decide)]
    unfold lastK
    rw [if_pos (List.length_pos_iff.2 q2)]
    rfl
  subst hn2
  rw [sum_fit [49, 43, 43] (by decide)]
  clear hg2 hb2 hs2 hr2 hu2 k2
  repeat (first | refine cw_seq ?_ | refine cw_region ?_ | refine ow_nil ?_ | ((first | apply ow_cons | apply qw_cons); · simp only [push_cast, env, Nat.reduceEqDiff, reduceIte, Nat.reduceAdd, Nat.reduceMul, Nat.reduceLeDiff, reduceCtorEq, Nat.reduceSub, Int.reduceToNat] <;> exact rfl) | ((first | apply ow_spec | apply qw_spec); · simp only [push_cast, env, Nat.reduceEqDiff, reduceIte, Nat.reduceAdd, Nat.reduceMul, Nat.reduceLeDiff, reduceCtorEq, Nat.reduceSub, Int.reduceToNat] <;> exact rfl) | refine qw_nil ?_ | refine cw_block ?_ | refine cw_scope ?_ | refine cw_label ?_ | refine cw_skip ?_)
  refine ow_call (fn := Try.f35) (by simp only [push_cast, env, Nat.reduceEqDiff, reduceIte, Nat.reduceAdd, Nat.reduceMul, Nat.reduceLeDiff, reduceCtorEq, Nat.reduceSub, Int.reduceToNat] <;> exact rfl) rfl (by simp only [push_cast, env, Nat.reduceEqDiff, reduceIte, Nat.reduceAdd, Nat.reduceMul, Nat.reduceLeDiff, reduceCtorEq, Nat.reduceSub, Int.reduceToNat] <;> exact rfl) (by simp only [push_cast, env, Nat.reduceEqDiff, reduceIte, Nat.reduceAdd, Nat.reduceMul, Nat.reduceLeDiff, reduceCtorEq, Nat.reduceSub, Int.reduceToNat] <;> exact rfl) Try.func35 (by kernel_rfl) (by kernel_rfl) ?_
  refine sum_fw.mono ?_
  rintro v3 h3 ⟨hr3, hp3⟩
  obtain ⟨u3, rfl, hu3⟩ := id hr3
  obtain ⟨p3, c3, rfl⟩ := hu3.form
  refine ow_bslH (by simp only [push_cast, env, Nat.reduceEqDiff, reduceIte, Nat.reduceAdd, Nat.reduceMul, Nat.reduceLeDiff, reduceCtorEq, Nat.reduceSub, Int.reduceToNat] <;> exact rfl) (by simp only [push_cast, env, Nat.reduceEqDiff, reduceIte, Nat.reduceAdd, Nat.reduceMul, Nat.reduceLeDiff, reduceCtorEq, Nat.reduceSub, Int.reduceToNat] <;> exact rfl) ?_
  simp only [St.putO, St.put]
  refine ow_frz (cells := [u8 49, u8 43, u8 49]) (by simp only [push_cast, env, Nat.reduceEqDiff, reduceIte, Nat.reduceAdd, Nat.reduceMul, Nat.reduceLeDiff, reduceCtorEq, Nat.reduceSub, Int.reduceToNat] <;> exact rfl) rfl und_bytes und_u8 (by simp only [push_cast, env, Nat.reduceEqDiff, reduceIte, Nat.reduceAdd, Nat.reduceMul, Nat.reduceLeDiff, reduceCtorEq, Nat.reduceSub, Int.reduceToNat] <;> exact rfl) get_push (by decide) ?_
  simp only [St.putO, St.put]
  have hs3 : (h3 ++ [HObj.arr [u8 49, u8 43, u8 49] 0 true 5]).set h3.length (HObj.arr [u8 49, u8 43, u8 49] 0 false 5) = h3 ++ [HObj.arr [u8 49, u8 43, u8 49] 0 false 5] := by simp
  rw [hs3]
  have hb3 : RdB (h3 ++ [HObj.arr [u8 49, u8 43, u8 49] 0 false 5]) (.slice (some ⟨h3.length, 0, some 0⟩) 3 3) [49, 43, 49] := rdb_fresh (w := [49, 43, 49]) (by decide) (by decide) get_push
  have hg3 := hr3.mono (h' := h3 ++ [HObj.arr [u8 49, u8 43, u8 49] 0 false 5]) prefix_push
  repeat (first | refine cw_seq ?_ | refine cw_region ?_ | refine ow_nil ?_ | ((first | apply ow_cons | apply qw_cons); · simp only [push_cast, env, Nat.reduceEqDiff, reduceIte, Nat.reduceAdd, Nat.reduceMul, Nat.reduceLeDiff, reduceCtorEq, Nat.reduceSub, Int.reduceToNat] <;> exact rfl) | ((first | apply ow_spec | apply qw_spec); · simp only [push_cast, env, Nat.reduceEqDiff, reduceIte, Nat.reduceAdd, Nat.reduceMul, Nat.reduceLeDiff, reduceCtorEq, Nat.reduceSub, Int.reduceToNat] <;> exact rfl) | refine qw_nil ?_ | refine cw_block ?_ | refine cw_scope ?_ | refine cw_label ?_ | refine cw_skip ?_)
  refine ow_call (fn := Try.f19) (by simp only [push_cast, env, Nat.reduceEqDiff, reduceIte, Nat.reduceAdd, Nat.reduceMul, Nat.reduceLeDiff, reduceCtorEq, Nat.reduceSub, Int.reduceToNat] <;> exact rfl) rfl (by simp only [push_cast, env, Nat.reduceEqDiff, reduceIte, Nat.reduceAdd, Nat.reduceMul, Nat.reduceLeDiff, reduceCtorEq, Nat.reduceSub, Int.reduceToNat] <;> exact rfl) (by simp only [push_cast, env, Nat.reduceEqDiff, reduceIte, Nat.reduceAdd, Nat.reduceMul, Nat.reduceLeDiff, reduceCtorEq, Nat.reduceSub, Int.reduceToNat] <;> exact rfl) Try.func19 (by kernel_rfl) (by kernel_rfl) ?_
  rw [List.append_nil]
  refine (spans_fw (nt := 0) hg3 hb3 sum_wf).mono ?_
  rintro _ ha3 ⟨k3, hpa3⟩
  have hf3 := sum_fit [49, 43, 49] (by decide)
  obtain ⟨x3, e3, rfl, ⟨q, _⟩ | ⟨_, q, _⟩ | ⟨_, _, _, rfl, hG3⟩⟩ := k3
  · exact (q hf3).elim
  · exact absurd q (by decide)
  have hl3 : spanAll (ntB sumG.rules 0 [49, 43, 49]) 3 4 = [(0, 1), (0, 3), (2, 3)] := by
    have hP : ∀ i j, i ≤ j → j ≤ 3 → ntB sumG.rules 0 [49, 43, 49] i j = sumY 0 i j := fun i j hij hj => by
      rw [Bool.eq_iff_iff, ntB_iff]
      exact sum_spans i j hij hj
    have e : spanAll (ntB sumG.rules 0 [49, 43, 49]) 3 4 = spanAll (sumY 0) 3 4 := spanAll_congr hP 4 (by omega)
    rw [e]
    decide
  rw [show ([49, 43, 49] : List Nat).length = 3 from rfl, hl3] at hG3
  obtain ⟨i3, v3, _, rfl, hg3'⟩ := hG3.mine (by decide)
  clear hg3 hb3 hs3 hr3 hu3
  repeat (first | refine cw_seq ?_ | refine cw_region ?_ | refine ow_nil ?_ | ((first | apply ow_cons | apply qw_cons); · simp only [push_cast, env, Nat.reduceEqDiff, reduceIte, Nat.reduceAdd, Nat.reduceMul, Nat.reduceLeDiff, reduceCtorEq, Nat.reduceSub, Int.reduceToNat] <;> exact rfl) | ((first | apply ow_spec | apply qw_spec); · simp only [push_cast, env, Nat.reduceEqDiff, reduceIte, Nat.reduceAdd, Nat.reduceMul, Nat.reduceLeDiff, reduceCtorEq, Nat.reduceSub, Int.reduceToNat] <;> exact rfl) | refine qw_nil ?_ | refine cw_block ?_ | refine cw_scope ?_ | refine cw_label ?_ | refine cw_skip ?_)
  refine ow_call (fn := Try.f24) (by simp only [push_cast, env, Nat.reduceEqDiff, reduceIte, Nat.reduceAdd, Nat.reduceMul, Nat.reduceLeDiff, reduceCtorEq, Nat.reduceSub, Int.reduceToNat] <;> exact rfl) rfl (by simp only [push_cast, env, Nat.reduceEqDiff, reduceIte, Nat.reduceAdd, Nat.reduceMul, Nat.reduceLeDiff, reduceCtorEq, Nat.reduceSub, Int.reduceToNat] <;> exact rfl) (by simp only [push_cast, env, Nat.reduceEqDiff, reduceIte, Nat.reduceAdd, Nat.reduceMul, Nat.reduceLeDiff, reduceCtorEq, Nat.reduceSub, Int.reduceToNat] <;> exact rfl) Try.func24 (by kernel_rfl) (by kernel_rfl) ?_
  rw [List.append_nil]
  have hf4 : fitE ⟨0, 0, []⟩ [] = 3 := by unfold fitE; rw [if_pos (by decide)]
  refine (chartbad_fw (g := ⟨0, 0, []⟩) (w := []) ⟨_, rfl, [], rfl, ⟨by decide, .inl ⟨.inl rfl, rfl, rfl⟩⟩, fun i r u h => by simp at h⟩ ⟨by decide, by decide, .inl ⟨.inl rfl, rfl⟩⟩ (by rw [hf4]; decide)).mono ?_
  rintro _ h4 ⟨rfl, rfl⟩
  rw [hf4]
  have hrun : rdH (runCells [(0, 1), (0, 3), (2, 3)]) 2 2 = some [i64 0, i64 3] := rfl
  repeat (first | refine cw_seq ?_ | refine cw_region ?_ | refine ow_nil ?_ | ((first | apply ow_cons | apply qw_cons); · simp only [push_cast, env, Nat.reduceEqDiff, reduceIte, Nat.reduceAdd, Nat.reduceMul, Nat.reduceLeDiff, reduceCtorEq, Nat.reduceSub, Int.reduceToNat, hg3', hrun, Int.reduceLE, Int.reduceLT, Int.reduceToNat, Nat.reduceMul, Int.reduceEq, List.length_cons, List.length_nil] <;> exact rfl) | ((first | apply ow_spec | apply qw_spec); · simp only [push_cast, env, Nat.reduceEqDiff, reduceIte, Nat.reduceAdd, Nat.reduceMul, Nat.reduceLeDiff, reduceCtorEq, Nat.reduceSub, Int.reduceToNat, hg3', hrun, Int.reduceLE, Int.reduceLT, Int.reduceToNat, Nat.reduceMul, Int.reduceEq, List.length_cons, List.length_nil] <;> exact rfl) | refine qw_nil ?_ | refine cw_block ?_ | refine cw_scope ?_ | refine cw_label ?_ | refine cw_skip ?_)
  refine cw_ret ?_
  exact ⟨_, (by simp only [push_cast, env, Nat.reduceEqDiff, reduceIte, Nat.reduceAdd, Nat.reduceMul, Nat.reduceLeDiff, reduceCtorEq, Nat.reduceSub, Int.reduceToNat] <;> exact rfl), rfl⟩
theorem alive7_fw {h : Heap} : FW env 14 [] h fun r h' => r = .bool true ∧ h' = h := by
  have k := alive7_run
  unfold FW at k ⊢
  obtain ⟨r, h', k1, rfl⟩ := k
  exact ⟨_, _, .fresh k1 (.pure1 rfl), rfl, rfl⟩
end Go.Proofs.Ytafncpgiibikcaa

/- Texts that a row reads. -/
namespace Go.Proofs.Ytafncpgiibikcaa
set_option linter.unusedSimpArgs false
set_option linter.unusedVariables false
set_option maxRecDepth 20000
open Go.ChangeShapes Go.WideShapes Go.ChangeAt Go.RowKit Am Ty

def textTs : List TypeId := [24, 3, 22, 46, 44, 43, 41, 39, 25, 5]
set_option maxRecDepth 100000 in
theorem textTs_ok : textTs.all (kindB Try.prog textTs) = true := by kernel_rfl
theorem rd_u8 {h : Heap} {n : Nat} {vs : List Value} (k : RdT Try.prog h n 5 vs) : ∃ b : Nat, vs = [u8 b] ∧ b < 256 := by
  cases n with
  | zero => exact k.elim
  | succ n =>
    unfold RdT at k
    rw [show Try.prog.underlying 5 = some (.int .u8) by kernel_rfl] at k
    obtain ⟨i, h1, h2⟩ := k
    simp only [Lit.wf, Bool.and_eq_true, decide_eq_true_eq] at h2
    have e1 : IntKind.u8.min = 0 := by decide
    have e2 : IntKind.u8.max = 255 := by decide
    refine ⟨i.toNat, ?_, by omega⟩
    rw [h1, show ((i.toNat : Nat) : Int) = i by omega]
theorem flat_u8 {f : Nat → Value} : ∀ w : List Nat, w.flatMap (fun n => [f n]) = w.map f
  | [] => rfl
  | b :: w => by rw [List.flatMap_cons, flat_u8 w]; rfl
theorem rd_bytes {h : Heap} {n : Nat} {vs : List Value} (k : RdT Try.prog h n 25 vs) : ∃ u w, vs = [u] ∧ RdB h u w := by
  cases n with
  | zero => exact k.elim
  | succ n =>
    unfold RdT at k
    rw [show Try.prog.underlying 25 = some (.slice 5) by kernel_rfl] at k
    rcases k with rfl | rfl | ⟨id, len, c, cells, rfl, hb, hid, he⟩
    · exact ⟨_, [], rfl, by decide, by decide, .inl ⟨.inl rfl, rfl⟩⟩
    · exact ⟨_, [], rfl, by decide, by decide, .inl ⟨.inr rfl, rfl⟩⟩
    · obtain ⟨w, rfl, rfl, hq⟩ := es_map (f := fun n : Nat => [u8 n]) (Q := fun n => n < 256) (fun vs h => rd_u8 h) he
      rw [show Try.prog.bytesOf 5 = 1 by kernel_rfl, Nat.mul_one] at hb
      rw [flat_u8] at hid
      exact ⟨_, w, rfl, Nat.le_trans hb (by decide), hq, .inr ⟨id, 0, 0, false, c, _, rfl, hid, fun i b hi => by rw [Nat.zero_add, List.getElem?_map, hi]; rfl⟩⟩
theorem rda_bytes {h : Heap} {a : Value} (k : RdA Try.prog h 25 a) : ∃ w : List Nat, RdB h a w := by
  obtain ⟨n, vs, k, ⟨h1, _⟩ | ⟨_, rfl⟩⟩ := k
  · have : isAggT Try.prog 25 = false := by kernel_rfl
    rw [this] at h1
    cases h1
  · obtain ⟨u, w, e, hw⟩ := rd_bytes k
    exact ⟨w, by rw [show a = u by simpa using e]; exact hw⟩
end Go.Proofs.Ytafncpgiibikcaa

/- EarleySpans, as the abstract machine runs it. -/
namespace Go.Proofs.Ytafncpgiibikcaa
set_option linter.unusedSimpArgs false
set_option linter.unusedVariables false
set_option maxRecDepth 20000
open Go.RowKit Am Ty

theorem spanAll_small {P : Nat → Nat → Bool} {n : Nat} (hn : n ≤ 512) : (spanAll P n (n + 1)).length ≤ 263169 := by
  have h1 := spanAll_len (P := P) (n := n) (n + 1)
  have h2 : (n + 1) * (n + 1) ≤ 513 * 513 := Nat.mul_le_mul (by omega) (by omega)
  omega
/-- what is told of spans, as two lists -/
theorem SpansR.runs {g : Gram} {w : List Nat} {nt : Int} {h h' : Heap} {r : Value} (k : SpansR g w nt h r h') : ∃ x e l, r = .tuple #[x, i64 e] ∧ RdRuns h' x l ∧
    ((fitE g w ≠ 0 ∧ l = [] ∧ e = fitE g w) ∨ (fitE g w = 0 ∧ (nt < 0 ∨ g.nts ≤ nt) ∧ l = [] ∧ e = 1) ∨ (fitE g w = 0 ∧ 0 ≤ nt ∧ nt < g.nts ∧ e = 0 ∧ l = spanAll (ntB g.rules nt w) w.length (w.length + 1))) := by
  obtain ⟨x, e, rfl, ⟨h1, rfl, rfl⟩ | ⟨h1, h2, rfl, rfl⟩ | ⟨h1, h2, h3, rfl, hG⟩⟩ := k
  · exact ⟨nilS, _, [], rfl, ⟨by simp, .inl ⟨.inl rfl, rfl, rfl⟩⟩, .inl ⟨h1, rfl, rfl⟩⟩
  · exact ⟨nilS, _, [], rfl, ⟨by simp, .inl ⟨.inl rfl, rfl, rfl⟩⟩, .inr (.inl ⟨h1, h2, rfl, rfl⟩)⟩
  · have := spanAll_small (P := ntB g.rules nt w) (fitE_ok.1 h1).2
    exact ⟨x, _, _, rfl, hG.sl (b := 16) (by omega), .inr (.inr ⟨h1, h2, h3, rfl, rfl⟩)⟩
set_option maxHeartbeats 4000000 in
theorem earleyspans_fw {h : Heap} {g : Gram} {v wv : Value} {w : List Nat} {nt : Int} (hr : RdGram h v g) (hwR : RdB h wv w) (hn : -9223372036854775808 ≤ g.nts) (W : WfG g) : FW env 5 [v, wv, i64 nt] h fun r _ => r = .bool true := by
  obtain ⟨u, rfl, hu⟩ := id hr
  obtain ⟨p, c, rfl⟩ := hu.form
  obtain ⟨pw, cw, rfl⟩ := hwR.form
  refine fw_enter (fn := Try.f5) Try.func5 rfl (by kernel_rfl) (by simp [Try.ntmps5]) ?_; simp only [push_cast]
  repeat (first | refine cw_seq ?_ | refine cw_region ?_ | refine ow_nil ?_ | ((first | apply ow_cons | apply qw_cons); · simp only [push_cast, env, Nat.reduceEqDiff, reduceIte, Nat.reduceAdd, Nat.reduceMul, Nat.reduceLeDiff, reduceCtorEq, Nat.reduceSub, Int.reduceToNat] <;> exact rfl) | ((first | apply ow_spec | apply qw_spec); · simp only [push_cast, env, Nat.reduceEqDiff, reduceIte, Nat.reduceAdd, Nat.reduceMul, Nat.reduceLeDiff, reduceCtorEq, Nat.reduceSub, Int.reduceToNat] <;> exact rfl) | refine qw_nil ?_ | refine cw_block ?_ | refine cw_scope ?_ | refine cw_label ?_ | refine cw_skip ?_)
  refine ow_call (fn := Try.f13) (by simp only [push_cast, env, Nat.reduceEqDiff, reduceIte, Nat.reduceAdd, Nat.reduceMul, Nat.reduceLeDiff, reduceCtorEq, Nat.reduceSub, Int.reduceToNat] <;> exact rfl) rfl (by simp only [push_cast, env, Nat.reduceEqDiff, reduceIte, Nat.reduceAdd, Nat.reduceMul, Nat.reduceLeDiff, reduceCtorEq, Nat.reduceSub, Int.reduceToNat] <;> exact rfl) (by simp only [push_cast, env, Nat.reduceEqDiff, reduceIte, Nat.reduceAdd, Nat.reduceMul, Nat.reduceLeDiff, reduceCtorEq, Nat.reduceSub, Int.reduceToNat] <;> exact rfl) Try.func13 (by kernel_rfl) (by kernel_rfl) ?_
  rw [List.append_nil]
  refine (heavy7_fw hr hwR hn).mono ?_
  rintro _ h ⟨rfl, rfl⟩
  repeat (first | refine cw_seq ?_ | refine cw_region ?_ | refine ow_nil ?_ | ((first | apply ow_cons | apply qw_cons); · simp only [push_cast, env, Nat.reduceEqDiff, reduceIte, Nat.reduceAdd, Nat.reduceMul, Nat.reduceLeDiff, reduceCtorEq, Nat.reduceSub, Int.reduceToNat] <;> exact rfl) | ((first | apply ow_spec | apply qw_spec); · simp only [push_cast, env, Nat.reduceEqDiff, reduceIte, Nat.reduceAdd, Nat.reduceMul, Nat.reduceLeDiff, reduceCtorEq, Nat.reduceSub, Int.reduceToNat] <;> exact rfl) | refine qw_nil ?_ | refine cw_block ?_ | refine cw_scope ?_ | refine cw_label ?_ | refine cw_skip ?_)
  refine cw_cond (by simp only [push_cast, env, Nat.reduceEqDiff, reduceIte, Nat.reduceAdd, Nat.reduceMul, Nat.reduceLeDiff, reduceCtorEq, Nat.reduceSub, Int.reduceToNat] <;> exact rfl) (fun c1 => ?_) (fun c1 => ?_)
  · repeat (first | refine cw_seq ?_ | refine cw_region ?_ | refine ow_nil ?_ | ((first | apply ow_cons | apply qw_cons); · simp only [push_cast, env, Nat.reduceEqDiff, reduceIte, Nat.reduceAdd, Nat.reduceMul, Nat.reduceLeDiff, reduceCtorEq, Nat.reduceSub, Int.reduceToNat] <;> exact rfl) | ((first | apply ow_spec | apply qw_spec); · simp only [push_cast, env, Nat.reduceEqDiff, reduceIte, Nat.reduceAdd, Nat.reduceMul, Nat.reduceLeDiff, reduceCtorEq, Nat.reduceSub, Int.reduceToNat] <;> exact rfl) | refine qw_nil ?_ | refine cw_block ?_ | refine cw_scope ?_ | refine cw_label ?_ | refine cw_skip ?_)
    refine ow_call (fn := Try.f14) (by simp only [push_cast, env, Nat.reduceEqDiff, reduceIte, Nat.reduceAdd, Nat.reduceMul, Nat.reduceLeDiff, reduceCtorEq, Nat.reduceSub, Int.reduceToNat] <;> exact rfl) rfl (by simp only [push_cast, env, Nat.reduceEqDiff, reduceIte, Nat.reduceAdd, Nat.reduceMul, Nat.reduceLeDiff, reduceCtorEq, Nat.reduceSub, Int.reduceToNat] <;> exact rfl) (by simp only [push_cast, env, Nat.reduceEqDiff, reduceIte, Nat.reduceAdd, Nat.reduceMul, Nat.reduceLeDiff, reduceCtorEq, Nat.reduceSub, Int.reduceToNat] <;> exact rfl) Try.func14 (by kernel_rfl) (by kernel_rfl) ?_
    refine alive7_fw.mono ?_
    rintro _ h ⟨rfl, rfl⟩
    repeat (first | refine cw_seq ?_ | refine cw_region ?_ | refine ow_nil ?_ | ((first | apply ow_cons | apply qw_cons); · simp only [push_cast, env, Nat.reduceEqDiff, reduceIte, Nat.reduceAdd, Nat.reduceMul, Nat.reduceLeDiff, reduceCtorEq, Nat.reduceSub, Int.reduceToNat] <;> exact rfl) | ((first | apply ow_spec | apply qw_spec); · simp only [push_cast, env, Nat.reduceEqDiff, reduceIte, Nat.reduceAdd, Nat.reduceMul, Nat.reduceLeDiff, reduceCtorEq, Nat.reduceSub, Int.reduceToNat] <;> exact rfl) | refine qw_nil ?_ | refine cw_block ?_ | refine cw_scope ?_ | refine cw_label ?_ | refine cw_skip ?_)
    refine cw_ret ?_
    exact ⟨_, (by simp only [push_cast, env, Nat.reduceEqDiff, reduceIte, Nat.reduceAdd, Nat.reduceMul, Nat.reduceLeDiff, reduceCtorEq, Nat.reduceSub, Int.reduceToNat] <;> exact rfl), rfl⟩
  have hL := light_of c1
  repeat (first | refine cw_seq ?_ | refine cw_region ?_ | refine ow_nil ?_ | ((first | apply ow_cons | apply qw_cons); · simp only [push_cast, env, Nat.reduceEqDiff, reduceIte, Nat.reduceAdd, Nat.reduceMul, Nat.reduceLeDiff, reduceCtorEq, Nat.reduceSub, Int.reduceToNat] <;> exact rfl) | ((first | apply ow_spec | apply qw_spec); · simp only [push_cast, env, Nat.reduceEqDiff, reduceIte, Nat.reduceAdd, Nat.reduceMul, Nat.reduceLeDiff, reduceCtorEq, Nat.reduceSub, Int.reduceToNat] <;> exact rfl) | refine qw_nil ?_ | refine cw_block ?_ | refine cw_scope ?_ | refine cw_label ?_ | refine cw_skip ?_)
  refine ow_call (fn := Try.f19) (by simp only [push_cast, env, Nat.reduceEqDiff, reduceIte, Nat.reduceAdd, Nat.reduceMul, Nat.reduceLeDiff, reduceCtorEq, Nat.reduceSub, Int.reduceToNat] <;> exact rfl) rfl (by simp only [push_cast, env, Nat.reduceEqDiff, reduceIte, Nat.reduceAdd, Nat.reduceMul, Nat.reduceLeDiff, reduceCtorEq, Nat.reduceSub, Int.reduceToNat] <;> exact rfl) (by simp only [push_cast, env, Nat.reduceEqDiff, reduceIte, Nat.reduceAdd, Nat.reduceMul, Nat.reduceLeDiff, reduceCtorEq, Nat.reduceSub, Int.reduceToNat] <;> exact rfl) Try.func19 (by kernel_rfl) (by kernel_rfl) ?_
  rw [List.append_nil]
  refine (spans_fw hr hwR W).mono ?_
  rintro _ h2 ⟨k1, hp2⟩
  obtain ⟨x1, e1, l1, rfl, r1, q1⟩ := k1.runs
  repeat (first | refine cw_seq ?_ | refine cw_region ?_ | refine ow_nil ?_ | ((first | apply ow_cons | apply qw_cons); · simp only [push_cast, env, Nat.reduceEqDiff, reduceIte, Nat.reduceAdd, Nat.reduceMul, Nat.reduceLeDiff, reduceCtorEq, Nat.reduceSub, Int.reduceToNat] <;> exact rfl) | ((first | apply ow_spec | apply qw_spec); · simp only [push_cast, env, Nat.reduceEqDiff, reduceIte, Nat.reduceAdd, Nat.reduceMul, Nat.reduceLeDiff, reduceCtorEq, Nat.reduceSub, Int.reduceToNat] <;> exact rfl) | refine qw_nil ?_ | refine cw_block ?_ | refine cw_scope ?_ | refine cw_label ?_ | refine cw_skip ?_)
  refine ow_call (fn := Try.f20) (by simp only [push_cast, env, Nat.reduceEqDiff, reduceIte, Nat.reduceAdd, Nat.reduceMul, Nat.reduceLeDiff, reduceCtorEq, Nat.reduceSub, Int.reduceToNat] <;> exact rfl) rfl (by simp only [push_cast, env, Nat.reduceEqDiff, reduceIte, Nat.reduceAdd, Nat.reduceMul, Nat.reduceLeDiff, reduceCtorEq, Nat.reduceSub, Int.reduceToNat] <;> exact rfl) (by simp only [push_cast, env, Nat.reduceEqDiff, reduceIte, Nat.reduceAdd, Nat.reduceMul, Nat.reduceLeDiff, reduceCtorEq, Nat.reduceSub, Int.reduceToNat] <;> exact rfl) Try.func20 (by kernel_rfl) (by kernel_rfl) ?_
  rw [List.append_nil]
  refine (rspans_fw (hr.mono hp2) (hwR.mono hp2) W hL).mono ?_
  rintro _ h3 ⟨k2, hp3⟩
  obtain ⟨x2, e2, l2, rfl, r2, q2⟩ := k2.runs
  obtain ⟨rfl, rfl⟩ : l1 = l2 ∧ e1 = e2 := by
    rcases q1 with ⟨a1, rfl, rfl⟩ | ⟨a1, a2, rfl, rfl⟩ | ⟨a1, a2, a3, rfl, rfl⟩ <;> rcases q2 with ⟨b1, rfl, rfl⟩ | ⟨b1, b2, rfl, rfl⟩ | ⟨b1, b2, b3, rfl, rfl⟩
    · exact ⟨rfl, rfl⟩
    · exact (a1 b1).elim
    · exact (a1 b1).elim
    · exact (b1 a1).elim
    · exact ⟨rfl, rfl⟩
    · omega
    · exact (b1 a1).elim
    · omega
    · exact ⟨rfl, rfl⟩
  obtain ⟨p1, c1', rfl⟩ := SlR.form r1
  obtain ⟨p2, c2', rfl⟩ := SlR.form r2
  repeat (first | refine cw_seq ?_ | refine cw_region ?_ | refine ow_nil ?_ | ((first | apply ow_cons | apply qw_cons); · simp only [push_cast, env, Nat.reduceEqDiff, reduceIte, Nat.reduceAdd, Nat.reduceMul, Nat.reduceLeDiff, reduceCtorEq, Nat.reduceSub, Int.reduceToNat] <;> exact rfl) | ((first | apply ow_spec | apply qw_spec); · simp only [push_cast, env, Nat.reduceEqDiff, reduceIte, Nat.reduceAdd, Nat.reduceMul, Nat.reduceLeDiff, reduceCtorEq, Nat.reduceSub, Int.reduceToNat] <;> exact rfl) | refine qw_nil ?_ | refine cw_block ?_ | refine cw_scope ?_ | refine cw_label ?_ | refine cw_skip ?_)
  refine ow_call (fn := Try.f14) (by simp only [push_cast, env, Nat.reduceEqDiff, reduceIte, Nat.reduceAdd, Nat.reduceMul, Nat.reduceLeDiff, reduceCtorEq, Nat.reduceSub, Int.reduceToNat] <;> exact rfl) rfl (by simp only [push_cast, env, Nat.reduceEqDiff, reduceIte, Nat.reduceAdd, Nat.reduceMul, Nat.reduceLeDiff, reduceCtorEq, Nat.reduceSub, Int.reduceToNat] <;> exact rfl) (by simp only [push_cast, env, Nat.reduceEqDiff, reduceIte, Nat.reduceAdd, Nat.reduceMul, Nat.reduceLeDiff, reduceCtorEq, Nat.reduceSub, Int.reduceToNat] <;> exact rfl) Try.func14 (by kernel_rfl) (by kernel_rfl) ?_
  refine alive7_fw.mono ?_
  rintro _ h3 ⟨rfl, rfl⟩
  repeat (first | refine cw_seq ?_ | refine cw_region ?_ | refine ow_nil ?_ | ((first | apply ow_cons | apply qw_cons); · simp only [push_cast, env, Nat.reduceEqDiff, reduceIte, Nat.reduceAdd, Nat.reduceMul, Nat.reduceLeDiff, reduceCtorEq, Nat.reduceSub, Int.reduceToNat] <;> exact rfl) | ((first | apply ow_spec | apply qw_spec); · simp only [push_cast, env, Nat.reduceEqDiff, reduceIte, Nat.reduceAdd, Nat.reduceMul, Nat.reduceLeDiff, reduceCtorEq, Nat.reduceSub, Int.reduceToNat] <;> exact rfl) | refine qw_nil ?_ | refine cw_block ?_ | refine cw_scope ?_ | refine cw_label ?_ | refine cw_skip ?_)
  refine ow_call (fn := Try.f21) (by simp only [push_cast, env, Nat.reduceEqDiff, reduceIte, Nat.reduceAdd, Nat.reduceMul, Nat.reduceLeDiff, reduceCtorEq, Nat.reduceSub, Int.reduceToNat] <;> exact rfl) rfl (by simp only [push_cast, env, Nat.reduceEqDiff, reduceIte, Nat.reduceAdd, Nat.reduceMul, Nat.reduceLeDiff, reduceCtorEq, Nat.reduceSub, Int.reduceToNat] <;> exact rfl) (by simp only [push_cast, env, Nat.reduceEqDiff, reduceIte, Nat.reduceAdd, Nat.reduceMul, Nat.reduceLeDiff, reduceCtorEq, Nat.reduceSub, Int.reduceToNat] <;> exact rfl) Try.func21 (by kernel_rfl) (by kernel_rfl) ?_
  rw [List.append_nil]
  refine (sameruns_fw (SlR.mono r1 hp3) r2).mono ?_
  rintro _ h3 ⟨rfl, rfl⟩
  repeat (first | refine cw_seq ?_ | refine cw_region ?_ | refine ow_nil ?_ | ((first | apply ow_cons | apply qw_cons); · simp only [push_cast, env, Nat.reduceEqDiff, reduceIte, Nat.reduceAdd, Nat.reduceMul, Nat.reduceLeDiff, reduceCtorEq, Nat.reduceSub, Int.reduceToNat] <;> exact rfl) | ((first | apply ow_spec | apply qw_spec); · simp only [push_cast, env, Nat.reduceEqDiff, reduceIte, Nat.reduceAdd, Nat.reduceMul, Nat.reduceLeDiff, reduceCtorEq, Nat.reduceSub, Int.reduceToNat] <;> exact rfl) | refine qw_nil ?_ | refine cw_block ?_ | refine cw_scope ?_ | refine cw_label ?_ | refine cw_skip ?_)
  refine cw_ret ?_
  exact ⟨_, (by simp only [push_cast, env, Nat.reduceEqDiff, reduceIte, Nat.reduceAdd, Nat.reduceMul, Nat.reduceLeDiff, reduceCtorEq, Nat.reduceSub, Int.reduceToNat] <;> exact rfl), rfl⟩
end Go.Proofs.Ytafncpgiibikcaa
