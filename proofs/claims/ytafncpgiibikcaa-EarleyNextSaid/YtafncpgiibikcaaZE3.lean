/- Several texts, one behind the other; each begins with a remark of its own. -/
import Derived.Test.YtafncpgiibikcaaZG5
import Derived.Test.YtafncpgiibikcaaZG8
import Derived.Test.YtafncpgiibikcaaZTy
/- complete: what waits for a rule that has ended goes on. -/
namespace Go.Proofs.Ytafncpgiibikcaa
set_option linter.unusedSimpArgs false
set_option linter.unusedVariables false
set_option maxRecDepth 20000
open Go.RowKit Am Ty

set_option maxHeartbeats 8000000 in
theorem complete_fw {h0 hB : Heap} {g : Gram} {rv wv : Value} {F : Fix} {G : Gh} {j : Nat} {x : Item} {w : List Nat} {r : Rule} (K : CHR h0 hB g rv wv F G) (hev : F.ev = .map (some F.ie)) (hr : RdRules h0 rv g.rules) (R : RightS g) (hw : w.length ≤ 512) (C : CI g w G.S) (hj : j ≤ w.length) (hx : It g w j x)
    (hq : g.rules[x.rule]? = some r) (hd : x.dot = r.rhs.length) :
    FW env 62 [.pointer (some ⟨F.cp, 0, some 0⟩), i64 j, x.val] G.h fun _ h' => ∃ us S', CHR h0 hB g rv wv F ⟨h', us, S', if x.frm = j then insE G.E r.lhs else G.E⟩ ∧ CompP g w j x r.lhs G.S S' := by
  obtain ⟨h, us, S, E⟩ := G
  simp only at C ⊢
  obtain ⟨p, cr, rfl⟩ := hr.form
  have hle := hr.le
  obtain ⟨hql, hqe⟩ := List.getElem?_eq_some_iff.1 hq
  have hxf : x.frm ≤ j := by obtain ⟨_, _, _, _, k⟩ := hx.sound; exact k.1
  have hjS : j < S.length := by have := C.n; omega
  have hfS : x.frm < S.length := by omega
  obtain ⟨l1, l2, l3, hS⟩ := R.r _ (List.mem_of_getElem? hq)
  refine fw_enter (fn := Try.f62) Try.func62 rfl (by kernel_rfl) (by simp [Try.ntmps62]) ?_; simp only [push_cast]
  repeat (first | refine cw_seq ?_ | refine cw_region ?_ | refine ow_nil ?_ | ((first | apply ow_cons | apply qw_cons); · simp only [push_cast, env, Nat.reduceEqDiff, reduceIte, Nat.reduceAdd, Nat.reduceMul, Nat.reduceLeDiff, reduceCtorEq, Nat.reduceSub, Int.reduceToNat] <;> exact rfl) | ((first | apply ow_spec | apply qw_spec); · simp only [push_cast, env, Nat.reduceEqDiff, reduceIte, Nat.reduceAdd, Nat.reduceMul, Nat.reduceLeDiff, reduceCtorEq, Nat.reduceSub, Int.reduceToNat] <;> exact rfl) | refine qw_nil ?_ | refine cw_block ?_ | refine cw_scope ?_ | refine cw_label ?_ | refine cw_skip ?_)
  refine cw_regionD 10 mixed (by kernel_rfl) ?_
  have hc := K.c
  unfold chCells at hc
  simp only at hc
  obtain ⟨id, ver, own, c', cells, p', n', c2, hv, hid0, hn, hrd, hu'⟩ := hr.at hql
  cases hv
  subst hn
  have hid := getElem?_of_prefix K.p hid0
  have e0 := rdH_get0 hrd (by omega)
  simp only [List.getElem?_cons_zero] at e0
  rw [hqe] at e0
  have e1 := rng hql
  repeat (first | refine cw_seq ?_ | refine cw_region ?_ | refine ow_nil ?_ | ((first | apply ow_cons | apply qw_cons); · simp only [push_cast, env, Nat.reduceEqDiff, reduceIte, Nat.reduceAdd, Nat.reduceMul, Nat.reduceLeDiff, reduceCtorEq, Nat.reduceSub, Int.reduceToNat, hc, e1, hid, e0, Nat.mul_one] <;> exact rfl) | ((first | apply ow_spec | apply qw_spec); · simp only [push_cast, env, Nat.reduceEqDiff, reduceIte, Nat.reduceAdd, Nat.reduceMul, Nat.reduceLeDiff, reduceCtorEq, Nat.reduceSub, Int.reduceToNat, hc, e1, hid, e0, Nat.mul_one] <;> exact rfl) | refine qw_nil ?_ | refine cw_block ?_ | refine cw_scope ?_ | refine cw_label ?_ | refine cw_skip ?_)
  refine CW.mono (Q := fun e s' => e = .normal ∧ CHR h0 hB g (.slice (some ⟨id, 0, some ver⟩) g.rules.length cr) wv F ⟨s'.h, us, S, if x.frm = j then insE E r.lhs else E⟩ ∧ SubL [(0, .val (.pointer (some ⟨F.cp, 0, some 0⟩))), (1, .val (i64 j)), (5, .box [i64 x.rule, i64 x.dot, i64 x.frm]), (6, .val (i64 r.lhs))] s'.fr) ?_ ?_
  · by_cases hf : x.frm = j
    · have d1 : decide ((x.frm : Int) = (j : Int)) = true := decide_eq_true (by omega)
      refine cw_condT (by simp only [push_cast, env, Nat.reduceEqDiff, reduceIte, Nat.reduceAdd, Nat.reduceMul, Nat.reduceLeDiff, reduceCtorEq, Nat.reduceSub, Int.reduceToNat, d1] <;> exact rfl) ?_
      have he := (K.e hev).1
      simp only at he
      rw [hev] at hc
      repeat (first | refine cw_seq ?_ | refine cw_region ?_ | refine ow_nil ?_ | ((first | apply ow_cons | apply qw_cons); · simp only [push_cast, env, Nat.reduceEqDiff, reduceIte, Nat.reduceAdd, Nat.reduceMul, Nat.reduceLeDiff, reduceCtorEq, Nat.reduceSub, Int.reduceToNat, hc] <;> exact rfl) | ((first | apply ow_spec | apply qw_spec); · simp only [push_cast, env, Nat.reduceEqDiff, reduceIte, Nat.reduceAdd, Nat.reduceMul, Nat.reduceLeDiff, reduceCtorEq, Nat.reduceSub, Int.reduceToNat, hc] <;> exact rfl) | refine qw_nil ?_ | refine cw_block ?_ | refine cw_scope ?_ | refine cw_label ?_ | refine cw_skip ?_)
      refine ow_upd (kt := 3) (et := 3) (kd := kdInt) (by simp only [push_cast, env, Nat.reduceEqDiff, reduceIte, Nat.reduceAdd, Nat.reduceMul, Nat.reduceLeDiff, reduceCtorEq, Nat.reduceSub, Int.reduceToNat] <;> exact rfl) rfl rfl (by kernel_rfl) rfl (by simp only [push_cast, env, Nat.reduceEqDiff, reduceIte, Nat.reduceAdd, Nat.reduceMul, Nat.reduceLeDiff, reduceCtorEq, Nat.reduceSub, Int.reduceToNat] <;> exact rfl) he (by simp only [push_cast, env, Nat.reduceEqDiff, reduceIte, Nat.reduceAdd, Nat.reduceMul, Nat.reduceLeDiff, reduceCtorEq, Nat.reduceSub, Int.reduceToNat] <;> exact rfl) (by simp only [push_cast, env, Nat.reduceEqDiff, reduceIte, Nat.reduceAdd, Nat.reduceMul, Nat.reduceLeDiff, reduceCtorEq, Nat.reduceSub, Int.reduceToNat] <;> exact rfl) rfl (empE_keys _) ?_
      rw [empE_put]
      repeat (first | refine cw_seq ?_ | refine cw_region ?_ | refine ow_nil ?_ | ((first | apply ow_cons | apply qw_cons); · simp only [push_cast, env, Nat.reduceEqDiff, reduceIte, Nat.reduceAdd, Nat.reduceMul, Nat.reduceLeDiff, reduceCtorEq, Nat.reduceSub, Int.reduceToNat] <;> exact rfl) | ((first | apply ow_spec | apply qw_spec); · simp only [push_cast, env, Nat.reduceEqDiff, reduceIte, Nat.reduceAdd, Nat.reduceMul, Nat.reduceLeDiff, reduceCtorEq, Nat.reduceSub, Int.reduceToNat] <;> exact rfl) | refine qw_nil ?_ | refine cw_block ?_ | refine cw_scope ?_ | refine cw_label ?_ | refine cw_skip ?_)
      rw [if_pos hf]
      exact ⟨rfl, K.setE hev, (by simp only [push_cast, SubL, fget, Nat.reduceEqDiff, reduceIte])⟩
    · have d1 : decide ((x.frm : Int) = (j : Int)) = false := decide_eq_false (by omega)
      refine cw_condF (by simp only [push_cast, env, Nat.reduceEqDiff, reduceIte, Nat.reduceAdd, Nat.reduceMul, Nat.reduceLeDiff, reduceCtorEq, Nat.reduceSub, Int.reduceToNat, d1] <;> exact rfl) ?_
      repeat (first | refine cw_seq ?_ | refine cw_region ?_ | refine ow_nil ?_ | ((first | apply ow_cons | apply qw_cons); · simp only [push_cast, env, Nat.reduceEqDiff, reduceIte, Nat.reduceAdd, Nat.reduceMul, Nat.reduceLeDiff, reduceCtorEq, Nat.reduceSub, Int.reduceToNat] <;> exact rfl) | ((first | apply ow_spec | apply qw_spec); · simp only [push_cast, env, Nat.reduceEqDiff, reduceIte, Nat.reduceAdd, Nat.reduceMul, Nat.reduceLeDiff, reduceCtorEq, Nat.reduceSub, Int.reduceToNat] <;> exact rfl) | refine qw_nil ?_ | refine cw_block ?_ | refine cw_scope ?_ | refine cw_label ?_ | refine cw_skip ?_)
      rw [if_neg hf]
      exact ⟨rfl, K, (by simp only [push_cast, SubL, fget, Nat.reduceEqDiff, reduceIte])⟩
  rintro e s' ⟨rfl, K1, hf⟩
  show CW _ _ _ _
  refine cw_weakL _ hf ?_
  generalize s'.h = h1 at K1
  generalize (if x.frm = j then insE E r.lhs else E) = E1 at K1 ⊢
  clear hf hc hid
  repeat (first | refine cw_seq ?_ | refine cw_region ?_ | refine ow_nil ?_ | ((first | apply ow_cons | apply qw_cons); · simp only [push_cast, env, Nat.reduceEqDiff, reduceIte, Nat.reduceAdd, Nat.reduceMul, Nat.reduceLeDiff, reduceCtorEq, Nat.reduceSub, Int.reduceToNat] <;> exact rfl) | ((first | apply ow_spec | apply qw_spec); · simp only [push_cast, env, Nat.reduceEqDiff, reduceIte, Nat.reduceAdd, Nat.reduceMul, Nat.reduceLeDiff, reduceCtorEq, Nat.reduceSub, Int.reduceToNat] <;> exact rfl) | refine qw_nil ?_ | refine cw_block ?_ | refine cw_scope ?_ | refine cw_label ?_ | refine cw_skip ?_)
  refine cw_wh (fun z : Gh × Nat => 400000001 - z.2) (fun z => [(0, .val (.pointer (some ⟨F.cp, 0, some 0⟩))), (1, .val (i64 j)), (5, .box [i64 x.rule, i64 x.dot, i64 x.frm]), (6, .val (i64 r.lhs)), (7, .val (i64 z.2))]) (fun z => z.1.h)
    (fun z => CHR h0 hB g (.slice (some ⟨id, 0, some ver⟩) g.rules.length cr) wv F z.1 ∧ z.1.E = E1 ∧ Ext S z.1.S ∧ CI g w z.1.S ∧ (∀ k, k ≠ j → gs z.1.S k = gs S k) ∧ z.2 ≤ (gs z.1.S x.frm).length ∧ ∀ y ∈ (gs z.1.S x.frm).take z.2, Wait g y r.lhs → adv y ∈ gs z.1.S j)
    (⟨h1, us, S, E1⟩, 0) (by simp only [push_cast, SubL, fget, Nat.reduceEqDiff, reduceIte]) rfl ⟨K1, rfl, .refl, C, fun _ _ => rfl, Nat.zero_le _, fun y hy => by simp at hy⟩ ?_
  clear K1 K
  rintro ⟨⟨hk, us1, S1, E2⟩, i⟩ ⟨K, rfl, X, C1, hne, hi, hall⟩
  simp only at K X C1 hne hi hall ⊢
  have hfS1 : x.frm < S1.length := by rw [X.n]; exact hfS
  have hsm := C1.small R hw (k := x.frm) (by omega)
  have hc := K.c
  have hs := K.s
  unfold chCells at hc
  simp only at hc hs
  obtain ⟨u, cu, hu, gu⟩ := K.us_at hfS1
  simp only at hu gu
  have f1 := rng hfS1
  repeat (first | refine cw_seq ?_ | refine cw_region ?_ | refine ow_nil ?_ | ((first | apply ow_cons | apply qw_cons); · simp only [push_cast, env, Nat.reduceEqDiff, reduceIte, Nat.reduceAdd, Nat.reduceMul, Nat.reduceLeDiff, reduceCtorEq, Nat.reduceSub, Int.reduceToNat] <;> exact rfl) | ((first | apply ow_spec | apply qw_spec); · simp only [push_cast, env, Nat.reduceEqDiff, reduceIte, Nat.reduceAdd, Nat.reduceMul, Nat.reduceLeDiff, reduceCtorEq, Nat.reduceSub, Int.reduceToNat] <;> exact rfl) | refine qw_nil ?_ | refine cw_block ?_ | refine cw_scope ?_ | refine cw_label ?_ | refine cw_skip ?_)
  refine cw_regionD 10 mixed (by kernel_rfl) ?_
  repeat (first | refine cw_seq ?_ | refine cw_region ?_ | refine ow_nil ?_ | ((first | apply ow_cons | apply qw_cons); · simp only [push_cast, env, Nat.reduceEqDiff, reduceIte, Nat.reduceAdd, Nat.reduceMul, Nat.reduceLeDiff, reduceCtorEq, Nat.reduceSub, Int.reduceToNat, hc, hs, hu, f1, Nat.mul_one] <;> exact rfl) | ((first | apply ow_spec | apply qw_spec); · simp only [push_cast, env, Nat.reduceEqDiff, reduceIte, Nat.reduceAdd, Nat.reduceMul, Nat.reduceLeDiff, reduceCtorEq, Nat.reduceSub, Int.reduceToNat, hc, hs, hu, f1, Nat.mul_one] <;> exact rfl) | refine qw_nil ?_ | refine cw_block ?_ | refine cw_scope ?_ | refine cw_label ?_ | refine cw_skip ?_)
  by_cases hlt : i < (gs S1 x.frm).length
  · have f3 := lt_dec hlt
    have f2 := inc hlt (by omega)
    obtain ⟨iu, vu, cu, hu2, hgu, hrdu⟩ := K.item_at hfS1 hlt
    simp only at hu2 hgu hrdu
    have f4 := rng hlt
    generalize hy : (gs S1 x.frm)[i] = y at hrdu
    have hym : y ∈ gs S1 x.frm := hy ▸ List.getElem_mem hlt
    have hyI := C1.s _ _ hym
    obtain ⟨ry, hry, hyd, _, hysq⟩ := hyI.sound
    obtain ⟨hyl, hye⟩ := List.getElem?_eq_some_iff.1 hry
    refine cw_condT (by simp only [push_cast, env, Nat.reduceEqDiff, reduceIte, Nat.reduceAdd, Nat.reduceMul, Nat.reduceLeDiff, reduceCtorEq, Nat.reduceSub, Int.reduceToNat, f3] <;> exact rfl) ?_
    repeat (first | refine cw_seq ?_ | refine cw_region ?_ | refine ow_nil ?_ | ((first | apply ow_cons | apply qw_cons); · simp only [push_cast, env, Nat.reduceEqDiff, reduceIte, Nat.reduceAdd, Nat.reduceMul, Nat.reduceLeDiff, reduceCtorEq, Nat.reduceSub, Int.reduceToNat] <;> exact rfl) | ((first | apply ow_spec | apply qw_spec); · simp only [push_cast, env, Nat.reduceEqDiff, reduceIte, Nat.reduceAdd, Nat.reduceMul, Nat.reduceLeDiff, reduceCtorEq, Nat.reduceSub, Int.reduceToNat] <;> exact rfl) | refine qw_nil ?_ | refine cw_block ?_ | refine cw_scope ?_ | refine cw_label ?_ | refine cw_skip ?_)
    refine cw_weakL [(0, .val (.pointer (some ⟨F.cp, 0, some 0⟩))), (1, .val (i64 j)), (5, .box [i64 x.rule, i64 x.dot, i64 x.frm]), (6, .val (i64 r.lhs)), (7, .val (i64 i))] (by simp only [push_cast, SubL, fget, Nat.reduceEqDiff, reduceIte]) ?_
    show CW _ _ ⟨_, [], hk⟩ _
    apply cw_ordT (n := 12) (L := [[], [0], [0, 1], [0, 1, 2], [], [4], [0, 1, 2, 3, 4, 5], [0, 1, 2, 3, 4, 5, 6], [], [0, 1, 2, 3, 4, 5, 6, 7, 8], [0, 1, 2, 3, 4, 5, 6, 7, 8, 9], [], [0, 1, 2, 3, 4, 5, 6, 7, 8, 9, 10, 11]]) (act := []) (hs := []) (resL := [_, _, _, _, _, _, _, _, _, _, _, _]) (frP := [(0, .val (.pointer (some ⟨F.cp, 0, some 0⟩))), (1, .val (i64 j)), (5, .box [i64 x.rule, i64 x.dot, i64 x.frm]), (6, .val (i64 r.lhs)), (7, .val (i64 i)), (8, .box [i64 0, i64 0, i64 0]), (52, .val y.val)])
    case hm => exact mixed
    case hc => kernel_rfl
    case hn => kernel_rfl
    case ha => rfl
    case hb => rfl
    case hS => repeat (first | exact StepsA.nil _ | (apply StepsA.cons; (· rfl); (· (first | refine ⟨?_, trivial⟩ | refine ⟨?_, ?_, trivial⟩ | refine ⟨?_, ?_, ?_, trivial⟩ | refine ⟨?_, ?_, ?_, ?_, trivial⟩) <;> (first | (apply one_val; (· rfl); (· simp only [push_cast, env, Nat.reduceEqDiff, reduceIte, Nat.reduceAdd, Nat.reduceMul, Nat.reduceLeDiff, reduceCtorEq, Nat.reduceSub, Int.reduceToNat, hc, hs, hu2, hgu, hrdu, f1, f4, Nat.mul_one] <;> exact rfl); (· simp only [push_cast, env, Nat.reduceEqDiff, reduceIte, Nat.reduceAdd, Nat.reduceMul, Nat.reduceLeDiff, reduceCtorEq, Nat.reduceSub, Int.reduceToNat, hc, hs, hu2, hgu, hrdu, f1, f4, Nat.mul_one] <;> exact rfl)) | (apply one_eph; (· rfl); (· simp only [push_cast, env, Nat.reduceEqDiff, reduceIte, Nat.reduceAdd, Nat.reduceMul, Nat.reduceLeDiff, reduceCtorEq, Nat.reduceSub, Int.reduceToNat, hc, hs, hu2, hgu, hrdu, f1, f4, Nat.mul_one] <;> exact rfl); (· rfl); (· simp only [push_cast, env, Nat.reduceEqDiff, reduceIte, Nat.reduceAdd, Nat.reduceMul, Nat.reduceLeDiff, reduceCtorEq, Nat.reduceSub, Int.reduceToNat, hc, hs, hu2, hgu, hrdu, f1, f4, Nat.mul_one] <;> exact rfl); (· decide)) | (apply one_bsl; (· rfl); (· simp only [push_cast, env, Nat.reduceEqDiff, reduceIte, Nat.reduceAdd, Nat.reduceMul, Nat.reduceLeDiff, reduceCtorEq, Nat.reduceSub, Int.reduceToNat, hc, hs, hu2, hgu, hrdu, f1, f4, Nat.mul_one] <;> exact rfl); (· rfl); (· simp only [push_cast, env, Nat.reduceEqDiff, reduceIte, Nat.reduceAdd, Nat.reduceMul, Nat.reduceLeDiff, reduceCtorEq, Nat.reduceSub, Int.reduceToNat, hc, hs, hu2, hgu, hrdu, f1, f4, Nat.mul_one] <;> exact rfl)) | (apply one_box; (· rfl); (· simp only [push_cast, env, Nat.reduceEqDiff, reduceIte, Nat.reduceAdd, Nat.reduceMul, Nat.reduceLeDiff, reduceCtorEq, Nat.reduceSub, Int.reduceToNat, hc, hs, hu2, hgu, hrdu, f1, f4, Nat.mul_one] <;> exact rfl); (· rfl); (· simp only [push_cast, env, Nat.reduceEqDiff, reduceIte, Nat.reduceAdd, Nat.reduceMul, Nat.reduceLeDiff, reduceCtorEq, Nat.reduceSub, Int.reduceToNat, hc, hs, hu2, hgu, hrdu, f1, f4, Nat.mul_one] <;> exact rfl)) | (apply one_skip; (· rfl); (· simp only [push_cast, env, Nat.reduceEqDiff, reduceIte, Nat.reduceAdd, Nat.reduceMul, Nat.reduceLeDiff, reduceCtorEq, Nat.reduceSub, Int.reduceToNat, hc, hs, hu2, hgu, hrdu, f1, f4, Nat.mul_one] <;> exact rfl)))); (· rfl)))
    case ht => rfl
    case hF => repeat (first | exact trivial | (refine ⟨.inl ⟨by decide, rfl⟩, ?_⟩) | (refine ⟨.inr ⟨rfl, by simp⟩, ?_⟩))
    repeat (first | refine cw_seq ?_ | refine cw_region ?_ | refine ow_nil ?_ | ((first | apply ow_cons | apply qw_cons); · simp only [push_cast, env, Nat.reduceEqDiff, reduceIte, Nat.reduceAdd, Nat.reduceMul, Nat.reduceLeDiff, reduceCtorEq, Nat.reduceSub, Int.reduceToNat] <;> exact rfl) | ((first | apply ow_spec | apply qw_spec); · simp only [push_cast, env, Nat.reduceEqDiff, reduceIte, Nat.reduceAdd, Nat.reduceMul, Nat.reduceLeDiff, reduceCtorEq, Nat.reduceSub, Int.reduceToNat] <;> exact rfl) | refine qw_nil ?_ | refine cw_block ?_ | refine cw_scope ?_ | refine cw_label ?_ | refine cw_skip ?_)
    refine ⟨[(0, .val (.pointer (some ⟨F.cp, 0, some 0⟩))), (1, .val (i64 j)), (5, .box [i64 x.rule, i64 x.dot, i64 x.frm]), (6, .val (i64 r.lhs)), (7, .val (i64 i)), (8, .box [i64 y.rule, i64 y.dot, i64 y.frm])], (by simp only [push_cast, SubL, fget, Nat.reduceEqDiff, reduceIte]), ?_⟩
    show CW _ _ ⟨_, [], hk⟩ _
    repeat (first | refine cw_seq ?_ | refine cw_region ?_ | refine ow_nil ?_ | ((first | apply ow_cons | apply qw_cons); · simp only [push_cast, env, Nat.reduceEqDiff, reduceIte, Nat.reduceAdd, Nat.reduceMul, Nat.reduceLeDiff, reduceCtorEq, Nat.reduceSub, Int.reduceToNat] <;> exact rfl) | ((first | apply ow_spec | apply qw_spec); · simp only [push_cast, env, Nat.reduceEqDiff, reduceIte, Nat.reduceAdd, Nat.reduceMul, Nat.reduceLeDiff, reduceCtorEq, Nat.reduceSub, Int.reduceToNat] <;> exact rfl) | refine qw_nil ?_ | refine cw_block ?_ | refine cw_scope ?_ | refine cw_label ?_ | refine cw_skip ?_)
    refine cw_regionD 10 mixed (by kernel_rfl) ?_
    obtain ⟨id3, ver3, own3, c3, cells3, p3, n3, c4, hv3, hid3, hn3, hrd3, hu3⟩ := hr.at hyl
    cases hv3
    subst hn3
    have hid3' := getElem?_of_prefix K.p hid3
    have g1 := rdH_get (j := 1) hrd3 (by omega)
    simp only [List.getElem?_cons_succ, List.getElem?_cons_zero] at g1
    have g2 := rng hyl
    have hnx : (gs S1 x.frm).take (i + 1) = (gs S1 x.frm).take i ++ [y] := by rw [List.take_succ_eq_append_getElem hlt, hy]
    by_cases hdl : y.dot < g.rules[y.rule].rhs.length
    · have d1 : decide ((y.dot : Int) < (g.rules[y.rule].rhs.length : Int)) = true := lt_dec hdl
      obtain ⟨id4, ver4, own4, c5, cells4, hv4, hid4, hrd4⟩ := hu3.at hdl
      cases hv4
      have hid4' := getElem?_of_prefix K.p hid4
      have g4 := rdH_get0 hrd4 (by omega)
      simp only [List.getElem?_cons_zero] at g4
      have g5 := rng hdl
      repeat (first | refine cw_seq ?_ | refine cw_region ?_ | refine ow_nil ?_ | ((first | apply ow_cons | apply qw_cons); · simp only [push_cast, env, Nat.reduceEqDiff, reduceIte, Nat.reduceAdd, Nat.reduceMul, Nat.reduceLeDiff, reduceCtorEq, Nat.reduceSub, Int.reduceToNat, hc, hid3', g1, g2, d1, hid4', g4, g5, Nat.mul_one] <;> exact rfl) | ((first | apply ow_spec | apply qw_spec); · simp only [push_cast, env, Nat.reduceEqDiff, reduceIte, Nat.reduceAdd, Nat.reduceMul, Nat.reduceLeDiff, reduceCtorEq, Nat.reduceSub, Int.reduceToNat, hc, hid3', g1, g2, d1, hid4', g4, g5, Nat.mul_one] <;> exact rfl) | refine qw_nil ?_ | refine cw_block ?_ | refine cw_scope ?_ | refine cw_label ?_ | refine cw_skip ?_)
      refine cw_cond (by simp only [push_cast, env, Nat.reduceEqDiff, reduceIte, Nat.reduceAdd, Nat.reduceMul, Nat.reduceLeDiff, reduceCtorEq, Nat.reduceSub, Int.reduceToNat] <;> exact rfl) (fun c1 => ?_) (fun c1 => ?_)
      · simp only [decide_eq_true_eq] at c1
        have hsy : ry.rhs[y.dot]? = some (g.rules[y.rule].rhs[y.dot]) := by rw [← hye]; exact List.getElem?_eq_getElem hdl
        have hadv : It g w j (adv y) := .comp j x r y ry _ hx hq hd hyI hry hsy (by omega) c1
        have f5 : IntKind.i64.wrap ((y.dot : Int) + 1) = ((y.dot + 1 : Nat) : Int) := by
          have := (R.r _ (List.mem_of_getElem? hry)).2.2.1
          rw [wrap64_id (by omega) (by omega)]
          rfl
        have hjS1 : j < S1.length := by rw [X.n]; exact hjS
        repeat (first | refine cw_seq ?_ | refine cw_region ?_ | refine ow_nil ?_ | ((first | apply ow_cons | apply qw_cons); · simp only [push_cast, env, Nat.reduceEqDiff, reduceIte, Nat.reduceAdd, Nat.reduceMul, Nat.reduceLeDiff, reduceCtorEq, Nat.reduceSub, Int.reduceToNat, f5] <;> exact rfl) | ((first | apply ow_spec | apply qw_spec); · simp only [push_cast, env, Nat.reduceEqDiff, reduceIte, Nat.reduceAdd, Nat.reduceMul, Nat.reduceLeDiff, reduceCtorEq, Nat.reduceSub, Int.reduceToNat, f5] <;> exact rfl) | refine qw_nil ?_ | refine cw_block ?_ | refine cw_scope ?_ | refine cw_label ?_ | refine cw_skip ?_)
        refine ow_call (fn := Try.f52) (by simp only [push_cast, env, Nat.reduceEqDiff, reduceIte, Nat.reduceAdd, Nat.reduceMul, Nat.reduceLeDiff, reduceCtorEq, Nat.reduceSub, Int.reduceToNat] <;> exact rfl) rfl (by simp only [push_cast, env, Nat.reduceEqDiff, reduceIte, Nat.reduceAdd, Nat.reduceMul, Nat.reduceLeDiff, reduceCtorEq, Nat.reduceSub, Int.reduceToNat] <;> exact rfl) (by simp only [push_cast, env, Nat.reduceEqDiff, reduceIte, Nat.reduceAdd, Nat.reduceMul, Nat.reduceLeDiff, reduceCtorEq, Nat.reduceSub, Int.reduceToNat] <;> exact rfl) Try.func52 (by kernel_rfl) (by kernel_rfl) ?_
        rw [List.append_nil]
        refine (add_fw (x := adv y) K hjS1 (by have := C1.small R hw hj; simp only; omega)).mono ?_
        rintro _ h2 ⟨us2, K2⟩
        simp only at K2
        repeat (first | refine cw_seq ?_ | refine cw_region ?_ | refine ow_nil ?_ | ((first | apply ow_cons | apply qw_cons); · simp only [push_cast, env, Nat.reduceEqDiff, reduceIte, Nat.reduceAdd, Nat.reduceMul, Nat.reduceLeDiff, reduceCtorEq, Nat.reduceSub, Int.reduceToNat, f2] <;> exact rfl) | ((first | apply ow_spec | apply qw_spec); · simp only [push_cast, env, Nat.reduceEqDiff, reduceIte, Nat.reduceAdd, Nat.reduceMul, Nat.reduceLeDiff, reduceCtorEq, Nat.reduceSub, Int.reduceToNat, f2] <;> exact rfl) | refine qw_nil ?_ | refine cw_block ?_ | refine cw_scope ?_ | refine cw_label ?_ | refine cw_skip ?_)
        have X2 := addS_ext (x := adv y) hjS1
        refine ⟨(⟨h2, us2, addS S1 j (adv y), E2⟩, i + 1), by simp only; omega, (by simp only [push_cast, SubL, fget, Nat.reduceEqDiff, reduceIte]), rfl, K2, rfl, X.trans X2, C1.add hadv hj, fun k hkj => by simp only; rw [addS_ne hjS1 hkj]; exact hne k hkj, by simp only; have := X2.le x.frm; omega, fun z hz hwz => ?_⟩
        simp only at hz ⊢
        rw [X2.take (by omega), hnx, List.mem_append, List.mem_singleton] at hz
        rcases hz with hz | rfl
        · exact X2.mem (hall z hz hwz)
        · exact addS_mem hjS1
      · simp only [decide_eq_false_iff_not] at c1
        repeat (first | refine cw_seq ?_ | refine cw_region ?_ | refine ow_nil ?_ | ((first | apply ow_cons | apply qw_cons); · simp only [push_cast, env, Nat.reduceEqDiff, reduceIte, Nat.reduceAdd, Nat.reduceMul, Nat.reduceLeDiff, reduceCtorEq, Nat.reduceSub, Int.reduceToNat, f2] <;> exact rfl) | ((first | apply ow_spec | apply qw_spec); · simp only [push_cast, env, Nat.reduceEqDiff, reduceIte, Nat.reduceAdd, Nat.reduceMul, Nat.reduceLeDiff, reduceCtorEq, Nat.reduceSub, Int.reduceToNat, f2] <;> exact rfl) | refine qw_nil ?_ | refine cw_block ?_ | refine cw_scope ?_ | refine cw_label ?_ | refine cw_skip ?_)
        refine ⟨(⟨hk, us1, S1, E2⟩, i + 1), by simp only; omega, (by simp only [push_cast, SubL, fget, Nat.reduceEqDiff, reduceIte]), rfl, K, rfl, X, C1, hne, by simp only; omega, fun z hz hwz => ?_⟩
        rw [hnx, List.mem_append, List.mem_singleton] at hz
        rcases hz with hz | rfl
        · exact hall z hz hwz
        obtain ⟨r', s, w1, w2, w3⟩ := hwz
        obtain rfl : ry = r' := Option.some.inj (hry.symm.trans w1)
        rw [← hye] at w2
        rw [List.getElem?_eq_getElem hdl] at w2
        exact (c1 (by rw [Option.some.inj w2]; exact w3)).elim
    · have d1 : decide ((y.dot : Int) < (g.rules[y.rule].rhs.length : Int)) = false := ge_dec hdl
      repeat (first | refine cw_seq ?_ | refine cw_region ?_ | refine ow_nil ?_ | ((first | apply ow_cons | apply qw_cons); · simp only [push_cast, env, Nat.reduceEqDiff, reduceIte, Nat.reduceAdd, Nat.reduceMul, Nat.reduceLeDiff, reduceCtorEq, Nat.reduceSub, Int.reduceToNat, hc, hid3', g1, g2, d1, Nat.mul_one] <;> exact rfl) | ((first | apply ow_spec | apply qw_spec); · simp only [push_cast, env, Nat.reduceEqDiff, reduceIte, Nat.reduceAdd, Nat.reduceMul, Nat.reduceLeDiff, reduceCtorEq, Nat.reduceSub, Int.reduceToNat, hc, hid3', g1, g2, d1, Nat.mul_one] <;> exact rfl) | refine qw_nil ?_ | refine cw_block ?_ | refine cw_scope ?_ | refine cw_label ?_ | refine cw_skip ?_)
      refine cw_condF (by simp only [push_cast, env, Nat.reduceEqDiff, reduceIte, Nat.reduceAdd, Nat.reduceMul, Nat.reduceLeDiff, reduceCtorEq, Nat.reduceSub, Int.reduceToNat] <;> exact rfl) ?_
      repeat (first | refine cw_seq ?_ | refine cw_region ?_ | refine ow_nil ?_ | ((first | apply ow_cons | apply qw_cons); · simp only [push_cast, env, Nat.reduceEqDiff, reduceIte, Nat.reduceAdd, Nat.reduceMul, Nat.reduceLeDiff, reduceCtorEq, Nat.reduceSub, Int.reduceToNat, f2] <;> exact rfl) | ((first | apply ow_spec | apply qw_spec); · simp only [push_cast, env, Nat.reduceEqDiff, reduceIte, Nat.reduceAdd, Nat.reduceMul, Nat.reduceLeDiff, reduceCtorEq, Nat.reduceSub, Int.reduceToNat, f2] <;> exact rfl) | refine qw_nil ?_ | refine cw_block ?_ | refine cw_scope ?_ | refine cw_label ?_ | refine cw_skip ?_)
      refine ⟨(⟨hk, us1, S1, E2⟩, i + 1), by simp only; omega, (by simp only [push_cast, SubL, fget, Nat.reduceEqDiff, reduceIte]), rfl, K, rfl, X, C1, hne, by simp only; omega, fun z hz hwz => ?_⟩
      rw [hnx, List.mem_append, List.mem_singleton] at hz
      rcases hz with hz | rfl
      · exact hall z hz hwz
      obtain ⟨r', s, w1, w2, w3⟩ := hwz
      obtain rfl : ry = r' := Option.some.inj (hry.symm.trans w1)
      rw [← hye] at w2
      exact (hdl (List.getElem?_eq_some_iff.1 w2).1).elim
  · have f3 := ge_dec hlt
    refine cw_condF (by simp only [push_cast, env, Nat.reduceEqDiff, reduceIte, Nat.reduceAdd, Nat.reduceMul, Nat.reduceLeDiff, reduceCtorEq, Nat.reduceSub, Int.reduceToNat, f3] <;> exact rfl) ?_
    refine cw_exit ?_
    refine ⟨_, (by simp only [push_cast, env, Nat.reduceEqDiff, reduceIte, Nat.reduceAdd, Nat.reduceMul, Nat.reduceLeDiff, reduceCtorEq, Nat.reduceSub, Int.reduceToNat] <;> exact rfl), us1, S1, K, X, C1, hne, fun y hy => hall y ?_⟩
    rw [List.take_of_length_le (by omega)]
    exact hy
end Go.Proofs.Ytafncpgiibikcaa

/- charset.Has. -/
namespace Go.Proofs.Ytafncpgiibikcaa
set_option linter.unusedSimpArgs false
set_option linter.unusedVariables false
set_option maxRecDepth 20000
open Go.RowKit Am Ty

theorem shr_and {w : Int} (hw : WWf w) {j : Nat} (hj : j < 64) : IntKind.u64.wrap ((BitVec.ofInt IntKind.u64.bits (w.fdiv (2 ^ (min j IntKind.u64.bits))) &&& BitVec.ofInt IntKind.u64.bits 1).toNat) = w / 2 ^ j % 2 := by
  have hb : IntKind.u64.bits = 64 := rfl
  rw [hb, Nat.min_eq_left (by omega), Int.fdiv_eq_ediv_of_nonneg _ (Int.pow_nonneg (by decide))]
  have h := div_pow hw j
  generalize w / 2 ^ j = q at h
  obtain ⟨x, rfl⟩ : ∃ x : Nat, q = x := ⟨q.toNat, by omega⟩
  have e1 : (BitVec.ofInt 64 (x : Int)).toNat = x := by
    rw [BitVec.toNat_ofInt]
    have := Int.emod_eq_of_lt (a := (x : Int)) (b := ((2 ^ 64 : Nat) : Int)) (by omega) (by have := h.2; simpa using this)
    rw [this]
    rfl
  have e2 : (BitVec.ofInt 64 1).toNat = 1 := by decide
  rw [BitVec.toNat_and, e1, e2, Nat.and_one_is_mod]
  rw [wrap_u64 ⟨by omega, by omega⟩]
  omega
set_option maxHeartbeats 2000000 in
theorem chas_fw {h : Heap} {s : BSet} {b : Nat} (hs : SetWf s) (hb : b < 256) : FW env 33 [s.val, u8 b] h fun r h' => r = .bool (s.has b) ∧ h' = h := by
  obtain ⟨j, hj⟩ : ∃ j : Nat, j = b % 64 := ⟨_, rfl⟩
  have hj2 : j < 64 := by omega
  have q2 : (b : Int).tmod 64 = (j : Int) := by
    rw [Int.tmod_eq_emod_of_nonneg (by omega)]
    omega
  have q3 : ((j : Int) < 0) = False := by simp
  have ww := hs.word (b / 64)
  have q5 := shr_and ww hj2
  have hres : s.has b = decide (s.word (b / 64) / 2 ^ j % 2 = 1) := by
    unfold BSet.has
    rw [wbit_div ww, hj]
  have q1 : IntKind.u8.wrap ((b : Int).tdiv 64) = ((b / 64 : Nat) : Int) := by
    rw [Int.tdiv_eq_ediv_of_nonneg (by omega)]
    unfold IntKind.wrap
    simp only [IntKind.bits, IntKind.signed, Bool.false_and, Bool.false_eq_true, if_false]
    omega
  rw [hres]
  refine fw_enter (fn := Try.f33) Try.func33 rfl (by kernel_rfl) (by simp [Try.ntmps33]) ?_; simp only [push_cast]
  rcases (by omega : b / 64 = 0 ∨ b / 64 = 1 ∨ b / 64 = 2 ∨ b / 64 = 3) with e | e | e | e
  all_goals
    rw [e] at q1 q5 ⊢
    simp only [BSet.word] at q5 ⊢
  · rw [show ((0 : Nat) : Int) = 0 from rfl] at q1
    repeat (first | refine cw_seq ?_ | refine cw_region ?_ | refine ow_nil ?_ | ((first | apply ow_cons | apply qw_cons); · simp only [push_cast, env, Nat.reduceEqDiff, reduceIte, Nat.reduceAdd, Nat.reduceMul, Nat.reduceLeDiff, reduceCtorEq, Nat.reduceSub, Int.reduceToNat, q1, q2, q3, q5, Int.reduceEq, Int.reduceLT, Int.reduceLE, Nat.mul_one] <;> exact rfl) | ((first | apply ow_spec | apply qw_spec); · simp only [push_cast, env, Nat.reduceEqDiff, reduceIte, Nat.reduceAdd, Nat.reduceMul, Nat.reduceLeDiff, reduceCtorEq, Nat.reduceSub, Int.reduceToNat, q1, q2, q3, q5, Int.reduceEq, Int.reduceLT, Int.reduceLE, Nat.mul_one] <;> exact rfl) | refine qw_nil ?_ | refine cw_block ?_ | refine cw_scope ?_ | refine cw_label ?_ | refine cw_skip ?_)
    refine cw_ret ?_
    exact ⟨_, (by simp only [push_cast, env, Nat.reduceEqDiff, reduceIte, Nat.reduceAdd, Nat.reduceMul, Nat.reduceLeDiff, reduceCtorEq, Nat.reduceSub, Int.reduceToNat] <;> exact rfl), rfl, rfl⟩
  · rw [show ((1 : Nat) : Int) = 1 from rfl] at q1
    repeat (first | refine cw_seq ?_ | refine cw_region ?_ | refine ow_nil ?_ | ((first | apply ow_cons | apply qw_cons); · simp only [push_cast, env, Nat.reduceEqDiff, reduceIte, Nat.reduceAdd, Nat.reduceMul, Nat.reduceLeDiff, reduceCtorEq, Nat.reduceSub, Int.reduceToNat, q1, q2, q3, q5, Int.reduceEq, Int.reduceLT, Int.reduceLE, Nat.mul_one] <;> exact rfl) | ((first | apply ow_spec | apply qw_spec); · simp only [push_cast, env, Nat.reduceEqDiff, reduceIte, Nat.reduceAdd, Nat.reduceMul, Nat.reduceLeDiff, reduceCtorEq, Nat.reduceSub, Int.reduceToNat, q1, q2, q3, q5, Int.reduceEq, Int.reduceLT, Int.reduceLE, Nat.mul_one] <;> exact rfl) | refine qw_nil ?_ | refine cw_block ?_ | refine cw_scope ?_ | refine cw_label ?_ | refine cw_skip ?_)
    refine cw_ret ?_
    exact ⟨_, (by simp only [push_cast, env, Nat.reduceEqDiff, reduceIte, Nat.reduceAdd, Nat.reduceMul, Nat.reduceLeDiff, reduceCtorEq, Nat.reduceSub, Int.reduceToNat] <;> exact rfl), rfl, rfl⟩
  · rw [show ((2 : Nat) : Int) = 2 from rfl] at q1
    repeat (first | refine cw_seq ?_ | refine cw_region ?_ | refine ow_nil ?_ | ((first | apply ow_cons | apply qw_cons); · simp only [push_cast, env, Nat.reduceEqDiff, reduceIte, Nat.reduceAdd, Nat.reduceMul, Nat.reduceLeDiff, reduceCtorEq, Nat.reduceSub, Int.reduceToNat, q1, q2, q3, q5, Int.reduceEq, Int.reduceLT, Int.reduceLE, Nat.mul_one] <;> exact rfl) | ((first | apply ow_spec | apply qw_spec); · simp only [push_cast, env, Nat.reduceEqDiff, reduceIte, Nat.reduceAdd, Nat.reduceMul, Nat.reduceLeDiff, reduceCtorEq, Nat.reduceSub, Int.reduceToNat, q1, q2, q3, q5, Int.reduceEq, Int.reduceLT, Int.reduceLE, Nat.mul_one] <;> exact rfl) | refine qw_nil ?_ | refine cw_block ?_ | refine cw_scope ?_ | refine cw_label ?_ | refine cw_skip ?_)
    refine cw_ret ?_
    exact ⟨_, (by simp only [push_cast, env, Nat.reduceEqDiff, reduceIte, Nat.reduceAdd, Nat.reduceMul, Nat.reduceLeDiff, reduceCtorEq, Nat.reduceSub, Int.reduceToNat] <;> exact rfl), rfl, rfl⟩
  · rw [show ((3 : Nat) : Int) = 3 from rfl] at q1
    repeat (first | refine cw_seq ?_ | refine cw_region ?_ | refine ow_nil ?_ | ((first | apply ow_cons | apply qw_cons); · simp only [push_cast, env, Nat.reduceEqDiff, reduceIte, Nat.reduceAdd, Nat.reduceMul, Nat.reduceLeDiff, reduceCtorEq, Nat.reduceSub, Int.reduceToNat, q1, q2, q3, q5, Int.reduceEq, Int.reduceLT, Int.reduceLE, Nat.mul_one] <;> exact rfl) | ((first | apply ow_spec | apply qw_spec); · simp only [push_cast, env, Nat.reduceEqDiff, reduceIte, Nat.reduceAdd, Nat.reduceMul, Nat.reduceLeDiff, reduceCtorEq, Nat.reduceSub, Int.reduceToNat, q1, q2, q3, q5, Int.reduceEq, Int.reduceLT, Int.reduceLE, Nat.mul_one] <;> exact rfl) | refine qw_nil ?_ | refine cw_block ?_ | refine cw_scope ?_ | refine cw_label ?_ | refine cw_skip ?_)
    refine cw_ret ?_
    exact ⟨_, (by simp only [push_cast, env, Nat.reduceEqDiff, reduceIte, Nat.reduceAdd, Nat.reduceMul, Nat.reduceLeDiff, reduceCtorEq, Nat.reduceSub, Int.reduceToNat] <;> exact rfl), rfl, rfl⟩
end Go.Proofs.Ytafncpgiibikcaa

/- step: what an item of a set asks for. -/
namespace Go.Proofs.Ytafncpgiibikcaa
set_option linter.unusedSimpArgs false
set_option linter.unusedVariables false
set_option maxRecDepth 20000
open Go.RowKit Am Ty

/-- the rules of each nonterminal -/
structure ByR (g : Gram) (ls : List (List Int)) : Prop where
  n : (ls.length : Int) = g.nts
  m : ∀ a : Int, 0 ≤ a → a < g.nts → ∀ q : Int, q ∈ lget ls a ↔ ∃ (k : Nat) (r : Rule), q = k ∧ g.rules[k]? = some r ∧ r.lhs = a
  l : ∀ l ∈ ls, l.length ≤ 8192
/-- lists in a list, that are read -/
def RdLL (h : Heap) (v : Value) (ls : List (List Int)) : Prop := ∃ id ver own c us, v = .slice (some ⟨id, 0, some ver⟩) ls.length c ∧ h[id]? = some (.arr us ver own 91) ∧ us.length = ls.length ∧ ∀ (i : Nat) (u : Value) (l : List Int), us[i]? = some u → ls[i]? = some l → RdInts h u l
theorem RdLL.mono {h h' : Heap} {v : Value} {ls : List (List Int)} (r : RdLL h v ls) (hp : h <+: h') : RdLL h' v ls := by
  obtain ⟨id, ver, own, c, us, h1, h2, h3, h4⟩ := r
  exact ⟨id, ver, own, c, us, h1, getElem?_of_prefix hp h2, h3, fun i u l k1 k2 => SlR.mono (h4 i u l k1 k2) hp⟩
set_option maxHeartbeats 8000000 in
theorem step_fw {h0 hB hb : Heap} {g : Gram} {rv wv : Value} {F : Fix} {G : Gh} {j : Nat} {x : Item} {w : List Nat} {ls : List (List Int)} (K : CHR h0 hB g rv wv F G) (hev : F.ev = .map (some F.ie)) (hp0 : hb <+: h0) (hr : RdRules hb rv g.rules) (hwR : RdB hb wv w) (hl : RdLL hB F.bv ls) (B : ByR g ls) (R : RightS g) (W : WfG g)
    (hw : w.length ≤ 512) (C : CI g w G.S) (hj : j ≤ w.length) (hx : It g w j x) (hE : ESound g w j G.E) :
    FW env 53 [.pointer (some ⟨F.cp, 0, some 0⟩), i64 j, x.val] G.h fun _ h' => ∃ us S' E', CHR h0 hB g rv wv F ⟨h', us, S', E'⟩ ∧ StepP g w j x G.S G.E S' E' := by
  obtain ⟨h, us, S, E⟩ := G
  simp only at C hE ⊢
  obtain ⟨p, cr, rfl⟩ := hr.form
  obtain ⟨pw, cw, rfl⟩ := hwR.form
  have hle := hr.le
  obtain ⟨r, hq, hxd, _, hxs⟩ := hx.sound
  obtain ⟨hql, hqe⟩ := List.getElem?_eq_some_iff.1 hq
  have hxf : x.frm ≤ j := hxs.1
  have hjS : j < S.length := by have := C.n; omega
  obtain ⟨l1, l2, l3, hS⟩ := R.r _ (List.mem_of_getElem? hq)
  have hc := K.c
  unfold chCells at hc
  simp only at hc
  obtain ⟨id, ver, own, c', cells, p', n', c2, hv, hid0, hn, hrd, hu'⟩ := hr.at hql
  cases hv
  subst hn
  have hph : hb <+: h := hp0.trans K.p
  have hid := getElem?_of_prefix hph hid0
  have e0 := rdH_get (j := 1) hrd (by omega)
  simp only [List.getElem?_cons_zero, List.getElem?_cons_succ] at e0
  have e1 := rng hql
  refine fw_enter (fn := Try.f53) Try.func53 rfl (by kernel_rfl) (by simp [Try.ntmps53]) ?_; simp only [push_cast]
  repeat (first | refine cw_seq ?_ | refine cw_region ?_ | refine ow_nil ?_ | ((first | apply ow_cons | apply qw_cons); · simp only [push_cast, env, Nat.reduceEqDiff, reduceIte, Nat.reduceAdd, Nat.reduceMul, Nat.reduceLeDiff, reduceCtorEq, Nat.reduceSub, Int.reduceToNat] <;> exact rfl) | ((first | apply ow_spec | apply qw_spec); · simp only [push_cast, env, Nat.reduceEqDiff, reduceIte, Nat.reduceAdd, Nat.reduceMul, Nat.reduceLeDiff, reduceCtorEq, Nat.reduceSub, Int.reduceToNat] <;> exact rfl) | refine qw_nil ?_ | refine cw_block ?_ | refine cw_scope ?_ | refine cw_label ?_ | refine cw_skip ?_)
  refine cw_regionD 10 mixed (by kernel_rfl) ?_
  by_cases hend : x.dot = g.rules[x.rule].rhs.length
  · have d1 : decide ((x.dot : Int) = (g.rules[x.rule].rhs.length : Int)) = true := decide_eq_true (by omega)
    repeat (first | refine cw_seq ?_ | refine cw_region ?_ | refine ow_nil ?_ | ((first | apply ow_cons | apply qw_cons); · simp only [push_cast, env, Nat.reduceEqDiff, reduceIte, Nat.reduceAdd, Nat.reduceMul, Nat.reduceLeDiff, reduceCtorEq, Nat.reduceSub, Int.reduceToNat, hc, e1, hid, e0, Nat.mul_one, d1] <;> exact rfl) | ((first | apply ow_spec | apply qw_spec); · simp only [push_cast, env, Nat.reduceEqDiff, reduceIte, Nat.reduceAdd, Nat.reduceMul, Nat.reduceLeDiff, reduceCtorEq, Nat.reduceSub, Int.reduceToNat, hc, e1, hid, e0, Nat.mul_one, d1] <;> exact rfl) | refine qw_nil ?_ | refine cw_block ?_ | refine cw_scope ?_ | refine cw_label ?_ | refine cw_skip ?_)
    refine cw_condT (by simp only [push_cast, env, Nat.reduceEqDiff, reduceIte, Nat.reduceAdd, Nat.reduceMul, Nat.reduceLeDiff, reduceCtorEq, Nat.reduceSub, Int.reduceToNat] <;> exact rfl) ?_
    repeat (first | refine cw_seq ?_ | refine cw_region ?_ | refine ow_nil ?_ | ((first | apply ow_cons | apply qw_cons); · simp only [push_cast, env, Nat.reduceEqDiff, reduceIte, Nat.reduceAdd, Nat.reduceMul, Nat.reduceLeDiff, reduceCtorEq, Nat.reduceSub, Int.reduceToNat] <;> exact rfl) | ((first | apply ow_spec | apply qw_spec); · simp only [push_cast, env, Nat.reduceEqDiff, reduceIte, Nat.reduceAdd, Nat.reduceMul, Nat.reduceLeDiff, reduceCtorEq, Nat.reduceSub, Int.reduceToNat] <;> exact rfl) | refine qw_nil ?_ | refine cw_block ?_ | refine cw_scope ?_ | refine cw_label ?_ | refine cw_skip ?_)
    refine ow_call (fn := Try.f62) (by simp only [push_cast, env, Nat.reduceEqDiff, reduceIte, Nat.reduceAdd, Nat.reduceMul, Nat.reduceLeDiff, reduceCtorEq, Nat.reduceSub, Int.reduceToNat] <;> exact rfl) rfl (by simp only [push_cast, env, Nat.reduceEqDiff, reduceIte, Nat.reduceAdd, Nat.reduceMul, Nat.reduceLeDiff, reduceCtorEq, Nat.reduceSub, Int.reduceToNat] <;> exact rfl) (by simp only [push_cast, env, Nat.reduceEqDiff, reduceIte, Nat.reduceAdd, Nat.reduceMul, Nat.reduceLeDiff, reduceCtorEq, Nat.reduceSub, Int.reduceToNat] <;> exact rfl) Try.func62 (by kernel_rfl) (by kernel_rfl) ?_
    rw [List.append_nil]
    refine (complete_fw (x := x) K hev (hr.mono hp0) R hw C hj hx hq (by rw [← hqe]; exact hend)).mono ?_
    rintro _ h2 ⟨us2, S2, K2, P2⟩
    repeat (first | refine cw_seq ?_ | refine cw_region ?_ | refine ow_nil ?_ | ((first | apply ow_cons | apply qw_cons); · simp only [push_cast, env, Nat.reduceEqDiff, reduceIte, Nat.reduceAdd, Nat.reduceMul, Nat.reduceLeDiff, reduceCtorEq, Nat.reduceSub, Int.reduceToNat] <;> exact rfl) | ((first | apply ow_spec | apply qw_spec); · simp only [push_cast, env, Nat.reduceEqDiff, reduceIte, Nat.reduceAdd, Nat.reduceMul, Nat.reduceLeDiff, reduceCtorEq, Nat.reduceSub, Int.reduceToNat] <;> exact rfl) | refine qw_nil ?_ | refine cw_block ?_ | refine cw_scope ?_ | refine cw_label ?_ | refine cw_skip ?_)
    refine cw_ret ?_
    exact ⟨_, (by simp only [push_cast, env, Nat.reduceEqDiff, reduceIte, Nat.reduceAdd, Nat.reduceMul, Nat.reduceLeDiff, reduceCtorEq, Nat.reduceSub, Int.reduceToNat] <;> exact rfl), us2, S2, _, K2, P2.step ⟨r, hq, by rw [← hqe]; exact hend, rfl⟩ hx hE⟩
  have d1 : decide ((x.dot : Int) = (g.rules[x.rule].rhs.length : Int)) = false := decide_eq_false (by omega)
  have hdl : x.dot < g.rules[x.rule].rhs.length := by rw [← hqe] at hxd; omega
  obtain ⟨id4, ver4, own4, c5, cells4, hv4, hid4, hrd4⟩ := hu'.at hdl
  cases hv4
  have hid4' := getElem?_of_prefix hph hid4
  have g5 := rng hdl
  obtain ⟨s, hs⟩ : ∃ s, s = g.rules[x.rule].rhs[x.dot] := ⟨_, rfl⟩
  rw [← hs] at hrd4
  have hsy : r.rhs[x.dot]? = some s := by rw [hs, ← hqe]; exact List.getElem?_eq_getElem hdl
  have hsm := hS s (List.mem_of_getElem? hsy)
  have f5 : IntKind.i64.wrap ((x.dot : Int) + 1) = ((x.dot + 1 : Nat) : Int) := by
    rw [← hqe] at l3
    rw [wrap64_id (by omega) (by omega)]
    rfl
  repeat (first | refine cw_seq ?_ | refine cw_region ?_ | refine ow_nil ?_ | ((first | apply ow_cons | apply qw_cons); · simp only [push_cast, env, Nat.reduceEqDiff, reduceIte, Nat.reduceAdd, Nat.reduceMul, Nat.reduceLeDiff, reduceCtorEq, Nat.reduceSub, Int.reduceToNat, hc, e1, hid, e0, Nat.mul_one, d1] <;> exact rfl) | ((first | apply ow_spec | apply qw_spec); · simp only [push_cast, env, Nat.reduceEqDiff, reduceIte, Nat.reduceAdd, Nat.reduceMul, Nat.reduceLeDiff, reduceCtorEq, Nat.reduceSub, Int.reduceToNat, hc, e1, hid, e0, Nat.mul_one, d1] <;> exact rfl) | refine qw_nil ?_ | refine cw_block ?_ | refine cw_scope ?_ | refine cw_label ?_ | refine cw_skip ?_)
  refine cw_condF (by simp only [push_cast, env, Nat.reduceEqDiff, reduceIte, Nat.reduceAdd, Nat.reduceMul, Nat.reduceLeDiff, reduceCtorEq, Nat.reduceSub, Int.reduceToNat] <;> exact rfl) ?_
  repeat (first | refine cw_seq ?_ | refine cw_region ?_ | refine ow_nil ?_ | ((first | apply ow_cons | apply qw_cons); · simp only [push_cast, env, Nat.reduceEqDiff, reduceIte, Nat.reduceAdd, Nat.reduceMul, Nat.reduceLeDiff, reduceCtorEq, Nat.reduceSub, Int.reduceToNat, hid4', hrd4, g5, f5] <;> exact rfl) | ((first | apply ow_spec | apply qw_spec); · simp only [push_cast, env, Nat.reduceEqDiff, reduceIte, Nat.reduceAdd, Nat.reduceMul, Nat.reduceLeDiff, reduceCtorEq, Nat.reduceSub, Int.reduceToNat, hid4', hrd4, g5, f5] <;> exact rfl) | refine qw_nil ?_ | refine cw_block ?_ | refine cw_scope ?_ | refine cw_label ?_ | refine cw_skip ?_)
  have hsB : ∀ b : Nat, s.set.has b = true → b < 256 → True := fun _ _ _ => trivial
  refine cw_cond (by simp only [push_cast, env, Nat.reduceEqDiff, reduceIte, Nat.reduceAdd, Nat.reduceMul, Nat.reduceLeDiff, reduceCtorEq, Nat.reduceSub, Int.reduceToNat] <;> exact rfl) (fun c1 => ?_) (fun c1 => ?_)
  · have c1' : s.nt < 0 := by simpa using c1
    have nowait : ∀ A, Wait g x A → 0 ≤ A → False := fun A hA h0 => by
      obtain ⟨r', s', w1, w2, w3⟩ := hA
      obtain rfl : r = r' := Option.some.inj (hq.symm.trans w1)
      obtain rfl : s = s' := Option.some.inj (hsy.symm.trans w2)
      omega
    have noend : ∀ A, Endd g x A → False := fun A hA => by
      obtain ⟨r', w1, w2, _⟩ := hA
      obtain rfl : r = r' := Option.some.inj (hq.symm.trans w1)
      rw [← hqe] at w2
      exact hend w2
    refine cw_weakL [(0, .val (.pointer (some ⟨F.cp, 0, some 0⟩))), (1, .val (i64 j)), (7, .box [i64 s.nt, u64 s.set.a, u64 s.set.b, u64 s.set.c, u64 s.set.d]), (8, .box [i64 x.rule, i64 (x.dot + 1), i64 x.frm])] (by simp only [push_cast, SubL, fget, Nat.reduceEqDiff, reduceIte]) ?_
    show CW _ _ ⟨_, [], h⟩ _
    refine cw_seq ?_
    refine cw_seq ?_
    by_cases hjw : j < w.length
    · have d2 := lt_dec hjw
      obtain ⟨idw, offw, verw, ownw, cw', cellsw, hvw, hidw, hgw, hbw⟩ := hwR.at hjw
      cases hvw
      have hidw' := getElem?_of_prefix hph hidw
      have e6 := rng hjw
      have hsw := W _ (List.mem_of_getElem? hq) s (List.mem_of_getElem? hsy)
      apply cw_ord0 (L := [[], [], [1], [2], [3], [4], [0, 5], [6], [7], [7, 8], [7], [7, 10], [7, 11], [7, 12], [7], [7, 13, 14], [7, 15], [7, 9, 16], [7, 17]]) (resL := [_, _, _, _, _, _, _, _, _, _, _, _, _, _, _, _, _, _, _]) (frF := [(0, .val (.pointer (some ⟨F.cp, 0, some 0⟩))), (1, .val (i64 j)), (8, .box [i64 x.rule, i64 (x.dot + 1), i64 x.frm]), (64, .val (.bool (s.set.has w[j])))])
      case hm => exact mixed
      case hc => kernel_rfl
      case hb => rfl
      case hS =>
        repeat (first | exact Steps0.nil _ | (apply Steps0.cons; (· first | (apply one_val; (· rfl); (· simp only [push_cast, env, Nat.reduceEqDiff, reduceIte, Nat.reduceAdd, Nat.reduceMul, Nat.reduceLeDiff, reduceCtorEq, Nat.reduceSub, Int.reduceToNat, hc, d2, hidw', hgw, e6, Nat.mul_one] <;> exact rfl); (· simp only [push_cast, env, Nat.reduceEqDiff, reduceIte, Nat.reduceAdd, Nat.reduceMul, Nat.reduceLeDiff, reduceCtorEq, Nat.reduceSub, Int.reduceToNat, hc, d2, hidw', hgw, e6, Nat.mul_one] <;> exact rfl)) | (apply one_eph; (· rfl); (· simp only [push_cast, env, Nat.reduceEqDiff, reduceIte, Nat.reduceAdd, Nat.reduceMul, Nat.reduceLeDiff, reduceCtorEq, Nat.reduceSub, Int.reduceToNat, hc, d2, hidw', hgw, e6, Nat.mul_one] <;> exact rfl); (· rfl); (· simp only [push_cast, env, Nat.reduceEqDiff, reduceIte, Nat.reduceAdd, Nat.reduceMul, Nat.reduceLeDiff, reduceCtorEq, Nat.reduceSub, Int.reduceToNat, hc, d2, hidw', hgw, e6, Nat.mul_one] <;> exact rfl); (· decide)) | (apply one_skip; (· rfl); (· simp only [push_cast, env, Nat.reduceEqDiff, reduceIte, Nat.reduceAdd, Nat.reduceMul, Nat.reduceLeDiff, reduceCtorEq, Nat.reduceSub, Int.reduceToNat, hc, d2, hidw', hgw, e6, Nat.mul_one] <;> exact rfl))); (· rfl)))
        apply Steps0.cons; · refine one_call (fn := Try.f33) rfl (by simp only [push_cast, env, Nat.reduceEqDiff, reduceIte, Nat.reduceAdd, Nat.reduceMul, Nat.reduceLeDiff, reduceCtorEq, Nat.reduceSub, Int.reduceToNat, d2] <;> exact rfl) rfl (by simp only [push_cast, env, Nat.reduceEqDiff, reduceIte, Nat.reduceAdd, Nat.reduceMul, Nat.reduceLeDiff, reduceCtorEq, Nat.reduceSub, Int.reduceToNat, d2] <;> exact rfl) (by simp only [push_cast, env, Nat.reduceEqDiff, reduceIte, Nat.reduceAdd, Nat.reduceMul, Nat.reduceLeDiff, reduceCtorEq, Nat.reduceSub, Int.reduceToNat, d2] <;> exact rfl) Try.func33 (by kernel_rfl) (by kernel_rfl) (chas_fw hsw hbw)
        · rfl
        repeat (first | exact Steps0.nil _ | (apply Steps0.cons; (· first | (apply one_val; (· rfl); (· simp only [push_cast, env, Nat.reduceEqDiff, reduceIte, Nat.reduceAdd, Nat.reduceMul, Nat.reduceLeDiff, reduceCtorEq, Nat.reduceSub, Int.reduceToNat] <;> exact rfl); (· simp only [push_cast, env, Nat.reduceEqDiff, reduceIte, Nat.reduceAdd, Nat.reduceMul, Nat.reduceLeDiff, reduceCtorEq, Nat.reduceSub, Int.reduceToNat] <;> exact rfl)) | (apply one_eph; (· rfl); (· simp only [push_cast, env, Nat.reduceEqDiff, reduceIte, Nat.reduceAdd, Nat.reduceMul, Nat.reduceLeDiff, reduceCtorEq, Nat.reduceSub, Int.reduceToNat] <;> exact rfl); (· rfl); (· simp only [push_cast, env, Nat.reduceEqDiff, reduceIte, Nat.reduceAdd, Nat.reduceMul, Nat.reduceLeDiff, reduceCtorEq, Nat.reduceSub, Int.reduceToNat] <;> exact rfl); (· decide)) | (apply one_skip; (· rfl); (· simp only [push_cast, env, Nat.reduceEqDiff, reduceIte, Nat.reduceAdd, Nat.reduceMul, Nat.reduceLeDiff, reduceCtorEq, Nat.reduceSub, Int.reduceToNat] <;> exact rfl))); (· rfl)))
      case ht => rfl
      case hF => repeat (first | exact trivial | (refine ⟨.inl ⟨by decide, rfl⟩, ?_⟩) | (refine ⟨.inr ⟨rfl, by simp⟩, ?_⟩))
      show CW _ _ _ _
      repeat (first | refine cw_seq ?_ | refine cw_region ?_ | refine ow_nil ?_ | ((first | apply ow_cons | apply qw_cons); · simp only [push_cast, env, Nat.reduceEqDiff, reduceIte, Nat.reduceAdd, Nat.reduceMul, Nat.reduceLeDiff, reduceCtorEq, Nat.reduceSub, Int.reduceToNat] <;> exact rfl) | ((first | apply ow_spec | apply qw_spec); · simp only [push_cast, env, Nat.reduceEqDiff, reduceIte, Nat.reduceAdd, Nat.reduceMul, Nat.reduceLeDiff, reduceCtorEq, Nat.reduceSub, Int.reduceToNat] <;> exact rfl) | refine qw_nil ?_ | refine cw_block ?_ | refine cw_scope ?_ | refine cw_label ?_ | refine cw_skip ?_)
      refine cw_cond (by simp only [push_cast, env, Nat.reduceEqDiff, reduceIte, Nat.reduceAdd, Nat.reduceMul, Nat.reduceLeDiff, reduceCtorEq, Nat.reduceSub, Int.reduceToNat] <;> exact rfl) (fun c2 => ?_) (fun c2 => ?_)
      · have hadv : It g w (j + 1) (adv x) := .scan j x r s w[j] hx hq hsy c1' (List.getElem?_eq_getElem hjw) c2
        have hj1 : j + 1 < S.length := by have := C.n; omega
        have f6 : IntKind.i64.wrap ((j : Int) + 1) = ((j + 1 : Nat) : Int) := by rw [wrap64_id (by omega) (by omega)]; rfl
        repeat (first | refine cw_seq ?_ | refine cw_region ?_ | refine ow_nil ?_ | ((first | apply ow_cons | apply qw_cons); · simp only [push_cast, env, Nat.reduceEqDiff, reduceIte, Nat.reduceAdd, Nat.reduceMul, Nat.reduceLeDiff, reduceCtorEq, Nat.reduceSub, Int.reduceToNat, f6] <;> exact rfl) | ((first | apply ow_spec | apply qw_spec); · simp only [push_cast, env, Nat.reduceEqDiff, reduceIte, Nat.reduceAdd, Nat.reduceMul, Nat.reduceLeDiff, reduceCtorEq, Nat.reduceSub, Int.reduceToNat, f6] <;> exact rfl) | refine qw_nil ?_ | refine cw_block ?_ | refine cw_scope ?_ | refine cw_label ?_ | refine cw_skip ?_)
        refine ow_call (fn := Try.f52) (by simp only [push_cast, env, Nat.reduceEqDiff, reduceIte, Nat.reduceAdd, Nat.reduceMul, Nat.reduceLeDiff, reduceCtorEq, Nat.reduceSub, Int.reduceToNat] <;> exact rfl) rfl (by simp only [push_cast, env, Nat.reduceEqDiff, reduceIte, Nat.reduceAdd, Nat.reduceMul, Nat.reduceLeDiff, reduceCtorEq, Nat.reduceSub, Int.reduceToNat] <;> exact rfl) (by simp only [push_cast, env, Nat.reduceEqDiff, reduceIte, Nat.reduceAdd, Nat.reduceMul, Nat.reduceLeDiff, reduceCtorEq, Nat.reduceSub, Int.reduceToNat] <;> exact rfl) Try.func52 (by kernel_rfl) (by kernel_rfl) ?_
        rw [List.append_nil]
        refine (add_fw (j := j + 1) (x := adv x) K hj1 (by have := C.small R hw (k := j + 1) (by omega); simp only; omega)).mono ?_
        rintro _ h2 ⟨us2, K2⟩
        have X2 := addS_ext (x := adv x) hj1
        repeat (first | refine cw_seq ?_ | refine cw_region ?_ | refine ow_nil ?_ | ((first | apply ow_cons | apply qw_cons); · simp only [push_cast, env, Nat.reduceEqDiff, reduceIte, Nat.reduceAdd, Nat.reduceMul, Nat.reduceLeDiff, reduceCtorEq, Nat.reduceSub, Int.reduceToNat] <;> exact rfl) | ((first | apply ow_spec | apply qw_spec); · simp only [push_cast, env, Nat.reduceEqDiff, reduceIte, Nat.reduceAdd, Nat.reduceMul, Nat.reduceLeDiff, reduceCtorEq, Nat.reduceSub, Int.reduceToNat] <;> exact rfl) | refine qw_nil ?_ | refine cw_block ?_ | refine cw_scope ?_ | refine cw_label ?_ | refine cw_skip ?_)
        refine cw_ret ?_
        refine ⟨_, (by simp only [push_cast, env, Nat.reduceEqDiff, reduceIte, Nat.reduceAdd, Nat.reduceMul, Nat.reduceLeDiff, reduceCtorEq, Nat.reduceSub, Int.reduceToNat] <;> exact rfl), us2, _, E, K2, X2, C.add hadv (by omega), fun k k1 k2 => addS_ne hj1 k2, fun a h => h, hE, fun a h1 h2 => (h2 h1).elim, ⟨fun A q r' h1 h2 => (nowait A h1 h2).elim, fun _ _ _ _ _ _ _ _ => addS_mem hj1, fun A y h1 => (noend A h1).elim, fun A h1 => (noend A h1).elim, fun A h1 h2 => ?_⟩⟩
        obtain ⟨y, hy, hy2, ry, w1, w2, w3⟩ := hE A h2
        exact (nowait A h1 (by have := (R.r _ (List.mem_of_getElem? w1)).1; omega)).elim
      · repeat (first | refine cw_seq ?_ | refine cw_region ?_ | refine ow_nil ?_ | ((first | apply ow_cons | apply qw_cons); · simp only [push_cast, env, Nat.reduceEqDiff, reduceIte, Nat.reduceAdd, Nat.reduceMul, Nat.reduceLeDiff, reduceCtorEq, Nat.reduceSub, Int.reduceToNat] <;> exact rfl) | ((first | apply ow_spec | apply qw_spec); · simp only [push_cast, env, Nat.reduceEqDiff, reduceIte, Nat.reduceAdd, Nat.reduceMul, Nat.reduceLeDiff, reduceCtorEq, Nat.reduceSub, Int.reduceToNat] <;> exact rfl) | refine qw_nil ?_ | refine cw_block ?_ | refine cw_scope ?_ | refine cw_label ?_ | refine cw_skip ?_)
        refine cw_ret ?_
        refine ⟨_, (by simp only [push_cast, env, Nat.reduceEqDiff, reduceIte, Nat.reduceAdd, Nat.reduceMul, Nat.reduceLeDiff, reduceCtorEq, Nat.reduceSub, Int.reduceToNat] <;> exact rfl), us, S, E, K, .refl, C, fun k k1 k2 => rfl, fun a h => h, hE, fun a h1 h2 => (h2 h1).elim, ⟨fun A q r' h1 h2 => (nowait A h1 h2).elim, fun r' s' b h1 h2 h3 h4 h5 => ?_, fun A y h1 => (noend A h1).elim, fun A h1 => (noend A h1).elim, fun A h1 h2 => ?_⟩⟩
        · obtain rfl : r = r' := Option.some.inj (hq.symm.trans h1)
          obtain rfl : s = s' := Option.some.inj (hsy.symm.trans h2)
          rw [List.getElem?_eq_getElem hjw] at h4
          cases h4
          rw [c2] at h5
          cases h5
        · obtain ⟨y, hy, hy2, ry, w1, w2, w3⟩ := hE A h2
          exact (nowait A h1 (by have := (R.r _ (List.mem_of_getElem? w1)).1; omega)).elim
    · have d2 := ge_dec hjw
      apply cw_ord0 (L := [[], [], [1], [2], [3], [4], [0, 5], [6], [7], [7, 8], [7], [7, 10], [7, 11], [7, 12], [7], [7, 13, 14], [7, 15], [7, 9, 16], [7, 17]]) (resL := [_, _, _, _, _, _, _, _, _, _, _, _, _, _, _, _, _, _, _]) (frF := [(0, .val (.pointer (some ⟨F.cp, 0, some 0⟩))), (1, .val (i64 j)), (8, .box [i64 x.rule, i64 (x.dot + 1), i64 x.frm]), (64, .val (.bool false))])
      case hm => exact mixed
      case hc => kernel_rfl
      case hb => rfl
      case hS => repeat (first | exact Steps0.nil _ | (apply Steps0.cons; (· first | (apply one_val; (· rfl); (· simp only [push_cast, env, Nat.reduceEqDiff, reduceIte, Nat.reduceAdd, Nat.reduceMul, Nat.reduceLeDiff, reduceCtorEq, Nat.reduceSub, Int.reduceToNat, hc, d2, Nat.mul_one] <;> exact rfl); (· simp only [push_cast, env, Nat.reduceEqDiff, reduceIte, Nat.reduceAdd, Nat.reduceMul, Nat.reduceLeDiff, reduceCtorEq, Nat.reduceSub, Int.reduceToNat, hc, d2, Nat.mul_one] <;> exact rfl)) | (apply one_eph; (· rfl); (· simp only [push_cast, env, Nat.reduceEqDiff, reduceIte, Nat.reduceAdd, Nat.reduceMul, Nat.reduceLeDiff, reduceCtorEq, Nat.reduceSub, Int.reduceToNat, hc, d2, Nat.mul_one] <;> exact rfl); (· rfl); (· simp only [push_cast, env, Nat.reduceEqDiff, reduceIte, Nat.reduceAdd, Nat.reduceMul, Nat.reduceLeDiff, reduceCtorEq, Nat.reduceSub, Int.reduceToNat, hc, d2, Nat.mul_one] <;> exact rfl); (· decide)) | (apply one_skip; (· rfl); (· simp only [push_cast, env, Nat.reduceEqDiff, reduceIte, Nat.reduceAdd, Nat.reduceMul, Nat.reduceLeDiff, reduceCtorEq, Nat.reduceSub, Int.reduceToNat, hc, d2, Nat.mul_one] <;> exact rfl))); (· rfl)))
      case ht => rfl
      case hF => repeat (first | exact trivial | (refine ⟨.inl ⟨by decide, rfl⟩, ?_⟩) | (refine ⟨.inr ⟨rfl, by simp⟩, ?_⟩))
      show CW _ _ _ _
      repeat (first | refine cw_seq ?_ | refine cw_region ?_ | refine ow_nil ?_ | ((first | apply ow_cons | apply qw_cons); · simp only [push_cast, env, Nat.reduceEqDiff, reduceIte, Nat.reduceAdd, Nat.reduceMul, Nat.reduceLeDiff, reduceCtorEq, Nat.reduceSub, Int.reduceToNat] <;> exact rfl) | ((first | apply ow_spec | apply qw_spec); · simp only [push_cast, env, Nat.reduceEqDiff, reduceIte, Nat.reduceAdd, Nat.reduceMul, Nat.reduceLeDiff, reduceCtorEq, Nat.reduceSub, Int.reduceToNat] <;> exact rfl) | refine qw_nil ?_ | refine cw_block ?_ | refine cw_scope ?_ | refine cw_label ?_ | refine cw_skip ?_)
      refine cw_condF (by simp only [push_cast, env, Nat.reduceEqDiff, reduceIte, Nat.reduceAdd, Nat.reduceMul, Nat.reduceLeDiff, reduceCtorEq, Nat.reduceSub, Int.reduceToNat] <;> exact rfl) ?_
      repeat (first | refine cw_seq ?_ | refine cw_region ?_ | refine ow_nil ?_ | ((first | apply ow_cons | apply qw_cons); · simp only [push_cast, env, Nat.reduceEqDiff, reduceIte, Nat.reduceAdd, Nat.reduceMul, Nat.reduceLeDiff, reduceCtorEq, Nat.reduceSub, Int.reduceToNat] <;> exact rfl) | ((first | apply ow_spec | apply qw_spec); · simp only [push_cast, env, Nat.reduceEqDiff, reduceIte, Nat.reduceAdd, Nat.reduceMul, Nat.reduceLeDiff, reduceCtorEq, Nat.reduceSub, Int.reduceToNat] <;> exact rfl) | refine qw_nil ?_ | refine cw_block ?_ | refine cw_scope ?_ | refine cw_label ?_ | refine cw_skip ?_)
      refine cw_ret ?_
      refine ⟨_, (by simp only [push_cast, env, Nat.reduceEqDiff, reduceIte, Nat.reduceAdd, Nat.reduceMul, Nat.reduceLeDiff, reduceCtorEq, Nat.reduceSub, Int.reduceToNat] <;> exact rfl), us, S, E, K, .refl, C, fun k k1 k2 => rfl, fun a h => h, hE, fun a h1 h2 => (h2 h1).elim, ⟨fun A q r' h1 h2 => (nowait A h1 h2).elim, fun r' s' b h1 h2 h3 h4 h5 => ?_, fun A y h1 => (noend A h1).elim, fun A h1 => (noend A h1).elim, fun A h1 h2 => ?_⟩⟩
      · exact (hjw (List.getElem?_eq_some_iff.1 h4).1).elim
      · obtain ⟨y, hy, hy2, ry, w1, w2, w3⟩ := hE A h2
        exact (nowait A h1 (by have := (R.r _ (List.mem_of_getElem? w1)).1; omega)).elim
  · have c1' : 0 ≤ s.nt := by simpa using c1
    have sn := hsm.2.1
    have onewait : ∀ A, Wait g x A → A = s.nt := fun A hA => by
      obtain ⟨r', s', w1, w2, w3⟩ := hA
      obtain rfl : r = r' := Option.some.inj (hq.symm.trans w1)
      obtain rfl : s = s' := Option.some.inj (hsy.symm.trans w2)
      exact w3.symm
    have noend : ∀ A, Endd g x A → False := fun A hA => by
      obtain ⟨r', w1, w2, _⟩ := hA
      obtain rfl : r = r' := Option.some.inj (hq.symm.trans w1)
      rw [← hqe] at w2
      exact hend w2
    obtain ⟨idb, verb, ownb, cb, usb, hbv, hidb, hbn, hbr⟩ := hl
    have hln := B.n
    have hnl : s.nt.toNat < ls.length := by omega
    have hli := lget_get (ls := ls) c1' (by omega)
    obtain ⟨ub, hub⟩ : ∃ ub, usb[s.nt.toNat]? = some ub := ⟨_, List.getElem?_eq_getElem (by omega)⟩
    have hlr := hbr _ _ _ hub hli
    obtain ⟨pb, cbb, rfl⟩ := SlR.form hlr
    have hidb' := K.kb _ _ _ _ _ (.inr rfl) hidb
    have q3 := rng0 (N := ls.length) c1' (by omega)
    have hll := B.l _ (List.mem_of_getElem? hli)
    rw [hbv] at hc
    generalize hL : lget ls s.nt = L at hlr hll hub
    refine cw_weakL [(0, .val (.pointer (some ⟨F.cp, 0, some 0⟩))), (1, .val (i64 j)), (7, .box [i64 s.nt, u64 s.set.a, u64 s.set.b, u64 s.set.c, u64 s.set.d]), (8, .box [i64 x.rule, i64 (x.dot + 1), i64 x.frm])] (by simp only [push_cast, SubL, fget, Nat.reduceEqDiff, reduceIte]) ?_
    show CW _ _ ⟨_, [], h⟩ _
    repeat (first | refine cw_seq ?_ | refine cw_region ?_ | refine ow_nil ?_ | refine qw_nil ?_ | refine cw_block ?_ | refine cw_scope ?_ | refine cw_label ?_ | refine cw_skip ?_)
    show CW _ _ _ _
    repeat (first | refine cw_seq ?_ | refine cw_region ?_ | refine ow_nil ?_ | refine qw_nil ?_ | refine cw_block ?_ | refine cw_scope ?_ | refine cw_label ?_ | refine cw_skip ?_)
    apply cw_ord0 (L := [[], [0], [1], [2], [], [4], [3, 5], [6], [7], []]) (resL := [_, _, _, _, _, _, _, _, _, _]) (frF := [(0, .val (.pointer (some ⟨F.cp, 0, some 0⟩))), (1, .val (i64 j)), (7, .box [i64 s.nt, u64 s.set.a, u64 s.set.b, u64 s.set.c, u64 s.set.d]), (8, .box [i64 x.rule, i64 (x.dot + 1), i64 x.frm]), (77, .val (.slice pb L.length cbb)), (78, .val (i64 L.length)), (79, .val (i64 0))])
    case hm => exact mixed
    case hc => kernel_rfl
    case hb => rfl
    case hS => repeat (first | exact Steps0.nil _ | (apply Steps0.cons; (· first | (apply one_val; (· rfl); (· simp only [push_cast, env, Nat.reduceEqDiff, reduceIte, Nat.reduceAdd, Nat.reduceMul, Nat.reduceLeDiff, reduceCtorEq, Nat.reduceSub, Int.reduceToNat, hc, hidb', q3, hub, Nat.mul_one] <;> exact rfl); (· simp only [push_cast, env, Nat.reduceEqDiff, reduceIte, Nat.reduceAdd, Nat.reduceMul, Nat.reduceLeDiff, reduceCtorEq, Nat.reduceSub, Int.reduceToNat, hc, hidb', q3, hub, Nat.mul_one] <;> exact rfl)) | (apply one_eph; (· rfl); (· simp only [push_cast, env, Nat.reduceEqDiff, reduceIte, Nat.reduceAdd, Nat.reduceMul, Nat.reduceLeDiff, reduceCtorEq, Nat.reduceSub, Int.reduceToNat, hc, hidb', q3, hub, Nat.mul_one] <;> exact rfl); (· rfl); (· simp only [push_cast, env, Nat.reduceEqDiff, reduceIte, Nat.reduceAdd, Nat.reduceMul, Nat.reduceLeDiff, reduceCtorEq, Nat.reduceSub, Int.reduceToNat, hc, hidb', q3, hub, Nat.mul_one] <;> exact rfl); (· decide)) | (apply one_skip; (· rfl); (· simp only [push_cast, env, Nat.reduceEqDiff, reduceIte, Nat.reduceAdd, Nat.reduceMul, Nat.reduceLeDiff, reduceCtorEq, Nat.reduceSub, Int.reduceToNat, hc, hidb', q3, hub, Nat.mul_one] <;> exact rfl))); (· rfl)))
    case ht => rfl
    case hF => repeat (first | exact trivial | (refine ⟨.inl ⟨by decide, rfl⟩, ?_⟩) | (refine ⟨.inr ⟨rfl, by simp⟩, ?_⟩))
    show CW _ _ _ _
    have qok : ∀ q : Int, q ∈ L → ∃ (k : Nat) (r' : Rule), q = k ∧ g.rules[k]? = some r' ∧ r'.lhs = s.nt := fun q hq => (B.m s.nt c1' sn q).1 (hL ▸ hq)
    repeat (first | refine cw_seq ?_ | refine cw_region ?_ | refine ow_nil ?_ | ((first | apply ow_cons | apply qw_cons); · simp only [push_cast, env, Nat.reduceEqDiff, reduceIte, Nat.reduceAdd, Nat.reduceMul, Nat.reduceLeDiff, reduceCtorEq, Nat.reduceSub, Int.reduceToNat] <;> exact rfl) | ((first | apply ow_spec | apply qw_spec); · simp only [push_cast, env, Nat.reduceEqDiff, reduceIte, Nat.reduceAdd, Nat.reduceMul, Nat.reduceLeDiff, reduceCtorEq, Nat.reduceSub, Int.reduceToNat] <;> exact rfl) | refine qw_nil ?_ | refine cw_block ?_ | refine cw_scope ?_ | refine cw_label ?_ | refine cw_skip ?_)
    refine cw_forG L.length (fun k (z : Gh) => [(0, .val (.pointer (some ⟨F.cp, 0, some 0⟩))), (1, .val (i64 j)), (7, .box [i64 s.nt, u64 s.set.a, u64 s.set.b, u64 s.set.c, u64 s.set.d]), (8, .box [i64 x.rule, i64 (x.dot + 1), i64 x.frm]), (77, .val (.slice pb L.length cbb)), (78, .val (i64 L.length)), (79, .val (i64 k))]) (fun _ z => z.h)
      (fun k z => CHR h0 hB g (.slice (some ⟨id, 0, some ver⟩) g.rules.length cr) (.slice pw w.length cw) F z ∧ z.E = E ∧ Ext S z.S ∧ CI g w z.S ∧ (∀ i, i ≠ j → gs z.S i = gs S i) ∧ ∀ q : Nat, (q : Int) ∈ L.take k → (⟨q, 0, j⟩ : Item) ∈ gs z.S j) ⟨h, us, S, E⟩ (by simp only [push_cast, SubL, fget, Nat.reduceEqDiff, reduceIte]) rfl ⟨K, rfl, .refl, C, fun _ _ => rfl, fun q hq => by simp at hq⟩ ?_
    clear K hc hid hidb' hid4'
    rintro k ⟨hk, us1, S1, E1⟩ hkn ⟨K, rfl, X, C1, hne, hall⟩
    simp only at K X C1 hne hall ⊢
    have hjS1 : j < S1.length := by rw [X.n]; exact hjS
    have hsm1 := C1.small R hw hj
    by_cases hlt : k < L.length
    · obtain ⟨idl, verl, ownl, cl, cellsl, hvl, hidl, hgl⟩ := RdInts.at hlr hlt
      cases hvl
      have hidl' := K.kb _ _ _ _ _ (.inl rfl) hidl
      have f1 := rng hlt
      have f2 := inc hlt (by omega)
      have f3 := lt_dec hlt
      obtain ⟨q, rq, hqe', hq2, hq3⟩ := qok L[k] (List.getElem_mem hlt)
      rw [hqe'] at hgl
      have hIt : It g w j ⟨q, 0, j⟩ := .pred j x r s q rq hx hq hsy c1' hq2 hq3
      repeat (first | refine cw_seq ?_ | refine cw_region ?_ | refine ow_nil ?_ | ((first | apply ow_cons | apply qw_cons); · simp only [push_cast, env, Nat.reduceEqDiff, reduceIte, Nat.reduceAdd, Nat.reduceMul, Nat.reduceLeDiff, reduceCtorEq, Nat.reduceSub, Int.reduceToNat, f3] <;> exact rfl) | ((first | apply ow_spec | apply qw_spec); · simp only [push_cast, env, Nat.reduceEqDiff, reduceIte, Nat.reduceAdd, Nat.reduceMul, Nat.reduceLeDiff, reduceCtorEq, Nat.reduceSub, Int.reduceToNat, f3] <;> exact rfl) | refine qw_nil ?_ | refine cw_block ?_ | refine cw_scope ?_ | refine cw_label ?_ | refine cw_skip ?_)
      refine cw_condT (by simp only [push_cast, env, Nat.reduceEqDiff, reduceIte, Nat.reduceAdd, Nat.reduceMul, Nat.reduceLeDiff, reduceCtorEq, Nat.reduceSub, Int.reduceToNat] <;> exact rfl) ?_
      repeat (first | refine cw_seq ?_ | refine cw_region ?_ | refine ow_nil ?_ | ((first | apply ow_cons | apply qw_cons); · simp only [push_cast, env, Nat.reduceEqDiff, reduceIte, Nat.reduceAdd, Nat.reduceMul, Nat.reduceLeDiff, reduceCtorEq, Nat.reduceSub, Int.reduceToNat, hidl', f1, hgl, Nat.mul_one] <;> exact rfl) | ((first | apply ow_spec | apply qw_spec); · simp only [push_cast, env, Nat.reduceEqDiff, reduceIte, Nat.reduceAdd, Nat.reduceMul, Nat.reduceLeDiff, reduceCtorEq, Nat.reduceSub, Int.reduceToNat, hidl', f1, hgl, Nat.mul_one] <;> exact rfl) | refine qw_nil ?_ | refine cw_block ?_ | refine cw_scope ?_ | refine cw_label ?_ | refine cw_skip ?_)
      refine ow_call (fn := Try.f52) (by simp only [push_cast, env, Nat.reduceEqDiff, reduceIte, Nat.reduceAdd, Nat.reduceMul, Nat.reduceLeDiff, reduceCtorEq, Nat.reduceSub, Int.reduceToNat] <;> exact rfl) rfl (by simp only [push_cast, env, Nat.reduceEqDiff, reduceIte, Nat.reduceAdd, Nat.reduceMul, Nat.reduceLeDiff, reduceCtorEq, Nat.reduceSub, Int.reduceToNat] <;> exact rfl) (by simp only [push_cast, env, Nat.reduceEqDiff, reduceIte, Nat.reduceAdd, Nat.reduceMul, Nat.reduceLeDiff, reduceCtorEq, Nat.reduceSub, Int.reduceToNat] <;> exact rfl) Try.func52 (by kernel_rfl) (by kernel_rfl) ?_
      rw [List.append_nil]
      refine (add_fw (x := ⟨q, 0, j⟩) K hjS1 (by simp only; omega)).mono ?_
      rintro _ h2 ⟨us2, K2⟩
      simp only at K2
      have X2 := addS_ext (x := ⟨q, 0, j⟩) hjS1
      repeat (first | refine cw_seq ?_ | refine cw_region ?_ | refine ow_nil ?_ | ((first | apply ow_cons | apply qw_cons); · simp only [push_cast, env, Nat.reduceEqDiff, reduceIte, Nat.reduceAdd, Nat.reduceMul, Nat.reduceLeDiff, reduceCtorEq, Nat.reduceSub, Int.reduceToNat, f2] <;> exact rfl) | ((first | apply ow_spec | apply qw_spec); · simp only [push_cast, env, Nat.reduceEqDiff, reduceIte, Nat.reduceAdd, Nat.reduceMul, Nat.reduceLeDiff, reduceCtorEq, Nat.reduceSub, Int.reduceToNat, f2] <;> exact rfl) | refine qw_nil ?_ | refine cw_block ?_ | refine cw_scope ?_ | refine cw_label ?_ | refine cw_skip ?_)
      refine ⟨hlt, ⟨h2, us2, _, E1⟩, (by simp only [push_cast, SubL, fget, Nat.reduceEqDiff, reduceIte]), rfl, K2, rfl, X.trans X2, C1.add hIt hj, fun i hi => by simp only; rw [addS_ne hjS1 hi]; exact hne i hi, fun q' hq' => ?_⟩
      rw [List.take_succ_eq_append_getElem hlt, List.mem_append, List.mem_singleton] at hq'
      rcases hq' with hq' | hq'
      · exact X2.mem (hall q' hq')
      · rw [hqe'] at hq'
        have : q' = q := by omega
        subst this
        exact addS_mem hjS1
    · have e3 := ge_dec hlt
      obtain rfl : k = L.length := by omega
      repeat (first | refine cw_seq ?_ | refine cw_region ?_ | refine ow_nil ?_ | ((first | apply ow_cons | apply qw_cons); · simp only [push_cast, env, Nat.reduceEqDiff, reduceIte, Nat.reduceAdd, Nat.reduceMul, Nat.reduceLeDiff, reduceCtorEq, Nat.reduceSub, Int.reduceToNat, e3] <;> exact rfl) | ((first | apply ow_spec | apply qw_spec); · simp only [push_cast, env, Nat.reduceEqDiff, reduceIte, Nat.reduceAdd, Nat.reduceMul, Nat.reduceLeDiff, reduceCtorEq, Nat.reduceSub, Int.reduceToNat, e3] <;> exact rfl) | refine qw_nil ?_ | refine cw_block ?_ | refine cw_scope ?_ | refine cw_label ?_ | refine cw_skip ?_)
      refine cw_condF (by simp only [push_cast, env, Nat.reduceEqDiff, reduceIte, Nat.reduceAdd, Nat.reduceMul, Nat.reduceLeDiff, reduceCtorEq, Nat.reduceSub, Int.reduceToNat] <;> exact rfl) ?_
      refine cw_exit ?_
      show CW _ _ _ _
      rw [List.take_length] at hall
      have hc := K.c
      have he := (K.e hev).1
      unfold chCells at hc
      simp only at hc he
      rw [hbv, hev] at hc
      have k1 := empE_keys E1
      have k2 := empE_get s.nt E1
      have hpr : ∀ S2, Ext S1 S2 → ∀ A q r', Wait g x A → 0 ≤ A → g.rules[q]? = some r' → r'.lhs = A → (⟨q, 0, j⟩ : Item) ∈ gs S2 j := fun S2 X2 A q r' h1 h2 h3 h4 => by
        have := onewait A h1
        subst this
        exact X2.mem (hall q (by rw [← hL]; exact (B.m s.nt c1' sn q).2 ⟨q, r', rfl, h3, h4⟩))
      have hsc : ∀ S2 : List (List Item), ∀ r' s' b, g.rules[x.rule]? = some r' → r'.rhs[x.dot]? = some s' → s'.nt < 0 → w[j]? = some b → s'.set.has b = true → adv x ∈ gs S2 (j + 1) := fun S2 r' s' b w1 w2 w3 _ _ => by
        obtain rfl : r = r' := Option.some.inj (hq.symm.trans w1)
        obtain rfl : s = s' := Option.some.inj (hsy.symm.trans w2)
        omega
      repeat (first | refine cw_seq ?_ | refine cw_region ?_ | refine ow_nil ?_ | ((first | apply ow_cons | apply qw_cons); · simp only [push_cast, env, Nat.reduceEqDiff, reduceIte, Nat.reduceAdd, Nat.reduceMul, Nat.reduceLeDiff, reduceCtorEq, Nat.reduceSub, Int.reduceToNat] <;> exact rfl) | ((first | apply ow_spec | apply qw_spec); · simp only [push_cast, env, Nat.reduceEqDiff, reduceIte, Nat.reduceAdd, Nat.reduceMul, Nat.reduceLeDiff, reduceCtorEq, Nat.reduceSub, Int.reduceToNat] <;> exact rfl) | refine qw_nil ?_ | refine cw_block ?_ | refine cw_scope ?_ | refine cw_label ?_ | refine cw_skip ?_)
      refine cw_regionD 7 mixed (by kernel_rfl) ?_
      by_cases hsE : s.nt ∈ E1
      · rw [if_pos hsE] at k2
        repeat (first | refine cw_seq ?_ | refine cw_region ?_ | refine ow_nil ?_ | ((first | apply ow_cons | apply qw_cons); · simp only [push_cast, env, Nat.reduceEqDiff, reduceIte, Nat.reduceAdd, Nat.reduceMul, Nat.reduceLeDiff, reduceCtorEq, Nat.reduceSub, Int.reduceToNat, hc, he, k1, k2, Nat.mul_one] <;> exact rfl) | ((first | apply ow_spec | apply qw_spec); · simp only [push_cast, env, Nat.reduceEqDiff, reduceIte, Nat.reduceAdd, Nat.reduceMul, Nat.reduceLeDiff, reduceCtorEq, Nat.reduceSub, Int.reduceToNat, hc, he, k1, k2, Nat.mul_one] <;> exact rfl) | refine qw_nil ?_ | refine cw_block ?_ | refine cw_scope ?_ | refine cw_label ?_ | refine cw_skip ?_)
        refine cw_condT (by simp only [push_cast, env, Nat.reduceEqDiff, reduceIte, Nat.reduceAdd, Nat.reduceMul, Nat.reduceLeDiff, reduceCtorEq, Nat.reduceSub, Int.reduceToNat, Int.reduceLT] <;> exact rfl) ?_
        obtain ⟨y, hy, hyf, hye⟩ := hE s.nt hsE
        obtain ⟨ry, w1, w2, w3⟩ := hye
        have hadv : It g w j (adv x) := .comp j y ry x r s hy w1 w2 (by rw [hyf]; exact hx) hq hsy c1' w3.symm
        repeat (first | refine cw_seq ?_ | refine cw_region ?_ | refine ow_nil ?_ | ((first | apply ow_cons | apply qw_cons); · simp only [push_cast, env, Nat.reduceEqDiff, reduceIte, Nat.reduceAdd, Nat.reduceMul, Nat.reduceLeDiff, reduceCtorEq, Nat.reduceSub, Int.reduceToNat] <;> exact rfl) | ((first | apply ow_spec | apply qw_spec); · simp only [push_cast, env, Nat.reduceEqDiff, reduceIte, Nat.reduceAdd, Nat.reduceMul, Nat.reduceLeDiff, reduceCtorEq, Nat.reduceSub, Int.reduceToNat] <;> exact rfl) | refine qw_nil ?_ | refine cw_block ?_ | refine cw_scope ?_ | refine cw_label ?_ | refine cw_skip ?_)
        refine ow_call (fn := Try.f52) (by simp only [push_cast, env, Nat.reduceEqDiff, reduceIte, Nat.reduceAdd, Nat.reduceMul, Nat.reduceLeDiff, reduceCtorEq, Nat.reduceSub, Int.reduceToNat] <;> exact rfl) rfl (by simp only [push_cast, env, Nat.reduceEqDiff, reduceIte, Nat.reduceAdd, Nat.reduceMul, Nat.reduceLeDiff, reduceCtorEq, Nat.reduceSub, Int.reduceToNat] <;> exact rfl) (by simp only [push_cast, env, Nat.reduceEqDiff, reduceIte, Nat.reduceAdd, Nat.reduceMul, Nat.reduceLeDiff, reduceCtorEq, Nat.reduceSub, Int.reduceToNat] <;> exact rfl) Try.func52 (by kernel_rfl) (by kernel_rfl) ?_
        rw [List.append_nil]
        refine (add_fw (x := adv x) K hjS1 (by simp only; omega)).mono ?_
        rintro _ h2 ⟨us2, K2⟩
        simp only at K2
        have X2 := addS_ext (x := adv x) hjS1
        repeat (first | refine cw_seq ?_ | refine cw_region ?_ | refine ow_nil ?_ | ((first | apply ow_cons | apply qw_cons); · simp only [push_cast, env, Nat.reduceEqDiff, reduceIte, Nat.reduceAdd, Nat.reduceMul, Nat.reduceLeDiff, reduceCtorEq, Nat.reduceSub, Int.reduceToNat] <;> exact rfl) | ((first | apply ow_spec | apply qw_spec); · simp only [push_cast, env, Nat.reduceEqDiff, reduceIte, Nat.reduceAdd, Nat.reduceMul, Nat.reduceLeDiff, reduceCtorEq, Nat.reduceSub, Int.reduceToNat] <;> exact rfl) | refine qw_nil ?_ | refine cw_block ?_ | refine cw_scope ?_ | refine cw_label ?_ | refine cw_skip ?_)
        exact ⟨_, (by simp only [push_cast, env, Nat.reduceEqDiff, reduceIte, Nat.reduceAdd, Nat.reduceMul, Nat.reduceLeDiff, reduceCtorEq, Nat.reduceSub, Int.reduceToNat] <;> exact rfl), us2, _, E1, K2, X.trans X2, C1.add hadv hj, fun i k1 _ => by rw [addS_ne hjS1 k1]; exact hne i k1, fun a h => h, hE, fun a h1 h2 => (h2 h1).elim, ⟨hpr _ X2, hsc _, fun A y h1 => (noend A h1).elim, fun A h1 => (noend A h1).elim, fun A h1 h2 => addS_mem hjS1⟩⟩
      · rw [if_neg hsE] at k2
        repeat (first | refine cw_seq ?_ | refine cw_region ?_ | refine ow_nil ?_ | ((first | apply ow_cons | apply qw_cons); · simp only [push_cast, env, Nat.reduceEqDiff, reduceIte, Nat.reduceAdd, Nat.reduceMul, Nat.reduceLeDiff, reduceCtorEq, Nat.reduceSub, Int.reduceToNat, hc, he, k1, k2, Nat.mul_one] <;> exact rfl) | ((first | apply ow_spec | apply qw_spec); · simp only [push_cast, env, Nat.reduceEqDiff, reduceIte, Nat.reduceAdd, Nat.reduceMul, Nat.reduceLeDiff, reduceCtorEq, Nat.reduceSub, Int.reduceToNat, hc, he, k1, k2, Nat.mul_one] <;> exact rfl) | refine qw_nil ?_ | refine cw_block ?_ | refine cw_scope ?_ | refine cw_label ?_ | refine cw_skip ?_)
        refine cw_condF (by simp only [push_cast, env, Nat.reduceEqDiff, reduceIte, Nat.reduceAdd, Nat.reduceMul, Nat.reduceLeDiff, reduceCtorEq, Nat.reduceSub, Int.reduceToNat, Int.reduceLT] <;> exact rfl) ?_
        repeat (first | refine cw_seq ?_ | refine cw_region ?_ | refine ow_nil ?_ | ((first | apply ow_cons | apply qw_cons); · simp only [push_cast, env, Nat.reduceEqDiff, reduceIte, Nat.reduceAdd, Nat.reduceMul, Nat.reduceLeDiff, reduceCtorEq, Nat.reduceSub, Int.reduceToNat] <;> exact rfl) | ((first | apply ow_spec | apply qw_spec); · simp only [push_cast, env, Nat.reduceEqDiff, reduceIte, Nat.reduceAdd, Nat.reduceMul, Nat.reduceLeDiff, reduceCtorEq, Nat.reduceSub, Int.reduceToNat] <;> exact rfl) | refine qw_nil ?_ | refine cw_block ?_ | refine cw_scope ?_ | refine cw_label ?_ | refine cw_skip ?_)
        exact ⟨_, (by simp only [push_cast, env, Nat.reduceEqDiff, reduceIte, Nat.reduceAdd, Nat.reduceMul, Nat.reduceLeDiff, reduceCtorEq, Nat.reduceSub, Int.reduceToNat] <;> exact rfl), us1, S1, E1, K, X, C1, fun i k1 _ => hne i k1, fun a h => h, hE, fun a h1 h2 => (h2 h1).elim, ⟨hpr _ .refl, hsc _, fun A y h1 => (noend A h1).elim, fun A h1 => (noend A h1).elim, fun A h1 h2 => (hsE (onewait A h1 ▸ h2)).elim⟩⟩
end Go.Proofs.Ytafncpgiibikcaa

/- open: all sets of a right grammar and a text. -/
namespace Go.Proofs.Ytafncpgiibikcaa
set_option linter.unusedSimpArgs false
set_option linter.unusedVariables false
set_option maxRecDepth 20000
open Go.RowKit Am Ty

theorem one_mkP {all : Array Oper} {o : Oper} {s : St} {h : Heap} {x : Operand} {d : Nat} {t e : TypeId} {ti : TI} {z : Value} {n : Int} {N : Nat} {cs : List Value} (hh : s.h = h) (hw : wantedA all o s = some true) (hd : o.dst = some d) (ho : o.op = .makeSlice t x x) (hx : ev s x = some (i64 n)) (hN : n = N)
    (hu : env.P.underlying t = some (.slice e)) (ht : tinfo env.P e = some ti) (hz : ti.zero = some z) (hp : (pureV z && z.cells.toList.all one && decide (z.cells.size = ti.size) && decide (0 < ti.size)) = true) (hb : N * ti.bytes ≤ 140737488355328) (hN2 : N ≤ 140737488355328) (hcs : (List.replicate N z.cells.toList).flatten = cs) :
    One env all o s (.sl (.prv (.arr cs 0 true e) N)) h := by
  subst hN hcs hh
  refine .mkP hw hd ?_
  rw [ho]
  have h1 : (ti.bytes : Int) * (N : Int) ≤ 140737488355328 := by
    have : ((N * ti.bytes : Nat) : Int) ≤ 140737488355328 := by omega
    rw [Int.natCast_mul, Int.mul_comm] at this
    exact this
  have h2 : (N : Int) ≤ 140737488355328 := by omega
  unfold mkC
  simp only [hu, hx, ht, hz]
  rw [if_pos (by rw [hp, decide_eq_true trivial, decide_eq_true (Int.natCast_nonneg N), decide_eq_true h1, decide_eq_true h2]; rfl), Int.toNat_natCast]
/-- the rules of each nonterminal, of the first k -/
structure ByK (g : Gram) (k : Nat) (ls : List (List Int)) : Prop where
  n : (ls.length : Int) = g.nts
  m : ∀ a : Int, 0 ≤ a → a < g.nts → ∀ q : Int, q ∈ lget ls a ↔ ∃ (i : Nat) (r : Rule), i < k ∧ q = i ∧ g.rules[i]? = some r ∧ r.lhs = a
  l : ∀ l ∈ ls, l.length ≤ k
structure O1 (h : Heap) (g : Gram) (rv wv : Value) (N M k : Nat) (x : SG) : Prop where
  p : h <+: x.hk
  o : x.hk[h.length]? = some (.arr x.us 0 true 91)
  s : x.hk[h.length + 1]? = some (.arr (List.replicate M nilS) 0 true 55)
  c : x.hk[h.length + 2]? = some (.arr [i64 g.nts, i64 g.start, rv, wv, .slice (some ⟨h.length, 0, some 0⟩) N N, .slice (some ⟨h.length + 1, 0, some 0⟩) M M, nilS, .map none] 0 true 73)
  l : NL h x.hk h.length x.us x.ls
  n : x.us.length = N
  b : ByK g k x.ls
theorem ByK.step {g : Gram} {k : Nat} {ls : List (List Int)} (B : ByK g k ls) (R : RightS g) (hk : k < g.rules.length) : ByK g (k + 1) (ls.set g.rules[k].lhs.toNat (lget ls g.rules[k].lhs ++ [(k : Int)])) := by
  obtain ⟨l1, l2, _⟩ := R.r _ (List.getElem_mem hk)
  have hn := B.n
  refine ⟨by simpa using hn, fun a h0 h1 q => ?_, fun l hl => ?_⟩
  · rw [lget_set l1 (by omega) h0]
    split
    · rename_i e
      subst e
      rw [List.mem_append, List.mem_singleton, B.m _ h0 h1]
      constructor
      · rintro (⟨i, r, k1, k2, k3, k4⟩ | rfl)
        · exact ⟨i, r, by omega, k2, k3, k4⟩
        · exact ⟨k, g.rules[k], by omega, rfl, List.getElem?_eq_getElem hk, rfl⟩
      · rintro ⟨i, r, k1, k2, k3, k4⟩
        by_cases e : i = k
        · subst e
          exact .inr k2
        · exact .inl ⟨i, r, by omega, k2, k3, k4⟩
    · rename_i e
      rw [B.m _ h0 h1]
      constructor
      · rintro ⟨i, r, k1, k2, k3, k4⟩
        exact ⟨i, r, by omega, k2, k3, k4⟩
      · rintro ⟨i, r, k1, k2, k3, k4⟩
        by_cases e2 : i = k
        · subst e2
          rw [List.getElem?_eq_getElem hk] at k3
          cases k3
          exact (e k4).elim
        · exact ⟨i, r, by omega, k2, k3, k4⟩
  · rcases List.mem_or_eq_of_mem_set hl with h | rfl
    · have := B.l l h; omega
    · have hg := lget_get (ls := ls) l1 (by omega)
      have := B.l _ (List.mem_of_getElem? hg)
      simp only [List.length_append, List.length_singleton]
      omega
/-- while the maps are made -/
structure O2 (h hB : Heap) (g : Gram) (rv wv bv : Value) (M k : Nat) (x : Heap × List Nat × Value) : Prop where
  p : h <+: x.1
  kb : ∀ (i : Nat) (cs : List Value) (v : Nat) (o : Bool) (et : TypeId), et = 3 ∨ et = 91 → hB[i]? = some (.arr cs v o et) → x.1[i]? = some (.arr cs v o et)
  s : x.1[h.length + 1]? = some (.arr (List.replicate M nilS) 0 true 55)
  c : x.1[h.length + 2]? = some (.arr [i64 g.nts, i64 g.start, rv, wv, bv, .slice (some ⟨h.length + 1, 0, some 0⟩) M M, x.2.2, .map none] 0 true 73)
  n : x.2.1.length = k
  m : Grow h x.1 x.2.2 k (x.2.1.map fun i => Value.map (some i)) 92
  g : ∀ i ∈ x.2.1, x.1[i]? = some (.map []) ∧ h.length ≤ i
  d : ∀ (i j y : Nat), x.2.1[i]? = some y → x.2.1[j]? = some y → i = j
theorem CHR.newE {h0 hB : Heap} {g : Gram} {rv wv : Value} {F : Fix} {G : Gh} (K : CHR h0 hB g rv wv F G) : CHR h0 hB g rv wv { F with ie := G.h.length, ev := .map (some G.h.length) } ⟨(G.h ++ [HObj.map []]).set F.cp (.arr [i64 g.nts, i64 g.start, rv, wv, F.bv, .slice (some ⟨F.si, 0, some 0⟩) G.S.length G.S.length, .slice (some ⟨F.im, 0, some F.vm⟩) G.S.length G.S.length, .map (some G.h.length)] 0 true 73), G.us, G.S, []⟩ := by
  have hlt := lt_of_get K.c
  have keepA : ∀ (i : Nat) (cs : List Value) (v : Nat) (o : Bool) (et : TypeId) (X : HObj), et ≠ 73 → G.h[i]? = some (.arr cs v o et) → ((G.h ++ [HObj.map []]).set F.cp X)[i]? = some (.arr cs v o et) := fun i cs v o et X hne hi => by
    rw [get_set_ne (by
      rintro rfl
      rw [K.c] at hi
      simp only [Option.some.injEq, HObj.arr.injEq] at hi
      exact hne hi.2.2.2.symm)]
    exact get_of_push hi
  have keepM : ∀ (i : Nat) (es : List (Value × Value)) (X : HObj), G.h[i]? = some (.map es) → ((G.h ++ [HObj.map []]).set F.cp X)[i]? = some (.map es) := fun i es X hi => by
    rw [get_set_ne (by rintro rfl; rw [K.c] at hi; cases hi)]
    exact get_of_push hi
  have hms : ∀ i ∈ F.ms, i < G.h.length := fun i hi => by
    obtain ⟨j, hj⟩ := List.getElem?_of_mem hi
    have hjl : j < G.S.length := by rw [← K.mn]; exact (List.getElem?_eq_some_iff.1 hj).1
    exact lt_of_get (K.mg j i _ hj (gs_get hjl))
  refine ⟨pre_set (pre_push K.p) K.lo.1, get_set_self (get_of_push K.c), keepA _ _ _ _ _ _ (by decide) K.s, keepA _ _ _ _ _ _ (by decide) K.m, fun _ => ⟨?_, fun hi => ?_, K.p.length_le⟩, K.un, K.mn, fun j u l h1 h2 => ?_, K.ud, fun j i l h1 h2 => keepM _ _ _ (K.mg j i l h1 h2), K.md, fun i cs v o et he hi => keepA _ _ _ _ _ _ (by rcases he with rfl | rfl <;> decide) (K.kb i cs v o et he hi), K.lo⟩
  · simp only
    rw [get_set_ne (by omega)]
    exact push_get_self
  · have := hms _ hi
    simp only at this
    omega
  · refine (K.ug j u l h1 h2).mono fun i o hi ho => ?_
    obtain ⟨ver, h5⟩ := (K.ug j u l h1 h2).obj hi
    rw [ho] at h5
    cases h5
    exact keepA _ _ _ _ _ _ (by decide) ho
set_option maxHeartbeats 8000000 in
theorem open_fw {h : Heap} {g : Gram} {v wv : Value} {w : List Nat} (hr : RdGram h v g) (hwR : RdB h wv w) (R : RightS g) (W : WfG g) (hw : w.length ≤ 512) :
    FW env 37 [v, wv] h fun r h' => ∃ hB rv F G, r = .pointer (some ⟨F.cp, 0, some 0⟩) ∧ G.h = h' ∧ CHR h hB g rv wv F G ∧ ChartOK g w G.S ∧ RdRules h rv g.rules := by
  obtain ⟨u, rfl, hu⟩ := id hr
  obtain ⟨p, c, rfl⟩ := hu.form
  obtain ⟨pw, cw, rfl⟩ := hwR.form
  have hle := hu.le
  have n1 := R.n1
  have n2 := R.n2
  have hrl := R.rl
  obtain ⟨N, hN⟩ : ∃ N : Nat, g.nts = N := ⟨g.nts.toNat, by omega⟩
  obtain ⟨M, hM⟩ : ∃ M : Nat, M = w.length + 1 := ⟨_, rfl⟩
  have f0 : IntKind.i64.wrap ((w.length : Int) + 1) = (M : Int) := by rw [wrap64_id (by omega) (by omega)]; omega
  refine fw_enter (fn := Try.f37) Try.func37 rfl (by kernel_rfl) (by simp [Try.ntmps37]) ?_; simp only [push_cast]
  repeat (first | refine cw_seq ?_ | refine cw_region ?_ | refine ow_nil ?_ | ((first | apply ow_cons | apply qw_cons); · simp only [push_cast, env, Nat.reduceEqDiff, reduceIte, Nat.reduceAdd, Nat.reduceMul, Nat.reduceLeDiff, reduceCtorEq, Nat.reduceSub, Int.reduceToNat] <;> exact rfl) | ((first | apply ow_spec | apply qw_spec); · simp only [push_cast, env, Nat.reduceEqDiff, reduceIte, Nat.reduceAdd, Nat.reduceMul, Nat.reduceLeDiff, reduceCtorEq, Nat.reduceSub, Int.reduceToNat] <;> exact rfl) | refine qw_nil ?_ | refine cw_block ?_ | refine cw_scope ?_ | refine cw_label ?_ | refine cw_skip ?_)
  refine cw_weakL [(1, .val (.slice pw w.length cw)), (2, .box [i64 g.nts, i64 g.start, .slice p g.rules.length c])] (by simp only [push_cast, SubL, fget, Nat.reduceEqDiff, reduceIte]) ?_
  show CW _ _ ⟨_, [], h⟩ _
  apply cw_ordT (n := 9) (L := [[], [], [], [2], [2, 3], [], [5], [5, 6], [5, 6, 7], [0, 1, 2, 3, 4, 5, 6, 7, 8], [0, 1, 2, 3, 4, 5, 6, 7, 8, 9], [0, 1, 2, 3, 4, 5, 6, 7, 8, 9, 10]]) (act := []) (hs := []) (resL := [_, _, _, _, _, _, _, _, _]) (frP := [(2, .box [i64 g.nts, i64 g.start, .slice p g.rules.length c]), (12, .val (.agg #[i64 g.nts, i64 g.start, .slice p g.rules.length c])), (13, .val (.slice pw w.length cw)), (16, .prv (.arr (List.replicate N nilS) 0 true 91) N), (20, .prv (.arr (List.replicate M nilS) 0 true 55) M)])
  case hm => exact mixed
  case hc => kernel_rfl
  case hn => kernel_rfl
  case ha => rfl
  case hb => rfl
  case hS =>
    repeat (first | exact StepsA.nil _ | (apply StepsA.cons; (· rfl); (· (first | refine ⟨?_, trivial⟩ | refine ⟨?_, ?_, trivial⟩ | refine ⟨?_, ?_, ?_, trivial⟩ | refine ⟨?_, ?_, ?_, ?_, trivial⟩) <;> (first | (apply one_val; (· rfl); (· simp only [push_cast, env, Nat.reduceEqDiff, reduceIte, Nat.reduceAdd, Nat.reduceMul, Nat.reduceLeDiff, reduceCtorEq, Nat.reduceSub, Int.reduceToNat, f0] <;> exact rfl); (· simp only [push_cast, env, Nat.reduceEqDiff, reduceIte, Nat.reduceAdd, Nat.reduceMul, Nat.reduceLeDiff, reduceCtorEq, Nat.reduceSub, Int.reduceToNat, f0] <;> exact rfl)) | (apply one_eph; (· rfl); (· simp only [push_cast, env, Nat.reduceEqDiff, reduceIte, Nat.reduceAdd, Nat.reduceMul, Nat.reduceLeDiff, reduceCtorEq, Nat.reduceSub, Int.reduceToNat, f0] <;> exact rfl); (· rfl); (· simp only [push_cast, env, Nat.reduceEqDiff, reduceIte, Nat.reduceAdd, Nat.reduceMul, Nat.reduceLeDiff, reduceCtorEq, Nat.reduceSub, Int.reduceToNat, f0] <;> exact rfl); (· decide)) | (apply one_bsl; (· rfl); (· simp only [push_cast, env, Nat.reduceEqDiff, reduceIte, Nat.reduceAdd, Nat.reduceMul, Nat.reduceLeDiff, reduceCtorEq, Nat.reduceSub, Int.reduceToNat, f0] <;> exact rfl); (· rfl); (· simp only [push_cast, env, Nat.reduceEqDiff, reduceIte, Nat.reduceAdd, Nat.reduceMul, Nat.reduceLeDiff, reduceCtorEq, Nat.reduceSub, Int.reduceToNat, f0] <;> exact rfl)) | (apply one_box; (· rfl); (· simp only [push_cast, env, Nat.reduceEqDiff, reduceIte, Nat.reduceAdd, Nat.reduceMul, Nat.reduceLeDiff, reduceCtorEq, Nat.reduceSub, Int.reduceToNat, f0] <;> exact rfl); (· rfl); (· simp only [push_cast, env, Nat.reduceEqDiff, reduceIte, Nat.reduceAdd, Nat.reduceMul, Nat.reduceLeDiff, reduceCtorEq, Nat.reduceSub, Int.reduceToNat, f0] <;> exact rfl)) | (apply one_skip; (· rfl); (· simp only [push_cast, env, Nat.reduceEqDiff, reduceIte, Nat.reduceAdd, Nat.reduceMul, Nat.reduceLeDiff, reduceCtorEq, Nat.reduceSub, Int.reduceToNat, f0] <;> exact rfl)))); (· rfl)))
    apply StepsA.cons
    · rfl
    · refine ⟨?_, trivial⟩
      exact one_mkP (N := N) rfl (by simp only [push_cast, env, Nat.reduceEqDiff, reduceIte, Nat.reduceAdd, Nat.reduceMul, Nat.reduceLeDiff, reduceCtorEq, Nat.reduceSub, Int.reduceToNat] <;> exact rfl) rfl rfl (by simp only [push_cast, env, Nat.reduceEqDiff, reduceIte, Nat.reduceAdd, Nat.reduceMul, Nat.reduceLeDiff, reduceCtorEq, Nat.reduceSub, Int.reduceToNat] <;> exact rfl) hN (by kernel_rfl) ti91 rfl (by rfl) (by simp only; omega) (by omega) flat_rep1
    · rfl
    repeat (first | exact StepsA.nil _ | (apply StepsA.cons; (· rfl); (· (first | refine ⟨?_, trivial⟩ | refine ⟨?_, ?_, trivial⟩ | refine ⟨?_, ?_, ?_, trivial⟩ | refine ⟨?_, ?_, ?_, ?_, trivial⟩) <;> (first | (apply one_val; (· rfl); (· simp only [push_cast, env, Nat.reduceEqDiff, reduceIte, Nat.reduceAdd, Nat.reduceMul, Nat.reduceLeDiff, reduceCtorEq, Nat.reduceSub, Int.reduceToNat, f0] <;> exact rfl); (· simp only [push_cast, env, Nat.reduceEqDiff, reduceIte, Nat.reduceAdd, Nat.reduceMul, Nat.reduceLeDiff, reduceCtorEq, Nat.reduceSub, Int.reduceToNat, f0] <;> exact rfl)) | (apply one_eph; (· rfl); (· simp only [push_cast, env, Nat.reduceEqDiff, reduceIte, Nat.reduceAdd, Nat.reduceMul, Nat.reduceLeDiff, reduceCtorEq, Nat.reduceSub, Int.reduceToNat, f0] <;> exact rfl); (· rfl); (· simp only [push_cast, env, Nat.reduceEqDiff, reduceIte, Nat.reduceAdd, Nat.reduceMul, Nat.reduceLeDiff, reduceCtorEq, Nat.reduceSub, Int.reduceToNat, f0] <;> exact rfl); (· decide)) | (apply one_bsl; (· rfl); (· simp only [push_cast, env, Nat.reduceEqDiff, reduceIte, Nat.reduceAdd, Nat.reduceMul, Nat.reduceLeDiff, reduceCtorEq, Nat.reduceSub, Int.reduceToNat, f0] <;> exact rfl); (· rfl); (· simp only [push_cast, env, Nat.reduceEqDiff, reduceIte, Nat.reduceAdd, Nat.reduceMul, Nat.reduceLeDiff, reduceCtorEq, Nat.reduceSub, Int.reduceToNat, f0] <;> exact rfl)) | (apply one_box; (· rfl); (· simp only [push_cast, env, Nat.reduceEqDiff, reduceIte, Nat.reduceAdd, Nat.reduceMul, Nat.reduceLeDiff, reduceCtorEq, Nat.reduceSub, Int.reduceToNat, f0] <;> exact rfl); (· rfl); (· simp only [push_cast, env, Nat.reduceEqDiff, reduceIte, Nat.reduceAdd, Nat.reduceMul, Nat.reduceLeDiff, reduceCtorEq, Nat.reduceSub, Int.reduceToNat, f0] <;> exact rfl)) | (apply one_skip; (· rfl); (· simp only [push_cast, env, Nat.reduceEqDiff, reduceIte, Nat.reduceAdd, Nat.reduceMul, Nat.reduceLeDiff, reduceCtorEq, Nat.reduceSub, Int.reduceToNat, f0] <;> exact rfl)))); (· rfl)))
    apply StepsA.cons
    · rfl
    · refine ⟨?_, trivial⟩
      exact one_mkP (N := M) rfl (by simp only [push_cast, env, Nat.reduceEqDiff, reduceIte, Nat.reduceAdd, Nat.reduceMul, Nat.reduceLeDiff, reduceCtorEq, Nat.reduceSub, Int.reduceToNat] <;> exact rfl) rfl rfl (by simp only [push_cast, env, Nat.reduceEqDiff, reduceIte, Nat.reduceAdd, Nat.reduceMul, Nat.reduceLeDiff, reduceCtorEq, Nat.reduceSub, Int.reduceToNat] <;> exact rfl) rfl (by kernel_rfl) ti55 rfl (by rfl) (by simp only; omega) (by omega) flat_rep1
    · rfl
    repeat (first | exact StepsA.nil _ | (apply StepsA.cons; (· rfl); (· (first | refine ⟨?_, trivial⟩ | refine ⟨?_, ?_, trivial⟩ | refine ⟨?_, ?_, ?_, trivial⟩ | refine ⟨?_, ?_, ?_, ?_, trivial⟩) <;> (first | (apply one_val; (· rfl); (· simp only [push_cast, env, Nat.reduceEqDiff, reduceIte, Nat.reduceAdd, Nat.reduceMul, Nat.reduceLeDiff, reduceCtorEq, Nat.reduceSub, Int.reduceToNat] <;> exact rfl); (· simp only [push_cast, env, Nat.reduceEqDiff, reduceIte, Nat.reduceAdd, Nat.reduceMul, Nat.reduceLeDiff, reduceCtorEq, Nat.reduceSub, Int.reduceToNat] <;> exact rfl)) | (apply one_eph; (· rfl); (· simp only [push_cast, env, Nat.reduceEqDiff, reduceIte, Nat.reduceAdd, Nat.reduceMul, Nat.reduceLeDiff, reduceCtorEq, Nat.reduceSub, Int.reduceToNat] <;> exact rfl); (· rfl); (· simp only [push_cast, env, Nat.reduceEqDiff, reduceIte, Nat.reduceAdd, Nat.reduceMul, Nat.reduceLeDiff, reduceCtorEq, Nat.reduceSub, Int.reduceToNat] <;> exact rfl); (· decide)) | (apply one_bsl; (· rfl); (· simp only [push_cast, env, Nat.reduceEqDiff, reduceIte, Nat.reduceAdd, Nat.reduceMul, Nat.reduceLeDiff, reduceCtorEq, Nat.reduceSub, Int.reduceToNat] <;> exact rfl); (· rfl); (· simp only [push_cast, env, Nat.reduceEqDiff, reduceIte, Nat.reduceAdd, Nat.reduceMul, Nat.reduceLeDiff, reduceCtorEq, Nat.reduceSub, Int.reduceToNat] <;> exact rfl)) | (apply one_box; (· rfl); (· simp only [push_cast, env, Nat.reduceEqDiff, reduceIte, Nat.reduceAdd, Nat.reduceMul, Nat.reduceLeDiff, reduceCtorEq, Nat.reduceSub, Int.reduceToNat] <;> exact rfl); (· rfl); (· simp only [push_cast, env, Nat.reduceEqDiff, reduceIte, Nat.reduceAdd, Nat.reduceMul, Nat.reduceLeDiff, reduceCtorEq, Nat.reduceSub, Int.reduceToNat] <;> exact rfl)) | (apply one_skip; (· rfl); (· simp only [push_cast, env, Nat.reduceEqDiff, reduceIte, Nat.reduceAdd, Nat.reduceMul, Nat.reduceLeDiff, reduceCtorEq, Nat.reduceSub, Int.reduceToNat] <;> exact rfl)))); (· rfl)))
  case ht => rfl
  case hF => repeat (first | exact trivial | (refine ⟨.inl ⟨by decide, rfl⟩, ?_⟩) | (refine ⟨.inr ⟨rfl, by simp⟩, ?_⟩))
  refine ow_pub (d := 16) rfl ?_
  refine ow_pub (d := 20) rfl ?_
  iterate 1 (apply ow_cons; · simp only [push_cast, env, Nat.reduceEqDiff, reduceIte, Nat.reduceAdd, Nat.reduceMul, Nat.reduceLeDiff, reduceCtorEq, Nat.reduceSub, Int.reduceToNat, List.length_append, List.length_cons, List.length_nil, Nat.zero_add, List.append_assoc] <;> exact rfl)
  refine ow_boxH (by simp only [push_cast, env, Nat.reduceEqDiff, reduceIte, Nat.reduceAdd, Nat.reduceMul, Nat.reduceLeDiff, reduceCtorEq, Nat.reduceSub, Int.reduceToNat] <;> exact rfl) (by simp only [push_cast, env, Nat.reduceEqDiff, reduceIte, Nat.reduceAdd, Nat.reduceMul, Nat.reduceLeDiff, reduceCtorEq, Nat.reduceSub, Int.reduceToNat] <;> exact rfl) ?_
  simp only [List.length_append, List.length_cons, List.length_nil, Nat.zero_add, List.append_assoc, List.cons_append, List.nil_append]
  repeat (first | refine cw_seq ?_ | refine cw_region ?_ | refine ow_nil ?_ | ((first | apply ow_cons | apply qw_cons); · simp only [push_cast, env, Nat.reduceEqDiff, reduceIte, Nat.reduceAdd, Nat.reduceMul, Nat.reduceLeDiff, reduceCtorEq, Nat.reduceSub, Int.reduceToNat] <;> exact rfl) | ((first | apply ow_spec | apply qw_spec); · simp only [push_cast, env, Nat.reduceEqDiff, reduceIte, Nat.reduceAdd, Nat.reduceMul, Nat.reduceLeDiff, reduceCtorEq, Nat.reduceSub, Int.reduceToNat] <;> exact rfl) | refine qw_nil ?_ | refine cw_block ?_ | refine cw_scope ?_ | refine cw_label ?_ | refine cw_skip ?_)
  refine ⟨[(2, .box [i64 g.nts, i64 g.start, .slice p g.rules.length c]), (5, .val (.pointer (some ⟨h.length + 2, 0, some 0⟩)))], (by simp only [push_cast, SubL, fget, Nat.reduceEqDiff, reduceIte]), ?_⟩
  obtain ⟨H3, hH3⟩ : ∃ H3, H3 = h ++ [HObj.arr (List.replicate N nilS) 0 true 91, HObj.arr (List.replicate M nilS) 0 true 55, HObj.arr [i64 g.nts, i64 g.start, .slice p g.rules.length c, .slice pw w.length cw, .slice (some ⟨h.length, 0, some 0⟩) N N, .slice (some ⟨h.length + 1, 0, some 0⟩) M M, nilS, .map none] 0 true 73] := ⟨_, rfl⟩
  show CW _ _ ⟨_, [], h ++ [HObj.arr (List.replicate N nilS) 0 true 91, HObj.arr (List.replicate M nilS) 0 true 55, HObj.arr [i64 g.nts, i64 g.start, .slice p g.rules.length c, .slice pw w.length cw, .slice (some ⟨h.length, 0, some 0⟩) N N, .slice (some ⟨h.length + 1, 0, some 0⟩) M M, nilS, .map none] 0 true 73]⟩ _
  rw [← hH3]
  have i1 : O1 h g (.slice p g.rules.length c) (.slice pw w.length cw) N M 0 ⟨H3, List.replicate N nilS, List.replicate N []⟩ := by
    subst hH3
    refine ⟨List.prefix_append _ _, by simp, ?_, ?_, ⟨by simp, ?_, ?_, ?_⟩, by simp, ⟨by simp [hN], ?_, ?_⟩⟩
    · simp only; rw [List.getElem?_append_right (by omega)]; simp
    · simp only; rw [List.getElem?_append_right (by omega)]; simp
    · intro i u l h1 h2
      have hi : i < N := by have := (List.getElem?_eq_some_iff.1 h1).1; simpa using this
      rw [List.getElem?_replicate, if_pos hi] at h1 h2
      cases h1; cases h2
      exact Grow.nil
    · intro i j u w x _ h1 _ h3
      rw [List.getElem?_replicate] at h1
      split at h1 <;> cases h1
      simp [isAt] at h3
    · intro i u h1
      rw [List.getElem?_replicate] at h1
      split at h1 <;> cases h1
      rfl
    · intro a h0 h1 q
      rw [lget_rep]
      simp
    · intro l hl
      rw [List.mem_replicate] at hl
      rw [hl.2]
      simp
  clear hH3
  repeat (first | refine cw_seq ?_ | refine cw_region ?_ | refine ow_nil ?_ | ((first | apply ow_cons | apply qw_cons); · simp only [push_cast, env, Nat.reduceEqDiff, reduceIte, Nat.reduceAdd, Nat.reduceMul, Nat.reduceLeDiff, reduceCtorEq, Nat.reduceSub, Int.reduceToNat] <;> exact rfl) | ((first | apply ow_spec | apply qw_spec); · simp only [push_cast, env, Nat.reduceEqDiff, reduceIte, Nat.reduceAdd, Nat.reduceMul, Nat.reduceLeDiff, reduceCtorEq, Nat.reduceSub, Int.reduceToNat] <;> exact rfl) | refine qw_nil ?_ | refine cw_block ?_ | refine cw_scope ?_ | refine cw_label ?_ | refine cw_skip ?_)
  refine cw_forG g.rules.length (fun k (x : SG) => [(2, .box [i64 g.nts, i64 g.start, .slice p g.rules.length c]), (5, .val (.pointer (some ⟨h.length + 2, 0, some 0⟩))), (24, .val (.slice p g.rules.length c)), (25, .val (i64 g.rules.length)), (26, .val (i64 k))]) (fun _ x => x.hk)
    (fun k x => O1 h g (.slice p g.rules.length c) (.slice pw w.length cw) N M k x) _ (by simp only [push_cast, SubL, fget, Nat.reduceEqDiff, reduceIte]) rfl i1 ?_
  clear i1 H3
  rintro k ⟨hk, us, ls⟩ hkn I
  obtain ⟨hp, ho, hs, hc, hl, hn, hB⟩ := I
  simp only at hp ho hs hc hl hn hB ⊢
  by_cases hlt : k < g.rules.length
  · obtain ⟨id, ver, own, c', cells, p', n', c2, hv, hid, hn, hrd, hu'⟩ := hu.at hlt
    cases hv
    subst hn
    have e0 := rdH_get0 hrd (by omega)
    have e0' := rdH_get (j := 1) hrd (by omega)
    simp only [List.getElem?_cons_succ, List.getElem?_cons_zero] at e0 e0'
    have e1 := rng hlt
    have e2 := inc hlt hle
    have e3 := lt_dec hlt
    have hmem : g.rules[k] ∈ _ := List.getElem_mem hlt
    have hn2 := RdSyms.le hu'
    obtain ⟨a1, a2, a3, hS⟩ := R.r _ hmem
    have hid2 := getElem?_prefix hp hid
    repeat (first | refine cw_seq ?_ | refine cw_region ?_ | refine ow_nil ?_ | ((first | apply ow_cons | apply qw_cons); · simp only [push_cast, env, Nat.reduceEqDiff, reduceIte, Nat.reduceAdd, Nat.reduceMul, Nat.reduceLeDiff, reduceCtorEq, Nat.reduceSub, Int.reduceToNat, e1, hid2, hrd, e3] <;> exact rfl) | ((first | apply ow_spec | apply qw_spec); · simp only [push_cast, env, Nat.reduceEqDiff, reduceIte, Nat.reduceAdd, Nat.reduceMul, Nat.reduceLeDiff, reduceCtorEq, Nat.reduceSub, Int.reduceToNat, e1, hid2, hrd, e3] <;> exact rfl) | refine qw_nil ?_ | refine cw_block ?_ | refine cw_scope ?_ | refine cw_label ?_ | refine cw_skip ?_)
    refine cw_condT (by simp only [push_cast, env, Nat.reduceEqDiff, reduceIte, Nat.reduceAdd, Nat.reduceMul, Nat.reduceLeDiff, reduceCtorEq, Nat.reduceSub, Int.reduceToNat] <;> exact rfl) ?_
    repeat (first | refine cw_seq ?_ | refine cw_region ?_ | refine ow_nil ?_ | ((first | apply ow_cons | apply qw_cons); · simp only [push_cast, env, Nat.reduceEqDiff, reduceIte, Nat.reduceAdd, Nat.reduceMul, Nat.reduceLeDiff, reduceCtorEq, Nat.reduceSub, Int.reduceToNat, e1, hid2, hrd] <;> exact rfl) | ((first | apply ow_spec | apply qw_spec); · simp only [push_cast, env, Nat.reduceEqDiff, reduceIte, Nat.reduceAdd, Nat.reduceMul, Nat.reduceLeDiff, reduceCtorEq, Nat.reduceSub, Int.reduceToNat, e1, hid2, hrd] <;> exact rfl) | refine qw_nil ?_ | refine cw_block ?_ | refine cw_scope ?_ | refine cw_label ?_ | refine cw_skip ?_)
    refine cw_weakL [(2, .box [i64 g.nts, i64 g.start, .slice (some ⟨id, 0, some ver⟩) g.rules.length c]), (5, .val (.pointer (some ⟨h.length + 2, 0, some 0⟩))), (24, .val (.slice (some ⟨id, 0, some ver⟩) g.rules.length c)), (25, .val (i64 g.rules.length)), (26, .val (i64 k)), (6, .val (i64 k)), (7, .box [i64 g.rules[k].lhs, .slice p' g.rules[k].rhs.length c2])] (by simp only [push_cast, SubL, fget, Nat.reduceEqDiff, reduceIte]) ?_
    show CW _ _ ⟨_, [], hk⟩ _
    have hBn := hB.n
    have hA : g.rules[k].lhs.toNat < us.length := by omega
    obtain ⟨v, hv⟩ : ∃ v, us[g.rules[k].lhs.toNat]? = some v := ⟨_, List.getElem?_eq_getElem hA⟩
    have hlA := lget_get (ls := ls) a1 (by omega)
    have G := hl.g _ _ _ hv hlA
    obtain ⟨pv, cv, rfl⟩ := G.form
    have hlen := hB.l _ (List.mem_of_getElem? hlA)
    obtain ⟨p2, c2', h2, hone1, G2, hp2, hpr, hx2⟩ := push_one (b := (k : Int)) G hp (by omega)
    have kind : ∀ (i : Nat) (o : HObj), hk[i]? = some o → (∀ cs ve, o ≠ .arr cs ve true 3) → isAt (.slice pv (lget ls g.rules[k].lhs).length cv) i = false := fun i o hi hne => by
      cases hb : isAt (.slice pv (lget ls g.rules[k].lhs).length cv) i with
      | false => rfl
      | true =>
        obtain ⟨ve, h5⟩ := G.obj hb
        rw [hi] at h5
        exact (hne _ _ (Option.some.inj h5)).elim
    have ho2 : h2[h.length]? = some (.arr us 0 true 91) := hpr _ _ (hl.o _ _ hv) ho
    have hs2 := hpr _ _ (kind _ _ hs (fun cs ve h5 => by cases h5)) hs
    have hc2 := hpr _ _ (kind _ _ hc (fun cs ve h5 => by cases h5)) hc
    have r1 := rng0 (N := N) a1 (by omega)
    apply cw_ordA (L := [[], [0], [1], [2], [], [4], [], [6], [7], [8], [], [10], [9, 11], [12], [], [14], [13, 15], [3, 5], [0, 1, 2, 3, 4, 5, 6, 7, 8, 9, 10, 11, 12, 13, 14, 15, 16, 17]]) (act := [16, 18]) (hs := [h2, h2.set h.length (.arr (us.set g.rules[k].lhs.toNat (.slice p2 ((lget ls g.rules[k].lhs).length + 1) c2')) 0 true 91)]) (resL := [_, _, _, _, _, _, _, _, _, _, _, _, _, _, _, _, _, _, _]) (frF := [(2, .box [i64 g.nts, i64 g.start, .slice (some ⟨id, 0, some ver⟩) g.rules.length c]), (5, .val (.pointer (some ⟨h.length + 2, 0, some 0⟩))), (24, .val (.slice (some ⟨id, 0, some ver⟩) g.rules.length c)), (25, .val (i64 g.rules.length)), (26, .val (i64 k))])
    case hm => exact mixed
    case hc => kernel_rfl
    case ha => rfl
    case hb => rfl
    case hS =>
      repeat (first | exact StepsA.nil _ | (apply StepsA.cons; (· rfl); (· (first | refine ⟨?_, trivial⟩ | refine ⟨?_, ?_, trivial⟩ | refine ⟨?_, ?_, ?_, trivial⟩ | refine ⟨?_, ?_, ?_, ?_, trivial⟩) <;> (first | (apply one_val; (· rfl); (· simp only [push_cast, env, Nat.reduceEqDiff, reduceIte, Nat.reduceAdd, Nat.reduceMul, Nat.reduceLeDiff, reduceCtorEq, Nat.reduceSub, Int.reduceToNat, r1, ho, hc, ho2, hc2, hv, Nat.mul_one] <;> exact rfl); (· simp only [push_cast, env, Nat.reduceEqDiff, reduceIte, Nat.reduceAdd, Nat.reduceMul, Nat.reduceLeDiff, reduceCtorEq, Nat.reduceSub, Int.reduceToNat, r1, ho, hc, ho2, hc2, hv, Nat.mul_one] <;> exact rfl)) | (apply one_eph; (· rfl); (· simp only [push_cast, env, Nat.reduceEqDiff, reduceIte, Nat.reduceAdd, Nat.reduceMul, Nat.reduceLeDiff, reduceCtorEq, Nat.reduceSub, Int.reduceToNat, r1, ho, hc, ho2, hc2, hv, Nat.mul_one] <;> exact rfl); (· rfl); (· simp only [push_cast, env, Nat.reduceEqDiff, reduceIte, Nat.reduceAdd, Nat.reduceMul, Nat.reduceLeDiff, reduceCtorEq, Nat.reduceSub, Int.reduceToNat, r1, ho, hc, ho2, hc2, hv, Nat.mul_one] <;> exact rfl); (· decide)) | (apply one_bsl; (· rfl); (· simp only [push_cast, env, Nat.reduceEqDiff, reduceIte, Nat.reduceAdd, Nat.reduceMul, Nat.reduceLeDiff, reduceCtorEq, Nat.reduceSub, Int.reduceToNat, r1, ho, hc, ho2, hc2, hv, Nat.mul_one] <;> exact rfl); (· rfl); (· simp only [push_cast, env, Nat.reduceEqDiff, reduceIte, Nat.reduceAdd, Nat.reduceMul, Nat.reduceLeDiff, reduceCtorEq, Nat.reduceSub, Int.reduceToNat, r1, ho, hc, ho2, hc2, hv, Nat.mul_one] <;> exact rfl)) | (apply one_box; (· rfl); (· simp only [push_cast, env, Nat.reduceEqDiff, reduceIte, Nat.reduceAdd, Nat.reduceMul, Nat.reduceLeDiff, reduceCtorEq, Nat.reduceSub, Int.reduceToNat, r1, ho, hc, ho2, hc2, hv, Nat.mul_one] <;> exact rfl); (· rfl); (· simp only [push_cast, env, Nat.reduceEqDiff, reduceIte, Nat.reduceAdd, Nat.reduceMul, Nat.reduceLeDiff, reduceCtorEq, Nat.reduceSub, Int.reduceToNat, r1, ho, hc, ho2, hc2, hv, Nat.mul_one] <;> exact rfl)) | (apply one_skip; (· rfl); (· simp only [push_cast, env, Nat.reduceEqDiff, reduceIte, Nat.reduceAdd, Nat.reduceMul, Nat.reduceLeDiff, reduceCtorEq, Nat.reduceSub, Int.reduceToNat, r1, ho, hc, ho2, hc2, hv, Nat.mul_one] <;> exact rfl)))); (· rfl)))
      apply StepsA.cons
      · rfl
      · refine ⟨?_, trivial⟩
        exact hone1 _ _ _ _ _ rfl (by simp only [push_cast, env, Nat.reduceEqDiff, reduceIte, Nat.reduceAdd, Nat.reduceMul, Nat.reduceLeDiff, reduceCtorEq, Nat.reduceSub, Int.reduceToNat] <;> exact rfl) rfl (by simp only [push_cast, env, Nat.reduceEqDiff, reduceIte, Nat.reduceAdd, Nat.reduceMul, Nat.reduceLeDiff, reduceCtorEq, Nat.reduceSub, Int.reduceToNat] <;> exact rfl) (by simp only [push_cast, env, Nat.reduceEqDiff, reduceIte, Nat.reduceAdd, Nat.reduceMul, Nat.reduceLeDiff, reduceCtorEq, Nat.reduceSub, Int.reduceToNat] <;> exact rfl)
      · rfl
      repeat (first | exact StepsA.nil _ | (apply StepsA.cons; (· rfl); (· (first | refine ⟨?_, trivial⟩ | refine ⟨?_, ?_, trivial⟩ | refine ⟨?_, ?_, ?_, trivial⟩ | refine ⟨?_, ?_, ?_, ?_, trivial⟩) <;> (first | (apply one_val; (· rfl); (· simp only [push_cast, env, Nat.reduceEqDiff, reduceIte, Nat.reduceAdd, Nat.reduceMul, Nat.reduceLeDiff, reduceCtorEq, Nat.reduceSub, Int.reduceToNat, r1, Nat.mul_one] <;> exact rfl); (· simp only [push_cast, env, Nat.reduceEqDiff, reduceIte, Nat.reduceAdd, Nat.reduceMul, Nat.reduceLeDiff, reduceCtorEq, Nat.reduceSub, Int.reduceToNat, r1, Nat.mul_one] <;> exact rfl)) | (apply one_eph; (· rfl); (· simp only [push_cast, env, Nat.reduceEqDiff, reduceIte, Nat.reduceAdd, Nat.reduceMul, Nat.reduceLeDiff, reduceCtorEq, Nat.reduceSub, Int.reduceToNat, r1, Nat.mul_one] <;> exact rfl); (· rfl); (· simp only [push_cast, env, Nat.reduceEqDiff, reduceIte, Nat.reduceAdd, Nat.reduceMul, Nat.reduceLeDiff, reduceCtorEq, Nat.reduceSub, Int.reduceToNat, r1, Nat.mul_one] <;> exact rfl); (· decide)) | (apply one_bsl; (· rfl); (· simp only [push_cast, env, Nat.reduceEqDiff, reduceIte, Nat.reduceAdd, Nat.reduceMul, Nat.reduceLeDiff, reduceCtorEq, Nat.reduceSub, Int.reduceToNat, r1, Nat.mul_one] <;> exact rfl); (· rfl); (· simp only [push_cast, env, Nat.reduceEqDiff, reduceIte, Nat.reduceAdd, Nat.reduceMul, Nat.reduceLeDiff, reduceCtorEq, Nat.reduceSub, Int.reduceToNat, r1, Nat.mul_one] <;> exact rfl)) | (apply one_box; (· rfl); (· simp only [push_cast, env, Nat.reduceEqDiff, reduceIte, Nat.reduceAdd, Nat.reduceMul, Nat.reduceLeDiff, reduceCtorEq, Nat.reduceSub, Int.reduceToNat, r1, Nat.mul_one] <;> exact rfl); (· rfl); (· simp only [push_cast, env, Nat.reduceEqDiff, reduceIte, Nat.reduceAdd, Nat.reduceMul, Nat.reduceLeDiff, reduceCtorEq, Nat.reduceSub, Int.reduceToNat, r1, Nat.mul_one] <;> exact rfl)) | (apply one_skip; (· rfl); (· simp only [push_cast, env, Nat.reduceEqDiff, reduceIte, Nat.reduceAdd, Nat.reduceMul, Nat.reduceLeDiff, reduceCtorEq, Nat.reduceSub, Int.reduceToNat, r1, Nat.mul_one] <;> exact rfl)))); (· rfl)))
      apply StepsA.cons
      · rfl
      · refine ⟨?_, trivial⟩
        exact One.stoH (r := .sl .unk) (cells' := us.set g.rules[k].lhs.toNat (.slice p2 ((lget ls g.rules[k].lhs).length + 1) c2')) (by simp only [push_cast, env, Nat.reduceEqDiff, reduceIte, Nat.reduceAdd, Nat.reduceMul, Nat.reduceLeDiff, reduceCtorEq, Nat.reduceSub, Int.reduceToNat] <;> exact rfl) rfl (by simp only [push_cast, env, Nat.reduceEqDiff, reduceIte, Nat.reduceAdd, Nat.reduceMul, Nat.reduceLeDiff, reduceCtorEq, Nat.reduceSub, Int.reduceToNat] <;> exact rfl) (by simp only [push_cast, env, Nat.reduceEqDiff, reduceIte, Nat.reduceAdd, Nat.reduceMul, Nat.reduceLeDiff, reduceCtorEq, Nat.reduceSub, Int.reduceToNat] <;> exact rfl) ho2 (by simp only [push_cast, env, Nat.reduceEqDiff, reduceIte, Nat.reduceAdd, Nat.reduceMul, Nat.reduceLeDiff, reduceCtorEq, Nat.reduceSub, Int.reduceToNat] <;> exact rfl) rfl (wrV hA) rfl
      · rfl
      exact StepsA.nil _
    case ht => rfl
    case hF => repeat (first | exact trivial | (refine ⟨.inl ⟨by decide, rfl⟩, ?_⟩) | (refine ⟨.inr ⟨rfl, by simp⟩, ?_⟩))
    show CW _ _ _ _
    repeat (first | refine cw_seq ?_ | refine cw_region ?_ | refine ow_nil ?_ | ((first | apply ow_cons | apply qw_cons); · simp only [push_cast, env, Nat.reduceEqDiff, reduceIte, Nat.reduceAdd, Nat.reduceMul, Nat.reduceLeDiff, reduceCtorEq, Nat.reduceSub, Int.reduceToNat, e2] <;> exact rfl) | ((first | apply ow_spec | apply qw_spec); · simp only [push_cast, env, Nat.reduceEqDiff, reduceIte, Nat.reduceAdd, Nat.reduceMul, Nat.reduceLeDiff, reduceCtorEq, Nat.reduceSub, Int.reduceToNat, e2] <;> exact rfl) | refine qw_nil ?_ | refine cw_block ?_ | refine cw_scope ?_ | refine cw_label ?_ | refine cw_skip ?_)
    have hio : h.length < hk.length := lt_of_get ho
    refine ⟨hlt, ⟨h2.set h.length (.arr (us.set g.rules[k].lhs.toNat (.slice p2 ((lget ls g.rules[k].lhs).length + 1) c2')) 0 true 91), us.set g.rules[k].lhs.toNat (.slice p2 ((lget ls g.rules[k].lhs).length + 1) c2'), ls.set g.rules[k].lhs.toNat (lget ls g.rules[k].lhs ++ [(k : Int)])⟩, (by simp only [push_cast, SubL, fget, Nat.reduceEqDiff, reduceIte]), rfl, pre_set hp2 (Nat.le_refl _), get_set_self ho2, ?_, ?_, ?_, by simp [hn], hB.step R hlt⟩
    · simp only; rw [get_set_ne (by omega)]; exact hs2
    · simp only; rw [get_set_ne (by omega)]; exact hc2
    · exact hl.put hv hlA hio G2 hpr hx2
  · have e3 := ge_dec hlt
    obtain rfl : k = g.rules.length := by omega
    repeat (first | refine cw_seq ?_ | refine cw_region ?_ | refine ow_nil ?_ | ((first | apply ow_cons | apply qw_cons); · simp only [push_cast, env, Nat.reduceEqDiff, reduceIte, Nat.reduceAdd, Nat.reduceMul, Nat.reduceLeDiff, reduceCtorEq, Nat.reduceSub, Int.reduceToNat, e3] <;> exact rfl) | ((first | apply ow_spec | apply qw_spec); · simp only [push_cast, env, Nat.reduceEqDiff, reduceIte, Nat.reduceAdd, Nat.reduceMul, Nat.reduceLeDiff, reduceCtorEq, Nat.reduceSub, Int.reduceToNat, e3] <;> exact rfl) | refine qw_nil ?_ | refine cw_block ?_ | refine cw_scope ?_ | refine cw_label ?_ | refine cw_skip ?_)
    refine cw_condF (by simp only [push_cast, env, Nat.reduceEqDiff, reduceIte, Nat.reduceAdd, Nat.reduceMul, Nat.reduceLeDiff, reduceCtorEq, Nat.reduceSub, Int.reduceToNat] <;> exact rfl) ?_
    refine cw_exit ?_
    show CW _ _ _ _
    have B : ByR g ls := ⟨hB.n, fun a h0 h1 q => by
      rw [hB.m a h0 h1]
      constructor
      · rintro ⟨i, r, _, k2, k3, k4⟩
        exact ⟨i, r, k2, k3, k4⟩
      · rintro ⟨i, r, k2, k3, k4⟩
        exact ⟨i, r, (List.getElem?_eq_some_iff.1 k3).1, k2, k3, k4⟩, fun l hl => by have := hB.l l hl; omega⟩
    have hBn := hB.n
    have hll : RdLL hk (.slice (some ⟨h.length, 0, some 0⟩) N N) ls := ⟨h.length, 0, true, N, us, by rw [show ls.length = N by omega], ho, hl.n, fun i u l h1 h2 => by
      have := hB.l l (List.mem_of_getElem? h2)
      exact (hl.g i u l h1 h2).sl (by omega)⟩
    clear hl hB hn
    repeat (first | refine cw_seq ?_ | refine cw_region ?_ | refine ow_nil ?_ | ((first | apply ow_cons | apply qw_cons); · simp only [push_cast, env, Nat.reduceEqDiff, reduceIte, Nat.reduceAdd, Nat.reduceMul, Nat.reduceLeDiff, reduceCtorEq, Nat.reduceSub, Int.reduceToNat, hc] <;> exact rfl) | ((first | apply ow_spec | apply qw_spec); · simp only [push_cast, env, Nat.reduceEqDiff, reduceIte, Nat.reduceAdd, Nat.reduceMul, Nat.reduceLeDiff, reduceCtorEq, Nat.reduceSub, Int.reduceToNat, hc] <;> exact rfl) | refine qw_nil ?_ | refine cw_block ?_ | refine cw_scope ?_ | refine cw_label ?_ | refine cw_skip ?_)
    refine cw_forG M (fun k (x : Heap × List Nat × Value) => [(2, .box [i64 g.nts, i64 g.start, .slice p g.rules.length c]), (5, .val (.pointer (some ⟨h.length + 2, 0, some 0⟩))), (54, .val (i64 M)), (55, .val (i64 k))]) (fun _ x => x.1)
      (fun k x => O2 h hk g (.slice p g.rules.length c) (.slice pw w.length cw) (.slice (some ⟨h.length, 0, some 0⟩) N N) M k x) (hk, [], nilS) (by simp only [push_cast, SubL, fget, Nat.reduceEqDiff, reduceIte]) rfl ⟨hp, fun _ _ _ _ _ _ h => h, hs, hc, rfl, Grow.nil, fun i hi => (by cases hi), fun i j y h1 => (by simp at h1)⟩ ?_
    clear hc hs ho
    rintro k ⟨hm, ms, mv⟩ hkm I
    obtain ⟨mp, mkb, msi, mc, mn, mg, mm, md⟩ := I
    simp only at mp mkb msi mc mn mg mm md ⊢
    by_cases hlt2 : k < M
    · have f2 := inc hlt2 (by omega)
      have f3 := lt_dec hlt2
      obtain ⟨pm, cm, rfl⟩ := mg.form
      repeat (first | refine cw_seq ?_ | refine cw_region ?_ | refine ow_nil ?_ | ((first | apply ow_cons | apply qw_cons); · simp only [push_cast, env, Nat.reduceEqDiff, reduceIte, Nat.reduceAdd, Nat.reduceMul, Nat.reduceLeDiff, reduceCtorEq, Nat.reduceSub, Int.reduceToNat, f3] <;> exact rfl) | ((first | apply ow_spec | apply qw_spec); · simp only [push_cast, env, Nat.reduceEqDiff, reduceIte, Nat.reduceAdd, Nat.reduceMul, Nat.reduceLeDiff, reduceCtorEq, Nat.reduceSub, Int.reduceToNat, f3] <;> exact rfl) | refine qw_nil ?_ | refine cw_block ?_ | refine cw_scope ?_ | refine cw_label ?_ | refine cw_skip ?_)
      refine cw_condT (by simp only [push_cast, env, Nat.reduceEqDiff, reduceIte, Nat.reduceAdd, Nat.reduceMul, Nat.reduceLeDiff, reduceCtorEq, Nat.reduceSub, Int.reduceToNat] <;> exact rfl) ?_
      repeat (first | refine cw_seq ?_ | refine cw_region ?_ | refine ow_nil ?_ | ((first | apply ow_cons | apply qw_cons); · simp only [push_cast, env, Nat.reduceEqDiff, reduceIte, Nat.reduceAdd, Nat.reduceMul, Nat.reduceLeDiff, reduceCtorEq, Nat.reduceSub, Int.reduceToNat, mc] <;> exact rfl) | ((first | apply ow_spec | apply qw_spec); · simp only [push_cast, env, Nat.reduceEqDiff, reduceIte, Nat.reduceAdd, Nat.reduceMul, Nat.reduceLeDiff, reduceCtorEq, Nat.reduceSub, Int.reduceToNat, mc] <;> exact rfl) | refine qw_nil ?_ | refine cw_block ?_ | refine cw_scope ?_ | refine cw_label ?_ | refine cw_skip ?_)
      refine ow_map (kt := 57) (et := 3) (by simp only [push_cast, env, Nat.reduceEqDiff, reduceIte, Nat.reduceAdd, Nat.reduceMul, Nat.reduceLeDiff, reduceCtorEq, Nat.reduceSub, Int.reduceToNat] <;> exact rfl) rfl (by kernel_rfl) ?_
      repeat (first | refine cw_seq ?_ | refine cw_region ?_ | refine ow_nil ?_ | ((first | apply ow_cons | apply qw_cons); · simp only [push_cast, env, Nat.reduceEqDiff, reduceIte, Nat.reduceAdd, Nat.reduceMul, Nat.reduceLeDiff, reduceCtorEq, Nat.reduceSub, Int.reduceToNat] <;> exact rfl) | ((first | apply ow_spec | apply qw_spec); · simp only [push_cast, env, Nat.reduceEqDiff, reduceIte, Nat.reduceAdd, Nat.reduceMul, Nat.reduceLeDiff, reduceCtorEq, Nat.reduceSub, Int.reduceToNat] <;> exact rfl) | refine qw_nil ?_ | refine cw_block ?_ | refine cw_scope ?_ | refine cw_label ?_ | refine cw_skip ?_)
      have mg1 := mg.mono (h' := hm ++ [HObj.map []]) fun i o _ ho => get_of_push ho
      refine ow_push (t := 70) (by simp only [push_cast, env, Nat.reduceEqDiff, reduceIte, Nat.reduceAdd, Nat.reduceMul, Nat.reduceLeDiff, reduceCtorEq, Nat.reduceSub, Int.reduceToNat] <;> exact rfl) rfl (by kernel_rfl) ti92 (by decide) rfl (by simp only [push_cast, env, Nat.reduceEqDiff, reduceIte, Nat.reduceAdd, Nat.reduceMul, Nat.reduceLeDiff, reduceCtorEq, Nat.reduceSub, Int.reduceToNat] <;> exact rfl) rfl mg1 (pre_push mp) (by simp [mn]) rfl (by simp only; omega) (by omega) ?_
      intro p3 c3 h3 G3 hp3 hpr3 hl3
      have kind : ∀ (i : Nat) (o : HObj), hm[i]? = some o → (∀ cs ve, o ≠ .arr cs ve true 92) → h3[i]? = some o := fun i o hi hne => hpr3 i o (by
        cases hb : isAt (.slice pm k cm) i with
        | false => rfl
        | true =>
          obtain ⟨ve, h5⟩ := mg.obj hb
          rw [hi] at h5
          exact (hne _ _ (Option.some.inj h5)).elim) (get_of_push hi)
      have mc3 := kind _ _ mc (fun cs ve h5 => by cases h5)
      have ms3 := kind _ _ msi (fun cs ve h5 => by cases h5)
      have hnew : h3[hm.length]? = some (.map []) := hpr3 _ _ (by
        cases hb : isAt (.slice pm k cm) hm.length with
        | false => rfl
        | true => have := (mg.lt hb).2; omega) push_get_self
      have hcl := lt_of_get mc
      repeat (first | refine cw_seq ?_ | refine cw_region ?_ | refine ow_nil ?_ | ((first | apply ow_cons | apply qw_cons); · simp only [push_cast, env, Nat.reduceEqDiff, reduceIte, Nat.reduceAdd, Nat.reduceMul, Nat.reduceLeDiff, reduceCtorEq, Nat.reduceSub, Int.reduceToNat] <;> exact rfl) | ((first | apply ow_spec | apply qw_spec); · simp only [push_cast, env, Nat.reduceEqDiff, reduceIte, Nat.reduceAdd, Nat.reduceMul, Nat.reduceLeDiff, reduceCtorEq, Nat.reduceSub, Int.reduceToNat] <;> exact rfl) | refine qw_nil ?_ | refine cw_block ?_ | refine cw_scope ?_ | refine cw_label ?_ | refine cw_skip ?_)
      refine ow_stoH (cells' := [i64 g.nts, i64 g.start, .slice p g.rules.length c, .slice pw w.length cw, .slice (some ⟨h.length, 0, some 0⟩) N N, .slice (some ⟨h.length + 1, 0, some 0⟩) M M, .slice p3 (k + 1) c3, .map none]) (by simp only [push_cast, env, Nat.reduceEqDiff, reduceIte, Nat.reduceAdd, Nat.reduceMul, Nat.reduceLeDiff, reduceCtorEq, Nat.reduceSub, Int.reduceToNat] <;> exact rfl) rfl rfl (by simp only [push_cast, env, Nat.reduceEqDiff, reduceIte, Nat.reduceAdd, Nat.reduceMul, Nat.reduceLeDiff, reduceCtorEq, Nat.reduceSub, Int.reduceToNat] <;> exact rfl) (by simp only [push_cast, env, Nat.reduceEqDiff, reduceIte, Nat.reduceAdd, Nat.reduceMul, Nat.reduceLeDiff, reduceCtorEq, Nat.reduceSub, Int.reduceToNat] <;> exact rfl) mc3 (by simp only [push_cast, env, Nat.reduceEqDiff, reduceIte, Nat.reduceAdd, Nat.reduceMul, Nat.reduceLeDiff, reduceCtorEq, Nat.reduceSub, Int.reduceToNat] <;> exact rfl) rfl rfl ?_
      repeat (first | refine cw_seq ?_ | refine cw_region ?_ | refine ow_nil ?_ | ((first | apply ow_cons | apply qw_cons); · simp only [push_cast, env, Nat.reduceEqDiff, reduceIte, Nat.reduceAdd, Nat.reduceMul, Nat.reduceLeDiff, reduceCtorEq, Nat.reduceSub, Int.reduceToNat, f2] <;> exact rfl) | ((first | apply ow_spec | apply qw_spec); · simp only [push_cast, env, Nat.reduceEqDiff, reduceIte, Nat.reduceAdd, Nat.reduceMul, Nat.reduceLeDiff, reduceCtorEq, Nat.reduceSub, Int.reduceToNat, f2] <;> exact rfl) | refine qw_nil ?_ | refine cw_block ?_ | refine cw_scope ?_ | refine cw_label ?_ | refine cw_skip ?_)
      refine ⟨hlt2, (_, ms ++ [hm.length], .slice p3 (k + 1) c3), (by simp only [push_cast, SubL, fget, Nat.reduceEqDiff, reduceIte]), rfl, pre_set hp3 (by omega), fun i cs v o et he hi => ?_, ?_, get_set_self mc3, by simp [mn], ?_, fun i hi => ?_, fun i j y h1 h2 => ?_⟩
      · simp only
        rw [get_set_ne (by
          rintro rfl
          have := kind _ _ (mkb _ cs v o et he hi) (fun cs' ve h5 => by
            simp only [HObj.arr.injEq] at h5
            rcases he with rfl | rfl
            · exact absurd h5.2.2.2 (by decide)
            · exact absurd h5.2.2.2 (by decide))
          rw [mc3] at this
          simp only [Option.some.injEq, HObj.arr.injEq] at this
          rcases he with rfl | rfl
          · exact absurd this.2.2.2 (by decide)
          · exact absurd this.2.2.2 (by decide))]
        exact kind _ _ (mkb _ cs v o et he hi) (fun cs' ve h5 => by
          simp only [HObj.arr.injEq] at h5
          rcases he with rfl | rfl
          · exact absurd h5.2.2.2 (by decide)
          · exact absurd h5.2.2.2 (by decide))
      · simp only
        rw [get_set_ne (by omega)]
        exact ms3
      · simp only [List.map_append, List.map_cons, List.map_nil]
        refine G3.mono fun i o hi ho => ?_
        obtain ⟨ve, h5⟩ := G3.obj hi
        rw [get_set_ne (by
          rintro rfl
          rw [mc3] at h5
          simp only [Option.some.injEq, HObj.arr.injEq] at h5
          exact absurd h5.2.2.2 (by decide))]
        exact ho
      · simp only at hi ⊢
        rw [List.mem_append, List.mem_singleton] at hi
        rcases hi with hi | rfl
        · obtain ⟨q1, q2⟩ := mm i hi
          refine ⟨?_, q2⟩
          rw [get_set_ne (by rintro rfl; rw [mc] at q1; cases q1)]
          exact kind _ _ q1 (fun cs ve h5 => by cases h5)
        · exact ⟨by rw [get_set_ne (by omega)]; exact hnew, by omega⟩
      · simp only at h1 h2
        have hlow : ∀ (a : Nat) (z : Nat), ms[a]? = some z → z < hm.length := fun a z ha => lt_of_get (mm z (List.mem_of_getElem? ha)).1
        rcases get_snoc h1 with h1 | ⟨h1, h1'⟩ <;> rcases get_snoc h2 with h2 | ⟨h2, h2'⟩
        · exact md i j y h1 h2
        · have := hlow i y h1; omega
        · have := hlow j y h2; omega
        · omega
    · have e3b := ge_dec hlt2
      obtain rfl : k = M := by omega
      repeat (first | refine cw_seq ?_ | refine cw_region ?_ | refine ow_nil ?_ | ((first | apply ow_cons | apply qw_cons); · simp only [push_cast, env, Nat.reduceEqDiff, reduceIte, Nat.reduceAdd, Nat.reduceMul, Nat.reduceLeDiff, reduceCtorEq, Nat.reduceSub, Int.reduceToNat, e3b] <;> exact rfl) | ((first | apply ow_spec | apply qw_spec); · simp only [push_cast, env, Nat.reduceEqDiff, reduceIte, Nat.reduceAdd, Nat.reduceMul, Nat.reduceLeDiff, reduceCtorEq, Nat.reduceSub, Int.reduceToNat, e3b] <;> exact rfl) | refine qw_nil ?_ | refine cw_block ?_ | refine cw_scope ?_ | refine cw_label ?_ | refine cw_skip ?_)
      refine cw_condF (by simp only [push_cast, env, Nat.reduceEqDiff, reduceIte, Nat.reduceAdd, Nat.reduceMul, Nat.reduceLeDiff, reduceCtorEq, Nat.reduceSub, Int.reduceToNat] <;> exact rfl) ?_
      refine cw_exit ?_
      show CW _ _ _ _
      obtain ⟨im, vm, hml, hme, hmg⟩ := mg.mine (by omega)
      subst hme
      have hgs0 : ∀ i, gs (List.replicate k ([] : List Item)) i = [] := fun i => by
        unfold gs
        rw [List.getD_eq_getElem?_getD, List.getElem?_replicate]
        split <;> rfl
      have K0 : CHR h hk g (.slice p g.rules.length c) (.slice pw w.length cw) ⟨h.length + 2, h.length + 1, im, vm, ms, 0, .slice (some ⟨h.length, 0, some 0⟩) N N, .map none⟩ ⟨hm, List.replicate k nilS, List.replicate k [], []⟩ := by
        refine ⟨mp, ?_, msi, hmg, (fun e => by simp at e), by simp, by simp [mn], fun j u l h1 h2 => ?_, fun i j u v x _ h1 _ h3 => ?_, fun j i l h1 h2 => ?_, md, mkb, by simp only; omega, by simp only; omega, hml, fun i hi => (mm i hi).2⟩
        · unfold chCells
          simp only [List.length_replicate]
          exact mc
        · simp only at h1 h2
          rw [List.getElem?_replicate] at h1 h2
          split at h1
          · rename_i hjk
            rw [if_pos hjk] at h2
            cases h1; cases h2
            exact Grow.nil
          · cases h1
        · simp only at h1
          rw [List.getElem?_replicate] at h1
          split at h1 <;> cases h1
          simp [isAt] at h3
        · simp only at h1 h2 ⊢
          rw [List.getElem?_replicate] at h2
          split at h2 <;> cases h2
          exact (mm i (List.mem_of_getElem? h1)).1
      have C0 : CI g w (List.replicate k []) := ⟨by simp [hM], fun j x hx => by rw [hgs0] at hx; simp at hx, fun j => by rw [hgs0]; exact List.nodup_nil⟩
      clear mc msi mg hmg mm md mn mkb mp hgs0
      obtain ⟨F0, hF0⟩ : ∃ F0 : Fix, F0 = ⟨h.length + 2, h.length + 1, im, vm, ms, 0, .slice (some ⟨h.length, 0, some 0⟩) N N, .map none⟩ := ⟨_, rfl⟩
      rw [← hF0] at K0
      have hcp : F0.cp = h.length + 2 := by rw [hF0]
      have hbv : F0.bv = .slice (some ⟨h.length, 0, some 0⟩) N N := by rw [hF0]
      clear hF0
      obtain ⟨s1, s2⟩ := And.intro R.s1 R.s2
      obtain ⟨idb, verb, ownb, cb, usb, hbe, hidb, hbn, hbr⟩ := id hll
      cases hbe
      have hnl : g.start.toNat < ls.length := by omega
      have hli := lget_get (ls := ls) s1 (by omega)
      obtain ⟨ub, hub⟩ : ∃ ub, usb[g.start.toNat]? = some ub := ⟨_, List.getElem?_eq_getElem (by omega)⟩
      have hlr := hbr _ _ _ hub hli
      obtain ⟨pb, cbb, rfl⟩ := SlR.form hlr
      have hidb' := K0.kb _ _ _ _ _ (.inr rfl) hidb
      have q3 := rng0 (N := ls.length) s1 (by omega)
      have hll2 := B.l _ (List.mem_of_getElem? hli)
      have hc := K0.c
      unfold chCells at hc
      rw [hbv] at hc
      simp only [List.length_replicate] at hc hidb'
      generalize hL : lget ls g.start = L at hlr hll2 hub
      refine cw_weakL [(2, .box [i64 g.nts, i64 g.start, .slice p g.rules.length c]), (5, .val (.pointer (some ⟨F0.cp, 0, some 0⟩)))] (by simp only [push_cast, SubL, fget, Nat.reduceEqDiff, reduceIte, hcp]) ?_
      show CW _ _ ⟨_, [], hm⟩ _
      repeat (first | refine cw_seq ?_ | refine cw_region ?_ | refine ow_nil ?_ | refine qw_nil ?_ | refine cw_block ?_ | refine cw_scope ?_ | refine cw_label ?_ | refine cw_skip ?_)
      show CW _ _ _ _
      apply cw_ord0 (L := [[], [0], [1], [2], [], [4], [3, 5], [6], [7], []]) (resL := [_, _, _, _, _, _, _, _, _, _]) (frF := [(5, .val (.pointer (some ⟨F0.cp, 0, some 0⟩))), (75, .val (.slice pb L.length cbb)), (76, .val (i64 L.length)), (77, .val (i64 0))])
      case hm => exact mixed
      case hc => kernel_rfl
      case hb => rfl
      case hS => repeat (first | exact Steps0.nil _ | (apply Steps0.cons; (· first | (apply one_val; (· rfl); (· simp only [push_cast, env, Nat.reduceEqDiff, reduceIte, Nat.reduceAdd, Nat.reduceMul, Nat.reduceLeDiff, reduceCtorEq, Nat.reduceSub, Int.reduceToNat, hc, hidb', q3, hub, Nat.mul_one] <;> exact rfl); (· simp only [push_cast, env, Nat.reduceEqDiff, reduceIte, Nat.reduceAdd, Nat.reduceMul, Nat.reduceLeDiff, reduceCtorEq, Nat.reduceSub, Int.reduceToNat, hc, hidb', q3, hub, Nat.mul_one] <;> exact rfl)) | (apply one_eph; (· rfl); (· simp only [push_cast, env, Nat.reduceEqDiff, reduceIte, Nat.reduceAdd, Nat.reduceMul, Nat.reduceLeDiff, reduceCtorEq, Nat.reduceSub, Int.reduceToNat, hc, hidb', q3, hub, Nat.mul_one] <;> exact rfl); (· rfl); (· simp only [push_cast, env, Nat.reduceEqDiff, reduceIte, Nat.reduceAdd, Nat.reduceMul, Nat.reduceLeDiff, reduceCtorEq, Nat.reduceSub, Int.reduceToNat, hc, hidb', q3, hub, Nat.mul_one] <;> exact rfl); (· decide)) | (apply one_skip; (· rfl); (· simp only [push_cast, env, Nat.reduceEqDiff, reduceIte, Nat.reduceAdd, Nat.reduceMul, Nat.reduceLeDiff, reduceCtorEq, Nat.reduceSub, Int.reduceToNat, hc, hidb', q3, hub, Nat.mul_one] <;> exact rfl))); (· rfl)))
      case ht => rfl
      case hF => repeat (first | exact trivial | (refine ⟨.inl ⟨by decide, rfl⟩, ?_⟩) | (refine ⟨.inr ⟨rfl, by simp⟩, ?_⟩))
      show CW _ _ _ _
      clear hc
      have qok : ∀ q : Int, q ∈ L → ∃ (k : Nat) (r' : Rule), q = k ∧ g.rules[k]? = some r' ∧ r'.lhs = g.start := fun q hq => (B.m g.start s1 s2 q).1 (hL ▸ hq)
      repeat (first | refine cw_seq ?_ | refine cw_region ?_ | refine ow_nil ?_ | ((first | apply ow_cons | apply qw_cons); · simp only [push_cast, env, Nat.reduceEqDiff, reduceIte, Nat.reduceAdd, Nat.reduceMul, Nat.reduceLeDiff, reduceCtorEq, Nat.reduceSub, Int.reduceToNat] <;> exact rfl) | ((first | apply ow_spec | apply qw_spec); · simp only [push_cast, env, Nat.reduceEqDiff, reduceIte, Nat.reduceAdd, Nat.reduceMul, Nat.reduceLeDiff, reduceCtorEq, Nat.reduceSub, Int.reduceToNat] <;> exact rfl) | refine qw_nil ?_ | refine cw_block ?_ | refine cw_scope ?_ | refine cw_label ?_ | refine cw_skip ?_)
      refine cw_forG L.length (fun k (z : Gh) => [(5, .val (.pointer (some ⟨F0.cp, 0, some 0⟩))), (75, .val (.slice pb L.length cbb)), (76, .val (i64 L.length)), (77, .val (i64 k))]) (fun _ z => z.h)
        (fun i z => CHR h hk g (.slice p g.rules.length c) (.slice pw w.length cw) F0 z ∧ z.S.length = k ∧ CI g w z.S ∧ ∀ q : Nat, (q : Int) ∈ L.take i → (⟨q, 0, 0⟩ : Item) ∈ gs z.S 0) ⟨hm, List.replicate k nilS, List.replicate k [], []⟩ (by simp only [push_cast, SubL, fget, Nat.reduceEqDiff, reduceIte]) rfl ⟨K0, by simp, C0, fun q hq => by simp at hq⟩ ?_
      clear K0 C0 hidb'
      rintro i ⟨h1, us1, S1, E1⟩ hkn ⟨K, hSl, C1, hall⟩
      simp only at K hSl C1 hall ⊢
      have hjS1 : 0 < S1.length := by omega
      have hsm1 := C1.small R hw (k := 0) (by omega)
      by_cases hlt3 : i < L.length
      · obtain ⟨idl, verl, ownl, cl, cellsl, hvl, hidl, hgl⟩ := RdInts.at hlr hlt3
        cases hvl
        have hidl' := K.kb _ _ _ _ _ (.inl rfl) hidl
        have f1 := rng hlt3
        have f2 := inc hlt3 (by omega)
        have f3 := lt_dec hlt3
        obtain ⟨q, rq, hqe', hq2, hq3⟩ := qok L[i] (List.getElem_mem hlt3)
        rw [hqe'] at hgl
        have hIt : It g w 0 ⟨q, 0, 0⟩ := .init q rq hq2 hq3
        repeat (first | refine cw_seq ?_ | refine cw_region ?_ | refine ow_nil ?_ | ((first | apply ow_cons | apply qw_cons); · simp only [push_cast, env, Nat.reduceEqDiff, reduceIte, Nat.reduceAdd, Nat.reduceMul, Nat.reduceLeDiff, reduceCtorEq, Nat.reduceSub, Int.reduceToNat, f3] <;> exact rfl) | ((first | apply ow_spec | apply qw_spec); · simp only [push_cast, env, Nat.reduceEqDiff, reduceIte, Nat.reduceAdd, Nat.reduceMul, Nat.reduceLeDiff, reduceCtorEq, Nat.reduceSub, Int.reduceToNat, f3] <;> exact rfl) | refine qw_nil ?_ | refine cw_block ?_ | refine cw_scope ?_ | refine cw_label ?_ | refine cw_skip ?_)
        refine cw_condT (by simp only [push_cast, env, Nat.reduceEqDiff, reduceIte, Nat.reduceAdd, Nat.reduceMul, Nat.reduceLeDiff, reduceCtorEq, Nat.reduceSub, Int.reduceToNat] <;> exact rfl) ?_
        repeat (first | refine cw_seq ?_ | refine cw_region ?_ | refine ow_nil ?_ | ((first | apply ow_cons | apply qw_cons); · simp only [push_cast, env, Nat.reduceEqDiff, reduceIte, Nat.reduceAdd, Nat.reduceMul, Nat.reduceLeDiff, reduceCtorEq, Nat.reduceSub, Int.reduceToNat, hidl', f1, hgl, Nat.mul_one] <;> exact rfl) | ((first | apply ow_spec | apply qw_spec); · simp only [push_cast, env, Nat.reduceEqDiff, reduceIte, Nat.reduceAdd, Nat.reduceMul, Nat.reduceLeDiff, reduceCtorEq, Nat.reduceSub, Int.reduceToNat, hidl', f1, hgl, Nat.mul_one] <;> exact rfl) | refine qw_nil ?_ | refine cw_block ?_ | refine cw_scope ?_ | refine cw_label ?_ | refine cw_skip ?_)
        refine ow_call (fn := Try.f52) (by simp only [push_cast, env, Nat.reduceEqDiff, reduceIte, Nat.reduceAdd, Nat.reduceMul, Nat.reduceLeDiff, reduceCtorEq, Nat.reduceSub, Int.reduceToNat] <;> exact rfl) rfl (by simp only [push_cast, env, Nat.reduceEqDiff, reduceIte, Nat.reduceAdd, Nat.reduceMul, Nat.reduceLeDiff, reduceCtorEq, Nat.reduceSub, Int.reduceToNat] <;> exact rfl) (by simp only [push_cast, env, Nat.reduceEqDiff, reduceIte, Nat.reduceAdd, Nat.reduceMul, Nat.reduceLeDiff, reduceCtorEq, Nat.reduceSub, Int.reduceToNat] <;> exact rfl) Try.func52 (by kernel_rfl) (by kernel_rfl) ?_
        rw [List.append_nil]
        refine (add_fw (j := 0) (x := ⟨q, 0, 0⟩) K hjS1 (by simp only; omega)).mono ?_
        rintro _ h2 ⟨us2, K2⟩
        simp only at K2
        have X2 := addS_ext (x := ⟨q, 0, 0⟩) hjS1
        repeat (first | refine cw_seq ?_ | refine cw_region ?_ | refine ow_nil ?_ | ((first | apply ow_cons | apply qw_cons); · simp only [push_cast, env, Nat.reduceEqDiff, reduceIte, Nat.reduceAdd, Nat.reduceMul, Nat.reduceLeDiff, reduceCtorEq, Nat.reduceSub, Int.reduceToNat, f2] <;> exact rfl) | ((first | apply ow_spec | apply qw_spec); · simp only [push_cast, env, Nat.reduceEqDiff, reduceIte, Nat.reduceAdd, Nat.reduceMul, Nat.reduceLeDiff, reduceCtorEq, Nat.reduceSub, Int.reduceToNat, f2] <;> exact rfl) | refine qw_nil ?_ | refine cw_block ?_ | refine cw_scope ?_ | refine cw_label ?_ | refine cw_skip ?_)
        refine ⟨hlt3, ⟨h2, us2, _, E1⟩, (by simp only [push_cast, SubL, fget, Nat.reduceEqDiff, reduceIte]), rfl, K2, by simp only; rw [X2.n]; exact hSl, C1.add hIt (by omega), fun q' hq' => ?_⟩
        rw [List.take_succ_eq_append_getElem hlt3, List.mem_append, List.mem_singleton] at hq'
        rcases hq' with hq' | hq'
        · exact X2.mem (hall q' hq')
        · rw [hqe'] at hq'
          have : q' = q := by omega
          subst this
          exact addS_mem hjS1
      · have e3c := ge_dec hlt3
        obtain rfl : i = L.length := by omega
        repeat (first | refine cw_seq ?_ | refine cw_region ?_ | refine ow_nil ?_ | ((first | apply ow_cons | apply qw_cons); · simp only [push_cast, env, Nat.reduceEqDiff, reduceIte, Nat.reduceAdd, Nat.reduceMul, Nat.reduceLeDiff, reduceCtorEq, Nat.reduceSub, Int.reduceToNat, e3c] <;> exact rfl) | ((first | apply ow_spec | apply qw_spec); · simp only [push_cast, env, Nat.reduceEqDiff, reduceIte, Nat.reduceAdd, Nat.reduceMul, Nat.reduceLeDiff, reduceCtorEq, Nat.reduceSub, Int.reduceToNat, e3c] <;> exact rfl) | refine qw_nil ?_ | refine cw_block ?_ | refine cw_scope ?_ | refine cw_label ?_ | refine cw_skip ?_)
        refine cw_condF (by simp only [push_cast, env, Nat.reduceEqDiff, reduceIte, Nat.reduceAdd, Nat.reduceMul, Nat.reduceLeDiff, reduceCtorEq, Nat.reduceSub, Int.reduceToNat] <;> exact rfl) ?_
        refine cw_exit ?_
        show CW _ _ _ _
        rw [List.take_length] at hall
        have A0 : At g w S1 [] 0 0 := ⟨C1, fun q r h1 h2 => hall q (by rw [← hL]; exact (B.m g.start s1 s2 q).2 ⟨q, r, rfl, h1, h2⟩), fun i hi => absurd hi (Nat.not_lt_zero _), fun a ha => (by cases ha), fun x hx => (by simp at hx)⟩
        have hc := K.c
        unfold chCells at hc
        simp only at hc
        rw [hSl] at hc
        repeat (first | refine cw_seq ?_ | refine cw_region ?_ | refine ow_nil ?_ | ((first | apply ow_cons | apply qw_cons); · simp only [push_cast, env, Nat.reduceEqDiff, reduceIte, Nat.reduceAdd, Nat.reduceMul, Nat.reduceLeDiff, reduceCtorEq, Nat.reduceSub, Int.reduceToNat, hc] <;> exact rfl) | ((first | apply ow_spec | apply qw_spec); · simp only [push_cast, env, Nat.reduceEqDiff, reduceIte, Nat.reduceAdd, Nat.reduceMul, Nat.reduceLeDiff, reduceCtorEq, Nat.reduceSub, Int.reduceToNat, hc] <;> exact rfl) | refine qw_nil ?_ | refine cw_block ?_ | refine cw_scope ?_ | refine cw_label ?_ | refine cw_skip ?_)
        refine cw_forG k (fun j (z : Nat × Value × Gh) => [(5, .val (.pointer (some ⟨F0.cp, 0, some 0⟩))), (90, .val (i64 k)), (91, .val (i64 j))]) (fun _ z => z.2.2.h)
          (fun j z => CHR h hk g (.slice p g.rules.length c) (.slice pw w.length cw) { F0 with ie := z.1, ev := z.2.1 } z.2.2 ∧ At g w z.2.2.S [] j 0) (F0.ie, F0.ev, ⟨h1, us1, S1, E1⟩) (by simp only [push_cast, SubL, fget, Nat.reduceEqDiff, reduceIte]) rfl ⟨K, A0⟩ ?_
        clear K A0 hc hall C1 hSl hjS1 hsm1
        rintro j ⟨ie0, ev0, h1, us1, S1, E1⟩ hjk ⟨K, A⟩
        simp only at K A ⊢
        have hSl : S1.length = k := by have := A.ci.n; omega
        by_cases hlt4 : j < k
        · have f2 := inc hlt4 (by omega)
          have f3 := lt_dec hlt4
          have f1 := rng hlt4
          have hc := K.c
          unfold chCells at hc
          simp only at hc
          rw [hSl] at hc
          repeat (first | refine cw_seq ?_ | refine cw_region ?_ | refine ow_nil ?_ | ((first | apply ow_cons | apply qw_cons); · simp only [push_cast, env, Nat.reduceEqDiff, reduceIte, Nat.reduceAdd, Nat.reduceMul, Nat.reduceLeDiff, reduceCtorEq, Nat.reduceSub, Int.reduceToNat, f3] <;> exact rfl) | ((first | apply ow_spec | apply qw_spec); · simp only [push_cast, env, Nat.reduceEqDiff, reduceIte, Nat.reduceAdd, Nat.reduceMul, Nat.reduceLeDiff, reduceCtorEq, Nat.reduceSub, Int.reduceToNat, f3] <;> exact rfl) | refine qw_nil ?_ | refine cw_block ?_ | refine cw_scope ?_ | refine cw_label ?_ | refine cw_skip ?_)
          refine cw_condT (by simp only [push_cast, env, Nat.reduceEqDiff, reduceIte, Nat.reduceAdd, Nat.reduceMul, Nat.reduceLeDiff, reduceCtorEq, Nat.reduceSub, Int.reduceToNat] <;> exact rfl) ?_
          repeat (first | refine cw_seq ?_ | refine cw_region ?_ | refine ow_nil ?_ | ((first | apply ow_cons | apply qw_cons); · simp only [push_cast, env, Nat.reduceEqDiff, reduceIte, Nat.reduceAdd, Nat.reduceMul, Nat.reduceLeDiff, reduceCtorEq, Nat.reduceSub, Int.reduceToNat] <;> exact rfl) | ((first | apply ow_spec | apply qw_spec); · simp only [push_cast, env, Nat.reduceEqDiff, reduceIte, Nat.reduceAdd, Nat.reduceMul, Nat.reduceLeDiff, reduceCtorEq, Nat.reduceSub, Int.reduceToNat] <;> exact rfl) | refine qw_nil ?_ | refine cw_block ?_ | refine cw_scope ?_ | refine cw_label ?_ | refine cw_skip ?_)
          refine ow_map (kt := 3) (et := 3) (by simp only [push_cast, env, Nat.reduceEqDiff, reduceIte, Nat.reduceAdd, Nat.reduceMul, Nat.reduceLeDiff, reduceCtorEq, Nat.reduceSub, Int.reduceToNat] <;> exact rfl) rfl (by kernel_rfl) ?_
          repeat (first | refine cw_seq ?_ | refine cw_region ?_ | refine ow_nil ?_ | ((first | apply ow_cons | apply qw_cons); · simp only [push_cast, env, Nat.reduceEqDiff, reduceIte, Nat.reduceAdd, Nat.reduceMul, Nat.reduceLeDiff, reduceCtorEq, Nat.reduceSub, Int.reduceToNat] <;> exact rfl) | ((first | apply ow_spec | apply qw_spec); · simp only [push_cast, env, Nat.reduceEqDiff, reduceIte, Nat.reduceAdd, Nat.reduceMul, Nat.reduceLeDiff, reduceCtorEq, Nat.reduceSub, Int.reduceToNat] <;> exact rfl) | refine qw_nil ?_ | refine cw_block ?_ | refine cw_scope ?_ | refine cw_label ?_ | refine cw_skip ?_)
          refine ow_stoH (cells' := [i64 g.nts, i64 g.start, .slice p g.rules.length c, .slice pw w.length cw, F0.bv, .slice (some ⟨F0.si, 0, some 0⟩) k k, .slice (some ⟨F0.im, 0, some F0.vm⟩) k k, .map (some h1.length)]) (by simp only [push_cast, env, Nat.reduceEqDiff, reduceIte, Nat.reduceAdd, Nat.reduceMul, Nat.reduceLeDiff, reduceCtorEq, Nat.reduceSub, Int.reduceToNat] <;> exact rfl) rfl rfl (by simp only [push_cast, env, Nat.reduceEqDiff, reduceIte, Nat.reduceAdd, Nat.reduceMul, Nat.reduceLeDiff, reduceCtorEq, Nat.reduceSub, Int.reduceToNat] <;> exact rfl) (by simp only [push_cast, env, Nat.reduceEqDiff, reduceIte, Nat.reduceAdd, Nat.reduceMul, Nat.reduceLeDiff, reduceCtorEq, Nat.reduceSub, Int.reduceToNat] <;> exact rfl) (get_of_push hc) (by simp only [push_cast, env, Nat.reduceEqDiff, reduceIte, Nat.reduceAdd, Nat.reduceMul, Nat.reduceLeDiff, reduceCtorEq, Nat.reduceSub, Int.reduceToNat] <;> exact rfl) rfl rfl ?_
          have K1 := K.newE
          simp only at K1
          rw [hSl] at K1
          generalize hH1 : (h1 ++ [HObj.map []]).set F0.cp (.arr [i64 g.nts, i64 g.start, .slice p g.rules.length c, .slice pw w.length cw, F0.bv, .slice (some ⟨F0.si, 0, some 0⟩) k k, .slice (some ⟨F0.im, 0, some F0.vm⟩) k k, .map (some h1.length)] 0 true 73) = H1 at K1
          generalize h1.length = ie1 at K1
          repeat (first | refine cw_seq ?_ | refine cw_region ?_ | refine ow_nil ?_ | ((first | apply ow_cons | apply qw_cons); · simp only [push_cast, env, Nat.reduceEqDiff, reduceIte, Nat.reduceAdd, Nat.reduceMul, Nat.reduceLeDiff, reduceCtorEq, Nat.reduceSub, Int.reduceToNat] <;> exact rfl) | ((first | apply ow_spec | apply qw_spec); · simp only [push_cast, env, Nat.reduceEqDiff, reduceIte, Nat.reduceAdd, Nat.reduceMul, Nat.reduceLeDiff, reduceCtorEq, Nat.reduceSub, Int.reduceToNat] <;> exact rfl) | refine qw_nil ?_ | refine cw_block ?_ | refine cw_scope ?_ | refine cw_label ?_ | refine cw_skip ?_)
          refine cw_wh (fun x : Gh × Nat => 400000001 - x.2) (fun x => [(5, .val (.pointer (some ⟨F0.cp, 0, some 0⟩))), (10, .val (i64 j)), (11, .val (i64 x.2)), (90, .val (i64 k)), (91, .val (i64 j))]) (fun x => x.1.h)
            (fun x => CHR h hk g (.slice p g.rules.length c) (.slice pw w.length cw) { F0 with ie := ie1, ev := .map (some ie1) } x.1 ∧ At g w x.1.S x.1.E j x.2) (⟨H1, us1, S1, []⟩, 0) (by simp only [push_cast, SubL, fget, Nat.reduceEqDiff, reduceIte]) rfl ⟨K1, A⟩ ?_
          clear K1 K A hH1 hc
          rintro ⟨⟨h2, us2, S2, E2⟩, i2⟩ ⟨K, A⟩
          simp only at K A ⊢
          have hSl2 : S2.length = k := by have := A.ci.n; omega
          have hjS2 : j < S2.length := by omega
          have hsm2 := A.ci.small R hw (k := j) (by omega)
          have hc := K.c
          have hs := K.s
          unfold chCells at hc
          simp only at hc hs
          rw [hSl2] at hc
          obtain ⟨u2, cu2, hu2, gu2⟩ := K.us_at hjS2
          simp only at hu2 gu2
          repeat (first | refine cw_seq ?_ | refine cw_region ?_ | refine ow_nil ?_ | ((first | apply ow_cons | apply qw_cons); · simp only [push_cast, env, Nat.reduceEqDiff, reduceIte, Nat.reduceAdd, Nat.reduceMul, Nat.reduceLeDiff, reduceCtorEq, Nat.reduceSub, Int.reduceToNat, hc, hs, hu2, f1, Nat.mul_one] <;> exact rfl) | ((first | apply ow_spec | apply qw_spec); · simp only [push_cast, env, Nat.reduceEqDiff, reduceIte, Nat.reduceAdd, Nat.reduceMul, Nat.reduceLeDiff, reduceCtorEq, Nat.reduceSub, Int.reduceToNat, hc, hs, hu2, f1, Nat.mul_one] <;> exact rfl) | refine qw_nil ?_ | refine cw_block ?_ | refine cw_scope ?_ | refine cw_label ?_ | refine cw_skip ?_)
          by_cases hlt5 : i2 < (gs S2 j).length
          · have f6 := lt_dec hlt5
            have f7 := inc hlt5 (by omega)
            have f8 := rng hlt5
            obtain ⟨iu, vu, cu, hu3, hgu, hrdu⟩ := K.item_at hjS2 hlt5
            simp only at hu3 hgu hrdu
            generalize hy : (gs S2 j)[i2] = y at hrdu
            have hym : y ∈ gs S2 j := hy ▸ List.getElem_mem hlt5
            refine cw_condT (by simp only [push_cast, env, Nat.reduceEqDiff, reduceIte, Nat.reduceAdd, Nat.reduceMul, Nat.reduceLeDiff, reduceCtorEq, Nat.reduceSub, Int.reduceToNat, f6] <;> exact rfl) ?_
            repeat (first | refine cw_seq ?_ | refine cw_region ?_ | refine ow_nil ?_ | ((first | apply ow_cons | apply qw_cons); · simp only [push_cast, env, Nat.reduceEqDiff, reduceIte, Nat.reduceAdd, Nat.reduceMul, Nat.reduceLeDiff, reduceCtorEq, Nat.reduceSub, Int.reduceToNat, hc, hs, hu3, hgu, hrdu, f1, f8, Nat.mul_one] <;> exact rfl) | ((first | apply ow_spec | apply qw_spec); · simp only [push_cast, env, Nat.reduceEqDiff, reduceIte, Nat.reduceAdd, Nat.reduceMul, Nat.reduceLeDiff, reduceCtorEq, Nat.reduceSub, Int.reduceToNat, hc, hs, hu3, hgu, hrdu, f1, f8, Nat.mul_one] <;> exact rfl) | refine qw_nil ?_ | refine cw_block ?_ | refine cw_scope ?_ | refine cw_label ?_ | refine cw_skip ?_)
            refine ow_call (fn := Try.f53) (by simp only [push_cast, env, Nat.reduceEqDiff, reduceIte, Nat.reduceAdd, Nat.reduceMul, Nat.reduceLeDiff, reduceCtorEq, Nat.reduceSub, Int.reduceToNat] <;> exact rfl) rfl (by simp only [push_cast, env, Nat.reduceEqDiff, reduceIte, Nat.reduceAdd, Nat.reduceMul, Nat.reduceLeDiff, reduceCtorEq, Nat.reduceSub, Int.reduceToNat] <;> exact rfl) (by simp only [push_cast, env, Nat.reduceEqDiff, reduceIte, Nat.reduceAdd, Nat.reduceMul, Nat.reduceLeDiff, reduceCtorEq, Nat.reduceSub, Int.reduceToNat] <;> exact rfl) Try.func53 (by kernel_rfl) (by kernel_rfl) ?_
            rw [List.append_nil]
            refine (step_fw (x := y) K rfl (List.prefix_refl _) hu hwR (hbv ▸ hll) B R W hw A.ci (by omega) (A.ci.s j y hym) A.es).mono ?_
            rintro _ h3 ⟨us3, S3, E3, K3, P3⟩
            simp only at P3
            repeat (first | refine cw_seq ?_ | refine cw_region ?_ | refine ow_nil ?_ | ((first | apply ow_cons | apply qw_cons); · simp only [push_cast, env, Nat.reduceEqDiff, reduceIte, Nat.reduceAdd, Nat.reduceMul, Nat.reduceLeDiff, reduceCtorEq, Nat.reduceSub, Int.reduceToNat, f7] <;> exact rfl) | ((first | apply ow_spec | apply qw_spec); · simp only [push_cast, env, Nat.reduceEqDiff, reduceIte, Nat.reduceAdd, Nat.reduceMul, Nat.reduceLeDiff, reduceCtorEq, Nat.reduceSub, Int.reduceToNat, f7] <;> exact rfl) | refine qw_nil ?_ | refine cw_block ?_ | refine cw_scope ?_ | refine cw_label ?_ | refine cw_skip ?_)
            refine ⟨(⟨h3, us3, S3, E3⟩, i2 + 1), by simp only; omega, (by simp only [push_cast, SubL, fget, Nat.reduceEqDiff, reduceIte]), rfl, K3, A.step hlt5 (by rw [hy]; exact P3)⟩
          · have f6 := ge_dec hlt5
            refine cw_condF (by simp only [push_cast, env, Nat.reduceEqDiff, reduceIte, Nat.reduceAdd, Nat.reduceMul, Nat.reduceLeDiff, reduceCtorEq, Nat.reduceSub, Int.reduceToNat, f6] <;> exact rfl) ?_
            refine cw_exit ?_
            show CW _ _ _ _
            repeat (first | refine cw_seq ?_ | refine cw_region ?_ | refine ow_nil ?_ | ((first | apply ow_cons | apply qw_cons); · simp only [push_cast, env, Nat.reduceEqDiff, reduceIte, Nat.reduceAdd, Nat.reduceMul, Nat.reduceLeDiff, reduceCtorEq, Nat.reduceSub, Int.reduceToNat, f2] <;> exact rfl) | ((first | apply ow_spec | apply qw_spec); · simp only [push_cast, env, Nat.reduceEqDiff, reduceIte, Nat.reduceAdd, Nat.reduceMul, Nat.reduceLeDiff, reduceCtorEq, Nat.reduceSub, Int.reduceToNat, f2] <;> exact rfl) | refine qw_nil ?_ | refine cw_block ?_ | refine cw_scope ?_ | refine cw_label ?_ | refine cw_skip ?_)
            exact ⟨hlt4, (ie1, .map (some ie1), ⟨h2, us2, S2, E2⟩), (by simp only [push_cast, SubL, fget, Nat.reduceEqDiff, reduceIte]), rfl, K, A.next (by omega)⟩
        · have e3d := ge_dec hlt4
          obtain rfl : j = k := by omega
          repeat (first | refine cw_seq ?_ | refine cw_region ?_ | refine ow_nil ?_ | ((first | apply ow_cons | apply qw_cons); · simp only [push_cast, env, Nat.reduceEqDiff, reduceIte, Nat.reduceAdd, Nat.reduceMul, Nat.reduceLeDiff, reduceCtorEq, Nat.reduceSub, Int.reduceToNat, e3d] <;> exact rfl) | ((first | apply ow_spec | apply qw_spec); · simp only [push_cast, env, Nat.reduceEqDiff, reduceIte, Nat.reduceAdd, Nat.reduceMul, Nat.reduceLeDiff, reduceCtorEq, Nat.reduceSub, Int.reduceToNat, e3d] <;> exact rfl) | refine qw_nil ?_ | refine cw_block ?_ | refine cw_scope ?_ | refine cw_label ?_ | refine cw_skip ?_)
          refine cw_condF (by simp only [push_cast, env, Nat.reduceEqDiff, reduceIte, Nat.reduceAdd, Nat.reduceMul, Nat.reduceLeDiff, reduceCtorEq, Nat.reduceSub, Int.reduceToNat] <;> exact rfl) ?_
          refine cw_exit ?_
          show CW _ _ _ _
          repeat (first | refine cw_seq ?_ | refine cw_region ?_ | refine ow_nil ?_ | ((first | apply ow_cons | apply qw_cons); · simp only [push_cast, env, Nat.reduceEqDiff, reduceIte, Nat.reduceAdd, Nat.reduceMul, Nat.reduceLeDiff, reduceCtorEq, Nat.reduceSub, Int.reduceToNat] <;> exact rfl) | ((first | apply ow_spec | apply qw_spec); · simp only [push_cast, env, Nat.reduceEqDiff, reduceIte, Nat.reduceAdd, Nat.reduceMul, Nat.reduceLeDiff, reduceCtorEq, Nat.reduceSub, Int.reduceToNat] <;> exact rfl) | refine qw_nil ?_ | refine cw_block ?_ | refine cw_scope ?_ | refine cw_label ?_ | refine cw_skip ?_)
          refine cw_ret ?_
          refine ⟨_, (by simp only [push_cast, env, Nat.reduceEqDiff, reduceIte, Nat.reduceAdd, Nat.reduceMul, Nat.reduceLeDiff, reduceCtorEq, Nat.reduceSub, Int.reduceToNat] <;> exact rfl), hk, _, { F0 with ie := ie0, ev := ev0 }, ⟨h1, us1, S1, E1⟩, rfl, rfl, K, chart_ok A.ci A.ini (hM ▸ A.don), hu⟩
end Go.Proofs.Ytafncpgiibikcaa

/- fit, Accepts, Items. -/
namespace Go.Proofs.Ytafncpgiibikcaa
set_option linter.unusedSimpArgs false
set_option linter.unusedVariables false
set_option maxRecDepth 20000
open Go.RowKit Am Ty

def fitE (g : Gram) (w : List Nat) : Int := if badG g then 3 else if 512 < w.length then 2 else 0
theorem fitE_ok {g : Gram} {w : List Nat} : fitE g w = 0 ↔ ¬ badG g ∧ w.length ≤ 512 := by
  unfold fitE
  by_cases h : badG g
  · simp [h]
  · by_cases h2 : 512 < w.length
    · simp [h, h2]
    · simp [h, h2]; omega
theorem fit_fw {h : Heap} {g : Gram} {v wv : Value} {w : List Nat} (hr : RdGram h v g) (hw : RdB h wv w) : FW env 36 [v, wv] h fun r h' => r = i64 (fitE g w) ∧ h' = h := by
  obtain ⟨u, rfl, hu⟩ := id hr
  obtain ⟨p, c, rfl⟩ := hu.form
  obtain ⟨pw, cw, rfl⟩ := hw.form
  refine fw_enter (fn := Try.f36) Try.func36 rfl (by kernel_rfl) (by simp [Try.ntmps36]) ?_; simp only [push_cast]
  repeat (first | refine cw_seq ?_ | refine cw_region ?_ | refine ow_nil ?_ | ((first | apply ow_cons | apply qw_cons); · simp only [push_cast, env, Nat.reduceEqDiff, reduceIte, Nat.reduceAdd, Nat.reduceMul, Nat.reduceLeDiff, reduceCtorEq, Nat.reduceSub, Int.reduceToNat] <;> exact rfl) | ((first | apply ow_spec | apply qw_spec); · simp only [push_cast, env, Nat.reduceEqDiff, reduceIte, Nat.reduceAdd, Nat.reduceMul, Nat.reduceLeDiff, reduceCtorEq, Nat.reduceSub, Int.reduceToNat] <;> exact rfl) | refine qw_nil ?_ | refine cw_block ?_ | refine cw_scope ?_ | refine cw_label ?_ | refine cw_skip ?_)
  refine ow_call (fn := Try.f23) (by simp only [push_cast, env, Nat.reduceEqDiff, reduceIte, Nat.reduceAdd, Nat.reduceMul, Nat.reduceLeDiff, reduceCtorEq, Nat.reduceSub, Int.reduceToNat] <;> exact rfl) rfl (by simp only [push_cast, env, Nat.reduceEqDiff, reduceIte, Nat.reduceAdd, Nat.reduceMul, Nat.reduceLeDiff, reduceCtorEq, Nat.reduceSub, Int.reduceToNat] <;> exact rfl) (by simp only [push_cast, env, Nat.reduceEqDiff, reduceIte, Nat.reduceAdd, Nat.reduceMul, Nat.reduceLeDiff, reduceCtorEq, Nat.reduceSub, Int.reduceToNat] <;> exact rfl) Try.func23 (by kernel_rfl) (by kernel_rfl) ?_
  rw [List.append_nil]
  refine (right_fw hr).mono ?_
  rintro _ h ⟨rfl, rfl⟩
  unfold fitE
  by_cases hb : badG g
  · have e0 : rightG g = 3 := if_pos hb
    rw [e0, if_pos hb]
    repeat (first | refine cw_seq ?_ | refine cw_region ?_ | refine ow_nil ?_ | ((first | apply ow_cons | apply qw_cons); · simp only [push_cast, env, Nat.reduceEqDiff, reduceIte, Nat.reduceAdd, Nat.reduceMul, Nat.reduceLeDiff, reduceCtorEq, Nat.reduceSub, Int.reduceToNat] <;> exact rfl) | ((first | apply ow_spec | apply qw_spec); · simp only [push_cast, env, Nat.reduceEqDiff, reduceIte, Nat.reduceAdd, Nat.reduceMul, Nat.reduceLeDiff, reduceCtorEq, Nat.reduceSub, Int.reduceToNat] <;> exact rfl) | refine qw_nil ?_ | refine cw_block ?_ | refine cw_scope ?_ | refine cw_label ?_ | refine cw_skip ?_)
    refine cw_condT (by simp only [push_cast, env, Nat.reduceEqDiff, reduceIte, Nat.reduceAdd, Nat.reduceMul, Nat.reduceLeDiff, reduceCtorEq, Nat.reduceSub, Int.reduceToNat] <;> exact rfl) ?_
    repeat (first | refine cw_seq ?_ | refine cw_region ?_ | refine ow_nil ?_ | ((first | apply ow_cons | apply qw_cons); · simp only [push_cast, env, Nat.reduceEqDiff, reduceIte, Nat.reduceAdd, Nat.reduceMul, Nat.reduceLeDiff, reduceCtorEq, Nat.reduceSub, Int.reduceToNat] <;> exact rfl) | ((first | apply ow_spec | apply qw_spec); · simp only [push_cast, env, Nat.reduceEqDiff, reduceIte, Nat.reduceAdd, Nat.reduceMul, Nat.reduceLeDiff, reduceCtorEq, Nat.reduceSub, Int.reduceToNat] <;> exact rfl) | refine qw_nil ?_ | refine cw_block ?_ | refine cw_scope ?_ | refine cw_label ?_ | refine cw_skip ?_)
    refine cw_ret ?_
    exact ⟨_, (by simp only [push_cast, env, Nat.reduceEqDiff, reduceIte, Nat.reduceAdd, Nat.reduceMul, Nat.reduceLeDiff, reduceCtorEq, Nat.reduceSub, Int.reduceToNat] <;> exact rfl), rfl, rfl⟩
  have e0 : rightG g = 0 := if_neg hb
  rw [e0, if_neg hb]
  repeat (first | refine cw_seq ?_ | refine cw_region ?_ | refine ow_nil ?_ | ((first | apply ow_cons | apply qw_cons); · simp only [push_cast, env, Nat.reduceEqDiff, reduceIte, Nat.reduceAdd, Nat.reduceMul, Nat.reduceLeDiff, reduceCtorEq, Nat.reduceSub, Int.reduceToNat] <;> exact rfl) | ((first | apply ow_spec | apply qw_spec); · simp only [push_cast, env, Nat.reduceEqDiff, reduceIte, Nat.reduceAdd, Nat.reduceMul, Nat.reduceLeDiff, reduceCtorEq, Nat.reduceSub, Int.reduceToNat] <;> exact rfl) | refine qw_nil ?_ | refine cw_block ?_ | refine cw_scope ?_ | refine cw_label ?_ | refine cw_skip ?_)
  refine cw_condF (by simp only [push_cast, env, Nat.reduceEqDiff, reduceIte, Nat.reduceAdd, Nat.reduceMul, Nat.reduceLeDiff, reduceCtorEq, Nat.reduceSub, Int.reduceToNat] <;> exact rfl) ?_
  repeat (first | refine cw_seq ?_ | refine cw_region ?_ | refine ow_nil ?_ | ((first | apply ow_cons | apply qw_cons); · simp only [push_cast, env, Nat.reduceEqDiff, reduceIte, Nat.reduceAdd, Nat.reduceMul, Nat.reduceLeDiff, reduceCtorEq, Nat.reduceSub, Int.reduceToNat] <;> exact rfl) | ((first | apply ow_spec | apply qw_spec); · simp only [push_cast, env, Nat.reduceEqDiff, reduceIte, Nat.reduceAdd, Nat.reduceMul, Nat.reduceLeDiff, reduceCtorEq, Nat.reduceSub, Int.reduceToNat] <;> exact rfl) | refine qw_nil ?_ | refine cw_block ?_ | refine cw_scope ?_ | refine cw_label ?_ | refine cw_skip ?_)
  refine cw_cond (by simp only [push_cast, env, Nat.reduceEqDiff, reduceIte, Nat.reduceAdd, Nat.reduceMul, Nat.reduceLeDiff, reduceCtorEq, Nat.reduceSub, Int.reduceToNat] <;> exact rfl) (fun c1 => ?_) (fun c1 => ?_)
  · have c1' : 512 < w.length := by simp only [decide_eq_true_eq] at c1; omega
    rw [if_pos c1']
    repeat (first | refine cw_seq ?_ | refine cw_region ?_ | refine ow_nil ?_ | ((first | apply ow_cons | apply qw_cons); · simp only [push_cast, env, Nat.reduceEqDiff, reduceIte, Nat.reduceAdd, Nat.reduceMul, Nat.reduceLeDiff, reduceCtorEq, Nat.reduceSub, Int.reduceToNat] <;> exact rfl) | ((first | apply ow_spec | apply qw_spec); · simp only [push_cast, env, Nat.reduceEqDiff, reduceIte, Nat.reduceAdd, Nat.reduceMul, Nat.reduceLeDiff, reduceCtorEq, Nat.reduceSub, Int.reduceToNat] <;> exact rfl) | refine qw_nil ?_ | refine cw_block ?_ | refine cw_scope ?_ | refine cw_label ?_ | refine cw_skip ?_)
    refine cw_ret ?_
    exact ⟨_, (by simp only [push_cast, env, Nat.reduceEqDiff, reduceIte, Nat.reduceAdd, Nat.reduceMul, Nat.reduceLeDiff, reduceCtorEq, Nat.reduceSub, Int.reduceToNat] <;> exact rfl), rfl, rfl⟩
  · have c1' : ¬ 512 < w.length := by simp only [decide_eq_false_iff_not] at c1; omega
    rw [if_neg c1']
    repeat (first | refine cw_seq ?_ | refine cw_region ?_ | refine ow_nil ?_ | ((first | apply ow_cons | apply qw_cons); · simp only [push_cast, env, Nat.reduceEqDiff, reduceIte, Nat.reduceAdd, Nat.reduceMul, Nat.reduceLeDiff, reduceCtorEq, Nat.reduceSub, Int.reduceToNat] <;> exact rfl) | ((first | apply ow_spec | apply qw_spec); · simp only [push_cast, env, Nat.reduceEqDiff, reduceIte, Nat.reduceAdd, Nat.reduceMul, Nat.reduceLeDiff, reduceCtorEq, Nat.reduceSub, Int.reduceToNat] <;> exact rfl) | refine qw_nil ?_ | refine cw_block ?_ | refine cw_scope ?_ | refine cw_label ?_ | refine cw_skip ?_)
    refine cw_ret ?_
    exact ⟨_, (by simp only [push_cast, env, Nat.reduceEqDiff, reduceIte, Nat.reduceAdd, Nat.reduceMul, Nat.reduceLeDiff, reduceCtorEq, Nat.reduceSub, Int.reduceToNat] <;> exact rfl), rfl, rfl⟩
/-- an item of a nonterminal that spans from the beginning on -/
def accI (g : Gram) (A : Int) (x : Item) : Bool := match g.rules[x.rule]? with
  | some r => decide (r.lhs = A) && (decide (x.frm = 0) && decide (x.dot = r.rhs.length))
  | none => false
theorem acc_iff {g : Gram} {w : List Nat} {S : List (List Item)} (C : ChartOK g w S) {j : Nat} (hj : j ≤ w.length) : (∃ x ∈ gs S j, accI g g.start x = true) ↔ NtTx g.rules g.start (sub w 0 j) := by
  rw [← it_accept hj]
  constructor
  · rintro ⟨x, hx, ha⟩
    unfold accI at ha
    split at ha
    · rename_i r hr
      simp only [Bool.and_eq_true, decide_eq_true_eq] at ha
      exact ⟨x, r, (C.m j x).1 hx, hr, ha.1, ha.2.1, ha.2.2⟩
    · cases ha
  · rintro ⟨x, r, h1, h2, h3, h4, h5⟩
    refine ⟨x, (C.m j x).2 h1, ?_⟩
    unfold accI
    rw [h2]
    simp only [Bool.and_eq_true, decide_eq_true_eq]
    exact ⟨h3, h4, h5⟩
theorem ChartOK.small {g : Gram} {w : List Nat} {S : List (List Item)} (C : ChartOK g w S) (R : RightS g) (hw : w.length ≤ 512) {k : Nat} (hk : k ≤ w.length) : (gs S k).length ≤ 400000000 :=
  CI.small ⟨C.n, fun k x hx => (C.m k x).1 hx, C.nd⟩ R hw hk
def AccR (g : Gram) (w : List Nat) (r : Value) : Prop := ∃ b, r = .tuple #[.bool b, i64 (fitE g w)] ∧ (fitE g w ≠ 0 → b = false) ∧ (fitE g w = 0 → (b = true ↔ NtTx g.rules g.start w))
set_option maxHeartbeats 4000000 in
theorem accepts_fw {h : Heap} {g : Gram} {v wv : Value} {w : List Nat} (hr : RdGram h v g) (hwR : RdB h wv w) (W : WfG g) : FW env 15 [v, wv] h fun r h' => AccR g w r ∧ h <+: h' := by
  obtain ⟨u, rfl, hu⟩ := id hr
  obtain ⟨p, c, rfl⟩ := hu.form
  obtain ⟨pw, cw, rfl⟩ := hwR.form
  refine fw_enter (fn := Try.f15) Try.func15 rfl (by kernel_rfl) (by simp [Try.ntmps15]) ?_; simp only [push_cast]
  repeat (first | refine cw_seq ?_ | refine cw_region ?_ | refine ow_nil ?_ | ((first | apply ow_cons | apply qw_cons); · simp only [push_cast, env, Nat.reduceEqDiff, reduceIte, Nat.reduceAdd, Nat.reduceMul, Nat.reduceLeDiff, reduceCtorEq, Nat.reduceSub, Int.reduceToNat] <;> exact rfl) | ((first | apply ow_spec | apply qw_spec); · simp only [push_cast, env, Nat.reduceEqDiff, reduceIte, Nat.reduceAdd, Nat.reduceMul, Nat.reduceLeDiff, reduceCtorEq, Nat.reduceSub, Int.reduceToNat] <;> exact rfl) | refine qw_nil ?_ | refine cw_block ?_ | refine cw_scope ?_ | refine cw_label ?_ | refine cw_skip ?_)
  refine ow_call (fn := Try.f36) (by simp only [push_cast, env, Nat.reduceEqDiff, reduceIte, Nat.reduceAdd, Nat.reduceMul, Nat.reduceLeDiff, reduceCtorEq, Nat.reduceSub, Int.reduceToNat] <;> exact rfl) rfl (by simp only [push_cast, env, Nat.reduceEqDiff, reduceIte, Nat.reduceAdd, Nat.reduceMul, Nat.reduceLeDiff, reduceCtorEq, Nat.reduceSub, Int.reduceToNat] <;> exact rfl) (by simp only [push_cast, env, Nat.reduceEqDiff, reduceIte, Nat.reduceAdd, Nat.reduceMul, Nat.reduceLeDiff, reduceCtorEq, Nat.reduceSub, Int.reduceToNat] <;> exact rfl) Try.func36 (by kernel_rfl) (by kernel_rfl) ?_
  rw [List.append_nil]
  refine (fit_fw hr hwR).mono ?_
  rintro _ h ⟨rfl, rfl⟩
  by_cases hf : ¬ fitE g w = 0
  · have df : decide (fitE g w = 0) = false := decide_eq_false hf
    repeat (first | refine cw_seq ?_ | refine cw_region ?_ | refine ow_nil ?_ | ((first | apply ow_cons | apply qw_cons); · simp only [push_cast, env, Nat.reduceEqDiff, reduceIte, Nat.reduceAdd, Nat.reduceMul, Nat.reduceLeDiff, reduceCtorEq, Nat.reduceSub, Int.reduceToNat, df] <;> exact rfl) | ((first | apply ow_spec | apply qw_spec); · simp only [push_cast, env, Nat.reduceEqDiff, reduceIte, Nat.reduceAdd, Nat.reduceMul, Nat.reduceLeDiff, reduceCtorEq, Nat.reduceSub, Int.reduceToNat, df] <;> exact rfl) | refine qw_nil ?_ | refine cw_block ?_ | refine cw_scope ?_ | refine cw_label ?_ | refine cw_skip ?_)
    refine cw_condT (by simp only [push_cast, env, Nat.reduceEqDiff, reduceIte, Nat.reduceAdd, Nat.reduceMul, Nat.reduceLeDiff, reduceCtorEq, Nat.reduceSub, Int.reduceToNat, df] <;> exact rfl) ?_
    repeat (first | refine cw_seq ?_ | refine cw_region ?_ | refine ow_nil ?_ | ((first | apply ow_cons | apply qw_cons); · simp only [push_cast, env, Nat.reduceEqDiff, reduceIte, Nat.reduceAdd, Nat.reduceMul, Nat.reduceLeDiff, reduceCtorEq, Nat.reduceSub, Int.reduceToNat] <;> exact rfl) | ((first | apply ow_spec | apply qw_spec); · simp only [push_cast, env, Nat.reduceEqDiff, reduceIte, Nat.reduceAdd, Nat.reduceMul, Nat.reduceLeDiff, reduceCtorEq, Nat.reduceSub, Int.reduceToNat] <;> exact rfl) | refine qw_nil ?_ | refine cw_block ?_ | refine cw_scope ?_ | refine cw_label ?_ | refine cw_skip ?_)
    refine cw_ret ?_
    exact ⟨_, (by simp only [push_cast, env, Nat.reduceEqDiff, reduceIte, Nat.reduceAdd, Nat.reduceMul, Nat.reduceLeDiff, reduceCtorEq, Nat.reduceSub, Int.reduceToNat] <;> exact rfl), ⟨false, rfl, fun _ => rfl, fun h => absurd h hf⟩, List.prefix_refl _⟩
  replace hf : fitE g w = 0 := Classical.not_not.1 hf
  obtain ⟨hb, hw⟩ := fitE_ok.1 hf
  have R := rightS hb
  rw [hf]
  repeat (first | refine cw_seq ?_ | refine cw_region ?_ | refine ow_nil ?_ | ((first | apply ow_cons | apply qw_cons); · simp only [push_cast, env, Nat.reduceEqDiff, reduceIte, Nat.reduceAdd, Nat.reduceMul, Nat.reduceLeDiff, reduceCtorEq, Nat.reduceSub, Int.reduceToNat] <;> exact rfl) | ((first | apply ow_spec | apply qw_spec); · simp only [push_cast, env, Nat.reduceEqDiff, reduceIte, Nat.reduceAdd, Nat.reduceMul, Nat.reduceLeDiff, reduceCtorEq, Nat.reduceSub, Int.reduceToNat] <;> exact rfl) | refine qw_nil ?_ | refine cw_block ?_ | refine cw_scope ?_ | refine cw_label ?_ | refine cw_skip ?_)
  refine cw_condF (by simp only [push_cast, env, Nat.reduceEqDiff, reduceIte, Nat.reduceAdd, Nat.reduceMul, Nat.reduceLeDiff, reduceCtorEq, Nat.reduceSub, Int.reduceToNat] <;> exact rfl) ?_
  repeat (first | refine cw_seq ?_ | refine cw_region ?_ | refine ow_nil ?_ | ((first | apply ow_cons | apply qw_cons); · simp only [push_cast, env, Nat.reduceEqDiff, reduceIte, Nat.reduceAdd, Nat.reduceMul, Nat.reduceLeDiff, reduceCtorEq, Nat.reduceSub, Int.reduceToNat] <;> exact rfl) | ((first | apply ow_spec | apply qw_spec); · simp only [push_cast, env, Nat.reduceEqDiff, reduceIte, Nat.reduceAdd, Nat.reduceMul, Nat.reduceLeDiff, reduceCtorEq, Nat.reduceSub, Int.reduceToNat] <;> exact rfl) | refine qw_nil ?_ | refine cw_block ?_ | refine cw_scope ?_ | refine cw_label ?_ | refine cw_skip ?_)
  refine ow_call (fn := Try.f37) (by simp only [push_cast, env, Nat.reduceEqDiff, reduceIte, Nat.reduceAdd, Nat.reduceMul, Nat.reduceLeDiff, reduceCtorEq, Nat.reduceSub, Int.reduceToNat] <;> exact rfl) rfl (by simp only [push_cast, env, Nat.reduceEqDiff, reduceIte, Nat.reduceAdd, Nat.reduceMul, Nat.reduceLeDiff, reduceCtorEq, Nat.reduceSub, Int.reduceToNat] <;> exact rfl) (by simp only [push_cast, env, Nat.reduceEqDiff, reduceIte, Nat.reduceAdd, Nat.reduceMul, Nat.reduceLeDiff, reduceCtorEq, Nat.reduceSub, Int.reduceToNat] <;> exact rfl) Try.func37 (by kernel_rfl) (by kernel_rfl) ?_
  rw [List.append_nil]
  refine (open_fw hr hwR R W hw).mono ?_
  rintro _ h' ⟨hB, rv, F, G, rfl, rfl, K, C, hrv⟩
  have hSl := C.n
  have hnS : w.length < G.S.length := by omega
  have hc := K.c
  have hs := K.s
  unfold chCells at hc
  obtain ⟨u2, cu2, hu2, gu2⟩ := K.us_at hnS
  have f1 := rng hnS
  have hsm := C.small R hw (Nat.le_refl _)
  have hacc := acc_iff C (Nat.le_refl _)
  rw [sub_all] at hacc
  repeat (first | refine cw_seq ?_ | refine cw_region ?_ | refine ow_nil ?_ | ((first | apply ow_cons | apply qw_cons); · simp only [push_cast, env, Nat.reduceEqDiff, reduceIte, Nat.reduceAdd, Nat.reduceMul, Nat.reduceLeDiff, reduceCtorEq, Nat.reduceSub, Int.reduceToNat, hc, hs, hu2, f1, Nat.mul_one] <;> exact rfl) | ((first | apply ow_spec | apply qw_spec); · simp only [push_cast, env, Nat.reduceEqDiff, reduceIte, Nat.reduceAdd, Nat.reduceMul, Nat.reduceLeDiff, reduceCtorEq, Nat.reduceSub, Int.reduceToNat, hc, hs, hu2, f1, Nat.mul_one] <;> exact rfl) | refine qw_nil ?_ | refine cw_block ?_ | refine cw_scope ?_ | refine cw_label ?_ | refine cw_skip ?_)
  refine cw_for (gs G.S w.length).length (fun i => [(2, .box [i64 g.nts, i64 g.start, .slice p g.rules.length c]), (27, .val (.slice u2 (gs G.S w.length).length cu2)), (28, .val (i64 (gs G.S w.length).length)), (29, .val (i64 i))]) (fun _ => G.h)
    (fun i => ∀ x ∈ (gs G.S w.length).take i, accI g g.start x = false) (by simp only [push_cast, SubL, fget, Nat.reduceEqDiff, reduceIte]) rfl (fun x hx => by simp at hx) ?_
  intro i hi hI
  by_cases hlt : i < (gs G.S w.length).length
  · have e2 := inc hlt (by omega)
    have e3 := lt_dec hlt
    have f2 := rng hlt
    obtain ⟨iu, vu, cu, hu3, hgu, hrdu⟩ := K.item_at hnS hlt
    rw [hu2] at hu3
    cases hu3
    generalize hy : (gs G.S w.length)[i] = y at hrdu
    have hym : y ∈ gs G.S w.length := hy ▸ List.getElem_mem hlt
    obtain ⟨ry, hry, hyd, _, hysq⟩ := ((C.m _ _).1 hym).sound
    obtain ⟨hyl, hye⟩ := List.getElem?_eq_some_iff.1 hry
    obtain ⟨id3, ver3, own3, c3, cells3, p3, n3, c4, hv3, hid3, hn3, hrd3, hu3⟩ := hu.at hyl
    cases hv3
    subst hn3
    rw [hye] at hrd3
    have hid3' := getElem?_of_prefix K.p hid3
    have g2 := rng hyl
    have ha : accI g g.start y = (decide (ry.lhs = g.start) && (decide (y.frm = 0) && decide (y.dot = ry.rhs.length))) := by unfold accI; rw [hry]
    repeat (first | refine cw_seq ?_ | refine cw_region ?_ | refine ow_nil ?_ | ((first | apply ow_cons | apply qw_cons); · simp only [push_cast, env, Nat.reduceEqDiff, reduceIte, Nat.reduceAdd, Nat.reduceMul, Nat.reduceLeDiff, reduceCtorEq, Nat.reduceSub, Int.reduceToNat, e3] <;> exact rfl) | ((first | apply ow_spec | apply qw_spec); · simp only [push_cast, env, Nat.reduceEqDiff, reduceIte, Nat.reduceAdd, Nat.reduceMul, Nat.reduceLeDiff, reduceCtorEq, Nat.reduceSub, Int.reduceToNat, e3] <;> exact rfl) | refine qw_nil ?_ | refine cw_block ?_ | refine cw_scope ?_ | refine cw_label ?_ | refine cw_skip ?_)
    refine cw_condT (by simp only [push_cast, env, Nat.reduceEqDiff, reduceIte, Nat.reduceAdd, Nat.reduceMul, Nat.reduceLeDiff, reduceCtorEq, Nat.reduceSub, Int.reduceToNat] <;> exact rfl) ?_
    repeat (first | refine cw_seq ?_ | refine cw_region ?_ | refine ow_nil ?_ | ((first | apply ow_cons | apply qw_cons); · simp only [push_cast, env, Nat.reduceEqDiff, reduceIte, Nat.reduceAdd, Nat.reduceMul, Nat.reduceLeDiff, reduceCtorEq, Nat.reduceSub, Int.reduceToNat, hgu, hrdu, f2, hid3', hrd3, g2] <;> exact rfl) | ((first | apply ow_spec | apply qw_spec); · simp only [push_cast, env, Nat.reduceEqDiff, reduceIte, Nat.reduceAdd, Nat.reduceMul, Nat.reduceLeDiff, reduceCtorEq, Nat.reduceSub, Int.reduceToNat, hgu, hrdu, f2, hid3', hrd3, g2] <;> exact rfl) | refine qw_nil ?_ | refine cw_block ?_ | refine cw_scope ?_ | refine cw_label ?_ | refine cw_skip ?_)
    have hbe : (decide (ry.lhs = g.start) && decide ((y.frm : Int) = 0) && decide ((y.dot : Int) = (ry.rhs.length : Int))) = accI g g.start y := by
      rw [ha, Bool.and_assoc, show decide ((y.frm : Int) = 0) = decide (y.frm = 0) by rw [decide_eq_decide]; omega, show decide ((y.dot : Int) = (ry.rhs.length : Int)) = decide (y.dot = ry.rhs.length) by rw [decide_eq_decide]; omega]
    refine cw_cond (by simp only [push_cast, env, Nat.reduceEqDiff, reduceIte, Nat.reduceAdd, Nat.reduceMul, Nat.reduceLeDiff, reduceCtorEq, Nat.reduceSub, Int.reduceToNat] <;> exact rfl) (fun c1 => ?_) (fun c1 => ?_)
    · rw [hbe] at c1
      repeat (first | refine cw_seq ?_ | refine cw_region ?_ | refine ow_nil ?_ | ((first | apply ow_cons | apply qw_cons); · simp only [push_cast, env, Nat.reduceEqDiff, reduceIte, Nat.reduceAdd, Nat.reduceMul, Nat.reduceLeDiff, reduceCtorEq, Nat.reduceSub, Int.reduceToNat] <;> exact rfl) | ((first | apply ow_spec | apply qw_spec); · simp only [push_cast, env, Nat.reduceEqDiff, reduceIte, Nat.reduceAdd, Nat.reduceMul, Nat.reduceLeDiff, reduceCtorEq, Nat.reduceSub, Int.reduceToNat] <;> exact rfl) | refine qw_nil ?_ | refine cw_block ?_ | refine cw_scope ?_ | refine cw_label ?_ | refine cw_skip ?_)
      refine cw_ret ?_
      exact ⟨_, (by simp only [push_cast, env, Nat.reduceEqDiff, reduceIte, Nat.reduceAdd, Nat.reduceMul, Nat.reduceLeDiff, reduceCtorEq, Nat.reduceSub, Int.reduceToNat] <;> exact rfl), ⟨true, by rw [hf]; rfl, fun h => absurd hf h, fun _ => ⟨fun _ => hacc.1 ⟨y, hym, c1⟩, fun _ => rfl⟩⟩, K.p⟩
    · rw [hbe] at c1
      repeat (first | refine cw_seq ?_ | refine cw_region ?_ | refine ow_nil ?_ | ((first | apply ow_cons | apply qw_cons); · simp only [push_cast, env, Nat.reduceEqDiff, reduceIte, Nat.reduceAdd, Nat.reduceMul, Nat.reduceLeDiff, reduceCtorEq, Nat.reduceSub, Int.reduceToNat, e2] <;> exact rfl) | ((first | apply ow_spec | apply qw_spec); · simp only [push_cast, env, Nat.reduceEqDiff, reduceIte, Nat.reduceAdd, Nat.reduceMul, Nat.reduceLeDiff, reduceCtorEq, Nat.reduceSub, Int.reduceToNat, e2] <;> exact rfl) | refine qw_nil ?_ | refine cw_block ?_ | refine cw_scope ?_ | refine cw_label ?_ | refine cw_skip ?_)
      refine ⟨hlt, (by simp only [push_cast, SubL, fget, Nat.reduceEqDiff, reduceIte]), rfl, fun x hx => ?_⟩
      rw [List.take_succ_eq_append_getElem hlt, List.mem_append, List.mem_singleton] at hx
      rcases hx with hx | rfl
      · exact hI x hx
      · rw [hy]; exact c1
  · have e3 := ge_dec hlt
    obtain rfl : i = (gs G.S w.length).length := by omega
    repeat (first | refine cw_seq ?_ | refine cw_region ?_ | refine ow_nil ?_ | ((first | apply ow_cons | apply qw_cons); · simp only [push_cast, env, Nat.reduceEqDiff, reduceIte, Nat.reduceAdd, Nat.reduceMul, Nat.reduceLeDiff, reduceCtorEq, Nat.reduceSub, Int.reduceToNat, e3] <;> exact rfl) | ((first | apply ow_spec | apply qw_spec); · simp only [push_cast, env, Nat.reduceEqDiff, reduceIte, Nat.reduceAdd, Nat.reduceMul, Nat.reduceLeDiff, reduceCtorEq, Nat.reduceSub, Int.reduceToNat, e3] <;> exact rfl) | refine qw_nil ?_ | refine cw_block ?_ | refine cw_scope ?_ | refine cw_label ?_ | refine cw_skip ?_)
    refine cw_condF (by simp only [push_cast, env, Nat.reduceEqDiff, reduceIte, Nat.reduceAdd, Nat.reduceMul, Nat.reduceLeDiff, reduceCtorEq, Nat.reduceSub, Int.reduceToNat] <;> exact rfl) ?_
    refine cw_exit ?_
    show CW _ _ _ _
    rw [List.take_length] at hI
    repeat (first | refine cw_seq ?_ | refine cw_region ?_ | refine ow_nil ?_ | ((first | apply ow_cons | apply qw_cons); · simp only [push_cast, env, Nat.reduceEqDiff, reduceIte, Nat.reduceAdd, Nat.reduceMul, Nat.reduceLeDiff, reduceCtorEq, Nat.reduceSub, Int.reduceToNat] <;> exact rfl) | ((first | apply ow_spec | apply qw_spec); · simp only [push_cast, env, Nat.reduceEqDiff, reduceIte, Nat.reduceAdd, Nat.reduceMul, Nat.reduceLeDiff, reduceCtorEq, Nat.reduceSub, Int.reduceToNat] <;> exact rfl) | refine qw_nil ?_ | refine cw_block ?_ | refine cw_scope ?_ | refine cw_label ?_ | refine cw_skip ?_)
    refine cw_ret ?_
    refine ⟨_, (by simp only [push_cast, env, Nat.reduceEqDiff, reduceIte, Nat.reduceAdd, Nat.reduceMul, Nat.reduceLeDiff, reduceCtorEq, Nat.reduceSub, Int.reduceToNat] <;> exact rfl), ⟨false, by rw [hf]; rfl, fun _ => rfl, fun _ => ⟨fun h => (by cases h), fun h => ?_⟩⟩, K.p⟩
    obtain ⟨x, hx, ha⟩ := hacc.2 h
    rw [hI x hx] at ha
    cases ha
end Go.Proofs.Ytafncpgiibikcaa

/- trimmed: a grammar with its productive rules alone. -/
namespace Go.Proofs.Ytafncpgiibikcaa
set_option linter.unusedSimpArgs false
set_option linter.unusedVariables false
set_option maxRecDepth 20000
open Go.RowKit Am Ty

def trG (g : Gram) (m : List Bool) : Gram := ⟨g.nts, g.start, g.rules.filter (goodR m)⟩
def pickR (g : Gram) (i : Int) : Rule := (g.rules[i.toNat]?).getD ⟨0, []⟩
theorem trim_pick {g : Gram} {m : List Bool} : ∀ (k : Nat), k ≤ g.rules.length → (trimK g m k).map (pickR g) = (g.rules.take k).filter (goodR m)
  | 0, _ => by simp [trimK]
  | k + 1, h => by
    have hk : k < g.rules.length := by omega
    have ih := trim_pick (g := g) (m := m) k (by omega)
    rw [List.take_succ_eq_append_getElem hk, List.filter_append, ← ih]
    cases hb : goodR m g.rules[k] with
    | true =>
      rw [trimK_yes hk hb, List.map_append, List.filter_cons, hb]
      simp [pickR, hk]
    | false =>
      rw [trimK_no hk hb, List.filter_cons, hb]
      simp
theorem trimK_mem {g : Gram} {m : List Bool} {k : Nat} {i : Int} (h : i ∈ trimK g m k) : ∃ n : Nat, i = n ∧ n < k := by
  unfold trimK at h
  rw [List.mem_map] at h
  obtain ⟨n, hn, rfl⟩ := h
  exact ⟨n, rfl, List.mem_range.1 (List.mem_filter.1 hn).1⟩
theorem rd_at {h : Heap} {v : Value} {n b : Nat} {cells : List Value} {et : TypeId} (hs : SlR h v n cells et b) {j : Nat} (hj : isAtS v j = true) : j < h.length := by
  rcases hs.2 with ⟨h1 | h1, _, _⟩ | ⟨id, ver, own, c, rfl, h2⟩
  · subst h1; simp [isAtS] at hj
  · subst h1; simp [isAtS] at hj
  · simp only [isAtS, beq_iff_eq] at hj
    subst hj
    exact lt_of_get h2
theorem rightS_tr {g : Gram} {m : List Bool} (R : RightS g) : RightS (trG g m) :=
  ⟨R.n1, R.n2, R.s1, R.s2, Nat.le_trans (List.length_filter_le _ _) R.rl, fun r hr => R.r r (List.mem_filter.1 hr).1⟩
theorem wfG_tr {g : Gram} {m : List Bool} (W : WfG g) : WfG (trG g m) := fun r hr => W r (List.mem_filter.1 hr).1
set_option maxHeartbeats 4000000 in
theorem trimmed_fw {h : Heap} {g : Gram} {v : Value} (hr : RdGram h v g) (hb : ¬ badG g) : FW env 40 [v] h fun r h' => ∃ m, Marks g.nts (goodD g) m ∧ RdGram h' r (trG g m) ∧ h <+: h' := by
  obtain ⟨u, rfl, hu⟩ := id hr
  obtain ⟨p, c, rfl⟩ := hu.form
  have R := rightS hb
  have hrl := R.rl
  refine fw_enter (fn := Try.f40) Try.func40 rfl (by kernel_rfl) (by simp [Try.ntmps40]) ?_; simp only [push_cast]
  repeat (first | refine cw_seq ?_ | refine cw_region ?_ | refine ow_nil ?_ | ((first | apply ow_cons | apply qw_cons); · simp only [push_cast, env, Nat.reduceEqDiff, reduceIte, Nat.reduceAdd, Nat.reduceMul, Nat.reduceLeDiff, reduceCtorEq, Nat.reduceSub, Int.reduceToNat] <;> exact rfl) | ((first | apply ow_spec | apply qw_spec); · simp only [push_cast, env, Nat.reduceEqDiff, reduceIte, Nat.reduceAdd, Nat.reduceMul, Nat.reduceLeDiff, reduceCtorEq, Nat.reduceSub, Int.reduceToNat] <;> exact rfl) | refine qw_nil ?_ | refine cw_block ?_ | refine cw_scope ?_ | refine cw_label ?_ | refine cw_skip ?_)
  refine ow_call (fn := Try.f55) (by simp only [push_cast, env, Nat.reduceEqDiff, reduceIte, Nat.reduceAdd, Nat.reduceMul, Nat.reduceLeDiff, reduceCtorEq, Nat.reduceSub, Int.reduceToNat] <;> exact rfl) rfl (by simp only [push_cast, env, Nat.reduceEqDiff, reduceIte, Nat.reduceAdd, Nat.reduceMul, Nat.reduceLeDiff, reduceCtorEq, Nat.reduceSub, Int.reduceToNat] <;> exact rfl) (by simp only [push_cast, env, Nat.reduceEqDiff, reduceIte, Nat.reduceAdd, Nat.reduceMul, Nat.reduceLeDiff, reduceCtorEq, Nat.reduceSub, Int.reduceToNat] <;> exact rfl) Try.func55 (by kernel_rfl) (by kernel_rfl) ?_
  rw [List.append_nil]
  refine (trim_fw hr).mono ?_
  rintro _ h1 ⟨⟨x, rfl, hx⟩, hp1⟩
  rcases hx with ⟨hb', _⟩ | ⟨_, m, hm, hG⟩
  · exact (hb hb').elim
  have hKl := trimK_len (g := g) (m := m) (k := g.rules.length)
  have hpk := trim_pick (g := g) (m := m) g.rules.length (Nat.le_refl _)
  rw [List.take_length] at hpk
  have hmem := fun i => trimK_mem (g := g) (m := m) (k := g.rules.length) (i := i)
  generalize trimK g m g.rules.length = L at hG hKl hpk hmem
  obtain ⟨pl, cl, rfl⟩ := hG.form
  have hLr : RdInts h1 (.slice pl L.length cl) L := hG.sl (by omega)
  repeat (first | refine cw_seq ?_ | refine cw_region ?_ | refine ow_nil ?_ | ((first | apply ow_cons | apply qw_cons); · simp only [push_cast, env, Nat.reduceEqDiff, reduceIte, Nat.reduceAdd, Nat.reduceMul, Nat.reduceLeDiff, reduceCtorEq, Nat.reduceSub, Int.reduceToNat] <;> exact rfl) | ((first | apply ow_spec | apply qw_spec); · simp only [push_cast, env, Nat.reduceEqDiff, reduceIte, Nat.reduceAdd, Nat.reduceMul, Nat.reduceLeDiff, reduceCtorEq, Nat.reduceSub, Int.reduceToNat] <;> exact rfl) | refine qw_nil ?_ | refine cw_block ?_ | refine cw_scope ?_ | refine cw_label ?_ | refine cw_skip ?_)
  refine cw_forG L.length (fun k (x : Heap × Option Addr × Nat × List Value) => [(1, .box [i64 g.nts, i64 g.start, .slice p g.rules.length c]), (2, .box [i64 0, i64 0, nilS]), (5, .box [i64 g.nts, i64 g.start, .slice x.2.1 k x.2.2.1]), (18, .val (.slice pl L.length cl)), (19, .val (i64 L.length)), (20, .val (i64 k))]) (fun _ x => x.1)
    (fun k x => BR h1 x.1 (.slice x.2.1 k x.2.2.1) ((L.take k).map (pickR g)) x.2.2.2 ∧ ∀ y ∈ x.2.2.2, ∀ j, isAtS y j = true → j < h.length) (h1, none, 0, []) (by simp only [push_cast, SubL, fget, Nat.reduceEqDiff, reduceIte]) rfl ⟨BR.nil (List.prefix_refl _), fun y hy => by simp at hy⟩ ?_
  rintro k ⟨hk, q, cq, us⟩ hkn ⟨B, hU⟩
  simp only at B hU ⊢
  by_cases hlt : k < L.length
  · obtain ⟨idl, verl, ownl, cl2, cellsl, hvl, hidl, hgl⟩ := RdInts.at hLr hlt
    cases hvl
    have hidl' := getElem?_of_prefix B.p hidl
    have e1 := rng hlt
    have e2 := inc hlt (by omega)
    have e3 := lt_dec hlt
    obtain ⟨n, hn, hnl⟩ := hmem L[k] (List.getElem_mem hlt)
    rw [hn] at hgl
    obtain ⟨id3, ver3, own3, c3, cells3, p3, n3, c4, hv3, hid3, hn3, hrd3, hu3⟩ := hu.at hnl
    cases hv3
    subst hn3
    have hid3' := getElem?_of_prefix (hp1.trans B.p) hid3
    have g2 := rng hnl
    have hpr : pickR g L[k] = g.rules[n] := by unfold pickR; rw [hn]; simp [hnl]
    have hlk : ((L.take k).map (pickR g)).length = k := by rw [List.length_map, List.length_take]; omega
    have hpl : h.length ≤ hk.length := (hp1.trans B.p).length_le
    obtain ⟨p5, c5, h5, hone, B5, hk5, hx5⟩ := B.push (r := g.rules[n]) (v := .slice p3 g.rules[n].rhs.length c4) (hu3.mono (hp1.trans B.p)) (fun j hj hj2 => by
        cases hq : isAtS (.slice p3 g.rules[n].rhs.length c4) j with
        | false => rfl
        | true =>
          have h6 := rd_at hu3 hq
          have h7 := (B.g.lt hj2).1
          have := hp1.length_le
          omega) (by
        cases hq : isAtS (.slice p3 g.rules[n].rhs.length c4) hk.length with
        | false => rfl
        | true => have := rd_at hu3 hq; omega) (fun x hx => by
        cases hq : isAtS x hk.length with
        | false => rfl
        | true => have := hU x hx _ hq; omega) (by rw [hlk]; omega)
    rw [hlk] at hone B5
    repeat (first | refine cw_seq ?_ | refine cw_region ?_ | refine ow_nil ?_ | ((first | apply ow_cons | apply qw_cons); · simp only [push_cast, env, Nat.reduceEqDiff, reduceIte, Nat.reduceAdd, Nat.reduceMul, Nat.reduceLeDiff, reduceCtorEq, Nat.reduceSub, Int.reduceToNat, e3] <;> exact rfl) | ((first | apply ow_spec | apply qw_spec); · simp only [push_cast, env, Nat.reduceEqDiff, reduceIte, Nat.reduceAdd, Nat.reduceMul, Nat.reduceLeDiff, reduceCtorEq, Nat.reduceSub, Int.reduceToNat, e3] <;> exact rfl) | refine qw_nil ?_ | refine cw_block ?_ | refine cw_scope ?_ | refine cw_label ?_ | refine cw_skip ?_)
    refine cw_condT (by simp only [push_cast, env, Nat.reduceEqDiff, reduceIte, Nat.reduceAdd, Nat.reduceMul, Nat.reduceLeDiff, reduceCtorEq, Nat.reduceSub, Int.reduceToNat] <;> exact rfl) ?_
    repeat (first | refine cw_seq ?_ | refine cw_region ?_ | refine ow_nil ?_ | ((first | apply ow_cons | apply qw_cons); · simp only [push_cast, env, Nat.reduceEqDiff, reduceIte, Nat.reduceAdd, Nat.reduceMul, Nat.reduceLeDiff, reduceCtorEq, Nat.reduceSub, Int.reduceToNat, hidl', e1, hgl, Nat.mul_one] <;> exact rfl) | ((first | apply ow_spec | apply qw_spec); · simp only [push_cast, env, Nat.reduceEqDiff, reduceIte, Nat.reduceAdd, Nat.reduceMul, Nat.reduceLeDiff, reduceCtorEq, Nat.reduceSub, Int.reduceToNat, hidl', e1, hgl, Nat.mul_one] <;> exact rfl) | refine qw_nil ?_ | refine cw_block ?_ | refine cw_scope ?_ | refine cw_label ?_ | refine cw_skip ?_)
    refine cw_weakL [(1, .box [i64 g.nts, i64 g.start, .slice (some ⟨id3, 0, some ver3⟩) g.rules.length c]), (2, .box [i64 0, i64 0, nilS]), (5, .box [i64 g.nts, i64 g.start, .slice q k cq]), (7, .val (i64 n)), (18, .val (.slice (some ⟨idl, 0, some verl⟩) L.length cl)), (19, .val (i64 L.length)), (20, .val (i64 k))] (by simp only [push_cast, SubL, fget, Nat.reduceEqDiff, reduceIte]) ?_
    show CW _ _ ⟨_, [], hk⟩ _
    apply cw_ordT (n := 8) (L := [[], [0], [], [2], [], [2, 3, 4], [2, 3, 4, 5], [2, 3, 4, 5, 6], [0, 1, 2, 3, 4, 5, 6, 7], [0, 1, 2, 3, 4, 5, 6, 7, 8], [0, 1, 2, 3, 4, 5, 6, 7, 8, 9]]) (act := []) (hs := []) (resL := [_, _, _, _, _, _, _, _]) (frP := [(1, .box [i64 g.nts, i64 g.start, .slice (some ⟨id3, 0, some ver3⟩) g.rules.length c]), (2, .box [i64 0, i64 0, nilS]), (5, .box [i64 g.nts, i64 g.start, .slice q k cq]), (18, .val (.slice (some ⟨idl, 0, some verl⟩) L.length cl)), (19, .val (i64 L.length)), (20, .val (i64 k)), (25, .val (.slice q k cq)), (31, .bsl [i64 g.rules[n].lhs, .slice p3 g.rules[n].rhs.length c4] 1)])
    case hm => exact mixed
    case hc => kernel_rfl
    case hn => kernel_rfl
    case ha => rfl
    case hb => rfl
    case hS => repeat (first | exact StepsA.nil _ | (apply StepsA.cons; (· rfl); (· (first | refine ⟨?_, trivial⟩ | refine ⟨?_, ?_, trivial⟩ | refine ⟨?_, ?_, ?_, trivial⟩ | refine ⟨?_, ?_, ?_, ?_, trivial⟩) <;> (first | (apply one_val; (· rfl); (· simp only [push_cast, env, Nat.reduceEqDiff, reduceIte, Nat.reduceAdd, Nat.reduceMul, Nat.reduceLeDiff, reduceCtorEq, Nat.reduceSub, Int.reduceToNat, hid3', hrd3, g2] <;> exact rfl); (· simp only [push_cast, env, Nat.reduceEqDiff, reduceIte, Nat.reduceAdd, Nat.reduceMul, Nat.reduceLeDiff, reduceCtorEq, Nat.reduceSub, Int.reduceToNat, hid3', hrd3, g2] <;> exact rfl)) | (apply one_eph; (· rfl); (· simp only [push_cast, env, Nat.reduceEqDiff, reduceIte, Nat.reduceAdd, Nat.reduceMul, Nat.reduceLeDiff, reduceCtorEq, Nat.reduceSub, Int.reduceToNat, hid3', hrd3, g2] <;> exact rfl); (· rfl); (· simp only [push_cast, env, Nat.reduceEqDiff, reduceIte, Nat.reduceAdd, Nat.reduceMul, Nat.reduceLeDiff, reduceCtorEq, Nat.reduceSub, Int.reduceToNat, hid3', hrd3, g2] <;> exact rfl); (· decide)) | (apply one_bsl; (· rfl); (· simp only [push_cast, env, Nat.reduceEqDiff, reduceIte, Nat.reduceAdd, Nat.reduceMul, Nat.reduceLeDiff, reduceCtorEq, Nat.reduceSub, Int.reduceToNat, hid3', hrd3, g2] <;> exact rfl); (· rfl); (· simp only [push_cast, env, Nat.reduceEqDiff, reduceIte, Nat.reduceAdd, Nat.reduceMul, Nat.reduceLeDiff, reduceCtorEq, Nat.reduceSub, Int.reduceToNat, hid3', hrd3, g2] <;> exact rfl)) | (apply one_box; (· rfl); (· simp only [push_cast, env, Nat.reduceEqDiff, reduceIte, Nat.reduceAdd, Nat.reduceMul, Nat.reduceLeDiff, reduceCtorEq, Nat.reduceSub, Int.reduceToNat, hid3', hrd3, g2] <;> exact rfl); (· rfl); (· simp only [push_cast, env, Nat.reduceEqDiff, reduceIte, Nat.reduceAdd, Nat.reduceMul, Nat.reduceLeDiff, reduceCtorEq, Nat.reduceSub, Int.reduceToNat, hid3', hrd3, g2] <;> exact rfl)) | (apply one_skip; (· rfl); (· simp only [push_cast, env, Nat.reduceEqDiff, reduceIte, Nat.reduceAdd, Nat.reduceMul, Nat.reduceLeDiff, reduceCtorEq, Nat.reduceSub, Int.reduceToNat, hid3', hrd3, g2] <;> exact rfl)))); (· rfl)))
    case ht => rfl
    case hF => repeat (first | exact trivial | (refine ⟨.inl ⟨by decide, rfl⟩, ?_⟩) | (refine ⟨.inr ⟨rfl, by simp⟩, ?_⟩))
    refine owv (hone _ _ _ _ _ rfl (by simp only [push_cast, env, Nat.reduceEqDiff, reduceIte, Nat.reduceAdd, Nat.reduceMul, Nat.reduceLeDiff, reduceCtorEq, Nat.reduceSub, Int.reduceToNat] <;> exact rfl) rfl (by simp only [push_cast, env, Nat.reduceEqDiff, reduceIte, Nat.reduceAdd, Nat.reduceMul, Nat.reduceLeDiff, reduceCtorEq, Nat.reduceSub, Int.reduceToNat] <;> exact rfl) rfl) ?_
    repeat (first | refine cw_seq ?_ | refine cw_region ?_ | refine ow_nil ?_ | ((first | apply ow_cons | apply qw_cons); · simp only [push_cast, env, Nat.reduceEqDiff, reduceIte, Nat.reduceAdd, Nat.reduceMul, Nat.reduceLeDiff, reduceCtorEq, Nat.reduceSub, Int.reduceToNat] <;> exact rfl) | ((first | apply ow_spec | apply qw_spec); · simp only [push_cast, env, Nat.reduceEqDiff, reduceIte, Nat.reduceAdd, Nat.reduceMul, Nat.reduceLeDiff, reduceCtorEq, Nat.reduceSub, Int.reduceToNat] <;> exact rfl) | refine qw_nil ?_ | refine cw_block ?_ | refine cw_scope ?_ | refine cw_label ?_ | refine cw_skip ?_)
    refine ⟨[(1, .box [i64 g.nts, i64 g.start, .slice (some ⟨id3, 0, some ver3⟩) g.rules.length c]), (2, .box [i64 0, i64 0, nilS]), (5, .box [i64 g.nts, i64 g.start, .slice p5 (k + 1) c5]), (18, .val (.slice (some ⟨idl, 0, some verl⟩) L.length cl)), (19, .val (i64 L.length)), (20, .val (i64 k))], (by simp only [push_cast, SubL, fget, Nat.reduceEqDiff, reduceIte]), ?_⟩
    show CW _ _ ⟨_, [], h5⟩ _
    repeat (first | refine cw_seq ?_ | refine cw_region ?_ | refine ow_nil ?_ | ((first | apply ow_cons | apply qw_cons); · simp only [push_cast, env, Nat.reduceEqDiff, reduceIte, Nat.reduceAdd, Nat.reduceMul, Nat.reduceLeDiff, reduceCtorEq, Nat.reduceSub, Int.reduceToNat, e2] <;> exact rfl) | ((first | apply ow_spec | apply qw_spec); · simp only [push_cast, env, Nat.reduceEqDiff, reduceIte, Nat.reduceAdd, Nat.reduceMul, Nat.reduceLeDiff, reduceCtorEq, Nat.reduceSub, Int.reduceToNat, e2] <;> exact rfl) | refine qw_nil ?_ | refine cw_block ?_ | refine cw_scope ?_ | refine cw_label ?_ | refine cw_skip ?_)
    refine ⟨hlt, (h5, p5, c5, us ++ [.slice p3 g.rules[n].rhs.length c4]), (by simp only [push_cast, SubL, fget, Nat.reduceEqDiff, reduceIte]), rfl, ?_, fun y hy j hj => ?_⟩
    · simp only
      rw [List.take_succ_eq_append_getElem hlt, List.map_append, List.map_cons, List.map_nil, hpr]
      exact B5
    · simp only at hy
      rw [List.mem_append, List.mem_singleton] at hy
      rcases hy with hy | rfl
      · exact hU y hy j hj
      · exact rd_at hu3 hj
  · have e3 := ge_dec hlt
    obtain rfl : k = L.length := by omega
    repeat (first | refine cw_seq ?_ | refine cw_region ?_ | refine ow_nil ?_ | ((first | apply ow_cons | apply qw_cons); · simp only [push_cast, env, Nat.reduceEqDiff, reduceIte, Nat.reduceAdd, Nat.reduceMul, Nat.reduceLeDiff, reduceCtorEq, Nat.reduceSub, Int.reduceToNat, e3] <;> exact rfl) | ((first | apply ow_spec | apply qw_spec); · simp only [push_cast, env, Nat.reduceEqDiff, reduceIte, Nat.reduceAdd, Nat.reduceMul, Nat.reduceLeDiff, reduceCtorEq, Nat.reduceSub, Int.reduceToNat, e3] <;> exact rfl) | refine qw_nil ?_ | refine cw_block ?_ | refine cw_scope ?_ | refine cw_label ?_ | refine cw_skip ?_)
    refine cw_condF (by simp only [push_cast, env, Nat.reduceEqDiff, reduceIte, Nat.reduceAdd, Nat.reduceMul, Nat.reduceLeDiff, reduceCtorEq, Nat.reduceSub, Int.reduceToNat] <;> exact rfl) ?_
    refine cw_exit ?_
    show CW _ _ _ _
    rw [List.take_length, hpk] at B
    repeat (first | refine cw_seq ?_ | refine cw_region ?_ | refine ow_nil ?_ | ((first | apply ow_cons | apply qw_cons); · simp only [push_cast, env, Nat.reduceEqDiff, reduceIte, Nat.reduceAdd, Nat.reduceMul, Nat.reduceLeDiff, reduceCtorEq, Nat.reduceSub, Int.reduceToNat] <;> exact rfl) | ((first | apply ow_spec | apply qw_spec); · simp only [push_cast, env, Nat.reduceEqDiff, reduceIte, Nat.reduceAdd, Nat.reduceMul, Nat.reduceLeDiff, reduceCtorEq, Nat.reduceSub, Int.reduceToNat] <;> exact rfl) | refine qw_nil ?_ | refine cw_block ?_ | refine cw_scope ?_ | refine cw_label ?_ | refine cw_skip ?_)
    have hfl : (g.rules.filter (goodR m)).length = L.length := by rw [← hpk, List.length_map]
    have hrd := B.rd (by rw [hfl]; omega)
    refine cw_ret ?_
    exact ⟨_, (by simp only [push_cast, env, Nat.reduceEqDiff, reduceIte, Nat.reduceAdd, Nat.reduceMul, Nat.reduceLeDiff, reduceCtorEq, Nat.reduceSub, Int.reduceToNat] <;> exact rfl), m, hm, ⟨_, rfl, hrd⟩, hp1.trans B.p⟩
/-- the last set with items -/
def lastK (S : List (List Item)) : Nat → Int
  | 0 => -1
  | k + 1 => if 0 < (gs S k).length then (k : Int) else lastK S k
def LastR (g : Gram) (w : List Nat) (r : Value) : Prop := ∃ n, r = .tuple #[i64 n, i64 (fitE g w)] ∧ (fitE g w ≠ 0 → n = 0) ∧ (fitE g w = 0 → ∃ m S, Marks g.nts (goodD g) m ∧ ChartOK (trG g m) w S ∧ n = lastK S (w.length + 1))
set_option maxHeartbeats 4000000 in
theorem last_fw {h : Heap} {g : Gram} {v wv : Value} {w : List Nat} (hr : RdGram h v g) (hwR : RdB h wv w) (W : WfG g) : FW env 17 [v, wv] h fun r h' => LastR g w r ∧ h <+: h' := by
  obtain ⟨u, rfl, hu⟩ := id hr
  obtain ⟨p, c, rfl⟩ := hu.form
  obtain ⟨pw, cw, rfl⟩ := hwR.form
  refine fw_enter (fn := Try.f17) Try.func17 rfl (by kernel_rfl) (by simp [Try.ntmps17]) ?_; simp only [push_cast]
  repeat (first | refine cw_seq ?_ | refine cw_region ?_ | refine ow_nil ?_ | ((first | apply ow_cons | apply qw_cons); · simp only [push_cast, env, Nat.reduceEqDiff, reduceIte, Nat.reduceAdd, Nat.reduceMul, Nat.reduceLeDiff, reduceCtorEq, Nat.reduceSub, Int.reduceToNat] <;> exact rfl) | ((first | apply ow_spec | apply qw_spec); · simp only [push_cast, env, Nat.reduceEqDiff, reduceIte, Nat.reduceAdd, Nat.reduceMul, Nat.reduceLeDiff, reduceCtorEq, Nat.reduceSub, Int.reduceToNat] <;> exact rfl) | refine qw_nil ?_ | refine cw_block ?_ | refine cw_scope ?_ | refine cw_label ?_ | refine cw_skip ?_)
  refine ow_call (fn := Try.f36) (by simp only [push_cast, env, Nat.reduceEqDiff, reduceIte, Nat.reduceAdd, Nat.reduceMul, Nat.reduceLeDiff, reduceCtorEq, Nat.reduceSub, Int.reduceToNat] <;> exact rfl) rfl (by simp only [push_cast, env, Nat.reduceEqDiff, reduceIte, Nat.reduceAdd, Nat.reduceMul, Nat.reduceLeDiff, reduceCtorEq, Nat.reduceSub, Int.reduceToNat] <;> exact rfl) (by simp only [push_cast, env, Nat.reduceEqDiff, reduceIte, Nat.reduceAdd, Nat.reduceMul, Nat.reduceLeDiff, reduceCtorEq, Nat.reduceSub, Int.reduceToNat] <;> exact rfl) Try.func36 (by kernel_rfl) (by kernel_rfl) ?_
  rw [List.append_nil]
  refine (fit_fw hr hwR).mono ?_
  rintro _ h ⟨rfl, rfl⟩
  by_cases hf : ¬ fitE g w = 0
  · have df : decide (fitE g w = 0) = false := decide_eq_false hf
    repeat (first | refine cw_seq ?_ | refine cw_region ?_ | refine ow_nil ?_ | ((first | apply ow_cons | apply qw_cons); · simp only [push_cast, env, Nat.reduceEqDiff, reduceIte, Nat.reduceAdd, Nat.reduceMul, Nat.reduceLeDiff, reduceCtorEq, Nat.reduceSub, Int.reduceToNat, df] <;> exact rfl) | ((first | apply ow_spec | apply qw_spec); · simp only [push_cast, env, Nat.reduceEqDiff, reduceIte, Nat.reduceAdd, Nat.reduceMul, Nat.reduceLeDiff, reduceCtorEq, Nat.reduceSub, Int.reduceToNat, df] <;> exact rfl) | refine qw_nil ?_ | refine cw_block ?_ | refine cw_scope ?_ | refine cw_label ?_ | refine cw_skip ?_)
    refine cw_condT (by simp only [push_cast, env, Nat.reduceEqDiff, reduceIte, Nat.reduceAdd, Nat.reduceMul, Nat.reduceLeDiff, reduceCtorEq, Nat.reduceSub, Int.reduceToNat, df] <;> exact rfl) ?_
    repeat (first | refine cw_seq ?_ | refine cw_region ?_ | refine ow_nil ?_ | ((first | apply ow_cons | apply qw_cons); · simp only [push_cast, env, Nat.reduceEqDiff, reduceIte, Nat.reduceAdd, Nat.reduceMul, Nat.reduceLeDiff, reduceCtorEq, Nat.reduceSub, Int.reduceToNat] <;> exact rfl) | ((first | apply ow_spec | apply qw_spec); · simp only [push_cast, env, Nat.reduceEqDiff, reduceIte, Nat.reduceAdd, Nat.reduceMul, Nat.reduceLeDiff, reduceCtorEq, Nat.reduceSub, Int.reduceToNat] <;> exact rfl) | refine qw_nil ?_ | refine cw_block ?_ | refine cw_scope ?_ | refine cw_label ?_ | refine cw_skip ?_)
    refine cw_ret ?_
    exact ⟨_, (by simp only [push_cast, env, Nat.reduceEqDiff, reduceIte, Nat.reduceAdd, Nat.reduceMul, Nat.reduceLeDiff, reduceCtorEq, Nat.reduceSub, Int.reduceToNat] <;> exact rfl), ⟨0, rfl, fun _ => rfl, fun h => absurd h hf⟩, List.prefix_refl _⟩
  replace hf : fitE g w = 0 := Classical.not_not.1 hf
  obtain ⟨hb, hw⟩ := fitE_ok.1 hf
  have R := rightS hb
  rw [hf]
  repeat (first | refine cw_seq ?_ | refine cw_region ?_ | refine ow_nil ?_ | ((first | apply ow_cons | apply qw_cons); · simp only [push_cast, env, Nat.reduceEqDiff, reduceIte, Nat.reduceAdd, Nat.reduceMul, Nat.reduceLeDiff, reduceCtorEq, Nat.reduceSub, Int.reduceToNat] <;> exact rfl) | ((first | apply ow_spec | apply qw_spec); · simp only [push_cast, env, Nat.reduceEqDiff, reduceIte, Nat.reduceAdd, Nat.reduceMul, Nat.reduceLeDiff, reduceCtorEq, Nat.reduceSub, Int.reduceToNat] <;> exact rfl) | refine qw_nil ?_ | refine cw_block ?_ | refine cw_scope ?_ | refine cw_label ?_ | refine cw_skip ?_)
  refine cw_condF (by simp only [push_cast, env, Nat.reduceEqDiff, reduceIte, Nat.reduceAdd, Nat.reduceMul, Nat.reduceLeDiff, reduceCtorEq, Nat.reduceSub, Int.reduceToNat] <;> exact rfl) ?_
  repeat (first | refine cw_seq ?_ | refine cw_region ?_ | refine ow_nil ?_ | ((first | apply ow_cons | apply qw_cons); · simp only [push_cast, env, Nat.reduceEqDiff, reduceIte, Nat.reduceAdd, Nat.reduceMul, Nat.reduceLeDiff, reduceCtorEq, Nat.reduceSub, Int.reduceToNat] <;> exact rfl) | ((first | apply ow_spec | apply qw_spec); · simp only [push_cast, env, Nat.reduceEqDiff, reduceIte, Nat.reduceAdd, Nat.reduceMul, Nat.reduceLeDiff, reduceCtorEq, Nat.reduceSub, Int.reduceToNat] <;> exact rfl) | refine qw_nil ?_ | refine cw_block ?_ | refine cw_scope ?_ | refine cw_label ?_ | refine cw_skip ?_)
  refine ow_call (fn := Try.f40) (by simp only [push_cast, env, Nat.reduceEqDiff, reduceIte, Nat.reduceAdd, Nat.reduceMul, Nat.reduceLeDiff, reduceCtorEq, Nat.reduceSub, Int.reduceToNat] <;> exact rfl) rfl (by simp only [push_cast, env, Nat.reduceEqDiff, reduceIte, Nat.reduceAdd, Nat.reduceMul, Nat.reduceLeDiff, reduceCtorEq, Nat.reduceSub, Int.reduceToNat] <;> exact rfl) (by simp only [push_cast, env, Nat.reduceEqDiff, reduceIte, Nat.reduceAdd, Nat.reduceMul, Nat.reduceLeDiff, reduceCtorEq, Nat.reduceSub, Int.reduceToNat] <;> exact rfl) Try.func40 (by kernel_rfl) (by kernel_rfl) ?_
  rw [List.append_nil]
  refine (trimmed_fw hr hb).mono ?_
  rintro v1 h1 ⟨m, hm, hr1, hp1⟩
  repeat (first | refine cw_seq ?_ | refine cw_region ?_ | refine ow_nil ?_ | ((first | apply ow_cons | apply qw_cons); · simp only [push_cast, env, Nat.reduceEqDiff, reduceIte, Nat.reduceAdd, Nat.reduceMul, Nat.reduceLeDiff, reduceCtorEq, Nat.reduceSub, Int.reduceToNat] <;> exact rfl) | ((first | apply ow_spec | apply qw_spec); · simp only [push_cast, env, Nat.reduceEqDiff, reduceIte, Nat.reduceAdd, Nat.reduceMul, Nat.reduceLeDiff, reduceCtorEq, Nat.reduceSub, Int.reduceToNat] <;> exact rfl) | refine qw_nil ?_ | refine cw_block ?_ | refine cw_scope ?_ | refine cw_label ?_ | refine cw_skip ?_)
  refine ow_call (fn := Try.f37) (by simp only [push_cast, env, Nat.reduceEqDiff, reduceIte, Nat.reduceAdd, Nat.reduceMul, Nat.reduceLeDiff, reduceCtorEq, Nat.reduceSub, Int.reduceToNat] <;> exact rfl) rfl (by simp only [push_cast, env, Nat.reduceEqDiff, reduceIte, Nat.reduceAdd, Nat.reduceMul, Nat.reduceLeDiff, reduceCtorEq, Nat.reduceSub, Int.reduceToNat] <;> exact rfl) (by simp only [push_cast, env, Nat.reduceEqDiff, reduceIte, Nat.reduceAdd, Nat.reduceMul, Nat.reduceLeDiff, reduceCtorEq, Nat.reduceSub, Int.reduceToNat] <;> exact rfl) Try.func37 (by kernel_rfl) (by kernel_rfl) ?_
  rw [List.append_nil]
  refine (open_fw hr1 (hwR.mono hp1) (rightS_tr R) (wfG_tr W) hw).mono ?_
  rintro _ h' ⟨hB, rv, F, G, rfl, rfl, K, C, hrv⟩
  have hSl := C.n
  have hc := K.c
  have hs := K.s
  unfold chCells at hc
  repeat (first | refine cw_seq ?_ | refine cw_region ?_ | refine ow_nil ?_ | ((first | apply ow_cons | apply qw_cons); · simp only [push_cast, env, Nat.reduceEqDiff, reduceIte, Nat.reduceAdd, Nat.reduceMul, Nat.reduceLeDiff, reduceCtorEq, Nat.reduceSub, Int.reduceToNat, hc] <;> exact rfl) | ((first | apply ow_spec | apply qw_spec); · simp only [push_cast, env, Nat.reduceEqDiff, reduceIte, Nat.reduceAdd, Nat.reduceMul, Nat.reduceLeDiff, reduceCtorEq, Nat.reduceSub, Int.reduceToNat, hc] <;> exact rfl) | refine qw_nil ?_ | refine cw_block ?_ | refine cw_scope ?_ | refine cw_label ?_ | refine cw_skip ?_)
  refine cw_for G.S.length (fun i => [(7, .val (i64 (lastK G.S i))), (22, .val (.slice (some ⟨F.si, 0, some 0⟩) G.S.length G.S.length)), (23, .val (i64 G.S.length)), (24, .val (i64 i))]) (fun _ => G.h)
    (fun i => True) (by simp only [push_cast, SubL, fget, Nat.reduceEqDiff, reduceIte, lastK]) rfl trivial ?_
  intro i hi hI
  by_cases hlt : i < G.S.length
  · have e2 := inc hlt (by omega)
    have e3 := lt_dec hlt
    have f2 := rng hlt
    obtain ⟨u2, cu2, hu2, gu2⟩ := K.us_at hlt
    repeat (first | refine cw_seq ?_ | refine cw_region ?_ | refine ow_nil ?_ | ((first | apply ow_cons | apply qw_cons); · simp only [push_cast, env, Nat.reduceEqDiff, reduceIte, Nat.reduceAdd, Nat.reduceMul, Nat.reduceLeDiff, reduceCtorEq, Nat.reduceSub, Int.reduceToNat, e3] <;> exact rfl) | ((first | apply ow_spec | apply qw_spec); · simp only [push_cast, env, Nat.reduceEqDiff, reduceIte, Nat.reduceAdd, Nat.reduceMul, Nat.reduceLeDiff, reduceCtorEq, Nat.reduceSub, Int.reduceToNat, e3] <;> exact rfl) | refine qw_nil ?_ | refine cw_block ?_ | refine cw_scope ?_ | refine cw_label ?_ | refine cw_skip ?_)
    refine cw_condT (by simp only [push_cast, env, Nat.reduceEqDiff, reduceIte, Nat.reduceAdd, Nat.reduceMul, Nat.reduceLeDiff, reduceCtorEq, Nat.reduceSub, Int.reduceToNat] <;> exact rfl) ?_
    repeat (first | refine cw_seq ?_ | refine cw_region ?_ | refine ow_nil ?_ | ((first | apply ow_cons | apply qw_cons); · simp only [push_cast, env, Nat.reduceEqDiff, reduceIte, Nat.reduceAdd, Nat.reduceMul, Nat.reduceLeDiff, reduceCtorEq, Nat.reduceSub, Int.reduceToNat, hs, hu2, f2, Nat.mul_one] <;> exact rfl) | ((first | apply ow_spec | apply qw_spec); · simp only [push_cast, env, Nat.reduceEqDiff, reduceIte, Nat.reduceAdd, Nat.reduceMul, Nat.reduceLeDiff, reduceCtorEq, Nat.reduceSub, Int.reduceToNat, hs, hu2, f2, Nat.mul_one] <;> exact rfl) | refine qw_nil ?_ | refine cw_block ?_ | refine cw_scope ?_ | refine cw_label ?_ | refine cw_skip ?_)
    refine cw_cond (by simp only [push_cast, env, Nat.reduceEqDiff, reduceIte, Nat.reduceAdd, Nat.reduceMul, Nat.reduceLeDiff, reduceCtorEq, Nat.reduceSub, Int.reduceToNat] <;> exact rfl) (fun c1 => ?_) (fun c1 => ?_)
    · have c1' : 0 < (gs G.S i).length := by simp only [decide_eq_true_eq] at c1; omega
      repeat (first | refine cw_seq ?_ | refine cw_region ?_ | refine ow_nil ?_ | ((first | apply ow_cons | apply qw_cons); · simp only [push_cast, env, Nat.reduceEqDiff, reduceIte, Nat.reduceAdd, Nat.reduceMul, Nat.reduceLeDiff, reduceCtorEq, Nat.reduceSub, Int.reduceToNat, e2] <;> exact rfl) | ((first | apply ow_spec | apply qw_spec); · simp only [push_cast, env, Nat.reduceEqDiff, reduceIte, Nat.reduceAdd, Nat.reduceMul, Nat.reduceLeDiff, reduceCtorEq, Nat.reduceSub, Int.reduceToNat, e2] <;> exact rfl) | refine qw_nil ?_ | refine cw_block ?_ | refine cw_scope ?_ | refine cw_label ?_ | refine cw_skip ?_)
      exact ⟨hlt, (by simp only [push_cast, SubL, fget, Nat.reduceEqDiff, reduceIte, lastK, if_pos c1']), rfl, trivial⟩
    · have c1' : ¬ 0 < (gs G.S i).length := by simp only [decide_eq_false_iff_not] at c1; omega
      repeat (first | refine cw_seq ?_ | refine cw_region ?_ | refine ow_nil ?_ | ((first | apply ow_cons | apply qw_cons); · simp only [push_cast, env, Nat.reduceEqDiff, reduceIte, Nat.reduceAdd, Nat.reduceMul, Nat.reduceLeDiff, reduceCtorEq, Nat.reduceSub, Int.reduceToNat, e2] <;> exact rfl) | ((first | apply ow_spec | apply qw_spec); · simp only [push_cast, env, Nat.reduceEqDiff, reduceIte, Nat.reduceAdd, Nat.reduceMul, Nat.reduceLeDiff, reduceCtorEq, Nat.reduceSub, Int.reduceToNat, e2] <;> exact rfl) | refine qw_nil ?_ | refine cw_block ?_ | refine cw_scope ?_ | refine cw_label ?_ | refine cw_skip ?_)
      exact ⟨hlt, (by simp only [push_cast, SubL, fget, Nat.reduceEqDiff, reduceIte, lastK, if_neg c1']), rfl, trivial⟩
  · have e3 := ge_dec hlt
    obtain rfl : i = G.S.length := by omega
    repeat (first | refine cw_seq ?_ | refine cw_region ?_ | refine ow_nil ?_ | ((first | apply ow_cons | apply qw_cons); · simp only [push_cast, env, Nat.reduceEqDiff, reduceIte, Nat.reduceAdd, Nat.reduceMul, Nat.reduceLeDiff, reduceCtorEq, Nat.reduceSub, Int.reduceToNat, e3] <;> exact rfl) | ((first | apply ow_spec | apply qw_spec); · simp only [push_cast, env, Nat.reduceEqDiff, reduceIte, Nat.reduceAdd, Nat.reduceMul, Nat.reduceLeDiff, reduceCtorEq, Nat.reduceSub, Int.reduceToNat, e3] <;> exact rfl) | refine qw_nil ?_ | refine cw_block ?_ | refine cw_scope ?_ | refine cw_label ?_ | refine cw_skip ?_)
    refine cw_condF (by simp only [push_cast, env, Nat.reduceEqDiff, reduceIte, Nat.reduceAdd, Nat.reduceMul, Nat.reduceLeDiff, reduceCtorEq, Nat.reduceSub, Int.reduceToNat] <;> exact rfl) ?_
    refine cw_exit ?_
    show CW _ _ _ _
    repeat (first | refine cw_seq ?_ | refine cw_region ?_ | refine ow_nil ?_ | ((first | apply ow_cons | apply qw_cons); · simp only [push_cast, env, Nat.reduceEqDiff, reduceIte, Nat.reduceAdd, Nat.reduceMul, Nat.reduceLeDiff, reduceCtorEq, Nat.reduceSub, Int.reduceToNat] <;> exact rfl) | ((first | apply ow_spec | apply qw_spec); · simp only [push_cast, env, Nat.reduceEqDiff, reduceIte, Nat.reduceAdd, Nat.reduceMul, Nat.reduceLeDiff, reduceCtorEq, Nat.reduceSub, Int.reduceToNat] <;> exact rfl) | refine qw_nil ?_ | refine cw_block ?_ | refine cw_scope ?_ | refine cw_label ?_ | refine cw_skip ?_)
    refine cw_ret ?_
    exact ⟨_, (by simp only [push_cast, env, Nat.reduceEqDiff, reduceIte, Nat.reduceAdd, Nat.reduceMul, Nat.reduceLeDiff, reduceCtorEq, Nat.reduceSub, Int.reduceToNat] <;> exact rfl), ⟨lastK G.S G.S.length, by rw [hf]; rfl, fun h => absurd hf h, fun _ => ⟨m, G.S, hm, C, by rw [hSl]⟩⟩, hp1.trans K.p⟩
end Go.Proofs.Ytafncpgiibikcaa

/- First, of the reference. -/
namespace Go.Proofs.Ytafncpgiibikcaa
set_option linter.unusedSimpArgs false
set_option linter.unusedVariables false
open Go.RowKit Am Ty

/-! ### rounds in place -/
def hasL (b : Nat) (out : List BSet) : List Bool := out.map fun s => s.has b
theorem hasL_bit {b : Nat} {out : List BSet} {i : Int} (h0 : 0 ≤ i) (h1 : i < out.length) : bit (hasL b out) i = (sget out i).has b := by
  rw [bit_get h0 (by simp [hasL, h1]), sget_get h0 h1]
  simp [hasL]
def CompleteB (g : Gram) (D : Int → Prop) (b : Nat) (out : List BSet) : Prop := ∀ i : Int, 0 ≤ i → i < g.nts → Fst g.rules D b i → (sget out i).has b = true
structure FRounds (g : Gram) (D : Int → Prop) (k : Nat) (out : List BSet) : Prop where
  i : FInv g D out
  c : ∀ b, b < 256 → k ≤ (hasL b out).count true ∨ CompleteB g D b out
def OLe (n : Int) (a b : List BSet) : Prop := ∀ i : Int, 0 ≤ i → i < n → SLe (sget a i) (sget b i)
structure FRound (g : Gram) (D : Int → Prop) (out0 : List BSet) (k : Nat) (out : List BSet) : Prop where
  i : FInv g D out
  le : OLe g.nts out0 out
  d : ∀ r ∈ g.rules.take k, FClosed D out0 r (sget out r.lhs)
theorem FRounds.step {g : Gram} {D : Int → Prop} {k : Nat} {out out' : List BSet} (R : RightS g) (h : FRounds g D k out) (hr : FRound g D out g.rules.length out') : FRounds g D (k + 1) out' := by
  have hd := hr.d
  rw [List.take_length] at hd
  refine ⟨hr.i, fun b hb => ?_⟩
  have hl := h.i.n
  have hl' := hr.i.n
  by_cases hc : ∃ i : Int, 0 ≤ i ∧ i < g.nts ∧ (sget out i).has b = false ∧ (sget out' i).has b = true
  · rcases h.c b hb with h3 | h3
    · obtain ⟨i, h0, h1, h2, h4⟩ := hc
      have hle : ∀ (i : Nat) (h1 : i < (hasL b out).length) (h2 : i < (hasL b out').length), (hasL b out)[i] = true → (hasL b out')[i] = true :=
        BLe.get (n := g.nts) (fun i h0 h1 => by rw [hasL_bit h0 (by omega), hasL_bit h0 (by omega)]; exact hr.le i h0 h1 b hb) (by simp [hasL, hl]) (by simp [hasL, hl'])
      have e1 : (hasL b out).length = out.length := by simp [hasL]
      have e2 : (hasL b out').length = out'.length := by simp [hasL]
      have := cnt_lt (by omega) hle ⟨i.toNat, by omega, by omega, by rw [← bit_get h0 (by omega), hasL_bit h0 (by omega)]; exact h2, by rw [← bit_get h0 (by omega), hasL_bit h0 (by omega)]; exact h4⟩
      exact .inl (by omega)
    · obtain ⟨i, h0, h1, h2, h4⟩ := hc
      rw [h3 i h0 h1 (hr.i.s i h0 h1 b hb h4)] at h2
      cases h2
  · refine .inr fun i h0 h1 hf => ?_
    clear h0 h1
    induction hf with
    | mk r k hk hr1 hp hs hn ih =>
      refine hd r hr1 k hk hp b hb ?_
      obtain ⟨l1, l2, _, hS⟩ := R.r r hr1
      have hs2 := hS _ (List.getElem_mem hk)
      unfold symSet
      split
      · rename_i h0
        exact hs h0
      · rename_i h0
        have := ih (by omega)
        cases h5 : (sget out r.rhs[k].nt).has b with
        | true => rfl
        | false => exact (hc ⟨_, by omega, hs2.2.1, h5, this⟩).elim
theorem FRounds.fin {g : Gram} {D : Int → Prop} {k : Nat} {out : List BSet} (h : FRounds g D k out) (hk : g.nts ≤ k) : Firsts g D out := by
  have hl := h.i.n
  refine ⟨hl, fun i h0 h1 => ⟨h.i.wf i h0 h1, fun b hb => ⟨h.i.s i h0 h1 b hb, fun hf => ?_⟩⟩⟩
  rcases h.c b hb with hc | hc
  · have e1 : (hasL b out).length = out.length := by simp [hasL]
    have := cnt_full (m := hasL b out) (by omega)
    rw [← hasL_bit h0 (by omega), bit_get h0 (by omega)]
    exact this _ (List.getElem_mem _)
  · exact hc i h0 h1 hf
structure FMid (g : Gram) (D : Int → Prop) (out0 : List BSet) (r : Rule) (j : Nat) (a : Bool) (out : List BSet) : Prop where
  c : ∀ (k : Nat) (hk : k < r.rhs.length), k < j → (∀ x ∈ r.rhs.take k, NullS D x) → SLe (symSet out0 r.rhs[k]) (sget out r.lhs)
  t : a = true → ∀ x ∈ r.rhs.take j, NullS D x
  f : a = false → ∃ (k : Nat) (hk : k < r.rhs.length), k < j ∧ ¬ NullS D r.rhs[k]
theorem FMid.closed {g : Gram} {D : Int → Prop} {out0 : List BSet} {r : Rule} {j : Nat} {a : Bool} {out : List BSet} (h : FMid g D out0 r j a out) (hj : a = false ∨ j = r.rhs.length) : FClosed D out0 r (sget out r.lhs) := by
  intro k hk hx
  rcases Nat.lt_or_ge k j with h1 | h1
  · exact h.c k hk h1 hx
  · rcases hj with hj | hj
    · obtain ⟨k', hk', h2, h3⟩ := h.f hj
      refine (h3 (hx _ ?_)).elim
      rw [List.mem_take_iff_getElem]
      exact ⟨k', by omega, rfl⟩
    · omega
theorem rdH_sub {cells : List Value} {off : Nat} {a b c d e : Value} (h : rdH cells off 5 = some [a, b, c, d, e]) : rdH cells (off + 1) 4 = some [b, c, d, e] := by
  unfold rdH rdC at h ⊢
  split at h
  · rename_i hle
    rw [if_pos (by omega)]
    simp only [Option.some.injEq] at h ⊢
    have h2 : List.drop 1 (List.take 5 (List.drop off cells)) = [b, c, d, e] := by rw [h]; rfl
    rw [List.drop_take, List.drop_drop] at h2
    exact h2
  · cases h
end Go.Proofs.Ytafncpgiibikcaa

/- Next. -/
namespace Go.Proofs.Ytafncpgiibikcaa
set_option linter.unusedSimpArgs false
set_option linter.unusedVariables false
set_option maxRecDepth 20000
open Go.RowKit Am Ty

def NextB (g : Gram) (x : Item) (b : Nat) : Prop := ∃ r s, g.rules[x.rule]? = some r ∧ r.rhs[x.dot]? = some s ∧ s.nt < 0 ∧ s.set.has b = true
def NextR (g : Gram) (w : List Nat) (r : Value) : Prop := ∃ s : BSet, r = .tuple #[s.val, i64 (fitE g w)] ∧ SetWf s ∧ (fitE g w ≠ 0 → s = BSet.zero) ∧
  (fitE g w = 0 → ∃ m S, Marks g.nts (goodD g) m ∧ ChartOK (trG g m) w S ∧ ∀ b, b < 256 → (s.has b = true ↔ ∃ x ∈ gs S w.length, NextB (trG g m) x b))
set_option maxHeartbeats 4000000 in
theorem next_fw {h : Heap} {g : Gram} {v wv : Value} {w : List Nat} (hr : RdGram h v g) (hwR : RdB h wv w) (W : WfG g) : FW env 29 [v, wv] h fun r h' => NextR g w r ∧ h <+: h' := by
  obtain ⟨u, rfl, hu⟩ := id hr
  obtain ⟨p, c, rfl⟩ := hu.form
  obtain ⟨pw, cw, rfl⟩ := hwR.form
  refine fw_enter (fn := Try.f29) Try.func29 rfl (by kernel_rfl) (by simp [Try.ntmps29]) ?_; simp only [push_cast]
  repeat (first | refine cw_seq ?_ | refine cw_region ?_ | refine ow_nil ?_ | ((first | apply ow_cons | apply qw_cons); · simp only [push_cast, env, Nat.reduceEqDiff, reduceIte, Nat.reduceAdd, Nat.reduceMul, Nat.reduceLeDiff, reduceCtorEq, Nat.reduceSub, Int.reduceToNat] <;> exact rfl) | ((first | apply ow_spec | apply qw_spec); · simp only [push_cast, env, Nat.reduceEqDiff, reduceIte, Nat.reduceAdd, Nat.reduceMul, Nat.reduceLeDiff, reduceCtorEq, Nat.reduceSub, Int.reduceToNat] <;> exact rfl) | refine qw_nil ?_ | refine cw_block ?_ | refine cw_scope ?_ | refine cw_label ?_ | refine cw_skip ?_)
  refine ow_call (fn := Try.f36) (by simp only [push_cast, env, Nat.reduceEqDiff, reduceIte, Nat.reduceAdd, Nat.reduceMul, Nat.reduceLeDiff, reduceCtorEq, Nat.reduceSub, Int.reduceToNat] <;> exact rfl) rfl (by simp only [push_cast, env, Nat.reduceEqDiff, reduceIte, Nat.reduceAdd, Nat.reduceMul, Nat.reduceLeDiff, reduceCtorEq, Nat.reduceSub, Int.reduceToNat] <;> exact rfl) (by simp only [push_cast, env, Nat.reduceEqDiff, reduceIte, Nat.reduceAdd, Nat.reduceMul, Nat.reduceLeDiff, reduceCtorEq, Nat.reduceSub, Int.reduceToNat] <;> exact rfl) Try.func36 (by kernel_rfl) (by kernel_rfl) ?_
  rw [List.append_nil]
  refine (fit_fw hr hwR).mono ?_
  rintro _ h ⟨rfl, rfl⟩
  by_cases hf : ¬ fitE g w = 0
  · have df : decide (fitE g w = 0) = false := decide_eq_false hf
    repeat (first | refine cw_seq ?_ | refine cw_region ?_ | refine ow_nil ?_ | ((first | apply ow_cons | apply qw_cons); · simp only [push_cast, env, Nat.reduceEqDiff, reduceIte, Nat.reduceAdd, Nat.reduceMul, Nat.reduceLeDiff, reduceCtorEq, Nat.reduceSub, Int.reduceToNat, df] <;> exact rfl) | ((first | apply ow_spec | apply qw_spec); · simp only [push_cast, env, Nat.reduceEqDiff, reduceIte, Nat.reduceAdd, Nat.reduceMul, Nat.reduceLeDiff, reduceCtorEq, Nat.reduceSub, Int.reduceToNat, df] <;> exact rfl) | refine qw_nil ?_ | refine cw_block ?_ | refine cw_scope ?_ | refine cw_label ?_ | refine cw_skip ?_)
    refine cw_condT (by simp only [push_cast, env, Nat.reduceEqDiff, reduceIte, Nat.reduceAdd, Nat.reduceMul, Nat.reduceLeDiff, reduceCtorEq, Nat.reduceSub, Int.reduceToNat, df] <;> exact rfl) ?_
    repeat (first | refine cw_seq ?_ | refine cw_region ?_ | refine ow_nil ?_ | ((first | apply ow_cons | apply qw_cons); · simp only [push_cast, env, Nat.reduceEqDiff, reduceIte, Nat.reduceAdd, Nat.reduceMul, Nat.reduceLeDiff, reduceCtorEq, Nat.reduceSub, Int.reduceToNat] <;> exact rfl) | ((first | apply ow_spec | apply qw_spec); · simp only [push_cast, env, Nat.reduceEqDiff, reduceIte, Nat.reduceAdd, Nat.reduceMul, Nat.reduceLeDiff, reduceCtorEq, Nat.reduceSub, Int.reduceToNat] <;> exact rfl) | refine qw_nil ?_ | refine cw_block ?_ | refine cw_scope ?_ | refine cw_label ?_ | refine cw_skip ?_)
    refine cw_ret ?_
    exact ⟨_, (by simp only [push_cast, env, Nat.reduceEqDiff, reduceIte, Nat.reduceAdd, Nat.reduceMul, Nat.reduceLeDiff, reduceCtorEq, Nat.reduceSub, Int.reduceToNat] <;> exact rfl), ⟨BSet.zero, rfl, zero_wf, fun _ => rfl, fun h => absurd h hf⟩, List.prefix_refl _⟩
  replace hf : fitE g w = 0 := Classical.not_not.1 hf
  obtain ⟨hb, hw⟩ := fitE_ok.1 hf
  have R := rightS hb
  rw [hf]
  repeat (first | refine cw_seq ?_ | refine cw_region ?_ | refine ow_nil ?_ | ((first | apply ow_cons | apply qw_cons); · simp only [push_cast, env, Nat.reduceEqDiff, reduceIte, Nat.reduceAdd, Nat.reduceMul, Nat.reduceLeDiff, reduceCtorEq, Nat.reduceSub, Int.reduceToNat] <;> exact rfl) | ((first | apply ow_spec | apply qw_spec); · simp only [push_cast, env, Nat.reduceEqDiff, reduceIte, Nat.reduceAdd, Nat.reduceMul, Nat.reduceLeDiff, reduceCtorEq, Nat.reduceSub, Int.reduceToNat] <;> exact rfl) | refine qw_nil ?_ | refine cw_block ?_ | refine cw_scope ?_ | refine cw_label ?_ | refine cw_skip ?_)
  refine cw_condF (by simp only [push_cast, env, Nat.reduceEqDiff, reduceIte, Nat.reduceAdd, Nat.reduceMul, Nat.reduceLeDiff, reduceCtorEq, Nat.reduceSub, Int.reduceToNat] <;> exact rfl) ?_
  repeat (first | refine cw_seq ?_ | refine cw_region ?_ | refine ow_nil ?_ | ((first | apply ow_cons | apply qw_cons); · simp only [push_cast, env, Nat.reduceEqDiff, reduceIte, Nat.reduceAdd, Nat.reduceMul, Nat.reduceLeDiff, reduceCtorEq, Nat.reduceSub, Int.reduceToNat] <;> exact rfl) | ((first | apply ow_spec | apply qw_spec); · simp only [push_cast, env, Nat.reduceEqDiff, reduceIte, Nat.reduceAdd, Nat.reduceMul, Nat.reduceLeDiff, reduceCtorEq, Nat.reduceSub, Int.reduceToNat] <;> exact rfl) | refine qw_nil ?_ | refine cw_block ?_ | refine cw_scope ?_ | refine cw_label ?_ | refine cw_skip ?_)
  refine ow_call (fn := Try.f40) (by simp only [push_cast, env, Nat.reduceEqDiff, reduceIte, Nat.reduceAdd, Nat.reduceMul, Nat.reduceLeDiff, reduceCtorEq, Nat.reduceSub, Int.reduceToNat] <;> exact rfl) rfl (by simp only [push_cast, env, Nat.reduceEqDiff, reduceIte, Nat.reduceAdd, Nat.reduceMul, Nat.reduceLeDiff, reduceCtorEq, Nat.reduceSub, Int.reduceToNat] <;> exact rfl) (by simp only [push_cast, env, Nat.reduceEqDiff, reduceIte, Nat.reduceAdd, Nat.reduceMul, Nat.reduceLeDiff, reduceCtorEq, Nat.reduceSub, Int.reduceToNat] <;> exact rfl) Try.func40 (by kernel_rfl) (by kernel_rfl) ?_
  rw [List.append_nil]
  refine (trimmed_fw hr hb).mono ?_
  rintro v1 h1 ⟨m, hm, hr1, hp1⟩
  repeat (first | refine cw_seq ?_ | refine cw_region ?_ | refine ow_nil ?_ | ((first | apply ow_cons | apply qw_cons); · simp only [push_cast, env, Nat.reduceEqDiff, reduceIte, Nat.reduceAdd, Nat.reduceMul, Nat.reduceLeDiff, reduceCtorEq, Nat.reduceSub, Int.reduceToNat] <;> exact rfl) | ((first | apply ow_spec | apply qw_spec); · simp only [push_cast, env, Nat.reduceEqDiff, reduceIte, Nat.reduceAdd, Nat.reduceMul, Nat.reduceLeDiff, reduceCtorEq, Nat.reduceSub, Int.reduceToNat] <;> exact rfl) | refine qw_nil ?_ | refine cw_block ?_ | refine cw_scope ?_ | refine cw_label ?_ | refine cw_skip ?_)
  refine ow_call (fn := Try.f37) (by simp only [push_cast, env, Nat.reduceEqDiff, reduceIte, Nat.reduceAdd, Nat.reduceMul, Nat.reduceLeDiff, reduceCtorEq, Nat.reduceSub, Int.reduceToNat] <;> exact rfl) rfl (by simp only [push_cast, env, Nat.reduceEqDiff, reduceIte, Nat.reduceAdd, Nat.reduceMul, Nat.reduceLeDiff, reduceCtorEq, Nat.reduceSub, Int.reduceToNat] <;> exact rfl) (by simp only [push_cast, env, Nat.reduceEqDiff, reduceIte, Nat.reduceAdd, Nat.reduceMul, Nat.reduceLeDiff, reduceCtorEq, Nat.reduceSub, Int.reduceToNat] <;> exact rfl) Try.func37 (by kernel_rfl) (by kernel_rfl) ?_
  rw [List.append_nil]
  refine (open_fw hr1 (hwR.mono hp1) (rightS_tr R) (wfG_tr W) hw).mono ?_
  rintro _ h' ⟨hB, rv, F, G, rfl, rfl, K, C, hrv⟩
  have W1 := wfG_tr (m := m) W
  have R1 := rightS_tr (m := m) R
  generalize hg1 : trG g m = g1 at *
  have hSl := C.n
  have hnS : w.length < G.S.length := by omega
  obtain ⟨prv, crv, rfl⟩ := hrv.form
  have hc := K.c
  have hs := K.s
  unfold chCells at hc
  obtain ⟨u2, cu2, hu2, gu2⟩ := K.us_at hnS
  have f1 := rng hnS
  have hsm := C.small R1 hw (Nat.le_refl _)
  repeat (first | refine cw_seq ?_ | refine cw_region ?_ | refine ow_nil ?_ | ((first | apply ow_cons | apply qw_cons); · simp only [push_cast, env, Nat.reduceEqDiff, reduceIte, Nat.reduceAdd, Nat.reduceMul, Nat.reduceLeDiff, reduceCtorEq, Nat.reduceSub, Int.reduceToNat, hc, hs, hu2, f1, Nat.mul_one] <;> exact rfl) | ((first | apply ow_spec | apply qw_spec); · simp only [push_cast, env, Nat.reduceEqDiff, reduceIte, Nat.reduceAdd, Nat.reduceMul, Nat.reduceLeDiff, reduceCtorEq, Nat.reduceSub, Int.reduceToNat, hc, hs, hu2, f1, Nat.mul_one] <;> exact rfl) | refine qw_nil ?_ | refine cw_block ?_ | refine cw_scope ?_ | refine cw_label ?_ | refine cw_skip ?_)
  refine cw_forG (gs G.S w.length).length (fun i (s : BSet) => [(4, .box [u64 0, u64 0, u64 0, u64 0]), (7, .val (.pointer (some ⟨F.cp, 0, some 0⟩))), (8, .box [u64 s.a, u64 s.b, u64 s.c, u64 s.d]), (30, .val (.slice u2 (gs G.S w.length).length cu2)), (31, .val (i64 (gs G.S w.length).length)), (32, .val (i64 i))]) (fun _ _ => G.h)
    (fun i s => SetWf s ∧ ∀ b, b < 256 → (s.has b = true ↔ ∃ x ∈ (gs G.S w.length).take i, NextB g1 x b)) BSet.zero (by simp only [push_cast, SubL, fget, Nat.reduceEqDiff, reduceIte, BSet.zero]) rfl ⟨zero_wf, fun b _ => by rw [zero_has]; simp⟩ ?_
  rintro i s hi ⟨hsw, hI⟩
  by_cases hlt : i < (gs G.S w.length).length
  · have e2 := inc hlt (by omega)
    have e3 := lt_dec hlt
    have f2 := rng hlt
    obtain ⟨iu, vu, cu, hu3, hgu, hrdu⟩ := K.item_at hnS hlt
    rw [hu2] at hu3
    cases hu3
    generalize hy : (gs G.S w.length)[i] = y at hrdu
    have hym : y ∈ gs G.S w.length := hy ▸ List.getElem_mem hlt
    obtain ⟨ry, hry, hyd, _, hysq⟩ := ((C.m _ _).1 hym).sound
    obtain ⟨hyl, hye⟩ := List.getElem?_eq_some_iff.1 hry
    obtain ⟨id3, ver3, own3, c3, cells3, p3, n3, c4, hv3, hid3, hn3, hrd3, hu3⟩ := hrv.at hyl
    cases hv3
    subst hn3
    rw [hye] at hrd3 hu3
    have hid3' := getElem?_of_prefix K.p hid3
    have g2 := rng hyl
    have g1' := rdH_get (j := 1) hrd3 (by omega)
    simp only [List.getElem?_cons_succ, List.getElem?_cons_zero] at g1'
    repeat (first | refine cw_seq ?_ | refine cw_region ?_ | refine ow_nil ?_ | ((first | apply ow_cons | apply qw_cons); · simp only [push_cast, env, Nat.reduceEqDiff, reduceIte, Nat.reduceAdd, Nat.reduceMul, Nat.reduceLeDiff, reduceCtorEq, Nat.reduceSub, Int.reduceToNat, e3] <;> exact rfl) | ((first | apply ow_spec | apply qw_spec); · simp only [push_cast, env, Nat.reduceEqDiff, reduceIte, Nat.reduceAdd, Nat.reduceMul, Nat.reduceLeDiff, reduceCtorEq, Nat.reduceSub, Int.reduceToNat, e3] <;> exact rfl) | refine qw_nil ?_ | refine cw_block ?_ | refine cw_scope ?_ | refine cw_label ?_ | refine cw_skip ?_)
    refine cw_condT (by simp only [push_cast, env, Nat.reduceEqDiff, reduceIte, Nat.reduceAdd, Nat.reduceMul, Nat.reduceLeDiff, reduceCtorEq, Nat.reduceSub, Int.reduceToNat] <;> exact rfl) ?_
    repeat (first | refine cw_seq ?_ | refine cw_region ?_ | refine ow_nil ?_ | ((first | apply ow_cons | apply qw_cons); · simp only [push_cast, env, Nat.reduceEqDiff, reduceIte, Nat.reduceAdd, Nat.reduceMul, Nat.reduceLeDiff, reduceCtorEq, Nat.reduceSub, Int.reduceToNat, hgu, hrdu, f2] <;> exact rfl) | ((first | apply ow_spec | apply qw_spec); · simp only [push_cast, env, Nat.reduceEqDiff, reduceIte, Nat.reduceAdd, Nat.reduceMul, Nat.reduceLeDiff, reduceCtorEq, Nat.reduceSub, Int.reduceToNat, hgu, hrdu, f2] <;> exact rfl) | refine qw_nil ?_ | refine cw_block ?_ | refine cw_scope ?_ | refine cw_label ?_ | refine cw_skip ?_)
    refine cw_regionD 10 mixed (by kernel_rfl) ?_
    by_cases hdl : y.dot < ry.rhs.length
    · have d1 : decide ((y.dot : Int) < (ry.rhs.length : Int)) = true := lt_dec hdl
      obtain ⟨id4, ver4, own4, c5, cells4, hv4, hid4, hrd4⟩ := hu3.at hdl
      cases hv4
      have hid4' := getElem?_of_prefix K.p hid4
      have g4 := rdH_get0 hrd4 (by omega)
      simp only [List.getElem?_cons_zero] at g4
      have g5 := rng hdl
      have hsy : ry.rhs[y.dot]? = some ry.rhs[y.dot] := List.getElem?_eq_getElem hdl
      have hws := W1 _ (List.mem_of_getElem? hry) _ (List.mem_of_getElem? hsy)
      have g6 := rdH_sub hrd4
      repeat (first | refine cw_seq ?_ | refine cw_region ?_ | refine ow_nil ?_ | ((first | apply ow_cons | apply qw_cons); · simp only [push_cast, env, Nat.reduceEqDiff, reduceIte, Nat.reduceAdd, Nat.reduceMul, Nat.reduceLeDiff, reduceCtorEq, Nat.reduceSub, Int.reduceToNat, hc, hid3', g1', g2, d1, hid4', g4, g5, Nat.mul_one] <;> exact rfl) | ((first | apply ow_spec | apply qw_spec); · simp only [push_cast, env, Nat.reduceEqDiff, reduceIte, Nat.reduceAdd, Nat.reduceMul, Nat.reduceLeDiff, reduceCtorEq, Nat.reduceSub, Int.reduceToNat, hc, hid3', g1', g2, d1, hid4', g4, g5, Nat.mul_one] <;> exact rfl) | refine qw_nil ?_ | refine cw_block ?_ | refine cw_scope ?_ | refine cw_label ?_ | refine cw_skip ?_)
      refine cw_cond (by simp only [push_cast, env, Nat.reduceEqDiff, reduceIte, Nat.reduceAdd, Nat.reduceMul, Nat.reduceLeDiff, reduceCtorEq, Nat.reduceSub, Int.reduceToNat] <;> exact rfl) (fun c1 => ?_) (fun c1 => ?_)
      · have c1' : ry.rhs[y.dot].nt < 0 := by simpa using c1
        repeat (first | refine cw_seq ?_ | refine cw_region ?_ | refine ow_nil ?_ | ((first | apply ow_cons | apply qw_cons); · simp only [push_cast, env, Nat.reduceEqDiff, reduceIte, Nat.reduceAdd, Nat.reduceMul, Nat.reduceLeDiff, reduceCtorEq, Nat.reduceSub, Int.reduceToNat] <;> exact rfl) | ((first | apply ow_spec | apply qw_spec); · simp only [push_cast, env, Nat.reduceEqDiff, reduceIte, Nat.reduceAdd, Nat.reduceMul, Nat.reduceLeDiff, reduceCtorEq, Nat.reduceSub, Int.reduceToNat] <;> exact rfl) | refine qw_nil ?_ | refine cw_block ?_ | refine cw_scope ?_ | refine cw_label ?_ | refine cw_skip ?_)
        refine cw_regionD 7 mixed (by kernel_rfl) ?_
        repeat (first | refine cw_seq ?_ | refine cw_region ?_ | refine ow_nil ?_ | ((first | apply ow_cons | apply qw_cons); · simp only [push_cast, env, Nat.reduceEqDiff, reduceIte, Nat.reduceAdd, Nat.reduceMul, Nat.reduceLeDiff, reduceCtorEq, Nat.reduceSub, Int.reduceToNat, hid4', g4, g5, g6, Nat.mul_one] <;> exact rfl) | ((first | apply ow_spec | apply qw_spec); · simp only [push_cast, env, Nat.reduceEqDiff, reduceIte, Nat.reduceAdd, Nat.reduceMul, Nat.reduceLeDiff, reduceCtorEq, Nat.reduceSub, Int.reduceToNat, hid4', g4, g5, g6, Nat.mul_one] <;> exact rfl) | refine qw_nil ?_ | refine cw_block ?_ | refine cw_scope ?_ | refine cw_label ?_ | refine cw_skip ?_)
        refine ow_call (fn := Try.f48) (by simp only [push_cast, env, Nat.reduceEqDiff, reduceIte, Nat.reduceAdd, Nat.reduceMul, Nat.reduceLeDiff, reduceCtorEq, Nat.reduceSub, Int.reduceToNat] <;> exact rfl) rfl (by simp only [push_cast, env, Nat.reduceEqDiff, reduceIte, Nat.reduceAdd, Nat.reduceMul, Nat.reduceLeDiff, reduceCtorEq, Nat.reduceSub, Int.reduceToNat] <;> exact rfl) (by simp only [push_cast, env, Nat.reduceEqDiff, reduceIte, Nat.reduceAdd, Nat.reduceMul, Nat.reduceLeDiff, reduceCtorEq, Nat.reduceSub, Int.reduceToNat] <;> exact rfl) Try.func48 (by kernel_rfl) (by kernel_rfl) ?_
        rw [List.append_nil]
        refine (union_fw hsw hws).mono ?_
        rintro _ _ ⟨rfl, rfl⟩
        repeat (first | refine cw_seq ?_ | refine cw_region ?_ | refine ow_nil ?_ | ((first | apply ow_cons | apply qw_cons); · simp only [push_cast, env, Nat.reduceEqDiff, reduceIte, Nat.reduceAdd, Nat.reduceMul, Nat.reduceLeDiff, reduceCtorEq, Nat.reduceSub, Int.reduceToNat, e2] <;> exact rfl) | ((first | apply ow_spec | apply qw_spec); · simp only [push_cast, env, Nat.reduceEqDiff, reduceIte, Nat.reduceAdd, Nat.reduceMul, Nat.reduceLeDiff, reduceCtorEq, Nat.reduceSub, Int.reduceToNat, e2] <;> exact rfl) | refine qw_nil ?_ | refine cw_block ?_ | refine cw_scope ?_ | refine cw_label ?_ | refine cw_skip ?_)
        refine ⟨hlt, s.union ry.rhs[y.dot].set, (by simp only [push_cast, SubL, fget, Nat.reduceEqDiff, reduceIte, BSet.union]), rfl, union_wf hsw hws, fun b hb => ?_⟩
        rw [union_has, Bool.or_eq_true, hI b hb, List.take_succ_eq_append_getElem hlt, hy]
        constructor
        · rintro (⟨x, hx, hn⟩ | hn)
          · exact ⟨x, List.mem_append.2 (.inl hx), hn⟩
          · exact ⟨y, List.mem_append.2 (.inr (List.mem_singleton.2 rfl)), ry, _, hry, hsy, c1', hn⟩
        · rintro ⟨x, hx, hn⟩
          rw [List.mem_append, List.mem_singleton] at hx
          rcases hx with hx | rfl
          · exact .inl ⟨x, hx, hn⟩
          · obtain ⟨r', s', w1, w2, w3, w4⟩ := hn
            obtain rfl : ry = r' := Option.some.inj (hry.symm.trans w1)
            rw [hsy] at w2
            cases w2
            exact .inr w4
      · have c1' : ¬ ry.rhs[y.dot].nt < 0 := by simpa using c1
        have hno : ∀ s', ry.rhs[y.dot]? = some s' → s'.nt < 0 → False := fun s' h1 h2 => by rw [hsy] at h1; cases h1; exact c1' h2
        repeat (first | refine cw_seq ?_ | refine cw_region ?_ | refine ow_nil ?_ | ((first | apply ow_cons | apply qw_cons); · simp only [push_cast, env, Nat.reduceEqDiff, reduceIte, Nat.reduceAdd, Nat.reduceMul, Nat.reduceLeDiff, reduceCtorEq, Nat.reduceSub, Int.reduceToNat, e2] <;> exact rfl) | ((first | apply ow_spec | apply qw_spec); · simp only [push_cast, env, Nat.reduceEqDiff, reduceIte, Nat.reduceAdd, Nat.reduceMul, Nat.reduceLeDiff, reduceCtorEq, Nat.reduceSub, Int.reduceToNat, e2] <;> exact rfl) | refine qw_nil ?_ | refine cw_block ?_ | refine cw_scope ?_ | refine cw_label ?_ | refine cw_skip ?_)
        refine ⟨hlt, s, (by simp only [push_cast, SubL, fget, Nat.reduceEqDiff, reduceIte]), rfl, hsw, fun b hb => ?_⟩
        rw [hI b hb, List.take_succ_eq_append_getElem hlt, hy]
        constructor
        · rintro ⟨x, hx, hn⟩
          exact ⟨x, List.mem_append.2 (.inl hx), hn⟩
        · rintro ⟨x, hx, hn⟩
          rw [List.mem_append, List.mem_singleton] at hx
          rcases hx with hx | rfl
          · exact ⟨x, hx, hn⟩
          · obtain ⟨r', s', w1, w2, w3, w4⟩ := hn
            obtain rfl : ry = r' := Option.some.inj (hry.symm.trans w1)
            exact (hno s' w2 w3).elim
    · have d1 : decide ((y.dot : Int) < (ry.rhs.length : Int)) = false := ge_dec hdl
      repeat (first | refine cw_seq ?_ | refine cw_region ?_ | refine ow_nil ?_ | ((first | apply ow_cons | apply qw_cons); · simp only [push_cast, env, Nat.reduceEqDiff, reduceIte, Nat.reduceAdd, Nat.reduceMul, Nat.reduceLeDiff, reduceCtorEq, Nat.reduceSub, Int.reduceToNat, hc, hid3', g1', g2, d1, Nat.mul_one] <;> exact rfl) | ((first | apply ow_spec | apply qw_spec); · simp only [push_cast, env, Nat.reduceEqDiff, reduceIte, Nat.reduceAdd, Nat.reduceMul, Nat.reduceLeDiff, reduceCtorEq, Nat.reduceSub, Int.reduceToNat, hc, hid3', g1', g2, d1, Nat.mul_one] <;> exact rfl) | refine qw_nil ?_ | refine cw_block ?_ | refine cw_scope ?_ | refine cw_label ?_ | refine cw_skip ?_)
      refine cw_condF (by simp only [push_cast, env, Nat.reduceEqDiff, reduceIte, Nat.reduceAdd, Nat.reduceMul, Nat.reduceLeDiff, reduceCtorEq, Nat.reduceSub, Int.reduceToNat] <;> exact rfl) ?_
      have hno : ∀ s', ry.rhs[y.dot]? = some s' → s'.nt < 0 → False := fun s' h1 h2 => hdl (List.getElem?_eq_some_iff.1 h1).1
      repeat (first | refine cw_seq ?_ | refine cw_region ?_ | refine ow_nil ?_ | ((first | apply ow_cons | apply qw_cons); · simp only [push_cast, env, Nat.reduceEqDiff, reduceIte, Nat.reduceAdd, Nat.reduceMul, Nat.reduceLeDiff, reduceCtorEq, Nat.reduceSub, Int.reduceToNat, e2] <;> exact rfl) | ((first | apply ow_spec | apply qw_spec); · simp only [push_cast, env, Nat.reduceEqDiff, reduceIte, Nat.reduceAdd, Nat.reduceMul, Nat.reduceLeDiff, reduceCtorEq, Nat.reduceSub, Int.reduceToNat, e2] <;> exact rfl) | refine qw_nil ?_ | refine cw_block ?_ | refine cw_scope ?_ | refine cw_label ?_ | refine cw_skip ?_)
      refine ⟨hlt, s, (by simp only [push_cast, SubL, fget, Nat.reduceEqDiff, reduceIte]), rfl, hsw, fun b hb => ?_⟩
      rw [hI b hb, List.take_succ_eq_append_getElem hlt, hy]
      constructor
      · rintro ⟨x, hx, hn⟩
        exact ⟨x, List.mem_append.2 (.inl hx), hn⟩
      · rintro ⟨x, hx, hn⟩
        rw [List.mem_append, List.mem_singleton] at hx
        rcases hx with hx | rfl
        · exact ⟨x, hx, hn⟩
        · obtain ⟨r', s', w1, w2, w3, w4⟩ := hn
          obtain rfl : ry = r' := Option.some.inj (hry.symm.trans w1)
          exact (hno s' w2 w3).elim
  · have e3 := ge_dec hlt
    obtain rfl : i = (gs G.S w.length).length := by omega
    repeat (first | refine cw_seq ?_ | refine cw_region ?_ | refine ow_nil ?_ | ((first | apply ow_cons | apply qw_cons); · simp only [push_cast, env, Nat.reduceEqDiff, reduceIte, Nat.reduceAdd, Nat.reduceMul, Nat.reduceLeDiff, reduceCtorEq, Nat.reduceSub, Int.reduceToNat, e3] <;> exact rfl) | ((first | apply ow_spec | apply qw_spec); · simp only [push_cast, env, Nat.reduceEqDiff, reduceIte, Nat.reduceAdd, Nat.reduceMul, Nat.reduceLeDiff, reduceCtorEq, Nat.reduceSub, Int.reduceToNat, e3] <;> exact rfl) | refine qw_nil ?_ | refine cw_block ?_ | refine cw_scope ?_ | refine cw_label ?_ | refine cw_skip ?_)
    refine cw_condF (by simp only [push_cast, env, Nat.reduceEqDiff, reduceIte, Nat.reduceAdd, Nat.reduceMul, Nat.reduceLeDiff, reduceCtorEq, Nat.reduceSub, Int.reduceToNat] <;> exact rfl) ?_
    refine cw_exit ?_
    show CW _ _ _ _
    rw [List.take_length] at hI
    repeat (first | refine cw_seq ?_ | refine cw_region ?_ | refine ow_nil ?_ | ((first | apply ow_cons | apply qw_cons); · simp only [push_cast, env, Nat.reduceEqDiff, reduceIte, Nat.reduceAdd, Nat.reduceMul, Nat.reduceLeDiff, reduceCtorEq, Nat.reduceSub, Int.reduceToNat] <;> exact rfl) | ((first | apply ow_spec | apply qw_spec); · simp only [push_cast, env, Nat.reduceEqDiff, reduceIte, Nat.reduceAdd, Nat.reduceMul, Nat.reduceLeDiff, reduceCtorEq, Nat.reduceSub, Int.reduceToNat] <;> exact rfl) | refine qw_nil ?_ | refine cw_block ?_ | refine cw_scope ?_ | refine cw_label ?_ | refine cw_skip ?_)
    refine cw_ret ?_
    exact ⟨_, (by simp only [push_cast, env, Nat.reduceEqDiff, reduceIte, Nat.reduceAdd, Nat.reduceMul, Nat.reduceLeDiff, reduceCtorEq, Nat.reduceSub, Int.reduceToNat] <;> exact rfl), ⟨s, by rw [hf]; rfl, hsw, fun h => absurd hf h, fun _ => ⟨m, G.S, hm, hg1 ▸ C, fun b hb => hg1 ▸ hI b hb⟩⟩, hp1.trans K.p⟩
end Go.Proofs.Ytafncpgiibikcaa

/- Spans. -/
namespace Go.Proofs.Ytafncpgiibikcaa
set_option linter.unusedSimpArgs false
set_option linter.unusedVariables false
set_option maxRecDepth 20000
open Go.RowKit Am Ty

abbrev ptr0 (a : Nat) : Value := .pointer (some ⟨a, 0, some 0⟩)
def RdItems (h : Heap) (v : Value) (l : List Item) : Prop := SlR h v l.length (l.flatMap Item.cells) 57 24
/-- what the closure sees -/
structure SpC (h : Heap) (g : Gram) (nt : Int) (a b : Nat) : Prop where
  a : ∃ st p c, h[a]? = some (.arr [i64 g.nts, i64 st, .slice p g.rules.length c] 0 true 24) ∧ RdRules h (.slice p g.rules.length c) g.rules
  b : h[b]? = some (.arr [i64 nt] 0 true 3)
theorem SpC.mono {h h' : Heap} {g : Gram} {nt : Int} {a b : Nat} (s : SpC h g nt a b) (hp : h <+: h') : SpC h' g nt a b := by
  obtain ⟨⟨st, p, c, h1, h2⟩, h3⟩ := s
  exact ⟨⟨st, p, c, getElem?_of_prefix hp h1, h2.mono hp⟩, getElem?_of_prefix hp h3⟩
set_option maxHeartbeats 2000000 in
theorem spans1_fw {h : Heap} {g : Gram} {nt : Int} {a b : Nat} {x : Item} (hC : SpC h g nt a b) (hx : x.rule < g.rules.length) : FW env 42 [x.val, ptr0 a, ptr0 b] h fun r h' => r = .bool (accI g nt x) ∧ h' = h := by
  obtain ⟨⟨st, p, c, ha, hu⟩, hb⟩ := hC
  obtain ⟨id3, ver3, own3, c3, cells3, p3, n3, c4, hv3, hid3, hn3, hrd3, hu3⟩ := hu.at hx
  cases hv3
  subst hn3
  have g2 := rng hx
  have hry : g.rules[x.rule]? = some g.rules[x.rule] := List.getElem?_eq_getElem hx
  have hac : accI g nt x = (decide (g.rules[x.rule].lhs = nt) && decide ((x.frm : Int) = 0) && decide ((x.dot : Int) = (g.rules[x.rule].rhs.length : Int))) := by
    unfold accI
    rw [hry]
    simp only
    rw [Bool.and_assoc, show decide ((x.frm : Int) = 0) = decide (x.frm = 0) by rw [decide_eq_decide]; omega, show decide ((x.dot : Int) = (g.rules[x.rule].rhs.length : Int)) = decide (x.dot = g.rules[x.rule].rhs.length) by rw [decide_eq_decide]; omega]
  rw [hac]
  refine fw_enter (fn := Try.f42) Try.func42 rfl (by kernel_rfl) (by simp [Try.ntmps42]) ?_; simp only [push_cast]
  repeat (first | refine cw_seq ?_ | refine cw_region ?_ | refine ow_nil ?_ | ((first | apply ow_cons | apply qw_cons); · simp only [push_cast, env, Nat.reduceEqDiff, reduceIte, Nat.reduceAdd, Nat.reduceMul, Nat.reduceLeDiff, reduceCtorEq, Nat.reduceSub, Int.reduceToNat, ha, hb, hid3, hrd3, g2] <;> exact rfl) | ((first | apply ow_spec | apply qw_spec); · simp only [push_cast, env, Nat.reduceEqDiff, reduceIte, Nat.reduceAdd, Nat.reduceMul, Nat.reduceLeDiff, reduceCtorEq, Nat.reduceSub, Int.reduceToNat, ha, hb, hid3, hrd3, g2] <;> exact rfl) | refine qw_nil ?_ | refine cw_block ?_ | refine cw_scope ?_ | refine cw_label ?_ | refine cw_skip ?_)
  refine cw_ret ?_
  exact ⟨_, (by simp only [push_cast, env, Nat.reduceEqDiff, reduceIte, Nat.reduceAdd, Nat.reduceMul, Nat.reduceLeDiff, reduceCtorEq, Nat.reduceSub, Int.reduceToNat] <;> exact rfl), rfl, rfl⟩
set_option maxHeartbeats 2000000 in
theorem index_fw {h : Heap} {g : Gram} {nt : Int} {a b : Nat} {v : Value} {l : List Item} (hC : SpC h g nt a b) (hl : RdItems h v l) (hx : ∀ x ∈ l, x.rule < g.rules.length) :
    FW env 56 [v, .func (.func 42) #[] #[ptr0 a, ptr0 b]] h fun r h' => (∃ n : Int, r = i64 n ∧ (decide (0 ≤ n) = l.any (accI g nt))) ∧ h' = h := by
  obtain ⟨p, c, rfl⟩ := SlR.form hl
  have hle : l.length ≤ 140737488355328 := by have := hl.1; omega
  refine fw_enter (fn := Try.f56) Try.func56 rfl (by kernel_rfl) (by simp [Try.ntmps56]) ?_; simp only [push_cast]
  repeat (first | refine cw_seq ?_ | refine cw_region ?_ | refine ow_nil ?_ | ((first | apply ow_cons | apply qw_cons); · simp only [push_cast, env, Nat.reduceEqDiff, reduceIte, Nat.reduceAdd, Nat.reduceMul, Nat.reduceLeDiff, reduceCtorEq, Nat.reduceSub, Int.reduceToNat] <;> exact rfl) | ((first | apply ow_spec | apply qw_spec); · simp only [push_cast, env, Nat.reduceEqDiff, reduceIte, Nat.reduceAdd, Nat.reduceMul, Nat.reduceLeDiff, reduceCtorEq, Nat.reduceSub, Int.reduceToNat] <;> exact rfl) | refine qw_nil ?_ | refine cw_block ?_ | refine cw_scope ?_ | refine cw_label ?_ | refine cw_skip ?_)
  refine cw_for l.length (fun k => [(0, .val (.slice p l.length c)), (1, .val (.func (.func 42) #[] #[ptr0 a, ptr0 b])), (7, .val (i64 l.length)), (8, .val (i64 k))]) (fun _ => h) (fun k => ∀ x ∈ l.take k, accI g nt x = false) (by simp only [push_cast, SubL, fget, Nat.reduceEqDiff, reduceIte]) rfl (fun x hx => by simp at hx) ?_
  intro k hk hI
  by_cases hlt : k < l.length
  · have e1 := rng hlt
    have e2 := inc hlt (by omega)
    have e3 := lt_dec hlt
    obtain ⟨id, ver, own, c', hv, hid⟩ := SlR.at hl (by omega)
    cases hv
    have hrd := rdH_flatMap (f := Item.cells) (k := 3) (fun _ => rfl) l k l[k] (by simp [hlt])
    unfold Item.cells at hrd hid
    have hm : l[k] ∈ l := List.getElem_mem hlt
    generalize hy : l[k] = y at hrd hm
    repeat (first | refine cw_seq ?_ | refine cw_region ?_ | refine ow_nil ?_ | ((first | apply ow_cons | apply qw_cons); · simp only [push_cast, env, Nat.reduceEqDiff, reduceIte, Nat.reduceAdd, Nat.reduceMul, Nat.reduceLeDiff, reduceCtorEq, Nat.reduceSub, Int.reduceToNat, e3] <;> exact rfl) | ((first | apply ow_spec | apply qw_spec); · simp only [push_cast, env, Nat.reduceEqDiff, reduceIte, Nat.reduceAdd, Nat.reduceMul, Nat.reduceLeDiff, reduceCtorEq, Nat.reduceSub, Int.reduceToNat, e3] <;> exact rfl) | refine qw_nil ?_ | refine cw_block ?_ | refine cw_scope ?_ | refine cw_label ?_ | refine cw_skip ?_)
    refine cw_condT (by simp only [push_cast, env, Nat.reduceEqDiff, reduceIte, Nat.reduceAdd, Nat.reduceMul, Nat.reduceLeDiff, reduceCtorEq, Nat.reduceSub, Int.reduceToNat] <;> exact rfl) ?_
    repeat (first | refine cw_seq ?_ | refine cw_region ?_ | refine ow_nil ?_ | ((first | apply ow_cons | apply qw_cons); · simp only [push_cast, env, Nat.reduceEqDiff, reduceIte, Nat.reduceAdd, Nat.reduceMul, Nat.reduceLeDiff, reduceCtorEq, Nat.reduceSub, Int.reduceToNat, e1, hid, hrd] <;> exact rfl) | ((first | apply ow_spec | apply qw_spec); · simp only [push_cast, env, Nat.reduceEqDiff, reduceIte, Nat.reduceAdd, Nat.reduceMul, Nat.reduceLeDiff, reduceCtorEq, Nat.reduceSub, Int.reduceToNat, e1, hid, hrd] <;> exact rfl) | refine qw_nil ?_ | refine cw_block ?_ | refine cw_scope ?_ | refine cw_label ?_ | refine cw_skip ?_)
    refine ow_call (fn := Try.f42) (by simp only [push_cast, env, Nat.reduceEqDiff, reduceIte, Nat.reduceAdd, Nat.reduceMul, Nat.reduceLeDiff, reduceCtorEq, Nat.reduceSub, Int.reduceToNat] <;> exact rfl) rfl (by simp only [push_cast, env, Nat.reduceEqDiff, reduceIte, Nat.reduceAdd, Nat.reduceMul, Nat.reduceLeDiff, reduceCtorEq, Nat.reduceSub, Int.reduceToNat] <;> exact rfl) (by simp only [push_cast, env, Nat.reduceEqDiff, reduceIte, Nat.reduceAdd, Nat.reduceMul, Nat.reduceLeDiff, reduceCtorEq, Nat.reduceSub, Int.reduceToNat] <;> exact rfl) Try.func42 (by kernel_rfl) (by kernel_rfl) ?_
    refine (spans1_fw (x := y) hC (hx y hm)).mono ?_
    rintro _ h ⟨rfl, rfl⟩
    repeat (first | refine cw_seq ?_ | refine cw_region ?_ | refine ow_nil ?_ | ((first | apply ow_cons | apply qw_cons); · simp only [push_cast, env, Nat.reduceEqDiff, reduceIte, Nat.reduceAdd, Nat.reduceMul, Nat.reduceLeDiff, reduceCtorEq, Nat.reduceSub, Int.reduceToNat] <;> exact rfl) | ((first | apply ow_spec | apply qw_spec); · simp only [push_cast, env, Nat.reduceEqDiff, reduceIte, Nat.reduceAdd, Nat.reduceMul, Nat.reduceLeDiff, reduceCtorEq, Nat.reduceSub, Int.reduceToNat] <;> exact rfl) | refine qw_nil ?_ | refine cw_block ?_ | refine cw_scope ?_ | refine cw_label ?_ | refine cw_skip ?_)
    refine cw_cond (by simp only [push_cast, env, Nat.reduceEqDiff, reduceIte, Nat.reduceAdd, Nat.reduceMul, Nat.reduceLeDiff, reduceCtorEq, Nat.reduceSub, Int.reduceToNat] <;> exact rfl) (fun c1 => ?_) (fun c1 => ?_)
    · repeat (first | refine cw_seq ?_ | refine cw_region ?_ | refine ow_nil ?_ | ((first | apply ow_cons | apply qw_cons); · simp only [push_cast, env, Nat.reduceEqDiff, reduceIte, Nat.reduceAdd, Nat.reduceMul, Nat.reduceLeDiff, reduceCtorEq, Nat.reduceSub, Int.reduceToNat] <;> exact rfl) | ((first | apply ow_spec | apply qw_spec); · simp only [push_cast, env, Nat.reduceEqDiff, reduceIte, Nat.reduceAdd, Nat.reduceMul, Nat.reduceLeDiff, reduceCtorEq, Nat.reduceSub, Int.reduceToNat] <;> exact rfl) | refine qw_nil ?_ | refine cw_block ?_ | refine cw_scope ?_ | refine cw_label ?_ | refine cw_skip ?_)
      refine cw_ret ?_
      refine ⟨_, (by simp only [push_cast, env, Nat.reduceEqDiff, reduceIte, Nat.reduceAdd, Nat.reduceMul, Nat.reduceLeDiff, reduceCtorEq, Nat.reduceSub, Int.reduceToNat] <;> exact rfl), ⟨k, rfl, ?_⟩, rfl⟩
      rw [decide_eq_true (Int.natCast_nonneg k), eq_comm, List.any_eq_true]
      exact ⟨y, hm, c1⟩
    · repeat (first | refine cw_seq ?_ | refine cw_region ?_ | refine ow_nil ?_ | ((first | apply ow_cons | apply qw_cons); · simp only [push_cast, env, Nat.reduceEqDiff, reduceIte, Nat.reduceAdd, Nat.reduceMul, Nat.reduceLeDiff, reduceCtorEq, Nat.reduceSub, Int.reduceToNat, e2] <;> exact rfl) | ((first | apply ow_spec | apply qw_spec); · simp only [push_cast, env, Nat.reduceEqDiff, reduceIte, Nat.reduceAdd, Nat.reduceMul, Nat.reduceLeDiff, reduceCtorEq, Nat.reduceSub, Int.reduceToNat, e2] <;> exact rfl) | refine qw_nil ?_ | refine cw_block ?_ | refine cw_scope ?_ | refine cw_label ?_ | refine cw_skip ?_)
      refine ⟨hlt, (by simp only [push_cast, SubL, fget, Nat.reduceEqDiff, reduceIte]), rfl, fun x hx => ?_⟩
      rw [List.take_succ_eq_append_getElem hlt, List.mem_append, List.mem_singleton] at hx
      rcases hx with hx | rfl
      · exact hI x hx
      · rw [hy]; exact c1
  · have e3 := ge_dec hlt
    obtain rfl : k = l.length := by omega
    repeat (first | refine cw_seq ?_ | refine cw_region ?_ | refine ow_nil ?_ | ((first | apply ow_cons | apply qw_cons); · simp only [push_cast, env, Nat.reduceEqDiff, reduceIte, Nat.reduceAdd, Nat.reduceMul, Nat.reduceLeDiff, reduceCtorEq, Nat.reduceSub, Int.reduceToNat, e3] <;> exact rfl) | ((first | apply ow_spec | apply qw_spec); · simp only [push_cast, env, Nat.reduceEqDiff, reduceIte, Nat.reduceAdd, Nat.reduceMul, Nat.reduceLeDiff, reduceCtorEq, Nat.reduceSub, Int.reduceToNat, e3] <;> exact rfl) | refine qw_nil ?_ | refine cw_block ?_ | refine cw_scope ?_ | refine cw_label ?_ | refine cw_skip ?_)
    refine cw_condF (by simp only [push_cast, env, Nat.reduceEqDiff, reduceIte, Nat.reduceAdd, Nat.reduceMul, Nat.reduceLeDiff, reduceCtorEq, Nat.reduceSub, Int.reduceToNat] <;> exact rfl) ?_
    refine cw_exit ?_
    show CW _ _ _ _
    rw [List.take_length] at hI
    repeat (first | refine cw_seq ?_ | refine cw_region ?_ | refine ow_nil ?_ | ((first | apply ow_cons | apply qw_cons); · simp only [push_cast, env, Nat.reduceEqDiff, reduceIte, Nat.reduceAdd, Nat.reduceMul, Nat.reduceLeDiff, reduceCtorEq, Nat.reduceSub, Int.reduceToNat] <;> exact rfl) | ((first | apply ow_spec | apply qw_spec); · simp only [push_cast, env, Nat.reduceEqDiff, reduceIte, Nat.reduceAdd, Nat.reduceMul, Nat.reduceLeDiff, reduceCtorEq, Nat.reduceSub, Int.reduceToNat] <;> exact rfl) | refine qw_nil ?_ | refine cw_block ?_ | refine cw_scope ?_ | refine cw_label ?_ | refine cw_skip ?_)
    refine cw_ret ?_
    refine ⟨_, (by simp only [push_cast, env, Nat.reduceEqDiff, reduceIte, Nat.reduceAdd, Nat.reduceMul, Nat.reduceLeDiff, reduceCtorEq, Nat.reduceSub, Int.reduceToNat] <;> exact rfl), ⟨-1, rfl, ?_⟩, rfl⟩
    rw [decide_eq_false (by omega), eq_comm, List.any_eq_false]
    exact fun x hx => by rw [hI x hx]; simp
theorem contains_fw {h : Heap} {g : Gram} {nt : Int} {a b : Nat} {v : Value} {l : List Item} (hC : SpC h g nt a b) (hl : RdItems h v l) (hx : ∀ x ∈ l, x.rule < g.rules.length) :
    FW env 41 [v, .func (.func 42) #[] #[ptr0 a, ptr0 b]] h fun r h' => r = .bool (l.any (accI g nt)) ∧ h' = h := by
  obtain ⟨p, c, rfl⟩ := SlR.form hl
  refine fw_enter (fn := Try.f41) Try.func41 rfl (by kernel_rfl) (by simp [Try.ntmps41]) ?_; simp only [push_cast]
  repeat (first | refine cw_seq ?_ | refine cw_region ?_ | refine ow_nil ?_ | ((first | apply ow_cons | apply qw_cons); · simp only [push_cast, env, Nat.reduceEqDiff, reduceIte, Nat.reduceAdd, Nat.reduceMul, Nat.reduceLeDiff, reduceCtorEq, Nat.reduceSub, Int.reduceToNat] <;> exact rfl) | ((first | apply ow_spec | apply qw_spec); · simp only [push_cast, env, Nat.reduceEqDiff, reduceIte, Nat.reduceAdd, Nat.reduceMul, Nat.reduceLeDiff, reduceCtorEq, Nat.reduceSub, Int.reduceToNat] <;> exact rfl) | refine qw_nil ?_ | refine cw_block ?_ | refine cw_scope ?_ | refine cw_label ?_ | refine cw_skip ?_)
  refine ow_call (fn := Try.f56) (by simp only [push_cast, env, Nat.reduceEqDiff, reduceIte, Nat.reduceAdd, Nat.reduceMul, Nat.reduceLeDiff, reduceCtorEq, Nat.reduceSub, Int.reduceToNat] <;> exact rfl) rfl (by simp only [push_cast, env, Nat.reduceEqDiff, reduceIte, Nat.reduceAdd, Nat.reduceMul, Nat.reduceLeDiff, reduceCtorEq, Nat.reduceSub, Int.reduceToNat] <;> exact rfl) (by simp only [push_cast, env, Nat.reduceEqDiff, reduceIte, Nat.reduceAdd, Nat.reduceMul, Nat.reduceLeDiff, reduceCtorEq, Nat.reduceSub, Int.reduceToNat] <;> exact rfl) Try.func56 (by kernel_rfl) (by kernel_rfl) ?_
  rw [List.append_nil]
  refine (index_fw hC hl hx).mono ?_
  rintro _ h ⟨⟨n, rfl, hn⟩, rfl⟩
  repeat (first | refine cw_seq ?_ | refine cw_region ?_ | refine ow_nil ?_ | ((first | apply ow_cons | apply qw_cons); · simp only [push_cast, env, Nat.reduceEqDiff, reduceIte, Nat.reduceAdd, Nat.reduceMul, Nat.reduceLeDiff, reduceCtorEq, Nat.reduceSub, Int.reduceToNat, hn] <;> exact rfl) | ((first | apply ow_spec | apply qw_spec); · simp only [push_cast, env, Nat.reduceEqDiff, reduceIte, Nat.reduceAdd, Nat.reduceMul, Nat.reduceLeDiff, reduceCtorEq, Nat.reduceSub, Int.reduceToNat, hn] <;> exact rfl) | refine qw_nil ?_ | refine cw_block ?_ | refine cw_scope ?_ | refine cw_label ?_ | refine cw_skip ?_)
  refine cw_ret ?_
  exact ⟨_, (by simp only [push_cast, env, Nat.reduceEqDiff, reduceIte, Nat.reduceAdd, Nat.reduceMul, Nat.reduceLeDiff, reduceCtorEq, Nat.reduceSub, Int.reduceToNat] <;> exact rfl), rfl, rfl⟩
/-! ### runs -/
def runCells (l : List (Nat × Nat)) : List Value := l.flatMap fun p => [i64 p.1, i64 p.2]
open Classical in
noncomputable def ntB (R : List Rule) (A : Int) (w : List Nat) (i j : Nat) : Bool := decide (NtTx R A (sub w i j))
open Classical in
theorem ntB_iff {R : List Rule} {A : Int} {w : List Nat} {i j : Nat} : ntB R A w i j = true ↔ NtTx R A (sub w i j) := by
  unfold ntB
  exact decide_eq_true_iff
def spanRow (P : Nat → Nat → Bool) (lo k : Nat) : List (Nat × Nat) := ((List.range k).filter fun j => P lo (lo + j)).map fun j => (lo, lo + j)
def spanAll (P : Nat → Nat → Bool) (n k : Nat) : List (Nat × Nat) := (List.range k).flatMap fun lo => spanRow P lo (n + 1 - lo)
theorem spanRow_succ {P : Nat → Nat → Bool} {lo k : Nat} : spanRow P lo (k + 1) = spanRow P lo k ++ if P lo (lo + k) = true then [(lo, lo + k)] else [] := by
  unfold spanRow
  rw [List.range_succ, List.filter_append, List.map_append, List.filter_cons]
  split <;> simp
theorem spanAll_succ {P : Nat → Nat → Bool} {n k : Nat} : spanAll P n (k + 1) = spanAll P n k ++ spanRow P k (n + 1 - k) := by
  unfold spanAll
  rw [List.range_succ, List.flatMap_append]
  simp
theorem spanRow_len {P : Nat → Nat → Bool} {lo k : Nat} : (spanRow P lo k).length ≤ k := by
  unfold spanRow
  rw [List.length_map]
  exact Nat.le_trans (List.length_filter_le _ _) (by simp)
theorem spanAll_len {P : Nat → Nat → Bool} {n : Nat} : ∀ k, (spanAll P n k).length ≤ k * (n + 1)
  | 0 => by simp [spanAll]
  | k + 1 => by
    have h1 := spanAll_len (P := P) (n := n) k
    have h2 := spanRow_len (P := P) (lo := k) (k := n + 1 - k)
    rw [spanAll_succ, List.length_append, Nat.succ_mul]
    omega
theorem sub_drop {w : List Nat} {lo j : Nat} : sub (w.drop lo) 0 j = sub w lo (lo + j) := by
  unfold sub
  rw [List.drop_zero, show lo + j - lo = j - 0 by omega]
/-- but for runs all is as it was -/
def KeepR (h h' : Heap) : Prop := ∀ (i : Nat) (o : HObj), (∀ (cs : List Value) (v : Nat), o ≠ HObj.arr cs v true 50) → h[i]? = some o → h'[i]? = some o
theorem SlR.kept {h h' : Heap} {v : Value} {n b : Nat} {cells : List Value} {et : TypeId} (hs : SlR h v n cells et b) (k : KeepR h h') (he : et ≠ 50) : SlR h' v n cells et b := by
  refine ⟨hs.1, ?_⟩
  rcases hs.2 with h1 | ⟨id, ver, own, c, rfl, h2⟩
  · exact .inl h1
  · exact .inr ⟨id, ver, own, c, rfl, k _ _ (fun cs v e => he (by cases e; rfl)) h2⟩
def SpansR (g : Gram) (w : List Nat) (nt : Int) (h : Heap) (r : Value) (h' : Heap) : Prop := ∃ x e, r = .tuple #[x, i64 e] ∧
  ((fitE g w ≠ 0 ∧ x = nilS ∧ e = fitE g w) ∨ (fitE g w = 0 ∧ (nt < 0 ∨ g.nts ≤ nt) ∧ x = nilS ∧ e = 1) ∨
   (fitE g w = 0 ∧ 0 ≤ nt ∧ nt < g.nts ∧ e = 0 ∧ Grow h h' x (spanAll (ntB g.rules nt w) w.length (w.length + 1)).length (runCells (spanAll (ntB g.rules nt w) w.length (w.length + 1))) 50))
set_option maxHeartbeats 8000000 in
theorem spans_fw {h : Heap} {g : Gram} {v wv : Value} {w : List Nat} {nt : Int} (hr : RdGram h v g) (hwR : RdB h wv w) (W : WfG g) : FW env 19 [v, wv, i64 nt] h fun r h' => SpansR g w nt h r h' ∧ h <+: h' := by
  obtain ⟨u, rfl, hu⟩ := id hr
  obtain ⟨p, c, rfl⟩ := hu.form
  obtain ⟨pw, cw, rfl⟩ := hwR.form
  refine fw_enter (fn := Try.f19) Try.func19 rfl (by kernel_rfl) (by simp [Try.ntmps19]) ?_; simp only [push_cast]
  repeat (first | refine cw_seq ?_ | refine cw_region ?_ | refine ow_nil ?_ | refine qw_nil ?_ | refine cw_block ?_ | refine cw_scope ?_ | refine cw_label ?_ | refine cw_skip ?_)
  refine ow_boxH (by simp only [push_cast, env, Nat.reduceEqDiff, reduceIte, Nat.reduceAdd, Nat.reduceMul, Nat.reduceLeDiff, reduceCtorEq, Nat.reduceSub, Int.reduceToNat] <;> exact rfl) (by simp only [push_cast, env, Nat.reduceEqDiff, reduceIte, Nat.reduceAdd, Nat.reduceMul, Nat.reduceLeDiff, reduceCtorEq, Nat.reduceSub, Int.reduceToNat] <;> exact rfl) ?_
  refine ow_boxH (by simp only [push_cast, env, Nat.reduceEqDiff, reduceIte, Nat.reduceAdd, Nat.reduceMul, Nat.reduceLeDiff, reduceCtorEq, Nat.reduceSub, Int.reduceToNat] <;> exact rfl) (by simp only [push_cast, env, Nat.reduceEqDiff, reduceIte, Nat.reduceAdd, Nat.reduceMul, Nat.reduceLeDiff, reduceCtorEq, Nat.reduceSub, Int.reduceToNat] <;> exact rfl) ?_
  simp only [St.putO, St.put]
  simp only [List.length_append, List.length_cons, List.length_nil, Nat.zero_add, List.append_assoc, List.cons_append, List.nil_append]
  obtain ⟨H2, hH2⟩ : ∃ H2, H2 = h ++ [HObj.arr [i64 g.nts, i64 g.start, .slice p g.rules.length c] 0 true 24, HObj.arr [i64 nt] 0 true 3] := ⟨_, rfl⟩
  have q1 : H2[h.length]? = some (HObj.arr [i64 g.nts, i64 g.start, .slice p g.rules.length c] 0 true 24) := by rw [hH2]; simp
  have q2 : H2[h.length + 1]? = some (HObj.arr [i64 nt] 0 true 3) := by rw [hH2, List.getElem?_append_right (by omega)]; simp
  have hp2 : h <+: H2 := by rw [hH2]; exact List.prefix_append _ _
  rw [← hH2]
  clear hH2
  have hr1 := hr.mono hp2
  have hwR1 := hwR.mono hp2
  repeat (first | refine cw_seq ?_ | refine cw_region ?_ | refine ow_nil ?_ | ((first | apply ow_cons | apply qw_cons); · simp only [push_cast, env, Nat.reduceEqDiff, reduceIte, Nat.reduceAdd, Nat.reduceMul, Nat.reduceLeDiff, reduceCtorEq, Nat.reduceSub, Int.reduceToNat, q1, q2] <;> exact rfl) | ((first | apply ow_spec | apply qw_spec); · simp only [push_cast, env, Nat.reduceEqDiff, reduceIte, Nat.reduceAdd, Nat.reduceMul, Nat.reduceLeDiff, reduceCtorEq, Nat.reduceSub, Int.reduceToNat, q1, q2] <;> exact rfl) | refine qw_nil ?_ | refine cw_block ?_ | refine cw_scope ?_ | refine cw_label ?_ | refine cw_skip ?_)
  refine ow_call (fn := Try.f36) (by simp only [push_cast, env, Nat.reduceEqDiff, reduceIte, Nat.reduceAdd, Nat.reduceMul, Nat.reduceLeDiff, reduceCtorEq, Nat.reduceSub, Int.reduceToNat] <;> exact rfl) rfl (by simp only [push_cast, env, Nat.reduceEqDiff, reduceIte, Nat.reduceAdd, Nat.reduceMul, Nat.reduceLeDiff, reduceCtorEq, Nat.reduceSub, Int.reduceToNat] <;> exact rfl) (by simp only [push_cast, env, Nat.reduceEqDiff, reduceIte, Nat.reduceAdd, Nat.reduceMul, Nat.reduceLeDiff, reduceCtorEq, Nat.reduceSub, Int.reduceToNat] <;> exact rfl) Try.func36 (by kernel_rfl) (by kernel_rfl) ?_
  rw [List.append_nil]
  refine (fit_fw hr1 hwR1).mono ?_
  rintro _ H2 ⟨rfl, rfl⟩
  by_cases hf : ¬ fitE g w = 0
  · have df : decide (fitE g w = 0) = false := decide_eq_false hf
    repeat (first | refine cw_seq ?_ | refine cw_region ?_ | refine ow_nil ?_ | ((first | apply ow_cons | apply qw_cons); · simp only [push_cast, env, Nat.reduceEqDiff, reduceIte, Nat.reduceAdd, Nat.reduceMul, Nat.reduceLeDiff, reduceCtorEq, Nat.reduceSub, Int.reduceToNat, df] <;> exact rfl) | ((first | apply ow_spec | apply qw_spec); · simp only [push_cast, env, Nat.reduceEqDiff, reduceIte, Nat.reduceAdd, Nat.reduceMul, Nat.reduceLeDiff, reduceCtorEq, Nat.reduceSub, Int.reduceToNat, df] <;> exact rfl) | refine qw_nil ?_ | refine cw_block ?_ | refine cw_scope ?_ | refine cw_label ?_ | refine cw_skip ?_)
    refine cw_condT (by simp only [push_cast, env, Nat.reduceEqDiff, reduceIte, Nat.reduceAdd, Nat.reduceMul, Nat.reduceLeDiff, reduceCtorEq, Nat.reduceSub, Int.reduceToNat, df] <;> exact rfl) ?_
    repeat (first | refine cw_seq ?_ | refine cw_region ?_ | refine ow_nil ?_ | ((first | apply ow_cons | apply qw_cons); · simp only [push_cast, env, Nat.reduceEqDiff, reduceIte, Nat.reduceAdd, Nat.reduceMul, Nat.reduceLeDiff, reduceCtorEq, Nat.reduceSub, Int.reduceToNat] <;> exact rfl) | ((first | apply ow_spec | apply qw_spec); · simp only [push_cast, env, Nat.reduceEqDiff, reduceIte, Nat.reduceAdd, Nat.reduceMul, Nat.reduceLeDiff, reduceCtorEq, Nat.reduceSub, Int.reduceToNat] <;> exact rfl) | refine qw_nil ?_ | refine cw_block ?_ | refine cw_scope ?_ | refine cw_label ?_ | refine cw_skip ?_)
    refine cw_ret ?_
    exact ⟨_, (by simp only [push_cast, env, Nat.reduceEqDiff, reduceIte, Nat.reduceAdd, Nat.reduceMul, Nat.reduceLeDiff, reduceCtorEq, Nat.reduceSub, Int.reduceToNat] <;> exact rfl), ⟨nilS, fitE g w, rfl, .inl ⟨hf, rfl, rfl⟩⟩, hp2⟩
  replace hf : fitE g w = 0 := Classical.not_not.1 hf
  obtain ⟨hb, hw⟩ := fitE_ok.1 hf
  have R := rightS hb
  rw [hf]
  repeat (first | refine cw_seq ?_ | refine cw_region ?_ | refine ow_nil ?_ | ((first | apply ow_cons | apply qw_cons); · simp only [push_cast, env, Nat.reduceEqDiff, reduceIte, Nat.reduceAdd, Nat.reduceMul, Nat.reduceLeDiff, reduceCtorEq, Nat.reduceSub, Int.reduceToNat] <;> exact rfl) | ((first | apply ow_spec | apply qw_spec); · simp only [push_cast, env, Nat.reduceEqDiff, reduceIte, Nat.reduceAdd, Nat.reduceMul, Nat.reduceLeDiff, reduceCtorEq, Nat.reduceSub, Int.reduceToNat] <;> exact rfl) | refine qw_nil ?_ | refine cw_block ?_ | refine cw_scope ?_ | refine cw_label ?_ | refine cw_skip ?_)
  refine cw_condF (by simp only [push_cast, env, Nat.reduceEqDiff, reduceIte, Nat.reduceAdd, Nat.reduceMul, Nat.reduceLeDiff, reduceCtorEq, Nat.reduceSub, Int.reduceToNat] <;> exact rfl) ?_
  by_cases hn0 : nt < 0 ∨ g.nts ≤ nt
  · have d1 : (decide (nt < 0) || decide (g.nts ≤ nt)) = true := by simpa using hn0
    repeat (first | refine cw_seq ?_ | refine cw_region ?_ | refine ow_nil ?_ | ((first | apply ow_cons | apply qw_cons); · simp only [push_cast, env, Nat.reduceEqDiff, reduceIte, Nat.reduceAdd, Nat.reduceMul, Nat.reduceLeDiff, reduceCtorEq, Nat.reduceSub, Int.reduceToNat, q1, q2] <;> exact rfl) | ((first | apply ow_spec | apply qw_spec); · simp only [push_cast, env, Nat.reduceEqDiff, reduceIte, Nat.reduceAdd, Nat.reduceMul, Nat.reduceLeDiff, reduceCtorEq, Nat.reduceSub, Int.reduceToNat, q1, q2] <;> exact rfl) | refine qw_nil ?_ | refine cw_block ?_ | refine cw_scope ?_ | refine cw_label ?_ | refine cw_skip ?_)
    refine cw_condT (by simp only [push_cast, env, Nat.reduceEqDiff, reduceIte, Nat.reduceAdd, Nat.reduceMul, Nat.reduceLeDiff, reduceCtorEq, Nat.reduceSub, Int.reduceToNat, d1] <;> exact rfl) ?_
    repeat (first | refine cw_seq ?_ | refine cw_region ?_ | refine ow_nil ?_ | ((first | apply ow_cons | apply qw_cons); · simp only [push_cast, env, Nat.reduceEqDiff, reduceIte, Nat.reduceAdd, Nat.reduceMul, Nat.reduceLeDiff, reduceCtorEq, Nat.reduceSub, Int.reduceToNat] <;> exact rfl) | ((first | apply ow_spec | apply qw_spec); · simp only [push_cast, env, Nat.reduceEqDiff, reduceIte, Nat.reduceAdd, Nat.reduceMul, Nat.reduceLeDiff, reduceCtorEq, Nat.reduceSub, Int.reduceToNat] <;> exact rfl) | refine qw_nil ?_ | refine cw_block ?_ | refine cw_scope ?_ | refine cw_label ?_ | refine cw_skip ?_)
    refine cw_ret ?_
    exact ⟨_, (by simp only [push_cast, env, Nat.reduceEqDiff, reduceIte, Nat.reduceAdd, Nat.reduceMul, Nat.reduceLeDiff, reduceCtorEq, Nat.reduceSub, Int.reduceToNat] <;> exact rfl), ⟨nilS, 1, rfl, .inr (.inl ⟨hf, hn0, rfl, rfl⟩)⟩, hp2⟩
  have d1 : (decide (nt < 0) || decide (g.nts ≤ nt)) = false := by simpa using hn0
  repeat (first | refine cw_seq ?_ | refine cw_region ?_ | refine ow_nil ?_ | ((first | apply ow_cons | apply qw_cons); · simp only [push_cast, env, Nat.reduceEqDiff, reduceIte, Nat.reduceAdd, Nat.reduceMul, Nat.reduceLeDiff, reduceCtorEq, Nat.reduceSub, Int.reduceToNat, q1, q2] <;> exact rfl) | ((first | apply ow_spec | apply qw_spec); · simp only [push_cast, env, Nat.reduceEqDiff, reduceIte, Nat.reduceAdd, Nat.reduceMul, Nat.reduceLeDiff, reduceCtorEq, Nat.reduceSub, Int.reduceToNat, q1, q2] <;> exact rfl) | refine qw_nil ?_ | refine cw_block ?_ | refine cw_scope ?_ | refine cw_label ?_ | refine cw_skip ?_)
  refine cw_condF (by simp only [push_cast, env, Nat.reduceEqDiff, reduceIte, Nat.reduceAdd, Nat.reduceMul, Nat.reduceLeDiff, reduceCtorEq, Nat.reduceSub, Int.reduceToNat, d1] <;> exact rfl) ?_
  repeat (first | refine cw_seq ?_ | refine cw_region ?_ | refine ow_nil ?_ | ((first | apply ow_cons | apply qw_cons); · simp only [push_cast, env, Nat.reduceEqDiff, reduceIte, Nat.reduceAdd, Nat.reduceMul, Nat.reduceLeDiff, reduceCtorEq, Nat.reduceSub, Int.reduceToNat, q1, q2] <;> exact rfl) | ((first | apply ow_spec | apply qw_spec); · simp only [push_cast, env, Nat.reduceEqDiff, reduceIte, Nat.reduceAdd, Nat.reduceMul, Nat.reduceLeDiff, reduceCtorEq, Nat.reduceSub, Int.reduceToNat, q1, q2] <;> exact rfl) | refine qw_nil ?_ | refine cw_block ?_ | refine cw_scope ?_ | refine cw_label ?_ | refine cw_skip ?_)
  refine ow_stoH (cells' := [i64 g.nts, i64 nt, .slice p g.rules.length c]) (by simp only [push_cast, env, Nat.reduceEqDiff, reduceIte, Nat.reduceAdd, Nat.reduceMul, Nat.reduceLeDiff, reduceCtorEq, Nat.reduceSub, Int.reduceToNat] <;> exact rfl) rfl rfl (by simp only [push_cast, env, Nat.reduceEqDiff, reduceIte, Nat.reduceAdd, Nat.reduceMul, Nat.reduceLeDiff, reduceCtorEq, Nat.reduceSub, Int.reduceToNat] <;> exact rfl) (by simp only [push_cast, env, Nat.reduceEqDiff, reduceIte, Nat.reduceAdd, Nat.reduceMul, Nat.reduceLeDiff, reduceCtorEq, Nat.reduceSub, Int.reduceToNat] <;> exact rfl) q1 (by simp only [push_cast, env, Nat.reduceEqDiff, reduceIte, Nat.reduceAdd, Nat.reduceMul, Nat.reduceLeDiff, reduceCtorEq, Nat.reduceSub, Int.reduceToNat] <;> exact rfl) rfl rfl ?_
  have q3 := get_set_self (x := HObj.arr [i64 g.nts, i64 nt, .slice p g.rules.length c] 0 true 24) q1
  have q4 : (H2.set h.length (HObj.arr [i64 g.nts, i64 nt, .slice p g.rules.length c] 0 true 24))[h.length + 1]? = some (HObj.arr [i64 nt] 0 true 3) := by rw [get_set_ne (by omega)]; exact q2
  have hp3 : h <+: H2.set h.length (HObj.arr [i64 g.nts, i64 nt, .slice p g.rules.length c] 0 true 24) := pre_set hp2 (Nat.le_refl _)
  obtain ⟨H3, hH3⟩ : ∃ H3, H3 = H2.set h.length (HObj.arr [i64 g.nts, i64 nt, .slice p g.rules.length c] 0 true 24) := ⟨_, rfl⟩
  show OW _ _ _ ⟨_, _, H2.set h.length (HObj.arr [i64 g.nts, i64 nt, .slice p g.rules.length c] 0 true 24)⟩ _
  rw [← hH3] at q3 q4 hp3 ⊢
  clear q1 q2 hp2 hr1 hwR1 hH3
  repeat (first | refine cw_seq ?_ | refine cw_region ?_ | refine ow_nil ?_ | ((first | apply ow_cons | apply qw_cons); · simp only [push_cast, env, Nat.reduceEqDiff, reduceIte, Nat.reduceAdd, Nat.reduceMul, Nat.reduceLeDiff, reduceCtorEq, Nat.reduceSub, Int.reduceToNat] <;> exact rfl) | ((first | apply ow_spec | apply qw_spec); · simp only [push_cast, env, Nat.reduceEqDiff, reduceIte, Nat.reduceAdd, Nat.reduceMul, Nat.reduceLeDiff, reduceCtorEq, Nat.reduceSub, Int.reduceToNat] <;> exact rfl) | refine qw_nil ?_ | refine cw_block ?_ | refine cw_scope ?_ | refine cw_label ?_ | refine cw_skip ?_)
  refine cw_forG (w.length + 1) (fun lo (x : Heap × Value) => [(1, .val (.slice pw w.length cw)), (3, .val (ptr0 h.length)), (5, .val (ptr0 (h.length + 1))), (9, .val x.2), (10, .val (i64 lo))]) (fun _ x => x.1)
    (fun lo x => h <+: x.1 ∧ x.1[h.length]? = some (HObj.arr [i64 g.nts, i64 nt, .slice p g.rules.length c] 0 true 24) ∧ x.1[h.length + 1]? = some (HObj.arr [i64 nt] 0 true 3) ∧
      Grow h x.1 x.2 (spanAll (ntB g.rules nt w) w.length lo).length (runCells (spanAll (ntB g.rules nt w) w.length lo)) 50) (H3, nilS) (by simp only [push_cast, SubL, fget, Nat.reduceEqDiff, reduceIte]) rfl ⟨hp3, q3, q4, Grow.nil⟩ ?_
  clear hp3 q3 q4 H3
  rintro lo ⟨hk, out⟩ hlo ⟨hp, q3, q4, hG⟩
  simp only at hp q3 q4 hG ⊢
  by_cases hlt : lo < w.length + 1
  · have e3 : decide ((lo : Int) ≤ (w.length : Int)) = true := decide_eq_true (by omega)
    have e2 : IntKind.i64.wrap ((lo : Int) + 1) = ((lo : Int) + 1) := wrap64_id (by omega) (by omega)
    repeat (first | refine cw_seq ?_ | refine cw_region ?_ | refine ow_nil ?_ | ((first | apply ow_cons | apply qw_cons); · simp only [push_cast, env, Nat.reduceEqDiff, reduceIte, Nat.reduceAdd, Nat.reduceMul, Nat.reduceLeDiff, reduceCtorEq, Nat.reduceSub, Int.reduceToNat, e3] <;> exact rfl) | ((first | apply ow_spec | apply qw_spec); · simp only [push_cast, env, Nat.reduceEqDiff, reduceIte, Nat.reduceAdd, Nat.reduceMul, Nat.reduceLeDiff, reduceCtorEq, Nat.reduceSub, Int.reduceToNat, e3] <;> exact rfl) | refine qw_nil ?_ | refine cw_block ?_ | refine cw_scope ?_ | refine cw_label ?_ | refine cw_skip ?_)
    refine cw_condT (by simp only [push_cast, env, Nat.reduceEqDiff, reduceIte, Nat.reduceAdd, Nat.reduceMul, Nat.reduceLeDiff, reduceCtorEq, Nat.reduceSub, Int.reduceToNat] <;> exact rfl) ?_
    repeat (first | refine cw_seq ?_ | refine cw_region ?_ | refine ow_nil ?_ | ((first | apply ow_cons | apply qw_cons); · simp only [push_cast, env, Nat.reduceEqDiff, reduceIte, Nat.reduceAdd, Nat.reduceMul, Nat.reduceLeDiff, reduceCtorEq, Nat.reduceSub, Int.reduceToNat] <;> exact rfl) | ((first | apply ow_spec | apply qw_spec); · simp only [push_cast, env, Nat.reduceEqDiff, reduceIte, Nat.reduceAdd, Nat.reduceMul, Nat.reduceLeDiff, reduceCtorEq, Nat.reduceSub, Int.reduceToNat] <;> exact rfl) | refine qw_nil ?_ | refine cw_block ?_ | refine cw_scope ?_ | refine cw_label ?_ | refine cw_skip ?_)
    have hwk := hwR.mono hp
    obtain ⟨v', hsl, hw'⟩ := rdb_slice (lo := lo) (hi := w.length) hwk (by omega) (Nat.le_refl _)
    have hsube : sub w lo w.length = w.drop lo := by unfold sub; rw [List.take_of_length_le (by simp)]
    rw [hsube] at hw'
    obtain ⟨pv', cv', rfl⟩ := hw'.form
    have hrk : RdGram hk (.agg #[i64 g.nts, i64 nt, .slice p g.rules.length c]) ⟨g.nts, nt, g.rules⟩ := ⟨_, rfl, hu.mono hp⟩
    have Rk : RightS ⟨g.nts, nt, g.rules⟩ := ⟨R.n1, R.n2, by simp only; omega, by simp only; omega, R.rl, R.r⟩
    refine cw_regionD 4 mixed (by kernel_rfl) ?_
    repeat (first | refine cw_seq ?_ | refine cw_region ?_ | refine ow_nil ?_ | ((first | apply ow_cons | apply qw_cons); · simp only [push_cast, env, Nat.reduceEqDiff, reduceIte, Nat.reduceAdd, Nat.reduceMul, Nat.reduceLeDiff, reduceCtorEq, Nat.reduceSub, Int.reduceToNat, q3] <;> exact rfl) | ((first | apply ow_spec | apply qw_spec); · simp only [push_cast, env, Nat.reduceEqDiff, reduceIte, Nat.reduceAdd, Nat.reduceMul, Nat.reduceLeDiff, reduceCtorEq, Nat.reduceSub, Int.reduceToNat, q3] <;> exact rfl) | refine qw_nil ?_ | refine cw_block ?_ | refine cw_scope ?_ | refine cw_label ?_ | refine cw_skip ?_)
    refine qw_slice (v := .slice pv' (w.drop lo).length cv') (by simp only [push_cast, env, Nat.reduceEqDiff, reduceIte, Nat.reduceAdd, Nat.reduceMul, Nat.reduceLeDiff, reduceCtorEq, Nat.reduceSub, Int.reduceToNat] <;> exact rfl) rfl (hsl _ _ _ _ rfl (by simp only [push_cast, env, Nat.reduceEqDiff, reduceIte, Nat.reduceAdd, Nat.reduceMul, Nat.reduceLeDiff, reduceCtorEq, Nat.reduceSub, Int.reduceToNat] <;> exact rfl) (by simp only [push_cast, env, Nat.reduceEqDiff, reduceIte, Nat.reduceAdd, Nat.reduceMul, Nat.reduceLeDiff, reduceCtorEq, Nat.reduceSub, Int.reduceToNat] <;> exact rfl) (by simp only [push_cast, env, Nat.reduceEqDiff, reduceIte, Nat.reduceAdd, Nat.reduceMul, Nat.reduceLeDiff, reduceCtorEq, Nat.reduceSub, Int.reduceToNat] <;> exact rfl)) ?_
    repeat (first | refine cw_seq ?_ | refine cw_region ?_ | refine ow_nil ?_ | ((first | apply ow_cons | apply qw_cons); · simp only [push_cast, env, Nat.reduceEqDiff, reduceIte, Nat.reduceAdd, Nat.reduceMul, Nat.reduceLeDiff, reduceCtorEq, Nat.reduceSub, Int.reduceToNat] <;> exact rfl) | ((first | apply ow_spec | apply qw_spec); · simp only [push_cast, env, Nat.reduceEqDiff, reduceIte, Nat.reduceAdd, Nat.reduceMul, Nat.reduceLeDiff, reduceCtorEq, Nat.reduceSub, Int.reduceToNat] <;> exact rfl) | refine qw_nil ?_ | refine cw_block ?_ | refine cw_scope ?_ | refine cw_label ?_ | refine cw_skip ?_)
    refine ow_call (fn := Try.f37) (by simp only [push_cast, env, Nat.reduceEqDiff, reduceIte, Nat.reduceAdd, Nat.reduceMul, Nat.reduceLeDiff, reduceCtorEq, Nat.reduceSub, Int.reduceToNat] <;> exact rfl) rfl (by simp only [push_cast, env, Nat.reduceEqDiff, reduceIte, Nat.reduceAdd, Nat.reduceMul, Nat.reduceLeDiff, reduceCtorEq, Nat.reduceSub, Int.reduceToNat] <;> exact rfl) (by simp only [push_cast, env, Nat.reduceEqDiff, reduceIte, Nat.reduceAdd, Nat.reduceMul, Nat.reduceLeDiff, reduceCtorEq, Nat.reduceSub, Int.reduceToNat] <;> exact rfl) Try.func37 (by kernel_rfl) (by kernel_rfl) ?_
    rw [List.append_nil]
    refine (open_fw hrk hw' Rk W (by simp; omega)).mono ?_
    rintro _ h' ⟨hB, rv, F, G, rfl, rfl, K, C, hrv⟩
    obtain ⟨g', hg'⟩ : ∃ g' : Gram, g' = ⟨g.nts, nt, g.rules⟩ := ⟨_, rfl⟩
    rw [← hg'] at K C
    have hrl : g'.rules = g.rules := by rw [hg']
    have hst : g'.start = nt := by rw [hg']
    have hnt : g'.nts = g.nts := by rw [hg']
    have hC : SpC G.h g' nt h.length (h.length + 1) := ⟨⟨nt, p, c, by rw [hrl, hnt]; exact getElem?_of_prefix K.p q3, by rw [hrl]; exact (hu.mono hp).mono K.p⟩, getElem?_of_prefix K.p q4⟩
    have hpG := hp.trans K.p
    have hGG : Grow h G.h out (spanAll (ntB g.rules nt w) w.length lo).length (runCells (spanAll (ntB g.rules nt w) w.length lo)) 50 := hG.mono fun i o _ ho => getElem?_of_prefix K.p ho
    have q3' := getElem?_of_prefix K.p q3
    have q4' := getElem?_of_prefix K.p q4
    have hSl := C.n
    rw [List.length_drop] at hSl
    have hc := K.c
    have hs := K.s
    unfold chCells at hc
    have hall := spanAll_len (P := ntB g.rules nt w) (n := w.length) lo
    have hall2 : lo * (w.length + 1) ≤ 513 * 513 := Nat.mul_le_mul (by omega) (by omega)
    have hruns : ∀ x ∈ G.S, True := fun _ _ => trivial
    have hbnd : ∀ j, j < G.S.length → ∀ x ∈ gs G.S j, x.rule < g'.rules.length := fun j hj x hx => by
      obtain ⟨r, h1, _⟩ := ((C.m j x).1 hx).sound
      exact (List.getElem?_eq_some_iff.1 h1).1
    have hany : ∀ j, j < G.S.length → (gs G.S j).any (accI g' nt) = ntB g.rules nt w lo (lo + j) := fun j hj => by
      have h1 := acc_iff C (j := j) (by rw [List.length_drop]; omega)
      rw [sub_drop, hst, hrl] at h1
      rw [Bool.eq_iff_iff, List.any_eq_true, ntB_iff]
      exact h1
    repeat (first | refine cw_seq ?_ | refine cw_region ?_ | refine ow_nil ?_ | ((first | apply ow_cons | apply qw_cons); · simp only [push_cast, env, Nat.reduceEqDiff, reduceIte, Nat.reduceAdd, Nat.reduceMul, Nat.reduceLeDiff, reduceCtorEq, Nat.reduceSub, Int.reduceToNat, hc] <;> exact rfl) | ((first | apply ow_spec | apply qw_spec); · simp only [push_cast, env, Nat.reduceEqDiff, reduceIte, Nat.reduceAdd, Nat.reduceMul, Nat.reduceLeDiff, reduceCtorEq, Nat.reduceSub, Int.reduceToNat, hc] <;> exact rfl) | refine qw_nil ?_ | refine cw_block ?_ | refine cw_scope ?_ | refine cw_label ?_ | refine cw_skip ?_)
    refine cw_forG G.S.length (fun j (x : Heap × Value) => [(1, .val (.slice pw w.length cw)), (3, .val (ptr0 h.length)), (5, .val (ptr0 (h.length + 1))), (9, .val x.2), (10, .val (i64 lo)), (44, .val (.slice (some ⟨F.si, 0, some 0⟩) G.S.length G.S.length)), (45, .val (i64 G.S.length)), (46, .val (i64 j))]) (fun _ x => x.1)
      (fun j x => KeepR G.h x.1 ∧ h <+: x.1 ∧ Grow h x.1 x.2 (spanAll (ntB g.rules nt w) w.length lo ++ spanRow (ntB g.rules nt w) lo j).length (runCells (spanAll (ntB g.rules nt w) w.length lo ++ spanRow (ntB g.rules nt w) lo j)) 50) (G.h, out) (by simp only [push_cast, SubL, fget, Nat.reduceEqDiff, reduceIte]) rfl ⟨fun _ _ _ h => h, hpG, by rw [show spanRow (ntB g.rules nt w) lo 0 = [] from rfl, List.append_nil]; exact hGG⟩ ?_
    rintro j ⟨hj, out⟩ hjn ⟨kp, hpj, hGj⟩
    simp only at kp hpj hGj ⊢
    by_cases hlt2 : j < G.S.length
    · have f2 := inc hlt2 (by omega)
      have f3 := lt_dec hlt2
      have f1 := rng hlt2
      obtain ⟨u2, cu2, hu2, gu2⟩ := K.us_at hlt2
      have hsm := C.small (hg' ▸ Rk) (by simp; omega) (k := j) (by rw [List.length_drop]; omega)
      have hI : RdItems hj (.slice u2 (gs G.S j).length cu2) (gs G.S j) := SlR.kept (gu2.sl (b := 24) (by omega)) kp (by decide)
      have hCj : SpC hj g' nt h.length (h.length + 1) := ⟨⟨nt, p, c, by rw [hrl, hnt]; exact kp _ _ (fun cs v e => by cases e) q3', by rw [hrl]; exact hu.mono hpj⟩, kp _ _ (fun cs v e => by cases e) q4'⟩
      have hs2 := kp _ _ (fun cs v e => by cases e) hs
      have e5 : IntKind.i64.wrap ((lo : Int) + (j : Int)) = ((lo + j : Nat) : Int) := by rw [wrap64_id (by omega) (by omega)]; rfl
      repeat (first | refine cw_seq ?_ | refine cw_region ?_ | refine ow_nil ?_ | ((first | apply ow_cons | apply qw_cons); · simp only [push_cast, env, Nat.reduceEqDiff, reduceIte, Nat.reduceAdd, Nat.reduceMul, Nat.reduceLeDiff, reduceCtorEq, Nat.reduceSub, Int.reduceToNat, f3] <;> exact rfl) | ((first | apply ow_spec | apply qw_spec); · simp only [push_cast, env, Nat.reduceEqDiff, reduceIte, Nat.reduceAdd, Nat.reduceMul, Nat.reduceLeDiff, reduceCtorEq, Nat.reduceSub, Int.reduceToNat, f3] <;> exact rfl) | refine qw_nil ?_ | refine cw_block ?_ | refine cw_scope ?_ | refine cw_label ?_ | refine cw_skip ?_)
      refine cw_condT (by simp only [push_cast, env, Nat.reduceEqDiff, reduceIte, Nat.reduceAdd, Nat.reduceMul, Nat.reduceLeDiff, reduceCtorEq, Nat.reduceSub, Int.reduceToNat] <;> exact rfl) ?_
      repeat (first | refine cw_seq ?_ | refine cw_region ?_ | refine ow_nil ?_ | ((first | apply ow_cons | apply qw_cons); · simp only [push_cast, env, Nat.reduceEqDiff, reduceIte, Nat.reduceAdd, Nat.reduceMul, Nat.reduceLeDiff, reduceCtorEq, Nat.reduceSub, Int.reduceToNat, hs2, f1, hu2, Nat.mul_one] <;> exact rfl) | ((first | apply ow_spec | apply qw_spec); · simp only [push_cast, env, Nat.reduceEqDiff, reduceIte, Nat.reduceAdd, Nat.reduceMul, Nat.reduceLeDiff, reduceCtorEq, Nat.reduceSub, Int.reduceToNat, hs2, f1, hu2, Nat.mul_one] <;> exact rfl) | refine qw_nil ?_ | refine cw_block ?_ | refine cw_scope ?_ | refine cw_label ?_ | refine cw_skip ?_)
      refine ow_call (fn := Try.f41) (by simp only [push_cast, env, Nat.reduceEqDiff, reduceIte, Nat.reduceAdd, Nat.reduceMul, Nat.reduceLeDiff, reduceCtorEq, Nat.reduceSub, Int.reduceToNat] <;> exact rfl) rfl (by simp only [push_cast, env, Nat.reduceEqDiff, reduceIte, Nat.reduceAdd, Nat.reduceMul, Nat.reduceLeDiff, reduceCtorEq, Nat.reduceSub, Int.reduceToNat] <;> exact rfl) (by simp only [push_cast, env, Nat.reduceEqDiff, reduceIte, Nat.reduceAdd, Nat.reduceMul, Nat.reduceLeDiff, reduceCtorEq, Nat.reduceSub, Int.reduceToNat] <;> exact rfl) Try.func41 (by kernel_rfl) (by kernel_rfl) ?_
      rw [List.append_nil]
      refine (contains_fw hCj hI (hbnd j hlt2)).mono ?_
      rintro _ hj ⟨rfl, rfl⟩
      rw [hany j hlt2]
      have hrow := spanRow_succ (P := ntB g.rules nt w) (lo := lo) (k := j)
      have hrlen := spanRow_len (P := ntB g.rules nt w) (lo := lo) (k := j)
      cases hb2 : ntB g.rules nt w lo (lo + j) with
      | true =>
        rw [hb2, if_pos rfl] at hrow
        obtain ⟨po, co, rfl⟩ := hGj.form
        repeat (first | refine cw_seq ?_ | refine cw_region ?_ | refine ow_nil ?_ | ((first | apply ow_cons | apply qw_cons); · simp only [push_cast, env, Nat.reduceEqDiff, reduceIte, Nat.reduceAdd, Nat.reduceMul, Nat.reduceLeDiff, reduceCtorEq, Nat.reduceSub, Int.reduceToNat] <;> exact rfl) | ((first | apply ow_spec | apply qw_spec); · simp only [push_cast, env, Nat.reduceEqDiff, reduceIte, Nat.reduceAdd, Nat.reduceMul, Nat.reduceLeDiff, reduceCtorEq, Nat.reduceSub, Int.reduceToNat] <;> exact rfl) | refine qw_nil ?_ | refine cw_block ?_ | refine cw_scope ?_ | refine cw_label ?_ | refine cw_skip ?_)
        refine cw_condT (by simp only [push_cast, env, Nat.reduceEqDiff, reduceIte, Nat.reduceAdd, Nat.reduceMul, Nat.reduceLeDiff, reduceCtorEq, Nat.reduceSub, Int.reduceToNat] <;> exact rfl) ?_
        repeat (first | refine cw_seq ?_ | refine cw_region ?_ | refine ow_nil ?_ | ((first | apply ow_cons | apply qw_cons); · simp only [push_cast, env, Nat.reduceEqDiff, reduceIte, Nat.reduceAdd, Nat.reduceMul, Nat.reduceLeDiff, reduceCtorEq, Nat.reduceSub, Int.reduceToNat, e5] <;> exact rfl) | ((first | apply ow_spec | apply qw_spec); · simp only [push_cast, env, Nat.reduceEqDiff, reduceIte, Nat.reduceAdd, Nat.reduceMul, Nat.reduceLeDiff, reduceCtorEq, Nat.reduceSub, Int.reduceToNat, e5] <;> exact rfl) | refine qw_nil ?_ | refine cw_block ?_ | refine cw_scope ?_ | refine cw_label ?_ | refine cw_skip ?_)
        refine ow_push (t := 33) (by simp only [push_cast, env, Nat.reduceEqDiff, reduceIte, Nat.reduceAdd, Nat.reduceMul, Nat.reduceLeDiff, reduceCtorEq, Nat.reduceSub, Int.reduceToNat] <;> exact rfl) rfl (by kernel_rfl) ti50 (by decide) rfl (by simp only [push_cast, env, Nat.reduceEqDiff, reduceIte, Nat.reduceAdd, Nat.reduceMul, Nat.reduceLeDiff, reduceCtorEq, Nat.reduceSub, Int.reduceToNat] <;> exact rfl) rfl hGj hpj (by unfold runCells; exact flat_len (k := 2) (fun _ => rfl) _) rfl (by simp only [List.length_append]; omega) (by simp only [List.length_append]; omega) ?_
        intro p6 c6 h6 G6 hp6 hk6 hl6
        repeat (first | refine cw_seq ?_ | refine cw_region ?_ | refine ow_nil ?_ | ((first | apply ow_cons | apply qw_cons); · simp only [push_cast, env, Nat.reduceEqDiff, reduceIte, Nat.reduceAdd, Nat.reduceMul, Nat.reduceLeDiff, reduceCtorEq, Nat.reduceSub, Int.reduceToNat, f2] <;> exact rfl) | ((first | apply ow_spec | apply qw_spec); · simp only [push_cast, env, Nat.reduceEqDiff, reduceIte, Nat.reduceAdd, Nat.reduceMul, Nat.reduceLeDiff, reduceCtorEq, Nat.reduceSub, Int.reduceToNat, f2] <;> exact rfl) | refine qw_nil ?_ | refine cw_block ?_ | refine cw_scope ?_ | refine cw_label ?_ | refine cw_skip ?_)
        refine ⟨hlt2, (h6, .slice p6 ((spanAll (ntB g.rules nt w) w.length lo ++ spanRow (ntB g.rules nt w) lo j).length + 1) c6), (by simp only [push_cast, SubL, fget, Nat.reduceEqDiff, reduceIte]), rfl, fun i o ho hi => ?_, hp6, ?_⟩
        · refine hk6 i o ?_ (kp i o ho hi)
          cases hq : isAt (.slice po (spanAll (ntB g.rules nt w) w.length lo ++ spanRow (ntB g.rules nt w) lo j).length co) i with
          | false => rfl
          | true =>
            obtain ⟨ve, h5⟩ := hGj.obj hq
            rw [kp i o ho hi] at h5
            exact (ho _ _ (Option.some.inj h5)).elim
        · simp only
          rw [hrow, ← List.append_assoc, List.length_append (bs := [(lo, lo + j)])]
          have : runCells (spanAll (ntB g.rules nt w) w.length lo ++ spanRow (ntB g.rules nt w) lo j ++ [(lo, lo + j)]) = runCells (spanAll (ntB g.rules nt w) w.length lo ++ spanRow (ntB g.rules nt w) lo j) ++ [i64 lo, i64 ((lo + j : Nat) : Int)] := by
            unfold runCells
            rw [List.flatMap_append]
            rfl
          rw [this]
          exact G6
      | false =>
        rw [hb2, if_neg (by simp), List.append_nil] at hrow
        repeat (first | refine cw_seq ?_ | refine cw_region ?_ | refine ow_nil ?_ | ((first | apply ow_cons | apply qw_cons); · simp only [push_cast, env, Nat.reduceEqDiff, reduceIte, Nat.reduceAdd, Nat.reduceMul, Nat.reduceLeDiff, reduceCtorEq, Nat.reduceSub, Int.reduceToNat] <;> exact rfl) | ((first | apply ow_spec | apply qw_spec); · simp only [push_cast, env, Nat.reduceEqDiff, reduceIte, Nat.reduceAdd, Nat.reduceMul, Nat.reduceLeDiff, reduceCtorEq, Nat.reduceSub, Int.reduceToNat] <;> exact rfl) | refine qw_nil ?_ | refine cw_block ?_ | refine cw_scope ?_ | refine cw_label ?_ | refine cw_skip ?_)
        refine cw_condF (by simp only [push_cast, env, Nat.reduceEqDiff, reduceIte, Nat.reduceAdd, Nat.reduceMul, Nat.reduceLeDiff, reduceCtorEq, Nat.reduceSub, Int.reduceToNat] <;> exact rfl) ?_
        repeat (first | refine cw_seq ?_ | refine cw_region ?_ | refine ow_nil ?_ | ((first | apply ow_cons | apply qw_cons); · simp only [push_cast, env, Nat.reduceEqDiff, reduceIte, Nat.reduceAdd, Nat.reduceMul, Nat.reduceLeDiff, reduceCtorEq, Nat.reduceSub, Int.reduceToNat, f2] <;> exact rfl) | ((first | apply ow_spec | apply qw_spec); · simp only [push_cast, env, Nat.reduceEqDiff, reduceIte, Nat.reduceAdd, Nat.reduceMul, Nat.reduceLeDiff, reduceCtorEq, Nat.reduceSub, Int.reduceToNat, f2] <;> exact rfl) | refine qw_nil ?_ | refine cw_block ?_ | refine cw_scope ?_ | refine cw_label ?_ | refine cw_skip ?_)
        exact ⟨hlt2, (hj, out), (by simp only [push_cast, SubL, fget, Nat.reduceEqDiff, reduceIte]), rfl, kp, hpj, by simp only; rw [hrow]; exact hGj⟩
    · have e3e := ge_dec hlt2
      obtain rfl : j = G.S.length := by omega
      repeat (first | refine cw_seq ?_ | refine cw_region ?_ | refine ow_nil ?_ | ((first | apply ow_cons | apply qw_cons); · simp only [push_cast, env, Nat.reduceEqDiff, reduceIte, Nat.reduceAdd, Nat.reduceMul, Nat.reduceLeDiff, reduceCtorEq, Nat.reduceSub, Int.reduceToNat, e3e] <;> exact rfl) | ((first | apply ow_spec | apply qw_spec); · simp only [push_cast, env, Nat.reduceEqDiff, reduceIte, Nat.reduceAdd, Nat.reduceMul, Nat.reduceLeDiff, reduceCtorEq, Nat.reduceSub, Int.reduceToNat, e3e] <;> exact rfl) | refine qw_nil ?_ | refine cw_block ?_ | refine cw_scope ?_ | refine cw_label ?_ | refine cw_skip ?_)
      refine cw_condF (by simp only [push_cast, env, Nat.reduceEqDiff, reduceIte, Nat.reduceAdd, Nat.reduceMul, Nat.reduceLeDiff, reduceCtorEq, Nat.reduceSub, Int.reduceToNat] <;> exact rfl) ?_
      refine cw_exit ?_
      show CW _ _ _ _
      repeat (first | refine cw_seq ?_ | refine cw_region ?_ | refine ow_nil ?_ | ((first | apply ow_cons | apply qw_cons); · simp only [push_cast, env, Nat.reduceEqDiff, reduceIte, Nat.reduceAdd, Nat.reduceMul, Nat.reduceLeDiff, reduceCtorEq, Nat.reduceSub, Int.reduceToNat, e2] <;> exact rfl) | ((first | apply ow_spec | apply qw_spec); · simp only [push_cast, env, Nat.reduceEqDiff, reduceIte, Nat.reduceAdd, Nat.reduceMul, Nat.reduceLeDiff, reduceCtorEq, Nat.reduceSub, Int.reduceToNat, e2] <;> exact rfl) | refine qw_nil ?_ | refine cw_block ?_ | refine cw_scope ?_ | refine cw_label ?_ | refine cw_skip ?_)
      refine ⟨hlt, (hj, out), (by simp only [push_cast, SubL, fget, Nat.reduceEqDiff, reduceIte]), rfl, hpj, kp _ _ (fun cs v e => by cases e) q3', kp _ _ (fun cs v e => by cases e) q4', ?_⟩
      simp only
      rw [spanAll_succ, show w.length + 1 - lo = G.S.length by omega]
      exact hGj
  · have e3 : decide ((lo : Int) ≤ (w.length : Int)) = false := decide_eq_false (by omega)
    obtain rfl : lo = w.length + 1 := by omega
    have e3 : decide ((w.length : Int) + 1 ≤ (w.length : Int)) = false := decide_eq_false (by omega)
    repeat (first | refine cw_seq ?_ | refine cw_region ?_ | refine ow_nil ?_ | ((first | apply ow_cons | apply qw_cons); · simp only [push_cast, env, Nat.reduceEqDiff, reduceIte, Nat.reduceAdd, Nat.reduceMul, Nat.reduceLeDiff, reduceCtorEq, Nat.reduceSub, Int.reduceToNat, e3] <;> exact rfl) | ((first | apply ow_spec | apply qw_spec); · simp only [push_cast, env, Nat.reduceEqDiff, reduceIte, Nat.reduceAdd, Nat.reduceMul, Nat.reduceLeDiff, reduceCtorEq, Nat.reduceSub, Int.reduceToNat, e3] <;> exact rfl) | refine qw_nil ?_ | refine cw_block ?_ | refine cw_scope ?_ | refine cw_label ?_ | refine cw_skip ?_)
    refine cw_condF (by simp only [push_cast, env, Nat.reduceEqDiff, reduceIte, Nat.reduceAdd, Nat.reduceMul, Nat.reduceLeDiff, reduceCtorEq, Nat.reduceSub, Int.reduceToNat] <;> exact rfl) ?_
    refine cw_exit ?_
    show CW _ _ _ _
    repeat (first | refine cw_seq ?_ | refine cw_region ?_ | refine ow_nil ?_ | ((first | apply ow_cons | apply qw_cons); · simp only [push_cast, env, Nat.reduceEqDiff, reduceIte, Nat.reduceAdd, Nat.reduceMul, Nat.reduceLeDiff, reduceCtorEq, Nat.reduceSub, Int.reduceToNat] <;> exact rfl) | ((first | apply ow_spec | apply qw_spec); · simp only [push_cast, env, Nat.reduceEqDiff, reduceIte, Nat.reduceAdd, Nat.reduceMul, Nat.reduceLeDiff, reduceCtorEq, Nat.reduceSub, Int.reduceToNat] <;> exact rfl) | refine qw_nil ?_ | refine cw_block ?_ | refine cw_scope ?_ | refine cw_label ?_ | refine cw_skip ?_)
    refine cw_ret ?_
    exact ⟨_, (by simp only [push_cast, env, Nat.reduceEqDiff, reduceIte, Nat.reduceAdd, Nat.reduceMul, Nat.reduceLeDiff, reduceCtorEq, Nat.reduceSub, Int.reduceToNat] <;> exact rfl), ⟨out, 0, rfl, .inr (.inr ⟨hf, by omega, by omega, rfl, hG⟩)⟩, hp⟩
end Go.Proofs.Ytafncpgiibikcaa
