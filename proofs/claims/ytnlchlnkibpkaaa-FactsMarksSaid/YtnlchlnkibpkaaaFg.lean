/- CopyGram. -/
import Derived.Test.YtnlchlnkibpkaaaFf
namespace Go.Proofs.Ytnlchlnkibpkaaa
set_option linter.unusedSimpArgs false
set_option linter.unusedVariables false
open Go.RowKit Am Ty
def forGK {G : Type} (n k : Nat) (F : Nat → G → Fr) (H : Nat → G → Heap) (I : Nat → G → Prop) (Q : AX → St → Prop) : AX → St → Prop
  | .normal, s => k < n ∧ ∃ g, SubL (F (k + 1) g) s.fr ∧ s.h = H (k + 1) g ∧ I (k + 1) g
  | e, s => Q e s
theorem cw_forG {N : Env} {G : Type} {c : Code} {s : St} {Q : AX → St → Prop} (n : Nat) (F : Nat → G → Fr) (H : Nat → G → Heap) (I : Nat → G → Prop) (g0 : G) (h0 : SubL (F 0 g0) s.fr) (hh : s.h = H 0 g0) (hI : I 0 g0)
    (hs : ∀ k g, k ≤ n → I k g → CW N c ⟨F k g, [], H k g⟩ (forGK n k F H I Q)) : CW N (.loop c) s Q := by
  refine cw_loop (fun m s => ∃ k g, m = n - k ∧ k ≤ n ∧ SubL (F k g) s.fr ∧ s.h = H k g ∧ I k g) n ⟨0, g0, rfl, Nat.zero_le _, h0, hh, hI⟩ ?_
  rintro m s ⟨k, g, rfl, hk, hf, hh, hI⟩
  refine cw_weakL _ hf ?_
  rw [hh]
  refine (hs k g hk hI).mono fun e s' hq => ?_
  cases e with
  | normal =>
    obtain ⟨h1, g', h2, h3, h4⟩ := hq
    exact ⟨n - (k + 1), by omega, k + 1, g', rfl, by omega, h2, h3, h4⟩
  | exit id => exact hq
  | ret => exact hq
theorem BuiltR.form {h hk : Heap} {u : Value} {l : List Rule} (b : BuiltR h hk u l) : ∃ p c, u = .slice p l.length c := by
  obtain ⟨_, _, us, _, ⟨rfl, rfl⟩ | ⟨id, ver, _, rfl, _⟩⟩ := b
  · exact ⟨_, _, rfl⟩
  · exact ⟨_, _, rfl⟩
structure CG (h : Heap) (l : List Rule) (g : Heap × Option Addr × Nat) : Prop where
  b : BuiltR h g.1 (.slice g.2.1 l.length g.2.2) l
  i : ∀ id ver, Value.slice g.2.1 l.length g.2.2 = .slice (some ⟨id, 0, some ver⟩) l.length l.length → id < g.1.length
theorem copygram_fw {h : Heap} {g : Gram} {v : Value} (hr : RdGram h v g) (hm : g.rules.length ≤ 1000000) :
    FW env 14 [v] h fun r h' => RdGram h' r g ∧ h <+: h' := by
  obtain ⟨u, rfl, hu⟩ := hr
  obtain ⟨p, c, rfl⟩ := hu.form
  have hle := hu.le
  refine fw_enter (fn := Try.f14) Try.func14 rfl (by kernel_rfl) (by simp [Try.ntmps14]) ?_; simp only [push_cast]
  repeat (first | refine cw_seq ?_ | refine cw_region ?_ | refine ow_nil ?_ | (apply ow_cons; · simp only [push_cast, env, Nat.reduceEqDiff, reduceIte, Nat.reduceAdd, Nat.reduceMul, Nat.reduceLeDiff, reduceCtorEq, Bool.false_eq_true, Nat.reduceSub, Int.reduceToNat] <;> exact rfl) | (apply ow_spec; · simp only [push_cast, env, Nat.reduceEqDiff, reduceIte, Nat.reduceAdd, Nat.reduceMul, Nat.reduceLeDiff, reduceCtorEq, Bool.false_eq_true, Nat.reduceSub, Int.reduceToNat] <;> exact rfl) | refine qw_nil ?_ | (apply qw_cons; · simp only [push_cast, env, Nat.reduceEqDiff, reduceIte, Nat.reduceAdd, Nat.reduceMul, Nat.reduceLeDiff, reduceCtorEq, Bool.false_eq_true, Nat.reduceSub, Int.reduceToNat] <;> exact rfl) | (apply qw_spec; · simp only [push_cast, env, Nat.reduceEqDiff, reduceIte, Nat.reduceAdd, Nat.reduceMul, Nat.reduceLeDiff, reduceCtorEq, Bool.false_eq_true, Nat.reduceSub, Int.reduceToNat] <;> exact rfl) | refine cw_block ?_ | refine cw_scope ?_ | refine cw_label ?_ | refine cw_skip ?_)
  refine cw_forG g.rules.length (fun k x => [(1, .box [i64 g.nts, i64 g.start, .slice p g.rules.length c]), (2, .box [i64 0, i64 0, .slice none 0 0]), (3, .box [i64 g.nts, i64 g.start, .slice x.2.1 (g.rules.take k).length x.2.2]), (4, .val (i64 k))]) (fun _ x => x.1)
    (fun k x => CG h (g.rules.take k) x) (h, none, 0) (by simp only [push_cast, SubL, fget, Nat.reduceEqDiff, reduceIte, List.take_zero]) rfl ?_ ?_
  · rw [List.take_zero]
    exact ⟨⟨List.prefix_refl _, by simp, [], rfl, .inl ⟨rfl, rfl⟩⟩, fun id ver e => by simp at e⟩
  · rintro k ⟨hk, q, cc⟩ hkn ⟨hb, hi⟩
    simp only at hb hi ⊢
    have hpre := hb.1
    by_cases hlt : k < g.rules.length
    · obtain ⟨id, ver, own, c', cells, p', n', c2, hv, hid, hn', hrd, hu'⟩ := hu.at hlt
      cases hv
      have hid' := getElem?_prefix hpre hid
      have hu2 := SlR.mono hu' hpre
      have e0 := rdH_get0 hrd (by omega)
      have e0' := rdH_get (j := 1) hrd (by omega)
      simp only [List.getElem?_cons_succ, List.getElem?_cons_zero] at e0 e0'
      have e1 := rng hlt
      have e2 := inc hlt hle
      have e3 := lt_dec hlt
      have htl : (g.rules.take k).length = k := by rw [List.length_take]; omega
      repeat (first | refine cw_seq ?_ | refine cw_region ?_ | refine ow_nil ?_ | (apply ow_cons; · simp only [push_cast, env, Nat.reduceEqDiff, reduceIte, Nat.reduceAdd, Nat.reduceMul, Nat.reduceLeDiff, reduceCtorEq, Bool.false_eq_true, Nat.reduceSub, Int.reduceToNat, e1, hid', e0, e0', e3] <;> exact rfl) | (apply ow_spec; · simp only [push_cast, env, Nat.reduceEqDiff, reduceIte, Nat.reduceAdd, Nat.reduceMul, Nat.reduceLeDiff, reduceCtorEq, Bool.false_eq_true, Nat.reduceSub, Int.reduceToNat, e1, hid', e0, e0', e3] <;> exact rfl) | refine qw_nil ?_ | (apply qw_cons; · simp only [push_cast, env, Nat.reduceEqDiff, reduceIte, Nat.reduceAdd, Nat.reduceMul, Nat.reduceLeDiff, reduceCtorEq, Bool.false_eq_true, Nat.reduceSub, Int.reduceToNat, e1, hid', e0, e0', e3] <;> exact rfl) | (apply qw_spec; · simp only [push_cast, env, Nat.reduceEqDiff, reduceIte, Nat.reduceAdd, Nat.reduceMul, Nat.reduceLeDiff, reduceCtorEq, Bool.false_eq_true, Nat.reduceSub, Int.reduceToNat, e1, hid', e0, e0', e3] <;> exact rfl) | refine cw_block ?_ | refine cw_scope ?_ | refine cw_label ?_ | refine cw_skip ?_)
      refine cw_condT (by simp only [push_cast, env, Nat.reduceEqDiff, reduceIte, Nat.reduceAdd, Nat.reduceMul, Nat.reduceLeDiff, reduceCtorEq, Bool.false_eq_true, Nat.reduceSub, Int.reduceToNat] <;> exact rfl) ?_
      repeat (first | refine cw_seq ?_ | refine cw_region ?_ | refine ow_nil ?_ | (apply ow_cons; · simp only [push_cast, env, Nat.reduceEqDiff, reduceIte, Nat.reduceAdd, Nat.reduceMul, Nat.reduceLeDiff, reduceCtorEq, Bool.false_eq_true, Nat.reduceSub, Int.reduceToNat, e1, hid', e0, e0'] <;> exact rfl) | (apply ow_spec; · simp only [push_cast, env, Nat.reduceEqDiff, reduceIte, Nat.reduceAdd, Nat.reduceMul, Nat.reduceLeDiff, reduceCtorEq, Bool.false_eq_true, Nat.reduceSub, Int.reduceToNat, e1, hid', e0, e0'] <;> exact rfl) | refine qw_nil ?_ | (apply qw_cons; · simp only [push_cast, env, Nat.reduceEqDiff, reduceIte, Nat.reduceAdd, Nat.reduceMul, Nat.reduceLeDiff, reduceCtorEq, Bool.false_eq_true, Nat.reduceSub, Int.reduceToNat, e1, hid', e0, e0'] <;> exact rfl) | (apply qw_spec; · simp only [push_cast, env, Nat.reduceEqDiff, reduceIte, Nat.reduceAdd, Nat.reduceMul, Nat.reduceLeDiff, reduceCtorEq, Bool.false_eq_true, Nat.reduceSub, Int.reduceToNat, e1, hid', e0, e0'] <;> exact rfl) | refine cw_block ?_ | refine cw_scope ?_ | refine cw_label ?_ | refine cw_skip ?_)
      refine cw_regionD 8 mixed (by kernel_rfl) ?_
      repeat (first | refine cw_seq ?_ | refine cw_region ?_ | refine ow_nil ?_ | (apply ow_cons; · simp only [push_cast, env, Nat.reduceEqDiff, reduceIte, Nat.reduceAdd, Nat.reduceMul, Nat.reduceLeDiff, reduceCtorEq, Bool.false_eq_true, Nat.reduceSub, Int.reduceToNat, e1, hid', e0, e0'] <;> exact rfl) | (apply ow_spec; · simp only [push_cast, env, Nat.reduceEqDiff, reduceIte, Nat.reduceAdd, Nat.reduceMul, Nat.reduceLeDiff, reduceCtorEq, Bool.false_eq_true, Nat.reduceSub, Int.reduceToNat, e1, hid', e0, e0'] <;> exact rfl) | refine qw_nil ?_ | (apply qw_cons; · simp only [push_cast, env, Nat.reduceEqDiff, reduceIte, Nat.reduceAdd, Nat.reduceMul, Nat.reduceLeDiff, reduceCtorEq, Bool.false_eq_true, Nat.reduceSub, Int.reduceToNat, e1, hid', e0, e0'] <;> exact rfl) | (apply qw_spec; · simp only [push_cast, env, Nat.reduceEqDiff, reduceIte, Nat.reduceAdd, Nat.reduceMul, Nat.reduceLeDiff, reduceCtorEq, Bool.false_eq_true, Nat.reduceSub, Int.reduceToNat, e1, hid', e0, e0'] <;> exact rfl) | refine cw_block ?_ | refine cw_scope ?_ | refine cw_label ?_ | refine cw_skip ?_)
      refine ow_copysyms (by simp only [push_cast, env, Nat.reduceEqDiff, reduceIte, Nat.reduceAdd, Nat.reduceMul, Nat.reduceLeDiff, reduceCtorEq, Bool.false_eq_true, Nat.reduceSub, Int.reduceToNat] <;> exact rfl) rfl (by simp only [push_cast, env, Nat.reduceEqDiff, reduceIte, Nat.reduceAdd, Nat.reduceMul, Nat.reduceLeDiff, reduceCtorEq, Bool.false_eq_true, Nat.reduceSub, Int.reduceToNat] <;> exact rfl) (by simp only [push_cast, env, Nat.reduceEqDiff, reduceIte, Nat.reduceAdd, Nat.reduceMul, Nat.reduceLeDiff, reduceCtorEq, Bool.false_eq_true, Nat.reduceSub, Int.reduceToNat] <;> exact rfl) hu2 ?_
      rintro v1 p1 c1 h1 rfl hp1 hN
      repeat (first | refine cw_seq ?_ | refine cw_region ?_ | refine ow_nil ?_ | (apply ow_cons; · simp only [push_cast, env, Nat.reduceEqDiff, reduceIte, Nat.reduceAdd, Nat.reduceMul, Nat.reduceLeDiff, reduceCtorEq, Bool.false_eq_true, Nat.reduceSub, Int.reduceToNat] <;> exact rfl) | (apply ow_spec; · simp only [push_cast, env, Nat.reduceEqDiff, reduceIte, Nat.reduceAdd, Nat.reduceMul, Nat.reduceLeDiff, reduceCtorEq, Bool.false_eq_true, Nat.reduceSub, Int.reduceToNat] <;> exact rfl) | refine qw_nil ?_ | (apply qw_cons; · simp only [push_cast, env, Nat.reduceEqDiff, reduceIte, Nat.reduceAdd, Nat.reduceMul, Nat.reduceLeDiff, reduceCtorEq, Bool.false_eq_true, Nat.reduceSub, Int.reduceToNat] <;> exact rfl) | (apply qw_spec; · simp only [push_cast, env, Nat.reduceEqDiff, reduceIte, Nat.reduceAdd, Nat.reduceMul, Nat.reduceLeDiff, reduceCtorEq, Bool.false_eq_true, Nat.reduceSub, Int.reduceToNat] <;> exact rfl) | refine cw_block ?_ | refine cw_scope ?_ | refine cw_label ?_ | refine cw_skip ?_)
      refine ow_apprule (r := g.rules[k]) (nid := hk.length) (by simp only [push_cast, env, Nat.reduceEqDiff, reduceIte, Nat.reduceAdd, Nat.reduceMul, Nat.reduceLeDiff, reduceCtorEq, Bool.false_eq_true, Nat.reduceSub, Int.reduceToNat] <;> exact rfl) rfl (by simp only [push_cast, env, Nat.reduceEqDiff, reduceIte, Nat.reduceAdd, Nat.reduceMul, Nat.reduceLeDiff, reduceCtorEq, Bool.false_eq_true, Nat.reduceSub, Int.reduceToNat] <;> exact rfl) (by simp only [push_cast, env, Nat.reduceEqDiff, reduceIte, Nat.reduceAdd, Nat.reduceMul, Nat.reduceLeDiff, reduceCtorEq, Bool.false_eq_true, Nat.reduceSub, Int.reduceToNat] <;> exact rfl) (hb.grow hp1) (by omega) hi hN ?_
      intro u' h2 hb2 hl2 hi2
      rw [← List.take_succ_eq_append_getElem hlt] at hb2 hi2
      obtain ⟨p2, c2, rfl⟩ := hb2.form
      repeat (first | refine cw_seq ?_ | refine cw_region ?_ | refine ow_nil ?_ | (apply ow_cons; · simp only [push_cast, env, Nat.reduceEqDiff, reduceIte, Nat.reduceAdd, Nat.reduceMul, Nat.reduceLeDiff, reduceCtorEq, Bool.false_eq_true, Nat.reduceSub, Int.reduceToNat, e2] <;> exact rfl) | (apply ow_spec; · simp only [push_cast, env, Nat.reduceEqDiff, reduceIte, Nat.reduceAdd, Nat.reduceMul, Nat.reduceLeDiff, reduceCtorEq, Bool.false_eq_true, Nat.reduceSub, Int.reduceToNat, e2] <;> exact rfl) | refine qw_nil ?_ | (apply qw_cons; · simp only [push_cast, env, Nat.reduceEqDiff, reduceIte, Nat.reduceAdd, Nat.reduceMul, Nat.reduceLeDiff, reduceCtorEq, Bool.false_eq_true, Nat.reduceSub, Int.reduceToNat, e2] <;> exact rfl) | (apply qw_spec; · simp only [push_cast, env, Nat.reduceEqDiff, reduceIte, Nat.reduceAdd, Nat.reduceMul, Nat.reduceLeDiff, reduceCtorEq, Bool.false_eq_true, Nat.reduceSub, Int.reduceToNat, e2] <;> exact rfl) | refine cw_block ?_ | refine cw_scope ?_ | refine cw_label ?_ | refine cw_skip ?_)
      refine ⟨hlt, (h2, p2, c2), (by simp only [push_cast, SubL, fget, Nat.reduceEqDiff, reduceIte]), rfl, hb2, hi2⟩
    · have e3 := ge_dec hlt
      obtain rfl : k = g.rules.length := by omega
      repeat (first | refine cw_seq ?_ | refine cw_region ?_ | refine ow_nil ?_ | (apply ow_cons; · simp only [push_cast, env, Nat.reduceEqDiff, reduceIte, Nat.reduceAdd, Nat.reduceMul, Nat.reduceLeDiff, reduceCtorEq, Bool.false_eq_true, Nat.reduceSub, Int.reduceToNat, e3] <;> exact rfl) | (apply ow_spec; · simp only [push_cast, env, Nat.reduceEqDiff, reduceIte, Nat.reduceAdd, Nat.reduceMul, Nat.reduceLeDiff, reduceCtorEq, Bool.false_eq_true, Nat.reduceSub, Int.reduceToNat, e3] <;> exact rfl) | refine qw_nil ?_ | (apply qw_cons; · simp only [push_cast, env, Nat.reduceEqDiff, reduceIte, Nat.reduceAdd, Nat.reduceMul, Nat.reduceLeDiff, reduceCtorEq, Bool.false_eq_true, Nat.reduceSub, Int.reduceToNat, e3] <;> exact rfl) | (apply qw_spec; · simp only [push_cast, env, Nat.reduceEqDiff, reduceIte, Nat.reduceAdd, Nat.reduceMul, Nat.reduceLeDiff, reduceCtorEq, Bool.false_eq_true, Nat.reduceSub, Int.reduceToNat, e3] <;> exact rfl) | refine cw_block ?_ | refine cw_scope ?_ | refine cw_label ?_ | refine cw_skip ?_)
      refine cw_condF (by simp only [push_cast, env, Nat.reduceEqDiff, reduceIte, Nat.reduceAdd, Nat.reduceMul, Nat.reduceLeDiff, reduceCtorEq, Bool.false_eq_true, Nat.reduceSub, Int.reduceToNat] <;> exact rfl) ?_
      refine cw_exit ?_
      show CW _ _ _ _
      repeat (first | refine cw_seq ?_ | refine cw_region ?_ | refine ow_nil ?_ | (apply ow_cons; · simp only [push_cast, env, Nat.reduceEqDiff, reduceIte, Nat.reduceAdd, Nat.reduceMul, Nat.reduceLeDiff, reduceCtorEq, Bool.false_eq_true, Nat.reduceSub, Int.reduceToNat] <;> exact rfl) | (apply ow_spec; · simp only [push_cast, env, Nat.reduceEqDiff, reduceIte, Nat.reduceAdd, Nat.reduceMul, Nat.reduceLeDiff, reduceCtorEq, Bool.false_eq_true, Nat.reduceSub, Int.reduceToNat] <;> exact rfl) | refine qw_nil ?_ | (apply qw_cons; · simp only [push_cast, env, Nat.reduceEqDiff, reduceIte, Nat.reduceAdd, Nat.reduceMul, Nat.reduceLeDiff, reduceCtorEq, Bool.false_eq_true, Nat.reduceSub, Int.reduceToNat] <;> exact rfl) | (apply qw_spec; · simp only [push_cast, env, Nat.reduceEqDiff, reduceIte, Nat.reduceAdd, Nat.reduceMul, Nat.reduceLeDiff, reduceCtorEq, Bool.false_eq_true, Nat.reduceSub, Int.reduceToNat] <;> exact rfl) | refine cw_block ?_ | refine cw_scope ?_ | refine cw_label ?_ | refine cw_skip ?_)
      refine cw_ret ?_
      rw [List.take_length] at hb
      exact ⟨_, (by simp only [push_cast, env, Nat.reduceEqDiff, reduceIte, Nat.reduceAdd, Nat.reduceMul, Nat.reduceLeDiff, reduceCtorEq, Bool.false_eq_true, Nat.reduceSub, Int.reduceToNat, List.take_length] <;> exact rfl), ⟨_, rfl, hb.rd⟩, hpre⟩
end Go.Proofs.Ytnlchlnkibpkaaa
