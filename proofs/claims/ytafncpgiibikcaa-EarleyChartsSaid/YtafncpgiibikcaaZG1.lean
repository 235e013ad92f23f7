/- Several texts, one behind the other; each begins with a remark of its own. -/
import Derived.Test.YtafncpgiibikcaaZFa
namespace Go.Proofs.Ytafncpgiibikcaa
set_option linter.unusedSimpArgs false
set_option linter.unusedVariables false
open Go.RowKit Am Ty

structure IsFn (fid : Nat) (T : KSym → Prop) (isP : KSym → List Bool → Bool) : Prop where
  ok : ∀ s m, isP s m = true ↔ (s.nt < 0 → T s) ∧ (0 ≤ s.nt → bit m s.nt = true)
  fn : ∃ fn, Try.prog.funcs[fid]? = some fn ∧ (fn.name == "runtime.NumGoroutine") = false ∧ fn.body.isNone = false
  fw : ∀ (h : Heap) (s : KSym) (mv : Value) (m : List Bool), RdBools h mv m → s.nt < m.length → FW env fid [.agg s.cells.toArray, mv] h fun r h' => r = .bool (isP s m) ∧ h' = h
set_option maxHeartbeats 4000000 in
theorem closure_fw {h : Heap} {g : Gram} {v : Value} {fid : Nat} {T : KSym → Prop} {isP : KSym → List Bool → Bool} (hr : RdGram h v g) (R : RightS g) (hF : IsFn fid T isP) :
    FW env 77 [v, .func (.func fid) #[] #[]] h fun r h' => ∃ m, Marks g.nts (Der T g.rules) m ∧ h <+: h' ∧ MineB h h' r m := by
  obtain ⟨u, rfl, hu⟩ := hr
  obtain ⟨p, c, rfl⟩ := hu.form
  have hle := hu.le
  have n1 := R.n1
  have n2 := R.n2
  obtain ⟨fn, hfn, hnm, hbd⟩ := hF.fn
  obtain ⟨N, hN⟩ : ∃ N : Nat, g.nts = N := ⟨g.nts.toNat, by omega⟩
  have hN' : g.nts.toNat = N := by omega
  refine fw_enter (fn := Try.f77) Try.func77 rfl (by kernel_rfl) (by simp [Try.ntmps77]) ?_; simp only [push_cast]
  repeat (first | apply zs | apply zr | apply zn | ((first | apply zx | apply zy); · simp only [push_cast, env, Nat.reduceEqDiff, reduceIte, Nat.reduceAdd, Nat.reduceMul, Nat.reduceLeDiff, reduceCtorEq, Nat.reduceSub, Int.reduceToNat] <;> first | exact rfl | exact .inl rfl | exact .inr rfl) | apply zq | apply zb | apply zo | apply zk | apply zl)
  refine ow_mkBool (N := N) (by simp only [push_cast, env, Nat.reduceEqDiff, reduceIte] <;> exact rfl) rfl (by simp only [push_cast, env, Nat.reduceEqDiff, reduceIte] <;> exact rfl) hN (by omega) ?_
  repeat (first | apply zs | apply zr | apply zn | ((first | apply zx | apply zy); · simp only [push_cast, env, Nat.reduceEqDiff, reduceIte, Nat.reduceAdd, Nat.reduceMul, Nat.reduceLeDiff, reduceCtorEq, Nat.reduceSub, Int.reduceToNat] <;> first | exact rfl | exact .inl rfl | exact .inr rfl) | apply zq | apply zb | apply zo | apply zk | apply zl)
  refine cw_wh (fun m : List Bool => m.count false) (fun m => [(1, .val (.func (.func fid) #[] #[])), (2, .box [i64 g.nts, i64 g.start, .slice p g.rules.length c]), (5, .val (.slice (some ⟨h.length, 0, some 0⟩) N N))])
    (fun m => h ++ [.arr (m.map Value.bool) 0 true 4]) (fun m => m.length = N ∧ ∀ i, 0 ≤ i → bit m i = true → Der T g.rules i) (List.replicate N false) (by simp only [push_cast, Nat.reduceEqDiff, reduceIte]) rfl ⟨by simp, fun i _ hi => by rw [bit_rep] at hi; cases hi⟩ ?_
  rintro m ⟨hm1, hm2⟩
  have hu0 := hu.mono (h' := h ++ [.arr (m.map Value.bool) 0 true 4]) prefix_push
  have hgm : (h ++ [HObj.arr (m.map Value.bool) 0 true 4])[h.length]? = _ := get_push
  repeat (first | apply zs | apply zr | apply zn | ((first | apply zx | apply zy); · simp only [push_cast, env, Nat.reduceEqDiff, reduceIte, Nat.reduceAdd, Nat.reduceMul, Nat.reduceLeDiff, reduceCtorEq, Nat.reduceSub, Int.reduceToNat] <;> first | exact rfl | exact .inl rfl | exact .inr rfl) | apply zq | apply zb | apply zo | apply zk | apply zl)
  refine cw_for g.rules.length (fun k => [(1, .val (.func (.func fid) #[] #[])), (2, .box [i64 g.nts, i64 g.start, .slice p g.rules.length c]), (5, .val (.slice (some ⟨h.length, 0, some 0⟩) N N)), (14, .val (.slice p g.rules.length c)), (15, .val (i64 g.rules.length)), (16, .val (i64 k))]) (fun _ => h ++ [.arr (m.map Value.bool) 0 true 4])
    (fun k => ∀ r ∈ g.rules.take k, bit m r.lhs = true ∨ ∃ s ∈ r.rhs, isP s m = false) (by simp only [push_cast, Nat.reduceEqDiff, reduceIte]) rfl (by simp) ?_
  intro k hk hI
  by_cases hlt : k < g.rules.length
  · obtain ⟨id, ver, own, c', cells, p', n', c2, hv, hid, hn, hrd, hu'⟩ := hu0.at hlt
    cases hv
    have e0 := rdH_get0 hrd (by omega)
    have e0' := rdH_get (j := 1) hrd (by omega)
    simp only [List.getElem?_cons_succ, List.getElem?_cons_zero] at e0 e0'
    have e1 := rng hlt
    have e2 := inc hlt hle
    have e3 := lt_dec hlt
    have hmem : g.rules[k] ∈ _ := List.getElem_mem hlt
    have hn2 : n' ≤ 140737488355328 := by rw [hn]; exact RdSyms.le hu'
    obtain ⟨l1, l2, l3, hS⟩ := R.r _ hmem
    have hb0 := bit_map (m := m) l1 (by omega)
    have r1 : (0 ≤ g.rules[k].lhs ∧ g.rules[k].lhs < (N : Int)) = True := by simp; omega
    repeat (first | apply zs | apply zr | apply zn | ((first | apply zx | apply zy); · simp only [push_cast, env, Nat.reduceEqDiff, reduceIte, Nat.reduceAdd, Nat.reduceMul, Nat.reduceLeDiff, reduceCtorEq, Nat.reduceSub, Int.reduceToNat, e1, hid, hrd, e3] <;> first | exact rfl | exact .inl rfl | exact .inr rfl) | apply zq | apply zb | apply zo | apply zk | apply zl)
    refine cw_condT rfl ?_
    repeat (first | apply zs | apply zr | apply zn | ((first | apply zx | apply zy); · simp only [push_cast, env, Nat.reduceEqDiff, reduceIte, Nat.reduceAdd, Nat.reduceMul, Nat.reduceLeDiff, reduceCtorEq, Nat.reduceSub, Int.reduceToNat, e1, hid, hrd, r1, hgm, Nat.mul_one, hb0] <;> first | exact rfl | exact .inl rfl | exact .inr rfl) | apply zq | apply zb | apply zo | apply zk | apply zl)
    refine cw_cond (by simp only [push_cast, env, Nat.reduceEqDiff, reduceIte] <;> exact rfl) (fun b1 => ?_) (fun b1 => ?_)
    · refine cw_exit ?_
      show CW _ _ _ _
      repeat (first | apply zs | apply zr | apply zn | ((first | apply zx | apply zy); · simp only [push_cast, env, Nat.reduceEqDiff, reduceIte, Nat.reduceAdd, Nat.reduceMul, Nat.reduceLeDiff, reduceCtorEq, Nat.reduceSub, Int.reduceToNat, e2] <;> first | exact rfl | exact .inl rfl | exact .inr rfl) | apply zq | apply zb | apply zo | apply zk | apply zl)
      refine ⟨hlt, (by simp only [push_cast, Nat.reduceEqDiff, reduceIte]), rfl, ?_⟩
      intro r hr
      rw [List.take_succ_eq_append_getElem hlt, List.mem_append] at hr
      rcases hr with hr | hr
      · exact hI r hr
      · obtain rfl : r = _ := by simpa using hr
        exact .inl b1
    repeat (first | apply zs | apply zr | apply zn | ((first | apply zx | apply zy); · simp only [push_cast, env, Nat.reduceEqDiff, reduceIte, Nat.reduceAdd, Nat.reduceMul, Nat.reduceLeDiff, reduceCtorEq, Nat.reduceSub, Int.reduceToNat] <;> first | exact rfl | exact .inl rfl | exact .inr rfl) | apply zq | apply zb | apply zo | apply zk | apply zl)
    refine cw_for n' (fun j => [(1, .val (.func (.func fid) #[] #[])), (2, .box [i64 g.nts, i64 g.start, .slice (some ⟨id, 0, some ver⟩) g.rules.length c]), (5, .val (.slice (some ⟨h.length, 0, some 0⟩) N N)), (7, .box [i64 g.rules[k].lhs, .slice p' n' c2]), (14, .val (.slice (some ⟨id, 0, some ver⟩) g.rules.length c)), (15, .val (i64 g.rules.length)), (16, .val (i64 k)), (26, .val (.slice p' n' c2)), (27, .val (i64 n')), (28, .val (i64 j))]) (fun _ => h ++ [.arr (m.map Value.bool) 0 true 4])
      (fun j => ∀ s ∈ g.rules[k].rhs.take j, isP s m = true) (by simp only [push_cast, Nat.reduceEqDiff, reduceIte]) rfl (by simp) ?_
    intro j hj hJ
    by_cases hjl : j < n'
    · rw [hn] at hu' hj hjl hn2 ⊢
      obtain ⟨id2, ver2, own2, c3, cells2, hv2, hid2, hrd2⟩ := hu'.at hjl
      cases hv2
      have e9 := rng hjl
      have e10 := inc hjl (by omega)
      have e11 := lt_dec hjl
      have hmem2 : g.rules[k].rhs[j] ∈ _ := List.getElem_mem hjl
      have hs2 := hS _ hmem2
      repeat (first | apply zs | apply zr | apply zn | ((first | apply zx | apply zy); · simp only [push_cast, env, Nat.reduceEqDiff, reduceIte, Nat.reduceAdd, Nat.reduceMul, Nat.reduceLeDiff, reduceCtorEq, Nat.reduceSub, Int.reduceToNat, e9, hid2, hrd2, e11] <;> first | exact rfl | exact .inl rfl | exact .inr rfl) | apply zq | apply zb | apply zo | apply zk | apply zl)
      refine cw_condT rfl ?_
      repeat (first | apply zs | apply zr | apply zn | ((first | apply zx | apply zy); · simp only [push_cast, env, Nat.reduceEqDiff, reduceIte, Nat.reduceAdd, Nat.reduceMul, Nat.reduceLeDiff, reduceCtorEq, Nat.reduceSub, Int.reduceToNat, e9, hid2, hrd2] <;> first | exact rfl | exact .inl rfl | exact .inr rfl) | apply zq | apply zb | apply zo | apply zk | apply zl)
      refine ow_call (fn := fn) (by simp only [push_cast, env, Nat.reduceEqDiff, reduceIte] <;> exact rfl) rfl (by simp only [push_cast, env, Nat.reduceEqDiff, reduceIte] <;> exact rfl) (by simp only [push_cast, env, Nat.reduceEqDiff, reduceIte] <;> exact rfl) hfn hnm hbd ?_
      rw [List.append_nil]
      refine (hF.fw _ g.rules[k].rhs[j] _ m ⟨by omega, .inr ⟨h.length, 0, true, N, by rw [hm1], hgm⟩⟩ (by omega)).mono ?_
      rintro _ _ ⟨rfl, rfl⟩
      repeat (first | apply zs | apply zr | apply zn | ((first | apply zx | apply zy); · simp only [push_cast, env, Nat.reduceEqDiff, reduceIte, Nat.reduceAdd, Nat.reduceMul, Nat.reduceLeDiff, reduceCtorEq, Nat.reduceSub, Int.reduceToNat] <;> first | exact rfl | exact .inl rfl | exact .inr rfl) | apply zq | apply zb | apply zo | apply zk | apply zl)
      refine cw_cond (by simp only [push_cast, env, Nat.reduceEqDiff, reduceIte] <;> exact rfl) (fun b2 => ?_) (fun b2 => ?_)
      · refine cw_exit ?_
        show CW _ _ _ _
        repeat (first | apply zs | apply zr | apply zn | ((first | apply zx | apply zy); · simp only [push_cast, env, Nat.reduceEqDiff, reduceIte, Nat.reduceAdd, Nat.reduceMul, Nat.reduceLeDiff, reduceCtorEq, Nat.reduceSub, Int.reduceToNat, e2] <;> first | exact rfl | exact .inl rfl | exact .inr rfl) | apply zq | apply zb | apply zo | apply zk | apply zl)
        refine ⟨hlt, (by simp only [push_cast, Nat.reduceEqDiff, reduceIte]), rfl, ?_⟩
        intro r hr
        rw [List.take_succ_eq_append_getElem hlt, List.mem_append] at hr
        rcases hr with hr | hr
        · exact hI r hr
        · obtain rfl : r = _ := by simpa using hr
          exact .inr ⟨_, hmem2, by simpa using b2⟩
      · repeat (first | apply zs | apply zr | apply zn | ((first | apply zx | apply zy); · simp only [push_cast, env, Nat.reduceEqDiff, reduceIte, Nat.reduceAdd, Nat.reduceMul, Nat.reduceLeDiff, reduceCtorEq, Nat.reduceSub, Int.reduceToNat, e10] <;> first | exact rfl | exact .inl rfl | exact .inr rfl) | apply zq | apply zb | apply zo | apply zk | apply zl)
        refine ⟨hjl, (by simp only [push_cast, Nat.reduceEqDiff, reduceIte]), rfl, ?_⟩
        intro s hs
        rw [List.take_succ_eq_append_getElem hjl, List.mem_append] at hs
        rcases hs with hs | hs
        · exact hJ s hs
        · obtain rfl : s = _ := by simpa using hs
          simpa using b2
    · have e11 := ge_dec hjl
      obtain rfl : j = n' := by omega
      repeat (first | apply zs | apply zr | apply zn | ((first | apply zx | apply zy); · simp only [push_cast, env, Nat.reduceEqDiff, reduceIte, Nat.reduceAdd, Nat.reduceMul, Nat.reduceLeDiff, reduceCtorEq, Nat.reduceSub, Int.reduceToNat, e11] <;> first | exact rfl | exact .inl rfl | exact .inr rfl) | apply zq | apply zb | apply zo | apply zk | apply zl)
      refine cw_condF rfl ?_
      refine cw_exit ?_
      show CW _ _ _ _
      repeat (first | apply zs | apply zr | apply zn | ((first | apply zx | apply zy); · simp only [push_cast, env, Nat.reduceEqDiff, reduceIte, Nat.reduceAdd, Nat.reduceMul, Nat.reduceLeDiff, reduceCtorEq, Nat.reduceSub, Int.reduceToNat, r1] <;> first | exact rfl | exact .inl rfl | exact .inr rfl) | apply zq | apply zb | apply zo | apply zk | apply zl)
      refine ow_stoH (by simp only [push_cast, env, Nat.reduceEqDiff, reduceIte] <;> exact rfl) rfl rfl (by simp only [push_cast, env, Nat.reduceEqDiff, reduceIte] <;> exact rfl) (by simp only [push_cast, env, Nat.reduceEqDiff, reduceIte, r1, Nat.mul_one] <;> exact rfl) hgm rfl rfl (wr_map (x := true) (by omega)) ?_
      repeat (first | apply zs | apply zr | apply zn | ((first | apply zx | apply zy); · simp only [push_cast, env, Nat.reduceEqDiff, reduceIte, Nat.reduceAdd, Nat.reduceMul, Nat.reduceLeDiff, reduceCtorEq, Nat.reduceSub, Int.reduceToNat] <;> first | exact rfl | exact .inl rfl | exact .inr rfl) | apply zq | apply zb | apply zo | apply zk | apply zl)
      refine cw_exit ?_
      refine ⟨m.set g.rules[k].lhs.toNat true, count_mark l1 (by omega) b1, (by simp only [push_cast, Nat.reduceEqDiff, reduceIte]), ?_, by simp [hm1], ?_⟩
      · simp
      · rw [hn, List.take_length] at hJ
        intro i hi hb
        rw [bit_set l1 (by omega) hi] at hb
        split at hb
        · rename_i e
          subst e
          exact .mk _ hmem (fun s hs h0 => ((hF.ok s m).1 (hJ s hs)).1 h0) (fun s hs h0 => hm2 _ h0 (((hF.ok s m).1 (hJ s hs)).2 h0))
        · exact hm2 i hi hb
  · have e3 := ge_dec hlt
    obtain rfl : k = g.rules.length := by omega
    repeat (first | apply zs | apply zr | apply zn | ((first | apply zx | apply zy); · simp only [push_cast, env, Nat.reduceEqDiff, reduceIte, Nat.reduceAdd, Nat.reduceMul, Nat.reduceLeDiff, reduceCtorEq, Nat.reduceSub, Int.reduceToNat, e3] <;> first | exact rfl | exact .inl rfl | exact .inr rfl) | apply zq | apply zb | apply zo | apply zk | apply zl)
    refine cw_condF rfl ?_
    refine cw_exit ?_
    show CW _ _ _ _
    repeat (first | apply zs | apply zr | apply zn | ((first | apply zx | apply zy); · simp only [push_cast, env, Nat.reduceEqDiff, reduceIte, Nat.reduceAdd, Nat.reduceMul, Nat.reduceLeDiff, reduceCtorEq, Nat.reduceSub, Int.reduceToNat] <;> first | exact rfl | exact .inl rfl | exact .inr rfl) | apply zq | apply zb | apply zo | apply zk | apply zl)
    refine cw_ret ?_
    rw [List.take_length] at hI
    refine ⟨_, (by simp only [push_cast, env, Nat.reduceEqDiff, reduceIte] <;> exact rfl), m, ⟨by omega, fun i h0 h1 => ⟨hm2 i h0, fun hD => ?_⟩⟩, prefix_push, h.length, 0, Nat.le_refl _, by rw [hm1]; rfl, get_push⟩
    clear h1 h0
    induction hD with
    | mk r hr hT hD ih =>
      rcases hI r hr with h1 | ⟨s, hs, h1⟩
      · exact h1
      · have := (hF.ok s m).2 ⟨hT s hs, fun h0 => ih s hs h0⟩
        rw [this] at h1
        cases h1

def goodP (s : KSym) (m : List Bool) : Bool := if s.nt < 0 then decide (s.set ≠ BSet.zero) else bit m s.nt
theorem good_fw (h : Heap) (s : KSym) (mv : Value) (m : List Bool) (hm : RdBools h mv m) (hs : s.nt < m.length) : FW env 64 [.agg s.cells.toArray, mv] h fun r h' => r = .bool (goodP s m) ∧ h' = h := by
  obtain ⟨p, c, rfl⟩ := hm.form
  unfold KSym.cells
  refine fw_enter (fn := Try.f64) Try.func64 rfl (by kernel_rfl) (by simp [Try.ntmps64]) ?_; simp only [push_cast]
  repeat (first | apply zs | apply zr | apply zn | ((first | apply zx | apply zy); · simp only [push_cast, env, Nat.reduceEqDiff, reduceIte, Nat.reduceAdd, Nat.reduceMul, Nat.reduceLeDiff, reduceCtorEq, Nat.reduceSub, Int.reduceToNat] <;> first | exact rfl | exact .inl rfl | exact .inr rfl) | apply zq | apply zb | apply zo | apply zk | apply zl)
  refine cw_cond (by simp only [push_cast, env, Nat.reduceEqDiff, reduceIte] <;> exact rfl) (fun h0 => ?_) (fun h0 => ?_)
  · have h0' : s.nt < 0 := by simpa using h0
    repeat (first | apply zs | apply zr | apply zn | ((first | apply zx | apply zy); · simp only [push_cast, env, Nat.reduceEqDiff, reduceIte, Nat.reduceAdd, Nat.reduceMul, Nat.reduceLeDiff, reduceCtorEq, Nat.reduceSub, Int.reduceToNat, set_zero] <;> first | exact rfl | exact .inl rfl | exact .inr rfl) | apply zq | apply zb | apply zo | apply zk | apply zl)
    refine cw_ret ?_
    exact ⟨_, (by simp only [push_cast, env, Nat.reduceEqDiff, reduceIte] <;> exact rfl), by simp [goodP, resV, h0'], rfl⟩
  · have h0' : ¬ s.nt < 0 := by simpa using h0
    obtain ⟨id, ver, own, c', hv, hid⟩ := SlR.at hm (by omega)
    cases hv
    have hb := bit_map (m := m) (by omega : 0 ≤ s.nt) hs
    have r1 : (0 ≤ s.nt ∧ s.nt < (m.length : Int)) = True := by simp; omega
    repeat (first | apply zs | apply zr | apply zn | ((first | apply zx | apply zy); · simp only [push_cast, env, Nat.reduceEqDiff, reduceIte, Nat.reduceAdd, Nat.reduceMul, Nat.reduceLeDiff, reduceCtorEq, Nat.reduceSub, Int.reduceToNat, r1, hid, Nat.mul_one, hb] <;> first | exact rfl | exact .inl rfl | exact .inr rfl) | apply zq | apply zb | apply zo | apply zk | apply zl)
    refine cw_ret ?_
    exact ⟨_, (by simp only [push_cast, env, Nat.reduceEqDiff, reduceIte] <;> exact rfl), by simp [goodP, resV, h0'], rfl⟩
def goodT (s : KSym) : Prop := s.set ≠ BSet.zero
theorem goodP_ok (s : KSym) (m : List Bool) : goodP s m = true ↔ (s.nt < 0 → goodT s) ∧ (0 ≤ s.nt → bit m s.nt = true) := by
  unfold goodP goodT
  by_cases h0 : 0 ≤ s.nt
  · have : ¬ s.nt < 0 := by omega
    simp [h0, this]
  · have : s.nt < 0 := by omega
    simp [h0, this]
theorem good_is : IsFn 64 goodT goodP where
  ok := goodP_ok
  fn := ⟨Try.f64, Try.func64, by kernel_rfl, by kernel_rfl⟩
  fw := good_fw
abbrev goodD (g : Gram) : Int → Prop := Der goodT g.rules
def Told (g : Gram) (z : Value) (K : Value → Heap → Prop) (r : Value) (h' : Heap) : Prop := ∃ x, r = .tuple #[x, i64 (rightG g)] ∧ ((badG g ∧ x = z) ∨ (¬ badG g ∧ K x h'))
abbrev nilS : Value := .slice none 0 0
theorem productive_fw {h : Heap} {g : Gram} {v : Value} (hr : RdGram h v g) : FW env 63 [v] h fun r h' => Told g nilS (fun x h' => ∃ m, Marks g.nts (goodD g) m ∧ MineB h h' x m) r h' ∧ h <+: h' := by
  obtain ⟨u, rfl, hu⟩ := id hr
  obtain ⟨p, c, rfl⟩ := hu.form
  refine fw_enter (fn := Try.f63) Try.func63 rfl (by kernel_rfl) (by simp [Try.ntmps63]) ?_; simp only [push_cast]
  repeat (first | apply zs | apply zr | apply zn | ((first | apply zx | apply zy); · simp only [push_cast, env, Nat.reduceEqDiff, reduceIte, Nat.reduceAdd, Nat.reduceMul, Nat.reduceLeDiff, reduceCtorEq, Nat.reduceSub, Int.reduceToNat] <;> first | exact rfl | exact .inl rfl | exact .inr rfl) | apply zq | apply zb | apply zo | apply zk | apply zl)
  refine zc (fn := Try.f23) (by simp only [push_cast, env, Nat.reduceEqDiff, reduceIte] <;> exact rfl) Try.func23 (by kernel_rfl) (by kernel_rfl) ?_
  rw [List.append_nil]
  refine (right_fw hr).mono ?_
  rintro _ h ⟨rfl, rfl⟩
  by_cases hb : badG g
  · have e0 : rightG g = 3 := if_pos hb
    rw [e0]
    repeat (first | apply zs | apply zr | apply zn | ((first | apply zx | apply zy); · simp only [push_cast, env, Nat.reduceEqDiff, reduceIte, Nat.reduceAdd, Nat.reduceMul, Nat.reduceLeDiff, reduceCtorEq, Nat.reduceSub, Int.reduceToNat] <;> first | exact rfl | exact .inl rfl | exact .inr rfl) | apply zq | apply zb | apply zo | apply zk | apply zl)
    refine cw_condT rfl ?_
    repeat (first | apply zs | apply zr | apply zn | ((first | apply zx | apply zy); · simp only [push_cast, env, Nat.reduceEqDiff, reduceIte, Nat.reduceAdd, Nat.reduceMul, Nat.reduceLeDiff, reduceCtorEq, Nat.reduceSub, Int.reduceToNat] <;> first | exact rfl | exact .inl rfl | exact .inr rfl) | apply zq | apply zb | apply zo | apply zk | apply zl)
    refine cw_ret ?_
    exact ⟨_, (by simp only [push_cast, env, Nat.reduceEqDiff, reduceIte] <;> exact rfl), ⟨_, by rw [e0]; rfl, .inl ⟨hb, rfl⟩⟩, List.prefix_refl _⟩
  have e0 : rightG g = 0 := if_neg hb
  rw [e0]
  repeat (first | apply zs | apply zr | apply zn | ((first | apply zx | apply zy); · simp only [push_cast, env, Nat.reduceEqDiff, reduceIte, Nat.reduceAdd, Nat.reduceMul, Nat.reduceLeDiff, reduceCtorEq, Nat.reduceSub, Int.reduceToNat] <;> first | exact rfl | exact .inl rfl | exact .inr rfl) | apply zq | apply zb | apply zo | apply zk | apply zl)
  refine cw_condF rfl ?_
  repeat (first | apply zs | apply zr | apply zn | ((first | apply zx | apply zy); · simp only [push_cast, env, Nat.reduceEqDiff, reduceIte, Nat.reduceAdd, Nat.reduceMul, Nat.reduceLeDiff, reduceCtorEq, Nat.reduceSub, Int.reduceToNat] <;> first | exact rfl | exact .inl rfl | exact .inr rfl) | apply zq | apply zb | apply zo | apply zk | apply zl)
  refine zc (fn := Try.f77) (by simp only [push_cast, env, Nat.reduceEqDiff, reduceIte] <;> exact rfl) Try.func77 (by kernel_rfl) (by kernel_rfl) ?_
  rw [List.append_nil]
  refine (closure_fw hr (rightS hb) good_is).mono ?_
  rintro r h' ⟨m, h1, h2, h3⟩
  repeat (first | apply zs | apply zr | apply zn | ((first | apply zx | apply zy); · simp only [push_cast, env, Nat.reduceEqDiff, reduceIte, Nat.reduceAdd, Nat.reduceMul, Nat.reduceLeDiff, reduceCtorEq, Nat.reduceSub, Int.reduceToNat] <;> first | exact rfl | exact .inl rfl | exact .inr rfl) | apply zq | apply zb | apply zo | apply zk | apply zl)
  refine cw_ret ?_
  exact ⟨_, (by simp only [push_cast, env, Nat.reduceEqDiff, reduceIte] <;> exact rfl), ⟨_, by rw [e0]; rfl, .inr ⟨hb, m, h1, h3⟩⟩, h2⟩
end Go.Proofs.Ytafncpgiibikcaa

namespace Go.Proofs.Ytafncpgiibikcaa
set_option linter.unusedSimpArgs false
set_option linter.unusedVariables false
open Go.RowKit Am Ty

def Edge (g : Gram) (D : Int → Prop) (a b : Int) : Prop := ∃ r ∈ g.rules, r.lhs = a ∧ ∃ (k : Nat) (hk : k < r.rhs.length), 0 ≤ r.rhs[k].nt ∧ r.rhs[k].nt = b ∧ ∀ (j : Nat) (hj : j < r.rhs.length), j ≠ k → NullS D r.rhs[j]
inductive Plus (E : Int → Int → Prop) : Int → Int → Prop
  | one {a b : Int} : E a b → Plus E a b
  | more {a b c : Int} : Plus E a b → E b c → Plus E a c
def CycE (E : Int → Int → Prop) : Prop := ∃ x, Plus E x x
section
variable {E : Int → Int → Prop} {S : Int → Prop}
theorem Plus.trans {a b c : Int} (h : Plus E a b) (k : Plus E b c) : Plus E a c := by
  induction k with
  | one e => exact .more h e
  | more _ e ih => exact .more ih e
def Acy (E : Int → Int → Prop) (S : Int → Prop) : Prop := ∀ i, S i → (∀ j, E i j → S j) ∧ ¬ Plus E i i
theorem Acy.add (h : Acy E S) {n : Int} (hn : ¬ S n) (hs : ∀ j, E n j → S j) : Acy E fun i => S i ∨ i = n := by
  have key : ∀ b, Plus E n b → S b := fun b hp => by
    induction hp with
    | one e => exact hs _ e
    | more _ e ih => exact (h _ ih).1 _ e
  rintro i (hi | rfl)
  · exact ⟨fun j e => .inl ((h i hi).1 j e), (h i hi).2⟩
  · exact ⟨fun j e => .inl (hs j e), fun hp => hn (key _ hp)⟩
theorem Acy.congr {S' : Int → Prop} (h : Acy E S) (he : ∀ i, S i ↔ S' i) : Acy E S' := fun i hi => ⟨fun j e => (he j).1 ((h i ((he i).2 hi)).1 j e), (h i ((he i).2 hi)).2⟩
theorem Plus.src {a b : Int} (h : Plus E a b) : ∃ c, E a c := by
  induction h with
  | one e => exact ⟨_, e⟩
  | more _ _ ih => exact ih
theorem Acy.none (h : Acy E S) (hs : ∀ a b, E a b → S a) : ¬ CycE E := by
  rintro ⟨x, hp⟩
  obtain ⟨c, e⟩ := hp.src
  exact (h x (hs x c e)).2 hp
end
end Go.Proofs.Ytafncpgiibikcaa

namespace Go.Proofs.Ytafncpgiibikcaa
set_option linter.unusedSimpArgs false
set_option linter.unusedVariables false
open Go.RowKit Am Ty

theorem DL.good {rules : List Rule} {l : List KSym} {n z : Nat} (h : DL rules l n z) : ∀ s ∈ l, (s.nt < 0 → goodT s) ∧ (0 ≤ s.nt → Der goodT rules s.nt) := by
  induction h with
  | nil => exact fun s hs => by cases hs
  | @byte s l n z h1 h2 _ ih =>
    intro t ht
    rcases List.mem_cons.1 ht with rfl | ht
    · exact ⟨fun _ => h2, fun h => by omega⟩
    · exact ih t ht
  | @nt r s l n1 z1 n2 z2 hr h0 e h1 h2 ih1 ih2 =>
    intro t ht
    rcases List.mem_cons.1 ht with rfl | ht
    · refine ⟨fun h => by omega, fun _ => ?_⟩
      rw [e]
      exact .mk r hr (fun s hs => (ih1 s hs).1) fun s hs => (ih1 s hs).2
    · exact ih2 t ht
end Go.Proofs.Ytafncpgiibikcaa

namespace Go.Proofs.Ytafncpgiibikcaa
set_option linter.unusedSimpArgs false
set_option linter.unusedVariables false
open Go.RowKit Am Ty

section
variable {a b : List Rule} (hab : ∀ r ∈ a, r ∈ b)
include hab
theorem Der.more {T : KSym → Prop} {i : Int} (h : Der T a i) : Der T b i := by
  induction h with
  | mk r hr hT _ ih => exact .mk r (hab r hr) hT ih
theorem DL.more {l : List KSym} {n z : Nat} (h : DL a l n z) : DL b l n z := by
  induction h with
  | nil => exact .nil
  | byte h1 h2 _ ih => exact .byte h1 h2 ih
  | nt hr h0 e _ _ ih1 ih2 => exact .nt (hab _ hr) h0 e ih1 ih2
theorem DN.more {i : Int} {n : Nat} : DN a i n → DN b i n := fun ⟨r, hr, e, z, hz⟩ => ⟨r, hab r hr, e, z, hz.more hab⟩
theorem Fst.more {D D' : Int → Prop} (hD : ∀ i, D i → D' i) {c : Nat} {i : Int} (h : Fst a D c i) : Fst b D' c i := by
  induction h with
  | mk r k hk hr hp hs _ ih => exact .mk r k hk (hab r hr) (fun s hs => ⟨(hp s hs).1, hD _ (hp s hs).2⟩) hs ih
end
theorem Edge.more {g x : Gram} (hab : ∀ r ∈ g.rules, r ∈ x.rules) {D D' : Int → Prop} (hD : ∀ i, D i → D' i) {i j : Int} : Edge g D i j → Edge x D' i j :=
  fun ⟨r, hr, e, k, hk, h0, h1, h2⟩ => ⟨r, hab r hr, e, k, hk, h0, h1, fun y hy hne => ⟨(h2 y hy hne).1, hD _ (h2 y hy hne).2⟩⟩
theorem Plus.mono {E E' : Int → Int → Prop} (h : ∀ i j, E i j → E' i j) {x y : Int} (hx : Plus E x y) : Plus E' x y := by
  induction hx with
  | one e => exact .one (h _ _ e)
  | more _ e ih => exact .more ih (h _ _ e)
theorem CycE.more {E E' : Int → Int → Prop} (h : ∀ i j, E i j → E' i j) : CycE E → CycE E' := fun ⟨x, hx⟩ => ⟨x, hx.mono h⟩
theorem Reached.more {g x : Gram} (hab : ∀ r ∈ g.rules, r ∈ x.rules) (hs : g.start = x.start) {i : Int} (h : Reached g i) : Reached x i := by
  induction h with
  | start => rw [hs]; exact .start
  | step r s hr hs h0 _ ih => exact .step r s (hab r hr) hs h0 ih
structure SameG (g x : Gram) : Prop where
  n : x.nts = g.nts
  s : x.start = g.start
  l : x.rules.length = g.rules.length
  m : ∀ r, r ∈ x.rules ↔ r ∈ g.rules
section
variable {g x : Gram} (S : SameG g x)
include S
theorem SameG.bad : badG x ↔ badG g := by
  unfold badG
  rw [S.n, S.s, S.l]
  have : (∃ r ∈ x.rules, badR g.nts r) ↔ ∃ r ∈ g.rules, badR g.nts r := by
    constructor
    · rintro ⟨r, hr, h⟩; exact ⟨r, (S.m r).1 hr, h⟩
    · rintro ⟨r, hr, h⟩; exact ⟨r, (S.m r).2 hr, h⟩
  rw [this]
theorem SameG.rightG : rightG x = rightG g := by
  unfold Proofs.Ytafncpgiibikcaa.rightG
  by_cases h : badG g
  · rw [if_pos h, if_pos (S.bad.2 h)]
  · rw [if_neg h, if_neg (fun c => h (S.bad.1 c))]
theorem SameG.der {T : KSym → Prop} {i : Int} : Der T x.rules i ↔ Der T g.rules i := ⟨Der.more fun r hr => (S.m r).1 hr, Der.more fun r hr => (S.m r).2 hr⟩
theorem SameG.dn {i : Int} {n : Nat} : DN x.rules i n ↔ DN g.rules i n := ⟨DN.more fun r hr => (S.m r).1 hr, DN.more fun r hr => (S.m r).2 hr⟩
theorem SameG.wf (hW : ∀ r ∈ g.rules, ∀ s ∈ r.rhs, SetWf s.set) : ∀ r ∈ x.rules, ∀ s ∈ r.rhs, SetWf s.set := fun r hr => hW r ((S.m r).1 hr)
end
end Go.Proofs.Ytafncpgiibikcaa

namespace Go.Proofs.Ytafncpgiibikcaa
set_option linter.unusedSimpArgs false
set_option linter.unusedVariables false
open Go.RowKit Am Ty

theorem rng0 {i : Int} {N : Nat} (h0 : 0 ≤ i) (h1 : i < N) : (0 ≤ i ∧ i < (N : Int)) = True := by simp; omega
end Go.Proofs.Ytafncpgiibikcaa
