/- Several texts, one behind the other; each begins with a remark of its own. -/
import Derived.Test.YtnlchlnkibpkaaaZG8
import Derived.Test.YtnlchlnkibpkaaaZG5
import Derived.Test.YtnlchlnkibpkaaaZFa
import Derived.Test.YtnlchlnkibpkaaaZG1
/- Cyclic of the program: a search in depth. -/
namespace Go.Proofs.Ytnlchlnkibpkaaa
set_option linter.unusedSimpArgs false
set_option linter.unusedVariables false
open Go.RowKit Am Ty

abbrev bptr (b : Nat) : Value := .pointer (some ⟨b, 0, some 0⟩)
abbrev stObj (st : List Int) : HObj := .arr (st.map i64) 0 true 3
structure VE (h : Heap) (N bs bn bv is io : Nat) (us : List Value) (ls : List (List Int)) : Prop where
  s : h[bs]? = some (.arr [.slice (some ⟨is, 0, some 0⟩) N N] 0 true 40)
  n : h[bn]? = some (.arr [.slice (some ⟨io, 0, some 0⟩) N N] 0 true 63)
  v : h[bv]? = some (.arr [.func (.func 46) #[] #[bptr bs, bptr bn, bptr bv]] 0 true 65)
  o : h[io]? = some (.arr us 0 true 40)
  l : ∀ (i : Nat) (u : Value) (l : List Int), us[i]? = some u → ls[i]? = some l → SlR h u l.length (l.map i64) 3 8 ∧ isAt u is = false
  un : us.length = N
  ln : ls.length = N
  r : ∀ l ∈ ls, ∀ x ∈ l, 0 ≤ x ∧ x < N
  d : bs ≠ is ∧ bn ≠ is ∧ bv ≠ is ∧ io ≠ is
theorem SlR.set {h : Heap} {v : Value} {n b i : Nat} {cells : List Value} {et : TypeId} {X : HObj} (hs : SlR h v n cells et b) (hi : isAt v i = false) : SlR (h.set i X) v n cells et b := by
  refine ⟨hs.1, ?_⟩
  rcases hs.2 with h1 | ⟨id, ver, own, c, rfl, h2⟩
  · exact .inl h1
  · simp only [isAt, beq_eq_false_iff_ne] at hi
    exact .inr ⟨id, ver, own, c, rfl, by rw [get_set_ne (Ne.symm hi)]; exact h2⟩
theorem VE.set {h : Heap} {N bs bn bv is io : Nat} {us : List Value} {ls : List (List Int)} {X : HObj} (V : VE h N bs bn bv is io us ls) : VE (h.set is X) N bs bn bv is io us ls := by
  obtain ⟨d1, d2, d3, d4⟩ := V.d
  refine ⟨?_, ?_, ?_, ?_, fun i u l h1 h2 => ⟨(V.l i u l h1 h2).1.set (V.l i u l h1 h2).2, (V.l i u l h1 h2).2⟩, V.un, V.ln, V.r, V.d⟩
  · rw [get_set_ne (Ne.symm d1)]; exact V.s
  · rw [get_set_ne (Ne.symm d2)]; exact V.n
  · rw [get_set_ne (Ne.symm d3)]; exact V.v
  · rw [get_set_ne (Ne.symm d4)]; exact V.o
/-- how many are not met yet -/
def zeros (st : List Int) : List Bool := st.map fun x => decide (x = 0)
theorem zeros_bit {st : List Int} {i : Int} (h0 : 0 ≤ i) (h1 : i < st.length) : bit (zeros st) i = decide (iget st i = 0) := by
  rw [bit_get h0 (by simp [zeros, h1]), iget_get h0 h1]
  simp [zeros]
def EL (N : Nat) (ls : List (List Int)) (a b : Int) : Prop := 0 ≤ a ∧ a < N ∧ b ∈ lget ls a
def S2 (st : List Int) (i : Int) : Prop := 0 ≤ i ∧ iget st i = 2
def V3 (N : Nat) (st : List Int) : Prop := ∀ i : Int, 0 ≤ i → i < N → iget st i = 0 ∨ iget st i = 1 ∨ iget st i = 2
/-- what is met is met for good -/
structure Later (N : Nat) (st st' : List Int) : Prop where
  n : st'.length = N
  v : V3 N st'
  k : ∀ i : Int, 0 ≤ i → iget st i ≠ 0 → iget st' i = iget st i
  z : ∀ i : Int, 0 ≤ i → iget st i = 0 → iget st' i = 0 ∨ iget st' i = 2
theorem Later.refl {N : Nat} {st : List Int} (h : st.length = N) (v : V3 N st) : Later N st st := ⟨h, v, fun _ _ _ => rfl, fun _ _ h => .inl h⟩
theorem Later.trans {N : Nat} {a b c : List Int} (h : Later N a b) (k : Later N b c) : Later N a c := by
  refine ⟨k.n, k.v, fun i h0 h1 => ?_, fun i h0 h1 => ?_⟩
  · have e := h.k i h0 h1
    rw [k.k i h0 (by rw [e]; exact h1), e]
  · rcases h.z i h0 h1 with e | e
    · exact k.z i h0 e
    · exact .inr (by rw [k.k i h0 (by rw [e]; decide), e])
theorem Later.zc {N : Nat} {st st' : List Int} (h0 : st.length = N) (h : Later N st st') : (zeros st').count true ≤ (zeros st).count true := by
  have e1 : (zeros st).length = st.length := by simp [zeros]
  have e2 : (zeros st').length = st'.length := by simp [zeros]
  have hn := h.n
  refine cnt_le (by omega) (BLe.get (n := N) (fun i i0 i1 hb => ?_) (by omega) (by omega))
  rw [zeros_bit i0 (by omega)] at hb ⊢
  rw [decide_eq_true_eq] at hb ⊢
  refine Classical.byContradiction fun c => ?_
  rw [h.k i i0 c] at hb
  exact c hb
theorem zeros_set {st : List Int} {n : Int} (h0 : 0 ≤ n) (h1 : n < st.length) (hz : iget st n = 0) : (zeros (st.set n.toNat 1)).count true < (zeros st).count true := by
  have e1 : (zeros st).length = st.length := by simp [zeros]
  have e2 : (zeros (st.set n.toNat 1)).length = st.length := by simp [zeros]
  refine cnt_lt (by omega) (BLe.get (n := st.length) (fun i i0 i1 hb => ?_) (by omega) (by omega)) ⟨n.toNat, by omega, by omega, ?_, ?_⟩
  · rw [zeros_bit i0 (by simp; omega)] at hb
    rw [zeros_bit i0 i1]
    rw [decide_eq_true_eq, iget_set h0 h1 i0] at hb
    split at hb
    · omega
    · exact decide_eq_true hb
  · rw [← bit_get h0 (by omega), zeros_bit h0 (by simp; omega), iget_set h0 h1 h0, if_pos rfl]
    rfl
  · rw [← bit_get h0 (by omega), zeros_bit h0 h1, hz]
    rfl
set_option maxHeartbeats 8000000 in
theorem visit_fw {N bs bn bv is io : Nat} {us : List Value} {ls : List (List Int)} (hN : N ≤ 4096) (hls : ∀ l ∈ ls, l.length ≤ 655360) : ∀ (c : Nat) (h : Heap) (st : List Int) (n : Int), VE h N bs bn bv is io us ls → h[is]? = some (stObj st) → st.length = N → (zeros st).count true ≤ c →
    0 ≤ n → n < N → iget st n = 0 → V3 N st → Acy (EL N ls) (S2 st) → (∀ i : Int, 0 ≤ i → iget st i = 1 → Plus (EL N ls) i n) →
    FW env 46 [i64 n, bptr bs, bptr bn, bptr bv] h fun r h' => ∃ b st', r = .bool b ∧ h' = h.set is (stObj st') ∧ (b = true → CycE (EL N ls)) ∧ (b = false → Later N st st' ∧ iget st' n = 2 ∧ Acy (EL N ls) (S2 st')) := by
  intro c
  induction c with
  | zero =>
    intro h st n V hs hl hc h0 h1 hz _ _ _
    have := zeros_set h0 (by omega) hz
    omega
  | succ c IH =>
    intro h st n V hs hl hc h0 h1 hz hv hA hS
    have hzs := zeros_set h0 (by omega) hz
    have r1 := rng0 (N := N) h0 h1
    have V1 := V.set (X := stObj (st.set n.toNat 1))
    have g1s : ∀ X : HObj, (h.set is X)[is]? = some X := fun X => get_set_self hs
    obtain ⟨v, hv'⟩ : ∃ v, us[n.toNat]? = some v := ⟨_, List.getElem?_eq_getElem (by rw [V.un]; omega)⟩
    have hlA := lget_get (ls := ls) h0 (by rw [V.ln]; exact h1)
    have hsl := V1.l _ _ _ hv' hlA
    obtain ⟨pv, cv, rfl⟩ := SlR.form hsl.1
    have hlen := hls _ (List.mem_of_getElem? hlA)
    have hrange := V.r _ (List.mem_of_getElem? hlA)
    refine fw_enter (fn := Try.f46) Try.func46 rfl (by kernel_rfl) (by simp [Try.ntmps46]) ?_; simp only [push_cast]
    repeat (first | refine cw_seq ?_ | refine cw_region ?_ | refine ow_nil ?_ | ((first | apply ow_cons | apply qw_cons); · simp only [push_cast, env, Nat.reduceEqDiff, reduceIte, Nat.reduceAdd, Nat.reduceMul, Nat.reduceLeDiff, reduceCtorEq, Nat.reduceSub, Int.reduceToNat, V.s, r1] <;> exact rfl) | ((first | apply ow_spec | apply qw_spec); · simp only [push_cast, env, Nat.reduceEqDiff, reduceIte, Nat.reduceAdd, Nat.reduceMul, Nat.reduceLeDiff, reduceCtorEq, Nat.reduceSub, Int.reduceToNat, V.s, r1] <;> exact rfl) | refine qw_nil ?_ | refine cw_block ?_ | refine cw_scope ?_ | refine cw_label ?_ | refine cw_skip ?_)
    refine ow_stoH (by simp only [push_cast, env, Nat.reduceEqDiff, reduceIte, Nat.reduceAdd, Nat.reduceMul, Nat.reduceLeDiff, reduceCtorEq, Nat.reduceSub, Int.reduceToNat] <;> exact rfl) rfl rfl (by simp only [push_cast, env, Nat.reduceEqDiff, reduceIte, Nat.reduceAdd, Nat.reduceMul, Nat.reduceLeDiff, reduceCtorEq, Nat.reduceSub, Int.reduceToNat] <;> exact rfl) (by simp only [push_cast, env, Nat.reduceEqDiff, reduceIte, Nat.reduceAdd, Nat.reduceMul, Nat.reduceLeDiff, reduceCtorEq, Nat.reduceSub, Int.reduceToNat, V.s, r1, Nat.mul_one] <;> exact rfl) hs rfl rfl (wr_map (f := i64) (x := 1) (by omega)) ?_
    have Vn := V1.n
    have Vo := V1.o
    repeat (first | refine cw_seq ?_ | refine cw_region ?_ | refine ow_nil ?_ | ((first | apply ow_cons | apply qw_cons); · simp only [push_cast, env, Nat.reduceEqDiff, reduceIte, Nat.reduceAdd, Nat.reduceMul, Nat.reduceLeDiff, reduceCtorEq, Nat.reduceSub, Int.reduceToNat, Vn, r1, Vo, hv', Nat.mul_one] <;> exact rfl) | ((first | apply ow_spec | apply qw_spec); · simp only [push_cast, env, Nat.reduceEqDiff, reduceIte, Nat.reduceAdd, Nat.reduceMul, Nat.reduceLeDiff, reduceCtorEq, Nat.reduceSub, Int.reduceToNat, Vn, r1, Vo, hv', Nat.mul_one] <;> exact rfl) | refine qw_nil ?_ | refine cw_block ?_ | refine cw_scope ?_ | refine cw_label ?_ | refine cw_skip ?_)
    have hst1 : ∀ i : Int, 0 ≤ i → iget (st.set n.toNat 1) i = if n = i then 1 else iget st i := fun i i0 => iget_set h0 (by omega) i0
    refine cw_forG (lget ls n).length (fun k (s : List Int) => [(0, .val (i64 n)), (1, .val (bptr bs)), (2, .val (bptr bn)), (3, .val (bptr bv)), (14, .val (.slice pv (lget ls n).length cv)), (15, .val (i64 (lget ls n).length)), (16, .val (i64 k))]) (fun _ s => h.set is (stObj s))
      (fun k s => Later N (st.set n.toNat 1) s ∧ Acy (EL N ls) (S2 s) ∧ ∀ (j : Nat) (hj : j < (lget ls n).length), j < k → iget s (lget ls n)[j] = 2) (st.set n.toNat 1) (by simp only [push_cast, SubL, fget, Nat.reduceEqDiff, reduceIte]) rfl ⟨.refl (by simp [hl]) ?_, ?_, fun _ _ h => absurd h (Nat.not_lt_zero _)⟩ ?_
    · intro i i0 i1
      rw [hst1 i i0]
      split
      · exact .inr (.inl rfl)
      · exact hv i i0 i1
    · refine hA.congr fun i => ?_
      unfold S2
      constructor
      · rintro ⟨i0, e⟩
        refine ⟨i0, ?_⟩
        rw [hst1 i i0]
        split
        · rename_i e2
          rw [← e2, hz] at e
          cases e
        · exact e
      · rintro ⟨i0, e⟩
        refine ⟨i0, ?_⟩
        rw [hst1 i i0] at e
        split at e
        · cases e
        · exact e
    rintro k s hk ⟨hL, hA2, hJ⟩
    have V2 := V.set (X := stObj s)
    have hsn := hL.n
    have hn1 : iget s n = 1 := by rw [hL.k n h0 (by rw [hst1 n h0, if_pos rfl]; decide), hst1 n h0, if_pos rfl]
    by_cases hlt : k < (lget ls n).length
    · have e1 := rng hlt
      have e2 := inc hlt (by omega)
      have e3 := lt_dec hlt
      obtain ⟨id4, ver4, own4, c4, hv4, hid4⟩ := SlR.at (V2.l _ _ _ hv' hlA).1 (by omega)
      cases hv4
      have hx := hrange (lget ls n)[k] (List.getElem_mem hlt)
      have g4 := map_get (f := i64) hlt
      generalize hX : (lget ls n)[k] = X at hx g4
      have hE : EL N ls n X := ⟨h0, h1, hX ▸ List.getElem_mem hlt⟩
      have r2 := rng0 (N := N) hx.1 hx.2
      have gX := iget_map (l := s) hx.1 (by omega)
      have g2 := g1s (stObj s)
      have Vs := V2.s
      have Vv := V2.v
      repeat (first | refine cw_seq ?_ | refine cw_region ?_ | refine ow_nil ?_ | ((first | apply ow_cons | apply qw_cons); · simp only [push_cast, env, Nat.reduceEqDiff, reduceIte, Nat.reduceAdd, Nat.reduceMul, Nat.reduceLeDiff, reduceCtorEq, Nat.reduceSub, Int.reduceToNat, e1, hid4, g4, e3, Nat.mul_one] <;> exact rfl) | ((first | apply ow_spec | apply qw_spec); · simp only [push_cast, env, Nat.reduceEqDiff, reduceIte, Nat.reduceAdd, Nat.reduceMul, Nat.reduceLeDiff, reduceCtorEq, Nat.reduceSub, Int.reduceToNat, e1, hid4, g4, e3, Nat.mul_one] <;> exact rfl) | refine qw_nil ?_ | refine cw_block ?_ | refine cw_scope ?_ | refine cw_label ?_ | refine cw_skip ?_)
      refine cw_condT (by simp only [push_cast, env, Nat.reduceEqDiff, reduceIte, Nat.reduceAdd, Nat.reduceMul, Nat.reduceLeDiff, reduceCtorEq, Nat.reduceSub, Int.reduceToNat] <;> exact rfl) ?_
      rcases hL.v X hx.1 hx.2 with c0 | c1 | c2
      · rw [c0] at gX
        repeat (first | refine cw_seq ?_ | refine cw_region ?_ | refine ow_nil ?_ | ((first | apply ow_cons | apply qw_cons); · simp only [push_cast, env, Nat.reduceEqDiff, reduceIte, Nat.reduceAdd, Nat.reduceMul, Nat.reduceLeDiff, reduceCtorEq, Nat.reduceSub, Int.reduceToNat, e1, hid4, g4, Nat.mul_one, Vs, r2, g2, gX, Vv] <;> exact rfl) | ((first | apply ow_spec | apply qw_spec); · simp only [push_cast, env, Nat.reduceEqDiff, reduceIte, Nat.reduceAdd, Nat.reduceMul, Nat.reduceLeDiff, reduceCtorEq, Nat.reduceSub, Int.reduceToNat, e1, hid4, g4, Nat.mul_one, Vs, r2, g2, gX, Vv] <;> exact rfl) | refine qw_nil ?_ | refine cw_block ?_ | refine cw_scope ?_ | refine cw_label ?_ | refine cw_skip ?_)
        refine ow_call (fn := Try.f46) (by simp only [push_cast, env, Nat.reduceEqDiff, reduceIte, Nat.reduceAdd, Nat.reduceMul, Nat.reduceLeDiff, reduceCtorEq, Nat.reduceSub, Int.reduceToNat] <;> exact rfl) rfl (by simp only [push_cast, env, Nat.reduceEqDiff, reduceIte, Nat.reduceAdd, Nat.reduceMul, Nat.reduceLeDiff, reduceCtorEq, Nat.reduceSub, Int.reduceToNat] <;> exact rfl) (by simp only [push_cast, env, Nat.reduceEqDiff, reduceIte, Nat.reduceAdd, Nat.reduceMul, Nat.reduceLeDiff, reduceCtorEq, Nat.reduceSub, Int.reduceToNat] <;> exact rfl) Try.func46 (by kernel_rfl) (by kernel_rfl) ?_
        refine (IH _ s X V2 g2 hsn (by have := hL.zc (by simp [hl]); omega) hx.1 hx.2 c0 hL.v hA2 fun i i0 hi => ?_).mono ?_
        · by_cases e : n = i
          · subst e
            exact .one hE
          · have h3 : iget (st.set n.toNat 1) i ≠ 0 := fun h => by rcases hL.z i i0 h with q | q <;> omega
            have h4 := hL.k i i0 h3
            rw [hst1 i i0, if_neg e] at h4
            exact (hS i i0 (by omega)).more hE
        rintro _ _ ⟨b, s', rfl, rfl, hT, hF⟩
        cases b with
        | true =>
          repeat (first | refine cw_seq ?_ | refine cw_region ?_ | refine ow_nil ?_ | ((first | apply ow_cons | apply qw_cons); · simp only [push_cast, env, Nat.reduceEqDiff, reduceIte, Nat.reduceAdd, Nat.reduceMul, Nat.reduceLeDiff, reduceCtorEq, Nat.reduceSub, Int.reduceToNat] <;> exact rfl) | ((first | apply ow_spec | apply qw_spec); · simp only [push_cast, env, Nat.reduceEqDiff, reduceIte, Nat.reduceAdd, Nat.reduceMul, Nat.reduceLeDiff, reduceCtorEq, Nat.reduceSub, Int.reduceToNat] <;> exact rfl) | refine qw_nil ?_ | refine cw_block ?_ | refine cw_scope ?_ | refine cw_label ?_ | refine cw_skip ?_)
          refine cw_condT (by simp only [push_cast, env, Nat.reduceEqDiff, reduceIte, Nat.reduceAdd, Nat.reduceMul, Nat.reduceLeDiff, reduceCtorEq, Nat.reduceSub, Int.reduceToNat] <;> exact rfl) ?_
          repeat (first | refine cw_seq ?_ | refine cw_region ?_ | refine ow_nil ?_ | ((first | apply ow_cons | apply qw_cons); · simp only [push_cast, env, Nat.reduceEqDiff, reduceIte, Nat.reduceAdd, Nat.reduceMul, Nat.reduceLeDiff, reduceCtorEq, Nat.reduceSub, Int.reduceToNat] <;> exact rfl) | ((first | apply ow_spec | apply qw_spec); · simp only [push_cast, env, Nat.reduceEqDiff, reduceIte, Nat.reduceAdd, Nat.reduceMul, Nat.reduceLeDiff, reduceCtorEq, Nat.reduceSub, Int.reduceToNat] <;> exact rfl) | refine qw_nil ?_ | refine cw_block ?_ | refine cw_scope ?_ | refine cw_label ?_ | refine cw_skip ?_)
          refine cw_ret ?_
          exact ⟨_, (by simp only [push_cast, env, Nat.reduceEqDiff, reduceIte, Nat.reduceAdd, Nat.reduceMul, Nat.reduceLeDiff, reduceCtorEq, Nat.reduceSub, Int.reduceToNat] <;> exact rfl), true, s', rfl, by rw [List.set_set], fun _ => hT rfl, fun h => by cases h⟩
        | false =>
          obtain ⟨k1, k2, k3⟩ := hF rfl
          repeat (first | refine cw_seq ?_ | refine cw_region ?_ | refine ow_nil ?_ | ((first | apply ow_cons | apply qw_cons); · simp only [push_cast, env, Nat.reduceEqDiff, reduceIte, Nat.reduceAdd, Nat.reduceMul, Nat.reduceLeDiff, reduceCtorEq, Nat.reduceSub, Int.reduceToNat] <;> exact rfl) | ((first | apply ow_spec | apply qw_spec); · simp only [push_cast, env, Nat.reduceEqDiff, reduceIte, Nat.reduceAdd, Nat.reduceMul, Nat.reduceLeDiff, reduceCtorEq, Nat.reduceSub, Int.reduceToNat] <;> exact rfl) | refine qw_nil ?_ | refine cw_block ?_ | refine cw_scope ?_ | refine cw_label ?_ | refine cw_skip ?_)
          refine cw_condF (by simp only [push_cast, env, Nat.reduceEqDiff, reduceIte, Nat.reduceAdd, Nat.reduceMul, Nat.reduceLeDiff, reduceCtorEq, Nat.reduceSub, Int.reduceToNat] <;> exact rfl) ?_
          repeat (first | refine cw_seq ?_ | refine cw_region ?_ | refine ow_nil ?_ | ((first | apply ow_cons | apply qw_cons); · simp only [push_cast, env, Nat.reduceEqDiff, reduceIte, Nat.reduceAdd, Nat.reduceMul, Nat.reduceLeDiff, reduceCtorEq, Nat.reduceSub, Int.reduceToNat, e2] <;> exact rfl) | ((first | apply ow_spec | apply qw_spec); · simp only [push_cast, env, Nat.reduceEqDiff, reduceIte, Nat.reduceAdd, Nat.reduceMul, Nat.reduceLeDiff, reduceCtorEq, Nat.reduceSub, Int.reduceToNat, e2] <;> exact rfl) | refine qw_nil ?_ | refine cw_block ?_ | refine cw_scope ?_ | refine cw_label ?_ | refine cw_skip ?_)
          refine ⟨hlt, s', (by simp only [push_cast, SubL, fget, Nat.reduceEqDiff, reduceIte]), by rw [List.set_set], hL.trans k1, k3, fun j hj hjk => ?_⟩
          rcases Nat.lt_or_ge j k with q | q
          · have := hJ j hj q
            rw [k1.k _ (hrange _ (List.getElem_mem hj)).1 (by rw [this]; decide), this]
          · obtain rfl : j = k := by omega
            rw [hX]
            exact k2
      · rw [c1] at gX
        repeat (first | refine cw_seq ?_ | refine cw_region ?_ | refine ow_nil ?_ | ((first | apply ow_cons | apply qw_cons); · simp only [push_cast, env, Nat.reduceEqDiff, reduceIte, Nat.reduceAdd, Nat.reduceMul, Nat.reduceLeDiff, reduceCtorEq, Nat.reduceSub, Int.reduceToNat, e1, hid4, g4, Nat.mul_one, Vs, r2, g2, gX, Vv] <;> exact rfl) | ((first | apply ow_spec | apply qw_spec); · simp only [push_cast, env, Nat.reduceEqDiff, reduceIte, Nat.reduceAdd, Nat.reduceMul, Nat.reduceLeDiff, reduceCtorEq, Nat.reduceSub, Int.reduceToNat, e1, hid4, g4, Nat.mul_one, Vs, r2, g2, gX, Vv] <;> exact rfl) | refine qw_nil ?_ | refine cw_block ?_ | refine cw_scope ?_ | refine cw_label ?_ | refine cw_skip ?_)
        refine cw_condT (by simp only [push_cast, env, Nat.reduceEqDiff, reduceIte, Nat.reduceAdd, Nat.reduceMul, Nat.reduceLeDiff, reduceCtorEq, Nat.reduceSub, Int.reduceToNat] <;> exact rfl) ?_
        repeat (first | refine cw_seq ?_ | refine cw_region ?_ | refine ow_nil ?_ | ((first | apply ow_cons | apply qw_cons); · simp only [push_cast, env, Nat.reduceEqDiff, reduceIte, Nat.reduceAdd, Nat.reduceMul, Nat.reduceLeDiff, reduceCtorEq, Nat.reduceSub, Int.reduceToNat] <;> exact rfl) | ((first | apply ow_spec | apply qw_spec); · simp only [push_cast, env, Nat.reduceEqDiff, reduceIte, Nat.reduceAdd, Nat.reduceMul, Nat.reduceLeDiff, reduceCtorEq, Nat.reduceSub, Int.reduceToNat] <;> exact rfl) | refine qw_nil ?_ | refine cw_block ?_ | refine cw_scope ?_ | refine cw_label ?_ | refine cw_skip ?_)
        refine cw_ret ?_
        refine ⟨_, (by simp only [push_cast, env, Nat.reduceEqDiff, reduceIte, Nat.reduceAdd, Nat.reduceMul, Nat.reduceLeDiff, reduceCtorEq, Nat.reduceSub, Int.reduceToNat] <;> exact rfl), true, s, rfl, rfl, fun _ => ?_, fun h => by cases h⟩
        by_cases e : n = X
        · exact ⟨n, .one (e ▸ hE)⟩
        · have h3 : iget (st.set n.toNat 1) X ≠ 0 := fun h => by rcases hL.z X hx.1 h with q | q <;> omega
          have h4 := hL.k X hx.1 h3
          rw [hst1 X hx.1, if_neg e] at h4
          exact ⟨X, (hS X hx.1 (by omega)).more hE⟩
      · rw [c2] at gX
        repeat (first | refine cw_seq ?_ | refine cw_region ?_ | refine ow_nil ?_ | ((first | apply ow_cons | apply qw_cons); · simp only [push_cast, env, Nat.reduceEqDiff, reduceIte, Nat.reduceAdd, Nat.reduceMul, Nat.reduceLeDiff, reduceCtorEq, Nat.reduceSub, Int.reduceToNat, e1, hid4, g4, Nat.mul_one, Vs, r2, g2, gX, Vv] <;> exact rfl) | ((first | apply ow_spec | apply qw_spec); · simp only [push_cast, env, Nat.reduceEqDiff, reduceIte, Nat.reduceAdd, Nat.reduceMul, Nat.reduceLeDiff, reduceCtorEq, Nat.reduceSub, Int.reduceToNat, e1, hid4, g4, Nat.mul_one, Vs, r2, g2, gX, Vv] <;> exact rfl) | refine qw_nil ?_ | refine cw_block ?_ | refine cw_scope ?_ | refine cw_label ?_ | refine cw_skip ?_)
        refine cw_condF (by simp only [push_cast, env, Nat.reduceEqDiff, reduceIte, Nat.reduceAdd, Nat.reduceMul, Nat.reduceLeDiff, reduceCtorEq, Nat.reduceSub, Int.reduceToNat] <;> exact rfl) ?_
        repeat (first | refine cw_seq ?_ | refine cw_region ?_ | refine ow_nil ?_ | ((first | apply ow_cons | apply qw_cons); · simp only [push_cast, env, Nat.reduceEqDiff, reduceIte, Nat.reduceAdd, Nat.reduceMul, Nat.reduceLeDiff, reduceCtorEq, Nat.reduceSub, Int.reduceToNat, e2] <;> exact rfl) | ((first | apply ow_spec | apply qw_spec); · simp only [push_cast, env, Nat.reduceEqDiff, reduceIte, Nat.reduceAdd, Nat.reduceMul, Nat.reduceLeDiff, reduceCtorEq, Nat.reduceSub, Int.reduceToNat, e2] <;> exact rfl) | refine qw_nil ?_ | refine cw_block ?_ | refine cw_scope ?_ | refine cw_label ?_ | refine cw_skip ?_)
        refine ⟨hlt, s, (by simp only [push_cast, SubL, fget, Nat.reduceEqDiff, reduceIte]), rfl, hL, hA2, fun j hj hjk => ?_⟩
        rcases Nat.lt_or_ge j k with q | q
        · exact hJ j hj q
        · obtain rfl : j = k := by omega
          rw [hX]
          exact c2
    · have e3 := ge_dec hlt
      obtain rfl : k = (lget ls n).length := by omega
      repeat (first | refine cw_seq ?_ | refine cw_region ?_ | refine ow_nil ?_ | ((first | apply ow_cons | apply qw_cons); · simp only [push_cast, env, Nat.reduceEqDiff, reduceIte, Nat.reduceAdd, Nat.reduceMul, Nat.reduceLeDiff, reduceCtorEq, Nat.reduceSub, Int.reduceToNat, e3] <;> exact rfl) | ((first | apply ow_spec | apply qw_spec); · simp only [push_cast, env, Nat.reduceEqDiff, reduceIte, Nat.reduceAdd, Nat.reduceMul, Nat.reduceLeDiff, reduceCtorEq, Nat.reduceSub, Int.reduceToNat, e3] <;> exact rfl) | refine qw_nil ?_ | refine cw_block ?_ | refine cw_scope ?_ | refine cw_label ?_ | refine cw_skip ?_)
      refine cw_condF (by simp only [push_cast, env, Nat.reduceEqDiff, reduceIte, Nat.reduceAdd, Nat.reduceMul, Nat.reduceLeDiff, reduceCtorEq, Nat.reduceSub, Int.reduceToNat] <;> exact rfl) ?_
      refine cw_exit ?_
      show CW _ _ _ _
      have Vs := V2.s
      have g2 := g1s (stObj s)
      repeat (first | refine cw_seq ?_ | refine cw_region ?_ | refine ow_nil ?_ | ((first | apply ow_cons | apply qw_cons); · simp only [push_cast, env, Nat.reduceEqDiff, reduceIte, Nat.reduceAdd, Nat.reduceMul, Nat.reduceLeDiff, reduceCtorEq, Nat.reduceSub, Int.reduceToNat, Vs, r1] <;> exact rfl) | ((first | apply ow_spec | apply qw_spec); · simp only [push_cast, env, Nat.reduceEqDiff, reduceIte, Nat.reduceAdd, Nat.reduceMul, Nat.reduceLeDiff, reduceCtorEq, Nat.reduceSub, Int.reduceToNat, Vs, r1] <;> exact rfl) | refine qw_nil ?_ | refine cw_block ?_ | refine cw_scope ?_ | refine cw_label ?_ | refine cw_skip ?_)
      refine ow_stoH (by simp only [push_cast, env, Nat.reduceEqDiff, reduceIte, Nat.reduceAdd, Nat.reduceMul, Nat.reduceLeDiff, reduceCtorEq, Nat.reduceSub, Int.reduceToNat] <;> exact rfl) rfl rfl (by simp only [push_cast, env, Nat.reduceEqDiff, reduceIte, Nat.reduceAdd, Nat.reduceMul, Nat.reduceLeDiff, reduceCtorEq, Nat.reduceSub, Int.reduceToNat] <;> exact rfl) (by simp only [push_cast, env, Nat.reduceEqDiff, reduceIte, Nat.reduceAdd, Nat.reduceMul, Nat.reduceLeDiff, reduceCtorEq, Nat.reduceSub, Int.reduceToNat, Vs, r1, Nat.mul_one] <;> exact rfl) g2 rfl rfl (wr_map (f := i64) (x := 2) (by omega)) ?_
      repeat (first | refine cw_seq ?_ | refine cw_region ?_ | refine ow_nil ?_ | ((first | apply ow_cons | apply qw_cons); · simp only [push_cast, env, Nat.reduceEqDiff, reduceIte, Nat.reduceAdd, Nat.reduceMul, Nat.reduceLeDiff, reduceCtorEq, Nat.reduceSub, Int.reduceToNat] <;> exact rfl) | ((first | apply ow_spec | apply qw_spec); · simp only [push_cast, env, Nat.reduceEqDiff, reduceIte, Nat.reduceAdd, Nat.reduceMul, Nat.reduceLeDiff, reduceCtorEq, Nat.reduceSub, Int.reduceToNat] <;> exact rfl) | refine qw_nil ?_ | refine cw_block ?_ | refine cw_scope ?_ | refine cw_label ?_ | refine cw_skip ?_)
      refine cw_ret ?_
      have hs2 : ∀ i : Int, 0 ≤ i → iget (s.set n.toNat 2) i = if n = i then 2 else iget s i := fun i i0 => iget_set h0 (by omega) i0
      refine ⟨_, (by simp only [push_cast, env, Nat.reduceEqDiff, reduceIte, Nat.reduceAdd, Nat.reduceMul, Nat.reduceLeDiff, reduceCtorEq, Nat.reduceSub, Int.reduceToNat] <;> exact rfl), false, s.set n.toNat 2, rfl, by rw [List.set_set], (fun h => by cases h), fun _ => ⟨⟨by simp [hsn], fun i i0 i1 => ?_, fun i i0 hi => ?_, fun i i0 hi => ?_⟩, by rw [hs2 n h0, if_pos rfl], ?_⟩⟩
      · rw [hs2 i i0]
        split
        · exact .inr (.inr rfl)
        · exact hL.v i i0 i1
      · rw [hs2 i i0]
        split
        · rename_i e
          rw [← e, hz] at hi
          exact (hi rfl).elim
        · rename_i e
          have := hL.k i i0 (by rw [hst1 i i0, if_neg e]; exact hi)
          rw [this, hst1 i i0, if_neg e]
      · rw [hs2 i i0]
        split
        · exact .inr rfl
        · rename_i e
          exact hL.z i i0 (by rw [hst1 i i0, if_neg e]; exact hi)
      · refine (hA2.add (n := n) (fun hh => by rw [hh.2] at hn1; cases hn1) fun j hj => ?_).congr fun i => ?_
        · obtain ⟨q, hq, rfl⟩ := List.mem_iff_getElem.1 hj.2.2
          exact ⟨(hrange _ (List.getElem_mem hq)).1, hJ q hq hq⟩
        · unfold S2
          constructor
          · rintro (⟨i0, e⟩ | rfl)
            · refine ⟨i0, ?_⟩
              rw [hs2 i i0]
              split
              · rfl
              · exact e
            · exact ⟨h0, by rw [hs2 i h0, if_pos rfl]⟩
          · rintro ⟨i0, e⟩
            rw [hs2 i i0] at e
            split at e
            · rename_i e2
              exact .inr e2.symm
            · exact .inl ⟨i0, e⟩
end Go.Proofs.Ytnlchlnkibpkaaa

/- Cyclic of the program. -/
namespace Go.Proofs.Ytnlchlnkibpkaaa
set_option linter.unusedSimpArgs false
set_option linter.unusedVariables false
open Go.RowKit Am Ty

abbrev CycR (g : Gram) (x : Value) (_ : Heap) : Prop := ∃ b : Bool, x = .bool b ∧ (b = true ↔ CycE (Edge g (nullD g)))
set_option maxHeartbeats 8000000 in
theorem cyclic_fw {h : Heap} {g : Gram} {v : Value} (hr : RdGram h v g) : FW env 25 [v] h fun r h' => Told g (.bool false) (CycR g) r h' ∧ h <+: h' := by
  obtain ⟨u, rfl, hu⟩ := id hr
  obtain ⟨p, c, rfl⟩ := hu.form
  have hle := hu.le
  refine fw_enter (fn := Try.f25) Try.func25 rfl (by kernel_rfl) (by simp [Try.ntmps25]) ?_; simp only [push_cast]
  repeat (first | refine cw_seq ?_ | refine cw_region ?_ | refine ow_nil ?_ | ((first | apply ow_cons | apply qw_cons); · simp only [push_cast, env, Nat.reduceEqDiff, reduceIte, Nat.reduceAdd, Nat.reduceMul, Nat.reduceLeDiff, reduceCtorEq, Nat.reduceSub, Int.reduceToNat] <;> exact rfl) | ((first | apply ow_spec | apply qw_spec); · simp only [push_cast, env, Nat.reduceEqDiff, reduceIte, Nat.reduceAdd, Nat.reduceMul, Nat.reduceLeDiff, reduceCtorEq, Nat.reduceSub, Int.reduceToNat] <;> exact rfl) | refine qw_nil ?_ | refine cw_block ?_ | refine cw_scope ?_ | refine cw_label ?_ | refine cw_skip ?_)
  refine ow_call (fn := Try.f22) (by simp only [push_cast, env, Nat.reduceEqDiff, reduceIte, Nat.reduceAdd, Nat.reduceMul, Nat.reduceLeDiff, reduceCtorEq, Nat.reduceSub, Int.reduceToNat] <;> exact rfl) rfl (by simp only [push_cast, env, Nat.reduceEqDiff, reduceIte, Nat.reduceAdd, Nat.reduceMul, Nat.reduceLeDiff, reduceCtorEq, Nat.reduceSub, Int.reduceToNat] <;> exact rfl) (by simp only [push_cast, env, Nat.reduceEqDiff, reduceIte, Nat.reduceAdd, Nat.reduceMul, Nat.reduceLeDiff, reduceCtorEq, Nat.reduceSub, Int.reduceToNat] <;> exact rfl) Try.func22 (by kernel_rfl) (by kernel_rfl) ?_
  rw [List.append_nil]
  refine (nullable_fw hr).mono ?_
  rintro _ h1 ⟨⟨x, rfl, ⟨hb, rfl⟩ | ⟨hb, m, hm, idm, verm, him, rfl, hgm⟩⟩, hp1⟩
  · have e0 : rightG g = 3 := if_pos hb
    rw [e0]
    repeat (first | refine cw_seq ?_ | refine cw_region ?_ | refine ow_nil ?_ | ((first | apply ow_cons | apply qw_cons); · simp only [push_cast, env, Nat.reduceEqDiff, reduceIte, Nat.reduceAdd, Nat.reduceMul, Nat.reduceLeDiff, reduceCtorEq, Nat.reduceSub, Int.reduceToNat] <;> exact rfl) | ((first | apply ow_spec | apply qw_spec); · simp only [push_cast, env, Nat.reduceEqDiff, reduceIte, Nat.reduceAdd, Nat.reduceMul, Nat.reduceLeDiff, reduceCtorEq, Nat.reduceSub, Int.reduceToNat] <;> exact rfl) | refine qw_nil ?_ | refine cw_block ?_ | refine cw_scope ?_ | refine cw_label ?_ | refine cw_skip ?_)
    refine cw_condT (by simp only [push_cast, env, Nat.reduceEqDiff, reduceIte, Nat.reduceAdd, Nat.reduceMul, Nat.reduceLeDiff, reduceCtorEq, Nat.reduceSub, Int.reduceToNat] <;> exact rfl) ?_
    repeat (first | refine cw_seq ?_ | refine cw_region ?_ | refine ow_nil ?_ | ((first | apply ow_cons | apply qw_cons); · simp only [push_cast, env, Nat.reduceEqDiff, reduceIte, Nat.reduceAdd, Nat.reduceMul, Nat.reduceLeDiff, reduceCtorEq, Nat.reduceSub, Int.reduceToNat] <;> exact rfl) | ((first | apply ow_spec | apply qw_spec); · simp only [push_cast, env, Nat.reduceEqDiff, reduceIte, Nat.reduceAdd, Nat.reduceMul, Nat.reduceLeDiff, reduceCtorEq, Nat.reduceSub, Int.reduceToNat] <;> exact rfl) | refine qw_nil ?_ | refine cw_block ?_ | refine cw_scope ?_ | refine cw_label ?_ | refine cw_skip ?_)
    refine cw_ret ?_
    exact ⟨_, (by simp only [push_cast, env, Nat.reduceEqDiff, reduceIte, Nat.reduceAdd, Nat.reduceMul, Nat.reduceLeDiff, reduceCtorEq, Nat.reduceSub, Int.reduceToNat] <;> exact rfl), ⟨_, by rw [e0]; rfl, .inl ⟨hb, rfl⟩⟩, hp1⟩
  have e0 : rightG g = 0 := if_neg hb
  have R := rightS hb
  have n1 := R.n1
  have n2 := R.n2
  have hrl := R.rl
  have hml := hm.1
  rw [e0]
  repeat (first | refine cw_seq ?_ | refine cw_region ?_ | refine ow_nil ?_ | ((first | apply ow_cons | apply qw_cons); · simp only [push_cast, env, Nat.reduceEqDiff, reduceIte, Nat.reduceAdd, Nat.reduceMul, Nat.reduceLeDiff, reduceCtorEq, Nat.reduceSub, Int.reduceToNat] <;> exact rfl) | ((first | apply ow_spec | apply qw_spec); · simp only [push_cast, env, Nat.reduceEqDiff, reduceIte, Nat.reduceAdd, Nat.reduceMul, Nat.reduceLeDiff, reduceCtorEq, Nat.reduceSub, Int.reduceToNat] <;> exact rfl) | refine qw_nil ?_ | refine cw_block ?_ | refine cw_scope ?_ | refine cw_label ?_ | refine cw_skip ?_)
  refine cw_condF (by simp only [push_cast, env, Nat.reduceEqDiff, reduceIte, Nat.reduceAdd, Nat.reduceMul, Nat.reduceLeDiff, reduceCtorEq, Nat.reduceSub, Int.reduceToNat] <;> exact rfl) ?_
  obtain ⟨N, hN⟩ : ∃ N : Nat, g.nts = N := ⟨g.nts.toNat, by omega⟩
  repeat (first | refine cw_seq ?_ | refine cw_region ?_ | refine ow_nil ?_ | ((first | apply ow_cons | apply qw_cons); · simp only [push_cast, env, Nat.reduceEqDiff, reduceIte, Nat.reduceAdd, Nat.reduceMul, Nat.reduceLeDiff, reduceCtorEq, Nat.reduceSub, Int.reduceToNat] <;> exact rfl) | ((first | apply ow_spec | apply qw_spec); · simp only [push_cast, env, Nat.reduceEqDiff, reduceIte, Nat.reduceAdd, Nat.reduceMul, Nat.reduceLeDiff, reduceCtorEq, Nat.reduceSub, Int.reduceToNat] <;> exact rfl) | refine qw_nil ?_ | refine cw_block ?_ | refine cw_scope ?_ | refine cw_label ?_ | refine cw_skip ?_)
  refine ow_call (fn := Try.f45) (by simp only [push_cast, env, Nat.reduceEqDiff, reduceIte, Nat.reduceAdd, Nat.reduceMul, Nat.reduceLeDiff, reduceCtorEq, Nat.reduceSub, Int.reduceToNat] <;> exact rfl) rfl (by simp only [push_cast, env, Nat.reduceEqDiff, reduceIte, Nat.reduceAdd, Nat.reduceMul, Nat.reduceLeDiff, reduceCtorEq, Nat.reduceSub, Int.reduceToNat] <;> exact rfl) (by simp only [push_cast, env, Nat.reduceEqDiff, reduceIte, Nat.reduceAdd, Nat.reduceMul, Nat.reduceLeDiff, reduceCtorEq, Nat.reduceSub, Int.reduceToNat] <;> exact rfl) Try.func45 (by kernel_rfl) (by kernel_rfl) ?_
  rw [List.append_nil]
  refine (steps_fw (hr.mono hp1) R hm ⟨by omega, .inr ⟨idm, verm, true, _, rfl, hgm⟩⟩).mono ?_
  rintro _ h2 ⟨⟨us, ls, rfl, ho, hNL, hLI, hlb⟩, hp2⟩
  have hio : h1.length < h2.length := lt_of_get ho
  have hln := hLI.n
  have hun := hNL.n
  have hsl : ∀ (H : Heap) (a b : HObj), (H ++ [a]).set H.length b = H ++ [b] := fun H a b => by simp
  have hle1 : ∀ (H : Heap) (a : HObj), (H ++ [a]).length = H.length + 1 := fun H a => by simp
  refine ow_boxH (t := 63) (cs := [nilS]) (by simp only [push_cast, env, Nat.reduceEqDiff, reduceIte, Nat.reduceAdd, Nat.reduceMul, Nat.reduceLeDiff, reduceCtorEq, Nat.reduceSub, Int.reduceToNat] <;> exact rfl) (by simp only [push_cast, env, Nat.reduceEqDiff, reduceIte, Nat.reduceAdd, Nat.reduceMul, Nat.reduceLeDiff, reduceCtorEq, Nat.reduceSub, Int.reduceToNat] <;> exact rfl) ?_
  refine ow_stoH (by simp only [push_cast, env, Nat.reduceEqDiff, reduceIte, Nat.reduceAdd, Nat.reduceMul, Nat.reduceLeDiff, reduceCtorEq, Nat.reduceSub, Int.reduceToNat] <;> exact rfl) rfl rfl (by simp only [push_cast, env, Nat.reduceEqDiff, reduceIte, Nat.reduceAdd, Nat.reduceMul, Nat.reduceLeDiff, reduceCtorEq, Nat.reduceSub, Int.reduceToNat] <;> exact rfl) (by simp only [push_cast, env, Nat.reduceEqDiff, reduceIte, Nat.reduceAdd, Nat.reduceMul, Nat.reduceLeDiff, reduceCtorEq, Nat.reduceSub, Int.reduceToNat] <;> exact rfl) get_push (by simp only [push_cast, env, Nat.reduceEqDiff, reduceIte, Nat.reduceAdd, Nat.reduceMul, Nat.reduceLeDiff, reduceCtorEq, Nat.reduceSub, Int.reduceToNat] <;> exact rfl) rfl rfl ?_
  dsimp only [St.putO, St.put]
  rw [hsl]
  repeat (first | refine cw_seq ?_ | refine cw_region ?_ | refine ow_nil ?_ | ((first | apply ow_cons | apply qw_cons); · simp only [push_cast, env, Nat.reduceEqDiff, reduceIte, Nat.reduceAdd, Nat.reduceMul, Nat.reduceLeDiff, reduceCtorEq, Nat.reduceSub, Int.reduceToNat] <;> exact rfl) | ((first | apply ow_spec | apply qw_spec); · simp only [push_cast, env, Nat.reduceEqDiff, reduceIte, Nat.reduceAdd, Nat.reduceMul, Nat.reduceLeDiff, reduceCtorEq, Nat.reduceSub, Int.reduceToNat] <;> exact rfl) | refine qw_nil ?_ | refine cw_block ?_ | refine cw_scope ?_ | refine cw_label ?_ | refine cw_skip ?_)
  refine ow_mkInt (N := N) (by simp only [push_cast, env, Nat.reduceEqDiff, reduceIte, Nat.reduceAdd, Nat.reduceMul, Nat.reduceLeDiff, reduceCtorEq, Nat.reduceSub, Int.reduceToNat] <;> exact rfl) rfl (by simp only [push_cast, env, Nat.reduceEqDiff, reduceIte, Nat.reduceAdd, Nat.reduceMul, Nat.reduceLeDiff, reduceCtorEq, Nat.reduceSub, Int.reduceToNat] <;> exact rfl) hN (by omega) ?_
  refine ow_boxH (t := 40) (cs := [nilS]) (by simp only [push_cast, env, Nat.reduceEqDiff, reduceIte, Nat.reduceAdd, Nat.reduceMul, Nat.reduceLeDiff, reduceCtorEq, Nat.reduceSub, Int.reduceToNat] <;> exact rfl) (by simp only [push_cast, env, Nat.reduceEqDiff, reduceIte, Nat.reduceAdd, Nat.reduceMul, Nat.reduceLeDiff, reduceCtorEq, Nat.reduceSub, Int.reduceToNat] <;> exact rfl) ?_
  refine ow_stoH (by simp only [push_cast, env, Nat.reduceEqDiff, reduceIte, Nat.reduceAdd, Nat.reduceMul, Nat.reduceLeDiff, reduceCtorEq, Nat.reduceSub, Int.reduceToNat] <;> exact rfl) rfl rfl (by simp only [push_cast, env, Nat.reduceEqDiff, reduceIte, Nat.reduceAdd, Nat.reduceMul, Nat.reduceLeDiff, reduceCtorEq, Nat.reduceSub, Int.reduceToNat] <;> exact rfl) (by simp only [push_cast, env, Nat.reduceEqDiff, reduceIte, Nat.reduceAdd, Nat.reduceMul, Nat.reduceLeDiff, reduceCtorEq, Nat.reduceSub, Int.reduceToNat] <;> exact rfl) get_push (by simp only [push_cast, env, Nat.reduceEqDiff, reduceIte, Nat.reduceAdd, Nat.reduceMul, Nat.reduceLeDiff, reduceCtorEq, Nat.reduceSub, Int.reduceToNat] <;> exact rfl) rfl rfl ?_
  dsimp only [St.putO, St.put]
  rw [hsl]
  repeat (first | refine cw_seq ?_ | refine cw_region ?_ | refine ow_nil ?_ | refine qw_nil ?_ | refine cw_block ?_ | refine cw_scope ?_ | refine cw_label ?_ | refine cw_skip ?_)
  refine ow_boxH (t := 65) (cs := [.nilFunc]) (by simp only [push_cast, env, Nat.reduceEqDiff, reduceIte, Nat.reduceAdd, Nat.reduceMul, Nat.reduceLeDiff, reduceCtorEq, Nat.reduceSub, Int.reduceToNat] <;> exact rfl) (by simp only [push_cast, env, Nat.reduceEqDiff, reduceIte, Nat.reduceAdd, Nat.reduceMul, Nat.reduceLeDiff, reduceCtorEq, Nat.reduceSub, Int.reduceToNat] <;> exact rfl) ?_
  dsimp only [St.putO, St.put]
  repeat (first | refine cw_seq ?_ | refine cw_region ?_ | refine ow_nil ?_ | refine qw_nil ?_ | refine cw_block ?_ | refine cw_scope ?_ | refine cw_label ?_ | refine cw_skip ?_)
  iterate 1 (apply ow_cons; · simp only [push_cast, env, Nat.reduceEqDiff, reduceIte, Nat.reduceAdd, Nat.reduceMul, Nat.reduceLeDiff, reduceCtorEq, Nat.reduceSub, Int.reduceToNat] <;> exact rfl)
  refine ow_stoH (by simp only [push_cast, env, Nat.reduceEqDiff, reduceIte, Nat.reduceAdd, Nat.reduceMul, Nat.reduceLeDiff, reduceCtorEq, Nat.reduceSub, Int.reduceToNat] <;> exact rfl) rfl rfl (by simp only [push_cast, env, Nat.reduceEqDiff, reduceIte, Nat.reduceAdd, Nat.reduceMul, Nat.reduceLeDiff, reduceCtorEq, Nat.reduceSub, Int.reduceToNat] <;> exact rfl) (by simp only [push_cast, env, Nat.reduceEqDiff, reduceIte, Nat.reduceAdd, Nat.reduceMul, Nat.reduceLeDiff, reduceCtorEq, Nat.reduceSub, Int.reduceToNat] <;> exact rfl) get_push (by simp only [push_cast, env, Nat.reduceEqDiff, reduceIte, Nat.reduceAdd, Nat.reduceMul, Nat.reduceLeDiff, reduceCtorEq, Nat.reduceSub, Int.reduceToNat] <;> exact rfl) rfl rfl ?_
  dsimp only [St.putO, St.put]
  rw [hsl]
  repeat (first | refine cw_seq ?_ | refine cw_region ?_ | refine ow_nil ?_ | ((first | apply ow_cons | apply qw_cons); · simp only [push_cast, env, Nat.reduceEqDiff, reduceIte, Nat.reduceAdd, Nat.reduceMul, Nat.reduceLeDiff, reduceCtorEq, Nat.reduceSub, Int.reduceToNat, hle1] <;> exact rfl) | ((first | apply ow_spec | apply qw_spec); · simp only [push_cast, env, Nat.reduceEqDiff, reduceIte, Nat.reduceAdd, Nat.reduceMul, Nat.reduceLeDiff, reduceCtorEq, Nat.reduceSub, Int.reduceToNat, hle1] <;> exact rfl) | refine qw_nil ?_ | refine cw_block ?_ | refine cw_scope ?_ | refine cw_label ?_ | refine cw_skip ?_)
  have E0 : ∀ i : Int, 0 ≤ i → i < N → iget (List.replicate N (0 : Int)) i = 0 := fun i i0 i1 => by
    rw [iget_get i0 (by simp; omega)]
    simp
  refine cw_forG N (fun k (x : Heap × List Int) => [(1, .box [i64 g.nts, i64 g.start, .slice p g.rules.length c]), (7, .val (bptr (h2.length + 2))), (8, .val (bptr (h2.length + 3))), (26, .val (i64 N)), (27, .val (i64 k))]) (fun _ x => x.1)
    (fun k x => h2 <+: x.1 ∧ VE x.1 N (h2.length + 2) h2.length (h2.length + 3) (h2.length + 1) h1.length us ls ∧ x.1[h2.length + 1]? = some (stObj x.2) ∧ Later N (List.replicate N 0) x.2 ∧ Acy (EL N ls) (S2 x.2) ∧ ∀ i : Int, 0 ≤ i → i < k → iget x.2 i ≠ 0) (_, List.replicate N 0) (by simp only [push_cast, SubL, fget, Nat.reduceEqDiff, reduceIte, hN]) rfl ⟨?_, ⟨?_, ?_, ?_, ?_, ?_, ?_, ?_, ?_, ?_⟩, ?_, .refl (by simp) fun i i0 i1 => .inl (E0 i i0 i1), ?_, fun i i0 i1 => ?_⟩ ?_
  · exact pre_push (pre_push (pre_push prefix_push))
  · simp [hle1, List.getElem?_append]
  · have hunN : us.length = N := by omega
    simp [hle1, List.getElem?_append, hunN]
  · simp [hle1, List.getElem?_append]
  · exact get_of_push (get_of_push (get_of_push (get_of_push ho)))
  · intro i u l q1 q2
    have G := hNL.g i u l q1 q2
    have hl := hlb l (List.mem_of_getElem? q2)
    refine ⟨SlR.mono (G.sl (by omega)) (pre_push (pre_push (pre_push prefix_push))), ?_⟩
    cases hb : isAt u _ with
    | false => rfl
    | true => have := (G.lt hb).2; omega
  · omega
  · omega
  · intro l hl x hx
    obtain ⟨i, hi, rfl⟩ := List.mem_iff_getElem.1 hl
    have e : lget ls (i : Int) = ls[i] := by unfold lget; rw [List.getD_eq_getElem?_getD, Int.toNat_natCast, List.getElem?_eq_getElem hi]; rfl
    have := (hLI.edge (a := i) (by omega) (by omega)).1 (by rw [e]; exact hx)
    have := edge_range R this
    omega
  · omega
  · simp [hle1, List.getElem?_append]
  · intro i hi
    have e : iget (List.replicate N (0 : Int)) i = 2 := hi.2
    have : ¬ i < N := fun h => by rw [E0 i hi.1 h] at e; cases e
    unfold iget at e
    rw [List.getD_eq_getElem?_getD, List.getElem?_eq_none (by simp; have := hi.1; omega)] at e
    cases e
  · have := i1
    omega
  rintro k ⟨H, s⟩ hkn ⟨hp, V, hs, hL, hA, hJ⟩
  simp only at hp V hs hL hA hJ ⊢
  have hsn := hL.n
  have h02 : ∀ i : Int, 0 ≤ i → i < N → iget s i = 0 ∨ iget s i = 2 := fun i i0 i1 => hL.z i i0 (E0 i i0 i1)
  have hEE : ∀ a b, EL N ls a b ↔ Edge g (nullD g) a b := fun a b => by
    unfold EL
    constructor
    · rintro ⟨i0, i1, hb⟩
      exact (hLI.edge i0 (by omega)).1 hb
    · intro hE
      have := (edge_range R hE).1
      exact ⟨this.1, by omega, (hLI.edge this.1 this.2).2 hE⟩
  have hCC : CycE (EL N ls) ↔ CycE (Edge g (nullD g)) := by rw [show EL N ls = Edge g (nullD g) from funext fun a => funext fun b => propext (hEE a b)]
  have hpre : h <+: H := hp1.trans (hp2.trans hp)
  by_cases hlt : k < N
  · have e1 := rng hlt
    have e2 := inc hlt (by omega)
    have e3 := lt_dec hlt
    have r2 := rng0 (N := N) (i := (k : Int)) (by omega) (by omega)
    have gX := iget_map (l := s) (i := (k : Int)) (by omega) (by omega)
    simp only [Int.toNat_natCast] at gX
    have Vs := V.s
    have Vv := V.v
    have hJ2 : ∀ s' : List Int, Later N s s' → iget s' k ≠ 0 → ∀ i : Int, 0 ≤ i → i < ((k + 1 : Nat) : Int) → iget s' i ≠ 0 := fun s' hL' hk' i i0 i1 => by
      by_cases e : i = k
      · rw [e]
        exact hk'
      · have := hJ i i0 (by omega)
        rw [hL'.k i i0 this]
        exact this
    repeat (first | refine cw_seq ?_ | refine cw_region ?_ | refine ow_nil ?_ | ((first | apply ow_cons | apply qw_cons); · simp only [push_cast, env, Nat.reduceEqDiff, reduceIte, Nat.reduceAdd, Nat.reduceMul, Nat.reduceLeDiff, reduceCtorEq, Nat.reduceSub, Int.reduceToNat, e3] <;> exact rfl) | ((first | apply ow_spec | apply qw_spec); · simp only [push_cast, env, Nat.reduceEqDiff, reduceIte, Nat.reduceAdd, Nat.reduceMul, Nat.reduceLeDiff, reduceCtorEq, Nat.reduceSub, Int.reduceToNat, e3] <;> exact rfl) | refine qw_nil ?_ | refine cw_block ?_ | refine cw_scope ?_ | refine cw_label ?_ | refine cw_skip ?_)
    refine cw_condT (by simp only [push_cast, env, Nat.reduceEqDiff, reduceIte, Nat.reduceAdd, Nat.reduceMul, Nat.reduceLeDiff, reduceCtorEq, Nat.reduceSub, Int.reduceToNat] <;> exact rfl) ?_
    rcases h02 k (by omega) (by omega) with c0 | c2
    · rw [c0] at gX
      repeat (first | refine cw_seq ?_ | refine cw_region ?_ | refine ow_nil ?_ | ((first | apply ow_cons | apply qw_cons); · simp only [push_cast, env, Nat.reduceEqDiff, reduceIte, Nat.reduceAdd, Nat.reduceMul, Nat.reduceLeDiff, reduceCtorEq, Nat.reduceSub, Int.reduceToNat, Vs, e1, hs, gX, Nat.mul_one, Vv] <;> exact rfl) | ((first | apply ow_spec | apply qw_spec); · simp only [push_cast, env, Nat.reduceEqDiff, reduceIte, Nat.reduceAdd, Nat.reduceMul, Nat.reduceLeDiff, reduceCtorEq, Nat.reduceSub, Int.reduceToNat, Vs, e1, hs, gX, Nat.mul_one, Vv] <;> exact rfl) | refine qw_nil ?_ | refine cw_block ?_ | refine cw_scope ?_ | refine cw_label ?_ | refine cw_skip ?_)
      refine ow_call (fn := Try.f46) (by simp only [push_cast, env, Nat.reduceEqDiff, reduceIte, Nat.reduceAdd, Nat.reduceMul, Nat.reduceLeDiff, reduceCtorEq, Nat.reduceSub, Int.reduceToNat] <;> exact rfl) rfl (by simp only [push_cast, env, Nat.reduceEqDiff, reduceIte, Nat.reduceAdd, Nat.reduceMul, Nat.reduceLeDiff, reduceCtorEq, Nat.reduceSub, Int.reduceToNat] <;> exact rfl) (by simp only [push_cast, env, Nat.reduceEqDiff, reduceIte, Nat.reduceAdd, Nat.reduceMul, Nat.reduceLeDiff, reduceCtorEq, Nat.reduceSub, Int.reduceToNat] <;> exact rfl) Try.func46 (by kernel_rfl) (by kernel_rfl) ?_
      refine (visit_fw (by omega) hlb _ _ s k V hs hsn (Nat.le_refl _) (by omega) (by omega) c0 hL.v hA fun i i0 hi => ?_).mono ?_
      · by_cases hiN : i < N
        · have := h02 i i0 hiN
          omega
        · unfold iget at hi
          rw [List.getD_eq_getElem?_getD, List.getElem?_eq_none (by omega)] at hi
          cases hi
      rintro _ _ ⟨b, s', rfl, rfl, hT, hF⟩
      have V' := V.set (X := stObj s')
      cases b with
      | true =>
        repeat (first | refine cw_seq ?_ | refine cw_region ?_ | refine ow_nil ?_ | ((first | apply ow_cons | apply qw_cons); · simp only [push_cast, env, Nat.reduceEqDiff, reduceIte, Nat.reduceAdd, Nat.reduceMul, Nat.reduceLeDiff, reduceCtorEq, Nat.reduceSub, Int.reduceToNat] <;> exact rfl) | ((first | apply ow_spec | apply qw_spec); · simp only [push_cast, env, Nat.reduceEqDiff, reduceIte, Nat.reduceAdd, Nat.reduceMul, Nat.reduceLeDiff, reduceCtorEq, Nat.reduceSub, Int.reduceToNat] <;> exact rfl) | refine qw_nil ?_ | refine cw_block ?_ | refine cw_scope ?_ | refine cw_label ?_ | refine cw_skip ?_)
        refine cw_condT (by simp only [push_cast, env, Nat.reduceEqDiff, reduceIte, Nat.reduceAdd, Nat.reduceMul, Nat.reduceLeDiff, reduceCtorEq, Nat.reduceSub, Int.reduceToNat] <;> exact rfl) ?_
        repeat (first | refine cw_seq ?_ | refine cw_region ?_ | refine ow_nil ?_ | ((first | apply ow_cons | apply qw_cons); · simp only [push_cast, env, Nat.reduceEqDiff, reduceIte, Nat.reduceAdd, Nat.reduceMul, Nat.reduceLeDiff, reduceCtorEq, Nat.reduceSub, Int.reduceToNat] <;> exact rfl) | ((first | apply ow_spec | apply qw_spec); · simp only [push_cast, env, Nat.reduceEqDiff, reduceIte, Nat.reduceAdd, Nat.reduceMul, Nat.reduceLeDiff, reduceCtorEq, Nat.reduceSub, Int.reduceToNat] <;> exact rfl) | refine qw_nil ?_ | refine cw_block ?_ | refine cw_scope ?_ | refine cw_label ?_ | refine cw_skip ?_)
        refine cw_ret ?_
        exact ⟨_, (by simp only [push_cast, env, Nat.reduceEqDiff, reduceIte, Nat.reduceAdd, Nat.reduceMul, Nat.reduceLeDiff, reduceCtorEq, Nat.reduceSub, Int.reduceToNat] <;> exact rfl), ⟨_, by rw [e0]; rfl, .inr ⟨hb, true, rfl, by rw [← hCC]; simp [hT rfl]⟩⟩, pre_set hpre (by have := (hp1.trans hp2).length_le; omega)⟩
      | false =>
        obtain ⟨k1, k2, k3⟩ := hF rfl
        repeat (first | refine cw_seq ?_ | refine cw_region ?_ | refine ow_nil ?_ | ((first | apply ow_cons | apply qw_cons); · simp only [push_cast, env, Nat.reduceEqDiff, reduceIte, Nat.reduceAdd, Nat.reduceMul, Nat.reduceLeDiff, reduceCtorEq, Nat.reduceSub, Int.reduceToNat] <;> exact rfl) | ((first | apply ow_spec | apply qw_spec); · simp only [push_cast, env, Nat.reduceEqDiff, reduceIte, Nat.reduceAdd, Nat.reduceMul, Nat.reduceLeDiff, reduceCtorEq, Nat.reduceSub, Int.reduceToNat] <;> exact rfl) | refine qw_nil ?_ | refine cw_block ?_ | refine cw_scope ?_ | refine cw_label ?_ | refine cw_skip ?_)
        refine cw_condF (by simp only [push_cast, env, Nat.reduceEqDiff, reduceIte, Nat.reduceAdd, Nat.reduceMul, Nat.reduceLeDiff, reduceCtorEq, Nat.reduceSub, Int.reduceToNat] <;> exact rfl) ?_
        repeat (first | refine cw_seq ?_ | refine cw_region ?_ | refine ow_nil ?_ | ((first | apply ow_cons | apply qw_cons); · simp only [push_cast, env, Nat.reduceEqDiff, reduceIte, Nat.reduceAdd, Nat.reduceMul, Nat.reduceLeDiff, reduceCtorEq, Nat.reduceSub, Int.reduceToNat, e2] <;> exact rfl) | ((first | apply ow_spec | apply qw_spec); · simp only [push_cast, env, Nat.reduceEqDiff, reduceIte, Nat.reduceAdd, Nat.reduceMul, Nat.reduceLeDiff, reduceCtorEq, Nat.reduceSub, Int.reduceToNat, e2] <;> exact rfl) | refine qw_nil ?_ | refine cw_block ?_ | refine cw_scope ?_ | refine cw_label ?_ | refine cw_skip ?_)
        exact ⟨hlt, (H.set (h2.length + 1) (stObj s'), s'), (by simp only [push_cast, SubL, fget, Nat.reduceEqDiff, reduceIte]), rfl, pre_set hp (by omega), V', get_set_self hs, hL.trans k1, k3, hJ2 s' k1 (by rw [k2]; decide)⟩
    · rw [c2] at gX
      repeat (first | refine cw_seq ?_ | refine cw_region ?_ | refine ow_nil ?_ | ((first | apply ow_cons | apply qw_cons); · simp only [push_cast, env, Nat.reduceEqDiff, reduceIte, Nat.reduceAdd, Nat.reduceMul, Nat.reduceLeDiff, reduceCtorEq, Nat.reduceSub, Int.reduceToNat, Vs, e1, hs, gX, Nat.mul_one, Vv] <;> exact rfl) | ((first | apply ow_spec | apply qw_spec); · simp only [push_cast, env, Nat.reduceEqDiff, reduceIte, Nat.reduceAdd, Nat.reduceMul, Nat.reduceLeDiff, reduceCtorEq, Nat.reduceSub, Int.reduceToNat, Vs, e1, hs, gX, Nat.mul_one, Vv] <;> exact rfl) | refine qw_nil ?_ | refine cw_block ?_ | refine cw_scope ?_ | refine cw_label ?_ | refine cw_skip ?_)
      refine cw_condF (by simp only [push_cast, env, Nat.reduceEqDiff, reduceIte, Nat.reduceAdd, Nat.reduceMul, Nat.reduceLeDiff, reduceCtorEq, Nat.reduceSub, Int.reduceToNat] <;> exact rfl) ?_
      repeat (first | refine cw_seq ?_ | refine cw_region ?_ | refine ow_nil ?_ | ((first | apply ow_cons | apply qw_cons); · simp only [push_cast, env, Nat.reduceEqDiff, reduceIte, Nat.reduceAdd, Nat.reduceMul, Nat.reduceLeDiff, reduceCtorEq, Nat.reduceSub, Int.reduceToNat, e2] <;> exact rfl) | ((first | apply ow_spec | apply qw_spec); · simp only [push_cast, env, Nat.reduceEqDiff, reduceIte, Nat.reduceAdd, Nat.reduceMul, Nat.reduceLeDiff, reduceCtorEq, Nat.reduceSub, Int.reduceToNat, e2] <;> exact rfl) | refine qw_nil ?_ | refine cw_block ?_ | refine cw_scope ?_ | refine cw_label ?_ | refine cw_skip ?_)
      exact ⟨hlt, (H, s), (by simp only [push_cast, SubL, fget, Nat.reduceEqDiff, reduceIte]), rfl, hp, V, hs, hL, hA, hJ2 s (.refl hsn hL.v) (by rw [c2]; decide)⟩
  · have e3 := ge_dec hlt
    obtain rfl : k = N := by omega
    repeat (first | refine cw_seq ?_ | refine cw_region ?_ | refine ow_nil ?_ | ((first | apply ow_cons | apply qw_cons); · simp only [push_cast, env, Nat.reduceEqDiff, reduceIte, Nat.reduceAdd, Nat.reduceMul, Nat.reduceLeDiff, reduceCtorEq, Nat.reduceSub, Int.reduceToNat, e3] <;> exact rfl) | ((first | apply ow_spec | apply qw_spec); · simp only [push_cast, env, Nat.reduceEqDiff, reduceIte, Nat.reduceAdd, Nat.reduceMul, Nat.reduceLeDiff, reduceCtorEq, Nat.reduceSub, Int.reduceToNat, e3] <;> exact rfl) | refine qw_nil ?_ | refine cw_block ?_ | refine cw_scope ?_ | refine cw_label ?_ | refine cw_skip ?_)
    refine cw_condF (by simp only [push_cast, env, Nat.reduceEqDiff, reduceIte, Nat.reduceAdd, Nat.reduceMul, Nat.reduceLeDiff, reduceCtorEq, Nat.reduceSub, Int.reduceToNat] <;> exact rfl) ?_
    refine cw_exit ?_
    show CW _ _ _ _
    repeat (first | refine cw_seq ?_ | refine cw_region ?_ | refine ow_nil ?_ | ((first | apply ow_cons | apply qw_cons); · simp only [push_cast, env, Nat.reduceEqDiff, reduceIte, Nat.reduceAdd, Nat.reduceMul, Nat.reduceLeDiff, reduceCtorEq, Nat.reduceSub, Int.reduceToNat] <;> exact rfl) | ((first | apply ow_spec | apply qw_spec); · simp only [push_cast, env, Nat.reduceEqDiff, reduceIte, Nat.reduceAdd, Nat.reduceMul, Nat.reduceLeDiff, reduceCtorEq, Nat.reduceSub, Int.reduceToNat] <;> exact rfl) | refine qw_nil ?_ | refine cw_block ?_ | refine cw_scope ?_ | refine cw_label ?_ | refine cw_skip ?_)
    refine cw_ret ?_
    refine ⟨_, (by simp only [push_cast, env, Nat.reduceEqDiff, reduceIte, Nat.reduceAdd, Nat.reduceMul, Nat.reduceLeDiff, reduceCtorEq, Nat.reduceSub, Int.reduceToNat] <;> exact rfl), ⟨_, by rw [e0]; rfl, .inr ⟨hb, false, rfl, ?_⟩⟩, hpre⟩
    rw [← hCC]
    have hno : ¬ CycE (EL k ls) := hA.none fun a b hab => ⟨hab.1, by
      have q1 := h02 a hab.1 hab.2.1
      have q2 := hJ a hab.1 hab.2.1
      omega⟩
    simp [hno]
end Go.Proofs.Ytnlchlnkibpkaaa

/- Cyclic of the reference. -/
namespace Go.Proofs.Ytnlchlnkibpkaaa
set_option linter.unusedSimpArgs false
set_option linter.unusedVariables false
open Go.RowKit Am Ty

theorem soP_null {s : KSym} {m : List Bool} : soP true s m = nullB m s := rfl
def LeadsAt (m : List Bool) (r : Rule) (k : Nat) : Prop := ∃ hk : k < r.rhs.length, 0 ≤ r.rhs[k].nt ∧ ∀ (j : Nat) (hj : j < r.rhs.length), j ≠ k → nullB m r.rhs[j] = true
theorem leads_fw (h : Heap) (r : Rule) (rv mv : Value) (m : List Bool) (k : Nat) (hr : RdRule h rv r) (hm : RdBools h mv m) (hs : ∀ s ∈ r.rhs, s.nt < m.length) (hk : k < r.rhs.length) :
    FW env 50 [rv, i64 k, mv] h fun x h' => (∃ b : Bool, x = .bool b ∧ (b = true ↔ LeadsAt m r k)) ∧ h' = h := by
  obtain ⟨u, rfl, hu'⟩ := hr
  obtain ⟨p, c, rfl⟩ := SlR.form hu'
  obtain ⟨pm, cm, rfl⟩ := hm.form
  have hle := RdSyms.le hu'
  refine fw_enter (fn := Try.f50) Try.func50 rfl (by kernel_rfl) (by simp [Try.ntmps50]) ?_; simp only [push_cast]
  repeat (first | refine cw_seq ?_ | refine cw_region ?_ | refine ow_nil ?_ | ((first | apply ow_cons | apply qw_cons); · simp only [push_cast, env, Nat.reduceEqDiff, reduceIte, Nat.reduceAdd, Nat.reduceMul, Nat.reduceLeDiff, reduceCtorEq, Nat.reduceSub, Int.reduceToNat] <;> exact rfl) | ((first | apply ow_spec | apply qw_spec); · simp only [push_cast, env, Nat.reduceEqDiff, reduceIte, Nat.reduceAdd, Nat.reduceMul, Nat.reduceLeDiff, reduceCtorEq, Nat.reduceSub, Int.reduceToNat] <;> exact rfl) | refine qw_nil ?_ | refine cw_block ?_ | refine cw_scope ?_ | refine cw_label ?_ | refine cw_skip ?_)
  refine cw_for r.rhs.length (fun j => [(1, .val (i64 k)), (2, .val (.slice pm m.length cm)), (3, .box [i64 r.lhs, .slice p r.rhs.length c]), (7, .val (i64 j))]) (fun _ => h) (fun n => ∀ (j : Nat) (hj : j < r.rhs.length), j < n → j ≠ k → nullB m r.rhs[j] = true) (by simp only [push_cast, SubL, fget, Nat.reduceEqDiff, reduceIte]) rfl (fun _ _ h => absurd h (Nat.not_lt_zero _)) ?_
  intro j hj hJ
  by_cases hjl : j < r.rhs.length
  · obtain ⟨id2, ver2, own2, c3, cells2, hv2, hid2, hrd2⟩ := hu'.at hjl
    cases hv2
    have e9 := rng hjl
    have e10 := inc hjl (by omega)
    have e11 := lt_dec hjl
    have g0 := rdH_get0 hrd2 (by omega)
    simp only [List.getElem?_cons_zero] at g0
    have hmem2 : r.rhs[j] ∈ _ := List.getElem_mem hjl
    have hs2 := hs _ hmem2
    have hgo : (j = k ∨ nullB m r.rhs[j] = true) → ∀ (y : Nat) (hy : y < r.rhs.length), y < j + 1 → y ≠ k → nullB m r.rhs[y] = true := fun hh y hy hyj hne => by
      rcases Nat.lt_or_ge y j with q | q
      · exact hJ y hy q hne
      · obtain rfl : y = j := by omega
        exact hh.elim (fun e => (hne e).elim) id
    repeat (first | refine cw_seq ?_ | refine cw_region ?_ | refine ow_nil ?_ | ((first | apply ow_cons | apply qw_cons); · simp only [push_cast, env, Nat.reduceEqDiff, reduceIte, Nat.reduceAdd, Nat.reduceMul, Nat.reduceLeDiff, reduceCtorEq, Nat.reduceSub, Int.reduceToNat, e11] <;> exact rfl) | ((first | apply ow_spec | apply qw_spec); · simp only [push_cast, env, Nat.reduceEqDiff, reduceIte, Nat.reduceAdd, Nat.reduceMul, Nat.reduceLeDiff, reduceCtorEq, Nat.reduceSub, Int.reduceToNat, e11] <;> exact rfl) | refine qw_nil ?_ | refine cw_block ?_ | refine cw_scope ?_ | refine cw_label ?_ | refine cw_skip ?_)
    refine cw_condT (by simp only [push_cast, env, Nat.reduceEqDiff, reduceIte, Nat.reduceAdd, Nat.reduceMul, Nat.reduceLeDiff, reduceCtorEq, Nat.reduceSub, Int.reduceToNat] <;> exact rfl) ?_
    by_cases e : j = k
    · have d0 : decide ((j : Int) = (k : Int)) = true := decide_eq_true (by omega)
      repeat (first | refine cw_seq ?_ | refine cw_region ?_ | refine ow_nil ?_ | ((first | apply ow_cons | apply qw_cons); · simp only [push_cast, env, Nat.reduceEqDiff, reduceIte, Nat.reduceAdd, Nat.reduceMul, Nat.reduceLeDiff, reduceCtorEq, Nat.reduceSub, Int.reduceToNat, d0] <;> exact rfl) | ((first | apply ow_spec | apply qw_spec); · simp only [push_cast, env, Nat.reduceEqDiff, reduceIte, Nat.reduceAdd, Nat.reduceMul, Nat.reduceLeDiff, reduceCtorEq, Nat.reduceSub, Int.reduceToNat, d0] <;> exact rfl) | refine qw_nil ?_ | refine cw_block ?_ | refine cw_scope ?_ | refine cw_label ?_ | refine cw_skip ?_)
      refine cw_condF (by simp only [push_cast, env, Nat.reduceEqDiff, reduceIte, Nat.reduceAdd, Nat.reduceMul, Nat.reduceLeDiff, reduceCtorEq, Nat.reduceSub, Int.reduceToNat] <;> exact rfl) ?_
      repeat (first | refine cw_seq ?_ | refine cw_region ?_ | refine ow_nil ?_ | ((first | apply ow_cons | apply qw_cons); · simp only [push_cast, env, Nat.reduceEqDiff, reduceIte, Nat.reduceAdd, Nat.reduceMul, Nat.reduceLeDiff, reduceCtorEq, Nat.reduceSub, Int.reduceToNat, e10] <;> exact rfl) | ((first | apply ow_spec | apply qw_spec); · simp only [push_cast, env, Nat.reduceEqDiff, reduceIte, Nat.reduceAdd, Nat.reduceMul, Nat.reduceLeDiff, reduceCtorEq, Nat.reduceSub, Int.reduceToNat, e10] <;> exact rfl) | refine qw_nil ?_ | refine cw_block ?_ | refine cw_scope ?_ | refine cw_label ?_ | refine cw_skip ?_)
      exact ⟨hjl, (by simp only [push_cast, SubL, fget, Nat.reduceEqDiff, reduceIte]), rfl, hgo (.inl e)⟩
    · have d0 : decide ((j : Int) = (k : Int)) = false := decide_eq_false (by omega)
      repeat (first | refine cw_seq ?_ | refine cw_region ?_ | refine ow_nil ?_ | ((first | apply ow_cons | apply qw_cons); · simp only [push_cast, env, Nat.reduceEqDiff, reduceIte, Nat.reduceAdd, Nat.reduceMul, Nat.reduceLeDiff, reduceCtorEq, Nat.reduceSub, Int.reduceToNat, d0, e9, hid2, hrd2] <;> exact rfl) | ((first | apply ow_spec | apply qw_spec); · simp only [push_cast, env, Nat.reduceEqDiff, reduceIte, Nat.reduceAdd, Nat.reduceMul, Nat.reduceLeDiff, reduceCtorEq, Nat.reduceSub, Int.reduceToNat, d0, e9, hid2, hrd2] <;> exact rfl) | refine qw_nil ?_ | refine cw_block ?_ | refine cw_scope ?_ | refine cw_label ?_ | refine cw_skip ?_)
      refine ow_call (fn := Try.f41) (by simp only [push_cast, env, Nat.reduceEqDiff, reduceIte, Nat.reduceAdd, Nat.reduceMul, Nat.reduceLeDiff, reduceCtorEq, Nat.reduceSub, Int.reduceToNat, d0, e9, hid2, hrd2] <;> exact rfl) rfl (by simp only [push_cast, env, Nat.reduceEqDiff, reduceIte, Nat.reduceAdd, Nat.reduceMul, Nat.reduceLeDiff, reduceCtorEq, Nat.reduceSub, Int.reduceToNat, d0, e9, hid2, hrd2] <;> exact rfl) (by simp only [push_cast, env, Nat.reduceEqDiff, reduceIte, Nat.reduceAdd, Nat.reduceMul, Nat.reduceLeDiff, reduceCtorEq, Nat.reduceSub, Int.reduceToNat, d0, e9, hid2, hrd2] <;> exact rfl) Try.func41 (by kernel_rfl) (by kernel_rfl) ?_
      rw [List.append_nil]
      refine (so_fw _ r.rhs[j] _ m true hm hs2).mono ?_
      rintro _ h ⟨rfl, rfl⟩
      rw [soP_null]
      repeat (first | refine cw_seq ?_ | refine cw_region ?_ | refine ow_nil ?_ | ((first | apply ow_cons | apply qw_cons); · simp only [push_cast, env, Nat.reduceEqDiff, reduceIte, Nat.reduceAdd, Nat.reduceMul, Nat.reduceLeDiff, reduceCtorEq, Nat.reduceSub, Int.reduceToNat] <;> exact rfl) | ((first | apply ow_spec | apply qw_spec); · simp only [push_cast, env, Nat.reduceEqDiff, reduceIte, Nat.reduceAdd, Nat.reduceMul, Nat.reduceLeDiff, reduceCtorEq, Nat.reduceSub, Int.reduceToNat] <;> exact rfl) | refine qw_nil ?_ | refine cw_block ?_ | refine cw_scope ?_ | refine cw_label ?_ | refine cw_skip ?_)
      refine cw_cond (by simp only [push_cast, env, Nat.reduceEqDiff, reduceIte, Nat.reduceAdd, Nat.reduceMul, Nat.reduceLeDiff, reduceCtorEq, Nat.reduceSub, Int.reduceToNat] <;> exact rfl) (fun b2 => ?_) (fun b2 => ?_)
      · have b3 : nullB m r.rhs[j] = false := by simpa using b2
        repeat (first | refine cw_seq ?_ | refine cw_region ?_ | refine ow_nil ?_ | ((first | apply ow_cons | apply qw_cons); · simp only [push_cast, env, Nat.reduceEqDiff, reduceIte, Nat.reduceAdd, Nat.reduceMul, Nat.reduceLeDiff, reduceCtorEq, Nat.reduceSub, Int.reduceToNat] <;> exact rfl) | ((first | apply ow_spec | apply qw_spec); · simp only [push_cast, env, Nat.reduceEqDiff, reduceIte, Nat.reduceAdd, Nat.reduceMul, Nat.reduceLeDiff, reduceCtorEq, Nat.reduceSub, Int.reduceToNat] <;> exact rfl) | refine qw_nil ?_ | refine cw_block ?_ | refine cw_scope ?_ | refine cw_label ?_ | refine cw_skip ?_)
        refine cw_ret ?_
        refine ⟨_, (by simp only [push_cast, env, Nat.reduceEqDiff, reduceIte, Nat.reduceAdd, Nat.reduceMul, Nat.reduceLeDiff, reduceCtorEq, Nat.reduceSub, Int.reduceToNat] <;> exact rfl), ⟨false, rfl, ⟨fun h => (by cases h), fun h => ?_⟩⟩, rfl⟩
        obtain ⟨_, _, h3⟩ := h
        rw [h3 j hjl e] at b3
        cases b3
      · repeat (first | refine cw_seq ?_ | refine cw_region ?_ | refine ow_nil ?_ | ((first | apply ow_cons | apply qw_cons); · simp only [push_cast, env, Nat.reduceEqDiff, reduceIte, Nat.reduceAdd, Nat.reduceMul, Nat.reduceLeDiff, reduceCtorEq, Nat.reduceSub, Int.reduceToNat, e10] <;> exact rfl) | ((first | apply ow_spec | apply qw_spec); · simp only [push_cast, env, Nat.reduceEqDiff, reduceIte, Nat.reduceAdd, Nat.reduceMul, Nat.reduceLeDiff, reduceCtorEq, Nat.reduceSub, Int.reduceToNat, e10] <;> exact rfl) | refine qw_nil ?_ | refine cw_block ?_ | refine cw_scope ?_ | refine cw_label ?_ | refine cw_skip ?_)
        exact ⟨hjl, (by simp only [push_cast, SubL, fget, Nat.reduceEqDiff, reduceIte]), rfl, hgo (.inr (by simpa using b2))⟩
  · have e11 := ge_dec hjl
    obtain rfl : j = r.rhs.length := by omega
    repeat (first | refine cw_seq ?_ | refine cw_region ?_ | refine ow_nil ?_ | ((first | apply ow_cons | apply qw_cons); · simp only [push_cast, env, Nat.reduceEqDiff, reduceIte, Nat.reduceAdd, Nat.reduceMul, Nat.reduceLeDiff, reduceCtorEq, Nat.reduceSub, Int.reduceToNat, e11] <;> exact rfl) | ((first | apply ow_spec | apply qw_spec); · simp only [push_cast, env, Nat.reduceEqDiff, reduceIte, Nat.reduceAdd, Nat.reduceMul, Nat.reduceLeDiff, reduceCtorEq, Nat.reduceSub, Int.reduceToNat, e11] <;> exact rfl) | refine qw_nil ?_ | refine cw_block ?_ | refine cw_scope ?_ | refine cw_label ?_ | refine cw_skip ?_)
    refine cw_condF (by simp only [push_cast, env, Nat.reduceEqDiff, reduceIte, Nat.reduceAdd, Nat.reduceMul, Nat.reduceLeDiff, reduceCtorEq, Nat.reduceSub, Int.reduceToNat] <;> exact rfl) ?_
    refine cw_exit ?_
    show CW _ _ _ _
    have hjl := hk
    obtain ⟨id2, ver2, own2, c3, cells2, hv2, hid2, hrd2⟩ := hu'.at hjl
    cases hv2
    have e9 := rng hjl
    have g0 := rdH_get0 hrd2 (by omega)
    simp only [List.getElem?_cons_zero] at g0
    repeat (first | refine cw_seq ?_ | refine cw_region ?_ | refine ow_nil ?_ | ((first | apply ow_cons | apply qw_cons); · simp only [push_cast, env, Nat.reduceEqDiff, reduceIte, Nat.reduceAdd, Nat.reduceMul, Nat.reduceLeDiff, reduceCtorEq, Nat.reduceSub, Int.reduceToNat, e9, hid2, g0] <;> exact rfl) | ((first | apply ow_spec | apply qw_spec); · simp only [push_cast, env, Nat.reduceEqDiff, reduceIte, Nat.reduceAdd, Nat.reduceMul, Nat.reduceLeDiff, reduceCtorEq, Nat.reduceSub, Int.reduceToNat, e9, hid2, g0] <;> exact rfl) | refine qw_nil ?_ | refine cw_block ?_ | refine cw_scope ?_ | refine cw_label ?_ | refine cw_skip ?_)
    refine cw_ret ?_
    refine ⟨_, (by simp only [push_cast, env, Nat.reduceEqDiff, reduceIte, Nat.reduceAdd, Nat.reduceMul, Nat.reduceLeDiff, reduceCtorEq, Nat.reduceSub, Int.reduceToNat] <;> exact rfl), ⟨decide (0 ≤ r.rhs[k].nt), rfl, ?_⟩, rfl⟩
    rw [decide_eq_true_eq]
    exact ⟨fun h => ⟨hk, h, fun y hy hne => hJ y hy hy hne⟩, fun ⟨_, h, _⟩ => h⟩
/-! ### rounds -/
def SB (s : List Bool) (i : Int) : Prop := 0 ≤ i ∧ bit s i = true
def Stable (E : Int → Int → Prop) (N : Nat) (s : List Bool) (n : Nat) : Prop := ∀ a : Int, 0 ≤ a → a < n → bit s a = false → ∃ b, E a b ∧ bit s b = false
structure CRounds (E : Int → Int → Prop) (N k : Nat) (s : List Bool) : Prop where
  n : s.length = N
  a : Acy E (SB s)
  c : k ≤ s.count true ∨ Stable E N s N
structure CRound (E : Int → Int → Prop) (N : Nat) (s0 : List Bool) (k : Nat) (s : List Bool) : Prop where
  n : s.length = N
  a : Acy E (SB s)
  c : (s0.count true < s.count true ∧ ¬ Stable E N s0 N) ∨ (s = s0 ∧ Stable E N s k)
theorem CRounds.step {E : Int → Int → Prop} {N k : Nat} {s s' : List Bool} (h : CRounds E N k s) (hr : CRound E N s N s') : CRounds E N (k + 1) s' := by
  refine ⟨hr.n, hr.a, ?_⟩
  rcases hr.c with ⟨h1, h3⟩ | ⟨rfl, h1⟩
  · rcases h.c with h2 | h2
    · exact .inl (by omega)
    · exact (h3 h2).elim
  · exact .inr h1
theorem CRounds.fin {E : Int → Int → Prop} {N k : Nat} {s : List Bool} (hE : ∀ a b, E a b → (0 ≤ a ∧ a < N) ∧ 0 ≤ b ∧ b < N) (h : CRounds E N k s) (hk : N ≤ k) : 0 < (N : Int) - s.count true ↔ CycE E := by
  have hn := h.n
  have hle := List.count_le_length (a := true) (l := s)
  by_cases hf : s.count true = N
  · have hall := cnt_full (m := s) (by omega)
    have : ¬ CycE E := h.a.none fun a b hab => ⟨(hE a b hab).1.1, by rw [bit_get (hE a b hab).1.1 (by have := (hE a b hab).1.2; omega)]; exact hall _ (List.getElem_mem _)⟩
    constructor
    · omega
    · intro h
      exact (this h).elim
  · have hs : Stable E N s N := h.c.elim (fun h => by omega) id
    have : ∃ u : Int, 0 ≤ u ∧ u < N ∧ bit s u = false := by
      refine Classical.byContradiction fun c => hf ?_
      have : ∀ b ∈ s, true = b := fun b hb => by
        obtain ⟨i, hi, rfl⟩ := List.mem_iff_getElem.1 hb
        cases hbi : s[i] with
        | true => rfl
        | false => exact (c ⟨i, by omega, by omega, by rw [bit_get (by omega) (by omega)]; simpa using hbi⟩).elim
      rw [← hn]
      exact List.count_eq_length.2 this
    obtain ⟨u, u0, u1, hu⟩ := this
    constructor
    · intro _
      exact stuck (N := N) (U := fun u => 0 ≤ u ∧ u < N ∧ bit s u = false) (fun u h => ⟨h.1, h.2.1⟩) (fun u h => by
        obtain ⟨b, h1, h2⟩ := hs u h.1 h.2.1 h.2.2
        exact ⟨b, ⟨(hE u b h1).2.1, (hE u b h1).2.2, h2⟩, h1⟩) ⟨u0, u1, hu⟩
    · intro _
      omega
set_option maxHeartbeats 8000000 in
theorem rcyclic_fw {h : Heap} {g : Gram} {v : Value} (hr : RdGram h v g) : FW env 30 [v] h fun r h' => Told g (.bool false) (CycR g) r h' ∧ h <+: h' := by
  obtain ⟨u, rfl, hu⟩ := id hr
  obtain ⟨p, c, rfl⟩ := hu.form
  have hle := hu.le
  refine fw_enter (fn := Try.f30) Try.func30 rfl (by kernel_rfl) (by simp [Try.ntmps30]) ?_; simp only [push_cast]
  repeat (first | refine cw_seq ?_ | refine cw_region ?_ | refine ow_nil ?_ | ((first | apply ow_cons | apply qw_cons); · simp only [push_cast, env, Nat.reduceEqDiff, reduceIte, Nat.reduceAdd, Nat.reduceMul, Nat.reduceLeDiff, reduceCtorEq, Nat.reduceSub, Int.reduceToNat] <;> exact rfl) | ((first | apply ow_spec | apply qw_spec); · simp only [push_cast, env, Nat.reduceEqDiff, reduceIte, Nat.reduceAdd, Nat.reduceMul, Nat.reduceLeDiff, reduceCtorEq, Nat.reduceSub, Int.reduceToNat] <;> exact rfl) | refine qw_nil ?_ | refine cw_block ?_ | refine cw_scope ?_ | refine cw_label ?_ | refine cw_skip ?_)
  refine ow_call (fn := Try.f31) (by simp only [push_cast, env, Nat.reduceEqDiff, reduceIte, Nat.reduceAdd, Nat.reduceMul, Nat.reduceLeDiff, reduceCtorEq, Nat.reduceSub, Int.reduceToNat] <;> exact rfl) rfl (by simp only [push_cast, env, Nat.reduceEqDiff, reduceIte, Nat.reduceAdd, Nat.reduceMul, Nat.reduceLeDiff, reduceCtorEq, Nat.reduceSub, Int.reduceToNat] <;> exact rfl) (by simp only [push_cast, env, Nat.reduceEqDiff, reduceIte, Nat.reduceAdd, Nat.reduceMul, Nat.reduceLeDiff, reduceCtorEq, Nat.reduceSub, Int.reduceToNat] <;> exact rfl) Try.func31 (by kernel_rfl) (by kernel_rfl) ?_
  rw [List.append_nil]
  refine (rnullable_fw hr).mono ?_
  rintro _ h1 ⟨⟨x, rfl, ⟨hb, rfl⟩ | ⟨hb, m, hm, idm, verm, him, rfl, hgm⟩⟩, hp1⟩
  · have e0 : rightG g = 3 := if_pos hb
    rw [e0]
    repeat (first | refine cw_seq ?_ | refine cw_region ?_ | refine ow_nil ?_ | ((first | apply ow_cons | apply qw_cons); · simp only [push_cast, env, Nat.reduceEqDiff, reduceIte, Nat.reduceAdd, Nat.reduceMul, Nat.reduceLeDiff, reduceCtorEq, Nat.reduceSub, Int.reduceToNat] <;> exact rfl) | ((first | apply ow_spec | apply qw_spec); · simp only [push_cast, env, Nat.reduceEqDiff, reduceIte, Nat.reduceAdd, Nat.reduceMul, Nat.reduceLeDiff, reduceCtorEq, Nat.reduceSub, Int.reduceToNat] <;> exact rfl) | refine qw_nil ?_ | refine cw_block ?_ | refine cw_scope ?_ | refine cw_label ?_ | refine cw_skip ?_)
    refine cw_condT (by simp only [push_cast, env, Nat.reduceEqDiff, reduceIte, Nat.reduceAdd, Nat.reduceMul, Nat.reduceLeDiff, reduceCtorEq, Nat.reduceSub, Int.reduceToNat] <;> exact rfl) ?_
    repeat (first | refine cw_seq ?_ | refine cw_region ?_ | refine ow_nil ?_ | ((first | apply ow_cons | apply qw_cons); · simp only [push_cast, env, Nat.reduceEqDiff, reduceIte, Nat.reduceAdd, Nat.reduceMul, Nat.reduceLeDiff, reduceCtorEq, Nat.reduceSub, Int.reduceToNat] <;> exact rfl) | ((first | apply ow_spec | apply qw_spec); · simp only [push_cast, env, Nat.reduceEqDiff, reduceIte, Nat.reduceAdd, Nat.reduceMul, Nat.reduceLeDiff, reduceCtorEq, Nat.reduceSub, Int.reduceToNat] <;> exact rfl) | refine qw_nil ?_ | refine cw_block ?_ | refine cw_scope ?_ | refine cw_label ?_ | refine cw_skip ?_)
    refine cw_ret ?_
    exact ⟨_, (by simp only [push_cast, env, Nat.reduceEqDiff, reduceIte, Nat.reduceAdd, Nat.reduceMul, Nat.reduceLeDiff, reduceCtorEq, Nat.reduceSub, Int.reduceToNat] <;> exact rfl), ⟨_, by rw [e0]; rfl, .inl ⟨hb, rfl⟩⟩, hp1⟩
  have e0 : rightG g = 0 := if_neg hb
  have R := rightS hb
  have n1 := R.n1
  have n2 := R.n2
  have hrl := R.rl
  have hml := hm.1
  rw [e0]
  repeat (first | refine cw_seq ?_ | refine cw_region ?_ | refine ow_nil ?_ | ((first | apply ow_cons | apply qw_cons); · simp only [push_cast, env, Nat.reduceEqDiff, reduceIte, Nat.reduceAdd, Nat.reduceMul, Nat.reduceLeDiff, reduceCtorEq, Nat.reduceSub, Int.reduceToNat] <;> exact rfl) | ((first | apply ow_spec | apply qw_spec); · simp only [push_cast, env, Nat.reduceEqDiff, reduceIte, Nat.reduceAdd, Nat.reduceMul, Nat.reduceLeDiff, reduceCtorEq, Nat.reduceSub, Int.reduceToNat] <;> exact rfl) | refine qw_nil ?_ | refine cw_block ?_ | refine cw_scope ?_ | refine cw_label ?_ | refine cw_skip ?_)
  refine cw_condF (by simp only [push_cast, env, Nat.reduceEqDiff, reduceIte, Nat.reduceAdd, Nat.reduceMul, Nat.reduceLeDiff, reduceCtorEq, Nat.reduceSub, Int.reduceToNat] <;> exact rfl) ?_
  obtain ⟨N, hN⟩ : ∃ N : Nat, g.nts = N := ⟨g.nts.toNat, by omega⟩
  repeat (first | refine cw_seq ?_ | refine cw_region ?_ | refine ow_nil ?_ | ((first | apply ow_cons | apply qw_cons); · simp only [push_cast, env, Nat.reduceEqDiff, reduceIte, Nat.reduceAdd, Nat.reduceMul, Nat.reduceLeDiff, reduceCtorEq, Nat.reduceSub, Int.reduceToNat] <;> exact rfl) | ((first | apply ow_spec | apply qw_spec); · simp only [push_cast, env, Nat.reduceEqDiff, reduceIte, Nat.reduceAdd, Nat.reduceMul, Nat.reduceLeDiff, reduceCtorEq, Nat.reduceSub, Int.reduceToNat] <;> exact rfl) | refine qw_nil ?_ | refine cw_block ?_ | refine cw_scope ?_ | refine cw_label ?_ | refine cw_skip ?_)
  refine ow_call (fn := Try.f49) (by simp only [push_cast, env, Nat.reduceEqDiff, reduceIte, Nat.reduceAdd, Nat.reduceMul, Nat.reduceLeDiff, reduceCtorEq, Nat.reduceSub, Int.reduceToNat] <;> exact rfl) rfl (by simp only [push_cast, env, Nat.reduceEqDiff, reduceIte, Nat.reduceAdd, Nat.reduceMul, Nat.reduceLeDiff, reduceCtorEq, Nat.reduceSub, Int.reduceToNat] <;> exact rfl) (by simp only [push_cast, env, Nat.reduceEqDiff, reduceIte, Nat.reduceAdd, Nat.reduceMul, Nat.reduceLeDiff, reduceCtorEq, Nat.reduceSub, Int.reduceToNat] <;> exact rfl) Try.func49 (by kernel_rfl) (by kernel_rfl) ?_
  rw [List.append_nil]
  refine (none_fw h1 _ N hN (by omega)).mono ?_
  rintro x h2 ⟨hp2, hG⟩
  obtain ⟨io, vo, hio, rfl, hg0⟩ := hG.mine (by omega)
  repeat (first | refine cw_seq ?_ | refine cw_region ?_ | refine ow_nil ?_ | ((first | apply ow_cons | apply qw_cons); · simp only [push_cast, env, Nat.reduceEqDiff, reduceIte, Nat.reduceAdd, Nat.reduceMul, Nat.reduceLeDiff, reduceCtorEq, Nat.reduceSub, Int.reduceToNat] <;> exact rfl) | ((first | apply ow_spec | apply qw_spec); · simp only [push_cast, env, Nat.reduceEqDiff, reduceIte, Nat.reduceAdd, Nat.reduceMul, Nat.reduceLeDiff, reduceCtorEq, Nat.reduceSub, Int.reduceToNat] <;> exact rfl) | refine qw_nil ?_ | refine cw_block ?_ | refine cw_scope ?_ | refine cw_label ?_ | refine cw_skip ?_)
  have hE : ∀ a b, Edge g (nullD g) a b → (0 ≤ a ∧ a < (N : Int)) ∧ 0 ≤ b ∧ b < (N : Int) := fun a b hab => by have := edge_range R hab; omega
  have hc0 : ((N : Int) - ((List.replicate N false).count true : Nat)) = N := by simp [List.count_replicate]
  refine cw_forG N (fun k (x : Heap × List Bool) => [(1, .box [i64 g.nts, i64 g.start, .slice p g.rules.length c]), (4, .val (.slice (some ⟨idm, 0, some verm⟩) m.length m.length)), (5, .val (i64 0)), (6, .val (.slice (some ⟨io, 0, some vo⟩) N N)), (7, .val (i64 ((N : Int) - x.2.count true))), (8, .val (i64 k))]) (fun _ x => x.1)
    (fun k x => h1 <+: x.1 ∧ x.1[io]? = some (.arr (x.2.map .bool) vo true 4) ∧ CRounds (Edge g (nullD g)) N k x.2) (h2, List.replicate N false) (by simp only [push_cast, SubL, fget, Nat.reduceEqDiff, reduceIte, hc0, hN]) rfl ⟨hp2, hg0, by simp, fun i hi => (by rw [SB, bit_rep] at hi; cases hi.2), .inl (Nat.zero_le _)⟩ ?_
  rintro k ⟨hk0, s0⟩ hkn ⟨hp0, ho0, hI0⟩
  simp only at hp0 ho0 hI0 ⊢
  by_cases hkl : k < N
  · have f2 := inc hkl (by omega)
    have f3 : decide ((k : Int) < g.nts) = true := by rw [hN]; exact lt_dec hkl
    repeat (first | refine cw_seq ?_ | refine cw_region ?_ | refine ow_nil ?_ | ((first | apply ow_cons | apply qw_cons); · simp only [push_cast, env, Nat.reduceEqDiff, reduceIte, Nat.reduceAdd, Nat.reduceMul, Nat.reduceLeDiff, reduceCtorEq, Nat.reduceSub, Int.reduceToNat, f3] <;> exact rfl) | ((first | apply ow_spec | apply qw_spec); · simp only [push_cast, env, Nat.reduceEqDiff, reduceIte, Nat.reduceAdd, Nat.reduceMul, Nat.reduceLeDiff, reduceCtorEq, Nat.reduceSub, Int.reduceToNat, f3] <;> exact rfl) | refine qw_nil ?_ | refine cw_block ?_ | refine cw_scope ?_ | refine cw_label ?_ | refine cw_skip ?_)
    refine cw_condT (by simp only [push_cast, env, Nat.reduceEqDiff, reduceIte, Nat.reduceAdd, Nat.reduceMul, Nat.reduceLeDiff, reduceCtorEq, Nat.reduceSub, Int.reduceToNat] <;> exact rfl) ?_
    repeat (first | refine cw_seq ?_ | refine cw_region ?_ | refine ow_nil ?_ | ((first | apply ow_cons | apply qw_cons); · simp only [push_cast, env, Nat.reduceEqDiff, reduceIte, Nat.reduceAdd, Nat.reduceMul, Nat.reduceLeDiff, reduceCtorEq, Nat.reduceSub, Int.reduceToNat] <;> exact rfl) | ((first | apply ow_spec | apply qw_spec); · simp only [push_cast, env, Nat.reduceEqDiff, reduceIte, Nat.reduceAdd, Nat.reduceMul, Nat.reduceLeDiff, reduceCtorEq, Nat.reduceSub, Int.reduceToNat] <;> exact rfl) | refine qw_nil ?_ | refine cw_block ?_ | refine cw_scope ?_ | refine cw_label ?_ | refine cw_skip ?_)
    refine cw_forG N (fun a (x : Heap × List Bool) => [(1, .box [i64 g.nts, i64 g.start, .slice p g.rules.length c]), (4, .val (.slice (some ⟨idm, 0, some verm⟩) m.length m.length)), (5, .val (i64 0)), (6, .val (.slice (some ⟨io, 0, some vo⟩) N N)), (7, .val (i64 ((N : Int) - x.2.count true))), (8, .val (i64 k)), (9, .val (i64 a))]) (fun _ x => x.1)
      (fun a x => h1 <+: x.1 ∧ x.1[io]? = some (.arr (x.2.map .bool) vo true 4) ∧ CRound (Edge g (nullD g)) N s0 a x.2) (hk0, s0) (by simp only [push_cast, SubL, fget, Nat.reduceEqDiff, reduceIte]) rfl ⟨hp0, ho0, hI0.n, hI0.a, .inr ⟨rfl, fun a h0 h1 => by omega⟩⟩ ?_
    rintro a ⟨hk, s⟩ han ⟨hp, ho, hI⟩
    simp only at hp ho hI ⊢
    have hsn := hI.n
    have hsl := List.count_le_length (a := true) (l := s)
    by_cases hal : a < N
    · have a2 := inc hal (by omega)
      have a3 : decide ((a : Int) < g.nts) = true := by rw [hN]; exact lt_dec hal
      have ra := rng hal
      have ba := bit_map (m := s) (i := (a : Int)) (by omega) (by omega)
      simp only [Int.toNat_natCast] at ba
      have hst : bit s a = true ∨ (∃ b, Edge g (nullD g) a b ∧ bit s b = false) → s = s0 → Stable (Edge g (nullD g)) N s a → Stable (Edge g (nullD g)) N s (a + 1) := fun hh _ h y y0 y1 hy => by
        by_cases e : y = a
        · subst e
          exact hh.elim (fun h => by rw [h] at hy; cases hy) id
        · exact h y y0 (by omega) hy
      have hkeep : bit s a = true ∨ (∃ b, Edge g (nullD g) a b ∧ bit s b = false) → CRound (Edge g (nullD g)) N s0 (a + 1) s := fun hh => ⟨hI.n, hI.a, hI.c.imp id fun h => ⟨h.1, hst hh h.1 h.2⟩⟩
      repeat (first | refine cw_seq ?_ | refine cw_region ?_ | refine ow_nil ?_ | ((first | apply ow_cons | apply qw_cons); · simp only [push_cast, env, Nat.reduceEqDiff, reduceIte, Nat.reduceAdd, Nat.reduceMul, Nat.reduceLeDiff, reduceCtorEq, Nat.reduceSub, Int.reduceToNat, a3] <;> exact rfl) | ((first | apply ow_spec | apply qw_spec); · simp only [push_cast, env, Nat.reduceEqDiff, reduceIte, Nat.reduceAdd, Nat.reduceMul, Nat.reduceLeDiff, reduceCtorEq, Nat.reduceSub, Int.reduceToNat, a3] <;> exact rfl) | refine qw_nil ?_ | refine cw_block ?_ | refine cw_scope ?_ | refine cw_label ?_ | refine cw_skip ?_)
      refine cw_condT (by simp only [push_cast, env, Nat.reduceEqDiff, reduceIte, Nat.reduceAdd, Nat.reduceMul, Nat.reduceLeDiff, reduceCtorEq, Nat.reduceSub, Int.reduceToNat] <;> exact rfl) ?_
      repeat (first | refine cw_seq ?_ | refine cw_region ?_ | refine ow_nil ?_ | ((first | apply ow_cons | apply qw_cons); · simp only [push_cast, env, Nat.reduceEqDiff, reduceIte, Nat.reduceAdd, Nat.reduceMul, Nat.reduceLeDiff, reduceCtorEq, Nat.reduceSub, Int.reduceToNat, ra, ho, ba, Nat.mul_one] <;> exact rfl) | ((first | apply ow_spec | apply qw_spec); · simp only [push_cast, env, Nat.reduceEqDiff, reduceIte, Nat.reduceAdd, Nat.reduceMul, Nat.reduceLeDiff, reduceCtorEq, Nat.reduceSub, Int.reduceToNat, ra, ho, ba, Nat.mul_one] <;> exact rfl) | refine qw_nil ?_ | refine cw_block ?_ | refine cw_scope ?_ | refine cw_label ?_ | refine cw_skip ?_)
      refine cw_cond (by simp only [push_cast, env, Nat.reduceEqDiff, reduceIte, Nat.reduceAdd, Nat.reduceMul, Nat.reduceLeDiff, reduceCtorEq, Nat.reduceSub, Int.reduceToNat] <;> exact rfl) (fun b1 => ?_) (fun b1 => ?_)
      · refine cw_exit ?_
        show CW _ _ _ _
        repeat (first | refine cw_seq ?_ | refine cw_region ?_ | refine ow_nil ?_ | ((first | apply ow_cons | apply qw_cons); · simp only [push_cast, env, Nat.reduceEqDiff, reduceIte, Nat.reduceAdd, Nat.reduceMul, Nat.reduceLeDiff, reduceCtorEq, Nat.reduceSub, Int.reduceToNat, a2] <;> exact rfl) | ((first | apply ow_spec | apply qw_spec); · simp only [push_cast, env, Nat.reduceEqDiff, reduceIte, Nat.reduceAdd, Nat.reduceMul, Nat.reduceLeDiff, reduceCtorEq, Nat.reduceSub, Int.reduceToNat, a2] <;> exact rfl) | refine qw_nil ?_ | refine cw_block ?_ | refine cw_scope ?_ | refine cw_label ?_ | refine cw_skip ?_)
        exact ⟨hal, (hk, s), (by simp only [push_cast, SubL, fget, Nat.reduceEqDiff, reduceIte]), rfl, hp, ho, hkeep (.inl b1)⟩
      repeat (first | refine cw_seq ?_ | refine cw_region ?_ | refine ow_nil ?_ | ((first | apply ow_cons | apply qw_cons); · simp only [push_cast, env, Nat.reduceEqDiff, reduceIte, Nat.reduceAdd, Nat.reduceMul, Nat.reduceLeDiff, reduceCtorEq, Nat.reduceSub, Int.reduceToNat] <;> exact rfl) | ((first | apply ow_spec | apply qw_spec); · simp only [push_cast, env, Nat.reduceEqDiff, reduceIte, Nat.reduceAdd, Nat.reduceMul, Nat.reduceLeDiff, reduceCtorEq, Nat.reduceSub, Int.reduceToNat] <;> exact rfl) | refine qw_nil ?_ | refine cw_block ?_ | refine cw_scope ?_ | refine cw_label ?_ | refine cw_skip ?_)
      refine CW.mono (Q := fun e s' => e = .exit 4 ∧ s'.h = hk ∧ ∃ f : Bool, SubL [(1, .box [i64 g.nts, i64 g.start, .slice p g.rules.length c]), (4, .val (.slice (some ⟨idm, 0, some verm⟩) m.length m.length)), (5, .val (i64 0)), (6, .val (.slice (some ⟨io, 0, some vo⟩) N N)), (7, .val (i64 ((N : Int) - s.count true))), (8, .val (i64 k)), (9, .val (i64 a)), (10, .val (.bool f))] s'.fr ∧ (f = true → ∀ b, Edge g (nullD g) a b → bit s b = true) ∧ (f = false → ∃ b, Edge g (nullD g) a b ∧ bit s b = false)) ?_ ?_
      · refine cw_wh (fun x : Nat × Bool => g.rules.length - x.1) (fun x => [(1, .box [i64 g.nts, i64 g.start, .slice p g.rules.length c]), (4, .val (.slice (some ⟨idm, 0, some verm⟩) m.length m.length)), (5, .val (i64 0)), (6, .val (.slice (some ⟨io, 0, some vo⟩) N N)), (7, .val (i64 ((N : Int) - s.count true))), (8, .val (i64 k)), (9, .val (i64 a)), (10, .val (.bool x.2)), (11, .val (i64 x.1))]) (fun _ => hk)
          (fun x => x.1 ≤ g.rules.length ∧ (x.2 = true → ∀ r ∈ g.rules.take x.1, r.lhs = a → ∀ (k : Nat) (hk : k < r.rhs.length), LeadsAt m r k → bit s r.rhs[k].nt = true) ∧ (x.2 = false → ∃ b, Edge g (nullD g) a b ∧ bit s b = false)) (0, true) (by simp only [push_cast, SubL, fget, Nat.reduceEqDiff, reduceIte]) rfl ⟨Nat.zero_le _, fun _ => by simp, fun h => by cases h⟩ ?_
        rintro ⟨i, f⟩ ⟨hin, hT, hF⟩
        simp only at hin hT hF ⊢
        by_cases hlt : i < g.rules.length
        · cases f with
          | false =>
            have e3 := lt_dec hlt
            repeat (first | refine cw_seq ?_ | refine cw_region ?_ | refine ow_nil ?_ | ((first | apply ow_cons | apply qw_cons); · simp only [push_cast, env, Nat.reduceEqDiff, reduceIte, Nat.reduceAdd, Nat.reduceMul, Nat.reduceLeDiff, reduceCtorEq, Nat.reduceSub, Int.reduceToNat, e3] <;> exact rfl) | ((first | apply ow_spec | apply qw_spec); · simp only [push_cast, env, Nat.reduceEqDiff, reduceIte, Nat.reduceAdd, Nat.reduceMul, Nat.reduceLeDiff, reduceCtorEq, Nat.reduceSub, Int.reduceToNat, e3] <;> exact rfl) | refine qw_nil ?_ | refine cw_block ?_ | refine cw_scope ?_ | refine cw_label ?_ | refine cw_skip ?_)
            refine cw_condF (by simp only [push_cast, env, Nat.reduceEqDiff, reduceIte, Nat.reduceAdd, Nat.reduceMul, Nat.reduceLeDiff, reduceCtorEq, Nat.reduceSub, Int.reduceToNat] <;> exact rfl) ?_
            refine cw_exit ?_
            exact ⟨rfl, rfl, false, (by simp only [push_cast, SubL, fget, Nat.reduceEqDiff, reduceIte]), fun h => (by cases h), hF⟩
          | true =>
          obtain ⟨id, ver, own, c', cells, p', n', c2, hv, hid, hn, hrd, hu'⟩ := hu.at hlt
          cases hv
          subst hn
          have e0 := rdH_get0 hrd (by omega)
          have e0' := rdH_get (j := 1) hrd (by omega)
          simp only [List.getElem?_cons_succ, List.getElem?_cons_zero] at e0 e0'
          have e1 := rng hlt
          have e2 := inc hlt hle
          have e3 := lt_dec hlt
          have hmem : g.rules[i] ∈ _ := List.getElem_mem hlt
          have hn2 := RdSyms.le hu'
          obtain ⟨a1, a2', a3', hS⟩ := R.r _ hmem
          have hid2 := getElem?_prefix (hp1.trans hp) hid
          have hgm2 := getElem?_prefix hp hgm
          have hnt : ∀ (y : Nat) (hy : y < g.rules[i].rhs.length), LeadsAt m g.rules[i] y → g.rules[i].lhs = a → Edge g (nullD g) a g.rules[i].rhs[y].nt := fun y hy ⟨_, h1, h2⟩ e => ⟨_, hmem, e, y, hy, h1, rfl, fun z hz hne => (nullB_iff hm (hS _ (List.getElem_mem hz)).2.1).1 (h2 z hz hne)⟩
          repeat (first | refine cw_seq ?_ | refine cw_region ?_ | refine ow_nil ?_ | ((first | apply ow_cons | apply qw_cons); · simp only [push_cast, env, Nat.reduceEqDiff, reduceIte, Nat.reduceAdd, Nat.reduceMul, Nat.reduceLeDiff, reduceCtorEq, Nat.reduceSub, Int.reduceToNat, e3] <;> exact rfl) | ((first | apply ow_spec | apply qw_spec); · simp only [push_cast, env, Nat.reduceEqDiff, reduceIte, Nat.reduceAdd, Nat.reduceMul, Nat.reduceLeDiff, reduceCtorEq, Nat.reduceSub, Int.reduceToNat, e3] <;> exact rfl) | refine qw_nil ?_ | refine cw_block ?_ | refine cw_scope ?_ | refine cw_label ?_ | refine cw_skip ?_)
          refine cw_condT (by simp only [push_cast, env, Nat.reduceEqDiff, reduceIte, Nat.reduceAdd, Nat.reduceMul, Nat.reduceLeDiff, reduceCtorEq, Nat.reduceSub, Int.reduceToNat] <;> exact rfl) ?_
          repeat (first | refine cw_seq ?_ | refine cw_region ?_ | refine ow_nil ?_ | ((first | apply ow_cons | apply qw_cons); · simp only [push_cast, env, Nat.reduceEqDiff, reduceIte, Nat.reduceAdd, Nat.reduceMul, Nat.reduceLeDiff, reduceCtorEq, Nat.reduceSub, Int.reduceToNat, e1, hid2, hrd] <;> exact rfl) | ((first | apply ow_spec | apply qw_spec); · simp only [push_cast, env, Nat.reduceEqDiff, reduceIte, Nat.reduceAdd, Nat.reduceMul, Nat.reduceLeDiff, reduceCtorEq, Nat.reduceSub, Int.reduceToNat, e1, hid2, hrd] <;> exact rfl) | refine qw_nil ?_ | refine cw_block ?_ | refine cw_scope ?_ | refine cw_label ?_ | refine cw_skip ?_)
          refine cw_wh (fun x : Nat × Bool => g.rules[i].rhs.length - x.1) (fun x => [(1, .box [i64 g.nts, i64 g.start, .slice (some ⟨id, 0, some ver⟩) g.rules.length c]), (4, .val (.slice (some ⟨idm, 0, some verm⟩) m.length m.length)), (5, .val (i64 0)), (6, .val (.slice (some ⟨io, 0, some vo⟩) N N)), (7, .val (i64 ((N : Int) - s.count true))), (8, .val (i64 k)), (9, .val (i64 a)), (10, .val (.bool x.2)), (11, .val (i64 i)), (12, .box [i64 g.rules[i].lhs, .slice p' g.rules[i].rhs.length c2]), (13, .val (i64 x.1))]) (fun _ => hk)
            (fun x => x.1 ≤ g.rules[i].rhs.length ∧ (x.2 = true → g.rules[i].lhs = a → ∀ (k : Nat) (hk : k < g.rules[i].rhs.length), k < x.1 → LeadsAt m g.rules[i] k → bit s g.rules[i].rhs[k].nt = true) ∧ (x.2 = false → ∃ b, Edge g (nullD g) a b ∧ bit s b = false)) (0, true) (by simp only [push_cast, SubL, fget, Nat.reduceEqDiff, reduceIte]) rfl ⟨Nat.zero_le _, fun _ _ k hk h => absurd h (Nat.not_lt_zero _), fun h => by cases h⟩ ?_
          rintro ⟨j, f⟩ ⟨hjn, hT2, hF2⟩
          simp only at hjn hT2 hF2 ⊢
          have hdone : (f = true → g.rules[i].lhs = a → ∀ (k : Nat) (hk : k < g.rules[i].rhs.length), LeadsAt m g.rules[i] k → bit s g.rules[i].rhs[k].nt = true) → (f = true → ∀ r ∈ g.rules.take (i + 1), r.lhs = a → ∀ (k : Nat) (hk : k < r.rhs.length), LeadsAt m r k → bit s r.rhs[k].nt = true) := fun hh hf => take_forall' hlt (hT rfl) (hh hf)
          by_cases hjl : j < g.rules[i].rhs.length
          · obtain ⟨id2, ver2, own2, c3, cells2, hv2, hid2, hrd2⟩ := hu'.at hjl
            cases hv2
            have e9 := rng hjl
            have e10 := inc hjl (by omega)
            have e11 := lt_dec hjl
            have g0 := rdH_get0 hrd2 (by omega)
            simp only [List.getElem?_cons_zero] at g0
            have hmem2 : g.rules[i].rhs[j] ∈ _ := List.getElem_mem hjl
            have hs2 := hS _ hmem2
            have hid4 := getElem?_prefix (hp1.trans hp) hid2
            by_cases e : g.rules[i].lhs = a
            · have d0 := decide_eq_true e
              repeat (first | refine cw_seq ?_ | refine cw_region ?_ | refine ow_nil ?_ | ((first | apply ow_cons | apply qw_cons); · simp only [push_cast, env, Nat.reduceEqDiff, reduceIte, Nat.reduceAdd, Nat.reduceMul, Nat.reduceLeDiff, reduceCtorEq, Nat.reduceSub, Int.reduceToNat, e11, d0] <;> exact rfl) | ((first | apply ow_spec | apply qw_spec); · simp only [push_cast, env, Nat.reduceEqDiff, reduceIte, Nat.reduceAdd, Nat.reduceMul, Nat.reduceLeDiff, reduceCtorEq, Nat.reduceSub, Int.reduceToNat, e11, d0] <;> exact rfl) | refine qw_nil ?_ | refine cw_block ?_ | refine cw_scope ?_ | refine cw_label ?_ | refine cw_skip ?_)
              refine cw_condT (by simp only [push_cast, env, Nat.reduceEqDiff, reduceIte, Nat.reduceAdd, Nat.reduceMul, Nat.reduceLeDiff, reduceCtorEq, Nat.reduceSub, Int.reduceToNat] <;> exact rfl) ?_
              repeat (first | refine cw_seq ?_ | refine cw_region ?_ | refine ow_nil ?_ | ((first | apply ow_cons | apply qw_cons); · simp only [push_cast, env, Nat.reduceEqDiff, reduceIte, Nat.reduceAdd, Nat.reduceMul, Nat.reduceLeDiff, reduceCtorEq, Nat.reduceSub, Int.reduceToNat] <;> exact rfl) | ((first | apply ow_spec | apply qw_spec); · simp only [push_cast, env, Nat.reduceEqDiff, reduceIte, Nat.reduceAdd, Nat.reduceMul, Nat.reduceLeDiff, reduceCtorEq, Nat.reduceSub, Int.reduceToNat] <;> exact rfl) | refine qw_nil ?_ | refine cw_block ?_ | refine cw_scope ?_ | refine cw_label ?_ | refine cw_skip ?_)
              refine ow_call (fn := Try.f50) (by simp only [push_cast, env, Nat.reduceEqDiff, reduceIte, Nat.reduceAdd, Nat.reduceMul, Nat.reduceLeDiff, reduceCtorEq, Nat.reduceSub, Int.reduceToNat] <;> exact rfl) rfl (by simp only [push_cast, env, Nat.reduceEqDiff, reduceIte, Nat.reduceAdd, Nat.reduceMul, Nat.reduceLeDiff, reduceCtorEq, Nat.reduceSub, Int.reduceToNat] <;> exact rfl) (by simp only [push_cast, env, Nat.reduceEqDiff, reduceIte, Nat.reduceAdd, Nat.reduceMul, Nat.reduceLeDiff, reduceCtorEq, Nat.reduceSub, Int.reduceToNat] <;> exact rfl) Try.func50 (by kernel_rfl) (by kernel_rfl) ?_
              rw [List.append_nil]
              refine (leads_fw _ g.rules[i] _ _ m j ⟨_, rfl, SlR.mono hu' (hp1.trans hp)⟩ ⟨by omega, .inr ⟨idm, verm, true, _, rfl, hgm2⟩⟩ (fun s hs => by have := hS s hs; omega) hjl).mono ?_
              rintro _ hk ⟨⟨b, rfl, hb2⟩, rfl⟩
              cases b with
              | false =>
                repeat (first | refine cw_seq ?_ | refine cw_region ?_ | refine ow_nil ?_ | ((first | apply ow_cons | apply qw_cons); · simp only [push_cast, env, Nat.reduceEqDiff, reduceIte, Nat.reduceAdd, Nat.reduceMul, Nat.reduceLeDiff, reduceCtorEq, Nat.reduceSub, Int.reduceToNat] <;> exact rfl) | ((first | apply ow_spec | apply qw_spec); · simp only [push_cast, env, Nat.reduceEqDiff, reduceIte, Nat.reduceAdd, Nat.reduceMul, Nat.reduceLeDiff, reduceCtorEq, Nat.reduceSub, Int.reduceToNat] <;> exact rfl) | refine qw_nil ?_ | refine cw_block ?_ | refine cw_scope ?_ | refine cw_label ?_ | refine cw_skip ?_)
                refine cw_condF (by simp only [push_cast, env, Nat.reduceEqDiff, reduceIte, Nat.reduceAdd, Nat.reduceMul, Nat.reduceLeDiff, reduceCtorEq, Nat.reduceSub, Int.reduceToNat] <;> exact rfl) ?_
                repeat (first | refine cw_seq ?_ | refine cw_region ?_ | refine ow_nil ?_ | ((first | apply ow_cons | apply qw_cons); · simp only [push_cast, env, Nat.reduceEqDiff, reduceIte, Nat.reduceAdd, Nat.reduceMul, Nat.reduceLeDiff, reduceCtorEq, Nat.reduceSub, Int.reduceToNat, e10] <;> exact rfl) | ((first | apply ow_spec | apply qw_spec); · simp only [push_cast, env, Nat.reduceEqDiff, reduceIte, Nat.reduceAdd, Nat.reduceMul, Nat.reduceLeDiff, reduceCtorEq, Nat.reduceSub, Int.reduceToNat, e10] <;> exact rfl) | refine qw_nil ?_ | refine cw_block ?_ | refine cw_scope ?_ | refine cw_label ?_ | refine cw_skip ?_)
                refine ⟨(j + 1, f), by simp only; omega, (by simp only [push_cast, SubL, fget, Nat.reduceEqDiff, reduceIte]), rfl, hjl, fun hf _ y hy hyj hl => ?_, hF2⟩
                rcases Nat.lt_or_ge y j with q | q
                · exact hT2 hf e y hy q hl
                · obtain rfl : y = j := by omega
                  exact (Bool.noConfusion (hb2.2 hl))
              | true =>
                have hLd := hb2.1 rfl
                have h0 := hLd.2.1
                have q1 := rng0 (N := N) h0 (by omega)
                have q2 := bit_map (m := s) h0 (by omega)
                repeat (first | refine cw_seq ?_ | refine cw_region ?_ | refine ow_nil ?_ | ((first | apply ow_cons | apply qw_cons); · simp only [push_cast, env, Nat.reduceEqDiff, reduceIte, Nat.reduceAdd, Nat.reduceMul, Nat.reduceLeDiff, reduceCtorEq, Nat.reduceSub, Int.reduceToNat, e9, hid4, g0, q1, ho, q2, Nat.mul_one] <;> exact rfl) | ((first | apply ow_spec | apply qw_spec); · simp only [push_cast, env, Nat.reduceEqDiff, reduceIte, Nat.reduceAdd, Nat.reduceMul, Nat.reduceLeDiff, reduceCtorEq, Nat.reduceSub, Int.reduceToNat, e9, hid4, g0, q1, ho, q2, Nat.mul_one] <;> exact rfl) | refine qw_nil ?_ | refine cw_block ?_ | refine cw_scope ?_ | refine cw_label ?_ | refine cw_skip ?_)
                refine cw_cond (by simp only [push_cast, env, Nat.reduceEqDiff, reduceIte, Nat.reduceAdd, Nat.reduceMul, Nat.reduceLeDiff, reduceCtorEq, Nat.reduceSub, Int.reduceToNat] <;> exact rfl) (fun b2 => ?_) (fun b2 => ?_)
                · have b2 : bit s g.rules[i].rhs[j].nt = false := by simpa using b2
                  repeat (first | refine cw_seq ?_ | refine cw_region ?_ | refine ow_nil ?_ | ((first | apply ow_cons | apply qw_cons); · simp only [push_cast, env, Nat.reduceEqDiff, reduceIte, Nat.reduceAdd, Nat.reduceMul, Nat.reduceLeDiff, reduceCtorEq, Nat.reduceSub, Int.reduceToNat, e10] <;> exact rfl) | ((first | apply ow_spec | apply qw_spec); · simp only [push_cast, env, Nat.reduceEqDiff, reduceIte, Nat.reduceAdd, Nat.reduceMul, Nat.reduceLeDiff, reduceCtorEq, Nat.reduceSub, Int.reduceToNat, e10] <;> exact rfl) | refine qw_nil ?_ | refine cw_block ?_ | refine cw_scope ?_ | refine cw_label ?_ | refine cw_skip ?_)
                  exact ⟨(j + 1, false), by simp only; omega, (by simp only [push_cast, SubL, fget, Nat.reduceEqDiff, reduceIte]), rfl, hjl, fun h => (by cases h), fun _ => ⟨_, hnt j hjl hLd e, b2⟩⟩
                · have b2 : bit s g.rules[i].rhs[j].nt = true := by simpa using b2
                  repeat (first | refine cw_seq ?_ | refine cw_region ?_ | refine ow_nil ?_ | ((first | apply ow_cons | apply qw_cons); · simp only [push_cast, env, Nat.reduceEqDiff, reduceIte, Nat.reduceAdd, Nat.reduceMul, Nat.reduceLeDiff, reduceCtorEq, Nat.reduceSub, Int.reduceToNat, e10] <;> exact rfl) | ((first | apply ow_spec | apply qw_spec); · simp only [push_cast, env, Nat.reduceEqDiff, reduceIte, Nat.reduceAdd, Nat.reduceMul, Nat.reduceLeDiff, reduceCtorEq, Nat.reduceSub, Int.reduceToNat, e10] <;> exact rfl) | refine qw_nil ?_ | refine cw_block ?_ | refine cw_scope ?_ | refine cw_label ?_ | refine cw_skip ?_)
                  refine ⟨(j + 1, f), by simp only; omega, (by simp only [push_cast, SubL, fget, Nat.reduceEqDiff, reduceIte]), rfl, hjl, fun hf _ y hy hyj hl => ?_, hF2⟩
                  rcases Nat.lt_or_ge y j with q | q
                  · exact hT2 hf e y hy q hl
                  · obtain rfl : y = j := by omega
                    exact b2
            · have d0 := decide_eq_false e
              repeat (first | refine cw_seq ?_ | refine cw_region ?_ | refine ow_nil ?_ | ((first | apply ow_cons | apply qw_cons); · simp only [push_cast, env, Nat.reduceEqDiff, reduceIte, Nat.reduceAdd, Nat.reduceMul, Nat.reduceLeDiff, reduceCtorEq, Nat.reduceSub, Int.reduceToNat, e11, d0] <;> exact rfl) | ((first | apply ow_spec | apply qw_spec); · simp only [push_cast, env, Nat.reduceEqDiff, reduceIte, Nat.reduceAdd, Nat.reduceMul, Nat.reduceLeDiff, reduceCtorEq, Nat.reduceSub, Int.reduceToNat, e11, d0] <;> exact rfl) | refine qw_nil ?_ | refine cw_block ?_ | refine cw_scope ?_ | refine cw_label ?_ | refine cw_skip ?_)
              refine cw_condF (by simp only [push_cast, env, Nat.reduceEqDiff, reduceIte, Nat.reduceAdd, Nat.reduceMul, Nat.reduceLeDiff, reduceCtorEq, Nat.reduceSub, Int.reduceToNat] <;> exact rfl) ?_
              refine cw_exit ?_
              show CW _ _ _ _
              repeat (first | refine cw_seq ?_ | refine cw_region ?_ | refine ow_nil ?_ | ((first | apply ow_cons | apply qw_cons); · simp only [push_cast, env, Nat.reduceEqDiff, reduceIte, Nat.reduceAdd, Nat.reduceMul, Nat.reduceLeDiff, reduceCtorEq, Nat.reduceSub, Int.reduceToNat, e2] <;> exact rfl) | ((first | apply ow_spec | apply qw_spec); · simp only [push_cast, env, Nat.reduceEqDiff, reduceIte, Nat.reduceAdd, Nat.reduceMul, Nat.reduceLeDiff, reduceCtorEq, Nat.reduceSub, Int.reduceToNat, e2] <;> exact rfl) | refine qw_nil ?_ | refine cw_block ?_ | refine cw_scope ?_ | refine cw_label ?_ | refine cw_skip ?_)
              exact ⟨(i + 1, f), by simp only; omega, (by simp only [push_cast, SubL, fget, Nat.reduceEqDiff, reduceIte]), rfl, hlt, hdone (fun _ h => (e h).elim), hF2⟩
          · have e11 := ge_dec hjl
            repeat (first | refine cw_seq ?_ | refine cw_region ?_ | refine ow_nil ?_ | ((first | apply ow_cons | apply qw_cons); · simp only [push_cast, env, Nat.reduceEqDiff, reduceIte, Nat.reduceAdd, Nat.reduceMul, Nat.reduceLeDiff, reduceCtorEq, Nat.reduceSub, Int.reduceToNat, e11] <;> exact rfl) | ((first | apply ow_spec | apply qw_spec); · simp only [push_cast, env, Nat.reduceEqDiff, reduceIte, Nat.reduceAdd, Nat.reduceMul, Nat.reduceLeDiff, reduceCtorEq, Nat.reduceSub, Int.reduceToNat, e11] <;> exact rfl) | refine qw_nil ?_ | refine cw_block ?_ | refine cw_scope ?_ | refine cw_label ?_ | refine cw_skip ?_)
            refine cw_condF (by simp only [push_cast, env, Nat.reduceEqDiff, reduceIte, Nat.reduceAdd, Nat.reduceMul, Nat.reduceLeDiff, reduceCtorEq, Nat.reduceSub, Int.reduceToNat] <;> exact rfl) ?_
            refine cw_exit ?_
            show CW _ _ _ _
            repeat (first | refine cw_seq ?_ | refine cw_region ?_ | refine ow_nil ?_ | ((first | apply ow_cons | apply qw_cons); · simp only [push_cast, env, Nat.reduceEqDiff, reduceIte, Nat.reduceAdd, Nat.reduceMul, Nat.reduceLeDiff, reduceCtorEq, Nat.reduceSub, Int.reduceToNat, e2] <;> exact rfl) | ((first | apply ow_spec | apply qw_spec); · simp only [push_cast, env, Nat.reduceEqDiff, reduceIte, Nat.reduceAdd, Nat.reduceMul, Nat.reduceLeDiff, reduceCtorEq, Nat.reduceSub, Int.reduceToNat, e2] <;> exact rfl) | refine qw_nil ?_ | refine cw_block ?_ | refine cw_scope ?_ | refine cw_label ?_ | refine cw_skip ?_)
            exact ⟨(i + 1, f), by simp only; omega, (by simp only [push_cast, SubL, fget, Nat.reduceEqDiff, reduceIte]), rfl, hlt, hdone (fun hf h y hy hl => hT2 hf h y hy (by omega) hl), hF2⟩
        · have e3 := ge_dec hlt
          obtain rfl : i = g.rules.length := by omega
          repeat (first | refine cw_seq ?_ | refine cw_region ?_ | refine ow_nil ?_ | ((first | apply ow_cons | apply qw_cons); · simp only [push_cast, env, Nat.reduceEqDiff, reduceIte, Nat.reduceAdd, Nat.reduceMul, Nat.reduceLeDiff, reduceCtorEq, Nat.reduceSub, Int.reduceToNat, e3] <;> exact rfl) | ((first | apply ow_spec | apply qw_spec); · simp only [push_cast, env, Nat.reduceEqDiff, reduceIte, Nat.reduceAdd, Nat.reduceMul, Nat.reduceLeDiff, reduceCtorEq, Nat.reduceSub, Int.reduceToNat, e3] <;> exact rfl) | refine qw_nil ?_ | refine cw_block ?_ | refine cw_scope ?_ | refine cw_label ?_ | refine cw_skip ?_)
          refine cw_condF (by simp only [push_cast, env, Nat.reduceEqDiff, reduceIte, Nat.reduceAdd, Nat.reduceMul, Nat.reduceLeDiff, reduceCtorEq, Nat.reduceSub, Int.reduceToNat] <;> exact rfl) ?_
          refine cw_exit ?_
          refine ⟨rfl, rfl, f, (by simp only [push_cast, SubL, fget, Nat.reduceEqDiff, reduceIte]), fun hf b hab => ?_, hF⟩
          obtain ⟨r, hr, e, y, hy, h0, rfl, h2⟩ := hab
          rw [List.take_length] at hT
          obtain ⟨_, _, _, hS⟩ := R.r r hr
          exact hT hf r hr e y hy ⟨hy, h0, fun z hz hne => (nullB_iff hm (hS _ (List.getElem_mem hz)).2.1).2 (h2 z hz hne)⟩
      rintro e s' ⟨rfl, hh, f, hf, hT, hF⟩
      show CW _ _ _ _
      refine cw_weakL _ hf ?_
      rw [hh]
      clear hh hf s'
      cases f with
      | false =>
        repeat (first | refine cw_seq ?_ | refine cw_region ?_ | refine ow_nil ?_ | ((first | apply ow_cons | apply qw_cons); · simp only [push_cast, env, Nat.reduceEqDiff, reduceIte, Nat.reduceAdd, Nat.reduceMul, Nat.reduceLeDiff, reduceCtorEq, Nat.reduceSub, Int.reduceToNat] <;> exact rfl) | ((first | apply ow_spec | apply qw_spec); · simp only [push_cast, env, Nat.reduceEqDiff, reduceIte, Nat.reduceAdd, Nat.reduceMul, Nat.reduceLeDiff, reduceCtorEq, Nat.reduceSub, Int.reduceToNat] <;> exact rfl) | refine qw_nil ?_ | refine cw_block ?_ | refine cw_scope ?_ | refine cw_label ?_ | refine cw_skip ?_)
        refine cw_condF (by simp only [push_cast, env, Nat.reduceEqDiff, reduceIte, Nat.reduceAdd, Nat.reduceMul, Nat.reduceLeDiff, reduceCtorEq, Nat.reduceSub, Int.reduceToNat] <;> exact rfl) ?_
        repeat (first | refine cw_seq ?_ | refine cw_region ?_ | refine ow_nil ?_ | ((first | apply ow_cons | apply qw_cons); · simp only [push_cast, env, Nat.reduceEqDiff, reduceIte, Nat.reduceAdd, Nat.reduceMul, Nat.reduceLeDiff, reduceCtorEq, Nat.reduceSub, Int.reduceToNat, a2] <;> exact rfl) | ((first | apply ow_spec | apply qw_spec); · simp only [push_cast, env, Nat.reduceEqDiff, reduceIte, Nat.reduceAdd, Nat.reduceMul, Nat.reduceLeDiff, reduceCtorEq, Nat.reduceSub, Int.reduceToNat, a2] <;> exact rfl) | refine qw_nil ?_ | refine cw_block ?_ | refine cw_scope ?_ | refine cw_label ?_ | refine cw_skip ?_)
        exact ⟨hal, (hk, s), (by simp only [push_cast, SubL, fget, Nat.reduceEqDiff, reduceIte]), rfl, hp, ho, hkeep (.inr (hF rfl))⟩
      | true =>
        have hc := count_up (m := s) (i := (a : Int)) (by omega) (by omega) b1
        simp only [Int.toNat_natCast] at hc
        have e7 : IntKind.i64.wrap ((N : Int) - s.count true - 1) = (N : Int) - (s.set a true).count true := by rw [hc.1]; rw [wrap64_id (by omega) (by omega)]; omega
        repeat (first | refine cw_seq ?_ | refine cw_region ?_ | refine ow_nil ?_ | ((first | apply ow_cons | apply qw_cons); · simp only [push_cast, env, Nat.reduceEqDiff, reduceIte, Nat.reduceAdd, Nat.reduceMul, Nat.reduceLeDiff, reduceCtorEq, Nat.reduceSub, Int.reduceToNat, ra] <;> exact rfl) | ((first | apply ow_spec | apply qw_spec); · simp only [push_cast, env, Nat.reduceEqDiff, reduceIte, Nat.reduceAdd, Nat.reduceMul, Nat.reduceLeDiff, reduceCtorEq, Nat.reduceSub, Int.reduceToNat, ra] <;> exact rfl) | refine qw_nil ?_ | refine cw_block ?_ | refine cw_scope ?_ | refine cw_label ?_ | refine cw_skip ?_)
        refine cw_condT (by simp only [push_cast, env, Nat.reduceEqDiff, reduceIte, Nat.reduceAdd, Nat.reduceMul, Nat.reduceLeDiff, reduceCtorEq, Nat.reduceSub, Int.reduceToNat] <;> exact rfl) ?_
        repeat (first | refine cw_seq ?_ | refine cw_region ?_ | refine ow_nil ?_ | ((first | apply ow_cons | apply qw_cons); · simp only [push_cast, env, Nat.reduceEqDiff, reduceIte, Nat.reduceAdd, Nat.reduceMul, Nat.reduceLeDiff, reduceCtorEq, Nat.reduceSub, Int.reduceToNat, ra] <;> exact rfl) | ((first | apply ow_spec | apply qw_spec); · simp only [push_cast, env, Nat.reduceEqDiff, reduceIte, Nat.reduceAdd, Nat.reduceMul, Nat.reduceLeDiff, reduceCtorEq, Nat.reduceSub, Int.reduceToNat, ra] <;> exact rfl) | refine qw_nil ?_ | refine cw_block ?_ | refine cw_scope ?_ | refine cw_label ?_ | refine cw_skip ?_)
        refine ow_stoH (by simp only [push_cast, env, Nat.reduceEqDiff, reduceIte, Nat.reduceAdd, Nat.reduceMul, Nat.reduceLeDiff, reduceCtorEq, Nat.reduceSub, Int.reduceToNat] <;> exact rfl) rfl rfl (by simp only [push_cast, env, Nat.reduceEqDiff, reduceIte, Nat.reduceAdd, Nat.reduceMul, Nat.reduceLeDiff, reduceCtorEq, Nat.reduceSub, Int.reduceToNat] <;> exact rfl) (by simp only [push_cast, env, Nat.reduceEqDiff, reduceIte, Nat.reduceAdd, Nat.reduceMul, Nat.reduceLeDiff, reduceCtorEq, Nat.reduceSub, Int.reduceToNat, ra, Nat.mul_one] <;> exact rfl) ho rfl rfl (wr_map (x := true) (by omega)) ?_
        repeat (first | refine cw_seq ?_ | refine cw_region ?_ | refine ow_nil ?_ | ((first | apply ow_cons | apply qw_cons); · simp only [push_cast, env, Nat.reduceEqDiff, reduceIte, Nat.reduceAdd, Nat.reduceMul, Nat.reduceLeDiff, reduceCtorEq, Nat.reduceSub, Int.reduceToNat, e7, a2] <;> exact rfl) | ((first | apply ow_spec | apply qw_spec); · simp only [push_cast, env, Nat.reduceEqDiff, reduceIte, Nat.reduceAdd, Nat.reduceMul, Nat.reduceLeDiff, reduceCtorEq, Nat.reduceSub, Int.reduceToNat, e7, a2] <;> exact rfl) | refine qw_nil ?_ | refine cw_block ?_ | refine cw_scope ?_ | refine cw_label ?_ | refine cw_skip ?_)
        have hbs : ∀ y : Int, 0 ≤ y → bit (s.set a true) y = if (a : Int) = y then true else bit s y := fun y y0 => by
          have := bit_set (m := s) (i := (a : Int)) (b := true) (by omega) (by omega) y0
          simpa using this
        refine ⟨hal, (hk.set io (.arr ((s.set a true).map .bool) vo true 4), s.set a true), (by simp only [push_cast, SubL, fget, Nat.reduceEqDiff, reduceIte]), rfl, pre_set hp hio, get_set_self ho, by simp [hsn], ?_, .inl ⟨?_, ?_⟩⟩
        · refine (hI.a.add (n := (a : Int)) (fun hh => by rw [hh.2] at b1; cases b1) fun b hab => ⟨(hE _ b hab).2.1, hT rfl b hab⟩).congr fun y => ?_
          unfold SB
          constructor
          · rintro (⟨y0, h⟩ | rfl)
            · refine ⟨y0, ?_⟩
              rw [hbs y y0]
              split
              · rfl
              · exact h
            · exact ⟨by omega, by rw [hbs _ (by omega), if_pos rfl]⟩
          · rintro ⟨y0, h⟩
            rw [hbs y y0] at h
            split at h
            · rename_i e2
              exact .inr e2.symm
            · exact .inl ⟨y0, h⟩
        · show s0.count true < (s.set a true).count true
          rcases hI.c with h | ⟨rfl, _⟩ <;> omega
        · rcases hI.c with h | ⟨rfl, _⟩
          · exact h.2
          · intro hs
            obtain ⟨b, h1, h2⟩ := hs a (by omega) (by omega) b1
            rw [hT rfl b h1] at h2
            cases h2
    · have a3 : decide ((a : Int) < g.nts) = false := by rw [hN]; exact ge_dec hal
      obtain rfl : a = N := by omega
      repeat (first | refine cw_seq ?_ | refine cw_region ?_ | refine ow_nil ?_ | ((first | apply ow_cons | apply qw_cons); · simp only [push_cast, env, Nat.reduceEqDiff, reduceIte, Nat.reduceAdd, Nat.reduceMul, Nat.reduceLeDiff, reduceCtorEq, Nat.reduceSub, Int.reduceToNat, a3] <;> exact rfl) | ((first | apply ow_spec | apply qw_spec); · simp only [push_cast, env, Nat.reduceEqDiff, reduceIte, Nat.reduceAdd, Nat.reduceMul, Nat.reduceLeDiff, reduceCtorEq, Nat.reduceSub, Int.reduceToNat, a3] <;> exact rfl) | refine qw_nil ?_ | refine cw_block ?_ | refine cw_scope ?_ | refine cw_label ?_ | refine cw_skip ?_)
      refine cw_condF (by simp only [push_cast, env, Nat.reduceEqDiff, reduceIte, Nat.reduceAdd, Nat.reduceMul, Nat.reduceLeDiff, reduceCtorEq, Nat.reduceSub, Int.reduceToNat] <;> exact rfl) ?_
      refine cw_exit ?_
      show CW _ _ _ _
      repeat (first | refine cw_seq ?_ | refine cw_region ?_ | refine ow_nil ?_ | ((first | apply ow_cons | apply qw_cons); · simp only [push_cast, env, Nat.reduceEqDiff, reduceIte, Nat.reduceAdd, Nat.reduceMul, Nat.reduceLeDiff, reduceCtorEq, Nat.reduceSub, Int.reduceToNat, f2] <;> exact rfl) | ((first | apply ow_spec | apply qw_spec); · simp only [push_cast, env, Nat.reduceEqDiff, reduceIte, Nat.reduceAdd, Nat.reduceMul, Nat.reduceLeDiff, reduceCtorEq, Nat.reduceSub, Int.reduceToNat, f2] <;> exact rfl) | refine qw_nil ?_ | refine cw_block ?_ | refine cw_scope ?_ | refine cw_label ?_ | refine cw_skip ?_)
      exact ⟨hkl, (hk, s), (by simp only [push_cast, SubL, fget, Nat.reduceEqDiff, reduceIte]), rfl, hp, ho, hI0.step hI⟩
  · have f3 : decide ((k : Int) < g.nts) = false := by rw [hN]; exact ge_dec hkl
    repeat (first | refine cw_seq ?_ | refine cw_region ?_ | refine ow_nil ?_ | ((first | apply ow_cons | apply qw_cons); · simp only [push_cast, env, Nat.reduceEqDiff, reduceIte, Nat.reduceAdd, Nat.reduceMul, Nat.reduceLeDiff, reduceCtorEq, Nat.reduceSub, Int.reduceToNat, f3] <;> exact rfl) | ((first | apply ow_spec | apply qw_spec); · simp only [push_cast, env, Nat.reduceEqDiff, reduceIte, Nat.reduceAdd, Nat.reduceMul, Nat.reduceLeDiff, reduceCtorEq, Nat.reduceSub, Int.reduceToNat, f3] <;> exact rfl) | refine qw_nil ?_ | refine cw_block ?_ | refine cw_scope ?_ | refine cw_label ?_ | refine cw_skip ?_)
    refine cw_condF (by simp only [push_cast, env, Nat.reduceEqDiff, reduceIte, Nat.reduceAdd, Nat.reduceMul, Nat.reduceLeDiff, reduceCtorEq, Nat.reduceSub, Int.reduceToNat] <;> exact rfl) ?_
    refine cw_exit ?_
    show CW _ _ _ _
    repeat (first | refine cw_seq ?_ | refine cw_region ?_ | refine ow_nil ?_ | ((first | apply ow_cons | apply qw_cons); · simp only [push_cast, env, Nat.reduceEqDiff, reduceIte, Nat.reduceAdd, Nat.reduceMul, Nat.reduceLeDiff, reduceCtorEq, Nat.reduceSub, Int.reduceToNat] <;> exact rfl) | ((first | apply ow_spec | apply qw_spec); · simp only [push_cast, env, Nat.reduceEqDiff, reduceIte, Nat.reduceAdd, Nat.reduceMul, Nat.reduceLeDiff, reduceCtorEq, Nat.reduceSub, Int.reduceToNat] <;> exact rfl) | refine qw_nil ?_ | refine cw_block ?_ | refine cw_scope ?_ | refine cw_label ?_ | refine cw_skip ?_)
    refine cw_ret ?_
    refine ⟨_, (by simp only [push_cast, env, Nat.reduceEqDiff, reduceIte, Nat.reduceAdd, Nat.reduceMul, Nat.reduceLeDiff, reduceCtorEq, Nat.reduceSub, Int.reduceToNat] <;> exact rfl), ⟨_, by rw [e0]; rfl, .inr ⟨hb, decide (0 < (N : Int) - s0.count true), rfl, ?_⟩⟩, hp1.trans hp0⟩
    rw [decide_eq_true_eq]
    exact hI0.fin hE (by omega)
end Go.Proofs.Ytnlchlnkibpkaaa

/- What is told of a grammar, for the laws. -/
namespace Go.Proofs.Ytnlchlnkibpkaaa
set_option linter.unusedSimpArgs false
set_option linter.unusedVariables false
open Go.RowKit Am Ty
theorem MineS.rd {h h' : Heap} {v : Value} {m : List BSet} (k : MineS h h' v m) (hl : m.length ≤ 1000000) : RdSets h' v m := by
  obtain ⟨id, ver, h1, h2, h3⟩ := k
  exact ⟨by omega, .inr ⟨id, ver, true, _, h2, h3⟩⟩
theorem rdNil {h : Heap} {et : TypeId} {b : Nat} : SlR h nilS 0 [] et b := ⟨by omega, .inl ⟨.inl rfl, rfl, rfl⟩⟩
theorem slr_mono {h h' : Heap} {v : Value} {n b : Nat} {cells : List Value} {et : TypeId} (hs : SlR h v n cells et b) (hp : h <+: h') : SlR h' v n cells et b := hs.mono hp
theorem marks_len {n : Int} {D : Int → Prop} {m : List Bool} (h : Marks n D m) : (m.length : Int) = n := h.1
theorem Told.cases {g : Gram} {z r : Value} {K : Value → Heap → Prop} {h : Heap} (t : Told g z K r h) : (badG g ∧ r = .tuple #[z, i64 3]) ∨ (¬ badG g ∧ ∃ x, r = .tuple #[x, i64 0] ∧ K x h) := by
  obtain ⟨x, rfl, ⟨hb, rfl⟩ | ⟨hb, k⟩⟩ := t
  · exact .inl ⟨hb, by rw [show rightG g = 3 from if_pos hb]⟩
  · exact .inr ⟨hb, x, by rw [show rightG g = 0 from if_neg hb], k⟩
theorem Told.bad {g : Gram} {z r : Value} {K : Value → Heap → Prop} {h : Heap} (t : Told g z K r h) (hb : badG g) : r = .tuple #[z, i64 3] := by
  rcases t.cases with ⟨_, h⟩ | ⟨h, _⟩
  · exact h
  · exact (h hb).elim
theorem Told.good {g : Gram} {z r : Value} {K : Value → Heap → Prop} {h : Heap} (t : Told g z K r h) (hb : ¬ badG g) : ∃ x, r = .tuple #[x, i64 0] ∧ K x h := by
  rcases t.cases with ⟨h, _⟩ | ⟨_, h⟩
  · exact (hb h).elim
  · exact h
end Go.Proofs.Ytnlchlnkibpkaaa

/- FactsShort and FactsLengths, as the abstract machine runs them. -/
namespace Go.Proofs.Ytnlchlnkibpkaaa
set_option linter.unusedSimpArgs false
set_option linter.unusedVariables false
open Go.RowKit Am Ty

theorem MineI.rd {h h' : Heap} {v : Value} {m : List Int} (k : MineI h h' v m) (hl : m.length ≤ 1000000) : RdInts h' v m := by
  obtain ⟨id, ver, h1, h2, h3⟩ := k
  exact ⟨by omega, .inr ⟨id, ver, true, _, h2, h3⟩⟩
theorem told_ints {g : Gram} {r1 r2 : Value} {h1 h2 h3 : Heap} {K1 K2 : Value → Heap → Prop} (t1 : Told g nilS K1 r1 h1) (t2 : Told g nilS K2 r2 h2) (p1 : h1 <+: h3) (p2 : h2 <+: h3)
    (k : ∀ x y, ¬ badG g → K1 x h1 → K2 y h2 → ∃ a, RdInts h1 x a ∧ RdInts h2 y a) : ∃ x y a, r1 = .tuple #[x, i64 (rightG g)] ∧ r2 = .tuple #[y, i64 (rightG g)] ∧ RdInts h3 x a ∧ RdInts h3 y a := by
  obtain ⟨x, rfl, hx⟩ := t1
  obtain ⟨y, rfl, hy⟩ := t2
  rcases hx with ⟨hb, rfl⟩ | ⟨hb, hx⟩
  · rcases hy with ⟨_, rfl⟩ | ⟨hb', _⟩
    · exact ⟨_, _, [], rfl, rfl, rdNil, rdNil⟩
    · exact (hb' hb).elim
  · rcases hy with ⟨hb', _⟩ | ⟨_, hy⟩
    · exact (hb hb').elim
    · obtain ⟨a, h1, h2⟩ := k x y hb hx hy
      exact ⟨x, y, a, rfl, rfl, SlR.mono h1 p1, SlR.mono h2 p2⟩
theorem told_cyc {g : Gram} {r1 : Value} {h1 : Heap} (t1 : Told g (.bool false) (CycR g) r1 h1) : ∃ b : Bool, r1 = .tuple #[.bool b, i64 (rightG g)] ∧ (b = true ↔ ¬ badG g ∧ CycE (Edge g (nullD g))) := by
  obtain ⟨x, rfl, hx⟩ := t1
  rcases hx with ⟨hb, rfl⟩ | ⟨hb, b, rfl, hc⟩
  · exact ⟨false, rfl, by simp [hb]⟩
  · exact ⟨b, rfl, by rw [hc]; simp [hb]⟩
theorem shorts_pair {g : Gram} {h h1 h' h2 : Heap} {x y : Value} (hb : ¬ badG g) (hx : ∃ l, Shorts g l ∧ MineI h h1 x l) (hy : ∃ l, Shorts g l ∧ MineI h' h2 y l) : ∃ a, RdInts h1 x a ∧ RdInts h2 y a := by
  obtain ⟨a, ha, hma⟩ := hx
  obtain ⟨b, hb2, hmb⟩ := hy
  obtain rfl := ha.eq hb2
  have n2 := (rightS hb).n2
  have := ha.1
  exact ⟨a, MineI.rd hma (by omega), MineI.rd hmb (by omega)⟩
theorem trims_pair {g : Gram} {h h1 h' h2 : Heap} {x y : Value} (hb : ¬ badG g) (hx : TrimR g h x h1) (hy : TrimR g h' y h2) : ∃ a, RdInts h1 x a ∧ RdInts h2 y a := by
  obtain ⟨m, hm, G1⟩ := hx
  obtain ⟨m', hm', G2⟩ := hy
  obtain rfl := hm.eq hm'
  have hl := trimK_len (g := g) (m := m) (k := g.rules.length)
  have := (rightS hb).rl
  exact ⟨_, G1.sl (by omega), G2.sl (by omega)⟩
set_option maxHeartbeats 8000000 in
theorem factsshort_fw {h : Heap} {g : Gram} {v : Value} (hr : RdGram h v g) (hn : -9223372036854775808 ≤ g.nts) : FW env 7 [v] h fun r _ => r = .bool true := by
  obtain ⟨u, rfl, hu⟩ := id hr
  obtain ⟨p, c, rfl⟩ := hu.form
  refine fw_enter (fn := Try.f7) Try.func7 rfl (by kernel_rfl) (by simp [Try.ntmps7]) ?_; simp only [push_cast]
  repeat (first | refine cw_seq ?_ | refine cw_region ?_ | refine ow_nil ?_ | ((first | apply ow_cons | apply qw_cons); · simp only [push_cast, env, Nat.reduceEqDiff, reduceIte, Nat.reduceAdd, Nat.reduceMul, Nat.reduceLeDiff, reduceCtorEq, Nat.reduceSub, Int.reduceToNat] <;> exact rfl) | ((first | apply ow_spec | apply qw_spec); · simp only [push_cast, env, Nat.reduceEqDiff, reduceIte, Nat.reduceAdd, Nat.reduceMul, Nat.reduceLeDiff, reduceCtorEq, Nat.reduceSub, Int.reduceToNat] <;> exact rfl) | refine qw_nil ?_ | refine cw_block ?_ | refine cw_scope ?_ | refine cw_label ?_ | refine cw_skip ?_)
  refine ow_call (fn := Try.f11) (by simp only [push_cast, env, Nat.reduceEqDiff, reduceIte, Nat.reduceAdd, Nat.reduceMul, Nat.reduceLeDiff, reduceCtorEq, Nat.reduceSub, Int.reduceToNat] <;> exact rfl) rfl (by simp only [push_cast, env, Nat.reduceEqDiff, reduceIte, Nat.reduceAdd, Nat.reduceMul, Nat.reduceLeDiff, reduceCtorEq, Nat.reduceSub, Int.reduceToNat] <;> exact rfl) (by simp only [push_cast, env, Nat.reduceEqDiff, reduceIte, Nat.reduceAdd, Nat.reduceMul, Nat.reduceLeDiff, reduceCtorEq, Nat.reduceSub, Int.reduceToNat] <;> exact rfl) Try.func11 (by kernel_rfl) (by kernel_rfl) ?_
  rw [List.append_nil]
  refine (heavy_fw hr hn (by decide)).mono ?_
  rintro _ h ⟨rfl, rfl⟩
  repeat (first | refine cw_seq ?_ | refine cw_region ?_ | refine ow_nil ?_ | ((first | apply ow_cons | apply qw_cons); · simp only [push_cast, env, Nat.reduceEqDiff, reduceIte, Nat.reduceAdd, Nat.reduceMul, Nat.reduceLeDiff, reduceCtorEq, Nat.reduceSub, Int.reduceToNat] <;> exact rfl) | ((first | apply ow_spec | apply qw_spec); · simp only [push_cast, env, Nat.reduceEqDiff, reduceIte, Nat.reduceAdd, Nat.reduceMul, Nat.reduceLeDiff, reduceCtorEq, Nat.reduceSub, Int.reduceToNat] <;> exact rfl) | refine qw_nil ?_ | refine cw_block ?_ | refine cw_scope ?_ | refine cw_label ?_ | refine cw_skip ?_)
  refine cw_cond (by simp only [push_cast, env, Nat.reduceEqDiff, reduceIte, Nat.reduceAdd, Nat.reduceMul, Nat.reduceLeDiff, reduceCtorEq, Nat.reduceSub, Int.reduceToNat] <;> exact rfl) (fun c1 => ?_) (fun c1 => ?_)
  · repeat (first | refine cw_seq ?_ | refine cw_region ?_ | refine ow_nil ?_ | ((first | apply ow_cons | apply qw_cons); · simp only [push_cast, env, Nat.reduceEqDiff, reduceIte, Nat.reduceAdd, Nat.reduceMul, Nat.reduceLeDiff, reduceCtorEq, Nat.reduceSub, Int.reduceToNat] <;> exact rfl) | ((first | apply ow_spec | apply qw_spec); · simp only [push_cast, env, Nat.reduceEqDiff, reduceIte, Nat.reduceAdd, Nat.reduceMul, Nat.reduceLeDiff, reduceCtorEq, Nat.reduceSub, Int.reduceToNat] <;> exact rfl) | refine qw_nil ?_ | refine cw_block ?_ | refine cw_scope ?_ | refine cw_label ?_ | refine cw_skip ?_)
    refine ow_call (fn := Try.f12) (by simp only [push_cast, env, Nat.reduceEqDiff, reduceIte, Nat.reduceAdd, Nat.reduceMul, Nat.reduceLeDiff, reduceCtorEq, Nat.reduceSub, Int.reduceToNat] <;> exact rfl) rfl (by simp only [push_cast, env, Nat.reduceEqDiff, reduceIte, Nat.reduceAdd, Nat.reduceMul, Nat.reduceLeDiff, reduceCtorEq, Nat.reduceSub, Int.reduceToNat] <;> exact rfl) (by simp only [push_cast, env, Nat.reduceEqDiff, reduceIte, Nat.reduceAdd, Nat.reduceMul, Nat.reduceLeDiff, reduceCtorEq, Nat.reduceSub, Int.reduceToNat] <;> exact rfl) Try.func12 (by kernel_rfl) (by kernel_rfl) ?_
    refine alive_fw.mono ?_
    rintro _ h ⟨rfl, rfl⟩
    repeat (first | refine cw_seq ?_ | refine cw_region ?_ | refine ow_nil ?_ | ((first | apply ow_cons | apply qw_cons); · simp only [push_cast, env, Nat.reduceEqDiff, reduceIte, Nat.reduceAdd, Nat.reduceMul, Nat.reduceLeDiff, reduceCtorEq, Nat.reduceSub, Int.reduceToNat] <;> exact rfl) | ((first | apply ow_spec | apply qw_spec); · simp only [push_cast, env, Nat.reduceEqDiff, reduceIte, Nat.reduceAdd, Nat.reduceMul, Nat.reduceLeDiff, reduceCtorEq, Nat.reduceSub, Int.reduceToNat] <;> exact rfl) | refine qw_nil ?_ | refine cw_block ?_ | refine cw_scope ?_ | refine cw_label ?_ | refine cw_skip ?_)
    refine cw_ret ?_
    exact ⟨_, (by simp only [push_cast, env, Nat.reduceEqDiff, reduceIte, Nat.reduceAdd, Nat.reduceMul, Nat.reduceLeDiff, reduceCtorEq, Nat.reduceSub, Int.reduceToNat] <;> exact rfl), rfl⟩
  repeat (first | refine cw_seq ?_ | refine cw_region ?_ | refine ow_nil ?_ | ((first | apply ow_cons | apply qw_cons); · simp only [push_cast, env, Nat.reduceEqDiff, reduceIte, Nat.reduceAdd, Nat.reduceMul, Nat.reduceLeDiff, reduceCtorEq, Nat.reduceSub, Int.reduceToNat] <;> exact rfl) | ((first | apply ow_spec | apply qw_spec); · simp only [push_cast, env, Nat.reduceEqDiff, reduceIte, Nat.reduceAdd, Nat.reduceMul, Nat.reduceLeDiff, reduceCtorEq, Nat.reduceSub, Int.reduceToNat] <;> exact rfl) | refine qw_nil ?_ | refine cw_block ?_ | refine cw_scope ?_ | refine cw_label ?_ | refine cw_skip ?_)
  refine ow_call (fn := Try.f24) (by simp only [push_cast, env, Nat.reduceEqDiff, reduceIte, Nat.reduceAdd, Nat.reduceMul, Nat.reduceLeDiff, reduceCtorEq, Nat.reduceSub, Int.reduceToNat] <;> exact rfl) rfl (by simp only [push_cast, env, Nat.reduceEqDiff, reduceIte, Nat.reduceAdd, Nat.reduceMul, Nat.reduceLeDiff, reduceCtorEq, Nat.reduceSub, Int.reduceToNat] <;> exact rfl) (by simp only [push_cast, env, Nat.reduceEqDiff, reduceIte, Nat.reduceAdd, Nat.reduceMul, Nat.reduceLeDiff, reduceCtorEq, Nat.reduceSub, Int.reduceToNat] <;> exact rfl) Try.func24 (by kernel_rfl) (by kernel_rfl) ?_
  rw [List.append_nil]
  refine (shortest_fw hr).mono ?_
  rintro r1 h1 ⟨t1, p1⟩
  obtain ⟨x1, e1, _⟩ := id t1
  rw [e1]
  repeat (first | refine cw_seq ?_ | refine cw_region ?_ | refine ow_nil ?_ | ((first | apply ow_cons | apply qw_cons); · simp only [push_cast, env, Nat.reduceEqDiff, reduceIte, Nat.reduceAdd, Nat.reduceMul, Nat.reduceLeDiff, reduceCtorEq, Nat.reduceSub, Int.reduceToNat] <;> exact rfl) | ((first | apply ow_spec | apply qw_spec); · simp only [push_cast, env, Nat.reduceEqDiff, reduceIte, Nat.reduceAdd, Nat.reduceMul, Nat.reduceLeDiff, reduceCtorEq, Nat.reduceSub, Int.reduceToNat] <;> exact rfl) | refine qw_nil ?_ | refine cw_block ?_ | refine cw_scope ?_ | refine cw_label ?_ | refine cw_skip ?_)
  refine ow_call (fn := Try.f27) (by simp only [push_cast, env, Nat.reduceEqDiff, reduceIte, Nat.reduceAdd, Nat.reduceMul, Nat.reduceLeDiff, reduceCtorEq, Nat.reduceSub, Int.reduceToNat] <;> exact rfl) rfl (by simp only [push_cast, env, Nat.reduceEqDiff, reduceIte, Nat.reduceAdd, Nat.reduceMul, Nat.reduceLeDiff, reduceCtorEq, Nat.reduceSub, Int.reduceToNat] <;> exact rfl) (by simp only [push_cast, env, Nat.reduceEqDiff, reduceIte, Nat.reduceAdd, Nat.reduceMul, Nat.reduceLeDiff, reduceCtorEq, Nat.reduceSub, Int.reduceToNat] <;> exact rfl) Try.func27 (by kernel_rfl) (by kernel_rfl) ?_
  rw [List.append_nil]
  refine (rshortest_fw (hr.mono p1)).mono ?_
  rintro r2 h2 ⟨t2, p2⟩
  obtain ⟨x2, e2, _⟩ := id t2
  rw [e2]
  have q2 := p1.trans p2
  repeat (first | refine cw_seq ?_ | refine cw_region ?_ | refine ow_nil ?_ | ((first | apply ow_cons | apply qw_cons); · simp only [push_cast, env, Nat.reduceEqDiff, reduceIte, Nat.reduceAdd, Nat.reduceMul, Nat.reduceLeDiff, reduceCtorEq, Nat.reduceSub, Int.reduceToNat] <;> exact rfl) | ((first | apply ow_spec | apply qw_spec); · simp only [push_cast, env, Nat.reduceEqDiff, reduceIte, Nat.reduceAdd, Nat.reduceMul, Nat.reduceLeDiff, reduceCtorEq, Nat.reduceSub, Int.reduceToNat] <;> exact rfl) | refine qw_nil ?_ | refine cw_block ?_ | refine cw_scope ?_ | refine cw_label ?_ | refine cw_skip ?_)
  refine ow_call (fn := Try.f28) (by simp only [push_cast, env, Nat.reduceEqDiff, reduceIte, Nat.reduceAdd, Nat.reduceMul, Nat.reduceLeDiff, reduceCtorEq, Nat.reduceSub, Int.reduceToNat] <;> exact rfl) rfl (by simp only [push_cast, env, Nat.reduceEqDiff, reduceIte, Nat.reduceAdd, Nat.reduceMul, Nat.reduceLeDiff, reduceCtorEq, Nat.reduceSub, Int.reduceToNat] <;> exact rfl) (by simp only [push_cast, env, Nat.reduceEqDiff, reduceIte, Nat.reduceAdd, Nat.reduceMul, Nat.reduceLeDiff, reduceCtorEq, Nat.reduceSub, Int.reduceToNat] <;> exact rfl) Try.func28 (by kernel_rfl) (by kernel_rfl) ?_
  rw [List.append_nil]
  refine (trim_fw (hr.mono q2)).mono ?_
  rintro r3 h3 ⟨t3, p3⟩
  obtain ⟨x3, e3, _⟩ := id t3
  rw [e3]
  have q3 := q2.trans p3
  repeat (first | refine cw_seq ?_ | refine cw_region ?_ | refine ow_nil ?_ | ((first | apply ow_cons | apply qw_cons); · simp only [push_cast, env, Nat.reduceEqDiff, reduceIte, Nat.reduceAdd, Nat.reduceMul, Nat.reduceLeDiff, reduceCtorEq, Nat.reduceSub, Int.reduceToNat] <;> exact rfl) | ((first | apply ow_spec | apply qw_spec); · simp only [push_cast, env, Nat.reduceEqDiff, reduceIte, Nat.reduceAdd, Nat.reduceMul, Nat.reduceLeDiff, reduceCtorEq, Nat.reduceSub, Int.reduceToNat] <;> exact rfl) | refine qw_nil ?_ | refine cw_block ?_ | refine cw_scope ?_ | refine cw_label ?_ | refine cw_skip ?_)
  refine ow_call (fn := Try.f29) (by simp only [push_cast, env, Nat.reduceEqDiff, reduceIte, Nat.reduceAdd, Nat.reduceMul, Nat.reduceLeDiff, reduceCtorEq, Nat.reduceSub, Int.reduceToNat] <;> exact rfl) rfl (by simp only [push_cast, env, Nat.reduceEqDiff, reduceIte, Nat.reduceAdd, Nat.reduceMul, Nat.reduceLeDiff, reduceCtorEq, Nat.reduceSub, Int.reduceToNat] <;> exact rfl) (by simp only [push_cast, env, Nat.reduceEqDiff, reduceIte, Nat.reduceAdd, Nat.reduceMul, Nat.reduceLeDiff, reduceCtorEq, Nat.reduceSub, Int.reduceToNat] <;> exact rfl) Try.func29 (by kernel_rfl) (by kernel_rfl) ?_
  rw [List.append_nil]
  refine (rtrim_fw (hr.mono q3)).mono ?_
  rintro r4 h4 ⟨t4, p4⟩
  obtain ⟨x4, e4, _⟩ := id t4
  rw [e4]
  have q4 := q3.trans p4
  repeat (first | refine cw_seq ?_ | refine cw_region ?_ | refine ow_nil ?_ | ((first | apply ow_cons | apply qw_cons); · simp only [push_cast, env, Nat.reduceEqDiff, reduceIte, Nat.reduceAdd, Nat.reduceMul, Nat.reduceLeDiff, reduceCtorEq, Nat.reduceSub, Int.reduceToNat] <;> exact rfl) | ((first | apply ow_spec | apply qw_spec); · simp only [push_cast, env, Nat.reduceEqDiff, reduceIte, Nat.reduceAdd, Nat.reduceMul, Nat.reduceLeDiff, reduceCtorEq, Nat.reduceSub, Int.reduceToNat] <;> exact rfl) | refine qw_nil ?_ | refine cw_block ?_ | refine cw_scope ?_ | refine cw_label ?_ | refine cw_skip ?_)
  refine ow_call (fn := Try.f25) (by simp only [push_cast, env, Nat.reduceEqDiff, reduceIte, Nat.reduceAdd, Nat.reduceMul, Nat.reduceLeDiff, reduceCtorEq, Nat.reduceSub, Int.reduceToNat] <;> exact rfl) rfl (by simp only [push_cast, env, Nat.reduceEqDiff, reduceIte, Nat.reduceAdd, Nat.reduceMul, Nat.reduceLeDiff, reduceCtorEq, Nat.reduceSub, Int.reduceToNat] <;> exact rfl) (by simp only [push_cast, env, Nat.reduceEqDiff, reduceIte, Nat.reduceAdd, Nat.reduceMul, Nat.reduceLeDiff, reduceCtorEq, Nat.reduceSub, Int.reduceToNat] <;> exact rfl) Try.func25 (by kernel_rfl) (by kernel_rfl) ?_
  rw [List.append_nil]
  refine (cyclic_fw (hr.mono q4)).mono ?_
  rintro r5 h5 ⟨t5, p5⟩
  obtain ⟨b5, e5, i5⟩ := told_cyc t5
  rw [e5]
  have q5 := q4.trans p5
  repeat (first | refine cw_seq ?_ | refine cw_region ?_ | refine ow_nil ?_ | ((first | apply ow_cons | apply qw_cons); · simp only [push_cast, env, Nat.reduceEqDiff, reduceIte, Nat.reduceAdd, Nat.reduceMul, Nat.reduceLeDiff, reduceCtorEq, Nat.reduceSub, Int.reduceToNat] <;> exact rfl) | ((first | apply ow_spec | apply qw_spec); · simp only [push_cast, env, Nat.reduceEqDiff, reduceIte, Nat.reduceAdd, Nat.reduceMul, Nat.reduceLeDiff, reduceCtorEq, Nat.reduceSub, Int.reduceToNat] <;> exact rfl) | refine qw_nil ?_ | refine cw_block ?_ | refine cw_scope ?_ | refine cw_label ?_ | refine cw_skip ?_)
  refine ow_call (fn := Try.f30) (by simp only [push_cast, env, Nat.reduceEqDiff, reduceIte, Nat.reduceAdd, Nat.reduceMul, Nat.reduceLeDiff, reduceCtorEq, Nat.reduceSub, Int.reduceToNat] <;> exact rfl) rfl (by simp only [push_cast, env, Nat.reduceEqDiff, reduceIte, Nat.reduceAdd, Nat.reduceMul, Nat.reduceLeDiff, reduceCtorEq, Nat.reduceSub, Int.reduceToNat] <;> exact rfl) (by simp only [push_cast, env, Nat.reduceEqDiff, reduceIte, Nat.reduceAdd, Nat.reduceMul, Nat.reduceLeDiff, reduceCtorEq, Nat.reduceSub, Int.reduceToNat] <;> exact rfl) Try.func30 (by kernel_rfl) (by kernel_rfl) ?_
  rw [List.append_nil]
  refine (rcyclic_fw (hr.mono q5)).mono ?_
  rintro r6 h6 ⟨t6, p6⟩
  obtain ⟨b6, e6, i6⟩ := told_cyc t6
  rw [e6]
  have hbb : b5 = b6 := by rw [Bool.eq_iff_iff, i5, i6]
  subst hbb
  obtain ⟨y1, y2, a, f1, f2, ra, rb⟩ := told_ints t1 t2 (p2.trans (p3.trans (p4.trans (p5.trans p6)))) (p3.trans (p4.trans (p5.trans p6))) fun x y hb => shorts_pair hb
  obtain ⟨y3, y4, b, f3, f4, rc, rd⟩ := told_ints t3 t4 (p4.trans (p5.trans p6)) (p5.trans p6) fun x y hb => trims_pair hb
  obtain rfl : x1 = y1 := by have := e1.symm.trans f1; simpa using this
  obtain rfl : x2 = y2 := by have := e2.symm.trans f2; simpa using this
  obtain rfl : x3 = y3 := by have := e3.symm.trans f3; simpa using this
  obtain rfl : x4 = y4 := by have := e4.symm.trans f4; simpa using this
  clear t1 t2 t3 t4 t5 t6 e1 e2 e3 e4 e5 e6 f1 f2 f3 f4
  repeat (first | refine cw_seq ?_ | refine cw_region ?_ | refine ow_nil ?_ | ((first | apply ow_cons | apply qw_cons); · simp only [push_cast, env, Nat.reduceEqDiff, reduceIte, Nat.reduceAdd, Nat.reduceMul, Nat.reduceLeDiff, reduceCtorEq, Nat.reduceSub, Int.reduceToNat] <;> exact rfl) | ((first | apply ow_spec | apply qw_spec); · simp only [push_cast, env, Nat.reduceEqDiff, reduceIte, Nat.reduceAdd, Nat.reduceMul, Nat.reduceLeDiff, reduceCtorEq, Nat.reduceSub, Int.reduceToNat] <;> exact rfl) | refine qw_nil ?_ | refine cw_block ?_ | refine cw_scope ?_ | refine cw_label ?_ | refine cw_skip ?_)
  refine ow_call (fn := Try.f12) (by simp only [push_cast, env, Nat.reduceEqDiff, reduceIte, Nat.reduceAdd, Nat.reduceMul, Nat.reduceLeDiff, reduceCtorEq, Nat.reduceSub, Int.reduceToNat] <;> exact rfl) rfl (by simp only [push_cast, env, Nat.reduceEqDiff, reduceIte, Nat.reduceAdd, Nat.reduceMul, Nat.reduceLeDiff, reduceCtorEq, Nat.reduceSub, Int.reduceToNat] <;> exact rfl) (by simp only [push_cast, env, Nat.reduceEqDiff, reduceIte, Nat.reduceAdd, Nat.reduceMul, Nat.reduceLeDiff, reduceCtorEq, Nat.reduceSub, Int.reduceToNat] <;> exact rfl) Try.func12 (by kernel_rfl) (by kernel_rfl) ?_
  refine alive_fw.mono ?_
  rintro _ h6 ⟨rfl, rfl⟩
  repeat (first | refine cw_seq ?_ | refine cw_region ?_ | refine ow_nil ?_ | ((first | apply ow_cons | apply qw_cons); · simp only [push_cast, env, Nat.reduceEqDiff, reduceIte, Nat.reduceAdd, Nat.reduceMul, Nat.reduceLeDiff, reduceCtorEq, Nat.reduceSub, Int.reduceToNat] <;> exact rfl) | ((first | apply ow_spec | apply qw_spec); · simp only [push_cast, env, Nat.reduceEqDiff, reduceIte, Nat.reduceAdd, Nat.reduceMul, Nat.reduceLeDiff, reduceCtorEq, Nat.reduceSub, Int.reduceToNat] <;> exact rfl) | refine qw_nil ?_ | refine cw_block ?_ | refine cw_scope ?_ | refine cw_label ?_ | refine cw_skip ?_)
  refine ow_call (fn := Try.f26) (by simp only [push_cast, env, Nat.reduceEqDiff, reduceIte, Nat.reduceAdd, Nat.reduceMul, Nat.reduceLeDiff, reduceCtorEq, Nat.reduceSub, Int.reduceToNat] <;> exact rfl) rfl (by simp only [push_cast, env, Nat.reduceEqDiff, reduceIte, Nat.reduceAdd, Nat.reduceMul, Nat.reduceLeDiff, reduceCtorEq, Nat.reduceSub, Int.reduceToNat] <;> exact rfl) (by simp only [push_cast, env, Nat.reduceEqDiff, reduceIte, Nat.reduceAdd, Nat.reduceMul, Nat.reduceLeDiff, reduceCtorEq, Nat.reduceSub, Int.reduceToNat] <;> exact rfl) Try.func26 (by kernel_rfl) (by kernel_rfl) ?_
  rw [List.append_nil]
  refine (sameints_fw ra rb).mono ?_
  rintro _ h6 ⟨rfl, rfl⟩
  rw [decide_eq_true rfl]
  repeat (first | refine cw_seq ?_ | refine cw_region ?_ | refine ow_nil ?_ | ((first | apply ow_cons | apply qw_cons); · simp only [push_cast, env, Nat.reduceEqDiff, reduceIte, Nat.reduceAdd, Nat.reduceMul, Nat.reduceLeDiff, reduceCtorEq, Nat.reduceSub, Int.reduceToNat] <;> exact rfl) | ((first | apply ow_spec | apply qw_spec); · simp only [push_cast, env, Nat.reduceEqDiff, reduceIte, Nat.reduceAdd, Nat.reduceMul, Nat.reduceLeDiff, reduceCtorEq, Nat.reduceSub, Int.reduceToNat] <;> exact rfl) | refine qw_nil ?_ | refine cw_block ?_ | refine cw_scope ?_ | refine cw_label ?_ | refine cw_skip ?_)
  refine ow_call (fn := Try.f26) (by simp only [push_cast, env, Nat.reduceEqDiff, reduceIte, Nat.reduceAdd, Nat.reduceMul, Nat.reduceLeDiff, reduceCtorEq, Nat.reduceSub, Int.reduceToNat] <;> exact rfl) rfl (by simp only [push_cast, env, Nat.reduceEqDiff, reduceIte, Nat.reduceAdd, Nat.reduceMul, Nat.reduceLeDiff, reduceCtorEq, Nat.reduceSub, Int.reduceToNat] <;> exact rfl) (by simp only [push_cast, env, Nat.reduceEqDiff, reduceIte, Nat.reduceAdd, Nat.reduceMul, Nat.reduceLeDiff, reduceCtorEq, Nat.reduceSub, Int.reduceToNat] <;> exact rfl) Try.func26 (by kernel_rfl) (by kernel_rfl) ?_
  rw [List.append_nil]
  refine (sameints_fw rc rd).mono ?_
  rintro _ h6 ⟨rfl, rfl⟩
  rw [decide_eq_true rfl]
  repeat (first | refine cw_seq ?_ | refine cw_region ?_ | refine ow_nil ?_ | ((first | apply ow_cons | apply qw_cons); · simp only [push_cast, env, Nat.reduceEqDiff, reduceIte, Nat.reduceAdd, Nat.reduceMul, Nat.reduceLeDiff, reduceCtorEq, Nat.reduceSub, Int.reduceToNat] <;> exact rfl) | ((first | apply ow_spec | apply qw_spec); · simp only [push_cast, env, Nat.reduceEqDiff, reduceIte, Nat.reduceAdd, Nat.reduceMul, Nat.reduceLeDiff, reduceCtorEq, Nat.reduceSub, Int.reduceToNat] <;> exact rfl) | refine qw_nil ?_ | refine cw_block ?_ | refine cw_scope ?_ | refine cw_label ?_ | refine cw_skip ?_)
  refine cw_ret ?_
  exact ⟨_, (by simp only [push_cast, env, Nat.reduceEqDiff, reduceIte, Nat.reduceAdd, Nat.reduceMul, Nat.reduceLeDiff, reduceCtorEq, Nat.reduceSub, Int.reduceToNat] <;> exact rfl), rfl⟩
end Go.Proofs.Ytnlchlnkibpkaaa

/- Appending, in general; lists of rules that are built. -/
namespace Go.Proofs.Ytnlchlnkibpkaaa
set_option linter.unusedSimpArgs false
set_option linter.unusedVariables false
open Go.RowKit Am Ty

theorem One.ow {all : Array Oper} {o : Oper} {rest : List Oper} {s : St} {r : Res} {h' : Heap} {K : St → Prop} (k : One env all o s r h') (h : OW env all rest (updR s o.dst r h') K) : OW env all (o :: rest) s K := by
  unfold OW at h ⊢
  obtain ⟨s2, h1, h2⟩ := h
  refine ⟨s2, ?_, h2⟩
  cases k with
  | skip hw => exact .opSkip hw (by rw [← putO_upd] at h1; exact h1)
  | val hw hv => exact .opVal hw hv (by rw [← putO_upd] at h1; exact h1)
  | eph hw hd he hne => exact .opEph hw hd he hne (by rw [hd] at h1; exact h1)
  | bsl hw hd hb => exact .opBsl hw hd hb (by rw [hd] at h1; exact h1)
  | boxH hw hb => exact .opBoxH hw hb (by rw [← putO_upd] at h1; exact h1)
  | bslH hw hb => exact .opBslH hw hb (by rw [← putO_upd] at h1; exact h1)
  | mk hw hb => exact .opMk hw hb (by rw [← putO_upd] at h1; exact h1)
  | stoH hw ho ht ha hid hx hv hq hd => exact .opStoH hw ho ht ha hid hx hv hq hd (by rw [hd] at h1; exact h1)
  | app0 hw ho hu h2 ht h3 h4 hx hi h5 h6 h7 => exact .opApp0 hw ho hu h2 ht h3 h4 hx hi h5 h6 h7 (by rw [← putO_upd] at h1; exact h1)
  | app hw ho hu h2 ht h3 h4 hx hid h8 hi h5 h6 => exact .opApp hw ho hu h2 ht h3 h4 hx hid h8 hi h5 h6 (by rw [← putO_upd] at h1; exact h1)
  | call hw ho hc ha hf hn hb he => exact .opCall hw ho hc ha hf hn hb he (by rw [← putO_upd] at h1; exact h1)
theorem push_any' {t e : TypeId} {ti : TI} {v : Value} {n : Nat} {cells cs : List Value} {h hk : Heap} (hu : env.P.underlying t = some (.slice e)) (ht : tinfo env.P e = some ti) (hs0 : 0 < ti.size) (hz : (ti.zero.map fun z => z.cells.size) = some ti.size)
    (G : Grow h hk v n cells e) (hp : h <+: hk) (hl : cells.length = n * ti.size) (hc : cs.length = ti.size) (hb : (n + 1) * ti.bytes ≤ 140737488355328) (hn : n + 1 ≤ 140737488355328) : ∃ p c h',
    (∀ (all : Array Oper) (o : Oper) (s : St) (x : Operand) (y : Nat), s.h = hk → wantedA all o s = some true → o.op = .call { callee := .builtin .append, args := #[x, .tmp y], argTypes := #[t, t] } → ev s x = some v → fget s.fr y = .bsl cs 1 →
      One env all o s (.sl (.val (.slice p (n + 1) c))) h') ∧
    Grow h h' (.slice p (n + 1) c) (n + 1) (cells ++ cs) e ∧ h <+: h' ∧ (∀ j o, isAt v j = false → hk[j]? = some o → h'[j]? = some o) ∧ (∀ x, isAt (.slice p (n + 1) c) x = true → isAt v x = true ∨ x = hk.length) ∧ hk.length ≤ h'.length := by
  have hi : ∀ (s : St) (y : Nat), fget s.fr y = .bsl cs 1 → itemsC s s.h ti.size (.tmp y) = some (cs, 1) := fun s y hy => by simp only [itemsC, hy, hc, Nat.one_mul, if_true]
  rcases G with ⟨rfl, rfl, rfl⟩ | ⟨id, ver, h1, rfl, h3⟩
  · refine ⟨some ⟨hk.length, 0, some 0⟩, 1, hk ++ [HObj.arr cs 0 true e], fun all o s x y e hw ho hx hy => ?_, .inr ⟨hk.length, 0, hp.length_le, rfl, get_push⟩, pre_push hp, fun j o _ h => get_of_push h, fun x hx => ?_, by simp⟩
    · subst e
      exact .app0 hw ho hu rfl ht hs0 hz hx (hi s y hy) (by decide) (by simpa using hb) (by decide)
    · simp only [isAt, beq_iff_eq] at hx
      exact .inr hx.symm
  · refine ⟨some ⟨id, 0, some (ver + 1)⟩, n + 1, hk.set id (HObj.arr (cells ++ cs) (ver + 1) true e), fun all o s x y e hw ho hx hy => ?_, .inr ⟨id, ver + 1, h1, rfl, get_set_self h3⟩, pre_set hp h1, fun j o hj h => ?_, fun x hx => ?_, by simp⟩
    · subst e
      have := One.app (N := env) hw ho hu rfl ht hs0 hz hx h3 (by omega) (hi s y hy) hb hn
      rwa [List.take_of_length_le (by omega)] at this
    · simp only [isAt, beq_eq_false_iff_ne] at hj
      rw [get_set_ne hj]
      exact h
    · simp only [isAt] at hx ⊢
      exact .inl hx
/-- where a slice of room lies -/
def isAtS : Value → Nat → Bool
  | .slice (some ⟨b, _, some _⟩) _ _, j => b == j
  | _, _ => false
theorem SlR.keep {h h' : Heap} {v : Value} {n b : Nat} {cells : List Value} {et : TypeId} (hs : SlR h v n cells et b) (hp : ∀ j o, isAtS v j = true → h[j]? = some o → h'[j]? = some o) : SlR h' v n cells et b := by
  refine ⟨hs.1, ?_⟩
  rcases hs.2 with h1 | ⟨id, ver, own, c, rfl, h2⟩
  · exact .inl h1
  · exact .inr ⟨id, ver, own, c, rfl, hp _ _ (by simp [isAtS]) h2⟩
theorem SlR.lt {h : Heap} {v : Value} {n b : Nat} {cells : List Value} {et : TypeId} (hs : SlR h v n cells et b) {j : Nat} (hj : isAt v j = true) : j < h.length ∨ n = 0 := by
  rcases hs.2 with ⟨_, h1, _⟩ | ⟨id, ver, own, c, rfl, h2⟩
  · exact .inr h1
  · simp only [isAt, beq_iff_eq] at hj
    subst hj
    exact .inl (lt_of_get h2)
/-- of an empty list nothing is asked -/
theorem SlR.keep' {h h' : Heap} {v : Value} {n b : Nat} {cells : List Value} {et : TypeId} (hs : SlR h v n cells et b) (hp : ∀ j o, j < h.length → isAtS v j = true → h[j]? = some o → h'[j]? = some o) : SlR h' v n cells et b := by
  refine ⟨hs.1, ?_⟩
  rcases hs.2 with h1 | ⟨id, ver, own, c, rfl, h2⟩
  · exact .inl h1
  · exact .inr ⟨id, ver, own, c, rfl, hp _ _ (lt_of_get h2) (by simp [isAtS]) h2⟩
/-- a list of rules that is built: of the call's own; its rules' symbols lie elsewhere -/
structure BR (h hk : Heap) (u : Value) (l : List Rule) (us : List Value) : Prop where
  p : h <+: hk
  n : us.length = l.length
  g : Grow h hk u l.length ((l.zip us).flatMap rowf) 48
  r : ∀ (i : Nat) (r : Rule) (x : Value), l[i]? = some r → us[i]? = some x → RdSyms hk x r.rhs ∧ ∀ j, j < hk.length → isAt u j = true → isAtS x j = false
theorem BR.nil {h hk : Heap} (hp : h <+: hk) : BR h hk nilS [] [] := ⟨hp, rfl, Grow.nil, fun i r x h => by simp at h⟩
theorem BR.form {h hk : Heap} {u : Value} {l : List Rule} {us : List Value} (b : BR h hk u l us) : ∃ p c, u = .slice p l.length c := b.g.form
theorem BR.rd {h hk : Heap} {u : Value} {l : List Rule} {us : List Value} (b : BR h hk u l us) (hl : l.length * 32 ≤ 140737488355328) : RdRules hk u l :=
  ⟨us, b.n, b.g.sl hl, fun i r x h1 h2 => (b.r i r x h1 h2).1⟩
theorem BR.keep {h hk h' : Heap} {u : Value} {l : List Rule} {us : List Value} (b : BR h hk u l us) (hp : hk <+: h') : BR h h' u l us := by
  refine ⟨b.p.trans hp, b.n, b.g.mono fun j o _ ho => getElem?_prefix hp ho, fun i r x h1 h2 => ⟨(b.r i r x h1 h2).1.mono hp, fun j _ hj => ?_⟩⟩
  have hj2 := (b.g.lt hj).2
  exact (b.r i r x h1 h2).2 j hj2 hj
theorem BR.set {h hk : Heap} {u : Value} {l : List Rule} {us : List Value} {i : Nat} {X : HObj} (b : BR h hk u l us) (hi : h.length ≤ i) (hu : isAt u i = false) (hx : ∀ x ∈ us, isAtS x i = false) : BR h (hk.set i X) u l us := by
  refine ⟨pre_set b.p hi, b.n, b.g.mono fun j o hj ho => ?_, fun k r x h1 h2 => ⟨SlR.keep (b.r k r x h1 h2).1 fun j o hj ho => ?_, fun j hj => ?_⟩⟩
  · rw [get_set_ne (by rintro rfl; rw [hu] at hj; cases hj)]
    exact ho
  · rw [get_set_ne (by rintro rfl; rw [hx x (List.mem_of_getElem? h2)] at hj; cases hj)]
    exact ho
  · rw [List.length_set] at hj
    exact (b.r k r x h1 h2).2 j hj
/-- one rule more -/
theorem BR.push' {h hk : Heap} {u : Value} {l : List Rule} {us : List Value} {r : Rule} {v : Value} (b : BR h hk u l us) (hv : RdSyms hk v r.rhs) (hv2 : ∀ j, j < hk.length → isAt u j = true → isAtS v j = false) (hv3 : isAtS v hk.length = false) (hx3 : ∀ x ∈ us, isAtS x hk.length = false) (hl : (l.length + 1) * 32 ≤ 140737488355328) : ∃ p c h',
    (∀ (all : Array Oper) (o : Oper) (s : St) (x : Operand) (y : Nat), s.h = hk → wantedA all o s = some true → o.op = .call { callee := .builtin .append, args := #[x, .tmp y], argTypes := #[22, 22] } → ev s x = some u → fget s.fr y = .bsl [i64 r.lhs, v] 1 →
      One env all o s (.sl (.val (.slice p (l.length + 1) c))) h') ∧
    BR h h' (.slice p (l.length + 1) c) (l ++ [r]) (us ++ [v]) ∧ (∀ j o, isAt u j = false → hk[j]? = some o → h'[j]? = some o) ∧ (∀ x, isAt (.slice p (l.length + 1) c) x = true → isAt u x = true ∨ x = hk.length) ∧ hk.length ≤ h'.length := by
  obtain ⟨p, c, h', h1, h2, h3, h4, h5, h6⟩ := push_any' (cs := [i64 r.lhs, v]) (t := 22) (by kernel_rfl) ti48 (by decide) rfl b.g b.p (rows_len b.n) rfl (by simp only; omega) (by omega)
  refine ⟨p, c, h', h1, ⟨h3, by simp [b.n], ?_, fun i q x k1 k2 => ?_⟩, h4, h5, h6⟩
  · rw [zip_snoc b.n, List.flatMap_append, List.length_append]
    exact h2
  · have key : ∀ (x : Value) (q : Rule), RdSyms hk x q.rhs → (∀ j, j < hk.length → isAt u j = true → isAtS x j = false) → isAtS x hk.length = false → RdSyms h' x q.rhs ∧ ∀ j, j < h'.length → isAt (.slice p (l.length + 1) c) j = true → isAtS x j = false := fun x q e1 e2 e3 => by
      refine ⟨SlR.keep' e1 fun j o hj hx ho => h4 j o ?_ ho, fun j hj hx => ?_⟩
      · cases hb : isAt u j with
        | false => rfl
        | true => rw [e2 j hj hb] at hx; cases hx
      · rcases h5 j hx with hh | rfl
        · exact e2 j (b.g.lt hh).2 hh
        · exact e3
    rcases get_snoc k1 with k1' | ⟨i1, rfl⟩
    · rcases get_snoc k2 with k2' | ⟨i2, _⟩
      · exact key x q (b.r i q x k1' k2').1 (b.r i q x k1' k2').2 (hx3 x (List.mem_of_getElem? k2'))
      · have := (List.getElem?_eq_some_iff.1 k1').1
        have := b.n
        omega
    · rcases get_snoc k2 with k2' | ⟨_, rfl⟩
      · have := (List.getElem?_eq_some_iff.1 k2').1
        have := b.n
        omega
      · exact key x q hv hv2 hv3
theorem BR.push {h hk : Heap} {u : Value} {l : List Rule} {us : List Value} {r : Rule} {v : Value} (b : BR h hk u l us) (hv : RdSyms hk v r.rhs) (hv2 : ∀ j, j < hk.length → isAt u j = true → isAtS v j = false) (hv3 : isAtS v hk.length = false) (hx3 : ∀ x ∈ us, isAtS x hk.length = false) (hl : (l.length + 1) * 32 ≤ 140737488355328) : ∃ p c h',
    (∀ (all : Array Oper) (o : Oper) (s : St) (x : Operand) (y : Nat), s.h = hk → wantedA all o s = some true → o.op = .call { callee := .builtin .append, args := #[x, .tmp y], argTypes := #[22, 22] } → ev s x = some u → fget s.fr y = .bsl [i64 r.lhs, v] 1 →
      One env all o s (.sl (.val (.slice p (l.length + 1) c))) h') ∧
    BR h h' (.slice p (l.length + 1) c) (l ++ [r]) (us ++ [v]) ∧ (∀ j o, isAt u j = false → hk[j]? = some o → h'[j]? = some o) ∧ ∀ x, isAt (.slice p (l.length + 1) c) x = true → isAt u x = true ∨ x = hk.length := by
  obtain ⟨p, c, h', h1, h2, h3, h4, _⟩ := b.push' hv hv2 hv3 hx3 hl
  exact ⟨p, c, h', h1, h2, h3, h4⟩
theorem owv {all : Array Oper} {o : Oper} {rest : List Oper} {s : St} {v : Value} {h' : Heap} {K : St → Prop} (k : One env all o s (.sl (.val v)) h') (h : OW env all rest ({ s with h := h' }.putO o.dst (.val v)) K) : OW env all (o :: rest) s K := Go.Proofs.Ytnlchlnkibpkaaa.One.ow k (by rw [← putO_upd]; exact h)
end Go.Proofs.Ytnlchlnkibpkaaa

/- FactsTurned, as the abstract machine runs it. -/
namespace Go.Proofs.Ytnlchlnkibpkaaa
set_option linter.unusedSimpArgs false
set_option linter.unusedVariables false
open Go.RowKit Am Ty
theorem slr_block {h : Heap} {v : Value} {n b : Nat} {cells : List Value} {et : TypeId} (hs : SlR h v n cells et b) {j : Nat} (hj : h.length ≤ j) : isAtS v j = false := by
  rcases hs.2 with ⟨h1, _, _⟩ | ⟨id, ver, own, c, rfl, h2⟩
  · rcases h1 with rfl | rfl <;> rfl
  · have := lt_of_get h2
    simp only [isAtS, beq_eq_false_iff_ne]
    omega
set_option maxHeartbeats 8000000 in
theorem factsturned_fw {h : Heap} {g : Gram} {v : Value} {by_ : Int} (hr : RdGram h v g) (hn : -9223372036854775808 ≤ g.nts) (hW : WfG g) : FW env 6 [v, i64 by_] h fun r _ => r = .bool true := by
  obtain ⟨u, rfl, hu⟩ := id hr
  obtain ⟨p, c, rfl⟩ := hu.form
  have hle := hu.le
  refine fw_enter (fn := Try.f6) Try.func6 rfl (by kernel_rfl) (by simp [Try.ntmps6]) ?_; simp only [push_cast]
  repeat (first | refine cw_seq ?_ | refine cw_region ?_ | refine ow_nil ?_ | ((first | apply ow_cons | apply qw_cons); · simp only [push_cast, env, Nat.reduceEqDiff, reduceIte, Nat.reduceAdd, Nat.reduceMul, Nat.reduceLeDiff, reduceCtorEq, Nat.reduceSub, Int.reduceToNat] <;> exact rfl) | ((first | apply ow_spec | apply qw_spec); · simp only [push_cast, env, Nat.reduceEqDiff, reduceIte, Nat.reduceAdd, Nat.reduceMul, Nat.reduceLeDiff, reduceCtorEq, Nat.reduceSub, Int.reduceToNat] <;> exact rfl) | refine qw_nil ?_ | refine cw_block ?_ | refine cw_scope ?_ | refine cw_label ?_ | refine cw_skip ?_)
  refine ow_call (fn := Try.f11) (by simp only [push_cast, env, Nat.reduceEqDiff, reduceIte, Nat.reduceAdd, Nat.reduceMul, Nat.reduceLeDiff, reduceCtorEq, Nat.reduceSub, Int.reduceToNat] <;> exact rfl) rfl (by simp only [push_cast, env, Nat.reduceEqDiff, reduceIte, Nat.reduceAdd, Nat.reduceMul, Nat.reduceLeDiff, reduceCtorEq, Nat.reduceSub, Int.reduceToNat] <;> exact rfl) (by simp only [push_cast, env, Nat.reduceEqDiff, reduceIte, Nat.reduceAdd, Nat.reduceMul, Nat.reduceLeDiff, reduceCtorEq, Nat.reduceSub, Int.reduceToNat] <;> exact rfl) Try.func11 (by kernel_rfl) (by kernel_rfl) ?_
  rw [List.append_nil]
  refine (heavy_fw hr hn (by decide)).mono ?_
  rintro _ h ⟨rfl, rfl⟩
  by_cases c1 : heavyP g 300
  · have d1 := decide_eq_true c1
    repeat (first | refine cw_seq ?_ | refine cw_region ?_ | refine ow_nil ?_ | ((first | apply ow_cons | apply qw_cons); · simp only [push_cast, env, Nat.reduceEqDiff, reduceIte, Nat.reduceAdd, Nat.reduceMul, Nat.reduceLeDiff, reduceCtorEq, Nat.reduceSub, Int.reduceToNat, d1] <;> exact rfl) | ((first | apply ow_spec | apply qw_spec); · simp only [push_cast, env, Nat.reduceEqDiff, reduceIte, Nat.reduceAdd, Nat.reduceMul, Nat.reduceLeDiff, reduceCtorEq, Nat.reduceSub, Int.reduceToNat, d1] <;> exact rfl) | refine qw_nil ?_ | refine cw_block ?_ | refine cw_scope ?_ | refine cw_label ?_ | refine cw_skip ?_)
    refine cw_condT (by simp only [push_cast, env, Nat.reduceEqDiff, reduceIte, Nat.reduceAdd, Nat.reduceMul, Nat.reduceLeDiff, reduceCtorEq, Nat.reduceSub, Int.reduceToNat] <;> exact rfl) ?_
    repeat (first | refine cw_seq ?_ | refine cw_region ?_ | refine ow_nil ?_ | ((first | apply ow_cons | apply qw_cons); · simp only [push_cast, env, Nat.reduceEqDiff, reduceIte, Nat.reduceAdd, Nat.reduceMul, Nat.reduceLeDiff, reduceCtorEq, Nat.reduceSub, Int.reduceToNat] <;> exact rfl) | ((first | apply ow_spec | apply qw_spec); · simp only [push_cast, env, Nat.reduceEqDiff, reduceIte, Nat.reduceAdd, Nat.reduceMul, Nat.reduceLeDiff, reduceCtorEq, Nat.reduceSub, Int.reduceToNat] <;> exact rfl) | refine qw_nil ?_ | refine cw_block ?_ | refine cw_scope ?_ | refine cw_label ?_ | refine cw_skip ?_)
    refine ow_call (fn := Try.f12) (by simp only [push_cast, env, Nat.reduceEqDiff, reduceIte, Nat.reduceAdd, Nat.reduceMul, Nat.reduceLeDiff, reduceCtorEq, Nat.reduceSub, Int.reduceToNat] <;> exact rfl) rfl (by simp only [push_cast, env, Nat.reduceEqDiff, reduceIte, Nat.reduceAdd, Nat.reduceMul, Nat.reduceLeDiff, reduceCtorEq, Nat.reduceSub, Int.reduceToNat] <;> exact rfl) (by simp only [push_cast, env, Nat.reduceEqDiff, reduceIte, Nat.reduceAdd, Nat.reduceMul, Nat.reduceLeDiff, reduceCtorEq, Nat.reduceSub, Int.reduceToNat] <;> exact rfl) Try.func12 (by kernel_rfl) (by kernel_rfl) ?_
    refine alive_fw.mono ?_
    rintro _ h ⟨rfl, rfl⟩
    repeat (first | refine cw_seq ?_ | refine cw_region ?_ | refine ow_nil ?_ | ((first | apply ow_cons | apply qw_cons); · simp only [push_cast, env, Nat.reduceEqDiff, reduceIte, Nat.reduceAdd, Nat.reduceMul, Nat.reduceLeDiff, reduceCtorEq, Nat.reduceSub, Int.reduceToNat] <;> exact rfl) | ((first | apply ow_spec | apply qw_spec); · simp only [push_cast, env, Nat.reduceEqDiff, reduceIte, Nat.reduceAdd, Nat.reduceMul, Nat.reduceLeDiff, reduceCtorEq, Nat.reduceSub, Int.reduceToNat] <;> exact rfl) | refine qw_nil ?_ | refine cw_block ?_ | refine cw_scope ?_ | refine cw_label ?_ | refine cw_skip ?_)
    refine cw_ret ?_
    exact ⟨_, (by simp only [push_cast, env, Nat.reduceEqDiff, reduceIte, Nat.reduceAdd, Nat.reduceMul, Nat.reduceLeDiff, reduceCtorEq, Nat.reduceSub, Int.reduceToNat] <;> exact rfl), rfl⟩
  have d1 := decide_eq_false c1
  by_cases c2 : g.rules.length = 0
  · have d2 : decide ((g.rules.length : Int) = 0) = true := decide_eq_true (by omega)
    repeat (first | refine cw_seq ?_ | refine cw_region ?_ | refine ow_nil ?_ | ((first | apply ow_cons | apply qw_cons); · simp only [push_cast, env, Nat.reduceEqDiff, reduceIte, Nat.reduceAdd, Nat.reduceMul, Nat.reduceLeDiff, reduceCtorEq, Nat.reduceSub, Int.reduceToNat, d1, d2] <;> exact rfl) | ((first | apply ow_spec | apply qw_spec); · simp only [push_cast, env, Nat.reduceEqDiff, reduceIte, Nat.reduceAdd, Nat.reduceMul, Nat.reduceLeDiff, reduceCtorEq, Nat.reduceSub, Int.reduceToNat, d1, d2] <;> exact rfl) | refine qw_nil ?_ | refine cw_block ?_ | refine cw_scope ?_ | refine cw_label ?_ | refine cw_skip ?_)
    refine cw_condT (by simp only [push_cast, env, Nat.reduceEqDiff, reduceIte, Nat.reduceAdd, Nat.reduceMul, Nat.reduceLeDiff, reduceCtorEq, Nat.reduceSub, Int.reduceToNat] <;> exact rfl) ?_
    repeat (first | refine cw_seq ?_ | refine cw_region ?_ | refine ow_nil ?_ | ((first | apply ow_cons | apply qw_cons); · simp only [push_cast, env, Nat.reduceEqDiff, reduceIte, Nat.reduceAdd, Nat.reduceMul, Nat.reduceLeDiff, reduceCtorEq, Nat.reduceSub, Int.reduceToNat] <;> exact rfl) | ((first | apply ow_spec | apply qw_spec); · simp only [push_cast, env, Nat.reduceEqDiff, reduceIte, Nat.reduceAdd, Nat.reduceMul, Nat.reduceLeDiff, reduceCtorEq, Nat.reduceSub, Int.reduceToNat] <;> exact rfl) | refine qw_nil ?_ | refine cw_block ?_ | refine cw_scope ?_ | refine cw_label ?_ | refine cw_skip ?_)
    refine ow_call (fn := Try.f12) (by simp only [push_cast, env, Nat.reduceEqDiff, reduceIte, Nat.reduceAdd, Nat.reduceMul, Nat.reduceLeDiff, reduceCtorEq, Nat.reduceSub, Int.reduceToNat] <;> exact rfl) rfl (by simp only [push_cast, env, Nat.reduceEqDiff, reduceIte, Nat.reduceAdd, Nat.reduceMul, Nat.reduceLeDiff, reduceCtorEq, Nat.reduceSub, Int.reduceToNat] <;> exact rfl) (by simp only [push_cast, env, Nat.reduceEqDiff, reduceIte, Nat.reduceAdd, Nat.reduceMul, Nat.reduceLeDiff, reduceCtorEq, Nat.reduceSub, Int.reduceToNat] <;> exact rfl) Try.func12 (by kernel_rfl) (by kernel_rfl) ?_
    refine alive_fw.mono ?_
    rintro _ h ⟨rfl, rfl⟩
    repeat (first | refine cw_seq ?_ | refine cw_region ?_ | refine ow_nil ?_ | ((first | apply ow_cons | apply qw_cons); · simp only [push_cast, env, Nat.reduceEqDiff, reduceIte, Nat.reduceAdd, Nat.reduceMul, Nat.reduceLeDiff, reduceCtorEq, Nat.reduceSub, Int.reduceToNat] <;> exact rfl) | ((first | apply ow_spec | apply qw_spec); · simp only [push_cast, env, Nat.reduceEqDiff, reduceIte, Nat.reduceAdd, Nat.reduceMul, Nat.reduceLeDiff, reduceCtorEq, Nat.reduceSub, Int.reduceToNat] <;> exact rfl) | refine qw_nil ?_ | refine cw_block ?_ | refine cw_scope ?_ | refine cw_label ?_ | refine cw_skip ?_)
    refine cw_ret ?_
    exact ⟨_, (by simp only [push_cast, env, Nat.reduceEqDiff, reduceIte, Nat.reduceAdd, Nat.reduceMul, Nat.reduceLeDiff, reduceCtorEq, Nat.reduceSub, Int.reduceToNat] <;> exact rfl), rfl⟩
  have d2 : decide ((g.rules.length : Int) = 0) = false := decide_eq_false (by omega)
  have hlim : g.rules.length ≤ 300 := by
    have : ¬ (300 : Int) < g.rules.length := fun h => c1 (.inr (.inl h))
    omega
  repeat (first | refine cw_seq ?_ | refine cw_region ?_ | refine ow_nil ?_ | ((first | apply ow_cons | apply qw_cons); · simp only [push_cast, env, Nat.reduceEqDiff, reduceIte, Nat.reduceAdd, Nat.reduceMul, Nat.reduceLeDiff, reduceCtorEq, Nat.reduceSub, Int.reduceToNat, d1, d2] <;> exact rfl) | ((first | apply ow_spec | apply qw_spec); · simp only [push_cast, env, Nat.reduceEqDiff, reduceIte, Nat.reduceAdd, Nat.reduceMul, Nat.reduceLeDiff, reduceCtorEq, Nat.reduceSub, Int.reduceToNat, d1, d2] <;> exact rfl) | refine qw_nil ?_ | refine cw_block ?_ | refine cw_scope ?_ | refine cw_label ?_ | refine cw_skip ?_)
  refine cw_condF (by simp only [push_cast, env, Nat.reduceEqDiff, reduceIte, Nat.reduceAdd, Nat.reduceMul, Nat.reduceLeDiff, reduceCtorEq, Nat.reduceSub, Int.reduceToNat] <;> exact rfl) ?_
  repeat (first | refine cw_seq ?_ | refine cw_region ?_ | refine ow_nil ?_ | refine qw_nil ?_ | refine cw_block ?_ | refine cw_scope ?_ | refine cw_label ?_ | refine cw_skip ?_)
  iterate 5 (apply ow_cons; · simp only [push_cast, env, Nat.reduceEqDiff, reduceIte, Nat.reduceAdd, Nat.reduceMul, Nat.reduceLeDiff, reduceCtorEq, Nat.reduceSub, Int.reduceToNat] <;> exact rfl)
  refine ow_boxH (t := 24) (cs := [i64 0, i64 0, nilS]) (by simp only [push_cast, env, Nat.reduceEqDiff, reduceIte, Nat.reduceAdd, Nat.reduceMul, Nat.reduceLeDiff, reduceCtorEq, Nat.reduceSub, Int.reduceToNat] <;> exact rfl) (by simp only [push_cast, env, Nat.reduceEqDiff, reduceIte, Nat.reduceAdd, Nat.reduceMul, Nat.reduceLeDiff, reduceCtorEq, Nat.reduceSub, Int.reduceToNat] <;> exact rfl) ?_
  refine ow_stoH (by simp only [push_cast, env, Nat.reduceEqDiff, reduceIte, Nat.reduceAdd, Nat.reduceMul, Nat.reduceLeDiff, reduceCtorEq, Nat.reduceSub, Int.reduceToNat] <;> exact rfl) rfl rfl (by simp only [push_cast, env, Nat.reduceEqDiff, reduceIte, Nat.reduceAdd, Nat.reduceMul, Nat.reduceLeDiff, reduceCtorEq, Nat.reduceSub, Int.reduceToNat] <;> exact rfl) (by simp only [push_cast, env, Nat.reduceEqDiff, reduceIte, Nat.reduceAdd, Nat.reduceMul, Nat.reduceLeDiff, reduceCtorEq, Nat.reduceSub, Int.reduceToNat] <;> exact rfl) get_push (by simp only [push_cast, env, Nat.reduceEqDiff, reduceIte, Nat.reduceAdd, Nat.reduceMul, Nat.reduceLeDiff, reduceCtorEq, Nat.reduceSub, Int.reduceToNat] <;> exact rfl) rfl rfl ?_
  dsimp only [St.putO, St.put]
  rw [show ∀ (H : Heap) (a b : HObj), (H ++ [a]).set H.length b = H ++ [b] from fun H a b => by simp]
  have hnz : ((g.rules.length : Int) = 0) = False := eq_false (by omega)
  have hq1 := Int.lt_tmod_of_pos by_ (b := (g.rules.length : Int)) (by omega)
  have hq2 := Int.tmod_lt_of_pos by_ (b := (g.rules.length : Int)) (by omega)
  generalize hq : by_.tmod (g.rules.length : Int) = q at hq1 hq2
  have w1 : IntKind.i64.wrap (q + g.rules.length) = q + g.rules.length := wrap64_id (by omega) (by omega)
  obtain ⟨s, hs, hs1⟩ : ∃ s : Nat, (q + g.rules.length).tmod g.rules.length = s ∧ s < g.rules.length := by
    have h1 := Int.tmod_lt_of_pos (q + g.rules.length) (b := (g.rules.length : Int)) (by omega)
    have h2 := Int.tmod_nonneg (g.rules.length : Int) (a := q + g.rules.length) (by omega)
    generalize (q + g.rules.length).tmod (g.rules.length : Int) = z at h1 h2
    exact ⟨z.toNat, by omega, by omega⟩
  repeat (first | refine cw_seq ?_ | refine cw_region ?_ | refine ow_nil ?_ | ((first | apply ow_cons | apply qw_cons); · simp only [push_cast, env, Nat.reduceEqDiff, reduceIte, Nat.reduceAdd, Nat.reduceMul, Nat.reduceLeDiff, reduceCtorEq, Nat.reduceSub, Int.reduceToNat] <;> exact rfl) | ((first | apply ow_spec | apply qw_spec); · simp only [push_cast, env, Nat.reduceEqDiff, reduceIte, Nat.reduceAdd, Nat.reduceMul, Nat.reduceLeDiff, reduceCtorEq, Nat.reduceSub, Int.reduceToNat] <;> exact rfl) | refine qw_nil ?_ | refine cw_block ?_ | refine cw_scope ?_ | refine cw_label ?_ | refine cw_skip ?_)
  have hpos : 0 < h.length := by
    obtain ⟨id, ver, own, c', cells, p', n', c2, hv, hid, _⟩ := hu.at (i := 0) (by omega)
    have := lt_of_get hid
    omega
  have hl3 : (rot g.rules s g.rules.length).length = g.rules.length := rot_len
  refine cw_forG g.rules.length (fun k (x : Heap × Option Addr × Nat × List Value) => [(1, .val (i64 by_)), (2, .box [i64 g.nts, i64 g.start, .slice p g.rules.length c]), (5, .val (.pointer (some ⟨h.length, 0, some 0⟩))), (6, .val (i64 g.rules.length)), (7, .val (i64 k))]) (fun _ x => x.1)
    (fun k x => h <+: x.1 ∧ x.1[h.length]? = some (.arr [i64 g.nts, i64 g.start, .slice x.2.1 k x.2.2.1] 0 true 24) ∧ BR h x.1 (.slice x.2.1 k x.2.2.1) (rot g.rules s k) x.2.2.2 ∧ isAt (.slice x.2.1 k x.2.2.1) h.length = false ∧ ∀ y ∈ x.2.2.2, ∀ j, h.length ≤ j → isAtS y j = false) (_, none, 0, []) (by simp only [push_cast, SubL, fget, Nat.reduceEqDiff, reduceIte]) rfl ⟨prefix_push, get_push, .nil prefix_push, rfl, by simp⟩ ?_
  · rintro k ⟨hk, pu, cu, us⟩ hkn ⟨hp, hx, hB, hat, hus⟩
    simp only at hp hx hB hat hus ⊢
    by_cases hkl : k < g.rules.length
    · obtain ⟨j, hj, hjl⟩ : ∃ j, (k + s) % g.rules.length = j ∧ j < g.rules.length := ⟨_, rfl, Nat.mod_lt _ (by omega)⟩
      obtain ⟨id, ver, own, c', cells, p', n', c2, hv, hid, hn', hrd, hu'⟩ := hu.at hjl
      cases hv
      subst hn'
      have hid2 := getElem?_prefix hp hid
      have f2 := inc hkl (by omega)
      have f3 := lt_dec hkl
      have w2 : IntKind.i64.wrap ((k : Int) + (s : Int)) = (k : Int) + (s : Int) := wrap64_id (by omega) (by omega)
      have w3 : ((k : Int) + (s : Int)).tmod (g.rules.length : Int) = (j : Int) := by
        rw [Int.tmod_eq_emod_of_nonneg (by omega), ← hj]
        simp
      have e1 := rng hjl
      have hrs := rot_succ (l := g.rules) (s := s) (k := k) (by rw [hj]; exact hjl)
      simp only [hj] at hrs
      have hvj : ∀ i, h.length ≤ i → isAtS (.slice p' g.rules[j].rhs.length c2) i = false := fun i hi => slr_block hu' hi
      obtain ⟨p2, c3, h2, hone, hB2, hpr, hx2⟩ := hB.push (r := g.rules[j]) (v := .slice p' g.rules[j].rhs.length c2) (SlR.mono hu' hp) (fun i hi hui => hvj i (hB.g.lt hui).1) (hvj _ hp.length_le) (fun x hx => hus x hx _ hp.length_le) (by rw [rot_len]; omega)
      rw [← hrs, rot_len] at hB2
      simp only [rot_len] at hone hx2
      have hx3 : h2[h.length]? = some (.arr [i64 g.nts, i64 g.start, .slice pu k cu] 0 true 24) := hpr _ _ hat hx
      have hid3 := getElem?_prefix hB2.p hid
      have hat2 : isAt (.slice p2 (k + 1) c3) h.length = false := by
        cases hb : isAt (.slice p2 (k + 1) c3) h.length with
        | false => rfl
        | true =>
          rcases hx2 _ hb with h1 | h1
          · rw [hat] at h1
            cases h1
          · have := lt_of_get hx
            omega
      have hus2 : ∀ y ∈ us ++ [.slice p' g.rules[j].rhs.length c2], ∀ i, h.length ≤ i → isAtS y i = false := fun y hy i hi => by
        rw [List.mem_append] at hy
        rcases hy with hy | hy
        · exact hus y hy i hi
        · obtain rfl : y = _ := by simpa using hy
          exact hvj i hi
      repeat (first | refine cw_seq ?_ | refine cw_region ?_ | refine ow_nil ?_ | ((first | apply ow_cons | apply qw_cons); · simp only [push_cast, env, Nat.reduceEqDiff, reduceIte, Nat.reduceAdd, Nat.reduceMul, Nat.reduceLeDiff, reduceCtorEq, Nat.reduceSub, Int.reduceToNat, f3] <;> exact rfl) | ((first | apply ow_spec | apply qw_spec); · simp only [push_cast, env, Nat.reduceEqDiff, reduceIte, Nat.reduceAdd, Nat.reduceMul, Nat.reduceLeDiff, reduceCtorEq, Nat.reduceSub, Int.reduceToNat, f3] <;> exact rfl) | refine qw_nil ?_ | refine cw_block ?_ | refine cw_scope ?_ | refine cw_label ?_ | refine cw_skip ?_)
      refine cw_condT (by simp only [push_cast, env, Nat.reduceEqDiff, reduceIte, Nat.reduceAdd, Nat.reduceMul, Nat.reduceLeDiff, reduceCtorEq, Nat.reduceSub, Int.reduceToNat] <;> exact rfl) ?_
      repeat (first | refine cw_seq ?_ | refine cw_region ?_ | refine ow_nil ?_ | ((first | apply ow_cons | apply qw_cons); · simp only [push_cast, env, Nat.reduceEqDiff, reduceIte, Nat.reduceAdd, Nat.reduceMul, Nat.reduceLeDiff, reduceCtorEq, Nat.reduceSub, Int.reduceToNat] <;> exact rfl) | ((first | apply ow_spec | apply qw_spec); · simp only [push_cast, env, Nat.reduceEqDiff, reduceIte, Nat.reduceAdd, Nat.reduceMul, Nat.reduceLeDiff, reduceCtorEq, Nat.reduceSub, Int.reduceToNat] <;> exact rfl) | refine qw_nil ?_ | refine cw_block ?_ | refine cw_scope ?_ | refine cw_label ?_ | refine cw_skip ?_)
      refine cw_orderA [[], [0], [], [2], [], [], [], [5, 6], [], [7, 8], [], [9, 10], [4, 11], [], [12, 13], [3, 14], [15], [16], [1, 17], [], [0, 1, 2, 3, 4, 5, 6, 7, 8, 9, 10, 11, 12, 13, 14, 15, 16, 17, 18, 19]] [18, 20] [hk, h2, h2.set h.length (.arr [i64 g.nts, i64 g.start, .slice p2 (k + 1) c3] 0 true 24)]
        [.sl (.val (.pointer (some ⟨h.length, 2, some 0⟩))), .sl (.val (.slice pu k cu)), .ep 2 2, .sl (.val (.slice (some ⟨id, 0, some ver⟩) g.rules.length c)), .sl (.val (i64 k)), .sl (.val (i64 by_)), .sl (.val (i64 g.rules.length)), .sl (.val (i64 q)), .sl (.val (i64 g.rules.length)), .sl (.val (i64 (q + g.rules.length))),
         .sl (.val (i64 g.rules.length)), .sl (.val (i64 s)), .sl (.val (i64 (k + s))), .sl (.val (i64 g.rules.length)), .sl (.val (i64 j)), .sl (.val (.pointer (some ⟨id, j * 2, some ver⟩))), .sl (.val (.agg #[i64 g.rules[j].lhs, .slice p' g.rules[j].rhs.length c2])), .sl (.bsl [i64 g.rules[j].lhs, .slice p' g.rules[j].rhs.length c2] 1),
         .sl (.val (.slice p2 (k + 1) c3)), .sl (.val (.pointer (some ⟨h.length, 2, some 0⟩))), .sl .unk]
        [(1, .val (i64 by_)), (2, .box [i64 g.nts, i64 g.start, .slice (some ⟨id, 0, some ver⟩) g.rules.length c]), (5, .val (.pointer (some ⟨h.length, 0, some 0⟩))), (6, .val (i64 g.rules.length)), (7, .val (i64 k)), (37, .val (i64 k)), (38, .val (i64 g.rules.length)), (39, .val (.bool true))]
        [(1, .val (i64 by_)), (2, .box [i64 g.nts, i64 g.start, .slice (some ⟨id, 0, some ver⟩) g.rules.length c]), (5, .val (.pointer (some ⟨h.length, 0, some 0⟩))), (6, .val (i64 g.rules.length)), (7, .val (i64 k))] _ mixed (by kernel_rfl) rfl rfl rfl rfl (by simp only [push_cast, env, Nat.reduceEqDiff, reduceIte, Nat.reduceAdd, Nat.reduceMul, Nat.reduceLeDiff, reduceCtorEq, Nat.reduceSub, Int.reduceToNat, f3] <;> exact rfl) ?_ ⟨.inl ⟨by decide, rfl⟩, .inl ⟨by decide, rfl⟩, .inl ⟨by decide, rfl⟩, .inl ⟨by decide, rfl⟩, .inl ⟨by decide, rfl⟩, trivial⟩ ?_
      · repeat (first | exact StepsA.nil _ | (apply StepsA.cons; (· rfl); (· first | (refine ⟨?_, trivial⟩; (· (first | (apply one_val; (· rfl); (· simp only [push_cast, env, Nat.reduceEqDiff, reduceIte, Nat.reduceAdd, Nat.reduceMul, Nat.reduceLeDiff, reduceCtorEq, Nat.reduceSub, Int.reduceToNat, hx, hx3, hnz, hq, w1, hs, w2, w3, e1, hid2, hid3, hrd] <;> exact rfl); (· simp only [push_cast, env, Nat.reduceEqDiff, reduceIte, Nat.reduceAdd, Nat.reduceMul, Nat.reduceLeDiff, reduceCtorEq, Nat.reduceSub, Int.reduceToNat, hx, hx3, hnz, hq, w1, hs, w2, w3, e1, hid2, hid3, hrd] <;> exact rfl)) | (apply one_eph; (· rfl); (· simp only [push_cast, env, Nat.reduceEqDiff, reduceIte, Nat.reduceAdd, Nat.reduceMul, Nat.reduceLeDiff, reduceCtorEq, Nat.reduceSub, Int.reduceToNat, hx, hx3, hnz, hq, w1, hs, w2, w3, e1, hid2, hid3, hrd] <;> exact rfl); (· rfl); (· simp only [push_cast, env, Nat.reduceEqDiff, reduceIte, Nat.reduceAdd, Nat.reduceMul, Nat.reduceLeDiff, reduceCtorEq, Nat.reduceSub, Int.reduceToNat, hx, hx3, hnz, hq, w1, hs, w2, w3, e1, hid2, hid3, hrd] <;> exact rfl); (· decide))))) | (refine ⟨?_, ?_, trivial⟩; (· (first | (apply one_val; (· rfl); (· simp only [push_cast, env, Nat.reduceEqDiff, reduceIte, Nat.reduceAdd, Nat.reduceMul, Nat.reduceLeDiff, reduceCtorEq, Nat.reduceSub, Int.reduceToNat, hx, hx3, hnz, hq, w1, hs, w2, w3, e1, hid2, hid3, hrd] <;> exact rfl); (· simp only [push_cast, env, Nat.reduceEqDiff, reduceIte, Nat.reduceAdd, Nat.reduceMul, Nat.reduceLeDiff, reduceCtorEq, Nat.reduceSub, Int.reduceToNat, hx, hx3, hnz, hq, w1, hs, w2, w3, e1, hid2, hid3, hrd] <;> exact rfl)) | (apply one_eph; (· rfl); (· simp only [push_cast, env, Nat.reduceEqDiff, reduceIte, Nat.reduceAdd, Nat.reduceMul, Nat.reduceLeDiff, reduceCtorEq, Nat.reduceSub, Int.reduceToNat, hx, hx3, hnz, hq, w1, hs, w2, w3, e1, hid2, hid3, hrd] <;> exact rfl); (· rfl); (· simp only [push_cast, env, Nat.reduceEqDiff, reduceIte, Nat.reduceAdd, Nat.reduceMul, Nat.reduceLeDiff, reduceCtorEq, Nat.reduceSub, Int.reduceToNat, hx, hx3, hnz, hq, w1, hs, w2, w3, e1, hid2, hid3, hrd] <;> exact rfl); (· decide)))); (· (first | (apply one_val; (· rfl); (· simp only [push_cast, env, Nat.reduceEqDiff, reduceIte, Nat.reduceAdd, Nat.reduceMul, Nat.reduceLeDiff, reduceCtorEq, Nat.reduceSub, Int.reduceToNat, hx, hx3, hnz, hq, w1, hs, w2, w3, e1, hid2, hid3, hrd] <;> exact rfl); (· simp only [push_cast, env, Nat.reduceEqDiff, reduceIte, Nat.reduceAdd, Nat.reduceMul, Nat.reduceLeDiff, reduceCtorEq, Nat.reduceSub, Int.reduceToNat, hx, hx3, hnz, hq, w1, hs, w2, w3, e1, hid2, hid3, hrd] <;> exact rfl)) | (apply one_eph; (· rfl); (· simp only [push_cast, env, Nat.reduceEqDiff, reduceIte, Nat.reduceAdd, Nat.reduceMul, Nat.reduceLeDiff, reduceCtorEq, Nat.reduceSub, Int.reduceToNat, hx, hx3, hnz, hq, w1, hs, w2, w3, e1, hid2, hid3, hrd] <;> exact rfl); (· rfl); (· simp only [push_cast, env, Nat.reduceEqDiff, reduceIte, Nat.reduceAdd, Nat.reduceMul, Nat.reduceLeDiff, reduceCtorEq, Nat.reduceSub, Int.reduceToNat, hx, hx3, hnz, hq, w1, hs, w2, w3, e1, hid2, hid3, hrd] <;> exact rfl); (· decide))))) | (refine ⟨?_, ?_, ?_, trivial⟩; (· (first | (apply one_val; (· rfl); (· simp only [push_cast, env, Nat.reduceEqDiff, reduceIte, Nat.reduceAdd, Nat.reduceMul, Nat.reduceLeDiff, reduceCtorEq, Nat.reduceSub, Int.reduceToNat, hx, hx3, hnz, hq, w1, hs, w2, w3, e1, hid2, hid3, hrd] <;> exact rfl); (· simp only [push_cast, env, Nat.reduceEqDiff, reduceIte, Nat.reduceAdd, Nat.reduceMul, Nat.reduceLeDiff, reduceCtorEq, Nat.reduceSub, Int.reduceToNat, hx, hx3, hnz, hq, w1, hs, w2, w3, e1, hid2, hid3, hrd] <;> exact rfl)) | (apply one_eph; (· rfl); (· simp only [push_cast, env, Nat.reduceEqDiff, reduceIte, Nat.reduceAdd, Nat.reduceMul, Nat.reduceLeDiff, reduceCtorEq, Nat.reduceSub, Int.reduceToNat, hx, hx3, hnz, hq, w1, hs, w2, w3, e1, hid2, hid3, hrd] <;> exact rfl); (· rfl); (· simp only [push_cast, env, Nat.reduceEqDiff, reduceIte, Nat.reduceAdd, Nat.reduceMul, Nat.reduceLeDiff, reduceCtorEq, Nat.reduceSub, Int.reduceToNat, hx, hx3, hnz, hq, w1, hs, w2, w3, e1, hid2, hid3, hrd] <;> exact rfl); (· decide)))); (· (first | (apply one_val; (· rfl); (· simp only [push_cast, env, Nat.reduceEqDiff, reduceIte, Nat.reduceAdd, Nat.reduceMul, Nat.reduceLeDiff, reduceCtorEq, Nat.reduceSub, Int.reduceToNat, hx, hx3, hnz, hq, w1, hs, w2, w3, e1, hid2, hid3, hrd] <;> exact rfl); (· simp only [push_cast, env, Nat.reduceEqDiff, reduceIte, Nat.reduceAdd, Nat.reduceMul, Nat.reduceLeDiff, reduceCtorEq, Nat.reduceSub, Int.reduceToNat, hx, hx3, hnz, hq, w1, hs, w2, w3, e1, hid2, hid3, hrd] <;> exact rfl)) | (apply one_eph; (· rfl); (· simp only [push_cast, env, Nat.reduceEqDiff, reduceIte, Nat.reduceAdd, Nat.reduceMul, Nat.reduceLeDiff, reduceCtorEq, Nat.reduceSub, Int.reduceToNat, hx, hx3, hnz, hq, w1, hs, w2, w3, e1, hid2, hid3, hrd] <;> exact rfl); (· rfl); (· simp only [push_cast, env, Nat.reduceEqDiff, reduceIte, Nat.reduceAdd, Nat.reduceMul, Nat.reduceLeDiff, reduceCtorEq, Nat.reduceSub, Int.reduceToNat, hx, hx3, hnz, hq, w1, hs, w2, w3, e1, hid2, hid3, hrd] <;> exact rfl); (· decide)))); (· (first | (apply one_val; (· rfl); (· simp only [push_cast, env, Nat.reduceEqDiff, reduceIte, Nat.reduceAdd, Nat.reduceMul, Nat.reduceLeDiff, reduceCtorEq, Nat.reduceSub, Int.reduceToNat, hx, hx3, hnz, hq, w1, hs, w2, w3, e1, hid2, hid3, hrd] <;> exact rfl); (· simp only [push_cast, env, Nat.reduceEqDiff, reduceIte, Nat.reduceAdd, Nat.reduceMul, Nat.reduceLeDiff, reduceCtorEq, Nat.reduceSub, Int.reduceToNat, hx, hx3, hnz, hq, w1, hs, w2, w3, e1, hid2, hid3, hrd] <;> exact rfl)) | (apply one_eph; (· rfl); (· simp only [push_cast, env, Nat.reduceEqDiff, reduceIte, Nat.reduceAdd, Nat.reduceMul, Nat.reduceLeDiff, reduceCtorEq, Nat.reduceSub, Int.reduceToNat, hx, hx3, hnz, hq, w1, hs, w2, w3, e1, hid2, hid3, hrd] <;> exact rfl); (· rfl); (· simp only [push_cast, env, Nat.reduceEqDiff, reduceIte, Nat.reduceAdd, Nat.reduceMul, Nat.reduceLeDiff, reduceCtorEq, Nat.reduceSub, Int.reduceToNat, hx, hx3, hnz, hq, w1, hs, w2, w3, e1, hid2, hid3, hrd] <;> exact rfl); (· decide))))) | (refine ⟨?_, ?_, ?_, ?_, trivial⟩; (· (first | (apply one_val; (· rfl); (· simp only [push_cast, env, Nat.reduceEqDiff, reduceIte, Nat.reduceAdd, Nat.reduceMul, Nat.reduceLeDiff, reduceCtorEq, Nat.reduceSub, Int.reduceToNat, hx, hx3, hnz, hq, w1, hs, w2, w3, e1, hid2, hid3, hrd] <;> exact rfl); (· simp only [push_cast, env, Nat.reduceEqDiff, reduceIte, Nat.reduceAdd, Nat.reduceMul, Nat.reduceLeDiff, reduceCtorEq, Nat.reduceSub, Int.reduceToNat, hx, hx3, hnz, hq, w1, hs, w2, w3, e1, hid2, hid3, hrd] <;> exact rfl)) | (apply one_eph; (· rfl); (· simp only [push_cast, env, Nat.reduceEqDiff, reduceIte, Nat.reduceAdd, Nat.reduceMul, Nat.reduceLeDiff, reduceCtorEq, Nat.reduceSub, Int.reduceToNat, hx, hx3, hnz, hq, w1, hs, w2, w3, e1, hid2, hid3, hrd] <;> exact rfl); (· rfl); (· simp only [push_cast, env, Nat.reduceEqDiff, reduceIte, Nat.reduceAdd, Nat.reduceMul, Nat.reduceLeDiff, reduceCtorEq, Nat.reduceSub, Int.reduceToNat, hx, hx3, hnz, hq, w1, hs, w2, w3, e1, hid2, hid3, hrd] <;> exact rfl); (· decide)))); (· (first | (apply one_val; (· rfl); (· simp only [push_cast, env, Nat.reduceEqDiff, reduceIte, Nat.reduceAdd, Nat.reduceMul, Nat.reduceLeDiff, reduceCtorEq, Nat.reduceSub, Int.reduceToNat, hx, hx3, hnz, hq, w1, hs, w2, w3, e1, hid2, hid3, hrd] <;> exact rfl); (· simp only [push_cast, env, Nat.reduceEqDiff, reduceIte, Nat.reduceAdd, Nat.reduceMul, Nat.reduceLeDiff, reduceCtorEq, Nat.reduceSub, Int.reduceToNat, hx, hx3, hnz, hq, w1, hs, w2, w3, e1, hid2, hid3, hrd] <;> exact rfl)) | (apply one_eph; (· rfl); (· simp only [push_cast, env, Nat.reduceEqDiff, reduceIte, Nat.reduceAdd, Nat.reduceMul, Nat.reduceLeDiff, reduceCtorEq, Nat.reduceSub, Int.reduceToNat, hx, hx3, hnz, hq, w1, hs, w2, w3, e1, hid2, hid3, hrd] <;> exact rfl); (· rfl); (· simp only [push_cast, env, Nat.reduceEqDiff, reduceIte, Nat.reduceAdd, Nat.reduceMul, Nat.reduceLeDiff, reduceCtorEq, Nat.reduceSub, Int.reduceToNat, hx, hx3, hnz, hq, w1, hs, w2, w3, e1, hid2, hid3, hrd] <;> exact rfl); (· decide)))); (· (first | (apply one_val; (· rfl); (· simp only [push_cast, env, Nat.reduceEqDiff, reduceIte, Nat.reduceAdd, Nat.reduceMul, Nat.reduceLeDiff, reduceCtorEq, Nat.reduceSub, Int.reduceToNat, hx, hx3, hnz, hq, w1, hs, w2, w3, e1, hid2, hid3, hrd] <;> exact rfl); (· simp only [push_cast, env, Nat.reduceEqDiff, reduceIte, Nat.reduceAdd, Nat.reduceMul, Nat.reduceLeDiff, reduceCtorEq, Nat.reduceSub, Int.reduceToNat, hx, hx3, hnz, hq, w1, hs, w2, w3, e1, hid2, hid3, hrd] <;> exact rfl)) | (apply one_eph; (· rfl); (· simp only [push_cast, env, Nat.reduceEqDiff, reduceIte, Nat.reduceAdd, Nat.reduceMul, Nat.reduceLeDiff, reduceCtorEq, Nat.reduceSub, Int.reduceToNat, hx, hx3, hnz, hq, w1, hs, w2, w3, e1, hid2, hid3, hrd] <;> exact rfl); (· rfl); (· simp only [push_cast, env, Nat.reduceEqDiff, reduceIte, Nat.reduceAdd, Nat.reduceMul, Nat.reduceLeDiff, reduceCtorEq, Nat.reduceSub, Int.reduceToNat, hx, hx3, hnz, hq, w1, hs, w2, w3, e1, hid2, hid3, hrd] <;> exact rfl); (· decide)))); (· (first | (apply one_val; (· rfl); (· simp only [push_cast, env, Nat.reduceEqDiff, reduceIte, Nat.reduceAdd, Nat.reduceMul, Nat.reduceLeDiff, reduceCtorEq, Nat.reduceSub, Int.reduceToNat, hx, hx3, hnz, hq, w1, hs, w2, w3, e1, hid2, hid3, hrd] <;> exact rfl); (· simp only [push_cast, env, Nat.reduceEqDiff, reduceIte, Nat.reduceAdd, Nat.reduceMul, Nat.reduceLeDiff, reduceCtorEq, Nat.reduceSub, Int.reduceToNat, hx, hx3, hnz, hq, w1, hs, w2, w3, e1, hid2, hid3, hrd] <;> exact rfl)) | (apply one_eph; (· rfl); (· simp only [push_cast, env, Nat.reduceEqDiff, reduceIte, Nat.reduceAdd, Nat.reduceMul, Nat.reduceLeDiff, reduceCtorEq, Nat.reduceSub, Int.reduceToNat, hx, hx3, hnz, hq, w1, hs, w2, w3, e1, hid2, hid3, hrd] <;> exact rfl); (· rfl); (· simp only [push_cast, env, Nat.reduceEqDiff, reduceIte, Nat.reduceAdd, Nat.reduceMul, Nat.reduceLeDiff, reduceCtorEq, Nat.reduceSub, Int.reduceToNat, hx, hx3, hnz, hq, w1, hs, w2, w3, e1, hid2, hid3, hrd] <;> exact rfl); (· decide)))))); (· rfl)))
        apply StepsA.cons
        · rfl
        · refine ⟨?_, trivial⟩
          exact one_bsl (t := 48) rfl (by simp only [push_cast, env, Nat.reduceEqDiff, reduceIte, Nat.reduceAdd, Nat.reduceMul, Nat.reduceLeDiff, reduceCtorEq, Nat.reduceSub, Int.reduceToNat] <;> exact rfl) rfl (by simp only [push_cast, env, Nat.reduceEqDiff, reduceIte, Nat.reduceAdd, Nat.reduceMul, Nat.reduceLeDiff, reduceCtorEq, Nat.reduceSub, Int.reduceToNat] <;> exact rfl)
        · rfl
        apply StepsA.cons
        · rfl
        · refine ⟨?_, trivial⟩
          exact hone _ _ _ _ _ rfl (by simp only [push_cast, env, Nat.reduceEqDiff, reduceIte, Nat.reduceAdd, Nat.reduceMul, Nat.reduceLeDiff, reduceCtorEq, Nat.reduceSub, Int.reduceToNat] <;> exact rfl) rfl (by simp only [push_cast, env, Nat.reduceEqDiff, reduceIte, Nat.reduceAdd, Nat.reduceMul, Nat.reduceLeDiff, reduceCtorEq, Nat.reduceSub, Int.reduceToNat] <;> exact rfl) (by simp only [push_cast, env, Nat.reduceEqDiff, reduceIte, Nat.reduceAdd, Nat.reduceMul, Nat.reduceLeDiff, reduceCtorEq, Nat.reduceSub, Int.reduceToNat] <;> exact rfl)
        · rfl
        repeat (first | exact StepsA.nil _ | (apply StepsA.cons; (· rfl); (· first | (refine ⟨?_, trivial⟩; (· (first | (apply one_val; (· rfl); (· simp only [push_cast, env, Nat.reduceEqDiff, reduceIte, Nat.reduceAdd, Nat.reduceMul, Nat.reduceLeDiff, reduceCtorEq, Nat.reduceSub, Int.reduceToNat, hx3] <;> exact rfl); (· simp only [push_cast, env, Nat.reduceEqDiff, reduceIte, Nat.reduceAdd, Nat.reduceMul, Nat.reduceLeDiff, reduceCtorEq, Nat.reduceSub, Int.reduceToNat, hx3] <;> exact rfl)) | (apply one_eph; (· rfl); (· simp only [push_cast, env, Nat.reduceEqDiff, reduceIte, Nat.reduceAdd, Nat.reduceMul, Nat.reduceLeDiff, reduceCtorEq, Nat.reduceSub, Int.reduceToNat, hx3] <;> exact rfl); (· rfl); (· simp only [push_cast, env, Nat.reduceEqDiff, reduceIte, Nat.reduceAdd, Nat.reduceMul, Nat.reduceLeDiff, reduceCtorEq, Nat.reduceSub, Int.reduceToNat, hx3] <;> exact rfl); (· decide))))) | (refine ⟨?_, ?_, trivial⟩; (· (first | (apply one_val; (· rfl); (· simp only [push_cast, env, Nat.reduceEqDiff, reduceIte, Nat.reduceAdd, Nat.reduceMul, Nat.reduceLeDiff, reduceCtorEq, Nat.reduceSub, Int.reduceToNat, hx3] <;> exact rfl); (· simp only [push_cast, env, Nat.reduceEqDiff, reduceIte, Nat.reduceAdd, Nat.reduceMul, Nat.reduceLeDiff, reduceCtorEq, Nat.reduceSub, Int.reduceToNat, hx3] <;> exact rfl)) | (apply one_eph; (· rfl); (· simp only [push_cast, env, Nat.reduceEqDiff, reduceIte, Nat.reduceAdd, Nat.reduceMul, Nat.reduceLeDiff, reduceCtorEq, Nat.reduceSub, Int.reduceToNat, hx3] <;> exact rfl); (· rfl); (· simp only [push_cast, env, Nat.reduceEqDiff, reduceIte, Nat.reduceAdd, Nat.reduceMul, Nat.reduceLeDiff, reduceCtorEq, Nat.reduceSub, Int.reduceToNat, hx3] <;> exact rfl); (· decide)))); (· (first | (apply one_val; (· rfl); (· simp only [push_cast, env, Nat.reduceEqDiff, reduceIte, Nat.reduceAdd, Nat.reduceMul, Nat.reduceLeDiff, reduceCtorEq, Nat.reduceSub, Int.reduceToNat, hx3] <;> exact rfl); (· simp only [push_cast, env, Nat.reduceEqDiff, reduceIte, Nat.reduceAdd, Nat.reduceMul, Nat.reduceLeDiff, reduceCtorEq, Nat.reduceSub, Int.reduceToNat, hx3] <;> exact rfl)) | (apply one_eph; (· rfl); (· simp only [push_cast, env, Nat.reduceEqDiff, reduceIte, Nat.reduceAdd, Nat.reduceMul, Nat.reduceLeDiff, reduceCtorEq, Nat.reduceSub, Int.reduceToNat, hx3] <;> exact rfl); (· rfl); (· simp only [push_cast, env, Nat.reduceEqDiff, reduceIte, Nat.reduceAdd, Nat.reduceMul, Nat.reduceLeDiff, reduceCtorEq, Nat.reduceSub, Int.reduceToNat, hx3] <;> exact rfl); (· decide))))) | (refine ⟨?_, ?_, ?_, trivial⟩; (· (first | (apply one_val; (· rfl); (· simp only [push_cast, env, Nat.reduceEqDiff, reduceIte, Nat.reduceAdd, Nat.reduceMul, Nat.reduceLeDiff, reduceCtorEq, Nat.reduceSub, Int.reduceToNat, hx3] <;> exact rfl); (· simp only [push_cast, env, Nat.reduceEqDiff, reduceIte, Nat.reduceAdd, Nat.reduceMul, Nat.reduceLeDiff, reduceCtorEq, Nat.reduceSub, Int.reduceToNat, hx3] <;> exact rfl)) | (apply one_eph; (· rfl); (· simp only [push_cast, env, Nat.reduceEqDiff, reduceIte, Nat.reduceAdd, Nat.reduceMul, Nat.reduceLeDiff, reduceCtorEq, Nat.reduceSub, Int.reduceToNat, hx3] <;> exact rfl); (· rfl); (· simp only [push_cast, env, Nat.reduceEqDiff, reduceIte, Nat.reduceAdd, Nat.reduceMul, Nat.reduceLeDiff, reduceCtorEq, Nat.reduceSub, Int.reduceToNat, hx3] <;> exact rfl); (· decide)))); (· (first | (apply one_val; (· rfl); (· simp only [push_cast, env, Nat.reduceEqDiff, reduceIte, Nat.reduceAdd, Nat.reduceMul, Nat.reduceLeDiff, reduceCtorEq, Nat.reduceSub, Int.reduceToNat, hx3] <;> exact rfl); (· simp only [push_cast, env, Nat.reduceEqDiff, reduceIte, Nat.reduceAdd, Nat.reduceMul, Nat.reduceLeDiff, reduceCtorEq, Nat.reduceSub, Int.reduceToNat, hx3] <;> exact rfl)) | (apply one_eph; (· rfl); (· simp only [push_cast, env, Nat.reduceEqDiff, reduceIte, Nat.reduceAdd, Nat.reduceMul, Nat.reduceLeDiff, reduceCtorEq, Nat.reduceSub, Int.reduceToNat, hx3] <;> exact rfl); (· rfl); (· simp only [push_cast, env, Nat.reduceEqDiff, reduceIte, Nat.reduceAdd, Nat.reduceMul, Nat.reduceLeDiff, reduceCtorEq, Nat.reduceSub, Int.reduceToNat, hx3] <;> exact rfl); (· decide)))); (· (first | (apply one_val; (· rfl); (· simp only [push_cast, env, Nat.reduceEqDiff, reduceIte, Nat.reduceAdd, Nat.reduceMul, Nat.reduceLeDiff, reduceCtorEq, Nat.reduceSub, Int.reduceToNat, hx3] <;> exact rfl); (· simp only [push_cast, env, Nat.reduceEqDiff, reduceIte, Nat.reduceAdd, Nat.reduceMul, Nat.reduceLeDiff, reduceCtorEq, Nat.reduceSub, Int.reduceToNat, hx3] <;> exact rfl)) | (apply one_eph; (· rfl); (· simp only [push_cast, env, Nat.reduceEqDiff, reduceIte, Nat.reduceAdd, Nat.reduceMul, Nat.reduceLeDiff, reduceCtorEq, Nat.reduceSub, Int.reduceToNat, hx3] <;> exact rfl); (· rfl); (· simp only [push_cast, env, Nat.reduceEqDiff, reduceIte, Nat.reduceAdd, Nat.reduceMul, Nat.reduceLeDiff, reduceCtorEq, Nat.reduceSub, Int.reduceToNat, hx3] <;> exact rfl); (· decide))))) | (refine ⟨?_, ?_, ?_, ?_, trivial⟩; (· (first | (apply one_val; (· rfl); (· simp only [push_cast, env, Nat.reduceEqDiff, reduceIte, Nat.reduceAdd, Nat.reduceMul, Nat.reduceLeDiff, reduceCtorEq, Nat.reduceSub, Int.reduceToNat, hx3] <;> exact rfl); (· simp only [push_cast, env, Nat.reduceEqDiff, reduceIte, Nat.reduceAdd, Nat.reduceMul, Nat.reduceLeDiff, reduceCtorEq, Nat.reduceSub, Int.reduceToNat, hx3] <;> exact rfl)) | (apply one_eph; (· rfl); (· simp only [push_cast, env, Nat.reduceEqDiff, reduceIte, Nat.reduceAdd, Nat.reduceMul, Nat.reduceLeDiff, reduceCtorEq, Nat.reduceSub, Int.reduceToNat, hx3] <;> exact rfl); (· rfl); (· simp only [push_cast, env, Nat.reduceEqDiff, reduceIte, Nat.reduceAdd, Nat.reduceMul, Nat.reduceLeDiff, reduceCtorEq, Nat.reduceSub, Int.reduceToNat, hx3] <;> exact rfl); (· decide)))); (· (first | (apply one_val; (· rfl); (· simp only [push_cast, env, Nat.reduceEqDiff, reduceIte, Nat.reduceAdd, Nat.reduceMul, Nat.reduceLeDiff, reduceCtorEq, Nat.reduceSub, Int.reduceToNat, hx3] <;> exact rfl); (· simp only [push_cast, env, Nat.reduceEqDiff, reduceIte, Nat.reduceAdd, Nat.reduceMul, Nat.reduceLeDiff, reduceCtorEq, Nat.reduceSub, Int.reduceToNat, hx3] <;> exact rfl)) | (apply one_eph; (· rfl); (· simp only [push_cast, env, Nat.reduceEqDiff, reduceIte, Nat.reduceAdd, Nat.reduceMul, Nat.reduceLeDiff, reduceCtorEq, Nat.reduceSub, Int.reduceToNat, hx3] <;> exact rfl); (· rfl); (· simp only [push_cast, env, Nat.reduceEqDiff, reduceIte, Nat.reduceAdd, Nat.reduceMul, Nat.reduceLeDiff, reduceCtorEq, Nat.reduceSub, Int.reduceToNat, hx3] <;> exact rfl); (· decide)))); (· (first | (apply one_val; (· rfl); (· simp only [push_cast, env, Nat.reduceEqDiff, reduceIte, Nat.reduceAdd, Nat.reduceMul, Nat.reduceLeDiff, reduceCtorEq, Nat.reduceSub, Int.reduceToNat, hx3] <;> exact rfl); (· simp only [push_cast, env, Nat.reduceEqDiff, reduceIte, Nat.reduceAdd, Nat.reduceMul, Nat.reduceLeDiff, reduceCtorEq, Nat.reduceSub, Int.reduceToNat, hx3] <;> exact rfl)) | (apply one_eph; (· rfl); (· simp only [push_cast, env, Nat.reduceEqDiff, reduceIte, Nat.reduceAdd, Nat.reduceMul, Nat.reduceLeDiff, reduceCtorEq, Nat.reduceSub, Int.reduceToNat, hx3] <;> exact rfl); (· rfl); (· simp only [push_cast, env, Nat.reduceEqDiff, reduceIte, Nat.reduceAdd, Nat.reduceMul, Nat.reduceLeDiff, reduceCtorEq, Nat.reduceSub, Int.reduceToNat, hx3] <;> exact rfl); (· decide)))); (· (first | (apply one_val; (· rfl); (· simp only [push_cast, env, Nat.reduceEqDiff, reduceIte, Nat.reduceAdd, Nat.reduceMul, Nat.reduceLeDiff, reduceCtorEq, Nat.reduceSub, Int.reduceToNat, hx3] <;> exact rfl); (· simp only [push_cast, env, Nat.reduceEqDiff, reduceIte, Nat.reduceAdd, Nat.reduceMul, Nat.reduceLeDiff, reduceCtorEq, Nat.reduceSub, Int.reduceToNat, hx3] <;> exact rfl)) | (apply one_eph; (· rfl); (· simp only [push_cast, env, Nat.reduceEqDiff, reduceIte, Nat.reduceAdd, Nat.reduceMul, Nat.reduceLeDiff, reduceCtorEq, Nat.reduceSub, Int.reduceToNat, hx3] <;> exact rfl); (· rfl); (· simp only [push_cast, env, Nat.reduceEqDiff, reduceIte, Nat.reduceAdd, Nat.reduceMul, Nat.reduceLeDiff, reduceCtorEq, Nat.reduceSub, Int.reduceToNat, hx3] <;> exact rfl); (· decide)))))); (· rfl)))
        apply StepsA.cons
        · rfl
        · refine ⟨?_, trivial⟩
          exact one_sto (r := .sl .unk) rfl (by simp only [push_cast, env, Nat.reduceEqDiff, reduceIte, Nat.reduceAdd, Nat.reduceMul, Nat.reduceLeDiff, reduceCtorEq, Nat.reduceSub, Int.reduceToNat] <;> exact rfl) rfl (by simp only [push_cast, env, Nat.reduceEqDiff, reduceIte, Nat.reduceAdd, Nat.reduceMul, Nat.reduceLeDiff, reduceCtorEq, Nat.reduceSub, Int.reduceToNat] <;> exact rfl) (by simp only [push_cast, env, Nat.reduceEqDiff, reduceIte, Nat.reduceAdd, Nat.reduceMul, Nat.reduceLeDiff, reduceCtorEq, Nat.reduceSub, Int.reduceToNat] <;> exact rfl) hx3 (by simp only [push_cast, env, Nat.reduceEqDiff, reduceIte, Nat.reduceAdd, Nat.reduceMul, Nat.reduceLeDiff, reduceCtorEq, Nat.reduceSub, Int.reduceToNat] <;> exact rfl) rfl rfl rfl rfl
        · rfl
        exact StepsA.nil _
      · show CW _ _ _ _
        repeat (first | refine cw_seq ?_ | refine cw_region ?_ | refine ow_nil ?_ | ((first | apply ow_cons | apply qw_cons); · simp only [push_cast, env, Nat.reduceEqDiff, reduceIte, Nat.reduceAdd, Nat.reduceMul, Nat.reduceLeDiff, reduceCtorEq, Nat.reduceSub, Int.reduceToNat, f2] <;> exact rfl) | ((first | apply ow_spec | apply qw_spec); · simp only [push_cast, env, Nat.reduceEqDiff, reduceIte, Nat.reduceAdd, Nat.reduceMul, Nat.reduceLeDiff, reduceCtorEq, Nat.reduceSub, Int.reduceToNat, f2] <;> exact rfl) | refine qw_nil ?_ | refine cw_block ?_ | refine cw_scope ?_ | refine cw_label ?_ | refine cw_skip ?_)
        exact ⟨hkl, (_, p2, c3, us ++ [.slice p' g.rules[j].rhs.length c2]), (by simp only [push_cast, SubL, fget, Nat.reduceEqDiff, reduceIte]), rfl, pre_set hB2.p (Nat.le_refl _), get_set_self hx3, hB2.set (Nat.le_refl _) hat2 fun x hx => hus2 x hx _ (Nat.le_refl _), hat2, hus2⟩
    · have hkn' : k = g.rules.length := by omega
      have f3 := ge_dec hkl
      repeat (first | refine cw_seq ?_ | refine cw_region ?_ | refine ow_nil ?_ | ((first | apply ow_cons | apply qw_cons); · simp only [push_cast, env, Nat.reduceEqDiff, reduceIte, Nat.reduceAdd, Nat.reduceMul, Nat.reduceLeDiff, reduceCtorEq, Nat.reduceSub, Int.reduceToNat, f3] <;> exact rfl) | ((first | apply ow_spec | apply qw_spec); · simp only [push_cast, env, Nat.reduceEqDiff, reduceIte, Nat.reduceAdd, Nat.reduceMul, Nat.reduceLeDiff, reduceCtorEq, Nat.reduceSub, Int.reduceToNat, f3] <;> exact rfl) | refine qw_nil ?_ | refine cw_block ?_ | refine cw_scope ?_ | refine cw_label ?_ | refine cw_skip ?_)
      refine cw_condF (by simp only [push_cast, env, Nat.reduceEqDiff, reduceIte, Nat.reduceAdd, Nat.reduceMul, Nat.reduceLeDiff, reduceCtorEq, Nat.reduceSub, Int.reduceToNat] <;> exact rfl) ?_
      refine cw_exit ?_
      show CW _ _ _ _
      subst hkn'
      have hX : RdGram hk (.agg #[i64 g.nts, i64 g.start, .slice pu g.rules.length cu]) ⟨g.nts, g.start, rot g.rules s g.rules.length⟩ := ⟨_, rfl, hB.rd (by rw [rot_len]; omega)⟩
      have S : SameG g ⟨g.nts, g.start, rot g.rules s g.rules.length⟩ := ⟨rfl, rfl, rot_len, rot_mem (by omega) hs1⟩
      have hWX : WfG ⟨g.nts, g.start, rot g.rules s g.rules.length⟩ := S.wf hW
      have hE := S.rightG
      generalize (⟨g.nts, g.start, rot g.rules s g.rules.length⟩ : Gram) = X at hX S hWX hE
      repeat (first | refine cw_seq ?_ | refine cw_region ?_ | refine ow_nil ?_ | ((first | apply ow_cons | apply qw_cons); · simp only [push_cast, env, Nat.reduceEqDiff, reduceIte, Nat.reduceAdd, Nat.reduceMul, Nat.reduceLeDiff, reduceCtorEq, Nat.reduceSub, Int.reduceToNat] <;> exact rfl) | ((first | apply ow_spec | apply qw_spec); · simp only [push_cast, env, Nat.reduceEqDiff, reduceIte, Nat.reduceAdd, Nat.reduceMul, Nat.reduceLeDiff, reduceCtorEq, Nat.reduceSub, Int.reduceToNat] <;> exact rfl) | refine qw_nil ?_ | refine cw_block ?_ | refine cw_scope ?_ | refine cw_label ?_ | refine cw_skip ?_)
      refine ow_call (fn := Try.f19) (by simp only [push_cast, env, Nat.reduceEqDiff, reduceIte, Nat.reduceAdd, Nat.reduceMul, Nat.reduceLeDiff, reduceCtorEq, Nat.reduceSub, Int.reduceToNat] <;> exact rfl) rfl (by simp only [push_cast, env, Nat.reduceEqDiff, reduceIte, Nat.reduceAdd, Nat.reduceMul, Nat.reduceLeDiff, reduceCtorEq, Nat.reduceSub, Int.reduceToNat] <;> exact rfl) (by simp only [push_cast, env, Nat.reduceEqDiff, reduceIte, Nat.reduceAdd, Nat.reduceMul, Nat.reduceLeDiff, reduceCtorEq, Nat.reduceSub, Int.reduceToNat] <;> exact rfl) Try.func19 (by kernel_rfl) (by kernel_rfl) ?_
      rw [List.append_nil]
      refine (first_fw (hr.mono hp) hW).mono ?_
      rintro _ h1 ⟨t1, q1⟩
      obtain ⟨x1, e1, _⟩ := id t1
      rw [e1]
      have hx1 := getElem?_prefix q1 hx
      repeat (first | refine cw_seq ?_ | refine cw_region ?_ | refine ow_nil ?_ | ((first | apply ow_cons | apply qw_cons); · simp only [push_cast, env, Nat.reduceEqDiff, reduceIte, Nat.reduceAdd, Nat.reduceMul, Nat.reduceLeDiff, reduceCtorEq, Nat.reduceSub, Int.reduceToNat, hx1] <;> exact rfl) | ((first | apply ow_spec | apply qw_spec); · simp only [push_cast, env, Nat.reduceEqDiff, reduceIte, Nat.reduceAdd, Nat.reduceMul, Nat.reduceLeDiff, reduceCtorEq, Nat.reduceSub, Int.reduceToNat, hx1] <;> exact rfl) | refine qw_nil ?_ | refine cw_block ?_ | refine cw_scope ?_ | refine cw_label ?_ | refine cw_skip ?_)
      refine ow_call (fn := Try.f19) (by simp only [push_cast, env, Nat.reduceEqDiff, reduceIte, Nat.reduceAdd, Nat.reduceMul, Nat.reduceLeDiff, reduceCtorEq, Nat.reduceSub, Int.reduceToNat, hx1] <;> exact rfl) rfl (by simp only [push_cast, env, Nat.reduceEqDiff, reduceIte, Nat.reduceAdd, Nat.reduceMul, Nat.reduceLeDiff, reduceCtorEq, Nat.reduceSub, Int.reduceToNat, hx1] <;> exact rfl) (by simp only [push_cast, env, Nat.reduceEqDiff, reduceIte, Nat.reduceAdd, Nat.reduceMul, Nat.reduceLeDiff, reduceCtorEq, Nat.reduceSub, Int.reduceToNat, hx1] <;> exact rfl) Try.func19 (by kernel_rfl) (by kernel_rfl) ?_
      rw [List.append_nil]
      refine (first_fw (hX.mono q1) hWX).mono ?_
      rintro _ h2 ⟨t2, q2⟩
      obtain ⟨x2, e2, _⟩ := id t2
      rw [hE] at e2
      rw [e2]
      have hx2 := getElem?_prefix q2 hx1
      have r2 := q1.trans q2
      repeat (first | refine cw_seq ?_ | refine cw_region ?_ | refine ow_nil ?_ | ((first | apply ow_cons | apply qw_cons); · simp only [push_cast, env, Nat.reduceEqDiff, reduceIte, Nat.reduceAdd, Nat.reduceMul, Nat.reduceLeDiff, reduceCtorEq, Nat.reduceSub, Int.reduceToNat, hx2] <;> exact rfl) | ((first | apply ow_spec | apply qw_spec); · simp only [push_cast, env, Nat.reduceEqDiff, reduceIte, Nat.reduceAdd, Nat.reduceMul, Nat.reduceLeDiff, reduceCtorEq, Nat.reduceSub, Int.reduceToNat, hx2] <;> exact rfl) | refine qw_nil ?_ | refine cw_block ?_ | refine cw_scope ?_ | refine cw_label ?_ | refine cw_skip ?_)
      refine ow_call (fn := Try.f24) (by simp only [push_cast, env, Nat.reduceEqDiff, reduceIte, Nat.reduceAdd, Nat.reduceMul, Nat.reduceLeDiff, reduceCtorEq, Nat.reduceSub, Int.reduceToNat, hx2] <;> exact rfl) rfl (by simp only [push_cast, env, Nat.reduceEqDiff, reduceIte, Nat.reduceAdd, Nat.reduceMul, Nat.reduceLeDiff, reduceCtorEq, Nat.reduceSub, Int.reduceToNat, hx2] <;> exact rfl) (by simp only [push_cast, env, Nat.reduceEqDiff, reduceIte, Nat.reduceAdd, Nat.reduceMul, Nat.reduceLeDiff, reduceCtorEq, Nat.reduceSub, Int.reduceToNat, hx2] <;> exact rfl) Try.func24 (by kernel_rfl) (by kernel_rfl) ?_
      rw [List.append_nil]
      refine (shortest_fw (hr.mono (hp.trans r2))).mono ?_
      rintro _ h3 ⟨t3, q3⟩
      obtain ⟨x3, e3, _⟩ := id t3
      rw [e3]
      have hx3 := getElem?_prefix q3 hx2
      have r3 := r2.trans q3
      repeat (first | refine cw_seq ?_ | refine cw_region ?_ | refine ow_nil ?_ | ((first | apply ow_cons | apply qw_cons); · simp only [push_cast, env, Nat.reduceEqDiff, reduceIte, Nat.reduceAdd, Nat.reduceMul, Nat.reduceLeDiff, reduceCtorEq, Nat.reduceSub, Int.reduceToNat, hx3] <;> exact rfl) | ((first | apply ow_spec | apply qw_spec); · simp only [push_cast, env, Nat.reduceEqDiff, reduceIte, Nat.reduceAdd, Nat.reduceMul, Nat.reduceLeDiff, reduceCtorEq, Nat.reduceSub, Int.reduceToNat, hx3] <;> exact rfl) | refine qw_nil ?_ | refine cw_block ?_ | refine cw_scope ?_ | refine cw_label ?_ | refine cw_skip ?_)
      refine ow_call (fn := Try.f24) (by simp only [push_cast, env, Nat.reduceEqDiff, reduceIte, Nat.reduceAdd, Nat.reduceMul, Nat.reduceLeDiff, reduceCtorEq, Nat.reduceSub, Int.reduceToNat, hx3] <;> exact rfl) rfl (by simp only [push_cast, env, Nat.reduceEqDiff, reduceIte, Nat.reduceAdd, Nat.reduceMul, Nat.reduceLeDiff, reduceCtorEq, Nat.reduceSub, Int.reduceToNat, hx3] <;> exact rfl) (by simp only [push_cast, env, Nat.reduceEqDiff, reduceIte, Nat.reduceAdd, Nat.reduceMul, Nat.reduceLeDiff, reduceCtorEq, Nat.reduceSub, Int.reduceToNat, hx3] <;> exact rfl) Try.func24 (by kernel_rfl) (by kernel_rfl) ?_
      rw [List.append_nil]
      refine (shortest_fw (hX.mono r3)).mono ?_
      rintro _ h4 ⟨t4, q4⟩
      obtain ⟨x4, e4, _⟩ := id t4
      rw [hE] at e4
      rw [e4]
      have hx4 := getElem?_prefix q4 hx3
      have r4 := r3.trans q4
      repeat (first | refine cw_seq ?_ | refine cw_region ?_ | refine ow_nil ?_ | ((first | apply ow_cons | apply qw_cons); · simp only [push_cast, env, Nat.reduceEqDiff, reduceIte, Nat.reduceAdd, Nat.reduceMul, Nat.reduceLeDiff, reduceCtorEq, Nat.reduceSub, Int.reduceToNat, hx4] <;> exact rfl) | ((first | apply ow_spec | apply qw_spec); · simp only [push_cast, env, Nat.reduceEqDiff, reduceIte, Nat.reduceAdd, Nat.reduceMul, Nat.reduceLeDiff, reduceCtorEq, Nat.reduceSub, Int.reduceToNat, hx4] <;> exact rfl) | refine qw_nil ?_ | refine cw_block ?_ | refine cw_scope ?_ | refine cw_label ?_ | refine cw_skip ?_)
      refine ow_call (fn := Try.f25) (by simp only [push_cast, env, Nat.reduceEqDiff, reduceIte, Nat.reduceAdd, Nat.reduceMul, Nat.reduceLeDiff, reduceCtorEq, Nat.reduceSub, Int.reduceToNat, hx4] <;> exact rfl) rfl (by simp only [push_cast, env, Nat.reduceEqDiff, reduceIte, Nat.reduceAdd, Nat.reduceMul, Nat.reduceLeDiff, reduceCtorEq, Nat.reduceSub, Int.reduceToNat, hx4] <;> exact rfl) (by simp only [push_cast, env, Nat.reduceEqDiff, reduceIte, Nat.reduceAdd, Nat.reduceMul, Nat.reduceLeDiff, reduceCtorEq, Nat.reduceSub, Int.reduceToNat, hx4] <;> exact rfl) Try.func25 (by kernel_rfl) (by kernel_rfl) ?_
      rw [List.append_nil]
      refine (cyclic_fw (hr.mono (hp.trans r4))).mono ?_
      rintro _ h5 ⟨t5, q5⟩
      obtain ⟨b5, e5, i5⟩ := told_cyc t5
      rw [e5]
      have hx5 := getElem?_prefix q5 hx4
      have r5 := r4.trans q5
      repeat (first | refine cw_seq ?_ | refine cw_region ?_ | refine ow_nil ?_ | ((first | apply ow_cons | apply qw_cons); · simp only [push_cast, env, Nat.reduceEqDiff, reduceIte, Nat.reduceAdd, Nat.reduceMul, Nat.reduceLeDiff, reduceCtorEq, Nat.reduceSub, Int.reduceToNat, hx5] <;> exact rfl) | ((first | apply ow_spec | apply qw_spec); · simp only [push_cast, env, Nat.reduceEqDiff, reduceIte, Nat.reduceAdd, Nat.reduceMul, Nat.reduceLeDiff, reduceCtorEq, Nat.reduceSub, Int.reduceToNat, hx5] <;> exact rfl) | refine qw_nil ?_ | refine cw_block ?_ | refine cw_scope ?_ | refine cw_label ?_ | refine cw_skip ?_)
      refine ow_call (fn := Try.f25) (by simp only [push_cast, env, Nat.reduceEqDiff, reduceIte, Nat.reduceAdd, Nat.reduceMul, Nat.reduceLeDiff, reduceCtorEq, Nat.reduceSub, Int.reduceToNat, hx5] <;> exact rfl) rfl (by simp only [push_cast, env, Nat.reduceEqDiff, reduceIte, Nat.reduceAdd, Nat.reduceMul, Nat.reduceLeDiff, reduceCtorEq, Nat.reduceSub, Int.reduceToNat, hx5] <;> exact rfl) (by simp only [push_cast, env, Nat.reduceEqDiff, reduceIte, Nat.reduceAdd, Nat.reduceMul, Nat.reduceLeDiff, reduceCtorEq, Nat.reduceSub, Int.reduceToNat, hx5] <;> exact rfl) Try.func25 (by kernel_rfl) (by kernel_rfl) ?_
      rw [List.append_nil]
      refine (cyclic_fw (hX.mono r5)).mono ?_
      rintro _ h6 ⟨t6, q6⟩
      obtain ⟨b6, e6, i6⟩ := told_cyc t6
      rw [hE] at e6
      rw [e6]
      obtain rfl : b5 = b6 := by rw [Bool.eq_iff_iff, i5, i6, S.cyc, S.bad]
      obtain ⟨a, ra, rb⟩ : ∃ a, RdSets h6 x1 a ∧ RdSets h6 x2 a := by
        have p1 := q2.trans (q3.trans (q4.trans (q5.trans q6)))
        have p2 := q3.trans (q4.trans (q5.trans q6))
        by_cases hb : badG g
        · obtain rfl : x1 = nilS := by have := e1.symm.trans (t1.bad hb); simp at this; exact this.1
          obtain rfl : x2 = nilS := by have := e2.symm.trans (t2.bad (S.bad.2 hb)); simp at this; exact this.1
          exact ⟨[], rdNil, rdNil⟩
        · obtain ⟨y1, f1, l1, k1, m1⟩ := t1.good hb
          obtain ⟨y2, f2, l2, k2, m2⟩ := t2.good (fun c => hb (S.bad.1 c))
          obtain rfl : x1 = y1 := by have := e1.symm.trans f1; simp at this; exact this.1
          obtain rfl : x2 = y2 := by have := e2.symm.trans f2; simp at this; exact this.1
          obtain rfl := k1.eq (S.firsts k2)
          have n2 := (rightS hb).n2
          have := k1.1
          exact ⟨l1, slr_mono (MineS.rd m1 (by omega)) p1, slr_mono (MineS.rd m2 (by omega)) p2⟩
      obtain ⟨b, rc, rd⟩ : ∃ b, RdInts h6 x3 b ∧ RdInts h6 x4 b := by
        have p1 := q4.trans (q5.trans q6)
        have p2 := q5.trans q6
        by_cases hb : badG g
        · obtain rfl : x3 = nilS := by have := e3.symm.trans (t3.bad hb); simp at this; exact this.1
          obtain rfl : x4 = nilS := by have := e4.symm.trans (t4.bad (S.bad.2 hb)); simp at this; exact this.1
          exact ⟨[], rdNil, rdNil⟩
        · obtain ⟨y1, f1, l1, k1, m1⟩ := t3.good hb
          obtain ⟨y2, f2, l2, k2, m2⟩ := t4.good (fun c => hb (S.bad.1 c))
          obtain rfl : x3 = y1 := by have := e3.symm.trans f1; simp at this; exact this.1
          obtain rfl : x4 = y2 := by have := e4.symm.trans f2; simp at this; exact this.1
          obtain rfl := k1.eq (S.shorts k2)
          have n2 := (rightS hb).n2
          have := k1.1
          exact ⟨l1, slr_mono (MineI.rd m1 (by omega)) p1, slr_mono (MineI.rd m2 (by omega)) p2⟩
      clear t1 t2 t3 t4 t5 t6 e1 e2 e3 e4 e5 e6
      repeat (first | refine cw_seq ?_ | refine cw_region ?_ | refine ow_nil ?_ | ((first | apply ow_cons | apply qw_cons); · simp only [push_cast, env, Nat.reduceEqDiff, reduceIte, Nat.reduceAdd, Nat.reduceMul, Nat.reduceLeDiff, reduceCtorEq, Nat.reduceSub, Int.reduceToNat] <;> exact rfl) | ((first | apply ow_spec | apply qw_spec); · simp only [push_cast, env, Nat.reduceEqDiff, reduceIte, Nat.reduceAdd, Nat.reduceMul, Nat.reduceLeDiff, reduceCtorEq, Nat.reduceSub, Int.reduceToNat] <;> exact rfl) | refine qw_nil ?_ | refine cw_block ?_ | refine cw_scope ?_ | refine cw_label ?_ | refine cw_skip ?_)
      refine ow_call (fn := Try.f12) (by simp only [push_cast, env, Nat.reduceEqDiff, reduceIte, Nat.reduceAdd, Nat.reduceMul, Nat.reduceLeDiff, reduceCtorEq, Nat.reduceSub, Int.reduceToNat] <;> exact rfl) rfl (by simp only [push_cast, env, Nat.reduceEqDiff, reduceIte, Nat.reduceAdd, Nat.reduceMul, Nat.reduceLeDiff, reduceCtorEq, Nat.reduceSub, Int.reduceToNat] <;> exact rfl) (by simp only [push_cast, env, Nat.reduceEqDiff, reduceIte, Nat.reduceAdd, Nat.reduceMul, Nat.reduceLeDiff, reduceCtorEq, Nat.reduceSub, Int.reduceToNat] <;> exact rfl) Try.func12 (by kernel_rfl) (by kernel_rfl) ?_
      refine alive_fw.mono ?_
      rintro _ h6 ⟨rfl, rfl⟩
      repeat (first | refine cw_seq ?_ | refine cw_region ?_ | refine ow_nil ?_ | ((first | apply ow_cons | apply qw_cons); · simp only [push_cast, env, Nat.reduceEqDiff, reduceIte, Nat.reduceAdd, Nat.reduceMul, Nat.reduceLeDiff, reduceCtorEq, Nat.reduceSub, Int.reduceToNat] <;> exact rfl) | ((first | apply ow_spec | apply qw_spec); · simp only [push_cast, env, Nat.reduceEqDiff, reduceIte, Nat.reduceAdd, Nat.reduceMul, Nat.reduceLeDiff, reduceCtorEq, Nat.reduceSub, Int.reduceToNat] <;> exact rfl) | refine qw_nil ?_ | refine cw_block ?_ | refine cw_scope ?_ | refine cw_label ?_ | refine cw_skip ?_)
      refine ow_call (fn := Try.f21) (by simp only [push_cast, env, Nat.reduceEqDiff, reduceIte, Nat.reduceAdd, Nat.reduceMul, Nat.reduceLeDiff, reduceCtorEq, Nat.reduceSub, Int.reduceToNat] <;> exact rfl) rfl (by simp only [push_cast, env, Nat.reduceEqDiff, reduceIte, Nat.reduceAdd, Nat.reduceMul, Nat.reduceLeDiff, reduceCtorEq, Nat.reduceSub, Int.reduceToNat] <;> exact rfl) (by simp only [push_cast, env, Nat.reduceEqDiff, reduceIte, Nat.reduceAdd, Nat.reduceMul, Nat.reduceLeDiff, reduceCtorEq, Nat.reduceSub, Int.reduceToNat] <;> exact rfl) Try.func21 (by kernel_rfl) (by kernel_rfl) ?_
      rw [List.append_nil]
      refine (samesets_fw ra rb).mono ?_
      rintro _ h6 ⟨rfl, rfl⟩
      rw [decide_eq_true rfl]
      repeat (first | refine cw_seq ?_ | refine cw_region ?_ | refine ow_nil ?_ | ((first | apply ow_cons | apply qw_cons); · simp only [push_cast, env, Nat.reduceEqDiff, reduceIte, Nat.reduceAdd, Nat.reduceMul, Nat.reduceLeDiff, reduceCtorEq, Nat.reduceSub, Int.reduceToNat] <;> exact rfl) | ((first | apply ow_spec | apply qw_spec); · simp only [push_cast, env, Nat.reduceEqDiff, reduceIte, Nat.reduceAdd, Nat.reduceMul, Nat.reduceLeDiff, reduceCtorEq, Nat.reduceSub, Int.reduceToNat] <;> exact rfl) | refine qw_nil ?_ | refine cw_block ?_ | refine cw_scope ?_ | refine cw_label ?_ | refine cw_skip ?_)
      refine ow_call (fn := Try.f26) (by simp only [push_cast, env, Nat.reduceEqDiff, reduceIte, Nat.reduceAdd, Nat.reduceMul, Nat.reduceLeDiff, reduceCtorEq, Nat.reduceSub, Int.reduceToNat] <;> exact rfl) rfl (by simp only [push_cast, env, Nat.reduceEqDiff, reduceIte, Nat.reduceAdd, Nat.reduceMul, Nat.reduceLeDiff, reduceCtorEq, Nat.reduceSub, Int.reduceToNat] <;> exact rfl) (by simp only [push_cast, env, Nat.reduceEqDiff, reduceIte, Nat.reduceAdd, Nat.reduceMul, Nat.reduceLeDiff, reduceCtorEq, Nat.reduceSub, Int.reduceToNat] <;> exact rfl) Try.func26 (by kernel_rfl) (by kernel_rfl) ?_
      rw [List.append_nil]
      refine (sameints_fw rc rd).mono ?_
      rintro _ h6 ⟨rfl, rfl⟩
      rw [decide_eq_true rfl]
      repeat (first | refine cw_seq ?_ | refine cw_region ?_ | refine ow_nil ?_ | ((first | apply ow_cons | apply qw_cons); · simp only [push_cast, env, Nat.reduceEqDiff, reduceIte, Nat.reduceAdd, Nat.reduceMul, Nat.reduceLeDiff, reduceCtorEq, Nat.reduceSub, Int.reduceToNat] <;> exact rfl) | ((first | apply ow_spec | apply qw_spec); · simp only [push_cast, env, Nat.reduceEqDiff, reduceIte, Nat.reduceAdd, Nat.reduceMul, Nat.reduceLeDiff, reduceCtorEq, Nat.reduceSub, Int.reduceToNat] <;> exact rfl) | refine qw_nil ?_ | refine cw_block ?_ | refine cw_scope ?_ | refine cw_label ?_ | refine cw_skip ?_)
      refine cw_ret ?_
      exact ⟨_, (by simp only [push_cast, env, Nat.reduceEqDiff, reduceIte, Nat.reduceAdd, Nat.reduceMul, Nat.reduceLeDiff, reduceCtorEq, Nat.reduceSub, Int.reduceToNat] <;> exact rfl), rfl⟩
end Go.Proofs.Ytnlchlnkibpkaaa

/- FactsMore, as the abstract machine runs it. -/
namespace Go.Proofs.Ytnlchlnkibpkaaa
set_option linter.unusedSimpArgs false
set_option linter.unusedVariables false
open Go.RowKit Am Ty

theorem ow_copysyms2 {all : Array Oper} {o : Oper} {r : List Oper} {s : St} {K : St → Prop} {x : Operand} {t : Nat} {src : Value} {l : List KSym} (hw : wantedA all o s = some true)
    (ho : o.op = .call { callee := .builtin .append, args := #[x, .tmp t], argTypes := #[46, 46] }) (hx : ev s x = some (.slice none 0 0)) (hy : fget s.fr t = .val src) (hsrc : RdSyms s.h src l)
    (k : ∀ v p c h1, v = .slice p l.length c → s.h <+: h1 → RdSyms h1 v l → (∀ j, isAtS v j = true → j = s.h.length ∧ j < h1.length) → OW env all r ({ s with h := h1 }.putO o.dst (.val v)) K) : OW env all (o :: r) s K := by
  have hu : env.P.underlying 46 = some (.slice 56) := by kernel_rfl
  have ht : tinfo env.P 56 = _ := ti56
  have hy' : ev s (.tmp t) = some src := by simp only [ev, hy]
  have nilcase : l = [] → (∃ q c', src = .slice q 0 c') → OW env all (o :: r) s K := fun e ⟨q, c', hq⟩ => by
    subst e
    rw [hq] at hy'
    refine ow_appZ hw ho hu ht hx hy' ?_
    exact k _ none 0 s.h rfl (List.prefix_refl _) ⟨by simp, .inl ⟨.inl rfl, rfl, rfl⟩⟩ (fun j hj => by cases hj)
  rcases hsrc.2 with ⟨hs0, h0, _⟩ | ⟨id, ver, own, c, rfl, hid⟩
  · refine nilcase (List.eq_nil_of_length_eq_zero h0) ?_
    rcases hs0 with rfl | rfl <;> exact ⟨_, _, rfl⟩
  · by_cases h0 : l = []
    · exact nilcase h0 ⟨_, c, by rw [h0]; rfl⟩
    · have hpos : 0 < l.length := List.length_pos_iff.2 h0
      refine ow_app0 hw ho hu ht (by decide) rfl hx (cs := l.flatMap KSym.cells) (m := l.length) ?_ hpos ?_ ?_ ?_
      · simp only [itemsC, hy, hid, if_true, syms_all, Option.map_some]
      · exact hsrc.1
      · exact RdSyms.le hsrc
      · refine k _ _ _ (s.h ++ [_]) rfl prefix_push ⟨hsrc.1, .inr ⟨_, _, true, _, rfl, get_push⟩⟩ fun j hj => ?_
        simp only [isAtS, beq_iff_eq] at hj
        subst hj
        simp
def Ids (h hk : Heap) (us : List Value) : Prop := ∀ x ∈ us, ∀ j, isAtS x j = true → h.length ≤ j ∧ j < hk.length
theorem ids_new {h hk : Heap} {us : List Value} (k : Ids h hk us) : ∀ x ∈ us, isAtS x hk.length = false := fun x hx => by
  cases hb : isAtS x hk.length with
  | false => rfl
  | true => have := (k x hx _ hb).2; omega
set_option maxHeartbeats 4000000 in
theorem copygram2_fw {h : Heap} {g : Gram} {v : Value} (hr : RdGram h v g) : FW env 14 [v] h fun r h' => ∃ q cq us, r = .agg #[i64 g.nts, i64 g.start, .slice q g.rules.length cq] ∧ BR h h' (.slice q g.rules.length cq) g.rules us ∧ Ids h h' us := by
  obtain ⟨u, rfl, hu⟩ := hr
  obtain ⟨p, c, rfl⟩ := hu.form
  have hle := hu.le
  have hle32 : g.rules.length * 32 ≤ 140737488355328 := by obtain ⟨_, _, hs, _⟩ := id hu; exact hs.1
  refine fw_enter (fn := Try.f14) Try.func14 rfl (by kernel_rfl) (by simp [Try.ntmps14]) ?_; simp only [push_cast]
  repeat (first | refine cw_seq ?_ | refine cw_region ?_ | refine ow_nil ?_ | ((first | apply ow_cons | apply qw_cons); · simp only [push_cast, env, Nat.reduceEqDiff, reduceIte, Nat.reduceAdd, Nat.reduceMul, Nat.reduceLeDiff, reduceCtorEq, Nat.reduceSub, Int.reduceToNat] <;> exact rfl) | ((first | apply ow_spec | apply qw_spec); · simp only [push_cast, env, Nat.reduceEqDiff, reduceIte, Nat.reduceAdd, Nat.reduceMul, Nat.reduceLeDiff, reduceCtorEq, Nat.reduceSub, Int.reduceToNat] <;> exact rfl) | refine qw_nil ?_ | refine cw_block ?_ | refine cw_scope ?_ | refine cw_label ?_ | refine cw_skip ?_)
  refine cw_forG g.rules.length (fun k (x : Heap × Option Addr × Nat × List Value) => [(1, .box [i64 g.nts, i64 g.start, .slice p g.rules.length c]), (2, .box [i64 0, i64 0, .slice none 0 0]), (3, .box [i64 g.nts, i64 g.start, .slice x.2.1 k x.2.2.1]), (4, .val (i64 k))]) (fun _ x => x.1)
    (fun k x => BR h x.1 (.slice x.2.1 k x.2.2.1) (g.rules.take k) x.2.2.2 ∧ Ids h x.1 x.2.2.2) (h, none, 0, []) (by simp only [push_cast, SubL, fget, Nat.reduceEqDiff, reduceIte]) rfl ⟨.nil (List.prefix_refl _), fun x hx => by cases hx⟩ ?_
  rintro k ⟨hk, q, cc, us⟩ hkn ⟨hB, hI⟩
  simp only at hB hI ⊢
  have hpre := hB.p
  have htl : (g.rules.take k).length = k := by rw [List.length_take]; omega
  by_cases hlt : k < g.rules.length
  · obtain ⟨id, ver, own, c', cells, p', n', c2, hv, hid, hn, hrd, hu'⟩ := hu.at hlt
    cases hv
    subst hn
    have e0 := rdH_get0 hrd (by omega)
    have e0' := rdH_get (j := 1) hrd (by omega)
    simp only [List.getElem?_cons_succ, List.getElem?_cons_zero] at e0 e0'
    have e1 := rng hlt
    have e2 := inc hlt hle
    have e3 := lt_dec hlt
    have hmem : g.rules[k] ∈ _ := List.getElem_mem hlt
    have hn2 := RdSyms.le hu'
    have hid' := getElem?_prefix hpre hid
    have hu2 := SlR.mono hu' hpre
    repeat (first | refine cw_seq ?_ | refine cw_region ?_ | refine ow_nil ?_ | ((first | apply ow_cons | apply qw_cons); · simp only [push_cast, env, Nat.reduceEqDiff, reduceIte, Nat.reduceAdd, Nat.reduceMul, Nat.reduceLeDiff, reduceCtorEq, Nat.reduceSub, Int.reduceToNat, e1, hid', e0, e0', e3] <;> exact rfl) | ((first | apply ow_spec | apply qw_spec); · simp only [push_cast, env, Nat.reduceEqDiff, reduceIte, Nat.reduceAdd, Nat.reduceMul, Nat.reduceLeDiff, reduceCtorEq, Nat.reduceSub, Int.reduceToNat, e1, hid', e0, e0', e3] <;> exact rfl) | refine qw_nil ?_ | refine cw_block ?_ | refine cw_scope ?_ | refine cw_label ?_ | refine cw_skip ?_)
    refine cw_condT (by simp only [push_cast, env, Nat.reduceEqDiff, reduceIte, Nat.reduceAdd, Nat.reduceMul, Nat.reduceLeDiff, reduceCtorEq, Nat.reduceSub, Int.reduceToNat] <;> exact rfl) ?_
    repeat (first | refine cw_seq ?_ | refine cw_region ?_ | refine ow_nil ?_ | ((first | apply ow_cons | apply qw_cons); · simp only [push_cast, env, Nat.reduceEqDiff, reduceIte, Nat.reduceAdd, Nat.reduceMul, Nat.reduceLeDiff, reduceCtorEq, Nat.reduceSub, Int.reduceToNat, e1, hid', e0, e0'] <;> exact rfl) | ((first | apply ow_spec | apply qw_spec); · simp only [push_cast, env, Nat.reduceEqDiff, reduceIte, Nat.reduceAdd, Nat.reduceMul, Nat.reduceLeDiff, reduceCtorEq, Nat.reduceSub, Int.reduceToNat, e1, hid', e0, e0'] <;> exact rfl) | refine qw_nil ?_ | refine cw_block ?_ | refine cw_scope ?_ | refine cw_label ?_ | refine cw_skip ?_)
    refine cw_regionD 8 mixed (by kernel_rfl) ?_
    repeat (first | refine cw_seq ?_ | refine cw_region ?_ | refine ow_nil ?_ | ((first | apply ow_cons | apply qw_cons); · simp only [push_cast, env, Nat.reduceEqDiff, reduceIte, Nat.reduceAdd, Nat.reduceMul, Nat.reduceLeDiff, reduceCtorEq, Nat.reduceSub, Int.reduceToNat, e1, hid', e0, e0'] <;> exact rfl) | ((first | apply ow_spec | apply qw_spec); · simp only [push_cast, env, Nat.reduceEqDiff, reduceIte, Nat.reduceAdd, Nat.reduceMul, Nat.reduceLeDiff, reduceCtorEq, Nat.reduceSub, Int.reduceToNat, e1, hid', e0, e0'] <;> exact rfl) | refine qw_nil ?_ | refine cw_block ?_ | refine cw_scope ?_ | refine cw_label ?_ | refine cw_skip ?_)
    refine ow_copysyms2 (by simp only [push_cast, env, Nat.reduceEqDiff, reduceIte, Nat.reduceAdd, Nat.reduceMul, Nat.reduceLeDiff, reduceCtorEq, Nat.reduceSub, Int.reduceToNat] <;> exact rfl) rfl (by simp only [push_cast, env, Nat.reduceEqDiff, reduceIte, Nat.reduceAdd, Nat.reduceMul, Nat.reduceLeDiff, reduceCtorEq, Nat.reduceSub, Int.reduceToNat] <;> exact rfl) (by simp only [push_cast, env, Nat.reduceEqDiff, reduceIte, Nat.reduceAdd, Nat.reduceMul, Nat.reduceLeDiff, reduceCtorEq, Nat.reduceSub, Int.reduceToNat] <;> exact rfl) hu2 ?_
    rintro v1 p1 c1 h1 rfl hp1 hN hat
    have hp1 : hk <+: h1 := hp1
    have hat : ∀ j, isAtS (.slice p1 g.rules[k].rhs.length c1) j = true → j = hk.length ∧ j < h1.length := hat
    have hB1 := hB.keep hp1
    have hlt1 : ∀ j, isAt (.slice q k cc) j = true → j < hk.length := fun j hj => (hB.g.lt hj).2
    have hl1 := hp1.length_le
    have hI1 : Ids h h1 us := fun x hx j hj => by have := hI x hx j hj; omega
    obtain ⟨p2, c2', h2, hone, hB2, hpr, hx2, hl2⟩ := hB1.push' (r := g.rules[k]) hN (fun j hj hju => by
      cases hb : isAtS (.slice p1 g.rules[k].rhs.length c1) j with
      | false => rfl
      | true => have := (hat j hb).1; have := hlt1 j hju; omega) (by
      cases hb : isAtS (.slice p1 g.rules[k].rhs.length c1) h1.length with
      | false => rfl
      | true => have := (hat _ hb).2; omega) (ids_new hI1) (by rw [htl]; omega)
    rw [← List.take_succ_eq_append_getElem hlt, htl] at hB2
    simp only [htl] at hone
    repeat (first | refine cw_seq ?_ | refine cw_region ?_ | refine ow_nil ?_ | ((first | apply ow_cons | apply qw_cons); · simp only [push_cast, env, Nat.reduceEqDiff, reduceIte, Nat.reduceAdd, Nat.reduceMul, Nat.reduceLeDiff, reduceCtorEq, Nat.reduceSub, Int.reduceToNat] <;> exact rfl) | ((first | apply ow_spec | apply qw_spec); · simp only [push_cast, env, Nat.reduceEqDiff, reduceIte, Nat.reduceAdd, Nat.reduceMul, Nat.reduceLeDiff, reduceCtorEq, Nat.reduceSub, Int.reduceToNat] <;> exact rfl) | refine qw_nil ?_ | refine cw_block ?_ | refine cw_scope ?_ | refine cw_label ?_ | refine cw_skip ?_)
    refine owv (hone _ _ _ _ _ rfl (by simp only [push_cast, env, Nat.reduceEqDiff, reduceIte, Nat.reduceAdd, Nat.reduceMul, Nat.reduceLeDiff, reduceCtorEq, Nat.reduceSub, Int.reduceToNat] <;> exact rfl) rfl (by simp only [push_cast, env, Nat.reduceEqDiff, reduceIte, Nat.reduceAdd, Nat.reduceMul, Nat.reduceLeDiff, reduceCtorEq, Nat.reduceSub, Int.reduceToNat] <;> exact rfl) (by simp only [push_cast, env, Nat.reduceEqDiff, reduceIte, Nat.reduceAdd, Nat.reduceMul, Nat.reduceLeDiff, reduceCtorEq, Nat.reduceSub, Int.reduceToNat] <;> exact rfl)) ?_
    repeat (first | refine cw_seq ?_ | refine cw_region ?_ | refine ow_nil ?_ | ((first | apply ow_cons | apply qw_cons); · simp only [push_cast, env, Nat.reduceEqDiff, reduceIte, Nat.reduceAdd, Nat.reduceMul, Nat.reduceLeDiff, reduceCtorEq, Nat.reduceSub, Int.reduceToNat, e2] <;> exact rfl) | ((first | apply ow_spec | apply qw_spec); · simp only [push_cast, env, Nat.reduceEqDiff, reduceIte, Nat.reduceAdd, Nat.reduceMul, Nat.reduceLeDiff, reduceCtorEq, Nat.reduceSub, Int.reduceToNat, e2] <;> exact rfl) | refine qw_nil ?_ | refine cw_block ?_ | refine cw_scope ?_ | refine cw_label ?_ | refine cw_skip ?_)
    refine ⟨hlt, (h2, p2, c2', us ++ [.slice p1 g.rules[k].rhs.length c1]), (by simp only [push_cast, SubL, fget, Nat.reduceEqDiff, reduceIte]), rfl, hB2, fun x hx j hj => ?_⟩
    have h12 := hB2.p
    rw [List.mem_append] at hx
    rcases hx with hx | hx
    · have := hI1 x hx j hj
      dsimp only
      omega
    · obtain rfl : x = _ := by simpa using hx
      have := hat j hj
      have := hpre.length_le
      dsimp only
      omega
  · have e3 := ge_dec hlt
    obtain rfl : k = g.rules.length := by omega
    repeat (first | refine cw_seq ?_ | refine cw_region ?_ | refine ow_nil ?_ | ((first | apply ow_cons | apply qw_cons); · simp only [push_cast, env, Nat.reduceEqDiff, reduceIte, Nat.reduceAdd, Nat.reduceMul, Nat.reduceLeDiff, reduceCtorEq, Nat.reduceSub, Int.reduceToNat, e3] <;> exact rfl) | ((first | apply ow_spec | apply qw_spec); · simp only [push_cast, env, Nat.reduceEqDiff, reduceIte, Nat.reduceAdd, Nat.reduceMul, Nat.reduceLeDiff, reduceCtorEq, Nat.reduceSub, Int.reduceToNat, e3] <;> exact rfl) | refine qw_nil ?_ | refine cw_block ?_ | refine cw_scope ?_ | refine cw_label ?_ | refine cw_skip ?_)
    refine cw_condF (by simp only [push_cast, env, Nat.reduceEqDiff, reduceIte, Nat.reduceAdd, Nat.reduceMul, Nat.reduceLeDiff, reduceCtorEq, Nat.reduceSub, Int.reduceToNat] <;> exact rfl) ?_
    refine cw_exit ?_
    show CW _ _ _ _
    repeat (first | refine cw_seq ?_ | refine cw_region ?_ | refine ow_nil ?_ | ((first | apply ow_cons | apply qw_cons); · simp only [push_cast, env, Nat.reduceEqDiff, reduceIte, Nat.reduceAdd, Nat.reduceMul, Nat.reduceLeDiff, reduceCtorEq, Nat.reduceSub, Int.reduceToNat] <;> exact rfl) | ((first | apply ow_spec | apply qw_spec); · simp only [push_cast, env, Nat.reduceEqDiff, reduceIte, Nat.reduceAdd, Nat.reduceMul, Nat.reduceLeDiff, reduceCtorEq, Nat.reduceSub, Int.reduceToNat] <;> exact rfl) | refine qw_nil ?_ | refine cw_block ?_ | refine cw_scope ?_ | refine cw_label ?_ | refine cw_skip ?_)
    refine cw_ret ?_
    rw [List.take_length] at hB
    exact ⟨_, (by simp only [push_cast, env, Nat.reduceEqDiff, reduceIte, Nat.reduceAdd, Nat.reduceMul, Nat.reduceLeDiff, reduceCtorEq, Nat.reduceSub, Int.reduceToNat] <;> exact rfl), q, cc, us, rfl, hB, hI⟩
theorem less_fw {h : Heap} {a b : List Bool} {va vb : Value} (ha : RdBools h va a) (hb : RdBools h vb b) (hl : a.length = b.length) (hab : ∀ (i : Nat) (h1 : i < a.length) (h2 : i < b.length), a[i] = true → b[i] = true) : FW env 36 [va, vb] h fun r h' => r = .bool true ∧ h' = h := by
  obtain ⟨p, c, rfl⟩ := SlR.form ha
  obtain ⟨q, d, rfl⟩ := SlR.form hb
  have hla : a.length ≤ 140737488355328 := by have := ha.1; omega
  have hd : decide ((a.length : Int) = (b.length : Int)) = true := decide_eq_true (by omega)
  refine fw_enter (fn := Try.f36) Try.func36 rfl (by kernel_rfl) (by simp [Try.ntmps36]) ?_; simp only [push_cast]
  repeat (first | refine cw_seq ?_ | refine cw_region ?_ | refine ow_nil ?_ | ((first | apply ow_cons | apply qw_cons); · simp only [push_cast, env, Nat.reduceEqDiff, reduceIte, Nat.reduceAdd, Nat.reduceMul, Nat.reduceLeDiff, reduceCtorEq, Nat.reduceSub, Int.reduceToNat, hd] <;> exact rfl) | ((first | apply ow_spec | apply qw_spec); · simp only [push_cast, env, Nat.reduceEqDiff, reduceIte, Nat.reduceAdd, Nat.reduceMul, Nat.reduceLeDiff, reduceCtorEq, Nat.reduceSub, Int.reduceToNat, hd] <;> exact rfl) | refine qw_nil ?_ | refine cw_block ?_ | refine cw_scope ?_ | refine cw_label ?_ | refine cw_skip ?_)
  refine cw_condF (by simp only [push_cast, env, Nat.reduceEqDiff, reduceIte, Nat.reduceAdd, Nat.reduceMul, Nat.reduceLeDiff, reduceCtorEq, Nat.reduceSub, Int.reduceToNat] <;> exact rfl) ?_
  repeat (first | refine cw_seq ?_ | refine cw_region ?_ | refine ow_nil ?_ | ((first | apply ow_cons | apply qw_cons); · simp only [push_cast, env, Nat.reduceEqDiff, reduceIte, Nat.reduceAdd, Nat.reduceMul, Nat.reduceLeDiff, reduceCtorEq, Nat.reduceSub, Int.reduceToNat] <;> exact rfl) | ((first | apply ow_spec | apply qw_spec); · simp only [push_cast, env, Nat.reduceEqDiff, reduceIte, Nat.reduceAdd, Nat.reduceMul, Nat.reduceLeDiff, reduceCtorEq, Nat.reduceSub, Int.reduceToNat] <;> exact rfl) | refine qw_nil ?_ | refine cw_block ?_ | refine cw_scope ?_ | refine cw_label ?_ | refine cw_skip ?_)
  refine cw_for a.length (fun k => [(0, .val (.slice p a.length c)), (1, .val (.slice q b.length d)), (5, .val (i64 k))]) (fun _ => h) (fun _ => True) (by simp only [push_cast, SubL, fget, Nat.reduceEqDiff, reduceIte]) rfl trivial ?_
  intro k hk _
  by_cases hlt : k < a.length
  · obtain ⟨id, ver, own, c', hv, hid⟩ := SlR.at ha (by omega)
    cases hv
    have hlt2 : k < b.length := hl ▸ hlt
    obtain ⟨id2, ver2, own2, c3, hv2, hid2⟩ := SlR.at hb (by omega)
    cases hv2
    have g1 := map_get (f := Value.bool) hlt
    have g2 := map_get (f := Value.bool) hlt2
    have hk2 := hab k hlt hlt2
    have e1 := rng hlt
    have e1' := rng hlt2
    have e2 := inc hlt hla
    have e3 := lt_dec hlt
    repeat (first | refine cw_seq ?_ | refine cw_region ?_ | refine ow_nil ?_ | ((first | apply ow_cons | apply qw_cons); · simp only [push_cast, env, Nat.reduceEqDiff, reduceIte, Nat.reduceAdd, Nat.reduceMul, Nat.reduceLeDiff, reduceCtorEq, Nat.reduceSub, Int.reduceToNat, e3] <;> exact rfl) | ((first | apply ow_spec | apply qw_spec); · simp only [push_cast, env, Nat.reduceEqDiff, reduceIte, Nat.reduceAdd, Nat.reduceMul, Nat.reduceLeDiff, reduceCtorEq, Nat.reduceSub, Int.reduceToNat, e3] <;> exact rfl) | refine qw_nil ?_ | refine cw_block ?_ | refine cw_scope ?_ | refine cw_label ?_ | refine cw_skip ?_)
    refine cw_condT (by simp only [push_cast, env, Nat.reduceEqDiff, reduceIte, Nat.reduceAdd, Nat.reduceMul, Nat.reduceLeDiff, reduceCtorEq, Nat.reduceSub, Int.reduceToNat] <;> exact rfl) ?_
    cases hx : a[k] with
    | false =>
      rw [hx] at g1
      repeat (first | refine cw_seq ?_ | refine cw_region ?_ | refine ow_nil ?_ | ((first | apply ow_cons | apply qw_cons); · simp only [push_cast, env, Nat.reduceEqDiff, reduceIte, Nat.reduceAdd, Nat.reduceMul, Nat.reduceLeDiff, reduceCtorEq, Nat.reduceSub, Int.reduceToNat, e1, hid, g1, Nat.mul_one] <;> exact rfl) | ((first | apply ow_spec | apply qw_spec); · simp only [push_cast, env, Nat.reduceEqDiff, reduceIte, Nat.reduceAdd, Nat.reduceMul, Nat.reduceLeDiff, reduceCtorEq, Nat.reduceSub, Int.reduceToNat, e1, hid, g1, Nat.mul_one] <;> exact rfl) | refine qw_nil ?_ | refine cw_block ?_ | refine cw_scope ?_ | refine cw_label ?_ | refine cw_skip ?_)
      refine cw_condF (by simp only [push_cast, env, Nat.reduceEqDiff, reduceIte, Nat.reduceAdd, Nat.reduceMul, Nat.reduceLeDiff, reduceCtorEq, Nat.reduceSub, Int.reduceToNat] <;> exact rfl) ?_
      repeat (first | refine cw_seq ?_ | refine cw_region ?_ | refine ow_nil ?_ | ((first | apply ow_cons | apply qw_cons); · simp only [push_cast, env, Nat.reduceEqDiff, reduceIte, Nat.reduceAdd, Nat.reduceMul, Nat.reduceLeDiff, reduceCtorEq, Nat.reduceSub, Int.reduceToNat, e2] <;> exact rfl) | ((first | apply ow_spec | apply qw_spec); · simp only [push_cast, env, Nat.reduceEqDiff, reduceIte, Nat.reduceAdd, Nat.reduceMul, Nat.reduceLeDiff, reduceCtorEq, Nat.reduceSub, Int.reduceToNat, e2] <;> exact rfl) | refine qw_nil ?_ | refine cw_block ?_ | refine cw_scope ?_ | refine cw_label ?_ | refine cw_skip ?_)
      exact ⟨hlt, (by simp only [push_cast, SubL, fget, Nat.reduceEqDiff, reduceIte]), rfl, trivial⟩
    | true =>
      rw [hx] at g1
      rw [hk2 hx] at g2
      repeat (first | refine cw_seq ?_ | refine cw_region ?_ | refine ow_nil ?_ | ((first | apply ow_cons | apply qw_cons); · simp only [push_cast, env, Nat.reduceEqDiff, reduceIte, Nat.reduceAdd, Nat.reduceMul, Nat.reduceLeDiff, reduceCtorEq, Nat.reduceSub, Int.reduceToNat, e1, e1', hid, hid2, g1, g2, Nat.mul_one] <;> exact rfl) | ((first | apply ow_spec | apply qw_spec); · simp only [push_cast, env, Nat.reduceEqDiff, reduceIte, Nat.reduceAdd, Nat.reduceMul, Nat.reduceLeDiff, reduceCtorEq, Nat.reduceSub, Int.reduceToNat, e1, e1', hid, hid2, g1, g2, Nat.mul_one] <;> exact rfl) | refine qw_nil ?_ | refine cw_block ?_ | refine cw_scope ?_ | refine cw_label ?_ | refine cw_skip ?_)
      refine cw_condF (by simp only [push_cast, env, Nat.reduceEqDiff, reduceIte, Nat.reduceAdd, Nat.reduceMul, Nat.reduceLeDiff, reduceCtorEq, Nat.reduceSub, Int.reduceToNat] <;> exact rfl) ?_
      repeat (first | refine cw_seq ?_ | refine cw_region ?_ | refine ow_nil ?_ | ((first | apply ow_cons | apply qw_cons); · simp only [push_cast, env, Nat.reduceEqDiff, reduceIte, Nat.reduceAdd, Nat.reduceMul, Nat.reduceLeDiff, reduceCtorEq, Nat.reduceSub, Int.reduceToNat, e2] <;> exact rfl) | ((first | apply ow_spec | apply qw_spec); · simp only [push_cast, env, Nat.reduceEqDiff, reduceIte, Nat.reduceAdd, Nat.reduceMul, Nat.reduceLeDiff, reduceCtorEq, Nat.reduceSub, Int.reduceToNat, e2] <;> exact rfl) | refine qw_nil ?_ | refine cw_block ?_ | refine cw_scope ?_ | refine cw_label ?_ | refine cw_skip ?_)
      exact ⟨hlt, (by simp only [push_cast, SubL, fget, Nat.reduceEqDiff, reduceIte]), rfl, trivial⟩
  · have e3 := ge_dec hlt
    obtain rfl : k = a.length := by omega
    repeat (first | refine cw_seq ?_ | refine cw_region ?_ | refine ow_nil ?_ | ((first | apply ow_cons | apply qw_cons); · simp only [push_cast, env, Nat.reduceEqDiff, reduceIte, Nat.reduceAdd, Nat.reduceMul, Nat.reduceLeDiff, reduceCtorEq, Nat.reduceSub, Int.reduceToNat, e3] <;> exact rfl) | ((first | apply ow_spec | apply qw_spec); · simp only [push_cast, env, Nat.reduceEqDiff, reduceIte, Nat.reduceAdd, Nat.reduceMul, Nat.reduceLeDiff, reduceCtorEq, Nat.reduceSub, Int.reduceToNat, e3] <;> exact rfl) | refine qw_nil ?_ | refine cw_block ?_ | refine cw_scope ?_ | refine cw_label ?_ | refine cw_skip ?_)
    refine cw_condF (by simp only [push_cast, env, Nat.reduceEqDiff, reduceIte, Nat.reduceAdd, Nat.reduceMul, Nat.reduceLeDiff, reduceCtorEq, Nat.reduceSub, Int.reduceToNat] <;> exact rfl) ?_
    refine cw_exit ?_
    show CW _ _ _ _
    repeat (first | refine cw_seq ?_ | refine cw_region ?_ | refine ow_nil ?_ | ((first | apply ow_cons | apply qw_cons); · simp only [push_cast, env, Nat.reduceEqDiff, reduceIte, Nat.reduceAdd, Nat.reduceMul, Nat.reduceLeDiff, reduceCtorEq, Nat.reduceSub, Int.reduceToNat] <;> exact rfl) | ((first | apply ow_spec | apply qw_spec); · simp only [push_cast, env, Nat.reduceEqDiff, reduceIte, Nat.reduceAdd, Nat.reduceMul, Nat.reduceLeDiff, reduceCtorEq, Nat.reduceSub, Int.reduceToNat] <;> exact rfl) | refine qw_nil ?_ | refine cw_block ?_ | refine cw_scope ?_ | refine cw_label ?_ | refine cw_skip ?_)
    refine cw_ret ?_
    exact ⟨_, (by simp only [push_cast, env, Nat.reduceEqDiff, reduceIte, Nat.reduceAdd, Nat.reduceMul, Nat.reduceLeDiff, reduceCtorEq, Nat.reduceSub, Int.reduceToNat] <;> exact rfl), rfl, rfl⟩
theorem right_less {g : Gram} {r : Rule} (h : ¬ badG ⟨g.nts, g.start, g.rules ++ [r]⟩) : ¬ badG g := by
  unfold badG at h ⊢
  rintro (c | c | c | c | c | ⟨q, hq, c⟩)
  · exact h (.inl c)
  · exact h (.inr (.inl c))
  · exact h (.inr (.inr (.inl c)))
  · exact h (.inr (.inr (.inr (.inl c))))
  · exact h (.inr (.inr (.inr (.inr (.inl (by simp; omega))))))
  · exact h (.inr (.inr (.inr (.inr (.inr ⟨q, List.mem_append_left _ hq, c⟩)))))
theorem marks_less {n : Int} {D D' : Int → Prop} {a b : List Bool} (ha : Marks n D a) (hb : Marks n D' b) (h : ∀ i, D i → D' i) : a.length = b.length ∧ ∀ (i : Nat) (h1 : i < a.length) (h2 : i < b.length), a[i] = true → b[i] = true := by
  have h1 := ha.1
  have h2 := hb.1
  refine ⟨by omega, fun i i1 i2 hh => ?_⟩
  have k1 := ha.2 i (by omega) (by omega)
  have k2 := hb.2 i (by omega) (by omega)
  rw [bit_get (by omega) (by omega)] at k1 k2
  simp only [Int.toNat_natCast] at k1 k2
  exact k2.2 (h _ (k1.1 hh))
theorem shorts_less {g x : Gram} (hab : ∀ r ∈ g.rules, r ∈ x.rules) {i v w : Int} (hv : ShortOK g i v) (hw : ShortOK x i w) : 0 ≤ v → 0 ≤ w ∧ w ≤ v := by
  intro h0
  rcases hv with ⟨rfl, _⟩ | ⟨_, ⟨n, hn, e⟩, _⟩
  · omega
  · have hx := hn.more hab
    rcases hw with ⟨rfl, hno⟩ | ⟨p, _, hle⟩
    · exact (hno n hx).elim
    · have := hle n hx
      omega
set_option maxHeartbeats 8000000 in
theorem factsmore_fw {h : Heap} {g : Gram} {r : Rule} {v rv : Value} (hr : RdGram h v g) (hrr : RdRule h rv r) (hn : -9223372036854775808 ≤ g.nts) (hlen : g.rules.length * 32 ≤ 140737488351232) : FW env 10 [v, rv] h fun x _ => x = .bool true := by
  obtain ⟨u, rfl, hu⟩ := id hr
  obtain ⟨p, c, rfl⟩ := hu.form
  obtain ⟨ur, rfl, hur⟩ := id hrr
  obtain ⟨pr, cr, rfl⟩ := SlR.form hur
  refine fw_enter (fn := Try.f10) Try.func10 rfl (by kernel_rfl) (by simp [Try.ntmps10]) ?_; simp only [push_cast]
  repeat (first | refine cw_seq ?_ | refine cw_region ?_ | refine ow_nil ?_ | ((first | apply ow_cons | apply qw_cons); · simp only [push_cast, env, Nat.reduceEqDiff, reduceIte, Nat.reduceAdd, Nat.reduceMul, Nat.reduceLeDiff, reduceCtorEq, Nat.reduceSub, Int.reduceToNat] <;> exact rfl) | ((first | apply ow_spec | apply qw_spec); · simp only [push_cast, env, Nat.reduceEqDiff, reduceIte, Nat.reduceAdd, Nat.reduceMul, Nat.reduceLeDiff, reduceCtorEq, Nat.reduceSub, Int.reduceToNat] <;> exact rfl) | refine qw_nil ?_ | refine cw_block ?_ | refine cw_scope ?_ | refine cw_label ?_ | refine cw_skip ?_)
  refine ow_call (fn := Try.f14) (by simp only [push_cast, env, Nat.reduceEqDiff, reduceIte, Nat.reduceAdd, Nat.reduceMul, Nat.reduceLeDiff, reduceCtorEq, Nat.reduceSub, Int.reduceToNat] <;> exact rfl) rfl (by simp only [push_cast, env, Nat.reduceEqDiff, reduceIte, Nat.reduceAdd, Nat.reduceMul, Nat.reduceLeDiff, reduceCtorEq, Nat.reduceSub, Int.reduceToNat] <;> exact rfl) (by simp only [push_cast, env, Nat.reduceEqDiff, reduceIte, Nat.reduceAdd, Nat.reduceMul, Nat.reduceLeDiff, reduceCtorEq, Nat.reduceSub, Int.reduceToNat] <;> exact rfl) Try.func14 (by kernel_rfl) (by kernel_rfl) ?_
  rw [List.append_nil]
  refine (copygram2_fw hr).mono ?_
  rintro _ h0 ⟨q, cq, us, rfl, hB, hI⟩
  have hp0 := hB.p
  refine ow_boxH (t := 24) (cs := [i64 0, i64 0, nilS]) (by simp only [push_cast, env, Nat.reduceEqDiff, reduceIte, Nat.reduceAdd, Nat.reduceMul, Nat.reduceLeDiff, reduceCtorEq, Nat.reduceSub, Int.reduceToNat] <;> exact rfl) (by simp only [push_cast, env, Nat.reduceEqDiff, reduceIte, Nat.reduceAdd, Nat.reduceMul, Nat.reduceLeDiff, reduceCtorEq, Nat.reduceSub, Int.reduceToNat] <;> exact rfl) ?_
  refine ow_stoH (by simp only [push_cast, env, Nat.reduceEqDiff, reduceIte, Nat.reduceAdd, Nat.reduceMul, Nat.reduceLeDiff, reduceCtorEq, Nat.reduceSub, Int.reduceToNat] <;> exact rfl) rfl rfl (by simp only [push_cast, env, Nat.reduceEqDiff, reduceIte, Nat.reduceAdd, Nat.reduceMul, Nat.reduceLeDiff, reduceCtorEq, Nat.reduceSub, Int.reduceToNat] <;> exact rfl) (by simp only [push_cast, env, Nat.reduceEqDiff, reduceIte, Nat.reduceAdd, Nat.reduceMul, Nat.reduceLeDiff, reduceCtorEq, Nat.reduceSub, Int.reduceToNat] <;> exact rfl) get_push (by simp only [push_cast, env, Nat.reduceEqDiff, reduceIte, Nat.reduceAdd, Nat.reduceMul, Nat.reduceLeDiff, reduceCtorEq, Nat.reduceSub, Int.reduceToNat] <;> exact rfl) rfl rfl ?_
  dsimp only [St.putO, St.put]
  rw [show ∀ (H : Heap) (a b : HObj), (H ++ [a]).set H.length b = H ++ [b] from fun H a b => by simp]
  have hB1 := hB.keep (h' := h0 ++ [.arr [i64 g.nts, i64 g.start, .slice q g.rules.length cq] 0 true 24]) prefix_push
  have hx1 : (h0 ++ [HObj.arr [i64 g.nts, i64 g.start, .slice q g.rules.length cq] 0 true 24])[h0.length]? = _ := get_push
  have hl1 : (h0 ++ [HObj.arr [i64 g.nts, i64 g.start, .slice q g.rules.length cq] 0 true 24]).length = h0.length + 1 := by simp
  change OW _ _ _ ⟨_, _, h0 ++ [HObj.arr [i64 g.nts, i64 g.start, .slice q g.rules.length cq] 0 true 24]⟩ _
  generalize (h0 ++ [HObj.arr [i64 g.nts, i64 g.start, .slice q g.rules.length cq] 0 true 24]) = h1 at hB1 hx1 hl1 ⊢
  have hI1 : Ids h h1 us := fun x hx j hj => by have := hI x hx j hj; omega
  have hat : isAt (.slice q g.rules.length cq) h0.length = false := by
    cases hb : isAt (.slice q g.rules.length cq) h0.length with
    | false => rfl
    | true => have := (hB.g.lt hb).2; omega
  have hle0 := hp0.length_le
  have hvr : ∀ j, h.length ≤ j → isAtS (.slice pr r.rhs.length cr) j = false := fun j hj => slr_block hur hj
  obtain ⟨p2, c2, h2, hone, hB2, hpr, hx2, hl2⟩ := hB1.push' (r := r) (SlR.mono hur hB1.p) (fun j hj hu => hvr j (hB.g.lt hu).1) (hvr _ (by omega)) (ids_new hI1) (by omega)
  have hx2' : h2[h0.length]? = some (.arr [i64 g.nts, i64 g.start, .slice q g.rules.length cq] 0 true 24) := hpr _ _ hat hx1
  have hat2 : isAt (.slice p2 (g.rules.length + 1) c2) h0.length = false := by
    cases hb : isAt (.slice p2 (g.rules.length + 1) c2) h0.length with
    | false => rfl
    | true =>
      rcases hx2 _ hb with h1 | h1
      · rw [hat] at h1
        cases h1
      · omega
  have hus2 : ∀ y ∈ us ++ [.slice pr r.rhs.length cr], isAtS y h0.length = false := fun y hy => by
    rw [List.mem_append] at hy
    rcases hy with hy | hy
    · cases hb : isAtS y h0.length with
      | false => rfl
      | true => have := (hI y hy _ hb).2; omega
    · obtain rfl : y = _ := by simpa using hy
      exact hvr _ hle0
  have hB3 := hB2.set (X := .arr [i64 g.nts, i64 g.start, .slice p2 (g.rules.length + 1) c2] 0 true 24) hle0 hat2 hus2
  have hx3 := get_set_self (x := .arr [i64 g.nts, i64 g.start, .slice p2 (g.rules.length + 1) c2] 0 true 24) hx2'
  repeat (first | refine cw_seq ?_ | refine cw_region ?_ | refine ow_nil ?_ | ((first | apply ow_cons | apply qw_cons); · simp only [push_cast, env, Nat.reduceEqDiff, reduceIte, Nat.reduceAdd, Nat.reduceMul, Nat.reduceLeDiff, reduceCtorEq, Nat.reduceSub, Int.reduceToNat, hx1] <;> exact rfl) | ((first | apply ow_spec | apply qw_spec); · simp only [push_cast, env, Nat.reduceEqDiff, reduceIte, Nat.reduceAdd, Nat.reduceMul, Nat.reduceLeDiff, reduceCtorEq, Nat.reduceSub, Int.reduceToNat, hx1] <;> exact rfl) | refine qw_nil ?_ | refine cw_block ?_ | refine cw_scope ?_ | refine cw_label ?_ | refine cw_skip ?_)
  refine owv (hone _ _ _ _ _ rfl (by simp only [push_cast, env, Nat.reduceEqDiff, reduceIte, Nat.reduceAdd, Nat.reduceMul, Nat.reduceLeDiff, reduceCtorEq, Nat.reduceSub, Int.reduceToNat] <;> exact rfl) rfl (by simp only [push_cast, env, Nat.reduceEqDiff, reduceIte, Nat.reduceAdd, Nat.reduceMul, Nat.reduceLeDiff, reduceCtorEq, Nat.reduceSub, Int.reduceToNat] <;> exact rfl) (by simp only [push_cast, env, Nat.reduceEqDiff, reduceIte, Nat.reduceAdd, Nat.reduceMul, Nat.reduceLeDiff, reduceCtorEq, Nat.reduceSub, Int.reduceToNat] <;> exact rfl)) ?_
  dsimp only [St.putO, St.put]
  repeat (first | refine cw_seq ?_ | refine cw_region ?_ | refine ow_nil ?_ | ((first | apply ow_cons | apply qw_cons); · simp only [push_cast, env, Nat.reduceEqDiff, reduceIte, Nat.reduceAdd, Nat.reduceMul, Nat.reduceLeDiff, reduceCtorEq, Nat.reduceSub, Int.reduceToNat, hx2'] <;> exact rfl) | ((first | apply ow_spec | apply qw_spec); · simp only [push_cast, env, Nat.reduceEqDiff, reduceIte, Nat.reduceAdd, Nat.reduceMul, Nat.reduceLeDiff, reduceCtorEq, Nat.reduceSub, Int.reduceToNat, hx2'] <;> exact rfl) | refine qw_nil ?_ | refine cw_block ?_ | refine cw_scope ?_ | refine cw_label ?_ | refine cw_skip ?_)
  refine ow_stoH (by simp only [push_cast, env, Nat.reduceEqDiff, reduceIte, Nat.reduceAdd, Nat.reduceMul, Nat.reduceLeDiff, reduceCtorEq, Nat.reduceSub, Int.reduceToNat] <;> exact rfl) rfl rfl (by simp only [push_cast, env, Nat.reduceEqDiff, reduceIte, Nat.reduceAdd, Nat.reduceMul, Nat.reduceLeDiff, reduceCtorEq, Nat.reduceSub, Int.reduceToNat] <;> exact rfl) (by simp only [push_cast, env, Nat.reduceEqDiff, reduceIte, Nat.reduceAdd, Nat.reduceMul, Nat.reduceLeDiff, reduceCtorEq, Nat.reduceSub, Int.reduceToNat] <;> exact rfl) hx2' (by simp only [push_cast, env, Nat.reduceEqDiff, reduceIte, Nat.reduceAdd, Nat.reduceMul, Nat.reduceLeDiff, reduceCtorEq, Nat.reduceSub, Int.reduceToNat] <;> exact rfl) rfl rfl ?_
  dsimp only [St.putO, St.put]
  change OW _ _ _ ⟨_, _, h2.set h0.length (.arr [i64 g.nts, i64 g.start, .slice p2 (g.rules.length + 1) c2] 0 true 24)⟩ _
  have hX : RdGram (h2.set h0.length (.arr [i64 g.nts, i64 g.start, .slice p2 (g.rules.length + 1) c2] 0 true 24)) (.agg #[i64 g.nts, i64 g.start, .slice p2 (g.rules.length + 1) c2]) ⟨g.nts, g.start, g.rules ++ [r]⟩ := ⟨_, rfl, hB3.rd (by simp; omega)⟩
  have hbl : ¬ badG ⟨g.nts, g.start, g.rules ++ [r]⟩ → ¬ badG g := right_less
  have hsub : ∀ y ∈ g.rules, y ∈ (⟨g.nts, g.start, g.rules ++ [r]⟩ : Gram).rules := fun y hy => List.mem_append_left _ hy
  have hnX : (⟨g.nts, g.start, g.rules ++ [r]⟩ : Gram).nts = g.nts := rfl
  have hsX : g.start = (⟨g.nts, g.start, g.rules ++ [r]⟩ : Gram).start := rfl
  have hp3 := hB3.p
  generalize (⟨g.nts, g.start, g.rules ++ [r]⟩ : Gram) = X at hX hbl hsub hnX hsX ⊢
  change (h2.set h0.length (.arr [i64 g.nts, i64 g.start, .slice p2 (g.rules.length + 1) c2] 0 true 24))[h0.length]? = _ at hx3
  generalize h2.set h0.length (.arr [i64 g.nts, i64 g.start, .slice p2 (g.rules.length + 1) c2] 0 true 24) = h3 at hX hx3 hp3 ⊢
  clear hB hB1 hB2 hB3 hone hpr hx2 hx2' hx1 hl1 hl2 hI hI1 hat hat2 hus2
  repeat (first | refine cw_seq ?_ | refine cw_region ?_ | refine ow_nil ?_ | ((first | apply ow_cons | apply qw_cons); · simp only [push_cast, env, Nat.reduceEqDiff, reduceIte, Nat.reduceAdd, Nat.reduceMul, Nat.reduceLeDiff, reduceCtorEq, Nat.reduceSub, Int.reduceToNat, hx3] <;> exact rfl) | ((first | apply ow_spec | apply qw_spec); · simp only [push_cast, env, Nat.reduceEqDiff, reduceIte, Nat.reduceAdd, Nat.reduceMul, Nat.reduceLeDiff, reduceCtorEq, Nat.reduceSub, Int.reduceToNat, hx3] <;> exact rfl) | refine qw_nil ?_ | refine cw_block ?_ | refine cw_scope ?_ | refine cw_label ?_ | refine cw_skip ?_)
  refine ow_call (fn := Try.f11) (by simp only [push_cast, env, Nat.reduceEqDiff, reduceIte, Nat.reduceAdd, Nat.reduceMul, Nat.reduceLeDiff, reduceCtorEq, Nat.reduceSub, Int.reduceToNat, hx3] <;> exact rfl) rfl (by simp only [push_cast, env, Nat.reduceEqDiff, reduceIte, Nat.reduceAdd, Nat.reduceMul, Nat.reduceLeDiff, reduceCtorEq, Nat.reduceSub, Int.reduceToNat, hx3] <;> exact rfl) (by simp only [push_cast, env, Nat.reduceEqDiff, reduceIte, Nat.reduceAdd, Nat.reduceMul, Nat.reduceLeDiff, reduceCtorEq, Nat.reduceSub, Int.reduceToNat, hx3] <;> exact rfl) Try.func11 (by kernel_rfl) (by kernel_rfl) ?_
  rw [List.append_nil]
  refine (heavy_fw hX (by rw [hnX]; exact hn) (by decide)).mono ?_
  rintro _ h3 ⟨rfl, rfl⟩
  repeat (first | refine cw_seq ?_ | refine cw_region ?_ | refine ow_nil ?_ | ((first | apply ow_cons | apply qw_cons); · simp only [push_cast, env, Nat.reduceEqDiff, reduceIte, Nat.reduceAdd, Nat.reduceMul, Nat.reduceLeDiff, reduceCtorEq, Nat.reduceSub, Int.reduceToNat] <;> exact rfl) | ((first | apply ow_spec | apply qw_spec); · simp only [push_cast, env, Nat.reduceEqDiff, reduceIte, Nat.reduceAdd, Nat.reduceMul, Nat.reduceLeDiff, reduceCtorEq, Nat.reduceSub, Int.reduceToNat] <;> exact rfl) | refine qw_nil ?_ | refine cw_block ?_ | refine cw_scope ?_ | refine cw_label ?_ | refine cw_skip ?_)
  refine cw_cond (by simp only [push_cast, env, Nat.reduceEqDiff, reduceIte, Nat.reduceAdd, Nat.reduceMul, Nat.reduceLeDiff, reduceCtorEq, Nat.reduceSub, Int.reduceToNat] <;> exact rfl) (fun c1 => ?_) (fun c1 => ?_)
  · repeat (first | refine cw_seq ?_ | refine cw_region ?_ | refine ow_nil ?_ | ((first | apply ow_cons | apply qw_cons); · simp only [push_cast, env, Nat.reduceEqDiff, reduceIte, Nat.reduceAdd, Nat.reduceMul, Nat.reduceLeDiff, reduceCtorEq, Nat.reduceSub, Int.reduceToNat] <;> exact rfl) | ((first | apply ow_spec | apply qw_spec); · simp only [push_cast, env, Nat.reduceEqDiff, reduceIte, Nat.reduceAdd, Nat.reduceMul, Nat.reduceLeDiff, reduceCtorEq, Nat.reduceSub, Int.reduceToNat] <;> exact rfl) | refine qw_nil ?_ | refine cw_block ?_ | refine cw_scope ?_ | refine cw_label ?_ | refine cw_skip ?_)
    refine ow_call (fn := Try.f12) (by simp only [push_cast, env, Nat.reduceEqDiff, reduceIte, Nat.reduceAdd, Nat.reduceMul, Nat.reduceLeDiff, reduceCtorEq, Nat.reduceSub, Int.reduceToNat] <;> exact rfl) rfl (by simp only [push_cast, env, Nat.reduceEqDiff, reduceIte, Nat.reduceAdd, Nat.reduceMul, Nat.reduceLeDiff, reduceCtorEq, Nat.reduceSub, Int.reduceToNat] <;> exact rfl) (by simp only [push_cast, env, Nat.reduceEqDiff, reduceIte, Nat.reduceAdd, Nat.reduceMul, Nat.reduceLeDiff, reduceCtorEq, Nat.reduceSub, Int.reduceToNat] <;> exact rfl) Try.func12 (by kernel_rfl) (by kernel_rfl) ?_
    refine alive_fw.mono ?_
    rintro _ hz ⟨rfl, rfl⟩
    repeat (first | refine cw_seq ?_ | refine cw_region ?_ | refine ow_nil ?_ | ((first | apply ow_cons | apply qw_cons); · simp only [push_cast, env, Nat.reduceEqDiff, reduceIte, Nat.reduceAdd, Nat.reduceMul, Nat.reduceLeDiff, reduceCtorEq, Nat.reduceSub, Int.reduceToNat] <;> exact rfl) | ((first | apply ow_spec | apply qw_spec); · simp only [push_cast, env, Nat.reduceEqDiff, reduceIte, Nat.reduceAdd, Nat.reduceMul, Nat.reduceLeDiff, reduceCtorEq, Nat.reduceSub, Int.reduceToNat] <;> exact rfl) | refine qw_nil ?_ | refine cw_block ?_ | refine cw_scope ?_ | refine cw_label ?_ | refine cw_skip ?_)
    refine cw_ret ?_
    exact ⟨_, (by simp only [push_cast, env, Nat.reduceEqDiff, reduceIte, Nat.reduceAdd, Nat.reduceMul, Nat.reduceLeDiff, reduceCtorEq, Nat.reduceSub, Int.reduceToNat] <;> exact rfl), rfl⟩
  repeat (first | refine cw_seq ?_ | refine cw_region ?_ | refine ow_nil ?_ | ((first | apply ow_cons | apply qw_cons); · simp only [push_cast, env, Nat.reduceEqDiff, reduceIte, Nat.reduceAdd, Nat.reduceMul, Nat.reduceLeDiff, reduceCtorEq, Nat.reduceSub, Int.reduceToNat, hx3] <;> exact rfl) | ((first | apply ow_spec | apply qw_spec); · simp only [push_cast, env, Nat.reduceEqDiff, reduceIte, Nat.reduceAdd, Nat.reduceMul, Nat.reduceLeDiff, reduceCtorEq, Nat.reduceSub, Int.reduceToNat, hx3] <;> exact rfl) | refine qw_nil ?_ | refine cw_block ?_ | refine cw_scope ?_ | refine cw_label ?_ | refine cw_skip ?_)
  refine ow_call (fn := Try.f13) (by simp only [push_cast, env, Nat.reduceEqDiff, reduceIte, Nat.reduceAdd, Nat.reduceMul, Nat.reduceLeDiff, reduceCtorEq, Nat.reduceSub, Int.reduceToNat, hx3] <;> exact rfl) rfl (by simp only [push_cast, env, Nat.reduceEqDiff, reduceIte, Nat.reduceAdd, Nat.reduceMul, Nat.reduceLeDiff, reduceCtorEq, Nat.reduceSub, Int.reduceToNat, hx3] <;> exact rfl) (by simp only [push_cast, env, Nat.reduceEqDiff, reduceIte, Nat.reduceAdd, Nat.reduceMul, Nat.reduceLeDiff, reduceCtorEq, Nat.reduceSub, Int.reduceToNat, hx3] <;> exact rfl) Try.func13 (by kernel_rfl) (by kernel_rfl) ?_
  rw [List.append_nil]
  refine (right_fw hX).mono ?_
  rintro _ h3 ⟨rfl, rfl⟩
  by_cases hbX : badG X
  · rw [show rightG X = 3 from if_pos hbX]
    repeat (first | refine cw_seq ?_ | refine cw_region ?_ | refine ow_nil ?_ | ((first | apply ow_cons | apply qw_cons); · simp only [push_cast, env, Nat.reduceEqDiff, reduceIte, Nat.reduceAdd, Nat.reduceMul, Nat.reduceLeDiff, reduceCtorEq, Nat.reduceSub, Int.reduceToNat] <;> exact rfl) | ((first | apply ow_spec | apply qw_spec); · simp only [push_cast, env, Nat.reduceEqDiff, reduceIte, Nat.reduceAdd, Nat.reduceMul, Nat.reduceLeDiff, reduceCtorEq, Nat.reduceSub, Int.reduceToNat] <;> exact rfl) | refine qw_nil ?_ | refine cw_block ?_ | refine cw_scope ?_ | refine cw_label ?_ | refine cw_skip ?_)
    refine cw_condT (by simp only [push_cast, env, Nat.reduceEqDiff, reduceIte, Nat.reduceAdd, Nat.reduceMul, Nat.reduceLeDiff, reduceCtorEq, Nat.reduceSub, Int.reduceToNat] <;> exact rfl) ?_
    repeat (first | refine cw_seq ?_ | refine cw_region ?_ | refine ow_nil ?_ | ((first | apply ow_cons | apply qw_cons); · simp only [push_cast, env, Nat.reduceEqDiff, reduceIte, Nat.reduceAdd, Nat.reduceMul, Nat.reduceLeDiff, reduceCtorEq, Nat.reduceSub, Int.reduceToNat] <;> exact rfl) | ((first | apply ow_spec | apply qw_spec); · simp only [push_cast, env, Nat.reduceEqDiff, reduceIte, Nat.reduceAdd, Nat.reduceMul, Nat.reduceLeDiff, reduceCtorEq, Nat.reduceSub, Int.reduceToNat] <;> exact rfl) | refine qw_nil ?_ | refine cw_block ?_ | refine cw_scope ?_ | refine cw_label ?_ | refine cw_skip ?_)
    refine ow_call (fn := Try.f12) (by simp only [push_cast, env, Nat.reduceEqDiff, reduceIte, Nat.reduceAdd, Nat.reduceMul, Nat.reduceLeDiff, reduceCtorEq, Nat.reduceSub, Int.reduceToNat] <;> exact rfl) rfl (by simp only [push_cast, env, Nat.reduceEqDiff, reduceIte, Nat.reduceAdd, Nat.reduceMul, Nat.reduceLeDiff, reduceCtorEq, Nat.reduceSub, Int.reduceToNat] <;> exact rfl) (by simp only [push_cast, env, Nat.reduceEqDiff, reduceIte, Nat.reduceAdd, Nat.reduceMul, Nat.reduceLeDiff, reduceCtorEq, Nat.reduceSub, Int.reduceToNat] <;> exact rfl) Try.func12 (by kernel_rfl) (by kernel_rfl) ?_
    refine alive_fw.mono ?_
    rintro _ hz ⟨rfl, rfl⟩
    repeat (first | refine cw_seq ?_ | refine cw_region ?_ | refine ow_nil ?_ | ((first | apply ow_cons | apply qw_cons); · simp only [push_cast, env, Nat.reduceEqDiff, reduceIte, Nat.reduceAdd, Nat.reduceMul, Nat.reduceLeDiff, reduceCtorEq, Nat.reduceSub, Int.reduceToNat] <;> exact rfl) | ((first | apply ow_spec | apply qw_spec); · simp only [push_cast, env, Nat.reduceEqDiff, reduceIte, Nat.reduceAdd, Nat.reduceMul, Nat.reduceLeDiff, reduceCtorEq, Nat.reduceSub, Int.reduceToNat] <;> exact rfl) | refine qw_nil ?_ | refine cw_block ?_ | refine cw_scope ?_ | refine cw_label ?_ | refine cw_skip ?_)
    refine cw_ret ?_
    exact ⟨_, (by simp only [push_cast, env, Nat.reduceEqDiff, reduceIte, Nat.reduceAdd, Nat.reduceMul, Nat.reduceLeDiff, reduceCtorEq, Nat.reduceSub, Int.reduceToNat] <;> exact rfl), rfl⟩
  rw [show rightG X = 0 from if_neg hbX]
  repeat (first | refine cw_seq ?_ | refine cw_region ?_ | refine ow_nil ?_ | ((first | apply ow_cons | apply qw_cons); · simp only [push_cast, env, Nat.reduceEqDiff, reduceIte, Nat.reduceAdd, Nat.reduceMul, Nat.reduceLeDiff, reduceCtorEq, Nat.reduceSub, Int.reduceToNat] <;> exact rfl) | ((first | apply ow_spec | apply qw_spec); · simp only [push_cast, env, Nat.reduceEqDiff, reduceIte, Nat.reduceAdd, Nat.reduceMul, Nat.reduceLeDiff, reduceCtorEq, Nat.reduceSub, Int.reduceToNat] <;> exact rfl) | refine qw_nil ?_ | refine cw_block ?_ | refine cw_scope ?_ | refine cw_label ?_ | refine cw_skip ?_)
  refine cw_condF (by simp only [push_cast, env, Nat.reduceEqDiff, reduceIte, Nat.reduceAdd, Nat.reduceMul, Nat.reduceLeDiff, reduceCtorEq, Nat.reduceSub, Int.reduceToNat] <;> exact rfl) ?_
  have hb := hbl hbX
  have R := rightS hb
  have n1 := R.n1
  have n2 := R.n2
  repeat (first | refine cw_seq ?_ | refine cw_region ?_ | refine ow_nil ?_ | ((first | apply ow_cons | apply qw_cons); · simp only [push_cast, env, Nat.reduceEqDiff, reduceIte, Nat.reduceAdd, Nat.reduceMul, Nat.reduceLeDiff, reduceCtorEq, Nat.reduceSub, Int.reduceToNat, hx3] <;> exact rfl) | ((first | apply ow_spec | apply qw_spec); · simp only [push_cast, env, Nat.reduceEqDiff, reduceIte, Nat.reduceAdd, Nat.reduceMul, Nat.reduceLeDiff, reduceCtorEq, Nat.reduceSub, Int.reduceToNat, hx3] <;> exact rfl) | refine qw_nil ?_ | refine cw_block ?_ | refine cw_scope ?_ | refine cw_label ?_ | refine cw_skip ?_)
  refine ow_call (fn := Try.f22) (by simp only [push_cast, env, Nat.reduceEqDiff, reduceIte, Nat.reduceAdd, Nat.reduceMul, Nat.reduceLeDiff, reduceCtorEq, Nat.reduceSub, Int.reduceToNat, hx3] <;> exact rfl) rfl (by simp only [push_cast, env, Nat.reduceEqDiff, reduceIte, Nat.reduceAdd, Nat.reduceMul, Nat.reduceLeDiff, reduceCtorEq, Nat.reduceSub, Int.reduceToNat, hx3] <;> exact rfl) (by simp only [push_cast, env, Nat.reduceEqDiff, reduceIte, Nat.reduceAdd, Nat.reduceMul, Nat.reduceLeDiff, reduceCtorEq, Nat.reduceSub, Int.reduceToNat, hx3] <;> exact rfl) Try.func22 (by kernel_rfl) (by kernel_rfl) ?_
  rw [List.append_nil]
  refine (nullable_fw (hr.mono hp3)).mono ?_
  rintro _ h4 ⟨tt, q4⟩
  obtain ⟨_, tt, m1, a1, i1, v1, k1, rfl, g1⟩ := tt.good hb
  rw [tt]
  clear tt
  have l1 := (a1).1
  have hx4 := getElem?_prefix q4 hx3
  repeat (first | refine cw_seq ?_ | refine cw_region ?_ | refine ow_nil ?_ | ((first | apply ow_cons | apply qw_cons); · simp only [push_cast, env, Nat.reduceEqDiff, reduceIte, Nat.reduceAdd, Nat.reduceMul, Nat.reduceLeDiff, reduceCtorEq, Nat.reduceSub, Int.reduceToNat, hx4] <;> exact rfl) | ((first | apply ow_spec | apply qw_spec); · simp only [push_cast, env, Nat.reduceEqDiff, reduceIte, Nat.reduceAdd, Nat.reduceMul, Nat.reduceLeDiff, reduceCtorEq, Nat.reduceSub, Int.reduceToNat, hx4] <;> exact rfl) | refine qw_nil ?_ | refine cw_block ?_ | refine cw_scope ?_ | refine cw_label ?_ | refine cw_skip ?_)
  refine ow_call (fn := Try.f22) (by simp only [push_cast, env, Nat.reduceEqDiff, reduceIte, Nat.reduceAdd, Nat.reduceMul, Nat.reduceLeDiff, reduceCtorEq, Nat.reduceSub, Int.reduceToNat, hx4] <;> exact rfl) rfl (by simp only [push_cast, env, Nat.reduceEqDiff, reduceIte, Nat.reduceAdd, Nat.reduceMul, Nat.reduceLeDiff, reduceCtorEq, Nat.reduceSub, Int.reduceToNat, hx4] <;> exact rfl) (by simp only [push_cast, env, Nat.reduceEqDiff, reduceIte, Nat.reduceAdd, Nat.reduceMul, Nat.reduceLeDiff, reduceCtorEq, Nat.reduceSub, Int.reduceToNat, hx4] <;> exact rfl) Try.func22 (by kernel_rfl) (by kernel_rfl) ?_
  rw [List.append_nil]
  refine (nullable_fw (hX.mono q4)).mono ?_
  rintro _ h5 ⟨tt, q5⟩
  obtain ⟨_, tt, m2, a2, i2, v2, k2, rfl, g2⟩ := tt.good hbX
  rw [tt]
  clear tt
  have l2 := (a2).1
  have hx5 := getElem?_prefix q5 hx4
  have r5 := q4.trans q5
  repeat (first | refine cw_seq ?_ | refine cw_region ?_ | refine ow_nil ?_ | ((first | apply ow_cons | apply qw_cons); · simp only [push_cast, env, Nat.reduceEqDiff, reduceIte, Nat.reduceAdd, Nat.reduceMul, Nat.reduceLeDiff, reduceCtorEq, Nat.reduceSub, Int.reduceToNat, hx5] <;> exact rfl) | ((first | apply ow_spec | apply qw_spec); · simp only [push_cast, env, Nat.reduceEqDiff, reduceIte, Nat.reduceAdd, Nat.reduceMul, Nat.reduceLeDiff, reduceCtorEq, Nat.reduceSub, Int.reduceToNat, hx5] <;> exact rfl) | refine qw_nil ?_ | refine cw_block ?_ | refine cw_scope ?_ | refine cw_label ?_ | refine cw_skip ?_)
  refine ow_call (fn := Try.f23) (by simp only [push_cast, env, Nat.reduceEqDiff, reduceIte, Nat.reduceAdd, Nat.reduceMul, Nat.reduceLeDiff, reduceCtorEq, Nat.reduceSub, Int.reduceToNat, hx5] <;> exact rfl) rfl (by simp only [push_cast, env, Nat.reduceEqDiff, reduceIte, Nat.reduceAdd, Nat.reduceMul, Nat.reduceLeDiff, reduceCtorEq, Nat.reduceSub, Int.reduceToNat, hx5] <;> exact rfl) (by simp only [push_cast, env, Nat.reduceEqDiff, reduceIte, Nat.reduceAdd, Nat.reduceMul, Nat.reduceLeDiff, reduceCtorEq, Nat.reduceSub, Int.reduceToNat, hx5] <;> exact rfl) Try.func23 (by kernel_rfl) (by kernel_rfl) ?_
  rw [List.append_nil]
  refine (productive_fw (hr.mono (hp3.trans r5))).mono ?_
  rintro _ h6 ⟨tt, q6⟩
  obtain ⟨_, tt, m3, a3, i3, v3, k3, rfl, g3⟩ := tt.good hb
  rw [tt]
  clear tt
  have l3 := (a3).1
  have hx6 := getElem?_prefix q6 hx5
  have r6 := r5.trans q6
  repeat (first | refine cw_seq ?_ | refine cw_region ?_ | refine ow_nil ?_ | ((first | apply ow_cons | apply qw_cons); · simp only [push_cast, env, Nat.reduceEqDiff, reduceIte, Nat.reduceAdd, Nat.reduceMul, Nat.reduceLeDiff, reduceCtorEq, Nat.reduceSub, Int.reduceToNat, hx6] <;> exact rfl) | ((first | apply ow_spec | apply qw_spec); · simp only [push_cast, env, Nat.reduceEqDiff, reduceIte, Nat.reduceAdd, Nat.reduceMul, Nat.reduceLeDiff, reduceCtorEq, Nat.reduceSub, Int.reduceToNat, hx6] <;> exact rfl) | refine qw_nil ?_ | refine cw_block ?_ | refine cw_scope ?_ | refine cw_label ?_ | refine cw_skip ?_)
  refine ow_call (fn := Try.f23) (by simp only [push_cast, env, Nat.reduceEqDiff, reduceIte, Nat.reduceAdd, Nat.reduceMul, Nat.reduceLeDiff, reduceCtorEq, Nat.reduceSub, Int.reduceToNat, hx6] <;> exact rfl) rfl (by simp only [push_cast, env, Nat.reduceEqDiff, reduceIte, Nat.reduceAdd, Nat.reduceMul, Nat.reduceLeDiff, reduceCtorEq, Nat.reduceSub, Int.reduceToNat, hx6] <;> exact rfl) (by simp only [push_cast, env, Nat.reduceEqDiff, reduceIte, Nat.reduceAdd, Nat.reduceMul, Nat.reduceLeDiff, reduceCtorEq, Nat.reduceSub, Int.reduceToNat, hx6] <;> exact rfl) Try.func23 (by kernel_rfl) (by kernel_rfl) ?_
  rw [List.append_nil]
  refine (productive_fw (hX.mono r6)).mono ?_
  rintro _ h7 ⟨tt, q7⟩
  obtain ⟨_, tt, m4, a4, i4, v4, k4, rfl, g4⟩ := tt.good hbX
  rw [tt]
  clear tt
  have l4 := (a4).1
  have hx7 := getElem?_prefix q7 hx6
  have r7 := r6.trans q7
  repeat (first | refine cw_seq ?_ | refine cw_region ?_ | refine ow_nil ?_ | ((first | apply ow_cons | apply qw_cons); · simp only [push_cast, env, Nat.reduceEqDiff, reduceIte, Nat.reduceAdd, Nat.reduceMul, Nat.reduceLeDiff, reduceCtorEq, Nat.reduceSub, Int.reduceToNat, hx7] <;> exact rfl) | ((first | apply ow_spec | apply qw_spec); · simp only [push_cast, env, Nat.reduceEqDiff, reduceIte, Nat.reduceAdd, Nat.reduceMul, Nat.reduceLeDiff, reduceCtorEq, Nat.reduceSub, Int.reduceToNat, hx7] <;> exact rfl) | refine qw_nil ?_ | refine cw_block ?_ | refine cw_scope ?_ | refine cw_label ?_ | refine cw_skip ?_)
  refine ow_call (fn := Try.f33) (by simp only [push_cast, env, Nat.reduceEqDiff, reduceIte, Nat.reduceAdd, Nat.reduceMul, Nat.reduceLeDiff, reduceCtorEq, Nat.reduceSub, Int.reduceToNat, hx7] <;> exact rfl) rfl (by simp only [push_cast, env, Nat.reduceEqDiff, reduceIte, Nat.reduceAdd, Nat.reduceMul, Nat.reduceLeDiff, reduceCtorEq, Nat.reduceSub, Int.reduceToNat, hx7] <;> exact rfl) (by simp only [push_cast, env, Nat.reduceEqDiff, reduceIte, Nat.reduceAdd, Nat.reduceMul, Nat.reduceLeDiff, reduceCtorEq, Nat.reduceSub, Int.reduceToNat, hx7] <;> exact rfl) Try.func33 (by kernel_rfl) (by kernel_rfl) ?_
  rw [List.append_nil]
  refine (reach_fw (hr.mono (hp3.trans r7))).mono ?_
  rintro _ h8 ⟨tt, q8⟩
  obtain ⟨_, tt, m5, a5, i5, v5, k5, rfl, g5⟩ := tt.good hb
  rw [tt]
  clear tt
  have l5 := (a5).1
  have hx8 := getElem?_prefix q8 hx7
  have r8 := r7.trans q8
  repeat (first | refine cw_seq ?_ | refine cw_region ?_ | refine ow_nil ?_ | ((first | apply ow_cons | apply qw_cons); · simp only [push_cast, env, Nat.reduceEqDiff, reduceIte, Nat.reduceAdd, Nat.reduceMul, Nat.reduceLeDiff, reduceCtorEq, Nat.reduceSub, Int.reduceToNat, hx8] <;> exact rfl) | ((first | apply ow_spec | apply qw_spec); · simp only [push_cast, env, Nat.reduceEqDiff, reduceIte, Nat.reduceAdd, Nat.reduceMul, Nat.reduceLeDiff, reduceCtorEq, Nat.reduceSub, Int.reduceToNat, hx8] <;> exact rfl) | refine qw_nil ?_ | refine cw_block ?_ | refine cw_scope ?_ | refine cw_label ?_ | refine cw_skip ?_)
  refine ow_call (fn := Try.f33) (by simp only [push_cast, env, Nat.reduceEqDiff, reduceIte, Nat.reduceAdd, Nat.reduceMul, Nat.reduceLeDiff, reduceCtorEq, Nat.reduceSub, Int.reduceToNat, hx8] <;> exact rfl) rfl (by simp only [push_cast, env, Nat.reduceEqDiff, reduceIte, Nat.reduceAdd, Nat.reduceMul, Nat.reduceLeDiff, reduceCtorEq, Nat.reduceSub, Int.reduceToNat, hx8] <;> exact rfl) (by simp only [push_cast, env, Nat.reduceEqDiff, reduceIte, Nat.reduceAdd, Nat.reduceMul, Nat.reduceLeDiff, reduceCtorEq, Nat.reduceSub, Int.reduceToNat, hx8] <;> exact rfl) Try.func33 (by kernel_rfl) (by kernel_rfl) ?_
  rw [List.append_nil]
  refine (reach_fw (hX.mono r8)).mono ?_
  rintro _ h9 ⟨tt, q9⟩
  obtain ⟨_, tt, m6, a6, i6, v6, k6, rfl, g6⟩ := tt.good hbX
  rw [tt]
  clear tt
  have l6 := (a6).1
  have hx9 := getElem?_prefix q9 hx8
  have r9 := r8.trans q9
  rw [hnX] at a2 a4 a6 l2 l4 l6
  have z1 := marks_less a1 a2 fun i h => Der.more hsub h
  have z2 := marks_less a3 a4 fun i h => Der.more hsub h
  have z3 := marks_less a5 a6 fun i h => Reached.more hsub hsX h
  have rb : ∀ {i v : Nat} {m : List Bool}, (m.length : Int) = g.nts → h9[i]? = some (.arr (m.map .bool) v true 4) → RdBools h9 (.slice (some ⟨i, 0, some v⟩) m.length m.length) m := fun {i v m} hl hg => ⟨by omega, .inr ⟨i, v, true, _, rfl, hg⟩⟩
  have b1 := rb l1 (getElem?_prefix (q5.trans (q6.trans (q7.trans (q8.trans q9)))) g1)
  have b2 := rb l2 (getElem?_prefix (q6.trans (q7.trans (q8.trans q9))) g2)
  have b3 := rb l3 (getElem?_prefix (q7.trans (q8.trans q9)) g3)
  have b4 := rb l4 (getElem?_prefix (q8.trans q9) g4)
  have b5 := rb l5 (getElem?_prefix q9 g5)
  have b6 := rb l6 g6
  have dl : decide ((m1.length : Int) = g.nts) = true := decide_eq_true l1
  repeat (first | refine cw_seq ?_ | refine cw_region ?_ | refine ow_nil ?_ | ((first | apply ow_cons | apply qw_cons); · simp only [push_cast, env, Nat.reduceEqDiff, reduceIte, Nat.reduceAdd, Nat.reduceMul, Nat.reduceLeDiff, reduceCtorEq, Nat.reduceSub, Int.reduceToNat] <;> exact rfl) | ((first | apply ow_spec | apply qw_spec); · simp only [push_cast, env, Nat.reduceEqDiff, reduceIte, Nat.reduceAdd, Nat.reduceMul, Nat.reduceLeDiff, reduceCtorEq, Nat.reduceSub, Int.reduceToNat] <;> exact rfl) | refine qw_nil ?_ | refine cw_block ?_ | refine cw_scope ?_ | refine cw_label ?_ | refine cw_skip ?_)
  refine ow_call (fn := Try.f36) (by simp only [push_cast, env, Nat.reduceEqDiff, reduceIte, Nat.reduceAdd, Nat.reduceMul, Nat.reduceLeDiff, reduceCtorEq, Nat.reduceSub, Int.reduceToNat] <;> exact rfl) rfl (by simp only [push_cast, env, Nat.reduceEqDiff, reduceIte, Nat.reduceAdd, Nat.reduceMul, Nat.reduceLeDiff, reduceCtorEq, Nat.reduceSub, Int.reduceToNat] <;> exact rfl) (by simp only [push_cast, env, Nat.reduceEqDiff, reduceIte, Nat.reduceAdd, Nat.reduceMul, Nat.reduceLeDiff, reduceCtorEq, Nat.reduceSub, Int.reduceToNat] <;> exact rfl) Try.func36 (by kernel_rfl) (by kernel_rfl) ?_
  rw [List.append_nil]
  refine (less_fw b1 b2 z1.1 z1.2).mono ?_
  rintro _ h9 ⟨rfl, rfl⟩
  repeat (first | refine cw_seq ?_ | refine cw_region ?_ | refine ow_nil ?_ | ((first | apply ow_cons | apply qw_cons); · simp only [push_cast, env, Nat.reduceEqDiff, reduceIte, Nat.reduceAdd, Nat.reduceMul, Nat.reduceLeDiff, reduceCtorEq, Nat.reduceSub, Int.reduceToNat] <;> exact rfl) | ((first | apply ow_spec | apply qw_spec); · simp only [push_cast, env, Nat.reduceEqDiff, reduceIte, Nat.reduceAdd, Nat.reduceMul, Nat.reduceLeDiff, reduceCtorEq, Nat.reduceSub, Int.reduceToNat] <;> exact rfl) | refine qw_nil ?_ | refine cw_block ?_ | refine cw_scope ?_ | refine cw_label ?_ | refine cw_skip ?_)
  refine ow_call (fn := Try.f36) (by simp only [push_cast, env, Nat.reduceEqDiff, reduceIte, Nat.reduceAdd, Nat.reduceMul, Nat.reduceLeDiff, reduceCtorEq, Nat.reduceSub, Int.reduceToNat] <;> exact rfl) rfl (by simp only [push_cast, env, Nat.reduceEqDiff, reduceIte, Nat.reduceAdd, Nat.reduceMul, Nat.reduceLeDiff, reduceCtorEq, Nat.reduceSub, Int.reduceToNat] <;> exact rfl) (by simp only [push_cast, env, Nat.reduceEqDiff, reduceIte, Nat.reduceAdd, Nat.reduceMul, Nat.reduceLeDiff, reduceCtorEq, Nat.reduceSub, Int.reduceToNat] <;> exact rfl) Try.func36 (by kernel_rfl) (by kernel_rfl) ?_
  rw [List.append_nil]
  refine (less_fw b3 b4 z2.1 z2.2).mono ?_
  rintro _ h9 ⟨rfl, rfl⟩
  repeat (first | refine cw_seq ?_ | refine cw_region ?_ | refine ow_nil ?_ | ((first | apply ow_cons | apply qw_cons); · simp only [push_cast, env, Nat.reduceEqDiff, reduceIte, Nat.reduceAdd, Nat.reduceMul, Nat.reduceLeDiff, reduceCtorEq, Nat.reduceSub, Int.reduceToNat] <;> exact rfl) | ((first | apply ow_spec | apply qw_spec); · simp only [push_cast, env, Nat.reduceEqDiff, reduceIte, Nat.reduceAdd, Nat.reduceMul, Nat.reduceLeDiff, reduceCtorEq, Nat.reduceSub, Int.reduceToNat] <;> exact rfl) | refine qw_nil ?_ | refine cw_block ?_ | refine cw_scope ?_ | refine cw_label ?_ | refine cw_skip ?_)
  refine ow_call (fn := Try.f36) (by simp only [push_cast, env, Nat.reduceEqDiff, reduceIte, Nat.reduceAdd, Nat.reduceMul, Nat.reduceLeDiff, reduceCtorEq, Nat.reduceSub, Int.reduceToNat] <;> exact rfl) rfl (by simp only [push_cast, env, Nat.reduceEqDiff, reduceIte, Nat.reduceAdd, Nat.reduceMul, Nat.reduceLeDiff, reduceCtorEq, Nat.reduceSub, Int.reduceToNat] <;> exact rfl) (by simp only [push_cast, env, Nat.reduceEqDiff, reduceIte, Nat.reduceAdd, Nat.reduceMul, Nat.reduceLeDiff, reduceCtorEq, Nat.reduceSub, Int.reduceToNat] <;> exact rfl) Try.func36 (by kernel_rfl) (by kernel_rfl) ?_
  rw [List.append_nil]
  refine (less_fw b5 b6 z3.1 z3.2).mono ?_
  rintro _ h9 ⟨rfl, rfl⟩
  repeat (first | refine cw_seq ?_ | refine cw_region ?_ | refine ow_nil ?_ | ((first | apply ow_cons | apply qw_cons); · simp only [push_cast, env, Nat.reduceEqDiff, reduceIte, Nat.reduceAdd, Nat.reduceMul, Nat.reduceLeDiff, reduceCtorEq, Nat.reduceSub, Int.reduceToNat, dl] <;> exact rfl) | ((first | apply ow_spec | apply qw_spec); · simp only [push_cast, env, Nat.reduceEqDiff, reduceIte, Nat.reduceAdd, Nat.reduceMul, Nat.reduceLeDiff, reduceCtorEq, Nat.reduceSub, Int.reduceToNat, dl] <;> exact rfl) | refine qw_nil ?_ | refine cw_block ?_ | refine cw_scope ?_ | refine cw_label ?_ | refine cw_skip ?_)
  refine cw_condF (by simp only [push_cast, env, Nat.reduceEqDiff, reduceIte, Nat.reduceAdd, Nat.reduceMul, Nat.reduceLeDiff, reduceCtorEq, Nat.reduceSub, Int.reduceToNat] <;> exact rfl) ?_
  refine cw_weakL [(2, .box [i64 g.nts, i64 g.start, .slice p g.rules.length c]), (5, .val (.pointer (some ⟨h0.length, 0, some 0⟩)))] (by simp only [push_cast, SubL, fget, Nat.reduceEqDiff, reduceIte]) ?_
  clear g1 g2 g3 g4 g5 g6 z1 z2 z3 b1 b2 b3 b4 b5 b6 rb
  repeat (first | refine cw_seq ?_ | refine cw_region ?_ | refine ow_nil ?_ | ((first | apply ow_cons | apply qw_cons); · simp only [push_cast, env, Nat.reduceEqDiff, reduceIte, Nat.reduceAdd, Nat.reduceMul, Nat.reduceLeDiff, reduceCtorEq, Nat.reduceSub, Int.reduceToNat, hx9] <;> exact rfl) | ((first | apply ow_spec | apply qw_spec); · simp only [push_cast, env, Nat.reduceEqDiff, reduceIte, Nat.reduceAdd, Nat.reduceMul, Nat.reduceLeDiff, reduceCtorEq, Nat.reduceSub, Int.reduceToNat, hx9] <;> exact rfl) | refine qw_nil ?_ | refine cw_block ?_ | refine cw_scope ?_ | refine cw_label ?_ | refine cw_skip ?_)
  refine ow_call (fn := Try.f24) (by simp only [push_cast, env, Nat.reduceEqDiff, reduceIte, Nat.reduceAdd, Nat.reduceMul, Nat.reduceLeDiff, reduceCtorEq, Nat.reduceSub, Int.reduceToNat, hx9] <;> exact rfl) rfl (by simp only [push_cast, env, Nat.reduceEqDiff, reduceIte, Nat.reduceAdd, Nat.reduceMul, Nat.reduceLeDiff, reduceCtorEq, Nat.reduceSub, Int.reduceToNat, hx9] <;> exact rfl) (by simp only [push_cast, env, Nat.reduceEqDiff, reduceIte, Nat.reduceAdd, Nat.reduceMul, Nat.reduceLeDiff, reduceCtorEq, Nat.reduceSub, Int.reduceToNat, hx9] <;> exact rfl) Try.func24 (by kernel_rfl) (by kernel_rfl) ?_
  rw [List.append_nil]
  refine (shortest_fw (hr.mono (hp3.trans r9))).mono ?_
  rintro _ h10 ⟨tt, q10⟩
  obtain ⟨_, tt, s1, k1, i7, v7, k7, rfl, g7⟩ := tt.good hb
  rw [tt]
  clear tt
  have l7 := (k1).1
  have hx10 := getElem?_prefix q10 hx9
  have r10 := r9.trans q10
  repeat (first | refine cw_seq ?_ | refine cw_region ?_ | refine ow_nil ?_ | ((first | apply ow_cons | apply qw_cons); · simp only [push_cast, env, Nat.reduceEqDiff, reduceIte, Nat.reduceAdd, Nat.reduceMul, Nat.reduceLeDiff, reduceCtorEq, Nat.reduceSub, Int.reduceToNat, hx10] <;> exact rfl) | ((first | apply ow_spec | apply qw_spec); · simp only [push_cast, env, Nat.reduceEqDiff, reduceIte, Nat.reduceAdd, Nat.reduceMul, Nat.reduceLeDiff, reduceCtorEq, Nat.reduceSub, Int.reduceToNat, hx10] <;> exact rfl) | refine qw_nil ?_ | refine cw_block ?_ | refine cw_scope ?_ | refine cw_label ?_ | refine cw_skip ?_)
  refine ow_call (fn := Try.f24) (by simp only [push_cast, env, Nat.reduceEqDiff, reduceIte, Nat.reduceAdd, Nat.reduceMul, Nat.reduceLeDiff, reduceCtorEq, Nat.reduceSub, Int.reduceToNat, hx10] <;> exact rfl) rfl (by simp only [push_cast, env, Nat.reduceEqDiff, reduceIte, Nat.reduceAdd, Nat.reduceMul, Nat.reduceLeDiff, reduceCtorEq, Nat.reduceSub, Int.reduceToNat, hx10] <;> exact rfl) (by simp only [push_cast, env, Nat.reduceEqDiff, reduceIte, Nat.reduceAdd, Nat.reduceMul, Nat.reduceLeDiff, reduceCtorEq, Nat.reduceSub, Int.reduceToNat, hx10] <;> exact rfl) Try.func24 (by kernel_rfl) (by kernel_rfl) ?_
  rw [List.append_nil]
  refine (shortest_fw (hX.mono r10)).mono ?_
  rintro _ h11 ⟨tt, q11⟩
  obtain ⟨_, tt, s2, k2, i8, v8, k8, rfl, g8⟩ := tt.good hbX
  rw [tt]
  clear tt
  have l8 := (k2).1
  have hx11 := getElem?_prefix q11 hx10
  have r11 := r10.trans q11
  have g7' := getElem?_prefix q11 g7
  rw [hnX] at l8
  have d1 : decide ((s1.length : Int) = g.nts) = true := decide_eq_true l7
  have d2 : decide ((s2.length : Int) = g.nts) = true := decide_eq_true l8
  repeat (first | refine cw_seq ?_ | refine cw_region ?_ | refine ow_nil ?_ | ((first | apply ow_cons | apply qw_cons); · simp only [push_cast, env, Nat.reduceEqDiff, reduceIte, Nat.reduceAdd, Nat.reduceMul, Nat.reduceLeDiff, reduceCtorEq, Nat.reduceSub, Int.reduceToNat, d1, d2] <;> exact rfl) | ((first | apply ow_spec | apply qw_spec); · simp only [push_cast, env, Nat.reduceEqDiff, reduceIte, Nat.reduceAdd, Nat.reduceMul, Nat.reduceLeDiff, reduceCtorEq, Nat.reduceSub, Int.reduceToNat, d1, d2] <;> exact rfl) | refine qw_nil ?_ | refine cw_block ?_ | refine cw_scope ?_ | refine cw_label ?_ | refine cw_skip ?_)
  refine cw_condF (by simp only [push_cast, env, Nat.reduceEqDiff, reduceIte, Nat.reduceAdd, Nat.reduceMul, Nat.reduceLeDiff, reduceCtorEq, Nat.reduceSub, Int.reduceToNat] <;> exact rfl) ?_
  obtain ⟨N, hN⟩ : ∃ N : Nat, g.nts = N := ⟨g.nts.toNat, by omega⟩
  rw [show s1.length = N by omega, show s2.length = N by omega]
  repeat (first | refine cw_seq ?_ | refine cw_region ?_ | refine ow_nil ?_ | ((first | apply ow_cons | apply qw_cons); · simp only [push_cast, env, Nat.reduceEqDiff, reduceIte, Nat.reduceAdd, Nat.reduceMul, Nat.reduceLeDiff, reduceCtorEq, Nat.reduceSub, Int.reduceToNat] <;> exact rfl) | ((first | apply ow_spec | apply qw_spec); · simp only [push_cast, env, Nat.reduceEqDiff, reduceIte, Nat.reduceAdd, Nat.reduceMul, Nat.reduceLeDiff, reduceCtorEq, Nat.reduceSub, Int.reduceToNat] <;> exact rfl) | refine qw_nil ?_ | refine cw_block ?_ | refine cw_scope ?_ | refine cw_label ?_ | refine cw_skip ?_)
  refine cw_for N (fun k => [(2, .box [i64 g.nts, i64 g.start, .slice p g.rules.length c]), (5, .val (.pointer (some ⟨h0.length, 0, some 0⟩))), (18, .val (.slice (some ⟨i7, 0, some v7⟩) N N)), (20, .val (.slice (some ⟨i8, 0, some v8⟩) N N)), (22, .val (i64 k))]) (fun _ => h11) (fun _ => True) (by simp only [push_cast, SubL, fget, Nat.reduceEqDiff, reduceIte]) rfl trivial ?_
  intro k hk _
  by_cases hlt : k < N
  · have f1 := rng hlt
    have f2 := inc hlt (by omega)
    have f3 : decide ((k : Int) < g.nts) = true := by rw [hN]; exact lt_dec hlt
    have y1 := k1.2 k (by omega) (by omega)
    have y2 := k2.2 k (by omega) (by omega)
    have y3 := shorts_less hsub y1 y2
    have w1 := iget_map (l := s1) (i := (k : Int)) (by omega) (by omega)
    have w2 := iget_map (l := s2) (i := (k : Int)) (by omega) (by omega)
    simp only [Int.toNat_natCast] at w1 w2
    generalize iget s1 k = A at y3 w1
    generalize iget s2 k = B at y3 w2
    repeat (first | refine cw_seq ?_ | refine cw_region ?_ | refine ow_nil ?_ | ((first | apply ow_cons | apply qw_cons); · simp only [push_cast, env, Nat.reduceEqDiff, reduceIte, Nat.reduceAdd, Nat.reduceMul, Nat.reduceLeDiff, reduceCtorEq, Nat.reduceSub, Int.reduceToNat, f3] <;> exact rfl) | ((first | apply ow_spec | apply qw_spec); · simp only [push_cast, env, Nat.reduceEqDiff, reduceIte, Nat.reduceAdd, Nat.reduceMul, Nat.reduceLeDiff, reduceCtorEq, Nat.reduceSub, Int.reduceToNat, f3] <;> exact rfl) | refine qw_nil ?_ | refine cw_block ?_ | refine cw_scope ?_ | refine cw_label ?_ | refine cw_skip ?_)
    refine cw_condT (by simp only [push_cast, env, Nat.reduceEqDiff, reduceIte, Nat.reduceAdd, Nat.reduceMul, Nat.reduceLeDiff, reduceCtorEq, Nat.reduceSub, Int.reduceToNat] <;> exact rfl) ?_
    repeat (first | refine cw_seq ?_ | refine cw_region ?_ | refine ow_nil ?_ | ((first | apply ow_cons | apply qw_cons); · simp only [push_cast, env, Nat.reduceEqDiff, reduceIte, Nat.reduceAdd, Nat.reduceMul, Nat.reduceLeDiff, reduceCtorEq, Nat.reduceSub, Int.reduceToNat] <;> exact rfl) | ((first | apply ow_spec | apply qw_spec); · simp only [push_cast, env, Nat.reduceEqDiff, reduceIte, Nat.reduceAdd, Nat.reduceMul, Nat.reduceLeDiff, reduceCtorEq, Nat.reduceSub, Int.reduceToNat] <;> exact rfl) | refine qw_nil ?_ | refine cw_block ?_ | refine cw_scope ?_ | refine cw_label ?_ | refine cw_skip ?_)
    by_cases hA : 0 ≤ A
    · have e1 := decide_eq_true hA
      have e2 : decide (B < 0) = false := decide_eq_false (by have := y3 hA; omega)
      have e3 : decide (A < B) = false := decide_eq_false (by have := y3 hA; omega)
      refine cw_regionD 21 mixed (by kernel_rfl) ?_
      repeat (first | refine cw_seq ?_ | refine cw_region ?_ | refine ow_nil ?_ | ((first | apply ow_cons | apply qw_cons); · simp only [push_cast, env, Nat.reduceEqDiff, reduceIte, Nat.reduceAdd, Nat.reduceMul, Nat.reduceLeDiff, reduceCtorEq, Nat.reduceSub, Int.reduceToNat, f1, g7', g8, w1, w2, e1, e2, e3, Nat.mul_one] <;> exact rfl) | ((first | apply ow_spec | apply qw_spec); · simp only [push_cast, env, Nat.reduceEqDiff, reduceIte, Nat.reduceAdd, Nat.reduceMul, Nat.reduceLeDiff, reduceCtorEq, Nat.reduceSub, Int.reduceToNat, f1, g7', g8, w1, w2, e1, e2, e3, Nat.mul_one] <;> exact rfl) | refine qw_nil ?_ | refine cw_block ?_ | refine cw_scope ?_ | refine cw_label ?_ | refine cw_skip ?_)
      refine cw_condF (by simp only [push_cast, env, Nat.reduceEqDiff, reduceIte, Nat.reduceAdd, Nat.reduceMul, Nat.reduceLeDiff, reduceCtorEq, Nat.reduceSub, Int.reduceToNat] <;> exact rfl) ?_
      repeat (first | refine cw_seq ?_ | refine cw_region ?_ | refine ow_nil ?_ | ((first | apply ow_cons | apply qw_cons); · simp only [push_cast, env, Nat.reduceEqDiff, reduceIte, Nat.reduceAdd, Nat.reduceMul, Nat.reduceLeDiff, reduceCtorEq, Nat.reduceSub, Int.reduceToNat, f2] <;> exact rfl) | ((first | apply ow_spec | apply qw_spec); · simp only [push_cast, env, Nat.reduceEqDiff, reduceIte, Nat.reduceAdd, Nat.reduceMul, Nat.reduceLeDiff, reduceCtorEq, Nat.reduceSub, Int.reduceToNat, f2] <;> exact rfl) | refine qw_nil ?_ | refine cw_block ?_ | refine cw_scope ?_ | refine cw_label ?_ | refine cw_skip ?_)
      exact ⟨hlt, (by simp only [push_cast, SubL, fget, Nat.reduceEqDiff, reduceIte]), rfl, trivial⟩
    · have e1 := decide_eq_false hA
      refine cw_regionD 21 mixed (by kernel_rfl) ?_
      repeat (first | refine cw_seq ?_ | refine cw_region ?_ | refine ow_nil ?_ | ((first | apply ow_cons | apply qw_cons); · simp only [push_cast, env, Nat.reduceEqDiff, reduceIte, Nat.reduceAdd, Nat.reduceMul, Nat.reduceLeDiff, reduceCtorEq, Nat.reduceSub, Int.reduceToNat, f1, g7', g8, w1, w2, e1, Nat.mul_one] <;> exact rfl) | ((first | apply ow_spec | apply qw_spec); · simp only [push_cast, env, Nat.reduceEqDiff, reduceIte, Nat.reduceAdd, Nat.reduceMul, Nat.reduceLeDiff, reduceCtorEq, Nat.reduceSub, Int.reduceToNat, f1, g7', g8, w1, w2, e1, Nat.mul_one] <;> exact rfl) | refine qw_nil ?_ | refine cw_block ?_ | refine cw_scope ?_ | refine cw_label ?_ | refine cw_skip ?_)
      refine cw_condF (by simp only [push_cast, env, Nat.reduceEqDiff, reduceIte, Nat.reduceAdd, Nat.reduceMul, Nat.reduceLeDiff, reduceCtorEq, Nat.reduceSub, Int.reduceToNat] <;> exact rfl) ?_
      repeat (first | refine cw_seq ?_ | refine cw_region ?_ | refine ow_nil ?_ | ((first | apply ow_cons | apply qw_cons); · simp only [push_cast, env, Nat.reduceEqDiff, reduceIte, Nat.reduceAdd, Nat.reduceMul, Nat.reduceLeDiff, reduceCtorEq, Nat.reduceSub, Int.reduceToNat, f2] <;> exact rfl) | ((first | apply ow_spec | apply qw_spec); · simp only [push_cast, env, Nat.reduceEqDiff, reduceIte, Nat.reduceAdd, Nat.reduceMul, Nat.reduceLeDiff, reduceCtorEq, Nat.reduceSub, Int.reduceToNat, f2] <;> exact rfl) | refine qw_nil ?_ | refine cw_block ?_ | refine cw_scope ?_ | refine cw_label ?_ | refine cw_skip ?_)
      exact ⟨hlt, (by simp only [push_cast, SubL, fget, Nat.reduceEqDiff, reduceIte]), rfl, trivial⟩
  · have f3 : decide ((k : Int) < g.nts) = false := by rw [hN]; exact ge_dec hlt
    repeat (first | refine cw_seq ?_ | refine cw_region ?_ | refine ow_nil ?_ | ((first | apply ow_cons | apply qw_cons); · simp only [push_cast, env, Nat.reduceEqDiff, reduceIte, Nat.reduceAdd, Nat.reduceMul, Nat.reduceLeDiff, reduceCtorEq, Nat.reduceSub, Int.reduceToNat, f3] <;> exact rfl) | ((first | apply ow_spec | apply qw_spec); · simp only [push_cast, env, Nat.reduceEqDiff, reduceIte, Nat.reduceAdd, Nat.reduceMul, Nat.reduceLeDiff, reduceCtorEq, Nat.reduceSub, Int.reduceToNat, f3] <;> exact rfl) | refine qw_nil ?_ | refine cw_block ?_ | refine cw_scope ?_ | refine cw_label ?_ | refine cw_skip ?_)
    refine cw_condF (by simp only [push_cast, env, Nat.reduceEqDiff, reduceIte, Nat.reduceAdd, Nat.reduceMul, Nat.reduceLeDiff, reduceCtorEq, Nat.reduceSub, Int.reduceToNat] <;> exact rfl) ?_
    refine cw_exit ?_
    show CW _ _ _ _
    repeat (first | refine cw_seq ?_ | refine cw_region ?_ | refine ow_nil ?_ | ((first | apply ow_cons | apply qw_cons); · simp only [push_cast, env, Nat.reduceEqDiff, reduceIte, Nat.reduceAdd, Nat.reduceMul, Nat.reduceLeDiff, reduceCtorEq, Nat.reduceSub, Int.reduceToNat, hx11] <;> exact rfl) | ((first | apply ow_spec | apply qw_spec); · simp only [push_cast, env, Nat.reduceEqDiff, reduceIte, Nat.reduceAdd, Nat.reduceMul, Nat.reduceLeDiff, reduceCtorEq, Nat.reduceSub, Int.reduceToNat, hx11] <;> exact rfl) | refine qw_nil ?_ | refine cw_block ?_ | refine cw_scope ?_ | refine cw_label ?_ | refine cw_skip ?_)
    refine ow_call (fn := Try.f25) (by simp only [push_cast, env, Nat.reduceEqDiff, reduceIte, Nat.reduceAdd, Nat.reduceMul, Nat.reduceLeDiff, reduceCtorEq, Nat.reduceSub, Int.reduceToNat, hx11] <;> exact rfl) rfl (by simp only [push_cast, env, Nat.reduceEqDiff, reduceIte, Nat.reduceAdd, Nat.reduceMul, Nat.reduceLeDiff, reduceCtorEq, Nat.reduceSub, Int.reduceToNat, hx11] <;> exact rfl) (by simp only [push_cast, env, Nat.reduceEqDiff, reduceIte, Nat.reduceAdd, Nat.reduceMul, Nat.reduceLeDiff, reduceCtorEq, Nat.reduceSub, Int.reduceToNat, hx11] <;> exact rfl) Try.func25 (by kernel_rfl) (by kernel_rfl) ?_
    rw [List.append_nil]
    refine (cyclic_fw (hr.mono (hp3.trans r11))).mono ?_
    rintro _ h12 ⟨tt, q12⟩
    obtain ⟨c5, e5, i5⟩ := told_cyc tt
    rw [e5]
    clear tt
    have hx12 := getElem?_prefix q12 hx11
    have r12 := r11.trans q12
    repeat (first | refine cw_seq ?_ | refine cw_region ?_ | refine ow_nil ?_ | ((first | apply ow_cons | apply qw_cons); · simp only [push_cast, env, Nat.reduceEqDiff, reduceIte, Nat.reduceAdd, Nat.reduceMul, Nat.reduceLeDiff, reduceCtorEq, Nat.reduceSub, Int.reduceToNat, hx12] <;> exact rfl) | ((first | apply ow_spec | apply qw_spec); · simp only [push_cast, env, Nat.reduceEqDiff, reduceIte, Nat.reduceAdd, Nat.reduceMul, Nat.reduceLeDiff, reduceCtorEq, Nat.reduceSub, Int.reduceToNat, hx12] <;> exact rfl) | refine qw_nil ?_ | refine cw_block ?_ | refine cw_scope ?_ | refine cw_label ?_ | refine cw_skip ?_)
    refine ow_call (fn := Try.f25) (by simp only [push_cast, env, Nat.reduceEqDiff, reduceIte, Nat.reduceAdd, Nat.reduceMul, Nat.reduceLeDiff, reduceCtorEq, Nat.reduceSub, Int.reduceToNat, hx12] <;> exact rfl) rfl (by simp only [push_cast, env, Nat.reduceEqDiff, reduceIte, Nat.reduceAdd, Nat.reduceMul, Nat.reduceLeDiff, reduceCtorEq, Nat.reduceSub, Int.reduceToNat, hx12] <;> exact rfl) (by simp only [push_cast, env, Nat.reduceEqDiff, reduceIte, Nat.reduceAdd, Nat.reduceMul, Nat.reduceLeDiff, reduceCtorEq, Nat.reduceSub, Int.reduceToNat, hx12] <;> exact rfl) Try.func25 (by kernel_rfl) (by kernel_rfl) ?_
    rw [List.append_nil]
    refine (cyclic_fw (hX.mono r12)).mono ?_
    rintro _ h13 ⟨tt, q13⟩
    obtain ⟨c6, e6, i6⟩ := told_cyc tt
    rw [e6]
    clear tt
    have hcc : c5 = true → c6 = true := fun h => i6.2 ⟨hbX, CycE.more (fun i j => Edge.more hsub fun i h => Der.more hsub h) (i5.1 h).2⟩
    repeat (first | refine cw_seq ?_ | refine cw_region ?_ | refine ow_nil ?_ | ((first | apply ow_cons | apply qw_cons); · simp only [push_cast, env, Nat.reduceEqDiff, reduceIte, Nat.reduceAdd, Nat.reduceMul, Nat.reduceLeDiff, reduceCtorEq, Nat.reduceSub, Int.reduceToNat] <;> exact rfl) | ((first | apply ow_spec | apply qw_spec); · simp only [push_cast, env, Nat.reduceEqDiff, reduceIte, Nat.reduceAdd, Nat.reduceMul, Nat.reduceLeDiff, reduceCtorEq, Nat.reduceSub, Int.reduceToNat] <;> exact rfl) | refine qw_nil ?_ | refine cw_block ?_ | refine cw_scope ?_ | refine cw_label ?_ | refine cw_skip ?_)
    refine ow_call (fn := Try.f12) (by simp only [push_cast, env, Nat.reduceEqDiff, reduceIte, Nat.reduceAdd, Nat.reduceMul, Nat.reduceLeDiff, reduceCtorEq, Nat.reduceSub, Int.reduceToNat] <;> exact rfl) rfl (by simp only [push_cast, env, Nat.reduceEqDiff, reduceIte, Nat.reduceAdd, Nat.reduceMul, Nat.reduceLeDiff, reduceCtorEq, Nat.reduceSub, Int.reduceToNat] <;> exact rfl) (by simp only [push_cast, env, Nat.reduceEqDiff, reduceIte, Nat.reduceAdd, Nat.reduceMul, Nat.reduceLeDiff, reduceCtorEq, Nat.reduceSub, Int.reduceToNat] <;> exact rfl) Try.func12 (by kernel_rfl) (by kernel_rfl) ?_
    refine alive_fw.mono ?_
    rintro _ h13 ⟨rfl, rfl⟩
    cases c5 with
    | false =>
      repeat (first | refine cw_seq ?_ | refine cw_region ?_ | refine ow_nil ?_ | ((first | apply ow_cons | apply qw_cons); · simp only [push_cast, env, Nat.reduceEqDiff, reduceIte, Nat.reduceAdd, Nat.reduceMul, Nat.reduceLeDiff, reduceCtorEq, Nat.reduceSub, Int.reduceToNat] <;> exact rfl) | ((first | apply ow_spec | apply qw_spec); · simp only [push_cast, env, Nat.reduceEqDiff, reduceIte, Nat.reduceAdd, Nat.reduceMul, Nat.reduceLeDiff, reduceCtorEq, Nat.reduceSub, Int.reduceToNat] <;> exact rfl) | refine qw_nil ?_ | refine cw_block ?_ | refine cw_scope ?_ | refine cw_label ?_ | refine cw_skip ?_)
      refine cw_ret ?_
      exact ⟨_, (by simp only [push_cast, env, Nat.reduceEqDiff, reduceIte, Nat.reduceAdd, Nat.reduceMul, Nat.reduceLeDiff, reduceCtorEq, Nat.reduceSub, Int.reduceToNat] <;> exact rfl), rfl⟩
    | true =>
      rw [hcc rfl]
      repeat (first | refine cw_seq ?_ | refine cw_region ?_ | refine ow_nil ?_ | ((first | apply ow_cons | apply qw_cons); · simp only [push_cast, env, Nat.reduceEqDiff, reduceIte, Nat.reduceAdd, Nat.reduceMul, Nat.reduceLeDiff, reduceCtorEq, Nat.reduceSub, Int.reduceToNat] <;> exact rfl) | ((first | apply ow_spec | apply qw_spec); · simp only [push_cast, env, Nat.reduceEqDiff, reduceIte, Nat.reduceAdd, Nat.reduceMul, Nat.reduceLeDiff, reduceCtorEq, Nat.reduceSub, Int.reduceToNat] <;> exact rfl) | refine qw_nil ?_ | refine cw_block ?_ | refine cw_scope ?_ | refine cw_label ?_ | refine cw_skip ?_)
      refine cw_ret ?_
      exact ⟨_, (by simp only [push_cast, env, Nat.reduceEqDiff, reduceIte, Nat.reduceAdd, Nat.reduceMul, Nat.reduceLeDiff, reduceCtorEq, Nat.reduceSub, Int.reduceToNat] <;> exact rfl), rfl⟩
end Go.Proofs.Ytnlchlnkibpkaaa
