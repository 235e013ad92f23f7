/- Several texts, one behind the other; each begins with a remark of its own. -/
import Derived.Test.YtafncpgiibikcaaZTb
import Derived.Test.YtafncpgiibikcaaZE6
namespace Go.Proofs.Ytafncpgiibikcaa
set_option linter.unusedSimpArgs false
set_option linter.unusedVariables false
set_option maxRecDepth 20000
open Go.RowKit Am Ty

structure RW (h hk : Heap) (g : Gram) (w : List Nat) (N im vm : Nat) (m0 : List Bool) (r i d j : Nat) (m : List Bool) (more : Bool) : Prop where
  p : h <+: hk
  o : hk[im]? = some (.arr (m.map .bool) vm true 4)
  n : m.length = N * (w.length + 1)
  s : WSound g w (wfn m (w.length + 1))
  z : wfn m (w.length + 1) g.start.toNat 0 = true
  mc : more = true → m.count false < m0.count false
  f : more = false → m = m0 ∧ PrW g w (wfn m0 (w.length + 1)) r i d j
theorem RW.upd {h hk : Heap} {g : Gram} {w : List Nat} {N im vm : Nat} {m0 : List Bool} {r i d j r' i' d' j' : Nat} {m : List Bool} {more : Bool} (I : RW h hk g w N im vm m0 r i d j m more)
    (k : PrW g w (wfn m0 (w.length + 1)) r i d j → PrW g w (wfn m0 (w.length + 1)) r' i' d' j') : RW h hk g w N im vm m0 r' i' d' j' m more :=
  ⟨I.p, I.o, I.n, I.s, I.z, I.mc, fun hm => ⟨(I.f hm).1, k (I.f hm).2⟩⟩
theorem RW.mono {h hk hk' : Heap} {g : Gram} {w : List Nat} {N im vm : Nat} {m0 : List Bool} {r i d j : Nat} {m : List Bool} {more : Bool} (I : RW h hk g w N im vm m0 r i d j m more) (hp : hk <+: hk') : RW h hk' g w N im vm m0 r i d j m more :=
  ⟨I.p.trans hp, getElem?_of_prefix hp I.o, I.n, I.s, I.z, I.mc, I.f⟩
theorem start_get {S T a i M : Nat} (hS : widx M a i < T) : wfn ((List.range T).map fun k => decide (k = S)) M a i = decide (widx M a i = S) := by
  unfold wfn
  rw [List.getD_eq_getElem?_getD, List.getElem?_map, List.getElem?_range hS]
  rfl
set_option maxHeartbeats 16000000 in
theorem wanted_fw {h : Heap} {tp : Nat} {g : Gram} {rv wv : Value} {w : List Nat} {yi yr : Nat} {Y : List Bool} {N : Nat} (T : TbR h tp g rv wv w yi yr Y) (hwR : RdB h wv w) (hw : w.length ≤ 512) (R : RightS g) (W : WfG g) (hN : g.nts = N) (hsz : N * (w.length + 1) * (w.length + 1) ≤ 1000000)
    (hY : Y.length = N * (w.length + 1) * (w.length + 1)) (TS : TSound g.rules w (yfn Y (w.length + 1))) (TF : TFull g.rules w (yfn Y (w.length + 1))) (hu : RdRules h rv g.rules) :
    FW env 45 [.pointer (some ⟨tp, 0, some 0⟩)] h fun r h' => ∃ m, MineB h h' r m ∧ m.length = N * (w.length + 1) ∧ WSound g w (wfn m (w.length + 1)) ∧ WFull g w (wfn m (w.length + 1)) ∧ h <+: h' := by
  obtain ⟨p, c, rfl⟩ := hu.form
  have n1 := R.n1
  have n2 := R.n2
  have s1 := R.s1
  have s2 := R.s2
  have hrl := R.rl
  have hM : ((w.length : Int) + 1) = ((w.length + 1 : Nat) : Int) := by omega
  have b0 : N * (w.length + 1) ≤ 1000000 := Nat.le_trans (Nat.le_mul_of_pos_right _ (by omega)) hsz
  obtain ⟨T0, hT0⟩ : ∃ T0 : Nat, T0 = N * (w.length + 1) := ⟨_, rfl⟩
  obtain ⟨sa, hsa⟩ : ∃ sa : Nat, g.start = sa := ⟨g.start.toNat, by omega⟩
  obtain ⟨S0, hS0⟩ : ∃ S0 : Nat, S0 = widx (w.length + 1) sa 0 := ⟨_, rfl⟩
  have hST : S0 < T0 := by rw [hS0, hT0]; exact widx_lt (by omega) (by omega)
  have eS : S0 = sa * (w.length + 1) := by rw [hS0]; unfold widx; omega
  have e1 : IntKind.i64.wrap ((w.length : Int) + 1) = (w.length : Int) + 1 := wrap64_id (by omega) (by omega)
  have e2 : IntKind.i64.wrap (g.nts * ((w.length : Int) + 1)) = (T0 : Int) := by
    rw [hN, hM, ← Int.natCast_mul, ← hT0]
    exact wrap64_id (by omega) (by omega)
  have e3 : IntKind.i64.wrap (g.start * ((w.length : Int) + 1)) = (S0 : Int) := by
    rw [hsa, hM, ← Int.natCast_mul, ← eS]
    exact wrap64_id (by omega) (by omega)
  refine fw_enter (fn := Try.f45) Try.func45 rfl (by kernel_rfl) (by simp [Try.ntmps45]) ?_; simp only [push_cast]
  repeat (first | apply zs | apply zr | apply zn | ((first | apply zx | apply zy); · simp only [push_cast, env, Nat.reduceEqDiff, reduceIte, Nat.reduceAdd, Nat.reduceMul, Nat.reduceLeDiff, reduceCtorEq, Nat.reduceSub, Int.reduceToNat] <;> first | exact rfl | exact .inl rfl | exact .inr rfl) | apply zq | apply zb | apply zo | apply zk | apply zl)
  refine cw_forG T0 (fun k (x : Heap × Value) => [(0, .val (.pointer (some ⟨tp, 0, some 0⟩))), (3, .val x.2), (4, .val (i64 k))]) (fun _ x => x.1)
    (fun k x => h <+: x.1 ∧ Grow h x.1 x.2 ((List.range k).map fun i => decide (i = S0)).length (((List.range k).map fun i => decide (i = S0)).map .bool) 4) (h, nilS) (by simp only [push_cast, Nat.reduceEqDiff, reduceIte]) rfl ⟨List.prefix_refl _, Grow.nil⟩ ?_
  rintro k ⟨hk, yv⟩ hkn ⟨hp, hG⟩
  simp only at hp hG ⊢
  obtain ⟨py, cy, rfl⟩ := hG.form
  obtain ⟨ct, ht⟩ := (T.mono hp).c
  repeat (first | apply zs | apply zr | apply zn | ((first | apply zx | apply zy); · simp only [push_cast, env, Nat.reduceEqDiff, reduceIte, Nat.reduceAdd, Nat.reduceMul, Nat.reduceLeDiff, reduceCtorEq, Nat.reduceSub, Int.reduceToNat] <;> first | exact rfl | exact .inl rfl | exact .inr rfl) | apply zq | apply zb | apply zo | apply zk | apply zl)
  refine cw_regionD 12 mixed (by kernel_rfl) ?_
  by_cases hlt : k < T0
  · have f3 := lt_dec hlt
    have f2 := inc hlt (by omega)
    have d1 : decide ((k : Int) = (S0 : Int)) = decide (k = S0) := by rw [decide_eq_decide]; omega
    repeat (first | apply zs | apply zr | apply zn | ((first | apply zx | apply zy); · simp only [push_cast, env, Nat.reduceEqDiff, reduceIte, Nat.reduceAdd, Nat.reduceMul, Nat.reduceLeDiff, reduceCtorEq, Nat.reduceSub, Int.reduceToNat, ht, e1, e2, f3] <;> first | exact rfl | exact .inl rfl | exact .inr rfl) | apply zq | apply zb | apply zo | apply zk | apply zl)
    refine cw_condT rfl ?_
    repeat (first | apply zs | apply zr | apply zn | ((first | apply zx | apply zy); · simp only [push_cast, env, Nat.reduceEqDiff, reduceIte, Nat.reduceAdd, Nat.reduceMul, Nat.reduceLeDiff, reduceCtorEq, Nat.reduceSub, Int.reduceToNat] <;> first | exact rfl | exact .inl rfl | exact .inr rfl) | apply zq | apply zb | apply zo | apply zk | apply zl)
    have hll : ((List.range k).map fun i => decide (i = S0)).length = k := by simp only [List.length_map, List.length_range]
    rw [hll] at hG ⊢
    obtain ⟨p1, c1, h2, hone, G2, hp2, hk2, hx2, hl2⟩ := push_any' (cs := [.bool (decide (k = S0))]) (t := 77) (by kernel_rfl) ti4 (by decide) rfl hG hp (by simp) rfl (by simp only; omega) (by omega)
    refine cw_weakL [(0, .val (.pointer (some ⟨tp, 0, some 0⟩))), (3, .val (.slice py k cy)), (4, .val (i64 k))] (by simp only [push_cast, Nat.reduceEqDiff, reduceIte]) ?_
    show CW _ _ ⟨_, [], hk⟩ _
    apply cw_ordG (L := [[], [], [], [2], [2, 3], [2, 3, 4], [2, 3, 4, 5], [], [7], [7, 8], [7, 8, 9], [7, 8, 9, 10], [2, 3, 4, 5, 6, 7, 8, 9, 10, 11], [1, 2, 3, 4, 5, 6, 7, 8, 9, 10, 11, 12], [1, 2, 3, 4, 5, 6, 7, 8, 9, 10, 11, 12, 13], [0, 1, 2, 3, 4, 5, 6, 7, 8, 9, 10, 11, 12, 13, 14], [0, 1, 2, 3, 4, 5, 6, 7, 8, 9, 10, 11, 12, 13, 14, 15]]) (act := [15]) (hs := [h2]) (resL := [_, _, _, _, _, _, _, _, _, _, _, _, _, _, _, _, _]) (frF := [(0, .val (.pointer (some ⟨tp, 0, some 0⟩))), (3, .val (.slice p1 (k + 1) c1)), (4, .val (i64 k))])
    case hm => exact mixed
    case hc => kernel_rfl
    case ha => rfl
    case hb => kernel_rfl
    case hlo => kernel_rfl
    case hS =>
      repeat (first | exact StepsA.nil _ | (apply StepsA.cons; (· rfl); (· (first | refine ⟨?_, trivial⟩ | refine ⟨?_, ?_, trivial⟩ | refine ⟨?_, ?_, ?_, trivial⟩ | refine ⟨?_, ?_, ?_, ?_, trivial⟩) <;> (apply zz; simp only [push_cast, env, Nat.reduceEqDiff, reduceIte, Nat.reduceAdd, Nat.reduceMul, Nat.reduceLeDiff, reduceCtorEq, Nat.reduceSub, Int.reduceToNat, ht, e1, e3, d1] <;> exact rfl)); (· rfl)))
      apply StepsA.cons
      · rfl
      · refine ⟨?_, trivial⟩
        exact hone _ _ _ _ _ rfl (by simp only [push_cast, env, Nat.reduceEqDiff, reduceIte] <;> exact rfl) rfl (by simp only [push_cast, env, Nat.reduceEqDiff, reduceIte] <;> exact rfl) (by simp only [push_cast, env, Nat.reduceEqDiff, reduceIte, d1] <;> exact rfl)
      · rfl
      repeat (first | exact StepsA.nil _ | (apply StepsA.cons; (· rfl); (· (first | refine ⟨?_, trivial⟩ | refine ⟨?_, ?_, trivial⟩ | refine ⟨?_, ?_, ?_, trivial⟩ | refine ⟨?_, ?_, ?_, ?_, trivial⟩) <;> (apply zz; simp only [push_cast, env, Nat.reduceEqDiff, reduceIte, Nat.reduceAdd, Nat.reduceMul, Nat.reduceLeDiff, reduceCtorEq, Nat.reduceSub, Int.reduceToNat] <;> exact rfl)); (· rfl)))
    case ht => rfl
    case hF => repeat (first | exact trivial | (refine ⟨.inl ⟨by decide, rfl⟩, ?_⟩) | (refine ⟨.inr ⟨rfl, by simp⟩, ?_⟩))
    show CW _ _ _ _
    repeat (first | apply zs | apply zr | apply zn | ((first | apply zx | apply zy); · simp only [push_cast, env, Nat.reduceEqDiff, reduceIte, Nat.reduceAdd, Nat.reduceMul, Nat.reduceLeDiff, reduceCtorEq, Nat.reduceSub, Int.reduceToNat, f2] <;> first | exact rfl | exact .inl rfl | exact .inr rfl) | apply zq | apply zb | apply zo | apply zk | apply zl)
    refine ⟨hlt, (h2, .slice p1 (k + 1) c1), (by simp only [push_cast, Nat.reduceEqDiff, reduceIte]), rfl, hp2, ?_⟩
    simp only
    rw [show (List.range (k + 1)).map (fun i => decide (i = S0)) = (List.range k).map (fun i => decide (i = S0)) ++ [decide (k = S0)] by rw [List.range_succ, List.map_append]; rfl]
    rw [List.length_append, hll, List.map_append]
    exact G2
  have f3 := ge_dec hlt
  obtain rfl : k = T0 := by omega
  repeat (first | apply zs | apply zr | apply zn | ((first | apply zx | apply zy); · simp only [push_cast, env, Nat.reduceEqDiff, reduceIte, Nat.reduceAdd, Nat.reduceMul, Nat.reduceLeDiff, reduceCtorEq, Nat.reduceSub, Int.reduceToNat, ht, e1, e2, f3] <;> first | exact rfl | exact .inl rfl | exact .inr rfl) | apply zq | apply zb | apply zo | apply zk | apply zl)
  refine cw_condF rfl ?_
  refine cw_exit ?_
  show CW _ _ _ _
  obtain ⟨im, vm, him, hie, hmg⟩ := hG.mine (by simp only [List.length_map, List.length_range]; omega)
  cases hie
  clear e2 f3 hG
  obtain ⟨m00, hm00⟩ : ∃ m, (List.range k).map (fun i => decide (i = S0)) = m := ⟨_, rfl⟩
  have hm0l : m00.length = k := by rw [← hm00]; simp only [List.length_map, List.length_range]
  have hz0 : wfn m00 (w.length + 1) g.start.toNat 0 = true := by
    rw [← hm00, start_get (by rw [hsa, Int.toNat_natCast, ← hS0]; exact hST), hsa, Int.toNat_natCast, ← hS0]
    simp
  have hs0 : WSound g w (wfn m00 (w.length + 1)) := fun a i hi hh => by
    by_cases hx : widx (w.length + 1) a i < k
    · rw [← hm00, start_get hx, decide_eq_true_eq, hS0] at hh
      obtain ⟨rfl, rfl⟩ := widx_inj (by omega) (by omega) hh
      rw [← hsa]
      exact .start
    · unfold wfn at hh
      rw [List.getD_eq_getElem?_getD, List.getElem?_eq_none (by omega)] at hh
      cases hh
  rw [hm00, hm0l]
  rw [hm00] at hmg
  clear hm00 e3 hS0 eS hST
  have hlow : ∀ {x : Heap} {o : HObj}, h <+: x → h <+: x.set im o := fun hp => pre_set hp him
  repeat (first | apply zs | apply zr | apply zn | ((first | apply zx | apply zy); · simp only [push_cast, env, Nat.reduceEqDiff, reduceIte, Nat.reduceAdd, Nat.reduceMul, Nat.reduceLeDiff, reduceCtorEq, Nat.reduceSub, Int.reduceToNat] <;> first | exact rfl | exact .inl rfl | exact .inr rfl) | apply zq | apply zb | apply zo | apply zk | apply zl)
  refine cw_wh (fun x : Heap × List Bool × Bool => 2 * x.2.1.count false + (if x.2.2 = true then 1 else 0)) (fun x => [(0, .val (.pointer (some ⟨tp, 0, some 0⟩))), (3, .val (.slice (some ⟨im, 0, some vm⟩) k k)), (5, .val (.bool x.2.2))]) (fun x => x.1)
    (fun x => h <+: x.1 ∧ x.1[im]? = some (.arr (x.2.1.map .bool) vm true 4) ∧ x.2.1.length = N * (w.length + 1) ∧ WSound g w (wfn x.2.1 (w.length + 1)) ∧ wfn x.2.1 (w.length + 1) g.start.toNat 0 = true ∧ (x.2.2 = false → WFull g w (wfn x.2.1 (w.length + 1)))) (hk, m00, true) (by simp only [push_cast, Nat.reduceEqDiff, reduceIte, hm0l]) rfl ⟨hp, hmg, by simp only; omega, hs0, hz0, fun h => (by cases h)⟩ ?_
  clear hp hmg hs0 hz0 hm0l ht ct hk hlt
  rintro ⟨hk, m0, more⟩ ⟨hp, ho, hn, hs, hz, hcl⟩
  simp only at hp ho hn hs hz hcl ⊢
  cases more with
  | false =>
    repeat (first | apply zs | apply zr | apply zn | ((first | apply zx | apply zy); · simp only [push_cast, env, Nat.reduceEqDiff, reduceIte, Nat.reduceAdd, Nat.reduceMul, Nat.reduceLeDiff, reduceCtorEq, Nat.reduceSub, Int.reduceToNat] <;> first | exact rfl | exact .inl rfl | exact .inr rfl) | apply zq | apply zb | apply zo | apply zk | apply zl)
    refine cw_condF rfl ?_
    refine cw_exit ?_
    show CW _ _ _ _
    repeat (first | apply zs | apply zr | apply zn | ((first | apply zx | apply zy); · simp only [push_cast, env, Nat.reduceEqDiff, reduceIte, Nat.reduceAdd, Nat.reduceMul, Nat.reduceLeDiff, reduceCtorEq, Nat.reduceSub, Int.reduceToNat] <;> first | exact rfl | exact .inl rfl | exact .inr rfl) | apply zq | apply zb | apply zo | apply zk | apply zl)
    refine cw_ret ?_
    exact ⟨_, (by simp only [push_cast, env, Nat.reduceEqDiff, reduceIte] <;> exact rfl), m0, ⟨im, vm, him, by rw [hn, ← hT0]; rfl, ho⟩, hn, hs, hcl rfl, hp⟩
  | true =>
  clear hcl
  repeat (first | apply zs | apply zr | apply zn | ((first | apply zx | apply zy); · simp only [push_cast, env, Nat.reduceEqDiff, reduceIte, Nat.reduceAdd, Nat.reduceMul, Nat.reduceLeDiff, reduceCtorEq, Nat.reduceSub, Int.reduceToNat] <;> first | exact rfl | exact .inl rfl | exact .inr rfl) | apply zq | apply zb | apply zo | apply zk | apply zl)
  refine cw_condT rfl ?_
  repeat (first | apply zs | apply zr | apply zn | ((first | apply zx | apply zy); · simp only [push_cast, env, Nat.reduceEqDiff, reduceIte, Nat.reduceAdd, Nat.reduceMul, Nat.reduceLeDiff, reduceCtorEq, Nat.reduceSub, Int.reduceToNat] <;> first | exact rfl | exact .inl rfl | exact .inr rfl) | apply zq | apply zb | apply zo | apply zk | apply zl)
  refine cw_forG g.rules.length (fun r (x : Heap × List Bool × Bool) => [(0, .val (.pointer (some ⟨tp, 0, some 0⟩))), (3, .val (.slice (some ⟨im, 0, some vm⟩) k k)), (5, .val (.bool x.2.2)), (6, .val (i64 r))]) (fun _ x => x.1)
    (fun r x => RW h x.1 g w N im vm m0 r 0 0 0 x.2.1 x.2.2) (hk, m0, false) (by simp only [push_cast, Nat.reduceEqDiff, reduceIte]) rfl ⟨hp, ho, hn, hs, hz, fun h => (by cases h), fun _ => ⟨rfl, PrW.start⟩⟩ ?_
  clear hp ho hn hs hz
  rintro r ⟨hk, m, more⟩ hrn I
  simp only at I ⊢
  obtain ⟨ct, ht⟩ := (T.mono I.p).c
  by_cases hlr : r < g.rules.length
  · obtain ⟨id, ver, own, c', cells, p', n', c2, hv, hid, hn', hrd, hu'⟩ := hu.at hlr
    cases hv
    subst hn'
    have e1r := rng hlr
    have e2r := inc hlr (by omega)
    have e3r := lt_dec hlr
    have hmem : g.rules[r] ∈ _ := List.getElem_mem hlr
    obtain ⟨l1, l2, l3, hS⟩ := R.r _ hmem
    have hq : g.rules[r]? = some g.rules[r] := List.getElem?_eq_getElem hlr
    have hWr := W _ hmem
    generalize g.rules[r] = q at *
    obtain ⟨a, ha⟩ : ∃ a : Nat, q.lhs = a := ⟨q.lhs.toNat, by omega⟩
    have ha2 : q.lhs.toNat = a := by omega
    rw [ha] at hrd
    have hid1 := getElem?_of_prefix I.p hid
    repeat (first | apply zs | apply zr | apply zn | ((first | apply zx | apply zy); · simp only [push_cast, env, Nat.reduceEqDiff, reduceIte, Nat.reduceAdd, Nat.reduceMul, Nat.reduceLeDiff, reduceCtorEq, Nat.reduceSub, Int.reduceToNat, ht, e3r] <;> first | exact rfl | exact .inl rfl | exact .inr rfl) | apply zq | apply zb | apply zo | apply zk | apply zl)
    refine cw_condT rfl ?_
    repeat (first | apply zs | apply zr | apply zn | ((first | apply zx | apply zy); · simp only [push_cast, env, Nat.reduceEqDiff, reduceIte, Nat.reduceAdd, Nat.reduceMul, Nat.reduceLeDiff, reduceCtorEq, Nat.reduceSub, Int.reduceToNat, ht, hid1, hrd, e1r, Nat.mul_one] <;> first | exact rfl | exact .inl rfl | exact .inr rfl) | apply zq | apply zb | apply zo | apply zk | apply zl)
    refine cw_forG (w.length + 1) (fun i (x : Heap × List Bool × Bool) => [(0, .val (.pointer (some ⟨tp, 0, some 0⟩))), (3, .val (.slice (some ⟨im, 0, some vm⟩) k k)), (5, .val (.bool x.2.2)), (6, .val (i64 r)), (7, .box [i64 a, .slice p' q.rhs.length c2]), (8, .val (i64 i))]) (fun _ x => x.1)
      (fun i x => RW h x.1 g w N im vm m0 r i 0 0 x.2.1 x.2.2) (hk, m, more) (by simp only [push_cast, Nat.reduceEqDiff, reduceIte]) rfl I ?_
    clear I ht hid1 hrd
    rintro i ⟨hk, m, more⟩ hin I
    simp only at I ⊢
    obtain ⟨ct, ht⟩ := (T.mono I.p).c
    by_cases hli : i < w.length + 1
    · have d1 : decide ((i : Int) ≤ (w.length : Int)) = true := decide_eq_true (by omega)
      have e4 : IntKind.i64.wrap ((i : Int) + 1) = (i : Int) + 1 := wrap64_id (by omega) (by omega)
      repeat (first | apply zs | apply zr | apply zn | ((first | apply zx | apply zy); · simp only [push_cast, env, Nat.reduceEqDiff, reduceIte, Nat.reduceAdd, Nat.reduceMul, Nat.reduceLeDiff, reduceCtorEq, Nat.reduceSub, Int.reduceToNat, ht, d1] <;> first | exact rfl | exact .inl rfl | exact .inr rfl) | apply zq | apply zb | apply zo | apply zk | apply zl)
      refine cw_condT rfl ?_
      repeat (first | apply zs | apply zr | apply zn | ((first | apply zx | apply zy); · simp only [push_cast, env, Nat.reduceEqDiff, reduceIte, Nat.reduceAdd, Nat.reduceMul, Nat.reduceLeDiff, reduceCtorEq, Nat.reduceSub, Int.reduceToNat] <;> first | exact rfl | exact .inl rfl | exact .inr rfl) | apply zq | apply zb | apply zo | apply zk | apply zl)
      clear ht
      refine cw_wh (fun x : Nat × Heap × List Bool × Bool => q.rhs.length - x.1) (fun x => [(0, .val (.pointer (some ⟨tp, 0, some 0⟩))), (3, .val (.slice (some ⟨im, 0, some vm⟩) k k)), (5, .val (.bool x.2.2.2)), (6, .val (i64 r)), (7, .box [i64 a, .slice p' q.rhs.length c2]), (8, .val (i64 i)), (9, .val (i64 x.1))]) (fun x => x.2.1)
        (fun x => x.1 ≤ q.rhs.length ∧ RW h x.2.1 g w N im vm m0 r i x.1 0 x.2.2.1 x.2.2.2) (0, hk, m, more) (by simp only [push_cast, Nat.reduceEqDiff, reduceIte]) rfl ⟨Nat.zero_le _, I⟩ ?_
      clear I
      rintro ⟨d, hk, m, more⟩ ⟨hdn, I⟩
      simp only at hdn I ⊢
      obtain ⟨ct, ht⟩ := (T.mono I.p).c
      repeat (first | apply zs | apply zr | apply zn | ((first | apply zx | apply zy); · simp only [push_cast, env, Nat.reduceEqDiff, reduceIte, Nat.reduceAdd, Nat.reduceMul, Nat.reduceLeDiff, reduceCtorEq, Nat.reduceSub, Int.reduceToNat] <;> first | exact rfl | exact .inl rfl | exact .inr rfl) | apply zq | apply zb | apply zo | apply zk | apply zl)
      refine cw_regionD 19 mixed (by kernel_rfl) ?_
      by_cases hld : d < q.rhs.length
      · have e3d := lt_dec hld
        have e2d := inc hld (by omega)
        obtain ⟨am, ham⟩ : ∃ am, am = a * (w.length + 1) := ⟨_, rfl⟩
        have hKl := widx_lt (N := N) (M := w.length + 1) (a := a) (i := i) (by omega) (by omega)
        obtain ⟨K, hK⟩ : ∃ K, K = widx (w.length + 1) a i := ⟨_, rfl⟩
        have hKe : K = am + i := by rw [hK, ham]; rfl
        rw [← hK, ← hT0] at hKl
        have f4 : IntKind.i64.wrap ((a : Int) * ((w.length : Int) + 1)) = (am : Int) := by
          rw [hM, ← Int.natCast_mul, ← ham]
          exact wrap64_id (by omega) (by omega)
        have f5 : IntKind.i64.wrap ((am : Int) + (i : Int)) = (K : Int) := by rw [wrap64_id (by omega) (by omega)]; omega
        have rK := rng hKl
        have hmK := mk_get (m := m) (i := K) (by rw [I.n, ← hT0]; exact hKl)
        have hwK : m.getD K false = wfn m (w.length + 1) a i := by rw [hK]; rfl
        rw [hwK] at hmK
        have hmo := I.o
        cases hb0 : wfn m (w.length + 1) a i with
        | false =>
          rw [hb0] at hmK
          repeat (first | apply zs | apply zr | apply zn | ((first | apply zx | apply zy); · simp only [push_cast, env, Nat.reduceEqDiff, reduceIte, Nat.reduceAdd, Nat.reduceMul, Nat.reduceLeDiff, reduceCtorEq, Nat.reduceSub, Int.reduceToNat, ht, e1, e3d, f4, f5, rK, hmo, hmK, Nat.mul_one] <;> first | exact rfl | exact .inl rfl | exact .inr rfl) | apply zq | apply zb | apply zo | apply zk | apply zl)
          refine cw_condF rfl ?_
          refine cw_exit ?_
          show CW _ _ _ _
          repeat (first | apply zs | apply zr | apply zn | ((first | apply zx | apply zy); · simp only [push_cast, env, Nat.reduceEqDiff, reduceIte, Nat.reduceAdd, Nat.reduceMul, Nat.reduceLeDiff, reduceCtorEq, Nat.reduceSub, Int.reduceToNat, e4] <;> first | exact rfl | exact .inl rfl | exact .inr rfl) | apply zq | apply zb | apply zo | apply zk | apply zl)
          refine ⟨hli, (hk, m, more), (by simp only [push_cast, Nat.reduceEqDiff, reduceIte]), rfl, I.p, I.o, I.n, I.s, I.z, I.mc, fun hm => ⟨(I.f hm).1, (I.f hm).2.iEnd hq (.inr ?_)⟩⟩
          rw [← (I.f hm).1, ha2]
          exact hb0
        | true =>
          rw [hb0] at hmK
          obtain ⟨id2, ver2, own2, c3, cells2, hv2, hid2, hrd2⟩ := hu'.at hld
          cases hv2
          have e9 := rng hld
          have g0 := rdH_get0 hrd2 (by omega)
          simp only [List.getElem?_cons_zero] at g0
          have hmem2 : q.rhs[d] ∈ _ := List.getElem_mem hld
          obtain ⟨t1, t2, t3⟩ := hS _ hmem2
          have hsd : q.rhs[d]? = some q.rhs[d] := List.getElem?_eq_getElem hld
          have hid3 := getElem?_of_prefix I.p hid2
          repeat (first | apply zs | apply zr | apply zn | ((first | apply zx | apply zy); · simp only [push_cast, env, Nat.reduceEqDiff, reduceIte, Nat.reduceAdd, Nat.reduceMul, Nat.reduceLeDiff, reduceCtorEq, Nat.reduceSub, Int.reduceToNat, ht, e1, e3d, f4, f5, rK, hmo, hmK, Nat.mul_one] <;> first | exact rfl | exact .inl rfl | exact .inr rfl) | apply zq | apply zb | apply zo | apply zk | apply zl)
          refine cw_condT rfl ?_
          repeat (first | apply zs | apply zr | apply zn | ((first | apply zx | apply zy); · simp only [push_cast, env, Nat.reduceEqDiff, reduceIte, Nat.reduceAdd, Nat.reduceMul, Nat.reduceLeDiff, reduceCtorEq, Nat.reduceSub, Int.reduceToNat, e9, hid3, g0] <;> first | exact rfl | exact .inl rfl | exact .inr rfl) | apply zq | apply zb | apply zo | apply zk | apply zl)
          by_cases ht0 : q.rhs[d].nt < 0
          · have d2 : decide (q.rhs[d].nt < 0) = true := decide_eq_true ht0
            refine cw_condT (by simp only [push_cast, env, Nat.reduceEqDiff, reduceIte, d2] <;> exact rfl) ?_
            refine cw_exit ?_
            show CW _ _ _ _
            repeat (first | apply zs | apply zr | apply zn | ((first | apply zx | apply zy); · simp only [push_cast, env, Nat.reduceEqDiff, reduceIte, Nat.reduceAdd, Nat.reduceMul, Nat.reduceLeDiff, reduceCtorEq, Nat.reduceSub, Int.reduceToNat, e2d] <;> first | exact rfl | exact .inl rfl | exact .inr rfl) | apply zq | apply zb | apply zo | apply zk | apply zl)
            exact ⟨(d + 1, hk, m, more), by simp only; omega, (by simp only [push_cast, Nat.reduceEqDiff, reduceIte]), rfl, by simp only; omega, I.upd fun k => k.dSkip hq hsd ht0⟩
          have d2 : decide (q.rhs[d].nt < 0) = false := decide_eq_false ht0
          refine cw_condF (by simp only [push_cast, env, Nat.reduceEqDiff, reduceIte, d2] <;> exact rfl) ?_
          obtain ⟨v', hsl, hP⟩ := syms_slice (SlR.mono hu' I.p) (show d ≤ q.rhs.length by omega)
          obtain ⟨pd, cd, rfl⟩ := hP.form
          obtain ⟨nb, hnb⟩ : ∃ nb : Nat, q.rhs[d].nt = nb := ⟨q.rhs[d].nt.toNat, by omega⟩
          have hnb2 : q.rhs[d].nt.toNat = nb := by omega
          rw [hnb] at g0
          clear hmK rK f4 f5
          repeat (first | apply zs | apply zr | apply zn | apply zq | apply zb | apply zo | apply zk | apply zl)
          iterate 4 (apply ow_cons; · simp only [push_cast, env, Nat.reduceEqDiff, reduceIte, Nat.reduceAdd, Nat.reduceMul, Nat.reduceLeDiff, reduceCtorEq, Nat.reduceSub, Int.reduceToNat] <;> exact rfl)
          refine ow_slice (v := .slice pd (q.rhs.take d).length cd) (by simp only [push_cast, env, Nat.reduceEqDiff, reduceIte] <;> exact rfl) rfl (hsl _ _ _ rfl (by simp only [push_cast, env, Nat.reduceEqDiff, reduceIte] <;> exact rfl) (by simp only [push_cast, env, Nat.reduceEqDiff, reduceIte] <;> exact rfl)) ?_
          repeat (first | apply zs | apply zr | apply zn | ((first | apply zx | apply zy); · simp only [push_cast, env, Nat.reduceEqDiff, reduceIte, Nat.reduceAdd, Nat.reduceMul, Nat.reduceLeDiff, reduceCtorEq, Nat.reduceSub, Int.reduceToNat] <;> first | exact rfl | exact .inl rfl | exact .inr rfl) | apply zq | apply zb | apply zo | apply zk | apply zl)
          refine zc (fn := Try.f46) (by simp only [push_cast, env, Nat.reduceEqDiff, reduceIte] <;> exact rfl) Try.func46 (by kernel_rfl) (by kernel_rfl) ?_
          rw [List.append_nil]
          refine (ends_fw (N := N) (T.mono I.p) (hwR.mono I.p) hw (by omega) hY hP (fun s hs' => ⟨by have := hS s (List.mem_of_mem_take hs'); omega, hWr s (List.mem_of_mem_take hs')⟩) (by omega)).mono ?_
          rintro _ h2 ⟨hE, hp2⟩
          obtain ⟨ie, ve, hie, rfl, heg⟩ := hE.mine (by omega)
          have himl := lt_of_get I.o
          have I2 := (I.upd PrW.jStart).mono hp2
          repeat (first | apply zs | apply zr | apply zn | ((first | apply zx | apply zy); · simp only [push_cast, env, Nat.reduceEqDiff, reduceIte, Nat.reduceAdd, Nat.reduceMul, Nat.reduceLeDiff, reduceCtorEq, Nat.reduceSub, Int.reduceToNat] <;> first | exact rfl | exact .inl rfl | exact .inr rfl) | apply zq | apply zb | apply zo | apply zk | apply zl)
          have hWt : Wt g w q.lhs i := by rw [ha]; exact I.s a i (by omega) hb0
          have hni := fun (j : Nat) (hj : j ≤ w.length) => ends_iff TS TF (l := q.rhs) (i := i) (j := j) (d := d) (by omega) hj
          obtain ⟨s, hs⟩ : ∃ s, q.rhs[d] = s := ⟨_, rfl⟩
          rw [hs] at hnb hnb2 hsd hmem2 t2 ht0
          clear I ht hmo hid3
          refine cw_wh (fun x : Nat × Heap × List Bool × Bool => w.length + 1 - x.1) (fun x => [(0, .val (.pointer (some ⟨tp, 0, some 0⟩))), (3, .val (.slice (some ⟨im, 0, some vm⟩) k k)), (5, .val (.bool x.2.2.2)), (6, .val (i64 r)), (7, .box [i64 a, .slice (some ⟨id2, 0, some ver2⟩) q.rhs.length c2]), (8, .val (i64 i)), (9, .val (i64 d)), (10, .val (.slice (some ⟨ie, 0, some ve⟩) (w.length + 1) (w.length + 1))), (11, .val (i64 x.1))]) (fun x => x.2.1)
            (fun x => i ≤ x.1 ∧ x.1 ≤ w.length + 1 ∧ RW h x.2.1 g w N im vm m0 r i d x.1 x.2.2.1 x.2.2.2 ∧ x.2.1[ie]? = some (.arr ((endL (yfn Y (w.length + 1)) w (q.rhs.take d) i (q.rhs.take d).length).map .bool) ve true 4)) (i, h2, m, more) (by simp only [push_cast, Nat.reduceEqDiff, reduceIte]) rfl ⟨Nat.le_refl _, by simp only; omega, I2, heg⟩ ?_
          clear I2 heg hb0 hP hE
          rintro ⟨j, hk3, m, more⟩ ⟨hij, hjn, I, heg⟩
          simp only at hij hjn I heg ⊢
          obtain ⟨ct3, ht3⟩ := (T.mono I.p).c
          by_cases hlj : j < w.length + 1
          · have d3 : decide ((j : Int) ≤ (w.length : Int)) = true := decide_eq_true (by omega)
            have e5 : IntKind.i64.wrap ((j : Int) + 1) = (j : Int) + 1 := wrap64_id (by omega) (by omega)
            have hid3 := getElem?_of_prefix I.p hid2
            have hmo := I.o
            obtain ⟨nm, hnm⟩ : ∃ nm, nm = nb * (w.length + 1) := ⟨_, rfl⟩
            have hK2l := widx_lt (N := N) (M := w.length + 1) (a := nb) (i := j) (by omega) hlj
            obtain ⟨K2, hK2⟩ : ∃ K2, K2 = widx (w.length + 1) nb j := ⟨_, rfl⟩
            have hK2e : K2 = nm + j := by rw [hK2, hnm]; rfl
            have hK2s : K2 < m.length := by rw [I.n, hK2]; exact hK2l
            rw [← hK2, ← hT0] at hK2l
            have f6 : IntKind.i64.wrap ((nb : Int) * ((w.length : Int) + 1)) = (nm : Int) := by
              rw [hM, ← Int.natCast_mul, ← hnm]
              exact wrap64_id (by omega) (by omega)
            have f7 : IntKind.i64.wrap ((nm : Int) + (j : Int)) = (K2 : Int) := by rw [wrap64_id (by omega) (by omega)]; omega
            have rK2 := rng hK2l
            have hmK := mk_get (m := m) (i := K2) hK2s
            have hwK2 : m.getD K2 false = wfn m (w.length + 1) nb j := by rw [hK2]; rfl
            rw [hwK2] at hmK
            have hEb := endL_get (yf := yfn Y (w.length + 1)) (w := w) (l := q.rhs.take d) (i := i) (k := (q.rhs.take d).length) (j := j) (by omega)
            have r1 : (0 ≤ (j : Int) ∧ (j : Int) < (w.length : Int) + 1) = True := by simp; omega
            have hni' := hni j (by omega)
            have hPs : (Sq g.rules w (q.rhs.take d) i j → wfn m (w.length + 1) nb j = true) → RW h hk3 g w N im vm m0 r i d (j + 1) m more := fun hh => ⟨I.p, I.o, I.n, I.s, I.z, I.mc, fun hm => ⟨(I.f hm).1, (I.f hm).2.jStep hq hsd fun he => by
              rw [hnb2, ← (I.f hm).1]
              exact hh he⟩⟩
            repeat (first | apply zs | apply zr | apply zn | ((first | apply zx | apply zy); · simp only [push_cast, env, Nat.reduceEqDiff, reduceIte, Nat.reduceAdd, Nat.reduceMul, Nat.reduceLeDiff, reduceCtorEq, Nat.reduceSub, Int.reduceToNat, ht3, d3] <;> first | exact rfl | exact .inl rfl | exact .inr rfl) | apply zq | apply zb | apply zo | apply zk | apply zl)
            refine cw_condT rfl ?_
            repeat (first | apply zs | apply zr | apply zn | ((first | apply zx | apply zy); · simp only [push_cast, env, Nat.reduceEqDiff, reduceIte, Nat.reduceAdd, Nat.reduceMul, Nat.reduceLeDiff, reduceCtorEq, Nat.reduceSub, Int.reduceToNat] <;> first | exact rfl | exact .inl rfl | exact .inr rfl) | apply zq | apply zb | apply zo | apply zk | apply zl)
            refine cw_regionD 14 mixed (by kernel_rfl) ?_
            repeat (first | apply zs | apply zr | apply zn | ((first | apply zx | apply zy); · simp only [push_cast, env, Nat.reduceEqDiff, reduceIte, Nat.reduceAdd, Nat.reduceMul, Nat.reduceLeDiff, reduceCtorEq, Nat.reduceSub, Int.reduceToNat, ht3, hid3, e9, g0, e1, f6, f7] <;> first | exact rfl | exact .inl rfl | exact .inr rfl) | apply zq | apply zb | apply zo | apply zk | apply zl)
            cases hb1 : endB (yfn Y (w.length + 1)) w (q.rhs.take d) i (q.rhs.take d).length j with
            | false =>
              rw [hb1] at hEb hni'
              repeat (first | apply zs | apply zr | apply zn | ((first | apply zx | apply zy); · simp only [push_cast, env, Nat.reduceEqDiff, reduceIte, Nat.reduceAdd, Nat.reduceMul, Nat.reduceLeDiff, reduceCtorEq, Nat.reduceSub, Int.reduceToNat, heg, hEb, r1, Nat.mul_one] <;> first | exact rfl | exact .inl rfl | exact .inr rfl) | apply zq | apply zb | apply zo | apply zk | apply zl)
              refine cw_condF rfl ?_
              repeat (first | apply zs | apply zr | apply zn | ((first | apply zx | apply zy); · simp only [push_cast, env, Nat.reduceEqDiff, reduceIte, Nat.reduceAdd, Nat.reduceMul, Nat.reduceLeDiff, reduceCtorEq, Nat.reduceSub, Int.reduceToNat, e5] <;> first | exact rfl | exact .inl rfl | exact .inr rfl) | apply zq | apply zb | apply zo | apply zk | apply zl)
              exact ⟨(j + 1, hk3, m, more), by simp only; omega, (by simp only [push_cast, Nat.reduceEqDiff, reduceIte]), rfl, by simp only; omega, by simp only; omega, hPs (fun h => by have := hni'.2 h; cases this), heg⟩
            | true =>
              rw [hb1] at hEb hni'
              cases hb2 : wfn m (w.length + 1) nb j with
              | true =>
                rw [hb2] at hmK
                repeat (first | apply zs | apply zr | apply zn | ((first | apply zx | apply zy); · simp only [push_cast, env, Nat.reduceEqDiff, reduceIte, Nat.reduceAdd, Nat.reduceMul, Nat.reduceLeDiff, reduceCtorEq, Nat.reduceSub, Int.reduceToNat, heg, hEb, r1, hmo, hmK, rK2, Nat.mul_one] <;> first | exact rfl | exact .inl rfl | exact .inr rfl) | apply zq | apply zb | apply zo | apply zk | apply zl)
                refine cw_condF rfl ?_
                repeat (first | apply zs | apply zr | apply zn | ((first | apply zx | apply zy); · simp only [push_cast, env, Nat.reduceEqDiff, reduceIte, Nat.reduceAdd, Nat.reduceMul, Nat.reduceLeDiff, reduceCtorEq, Nat.reduceSub, Int.reduceToNat, e5] <;> first | exact rfl | exact .inl rfl | exact .inr rfl) | apply zq | apply zb | apply zo | apply zk | apply zl)
                exact ⟨(j + 1, hk3, m, more), by simp only; omega, (by simp only [push_cast, Nat.reduceEqDiff, reduceIte]), rfl, by simp only; omega, by simp only; omega, hPs (fun _ => hb2), heg⟩
              | false =>
                rw [hb2] at hmK
                repeat (first | apply zs | apply zr | apply zn | ((first | apply zx | apply zy); · simp only [push_cast, env, Nat.reduceEqDiff, reduceIte, Nat.reduceAdd, Nat.reduceMul, Nat.reduceLeDiff, reduceCtorEq, Nat.reduceSub, Int.reduceToNat, heg, hEb, r1, hmo, hmK, rK2, Nat.mul_one] <;> first | exact rfl | exact .inl rfl | exact .inr rfl) | apply zq | apply zb | apply zo | apply zk | apply zl)
                refine cw_condT rfl ?_
                repeat (first | apply zs | apply zr | apply zn | ((first | apply zx | apply zy); · simp only [push_cast, env, Nat.reduceEqDiff, reduceIte, Nat.reduceAdd, Nat.reduceMul, Nat.reduceLeDiff, reduceCtorEq, Nat.reduceSub, Int.reduceToNat, hmo, rK2, Nat.mul_one] <;> first | exact rfl | exact .inl rfl | exact .inr rfl) | apply zq | apply zb | apply zo | apply zk | apply zl)
                refine ow_stoH (by simp only [push_cast, env, Nat.reduceEqDiff, reduceIte] <;> exact rfl) rfl rfl (by simp only [push_cast, env, Nat.reduceEqDiff, reduceIte] <;> exact rfl) (by simp only [push_cast, env, Nat.reduceEqDiff, reduceIte] <;> exact rfl) hmo (by simp only [push_cast, env, Nat.reduceEqDiff, reduceIte] <;> exact rfl) rfl (wr_map (f := Value.bool) (x := true) hK2s) ?_
                repeat (first | apply zs | apply zr | apply zn | ((first | apply zx | apply zy); · simp only [push_cast, env, Nat.reduceEqDiff, reduceIte, Nat.reduceAdd, Nat.reduceMul, Nat.reduceLeDiff, reduceCtorEq, Nat.reduceSub, Int.reduceToNat, e5] <;> first | exact rfl | exact .inl rfl | exact .inr rfl) | apply zq | apply zb | apply zo | apply zk | apply zl)
                have hSq := hni'.1 rfl
                have hcnt : (m.set K2 true).count false < m.count false := count_set_true hK2s (by rw [hwK2]; exact hb2)
                have hne : im ≠ ie := by omega
                refine ⟨(j + 1, _, m.set K2 true, true), by simp only; omega, (by simp only [push_cast, Nat.reduceEqDiff, reduceIte]), rfl, by simp only; omega, by simp only; omega, ⟨hlow I.p, get_set_self hmo, by rw [List.length_set]; exact I.n, fun a' i' hi' hh => ?_, ?_, fun _ => ?_, fun h => (by cases h)⟩, ?_⟩
                · rw [hK2, wfn_set hlj (by omega) (by rw [← hK2]; exact hK2s)] at hh
                  split at hh
                  · rename_i e
                    obtain ⟨rfl, rfl⟩ := e
                    rw [← hnb]
                    exact .step q d i j s hmem hWt hsd (by omega) hSq
                  · exact I.s a' i' hi' hh
                · rw [hK2, wfn_set hlj (by omega) (by rw [← hK2]; exact hK2s)]
                  split
                  · rfl
                  · exact I.z
                · cases more with
                  | true => have := I.mc rfl; simp only; omega
                  | false => simp only; rw [← (I.f rfl).1]; exact hcnt
                · simp only
                  rw [get_set_ne hne]
                  exact heg
          · have d3 : decide ((w.length : Int) + 1 ≤ (w.length : Int)) = false := decide_eq_false (by omega)
            obtain rfl : j = w.length + 1 := by omega
            repeat (first | apply zs | apply zr | apply zn | ((first | apply zx | apply zy); · simp only [push_cast, env, Nat.reduceEqDiff, reduceIte, Nat.reduceAdd, Nat.reduceMul, Nat.reduceLeDiff, reduceCtorEq, Nat.reduceSub, Int.reduceToNat, ht3, d3] <;> first | exact rfl | exact .inl rfl | exact .inr rfl) | apply zq | apply zb | apply zo | apply zk | apply zl)
            refine cw_condF rfl ?_
            refine cw_exit ?_
            show CW _ _ _ _
            repeat (first | apply zs | apply zr | apply zn | ((first | apply zx | apply zy); · simp only [push_cast, env, Nat.reduceEqDiff, reduceIte, Nat.reduceAdd, Nat.reduceMul, Nat.reduceLeDiff, reduceCtorEq, Nat.reduceSub, Int.reduceToNat, e2d] <;> first | exact rfl | exact .inl rfl | exact .inr rfl) | apply zq | apply zb | apply zo | apply zk | apply zl)
            exact ⟨(d + 1, hk3, m, more), by simp only; omega, (by simp only [push_cast, Nat.reduceEqDiff, reduceIte]), rfl, by simp only; omega, I.upd PrW.dEnd⟩
      · have e3d := ge_dec hld
        obtain rfl : d = q.rhs.length := by omega
        repeat (first | apply zs | apply zr | apply zn | ((first | apply zx | apply zy); · simp only [push_cast, env, Nat.reduceEqDiff, reduceIte, Nat.reduceAdd, Nat.reduceMul, Nat.reduceLeDiff, reduceCtorEq, Nat.reduceSub, Int.reduceToNat, e3d] <;> first | exact rfl | exact .inl rfl | exact .inr rfl) | apply zq | apply zb | apply zo | apply zk | apply zl)
        refine cw_condF rfl ?_
        refine cw_exit ?_
        show CW _ _ _ _
        repeat (first | apply zs | apply zr | apply zn | ((first | apply zx | apply zy); · simp only [push_cast, env, Nat.reduceEqDiff, reduceIte, Nat.reduceAdd, Nat.reduceMul, Nat.reduceLeDiff, reduceCtorEq, Nat.reduceSub, Int.reduceToNat, e4] <;> first | exact rfl | exact .inl rfl | exact .inr rfl) | apply zq | apply zb | apply zo | apply zk | apply zl)
        exact ⟨hli, (hk, m, more), (by simp only [push_cast, Nat.reduceEqDiff, reduceIte]), rfl, I.upd fun k => k.iEnd hq (.inl (Nat.le_refl _))⟩
    · have d1 : decide ((w.length : Int) + 1 ≤ (w.length : Int)) = false := decide_eq_false (by omega)
      obtain rfl : i = w.length + 1 := by omega
      repeat (first | apply zs | apply zr | apply zn | ((first | apply zx | apply zy); · simp only [push_cast, env, Nat.reduceEqDiff, reduceIte, Nat.reduceAdd, Nat.reduceMul, Nat.reduceLeDiff, reduceCtorEq, Nat.reduceSub, Int.reduceToNat, ht, d1] <;> first | exact rfl | exact .inl rfl | exact .inr rfl) | apply zq | apply zb | apply zo | apply zk | apply zl)
      refine cw_condF rfl ?_
      refine cw_exit ?_
      show CW _ _ _ _
      repeat (first | apply zs | apply zr | apply zn | ((first | apply zx | apply zy); · simp only [push_cast, env, Nat.reduceEqDiff, reduceIte, Nat.reduceAdd, Nat.reduceMul, Nat.reduceLeDiff, reduceCtorEq, Nat.reduceSub, Int.reduceToNat, e2r] <;> first | exact rfl | exact .inl rfl | exact .inr rfl) | apply zq | apply zb | apply zo | apply zk | apply zl)
      exact ⟨hlr, (hk, m, more), (by simp only [push_cast, Nat.reduceEqDiff, reduceIte]), rfl, I.upd PrW.rEnd⟩
  · have e3r := ge_dec hlr
    obtain rfl : r = g.rules.length := by omega
    repeat (first | apply zs | apply zr | apply zn | ((first | apply zx | apply zy); · simp only [push_cast, env, Nat.reduceEqDiff, reduceIte, Nat.reduceAdd, Nat.reduceMul, Nat.reduceLeDiff, reduceCtorEq, Nat.reduceSub, Int.reduceToNat, ht, e3r] <;> first | exact rfl | exact .inl rfl | exact .inr rfl) | apply zq | apply zb | apply zo | apply zk | apply zl)
    refine cw_condF rfl ?_
    refine cw_exit ?_
    refine ⟨(hk, m, more), ?_, (by simp only [push_cast, Nat.reduceEqDiff, reduceIte]), rfl, I.p, I.o, I.n, I.s, I.z, fun hm => (I.f hm).1 ▸ (I.f hm).2.full (by rw [← (I.f hm).1]; exact I.z)⟩
    simp only
    cases more with
    | true => have := I.mc rfl; simp; omega
    | false => rw [(I.f rfl).1]; simp
end Go.Proofs.Ytafncpgiibikcaa

namespace Go.Proofs.Ytafncpgiibikcaa
set_option linter.unusedSimpArgs false
set_option linter.unusedVariables false
set_option maxRecDepth 20000
open Go.RowKit Am Ty

structure NI (h hk : Heap) (io : Nat) (us : List Value) (L : List (List Item)) : Prop where
  n : us.length = L.length
  g : ∀ (i : Nat) (u : Value) (l : List Item), us[i]? = some u → L[i]? = some l → Grow h hk u l.length (l.flatMap Item.cells) 57
  d : ∀ (i j : Nat) (u w : Value) (x : Nat), i ≠ j → us[i]? = some u → us[j]? = some w → isAt u x = true → isAt w x = false
  o : ∀ (i : Nat) (u : Value), us[i]? = some u → isAt u io = false
theorem NI.put {h hk h' : Heap} {io i vo : Nat} {us : List Value} {L : List (List Item)} {v v' : Value} {l l' : List Item} {vs : List Value} (H : NI h hk io us L) (hi : us[i]? = some v) (hl : L[i]? = some l) (hio : io < hk.length)
    (G : Grow h h' v' l'.length (l'.flatMap Item.cells) 57) (hp : ∀ j o, isAt v j = false → hk[j]? = some o → h'[j]? = some o) (hx : ∀ x, isAt v' x = true → isAt v x = true ∨ x = hk.length) :
    NI h (h'.set io (.arr vs vo true 55)) io (us.set i v') (L.set i l') := by
  have hiu : i < us.length := (List.getElem?_eq_some_iff.1 hi).1
  have hil : i < L.length := (List.getElem?_eq_some_iff.1 hl).1
  have at' : ∀ (j : Nat) (u : Value), us[j]? = some u → ∀ x, isAt u x = true → x < hk.length ∧ x ≠ io := fun j u hj x hu => by
    obtain ⟨l, hl⟩ : ∃ l, L[j]? = some l := ⟨L[j]'(by rw [← H.n]; exact (List.getElem?_eq_some_iff.1 hj).1), by simp⟩
    have h1 := (H.g j u l hj hl).lt hu
    refine ⟨h1.2, ?_⟩
    rintro rfl
    rw [H.o j u hj] at hu
    cases hu
  have v'io : isAt v' io = false := by
    cases hb : isAt v' io with
    | false => rfl
    | true =>
      rcases hx io hb with h1 | h1
      · exact ((at' i v hi io h1).2 rfl).elim
      · omega
  have setne : ∀ (u : Value), isAt u io = false → ∀ j o, isAt u j = true → h'[j]? = some o → (h'.set io (.arr vs vo true 55))[j]? = some o := fun u hu j o hj ho => by
    rw [get_set_ne (by rintro rfl; rw [hu] at hj; cases hj)]
    exact ho
  refine ⟨by simp [H.n], fun j u q hj hq => ?_, fun j k u w x hjk hj hk2 hu => ?_, fun j u hj => ?_⟩
  · rw [List.getElem?_set] at hj hq
    by_cases e : i = j
    · subst e
      rw [if_pos rfl, if_pos hiu] at hj
      rw [if_pos rfl, if_pos hil] at hq
      cases hj; cases hq
      exact G.mono (setne _ v'io)
    · rw [if_neg e] at hj hq
      refine (H.g j u q hj hq).mono fun x o hx1 ho => ?_
      exact setne u (H.o j u hj) x o hx1 (hp x o (H.d j i u v x (Ne.symm e) hj hi hx1) ho)
  · rw [List.getElem?_set] at hj hk2
    by_cases e : i = j
    · subst e
      rw [if_pos rfl, if_pos hiu] at hj
      rw [if_neg hjk] at hk2
      cases hj
      rcases hx x hu with h1 | h1
      · exact H.d i k v w x hjk hi hk2 h1
      · cases hb : isAt w x with
        | false => rfl
        | true => have := (at' k w hk2 x hb).1; omega
    · rw [if_neg e] at hj
      by_cases e2 : i = k
      · subst e2
        rw [if_pos rfl, if_pos hiu] at hk2
        cases hk2
        cases hb : isAt v' x with
        | false => rfl
        | true =>
          rcases hx x hb with h1 | h1
          · rw [H.d j i u v x hjk hj hi hu] at h1
            cases h1
          · have := (at' j u hj x hu).1; omega
      · rw [if_neg e2] at hk2
        exact H.d j k u w x hjk hj hk2 hu
  · rw [List.getElem?_set] at hj
    by_cases e : i = j
    · subst e
      rw [if_pos rfl, if_pos hiu] at hj
      cases hj
      exact v'io
    · rw [if_neg e] at hj
      exact H.o j u hj
def GC (h h' : Heap) (v : Value) (L : List (List Item)) : Prop := ∃ io vo us, h.length ≤ io ∧ v = .slice (some ⟨io, 0, some vo⟩) L.length L.length ∧ h'[io]? = some (.arr us vo true 55) ∧ NI h h' io us L
def RChR (g : Gram) (w : List Nat) (h : Heap) (r : Value) (h' : Heap) : Prop := ∃ v, r = .tuple #[v, i64 (fitE g w)] ∧ (fitE g w ≠ 0 → v = nilS) ∧ (fitE g w = 0 → ∃ L, ChS g w L ∧ GC h h' v L)
structure CI2 (h hk : Heap) (g : Gram) (w : List Nat) (io vo : Nat) (r d i : Nat) (us : List Value) (L : List (List Item)) : Prop where
  p : h <+: hk
  o : hk[io]? = some (.arr us vo true 55)
  ni : NI h hk io us L
  c : PH g w r d i L
theorem CI2.upd {h hk : Heap} {g : Gram} {w : List Nat} {io vo : Nat} {r d i r' d' i' : Nat} {us : List Value} {L : List (List Item)} (I : CI2 h hk g w io vo r d i us L) (k : PH g w r d i L → PH g w r' d' i' L) : CI2 h hk g w io vo r' d' i' us L := ⟨I.p, I.o, I.ni, k I.c⟩
theorem small_items {g : Gram} {w : List Nat} (R : RightS g) (hw : w.length ≤ 512) {l : List Item} {j : Nat} (hn : l.Pairwise (fun x y => ltI x y = true)) (hm : ∀ x ∈ l, It g w j x) : l.length ≤ 1000000000 := by
  have h1 : l.Nodup := hn.imp fun {x y} h e => by subst e; rw [ltI_irr] at h; cases h
  have h2 := nodup_le l (allItems j 0 g.rules) h1 fun x hx => by
    have hb := (hm x hx).bd
    obtain ⟨q, k1, k2, k3, k4⟩ := (hm x hx).sound
    exact allItems_mem 0 g.rules x.rule q k1 (by omega) k2 hb.2.1
  rw [allItems_len] at h2
  by_cases hl : l = []
  · subst hl
    simp
  · obtain ⟨x, hx⟩ := List.exists_mem_of_ne_nil _ hl
    have hj := (hm x hx).bd.2.2.1
    have h3 : gsize g.rules ≤ g.rules.length * 81 := by
      have : ∀ (l : List Rule), (∀ r ∈ l, r.rhs.length ≤ 80) → gsize l ≤ l.length * 81 := by
        intro l
        induction l with
        | nil => intro _; simp [gsize]
        | cons r l ih =>
          intro h
          have h1 := h r List.mem_cons_self
          have h2 := ih fun q hq => h q (List.mem_cons_of_mem _ hq)
          unfold gsize at h2 ⊢
          simp only [List.map_cons, List.sum_cons, List.length_cons]
          omega
      exact this g.rules fun r hr => (R.r r hr).2.2.1
    have h4 := R.rl
    have h5 : gsize g.rules ≤ 663552 := by omega
    have h6 : gsize g.rules * (j + 1) ≤ 663552 * 513 := Nat.mul_le_mul h5 (by omega)
    omega
set_option maxHeartbeats 16000000 in
theorem rchart_fw {h : Heap} {g : Gram} {v wv : Value} {w : List Nat} (hr : RdGram h v g) (hwR : RdB h wv w) (W : WfG g) (hL : fitE g w = 0 → Light g w) : FW env 25 [v, wv] h fun r h' => RChR g w h r h' ∧ h <+: h' := by
  obtain ⟨u, rfl, hu⟩ := id hr
  obtain ⟨p, c, rfl⟩ := hu.form
  obtain ⟨pw, cw, rfl⟩ := hwR.form
  refine fw_enter (fn := Try.f25) Try.func25 rfl (by kernel_rfl) (by simp [Try.ntmps25]) ?_; simp only [push_cast]
  repeat (first | apply zs | apply zr | apply zn | ((first | apply zx | apply zy); · simp only [push_cast, env, Nat.reduceEqDiff, reduceIte, Nat.reduceAdd, Nat.reduceMul, Nat.reduceLeDiff, reduceCtorEq, Nat.reduceSub, Int.reduceToNat] <;> first | exact rfl | exact .inl rfl | exact .inr rfl) | apply zq | apply zb | apply zo | apply zk | apply zl)
  refine zc (fn := Try.f30) (by simp only [push_cast, env, Nat.reduceEqDiff, reduceIte] <;> exact rfl) Try.func30 (by kernel_rfl) (by kernel_rfl) ?_
  rw [List.append_nil]
  refine (rfit_fw hr hwR).mono ?_
  rintro _ h ⟨rfl, rfl⟩
  by_cases hf : ¬ fitE g w = 0
  · have df : decide (fitE g w = 0) = false := decide_eq_false hf
    repeat (first | apply zs | apply zr | apply zn | ((first | apply zx | apply zy); · simp only [push_cast, env, Nat.reduceEqDiff, reduceIte, Nat.reduceAdd, Nat.reduceMul, Nat.reduceLeDiff, reduceCtorEq, Nat.reduceSub, Int.reduceToNat, df] <;> first | exact rfl | exact .inl rfl | exact .inr rfl) | apply zq | apply zb | apply zo | apply zk | apply zl)
    refine cw_condT (by simp only [push_cast, env, Nat.reduceEqDiff, reduceIte, df] <;> exact rfl) ?_
    repeat (first | apply zs | apply zr | apply zn | ((first | apply zx | apply zy); · simp only [push_cast, env, Nat.reduceEqDiff, reduceIte, Nat.reduceAdd, Nat.reduceMul, Nat.reduceLeDiff, reduceCtorEq, Nat.reduceSub, Int.reduceToNat] <;> first | exact rfl | exact .inl rfl | exact .inr rfl) | apply zq | apply zb | apply zo | apply zk | apply zl)
    refine cw_ret ?_
    exact ⟨_, (by simp only [push_cast, env, Nat.reduceEqDiff, reduceIte] <;> exact rfl), ⟨nilS, rfl, fun _ => rfl, fun h => absurd h hf⟩, List.prefix_refl _⟩
  replace hf : fitE g w = 0 := Classical.not_not.1 hf
  obtain ⟨hb, hw⟩ := fitE_ok.1 hf
  have R := rightS hb
  rw [hf]
  repeat (first | apply zs | apply zr | apply zn | ((first | apply zx | apply zy); · simp only [push_cast, env, Nat.reduceEqDiff, reduceIte, Nat.reduceAdd, Nat.reduceMul, Nat.reduceLeDiff, reduceCtorEq, Nat.reduceSub, Int.reduceToNat] <;> first | exact rfl | exact .inl rfl | exact .inr rfl) | apply zq | apply zb | apply zo | apply zk | apply zl)
  refine cw_condF rfl ?_
  have n1 := R.n1
  have n2 := R.n2
  have hrl := R.rl
  obtain ⟨N, hN⟩ : ∃ N : Nat, g.nts = N := ⟨g.nts.toNat, by omega⟩
  have hsz : N * (w.length + 1) * (w.length + 1) ≤ 1000000 := by
    have := hL hf
    unfold Light at this
    rwa [hN, Int.toNat_natCast] at this
  have hM : ((w.length : Int) + 1) = ((w.length + 1 : Nat) : Int) := by omega
  have b0 : N * (w.length + 1) ≤ 1000000 := Nat.le_trans (Nat.le_mul_of_pos_right _ (by omega)) hsz
  have e1 : IntKind.i64.wrap ((w.length : Int) + 1) = (w.length : Int) + 1 := wrap64_id (by omega) (by omega)
  repeat (first | apply zs | apply zr | apply zn | ((first | apply zx | apply zy); · simp only [push_cast, env, Nat.reduceEqDiff, reduceIte, Nat.reduceAdd, Nat.reduceMul, Nat.reduceLeDiff, reduceCtorEq, Nat.reduceSub, Int.reduceToNat] <;> first | exact rfl | exact .inl rfl | exact .inr rfl) | apply zq | apply zb | apply zo | apply zk | apply zl)
  refine zc (fn := Try.f38) (by simp only [push_cast, env, Nat.reduceEqDiff, reduceIte] <;> exact rfl) Try.func38 (by kernel_rfl) (by kernel_rfl) ?_
  rw [List.append_nil]
  refine (fill_fw hr hwR R W hw hN hsz).mono ?_
  rintro _ h1 ⟨tp, rv, yi, yr, Y, rfl, hp1, T, hY, TS, TF, hrv⟩
  repeat (first | apply zs | apply zr | apply zn | ((first | apply zx | apply zy); · simp only [push_cast, env, Nat.reduceEqDiff, reduceIte, Nat.reduceAdd, Nat.reduceMul, Nat.reduceLeDiff, reduceCtorEq, Nat.reduceSub, Int.reduceToNat] <;> first | exact rfl | exact .inl rfl | exact .inr rfl) | apply zq | apply zb | apply zo | apply zk | apply zl)
  refine zc (fn := Try.f45) (by simp only [push_cast, env, Nat.reduceEqDiff, reduceIte] <;> exact rfl) Try.func45 (by kernel_rfl) (by kernel_rfl) ?_
  rw [List.append_nil]
  refine (wanted_fw T (hwR.mono hp1) hw R W hN hsz hY TS TF (hrv.mono hp1)).mono ?_
  rintro _ h2 ⟨m, ⟨im, vm, him, rfl, hmo⟩, hmn, WS, WF, hp2⟩
  replace T := T.mono hp2
  have hp3 := hp1.trans hp2
  replace hrv := hrv.mono hp3
  have hu2 := hu.mono hp3
  have hwR2 := hwR.mono hp3
  clear hwR hu hr hp1 hp2
  repeat (first | apply zs | apply zr | apply zn | ((first | apply zx | apply zy); · simp only [push_cast, env, Nat.reduceEqDiff, reduceIte, Nat.reduceAdd, Nat.reduceMul, Nat.reduceLeDiff, reduceCtorEq, Nat.reduceSub, Int.reduceToNat] <;> first | exact rfl | exact .inl rfl | exact .inr rfl) | apply zq | apply zb | apply zo | apply zk | apply zl)
  refine cw_forG (w.length + 1) (fun k (x : Heap × Value) => [(2, .box [i64 g.nts, i64 g.start, .slice p g.rules.length c]), (6, .val (i64 0)), (7, .val (.pointer (some ⟨tp, 0, some 0⟩))), (8, .val (.slice (some ⟨im, 0, some vm⟩) m.length m.length)), (9, .val x.2), (10, .val (i64 k))]) (fun _ x => x.1)
    (fun k x => h2 <+: x.1 ∧ Grow h2 x.1 x.2 k (List.replicate k nilS) 55) (h2, nilS) (by simp only [push_cast, Nat.reduceEqDiff, reduceIte]) rfl ⟨List.prefix_refl _, Grow.nil⟩ ?_
  rintro k ⟨hk, ov⟩ hkn ⟨hp, hG⟩
  simp only at hp hG ⊢
  obtain ⟨po, co, rfl⟩ := hG.form
  obtain ⟨ct, ht⟩ := (T.mono hp).c
  by_cases hlt : k < w.length + 1
  · have d3 : decide ((k : Int) ≤ (w.length : Int)) = true := decide_eq_true (by omega)
    have f2 : IntKind.i64.wrap ((k : Int) + 1) = (k : Int) + 1 := wrap64_id (by omega) (by omega)
    repeat (first | apply zs | apply zr | apply zn | ((first | apply zx | apply zy); · simp only [push_cast, env, Nat.reduceEqDiff, reduceIte, Nat.reduceAdd, Nat.reduceMul, Nat.reduceLeDiff, reduceCtorEq, Nat.reduceSub, Int.reduceToNat, ht, d3] <;> first | exact rfl | exact .inl rfl | exact .inr rfl) | apply zq | apply zb | apply zo | apply zk | apply zl)
    refine cw_condT rfl ?_
    repeat (first | apply zs | apply zr | apply zn | ((first | apply zx | apply zy); · simp only [push_cast, env, Nat.reduceEqDiff, reduceIte, Nat.reduceAdd, Nat.reduceMul, Nat.reduceLeDiff, reduceCtorEq, Nat.reduceSub, Int.reduceToNat] <;> first | exact rfl | exact .inl rfl | exact .inr rfl) | apply zq | apply zb | apply zo | apply zk | apply zl)
    refine ow_push (t := 51) (cs := [nilS]) (cells := List.replicate k nilS) (by simp only [push_cast, env, Nat.reduceEqDiff, reduceIte] <;> exact rfl) rfl (by kernel_rfl) ti55 (by decide) rfl (by simp only [push_cast, env, Nat.reduceEqDiff, reduceIte] <;> exact rfl) rfl hG hp (by simp) rfl (by simp only; omega) (by omega) ?_
    intro p1 c1 h3 G2 hp2 hk2 hl2
    repeat (first | apply zs | apply zr | apply zn | ((first | apply zx | apply zy); · simp only [push_cast, env, Nat.reduceEqDiff, reduceIte, Nat.reduceAdd, Nat.reduceMul, Nat.reduceLeDiff, reduceCtorEq, Nat.reduceSub, Int.reduceToNat, f2] <;> first | exact rfl | exact .inl rfl | exact .inr rfl) | apply zq | apply zb | apply zo | apply zk | apply zl)
    exact ⟨hlt, (h3, .slice p1 (k + 1) c1), (by simp only [push_cast, Nat.reduceEqDiff, reduceIte]), rfl, hp2, by simp only; rw [List.replicate_succ']; exact G2⟩
  have d3 : decide ((w.length : Int) + 1 ≤ (w.length : Int)) = false := decide_eq_false (by omega)
  obtain rfl : k = w.length + 1 := by omega
  repeat (first | apply zs | apply zr | apply zn | ((first | apply zx | apply zy); · simp only [push_cast, env, Nat.reduceEqDiff, reduceIte, Nat.reduceAdd, Nat.reduceMul, Nat.reduceLeDiff, reduceCtorEq, Nat.reduceSub, Int.reduceToNat, ht, d3] <;> first | exact rfl | exact .inl rfl | exact .inr rfl) | apply zq | apply zb | apply zo | apply zk | apply zl)
  refine cw_condF rfl ?_
  refine cw_exit ?_
  show CW _ _ _ _
  obtain ⟨io, vo, hio, hoe, hog⟩ := hG.mine (by omega)
  cases hoe
  clear d3 hG ht
  have hrep : ∀ {i : Nat} {l : List Item}, (List.replicate (w.length + 1) ([] : List Item))[i]? = some l → l = [] := fun {i l} h => by
    rw [List.getElem?_replicate] at h
    split at h
    · exact (Option.some.inj h).symm
    · cases h
  have hrepU : ∀ {i : Nat} {u : Value}, (List.replicate (w.length + 1) nilS)[i]? = some u → u = nilS := fun {i u} h => by
    rw [List.getElem?_replicate] at h
    split at h
    · exact (Option.some.inj h).symm
    · cases h
  have NI0 : NI h2 hk io (List.replicate (w.length + 1) nilS) (List.replicate (w.length + 1) []) := by
    refine ⟨by simp, fun i u l h3 h4 => ?_, fun i j u q x _ h3 _ h5 => ?_, fun i u h3 => ?_⟩
    · cases hrep h4; cases hrepU h3; exact Grow.nil
    · cases hrepU h3; cases h5
    · cases hrepU h3; rfl
  repeat (first | apply zs | apply zr | apply zn | ((first | apply zx | apply zy); · simp only [push_cast, env, Nat.reduceEqDiff, reduceIte, Nat.reduceAdd, Nat.reduceMul, Nat.reduceLeDiff, reduceCtorEq, Nat.reduceSub, Int.reduceToNat] <;> first | exact rfl | exact .inl rfl | exact .inr rfl) | apply zq | apply zb | apply zo | apply zk | apply zl)
  refine cw_forG g.rules.length (fun r (x : Heap × List Value × List (List Item)) => [(2, .box [i64 g.nts, i64 g.start, .slice p g.rules.length c]), (6, .val (i64 0)), (7, .val (.pointer (some ⟨tp, 0, some 0⟩))), (8, .val (.slice (some ⟨im, 0, some vm⟩) m.length m.length)), (9, .val (.slice (some ⟨io, 0, some vo⟩) (w.length + 1) (w.length + 1))), (12, .val (i64 r))]) (fun _ x => x.1)
    (fun r x => CI2 h2 x.1 g w io vo r 0 0 x.2.1 x.2.2) (hk, _, _) (by simp only [push_cast, Nat.reduceEqDiff, reduceIte]) rfl ⟨hp, hog, NI0, PH.start⟩ ?_
  clear hp hog NI0
  rintro r ⟨hk, us, L⟩ hrn I
  simp only at I ⊢
  by_cases hlr : r < g.rules.length
  · obtain ⟨id, ver, own, c', cells, p', n', c2, hv, hid, hn', hrd, hu'⟩ := hu2.at hlr
    cases hv
    subst hn'
    have e0 := rdH_get0 hrd (by omega)
    have e0' := rdH_get (j := 1) hrd (by omega)
    simp only [List.getElem?_cons_succ, List.getElem?_cons_zero] at e0 e0'
    have e1r := rng hlr
    have e2r := inc hlr (by omega)
    have e3r := lt_dec hlr
    have hmem : g.rules[r] ∈ _ := List.getElem_mem hlr
    obtain ⟨l1, l2, l3, hS⟩ := R.r _ hmem
    have hq : g.rules[r]? = some g.rules[r] := List.getElem?_eq_getElem hlr
    have hWr := W _ hmem
    generalize g.rules[r] = q at *
    obtain ⟨a, ha⟩ : ∃ a : Nat, q.lhs = a := ⟨q.lhs.toNat, by omega⟩
    rw [ha] at e0
    repeat (first | apply zs | apply zr | apply zn | ((first | apply zx | apply zy); · simp only [push_cast, env, Nat.reduceEqDiff, reduceIte, Nat.reduceAdd, Nat.reduceMul, Nat.reduceLeDiff, reduceCtorEq, Nat.reduceSub, Int.reduceToNat, e3r] <;> first | exact rfl | exact .inl rfl | exact .inr rfl) | apply zq | apply zb | apply zo | apply zk | apply zl)
    refine cw_condT rfl ?_
    repeat (first | apply zs | apply zr | apply zn | ((first | apply zx | apply zy); · simp only [push_cast, env, Nat.reduceEqDiff, reduceIte, Nat.reduceAdd, Nat.reduceMul, Nat.reduceLeDiff, reduceCtorEq, Nat.reduceSub, Int.reduceToNat] <;> first | exact rfl | exact .inl rfl | exact .inr rfl) | apply zq | apply zb | apply zo | apply zk | apply zl)
    refine cw_forG (q.rhs.length + 1) (fun d (x : Heap × List Value × List (List Item)) => [(2, .box [i64 g.nts, i64 g.start, .slice (some ⟨id, 0, some ver⟩) g.rules.length c]), (6, .val (i64 0)), (7, .val (.pointer (some ⟨tp, 0, some 0⟩))), (8, .val (.slice (some ⟨im, 0, some vm⟩) m.length m.length)), (9, .val (.slice (some ⟨io, 0, some vo⟩) (w.length + 1) (w.length + 1))), (12, .val (i64 r)), (13, .val (i64 d))]) (fun _ x => x.1)
      (fun d x => CI2 h2 x.1 g w io vo r d 0 x.2.1 x.2.2) (hk, us, L) (by simp only [push_cast, Nat.reduceEqDiff, reduceIte]) rfl I ?_
    clear I
    rintro d ⟨hk, us, L⟩ hdn I
    simp only at I ⊢
    have hid1 := getElem?_of_prefix I.p hid
    by_cases hld : d < q.rhs.length + 1
    · have d1 : decide ((d : Int) ≤ (q.rhs.length : Int)) = true := decide_eq_true (by omega)
      have e4 : IntKind.i64.wrap ((d : Int) + 1) = (d : Int) + 1 := wrap64_id (by omega) (by omega)
      repeat (first | apply zs | apply zr | apply zn | ((first | apply zx | apply zy); · simp only [push_cast, env, Nat.reduceEqDiff, reduceIte, Nat.reduceAdd, Nat.reduceMul, Nat.reduceLeDiff, reduceCtorEq, Nat.reduceSub, Int.reduceToNat, hid1, e1r, e0', d1, Nat.mul_one] <;> first | exact rfl | exact .inl rfl | exact .inr rfl) | apply zq | apply zb | apply zo | apply zk | apply zl)
      refine cw_condT rfl ?_
      repeat (first | apply zs | apply zr | apply zn | ((first | apply zx | apply zy); · simp only [push_cast, env, Nat.reduceEqDiff, reduceIte, Nat.reduceAdd, Nat.reduceMul, Nat.reduceLeDiff, reduceCtorEq, Nat.reduceSub, Int.reduceToNat] <;> first | exact rfl | exact .inl rfl | exact .inr rfl) | apply zq | apply zb | apply zo | apply zk | apply zl)
      clear hid1
      refine cw_forG (w.length + 1) (fun i (x : Heap × List Value × List (List Item)) => [(2, .box [i64 g.nts, i64 g.start, .slice (some ⟨id, 0, some ver⟩) g.rules.length c]), (6, .val (i64 0)), (7, .val (.pointer (some ⟨tp, 0, some 0⟩))), (8, .val (.slice (some ⟨im, 0, some vm⟩) m.length m.length)), (9, .val (.slice (some ⟨io, 0, some vo⟩) (w.length + 1) (w.length + 1))), (12, .val (i64 r)), (13, .val (i64 d)), (14, .val (i64 i))]) (fun _ x => x.1)
        (fun i x => CI2 h2 x.1 g w io vo r d i x.2.1 x.2.2) (hk, us, L) (by simp only [push_cast, Nat.reduceEqDiff, reduceIte]) rfl I ?_
      clear I
      rintro i ⟨hk, us, L⟩ hin I
      simp only at I ⊢
      obtain ⟨ct, ht⟩ := (T.mono I.p).c
      by_cases hli : i < w.length + 1
      · have d2 : decide ((i : Int) ≤ (w.length : Int)) = true := decide_eq_true (by omega)
        have e5 : IntKind.i64.wrap ((i : Int) + 1) = (i : Int) + 1 := wrap64_id (by omega) (by omega)
        obtain ⟨am, ham⟩ : ∃ am, am = a * (w.length + 1) := ⟨_, rfl⟩
        have hKl := widx_lt (N := N) (M := w.length + 1) (a := a) (i := i) (by omega) (by omega)
        obtain ⟨K, hK⟩ : ∃ K, K = widx (w.length + 1) a i := ⟨_, rfl⟩
        have hKe : K = am + i := by rw [hK, ham]; rfl
        rw [← hK, ← hmn] at hKl
        have f4 : IntKind.i64.wrap ((a : Int) * ((w.length : Int) + 1)) = (am : Int) := by
          rw [hM, ← Int.natCast_mul, ← ham]
          exact wrap64_id (by omega) (by omega)
        have f5 : IntKind.i64.wrap ((am : Int) + (i : Int)) = (K : Int) := by rw [wrap64_id (by omega) (by omega)]; omega
        have rK := rng hKl
        have hmK := mk_get (m := m) (i := K) hKl
        have hwK : m.getD K false = wfn m (w.length + 1) a i := by rw [hK]; rfl
        rw [hwK] at hmK
        have hmo1 := getElem?_of_prefix I.p hmo
        have hid1 := getElem?_of_prefix I.p hid
        repeat (first | apply zs | apply zr | apply zn | ((first | apply zx | apply zy); · simp only [push_cast, env, Nat.reduceEqDiff, reduceIte, Nat.reduceAdd, Nat.reduceMul, Nat.reduceLeDiff, reduceCtorEq, Nat.reduceSub, Int.reduceToNat, ht, d2] <;> first | exact rfl | exact .inl rfl | exact .inr rfl) | apply zq | apply zb | apply zo | apply zk | apply zl)
        refine cw_condT rfl ?_
        repeat (first | apply zs | apply zr | apply zn | ((first | apply zx | apply zy); · simp only [push_cast, env, Nat.reduceEqDiff, reduceIte, Nat.reduceAdd, Nat.reduceMul, Nat.reduceLeDiff, reduceCtorEq, Nat.reduceSub, Int.reduceToNat] <;> first | exact rfl | exact .inl rfl | exact .inr rfl) | apply zq | apply zb | apply zo | apply zk | apply zl)
        refine cw_regionD 17 mixed (by kernel_rfl) ?_
        repeat (first | apply zs | apply zr | apply zn | ((first | apply zx | apply zy); · simp only [push_cast, env, Nat.reduceEqDiff, reduceIte, Nat.reduceAdd, Nat.reduceMul, Nat.reduceLeDiff, reduceCtorEq, Nat.reduceSub, Int.reduceToNat, ht, hid1, e1r, e0, e1, f4, f5, rK, hmo1, hmK, Nat.mul_one] <;> first | exact rfl | exact .inl rfl | exact .inr rfl) | apply zq | apply zb | apply zo | apply zk | apply zl)
        cases hb0 : wfn m (w.length + 1) a i with
        | false =>
          refine cw_condT (by simp only [push_cast, env, Nat.reduceEqDiff, reduceIte, hb0] <;> exact rfl) ?_
          refine cw_exit ?_
          show CW _ _ _ _
          repeat (first | apply zs | apply zr | apply zn | ((first | apply zx | apply zy); · simp only [push_cast, env, Nat.reduceEqDiff, reduceIte, Nat.reduceAdd, Nat.reduceMul, Nat.reduceLeDiff, reduceCtorEq, Nat.reduceSub, Int.reduceToNat, e5] <;> first | exact rfl | exact .inl rfl | exact .inr rfl) | apply zq | apply zb | apply zo | apply zk | apply zl)
          refine ⟨hli, (hk, us, L), (by simp only [push_cast, Nat.reduceEqDiff, reduceIte]), rfl, I.upd fun k => k.skip hq fun hh => ?_⟩
          have := WF _ _ hh
          rw [ha, Int.toNat_natCast, hb0] at this
          cases this
        | true =>
          refine cw_condF (by simp only [push_cast, env, Nat.reduceEqDiff, reduceIte, hb0] <;> exact rfl) ?_
          have hWt : Wt g w q.lhs i := by rw [ha]; exact WS a i (by omega) hb0
          obtain ⟨v', hsl, hP⟩ := syms_slice (SlR.mono hu' I.p) (show d ≤ q.rhs.length by omega)
          obtain ⟨pd, cd, rfl⟩ := hP.form
          repeat (first | apply zs | apply zr | apply zn | apply zq | apply zb | apply zo | apply zk | apply zl)
          iterate 8 (apply ow_cons; · simp only [push_cast, env, Nat.reduceEqDiff, reduceIte, Nat.reduceAdd, Nat.reduceMul, Nat.reduceLeDiff, reduceCtorEq, Nat.reduceSub, Int.reduceToNat, hid1, e1r, e0', Nat.mul_one] <;> exact rfl)
          refine ow_slice (v := .slice pd (q.rhs.take d).length cd) (by simp only [push_cast, env, Nat.reduceEqDiff, reduceIte] <;> exact rfl) rfl (hsl _ _ _ rfl (by simp only [push_cast, env, Nat.reduceEqDiff, reduceIte] <;> exact rfl) (by simp only [push_cast, env, Nat.reduceEqDiff, reduceIte] <;> exact rfl)) ?_
          repeat (first | apply zs | apply zr | apply zn | ((first | apply zx | apply zy); · simp only [push_cast, env, Nat.reduceEqDiff, reduceIte, Nat.reduceAdd, Nat.reduceMul, Nat.reduceLeDiff, reduceCtorEq, Nat.reduceSub, Int.reduceToNat] <;> first | exact rfl | exact .inl rfl | exact .inr rfl) | apply zq | apply zb | apply zo | apply zk | apply zl)
          refine zc (fn := Try.f46) (by simp only [push_cast, env, Nat.reduceEqDiff, reduceIte] <;> exact rfl) Try.func46 (by kernel_rfl) (by kernel_rfl) ?_
          rw [List.append_nil]
          refine (ends_fw (N := N) (T.mono I.p) (hwR2.mono I.p) hw (by omega) hY hP (fun s hs' => ⟨by have := hS s (List.mem_of_mem_take hs'); omega, hWr s (List.mem_of_mem_take hs')⟩) (by omega)).mono ?_
          rintro _ h4 ⟨hE, hp4⟩
          obtain ⟨ie, ve, hie, rfl, heg⟩ := hE.mine (by omega)
          have hni := fun (j : Nat) (hj : j ≤ w.length) => ends_iff TS TF (l := q.rhs) (i := i) (j := j) (d := d) (by omega) hj
          have hItI : ∀ j : Nat, j ≤ w.length → (It g w j ⟨r, d, i⟩ ↔ Sq g.rules w (q.rhs.take d) i j) := fun j hj => by
            rw [It.iff]
            constructor
            · rintro ⟨q', k1, k2, k3, k4⟩
              simp only at k1 k4
              cases hq.symm.trans k1
              exact k4
            · exact fun k => ⟨q, hq, by simp only; omega, hWt, k⟩
          have hiol := lt_of_get I.o
          have C0 := I.c.toJ
          have NI4 : NI h2 h4 io us L := ⟨I.ni.n, fun i u l h5 h6 => (I.ni.g i u l h5 h6).mono fun x o _ ho => getElem?_of_prefix hp4 ho, I.ni.d, I.ni.o⟩
          have ho4 := getElem?_of_prefix hp4 I.o
          have hp24 := I.p.trans hp4
          clear I ht hmo1 hid1 hmK rK hP hE f4 f5
          repeat (first | apply zs | apply zr | apply zn | ((first | apply zx | apply zy); · simp only [push_cast, env, Nat.reduceEqDiff, reduceIte, Nat.reduceAdd, Nat.reduceMul, Nat.reduceLeDiff, reduceCtorEq, Nat.reduceSub, Int.reduceToNat] <;> first | exact rfl | exact .inl rfl | exact .inr rfl) | apply zq | apply zb | apply zo | apply zk | apply zl)
          refine cw_wh (fun x : Nat × Heap × List Value × List (List Item) => w.length + 1 - x.1) (fun x => [(2, .box [i64 g.nts, i64 g.start, .slice (some ⟨id, 0, some ver⟩) g.rules.length c]), (6, .val (i64 0)), (7, .val (.pointer (some ⟨tp, 0, some 0⟩))), (8, .val (.slice (some ⟨im, 0, some vm⟩) m.length m.length)), (9, .val (.slice (some ⟨io, 0, some vo⟩) (w.length + 1) (w.length + 1))), (12, .val (i64 r)), (13, .val (i64 d)), (14, .val (i64 i)), (15, .val (.slice (some ⟨ie, 0, some ve⟩) (w.length + 1) (w.length + 1))), (16, .val (i64 x.1))]) (fun x => x.2.1)
            (fun x => i ≤ x.1 ∧ x.1 ≤ w.length + 1 ∧ h2 <+: x.2.1 ∧ x.2.1[io]? = some (.arr x.2.2.1 vo true 55) ∧ NI h2 x.2.1 io x.2.2.1 x.2.2.2 ∧ PJ g w r d i x.1 x.2.2.2 ∧ x.2.1[ie]? = some (.arr ((endL (yfn Y (w.length + 1)) w (q.rhs.take d) i (q.rhs.take d).length).map .bool) ve true 4)) (i, h4, us, L) (by simp only [push_cast, Nat.reduceEqDiff, reduceIte]) rfl ⟨Nat.le_refl _, by simp only; omega, hp24, ho4, NI4, C0, heg⟩ ?_
          clear NI4 C0 heg hp24 ho4
          rintro ⟨j, hk3, us, L⟩ ⟨hij, hjn, hp5, ho, nI, C, heg⟩
          simp only at hij hjn hp5 ho nI C heg ⊢
          obtain ⟨ct3, ht3⟩ := (T.mono hp5).c
          by_cases hlj : j < w.length + 1
          · have d3 : decide ((j : Int) ≤ (w.length : Int)) = true := decide_eq_true (by omega)
            have e6 : IntKind.i64.wrap ((j : Int) + 1) = (j : Int) + 1 := wrap64_id (by omega) (by omega)
            have hEb := endL_get (yf := yfn Y (w.length + 1)) (w := w) (l := q.rhs.take d) (i := i) (k := (q.rhs.take d).length) (j := j) (by omega)
            have r1 : (0 ≤ (j : Int) ∧ (j : Int) < (w.length : Int) + 1) = True := by simp; omega
            have hni' := hni j (by omega)
            repeat (first | apply zs | apply zr | apply zn | ((first | apply zx | apply zy); · simp only [push_cast, env, Nat.reduceEqDiff, reduceIte, Nat.reduceAdd, Nat.reduceMul, Nat.reduceLeDiff, reduceCtorEq, Nat.reduceSub, Int.reduceToNat, ht3, d3] <;> first | exact rfl | exact .inl rfl | exact .inr rfl) | apply zq | apply zb | apply zo | apply zk | apply zl)
            refine cw_condT rfl ?_
            repeat (first | apply zs | apply zr | apply zn | ((first | apply zx | apply zy); · simp only [push_cast, env, Nat.reduceEqDiff, reduceIte, Nat.reduceAdd, Nat.reduceMul, Nat.reduceLeDiff, reduceCtorEq, Nat.reduceSub, Int.reduceToNat, heg, hEb, r1, Nat.mul_one] <;> first | exact rfl | exact .inl rfl | exact .inr rfl) | apply zq | apply zb | apply zo | apply zk | apply zl)
            cases hb1 : endB (yfn Y (w.length + 1)) w (q.rhs.take d) i (q.rhs.take d).length j with
            | false =>
              rw [hb1] at hni'
              refine cw_condF (by simp only [push_cast, env, Nat.reduceEqDiff, reduceIte, hb1] <;> exact rfl) ?_
              repeat (first | apply zs | apply zr | apply zn | ((first | apply zx | apply zy); · simp only [push_cast, env, Nat.reduceEqDiff, reduceIte, Nat.reduceAdd, Nat.reduceMul, Nat.reduceLeDiff, reduceCtorEq, Nat.reduceSub, Int.reduceToNat, e6] <;> first | exact rfl | exact .inl rfl | exact .inr rfl) | apply zq | apply zb | apply zo | apply zk | apply zl)
              exact ⟨(j + 1, hk3, us, L), by simp only; omega, (by simp only [push_cast, Nat.reduceEqDiff, reduceIte]), rfl, by simp only; omega, by simp only; omega, hp5, ho, nI, C.skip (fun h => by have := hni'.2 ((hItI j (by omega)).1 h); cases this), heg⟩
            | true =>
              rw [hb1] at hni'
              have hIt := (hItI j (by omega)).2 (hni'.1 rfl)
              have hjL : j < L.length := by have := C.1; omega
              have hju : j < us.length := by rw [nI.n]; exact hjL
              obtain ⟨u, hu0⟩ : ∃ u, us[j]? = some u := ⟨us[j], by simp [hju]⟩
              have hG := nI.g j u (gs L j) hu0 (gs_get hjL)
              obtain ⟨pu, cu, rfl⟩ := hG.form
              have hsm := small_items R hw (C.2 j (by omega)).1 (fun x hx => (((C.2 j (by omega)).2 x).1 hx).1)
              refine cw_condT (by simp only [push_cast, env, Nat.reduceEqDiff, reduceIte, hb1] <;> exact rfl) ?_
              repeat (first | apply zs | apply zr | apply zn | ((first | apply zx | apply zy); · simp only [push_cast, env, Nat.reduceEqDiff, reduceIte, Nat.reduceAdd, Nat.reduceMul, Nat.reduceLeDiff, reduceCtorEq, Nat.reduceSub, Int.reduceToNat, ho, hu0, r1, Nat.mul_one] <;> first | exact rfl | exact .inl rfl | exact .inr rfl) | apply zq | apply zb | apply zo | apply zk | apply zl)
              obtain ⟨p6, c6, h6, hone, G6, hp6, hk6, hx6, hl6⟩ := push_any' (cs := Item.cells ⟨r, d, i⟩) (t := 55) (by kernel_rfl) ti57 (by decide) rfl hG hp5 (flat_len (f := Item.cells) (k := 3) (fun _ => rfl) _) rfl (by simp only; omega) (by omega)
              refine One.ow (hone _ _ _ _ _ rfl (by simp only [push_cast, env, Nat.reduceEqDiff, reduceIte] <;> exact rfl) rfl (by simp only [push_cast, env, Nat.reduceEqDiff, reduceIte] <;> exact rfl) (by simp only [push_cast, env, Nat.reduceEqDiff, reduceIte] <;> exact rfl)) ?_
              have ho6 := hk6 _ _ (nI.o _ _ hu0) ho
              have hie6 := hk6 ie _ (by
                cases hb : isAt (.slice pu (gs L j).length cu) ie with
                | false => rfl
                | true =>
                  obtain ⟨ve2, h9⟩ := hG.obj hb
                  rw [heg] at h9
                  simp only [Option.some.injEq, HObj.arr.injEq] at h9
                  exact absurd h9.2.2.2 (by decide)) heg
              have hne : io ≠ ie := by omega
              simp only [updR]
              repeat (first | apply zs | apply zr | apply zn | ((first | apply zx | apply zy); · simp only [push_cast, env, Nat.reduceEqDiff, reduceIte, Nat.reduceAdd, Nat.reduceMul, Nat.reduceLeDiff, reduceCtorEq, Nat.reduceSub, Int.reduceToNat, r1, Nat.mul_one] <;> first | exact rfl | exact .inl rfl | exact .inr rfl) | apply zq | apply zb | apply zo | apply zk | apply zl)
              refine ow_stoH (cells' := us.set j (.slice p6 ((gs L j).length + 1) c6)) (by simp only [push_cast, env, Nat.reduceEqDiff, reduceIte] <;> exact rfl) rfl rfl (by simp only [push_cast, env, Nat.reduceEqDiff, reduceIte] <;> exact rfl) (by simp only [push_cast, env, Nat.reduceEqDiff, reduceIte] <;> exact rfl) ho6 (by simp only [push_cast, env, Nat.reduceEqDiff, reduceIte] <;> exact rfl) rfl (wrV hju) ?_
              repeat (first | apply zs | apply zr | apply zn | ((first | apply zx | apply zy); · simp only [push_cast, env, Nat.reduceEqDiff, reduceIte, Nat.reduceAdd, Nat.reduceMul, Nat.reduceLeDiff, reduceCtorEq, Nat.reduceSub, Int.reduceToNat, e6] <;> first | exact rfl | exact .inl rfl | exact .inr rfl) | apply zq | apply zb | apply zo | apply zk | apply zl)
              refine ⟨(j + 1, _, us.set j (.slice p6 ((gs L j).length + 1) c6), L.set j (gs L j ++ [⟨r, d, i⟩])), by simp only; omega, (by simp only [push_cast, Nat.reduceEqDiff, reduceIte]), rfl, by simp only; omega, by simp only; omega, pre_set hp6 hio, get_set_self ho6, ?_, C.add (by omega) hIt, ?_⟩
              · refine nI.put hu0 (gs_get hjL) (lt_of_get ho) ?_ hk6 hx6
                rw [List.length_append, List.flatMap_append, List.flatMap_singleton]
                exact G6
              · simp only
                rw [get_set_ne hne]
                exact hie6
          · have d3 : decide ((w.length : Int) + 1 ≤ (w.length : Int)) = false := decide_eq_false (by omega)
            obtain rfl : j = w.length + 1 := by omega
            repeat (first | apply zs | apply zr | apply zn | ((first | apply zx | apply zy); · simp only [push_cast, env, Nat.reduceEqDiff, reduceIte, Nat.reduceAdd, Nat.reduceMul, Nat.reduceLeDiff, reduceCtorEq, Nat.reduceSub, Int.reduceToNat, ht3, d3] <;> first | exact rfl | exact .inl rfl | exact .inr rfl) | apply zq | apply zb | apply zo | apply zk | apply zl)
            refine cw_condF rfl ?_
            refine cw_exit ?_
            show CW _ _ _ _
            repeat (first | apply zs | apply zr | apply zn | ((first | apply zx | apply zy); · simp only [push_cast, env, Nat.reduceEqDiff, reduceIte, Nat.reduceAdd, Nat.reduceMul, Nat.reduceLeDiff, reduceCtorEq, Nat.reduceSub, Int.reduceToNat, e5] <;> first | exact rfl | exact .inl rfl | exact .inr rfl) | apply zq | apply zb | apply zo | apply zk | apply zl)
            exact ⟨hli, (hk3, us, L), (by simp only [push_cast, Nat.reduceEqDiff, reduceIte]), rfl, hp5, ho, nI, C.toH⟩
      · have d2 : decide ((w.length : Int) + 1 ≤ (w.length : Int)) = false := decide_eq_false (by omega)
        obtain rfl : i = w.length + 1 := by omega
        repeat (first | apply zs | apply zr | apply zn | ((first | apply zx | apply zy); · simp only [push_cast, env, Nat.reduceEqDiff, reduceIte, Nat.reduceAdd, Nat.reduceMul, Nat.reduceLeDiff, reduceCtorEq, Nat.reduceSub, Int.reduceToNat, ht, d2] <;> first | exact rfl | exact .inl rfl | exact .inr rfl) | apply zq | apply zb | apply zo | apply zk | apply zl)
        refine cw_condF rfl ?_
        refine cw_exit ?_
        show CW _ _ _ _
        repeat (first | apply zs | apply zr | apply zn | ((first | apply zx | apply zy); · simp only [push_cast, env, Nat.reduceEqDiff, reduceIte, Nat.reduceAdd, Nat.reduceMul, Nat.reduceLeDiff, reduceCtorEq, Nat.reduceSub, Int.reduceToNat, e4] <;> first | exact rfl | exact .inl rfl | exact .inr rfl) | apply zq | apply zb | apply zo | apply zk | apply zl)
        exact ⟨hld, (hk, us, L), (by simp only [push_cast, Nat.reduceEqDiff, reduceIte]), rfl, I.upd fun k => k.iEnd⟩
    · have d1 : decide ((q.rhs.length : Int) + 1 ≤ (q.rhs.length : Int)) = false := decide_eq_false (by omega)
      obtain rfl : d = q.rhs.length + 1 := by omega
      repeat (first | apply zs | apply zr | apply zn | ((first | apply zx | apply zy); · simp only [push_cast, env, Nat.reduceEqDiff, reduceIte, Nat.reduceAdd, Nat.reduceMul, Nat.reduceLeDiff, reduceCtorEq, Nat.reduceSub, Int.reduceToNat, hid1, e1r, e0', d1, Nat.mul_one] <;> first | exact rfl | exact .inl rfl | exact .inr rfl) | apply zq | apply zb | apply zo | apply zk | apply zl)
      refine cw_condF rfl ?_
      refine cw_exit ?_
      show CW _ _ _ _
      repeat (first | apply zs | apply zr | apply zn | ((first | apply zx | apply zy); · simp only [push_cast, env, Nat.reduceEqDiff, reduceIte, Nat.reduceAdd, Nat.reduceMul, Nat.reduceLeDiff, reduceCtorEq, Nat.reduceSub, Int.reduceToNat, e2r] <;> first | exact rfl | exact .inl rfl | exact .inr rfl) | apply zq | apply zb | apply zo | apply zk | apply zl)
      exact ⟨hlr, (hk, us, L), (by simp only [push_cast, Nat.reduceEqDiff, reduceIte]), rfl, I.upd fun k => k.dEnd hq (by omega)⟩
  · have e3r := ge_dec hlr
    obtain rfl : r = g.rules.length := by omega
    repeat (first | apply zs | apply zr | apply zn | ((first | apply zx | apply zy); · simp only [push_cast, env, Nat.reduceEqDiff, reduceIte, Nat.reduceAdd, Nat.reduceMul, Nat.reduceLeDiff, reduceCtorEq, Nat.reduceSub, Int.reduceToNat, e3r] <;> first | exact rfl | exact .inl rfl | exact .inr rfl) | apply zq | apply zb | apply zo | apply zk | apply zl)
    refine cw_condF rfl ?_
    refine cw_exit ?_
    show CW _ _ _ _
    repeat (first | apply zs | apply zr | apply zn | ((first | apply zx | apply zy); · simp only [push_cast, env, Nat.reduceEqDiff, reduceIte, Nat.reduceAdd, Nat.reduceMul, Nat.reduceLeDiff, reduceCtorEq, Nat.reduceSub, Int.reduceToNat] <;> first | exact rfl | exact .inl rfl | exact .inr rfl) | apply zq | apply zb | apply zo | apply zk | apply zl)
    refine cw_ret ?_
    have hc := I.c.done
    refine ⟨_, (by simp only [push_cast, env, Nat.reduceEqDiff, reduceIte] <;> exact rfl), ⟨.slice (some ⟨io, 0, some vo⟩) (w.length + 1) (w.length + 1), by rw [hf]; rfl, fun h => absurd hf h, fun _ => ⟨L, hc, io, vo, us, by have := hp3.length_le; omega, by rw [hc.1], I.o, ⟨I.ni.n, fun i u l h5 h6 => (I.ni.g i u l h5 h6).low hp3.length_le, I.ni.d, I.ni.o⟩⟩⟩, hp3.trans I.p⟩
end Go.Proofs.Ytafncpgiibikcaa

namespace Go.Proofs.Ytafncpgiibikcaa
set_option linter.unusedSimpArgs false
set_option linter.unusedVariables false
set_option maxRecDepth 20000
open Go.RowKit Am Ty

set_option maxHeartbeats 2000000 in
theorem ins_nil_fw {h : Heap} {fv : Value} : FW env 65 [nilS, i64 0, i64 0, fv] h fun r h' => r = .tuple #[] ∧ h' = h := by
  have e1 : IntKind.i64.wrap ((0 : Int) + 1) = 1 := by rw [wrap64_id (by omega) (by omega)]; rfl
  refine fw_enter (fn := Try.f65) Try.func65 rfl (by kernel_rfl) (by simp [Try.ntmps65]) ?_; simp only [push_cast]
  repeat (first | apply zs | apply zr | apply zn | ((first | apply zx | apply zy); · simp only [push_cast, env, Nat.reduceEqDiff, reduceIte, Nat.reduceAdd, Nat.reduceMul, Nat.reduceLeDiff, reduceCtorEq, Nat.reduceSub, Int.reduceToNat, e1] <;> first | exact rfl | exact .inl rfl | exact .inr rfl) | apply zq | apply zb | apply zo | apply zk | apply zl)
  refine cw_wh (fun _ : Unit => 0) (fun _ => [(2, .val (i64 0)), (8, .val (i64 1))]) (fun _ => h) (fun _ => True) () (by simp only [push_cast, Nat.reduceEqDiff, reduceIte, e1]) rfl trivial ?_
  intro _ _
  repeat (first | apply zs | apply zr | apply zn | ((first | apply zx | apply zy); · simp only [push_cast, env, Nat.reduceEqDiff, reduceIte, Nat.reduceAdd, Nat.reduceMul, Nat.reduceLeDiff, reduceCtorEq, Nat.reduceSub, Int.reduceToNat] <;> first | exact rfl | exact .inl rfl | exact .inr rfl) | apply zq | apply zb | apply zo | apply zk | apply zl)
  refine cw_condF rfl ?_
  refine cw_exit ?_
  exact ⟨_, (by simp only [push_cast, env, Nat.reduceEqDiff, reduceIte] <;> exact rfl), rfl, rfl⟩
set_option maxHeartbeats 2000000 in
theorem pdq_nil_fw {h : Heap} {fv : Value} {lim : Int} : FW env 57 [nilS, i64 0, i64 0, i64 lim, fv] h fun r h' => r = .tuple #[] ∧ h' = h := by
  have e1 : IntKind.i64.wrap ((0 : Int) - 0) = 0 := by rw [wrap64_id (by omega) (by omega)]; rfl
  refine fw_enter (fn := Try.f57) Try.func57 rfl (by kernel_rfl) (by simp [Try.ntmps57]) ?_; simp only [push_cast]
  repeat (first | apply zs | apply zr | apply zn | ((first | apply zx | apply zy); · simp only [push_cast, env, Nat.reduceEqDiff, reduceIte, Nat.reduceAdd, Nat.reduceMul, Nat.reduceLeDiff, reduceCtorEq, Nat.reduceSub, Int.reduceToNat] <;> first | exact rfl | exact .inl rfl | exact .inr rfl) | apply zq | apply zb | apply zo | apply zk | apply zl)
  refine cw_wh (fun _ : Unit => 0) (fun _ => [(0, .val nilS), (1, .val (i64 0)), (2, .val (i64 0)), (4, .val fv)]) (fun _ => h) (fun _ => True) () (by simp only [push_cast, Nat.reduceEqDiff, reduceIte]) rfl trivial ?_
  intro _ _
  repeat (first | apply zs | apply zr | apply zn | ((first | apply zx | apply zy); · simp only [push_cast, env, Nat.reduceEqDiff, reduceIte, Nat.reduceAdd, Nat.reduceMul, Nat.reduceLeDiff, reduceCtorEq, Nat.reduceSub, Int.reduceToNat, e1] <;> first | exact rfl | exact .inl rfl | exact .inr rfl) | apply zq | apply zb | apply zo | apply zk | apply zl)
  refine cw_condT rfl ?_
  repeat (first | apply zs | apply zr | apply zn | ((first | apply zx | apply zy); · simp only [push_cast, env, Nat.reduceEqDiff, reduceIte, Nat.reduceAdd, Nat.reduceMul, Nat.reduceLeDiff, reduceCtorEq, Nat.reduceSub, Int.reduceToNat] <;> first | exact rfl | exact .inl rfl | exact .inr rfl) | apply zq | apply zb | apply zo | apply zk | apply zl)
  refine zc (fn := Try.f65) (by simp only [push_cast, env, Nat.reduceEqDiff, reduceIte] <;> exact rfl) Try.func65 (by kernel_rfl) (by kernel_rfl) ?_
  rw [List.append_nil]
  refine ins_nil_fw.mono ?_
  rintro _ h1 ⟨rfl, rfl⟩
  repeat (first | apply zs | apply zr | apply zn | ((first | apply zx | apply zy); · simp only [push_cast, env, Nat.reduceEqDiff, reduceIte, Nat.reduceAdd, Nat.reduceMul, Nat.reduceLeDiff, reduceCtorEq, Nat.reduceSub, Int.reduceToNat] <;> first | exact rfl | exact .inl rfl | exact .inr rfl) | apply zq | apply zb | apply zo | apply zk | apply zl)
  refine cw_ret ?_
  exact ⟨_, (by simp only [push_cast, env, Nat.reduceEqDiff, reduceIte] <;> exact rfl), rfl, rfl⟩
set_option maxHeartbeats 2000000 in
theorem sort_nil_fw {h : Heap} {fv : Value} : FW env 43 [nilS, fv] h fun r h' => r = .tuple #[] ∧ h' = h := by
  have e1 : IntKind.u64.wrap ((0 : Nat) : Int) = ((0 : Nat) : Int) := wrapU64 (by omega) (by omega)
  have e2 : IntKind.u64.wrap (0 : Int) = (0 : Int) := wrapU64 (by omega) (by omega)
  refine fw_enter (fn := Try.f43) Try.func43 rfl (by kernel_rfl) (by simp [Try.ntmps43]) ?_; simp only [push_cast]
  repeat (first | apply zs | apply zr | apply zn | ((first | apply zx | apply zy); · simp only [push_cast, env, Nat.reduceEqDiff, reduceIte, Nat.reduceAdd, Nat.reduceMul, Nat.reduceLeDiff, reduceCtorEq, Nat.reduceSub, Int.reduceToNat, e1, e2] <;> first | exact rfl | exact .inl rfl | exact .inr rfl) | apply zq | apply zb | apply zo | apply zk | apply zl)
  refine zc (fn := Try.f58) (by simp only [push_cast, env, Nat.reduceEqDiff, reduceIte] <;> exact rfl) Try.func58 (by kernel_rfl) (by kernel_rfl) ?_
  rw [List.append_nil]
  refine (len_fw (n := 0) (by omega)).mono ?_
  rintro _ _ ⟨rfl, rfl⟩
  repeat (first | apply zs | apply zr | apply zn | ((first | apply zx | apply zy); · simp only [push_cast, env, Nat.reduceEqDiff, reduceIte, Nat.reduceAdd, Nat.reduceMul, Nat.reduceLeDiff, reduceCtorEq, Nat.reduceSub, Int.reduceToNat] <;> first | exact rfl | exact .inl rfl | exact .inr rfl) | apply zq | apply zb | apply zo | apply zk | apply zl)
  refine zc (fn := Try.f57) (by simp only [push_cast, env, Nat.reduceEqDiff, reduceIte] <;> exact rfl) Try.func57 (by kernel_rfl) (by kernel_rfl) ?_
  rw [List.append_nil]
  refine pdq_nil_fw.mono ?_
  rintro _ h1 ⟨rfl, rfl⟩
  repeat (first | apply zs | apply zr | apply zn | ((first | apply zx | apply zy); · simp only [push_cast, env, Nat.reduceEqDiff, reduceIte, Nat.reduceAdd, Nat.reduceMul, Nat.reduceLeDiff, reduceCtorEq, Nat.reduceSub, Int.reduceToNat] <;> first | exact rfl | exact .inl rfl | exact .inr rfl) | apply zq | apply zb | apply zo | apply zk | apply zl)
  exact ⟨_, (by simp only [push_cast, env, Nat.reduceEqDiff, reduceIte] <;> exact rfl), rfl, rfl⟩
theorem NI.sorted {h hk h' : Heap} {io k : Nat} {us : List Value} {L : List (List Item)} {u : Value} {l' : List Item} (H : NI h hk io us L) (hi : us[k]? = some u) (hk2 : k < L.length)
    (G : Grow h h' u l'.length (l'.flatMap Item.cells) 57) (hp : ∀ j o, isAt u j = false → hk[j]? = some o → h'[j]? = some o) : NI h h' io us (L.set k l') := by
  refine ⟨by rw [List.length_set]; exact H.n, fun j w l hj hl => ?_, H.d, H.o⟩
  rw [List.getElem?_set] at hl
  by_cases e : k = j
  · subst e
    rw [if_pos rfl, if_pos hk2] at hl
    cases hl
    cases hi.symm.trans hj
    exact G
  · rw [if_neg e] at hl
    exact (H.g j w l hj hl).mono fun x o hx ho => hp x o (H.d j k w u x (Ne.symm e) hj hi hx) ho
def srt (l : List Item) : List Item := l.mergeSort (fun x y => !ltI y x)
theorem srt_len {l : List Item} : (srt l).length = l.length := (List.mergeSort_perm l _).length_eq
set_option maxHeartbeats 8000000 in
theorem chart_fw {h : Heap} {g : Gram} {v wv : Value} {w : List Nat} (hr : RdGram h v g) (hwR : RdB h wv w) (W : WfG g) (hL : fitE g w = 0 → gsize g.rules * (w.length + 1) ≤ 1000000) : FW env 24 [v, wv] h fun r h' => RChR g w h r h' ∧ h <+: h' := by
  obtain ⟨u, rfl, hu⟩ := id hr
  obtain ⟨p, c, rfl⟩ := hu.form
  obtain ⟨pw, cw, rfl⟩ := hwR.form
  refine fw_enter (fn := Try.f24) Try.func24 rfl (by kernel_rfl) (by simp [Try.ntmps24]) ?_; simp only [push_cast]
  repeat (first | apply zs | apply zr | apply zn | ((first | apply zx | apply zy); · simp only [push_cast, env, Nat.reduceEqDiff, reduceIte, Nat.reduceAdd, Nat.reduceMul, Nat.reduceLeDiff, reduceCtorEq, Nat.reduceSub, Int.reduceToNat] <;> first | exact rfl | exact .inl rfl | exact .inr rfl) | apply zq | apply zb | apply zo | apply zk | apply zl)
  refine zc (fn := Try.f36) (by simp only [push_cast, env, Nat.reduceEqDiff, reduceIte] <;> exact rfl) Try.func36 (by kernel_rfl) (by kernel_rfl) ?_
  rw [List.append_nil]
  refine (fit_fw hr hwR).mono ?_
  rintro _ h ⟨rfl, rfl⟩
  by_cases hf : ¬ fitE g w = 0
  · have df : decide (fitE g w = 0) = false := decide_eq_false hf
    repeat (first | apply zs | apply zr | apply zn | ((first | apply zx | apply zy); · simp only [push_cast, env, Nat.reduceEqDiff, reduceIte, Nat.reduceAdd, Nat.reduceMul, Nat.reduceLeDiff, reduceCtorEq, Nat.reduceSub, Int.reduceToNat, df] <;> first | exact rfl | exact .inl rfl | exact .inr rfl) | apply zq | apply zb | apply zo | apply zk | apply zl)
    refine cw_condT (by simp only [push_cast, env, Nat.reduceEqDiff, reduceIte, df] <;> exact rfl) ?_
    repeat (first | apply zs | apply zr | apply zn | ((first | apply zx | apply zy); · simp only [push_cast, env, Nat.reduceEqDiff, reduceIte, Nat.reduceAdd, Nat.reduceMul, Nat.reduceLeDiff, reduceCtorEq, Nat.reduceSub, Int.reduceToNat] <;> first | exact rfl | exact .inl rfl | exact .inr rfl) | apply zq | apply zb | apply zo | apply zk | apply zl)
    refine cw_ret ?_
    exact ⟨_, (by simp only [push_cast, env, Nat.reduceEqDiff, reduceIte] <;> exact rfl), ⟨nilS, rfl, fun _ => rfl, fun h => absurd h hf⟩, List.prefix_refl _⟩
  replace hf : fitE g w = 0 := Classical.not_not.1 hf
  obtain ⟨hb, hw⟩ := fitE_ok.1 hf
  have R := rightS hb
  rw [hf]
  repeat (first | apply zs | apply zr | apply zn | ((first | apply zx | apply zy); · simp only [push_cast, env, Nat.reduceEqDiff, reduceIte, Nat.reduceAdd, Nat.reduceMul, Nat.reduceLeDiff, reduceCtorEq, Nat.reduceSub, Int.reduceToNat] <;> first | exact rfl | exact .inl rfl | exact .inr rfl) | apply zq | apply zb | apply zo | apply zk | apply zl)
  refine cw_condF rfl ?_
  repeat (first | apply zs | apply zr | apply zn | ((first | apply zx | apply zy); · simp only [push_cast, env, Nat.reduceEqDiff, reduceIte, Nat.reduceAdd, Nat.reduceMul, Nat.reduceLeDiff, reduceCtorEq, Nat.reduceSub, Int.reduceToNat] <;> first | exact rfl | exact .inl rfl | exact .inr rfl) | apply zq | apply zb | apply zo | apply zk | apply zl)
  refine zc (fn := Try.f37) (by simp only [push_cast, env, Nat.reduceEqDiff, reduceIte] <;> exact rfl) Try.func37 (by kernel_rfl) (by kernel_rfl) ?_
  rw [List.append_nil]
  refine (open_fw hr hwR R W hw).mono ?_
  rintro _ h' ⟨hB, rv, F, G, rfl, rfl, K, C, hrv⟩
  have hSl := C.n
  have hc := K.c
  have hs := K.s
  unfold chCells at hc
  have hrl := R.rl
  have nus : ∀ (i : Nat) (u : Value), G.us[i]? = some u → isAt u F.si = false := fun i u hi => by
    have hil : i < G.S.length := by rw [← K.un]; exact (List.getElem?_eq_some_iff.1 hi).1
    have gu := K.ug i u _ hi (gs_get hil)
    cases hb : isAt u F.si with
    | false => rfl
    | true =>
      obtain ⟨ver, h5⟩ := gu.obj hb
      rw [hs] at h5
      simp only [Option.some.injEq, HObj.arr.injEq] at h5
      exact absurd h5.2.2.2 (by decide)
  have NI0 : NI h G.h F.si G.us G.S := ⟨K.un, K.ug, K.ud, nus⟩
  repeat (first | apply zs | apply zr | apply zn | ((first | apply zx | apply zy); · simp only [push_cast, env, Nat.reduceEqDiff, reduceIte, Nat.reduceAdd, Nat.reduceMul, Nat.reduceLeDiff, reduceCtorEq, Nat.reduceSub, Int.reduceToNat, hc] <;> first | exact rfl | exact .inl rfl | exact .inr rfl) | apply zq | apply zb | apply zo | apply zk | apply zl)
  refine cw_forG G.S.length (fun i (x : Heap × List (List Item)) => [(7, .val (.pointer (some ⟨F.cp, 0, some 0⟩))), (22, .val (.slice (some ⟨F.si, 0, some 0⟩) G.S.length G.S.length)), (23, .val (i64 G.S.length)), (24, .val (i64 i))]) (fun _ x => x.1)
    (fun i x => h <+: x.1 ∧ x.1[F.cp]? = some (.arr [i64 g.nts, i64 g.start, rv, .slice pw w.length cw, F.bv, .slice (some ⟨F.si, 0, some 0⟩) G.S.length G.S.length, .slice (some ⟨F.im, 0, some F.vm⟩) G.S.length G.S.length, F.ev] 0 true 73) ∧ x.1[F.si]? = some (.arr G.us 0 true 55) ∧ NI h x.1 F.si G.us x.2 ∧ x.2.length = G.S.length ∧
      ∀ j, j < G.S.length → gs x.2 j = if j < i then srt (gs G.S j) else gs G.S j) (G.h, G.S) (by simp only [push_cast, Nat.reduceEqDiff, reduceIte]) rfl ⟨K.p, hc, hs, NI0, rfl, fun j hj => by rw [if_neg (by omega)]⟩ ?_
  clear hc hs NI0
  rintro i ⟨hk, L⟩ hi ⟨hp, hc, hs, nI, hl, hg⟩
  simp only at hp hc hs nI hl hg ⊢
  by_cases hlt : i < G.S.length
  · have e2 := inc hlt (by omega)
    have e3 := lt_dec hlt
    have f2 := rng hlt
    have hgi := hg i hlt
    rw [if_neg (by omega)] at hgi
    have hiu : i < G.us.length := by rw [K.un]; exact hlt
    obtain ⟨u, hu2⟩ : ∃ u, G.us[i]? = some u := ⟨G.us[i], by simp [hiu]⟩
    have hiL : i < L.length := by omega
    have gu := nI.g i u _ hu2 (gs_get hiL)
    rw [hgi] at gu
    repeat (first | apply zs | apply zr | apply zn | ((first | apply zx | apply zy); · simp only [push_cast, env, Nat.reduceEqDiff, reduceIte, Nat.reduceAdd, Nat.reduceMul, Nat.reduceLeDiff, reduceCtorEq, Nat.reduceSub, Int.reduceToNat, e3] <;> first | exact rfl | exact .inl rfl | exact .inr rfl) | apply zq | apply zb | apply zo | apply zk | apply zl)
    refine cw_condT rfl ?_
    have upd : ∀ {l' : List Item}, l' = srt (gs G.S i) → ∀ j, j < G.S.length → gs (L.set i l') j = if j < i + 1 then srt (gs G.S j) else gs G.S j := fun {l'} e j hj => by
      rw [gs_set hiL]
      by_cases e2 : i = j
      · subst e2
        rw [if_pos rfl, if_pos (by omega), e]
      · rw [if_neg e2, hg j hj]
        by_cases h3 : j < i
        · rw [if_pos h3, if_pos (by omega)]
        · rw [if_neg h3, if_neg (by omega)]
    rcases gu with ⟨h0, _, rfl⟩ | ⟨id, ver, h1, rfl, h3⟩
    · have hnil : gs G.S i = [] := List.eq_nil_of_length_eq_zero h0
      repeat (first | apply zs | apply zr | apply zn | ((first | apply zx | apply zy); · simp only [push_cast, env, Nat.reduceEqDiff, reduceIte, Nat.reduceAdd, Nat.reduceMul, Nat.reduceLeDiff, reduceCtorEq, Nat.reduceSub, Int.reduceToNat, hs, hu2, f2, Nat.mul_one] <;> first | exact rfl | exact .inl rfl | exact .inr rfl) | apply zq | apply zb | apply zo | apply zk | apply zl)
      refine zc (fn := Try.f43) (by simp only [push_cast, env, Nat.reduceEqDiff, reduceIte] <;> exact rfl) Try.func43 (by kernel_rfl) (by kernel_rfl) ?_
      rw [List.append_nil]
      refine sort_nil_fw.mono ?_
      rintro _ h5 ⟨rfl, rfl⟩
      repeat (first | apply zs | apply zr | apply zn | ((first | apply zx | apply zy); · simp only [push_cast, env, Nat.reduceEqDiff, reduceIte, Nat.reduceAdd, Nat.reduceMul, Nat.reduceLeDiff, reduceCtorEq, Nat.reduceSub, Int.reduceToNat, e2] <;> first | exact rfl | exact .inl rfl | exact .inr rfl) | apply zq | apply zb | apply zo | apply zk | apply zl)
      refine ⟨hlt, (h5, L.set i []), (by simp only [push_cast, Nat.reduceEqDiff, reduceIte]), rfl, hp, hc, hs, nI.sorted hu2 hiL Grow.nil (fun j o _ ho => ho), by simp only [List.length_set]; exact hl, upd (by rw [hnil]; simp [srt])⟩
    · have hbd : ∀ x ∈ gs G.S i, It g w i x := fun x hx => (C.m i x).1 hx
      have hsm : (gs G.S i).length ≤ 1000000 := by
        have h2 := nodup_le (gs G.S i) (allItems i 0 g.rules) (C.nd i) fun x hx => by
          have hb := (hbd x hx).bd
          obtain ⟨q, k1, k2, k3, k4⟩ := (hbd x hx).sound
          exact allItems_mem 0 g.rules x.rule q k1 (by omega) k2 hb.2.1
        rw [allItems_len] at h2
        have h3 : gsize g.rules * (i + 1) ≤ gsize g.rules * (w.length + 1) := Nat.mul_le_mul_left _ (by omega)
        have := hL hf
        omega
      have D : DA hk id ver (gs G.S i).toArray := by
        refine ⟨h3, by simpa using hsm, fun j hj => ?_⟩
        have hj2 : j < (gs G.S i).length := by simpa using hj
        have e : (gs G.S i).toArray[j]! = (gs G.S i)[j] := by simp [hj2]
        rw [e]
        have hx := hbd _ (List.getElem_mem hj2)
        obtain ⟨q, k1, k2, k3, k4⟩ := hx.sound
        have hb := hx.bd
        have := (R.r q (List.mem_of_getElem? k1)).2.2.1
        exact ⟨by omega, by omega, by omega⟩
      have kk := sort_fw (c := (gs G.S i).length) D
      rw [List.size_toArray] at kk
      repeat (first | apply zs | apply zr | apply zn | ((first | apply zx | apply zy); · simp only [push_cast, env, Nat.reduceEqDiff, reduceIte, Nat.reduceAdd, Nat.reduceMul, Nat.reduceLeDiff, reduceCtorEq, Nat.reduceSub, Int.reduceToNat, hs, hu2, f2, Nat.mul_one] <;> first | exact rfl | exact .inl rfl | exact .inr rfl) | apply zq | apply zb | apply zo | apply zk | apply zl)
      refine zc (fn := Try.f43) (by simp only [push_cast, env, Nat.reduceEqDiff, reduceIte] <;> exact rfl) Try.func43 (by kernel_rfl) (by kernel_rfl) ?_
      rw [List.append_nil]
      refine kk.mono ?_
      rintro _ h5 ⟨rfl, k⟩
      obtain ⟨d', hd', D5, hp5⟩ := k.eq
      have hd2 : d'.toList = srt (gs G.S i) := hd'
      have keep : ∀ (j : Nat) (o : HObj), j ≠ id → hk[j]? = some o → h5[j]? = some o := fun j o hj ho => getElem?_of_prefix hp5 (by rw [get_set_ne (Ne.symm hj)]; exact ho)
      have nid : ∀ {j : Nat} {cs : List Value} {ve : Nat} {ow : Bool} {et : TypeId}, hk[j]? = some (.arr cs ve ow et) → et ≠ 57 → j ≠ id := fun ho he => by
        rintro rfl
        rw [h3] at ho
        simp only [Option.some.injEq, HObj.arr.injEq] at ho
        exact he ho.2.2.2.symm
      repeat (first | apply zs | apply zr | apply zn | ((first | apply zx | apply zy); · simp only [push_cast, env, Nat.reduceEqDiff, reduceIte, Nat.reduceAdd, Nat.reduceMul, Nat.reduceLeDiff, reduceCtorEq, Nat.reduceSub, Int.reduceToNat, e2] <;> first | exact rfl | exact .inl rfl | exact .inr rfl) | apply zq | apply zb | apply zo | apply zk | apply zl)
      refine ⟨hlt, (h5, L.set i (srt (gs G.S i))), (by simp only [push_cast, Nat.reduceEqDiff, reduceIte]), rfl, (pre_set hp h1).trans hp5, keep _ _ (nid hc (by decide)) hc, keep _ _ (nid hs (by decide)) hs, nI.sorted hu2 hiL (.inr ⟨id, ver, h1, by rw [srt_len], ?_⟩) (fun j o hj ho => ?_), by simp only [List.length_set]; exact hl, upd rfl⟩
      · rw [← hd2]
        exact D5.g
      · simp only [isAt, beq_eq_false_iff_ne] at hj
        exact keep j o (Ne.symm hj) ho
  · have e3 := ge_dec hlt
    obtain rfl : i = G.S.length := by omega
    repeat (first | apply zs | apply zr | apply zn | ((first | apply zx | apply zy); · simp only [push_cast, env, Nat.reduceEqDiff, reduceIte, Nat.reduceAdd, Nat.reduceMul, Nat.reduceLeDiff, reduceCtorEq, Nat.reduceSub, Int.reduceToNat, e3] <;> first | exact rfl | exact .inl rfl | exact .inr rfl) | apply zq | apply zb | apply zo | apply zk | apply zl)
    refine cw_condF rfl ?_
    refine cw_exit ?_
    show CW _ _ _ _
    repeat (first | apply zs | apply zr | apply zn | ((first | apply zx | apply zy); · simp only [push_cast, env, Nat.reduceEqDiff, reduceIte, Nat.reduceAdd, Nat.reduceMul, Nat.reduceLeDiff, reduceCtorEq, Nat.reduceSub, Int.reduceToNat, hc] <;> first | exact rfl | exact .inl rfl | exact .inr rfl) | apply zq | apply zb | apply zo | apply zk | apply zl)
    refine cw_ret ?_
    have hLw : L.length = w.length + 1 := by omega
    refine ⟨_, (by simp only [push_cast, env, Nat.reduceEqDiff, reduceIte] <;> exact rfl), ⟨.slice (some ⟨F.si, 0, some 0⟩) G.S.length G.S.length, by rw [hf]; rfl, fun h => absurd hf h, fun _ => ⟨L, ⟨hLw, fun j hj => ?_⟩, F.si, 0, G.us, K.lo.2.1, by rw [hl], hs, nI⟩⟩, hp⟩
    have := hg j (by omega)
    rw [if_pos (by omega)] at this
    rw [this]
    exact ⟨sort_strict (C.nd j), fun x => by rw [show (x ∈ srt (gs G.S j)) = (x ∈ (gs G.S j).mergeSort (fun x y => !ltI y x)) from rfl, sort_mem]; exact C.m j x⟩
end Go.Proofs.Ytafncpgiibikcaa

namespace Go.Proofs.Ytafncpgiibikcaa
set_option linter.unusedSimpArgs false
set_option linter.unusedVariables false
set_option maxRecDepth 20000
open Go.RowKit Am Ty

theorem items_get {l : List Item} {i : Nat} (hi : i < l.length) : rdH (l.flatMap Item.cells) (i * 3) 3 = some [i64 l[i].rule, i64 l[i].dot, i64 l[i].frm] := rdH_flatMap (f := Item.cells) (k := 3) (fun _ => rfl) l i l[i] (by simp [hi])
theorem item_dec (a b : Item) : (decide ((a.rule : Int) = (b.rule : Int)) && (decide ((a.dot : Int) = (b.dot : Int)) && decide ((a.frm : Int) = (b.frm : Int)))) = decide (a = b) := by
  cases a; cases b
  simp only [Item.mk.injEq, Bool.decide_and, Int.ofNat_inj, Int.natCast_inj]
set_option maxHeartbeats 4000000 in
theorem sameitems_fw {h : Heap} {a b : List Item} {va vb : Value} (ha : RdItems h va a) (hb : RdItems h vb b) : FW env 47 [va, vb] h fun r h' => r = .bool (decide (a = b)) ∧ h' = h := by
  obtain ⟨p, c, rfl⟩ := SlR.form ha
  obtain ⟨q, d, rfl⟩ := SlR.form hb
  have hla : a.length ≤ 140737488355328 := by have := ha.1; omega
  refine fw_enter (fn := Try.f47) Try.func47 rfl (by kernel_rfl) (by simp [Try.ntmps47]) ?_; simp only [push_cast]
  repeat (first | apply zs | apply zr | apply zn | ((first | apply zx | apply zy); · simp only [push_cast, env, Nat.reduceEqDiff, reduceIte, Nat.reduceAdd, Nat.reduceMul, Nat.reduceLeDiff, reduceCtorEq, Nat.reduceSub, Int.reduceToNat] <;> first | exact rfl | exact .inl rfl | exact .inr rfl) | apply zq | apply zb | apply zo | apply zk | apply zl)
  refine cw_cond (by simp only [push_cast, env, Nat.reduceEqDiff, reduceIte] <;> exact rfl) (fun c1 => ?_) (fun c1 => ?_)
  · simp only [Bool.not_eq_true', decide_eq_false_iff_not] at c1
    repeat (first | apply zs | apply zr | apply zn | ((first | apply zx | apply zy); · simp only [push_cast, env, Nat.reduceEqDiff, reduceIte, Nat.reduceAdd, Nat.reduceMul, Nat.reduceLeDiff, reduceCtorEq, Nat.reduceSub, Int.reduceToNat] <;> first | exact rfl | exact .inl rfl | exact .inr rfl) | apply zq | apply zb | apply zo | apply zk | apply zl)
    refine cw_ret ?_
    exact ⟨_, (by simp only [push_cast, env, Nat.reduceEqDiff, reduceIte] <;> exact rfl), by rw [decide_eq_false (by rintro rfl; exact c1 rfl)]; rfl, rfl⟩
  simp only [Bool.not_eq_false', decide_eq_true_eq] at c1
  have c2 : a.length = b.length := by omega
  repeat (first | apply zs | apply zr | apply zn | ((first | apply zx | apply zy); · simp only [push_cast, env, Nat.reduceEqDiff, reduceIte, Nat.reduceAdd, Nat.reduceMul, Nat.reduceLeDiff, reduceCtorEq, Nat.reduceSub, Int.reduceToNat] <;> first | exact rfl | exact .inl rfl | exact .inr rfl) | apply zq | apply zb | apply zo | apply zk | apply zl)
  refine cw_for a.length (fun k => [(0, .val (.slice p a.length c)), (1, .val (.slice q b.length d)), (5, .val (i64 k))]) (fun _ => h) (fun k => a.take k = b.take k) (by simp only [push_cast, Nat.reduceEqDiff, reduceIte]) rfl rfl ?_
  intro k hk hI
  by_cases hlt : k < a.length
  · obtain ⟨id, ver, own, c', hv, hid⟩ := SlR.at ha (by omega)
    cases hv
    have hlt2 : k < b.length := c2 ▸ hlt
    obtain ⟨id2, ver2, own2, c3, hv2, hid2⟩ := SlR.at hb (by omega)
    cases hv2
    have g1 := items_get hlt
    have g2 := items_get hlt2
    have e1 := rng hlt
    have e1' := rng hlt2
    have e2 := inc hlt hla
    have e3 := lt_dec hlt
    repeat (first | apply zs | apply zr | apply zn | ((first | apply zx | apply zy); · simp only [push_cast, env, Nat.reduceEqDiff, reduceIte, Nat.reduceAdd, Nat.reduceMul, Nat.reduceLeDiff, reduceCtorEq, Nat.reduceSub, Int.reduceToNat, e3] <;> first | exact rfl | exact .inl rfl | exact .inr rfl) | apply zq | apply zb | apply zo | apply zk | apply zl)
    refine cw_condT rfl ?_
    repeat (first | apply zs | apply zr | apply zn | ((first | apply zx | apply zy); · simp only [push_cast, env, Nat.reduceEqDiff, reduceIte, Nat.reduceAdd, Nat.reduceMul, Nat.reduceLeDiff, reduceCtorEq, Nat.reduceSub, Int.reduceToNat] <;> first | exact rfl | exact .inl rfl | exact .inr rfl) | apply zq | apply zb | apply zo | apply zk | apply zl)
    refine cw_regionD 8 mixed (by kernel_rfl) ?_
    repeat (first | apply zs | apply zr | apply zn | ((first | apply zx | apply zy); · simp only [push_cast, env, Nat.reduceEqDiff, reduceIte, Nat.reduceAdd, Nat.reduceMul, Nat.reduceLeDiff, reduceCtorEq, Nat.reduceSub, Int.reduceToNat, e1, e1', hid, hid2, g1, g2, Nat.mul_one, item_dec] <;> first | exact rfl | exact .inl rfl | exact .inr rfl) | apply zq | apply zb | apply zo | apply zk | apply zl)
    refine cw_cond (by simp only [push_cast, env, Nat.reduceEqDiff, reduceIte, item_dec] <;> exact rfl) (fun c4 => ?_) (fun c4 => ?_)
    · rw [Bool.not_eq_true', decide_eq_false_iff_not] at c4
      repeat (first | apply zs | apply zr | apply zn | ((first | apply zx | apply zy); · simp only [push_cast, env, Nat.reduceEqDiff, reduceIte, Nat.reduceAdd, Nat.reduceMul, Nat.reduceLeDiff, reduceCtorEq, Nat.reduceSub, Int.reduceToNat] <;> first | exact rfl | exact .inl rfl | exact .inr rfl) | apply zq | apply zb | apply zo | apply zk | apply zl)
      refine cw_ret ?_
      exact ⟨_, (by simp only [push_cast, env, Nat.reduceEqDiff, reduceIte] <;> exact rfl), by rw [decide_eq_false (by rintro rfl; exact c4 rfl)]; rfl, rfl⟩
    · rw [Bool.not_eq_false', decide_eq_true_eq] at c4
      repeat (first | apply zs | apply zr | apply zn | ((first | apply zx | apply zy); · simp only [push_cast, env, Nat.reduceEqDiff, reduceIte, Nat.reduceAdd, Nat.reduceMul, Nat.reduceLeDiff, reduceCtorEq, Nat.reduceSub, Int.reduceToNat, e2] <;> first | exact rfl | exact .inl rfl | exact .inr rfl) | apply zq | apply zb | apply zo | apply zk | apply zl)
      exact ⟨hlt, (by simp only [push_cast, Nat.reduceEqDiff, reduceIte]), rfl, take_eq_step hI hlt hlt2 c4⟩
  · have e3 := ge_dec hlt
    obtain rfl : k = a.length := by omega
    repeat (first | apply zs | apply zr | apply zn | ((first | apply zx | apply zy); · simp only [push_cast, env, Nat.reduceEqDiff, reduceIte, Nat.reduceAdd, Nat.reduceMul, Nat.reduceLeDiff, reduceCtorEq, Nat.reduceSub, Int.reduceToNat, e3] <;> first | exact rfl | exact .inl rfl | exact .inr rfl) | apply zq | apply zb | apply zo | apply zk | apply zl)
    refine cw_condF rfl ?_
    refine cw_exit ?_
    show CW _ _ _ _
    repeat (first | apply zs | apply zr | apply zn | ((first | apply zx | apply zy); · simp only [push_cast, env, Nat.reduceEqDiff, reduceIte, Nat.reduceAdd, Nat.reduceMul, Nat.reduceLeDiff, reduceCtorEq, Nat.reduceSub, Int.reduceToNat] <;> first | exact rfl | exact .inl rfl | exact .inr rfl) | apply zq | apply zb | apply zo | apply zk | apply zl)
    refine cw_ret ?_
    rw [List.take_length, c2, List.take_length] at hI
    exact ⟨_, (by simp only [push_cast, env, Nat.reduceEqDiff, reduceIte] <;> exact rfl), by rw [decide_eq_true hI]; rfl, rfl⟩
set_option maxHeartbeats 2000000 in
theorem samecharts_nil {h : Heap} : FW env 26 [nilS, nilS] h fun r h' => r = .bool true ∧ h' = h := by
  refine fw_enter (fn := Try.f26) Try.func26 rfl (by kernel_rfl) (by simp [Try.ntmps26]) ?_; simp only [push_cast]
  repeat (first | apply zs | apply zr | apply zn | ((first | apply zx | apply zy); · simp only [push_cast, env, Nat.reduceEqDiff, reduceIte, Nat.reduceAdd, Nat.reduceMul, Nat.reduceLeDiff, reduceCtorEq, Nat.reduceSub, Int.reduceToNat] <;> first | exact rfl | exact .inl rfl | exact .inr rfl) | apply zq | apply zb | apply zo | apply zk | apply zl)
  refine cw_condF rfl ?_
  repeat (first | apply zs | apply zr | apply zn | ((first | apply zx | apply zy); · simp only [push_cast, env, Nat.reduceEqDiff, reduceIte, Nat.reduceAdd, Nat.reduceMul, Nat.reduceLeDiff, reduceCtorEq, Nat.reduceSub, Int.reduceToNat] <;> first | exact rfl | exact .inl rfl | exact .inr rfl) | apply zq | apply zb | apply zo | apply zk | apply zl)
  refine cw_wh (fun _ : Unit => 0) (fun _ => [(0, .val nilS), (5, .val (i64 0))]) (fun _ => h) (fun _ => True) () (by simp only [push_cast, Nat.reduceEqDiff, reduceIte]) rfl trivial ?_
  intro _ _
  repeat (first | apply zs | apply zr | apply zn | ((first | apply zx | apply zy); · simp only [push_cast, env, Nat.reduceEqDiff, reduceIte, Nat.reduceAdd, Nat.reduceMul, Nat.reduceLeDiff, reduceCtorEq, Nat.reduceSub, Int.reduceToNat] <;> first | exact rfl | exact .inl rfl | exact .inr rfl) | apply zq | apply zb | apply zo | apply zk | apply zl)
  refine cw_condF rfl ?_
  refine cw_exit ?_
  show CW _ _ _ _
  repeat (first | apply zs | apply zr | apply zn | ((first | apply zx | apply zy); · simp only [push_cast, env, Nat.reduceEqDiff, reduceIte, Nat.reduceAdd, Nat.reduceMul, Nat.reduceLeDiff, reduceCtorEq, Nat.reduceSub, Int.reduceToNat] <;> first | exact rfl | exact .inl rfl | exact .inr rfl) | apply zq | apply zb | apply zo | apply zk | apply zl)
  refine cw_ret ?_
  exact ⟨_, (by simp only [push_cast, env, Nat.reduceEqDiff, reduceIte] <;> exact rfl), rfl, rfl⟩
set_option maxHeartbeats 4000000 in
theorem samecharts_fw {h h1 h2 : Heap} {A B : List (List Item)} {va vb : Value} (ha : GC h1 h va A) (hb : GC h2 h vb B) (hA : ∀ l ∈ A, l.length ≤ 1000000000) (hB : ∀ l ∈ B, l.length ≤ 1000000000) (c2 : A.length = B.length) (hn : A.length ≤ 1000000) :
    FW env 26 [va, vb] h fun r h' => r = .bool (decide (A = B)) ∧ h' = h := by
  obtain ⟨ia, ra, us, _, rfl, ga, na⟩ := ha
  obtain ⟨ib, rb, ws, _, rfl, gb, nb⟩ := hb
  refine fw_enter (fn := Try.f26) Try.func26 rfl (by kernel_rfl) (by simp [Try.ntmps26]) ?_; simp only [push_cast]
  repeat (first | apply zs | apply zr | apply zn | ((first | apply zx | apply zy); · simp only [push_cast, env, Nat.reduceEqDiff, reduceIte, Nat.reduceAdd, Nat.reduceMul, Nat.reduceLeDiff, reduceCtorEq, Nat.reduceSub, Int.reduceToNat] <;> first | exact rfl | exact .inl rfl | exact .inr rfl) | apply zq | apply zb | apply zo | apply zk | apply zl)
  refine cw_cond (by simp only [push_cast, env, Nat.reduceEqDiff, reduceIte] <;> exact rfl) (fun c1 => ?_) (fun c1 => ?_)
  · simp only [Bool.not_eq_true', decide_eq_false_iff_not] at c1
    omega
  clear c1
  repeat (first | apply zs | apply zr | apply zn | ((first | apply zx | apply zy); · simp only [push_cast, env, Nat.reduceEqDiff, reduceIte, Nat.reduceAdd, Nat.reduceMul, Nat.reduceLeDiff, reduceCtorEq, Nat.reduceSub, Int.reduceToNat] <;> first | exact rfl | exact .inl rfl | exact .inr rfl) | apply zq | apply zb | apply zo | apply zk | apply zl)
  refine cw_for A.length (fun k => [(0, .val (.slice (some ⟨ia, 0, some ra⟩) A.length A.length)), (1, .val (.slice (some ⟨ib, 0, some rb⟩) B.length B.length)), (5, .val (i64 k))]) (fun _ => h) (fun k => A.take k = B.take k) (by simp only [push_cast, Nat.reduceEqDiff, reduceIte]) rfl rfl ?_
  intro k hk hI
  by_cases hlt : k < A.length
  · have hlt2 : k < B.length := c2 ▸ hlt
    have hu : k < us.length := by rw [na.n]; exact hlt
    have hw : k < ws.length := by rw [nb.n]; exact hlt2
    obtain ⟨u, hu2⟩ : ∃ u, us[k]? = some u := ⟨us[k], by simp [hu]⟩
    obtain ⟨y, hw2⟩ : ∃ y, ws[k]? = some y := ⟨ws[k], by simp [hw]⟩
    have gu := (na.g k u A[k] hu2 (by simp [hlt])).sl (b := 24) (by have := hA _ (List.getElem_mem hlt); omega)
    have gw := (nb.g k y B[k] hw2 (by simp [hlt2])).sl (b := 24) (by have := hB _ (List.getElem_mem hlt2); omega)
    have e1 := rng hlt
    have e1' := rng hlt2
    have e2 := inc hlt (by omega)
    have e3 := lt_dec hlt
    repeat (first | apply zs | apply zr | apply zn | ((first | apply zx | apply zy); · simp only [push_cast, env, Nat.reduceEqDiff, reduceIte, Nat.reduceAdd, Nat.reduceMul, Nat.reduceLeDiff, reduceCtorEq, Nat.reduceSub, Int.reduceToNat, e3] <;> first | exact rfl | exact .inl rfl | exact .inr rfl) | apply zq | apply zb | apply zo | apply zk | apply zl)
    refine cw_condT rfl ?_
    repeat (first | apply zs | apply zr | apply zn | ((first | apply zx | apply zy); · simp only [push_cast, env, Nat.reduceEqDiff, reduceIte, Nat.reduceAdd, Nat.reduceMul, Nat.reduceLeDiff, reduceCtorEq, Nat.reduceSub, Int.reduceToNat] <;> first | exact rfl | exact .inl rfl | exact .inr rfl) | apply zq | apply zb | apply zo | apply zk | apply zl)
    refine cw_regionD 8 mixed (by kernel_rfl) ?_
    repeat (first | apply zs | apply zr | apply zn | ((first | apply zx | apply zy); · simp only [push_cast, env, Nat.reduceEqDiff, reduceIte, Nat.reduceAdd, Nat.reduceMul, Nat.reduceLeDiff, reduceCtorEq, Nat.reduceSub, Int.reduceToNat, e1, e1', ga, gb, hu2, hw2, Nat.mul_one] <;> first | exact rfl | exact .inl rfl | exact .inr rfl) | apply zq | apply zb | apply zo | apply zk | apply zl)
    refine zc (fn := Try.f47) (by simp only [push_cast, env, Nat.reduceEqDiff, reduceIte] <;> exact rfl) Try.func47 (by kernel_rfl) (by kernel_rfl) ?_
    rw [List.append_nil]
    refine (sameitems_fw gu gw).mono ?_
    rintro _ h3 ⟨rfl, rfl⟩
    repeat (first | apply zs | apply zr | apply zn | ((first | apply zx | apply zy); · simp only [push_cast, env, Nat.reduceEqDiff, reduceIte, Nat.reduceAdd, Nat.reduceMul, Nat.reduceLeDiff, reduceCtorEq, Nat.reduceSub, Int.reduceToNat] <;> first | exact rfl | exact .inl rfl | exact .inr rfl) | apply zq | apply zb | apply zo | apply zk | apply zl)
    refine cw_cond (by simp only [push_cast, env, Nat.reduceEqDiff, reduceIte] <;> exact rfl) (fun c4 => ?_) (fun c4 => ?_)
    · rw [Bool.not_eq_true', decide_eq_false_iff_not] at c4
      repeat (first | apply zs | apply zr | apply zn | ((first | apply zx | apply zy); · simp only [push_cast, env, Nat.reduceEqDiff, reduceIte, Nat.reduceAdd, Nat.reduceMul, Nat.reduceLeDiff, reduceCtorEq, Nat.reduceSub, Int.reduceToNat] <;> first | exact rfl | exact .inl rfl | exact .inr rfl) | apply zq | apply zb | apply zo | apply zk | apply zl)
      refine cw_ret ?_
      exact ⟨_, (by simp only [push_cast, env, Nat.reduceEqDiff, reduceIte] <;> exact rfl), by rw [decide_eq_false (by rintro rfl; exact c4 rfl)]; rfl, rfl⟩
    · rw [Bool.not_eq_false', decide_eq_true_eq] at c4
      repeat (first | apply zs | apply zr | apply zn | ((first | apply zx | apply zy); · simp only [push_cast, env, Nat.reduceEqDiff, reduceIte, Nat.reduceAdd, Nat.reduceMul, Nat.reduceLeDiff, reduceCtorEq, Nat.reduceSub, Int.reduceToNat, e2] <;> first | exact rfl | exact .inl rfl | exact .inr rfl) | apply zq | apply zb | apply zo | apply zk | apply zl)
      exact ⟨hlt, (by simp only [push_cast, Nat.reduceEqDiff, reduceIte]), rfl, take_eq_step hI hlt hlt2 c4⟩
  · have e3 := ge_dec hlt
    obtain rfl : k = A.length := by omega
    repeat (first | apply zs | apply zr | apply zn | ((first | apply zx | apply zy); · simp only [push_cast, env, Nat.reduceEqDiff, reduceIte, Nat.reduceAdd, Nat.reduceMul, Nat.reduceLeDiff, reduceCtorEq, Nat.reduceSub, Int.reduceToNat, e3] <;> first | exact rfl | exact .inl rfl | exact .inr rfl) | apply zq | apply zb | apply zo | apply zk | apply zl)
    refine cw_condF rfl ?_
    refine cw_exit ?_
    show CW _ _ _ _
    repeat (first | apply zs | apply zr | apply zn | ((first | apply zx | apply zy); · simp only [push_cast, env, Nat.reduceEqDiff, reduceIte, Nat.reduceAdd, Nat.reduceMul, Nat.reduceLeDiff, reduceCtorEq, Nat.reduceSub, Int.reduceToNat] <;> first | exact rfl | exact .inl rfl | exact .inr rfl) | apply zq | apply zb | apply zo | apply zk | apply zl)
    refine cw_ret ?_
    rw [List.take_length, c2, List.take_length] at hI
    exact ⟨_, (by simp only [push_cast, env, Nat.reduceEqDiff, reduceIte] <;> exact rfl), by rw [decide_eq_true hI]; rfl, rfl⟩
end Go.Proofs.Ytafncpgiibikcaa

namespace Go.Proofs.Ytafncpgiibikcaa
set_option linter.unusedSimpArgs false
set_option linter.unusedVariables false
set_option maxRecDepth 20000
open Go.RowKit Am Ty

theorem gsize_heavy {g : Gram} {w : List Nat} (h : heavy7 g w = false) : fitE g w = 0 → gsize g.rules * (w.length + 1) ≤ 1000000 := fun hf => by
  obtain ⟨_, hw⟩ := fitE_ok.1 hf
  unfold heavy7 at h
  simp only [Bool.or_eq_false_iff, Bool.and_eq_false_iff, decide_eq_false_iff_not] at h
  have h2 : ¬ heavyP g 160 := h.2
  unfold heavyP at h2
  have R := rightS (fitE_ok.1 hf).1
  have n1 := R.n1
  have hs := size_gsize g.rules
  have hn : gsize g.rules ≤ 160 := by omega
  have hl : w.length + 1 ≤ 17 := by omega
  have := Nat.mul_le_mul hn hl
  omega
theorem ChS.small {g : Gram} {w : List Nat} {L : List (List Item)} (C : ChS g w L) (R : RightS g) (hw : w.length ≤ 512) : ∀ l ∈ L, l.length ≤ 1000000000 := fun l hl => by
  obtain ⟨j, hj, rfl⟩ := List.mem_iff_getElem.1 hl
  rw [gs_getElem hj]
  have h := C.2 j (by have := C.1; omega)
  exact small_items R hw h.1 fun x hx => (h.2 x).1 hx
theorem ChS.sum {g : Gram} {w : List Nat} {L S : List (List Item)} (C : ChS g w L) (D : ChartOK g w S) : itemSum S = itemSum L := by
  unfold itemSum
  congr 1
  refine List.ext_getElem (by rw [List.length_map, List.length_map, C.1, D.n]) fun j h1 h2 => ?_
  simp only [List.length_map] at h1 h2
  rw [List.getElem_map, List.getElem_map, gs_getElem h1, gs_getElem h2]
  have h := C.2 j (by have := C.1; omega)
  have hn : (gs L j).Nodup := h.1.imp fun {x y} h e => by subst e; rw [ltI_irr] at h; cases h
  exact ((List.perm_ext_iff_of_nodup (D.nd j) hn).2 fun x => by rw [D.m, h.2 x]).length_eq
theorem itemSum_step {L : List (List Item)} {i : Nat} (hi : i < L.length) : itemSum (L.take (i + 1)) = itemSum (L.take i) + L[i].length := by
  rw [List.take_succ_eq_append_getElem hi]
  unfold itemSum
  simp only [List.map_append, List.sum_append, List.map_cons, List.map_nil, List.sum_cons, List.sum_nil, Nat.add_zero]
theorem itemSum_bd {L : List (List Item)} (h : ∀ l ∈ L, l.length ≤ 1000000000) : ∀ k, k ≤ L.length → itemSum (L.take k) ≤ k * 1000000000
  | 0, _ => by simp [itemSum]
  | k + 1, hk => by
    have h1 := itemSum_bd h k (by omega)
    have h2 := h _ (List.getElem_mem (by omega : k < L.length))
    rw [itemSum_step (by omega)]
    omega
def AR (lo hi : Nat) (hk : Heap) (us : List Value) (L : List (List Item)) : Prop := ∀ (i : Nat) (u : Value) (l : List Item), us[i]? = some u → L[i]? = some l → (l = [] ∧ u = nilS) ∨
  ∃ id ver cells, lo ≤ id ∧ id < hi ∧ u = .slice (some ⟨id, 0, some ver⟩) l.length l.length ∧ hk[id]? = some (.arr cells ver true 57) ∧ cells.length = l.length * 3
theorem AR.set {lo hi : Nat} {hk : Heap} {us : List Value} {L : List (List Item)} (A : AR lo hi hk us L) {id ver : Nat} {cells cells' : List Value} (hg : hk[id]? = some (.arr cells ver true 57)) (hl : cells'.length = cells.length) : AR lo hi (hk.set id (.arr cells' ver true 57)) us L := fun i u l h1 h2 => by
  rcases A i u l h1 h2 with h | ⟨id2, ver2, c2, k1, k2, k3, k4, k5⟩
  · exact .inl h
  · by_cases e : id = id2
    · subst e
      rw [hg] at k4
      simp only [Option.some.injEq, HObj.arr.injEq] at k4
      obtain ⟨rfl, rfl, _⟩ := k4
      exact .inr ⟨id, ver, cells', k1, k2, k3, get_set_self hg, by omega⟩
    · exact .inr ⟨id2, ver2, c2, k1, k2, k3, by rw [get_set_ne e]; exact k4, k5⟩
theorem wr_len {cells vs cs : List Value} {off : Nat} (h : wrC cells off vs = some cs) : cs.length = cells.length := by
  unfold wrC at h
  split at h
  · cases h
    simp
    omega
  · cases h
theorem wr_ok {cells : List Value} {off : Nat} {v : Value} (h : off < cells.length) : ∃ cs, wrC cells off [v] = some cs := ⟨_, by unfold wrC; rw [if_pos (by simp; omega)]⟩
theorem GC.keep {h hk hk' : Heap} {v : Value} {L : List (List Item)} (k : GC h hk v L) (hh : ∀ (i : Nat) (o : HObj), h.length ≤ i → hk[i]? = some o → hk'[i]? = some o) : GC h hk' v L := by
  obtain ⟨io, vo, us, h1, h2, h3, h4⟩ := k
  refine ⟨io, vo, us, h1, h2, hh _ _ h1 h3, h4.n, fun i u l k1 k2 => ?_, h4.d, h4.o⟩
  have g := h4.g i u l k1 k2
  exact g.mono fun j o hj ho => hh j o (g.lt hj).1 ho
theorem GC.mono {h hk hk' : Heap} {v : Value} {L : List (List Item)} (k : GC h hk v L) (hp : hk <+: hk') : GC h hk' v L := k.keep fun _ _ _ ho => getElem?_of_prefix hp ho
set_option maxHeartbeats 8000000 in
theorem earleycharts_fw {h : Heap} {g : Gram} {v wv : Value} {w : List Nat} (hr : RdGram h v g) (hwR : RdB h wv w) (hn : -9223372036854775808 ≤ g.nts) (W : WfG g) : FW env 9 [v, wv] h fun r _ => r = .bool true := by
  obtain ⟨u, rfl, hu⟩ := id hr
  obtain ⟨p, c, rfl⟩ := hu.form
  obtain ⟨pw, cw, rfl⟩ := hwR.form
  refine fw_enter (fn := Try.f9) Try.func9 rfl (by kernel_rfl) (by simp [Try.ntmps9]) ?_; simp only [push_cast]
  repeat (first | apply zs | apply zr | apply zn | ((first | apply zx | apply zy); · simp only [push_cast, env, Nat.reduceEqDiff, reduceIte, Nat.reduceAdd, Nat.reduceMul, Nat.reduceLeDiff, reduceCtorEq, Nat.reduceSub, Int.reduceToNat] <;> first | exact rfl | exact .inl rfl | exact .inr rfl) | apply zq | apply zb | apply zo | apply zk | apply zl)
  refine zc (fn := Try.f13) (by simp only [push_cast, env, Nat.reduceEqDiff, reduceIte] <;> exact rfl) Try.func13 (by kernel_rfl) (by kernel_rfl) ?_
  rw [List.append_nil]
  refine (heavy7_fw hr hwR hn).mono ?_
  rintro _ h ⟨rfl, rfl⟩
  repeat (first | apply zs | apply zr | apply zn | ((first | apply zx | apply zy); · simp only [push_cast, env, Nat.reduceEqDiff, reduceIte, Nat.reduceAdd, Nat.reduceMul, Nat.reduceLeDiff, reduceCtorEq, Nat.reduceSub, Int.reduceToNat] <;> first | exact rfl | exact .inl rfl | exact .inr rfl) | apply zq | apply zb | apply zo | apply zk | apply zl)
  refine cw_cond (by simp only [push_cast, env, Nat.reduceEqDiff, reduceIte] <;> exact rfl) (fun c1 => ?_) (fun c1 => ?_)
  · repeat (first | apply zs | apply zr | apply zn | ((first | apply zx | apply zy); · simp only [push_cast, env, Nat.reduceEqDiff, reduceIte, Nat.reduceAdd, Nat.reduceMul, Nat.reduceLeDiff, reduceCtorEq, Nat.reduceSub, Int.reduceToNat] <;> first | exact rfl | exact .inl rfl | exact .inr rfl) | apply zq | apply zb | apply zo | apply zk | apply zl)
    refine zc (fn := Try.f14) (by simp only [push_cast, env, Nat.reduceEqDiff, reduceIte] <;> exact rfl) Try.func14 (by kernel_rfl) (by kernel_rfl) ?_
    refine alive7_fw.mono ?_
    rintro _ h ⟨rfl, rfl⟩
    repeat (first | apply zs | apply zr | apply zn | ((first | apply zx | apply zy); · simp only [push_cast, env, Nat.reduceEqDiff, reduceIte, Nat.reduceAdd, Nat.reduceMul, Nat.reduceLeDiff, reduceCtorEq, Nat.reduceSub, Int.reduceToNat] <;> first | exact rfl | exact .inl rfl | exact .inr rfl) | apply zq | apply zb | apply zo | apply zk | apply zl)
    refine cw_ret ?_
    exact ⟨_, (by simp only [push_cast, env, Nat.reduceEqDiff, reduceIte] <;> exact rfl), rfl⟩
  have hL := light_of c1
  have hGz := gsize_heavy c1
  repeat (first | apply zs | apply zr | apply zn | ((first | apply zx | apply zy); · simp only [push_cast, env, Nat.reduceEqDiff, reduceIte, Nat.reduceAdd, Nat.reduceMul, Nat.reduceLeDiff, reduceCtorEq, Nat.reduceSub, Int.reduceToNat] <;> first | exact rfl | exact .inl rfl | exact .inr rfl) | apply zq | apply zb | apply zo | apply zk | apply zl)
  refine zc (fn := Try.f24) (by simp only [push_cast, env, Nat.reduceEqDiff, reduceIte] <;> exact rfl) Try.func24 (by kernel_rfl) (by kernel_rfl) ?_
  rw [List.append_nil]
  refine (chart_fw hr hwR W hGz).mono ?_
  rintro _ h1 ⟨⟨va, rfl, a1, a2⟩, hp1⟩
  repeat (first | apply zs | apply zr | apply zn | ((first | apply zx | apply zy); · simp only [push_cast, env, Nat.reduceEqDiff, reduceIte, Nat.reduceAdd, Nat.reduceMul, Nat.reduceLeDiff, reduceCtorEq, Nat.reduceSub, Int.reduceToNat] <;> first | exact rfl | exact .inl rfl | exact .inr rfl) | apply zq | apply zb | apply zo | apply zk | apply zl)
  refine zc (fn := Try.f25) (by simp only [push_cast, env, Nat.reduceEqDiff, reduceIte] <;> exact rfl) Try.func25 (by kernel_rfl) (by kernel_rfl) ?_
  rw [List.append_nil]
  refine (rchart_fw (hr.mono hp1) (hwR.mono hp1) W hL).mono ?_
  rintro _ h2 ⟨⟨vb, rfl, b1, b2⟩, hp2⟩
  have df : decide (fitE g w = fitE g w) = true := decide_eq_true rfl
  by_cases hf : ¬ fitE g w = 0
  · obtain rfl := a1 hf
    obtain rfl := b1 hf
    clear a1 a2 b1 b2
    repeat (first | apply zs | apply zr | apply zn | ((first | apply zx | apply zy); · simp only [push_cast, env, Nat.reduceEqDiff, reduceIte, Nat.reduceAdd, Nat.reduceMul, Nat.reduceLeDiff, reduceCtorEq, Nat.reduceSub, Int.reduceToNat, df] <;> first | exact rfl | exact .inl rfl | exact .inr rfl) | apply zq | apply zb | apply zo | apply zk | apply zl)
    refine zc (fn := Try.f26) (by simp only [push_cast, env, Nat.reduceEqDiff, reduceIte, df] <;> exact rfl) Try.func26 (by kernel_rfl) (by kernel_rfl) ?_
    rw [List.append_nil]
    refine samecharts_nil.mono ?_
    rintro _ h3 ⟨rfl, rfl⟩
    repeat (first | apply zs | apply zr | apply zn | ((first | apply zx | apply zy); · simp only [push_cast, env, Nat.reduceEqDiff, reduceIte, Nat.reduceAdd, Nat.reduceMul, Nat.reduceLeDiff, reduceCtorEq, Nat.reduceSub, Int.reduceToNat, df] <;> first | exact rfl | exact .inl rfl | exact .inr rfl) | apply zq | apply zb | apply zo | apply zk | apply zl)
    refine cw_condF (by simp only [push_cast, env, Nat.reduceEqDiff, reduceIte, df] <;> exact rfl) ?_
    repeat (first | apply zs | apply zr | apply zn | ((first | apply zx | apply zy); · simp only [push_cast, env, Nat.reduceEqDiff, reduceIte, Nat.reduceAdd, Nat.reduceMul, Nat.reduceLeDiff, reduceCtorEq, Nat.reduceSub, Int.reduceToNat, df] <;> first | exact rfl | exact .inl rfl | exact .inr rfl) | apply zq | apply zb | apply zo | apply zk | apply zl)
    refine zc (fn := Try.f27) (by simp only [push_cast, env, Nat.reduceEqDiff, reduceIte] <;> exact rfl) Try.func27 (by kernel_rfl) (by kernel_rfl) ?_
    rw [List.append_nil]
    refine (items_fw (hr.mono (hp1.trans hp2)) (hwR.mono (hp1.trans hp2)) W).mono ?_
    rintro _ h4 ⟨⟨n, rfl, n1, n2⟩, hp4⟩
    obtain rfl := n1 hf
    repeat (first | apply zs | apply zr | apply zn | ((first | apply zx | apply zy); · simp only [push_cast, env, Nat.reduceEqDiff, reduceIte, Nat.reduceAdd, Nat.reduceMul, Nat.reduceLeDiff, reduceCtorEq, Nat.reduceSub, Int.reduceToNat] <;> first | exact rfl | exact .inl rfl | exact .inr rfl) | apply zq | apply zb | apply zo | apply zk | apply zl)
    refine cw_wh (fun _ : Unit => 0) (fun _ => [(1, .val (.slice pw w.length cw)), (2, .box [i64 g.nts, i64 g.start, .slice p g.rules.length c]), (7, .val nilS), (8, .val (i64 (fitE g w))), (9, .val (i64 0)), (10, .val (i64 (fitE g w))), (11, .val (i64 0)), (12, .val (i64 0))]) (fun _ => h4) (fun _ => True) () (by simp only [push_cast, Nat.reduceEqDiff, reduceIte]) rfl trivial ?_
    intro _ _
    repeat (first | apply zs | apply zr | apply zn | ((first | apply zx | apply zy); · simp only [push_cast, env, Nat.reduceEqDiff, reduceIte, Nat.reduceAdd, Nat.reduceMul, Nat.reduceLeDiff, reduceCtorEq, Nat.reduceSub, Int.reduceToNat] <;> first | exact rfl | exact .inl rfl | exact .inr rfl) | apply zq | apply zb | apply zo | apply zk | apply zl)
    refine cw_condF rfl ?_
    refine cw_exit ?_
    show CW _ _ _ _
    repeat (first | apply zs | apply zr | apply zn | ((first | apply zx | apply zy); · simp only [push_cast, env, Nat.reduceEqDiff, reduceIte, Nat.reduceAdd, Nat.reduceMul, Nat.reduceLeDiff, reduceCtorEq, Nat.reduceSub, Int.reduceToNat] <;> first | exact rfl | exact .inl rfl | exact .inr rfl) | apply zq | apply zb | apply zo | apply zk | apply zl)
    refine zc (fn := Try.f24) (by simp only [push_cast, env, Nat.reduceEqDiff, reduceIte] <;> exact rfl) Try.func24 (by kernel_rfl) (by kernel_rfl) ?_
    rw [List.append_nil]
    refine (chart_fw (hr.mono (hp1.trans (hp2.trans hp4))) (hwR.mono (hp1.trans (hp2.trans hp4))) W hGz).mono ?_
    rintro _ h5 ⟨⟨vc, rfl, c1', c2⟩, hp5⟩
    obtain rfl := c1' hf
    repeat (first | apply zs | apply zr | apply zn | ((first | apply zx | apply zy); · simp only [push_cast, env, Nat.reduceEqDiff, reduceIte, Nat.reduceAdd, Nat.reduceMul, Nat.reduceLeDiff, reduceCtorEq, Nat.reduceSub, Int.reduceToNat] <;> first | exact rfl | exact .inl rfl | exact .inr rfl) | apply zq | apply zb | apply zo | apply zk | apply zl)
    refine zc (fn := Try.f14) (by simp only [push_cast, env, Nat.reduceEqDiff, reduceIte] <;> exact rfl) Try.func14 (by kernel_rfl) (by kernel_rfl) ?_
    refine alive7_fw.mono ?_
    rintro _ h ⟨rfl, rfl⟩
    repeat (first | apply zs | apply zr | apply zn | ((first | apply zx | apply zy); · simp only [push_cast, env, Nat.reduceEqDiff, reduceIte, Nat.reduceAdd, Nat.reduceMul, Nat.reduceLeDiff, reduceCtorEq, Nat.reduceSub, Int.reduceToNat, df] <;> first | exact rfl | exact .inl rfl | exact .inr rfl) | apply zq | apply zb | apply zo | apply zk | apply zl)
    refine zc (fn := Try.f26) (by simp only [push_cast, env, Nat.reduceEqDiff, reduceIte, df] <;> exact rfl) Try.func26 (by kernel_rfl) (by kernel_rfl) ?_
    rw [List.append_nil]
    refine samecharts_nil.mono ?_
    rintro _ h6 ⟨rfl, rfl⟩
    repeat (first | apply zs | apply zr | apply zn | ((first | apply zx | apply zy); · simp only [push_cast, env, Nat.reduceEqDiff, reduceIte, Nat.reduceAdd, Nat.reduceMul, Nat.reduceLeDiff, reduceCtorEq, Nat.reduceSub, Int.reduceToNat, df] <;> first | exact rfl | exact .inl rfl | exact .inr rfl) | apply zq | apply zb | apply zo | apply zk | apply zl)
    refine cw_ret ?_
    exact ⟨_, (by simp only [push_cast, env, Nat.reduceEqDiff, reduceIte, df] <;> exact rfl), rfl⟩
  replace hf : fitE g w = 0 := Classical.not_not.1 hf
  obtain ⟨hb, hw⟩ := fitE_ok.1 hf
  have R := rightS hb
  obtain ⟨L, CL, ga⟩ := a2 hf
  obtain ⟨L2, CL2, gb⟩ := b2 hf
  obtain rfl := CL2.uniq CL
  clear a1 a2 b1 b2 CL2
  have hsm := CL.small R hw
  have hL1 := CL.1
  have dL : decide (L2 = L2) = true := decide_eq_true rfl
  have gaM := ga.mono hp2
  obtain ⟨ia, ra, us, iha, rfl, gao, na⟩ := ga
  have A0 : AR h.length h1.length h2 us L2 := fun i u l k1 k2 => by
    rcases na.g i u l k1 k2 with ⟨e1, _, e2⟩ | ⟨id, ver, e1, e2, e3⟩
    · exact .inl ⟨List.eq_nil_of_length_eq_zero e1, e2⟩
    · exact .inr ⟨id, ver, _, e1, lt_of_get e3, e2, getElem?_of_prefix hp2 e3, flat_len (f := Item.cells) (k := 3) (fun _ => rfl) _⟩
  have hia := lt_of_get gao
  have nai := na.n
  have gao2 := getElem?_of_prefix hp2 gao
  have hiaN : ∀ (i : Nat) (u : Value), us[i]? = some u → isAt u ia = false := na.o
  have gb0 := gb
  obtain ⟨ib, rb, ws, ihb, rfl, _, _⟩ := gb0
  repeat (first | apply zs | apply zr | apply zn | ((first | apply zx | apply zy); · simp only [push_cast, env, Nat.reduceEqDiff, reduceIte, Nat.reduceAdd, Nat.reduceMul, Nat.reduceLeDiff, reduceCtorEq, Nat.reduceSub, Int.reduceToNat, df] <;> first | exact rfl | exact .inl rfl | exact .inr rfl) | apply zq | apply zb | apply zo | apply zk | apply zl)
  refine zc (fn := Try.f26) (by simp only [push_cast, env, Nat.reduceEqDiff, reduceIte, df] <;> exact rfl) Try.func26 (by kernel_rfl) (by kernel_rfl) ?_
  rw [List.append_nil]
  refine (samecharts_fw gaM gb hsm hsm rfl (by omega)).mono ?_
  rintro _ h3 ⟨rfl, rfl⟩
  repeat (first | apply zs | apply zr | apply zn | ((first | apply zx | apply zy); · simp only [push_cast, env, Nat.reduceEqDiff, reduceIte, Nat.reduceAdd, Nat.reduceMul, Nat.reduceLeDiff, reduceCtorEq, Nat.reduceSub, Int.reduceToNat, df, dL] <;> first | exact rfl | exact .inl rfl | exact .inr rfl) | apply zq | apply zb | apply zo | apply zk | apply zl)
  refine cw_condF (by simp only [push_cast, env, Nat.reduceEqDiff, reduceIte, df, dL] <;> exact rfl) ?_
  repeat (first | apply zs | apply zr | apply zn | ((first | apply zx | apply zy); · simp only [push_cast, env, Nat.reduceEqDiff, reduceIte, Nat.reduceAdd, Nat.reduceMul, Nat.reduceLeDiff, reduceCtorEq, Nat.reduceSub, Int.reduceToNat, df] <;> first | exact rfl | exact .inl rfl | exact .inr rfl) | apply zq | apply zb | apply zo | apply zk | apply zl)
  refine zc (fn := Try.f27) (by simp only [push_cast, env, Nat.reduceEqDiff, reduceIte] <;> exact rfl) Try.func27 (by kernel_rfl) (by kernel_rfl) ?_
  rw [List.append_nil]
  refine (items_fw (hr.mono (hp1.trans hp2)) (hwR.mono (hp1.trans hp2)) W).mono ?_
  rintro _ h4 ⟨⟨n, rfl, n1, n2⟩, hp4⟩
  obtain ⟨S, CS, rfl⟩ := n2 hf
  rw [CL.sum CS]
  clear n1 n2 CS S
  have A4 : AR h.length h1.length h4 us L2 := fun i u l k1 k2 => by
    rcases A0 i u l k1 k2 with e | ⟨id, ver, cells, q1, q2, q3, q4, q5⟩
    · exact .inl e
    · exact .inr ⟨id, ver, cells, q1, q2, q3, getElem?_of_prefix hp4 q4, q5⟩
  have gao4 := getElem?_of_prefix hp4 gao2
  have hbd := itemSum_bd hsm
  repeat (first | apply zs | apply zr | apply zn | ((first | apply zx | apply zy); · simp only [push_cast, env, Nat.reduceEqDiff, reduceIte, Nat.reduceAdd, Nat.reduceMul, Nat.reduceLeDiff, reduceCtorEq, Nat.reduceSub, Int.reduceToNat] <;> first | exact rfl | exact .inl rfl | exact .inr rfl) | apply zq | apply zb | apply zo | apply zk | apply zl)
  refine cw_forG L2.length (fun i (x : Heap) => [(1, .val (.slice pw w.length cw)), (2, .box [i64 g.nts, i64 g.start, .slice p g.rules.length c]), (5, .val (.slice (some ⟨ia, 0, some ra⟩) L2.length L2.length)), (7, .val (.slice (some ⟨ib, 0, some rb⟩) L2.length L2.length)), (8, .val (i64 (fitE g w))), (9, .val (i64 (itemSum L2))), (10, .val (i64 (fitE g w))), (11, .val (i64 (itemSum (L2.take i)))), (12, .val (i64 i))]) (fun _ x => x)
    (fun i x => h <+: x ∧ x[ia]? = some (.arr us ra true 55) ∧ AR h.length h1.length x us L2 ∧ GC h1 x (.slice (some ⟨ib, 0, some rb⟩) L2.length L2.length) L2) h4 (by simp only [push_cast, Nat.reduceEqDiff, reduceIte, itemSum, List.take_zero, List.map_nil, List.sum_nil]) rfl ⟨hp1.trans (hp2.trans hp4), gao4, A4, gb.mono hp4⟩ ?_
  clear A4 gao4 A0 gao2 gb gaM hp4
  rintro i hk hin ⟨hp, hao, A, gb⟩
  by_cases hlt : i < L2.length
  · have e1 := rng hlt
    have e2 := inc hlt (by omega)
    have e3 := lt_dec hlt
    have hst := itemSum_step hlt
    have hb1 := hbd i (by omega)
    have hb2 := hsm _ (List.getElem_mem hlt)
    have hi3 : i * 1000000000 ≤ 513 * 1000000000 := Nat.mul_le_mul_right _ (by omega)
    have e4 : IntKind.i64.wrap ((itemSum (L2.take i) : Int) + (L2[i].length : Int)) = (itemSum (L2.take (i + 1)) : Int) := by rw [hst, wrap64_id (by omega) (by omega)]; omega
    have gb2 := gb
    obtain ⟨ib2, rb2, ws2, q1, q2, q3, q4⟩ := gb2
    cases q2
    have hiw : i < ws2.length := by rw [q4.n]; exact hlt
    obtain ⟨y, hy⟩ : ∃ y, ws2[i]? = some y := ⟨ws2[i], by simp [hiw]⟩
    obtain ⟨py, cy, rfl⟩ := (q4.g i y L2[i] hy (by simp [hlt])).form
    have hiu : i < us.length := by rw [nai]; exact hlt
    obtain ⟨u, hu3⟩ : ∃ u, us[i]? = some u := ⟨us[i], by simp [hiu]⟩
    obtain ⟨pu, cu, rfl⟩ : ∃ pu cu, u = .slice pu L2[i].length cu := by
      rcases A i u L2[i] hu3 (by simp [hlt]) with ⟨e, rfl⟩ | ⟨id, ver, cells, _, _, rfl, _, _⟩
      · exact ⟨none, 0, by rw [e]; rfl⟩
      · exact ⟨_, _, rfl⟩
    repeat (first | apply zs | apply zr | apply zn | ((first | apply zx | apply zy); · simp only [push_cast, env, Nat.reduceEqDiff, reduceIte, Nat.reduceAdd, Nat.reduceMul, Nat.reduceLeDiff, reduceCtorEq, Nat.reduceSub, Int.reduceToNat, e3] <;> first | exact rfl | exact .inl rfl | exact .inr rfl) | apply zq | apply zb | apply zo | apply zk | apply zl)
    refine cw_condT rfl ?_
    repeat (first | apply zs | apply zr | apply zn | ((first | apply zx | apply zy); · simp only [push_cast, env, Nat.reduceEqDiff, reduceIte, Nat.reduceAdd, Nat.reduceMul, Nat.reduceLeDiff, reduceCtorEq, Nat.reduceSub, Int.reduceToNat, e1, q3, hy, e4, Nat.mul_one] <;> first | exact rfl | exact .inl rfl | exact .inr rfl) | apply zq | apply zb | apply zo | apply zk | apply zl)
    clear q3 q4 hy
    refine cw_forG L2[i].length (fun k (x : Heap) => [(1, .val (.slice pw w.length cw)), (2, .box [i64 g.nts, i64 g.start, .slice p g.rules.length c]), (5, .val (.slice (some ⟨ia, 0, some ra⟩) L2.length L2.length)), (7, .val (.slice (some ⟨ib, 0, some rb⟩) L2.length L2.length)), (8, .val (i64 (fitE g w))), (9, .val (i64 (itemSum L2))), (10, .val (i64 (fitE g w))), (11, .val (i64 (itemSum (L2.take (i + 1))))), (12, .val (i64 i)), (13, .val (i64 k))]) (fun _ x => x)
      (fun k x => h <+: x ∧ x[ia]? = some (.arr us ra true 55) ∧ AR h.length h1.length x us L2 ∧ GC h1 x (.slice (some ⟨ib, 0, some rb⟩) L2.length L2.length) L2) hk (by simp only [push_cast, Nat.reduceEqDiff, reduceIte]) rfl ⟨hp, hao, A, gb⟩ ?_
    clear hp hao A gb hk
    rintro k hk hkn ⟨hp, hao, A, gb⟩
    by_cases hlk : k < L2[i].length
    · have f1 := rng hlk
      have f2 := inc hlk (by omega)
      have f3 := lt_dec hlk
      rcases A i _ L2[i] hu3 (by simp [hlt]) with ⟨e, _⟩ | ⟨id, ver, cells, m1, m2, m3, m4, m5⟩
      · rw [e] at hlk
        simp at hlk
      cases m3
      obtain ⟨cs, hcs⟩ := wr_ok (cells := cells) (off := k * 3) (v := i64 (-9)) (by omega)
      have hidne : id ≠ ia := by
        rintro rfl
        have := hiaN _ _ hu3
        simp [isAt] at this
      repeat (first | apply zs | apply zr | apply zn | ((first | apply zx | apply zy); · simp only [push_cast, env, Nat.reduceEqDiff, reduceIte, Nat.reduceAdd, Nat.reduceMul, Nat.reduceLeDiff, reduceCtorEq, Nat.reduceSub, Int.reduceToNat, e1, hao, hu3, f3, Nat.mul_one] <;> first | exact rfl | exact .inl rfl | exact .inr rfl) | apply zq | apply zb | apply zo | apply zk | apply zl)
      refine cw_condT rfl ?_
      repeat (first | apply zs | apply zr | apply zn | ((first | apply zx | apply zy); · simp only [push_cast, env, Nat.reduceEqDiff, reduceIte, Nat.reduceAdd, Nat.reduceMul, Nat.reduceLeDiff, reduceCtorEq, Nat.reduceSub, Int.reduceToNat, e1, f1, hao, hu3, Nat.mul_one] <;> first | exact rfl | exact .inl rfl | exact .inr rfl) | apply zq | apply zb | apply zo | apply zk | apply zl)
      refine ow_stoH (cells' := cs) (by simp only [push_cast, env, Nat.reduceEqDiff, reduceIte] <;> exact rfl) rfl rfl (by simp only [push_cast, env, Nat.reduceEqDiff, reduceIte] <;> exact rfl) (by simp only [push_cast, env, Nat.reduceEqDiff, reduceIte] <;> exact rfl) m4 (by simp only [push_cast, env, Nat.reduceEqDiff, reduceIte] <;> exact rfl) rfl hcs ?_
      repeat (first | apply zs | apply zr | apply zn | ((first | apply zx | apply zy); · simp only [push_cast, env, Nat.reduceEqDiff, reduceIte, Nat.reduceAdd, Nat.reduceMul, Nat.reduceLeDiff, reduceCtorEq, Nat.reduceSub, Int.reduceToNat, f2] <;> first | exact rfl | exact .inl rfl | exact .inr rfl) | apply zq | apply zb | apply zo | apply zk | apply zl)
      exact ⟨hlk, _, (by simp only [push_cast, Nat.reduceEqDiff, reduceIte]), rfl, pre_set hp m1, by rw [get_set_ne hidne]; exact hao, A.set m4 (wr_len hcs), gb.keep fun j o hj ho => by rw [get_set_ne (by omega)]; exact ho⟩
    · have f3 := ge_dec hlk
      obtain rfl : k = L2[i].length := by omega
      repeat (first | apply zs | apply zr | apply zn | ((first | apply zx | apply zy); · simp only [push_cast, env, Nat.reduceEqDiff, reduceIte, Nat.reduceAdd, Nat.reduceMul, Nat.reduceLeDiff, reduceCtorEq, Nat.reduceSub, Int.reduceToNat, e1, hao, hu3, f3, Nat.mul_one] <;> first | exact rfl | exact .inl rfl | exact .inr rfl) | apply zq | apply zb | apply zo | apply zk | apply zl)
      refine cw_condF rfl ?_
      refine cw_exit ?_
      show CW _ _ _ _
      repeat (first | apply zs | apply zr | apply zn | ((first | apply zx | apply zy); · simp only [push_cast, env, Nat.reduceEqDiff, reduceIte, Nat.reduceAdd, Nat.reduceMul, Nat.reduceLeDiff, reduceCtorEq, Nat.reduceSub, Int.reduceToNat, e2] <;> first | exact rfl | exact .inl rfl | exact .inr rfl) | apply zq | apply zb | apply zo | apply zk | apply zl)
      exact ⟨hlt, hk, (by simp only [push_cast, Nat.reduceEqDiff, reduceIte]), rfl, hp, hao, A, gb⟩
  · have e3 := ge_dec hlt
    obtain rfl : i = L2.length := by omega
    rw [List.take_length]
    repeat (first | apply zs | apply zr | apply zn | ((first | apply zx | apply zy); · simp only [push_cast, env, Nat.reduceEqDiff, reduceIte, Nat.reduceAdd, Nat.reduceMul, Nat.reduceLeDiff, reduceCtorEq, Nat.reduceSub, Int.reduceToNat, e3] <;> first | exact rfl | exact .inl rfl | exact .inr rfl) | apply zq | apply zb | apply zo | apply zk | apply zl)
    refine cw_condF rfl ?_
    refine cw_exit ?_
    show CW _ _ _ _
    have dn : decide ((itemSum L2 : Int) = (itemSum L2 : Int)) = true := decide_eq_true rfl
    repeat (first | apply zs | apply zr | apply zn | ((first | apply zx | apply zy); · simp only [push_cast, env, Nat.reduceEqDiff, reduceIte, Nat.reduceAdd, Nat.reduceMul, Nat.reduceLeDiff, reduceCtorEq, Nat.reduceSub, Int.reduceToNat] <;> first | exact rfl | exact .inl rfl | exact .inr rfl) | apply zq | apply zb | apply zo | apply zk | apply zl)
    refine zc (fn := Try.f24) (by simp only [push_cast, env, Nat.reduceEqDiff, reduceIte] <;> exact rfl) Try.func24 (by kernel_rfl) (by kernel_rfl) ?_
    rw [List.append_nil]
    refine (chart_fw (hr.mono hp) (hwR.mono hp) W hGz).mono ?_
    rintro _ h5 ⟨⟨vc, rfl, c1', c2⟩, hp5⟩
    obtain ⟨L3, C3, gc⟩ := c2 hf
    obtain rfl := C3.uniq CL
    repeat (first | apply zs | apply zr | apply zn | ((first | apply zx | apply zy); · simp only [push_cast, env, Nat.reduceEqDiff, reduceIte, Nat.reduceAdd, Nat.reduceMul, Nat.reduceLeDiff, reduceCtorEq, Nat.reduceSub, Int.reduceToNat] <;> first | exact rfl | exact .inl rfl | exact .inr rfl) | apply zq | apply zb | apply zo | apply zk | apply zl)
    refine zc (fn := Try.f14) (by simp only [push_cast, env, Nat.reduceEqDiff, reduceIte] <;> exact rfl) Try.func14 (by kernel_rfl) (by kernel_rfl) ?_
    refine alive7_fw.mono ?_
    rintro _ h ⟨rfl, rfl⟩
    repeat (first | apply zs | apply zr | apply zn | ((first | apply zx | apply zy); · simp only [push_cast, env, Nat.reduceEqDiff, reduceIte, Nat.reduceAdd, Nat.reduceMul, Nat.reduceLeDiff, reduceCtorEq, Nat.reduceSub, Int.reduceToNat, df, dn] <;> first | exact rfl | exact .inl rfl | exact .inr rfl) | apply zq | apply zb | apply zo | apply zk | apply zl)
    refine zc (fn := Try.f26) (by simp only [push_cast, env, Nat.reduceEqDiff, reduceIte, df, dn] <;> exact rfl) Try.func26 (by kernel_rfl) (by kernel_rfl) ?_
    rw [List.append_nil]
    refine (samecharts_fw gc (gb.mono hp5) hsm hsm rfl (by omega)).mono ?_
    rintro _ h6 ⟨rfl, rfl⟩
    repeat (first | apply zs | apply zr | apply zn | ((first | apply zx | apply zy); · simp only [push_cast, env, Nat.reduceEqDiff, reduceIte, Nat.reduceAdd, Nat.reduceMul, Nat.reduceLeDiff, reduceCtorEq, Nat.reduceSub, Int.reduceToNat, df, dn, dL] <;> first | exact rfl | exact .inl rfl | exact .inr rfl) | apply zq | apply zb | apply zo | apply zk | apply zl)
    refine cw_ret ?_
    exact ⟨_, (by simp only [push_cast, env, Nat.reduceEqDiff, reduceIte, df, dn, dL] <;> exact rfl), rfl⟩
end Go.Proofs.Ytafncpgiibikcaa
