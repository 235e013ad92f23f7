/- Several texts, one behind the other; each begins with a remark of its own. -/
import Derived.Test.YtafncpgiibikcaaZG1
import Derived.Test.YtafncpgiibikcaaZFa
namespace Go.Proofs.Ytafncpgiibikcaa
set_option linter.unusedSimpArgs false
set_option linter.unusedVariables false
open Go.RowKit Am Ty

theorem take_forall' {α : Type} {l : List α} {k : Nat} {P : α → Prop} (hk : k < l.length) (h : ∀ x ∈ l.take k, P x) (h2 : P l[k]) : ∀ x ∈ l.take (k + 1), P x := by
  intro x hx
  rw [List.take_succ_eq_append_getElem hk, List.mem_append] at hx
  rcases hx with hx | hx
  · exact h x hx
  · obtain rfl : x = _ := by simpa using hx
    exact h2
end Go.Proofs.Ytafncpgiibikcaa

namespace Go.Proofs.Ytafncpgiibikcaa
set_option linter.unusedSimpArgs false
set_option linter.unusedVariables false
open Go.RowKit Am Ty

def goodR (m : List Bool) (r : Rule) : Bool := r.rhs.all fun s => goodP s m
def trimK (g : Gram) (m : List Bool) (k : Nat) : List Int := ((List.range k).filter fun i => (g.rules[i]?).any (goodR m)).map fun i : Nat => (i : Int)
theorem trimK_yes {g : Gram} {m : List Bool} {k : Nat} (hk : k < g.rules.length) (h : goodR m g.rules[k] = true) : trimK g m (k + 1) = trimK g m k ++ [(k : Int)] := by
  unfold trimK
  rw [List.range_succ, List.filter_append, List.map_append]
  congr 1
  simp [List.getElem?_eq_getElem hk, h]
theorem trimK_no {g : Gram} {m : List Bool} {k : Nat} (hk : k < g.rules.length) (h : goodR m g.rules[k] = false) : trimK g m (k + 1) = trimK g m k := by
  unfold trimK
  rw [List.range_succ, List.filter_append, List.map_append]
  simp [List.getElem?_eq_getElem hk, h]
theorem trimK_len {g : Gram} {m : List Bool} {k : Nat} : (trimK g m k).length ≤ k := by
  unfold trimK
  rw [List.length_map]
  exact Nat.le_trans (List.length_filter_le _ _) (by simp)
abbrev TrimR (g : Gram) (h : Heap) (x : Value) (h' : Heap) : Prop := ∃ m, Marks g.nts (goodD g) m ∧ Grow h h' x (trimK g m g.rules.length).length ((trimK g m g.rules.length).map i64) 3
set_option maxHeartbeats 4000000 in
theorem trim_fw {h : Heap} {g : Gram} {v : Value} (hr : RdGram h v g) : FW env 55 [v] h fun r h' => Told g nilS (TrimR g h) r h' ∧ h <+: h' := by
  obtain ⟨u, rfl, hu⟩ := id hr
  obtain ⟨p, c, rfl⟩ := hu.form
  have hle := hu.le
  refine fw_enter (fn := Try.f55) Try.func55 rfl (by kernel_rfl) (by simp [Try.ntmps55]) ?_; simp only [push_cast]
  repeat (first | apply zs | apply zr | apply zn | ((first | apply zx | apply zy); · simp only [push_cast, env, Nat.reduceEqDiff, reduceIte, Nat.reduceAdd, Nat.reduceMul, Nat.reduceLeDiff, reduceCtorEq, Nat.reduceSub, Int.reduceToNat] <;> first | exact rfl | exact .inl rfl | exact .inr rfl) | apply zq | apply zb | apply zo | apply zk | apply zl)
  refine zc (fn := Try.f63) (by simp only [push_cast, env, Nat.reduceEqDiff, reduceIte] <;> exact rfl) Try.func63 (by kernel_rfl) (by kernel_rfl) ?_
  rw [List.append_nil]
  refine (productive_fw hr).mono ?_
  rintro _ h1 ⟨⟨x, rfl, ⟨hb, rfl⟩ | ⟨hb, m, hm, idm, verm, him, rfl, hgm⟩⟩, hp1⟩
  · have e0 : rightG g = 3 := if_pos hb
    rw [e0]
    repeat (first | apply zs | apply zr | apply zn | ((first | apply zx | apply zy); · simp only [push_cast, env, Nat.reduceEqDiff, reduceIte, Nat.reduceAdd, Nat.reduceMul, Nat.reduceLeDiff, reduceCtorEq, Nat.reduceSub, Int.reduceToNat] <;> first | exact rfl | exact .inl rfl | exact .inr rfl) | apply zq | apply zb | apply zo | apply zk | apply zl)
    refine cw_condT rfl ?_
    repeat (first | apply zs | apply zr | apply zn | ((first | apply zx | apply zy); · simp only [push_cast, env, Nat.reduceEqDiff, reduceIte, Nat.reduceAdd, Nat.reduceMul, Nat.reduceLeDiff, reduceCtorEq, Nat.reduceSub, Int.reduceToNat] <;> first | exact rfl | exact .inl rfl | exact .inr rfl) | apply zq | apply zb | apply zo | apply zk | apply zl)
    refine cw_ret ?_
    exact ⟨_, (by simp only [push_cast, env, Nat.reduceEqDiff, reduceIte] <;> exact rfl), ⟨_, by rw [e0]; rfl, .inl ⟨hb, rfl⟩⟩, hp1⟩
  have e0 : rightG g = 0 := if_neg hb
  have R := rightS hb
  have n1 := R.n1
  have n2 := R.n2
  have hrl := R.rl
  have hml := hm.1
  have hgm0 := hgm
  rw [e0]
  repeat (first | apply zs | apply zr | apply zn | ((first | apply zx | apply zy); · simp only [push_cast, env, Nat.reduceEqDiff, reduceIte, Nat.reduceAdd, Nat.reduceMul, Nat.reduceLeDiff, reduceCtorEq, Nat.reduceSub, Int.reduceToNat] <;> first | exact rfl | exact .inl rfl | exact .inr rfl) | apply zq | apply zb | apply zo | apply zk | apply zl)
  refine cw_condF rfl ?_
  repeat (first | apply zs | apply zr | apply zn | ((first | apply zx | apply zy); · simp only [push_cast, env, Nat.reduceEqDiff, reduceIte, Nat.reduceAdd, Nat.reduceMul, Nat.reduceLeDiff, reduceCtorEq, Nat.reduceSub, Int.reduceToNat] <;> first | exact rfl | exact .inl rfl | exact .inr rfl) | apply zq | apply zb | apply zo | apply zk | apply zl)
  refine cw_forG g.rules.length (fun k (x : Heap × Option Addr × Nat) => [(1, .box [i64 g.nts, i64 g.start, .slice p g.rules.length c]), (4, .val (.slice (some ⟨idm, 0, some verm⟩) m.length m.length)), (6, .val (.slice x.2.1 (trimK g m k).length x.2.2)), (20, .val (.slice p g.rules.length c)), (21, .val (i64 g.rules.length)), (22, .val (i64 k))]) (fun _ x => x.1)
    (fun k x => h1 <+: x.1 ∧ Grow h1 x.1 (.slice x.2.1 (trimK g m k).length x.2.2) (trimK g m k).length ((trimK g m k).map i64) 3) (h1, none, 0) (by simp only [push_cast, Nat.reduceEqDiff, reduceIte, show trimK g m 0 = [] from rfl]) rfl ⟨List.prefix_refl _, Grow.nil⟩ ?_
  rintro k ⟨hk, q, cq⟩ hkn ⟨hp, hG⟩
  simp only at hp hG ⊢
  by_cases hlt : k < g.rules.length
  · obtain ⟨id, ver, own, c', cells, p', n', c2, hv, hid, hn, hrd, hu'⟩ := hu.at hlt
    cases hv
    subst hn
    have e0 := rdH_get0 hrd (by omega)
    have e0' := rdH_get (j := 1) hrd (by omega)
    simp only [List.getElem?_cons_succ, List.getElem?_cons_zero] at e0 e0'
    have e1 := rng hlt
    have e2 := inc hlt hle
    have e3 := lt_dec hlt
    have hmem : g.rules[k] ∈ _ := List.getElem_mem hlt
    have hn2 := RdSyms.le hu'
    obtain ⟨a1, a2, a3, hS⟩ := R.r _ hmem
    have hid2 := getElem?_prefix (hp1.trans hp) hid
    have hgm2 := getElem?_prefix hp hgm
    have htl := trimK_len (g := g) (m := m) (k := k)
    repeat (first | apply zs | apply zr | apply zn | ((first | apply zx | apply zy); · simp only [push_cast, env, Nat.reduceEqDiff, reduceIte, Nat.reduceAdd, Nat.reduceMul, Nat.reduceLeDiff, reduceCtorEq, Nat.reduceSub, Int.reduceToNat, e1, hid2, hrd, e3] <;> first | exact rfl | exact .inl rfl | exact .inr rfl) | apply zq | apply zb | apply zo | apply zk | apply zl)
    refine cw_condT rfl ?_
    repeat (first | apply zs | apply zr | apply zn | ((first | apply zx | apply zy); · simp only [push_cast, env, Nat.reduceEqDiff, reduceIte, Nat.reduceAdd, Nat.reduceMul, Nat.reduceLeDiff, reduceCtorEq, Nat.reduceSub, Int.reduceToNat, e1, hid2, hrd] <;> first | exact rfl | exact .inl rfl | exact .inr rfl) | apply zq | apply zb | apply zo | apply zk | apply zl)
    refine cw_for g.rules[k].rhs.length (fun j => [(1, .box [i64 g.nts, i64 g.start, .slice (some ⟨id, 0, some ver⟩) g.rules.length c]), (4, .val (.slice (some ⟨idm, 0, some verm⟩) m.length m.length)), (6, .val (.slice q (trimK g m k).length cq)), (7, .val (i64 k)), (20, .val (.slice (some ⟨id, 0, some ver⟩) g.rules.length c)), (21, .val (i64 g.rules.length)), (22, .val (i64 k)), (28, .val (.slice p' g.rules[k].rhs.length c2)), (29, .val (i64 g.rules[k].rhs.length)), (30, .val (i64 j))]) (fun _ => hk)
      (fun j => ∀ s ∈ g.rules[k].rhs.take j, goodP s m = true) (by simp only [push_cast, Nat.reduceEqDiff, reduceIte]) rfl (by simp) ?_
    intro j hj hJ
    by_cases hjl : j < g.rules[k].rhs.length
    · obtain ⟨id2, ver2, own2, c3, cells2, hv2, hid2, hrd2⟩ := hu'.at hjl
      cases hv2
      have e9 := rng hjl
      have e10 := inc hjl (by omega)
      have e11 := lt_dec hjl
      have g0 := rdH_get0 hrd2 (by omega)
      simp only [List.getElem?_cons_zero] at g0
      have hmem2 : g.rules[k].rhs[j] ∈ _ := List.getElem_mem hjl
      have hs2 := hS _ hmem2
      have hid4 := getElem?_prefix (hp1.trans hp) hid2
      repeat (first | apply zs | apply zr | apply zn | ((first | apply zx | apply zy); · simp only [push_cast, env, Nat.reduceEqDiff, reduceIte, Nat.reduceAdd, Nat.reduceMul, Nat.reduceLeDiff, reduceCtorEq, Nat.reduceSub, Int.reduceToNat, e9, hid4, hrd2, e11] <;> first | exact rfl | exact .inl rfl | exact .inr rfl) | apply zq | apply zb | apply zo | apply zk | apply zl)
      refine cw_condT rfl ?_
      repeat (first | apply zs | apply zr | apply zn | ((first | apply zx | apply zy); · simp only [push_cast, env, Nat.reduceEqDiff, reduceIte, Nat.reduceAdd, Nat.reduceMul, Nat.reduceLeDiff, reduceCtorEq, Nat.reduceSub, Int.reduceToNat, e9, hid4, hrd2] <;> first | exact rfl | exact .inl rfl | exact .inr rfl) | apply zq | apply zb | apply zo | apply zk | apply zl)
      refine zc (fn := Try.f64) (by simp only [push_cast, env, Nat.reduceEqDiff, reduceIte, e9, hid4, hrd2] <;> exact rfl) Try.func64 (by kernel_rfl) (by kernel_rfl) ?_
      rw [List.append_nil]
      refine (good_fw _ g.rules[k].rhs[j] _ m ⟨by omega, .inr ⟨idm, verm, true, _, rfl, hgm2⟩⟩ (by omega)).mono ?_
      rintro _ hk ⟨rfl, rfl⟩
      repeat (first | apply zs | apply zr | apply zn | ((first | apply zx | apply zy); · simp only [push_cast, env, Nat.reduceEqDiff, reduceIte, Nat.reduceAdd, Nat.reduceMul, Nat.reduceLeDiff, reduceCtorEq, Nat.reduceSub, Int.reduceToNat] <;> first | exact rfl | exact .inl rfl | exact .inr rfl) | apply zq | apply zb | apply zo | apply zk | apply zl)
      refine cw_cond (by simp only [push_cast, env, Nat.reduceEqDiff, reduceIte] <;> exact rfl) (fun b1 => ?_) (fun b1 => ?_)
      · have b1 : goodP g.rules[k].rhs[j] m = false := by simpa using b1
        refine cw_exit ?_
        show CW _ _ _ _
        repeat (first | apply zs | apply zr | apply zn | ((first | apply zx | apply zy); · simp only [push_cast, env, Nat.reduceEqDiff, reduceIte, Nat.reduceAdd, Nat.reduceMul, Nat.reduceLeDiff, reduceCtorEq, Nat.reduceSub, Int.reduceToNat, e2] <;> first | exact rfl | exact .inl rfl | exact .inr rfl) | apply zq | apply zb | apply zo | apply zk | apply zl)
        have e : trimK g m (k + 1) = trimK g m k := trimK_no hlt (List.all_eq_false.2 ⟨_, hmem2, by simp [b1]⟩)
        refine ⟨hlt, (hk, q, cq), (by simp only [push_cast, Nat.reduceEqDiff, reduceIte, e]), rfl, hp, ?_⟩
        rw [e]
        exact hG
      · have b1 : goodP g.rules[k].rhs[j] m = true := by simpa using b1
        repeat (first | apply zs | apply zr | apply zn | ((first | apply zx | apply zy); · simp only [push_cast, env, Nat.reduceEqDiff, reduceIte, Nat.reduceAdd, Nat.reduceMul, Nat.reduceLeDiff, reduceCtorEq, Nat.reduceSub, Int.reduceToNat, e10] <;> first | exact rfl | exact .inl rfl | exact .inr rfl) | apply zq | apply zb | apply zo | apply zk | apply zl)
        exact ⟨hjl, (by simp only [push_cast, Nat.reduceEqDiff, reduceIte]), rfl, take_forall' hjl hJ b1⟩
    · have e11 := ge_dec hjl
      obtain rfl : j = g.rules[k].rhs.length := by omega
      repeat (first | apply zs | apply zr | apply zn | ((first | apply zx | apply zy); · simp only [push_cast, env, Nat.reduceEqDiff, reduceIte, Nat.reduceAdd, Nat.reduceMul, Nat.reduceLeDiff, reduceCtorEq, Nat.reduceSub, Int.reduceToNat, e11] <;> first | exact rfl | exact .inl rfl | exact .inr rfl) | apply zq | apply zb | apply zo | apply zk | apply zl)
      refine cw_condF rfl ?_
      refine cw_exit ?_
      show CW _ _ _ _
      rw [List.take_length] at hJ
      have e : trimK g m (k + 1) = trimK g m k ++ [(k : Int)] := trimK_yes hlt (List.all_eq_true.2 hJ)
      have htl := trimK_len (g := g) (m := m) (k := k)
      repeat (first | apply zs | apply zr | apply zn | ((first | apply zx | apply zy); · simp only [push_cast, env, Nat.reduceEqDiff, reduceIte, Nat.reduceAdd, Nat.reduceMul, Nat.reduceLeDiff, reduceCtorEq, Nat.reduceSub, Int.reduceToNat] <;> first | exact rfl | exact .inl rfl | exact .inr rfl) | apply zq | apply zb | apply zo | apply zk | apply zl)
      refine ow_pushI (l := trimK g m k) (b := k) (h := h1) (by simp only [push_cast, env, Nat.reduceEqDiff, reduceIte] <;> exact rfl) rfl (by simp only [push_cast, env, Nat.reduceEqDiff, reduceIte] <;> exact rfl) (by simp only [push_cast, env, Nat.reduceEqDiff, reduceIte] <;> exact rfl) hG hp (by omega) ?_
      intro p2 c2 h' k1 k2 _ _
      rw [← e] at k1
      repeat (first | apply zs | apply zr | apply zn | ((first | apply zx | apply zy); · simp only [push_cast, env, Nat.reduceEqDiff, reduceIte, Nat.reduceAdd, Nat.reduceMul, Nat.reduceLeDiff, reduceCtorEq, Nat.reduceSub, Int.reduceToNat, e2] <;> first | exact rfl | exact .inl rfl | exact .inr rfl) | apply zq | apply zb | apply zo | apply zk | apply zl)
      refine ⟨hlt, (h', p2, c2), (by simp only [push_cast, Nat.reduceEqDiff, reduceIte, e, List.length_append]), rfl, k2, ?_⟩
      rw [show (trimK g m k).length + 1 = (trimK g m (k + 1)).length by rw [e]; simp] at k1
      exact k1
  · have e3 := ge_dec hlt
    obtain rfl : k = g.rules.length := by omega
    repeat (first | apply zs | apply zr | apply zn | ((first | apply zx | apply zy); · simp only [push_cast, env, Nat.reduceEqDiff, reduceIte, Nat.reduceAdd, Nat.reduceMul, Nat.reduceLeDiff, reduceCtorEq, Nat.reduceSub, Int.reduceToNat, e3] <;> first | exact rfl | exact .inl rfl | exact .inr rfl) | apply zq | apply zb | apply zo | apply zk | apply zl)
    refine cw_condF rfl ?_
    refine cw_exit ?_
    show CW _ _ _ _
    repeat (first | apply zs | apply zr | apply zn | ((first | apply zx | apply zy); · simp only [push_cast, env, Nat.reduceEqDiff, reduceIte, Nat.reduceAdd, Nat.reduceMul, Nat.reduceLeDiff, reduceCtorEq, Nat.reduceSub, Int.reduceToNat] <;> first | exact rfl | exact .inl rfl | exact .inr rfl) | apply zq | apply zb | apply zo | apply zk | apply zl)
    refine cw_ret ?_
    refine ⟨_, (by simp only [push_cast, env, Nat.reduceEqDiff, reduceIte] <;> exact rfl), ⟨_, by rw [e0]; rfl, .inr ⟨hb, m, hm, ?_⟩⟩, hp1.trans hp⟩
    rcases hG with ⟨z1, z2, z3⟩ | ⟨id, ver, z1, z2, z3⟩
    · exact .inl ⟨z1, z2, z3⟩
    · exact .inr ⟨id, ver, Nat.le_trans hp1.length_le z1, z2, z3⟩
end Go.Proofs.Ytafncpgiibikcaa
