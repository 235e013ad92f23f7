/- Several texts, one behind the other; each begins with a remark of its own. -/
import Derived.Test.YtafncpgiibikcaaZE6
import Derived.Sort.LotD2
import Derived.Sort.LotD1
import Derived.Sort.AssemblyPlain
import Derived.Test.YtafncpgiibikcaaZG5
namespace Go.Proofs.Ytafncpgiibikcaa
set_option linter.unusedSimpArgs false
set_option linter.unusedVariables false
set_option maxRecDepth 20000
open Go.RowKit Am Ty

def upP (dc : Array Item) (a : Nat) (x : Item) : Bool := ltI x dc[a]!
def dnP (dc : Array Item) (a : Nat) (x : Item) : Bool := !ltI x dc[a]!
theorem part_step {d : Array Item} {a i j i2 j2 : Nat} (h1 : Go.Sort.scanUp (upP d a) d j i = i2) (h2 : Go.Sort.scanDown (dnP d a) d i2 j = j2) (hij : i ≤ j + 2) : Go.Sort.partLoop ltI a i j d = if i2 > j2 then (j2, d) else Go.Sort.partLoop ltI a (i2 + 1) (j2 - 1) (Go.Sort.swp d i2 j2) := by
  have g1 := Go.Sort.scanUp_ge (upP d a) d j i
  have g2 := Go.Sort.scanDown_le (dnP d a) d i2 j
  rw [h1] at g1
  rw [h2] at g2
  have h1' : Go.Sort.scanUp (fun x => ltI x d[a]!) d j i = i2 := h1
  have h2' : Go.Sort.scanDown (fun x => !ltI x d[a]!) d i2 j = j2 := h2
  rw [Go.Sort.partLoop]
  simp only [h1', h2']
  by_cases h : i2 > j2
  · rw [if_pos h, if_pos h]
  · rw [if_neg h, if_neg h, dif_pos (by omega)]

set_option maxHeartbeats 8000000 in
theorem part_fw {h : Heap} {id ver c a b pv : Nat} {d : Array Item} (D : DA h id ver d) (ha : a ≤ pv) (hpb : pv < b) (hb : b ≤ d.size) :
    FW env 72 [.slice (some ⟨id, 0, some ver⟩) d.size c, i64 a, i64 b, i64 pv, lessV] h fun r h' => ∃ ap : Bool, r = .tuple #[i64 (Go.Sort.partition ltI d a b pv).1, .bool ap] ∧ h' = h.set id (.arr (IC (Go.Sort.partition ltI d a b pv).2.2) ver true 57) ∧ DA h' id ver (Go.Sort.partition ltI d a b pv).2.2 ∧ (Go.Sort.partition ltI d a b pv).2.2.size = d.size := by
  have hn := D.n
  rw [Go.Sort.partition_fst, Go.Sort.partition_arr]
  refine fw_enter (fn := Try.f72) Try.func72 rfl (by kernel_rfl) (by simp [Try.ntmps72]) ?_; simp only [push_cast]
  repeat (first | apply zs | apply zr | apply zn | ((first | apply zx | apply zy); · simp only [push_cast, env, Nat.reduceEqDiff, reduceIte, Nat.reduceAdd, Nat.reduceMul, Nat.reduceLeDiff, reduceCtorEq, Nat.reduceSub, Int.reduceToNat] <;> first | exact rfl | exact .inl rfl | exact .inr rfl) | apply zq | apply zb | apply zo | apply zk | apply zl)
  have hi1 : a < d.size := by omega
  have hj1 : pv < d.size := by omega
  refine cw_weakL [(0, .val (.slice (some ⟨id, 0, some ver⟩) d.size c)), (1, .val (i64 a)), (2, .val (i64 b)), (3, .val (i64 pv)), (4, .val lessV)] (by simp only [push_cast, Nat.reduceEqDiff, reduceIte]) ?_
  show CW _ _ ⟨_, [], h⟩ _
  have hg := D.g
  have g1 := ic_get hi1
  have g0 := ic_get hj1
  have r1 := rng (k := a) (n := d.size) (by omega)
  have r0 := rng (k := pv) (n := d.size) (by omega)
  apply cw_ordA (L := [[], [], [], [], [], [], [4, 5], [4, 5, 6], [], [], [8, 9], [8, 9, 10], [0, 1], [0, 1, 4, 5, 6, 7, 8, 9, 10, 11, 12], [2, 3], [0, 1, 2, 3, 4, 5, 6, 7, 8, 9, 10, 11, 12, 13, 14]]) (act := [13, 15]) (hs := [h.set id (.arr (IC (d.setIfInBounds a d[pv]!)) ver true 57), h.set id (.arr (IC (Go.Sort.swp d a pv)) ver true 57)]) (resL := [_, _, _, _, _, _, _, _, _, _, _, _, _, _, _, _]) (frF := [(0, .val (.slice (some ⟨id, 0, some ver⟩) d.size c)), (1, .val (i64 a)), (2, .val (i64 b)), (4, .val lessV)])
  case hm => exact mixed
  case hc => kernel_rfl
  case ha => rfl
  case hb => rfl
  case hS =>
    repeat (first | exact StepsA.nil _ | (apply StepsA.cons; (· rfl); (· (first | refine ⟨?_, trivial⟩ | refine ⟨?_, ?_, trivial⟩ | refine ⟨?_, ?_, ?_, trivial⟩ | refine ⟨?_, ?_, ?_, ?_, trivial⟩) <;> (apply zz; simp only [push_cast, env, Nat.reduceEqDiff, reduceIte, Nat.reduceAdd, Nat.reduceMul, Nat.reduceLeDiff, reduceCtorEq, Nat.reduceSub, Int.reduceToNat, hg, g1, g0, r1, r0, Nat.mul_one] <;> exact rfl)); (· rfl)))
    apply StepsA.cons
    · rfl
    · refine ⟨?_, trivial⟩
      exact one_sto (r := .sl .unk) rfl (by simp only [push_cast, env, Nat.reduceEqDiff, reduceIte] <;> exact rfl) rfl (by simp only [push_cast, env, Nat.reduceEqDiff, reduceIte] <;> exact rfl) (by simp only [push_cast, env, Nat.reduceEqDiff, reduceIte] <;> exact rfl) hg (by simp only [push_cast, env, Nat.reduceEqDiff, reduceIte] <;> exact rfl) rfl (ic_set (d := d) (i := a) (x := d[pv]!) hi1) rfl rfl
    · rfl
    repeat (first | exact StepsA.nil _ | (apply StepsA.cons; (· rfl); (· (first | refine ⟨?_, trivial⟩ | refine ⟨?_, ?_, trivial⟩ | refine ⟨?_, ?_, ?_, trivial⟩ | refine ⟨?_, ?_, ?_, ?_, trivial⟩) <;> (apply zz; simp only [push_cast, env, Nat.reduceEqDiff, reduceIte, Nat.reduceAdd, Nat.reduceMul, Nat.reduceLeDiff, reduceCtorEq, Nat.reduceSub, Int.reduceToNat, hg, g1, g0, r1, r0, Nat.mul_one] <;> exact rfl)); (· rfl)))
    apply StepsA.cons
    · rfl
    · refine ⟨?_, trivial⟩
      exact one_sto (r := .sl .unk) rfl (by simp only [push_cast, env, Nat.reduceEqDiff, reduceIte] <;> exact rfl) rfl (by simp only [push_cast, env, Nat.reduceEqDiff, reduceIte] <;> exact rfl) (by simp only [push_cast, env, Nat.reduceEqDiff, reduceIte] <;> exact rfl) (get_set_self hg) (by simp only [push_cast, env, Nat.reduceEqDiff, reduceIte] <;> exact rfl) rfl (ic_set (d := d.setIfInBounds a d[pv]!) (i := pv) (x := d[a]!) (by simpa using hj1)) rfl set_set_heap.symm
    · rfl
    exact StepsA.nil _
  case ht => rfl
  case hF => repeat (first | exact trivial | (refine ⟨.inl ⟨by decide, rfl⟩, ?_⟩) | (refine ⟨.inr ⟨rfl, by simp⟩, ?_⟩))
  show CW _ _ _ _
  have e1 : IntKind.i64.wrap ((a : Int) + 1) = ((a + 1 : Nat) : Int) := by rw [wrap64_id (by omega) (by omega)]; omega
  have e2 : IntKind.i64.wrap ((b : Int) - 1) = ((b - 1 : Nat) : Int) := by rw [wrap64_id (by omega) (by omega)]; omega
  obtain ⟨i0, hi0⟩ : ∃ i0, i0 = a + 1 := ⟨_, rfl⟩
  obtain ⟨j0, hj0⟩ : ∃ j0, j0 = b - 1 := ⟨_, rfl⟩
  rw [← hi0] at e1
  rw [← hj0] at e2
  have D0 := D.swp hi1 hj1
  clear hg g1 g0 r1 r0
  repeat (first | apply zs | apply zr | apply zn | ((first | apply zx | apply zy); · simp only [push_cast, env, Nat.reduceEqDiff, reduceIte, Nat.reduceAdd, Nat.reduceMul, Nat.reduceLeDiff, reduceCtorEq, Nat.reduceSub, Int.reduceToNat, e1, e2] <;> first | exact rfl | exact .inl rfl | exact .inr rfl) | apply zq | apply zb | apply zo | apply zk | apply zl)
  refine cw_weakL [(0, .val (.slice (some ⟨id, 0, some ver⟩) d.size c)), (1, .val (i64 a)), (4, .val lessV), (12, .val (i64 i0)), (13, .val (i64 j0))] (by simp only [push_cast, Nat.reduceEqDiff, reduceIte]) ?_
  show CW _ _ ⟨_, [], h.set id (.arr (IC (Go.Sort.swp d a pv)) ver true 57)⟩ _
  have hR : Go.Sort.partLoop ltI a (a + 1) (b - 1) (Go.Sort.swp d a pv) = Go.Sort.partLoop ltI a i0 j0 (Go.Sort.swp d a pv) := by rw [hi0, hj0]
  rw [hR]
  obtain ⟨R, hR'⟩ : ∃ R, Go.Sort.partLoop ltI a i0 j0 (Go.Sort.swp d a pv) = R := ⟨_, rfl⟩
  rw [hR']
  obtain ⟨dc, hdc⟩ : ∃ dc, Go.Sort.swp d a pv = dc := ⟨_, rfl⟩
  obtain ⟨hc, hhc⟩ : ∃ hc, h.set id (.arr (IC dc) ver true 57) = hc := ⟨_, rfl⟩
  rw [hdc] at D0 hR' ⊢
  rw [hhc] at D0 ⊢
  have h3 : dc.size = d.size := by rw [← hdc, swp_size]
  obtain ⟨i, hi⟩ : ∃ i, i0 = i := ⟨_, rfl⟩
  obtain ⟨j, hj⟩ : ∃ j, j0 = j := ⟨_, rfl⟩
  rw [hi] at hR' ⊢ hi0
  rw [hj] at hR' ⊢ hj0
  have h1 : a < i := by omega
  have h2 : i ≤ j + 2 := by omega
  have h2' : j < d.size := by omega
  have haj : a ≤ j := by omega
  have D1 := D0
  have hg := D1.g
  have hac : a < dc.size := by omega
  have ga := ic_get hac
  have ba := D1.b _ hac
  have ra := rng (k := a) (n := d.size) (by omega)
  clear e1 e2 hi hj
  obtain ⟨i2, hi2⟩ : ∃ i2, Go.Sort.scanUp (upP dc a) dc j i = i2 := ⟨_, rfl⟩
  repeat (first | apply zs | apply zr | apply zn | ((first | apply zx | apply zy); · simp only [push_cast, env, Nat.reduceEqDiff, reduceIte, Nat.reduceAdd, Nat.reduceMul, Nat.reduceLeDiff, reduceCtorEq, Nat.reduceSub, Int.reduceToNat] <;> first | exact rfl | exact .inl rfl | exact .inr rfl) | apply zq | apply zb | apply zo | apply zk | apply zl)
  refine CW.mono (Q := fun e s' => e = .exit 0 ∧ s'.h = hc ∧ i ≤ i2 ∧ i2 ≤ j + 2 ∧ SubL [(0, .val (.slice (some ⟨id, 0, some ver⟩) d.size c)), (1, .val (i64 a)), (4, .val lessV), (12, .val (i64 i2)), (13, .val (i64 j))] s'.fr) ?_ ?_
  · refine cw_wh (fun k : Nat => j + 1 - k) (fun k => [(0, .val (.slice (some ⟨id, 0, some ver⟩) d.size c)), (1, .val (i64 a)), (4, .val lessV), (12, .val (i64 k)), (13, .val (i64 j))]) (fun _ => hc)
      (fun k => i ≤ k ∧ k ≤ j + 2 ∧ Go.Sort.scanUp (upP dc a) dc j k = i2) i (by simp only [push_cast, Nat.reduceEqDiff, reduceIte]) rfl ⟨Nat.le_refl _, h2, hi2⟩ ?_
    rintro k ⟨k1, k2, k3⟩
    by_cases hkj : k ≤ j
    · have d4 : decide ((k : Int) ≤ (j : Int)) = true := decide_eq_true (by omega)
      have hk1 : k < dc.size := by omega
      have gk := ic_get hk1
      have bk := D1.b _ hk1
      have rk := rng (k := k) (n := d.size) (by omega)
      have e4 : IntKind.i64.wrap ((k : Int) + 1) = (k : Int) + 1 := wrap64_id (by omega) (by omega)
      cases hl : ltI dc[k]! dc[a]! with
      | true =>
        have d7 : decide (cmpI dc[k]! dc[a]! < 0) = true := hl
        repeat (first | apply zs | apply zr | apply zn | ((first | apply zx | apply zy); · simp only [push_cast, env, Nat.reduceEqDiff, reduceIte, Nat.reduceAdd, Nat.reduceMul, Nat.reduceLeDiff, reduceCtorEq, Nat.reduceSub, Int.reduceToNat] <;> first | exact rfl | exact .inl rfl | exact .inr rfl) | apply zq | apply zb | apply zo | apply zk | apply zl)
        apply cw_ord0 (L := [[], [], [0, 1], [2], [3], [3], [3], [3, 5, 6], [3, 7], [3], [3], [3, 9, 10], [3, 11], [3, 4, 8, 12], [3, 13], [3, 14]]) (resL := [_, _, _, _, _, _, _, _, _, _, _, _, _, _, _, _]) (frF := [(0, .val (.slice (some ⟨id, 0, some ver⟩) d.size c)), (1, .val (i64 a)), (4, .val lessV), (12, .val (i64 k)), (13, .val (i64 j)), (47, .val (.bool true))])
        case hm => exact mixed
        case hc => kernel_rfl
        case hb => rfl
        case hS =>
          repeat (first | exact Steps0.nil _ | (apply Steps0.cons; (· apply zz; simp only [push_cast, env, Nat.reduceEqDiff, reduceIte, Nat.reduceAdd, Nat.reduceMul, Nat.reduceLeDiff, reduceCtorEq, Nat.reduceSub, Int.reduceToNat, d4, hg, ga, gk, ra, rk, Nat.mul_one] <;> exact rfl); (· rfl)))
          apply Steps0.cons
          · exact one_call (fn := Try.f44) (args := [dc[k]!.val, dc[a]!.val]) (cap := []) rfl (by simp only [push_cast, env, Nat.reduceEqDiff, reduceIte, d4] <;> exact rfl) rfl (by simp only [push_cast, env, Nat.reduceEqDiff, reduceIte] <;> exact rfl) (by simp only [push_cast, env, Nat.reduceEqDiff, reduceIte] <;> exact rfl) Try.func44 (by kernel_rfl) (by kernel_rfl) (less7_fw bk ba)
          · rfl
          repeat (first | exact Steps0.nil _ | (apply Steps0.cons; (· apply zz; simp only [push_cast, env, Nat.reduceEqDiff, reduceIte, Nat.reduceAdd, Nat.reduceMul, Nat.reduceLeDiff, reduceCtorEq, Nat.reduceSub, Int.reduceToNat, d7, d4] <;> exact rfl); (· rfl)))
        case ht => rfl
        case hF => repeat (first | exact trivial | (refine ⟨.inl ⟨by decide, rfl⟩, ?_⟩) | (refine ⟨.inr ⟨rfl, by simp⟩, ?_⟩))
        show CW _ _ _ _
        repeat (first | apply zs | apply zr | apply zn | ((first | apply zx | apply zy); · simp only [push_cast, env, Nat.reduceEqDiff, reduceIte, Nat.reduceAdd, Nat.reduceMul, Nat.reduceLeDiff, reduceCtorEq, Nat.reduceSub, Int.reduceToNat] <;> first | exact rfl | exact .inl rfl | exact .inr rfl) | apply zq | apply zb | apply zo | apply zk | apply zl)
        refine cw_condT rfl ?_
        repeat (first | apply zs | apply zr | apply zn | ((first | apply zx | apply zy); · simp only [push_cast, env, Nat.reduceEqDiff, reduceIte, Nat.reduceAdd, Nat.reduceMul, Nat.reduceLeDiff, reduceCtorEq, Nat.reduceSub, Int.reduceToNat, e4] <;> first | exact rfl | exact .inl rfl | exact .inr rfl) | apply zq | apply zb | apply zo | apply zk | apply zl)
        exact ⟨k + 1, by dsimp only; omega, (by simp only [push_cast, Nat.reduceEqDiff, reduceIte]), rfl, by omega, by omega, by rw [← k3]; exact (scanUp_step hkj (by unfold upP; exact hl)).symm⟩
      | false =>
        have d7 : decide (cmpI dc[k]! dc[a]! < 0) = false := hl
        have hst : i2 = k := by rw [← k3]; exact scanUp_stop (by unfold upP; rw [hl]; simp)
        subst hst
        repeat (first | apply zs | apply zr | apply zn | ((first | apply zx | apply zy); · simp only [push_cast, env, Nat.reduceEqDiff, reduceIte, Nat.reduceAdd, Nat.reduceMul, Nat.reduceLeDiff, reduceCtorEq, Nat.reduceSub, Int.reduceToNat] <;> first | exact rfl | exact .inl rfl | exact .inr rfl) | apply zq | apply zb | apply zo | apply zk | apply zl)
        apply cw_ord0 (L := [[], [], [0, 1], [2], [3], [3], [3], [3, 5, 6], [3, 7], [3], [3], [3, 9, 10], [3, 11], [3, 4, 8, 12], [3, 13], [3, 14]]) (resL := [_, _, _, _, _, _, _, _, _, _, _, _, _, _, _, _]) (frF := [(0, .val (.slice (some ⟨id, 0, some ver⟩) d.size c)), (1, .val (i64 a)), (4, .val lessV), (12, .val (i64 i2)), (13, .val (i64 j)), (47, .val (.bool false))])
        case hm => exact mixed
        case hc => kernel_rfl
        case hb => rfl
        case hS =>
          repeat (first | exact Steps0.nil _ | (apply Steps0.cons; (· apply zz; simp only [push_cast, env, Nat.reduceEqDiff, reduceIte, Nat.reduceAdd, Nat.reduceMul, Nat.reduceLeDiff, reduceCtorEq, Nat.reduceSub, Int.reduceToNat, d4, hg, ga, gk, ra, rk, Nat.mul_one] <;> exact rfl); (· rfl)))
          apply Steps0.cons
          · exact one_call (fn := Try.f44) (args := [dc[i2]!.val, dc[a]!.val]) (cap := []) rfl (by simp only [push_cast, env, Nat.reduceEqDiff, reduceIte, d4] <;> exact rfl) rfl (by simp only [push_cast, env, Nat.reduceEqDiff, reduceIte] <;> exact rfl) (by simp only [push_cast, env, Nat.reduceEqDiff, reduceIte] <;> exact rfl) Try.func44 (by kernel_rfl) (by kernel_rfl) (less7_fw bk ba)
          · rfl
          repeat (first | exact Steps0.nil _ | (apply Steps0.cons; (· apply zz; simp only [push_cast, env, Nat.reduceEqDiff, reduceIte, Nat.reduceAdd, Nat.reduceMul, Nat.reduceLeDiff, reduceCtorEq, Nat.reduceSub, Int.reduceToNat, d7, d4] <;> exact rfl); (· rfl)))
        case ht => rfl
        case hF => repeat (first | exact trivial | (refine ⟨.inl ⟨by decide, rfl⟩, ?_⟩) | (refine ⟨.inr ⟨rfl, by simp⟩, ?_⟩))
        show CW _ _ _ _
        repeat (first | apply zs | apply zr | apply zn | ((first | apply zx | apply zy); · simp only [push_cast, env, Nat.reduceEqDiff, reduceIte, Nat.reduceAdd, Nat.reduceMul, Nat.reduceLeDiff, reduceCtorEq, Nat.reduceSub, Int.reduceToNat] <;> first | exact rfl | exact .inl rfl | exact .inr rfl) | apply zq | apply zb | apply zo | apply zk | apply zl)
        refine cw_condF rfl ?_
        refine cw_exit ?_
        exact ⟨rfl, rfl, k1, k2, (by simp only [push_cast, Nat.reduceEqDiff, reduceIte])⟩
    · have d4 : decide ((k : Int) ≤ (j : Int)) = false := decide_eq_false (by omega)
      have hst : i2 = k := by rw [← k3]; exact scanUp_stop (by omega)
      subst hst
      repeat (first | apply zs | apply zr | apply zn | ((first | apply zx | apply zy); · simp only [push_cast, env, Nat.reduceEqDiff, reduceIte, Nat.reduceAdd, Nat.reduceMul, Nat.reduceLeDiff, reduceCtorEq, Nat.reduceSub, Int.reduceToNat] <;> first | exact rfl | exact .inl rfl | exact .inr rfl) | apply zq | apply zb | apply zo | apply zk | apply zl)
      apply cw_ord0 (L := [[], [], [0, 1], [2], [3], [3], [3], [3, 5, 6], [3, 7], [3], [3], [3, 9, 10], [3, 11], [3, 4, 8, 12], [3, 13], [3, 14]]) (resL := [_, _, _, _, _, _, _, _, _, _, _, _, _, _, _, _]) (frF := [(0, .val (.slice (some ⟨id, 0, some ver⟩) d.size c)), (1, .val (i64 a)), (4, .val lessV), (12, .val (i64 i2)), (13, .val (i64 j)), (47, .val (.bool false))])
      case hm => exact mixed
      case hc => kernel_rfl
      case hb => rfl
      case hS => repeat (first | exact Steps0.nil _ | (apply Steps0.cons; (· apply zz; simp only [push_cast, env, Nat.reduceEqDiff, reduceIte, Nat.reduceAdd, Nat.reduceMul, Nat.reduceLeDiff, reduceCtorEq, Nat.reduceSub, Int.reduceToNat, d4] <;> exact rfl); (· rfl)))
      case ht => rfl
      case hF => repeat (first | exact trivial | (refine ⟨.inl ⟨by decide, rfl⟩, ?_⟩) | (refine ⟨.inr ⟨rfl, by simp⟩, ?_⟩))
      show CW _ _ _ _
      repeat (first | apply zs | apply zr | apply zn | ((first | apply zx | apply zy); · simp only [push_cast, env, Nat.reduceEqDiff, reduceIte, Nat.reduceAdd, Nat.reduceMul, Nat.reduceLeDiff, reduceCtorEq, Nat.reduceSub, Int.reduceToNat] <;> first | exact rfl | exact .inl rfl | exact .inr rfl) | apply zq | apply zb | apply zo | apply zk | apply zl)
      refine cw_condF rfl ?_
      refine cw_exit ?_
      exact ⟨rfl, rfl, k1, k2, (by simp only [push_cast, Nat.reduceEqDiff, reduceIte])⟩
  rintro e s' ⟨rfl, hh, hii, hij2, hf⟩
  show CW _ _ _ _
  refine cw_weakL _ hf ?_
  rw [hh]
  clear hf hh
  obtain ⟨j2, hj2⟩ : ∃ j2, Go.Sort.scanDown (dnP dc a) dc i2 j = j2 := ⟨_, rfl⟩
  have hstep := part_step hi2 hj2 h2
  repeat (first | apply zs | apply zr | apply zn | ((first | apply zx | apply zy); · simp only [push_cast, env, Nat.reduceEqDiff, reduceIte, Nat.reduceAdd, Nat.reduceMul, Nat.reduceLeDiff, reduceCtorEq, Nat.reduceSub, Int.reduceToNat] <;> first | exact rfl | exact .inl rfl | exact .inr rfl) | apply zq | apply zb | apply zo | apply zk | apply zl)
  refine CW.mono (Q := fun e s' => e = .exit 2 ∧ s'.h = hc ∧ j2 ≤ j ∧ a ≤ j2 ∧ SubL [(0, .val (.slice (some ⟨id, 0, some ver⟩) d.size c)), (1, .val (i64 a)), (4, .val lessV), (12, .val (i64 i2)), (13, .val (i64 j2))] s'.fr) ?_ ?_
  · refine cw_wh (fun k : Nat => k) (fun k => [(0, .val (.slice (some ⟨id, 0, some ver⟩) d.size c)), (1, .val (i64 a)), (4, .val lessV), (12, .val (i64 i2)), (13, .val (i64 k))]) (fun _ => hc)
      (fun k => k ≤ j ∧ a ≤ k ∧ Go.Sort.scanDown (dnP dc a) dc i2 k = j2) j (by simp only [push_cast, Nat.reduceEqDiff, reduceIte]) rfl ⟨Nat.le_refl _, haj, hj2⟩ ?_
    rintro k ⟨k1, k2, k3⟩
    by_cases hkj : i2 ≤ k
    · have d4 : decide ((i2 : Int) ≤ (k : Int)) = true := decide_eq_true (by omega)
      have hk1 : k < dc.size := by omega
      have gk := ic_get hk1
      have bk := D1.b _ hk1
      have rk := rng (k := k) (n := d.size) (by omega)
      obtain ⟨q, hq⟩ : ∃ q, k = q + 1 := ⟨k - 1, by omega⟩
      have e4 : IntKind.i64.wrap ((k : Int) - 1) = (q : Int) := by rw [wrap64_id (by omega) (by omega)]; omega
      cases hl : ltI dc[k]! dc[a]! with
      | false =>
        have d7 : decide (cmpI dc[k]! dc[a]! < 0) = false := hl
        repeat (first | apply zs | apply zr | apply zn | ((first | apply zx | apply zy); · simp only [push_cast, env, Nat.reduceEqDiff, reduceIte, Nat.reduceAdd, Nat.reduceMul, Nat.reduceLeDiff, reduceCtorEq, Nat.reduceSub, Int.reduceToNat] <;> first | exact rfl | exact .inl rfl | exact .inr rfl) | apply zq | apply zb | apply zo | apply zk | apply zl)
        apply cw_ord0 (L := [[], [], [0, 1], [2], [3], [3], [3], [3, 5, 6], [3, 7], [3], [3], [3, 9, 10], [3, 11], [3, 4, 8, 12], [3, 13], [3, 14], [3, 15]]) (resL := [_, _, _, _, _, _, _, _, _, _, _, _, _, _, _, _, _]) (frF := [(0, .val (.slice (some ⟨id, 0, some ver⟩) d.size c)), (1, .val (i64 a)), (4, .val lessV), (12, .val (i64 i2)), (13, .val (i64 k)), (66, .val (.bool true))])
        case hm => exact mixed
        case hc => kernel_rfl
        case hb => rfl
        case hS =>
          repeat (first | exact Steps0.nil _ | (apply Steps0.cons; (· apply zz; simp only [push_cast, env, Nat.reduceEqDiff, reduceIte, Nat.reduceAdd, Nat.reduceMul, Nat.reduceLeDiff, reduceCtorEq, Nat.reduceSub, Int.reduceToNat, d4, hg, ga, gk, ra, rk, Nat.mul_one] <;> exact rfl); (· rfl)))
          apply Steps0.cons
          · exact one_call (fn := Try.f44) (args := [dc[k]!.val, dc[a]!.val]) (cap := []) rfl (by simp only [push_cast, env, Nat.reduceEqDiff, reduceIte, d4] <;> exact rfl) rfl (by simp only [push_cast, env, Nat.reduceEqDiff, reduceIte] <;> exact rfl) (by simp only [push_cast, env, Nat.reduceEqDiff, reduceIte] <;> exact rfl) Try.func44 (by kernel_rfl) (by kernel_rfl) (less7_fw bk ba)
          · rfl
          repeat (first | exact Steps0.nil _ | (apply Steps0.cons; (· apply zz; simp only [push_cast, env, Nat.reduceEqDiff, reduceIte, Nat.reduceAdd, Nat.reduceMul, Nat.reduceLeDiff, reduceCtorEq, Nat.reduceSub, Int.reduceToNat, d7, d4] <;> exact rfl); (· rfl)))
        case ht => rfl
        case hF => repeat (first | exact trivial | (refine ⟨.inl ⟨by decide, rfl⟩, ?_⟩) | (refine ⟨.inr ⟨rfl, by simp⟩, ?_⟩))
        show CW _ _ _ _
        repeat (first | apply zs | apply zr | apply zn | ((first | apply zx | apply zy); · simp only [push_cast, env, Nat.reduceEqDiff, reduceIte, Nat.reduceAdd, Nat.reduceMul, Nat.reduceLeDiff, reduceCtorEq, Nat.reduceSub, Int.reduceToNat] <;> first | exact rfl | exact .inl rfl | exact .inr rfl) | apply zq | apply zb | apply zo | apply zk | apply zl)
        refine cw_condT rfl ?_
        repeat (first | apply zs | apply zr | apply zn | ((first | apply zx | apply zy); · simp only [push_cast, env, Nat.reduceEqDiff, reduceIte, Nat.reduceAdd, Nat.reduceMul, Nat.reduceLeDiff, reduceCtorEq, Nat.reduceSub, Int.reduceToNat, e4] <;> first | exact rfl | exact .inl rfl | exact .inr rfl) | apply zq | apply zb | apply zo | apply zk | apply zl)
        refine ⟨q, by dsimp only; omega, (by simp only [push_cast, Nat.reduceEqDiff, reduceIte]), rfl, by omega, by omega, ?_⟩
        rw [← k3, hq]
        refine (scanDown_step (by omega) ?_).symm
        rw [← hq]
        unfold dnP
        rw [hl]
        rfl
      | true =>
        have d7 : decide (cmpI dc[k]! dc[a]! < 0) = true := hl
        have hst : j2 = k := by rw [← k3]; exact scanDown_stop (by unfold dnP; rw [hl]; simp)
        subst hst
        repeat (first | apply zs | apply zr | apply zn | ((first | apply zx | apply zy); · simp only [push_cast, env, Nat.reduceEqDiff, reduceIte, Nat.reduceAdd, Nat.reduceMul, Nat.reduceLeDiff, reduceCtorEq, Nat.reduceSub, Int.reduceToNat] <;> first | exact rfl | exact .inl rfl | exact .inr rfl) | apply zq | apply zb | apply zo | apply zk | apply zl)
        apply cw_ord0 (L := [[], [], [0, 1], [2], [3], [3], [3], [3, 5, 6], [3, 7], [3], [3], [3, 9, 10], [3, 11], [3, 4, 8, 12], [3, 13], [3, 14], [3, 15]]) (resL := [_, _, _, _, _, _, _, _, _, _, _, _, _, _, _, _, _]) (frF := [(0, .val (.slice (some ⟨id, 0, some ver⟩) d.size c)), (1, .val (i64 a)), (4, .val lessV), (12, .val (i64 i2)), (13, .val (i64 j2)), (66, .val (.bool false))])
        case hm => exact mixed
        case hc => kernel_rfl
        case hb => rfl
        case hS =>
          repeat (first | exact Steps0.nil _ | (apply Steps0.cons; (· apply zz; simp only [push_cast, env, Nat.reduceEqDiff, reduceIte, Nat.reduceAdd, Nat.reduceMul, Nat.reduceLeDiff, reduceCtorEq, Nat.reduceSub, Int.reduceToNat, d4, hg, ga, gk, ra, rk, Nat.mul_one] <;> exact rfl); (· rfl)))
          apply Steps0.cons
          · exact one_call (fn := Try.f44) (args := [dc[j2]!.val, dc[a]!.val]) (cap := []) rfl (by simp only [push_cast, env, Nat.reduceEqDiff, reduceIte, d4] <;> exact rfl) rfl (by simp only [push_cast, env, Nat.reduceEqDiff, reduceIte] <;> exact rfl) (by simp only [push_cast, env, Nat.reduceEqDiff, reduceIte] <;> exact rfl) Try.func44 (by kernel_rfl) (by kernel_rfl) (less7_fw bk ba)
          · rfl
          repeat (first | exact Steps0.nil _ | (apply Steps0.cons; (· apply zz; simp only [push_cast, env, Nat.reduceEqDiff, reduceIte, Nat.reduceAdd, Nat.reduceMul, Nat.reduceLeDiff, reduceCtorEq, Nat.reduceSub, Int.reduceToNat, d7, d4] <;> exact rfl); (· rfl)))
        case ht => rfl
        case hF => repeat (first | exact trivial | (refine ⟨.inl ⟨by decide, rfl⟩, ?_⟩) | (refine ⟨.inr ⟨rfl, by simp⟩, ?_⟩))
        show CW _ _ _ _
        repeat (first | apply zs | apply zr | apply zn | ((first | apply zx | apply zy); · simp only [push_cast, env, Nat.reduceEqDiff, reduceIte, Nat.reduceAdd, Nat.reduceMul, Nat.reduceLeDiff, reduceCtorEq, Nat.reduceSub, Int.reduceToNat] <;> first | exact rfl | exact .inl rfl | exact .inr rfl) | apply zq | apply zb | apply zo | apply zk | apply zl)
        refine cw_condF rfl ?_
        refine cw_exit ?_
        exact ⟨rfl, rfl, k1, k2, (by simp only [push_cast, Nat.reduceEqDiff, reduceIte])⟩
    · have d4 : decide ((i2 : Int) ≤ (k : Int)) = false := decide_eq_false (by omega)
      have hst : j2 = k := by rw [← k3]; exact scanDown_stop (by omega)
      subst hst
      repeat (first | apply zs | apply zr | apply zn | ((first | apply zx | apply zy); · simp only [push_cast, env, Nat.reduceEqDiff, reduceIte, Nat.reduceAdd, Nat.reduceMul, Nat.reduceLeDiff, reduceCtorEq, Nat.reduceSub, Int.reduceToNat] <;> first | exact rfl | exact .inl rfl | exact .inr rfl) | apply zq | apply zb | apply zo | apply zk | apply zl)
      apply cw_ord0 (L := [[], [], [0, 1], [2], [3], [3], [3], [3, 5, 6], [3, 7], [3], [3], [3, 9, 10], [3, 11], [3, 4, 8, 12], [3, 13], [3, 14], [3, 15]]) (resL := [_, _, _, _, _, _, _, _, _, _, _, _, _, _, _, _, _]) (frF := [(0, .val (.slice (some ⟨id, 0, some ver⟩) d.size c)), (1, .val (i64 a)), (4, .val lessV), (12, .val (i64 i2)), (13, .val (i64 j2)), (66, .val (.bool false))])
      case hm => exact mixed
      case hc => kernel_rfl
      case hb => rfl
      case hS => repeat (first | exact Steps0.nil _ | (apply Steps0.cons; (· apply zz; simp only [push_cast, env, Nat.reduceEqDiff, reduceIte, Nat.reduceAdd, Nat.reduceMul, Nat.reduceLeDiff, reduceCtorEq, Nat.reduceSub, Int.reduceToNat, d4] <;> exact rfl); (· rfl)))
      case ht => rfl
      case hF => repeat (first | exact trivial | (refine ⟨.inl ⟨by decide, rfl⟩, ?_⟩) | (refine ⟨.inr ⟨rfl, by simp⟩, ?_⟩))
      show CW _ _ _ _
      repeat (first | apply zs | apply zr | apply zn | ((first | apply zx | apply zy); · simp only [push_cast, env, Nat.reduceEqDiff, reduceIte, Nat.reduceAdd, Nat.reduceMul, Nat.reduceLeDiff, reduceCtorEq, Nat.reduceSub, Int.reduceToNat] <;> first | exact rfl | exact .inl rfl | exact .inr rfl) | apply zq | apply zb | apply zo | apply zk | apply zl)
      refine cw_condF rfl ?_
      refine cw_exit ?_
      exact ⟨rfl, rfl, k1, k2, (by simp only [push_cast, Nat.reduceEqDiff, reduceIte])⟩
  rintro e s' ⟨rfl, hh, hjj, haj2, hf⟩
  show CW _ _ _ _
  refine cw_weakL _ hf ?_
  rw [hh]
  clear hf hh
  by_cases hgt : j2 < i2
  · have d5 : decide ((j2 : Int) < (i2 : Int)) = true := decide_eq_true (by omega)
    rw [if_pos hgt, hR'] at hstep
    have hy1 : j2 < dc.size := by omega
    have gy := ic_get hy1
    have ry := rng (k := j2) (n := d.size) (by omega)
    repeat (first | apply zs | apply zr | apply zn | ((first | apply zx | apply zy); · simp only [push_cast, env, Nat.reduceEqDiff, reduceIte, Nat.reduceAdd, Nat.reduceMul, Nat.reduceLeDiff, reduceCtorEq, Nat.reduceSub, Int.reduceToNat, d5] <;> first | exact rfl | exact .inl rfl | exact .inr rfl) | apply zq | apply zb | apply zo | apply zk | apply zl)
    refine cw_condT rfl ?_
    repeat (first | apply zs | apply zr | apply zn | ((first | apply zx | apply zy); · simp only [push_cast, env, Nat.reduceEqDiff, reduceIte, Nat.reduceAdd, Nat.reduceMul, Nat.reduceLeDiff, reduceCtorEq, Nat.reduceSub, Int.reduceToNat] <;> first | exact rfl | exact .inl rfl | exact .inr rfl) | apply zq | apply zb | apply zo | apply zk | apply zl)
    refine cw_weakL [(0, .val (.slice (some ⟨id, 0, some ver⟩) d.size c)), (1, .val (i64 a)), (4, .val lessV), (12, .val (i64 i2)), (13, .val (i64 j2))] (by simp only [push_cast, Nat.reduceEqDiff, reduceIte]) ?_
    show CW _ _ ⟨_, [], hc⟩ _
    apply cw_ordA (L := [[], [], [], [], [], [], [4, 5], [4, 5, 6], [], [], [8, 9], [8, 9, 10], [0, 1], [0, 1, 4, 5, 6, 7, 8, 9, 10, 11, 12], [2, 3], [0, 1, 2, 3, 4, 5, 6, 7, 8, 9, 10, 11, 12, 13, 14]]) (act := [13, 15]) (hs := [hc.set id (.arr (IC (dc.setIfInBounds j2 dc[a]!)) ver true 57), hc.set id (.arr (IC (Go.Sort.swp dc j2 a)) ver true 57)]) (resL := [_, _, _, _, _, _, _, _, _, _, _, _, _, _, _, _]) (frF := [(0, .val (.slice (some ⟨id, 0, some ver⟩) d.size c)), (1, .val (i64 a)), (4, .val lessV), (12, .val (i64 i2)), (13, .val (i64 j2))])
    case hm => exact mixed
    case hc => kernel_rfl
    case ha => rfl
    case hb => rfl
    case hS =>
      repeat (first | exact StepsA.nil _ | (apply StepsA.cons; (· rfl); (· (first | refine ⟨?_, trivial⟩ | refine ⟨?_, ?_, trivial⟩ | refine ⟨?_, ?_, ?_, trivial⟩ | refine ⟨?_, ?_, ?_, ?_, trivial⟩) <;> (apply zz; simp only [push_cast, env, Nat.reduceEqDiff, reduceIte, Nat.reduceAdd, Nat.reduceMul, Nat.reduceLeDiff, reduceCtorEq, Nat.reduceSub, Int.reduceToNat, hg, gy, ga, ry, ra, Nat.mul_one] <;> exact rfl)); (· rfl)))
      apply StepsA.cons
      · rfl
      · refine ⟨?_, trivial⟩
        exact one_sto (r := .sl .unk) rfl (by simp only [push_cast, env, Nat.reduceEqDiff, reduceIte] <;> exact rfl) rfl (by simp only [push_cast, env, Nat.reduceEqDiff, reduceIte] <;> exact rfl) (by simp only [push_cast, env, Nat.reduceEqDiff, reduceIte] <;> exact rfl) hg (by simp only [push_cast, env, Nat.reduceEqDiff, reduceIte] <;> exact rfl) rfl (ic_set (d := dc) (i := j2) (x := dc[a]!) hy1) rfl rfl
      · rfl
      repeat (first | exact StepsA.nil _ | (apply StepsA.cons; (· rfl); (· (first | refine ⟨?_, trivial⟩ | refine ⟨?_, ?_, trivial⟩ | refine ⟨?_, ?_, ?_, trivial⟩ | refine ⟨?_, ?_, ?_, ?_, trivial⟩) <;> (apply zz; simp only [push_cast, env, Nat.reduceEqDiff, reduceIte, Nat.reduceAdd, Nat.reduceMul, Nat.reduceLeDiff, reduceCtorEq, Nat.reduceSub, Int.reduceToNat, hg, gy, ga, ry, ra, Nat.mul_one] <;> exact rfl)); (· rfl)))
      apply StepsA.cons
      · rfl
      · refine ⟨?_, trivial⟩
        exact one_sto (r := .sl .unk) rfl (by simp only [push_cast, env, Nat.reduceEqDiff, reduceIte] <;> exact rfl) rfl (by simp only [push_cast, env, Nat.reduceEqDiff, reduceIte] <;> exact rfl) (by simp only [push_cast, env, Nat.reduceEqDiff, reduceIte] <;> exact rfl) (get_set_self hg) (by simp only [push_cast, env, Nat.reduceEqDiff, reduceIte] <;> exact rfl) rfl (ic_set (d := dc.setIfInBounds j2 dc[a]!) (i := a) (x := dc[j2]!) (by simpa using hac)) rfl set_set_heap.symm
      · rfl
      exact StepsA.nil _
    case ht => rfl
    case hF => repeat (first | exact trivial | (refine ⟨.inl ⟨by decide, rfl⟩, ?_⟩) | (refine ⟨.inr ⟨rfl, by simp⟩, ?_⟩))
    show CW _ _ _ _
    repeat (first | apply zs | apply zr | apply zn | ((first | apply zx | apply zy); · simp only [push_cast, env, Nat.reduceEqDiff, reduceIte, Nat.reduceAdd, Nat.reduceMul, Nat.reduceLeDiff, reduceCtorEq, Nat.reduceSub, Int.reduceToNat] <;> first | exact rfl | exact .inl rfl | exact .inr rfl) | apply zq | apply zb | apply zo | apply zk | apply zl)
    refine cw_ret ?_
    refine ⟨_, (by simp only [push_cast, env, Nat.reduceEqDiff, reduceIte] <;> exact rfl), true, by rw [hstep]; rfl, ?_⟩
    simp only [hstep]
    exact ⟨by rw [← hhc, set_set_heap], D1.swp hy1 hac, by rw [swp_size]; exact h3⟩
  have d5 : decide ((j2 : Int) < (i2 : Int)) = false := decide_eq_false (by omega)
  rw [if_neg hgt, hR'] at hstep
  have hx1 : i2 < dc.size := by omega
  have hy1 : j2 < dc.size := by omega
  have gx := ic_get hx1
  have gy := ic_get hy1
  have rx := rng (k := i2) (n := d.size) (by omega)
  have ry := rng (k := j2) (n := d.size) (by omega)
  have e6 : IntKind.i64.wrap ((i2 : Int) + 1) = (i2 : Int) + 1 := wrap64_id (by omega) (by omega)
  obtain ⟨q, hq⟩ : ∃ q, q = j2 - 1 := ⟨_, rfl⟩
  have e7 : IntKind.i64.wrap ((j2 : Int) - 1) = (q : Int) := by rw [wrap64_id (by omega) (by omega)]; omega
  rw [← hq] at hstep
  repeat (first | apply zs | apply zr | apply zn | ((first | apply zx | apply zy); · simp only [push_cast, env, Nat.reduceEqDiff, reduceIte, Nat.reduceAdd, Nat.reduceMul, Nat.reduceLeDiff, reduceCtorEq, Nat.reduceSub, Int.reduceToNat, d5] <;> first | exact rfl | exact .inl rfl | exact .inr rfl) | apply zq | apply zb | apply zo | apply zk | apply zl)
  refine cw_condF rfl ?_
  repeat (first | apply zs | apply zr | apply zn | ((first | apply zx | apply zy); · simp only [push_cast, env, Nat.reduceEqDiff, reduceIte, Nat.reduceAdd, Nat.reduceMul, Nat.reduceLeDiff, reduceCtorEq, Nat.reduceSub, Int.reduceToNat] <;> first | exact rfl | exact .inl rfl | exact .inr rfl) | apply zq | apply zb | apply zo | apply zk | apply zl)
  refine cw_weakL [(0, .val (.slice (some ⟨id, 0, some ver⟩) d.size c)), (1, .val (i64 a)), (4, .val lessV), (12, .val (i64 i2)), (13, .val (i64 j2))] (by simp only [push_cast, Nat.reduceEqDiff, reduceIte]) ?_
  show CW _ _ ⟨_, [], hc⟩ _
  apply cw_ordA (L := [[], [], [], [], [], [], [4, 5], [4, 5, 6], [], [], [8, 9], [8, 9, 10], [0, 1], [0, 1, 4, 5, 6, 7, 8, 9, 10, 11, 12], [2, 3], [0, 1, 2, 3, 4, 5, 6, 7, 8, 9, 10, 11, 12, 13, 14]]) (act := [13, 15]) (hs := [hc.set id (.arr (IC (dc.setIfInBounds i2 dc[j2]!)) ver true 57), hc.set id (.arr (IC (Go.Sort.swp dc i2 j2)) ver true 57)]) (resL := [_, _, _, _, _, _, _, _, _, _, _, _, _, _, _, _]) (frF := [(0, .val (.slice (some ⟨id, 0, some ver⟩) d.size c)), (1, .val (i64 a)), (4, .val lessV), (12, .val (i64 i2)), (13, .val (i64 j2))])
  case hm => exact mixed
  case hc => kernel_rfl
  case ha => rfl
  case hb => rfl
  case hS =>
    repeat (first | exact StepsA.nil _ | (apply StepsA.cons; (· rfl); (· (first | refine ⟨?_, trivial⟩ | refine ⟨?_, ?_, trivial⟩ | refine ⟨?_, ?_, ?_, trivial⟩ | refine ⟨?_, ?_, ?_, ?_, trivial⟩) <;> (apply zz; simp only [push_cast, env, Nat.reduceEqDiff, reduceIte, Nat.reduceAdd, Nat.reduceMul, Nat.reduceLeDiff, reduceCtorEq, Nat.reduceSub, Int.reduceToNat, hg, gx, gy, rx, ry, Nat.mul_one] <;> exact rfl)); (· rfl)))
    apply StepsA.cons
    · rfl
    · refine ⟨?_, trivial⟩
      exact one_sto (r := .sl .unk) rfl (by simp only [push_cast, env, Nat.reduceEqDiff, reduceIte] <;> exact rfl) rfl (by simp only [push_cast, env, Nat.reduceEqDiff, reduceIte] <;> exact rfl) (by simp only [push_cast, env, Nat.reduceEqDiff, reduceIte] <;> exact rfl) hg (by simp only [push_cast, env, Nat.reduceEqDiff, reduceIte] <;> exact rfl) rfl (ic_set (d := dc) (i := i2) (x := dc[j2]!) hx1) rfl rfl
    · rfl
    repeat (first | exact StepsA.nil _ | (apply StepsA.cons; (· rfl); (· (first | refine ⟨?_, trivial⟩ | refine ⟨?_, ?_, trivial⟩ | refine ⟨?_, ?_, ?_, trivial⟩ | refine ⟨?_, ?_, ?_, ?_, trivial⟩) <;> (apply zz; simp only [push_cast, env, Nat.reduceEqDiff, reduceIte, Nat.reduceAdd, Nat.reduceMul, Nat.reduceLeDiff, reduceCtorEq, Nat.reduceSub, Int.reduceToNat, hg, gx, gy, rx, ry, Nat.mul_one] <;> exact rfl)); (· rfl)))
    apply StepsA.cons
    · rfl
    · refine ⟨?_, trivial⟩
      exact one_sto (r := .sl .unk) rfl (by simp only [push_cast, env, Nat.reduceEqDiff, reduceIte] <;> exact rfl) rfl (by simp only [push_cast, env, Nat.reduceEqDiff, reduceIte] <;> exact rfl) (by simp only [push_cast, env, Nat.reduceEqDiff, reduceIte] <;> exact rfl) (get_set_self hg) (by simp only [push_cast, env, Nat.reduceEqDiff, reduceIte] <;> exact rfl) rfl (ic_set (d := dc.setIfInBounds i2 dc[j2]!) (i := j2) (x := dc[i2]!) (by simpa using hy1)) rfl set_set_heap.symm
    · rfl
    exact StepsA.nil _
  case ht => rfl
  case hF => repeat (first | exact trivial | (refine ⟨.inl ⟨by decide, rfl⟩, ?_⟩) | (refine ⟨.inr ⟨rfl, by simp⟩, ?_⟩))
  show CW _ _ _ _
  repeat (first | apply zs | apply zr | apply zn | ((first | apply zx | apply zy); · simp only [push_cast, env, Nat.reduceEqDiff, reduceIte, Nat.reduceAdd, Nat.reduceMul, Nat.reduceLeDiff, reduceCtorEq, Nat.reduceSub, Int.reduceToNat, e6, e7] <;> first | exact rfl | exact .inl rfl | exact .inr rfl) | apply zq | apply zb | apply zo | apply zk | apply zl)
  refine cw_wh (fun x : Nat × Nat × Array Item × Heap => x.2.1 + 3 - x.1) (fun x => [(0, .val (.slice (some ⟨id, 0, some ver⟩) d.size c)), (1, .val (i64 a)), (4, .val lessV), (12, .val (i64 x.1)), (13, .val (i64 x.2.1))]) (fun x => x.2.2.2)
    (fun x => a < x.1 ∧ x.1 ≤ x.2.1 + 2 ∧ x.2.1 < d.size ∧ a ≤ x.2.1 ∧ x.2.2.1.size = d.size ∧ x.2.2.2 = h.set id (.arr (IC x.2.2.1) ver true 57) ∧ DA x.2.2.2 id ver x.2.2.1 ∧ Go.Sort.partLoop ltI a x.1 x.2.1 x.2.2.1 = R) (i2 + 1, q, Go.Sort.swp dc i2 j2, _) (by simp only [push_cast, Nat.reduceEqDiff, reduceIte]) rfl ⟨by simp only; omega, by simp only; omega, by simp only; omega, by simp only; omega, by simp only; rw [swp_size]; exact h3, by simp only; rw [← hhc, set_set_heap], D1.swp hx1 hy1, hstep.symm⟩ ?_
  clear hg ga gx gy D1 D0 ba h1 h2 h2' haj h3 ra hac hstep hi2 hj2 hR' hhc hdc hi0 hj0 hR hi1 hj1 e6 e7 d5 rx ry hx1 hy1 hgt hii hij2 hjj haj2 hq
  clear i2 j2 i j dc hc i0 j0 q
  rintro ⟨i, j, dc, hc⟩ ⟨h1, h2, h2', haj, h3, h4, D1, h5⟩
  simp only at h1 h2 h2' haj h3 h4 D1 h5 ⊢
  have hg := D1.g
  have hac : a < dc.size := by omega
  have ga := ic_get hac
  have ba := D1.b _ hac
  have ra := rng (k := a) (n := d.size) (by omega)
  obtain ⟨i2, hi2⟩ : ∃ i2, Go.Sort.scanUp (upP dc a) dc j i = i2 := ⟨_, rfl⟩
  repeat (first | apply zs | apply zr | apply zn | ((first | apply zx | apply zy); · simp only [push_cast, env, Nat.reduceEqDiff, reduceIte, Nat.reduceAdd, Nat.reduceMul, Nat.reduceLeDiff, reduceCtorEq, Nat.reduceSub, Int.reduceToNat] <;> first | exact rfl | exact .inl rfl | exact .inr rfl) | apply zq | apply zb | apply zo | apply zk | apply zl)
  refine CW.mono (Q := fun e s' => e = .exit 6 ∧ s'.h = hc ∧ i ≤ i2 ∧ i2 ≤ j + 2 ∧ SubL [(0, .val (.slice (some ⟨id, 0, some ver⟩) d.size c)), (1, .val (i64 a)), (4, .val lessV), (12, .val (i64 i2)), (13, .val (i64 j))] s'.fr) ?_ ?_
  · refine cw_wh (fun k : Nat => j + 1 - k) (fun k => [(0, .val (.slice (some ⟨id, 0, some ver⟩) d.size c)), (1, .val (i64 a)), (4, .val lessV), (12, .val (i64 k)), (13, .val (i64 j))]) (fun _ => hc)
      (fun k => i ≤ k ∧ k ≤ j + 2 ∧ Go.Sort.scanUp (upP dc a) dc j k = i2) i (by simp only [push_cast, Nat.reduceEqDiff, reduceIte]) rfl ⟨Nat.le_refl _, h2, hi2⟩ ?_
    rintro k ⟨k1, k2, k3⟩
    by_cases hkj : k ≤ j
    · have d4 : decide ((k : Int) ≤ (j : Int)) = true := decide_eq_true (by omega)
      have hk1 : k < dc.size := by omega
      have gk := ic_get hk1
      have bk := D1.b _ hk1
      have rk := rng (k := k) (n := d.size) (by omega)
      have e4 : IntKind.i64.wrap ((k : Int) + 1) = (k : Int) + 1 := wrap64_id (by omega) (by omega)
      cases hl : ltI dc[k]! dc[a]! with
      | true =>
        have d7 : decide (cmpI dc[k]! dc[a]! < 0) = true := hl
        repeat (first | apply zs | apply zr | apply zn | ((first | apply zx | apply zy); · simp only [push_cast, env, Nat.reduceEqDiff, reduceIte, Nat.reduceAdd, Nat.reduceMul, Nat.reduceLeDiff, reduceCtorEq, Nat.reduceSub, Int.reduceToNat] <;> first | exact rfl | exact .inl rfl | exact .inr rfl) | apply zq | apply zb | apply zo | apply zk | apply zl)
        apply cw_ord0 (L := [[], [], [0, 1], [2], [3], [3], [3], [3, 5, 6], [3, 7], [3], [3], [3, 9, 10], [3, 11], [3, 4, 8, 12], [3, 13], [3, 14]]) (resL := [_, _, _, _, _, _, _, _, _, _, _, _, _, _, _, _]) (frF := [(0, .val (.slice (some ⟨id, 0, some ver⟩) d.size c)), (1, .val (i64 a)), (4, .val lessV), (12, .val (i64 k)), (13, .val (i64 j)), (120, .val (.bool true))])
        case hm => exact mixed
        case hc => kernel_rfl
        case hb => rfl
        case hS =>
          repeat (first | exact Steps0.nil _ | (apply Steps0.cons; (· apply zz; simp only [push_cast, env, Nat.reduceEqDiff, reduceIte, Nat.reduceAdd, Nat.reduceMul, Nat.reduceLeDiff, reduceCtorEq, Nat.reduceSub, Int.reduceToNat, d4, hg, ga, gk, ra, rk, Nat.mul_one] <;> exact rfl); (· rfl)))
          apply Steps0.cons
          · exact one_call (fn := Try.f44) (args := [dc[k]!.val, dc[a]!.val]) (cap := []) rfl (by simp only [push_cast, env, Nat.reduceEqDiff, reduceIte, d4] <;> exact rfl) rfl (by simp only [push_cast, env, Nat.reduceEqDiff, reduceIte] <;> exact rfl) (by simp only [push_cast, env, Nat.reduceEqDiff, reduceIte] <;> exact rfl) Try.func44 (by kernel_rfl) (by kernel_rfl) (less7_fw bk ba)
          · rfl
          repeat (first | exact Steps0.nil _ | (apply Steps0.cons; (· apply zz; simp only [push_cast, env, Nat.reduceEqDiff, reduceIte, Nat.reduceAdd, Nat.reduceMul, Nat.reduceLeDiff, reduceCtorEq, Nat.reduceSub, Int.reduceToNat, d7, d4] <;> exact rfl); (· rfl)))
        case ht => rfl
        case hF => repeat (first | exact trivial | (refine ⟨.inl ⟨by decide, rfl⟩, ?_⟩) | (refine ⟨.inr ⟨rfl, by simp⟩, ?_⟩))
        show CW _ _ _ _
        repeat (first | apply zs | apply zr | apply zn | ((first | apply zx | apply zy); · simp only [push_cast, env, Nat.reduceEqDiff, reduceIte, Nat.reduceAdd, Nat.reduceMul, Nat.reduceLeDiff, reduceCtorEq, Nat.reduceSub, Int.reduceToNat] <;> first | exact rfl | exact .inl rfl | exact .inr rfl) | apply zq | apply zb | apply zo | apply zk | apply zl)
        refine cw_condT rfl ?_
        repeat (first | apply zs | apply zr | apply zn | ((first | apply zx | apply zy); · simp only [push_cast, env, Nat.reduceEqDiff, reduceIte, Nat.reduceAdd, Nat.reduceMul, Nat.reduceLeDiff, reduceCtorEq, Nat.reduceSub, Int.reduceToNat, e4] <;> first | exact rfl | exact .inl rfl | exact .inr rfl) | apply zq | apply zb | apply zo | apply zk | apply zl)
        exact ⟨k + 1, by dsimp only; omega, (by simp only [push_cast, Nat.reduceEqDiff, reduceIte]), rfl, by omega, by omega, by rw [← k3]; exact (scanUp_step hkj (by unfold upP; exact hl)).symm⟩
      | false =>
        have d7 : decide (cmpI dc[k]! dc[a]! < 0) = false := hl
        have hst : i2 = k := by rw [← k3]; exact scanUp_stop (by unfold upP; rw [hl]; simp)
        subst hst
        repeat (first | apply zs | apply zr | apply zn | ((first | apply zx | apply zy); · simp only [push_cast, env, Nat.reduceEqDiff, reduceIte, Nat.reduceAdd, Nat.reduceMul, Nat.reduceLeDiff, reduceCtorEq, Nat.reduceSub, Int.reduceToNat] <;> first | exact rfl | exact .inl rfl | exact .inr rfl) | apply zq | apply zb | apply zo | apply zk | apply zl)
        apply cw_ord0 (L := [[], [], [0, 1], [2], [3], [3], [3], [3, 5, 6], [3, 7], [3], [3], [3, 9, 10], [3, 11], [3, 4, 8, 12], [3, 13], [3, 14]]) (resL := [_, _, _, _, _, _, _, _, _, _, _, _, _, _, _, _]) (frF := [(0, .val (.slice (some ⟨id, 0, some ver⟩) d.size c)), (1, .val (i64 a)), (4, .val lessV), (12, .val (i64 i2)), (13, .val (i64 j)), (120, .val (.bool false))])
        case hm => exact mixed
        case hc => kernel_rfl
        case hb => rfl
        case hS =>
          repeat (first | exact Steps0.nil _ | (apply Steps0.cons; (· apply zz; simp only [push_cast, env, Nat.reduceEqDiff, reduceIte, Nat.reduceAdd, Nat.reduceMul, Nat.reduceLeDiff, reduceCtorEq, Nat.reduceSub, Int.reduceToNat, d4, hg, ga, gk, ra, rk, Nat.mul_one] <;> exact rfl); (· rfl)))
          apply Steps0.cons
          · exact one_call (fn := Try.f44) (args := [dc[i2]!.val, dc[a]!.val]) (cap := []) rfl (by simp only [push_cast, env, Nat.reduceEqDiff, reduceIte, d4] <;> exact rfl) rfl (by simp only [push_cast, env, Nat.reduceEqDiff, reduceIte] <;> exact rfl) (by simp only [push_cast, env, Nat.reduceEqDiff, reduceIte] <;> exact rfl) Try.func44 (by kernel_rfl) (by kernel_rfl) (less7_fw bk ba)
          · rfl
          repeat (first | exact Steps0.nil _ | (apply Steps0.cons; (· apply zz; simp only [push_cast, env, Nat.reduceEqDiff, reduceIte, Nat.reduceAdd, Nat.reduceMul, Nat.reduceLeDiff, reduceCtorEq, Nat.reduceSub, Int.reduceToNat, d7, d4] <;> exact rfl); (· rfl)))
        case ht => rfl
        case hF => repeat (first | exact trivial | (refine ⟨.inl ⟨by decide, rfl⟩, ?_⟩) | (refine ⟨.inr ⟨rfl, by simp⟩, ?_⟩))
        show CW _ _ _ _
        repeat (first | apply zs | apply zr | apply zn | ((first | apply zx | apply zy); · simp only [push_cast, env, Nat.reduceEqDiff, reduceIte, Nat.reduceAdd, Nat.reduceMul, Nat.reduceLeDiff, reduceCtorEq, Nat.reduceSub, Int.reduceToNat] <;> first | exact rfl | exact .inl rfl | exact .inr rfl) | apply zq | apply zb | apply zo | apply zk | apply zl)
        refine cw_condF rfl ?_
        refine cw_exit ?_
        exact ⟨rfl, rfl, k1, k2, (by simp only [push_cast, Nat.reduceEqDiff, reduceIte])⟩
    · have d4 : decide ((k : Int) ≤ (j : Int)) = false := decide_eq_false (by omega)
      have hst : i2 = k := by rw [← k3]; exact scanUp_stop (by omega)
      subst hst
      repeat (first | apply zs | apply zr | apply zn | ((first | apply zx | apply zy); · simp only [push_cast, env, Nat.reduceEqDiff, reduceIte, Nat.reduceAdd, Nat.reduceMul, Nat.reduceLeDiff, reduceCtorEq, Nat.reduceSub, Int.reduceToNat] <;> first | exact rfl | exact .inl rfl | exact .inr rfl) | apply zq | apply zb | apply zo | apply zk | apply zl)
      apply cw_ord0 (L := [[], [], [0, 1], [2], [3], [3], [3], [3, 5, 6], [3, 7], [3], [3], [3, 9, 10], [3, 11], [3, 4, 8, 12], [3, 13], [3, 14]]) (resL := [_, _, _, _, _, _, _, _, _, _, _, _, _, _, _, _]) (frF := [(0, .val (.slice (some ⟨id, 0, some ver⟩) d.size c)), (1, .val (i64 a)), (4, .val lessV), (12, .val (i64 i2)), (13, .val (i64 j)), (120, .val (.bool false))])
      case hm => exact mixed
      case hc => kernel_rfl
      case hb => rfl
      case hS => repeat (first | exact Steps0.nil _ | (apply Steps0.cons; (· apply zz; simp only [push_cast, env, Nat.reduceEqDiff, reduceIte, Nat.reduceAdd, Nat.reduceMul, Nat.reduceLeDiff, reduceCtorEq, Nat.reduceSub, Int.reduceToNat, d4] <;> exact rfl); (· rfl)))
      case ht => rfl
      case hF => repeat (first | exact trivial | (refine ⟨.inl ⟨by decide, rfl⟩, ?_⟩) | (refine ⟨.inr ⟨rfl, by simp⟩, ?_⟩))
      show CW _ _ _ _
      repeat (first | apply zs | apply zr | apply zn | ((first | apply zx | apply zy); · simp only [push_cast, env, Nat.reduceEqDiff, reduceIte, Nat.reduceAdd, Nat.reduceMul, Nat.reduceLeDiff, reduceCtorEq, Nat.reduceSub, Int.reduceToNat] <;> first | exact rfl | exact .inl rfl | exact .inr rfl) | apply zq | apply zb | apply zo | apply zk | apply zl)
      refine cw_condF rfl ?_
      refine cw_exit ?_
      exact ⟨rfl, rfl, k1, k2, (by simp only [push_cast, Nat.reduceEqDiff, reduceIte])⟩
  rintro e s' ⟨rfl, hh, hii, hij2, hf⟩
  show CW _ _ _ _
  refine cw_weakL _ hf ?_
  rw [hh]
  clear hf hh
  obtain ⟨j2, hj2⟩ : ∃ j2, Go.Sort.scanDown (dnP dc a) dc i2 j = j2 := ⟨_, rfl⟩
  have hstep := part_step hi2 hj2 h2
  repeat (first | apply zs | apply zr | apply zn | ((first | apply zx | apply zy); · simp only [push_cast, env, Nat.reduceEqDiff, reduceIte, Nat.reduceAdd, Nat.reduceMul, Nat.reduceLeDiff, reduceCtorEq, Nat.reduceSub, Int.reduceToNat] <;> first | exact rfl | exact .inl rfl | exact .inr rfl) | apply zq | apply zb | apply zo | apply zk | apply zl)
  refine CW.mono (Q := fun e s' => e = .exit 8 ∧ s'.h = hc ∧ j2 ≤ j ∧ a ≤ j2 ∧ SubL [(0, .val (.slice (some ⟨id, 0, some ver⟩) d.size c)), (1, .val (i64 a)), (4, .val lessV), (12, .val (i64 i2)), (13, .val (i64 j2))] s'.fr) ?_ ?_
  · refine cw_wh (fun k : Nat => k) (fun k => [(0, .val (.slice (some ⟨id, 0, some ver⟩) d.size c)), (1, .val (i64 a)), (4, .val lessV), (12, .val (i64 i2)), (13, .val (i64 k))]) (fun _ => hc)
      (fun k => k ≤ j ∧ a ≤ k ∧ Go.Sort.scanDown (dnP dc a) dc i2 k = j2) j (by simp only [push_cast, Nat.reduceEqDiff, reduceIte]) rfl ⟨Nat.le_refl _, haj, hj2⟩ ?_
    rintro k ⟨k1, k2, k3⟩
    by_cases hkj : i2 ≤ k
    · have d4 : decide ((i2 : Int) ≤ (k : Int)) = true := decide_eq_true (by omega)
      have hk1 : k < dc.size := by omega
      have gk := ic_get hk1
      have bk := D1.b _ hk1
      have rk := rng (k := k) (n := d.size) (by omega)
      obtain ⟨q, hq⟩ : ∃ q, k = q + 1 := ⟨k - 1, by omega⟩
      have e4 : IntKind.i64.wrap ((k : Int) - 1) = (q : Int) := by rw [wrap64_id (by omega) (by omega)]; omega
      cases hl : ltI dc[k]! dc[a]! with
      | false =>
        have d7 : decide (cmpI dc[k]! dc[a]! < 0) = false := hl
        repeat (first | apply zs | apply zr | apply zn | ((first | apply zx | apply zy); · simp only [push_cast, env, Nat.reduceEqDiff, reduceIte, Nat.reduceAdd, Nat.reduceMul, Nat.reduceLeDiff, reduceCtorEq, Nat.reduceSub, Int.reduceToNat] <;> first | exact rfl | exact .inl rfl | exact .inr rfl) | apply zq | apply zb | apply zo | apply zk | apply zl)
        apply cw_ord0 (L := [[], [], [0, 1], [2], [3], [3], [3], [3, 5, 6], [3, 7], [3], [3], [3, 9, 10], [3, 11], [3, 4, 8, 12], [3, 13], [3, 14], [3, 15]]) (resL := [_, _, _, _, _, _, _, _, _, _, _, _, _, _, _, _, _]) (frF := [(0, .val (.slice (some ⟨id, 0, some ver⟩) d.size c)), (1, .val (i64 a)), (4, .val lessV), (12, .val (i64 i2)), (13, .val (i64 k)), (139, .val (.bool true))])
        case hm => exact mixed
        case hc => kernel_rfl
        case hb => rfl
        case hS =>
          repeat (first | exact Steps0.nil _ | (apply Steps0.cons; (· apply zz; simp only [push_cast, env, Nat.reduceEqDiff, reduceIte, Nat.reduceAdd, Nat.reduceMul, Nat.reduceLeDiff, reduceCtorEq, Nat.reduceSub, Int.reduceToNat, d4, hg, ga, gk, ra, rk, Nat.mul_one] <;> exact rfl); (· rfl)))
          apply Steps0.cons
          · exact one_call (fn := Try.f44) (args := [dc[k]!.val, dc[a]!.val]) (cap := []) rfl (by simp only [push_cast, env, Nat.reduceEqDiff, reduceIte, d4] <;> exact rfl) rfl (by simp only [push_cast, env, Nat.reduceEqDiff, reduceIte] <;> exact rfl) (by simp only [push_cast, env, Nat.reduceEqDiff, reduceIte] <;> exact rfl) Try.func44 (by kernel_rfl) (by kernel_rfl) (less7_fw bk ba)
          · rfl
          repeat (first | exact Steps0.nil _ | (apply Steps0.cons; (· apply zz; simp only [push_cast, env, Nat.reduceEqDiff, reduceIte, Nat.reduceAdd, Nat.reduceMul, Nat.reduceLeDiff, reduceCtorEq, Nat.reduceSub, Int.reduceToNat, d7, d4] <;> exact rfl); (· rfl)))
        case ht => rfl
        case hF => repeat (first | exact trivial | (refine ⟨.inl ⟨by decide, rfl⟩, ?_⟩) | (refine ⟨.inr ⟨rfl, by simp⟩, ?_⟩))
        show CW _ _ _ _
        repeat (first | apply zs | apply zr | apply zn | ((first | apply zx | apply zy); · simp only [push_cast, env, Nat.reduceEqDiff, reduceIte, Nat.reduceAdd, Nat.reduceMul, Nat.reduceLeDiff, reduceCtorEq, Nat.reduceSub, Int.reduceToNat] <;> first | exact rfl | exact .inl rfl | exact .inr rfl) | apply zq | apply zb | apply zo | apply zk | apply zl)
        refine cw_condT rfl ?_
        repeat (first | apply zs | apply zr | apply zn | ((first | apply zx | apply zy); · simp only [push_cast, env, Nat.reduceEqDiff, reduceIte, Nat.reduceAdd, Nat.reduceMul, Nat.reduceLeDiff, reduceCtorEq, Nat.reduceSub, Int.reduceToNat, e4] <;> first | exact rfl | exact .inl rfl | exact .inr rfl) | apply zq | apply zb | apply zo | apply zk | apply zl)
        refine ⟨q, by dsimp only; omega, (by simp only [push_cast, Nat.reduceEqDiff, reduceIte]), rfl, by omega, by omega, ?_⟩
        rw [← k3, hq]
        refine (scanDown_step (by omega) ?_).symm
        rw [← hq]
        unfold dnP
        rw [hl]
        rfl
      | true =>
        have d7 : decide (cmpI dc[k]! dc[a]! < 0) = true := hl
        have hst : j2 = k := by rw [← k3]; exact scanDown_stop (by unfold dnP; rw [hl]; simp)
        subst hst
        repeat (first | apply zs | apply zr | apply zn | ((first | apply zx | apply zy); · simp only [push_cast, env, Nat.reduceEqDiff, reduceIte, Nat.reduceAdd, Nat.reduceMul, Nat.reduceLeDiff, reduceCtorEq, Nat.reduceSub, Int.reduceToNat] <;> first | exact rfl | exact .inl rfl | exact .inr rfl) | apply zq | apply zb | apply zo | apply zk | apply zl)
        apply cw_ord0 (L := [[], [], [0, 1], [2], [3], [3], [3], [3, 5, 6], [3, 7], [3], [3], [3, 9, 10], [3, 11], [3, 4, 8, 12], [3, 13], [3, 14], [3, 15]]) (resL := [_, _, _, _, _, _, _, _, _, _, _, _, _, _, _, _, _]) (frF := [(0, .val (.slice (some ⟨id, 0, some ver⟩) d.size c)), (1, .val (i64 a)), (4, .val lessV), (12, .val (i64 i2)), (13, .val (i64 j2)), (139, .val (.bool false))])
        case hm => exact mixed
        case hc => kernel_rfl
        case hb => rfl
        case hS =>
          repeat (first | exact Steps0.nil _ | (apply Steps0.cons; (· apply zz; simp only [push_cast, env, Nat.reduceEqDiff, reduceIte, Nat.reduceAdd, Nat.reduceMul, Nat.reduceLeDiff, reduceCtorEq, Nat.reduceSub, Int.reduceToNat, d4, hg, ga, gk, ra, rk, Nat.mul_one] <;> exact rfl); (· rfl)))
          apply Steps0.cons
          · exact one_call (fn := Try.f44) (args := [dc[j2]!.val, dc[a]!.val]) (cap := []) rfl (by simp only [push_cast, env, Nat.reduceEqDiff, reduceIte, d4] <;> exact rfl) rfl (by simp only [push_cast, env, Nat.reduceEqDiff, reduceIte] <;> exact rfl) (by simp only [push_cast, env, Nat.reduceEqDiff, reduceIte] <;> exact rfl) Try.func44 (by kernel_rfl) (by kernel_rfl) (less7_fw bk ba)
          · rfl
          repeat (first | exact Steps0.nil _ | (apply Steps0.cons; (· apply zz; simp only [push_cast, env, Nat.reduceEqDiff, reduceIte, Nat.reduceAdd, Nat.reduceMul, Nat.reduceLeDiff, reduceCtorEq, Nat.reduceSub, Int.reduceToNat, d7, d4] <;> exact rfl); (· rfl)))
        case ht => rfl
        case hF => repeat (first | exact trivial | (refine ⟨.inl ⟨by decide, rfl⟩, ?_⟩) | (refine ⟨.inr ⟨rfl, by simp⟩, ?_⟩))
        show CW _ _ _ _
        repeat (first | apply zs | apply zr | apply zn | ((first | apply zx | apply zy); · simp only [push_cast, env, Nat.reduceEqDiff, reduceIte, Nat.reduceAdd, Nat.reduceMul, Nat.reduceLeDiff, reduceCtorEq, Nat.reduceSub, Int.reduceToNat] <;> first | exact rfl | exact .inl rfl | exact .inr rfl) | apply zq | apply zb | apply zo | apply zk | apply zl)
        refine cw_condF rfl ?_
        refine cw_exit ?_
        exact ⟨rfl, rfl, k1, k2, (by simp only [push_cast, Nat.reduceEqDiff, reduceIte])⟩
    · have d4 : decide ((i2 : Int) ≤ (k : Int)) = false := decide_eq_false (by omega)
      have hst : j2 = k := by rw [← k3]; exact scanDown_stop (by omega)
      subst hst
      repeat (first | apply zs | apply zr | apply zn | ((first | apply zx | apply zy); · simp only [push_cast, env, Nat.reduceEqDiff, reduceIte, Nat.reduceAdd, Nat.reduceMul, Nat.reduceLeDiff, reduceCtorEq, Nat.reduceSub, Int.reduceToNat] <;> first | exact rfl | exact .inl rfl | exact .inr rfl) | apply zq | apply zb | apply zo | apply zk | apply zl)
      apply cw_ord0 (L := [[], [], [0, 1], [2], [3], [3], [3], [3, 5, 6], [3, 7], [3], [3], [3, 9, 10], [3, 11], [3, 4, 8, 12], [3, 13], [3, 14], [3, 15]]) (resL := [_, _, _, _, _, _, _, _, _, _, _, _, _, _, _, _, _]) (frF := [(0, .val (.slice (some ⟨id, 0, some ver⟩) d.size c)), (1, .val (i64 a)), (4, .val lessV), (12, .val (i64 i2)), (13, .val (i64 j2)), (139, .val (.bool false))])
      case hm => exact mixed
      case hc => kernel_rfl
      case hb => rfl
      case hS => repeat (first | exact Steps0.nil _ | (apply Steps0.cons; (· apply zz; simp only [push_cast, env, Nat.reduceEqDiff, reduceIte, Nat.reduceAdd, Nat.reduceMul, Nat.reduceLeDiff, reduceCtorEq, Nat.reduceSub, Int.reduceToNat, d4] <;> exact rfl); (· rfl)))
      case ht => rfl
      case hF => repeat (first | exact trivial | (refine ⟨.inl ⟨by decide, rfl⟩, ?_⟩) | (refine ⟨.inr ⟨rfl, by simp⟩, ?_⟩))
      show CW _ _ _ _
      repeat (first | apply zs | apply zr | apply zn | ((first | apply zx | apply zy); · simp only [push_cast, env, Nat.reduceEqDiff, reduceIte, Nat.reduceAdd, Nat.reduceMul, Nat.reduceLeDiff, reduceCtorEq, Nat.reduceSub, Int.reduceToNat] <;> first | exact rfl | exact .inl rfl | exact .inr rfl) | apply zq | apply zb | apply zo | apply zk | apply zl)
      refine cw_condF rfl ?_
      refine cw_exit ?_
      exact ⟨rfl, rfl, k1, k2, (by simp only [push_cast, Nat.reduceEqDiff, reduceIte])⟩
  rintro e s' ⟨rfl, hh, hjj, haj2, hf⟩
  show CW _ _ _ _
  refine cw_weakL _ hf ?_
  rw [hh]
  clear hf hh
  by_cases hgt : j2 < i2
  · have d5 : decide ((j2 : Int) < (i2 : Int)) = true := decide_eq_true (by omega)
    rw [if_pos hgt, h5] at hstep
    have hy1 : j2 < dc.size := by omega
    have gy := ic_get hy1
    have ry := rng (k := j2) (n := d.size) (by omega)
    repeat (first | apply zs | apply zr | apply zn | ((first | apply zx | apply zy); · simp only [push_cast, env, Nat.reduceEqDiff, reduceIte, Nat.reduceAdd, Nat.reduceMul, Nat.reduceLeDiff, reduceCtorEq, Nat.reduceSub, Int.reduceToNat, d5] <;> first | exact rfl | exact .inl rfl | exact .inr rfl) | apply zq | apply zb | apply zo | apply zk | apply zl)
    refine cw_condT rfl ?_
    refine cw_exit ?_
    show CW _ _ _ _
    repeat (first | apply zs | apply zr | apply zn | ((first | apply zx | apply zy); · simp only [push_cast, env, Nat.reduceEqDiff, reduceIte, Nat.reduceAdd, Nat.reduceMul, Nat.reduceLeDiff, reduceCtorEq, Nat.reduceSub, Int.reduceToNat] <;> first | exact rfl | exact .inl rfl | exact .inr rfl) | apply zq | apply zb | apply zo | apply zk | apply zl)
    refine cw_weakL [(0, .val (.slice (some ⟨id, 0, some ver⟩) d.size c)), (1, .val (i64 a)), (4, .val lessV), (12, .val (i64 i2)), (13, .val (i64 j2))] (by simp only [push_cast, Nat.reduceEqDiff, reduceIte]) ?_
    show CW _ _ ⟨_, [], hc⟩ _
    apply cw_ordA (L := [[], [], [], [], [], [], [4, 5], [4, 5, 6], [], [], [8, 9], [8, 9, 10], [0, 1], [0, 1, 4, 5, 6, 7, 8, 9, 10, 11, 12], [2, 3], [0, 1, 2, 3, 4, 5, 6, 7, 8, 9, 10, 11, 12, 13, 14]]) (act := [13, 15]) (hs := [hc.set id (.arr (IC (dc.setIfInBounds j2 dc[a]!)) ver true 57), hc.set id (.arr (IC (Go.Sort.swp dc j2 a)) ver true 57)]) (resL := [_, _, _, _, _, _, _, _, _, _, _, _, _, _, _, _]) (frF := [(0, .val (.slice (some ⟨id, 0, some ver⟩) d.size c)), (1, .val (i64 a)), (4, .val lessV), (12, .val (i64 i2)), (13, .val (i64 j2))])
    case hm => exact mixed
    case hc => kernel_rfl
    case ha => rfl
    case hb => rfl
    case hS =>
      repeat (first | exact StepsA.nil _ | (apply StepsA.cons; (· rfl); (· (first | refine ⟨?_, trivial⟩ | refine ⟨?_, ?_, trivial⟩ | refine ⟨?_, ?_, ?_, trivial⟩ | refine ⟨?_, ?_, ?_, ?_, trivial⟩) <;> (apply zz; simp only [push_cast, env, Nat.reduceEqDiff, reduceIte, Nat.reduceAdd, Nat.reduceMul, Nat.reduceLeDiff, reduceCtorEq, Nat.reduceSub, Int.reduceToNat, hg, gy, ga, ry, ra, Nat.mul_one] <;> exact rfl)); (· rfl)))
      apply StepsA.cons
      · rfl
      · refine ⟨?_, trivial⟩
        exact one_sto (r := .sl .unk) rfl (by simp only [push_cast, env, Nat.reduceEqDiff, reduceIte] <;> exact rfl) rfl (by simp only [push_cast, env, Nat.reduceEqDiff, reduceIte] <;> exact rfl) (by simp only [push_cast, env, Nat.reduceEqDiff, reduceIte] <;> exact rfl) hg (by simp only [push_cast, env, Nat.reduceEqDiff, reduceIte] <;> exact rfl) rfl (ic_set (d := dc) (i := j2) (x := dc[a]!) hy1) rfl rfl
      · rfl
      repeat (first | exact StepsA.nil _ | (apply StepsA.cons; (· rfl); (· (first | refine ⟨?_, trivial⟩ | refine ⟨?_, ?_, trivial⟩ | refine ⟨?_, ?_, ?_, trivial⟩ | refine ⟨?_, ?_, ?_, ?_, trivial⟩) <;> (apply zz; simp only [push_cast, env, Nat.reduceEqDiff, reduceIte, Nat.reduceAdd, Nat.reduceMul, Nat.reduceLeDiff, reduceCtorEq, Nat.reduceSub, Int.reduceToNat, hg, gy, ga, ry, ra, Nat.mul_one] <;> exact rfl)); (· rfl)))
      apply StepsA.cons
      · rfl
      · refine ⟨?_, trivial⟩
        exact one_sto (r := .sl .unk) rfl (by simp only [push_cast, env, Nat.reduceEqDiff, reduceIte] <;> exact rfl) rfl (by simp only [push_cast, env, Nat.reduceEqDiff, reduceIte] <;> exact rfl) (by simp only [push_cast, env, Nat.reduceEqDiff, reduceIte] <;> exact rfl) (get_set_self hg) (by simp only [push_cast, env, Nat.reduceEqDiff, reduceIte] <;> exact rfl) rfl (ic_set (d := dc.setIfInBounds j2 dc[a]!) (i := a) (x := dc[j2]!) (by simpa using hac)) rfl set_set_heap.symm
      · rfl
      exact StepsA.nil _
    case ht => rfl
    case hF => repeat (first | exact trivial | (refine ⟨.inl ⟨by decide, rfl⟩, ?_⟩) | (refine ⟨.inr ⟨rfl, by simp⟩, ?_⟩))
    show CW _ _ _ _
    repeat (first | apply zs | apply zr | apply zn | ((first | apply zx | apply zy); · simp only [push_cast, env, Nat.reduceEqDiff, reduceIte, Nat.reduceAdd, Nat.reduceMul, Nat.reduceLeDiff, reduceCtorEq, Nat.reduceSub, Int.reduceToNat] <;> first | exact rfl | exact .inl rfl | exact .inr rfl) | apply zq | apply zb | apply zo | apply zk | apply zl)
    refine cw_ret ?_
    refine ⟨_, (by simp only [push_cast, env, Nat.reduceEqDiff, reduceIte] <;> exact rfl), false, by rw [hstep]; rfl, ?_⟩
    simp only [hstep]
    exact ⟨by rw [h4, set_set_heap], D1.swp hy1 hac, by rw [swp_size]; exact h3⟩
  have d5 : decide ((j2 : Int) < (i2 : Int)) = false := decide_eq_false (by omega)
  rw [if_neg hgt, h5] at hstep
  have hx1 : i2 < dc.size := by omega
  have hy1 : j2 < dc.size := by omega
  have gx := ic_get hx1
  have gy := ic_get hy1
  have rx := rng (k := i2) (n := d.size) (by omega)
  have ry := rng (k := j2) (n := d.size) (by omega)
  have e6 : IntKind.i64.wrap ((i2 : Int) + 1) = (i2 : Int) + 1 := wrap64_id (by omega) (by omega)
  obtain ⟨q, hq⟩ : ∃ q, q = j2 - 1 := ⟨_, rfl⟩
  have e7 : IntKind.i64.wrap ((j2 : Int) - 1) = (q : Int) := by rw [wrap64_id (by omega) (by omega)]; omega
  rw [← hq] at hstep
  repeat (first | apply zs | apply zr | apply zn | ((first | apply zx | apply zy); · simp only [push_cast, env, Nat.reduceEqDiff, reduceIte, Nat.reduceAdd, Nat.reduceMul, Nat.reduceLeDiff, reduceCtorEq, Nat.reduceSub, Int.reduceToNat, d5] <;> first | exact rfl | exact .inl rfl | exact .inr rfl) | apply zq | apply zb | apply zo | apply zk | apply zl)
  refine cw_condF rfl ?_
  repeat (first | apply zs | apply zr | apply zn | ((first | apply zx | apply zy); · simp only [push_cast, env, Nat.reduceEqDiff, reduceIte, Nat.reduceAdd, Nat.reduceMul, Nat.reduceLeDiff, reduceCtorEq, Nat.reduceSub, Int.reduceToNat] <;> first | exact rfl | exact .inl rfl | exact .inr rfl) | apply zq | apply zb | apply zo | apply zk | apply zl)
  refine cw_weakL [(0, .val (.slice (some ⟨id, 0, some ver⟩) d.size c)), (1, .val (i64 a)), (4, .val lessV), (12, .val (i64 i2)), (13, .val (i64 j2))] (by simp only [push_cast, Nat.reduceEqDiff, reduceIte]) ?_
  show CW _ _ ⟨_, [], hc⟩ _
  apply cw_ordA (L := [[], [], [], [], [], [], [4, 5], [4, 5, 6], [], [], [8, 9], [8, 9, 10], [0, 1], [0, 1, 4, 5, 6, 7, 8, 9, 10, 11, 12], [2, 3], [0, 1, 2, 3, 4, 5, 6, 7, 8, 9, 10, 11, 12, 13, 14]]) (act := [13, 15]) (hs := [hc.set id (.arr (IC (dc.setIfInBounds i2 dc[j2]!)) ver true 57), hc.set id (.arr (IC (Go.Sort.swp dc i2 j2)) ver true 57)]) (resL := [_, _, _, _, _, _, _, _, _, _, _, _, _, _, _, _]) (frF := [(0, .val (.slice (some ⟨id, 0, some ver⟩) d.size c)), (1, .val (i64 a)), (4, .val lessV), (12, .val (i64 i2)), (13, .val (i64 j2))])
  case hm => exact mixed
  case hc => kernel_rfl
  case ha => rfl
  case hb => rfl
  case hS =>
    repeat (first | exact StepsA.nil _ | (apply StepsA.cons; (· rfl); (· (first | refine ⟨?_, trivial⟩ | refine ⟨?_, ?_, trivial⟩ | refine ⟨?_, ?_, ?_, trivial⟩ | refine ⟨?_, ?_, ?_, ?_, trivial⟩) <;> (apply zz; simp only [push_cast, env, Nat.reduceEqDiff, reduceIte, Nat.reduceAdd, Nat.reduceMul, Nat.reduceLeDiff, reduceCtorEq, Nat.reduceSub, Int.reduceToNat, hg, gx, gy, rx, ry, Nat.mul_one] <;> exact rfl)); (· rfl)))
    apply StepsA.cons
    · rfl
    · refine ⟨?_, trivial⟩
      exact one_sto (r := .sl .unk) rfl (by simp only [push_cast, env, Nat.reduceEqDiff, reduceIte] <;> exact rfl) rfl (by simp only [push_cast, env, Nat.reduceEqDiff, reduceIte] <;> exact rfl) (by simp only [push_cast, env, Nat.reduceEqDiff, reduceIte] <;> exact rfl) hg (by simp only [push_cast, env, Nat.reduceEqDiff, reduceIte] <;> exact rfl) rfl (ic_set (d := dc) (i := i2) (x := dc[j2]!) hx1) rfl rfl
    · rfl
    repeat (first | exact StepsA.nil _ | (apply StepsA.cons; (· rfl); (· (first | refine ⟨?_, trivial⟩ | refine ⟨?_, ?_, trivial⟩ | refine ⟨?_, ?_, ?_, trivial⟩ | refine ⟨?_, ?_, ?_, ?_, trivial⟩) <;> (apply zz; simp only [push_cast, env, Nat.reduceEqDiff, reduceIte, Nat.reduceAdd, Nat.reduceMul, Nat.reduceLeDiff, reduceCtorEq, Nat.reduceSub, Int.reduceToNat, hg, gx, gy, rx, ry, Nat.mul_one] <;> exact rfl)); (· rfl)))
    apply StepsA.cons
    · rfl
    · refine ⟨?_, trivial⟩
      exact one_sto (r := .sl .unk) rfl (by simp only [push_cast, env, Nat.reduceEqDiff, reduceIte] <;> exact rfl) rfl (by simp only [push_cast, env, Nat.reduceEqDiff, reduceIte] <;> exact rfl) (by simp only [push_cast, env, Nat.reduceEqDiff, reduceIte] <;> exact rfl) (get_set_self hg) (by simp only [push_cast, env, Nat.reduceEqDiff, reduceIte] <;> exact rfl) rfl (ic_set (d := dc.setIfInBounds i2 dc[j2]!) (i := j2) (x := dc[i2]!) (by simpa using hy1)) rfl set_set_heap.symm
    · rfl
    exact StepsA.nil _
  case ht => rfl
  case hF => repeat (first | exact trivial | (refine ⟨.inl ⟨by decide, rfl⟩, ?_⟩) | (refine ⟨.inr ⟨rfl, by simp⟩, ?_⟩))
  show CW _ _ _ _
  repeat (first | apply zs | apply zr | apply zn | ((first | apply zx | apply zy); · simp only [push_cast, env, Nat.reduceEqDiff, reduceIte, Nat.reduceAdd, Nat.reduceMul, Nat.reduceLeDiff, reduceCtorEq, Nat.reduceSub, Int.reduceToNat, e6, e7] <;> first | exact rfl | exact .inl rfl | exact .inr rfl) | apply zq | apply zb | apply zo | apply zk | apply zl)
  exact ⟨(i2 + 1, q, Go.Sort.swp dc i2 j2, _), by simp only; omega, (by simp only [push_cast, Nat.reduceEqDiff, reduceIte]), rfl, by simp only; omega, by simp only; omega, by simp only; omega, by simp only; omega, by simp only; rw [swp_size]; exact h3, by simp only; rw [h4, set_set_heap], D1.swp hx1 hy1, hstep.symm⟩
end Go.Proofs.Ytafncpgiibikcaa

namespace Go.Proofs.Ytafncpgiibikcaa
set_option linter.unusedSimpArgs false
set_option linter.unusedVariables false
set_option maxRecDepth 20000
open Go.RowKit Am Ty

theorem scanSorted_step {d : Array Item} {b i : Nat} (h : i < b) (hp : ltI d[i]! d[i - 1]! = false) : Go.Sort.scanSorted ltI d b i = Go.Sort.scanSorted ltI d b (i + 1) := by
  rw [Go.Sort.scanSorted, if_pos (by simp [h, hp])]
theorem scanSorted_stop {d : Array Item} {b i : Nat} (h : ¬ (i < b ∧ ltI d[i]! d[i - 1]! = false)) : Go.Sort.scanSorted ltI d b i = i := by
  rw [Go.Sort.scanSorted, if_neg (by simpa using h)]
theorem shiftUp_step {d : Array Item} {b j : Nat} (h : j < b) (hp : ltI d[j]! d[j - 1]! = true) : Go.Sort.shiftUp ltI b j d = Go.Sort.shiftUp ltI b (j + 1) (Go.Sort.swp d j (j - 1)) := by
  rw [Go.Sort.shiftUp, if_pos h, hp]; rfl
theorem shiftUp_stop {d : Array Item} {b j : Nat} (h : ¬ (j < b ∧ ltI d[j]! d[j - 1]! = true)) : Go.Sort.shiftUp ltI b j d = d := by
  rw [Go.Sort.shiftUp]
  by_cases hj : j < b
  · rw [if_pos hj, if_pos (by simpa [hj] using h)]
  · rw [if_neg hj]
set_option maxHeartbeats 8000000 in
theorem pins_fw {h : Heap} {id ver c a b : Nat} {d : Array Item} (D : DA h id ver d) (hab : a < b) (hb : b ≤ d.size) :
    FW env 70 [.slice (some ⟨id, 0, some ver⟩) d.size c, i64 a, i64 b, lessV] h fun r h' => r = .bool (Go.Sort.partialInsertionSort ltI d a b).2 ∧ h' = h.set id (.arr (IC (Go.Sort.partialInsertionSort ltI d a b).1) ver true 57) ∧ DA h' id ver (Go.Sort.partialInsertionSort ltI d a b).1 ∧ (Go.Sort.partialInsertionSort ltI d a b).1.size = d.size := by
  have hn := D.n
  have e1 : IntKind.i64.wrap ((a : Int) + 1) = ((a + 1 : Nat) : Int) := by rw [wrap64_id (by omega) (by omega)]; omega
  obtain ⟨i0, hi0⟩ : ∃ i0, i0 = a + 1 := ⟨_, rfl⟩
  rw [← hi0] at e1
  obtain ⟨P, hP⟩ : ∃ P, Go.Sort.partialInsertionSort ltI d a b = P := ⟨_, rfl⟩
  have hP0 : Go.Sort.partialIns ltI a b 5 i0 d = P := by rw [← hP, hi0]; rfl
  rw [hP]
  clear hP
  refine fw_enter (fn := Try.f70) Try.func70 rfl (by kernel_rfl) (by simp [Try.ntmps70]) ?_; simp only [push_cast]
  repeat (first | apply zs | apply zr | apply zn | ((first | apply zx | apply zy); · simp only [push_cast, env, Nat.reduceEqDiff, reduceIte, Nat.reduceAdd, Nat.reduceMul, Nat.reduceLeDiff, reduceCtorEq, Nat.reduceSub, Int.reduceToNat, e1] <;> first | exact rfl | exact .inl rfl | exact .inr rfl) | apply zq | apply zb | apply zo | apply zk | apply zl)
  refine cw_wh (fun x : Nat × Nat × Array Item × Heap => 5 - x.1) (fun x => [(0, .val (.slice (some ⟨id, 0, some ver⟩) d.size c)), (1, .val (i64 a)), (2, .val (i64 b)), (3, .val lessV), (9, .val (i64 x.2.1)), (10, .val (i64 x.1))]) (fun x => x.2.2.2)
    (fun x => x.1 ≤ 5 ∧ a < x.2.1 ∧ x.2.1 ≤ b ∧ x.2.2.1.size = d.size ∧ x.2.2.2 = h.set id (.arr (IC x.2.2.1) ver true 57) ∧ DA x.2.2.2 id ver x.2.2.1 ∧ Go.Sort.partialIns ltI a b (5 - x.1) x.2.1 x.2.2.1 = P) (0, i0, d, h) (by simp only [push_cast, Nat.reduceEqDiff, reduceIte]) rfl ⟨by simp only; omega, by simp only; omega, by simp only; omega, rfl, (set_same D.g).symm, D, hP0⟩ ?_
  clear e1 hi0 hP0 i0
  rintro ⟨J, i, dc, hc⟩ ⟨h1, h2, h2', h3, h4, D1, h5⟩
  simp only at h1 h2 h2' h3 h4 D1 h5 ⊢
  by_cases hJ : J < 5
  · have d1 : decide ((J : Int) < 5) = true := decide_eq_true (by omega)
    obtain ⟨s, hs⟩ : ∃ s, 5 - J = s + 1 := ⟨4 - J, by omega⟩
    rw [hs] at h5
    have eJ : IntKind.i64.wrap ((J : Int) + 1) = (J : Int) + 1 := wrap64_id (by omega) (by omega)
    repeat (first | apply zs | apply zr | apply zn | ((first | apply zx | apply zy); · simp only [push_cast, env, Nat.reduceEqDiff, reduceIte, Nat.reduceAdd, Nat.reduceMul, Nat.reduceLeDiff, reduceCtorEq, Nat.reduceSub, Int.reduceToNat, d1] <;> first | exact rfl | exact .inl rfl | exact .inr rfl) | apply zq | apply zb | apply zo | apply zk | apply zl)
    refine cw_condT rfl ?_
    obtain ⟨i2, hi2⟩ : ∃ i2, Go.Sort.scanSorted ltI dc b i = i2 := ⟨_, rfl⟩
    repeat (first | apply zs | apply zr | apply zn | ((first | apply zx | apply zy); · simp only [push_cast, env, Nat.reduceEqDiff, reduceIte, Nat.reduceAdd, Nat.reduceMul, Nat.reduceLeDiff, reduceCtorEq, Nat.reduceSub, Int.reduceToNat] <;> first | exact rfl | exact .inl rfl | exact .inr rfl) | apply zq | apply zb | apply zo | apply zk | apply zl)
    refine CW.mono (Q := fun e s' => e = .exit 2 ∧ s'.h = hc ∧ i ≤ i2 ∧ i2 ≤ b ∧ SubL [(0, .val (.slice (some ⟨id, 0, some ver⟩) d.size c)), (1, .val (i64 a)), (2, .val (i64 b)), (3, .val lessV), (9, .val (i64 i2)), (10, .val (i64 J))] s'.fr) ?_ ?_
    · refine cw_wh (fun k : Nat => b - k) (fun k => [(0, .val (.slice (some ⟨id, 0, some ver⟩) d.size c)), (1, .val (i64 a)), (2, .val (i64 b)), (3, .val lessV), (9, .val (i64 k)), (10, .val (i64 J))]) (fun _ => hc)
        (fun k => i ≤ k ∧ k ≤ b ∧ Go.Sort.scanSorted ltI dc b k = i2) i (by simp only [push_cast, Nat.reduceEqDiff, reduceIte]) rfl ⟨Nat.le_refl _, h2', hi2⟩ ?_
      rintro k ⟨k1, k2, k3⟩
      by_cases hkj : k < b
      · have d4 : decide ((k : Int) < (b : Int)) = true := decide_eq_true (by omega)
        obtain ⟨q, hq⟩ : ∃ q, k = q + 1 := ⟨k - 1, by omega⟩
        have hqk : k - 1 = q := by omega
        have e5 : IntKind.i64.wrap ((k : Int) - 1) = (q : Int) := by rw [wrap64_id (by omega) (by omega)]; omega
        have e4 : IntKind.i64.wrap ((k : Int) + 1) = (k : Int) + 1 := wrap64_id (by omega) (by omega)
        have hp1 : k < dc.size := by omega
        have hq1 : q < dc.size := by omega
        have gp := ic_get hp1
        have gq := ic_get hq1
        have bp := D1.b _ hp1
        have bq := D1.b _ hq1
        have rp := rng (k := k) (n := d.size) (by omega)
        have rq := rng (k := q) (n := d.size) (by omega)
        have hg := D1.g
        cases hl : ltI dc[k]! dc[q]! with
        | false =>
          have d7 : decide (cmpI dc[k]! dc[q]! < 0) = false := hl
          repeat (first | apply zs | apply zr | apply zn | ((first | apply zx | apply zy); · simp only [push_cast, env, Nat.reduceEqDiff, reduceIte, Nat.reduceAdd, Nat.reduceMul, Nat.reduceLeDiff, reduceCtorEq, Nat.reduceSub, Int.reduceToNat] <;> first | exact rfl | exact .inl rfl | exact .inr rfl) | apply zq | apply zb | apply zo | apply zk | apply zl)
          apply cw_ord0 (L := [[], [], [0, 1], [2], [3], [3], [3], [3, 5, 6], [3, 7], [3], [3], [3, 10], [3, 9, 11], [3, 12], [3, 4, 8, 13], [3, 14], [3, 15], [3, 16]]) (resL := [_, _, _, _, _, _, _, _, _, _, _, _, _, _, _, _, _, _]) (frF := [(0, .val (.slice (some ⟨id, 0, some ver⟩) d.size c)), (1, .val (i64 a)), (2, .val (i64 b)), (3, .val lessV), (9, .val (i64 k)), (10, .val (i64 J)), (36, .val (.bool true))])
          case hm => exact mixed
          case hc => kernel_rfl
          case hb => rfl
          case hS =>
            repeat (first | exact Steps0.nil _ | (apply Steps0.cons; (· apply zz; simp only [push_cast, env, Nat.reduceEqDiff, reduceIte, Nat.reduceAdd, Nat.reduceMul, Nat.reduceLeDiff, reduceCtorEq, Nat.reduceSub, Int.reduceToNat, d4, e5, hg, gp, gq, rp, rq, Nat.mul_one] <;> exact rfl); (· rfl)))
            apply Steps0.cons
            · exact one_call (fn := Try.f44) (args := [dc[k]!.val, dc[q]!.val]) (cap := []) rfl (by simp only [push_cast, env, Nat.reduceEqDiff, reduceIte, d4, e5] <;> exact rfl) rfl (by simp only [push_cast, env, Nat.reduceEqDiff, reduceIte] <;> exact rfl) (by simp only [push_cast, env, Nat.reduceEqDiff, reduceIte] <;> exact rfl) Try.func44 (by kernel_rfl) (by kernel_rfl) (less7_fw bp bq)
            · rfl
            repeat (first | exact Steps0.nil _ | (apply Steps0.cons; (· apply zz; simp only [push_cast, env, Nat.reduceEqDiff, reduceIte, Nat.reduceAdd, Nat.reduceMul, Nat.reduceLeDiff, reduceCtorEq, Nat.reduceSub, Int.reduceToNat, d7, d4, e5] <;> exact rfl); (· rfl)))
          case ht => rfl
          case hF => repeat (first | exact trivial | (refine ⟨.inl ⟨by decide, rfl⟩, ?_⟩) | (refine ⟨.inr ⟨rfl, by simp⟩, ?_⟩))
          show CW _ _ _ _
          repeat (first | apply zs | apply zr | apply zn | ((first | apply zx | apply zy); · simp only [push_cast, env, Nat.reduceEqDiff, reduceIte, Nat.reduceAdd, Nat.reduceMul, Nat.reduceLeDiff, reduceCtorEq, Nat.reduceSub, Int.reduceToNat] <;> first | exact rfl | exact .inl rfl | exact .inr rfl) | apply zq | apply zb | apply zo | apply zk | apply zl)
          refine cw_condT rfl ?_
          repeat (first | apply zs | apply zr | apply zn | ((first | apply zx | apply zy); · simp only [push_cast, env, Nat.reduceEqDiff, reduceIte, Nat.reduceAdd, Nat.reduceMul, Nat.reduceLeDiff, reduceCtorEq, Nat.reduceSub, Int.reduceToNat, e4] <;> first | exact rfl | exact .inl rfl | exact .inr rfl) | apply zq | apply zb | apply zo | apply zk | apply zl)
          exact ⟨k + 1, by dsimp only; omega, (by simp only [push_cast, Nat.reduceEqDiff, reduceIte]), rfl, by omega, by omega, by rw [← k3]; exact (scanSorted_step hkj (by rw [hqk]; exact hl)).symm⟩
        | true =>
          have d7 : decide (cmpI dc[k]! dc[q]! < 0) = true := hl
          have hst : i2 = k := by rw [← k3]; exact scanSorted_stop (by rw [hqk, hl]; simp)
          subst hst
          repeat (first | apply zs | apply zr | apply zn | ((first | apply zx | apply zy); · simp only [push_cast, env, Nat.reduceEqDiff, reduceIte, Nat.reduceAdd, Nat.reduceMul, Nat.reduceLeDiff, reduceCtorEq, Nat.reduceSub, Int.reduceToNat] <;> first | exact rfl | exact .inl rfl | exact .inr rfl) | apply zq | apply zb | apply zo | apply zk | apply zl)
          apply cw_ord0 (L := [[], [], [0, 1], [2], [3], [3], [3], [3, 5, 6], [3, 7], [3], [3], [3, 10], [3, 9, 11], [3, 12], [3, 4, 8, 13], [3, 14], [3, 15], [3, 16]]) (resL := [_, _, _, _, _, _, _, _, _, _, _, _, _, _, _, _, _, _]) (frF := [(0, .val (.slice (some ⟨id, 0, some ver⟩) d.size c)), (1, .val (i64 a)), (2, .val (i64 b)), (3, .val lessV), (9, .val (i64 i2)), (10, .val (i64 J)), (36, .val (.bool false))])
          case hm => exact mixed
          case hc => kernel_rfl
          case hb => rfl
          case hS =>
            repeat (first | exact Steps0.nil _ | (apply Steps0.cons; (· apply zz; simp only [push_cast, env, Nat.reduceEqDiff, reduceIte, Nat.reduceAdd, Nat.reduceMul, Nat.reduceLeDiff, reduceCtorEq, Nat.reduceSub, Int.reduceToNat, d4, e5, hg, gp, gq, rp, rq, Nat.mul_one] <;> exact rfl); (· rfl)))
            apply Steps0.cons
            · exact one_call (fn := Try.f44) (args := [dc[i2]!.val, dc[q]!.val]) (cap := []) rfl (by simp only [push_cast, env, Nat.reduceEqDiff, reduceIte, d4, e5] <;> exact rfl) rfl (by simp only [push_cast, env, Nat.reduceEqDiff, reduceIte] <;> exact rfl) (by simp only [push_cast, env, Nat.reduceEqDiff, reduceIte] <;> exact rfl) Try.func44 (by kernel_rfl) (by kernel_rfl) (less7_fw bp bq)
            · rfl
            repeat (first | exact Steps0.nil _ | (apply Steps0.cons; (· apply zz; simp only [push_cast, env, Nat.reduceEqDiff, reduceIte, Nat.reduceAdd, Nat.reduceMul, Nat.reduceLeDiff, reduceCtorEq, Nat.reduceSub, Int.reduceToNat, d7, d4, e5] <;> exact rfl); (· rfl)))
          case ht => rfl
          case hF => repeat (first | exact trivial | (refine ⟨.inl ⟨by decide, rfl⟩, ?_⟩) | (refine ⟨.inr ⟨rfl, by simp⟩, ?_⟩))
          show CW _ _ _ _
          repeat (first | apply zs | apply zr | apply zn | ((first | apply zx | apply zy); · simp only [push_cast, env, Nat.reduceEqDiff, reduceIte, Nat.reduceAdd, Nat.reduceMul, Nat.reduceLeDiff, reduceCtorEq, Nat.reduceSub, Int.reduceToNat] <;> first | exact rfl | exact .inl rfl | exact .inr rfl) | apply zq | apply zb | apply zo | apply zk | apply zl)
          refine cw_condF rfl ?_
          refine cw_exit ?_
          exact ⟨rfl, rfl, k1, k2, (by simp only [push_cast, Nat.reduceEqDiff, reduceIte])⟩
      · have d4 : decide ((k : Int) < (b : Int)) = false := decide_eq_false (by omega)
        have hst : i2 = k := by rw [← k3]; exact scanSorted_stop (by omega)
        subst hst
        repeat (first | apply zs | apply zr | apply zn | ((first | apply zx | apply zy); · simp only [push_cast, env, Nat.reduceEqDiff, reduceIte, Nat.reduceAdd, Nat.reduceMul, Nat.reduceLeDiff, reduceCtorEq, Nat.reduceSub, Int.reduceToNat] <;> first | exact rfl | exact .inl rfl | exact .inr rfl) | apply zq | apply zb | apply zo | apply zk | apply zl)
        apply cw_ord0 (L := [[], [], [0, 1], [2], [3], [3], [3], [3, 5, 6], [3, 7], [3], [3], [3, 10], [3, 9, 11], [3, 12], [3, 4, 8, 13], [3, 14], [3, 15], [3, 16]]) (resL := [_, _, _, _, _, _, _, _, _, _, _, _, _, _, _, _, _, _]) (frF := [(0, .val (.slice (some ⟨id, 0, some ver⟩) d.size c)), (1, .val (i64 a)), (2, .val (i64 b)), (3, .val lessV), (9, .val (i64 i2)), (10, .val (i64 J)), (36, .val (.bool false))])
        case hm => exact mixed
        case hc => kernel_rfl
        case hb => rfl
        case hS => repeat (first | exact Steps0.nil _ | (apply Steps0.cons; (· apply zz; simp only [push_cast, env, Nat.reduceEqDiff, reduceIte, Nat.reduceAdd, Nat.reduceMul, Nat.reduceLeDiff, reduceCtorEq, Nat.reduceSub, Int.reduceToNat, d4] <;> exact rfl); (· rfl)))
        case ht => rfl
        case hF => repeat (first | exact trivial | (refine ⟨.inl ⟨by decide, rfl⟩, ?_⟩) | (refine ⟨.inr ⟨rfl, by simp⟩, ?_⟩))
        show CW _ _ _ _
        repeat (first | apply zs | apply zr | apply zn | ((first | apply zx | apply zy); · simp only [push_cast, env, Nat.reduceEqDiff, reduceIte, Nat.reduceAdd, Nat.reduceMul, Nat.reduceLeDiff, reduceCtorEq, Nat.reduceSub, Int.reduceToNat] <;> first | exact rfl | exact .inl rfl | exact .inr rfl) | apply zq | apply zb | apply zo | apply zk | apply zl)
        refine cw_condF rfl ?_
        refine cw_exit ?_
        exact ⟨rfl, rfl, k1, k2, (by simp only [push_cast, Nat.reduceEqDiff, reduceIte])⟩
    rintro e s' ⟨rfl, hh, hii, hib, hf⟩
    show CW _ _ _ _
    refine cw_weakL _ hf ?_
    rw [hh]
    clear hf hh
    have hstep : Go.Sort.partialIns ltI a b (s + 1) i dc = if i2 = b then (dc, true) else if b - a < 50 then (dc, false) else
        Go.Sort.partialIns ltI a b s i2 (if b - i2 ≥ 2 then Go.Sort.shiftUp ltI b (i2 + 1) (if i2 - a ≥ 2 then Go.Sort.shiftDown ltI (i2 - 1) (Go.Sort.swp dc i2 (i2 - 1)) else Go.Sort.swp dc i2 (i2 - 1)) else (if i2 - a ≥ 2 then Go.Sort.shiftDown ltI (i2 - 1) (Go.Sort.swp dc i2 (i2 - 1)) else Go.Sort.swp dc i2 (i2 - 1))) := by
      rw [← hi2]; rfl
    rw [h5] at hstep
    clear h5 hi2
    by_cases hib2 : i2 = b
    · have d2 : decide ((i2 : Int) = (b : Int)) = true := decide_eq_true (by omega)
      rw [if_pos hib2] at hstep
      repeat (first | apply zs | apply zr | apply zn | ((first | apply zx | apply zy); · simp only [push_cast, env, Nat.reduceEqDiff, reduceIte, Nat.reduceAdd, Nat.reduceMul, Nat.reduceLeDiff, reduceCtorEq, Nat.reduceSub, Int.reduceToNat, d2] <;> first | exact rfl | exact .inl rfl | exact .inr rfl) | apply zq | apply zb | apply zo | apply zk | apply zl)
      refine cw_condT rfl ?_
      repeat (first | apply zs | apply zr | apply zn | ((first | apply zx | apply zy); · simp only [push_cast, env, Nat.reduceEqDiff, reduceIte, Nat.reduceAdd, Nat.reduceMul, Nat.reduceLeDiff, reduceCtorEq, Nat.reduceSub, Int.reduceToNat] <;> first | exact rfl | exact .inl rfl | exact .inr rfl) | apply zq | apply zb | apply zo | apply zk | apply zl)
      refine cw_ret ?_
      rw [hstep]
      exact ⟨_, (by simp only [push_cast, env, Nat.reduceEqDiff, reduceIte] <;> exact rfl), rfl, h4, D1, h3⟩
    have d2 : decide ((i2 : Int) = (b : Int)) = false := decide_eq_false (by omega)
    rw [if_neg hib2] at hstep
    have e6 : IntKind.i64.wrap ((b : Int) - (a : Int)) = ((b - a : Nat) : Int) := by rw [wrap64_id (by omega) (by omega)]; omega
    obtain ⟨m, hm⟩ : ∃ m, m = b - a := ⟨_, rfl⟩
    rw [← hm] at e6
    repeat (first | apply zs | apply zr | apply zn | ((first | apply zx | apply zy); · simp only [push_cast, env, Nat.reduceEqDiff, reduceIte, Nat.reduceAdd, Nat.reduceMul, Nat.reduceLeDiff, reduceCtorEq, Nat.reduceSub, Int.reduceToNat, d2] <;> first | exact rfl | exact .inl rfl | exact .inr rfl) | apply zq | apply zb | apply zo | apply zk | apply zl)
    refine cw_condF rfl ?_
    by_cases h50 : m < 50
    · have d3 : decide ((m : Int) < 50) = true := decide_eq_true (by omega)
      rw [if_pos (by omega)] at hstep
      repeat (first | apply zs | apply zr | apply zn | ((first | apply zx | apply zy); · simp only [push_cast, env, Nat.reduceEqDiff, reduceIte, Nat.reduceAdd, Nat.reduceMul, Nat.reduceLeDiff, reduceCtorEq, Nat.reduceSub, Int.reduceToNat, e6, d3] <;> first | exact rfl | exact .inl rfl | exact .inr rfl) | apply zq | apply zb | apply zo | apply zk | apply zl)
      refine cw_condT rfl ?_
      repeat (first | apply zs | apply zr | apply zn | ((first | apply zx | apply zy); · simp only [push_cast, env, Nat.reduceEqDiff, reduceIte, Nat.reduceAdd, Nat.reduceMul, Nat.reduceLeDiff, reduceCtorEq, Nat.reduceSub, Int.reduceToNat] <;> first | exact rfl | exact .inl rfl | exact .inr rfl) | apply zq | apply zb | apply zo | apply zk | apply zl)
      refine cw_ret ?_
      rw [hstep]
      exact ⟨_, (by simp only [push_cast, env, Nat.reduceEqDiff, reduceIte] <;> exact rfl), rfl, h4, D1, h3⟩
    have d3 : decide ((m : Int) < 50) = false := decide_eq_false (by omega)
    rw [if_neg (by omega)] at hstep
    repeat (first | apply zs | apply zr | apply zn | ((first | apply zx | apply zy); · simp only [push_cast, env, Nat.reduceEqDiff, reduceIte, Nat.reduceAdd, Nat.reduceMul, Nat.reduceLeDiff, reduceCtorEq, Nat.reduceSub, Int.reduceToNat, e6, d3] <;> first | exact rfl | exact .inl rfl | exact .inr rfl) | apply zq | apply zb | apply zo | apply zk | apply zl)
    refine cw_condF rfl ?_
    clear e6 h50 d3 hm
    obtain ⟨q, hq⟩ : ∃ q, i2 = q + 1 := ⟨i2 - 1, by omega⟩
    have hqk : i2 - 1 = q := by omega
    rw [hqk] at hstep
    have e5 : IntKind.i64.wrap ((i2 : Int) - 1) = (q : Int) := by rw [wrap64_id (by omega) (by omega)]; omega
    have hp1 : i2 < dc.size := by omega
    have hq1 : q < dc.size := by omega
    have gp := ic_get hp1
    have gq := ic_get hq1
    have bp := D1.b _ hp1
    have bq := D1.b _ hq1
    have rp := rng (k := i2) (n := d.size) (by omega)
    have rq := rng (k := q) (n := d.size) (by omega)
    have hg := D1.g
    repeat (first | apply zs | apply zr | apply zn | ((first | apply zx | apply zy); · simp only [push_cast, env, Nat.reduceEqDiff, reduceIte, Nat.reduceAdd, Nat.reduceMul, Nat.reduceLeDiff, reduceCtorEq, Nat.reduceSub, Int.reduceToNat] <;> first | exact rfl | exact .inl rfl | exact .inr rfl) | apply zq | apply zb | apply zo | apply zk | apply zl)
    refine cw_weakL [(0, .val (.slice (some ⟨id, 0, some ver⟩) d.size c)), (1, .val (i64 a)), (2, .val (i64 b)), (3, .val lessV), (9, .val (i64 i2)), (10, .val (i64 J))] (by simp only [push_cast, Nat.reduceEqDiff, reduceIte]) ?_
    show CW _ _ ⟨_, [], hc⟩ _
    apply cw_ordA (L := [[], [], [], [], [3], [], [], [6], [5, 6, 7], [5, 6, 7, 8], [], [], [10, 11], [10, 11, 12], [0, 1], [0, 1, 5, 6, 7, 8, 9, 10, 11, 12, 13, 14], [2, 3, 4], [0, 1, 2, 3, 4, 5, 6, 7, 8, 9, 10, 11, 12, 13, 14, 15, 16]]) (act := [15, 17]) (hs := [hc.set id (.arr (IC (dc.setIfInBounds i2 dc[q]!)) ver true 57), hc.set id (.arr (IC (Go.Sort.swp dc i2 q)) ver true 57)]) (resL := [_, _, _, _, _, _, _, _, _, _, _, _, _, _, _, _, _, _]) (frF := [(0, .val (.slice (some ⟨id, 0, some ver⟩) d.size c)), (1, .val (i64 a)), (2, .val (i64 b)), (3, .val lessV), (9, .val (i64 i2)), (10, .val (i64 J))])
    case hm => exact mixed
    case hc => kernel_rfl
    case ha => rfl
    case hb => rfl
    case hS =>
      repeat (first | exact StepsA.nil _ | (apply StepsA.cons; (· rfl); (· (first | refine ⟨?_, trivial⟩ | refine ⟨?_, ?_, trivial⟩ | refine ⟨?_, ?_, ?_, trivial⟩ | refine ⟨?_, ?_, ?_, ?_, trivial⟩) <;> (apply zz; simp only [push_cast, env, Nat.reduceEqDiff, reduceIte, Nat.reduceAdd, Nat.reduceMul, Nat.reduceLeDiff, reduceCtorEq, Nat.reduceSub, Int.reduceToNat, hg, gp, gq, e5, rp, rq, Nat.mul_one] <;> exact rfl)); (· rfl)))
      apply StepsA.cons
      · rfl
      · refine ⟨?_, trivial⟩
        exact one_sto (r := .sl .unk) rfl (by simp only [push_cast, env, Nat.reduceEqDiff, reduceIte] <;> exact rfl) rfl (by simp only [push_cast, env, Nat.reduceEqDiff, reduceIte] <;> exact rfl) (by simp only [push_cast, env, Nat.reduceEqDiff, reduceIte] <;> exact rfl) hg (by simp only [push_cast, env, Nat.reduceEqDiff, reduceIte] <;> exact rfl) rfl (ic_set (d := dc) (i := i2) (x := dc[q]!) hp1) rfl rfl
      · rfl
      repeat (first | exact StepsA.nil _ | (apply StepsA.cons; (· rfl); (· (first | refine ⟨?_, trivial⟩ | refine ⟨?_, ?_, trivial⟩ | refine ⟨?_, ?_, ?_, trivial⟩ | refine ⟨?_, ?_, ?_, ?_, trivial⟩) <;> (apply zz; simp only [push_cast, env, Nat.reduceEqDiff, reduceIte, Nat.reduceAdd, Nat.reduceMul, Nat.reduceLeDiff, reduceCtorEq, Nat.reduceSub, Int.reduceToNat, hg, gp, gq, e5, rp, rq, Nat.mul_one] <;> exact rfl)); (· rfl)))
      apply StepsA.cons
      · rfl
      · refine ⟨?_, trivial⟩
        exact one_sto (r := .sl .unk) rfl (by simp only [push_cast, env, Nat.reduceEqDiff, reduceIte] <;> exact rfl) rfl (by simp only [push_cast, env, Nat.reduceEqDiff, reduceIte] <;> exact rfl) (by simp only [push_cast, env, Nat.reduceEqDiff, reduceIte] <;> exact rfl) (get_set_self hg) (by simp only [push_cast, env, Nat.reduceEqDiff, reduceIte] <;> exact rfl) rfl (ic_set (d := dc.setIfInBounds i2 dc[q]!) (i := q) (x := dc[i2]!) (by simpa using hq1)) rfl set_set_heap.symm
      · rfl
      exact StepsA.nil _
    case ht => rfl
    case hF => repeat (first | exact trivial | (refine ⟨.inl ⟨by decide, rfl⟩, ?_⟩) | (refine ⟨.inr ⟨rfl, by simp⟩, ?_⟩))
    show CW _ _ _ _
    have D2 := D1.swp hp1 hq1
    have h6 : hc.set id (.arr (IC (Go.Sort.swp dc i2 q)) ver true 57) = h.set id (.arr (IC (Go.Sort.swp dc i2 q)) ver true 57) := by rw [h4, set_set_heap]
    have h7 : (Go.Sort.swp dc i2 q).size = d.size := by rw [swp_size]; exact h3
    clear hp1 hq1 gp gq bp bq rp rq hg
    obtain ⟨d1', hd1⟩ : ∃ d1', Go.Sort.swp dc i2 q = d1' := ⟨_, rfl⟩
    rw [hd1] at D2 h6 h7 hstep
    rw [hd1, h6]
    rw [h6] at D2
    clear h6 D1 h4 hd1 h3
    obtain ⟨m1, hm1⟩ : ∃ m1, m1 = i2 - a := ⟨_, rfl⟩
    have e7 : IntKind.i64.wrap ((i2 : Int) - (a : Int)) = (m1 : Int) := by rw [wrap64_id (by omega) (by omega)]; omega
    obtain ⟨d2', hd2⟩ : ∃ d2', (if i2 - a ≥ 2 then Go.Sort.shiftDown ltI q d1' else d1') = d2' := ⟨_, rfl⟩
    rw [hd2] at hstep
    repeat (first | apply zs | apply zr | apply zn | ((first | apply zx | apply zy); · simp only [push_cast, env, Nat.reduceEqDiff, reduceIte, Nat.reduceAdd, Nat.reduceMul, Nat.reduceLeDiff, reduceCtorEq, Nat.reduceSub, Int.reduceToNat, e7] <;> first | exact rfl | exact .inl rfl | exact .inr rfl) | apply zq | apply zb | apply zo | apply zk | apply zl)
    refine CW.mono (Q := fun e s' => e = .normal ∧ s'.h = h.set id (.arr (IC d2') ver true 57) ∧ DA s'.h id ver d2' ∧ d2'.size = d.size ∧ SubL [(0, .val (.slice (some ⟨id, 0, some ver⟩) d.size c)), (1, .val (i64 a)), (2, .val (i64 b)), (3, .val lessV), (9, .val (i64 i2)), (10, .val (i64 J))] s'.fr) ?_ ?_
    · by_cases hm2 : 2 ≤ m1
      · have d8 : decide (2 ≤ (m1 : Int)) = true := decide_eq_true (by omega)
        rw [if_pos (by omega)] at hd2
        refine cw_condT (by simp only [push_cast, env, Nat.reduceEqDiff, reduceIte, d8] <;> exact rfl) ?_
        repeat (first | apply zs | apply zr | apply zn | ((first | apply zx | apply zy); · simp only [push_cast, env, Nat.reduceEqDiff, reduceIte, Nat.reduceAdd, Nat.reduceMul, Nat.reduceLeDiff, reduceCtorEq, Nat.reduceSub, Int.reduceToNat, e5] <;> first | exact rfl | exact .inl rfl | exact .inr rfl) | apply zq | apply zb | apply zo | apply zk | apply zl)
        refine cw_wh (fun x : Nat × Array Item × Heap => x.1) (fun x => [(0, .val (.slice (some ⟨id, 0, some ver⟩) d.size c)), (1, .val (i64 a)), (2, .val (i64 b)), (3, .val lessV), (9, .val (i64 i2)), (10, .val (i64 J)), (11, .val (i64 x.1))]) (fun x => x.2.2)
          (fun x => x.1 ≤ q ∧ x.2.1.size = d.size ∧ x.2.2 = h.set id (.arr (IC x.2.1) ver true 57) ∧ DA x.2.2 id ver x.2.1 ∧ Go.Sort.shiftDown ltI x.1 x.2.1 = d2') (q, d1', _) (by simp only [push_cast, Nat.reduceEqDiff, reduceIte]) rfl ⟨Nat.le_refl _, h7, rfl, D2, hd2⟩ ?_
        clear D2 h7 hd2 hstep e5 e7 hm1 hm2 d8
        rintro ⟨k, dk, hk⟩ ⟨k1, k2, k3, D3, k4⟩
        simp only at k1 k2 k3 D3 k4 ⊢
        cases k with
        | zero =>
          have k4' : d2' = dk := k4.symm
          repeat (first | apply zs | apply zr | apply zn | ((first | apply zx | apply zy); · simp only [push_cast, env, Nat.reduceEqDiff, reduceIte, Nat.reduceAdd, Nat.reduceMul, Nat.reduceLeDiff, reduceCtorEq, Nat.reduceSub, Int.reduceToNat] <;> first | exact rfl | exact .inl rfl | exact .inr rfl) | apply zq | apply zb | apply zo | apply zk | apply zl)
          refine cw_condF rfl ?_
          refine cw_exit ?_
          subst k4'
          exact ⟨rfl, k3, D3, k2, (by simp only [push_cast, Nat.reduceEqDiff, reduceIte])⟩
        | succ p =>
          have hun : Go.Sort.shiftDown ltI (p + 1) dk = if (!ltI dk[p + 1]! dk[p]!) = true then dk else Go.Sort.shiftDown ltI p (Go.Sort.swp dk (p + 1) p) := rfl
          rw [k4] at hun
          obtain ⟨K, hK⟩ : ∃ K, K = p + 1 := ⟨_, rfl⟩
          have d9 : decide (1 ≤ (K : Int)) = true := decide_eq_true (by omega)
          have e9 : IntKind.i64.wrap ((K : Int) - 1) = (p : Int) := by rw [wrap64_id (by omega) (by omega)]; omega
          rw [← hK] at hun k1 ⊢
          have hp1 : K < dk.size := by omega
          have hq1 : p < dk.size := by omega
          have gp := ic_get hp1
          have gq := ic_get hq1
          have bp := D3.b _ hp1
          have bq := D3.b _ hq1
          have rp := rng (k := K) (n := d.size) (by omega)
          have rq := rng (k := p) (n := d.size) (by omega)
          have hg := D3.g
          repeat (first | apply zs | apply zr | apply zn | ((first | apply zx | apply zy); · simp only [push_cast, env, Nat.reduceEqDiff, reduceIte, Nat.reduceAdd, Nat.reduceMul, Nat.reduceLeDiff, reduceCtorEq, Nat.reduceSub, Int.reduceToNat, d9] <;> first | exact rfl | exact .inl rfl | exact .inr rfl) | apply zq | apply zb | apply zo | apply zk | apply zl)
          refine cw_condT rfl ?_
          repeat (first | apply zs | apply zr | apply zn | ((first | apply zx | apply zy); · simp only [push_cast, env, Nat.reduceEqDiff, reduceIte, Nat.reduceAdd, Nat.reduceMul, Nat.reduceLeDiff, reduceCtorEq, Nat.reduceSub, Int.reduceToNat] <;> first | exact rfl | exact .inl rfl | exact .inr rfl) | apply zq | apply zb | apply zo | apply zk | apply zl)
          cases hl : ltI dk[K]! dk[p]! with
          | false =>
            have d7 : decide (cmpI dk[K]! dk[p]! < 0) = false := hl
            rw [hl] at hun
            have k4' : d2' = dk := hun
            apply cw_ord0 (L := [[], [], [], [1, 2], [3], [], [], [6], [5, 7], [8], [0, 4, 9], [10], [11]]) (resL := [_, _, _, _, _, _, _, _, _, _, _, _, _]) (frF := [(0, .val (.slice (some ⟨id, 0, some ver⟩) d.size c)), (1, .val (i64 a)), (2, .val (i64 b)), (3, .val lessV), (9, .val (i64 i2)), (10, .val (i64 J)), (84, .val (.bool true))])
            case hm => exact mixed
            case hc => kernel_rfl
            case hb => rfl
            case hS =>
              repeat (first | exact Steps0.nil _ | (apply Steps0.cons; (· apply zz; simp only [push_cast, env, Nat.reduceEqDiff, reduceIte, Nat.reduceAdd, Nat.reduceMul, Nat.reduceLeDiff, reduceCtorEq, Nat.reduceSub, Int.reduceToNat, e9, hg, gp, gq, rp, rq, Nat.mul_one] <;> exact rfl); (· rfl)))
              apply Steps0.cons
              · exact one_call (fn := Try.f44) (args := [dk[K]!.val, dk[p]!.val]) (cap := []) rfl (by simp only [push_cast, env, Nat.reduceEqDiff, reduceIte, e9] <;> exact rfl) rfl (by simp only [push_cast, env, Nat.reduceEqDiff, reduceIte] <;> exact rfl) (by simp only [push_cast, env, Nat.reduceEqDiff, reduceIte] <;> exact rfl) Try.func44 (by kernel_rfl) (by kernel_rfl) (less7_fw bp bq)
              · rfl
              repeat (first | exact Steps0.nil _ | (apply Steps0.cons; (· apply zz; simp only [push_cast, env, Nat.reduceEqDiff, reduceIte, Nat.reduceAdd, Nat.reduceMul, Nat.reduceLeDiff, reduceCtorEq, Nat.reduceSub, Int.reduceToNat, d7, e9] <;> exact rfl); (· rfl)))
            case ht => rfl
            case hF => repeat (first | exact trivial | (refine ⟨.inl ⟨by decide, rfl⟩, ?_⟩) | (refine ⟨.inr ⟨rfl, by simp⟩, ?_⟩))
            show CW _ _ _ _
            repeat (first | apply zs | apply zr | apply zn | ((first | apply zx | apply zy); · simp only [push_cast, env, Nat.reduceEqDiff, reduceIte, Nat.reduceAdd, Nat.reduceMul, Nat.reduceLeDiff, reduceCtorEq, Nat.reduceSub, Int.reduceToNat] <;> first | exact rfl | exact .inl rfl | exact .inr rfl) | apply zq | apply zb | apply zo | apply zk | apply zl)
            refine cw_condT rfl ?_
            refine cw_exit ?_
            subst k4'
            exact ⟨rfl, k3, D3, k2, (by simp only [push_cast, Nat.reduceEqDiff, reduceIte])⟩
          | true =>
            have d7 : decide (cmpI dk[K]! dk[p]! < 0) = true := hl
            rw [hl] at hun
            have k4' : d2' = Go.Sort.shiftDown ltI p (Go.Sort.swp dk K p) := hun
            apply cw_ord0 (L := [[], [], [], [1, 2], [3], [], [], [6], [5, 7], [8], [0, 4, 9], [10], [11]]) (resL := [_, _, _, _, _, _, _, _, _, _, _, _, _]) (frF := [(0, .val (.slice (some ⟨id, 0, some ver⟩) d.size c)), (1, .val (i64 a)), (2, .val (i64 b)), (3, .val lessV), (9, .val (i64 i2)), (10, .val (i64 J)), (11, .val (i64 K)), (84, .val (.bool false))])
            case hm => exact mixed
            case hc => kernel_rfl
            case hb => rfl
            case hS =>
              repeat (first | exact Steps0.nil _ | (apply Steps0.cons; (· apply zz; simp only [push_cast, env, Nat.reduceEqDiff, reduceIte, Nat.reduceAdd, Nat.reduceMul, Nat.reduceLeDiff, reduceCtorEq, Nat.reduceSub, Int.reduceToNat, e9, hg, gp, gq, rp, rq, Nat.mul_one] <;> exact rfl); (· rfl)))
              apply Steps0.cons
              · exact one_call (fn := Try.f44) (args := [dk[K]!.val, dk[p]!.val]) (cap := []) rfl (by simp only [push_cast, env, Nat.reduceEqDiff, reduceIte, e9] <;> exact rfl) rfl (by simp only [push_cast, env, Nat.reduceEqDiff, reduceIte] <;> exact rfl) (by simp only [push_cast, env, Nat.reduceEqDiff, reduceIte] <;> exact rfl) Try.func44 (by kernel_rfl) (by kernel_rfl) (less7_fw bp bq)
              · rfl
              repeat (first | exact Steps0.nil _ | (apply Steps0.cons; (· apply zz; simp only [push_cast, env, Nat.reduceEqDiff, reduceIte, Nat.reduceAdd, Nat.reduceMul, Nat.reduceLeDiff, reduceCtorEq, Nat.reduceSub, Int.reduceToNat, d7, e9] <;> exact rfl); (· rfl)))
            case ht => rfl
            case hF => repeat (first | exact trivial | (refine ⟨.inl ⟨by decide, rfl⟩, ?_⟩) | (refine ⟨.inr ⟨rfl, by simp⟩, ?_⟩))
            show CW _ _ _ _
            repeat (first | apply zs | apply zr | apply zn | ((first | apply zx | apply zy); · simp only [push_cast, env, Nat.reduceEqDiff, reduceIte, Nat.reduceAdd, Nat.reduceMul, Nat.reduceLeDiff, reduceCtorEq, Nat.reduceSub, Int.reduceToNat] <;> first | exact rfl | exact .inl rfl | exact .inr rfl) | apply zq | apply zb | apply zo | apply zk | apply zl)
            refine cw_condF rfl ?_
            repeat (first | apply zs | apply zr | apply zn | ((first | apply zx | apply zy); · simp only [push_cast, env, Nat.reduceEqDiff, reduceIte, Nat.reduceAdd, Nat.reduceMul, Nat.reduceLeDiff, reduceCtorEq, Nat.reduceSub, Int.reduceToNat] <;> first | exact rfl | exact .inl rfl | exact .inr rfl) | apply zq | apply zb | apply zo | apply zk | apply zl)
            refine cw_weakL [(0, .val (.slice (some ⟨id, 0, some ver⟩) d.size c)), (1, .val (i64 a)), (2, .val (i64 b)), (3, .val lessV), (9, .val (i64 i2)), (10, .val (i64 J)), (11, .val (i64 K))] (by simp only [push_cast, Nat.reduceEqDiff, reduceIte]) ?_
            show CW _ _ ⟨_, [], hk⟩ _
            apply cw_ordA (L := [[], [], [], [], [3], [], [], [6], [5, 6, 7], [5, 6, 7, 8], [], [], [10, 11], [10, 11, 12], [0, 1], [0, 1, 5, 6, 7, 8, 9, 10, 11, 12, 13, 14], [2, 3, 4], [0, 1, 2, 3, 4, 5, 6, 7, 8, 9, 10, 11, 12, 13, 14, 15, 16]]) (act := [15, 17]) (hs := [hk.set id (.arr (IC (dk.setIfInBounds K dk[p]!)) ver true 57), hk.set id (.arr (IC (Go.Sort.swp dk K p)) ver true 57)]) (resL := [_, _, _, _, _, _, _, _, _, _, _, _, _, _, _, _, _, _]) (frF := [(0, .val (.slice (some ⟨id, 0, some ver⟩) d.size c)), (1, .val (i64 a)), (2, .val (i64 b)), (3, .val lessV), (9, .val (i64 i2)), (10, .val (i64 J)), (11, .val (i64 K))])
            case hm => exact mixed
            case hc => kernel_rfl
            case ha => rfl
            case hb => rfl
            case hS =>
              repeat (first | exact StepsA.nil _ | (apply StepsA.cons; (· rfl); (· (first | refine ⟨?_, trivial⟩ | refine ⟨?_, ?_, trivial⟩ | refine ⟨?_, ?_, ?_, trivial⟩ | refine ⟨?_, ?_, ?_, ?_, trivial⟩) <;> (apply zz; simp only [push_cast, env, Nat.reduceEqDiff, reduceIte, Nat.reduceAdd, Nat.reduceMul, Nat.reduceLeDiff, reduceCtorEq, Nat.reduceSub, Int.reduceToNat, hg, gp, gq, e9, rp, rq, Nat.mul_one] <;> exact rfl)); (· rfl)))
              apply StepsA.cons
              · rfl
              · refine ⟨?_, trivial⟩
                exact one_sto (r := .sl .unk) rfl (by simp only [push_cast, env, Nat.reduceEqDiff, reduceIte] <;> exact rfl) rfl (by simp only [push_cast, env, Nat.reduceEqDiff, reduceIte] <;> exact rfl) (by simp only [push_cast, env, Nat.reduceEqDiff, reduceIte] <;> exact rfl) hg (by simp only [push_cast, env, Nat.reduceEqDiff, reduceIte] <;> exact rfl) rfl (ic_set (d := dk) (i := K) (x := dk[p]!) hp1) rfl rfl
              · rfl
              repeat (first | exact StepsA.nil _ | (apply StepsA.cons; (· rfl); (· (first | refine ⟨?_, trivial⟩ | refine ⟨?_, ?_, trivial⟩ | refine ⟨?_, ?_, ?_, trivial⟩ | refine ⟨?_, ?_, ?_, ?_, trivial⟩) <;> (apply zz; simp only [push_cast, env, Nat.reduceEqDiff, reduceIte, Nat.reduceAdd, Nat.reduceMul, Nat.reduceLeDiff, reduceCtorEq, Nat.reduceSub, Int.reduceToNat, hg, gp, gq, e9, rp, rq, Nat.mul_one] <;> exact rfl)); (· rfl)))
              apply StepsA.cons
              · rfl
              · refine ⟨?_, trivial⟩
                exact one_sto (r := .sl .unk) rfl (by simp only [push_cast, env, Nat.reduceEqDiff, reduceIte] <;> exact rfl) rfl (by simp only [push_cast, env, Nat.reduceEqDiff, reduceIte] <;> exact rfl) (by simp only [push_cast, env, Nat.reduceEqDiff, reduceIte] <;> exact rfl) (get_set_self hg) (by simp only [push_cast, env, Nat.reduceEqDiff, reduceIte] <;> exact rfl) rfl (ic_set (d := dk.setIfInBounds K dk[p]!) (i := p) (x := dk[K]!) (by simpa using hq1)) rfl set_set_heap.symm
              · rfl
              exact StepsA.nil _
            case ht => rfl
            case hF => repeat (first | exact trivial | (refine ⟨.inl ⟨by decide, rfl⟩, ?_⟩) | (refine ⟨.inr ⟨rfl, by simp⟩, ?_⟩))
            show CW _ _ _ _
            repeat (first | apply zs | apply zr | apply zn | ((first | apply zx | apply zy); · simp only [push_cast, env, Nat.reduceEqDiff, reduceIte, Nat.reduceAdd, Nat.reduceMul, Nat.reduceLeDiff, reduceCtorEq, Nat.reduceSub, Int.reduceToNat, e9] <;> first | exact rfl | exact .inl rfl | exact .inr rfl) | apply zq | apply zb | apply zo | apply zk | apply zl)
            exact ⟨(p, Go.Sort.swp dk K p, _), by simp only; omega, (by simp only [push_cast, Nat.reduceEqDiff, reduceIte]), rfl, by simp only; omega, by simp only; rw [swp_size]; exact k2, by simp only; rw [k3, set_set_heap], D3.swp hp1 hq1, k4'.symm⟩
      · have d8 : decide (2 ≤ (m1 : Int)) = false := decide_eq_false (by omega)
        rw [if_neg (by omega)] at hd2
        subst hd2
        refine cw_condF (by simp only [push_cast, env, Nat.reduceEqDiff, reduceIte, d8] <;> exact rfl) ?_
        repeat (first | apply zs | apply zr | apply zn | ((first | apply zx | apply zy); · simp only [push_cast, env, Nat.reduceEqDiff, reduceIte, Nat.reduceAdd, Nat.reduceMul, Nat.reduceLeDiff, reduceCtorEq, Nat.reduceSub, Int.reduceToNat] <;> first | exact rfl | exact .inl rfl | exact .inr rfl) | apply zq | apply zb | apply zo | apply zk | apply zl)
        exact ⟨rfl, rfl, D2, h7, (by simp only [push_cast, Nat.reduceEqDiff, reduceIte])⟩
    rintro e s' ⟨rfl, hh, D3, h8, hf⟩
    show CW _ _ _ _
    refine cw_weakL _ hf ?_
    rw [hh] at D3 ⊢
    clear hf hh D2 hd2 h7 e7 hm1 e5 m1
    obtain ⟨m1, hm1⟩ : ∃ m1, m1 = b - i2 := ⟨_, rfl⟩
    have e7 : IntKind.i64.wrap ((b : Int) - (i2 : Int)) = (m1 : Int) := by rw [wrap64_id (by omega) (by omega)]; omega
    obtain ⟨d3', hd3⟩ : ∃ d3', (if b - i2 ≥ 2 then Go.Sort.shiftUp ltI b (i2 + 1) d2' else d2') = d3' := ⟨_, rfl⟩
    rw [hd3] at hstep
    repeat (first | apply zs | apply zr | apply zn | ((first | apply zx | apply zy); · simp only [push_cast, env, Nat.reduceEqDiff, reduceIte, Nat.reduceAdd, Nat.reduceMul, Nat.reduceLeDiff, reduceCtorEq, Nat.reduceSub, Int.reduceToNat, e7] <;> first | exact rfl | exact .inl rfl | exact .inr rfl) | apply zq | apply zb | apply zo | apply zk | apply zl)
    refine CW.mono (Q := fun e s' => e = .normal ∧ s'.h = h.set id (.arr (IC d3') ver true 57) ∧ DA s'.h id ver d3' ∧ d3'.size = d.size ∧ SubL [(0, .val (.slice (some ⟨id, 0, some ver⟩) d.size c)), (1, .val (i64 a)), (2, .val (i64 b)), (3, .val lessV), (9, .val (i64 i2)), (10, .val (i64 J))] s'.fr) ?_ ?_
    · by_cases hm2 : 2 ≤ m1
      · have d8 : decide (2 ≤ (m1 : Int)) = true := decide_eq_true (by omega)
        have e8 : IntKind.i64.wrap ((i2 : Int) + 1) = ((i2 + 1 : Nat) : Int) := by rw [wrap64_id (by omega) (by omega)]; omega
        rw [if_pos (by omega)] at hd3
        obtain ⟨i3, hi3⟩ : ∃ i3, i3 = i2 + 1 := ⟨_, rfl⟩
        rw [← hi3] at e8 hd3
        refine cw_condT (by simp only [push_cast, env, Nat.reduceEqDiff, reduceIte, d8] <;> exact rfl) ?_
        repeat (first | apply zs | apply zr | apply zn | ((first | apply zx | apply zy); · simp only [push_cast, env, Nat.reduceEqDiff, reduceIte, Nat.reduceAdd, Nat.reduceMul, Nat.reduceLeDiff, reduceCtorEq, Nat.reduceSub, Int.reduceToNat, e8] <;> first | exact rfl | exact .inl rfl | exact .inr rfl) | apply zq | apply zb | apply zo | apply zk | apply zl)
        refine cw_wh (fun x : Nat × Array Item × Heap => b - x.1) (fun x => [(0, .val (.slice (some ⟨id, 0, some ver⟩) d.size c)), (1, .val (i64 a)), (2, .val (i64 b)), (3, .val lessV), (9, .val (i64 i2)), (10, .val (i64 J)), (12, .val (i64 x.1))]) (fun x => x.2.2)
          (fun x => 1 ≤ x.1 ∧ x.1 ≤ b ∧ x.2.1.size = d.size ∧ x.2.2 = h.set id (.arr (IC x.2.1) ver true 57) ∧ DA x.2.2 id ver x.2.1 ∧ Go.Sort.shiftUp ltI b x.1 x.2.1 = d3') (i3, d2', _) (by simp only [push_cast, Nat.reduceEqDiff, reduceIte]) rfl ⟨by simp only; omega, by simp only; omega, h8, rfl, D3, hd3⟩ ?_
        clear D3 h8 hd3 hstep e7 e8 hm1 hm2 d8
        rintro ⟨K, dk, hk⟩ ⟨k0, k1, k2, k3, D3, k4⟩
        simp only at k0 k1 k2 k3 D3 k4 ⊢
        by_cases hKb : K < b
        · have d9 : decide ((K : Int) < (b : Int)) = true := decide_eq_true (by omega)
          obtain ⟨p, hp⟩ : ∃ p, p = K - 1 := ⟨_, rfl⟩
          have e9 : IntKind.i64.wrap ((K : Int) - 1) = (p : Int) := by rw [wrap64_id (by omega) (by omega)]; omega
          have e10 : IntKind.i64.wrap ((K : Int) + 1) = (K : Int) + 1 := wrap64_id (by omega) (by omega)
          have hp1 : K < dk.size := by omega
          have hq1 : p < dk.size := by omega
          have gp := ic_get hp1
          have gq := ic_get hq1
          have bp := D3.b _ hp1
          have bq := D3.b _ hq1
          have rp := rng (k := K) (n := d.size) (by omega)
          have rq := rng (k := p) (n := d.size) (by omega)
          have hg := D3.g
          repeat (first | apply zs | apply zr | apply zn | ((first | apply zx | apply zy); · simp only [push_cast, env, Nat.reduceEqDiff, reduceIte, Nat.reduceAdd, Nat.reduceMul, Nat.reduceLeDiff, reduceCtorEq, Nat.reduceSub, Int.reduceToNat, d9] <;> first | exact rfl | exact .inl rfl | exact .inr rfl) | apply zq | apply zb | apply zo | apply zk | apply zl)
          refine cw_condT rfl ?_
          repeat (first | apply zs | apply zr | apply zn | ((first | apply zx | apply zy); · simp only [push_cast, env, Nat.reduceEqDiff, reduceIte, Nat.reduceAdd, Nat.reduceMul, Nat.reduceLeDiff, reduceCtorEq, Nat.reduceSub, Int.reduceToNat] <;> first | exact rfl | exact .inl rfl | exact .inr rfl) | apply zq | apply zb | apply zo | apply zk | apply zl)
          cases hl : ltI dk[K]! dk[p]! with
          | false =>
            have d7 : decide (cmpI dk[K]! dk[p]! < 0) = false := hl
            rw [shiftUp_stop (by rw [← hp, hl]; simp)] at k4
            have k4' : d3' = dk := k4.symm
            apply cw_ord0 (L := [[], [], [], [1, 2], [3], [], [], [6], [5, 7], [8], [0, 4, 9], [10], [11]]) (resL := [_, _, _, _, _, _, _, _, _, _, _, _, _]) (frF := [(0, .val (.slice (some ⟨id, 0, some ver⟩) d.size c)), (1, .val (i64 a)), (2, .val (i64 b)), (3, .val lessV), (9, .val (i64 i2)), (10, .val (i64 J)), (124, .val (.bool true))])
            case hm => exact mixed
            case hc => kernel_rfl
            case hb => rfl
            case hS =>
              repeat (first | exact Steps0.nil _ | (apply Steps0.cons; (· apply zz; simp only [push_cast, env, Nat.reduceEqDiff, reduceIte, Nat.reduceAdd, Nat.reduceMul, Nat.reduceLeDiff, reduceCtorEq, Nat.reduceSub, Int.reduceToNat, e9, hg, gp, gq, rp, rq, Nat.mul_one] <;> exact rfl); (· rfl)))
              apply Steps0.cons
              · exact one_call (fn := Try.f44) (args := [dk[K]!.val, dk[p]!.val]) (cap := []) rfl (by simp only [push_cast, env, Nat.reduceEqDiff, reduceIte, e9] <;> exact rfl) rfl (by simp only [push_cast, env, Nat.reduceEqDiff, reduceIte] <;> exact rfl) (by simp only [push_cast, env, Nat.reduceEqDiff, reduceIte] <;> exact rfl) Try.func44 (by kernel_rfl) (by kernel_rfl) (less7_fw bp bq)
              · rfl
              repeat (first | exact Steps0.nil _ | (apply Steps0.cons; (· apply zz; simp only [push_cast, env, Nat.reduceEqDiff, reduceIte, Nat.reduceAdd, Nat.reduceMul, Nat.reduceLeDiff, reduceCtorEq, Nat.reduceSub, Int.reduceToNat, d7, e9] <;> exact rfl); (· rfl)))
            case ht => rfl
            case hF => repeat (first | exact trivial | (refine ⟨.inl ⟨by decide, rfl⟩, ?_⟩) | (refine ⟨.inr ⟨rfl, by simp⟩, ?_⟩))
            show CW _ _ _ _
            repeat (first | apply zs | apply zr | apply zn | ((first | apply zx | apply zy); · simp only [push_cast, env, Nat.reduceEqDiff, reduceIte, Nat.reduceAdd, Nat.reduceMul, Nat.reduceLeDiff, reduceCtorEq, Nat.reduceSub, Int.reduceToNat] <;> first | exact rfl | exact .inl rfl | exact .inr rfl) | apply zq | apply zb | apply zo | apply zk | apply zl)
            refine cw_condT rfl ?_
            refine cw_exit ?_
            subst k4'
            exact ⟨rfl, k3, D3, k2, (by simp only [push_cast, Nat.reduceEqDiff, reduceIte])⟩
          | true =>
            have d7 : decide (cmpI dk[K]! dk[p]! < 0) = true := hl
            rw [shiftUp_step hKb (by rw [← hp]; exact hl), ← hp] at k4
            apply cw_ord0 (L := [[], [], [], [1, 2], [3], [], [], [6], [5, 7], [8], [0, 4, 9], [10], [11]]) (resL := [_, _, _, _, _, _, _, _, _, _, _, _, _]) (frF := [(0, .val (.slice (some ⟨id, 0, some ver⟩) d.size c)), (1, .val (i64 a)), (2, .val (i64 b)), (3, .val lessV), (9, .val (i64 i2)), (10, .val (i64 J)), (12, .val (i64 K)), (124, .val (.bool false))])
            case hm => exact mixed
            case hc => kernel_rfl
            case hb => rfl
            case hS =>
              repeat (first | exact Steps0.nil _ | (apply Steps0.cons; (· apply zz; simp only [push_cast, env, Nat.reduceEqDiff, reduceIte, Nat.reduceAdd, Nat.reduceMul, Nat.reduceLeDiff, reduceCtorEq, Nat.reduceSub, Int.reduceToNat, e9, hg, gp, gq, rp, rq, Nat.mul_one] <;> exact rfl); (· rfl)))
              apply Steps0.cons
              · exact one_call (fn := Try.f44) (args := [dk[K]!.val, dk[p]!.val]) (cap := []) rfl (by simp only [push_cast, env, Nat.reduceEqDiff, reduceIte, e9] <;> exact rfl) rfl (by simp only [push_cast, env, Nat.reduceEqDiff, reduceIte] <;> exact rfl) (by simp only [push_cast, env, Nat.reduceEqDiff, reduceIte] <;> exact rfl) Try.func44 (by kernel_rfl) (by kernel_rfl) (less7_fw bp bq)
              · rfl
              repeat (first | exact Steps0.nil _ | (apply Steps0.cons; (· apply zz; simp only [push_cast, env, Nat.reduceEqDiff, reduceIte, Nat.reduceAdd, Nat.reduceMul, Nat.reduceLeDiff, reduceCtorEq, Nat.reduceSub, Int.reduceToNat, d7, e9] <;> exact rfl); (· rfl)))
            case ht => rfl
            case hF => repeat (first | exact trivial | (refine ⟨.inl ⟨by decide, rfl⟩, ?_⟩) | (refine ⟨.inr ⟨rfl, by simp⟩, ?_⟩))
            show CW _ _ _ _
            repeat (first | apply zs | apply zr | apply zn | ((first | apply zx | apply zy); · simp only [push_cast, env, Nat.reduceEqDiff, reduceIte, Nat.reduceAdd, Nat.reduceMul, Nat.reduceLeDiff, reduceCtorEq, Nat.reduceSub, Int.reduceToNat] <;> first | exact rfl | exact .inl rfl | exact .inr rfl) | apply zq | apply zb | apply zo | apply zk | apply zl)
            refine cw_condF rfl ?_
            repeat (first | apply zs | apply zr | apply zn | ((first | apply zx | apply zy); · simp only [push_cast, env, Nat.reduceEqDiff, reduceIte, Nat.reduceAdd, Nat.reduceMul, Nat.reduceLeDiff, reduceCtorEq, Nat.reduceSub, Int.reduceToNat] <;> first | exact rfl | exact .inl rfl | exact .inr rfl) | apply zq | apply zb | apply zo | apply zk | apply zl)
            refine cw_weakL [(0, .val (.slice (some ⟨id, 0, some ver⟩) d.size c)), (1, .val (i64 a)), (2, .val (i64 b)), (3, .val lessV), (9, .val (i64 i2)), (10, .val (i64 J)), (12, .val (i64 K))] (by simp only [push_cast, Nat.reduceEqDiff, reduceIte]) ?_
            show CW _ _ ⟨_, [], hk⟩ _
            apply cw_ordA (L := [[], [], [], [], [3], [], [], [6], [5, 6, 7], [5, 6, 7, 8], [], [], [10, 11], [10, 11, 12], [0, 1], [0, 1, 5, 6, 7, 8, 9, 10, 11, 12, 13, 14], [2, 3, 4], [0, 1, 2, 3, 4, 5, 6, 7, 8, 9, 10, 11, 12, 13, 14, 15, 16]]) (act := [15, 17]) (hs := [hk.set id (.arr (IC (dk.setIfInBounds K dk[p]!)) ver true 57), hk.set id (.arr (IC (Go.Sort.swp dk K p)) ver true 57)]) (resL := [_, _, _, _, _, _, _, _, _, _, _, _, _, _, _, _, _, _]) (frF := [(0, .val (.slice (some ⟨id, 0, some ver⟩) d.size c)), (1, .val (i64 a)), (2, .val (i64 b)), (3, .val lessV), (9, .val (i64 i2)), (10, .val (i64 J)), (12, .val (i64 K))])
            case hm => exact mixed
            case hc => kernel_rfl
            case ha => rfl
            case hb => rfl
            case hS =>
              repeat (first | exact StepsA.nil _ | (apply StepsA.cons; (· rfl); (· (first | refine ⟨?_, trivial⟩ | refine ⟨?_, ?_, trivial⟩ | refine ⟨?_, ?_, ?_, trivial⟩ | refine ⟨?_, ?_, ?_, ?_, trivial⟩) <;> (apply zz; simp only [push_cast, env, Nat.reduceEqDiff, reduceIte, Nat.reduceAdd, Nat.reduceMul, Nat.reduceLeDiff, reduceCtorEq, Nat.reduceSub, Int.reduceToNat, hg, gp, gq, e9, rp, rq, Nat.mul_one] <;> exact rfl)); (· rfl)))
              apply StepsA.cons
              · rfl
              · refine ⟨?_, trivial⟩
                exact one_sto (r := .sl .unk) rfl (by simp only [push_cast, env, Nat.reduceEqDiff, reduceIte] <;> exact rfl) rfl (by simp only [push_cast, env, Nat.reduceEqDiff, reduceIte] <;> exact rfl) (by simp only [push_cast, env, Nat.reduceEqDiff, reduceIte] <;> exact rfl) hg (by simp only [push_cast, env, Nat.reduceEqDiff, reduceIte] <;> exact rfl) rfl (ic_set (d := dk) (i := K) (x := dk[p]!) hp1) rfl rfl
              · rfl
              repeat (first | exact StepsA.nil _ | (apply StepsA.cons; (· rfl); (· (first | refine ⟨?_, trivial⟩ | refine ⟨?_, ?_, trivial⟩ | refine ⟨?_, ?_, ?_, trivial⟩ | refine ⟨?_, ?_, ?_, ?_, trivial⟩) <;> (apply zz; simp only [push_cast, env, Nat.reduceEqDiff, reduceIte, Nat.reduceAdd, Nat.reduceMul, Nat.reduceLeDiff, reduceCtorEq, Nat.reduceSub, Int.reduceToNat, hg, gp, gq, e9, rp, rq, Nat.mul_one] <;> exact rfl)); (· rfl)))
              apply StepsA.cons
              · rfl
              · refine ⟨?_, trivial⟩
                exact one_sto (r := .sl .unk) rfl (by simp only [push_cast, env, Nat.reduceEqDiff, reduceIte] <;> exact rfl) rfl (by simp only [push_cast, env, Nat.reduceEqDiff, reduceIte] <;> exact rfl) (by simp only [push_cast, env, Nat.reduceEqDiff, reduceIte] <;> exact rfl) (get_set_self hg) (by simp only [push_cast, env, Nat.reduceEqDiff, reduceIte] <;> exact rfl) rfl (ic_set (d := dk.setIfInBounds K dk[p]!) (i := p) (x := dk[K]!) (by simpa using hq1)) rfl set_set_heap.symm
              · rfl
              exact StepsA.nil _
            case ht => rfl
            case hF => repeat (first | exact trivial | (refine ⟨.inl ⟨by decide, rfl⟩, ?_⟩) | (refine ⟨.inr ⟨rfl, by simp⟩, ?_⟩))
            show CW _ _ _ _
            repeat (first | apply zs | apply zr | apply zn | ((first | apply zx | apply zy); · simp only [push_cast, env, Nat.reduceEqDiff, reduceIte, Nat.reduceAdd, Nat.reduceMul, Nat.reduceLeDiff, reduceCtorEq, Nat.reduceSub, Int.reduceToNat, e10] <;> first | exact rfl | exact .inl rfl | exact .inr rfl) | apply zq | apply zb | apply zo | apply zk | apply zl)
            exact ⟨(K + 1, Go.Sort.swp dk K p, _), by simp only; omega, (by simp only [push_cast, Nat.reduceEqDiff, reduceIte]), rfl, by simp only; omega, by simp only; omega, by simp only; rw [swp_size]; exact k2, by simp only; rw [k3, set_set_heap], D3.swp hp1 hq1, k4⟩
        · have d9 : decide ((K : Int) < (b : Int)) = false := decide_eq_false (by omega)
          rw [shiftUp_stop (by omega)] at k4
          have k4' : d3' = dk := k4.symm
          repeat (first | apply zs | apply zr | apply zn | ((first | apply zx | apply zy); · simp only [push_cast, env, Nat.reduceEqDiff, reduceIte, Nat.reduceAdd, Nat.reduceMul, Nat.reduceLeDiff, reduceCtorEq, Nat.reduceSub, Int.reduceToNat, d9] <;> first | exact rfl | exact .inl rfl | exact .inr rfl) | apply zq | apply zb | apply zo | apply zk | apply zl)
          refine cw_condF rfl ?_
          refine cw_exit ?_
          subst k4'
          exact ⟨rfl, k3, D3, k2, (by simp only [push_cast, Nat.reduceEqDiff, reduceIte])⟩
      · have d8 : decide (2 ≤ (m1 : Int)) = false := decide_eq_false (by omega)
        rw [if_neg (by omega)] at hd3
        subst hd3
        refine cw_condF (by simp only [push_cast, env, Nat.reduceEqDiff, reduceIte, d8] <;> exact rfl) ?_
        repeat (first | apply zs | apply zr | apply zn | ((first | apply zx | apply zy); · simp only [push_cast, env, Nat.reduceEqDiff, reduceIte, Nat.reduceAdd, Nat.reduceMul, Nat.reduceLeDiff, reduceCtorEq, Nat.reduceSub, Int.reduceToNat] <;> first | exact rfl | exact .inl rfl | exact .inr rfl) | apply zq | apply zb | apply zo | apply zk | apply zl)
        exact ⟨rfl, rfl, D3, h8, (by simp only [push_cast, Nat.reduceEqDiff, reduceIte])⟩
    rintro e s' ⟨rfl, hh, D4, h9, hf⟩
    show CW _ _ _ _
    refine cw_weakL _ hf ?_
    rw [hh] at D4 ⊢
    repeat (first | apply zs | apply zr | apply zn | ((first | apply zx | apply zy); · simp only [push_cast, env, Nat.reduceEqDiff, reduceIte, Nat.reduceAdd, Nat.reduceMul, Nat.reduceLeDiff, reduceCtorEq, Nat.reduceSub, Int.reduceToNat, eJ] <;> first | exact rfl | exact .inl rfl | exact .inr rfl) | apply zq | apply zb | apply zo | apply zk | apply zl)
    exact ⟨(J + 1, i2, d3', _), by simp only; omega, (by simp only [push_cast, Nat.reduceEqDiff, reduceIte]), rfl, by simp only; omega, by simp only; omega, by simp only; omega, h9, rfl, D4, by simp only; rw [show 5 - (J + 1) = s by omega]; exact hstep.symm⟩
  · have d1 : decide ((J : Int) < 5) = false := decide_eq_false (by omega)
    rw [show 5 - J = 0 by omega] at h5
    have hend : P = (dc, false) := h5.symm
    repeat (first | apply zs | apply zr | apply zn | ((first | apply zx | apply zy); · simp only [push_cast, env, Nat.reduceEqDiff, reduceIte, Nat.reduceAdd, Nat.reduceMul, Nat.reduceLeDiff, reduceCtorEq, Nat.reduceSub, Int.reduceToNat, d1] <;> first | exact rfl | exact .inl rfl | exact .inr rfl) | apply zq | apply zb | apply zo | apply zk | apply zl)
    refine cw_condF rfl ?_
    refine cw_exit ?_
    show CW _ _ _ _
    repeat (first | apply zs | apply zr | apply zn | ((first | apply zx | apply zy); · simp only [push_cast, env, Nat.reduceEqDiff, reduceIte, Nat.reduceAdd, Nat.reduceMul, Nat.reduceLeDiff, reduceCtorEq, Nat.reduceSub, Int.reduceToNat] <;> first | exact rfl | exact .inl rfl | exact .inr rfl) | apply zq | apply zb | apply zo | apply zk | apply zl)
    refine cw_ret ?_
    rw [hend]
    exact ⟨_, (by simp only [push_cast, env, Nat.reduceEqDiff, reduceIte] <;> exact rfl), rfl, h4, D1, h3⟩
end Go.Proofs.Ytafncpgiibikcaa

namespace Go.Proofs.Ytafncpgiibikcaa
set_option linter.unusedSimpArgs false
set_option linter.unusedVariables false
set_option maxRecDepth 20000
open Go.RowKit Am Ty

set_option maxHeartbeats 4000000 in
theorem order2_fw {h : Heap} {id ver c a b n sid : Nat} {d : Array Item} (D : DA h id ver d) (ha : a < d.size) (hb : b < d.size) (hs : h[sid]? = some (.arr [i64 n] 0 true 3)) (hn : n ≤ 1000) :
    FW env 84 [.slice (some ⟨id, 0, some ver⟩) d.size c, i64 a, i64 b, .pointer (some ⟨sid, 0, some 0⟩), lessV] h fun r h' =>
      r = .tuple #[i64 (Go.Sort.order2 ltI d a b n).1, i64 (Go.Sort.order2 ltI d a b n).2.1] ∧ h' = h.set sid (.arr [i64 (Go.Sort.order2 ltI d a b n).2.2] 0 true 3) := by
  have hg := D.g
  have hsz := D.n
  have ga := ic_get ha
  have gb := ic_get hb
  have ba := D.b _ ha
  have bb := D.b _ hb
  have ra := rng (k := a) (n := d.size) ha
  have rb := rng (k := b) (n := d.size) hb
  have e1 : IntKind.i64.wrap ((n : Int) + 1) = ((n + 1 : Nat) : Int) := by rw [wrap64_id (by omega) (by omega)]; omega
  refine fw_enter (fn := Try.f84) Try.func84 rfl (by kernel_rfl) (by simp [Try.ntmps84]) ?_; simp only [push_cast]
  repeat (first | apply zs | apply zr | apply zn | ((first | apply zx | apply zy); · simp only [push_cast, env, Nat.reduceEqDiff, reduceIte, Nat.reduceAdd, Nat.reduceMul, Nat.reduceLeDiff, reduceCtorEq, Nat.reduceSub, Int.reduceToNat] <;> first | exact rfl | exact .inl rfl | exact .inr rfl) | apply zq | apply zb | apply zo | apply zk | apply zl)
  refine cw_weakL [(0, .val (.slice (some ⟨id, 0, some ver⟩) d.size c)), (1, .val (i64 a)), (2, .val (i64 b)), (3, .val (.pointer (some ⟨sid, 0, some 0⟩))), (4, .val lessV)] (by simp only [push_cast, Nat.reduceEqDiff, reduceIte]) ?_
  show CW _ _ ⟨_, [], h⟩ _
  cases hl : ltI d[b]! d[a]! with
  | false =>
    have d7 : decide (cmpI d[b]! d[a]! < 0) = false := hl
    have ho : Go.Sort.order2 ltI d a b n = (a, b, n) := by unfold Go.Sort.order2; rw [hl]; rfl
    apply cw_ord0 (L := [[], [], [], [1, 2], [3], [], [], [5, 6], [7], [0, 4, 8], [9]]) (resL := [_, _, _, _, _, _, _, _, _, _, _]) (frF := [(1, .val (i64 a)), (2, .val (i64 b)), (22, .val (.bool false))])
    case hm => exact mixed
    case hc => kernel_rfl
    case hb => rfl
    case hS =>
      repeat (first | exact Steps0.nil _ | (apply Steps0.cons; (· apply zz; simp only [push_cast, env, Nat.reduceEqDiff, reduceIte, Nat.reduceAdd, Nat.reduceMul, Nat.reduceLeDiff, reduceCtorEq, Nat.reduceSub, Int.reduceToNat, hg, ga, gb, ra, rb, Nat.mul_one] <;> exact rfl); (· rfl)))
      apply Steps0.cons
      · exact one_call (fn := Try.f44) (args := [d[b]!.val, d[a]!.val]) (cap := []) rfl (by simp only [push_cast, env, Nat.reduceEqDiff, reduceIte] <;> exact rfl) rfl (by simp only [push_cast, env, Nat.reduceEqDiff, reduceIte] <;> exact rfl) (by simp only [push_cast, env, Nat.reduceEqDiff, reduceIte] <;> exact rfl) Try.func44 (by kernel_rfl) (by kernel_rfl) (less7_fw bb ba)
      · rfl
      repeat (first | exact Steps0.nil _ | (apply Steps0.cons; (· apply zz; simp only [push_cast, env, Nat.reduceEqDiff, reduceIte, Nat.reduceAdd, Nat.reduceMul, Nat.reduceLeDiff, reduceCtorEq, Nat.reduceSub, Int.reduceToNat, d7] <;> exact rfl); (· rfl)))
    case ht => rfl
    case hF => repeat (first | exact trivial | (refine ⟨.inl ⟨by decide, rfl⟩, ?_⟩) | (refine ⟨.inr ⟨rfl, by simp⟩, ?_⟩))
    show CW _ _ _ _
    repeat (first | apply zs | apply zr | apply zn | ((first | apply zx | apply zy); · simp only [push_cast, env, Nat.reduceEqDiff, reduceIte, Nat.reduceAdd, Nat.reduceMul, Nat.reduceLeDiff, reduceCtorEq, Nat.reduceSub, Int.reduceToNat] <;> first | exact rfl | exact .inl rfl | exact .inr rfl) | apply zq | apply zb | apply zo | apply zk | apply zl)
    refine cw_condF rfl ?_
    repeat (first | apply zs | apply zr | apply zn | ((first | apply zx | apply zy); · simp only [push_cast, env, Nat.reduceEqDiff, reduceIte, Nat.reduceAdd, Nat.reduceMul, Nat.reduceLeDiff, reduceCtorEq, Nat.reduceSub, Int.reduceToNat] <;> first | exact rfl | exact .inl rfl | exact .inr rfl) | apply zq | apply zb | apply zo | apply zk | apply zl)
    refine cw_ret ?_
    exact ⟨_, (by simp only [push_cast, env, Nat.reduceEqDiff, reduceIte] <;> exact rfl), by rw [ho]; rfl, by rw [ho]; exact (set_same hs).symm⟩
  | true =>
    have d7 : decide (cmpI d[b]! d[a]! < 0) = true := hl
    have ho : Go.Sort.order2 ltI d a b n = (b, a, n + 1) := by unfold Go.Sort.order2; rw [hl]; rfl
    apply cw_ord0 (L := [[], [], [], [1, 2], [3], [], [], [5, 6], [7], [0, 4, 8], [9]]) (resL := [_, _, _, _, _, _, _, _, _, _, _]) (frF := [(1, .val (i64 a)), (2, .val (i64 b)), (3, .val (.pointer (some ⟨sid, 0, some 0⟩))), (22, .val (.bool true))])
    case hm => exact mixed
    case hc => kernel_rfl
    case hb => rfl
    case hS =>
      repeat (first | exact Steps0.nil _ | (apply Steps0.cons; (· apply zz; simp only [push_cast, env, Nat.reduceEqDiff, reduceIte, Nat.reduceAdd, Nat.reduceMul, Nat.reduceLeDiff, reduceCtorEq, Nat.reduceSub, Int.reduceToNat, hg, ga, gb, ra, rb, Nat.mul_one] <;> exact rfl); (· rfl)))
      apply Steps0.cons
      · exact one_call (fn := Try.f44) (args := [d[b]!.val, d[a]!.val]) (cap := []) rfl (by simp only [push_cast, env, Nat.reduceEqDiff, reduceIte] <;> exact rfl) rfl (by simp only [push_cast, env, Nat.reduceEqDiff, reduceIte] <;> exact rfl) (by simp only [push_cast, env, Nat.reduceEqDiff, reduceIte] <;> exact rfl) Try.func44 (by kernel_rfl) (by kernel_rfl) (less7_fw bb ba)
      · rfl
      repeat (first | exact Steps0.nil _ | (apply Steps0.cons; (· apply zz; simp only [push_cast, env, Nat.reduceEqDiff, reduceIte, Nat.reduceAdd, Nat.reduceMul, Nat.reduceLeDiff, reduceCtorEq, Nat.reduceSub, Int.reduceToNat, d7] <;> exact rfl); (· rfl)))
    case ht => rfl
    case hF => repeat (first | exact trivial | (refine ⟨.inl ⟨by decide, rfl⟩, ?_⟩) | (refine ⟨.inr ⟨rfl, by simp⟩, ?_⟩))
    show CW _ _ _ _
    repeat (first | apply zs | apply zr | apply zn | ((first | apply zx | apply zy); · simp only [push_cast, env, Nat.reduceEqDiff, reduceIte, Nat.reduceAdd, Nat.reduceMul, Nat.reduceLeDiff, reduceCtorEq, Nat.reduceSub, Int.reduceToNat] <;> first | exact rfl | exact .inl rfl | exact .inr rfl) | apply zq | apply zb | apply zo | apply zk | apply zl)
    refine cw_condT rfl ?_
    repeat (first | apply zs | apply zr | apply zn | ((first | apply zx | apply zy); · simp only [push_cast, env, Nat.reduceEqDiff, reduceIte, Nat.reduceAdd, Nat.reduceMul, Nat.reduceLeDiff, reduceCtorEq, Nat.reduceSub, Int.reduceToNat, hs, e1] <;> first | exact rfl | exact .inl rfl | exact .inr rfl) | apply zq | apply zb | apply zo | apply zk | apply zl)
    refine ow_stoH (by simp only [push_cast, env, Nat.reduceEqDiff, reduceIte] <;> exact rfl) rfl rfl (by simp only [push_cast, env, Nat.reduceEqDiff, reduceIte] <;> exact rfl) (by simp only [push_cast, env, Nat.reduceEqDiff, reduceIte] <;> exact rfl) hs (by simp only [push_cast, env, Nat.reduceEqDiff, reduceIte] <;> exact rfl) rfl rfl ?_
    repeat (first | apply zs | apply zr | apply zn | ((first | apply zx | apply zy); · simp only [push_cast, env, Nat.reduceEqDiff, reduceIte, Nat.reduceAdd, Nat.reduceMul, Nat.reduceLeDiff, reduceCtorEq, Nat.reduceSub, Int.reduceToNat] <;> first | exact rfl | exact .inl rfl | exact .inr rfl) | apply zq | apply zb | apply zo | apply zk | apply zl)
    refine cw_ret ?_
    exact ⟨_, (by simp only [push_cast, env, Nat.reduceEqDiff, reduceIte] <;> exact rfl), by rw [ho]; rfl, by rw [ho]; rfl⟩
end Go.Proofs.Ytafncpgiibikcaa

namespace Go.Proofs.Ytafncpgiibikcaa
set_option linter.unusedSimpArgs false
set_option linter.unusedVariables false
set_option maxRecDepth 20000
open Go.RowKit Am Ty

theorem order2_bd {d : Array Item} {a b n : Nat} (ha : a < d.size) (hb : b < d.size) : (Go.Sort.order2 ltI d a b n).1 < d.size ∧ (Go.Sort.order2 ltI d a b n).2.1 < d.size ∧ (Go.Sort.order2 ltI d a b n).2.2 ≤ n + 1 := by
  unfold Go.Sort.order2
  split
  · exact ⟨hb, ha, Nat.le_refl _⟩
  · exact ⟨ha, hb, Nat.le_succ _⟩
theorem DA.ctr {h : Heap} {id ver sid n m : Nat} {d : Array Item} (D : DA h id ver d) (hs : h[sid]? = some (.arr [i64 n] 0 true 3)) : DA (h.set sid (.arr [i64 m] 0 true 3)) id ver d :=
  ⟨by
    rw [get_set_ne (by
      rintro rfl
      have := D.g
      rw [hs] at this
      simp only [Option.some.injEq, HObj.arr.injEq] at this
      exact absurd this.2.2.2 (by decide))]
    exact D.g, D.n, D.b⟩
set_option maxHeartbeats 4000000 in
theorem median_fw {h : Heap} {id ver c a b e n sid : Nat} {d : Array Item} (D : DA h id ver d) (ha : a < d.size) (hb : b < d.size) (he : e < d.size) (hs : h[sid]? = some (.arr [i64 n] 0 true 3)) (hn : n ≤ 900) :
    FW env 82 [.slice (some ⟨id, 0, some ver⟩) d.size c, i64 a, i64 b, i64 e, .pointer (some ⟨sid, 0, some 0⟩), lessV] h fun r h' =>
      r = i64 (Go.Sort.median ltI d a b e n).1 ∧ h' = h.set sid (.arr [i64 (Go.Sort.median ltI d a b e n).2] 0 true 3) := by
  obtain ⟨x1, y1, z1⟩ := order2_bd (n := n) ha hb
  obtain ⟨q1, hq1⟩ : ∃ q, Go.Sort.order2 ltI d a b n = q := ⟨_, rfl⟩
  rw [hq1] at x1 y1 z1
  obtain ⟨x2, y2, z2⟩ := order2_bd (n := q1.2.2) y1 he
  obtain ⟨q2, hq2⟩ : ∃ q, Go.Sort.order2 ltI d q1.2.1 e q1.2.2 = q := ⟨_, rfl⟩
  rw [hq2] at x2 y2 z2
  obtain ⟨q3, hq3⟩ : ∃ q, Go.Sort.order2 ltI d q1.1 q2.1 q2.2.2 = q := ⟨_, rfl⟩
  have hm : Go.Sort.median ltI d a b e n = (q3.2.1, q3.2.2) := by
    unfold Go.Sort.median
    simp only [hq1, hq2, hq3]
  rw [hm]
  refine fw_enter (fn := Try.f82) Try.func82 rfl (by kernel_rfl) (by simp [Try.ntmps82]) ?_; simp only [push_cast]
  repeat (first | apply zs | apply zr | apply zn | ((first | apply zx | apply zy); · simp only [push_cast, env, Nat.reduceEqDiff, reduceIte, Nat.reduceAdd, Nat.reduceMul, Nat.reduceLeDiff, reduceCtorEq, Nat.reduceSub, Int.reduceToNat] <;> first | exact rfl | exact .inl rfl | exact .inr rfl) | apply zq | apply zb | apply zo | apply zk | apply zl)
  refine zc (fn := Try.f84) (by simp only [push_cast, env, Nat.reduceEqDiff, reduceIte] <;> exact rfl) Try.func84 (by kernel_rfl) (by kernel_rfl) ?_
  rw [List.append_nil]
  refine (order2_fw (c := c) D ha hb hs (by omega)).mono ?_
  rw [hq1]
  rintro _ h1 ⟨rfl, k1⟩
  have D1 : DA h1 id ver d := by rw [k1]; exact D.ctr hs
  have hs1 : h1[sid]? = some (.arr [i64 q1.2.2] 0 true 3) := by rw [k1]; exact get_set_self hs
  repeat (first | apply zs | apply zr | apply zn | ((first | apply zx | apply zy); · simp only [push_cast, env, Nat.reduceEqDiff, reduceIte, Nat.reduceAdd, Nat.reduceMul, Nat.reduceLeDiff, reduceCtorEq, Nat.reduceSub, Int.reduceToNat] <;> first | exact rfl | exact .inl rfl | exact .inr rfl) | apply zq | apply zb | apply zo | apply zk | apply zl)
  refine zc (fn := Try.f84) (by simp only [push_cast, env, Nat.reduceEqDiff, reduceIte] <;> exact rfl) Try.func84 (by kernel_rfl) (by kernel_rfl) ?_
  rw [List.append_nil]
  refine (order2_fw (c := c) D1 y1 he hs1 (by omega)).mono ?_
  rw [hq2]
  rintro _ h2 ⟨rfl, k2⟩
  have D2 : DA h2 id ver d := by rw [k2]; exact D1.ctr hs1
  have hs2 : h2[sid]? = some (.arr [i64 q2.2.2] 0 true 3) := by rw [k2]; exact get_set_self hs1
  repeat (first | apply zs | apply zr | apply zn | ((first | apply zx | apply zy); · simp only [push_cast, env, Nat.reduceEqDiff, reduceIte, Nat.reduceAdd, Nat.reduceMul, Nat.reduceLeDiff, reduceCtorEq, Nat.reduceSub, Int.reduceToNat] <;> first | exact rfl | exact .inl rfl | exact .inr rfl) | apply zq | apply zb | apply zo | apply zk | apply zl)
  refine zc (fn := Try.f84) (by simp only [push_cast, env, Nat.reduceEqDiff, reduceIte] <;> exact rfl) Try.func84 (by kernel_rfl) (by kernel_rfl) ?_
  rw [List.append_nil]
  refine (order2_fw (c := c) D2 x1 x2 hs2 (by omega)).mono ?_
  rw [hq3]
  rintro _ h3 ⟨rfl, k3⟩
  repeat (first | apply zs | apply zr | apply zn | ((first | apply zx | apply zy); · simp only [push_cast, env, Nat.reduceEqDiff, reduceIte, Nat.reduceAdd, Nat.reduceMul, Nat.reduceLeDiff, reduceCtorEq, Nat.reduceSub, Int.reduceToNat] <;> first | exact rfl | exact .inl rfl | exact .inr rfl) | apply zq | apply zb | apply zo | apply zk | apply zl)
  refine cw_ret ?_
  exact ⟨_, (by simp only [push_cast, env, Nat.reduceEqDiff, reduceIte] <;> exact rfl), rfl, by rw [k3, k2, k1, set_set_heap, set_set_heap]⟩
set_option maxHeartbeats 4000000 in
theorem medadj_fw {h : Heap} {id ver c a n sid : Nat} {d : Array Item} (D : DA h id ver d) (h0 : 0 < a) (ha : a + 1 < d.size) (hs : h[sid]? = some (.arr [i64 n] 0 true 3)) (hn : n ≤ 900) :
    FW env 81 [.slice (some ⟨id, 0, some ver⟩) d.size c, i64 a, .pointer (some ⟨sid, 0, some 0⟩), lessV] h fun r h' =>
      r = i64 (Go.Sort.medianAdjacent ltI d a n).1 ∧ h' = h.set sid (.arr [i64 (Go.Sort.medianAdjacent ltI d a n).2] 0 true 3) := by
  have hsz := D.n
  have e1 : IntKind.i64.wrap ((a : Int) - 1) = ((a - 1 : Nat) : Int) := by rw [wrap64_id (by omega) (by omega)]; omega
  have e2 : IntKind.i64.wrap ((a : Int) + 1) = ((a + 1 : Nat) : Int) := by rw [wrap64_id (by omega) (by omega)]; omega
  have k := median_fw (c := c) (a := a - 1) (b := a) (e := a + 1) (n := n) D (by omega) (by omega) ha hs hn
  have hm : Go.Sort.medianAdjacent ltI d a n = Go.Sort.median ltI d (a - 1) a (a + 1) n := rfl
  rw [hm]
  obtain ⟨p, hp⟩ : ∃ p, p = a - 1 := ⟨_, rfl⟩
  obtain ⟨q, hq⟩ : ∃ q, q = a + 1 := ⟨_, rfl⟩
  rw [← hp, ← hq] at k ⊢
  rw [← hp] at e1
  rw [← hq] at e2
  refine fw_enter (fn := Try.f81) Try.func81 rfl (by kernel_rfl) (by simp [Try.ntmps81]) ?_; simp only [push_cast]
  repeat (first | apply zs | apply zr | apply zn | ((first | apply zx | apply zy); · simp only [push_cast, env, Nat.reduceEqDiff, reduceIte, Nat.reduceAdd, Nat.reduceMul, Nat.reduceLeDiff, reduceCtorEq, Nat.reduceSub, Int.reduceToNat, e1, e2] <;> first | exact rfl | exact .inl rfl | exact .inr rfl) | apply zq | apply zb | apply zo | apply zk | apply zl)
  refine zc (fn := Try.f82) (by simp only [push_cast, env, Nat.reduceEqDiff, reduceIte] <;> exact rfl) Try.func82 (by kernel_rfl) (by kernel_rfl) ?_
  rw [List.append_nil]
  refine k.mono ?_
  rintro _ h1 ⟨rfl, k1⟩
  repeat (first | apply zs | apply zr | apply zn | ((first | apply zx | apply zy); · simp only [push_cast, env, Nat.reduceEqDiff, reduceIte, Nat.reduceAdd, Nat.reduceMul, Nat.reduceLeDiff, reduceCtorEq, Nat.reduceSub, Int.reduceToNat] <;> first | exact rfl | exact .inl rfl | exact .inr rfl) | apply zq | apply zb | apply zo | apply zk | apply zl)
  refine cw_ret ?_
  exact ⟨_, (by simp only [push_cast, env, Nat.reduceEqDiff, reduceIte] <;> exact rfl), rfl, k1⟩
end Go.Proofs.Ytafncpgiibikcaa

namespace Go.Proofs.Ytafncpgiibikcaa
set_option linter.unusedSimpArgs false
set_option linter.unusedVariables false
set_option maxRecDepth 20000
open Go.RowKit Am Ty

theorem fw_gc {N : Env} {f : FuncId} {args : List Value} {h : Heap} {Q : Value → Prop} (k : FW N f args h fun r h' => Q r ∧ Scoped h.length r ∧ h'.take h.length = h) : FW N f args h fun r h' => Q r ∧ h' = h := by
  unfold FW at k ⊢
  obtain ⟨r, h', h1, h2, h3, h4⟩ := k
  exact ⟨r, h, .gc h1 h3 h4, h2, rfl⟩
theorem scoped_two {n : Nat} {a b : Int} : Scoped n (.tuple #[i64 a, i64 b]) := by
  refine .tup fun i v h => ?_
  match i, h with
  | 0, h => cases h; exact .pure1 rfl
  | 1, h => cases h; exact .pure1 rfl
theorem take_setn {h : Heap} {n : Nat} {x : HObj} : (h.set n x).take n = h.take n := by
  rw [List.take_set, List.set_eq_of_length_le (by simp; omega)]
theorem take_push {h : Heap} {x : HObj} : (h ++ [x]).take h.length = h := by simp
theorem median_ct {d : Array Item} {a b c s : Nat} (ha : a < d.size) (hb : b < d.size) (hc : c < d.size) : (Go.Sort.median ltI d a b c s).2 ≤ s + 3 := by
  have h1 := order2_bd (n := s) ha hb
  have h2 := order2_bd (n := (Go.Sort.order2 ltI d a b s).2.2) h1.2.1 hc
  have h3 := order2_bd (n := (Go.Sort.order2 ltI d (Go.Sort.order2 ltI d a b s).2.1 c (Go.Sort.order2 ltI d a b s).2.2).2.2) h1.1 h2.1
  unfold Go.Sort.median
  simp only
  omega
set_option maxHeartbeats 8000000 in
theorem pivot_fw {h : Heap} {id ver c a b : Nat} {d : Array Item} (D : DA h id ver d) (hab : a < b) (hb : b ≤ d.size) :
    FW env 68 [.slice (some ⟨id, 0, some ver⟩) d.size c, i64 a, i64 b, lessV] h fun r h' =>
      (∃ p hint : Nat, r = .tuple #[i64 p, i64 hint] ∧ a ≤ p ∧ p < b) ∧ h' = h := by
  have hsz := D.n
  refine fw_gc ?_
  obtain ⟨l, hl⟩ : ∃ l, l = b - a := ⟨_, rfl⟩
  obtain ⟨q, hq⟩ : ∃ q, q = l / 4 := ⟨_, rfl⟩
  obtain ⟨x1, hx1⟩ : ∃ x1, x1 = a + q := ⟨_, rfl⟩
  obtain ⟨x2, hx2⟩ : ∃ x2, x2 = a + q * 2 := ⟨_, rfl⟩
  obtain ⟨x3, hx3⟩ : ∃ x3, x3 = a + q * 3 := ⟨_, rfl⟩
  have e1 : IntKind.i64.wrap ((b : Int) - a) = (l : Int) := by rw [wrap64_id (by omega) (by omega)]; omega
  have e2 : IntKind.i64.wrap ((l : Int).tdiv 4) = (q : Int) := by
    have : (l : Int).tdiv 4 = (q : Int) := by rw [hq]; rfl
    rw [this, wrap64_id (by omega) (by omega)]
  have e3 : IntKind.i64.wrap ((q : Int) * 1) = (q : Int) := by rw [wrap64_id (by omega) (by omega)]; omega
  have e4 : IntKind.i64.wrap ((q : Int) * 2) = (q : Int) * 2 := wrap64_id (by omega) (by omega)
  have e5 : IntKind.i64.wrap ((q : Int) * 3) = (q : Int) * 3 := wrap64_id (by omega) (by omega)
  have f1 : IntKind.i64.wrap ((a : Int) + (q : Int)) = (x1 : Int) := by rw [wrap64_id (by omega) (by omega)]; omega
  have f2 : IntKind.i64.wrap ((a : Int) + (q : Int) * 2) = (x2 : Int) := by rw [wrap64_id (by omega) (by omega)]; omega
  have f3 : IntKind.i64.wrap ((a : Int) + (q : Int) * 3) = (x3 : Int) := by rw [wrap64_id (by omega) (by omega)]; omega
  have hq4 : q * 4 ≤ l := by omega
  refine fw_enter (fn := Try.f68) Try.func68 rfl (by kernel_rfl) (by simp [Try.ntmps68]) ?_; simp only [push_cast]
  repeat (first | apply zs | apply zr | apply zn | apply zq | apply zb | apply zo | apply zk | apply zl)
  iterate 2 (apply ow_cons; · simp only [push_cast, env, Nat.reduceEqDiff, reduceIte, Nat.reduceAdd, Nat.reduceMul, Nat.reduceLeDiff, reduceCtorEq, Nat.reduceSub, Int.reduceToNat] <;> exact rfl)
  repeat (first | apply zs | apply zr | apply zn | apply zq | apply zb | apply zo | apply zk | apply zl)
  iterate 4 (apply ow_cons; · simp only [push_cast, env, Nat.reduceEqDiff, reduceIte, Nat.reduceAdd, Nat.reduceMul, Nat.reduceLeDiff, reduceCtorEq, Nat.reduceSub, Int.reduceToNat, e1] <;> exact rfl)
  repeat (first | apply zs | apply zr | apply zn | apply zq | apply zb | apply zo | apply zk | apply zl)
  refine ow_boxH (t := 3) (cs := [i64 0]) (by simp only [push_cast, env, Nat.reduceEqDiff, reduceIte] <;> exact rfl) (by simp only [push_cast, env, Nat.reduceEqDiff, reduceIte] <;> exact rfl) ?_
  dsimp only [St.putO, St.put]
  have D0 : DA (h ++ [.arr [i64 (0 : Nat)] 0 true 3]) id ver d := ⟨get_of_push D.g, D.n, D.b⟩
  have s0 : (h ++ [.arr [i64 (0 : Nat)] 0 true 3])[h.length]? = some (.arr [i64 (0 : Nat)] 0 true 3) := get_push
  repeat (first | apply zs | apply zr | apply zn | ((first | apply zx | apply zy); · simp only [push_cast, env, Nat.reduceEqDiff, reduceIte, Nat.reduceAdd, Nat.reduceMul, Nat.reduceLeDiff, reduceCtorEq, Nat.reduceSub, Int.reduceToNat, e1, e2, e3, e4, e5, f1, f2, f3] <;> first | exact rfl | exact .inl rfl | exact .inr rfl) | apply zq | apply zb | apply zo | apply zk | apply zl)
  by_cases h8 : 8 ≤ l
  · have d1 : decide (8 ≤ (l : Int)) = true := decide_eq_true (by omega)
    have b1 : a < x1 ∧ x1 + 1 < b := by omega
    have b2 : a < x2 ∧ x2 + 1 < b := by omega
    have b3 : a < x3 ∧ x3 + 1 < b := by omega
    clear e2 e3 e4 e5 f1 f2 f3 hq hx1 hx2 hx3 hq4
    refine cw_condT (by simp only [push_cast, env, Nat.reduceEqDiff, reduceIte, d1] <;> exact rfl) ?_
    by_cases h50 : 50 ≤ l
    · have d2 : decide (50 ≤ (l : Int)) = true := decide_eq_true (by omega)
      clear hl e1
      repeat (first | apply zs | apply zr | apply zn | ((first | apply zx | apply zy); · simp only [push_cast, env, Nat.reduceEqDiff, reduceIte, Nat.reduceAdd, Nat.reduceMul, Nat.reduceLeDiff, reduceCtorEq, Nat.reduceSub, Int.reduceToNat, d2] <;> first | exact rfl | exact .inl rfl | exact .inr rfl) | apply zq | apply zb | apply zo | apply zk | apply zl)
      refine cw_condT rfl ?_
      repeat (first | apply zs | apply zr | apply zn | ((first | apply zx | apply zy); · simp only [push_cast, env, Nat.reduceEqDiff, reduceIte, Nat.reduceAdd, Nat.reduceMul, Nat.reduceLeDiff, reduceCtorEq, Nat.reduceSub, Int.reduceToNat] <;> first | exact rfl | exact .inl rfl | exact .inr rfl) | apply zq | apply zb | apply zo | apply zk | apply zl)
      refine zc (fn := Try.f81) (by simp only [push_cast, env, Nat.reduceEqDiff, reduceIte] <;> exact rfl) Try.func81 (by kernel_rfl) (by kernel_rfl) ?_
      rw [List.append_nil]
      refine (medadj_fw (c := c) D0 (by omega) (by omega) s0 (by omega)).mono ?_
      have hm1 := Go.Sort.medianAdjacent_mem ltI d x1 0
      have hc1 : (Go.Sort.medianAdjacent ltI d x1 0).2 ≤ 0 + 3 := median_ct (by omega) (by omega) (by omega)
      obtain ⟨p1, hp1⟩ : ∃ p, Go.Sort.medianAdjacent ltI d x1 0 = p := ⟨_, rfl⟩
      rw [hp1] at hm1 hc1 ⊢
      have hr1 : a ≤ p1.1 ∧ p1.1 < b := by omega
      clear hm1 hp1
      rintro _ h1 ⟨rfl, k1⟩
      have D1 : DA h1 id ver d := by rw [k1]; exact (D0).ctr s0
      have s1 : h1[h.length]? = some (.arr [i64 p1.2] 0 true 3) := by rw [k1]; exact get_set_self s0
      repeat (first | apply zs | apply zr | apply zn | ((first | apply zx | apply zy); · simp only [push_cast, env, Nat.reduceEqDiff, reduceIte, Nat.reduceAdd, Nat.reduceMul, Nat.reduceLeDiff, reduceCtorEq, Nat.reduceSub, Int.reduceToNat] <;> first | exact rfl | exact .inl rfl | exact .inr rfl) | apply zq | apply zb | apply zo | apply zk | apply zl)
      refine zc (fn := Try.f81) (by simp only [push_cast, env, Nat.reduceEqDiff, reduceIte] <;> exact rfl) Try.func81 (by kernel_rfl) (by kernel_rfl) ?_
      rw [List.append_nil]
      refine (medadj_fw (c := c) D1 (by omega) (by omega) s1 (by omega)).mono ?_
      have hm2 := Go.Sort.medianAdjacent_mem ltI d x2 p1.2
      have hc2 : (Go.Sort.medianAdjacent ltI d x2 p1.2).2 ≤ p1.2 + 3 := median_ct (by omega) (by omega) (by omega)
      obtain ⟨p2, hp2⟩ : ∃ p, Go.Sort.medianAdjacent ltI d x2 p1.2 = p := ⟨_, rfl⟩
      rw [hp2] at hm2 hc2 ⊢
      have hr2 : a ≤ p2.1 ∧ p2.1 < b := by omega
      clear hm2 hp2
      rintro _ h2 ⟨rfl, k2⟩
      have D2 : DA h2 id ver d := by rw [k2]; exact (D1).ctr s1
      have s2 : h2[h.length]? = some (.arr [i64 p2.2] 0 true 3) := by rw [k2]; exact get_set_self s1
      repeat (first | apply zs | apply zr | apply zn | ((first | apply zx | apply zy); · simp only [push_cast, env, Nat.reduceEqDiff, reduceIte, Nat.reduceAdd, Nat.reduceMul, Nat.reduceLeDiff, reduceCtorEq, Nat.reduceSub, Int.reduceToNat] <;> first | exact rfl | exact .inl rfl | exact .inr rfl) | apply zq | apply zb | apply zo | apply zk | apply zl)
      refine zc (fn := Try.f81) (by simp only [push_cast, env, Nat.reduceEqDiff, reduceIte] <;> exact rfl) Try.func81 (by kernel_rfl) (by kernel_rfl) ?_
      rw [List.append_nil]
      refine (medadj_fw (c := c) D2 (by omega) (by omega) s2 (by omega)).mono ?_
      have hm3 := Go.Sort.medianAdjacent_mem ltI d x3 p2.2
      have hc3 : (Go.Sort.medianAdjacent ltI d x3 p2.2).2 ≤ p2.2 + 3 := median_ct (by omega) (by omega) (by omega)
      obtain ⟨p3, hp3⟩ : ∃ p, Go.Sort.medianAdjacent ltI d x3 p2.2 = p := ⟨_, rfl⟩
      rw [hp3] at hm3 hc3 ⊢
      have hr3 : a ≤ p3.1 ∧ p3.1 < b := by omega
      clear hm3 hp3
      rintro _ h3 ⟨rfl, k3⟩
      have D3 : DA h3 id ver d := by rw [k3]; exact (D2).ctr s2
      have s3 : h3[h.length]? = some (.arr [i64 p3.2] 0 true 3) := by rw [k3]; exact get_set_self s2
      repeat (first | apply zs | apply zr | apply zn | ((first | apply zx | apply zy); · simp only [push_cast, env, Nat.reduceEqDiff, reduceIte, Nat.reduceAdd, Nat.reduceMul, Nat.reduceLeDiff, reduceCtorEq, Nat.reduceSub, Int.reduceToNat] <;> first | exact rfl | exact .inl rfl | exact .inr rfl) | apply zq | apply zb | apply zo | apply zk | apply zl)
      refine zc (fn := Try.f82) (by simp only [push_cast, env, Nat.reduceEqDiff, reduceIte] <;> exact rfl) Try.func82 (by kernel_rfl) (by kernel_rfl) ?_
      rw [List.append_nil]
      refine (median_fw (c := c) D3 (by omega) (by omega) (by omega) s3 (by omega)).mono ?_
      have hmm := Go.Sort.median_mem ltI d p1.1 p2.1 p3.1 p3.2
      have hmc : (Go.Sort.median ltI d p1.1 p2.1 p3.1 p3.2).2 ≤ p3.2 + 3 := median_ct (by omega) (by omega) (by omega)
      obtain ⟨pm, hpm⟩ : ∃ p, Go.Sort.median ltI d p1.1 p2.1 p3.1 p3.2 = p := ⟨_, rfl⟩
      rw [hpm] at hmm hmc ⊢
      have hrm : a ≤ pm.1 ∧ pm.1 < b := by omega
      clear hmm hpm
      rintro _ hM ⟨rfl, kM⟩
      have sM : hM[h.length]? = some (.arr [i64 pm.2] 0 true 3) := by rw [kM]; exact get_set_self s3
      obtain ⟨n, hn⟩ : ∃ n, n = pm.2 := ⟨_, rfl⟩
      rw [← hn] at sM
      repeat (first | apply zs | apply zr | apply zn | ((first | apply zx | apply zy); · simp only [push_cast, env, Nat.reduceEqDiff, reduceIte, Nat.reduceAdd, Nat.reduceMul, Nat.reduceLeDiff, reduceCtorEq, Nat.reduceSub, Int.reduceToNat, sM] <;> first | exact rfl | exact .inl rfl | exact .inr rfl) | apply zq | apply zb | apply zo | apply zk | apply zl)
      by_cases hz : n = 0
      · have d3 : decide ((n : Int) = 0) = true := decide_eq_true (by omega)
        refine cw_condT (by simp only [push_cast, env, Nat.reduceEqDiff, reduceIte, d3] <;> exact rfl) ?_
        repeat (first | apply zs | apply zr | apply zn | ((first | apply zx | apply zy); · simp only [push_cast, env, Nat.reduceEqDiff, reduceIte, Nat.reduceAdd, Nat.reduceMul, Nat.reduceLeDiff, reduceCtorEq, Nat.reduceSub, Int.reduceToNat] <;> first | exact rfl | exact .inl rfl | exact .inr rfl) | apply zq | apply zb | apply zo | apply zk | apply zl)
        refine cw_ret ?_
        exact ⟨_, (by simp only [push_cast, env, Nat.reduceEqDiff, reduceIte] <;> exact rfl), ⟨_, 1, rfl, hrm⟩, scoped_two, (by rw [kM, take_setn, k3, take_setn, k2, take_setn, k1, take_setn, take_push])⟩
      have d3 : decide ((n : Int) = 0) = false := decide_eq_false (by omega)
      by_cases hz2 : n = 12
      · have d4 : decide ((n : Int) = 12) = true := decide_eq_true (by omega)
        refine cw_condF (by simp only [push_cast, env, Nat.reduceEqDiff, reduceIte, d3] <;> exact rfl) ?_
        repeat (first | apply zs | apply zr | apply zn | ((first | apply zx | apply zy); · simp only [push_cast, env, Nat.reduceEqDiff, reduceIte, Nat.reduceAdd, Nat.reduceMul, Nat.reduceLeDiff, reduceCtorEq, Nat.reduceSub, Int.reduceToNat, d4] <;> first | exact rfl | exact .inl rfl | exact .inr rfl) | apply zq | apply zb | apply zo | apply zk | apply zl)
        refine cw_condT rfl ?_
        repeat (first | apply zs | apply zr | apply zn | ((first | apply zx | apply zy); · simp only [push_cast, env, Nat.reduceEqDiff, reduceIte, Nat.reduceAdd, Nat.reduceMul, Nat.reduceLeDiff, reduceCtorEq, Nat.reduceSub, Int.reduceToNat] <;> first | exact rfl | exact .inl rfl | exact .inr rfl) | apply zq | apply zb | apply zo | apply zk | apply zl)
        refine cw_ret ?_
        exact ⟨_, (by simp only [push_cast, env, Nat.reduceEqDiff, reduceIte] <;> exact rfl), ⟨_, 2, rfl, hrm⟩, scoped_two, (by rw [kM, take_setn, k3, take_setn, k2, take_setn, k1, take_setn, take_push])⟩
      have d4 : decide ((n : Int) = 12) = false := decide_eq_false (by omega)
      refine cw_condF (by simp only [push_cast, env, Nat.reduceEqDiff, reduceIte, d3] <;> exact rfl) ?_
      repeat (first | apply zs | apply zr | apply zn | ((first | apply zx | apply zy); · simp only [push_cast, env, Nat.reduceEqDiff, reduceIte, Nat.reduceAdd, Nat.reduceMul, Nat.reduceLeDiff, reduceCtorEq, Nat.reduceSub, Int.reduceToNat, d4] <;> first | exact rfl | exact .inl rfl | exact .inr rfl) | apply zq | apply zb | apply zo | apply zk | apply zl)
      refine cw_condF rfl ?_
      repeat (first | apply zs | apply zr | apply zn | ((first | apply zx | apply zy); · simp only [push_cast, env, Nat.reduceEqDiff, reduceIte, Nat.reduceAdd, Nat.reduceMul, Nat.reduceLeDiff, reduceCtorEq, Nat.reduceSub, Int.reduceToNat] <;> first | exact rfl | exact .inl rfl | exact .inr rfl) | apply zq | apply zb | apply zo | apply zk | apply zl)
      refine cw_ret ?_
      exact ⟨_, (by simp only [push_cast, env, Nat.reduceEqDiff, reduceIte] <;> exact rfl), ⟨_, 0, rfl, hrm⟩, scoped_two, (by rw [kM, take_setn, k3, take_setn, k2, take_setn, k1, take_setn, take_push])⟩
    · have d2 : decide (50 ≤ (l : Int)) = false := decide_eq_false (by omega)
      clear hl e1
      repeat (first | apply zs | apply zr | apply zn | ((first | apply zx | apply zy); · simp only [push_cast, env, Nat.reduceEqDiff, reduceIte, Nat.reduceAdd, Nat.reduceMul, Nat.reduceLeDiff, reduceCtorEq, Nat.reduceSub, Int.reduceToNat, d2] <;> first | exact rfl | exact .inl rfl | exact .inr rfl) | apply zq | apply zb | apply zo | apply zk | apply zl)
      refine cw_condF rfl ?_
      repeat (first | apply zs | apply zr | apply zn | ((first | apply zx | apply zy); · simp only [push_cast, env, Nat.reduceEqDiff, reduceIte, Nat.reduceAdd, Nat.reduceMul, Nat.reduceLeDiff, reduceCtorEq, Nat.reduceSub, Int.reduceToNat] <;> first | exact rfl | exact .inl rfl | exact .inr rfl) | apply zq | apply zb | apply zo | apply zk | apply zl)
      refine zc (fn := Try.f82) (by simp only [push_cast, env, Nat.reduceEqDiff, reduceIte] <;> exact rfl) Try.func82 (by kernel_rfl) (by kernel_rfl) ?_
      rw [List.append_nil]
      refine (median_fw (c := c) D0 (by omega) (by omega) (by omega) s0 (by omega)).mono ?_
      have hmm := Go.Sort.median_mem ltI d x1 x2 x3 0
      have hmc : (Go.Sort.median ltI d x1 x2 x3 0).2 ≤ 0 + 3 := median_ct (by omega) (by omega) (by omega)
      obtain ⟨pm, hpm⟩ : ∃ p, Go.Sort.median ltI d x1 x2 x3 0 = p := ⟨_, rfl⟩
      rw [hpm] at hmm hmc ⊢
      have hrm : a ≤ pm.1 ∧ pm.1 < b := by omega
      clear hmm hpm
      rintro _ hM ⟨rfl, kM⟩
      have sM : hM[h.length]? = some (.arr [i64 pm.2] 0 true 3) := by rw [kM]; exact get_set_self s0
      obtain ⟨n, hn⟩ : ∃ n, n = pm.2 := ⟨_, rfl⟩
      rw [← hn] at sM
      repeat (first | apply zs | apply zr | apply zn | ((first | apply zx | apply zy); · simp only [push_cast, env, Nat.reduceEqDiff, reduceIte, Nat.reduceAdd, Nat.reduceMul, Nat.reduceLeDiff, reduceCtorEq, Nat.reduceSub, Int.reduceToNat, sM] <;> first | exact rfl | exact .inl rfl | exact .inr rfl) | apply zq | apply zb | apply zo | apply zk | apply zl)
      by_cases hz : n = 0
      · have d3 : decide ((n : Int) = 0) = true := decide_eq_true (by omega)
        refine cw_condT (by simp only [push_cast, env, Nat.reduceEqDiff, reduceIte, d3] <;> exact rfl) ?_
        repeat (first | apply zs | apply zr | apply zn | ((first | apply zx | apply zy); · simp only [push_cast, env, Nat.reduceEqDiff, reduceIte, Nat.reduceAdd, Nat.reduceMul, Nat.reduceLeDiff, reduceCtorEq, Nat.reduceSub, Int.reduceToNat] <;> first | exact rfl | exact .inl rfl | exact .inr rfl) | apply zq | apply zb | apply zo | apply zk | apply zl)
        refine cw_ret ?_
        exact ⟨_, (by simp only [push_cast, env, Nat.reduceEqDiff, reduceIte] <;> exact rfl), ⟨_, 1, rfl, hrm⟩, scoped_two, (by rw [kM, take_setn, take_push])⟩
      have d3 : decide ((n : Int) = 0) = false := decide_eq_false (by omega)
      by_cases hz2 : n = 12
      · have d4 : decide ((n : Int) = 12) = true := decide_eq_true (by omega)
        refine cw_condF (by simp only [push_cast, env, Nat.reduceEqDiff, reduceIte, d3] <;> exact rfl) ?_
        repeat (first | apply zs | apply zr | apply zn | ((first | apply zx | apply zy); · simp only [push_cast, env, Nat.reduceEqDiff, reduceIte, Nat.reduceAdd, Nat.reduceMul, Nat.reduceLeDiff, reduceCtorEq, Nat.reduceSub, Int.reduceToNat, d4] <;> first | exact rfl | exact .inl rfl | exact .inr rfl) | apply zq | apply zb | apply zo | apply zk | apply zl)
        refine cw_condT rfl ?_
        repeat (first | apply zs | apply zr | apply zn | ((first | apply zx | apply zy); · simp only [push_cast, env, Nat.reduceEqDiff, reduceIte, Nat.reduceAdd, Nat.reduceMul, Nat.reduceLeDiff, reduceCtorEq, Nat.reduceSub, Int.reduceToNat] <;> first | exact rfl | exact .inl rfl | exact .inr rfl) | apply zq | apply zb | apply zo | apply zk | apply zl)
        refine cw_ret ?_
        exact ⟨_, (by simp only [push_cast, env, Nat.reduceEqDiff, reduceIte] <;> exact rfl), ⟨_, 2, rfl, hrm⟩, scoped_two, (by rw [kM, take_setn, take_push])⟩
      have d4 : decide ((n : Int) = 12) = false := decide_eq_false (by omega)
      refine cw_condF (by simp only [push_cast, env, Nat.reduceEqDiff, reduceIte, d3] <;> exact rfl) ?_
      repeat (first | apply zs | apply zr | apply zn | ((first | apply zx | apply zy); · simp only [push_cast, env, Nat.reduceEqDiff, reduceIte, Nat.reduceAdd, Nat.reduceMul, Nat.reduceLeDiff, reduceCtorEq, Nat.reduceSub, Int.reduceToNat, d4] <;> first | exact rfl | exact .inl rfl | exact .inr rfl) | apply zq | apply zb | apply zo | apply zk | apply zl)
      refine cw_condF rfl ?_
      repeat (first | apply zs | apply zr | apply zn | ((first | apply zx | apply zy); · simp only [push_cast, env, Nat.reduceEqDiff, reduceIte, Nat.reduceAdd, Nat.reduceMul, Nat.reduceLeDiff, reduceCtorEq, Nat.reduceSub, Int.reduceToNat] <;> first | exact rfl | exact .inl rfl | exact .inr rfl) | apply zq | apply zb | apply zo | apply zk | apply zl)
      refine cw_ret ?_
      exact ⟨_, (by simp only [push_cast, env, Nat.reduceEqDiff, reduceIte] <;> exact rfl), ⟨_, 0, rfl, hrm⟩, scoped_two, (by rw [kM, take_setn, take_push])⟩
  · have d1 : decide (8 ≤ (l : Int)) = false := decide_eq_false (by omega)
    have b2 : a ≤ x2 ∧ x2 < b := by omega
    clear e2 e3 e4 e5 f1 f2 f3 hq hx1 hx2 hx3 hq4
    refine cw_condF (by simp only [push_cast, env, Nat.reduceEqDiff, reduceIte, d1] <;> exact rfl) ?_
    repeat (first | apply zs | apply zr | apply zn | ((first | apply zx | apply zy); · simp only [push_cast, env, Nat.reduceEqDiff, reduceIte, Nat.reduceAdd, Nat.reduceMul, Nat.reduceLeDiff, reduceCtorEq, Nat.reduceSub, Int.reduceToNat, get_push] <;> first | exact rfl | exact .inl rfl | exact .inr rfl) | apply zq | apply zb | apply zo | apply zk | apply zl)
    refine cw_condT rfl ?_
    repeat (first | apply zs | apply zr | apply zn | ((first | apply zx | apply zy); · simp only [push_cast, env, Nat.reduceEqDiff, reduceIte, Nat.reduceAdd, Nat.reduceMul, Nat.reduceLeDiff, reduceCtorEq, Nat.reduceSub, Int.reduceToNat] <;> first | exact rfl | exact .inl rfl | exact .inr rfl) | apply zq | apply zb | apply zo | apply zk | apply zl)
    refine cw_ret ?_
    exact ⟨_, (by simp only [push_cast, env, Nat.reduceEqDiff, reduceIte] <;> exact rfl), ⟨_, 1, rfl, b2⟩, scoped_two, take_push⟩
end Go.Proofs.Ytafncpgiibikcaa

namespace Go.Proofs.Ytafncpgiibikcaa
set_option linter.unusedSimpArgs false
set_option linter.unusedVariables false
set_option maxRecDepth 20000
open Go.RowKit Am Ty

theorem wrapU64 {x : Int} (h0 : 0 ≤ x) (h1 : x < 18446744073709551616) : IntKind.u64.wrap x = x := by
  have : IntKind.u64.wrap x = x % 18446744073709551616 := by simp [IntKind.wrap, IntKind.bits, IntKind.signed]
  omega
theorem wrapU8 {x : Int} (h0 : 0 ≤ x) (h1 : x < 256) : IntKind.u8.wrap x = x := by
  have : IntKind.u8.wrap x = x % 256 := by simp [IntKind.wrap, IntKind.bits, IntKind.signed]
  omega
theorem fdivN {m k p : Nat} (h : 2 ^ k = p) (hk : k ≤ 64) : (m : Int).fdiv (2 ^ min k IntKind.u64.bits) = ((m / p : Nat) : Int) := by
  have h1 : min k IntKind.u64.bits = k := by
    show min k 64 = k
    omega
  have h2 : (2 : Int) ^ k = (p : Int) := by rw [← h]; push_cast; rfl
  rw [h1, h2, Int.fdiv_eq_ediv_of_nonneg _ (by omega)]
  rfl
def lenTab : ByteArray := ⟨((List.range 256).map fun n => UInt8.ofNat (Go.Sort.bitsLen n)).toArray⟩
theorem lenTab_get {n : Nat} (h : n < 256) : lenTab[n]? = some (UInt8.ofNat (Go.Sort.bitsLen n)) := by
  have hs : lenTab.size = 256 := by
    show ((List.range 256).map fun n => UInt8.ofNat (Go.Sort.bitsLen n)).toArray.size = 256
    simp only [List.size_toArray, List.length_map, List.length_range]
  rw [getElem?_pos lenTab n (by rw [hs]; exact h)]
  congr 1
  show ((List.range 256).map fun n => UInt8.ofNat (Go.Sort.bitsLen n)).toArray[n]'(by simp only [List.size_toArray, List.length_map, List.length_range]; exact h) = _
  simp only [List.getElem_toArray, List.getElem_map, List.getElem_range]
theorem bits_small {n : Nat} (h : n < 256) : (UInt8.ofNat (Go.Sort.bitsLen n)).toNat = Go.Sort.bitsLen n := by
  have := (Go.Sort.bitsLen_le_iff n 8).2 h
  rw [UInt8.toNat_ofNat']
  omega
theorem step_tab {all : Array Oper} {o : Oper} {s : St} {t : TypeId} {x i : Operand} {b : ByteArray} {k : IntKind} {n : Nat} (hg : wantedA all o s = some true) (ho : o.op = .index t x i) (hu : env.P.underlying t = some .string) (hx : ev s x = some (.string b)) (hi : ev s i = some (.int k n)) (hb : b = lenTab) (hn : n < 256) :
    stepO env all o s = some (s.putO o.dst (.val (.int .u8 (Go.Sort.bitsLen n)))) := by
  unfold stepO
  rw [hg, ho]
  simp only [vop, indexV, hu, hx, hi, hb, Int.toNat_natCast, lenTab_get hn, bits_small hn, Int.natCast_nonneg, if_true]
theorem bits_shift {n k : Nat} (h : 2 ^ k ≤ n) : Go.Sort.bitsLen n = k + Go.Sort.bitsLen (n / 2 ^ k) := by
  have h1 := Go.Sort.lt_two_pow_bitsLen (n / 2 ^ k)
  apply Nat.le_antisymm
  · rw [Go.Sort.bitsLen_le_iff, Nat.pow_add]
    have := (Nat.div_lt_iff_lt_mul (Nat.two_pow_pos k)).1 h1
    rwa [Nat.mul_comm] at this
  · have h2 := Go.Sort.lt_two_pow_bitsLen n
    have h3 : k ≤ Go.Sort.bitsLen n := by
      rcases Nat.lt_or_ge (Go.Sort.bitsLen n) k with h3 | h3
      · have := (Go.Sort.bitsLen_le_iff n k).1 (Nat.le_of_lt h3)
        omega
      · exact h3
    have h4 : Go.Sort.bitsLen (n / 2 ^ k) ≤ Go.Sort.bitsLen n - k := by
      rw [Go.Sort.bitsLen_le_iff, Nat.div_lt_iff_lt_mul (Nat.two_pow_pos k), ← Nat.pow_add]
      rwa [Nat.sub_add_cancel h3]
    omega
set_option maxHeartbeats 4000000 in
theorem len64_fw {h : Heap} {n : Nat} (hn : n ≤ 1000000) : FW env 74 [.int .u64 n] h fun r h' => r = i64 (Go.Sort.bitsLen n) ∧ h' = h := by
  refine fw_enter (fn := Try.f74) Try.func74 rfl (by kernel_rfl) (by simp [Try.ntmps74]) ?_; simp only [push_cast]
  have d1 : decide (4294967296 ≤ (n : Int)) = false := decide_eq_false (by omega)
  repeat (first | apply zs | apply zr | apply zn | ((first | apply zx | apply zy); · simp only [push_cast, env, Nat.reduceEqDiff, reduceIte, Nat.reduceAdd, Nat.reduceMul, Nat.reduceLeDiff, reduceCtorEq, Nat.reduceSub, Int.reduceToNat, d1] <;> first | exact rfl | exact .inl rfl | exact .inr rfl) | apply zq | apply zb | apply zo | apply zk | apply zl)
  refine cw_condF rfl ?_
  obtain ⟨z, hz⟩ : ∃ z : Nat, z = 0 := ⟨_, rfl⟩
  have ez : (0 : Int) = (z : Int) := by omega
  repeat (first | apply zs | apply zr | apply zn | ((first | apply zx | apply zy); · simp only [push_cast, env, Nat.reduceEqDiff, reduceIte, Nat.reduceAdd, Nat.reduceMul, Nat.reduceLeDiff, reduceCtorEq, Nat.reduceSub, Int.reduceToNat] <;> first | exact rfl | exact .inl rfl | exact .inr rfl) | apply zq | apply zb | apply zo | apply zk | apply zl)
  refine cw_weakL [(0, .val (.int .u64 n)), (2, .val (i64 z)), (8, .val (.bool (decide (65536 ≤ (n : Int)))))] (by rw [hz]; exact ⟨rfl, rfl, rfl, trivial⟩) ?_
  show CW _ _ ⟨_, [], h⟩ _
  refine CW.mono (Q := fun e s' => e = .normal ∧ s'.h = h ∧ ∃ m k : Nat, k + Go.Sort.bitsLen m = Go.Sort.bitsLen n ∧ m < 65536 ∧ k ≤ 16 ∧ SubL [(0, .val (.int .u64 m)), (2, .val (i64 k))] s'.fr) ?_ ?_
  · by_cases h1 : 65536 ≤ n
    · have d2 : decide (65536 ≤ (n : Int)) = true := decide_eq_true (by omega)
      have e1 : (n : Int).fdiv (2 ^ min 16 IntKind.u64.bits) = ((n / 65536 : Nat) : Int) := fdivN (by decide) (by decide)
      obtain ⟨m', hm'⟩ : ∃ y, y = n / 65536 := ⟨_, rfl⟩
      have hb := bits_shift (n := n) (k := 16) h1
      have e3 : n / 2 ^ 16 = m' := hm'.symm
      rw [e3] at hb
      rw [← hm'] at e1
      have e2 : IntKind.i64.wrap ((z : Int) + 16) = ((z + 16 : Nat) : Int) := by rw [wrap64_id (by omega) (by omega)]; omega
      obtain ⟨k', hk'⟩ : ∃ y, y = z + 16 := ⟨_, rfl⟩
      rw [← hk'] at e2
      refine cw_condT (by simp only [push_cast, env, Nat.reduceEqDiff, reduceIte, d2] <;> exact rfl) ?_
      repeat (first | apply zs | apply zr | apply zn | ((first | apply zx | apply zy); · simp only [push_cast, env, Nat.reduceEqDiff, reduceIte, Nat.reduceAdd, Nat.reduceMul, Nat.reduceLeDiff, reduceCtorEq, Nat.reduceSub, Int.reduceToNat, e1, e2] <;> first | exact rfl | exact .inl rfl | exact .inr rfl) | apply zq | apply zb | apply zo | apply zk | apply zl)
      exact ⟨rfl, rfl, m', k', by omega, by omega, by omega, (by simp only [push_cast, Nat.reduceEqDiff, reduceIte])⟩
    · have d2 : decide (65536 ≤ (n : Int)) = false := decide_eq_false (by omega)
      refine cw_condF (by simp only [push_cast, env, Nat.reduceEqDiff, reduceIte, d2] <;> exact rfl) ?_
      repeat (first | apply zs | apply zr | apply zn | ((first | apply zx | apply zy); · simp only [push_cast, env, Nat.reduceEqDiff, reduceIte, Nat.reduceAdd, Nat.reduceMul, Nat.reduceLeDiff, reduceCtorEq, Nat.reduceSub, Int.reduceToNat] <;> first | exact rfl | exact .inl rfl | exact .inr rfl) | apply zq | apply zb | apply zo | apply zk | apply zl)
      exact ⟨rfl, rfl, n, z, (by omega), by omega, by omega, (by simp only [push_cast, Nat.reduceEqDiff, reduceIte])⟩
  rintro e s' ⟨rfl, hh, m, k, hmk, hm, hk, hf⟩
  show CW _ _ _ _
  refine cw_weakL _ hf ?_
  rw [hh]
  clear hf hh
  repeat (first | apply zs | apply zr | apply zn | ((first | apply zx | apply zy); · simp only [push_cast, env, Nat.reduceEqDiff, reduceIte, Nat.reduceAdd, Nat.reduceMul, Nat.reduceLeDiff, reduceCtorEq, Nat.reduceSub, Int.reduceToNat] <;> first | exact rfl | exact .inl rfl | exact .inr rfl) | apply zq | apply zb | apply zo | apply zk | apply zl)
  refine CW.mono (Q := fun e s' => e = .normal ∧ s'.h = h ∧ ∃ m k : Nat, k + Go.Sort.bitsLen m = Go.Sort.bitsLen n ∧ m < 256 ∧ k ≤ 24 ∧ SubL [(0, .val (.int .u64 m)), (2, .val (i64 k))] s'.fr) ?_ ?_
  · by_cases h1 : 256 ≤ m
    · have d2 : decide (256 ≤ (m : Int)) = true := decide_eq_true (by omega)
      have e1 : (m : Int).fdiv (2 ^ min 8 IntKind.u64.bits) = ((m / 256 : Nat) : Int) := fdivN (by decide) (by decide)
      obtain ⟨m', hm'⟩ : ∃ y, y = m / 256 := ⟨_, rfl⟩
      have hb := bits_shift (n := m) (k := 8) h1
      have e3 : m / 2 ^ 8 = m' := hm'.symm
      rw [e3] at hb
      rw [← hm'] at e1
      have e2 : IntKind.i64.wrap ((k : Int) + 8) = ((k + 8 : Nat) : Int) := by rw [wrap64_id (by omega) (by omega)]; omega
      obtain ⟨k', hk'⟩ : ∃ y, y = k + 8 := ⟨_, rfl⟩
      rw [← hk'] at e2
      refine cw_condT (by simp only [push_cast, env, Nat.reduceEqDiff, reduceIte, d2] <;> exact rfl) ?_
      repeat (first | apply zs | apply zr | apply zn | ((first | apply zx | apply zy); · simp only [push_cast, env, Nat.reduceEqDiff, reduceIte, Nat.reduceAdd, Nat.reduceMul, Nat.reduceLeDiff, reduceCtorEq, Nat.reduceSub, Int.reduceToNat, e1, e2] <;> first | exact rfl | exact .inl rfl | exact .inr rfl) | apply zq | apply zb | apply zo | apply zk | apply zl)
      exact ⟨rfl, rfl, m', k', by omega, by omega, by omega, (by simp only [push_cast, Nat.reduceEqDiff, reduceIte])⟩
    · have d2 : decide (256 ≤ (m : Int)) = false := decide_eq_false (by omega)
      refine cw_condF (by simp only [push_cast, env, Nat.reduceEqDiff, reduceIte, d2] <;> exact rfl) ?_
      repeat (first | apply zs | apply zr | apply zn | ((first | apply zx | apply zy); · simp only [push_cast, env, Nat.reduceEqDiff, reduceIte, Nat.reduceAdd, Nat.reduceMul, Nat.reduceLeDiff, reduceCtorEq, Nat.reduceSub, Int.reduceToNat] <;> first | exact rfl | exact .inl rfl | exact .inr rfl) | apply zq | apply zb | apply zo | apply zk | apply zl)
      exact ⟨rfl, rfl, m, k, hmk, by omega, by omega, (by simp only [push_cast, Nat.reduceEqDiff, reduceIte])⟩
  rintro e s' ⟨rfl, hh, m2, k2, hmk2, hm2, hk2, hf⟩
  show CW _ _ _ _
  refine cw_weakL _ hf ?_
  rw [hh]
  clear hf hh
  have e1 : IntKind.u8.wrap (m2 : Int) = (m2 : Int) := wrapU8 (by omega) (by omega)
  have hb8 := (Go.Sort.bitsLen_le_iff m2 8).2 hm2
  have e2 : IntKind.i64.wrap ((Go.Sort.bitsLen m2 : Nat) : Int) = (Go.Sort.bitsLen m2 : Int) := wrap64_id (by omega) (by omega)
  have e3 : IntKind.i64.wrap ((k2 : Int) + (Go.Sort.bitsLen m2 : Int)) = ((Go.Sort.bitsLen n : Nat) : Int) := by rw [wrap64_id (by omega) (by omega)]; omega
  repeat (first | apply zs | apply zr | apply zn | apply zq | apply zb | apply zo | apply zk | apply zl)
  iterate 3 (apply ow_cons; · simp only [push_cast, env, Nat.reduceEqDiff, reduceIte, Nat.reduceAdd, Nat.reduceMul, Nat.reduceLeDiff, reduceCtorEq, Nat.reduceSub, Int.reduceToNat, e1] <;> exact rfl)
  refine ow_cons (step_tab rfl rfl rfl rfl (by simp only [push_cast, env, Nat.reduceEqDiff, reduceIte] <;> exact rfl) (by kernel_rfl) hm2) ?_
  dsimp only [St.putO, St.put]
  repeat (first | apply zs | apply zr | apply zn | ((first | apply zx | apply zy); · simp only [push_cast, env, Nat.reduceEqDiff, reduceIte, Nat.reduceAdd, Nat.reduceMul, Nat.reduceLeDiff, reduceCtorEq, Nat.reduceSub, Int.reduceToNat, e2, e3] <;> first | exact rfl | exact .inl rfl | exact .inr rfl) | apply zq | apply zb | apply zo | apply zk | apply zl)
  refine cw_ret ?_
  exact ⟨_, (by simp only [push_cast, env, Nat.reduceEqDiff, reduceIte] <;> exact rfl), rfl, rfl⟩
set_option maxHeartbeats 4000000 in
theorem len_fw {h : Heap} {n : Nat} (hn : n ≤ 1000000) : FW env 58 [.int .u64 n] h fun r h' => r = i64 (Go.Sort.bitsLen n) ∧ h' = h := by
  refine fw_enter (fn := Try.f58) Try.func58 rfl (by kernel_rfl) (by simp [Try.ntmps58]) ?_; simp only [push_cast]
  repeat (first | apply zs | apply zr | apply zn | ((first | apply zx | apply zy); · simp only [push_cast, env, Nat.reduceEqDiff, reduceIte, Nat.reduceAdd, Nat.reduceMul, Nat.reduceLeDiff, reduceCtorEq, Nat.reduceSub, Int.reduceToNat] <;> first | exact rfl | exact .inl rfl | exact .inr rfl) | apply zq | apply zb | apply zo | apply zk | apply zl)
  refine cw_condF rfl ?_
  repeat (first | apply zs | apply zr | apply zn | ((first | apply zx | apply zy); · simp only [push_cast, env, Nat.reduceEqDiff, reduceIte, Nat.reduceAdd, Nat.reduceMul, Nat.reduceLeDiff, reduceCtorEq, Nat.reduceSub, Int.reduceToNat] <;> first | exact rfl | exact .inl rfl | exact .inr rfl) | apply zq | apply zb | apply zo | apply zk | apply zl)
  refine zc (fn := Try.f74) (by simp only [push_cast, env, Nat.reduceEqDiff, reduceIte] <;> exact rfl) Try.func74 (by kernel_rfl) (by kernel_rfl) ?_
  rw [List.append_nil]
  refine (len64_fw hn).mono ?_
  rintro _ h1 ⟨rfl, rfl⟩
  repeat (first | apply zs | apply zr | apply zn | ((first | apply zx | apply zy); · simp only [push_cast, env, Nat.reduceEqDiff, reduceIte, Nat.reduceAdd, Nat.reduceMul, Nat.reduceLeDiff, reduceCtorEq, Nat.reduceSub, Int.reduceToNat] <;> first | exact rfl | exact .inl rfl | exact .inr rfl) | apply zq | apply zb | apply zo | apply zk | apply zl)
  refine cw_ret ?_
  exact ⟨_, (by simp only [push_cast, env, Nat.reduceEqDiff, reduceIte] <;> exact rfl), rfl, rfl⟩
set_option maxHeartbeats 4000000 in
theorem npow_fw {h : Heap} {n : Nat} (h0 : 8 ≤ n) (hn : n ≤ 1000000) : FW env 79 [i64 n] h fun r h' => (∃ m : Nat, r = .int .u64 m ∧ 0 < m ∧ m ≤ 2 * n) ∧ h' = h := by
  refine fw_enter (fn := Try.f79) Try.func79 rfl (by kernel_rfl) (by simp [Try.ntmps79]) ?_; simp only [push_cast]
  have e1 : IntKind.u64.wrap (n : Int) = (n : Int) := wrapU64 (by omega) (by omega)
  repeat (first | apply zs | apply zr | apply zn | ((first | apply zx | apply zy); · simp only [push_cast, env, Nat.reduceEqDiff, reduceIte, Nat.reduceAdd, Nat.reduceMul, Nat.reduceLeDiff, reduceCtorEq, Nat.reduceSub, Int.reduceToNat, e1] <;> first | exact rfl | exact .inl rfl | exact .inr rfl) | apply zq | apply zb | apply zo | apply zk | apply zl)
  refine zc (fn := Try.f58) (by simp only [push_cast, env, Nat.reduceEqDiff, reduceIte] <;> exact rfl) Try.func58 (by kernel_rfl) (by kernel_rfl) ?_
  rw [List.append_nil]
  refine (len_fw hn).mono ?_
  rintro _ h1 ⟨rfl, rfl⟩
  have hb := (Go.Sort.bitsLen_le_iff n 20).2 (by omega)
  have hp := Go.Sort.two_pow_bitsLen_le (n := n) (by omega)
  obtain ⟨m, hm⟩ : ∃ m, m = 2 ^ Go.Sort.bitsLen n := ⟨_, rfl⟩
  have hm0 : 0 < m := by rw [hm]; exact Nat.two_pow_pos _
  rw [← hm] at hp
  obtain ⟨B, hB⟩ : ∃ B, Go.Sort.bitsLen n = B := ⟨_, rfl⟩
  rw [hB] at hm hb ⊢
  have d1 : ¬ ((B : Int) < 0) := by omega
  have e2 : IntKind.u64.wrap (1 * 2 ^ min B IntKind.u64.bits) = (m : Int) := by
    have : min B IntKind.u64.bits = B := by
      show min B 64 = B
      omega
    have h2 : (2 : Int) ^ B = (m : Int) := by rw [hm]; push_cast; rfl
    rw [this, Int.one_mul, h2]
    exact wrapU64 (by omega) (by omega)
  repeat (first | apply zs | apply zr | apply zn | ((first | apply zx | apply zy); · simp only [push_cast, env, Nat.reduceEqDiff, reduceIte, Nat.reduceAdd, Nat.reduceMul, Nat.reduceLeDiff, reduceCtorEq, Nat.reduceSub, Int.reduceToNat, d1, e2] <;> first | exact rfl | exact .inl rfl | exact .inr rfl) | apply zq | apply zb | apply zo | apply zk | apply zl)
  refine cw_ret ?_
  exact ⟨_, (by simp only [push_cast, env, Nat.reduceEqDiff, reduceIte] <;> exact rfl), ⟨m, rfl, hm0, hp⟩, rfl⟩
set_option maxHeartbeats 4000000 in
theorem xnext_fw {h : Heap} {sid : Nat} {v : Int} (hs : h[sid]? = some (.arr [.int .u64 v] 0 true 119)) :
    FW env 80 [.pointer (some ⟨sid, 0, some 0⟩)] h fun r h' => ∃ w : Int, r = .int .u64 w ∧ h' = h.set sid (.arr [.int .u64 w] 0 true 119) := by
  refine fw_enter (fn := Try.f80) Try.func80 rfl (by kernel_rfl) (by simp [Try.ntmps80]) ?_; simp only [push_cast]
  repeat (first | apply zs | apply zr | apply zn | ((first | apply zx | apply zy); · simp only [push_cast, env, Nat.reduceEqDiff, reduceIte, Nat.reduceAdd, Nat.reduceMul, Nat.reduceLeDiff, reduceCtorEq, Nat.reduceSub, Int.reduceToNat] <;> first | exact rfl | exact .inl rfl | exact .inr rfl) | apply zq | apply zb | apply zo | apply zk | apply zl)
  refine cw_weakL [(0, .val (.pointer (some ⟨sid, 0, some 0⟩)))] (by simp only [push_cast, Nat.reduceEqDiff, reduceIte]) ?_
  show CW _ _ ⟨_, [], h⟩ _
  apply cw_ordA (L := [[], [0], [1], [], [3], [4], [5], [2, 6], [0], [0, 1, 2, 3, 4, 5, 6, 7, 8]]) (act := [9]) (hs := [h.set sid (.arr [.int .u64 _] 0 true 119)]) (resL := [_, _, _, _, _, _, _, _, _, _]) (frF := [(0, .val (.pointer (some ⟨sid, 0, some 0⟩)))])
  case hm => exact mixed
  case hc => kernel_rfl
  case ha => rfl
  case hb => rfl
  case hS =>
    repeat (first | exact StepsA.nil _ | (apply StepsA.cons; (· rfl); (· (first | refine ⟨?_, trivial⟩ | refine ⟨?_, ?_, trivial⟩ | refine ⟨?_, ?_, ?_, trivial⟩ | refine ⟨?_, ?_, ?_, ?_, trivial⟩) <;> (apply zz; simp only [push_cast, env, Nat.reduceEqDiff, reduceIte, Nat.reduceAdd, Nat.reduceMul, Nat.reduceLeDiff, reduceCtorEq, Nat.reduceSub, Int.reduceToNat, hs] <;> exact rfl)); (· rfl)))
    apply StepsA.cons
    · rfl
    · refine ⟨?_, trivial⟩
      exact one_sto (r := .sl .unk) rfl (by simp only [push_cast, env, Nat.reduceEqDiff, reduceIte] <;> exact rfl) rfl (by simp only [push_cast, env, Nat.reduceEqDiff, reduceIte] <;> exact rfl) (by simp only [push_cast, env, Nat.reduceEqDiff, reduceIte] <;> exact rfl) hs (by simp only [push_cast, env, Nat.reduceEqDiff, reduceIte] <;> exact rfl) rfl rfl rfl rfl
    · rfl
    exact StepsA.nil _
  case ht => rfl
  case hF => repeat (first | exact trivial | (refine ⟨.inl ⟨by decide, rfl⟩, ?_⟩) | (refine ⟨.inr ⟨rfl, by simp⟩, ?_⟩))
  show CW _ _ ⟨_, [], h.set sid (.arr [.int .u64 (IntKind.u64.wrap _)] 0 true 119)⟩ _
  generalize IntKind.u64.wrap _ = v1
  have hs1 : (h.set sid (.arr [.int .u64 v1] 0 true 119))[sid]? = some (.arr [.int .u64 v1] 0 true 119) := get_set_self hs
  obtain ⟨h1, k1⟩ : ∃ h1, h.set sid (.arr [.int .u64 v1] 0 true 119) = h1 := ⟨_, rfl⟩
  rw [k1] at hs1 ⊢
  repeat (first | apply zs | apply zr | apply zn | apply zq | apply zb | apply zo | apply zk | apply zl)
  apply cw_ordA (L := [[], [0], [1], [], [3], [4], [5], [2, 6], [0], [0, 1, 2, 3, 4, 5, 6, 7, 8]]) (act := [9]) (hs := [h1.set sid (.arr [.int .u64 _] 0 true 119)]) (resL := [_, _, _, _, _, _, _, _, _, _]) (frF := [(0, .val (.pointer (some ⟨sid, 0, some 0⟩)))])
  case hm => exact mixed
  case hc => kernel_rfl
  case ha => rfl
  case hb => rfl
  case hS =>
    repeat (first | exact StepsA.nil _ | (apply StepsA.cons; (· rfl); (· (first | refine ⟨?_, trivial⟩ | refine ⟨?_, ?_, trivial⟩ | refine ⟨?_, ?_, ?_, trivial⟩ | refine ⟨?_, ?_, ?_, ?_, trivial⟩) <;> (apply zz; simp only [push_cast, env, Nat.reduceEqDiff, reduceIte, Nat.reduceAdd, Nat.reduceMul, Nat.reduceLeDiff, reduceCtorEq, Nat.reduceSub, Int.reduceToNat, hs1] <;> exact rfl)); (· rfl)))
    apply StepsA.cons
    · rfl
    · refine ⟨?_, trivial⟩
      exact one_sto (r := .sl .unk) rfl (by simp only [push_cast, env, Nat.reduceEqDiff, reduceIte] <;> exact rfl) rfl (by simp only [push_cast, env, Nat.reduceEqDiff, reduceIte] <;> exact rfl) (by simp only [push_cast, env, Nat.reduceEqDiff, reduceIte] <;> exact rfl) hs1 (by simp only [push_cast, env, Nat.reduceEqDiff, reduceIte] <;> exact rfl) rfl rfl rfl rfl
    · rfl
    exact StepsA.nil _
  case ht => rfl
  case hF => repeat (first | exact trivial | (refine ⟨.inl ⟨by decide, rfl⟩, ?_⟩) | (refine ⟨.inr ⟨rfl, by simp⟩, ?_⟩))
  show CW _ _ ⟨_, [], h1.set sid (.arr [.int .u64 (IntKind.u64.wrap _)] 0 true 119)⟩ _
  generalize IntKind.u64.wrap _ = v2
  have hs2 : (h1.set sid (.arr [.int .u64 v2] 0 true 119))[sid]? = some (.arr [.int .u64 v2] 0 true 119) := get_set_self hs1
  obtain ⟨h2, k2⟩ : ∃ h2, h1.set sid (.arr [.int .u64 v2] 0 true 119) = h2 := ⟨_, rfl⟩
  rw [k2] at hs2 ⊢
  repeat (first | apply zs | apply zr | apply zn | apply zq | apply zb | apply zo | apply zk | apply zl)
  apply cw_ordA (L := [[], [0], [1], [], [3], [4], [5], [2, 6], [0], [0, 1, 2, 3, 4, 5, 6, 7, 8]]) (act := [9]) (hs := [h2.set sid (.arr [.int .u64 _] 0 true 119)]) (resL := [_, _, _, _, _, _, _, _, _, _]) (frF := [(0, .val (.pointer (some ⟨sid, 0, some 0⟩)))])
  case hm => exact mixed
  case hc => kernel_rfl
  case ha => rfl
  case hb => rfl
  case hS =>
    repeat (first | exact StepsA.nil _ | (apply StepsA.cons; (· rfl); (· (first | refine ⟨?_, trivial⟩ | refine ⟨?_, ?_, trivial⟩ | refine ⟨?_, ?_, ?_, trivial⟩ | refine ⟨?_, ?_, ?_, ?_, trivial⟩) <;> (apply zz; simp only [push_cast, env, Nat.reduceEqDiff, reduceIte, Nat.reduceAdd, Nat.reduceMul, Nat.reduceLeDiff, reduceCtorEq, Nat.reduceSub, Int.reduceToNat, hs2] <;> exact rfl)); (· rfl)))
    apply StepsA.cons
    · rfl
    · refine ⟨?_, trivial⟩
      exact one_sto (r := .sl .unk) rfl (by simp only [push_cast, env, Nat.reduceEqDiff, reduceIte] <;> exact rfl) rfl (by simp only [push_cast, env, Nat.reduceEqDiff, reduceIte] <;> exact rfl) (by simp only [push_cast, env, Nat.reduceEqDiff, reduceIte] <;> exact rfl) hs2 (by simp only [push_cast, env, Nat.reduceEqDiff, reduceIte] <;> exact rfl) rfl rfl rfl rfl
    · rfl
    exact StepsA.nil _
  case ht => rfl
  case hF => repeat (first | exact trivial | (refine ⟨.inl ⟨by decide, rfl⟩, ?_⟩) | (refine ⟨.inr ⟨rfl, by simp⟩, ?_⟩))
  show CW _ _ ⟨_, [], h2.set sid (.arr [.int .u64 (IntKind.u64.wrap _)] 0 true 119)⟩ _
  generalize IntKind.u64.wrap _ = v3
  have hs3 : (h2.set sid (.arr [.int .u64 v3] 0 true 119))[sid]? = some (.arr [.int .u64 v3] 0 true 119) := get_set_self hs2
  obtain ⟨h3, k3⟩ : ∃ h3, h2.set sid (.arr [.int .u64 v3] 0 true 119) = h3 := ⟨_, rfl⟩
  rw [k3] at hs3 ⊢
  repeat (first | apply zs | apply zr | apply zn | ((first | apply zx | apply zy); · simp only [push_cast, env, Nat.reduceEqDiff, reduceIte, Nat.reduceAdd, Nat.reduceMul, Nat.reduceLeDiff, reduceCtorEq, Nat.reduceSub, Int.reduceToNat, hs3] <;> first | exact rfl | exact .inl rfl | exact .inr rfl) | apply zq | apply zb | apply zo | apply zk | apply zl)
  refine cw_ret ?_
  exact ⟨_, (by simp only [push_cast, env, Nat.reduceEqDiff, reduceIte] <;> exact rfl), v3, rfl, by rw [← k3, ← k2, ← k1, set_set_heap, set_set_heap]⟩
end Go.Proofs.Ytafncpgiibikcaa

namespace Go.Proofs.Ytafncpgiibikcaa
set_option linter.unusedSimpArgs false
set_option linter.unusedVariables false
set_option maxRecDepth 20000
open Go.RowKit Am Ty

theorem push_setn {Y : Heap} {n : Nat} {x y : HObj} (h : Y.length = n) : (Y ++ [x]).set n y = Y ++ [y] := by
  subst h
  simp
theorem push_setm {Y : Heap} {id : Nat} {x y : HObj} (h : id < Y.length) : (Y ++ [x]).set id y = Y.set id y ++ [x] := List.set_append_left _ _ h
theorem get_pushn {Y : Heap} {n : Nat} {x : HObj} (h : Y.length = n) : (Y ++ [x])[n]? = some x := by
  subst h
  simp
theorem and_small {w : Int} {m : Nat} (hm : m < 18446744073709551616) : ∃ o : Nat, IntKind.u64.wrap ((BitVec.ofInt IntKind.u64.bits w &&& BitVec.ofInt IntKind.u64.bits (m : Int)).toNat) = (o : Int) ∧ o ≤ m := by
  have h1 : (BitVec.ofInt IntKind.u64.bits (m : Int)).toNat = m := by
    show (BitVec.ofInt 64 (m : Int)).toNat = m
    rw [BitVec.toNat_ofInt]
    omega
  refine ⟨(BitVec.ofInt IntKind.u64.bits w &&& BitVec.ofInt IntKind.u64.bits (m : Int)).toNat, ?_, ?_⟩
  · refine wrapU64 (by omega) ?_
    have := (BitVec.ofInt IntKind.u64.bits w &&& BitVec.ofInt IntKind.u64.bits (m : Int)).isLt
    have e : (2 : Nat) ^ IntKind.u64.bits = 18446744073709551616 := rfl
    omega
  · rw [BitVec.toNat_and, h1]
    exact Nat.and_le_right
set_option maxHeartbeats 8000000 in
theorem brk_fw {h : Heap} {id ver c a b : Nat} {d : Array Item} {fv : Value} (D : DA h id ver d) (h8 : 8 ≤ b - a) (hb : b ≤ d.size) :
    FW env 67 [.slice (some ⟨id, 0, some ver⟩) d.size c, i64 a, i64 b, fv] h fun r h' =>
      r = .tuple #[] ∧ ∃ d', Go.Sort.PermIn a b d d' ∧ DA h' id ver d' ∧ h.set id (.arr (IC d') ver true 57) <+: h' := by
  have hsz := D.n
  obtain ⟨l, hl⟩ : ∃ l, l = b - a := ⟨_, rfl⟩
  obtain ⟨q, hq⟩ : ∃ q, q = l / 4 := ⟨_, rfl⟩
  obtain ⟨A, hA⟩ : ∃ A, A = a + q * 2 - 1 := ⟨_, rfl⟩
  obtain ⟨B, hB⟩ : ∃ B, B = a + q * 2 + 1 := ⟨_, rfl⟩
  have e1 : IntKind.i64.wrap ((b : Int) - a) = (l : Int) := by rw [wrap64_id (by omega) (by omega)]; omega
  have e2 : IntKind.i64.wrap ((l : Int).tdiv 4) = (q : Int) := by
    have : (l : Int).tdiv 4 = (q : Int) := by rw [hq]; rfl
    rw [this, wrap64_id (by omega) (by omega)]
  have e4 : IntKind.i64.wrap ((q : Int) * 2) = (q : Int) * 2 := wrap64_id (by omega) (by omega)
  have e5 : IntKind.i64.wrap ((a : Int) + (q : Int) * 2) = (a : Int) + (q : Int) * 2 := wrap64_id (by omega) (by omega)
  have e6 : IntKind.i64.wrap ((a : Int) + (q : Int) * 2 - 1) = (A : Int) := by rw [wrap64_id (by omega) (by omega)]; omega
  have e7 : IntKind.i64.wrap ((a : Int) + (q : Int) * 2 + 1) = (B : Int) := by rw [wrap64_id (by omega) (by omega)]; omega
  have e8 : IntKind.u64.wrap (l : Int) = (l : Int) := wrapU64 (by omega) (by omega)
  have d1 : decide (8 ≤ (l : Int)) = true := decide_eq_true (by omega)
  have hAa : a ≤ A := by omega
  have hBb : B < b := by omega
  have hAB : A + 2 = B := by omega
  have hla : l + a = b := by omega
  have hl8 : 8 ≤ l := by omega
  clear hq hA hB hl
  refine fw_enter (fn := Try.f67) Try.func67 rfl (by kernel_rfl) (by simp [Try.ntmps67]) ?_; simp only [push_cast]
  repeat (first | apply zs | apply zr | apply zn | ((first | apply zx | apply zy); · simp only [push_cast, env, Nat.reduceEqDiff, reduceIte, Nat.reduceAdd, Nat.reduceMul, Nat.reduceLeDiff, reduceCtorEq, Nat.reduceSub, Int.reduceToNat, e1, d1] <;> first | exact rfl | exact .inl rfl | exact .inr rfl) | apply zq | apply zb | apply zo | apply zk | apply zl)
  refine cw_condT rfl ?_
  repeat (first | apply zs | apply zr | apply zn | apply zq | apply zb | apply zo | apply zk | apply zl)
  iterate 2 (apply ow_cons; · simp only [push_cast, env, Nat.reduceEqDiff, reduceIte, Nat.reduceAdd, Nat.reduceMul, Nat.reduceLeDiff, reduceCtorEq, Nat.reduceSub, Int.reduceToNat, e8] <;> exact rfl)
  refine ow_boxH (t := 119) (cs := [.int .u64 0]) (by simp only [push_cast, env, Nat.reduceEqDiff, reduceIte] <;> exact rfl) (by simp only [push_cast, env, Nat.reduceEqDiff, reduceIte] <;> exact rfl) ?_
  dsimp only [St.putO, St.put]
  refine ow_stoH (by simp only [push_cast, env, Nat.reduceEqDiff, reduceIte] <;> exact rfl) rfl rfl (by simp only [push_cast, env, Nat.reduceEqDiff, reduceIte] <;> exact rfl) (by simp only [push_cast, env, Nat.reduceEqDiff, reduceIte] <;> exact rfl) get_push (by simp only [push_cast, env, Nat.reduceEqDiff, reduceIte] <;> exact rfl) rfl rfl ?_
  rw [push_setn rfl]
  repeat (first | apply zs | apply zr | apply zn | ((first | apply zx | apply zy); · simp only [push_cast, env, Nat.reduceEqDiff, reduceIte, Nat.reduceAdd, Nat.reduceMul, Nat.reduceLeDiff, reduceCtorEq, Nat.reduceSub, Int.reduceToNat] <;> first | exact rfl | exact .inl rfl | exact .inr rfl) | apply zq | apply zb | apply zo | apply zk | apply zl)
  refine zc (fn := Try.f79) (by simp only [push_cast, env, Nat.reduceEqDiff, reduceIte] <;> exact rfl) Try.func79 (by kernel_rfl) (by kernel_rfl) ?_
  rw [List.append_nil]
  refine (npow_fw hl8 (by omega)).mono ?_
  rintro _ _ ⟨⟨m, rfl, hm0, hm⟩, rfl⟩
  repeat (first | apply zs | apply zr | apply zn | ((first | apply zx | apply zy); · simp only [push_cast, env, Nat.reduceEqDiff, reduceIte, Nat.reduceAdd, Nat.reduceMul, Nat.reduceLeDiff, reduceCtorEq, Nat.reduceSub, Int.reduceToNat, e2, e4, e5, e6] <;> first | exact rfl | exact .inl rfl | exact .inr rfl) | apply zq | apply zb | apply zo | apply zk | apply zl)
  have hid : id < h.length := (List.getElem?_eq_some_iff.1 D.g).1
  have hsame := set_same D.g
  refine cw_wh (fun x : Nat × Int × Array Item => B + 1 - x.1) (fun x => [(0, .val (.slice (some ⟨id, 0, some ver⟩) d.size c)), (1, .val (i64 a)), (8, .val (i64 l)), (9, .val (.pointer (some ⟨h.length, 0, some 0⟩))), (10, .val (.int .u64 m)), (11, .val (i64 x.1))])
    (fun x => h.set id (.arr (IC x.2.2) ver true 57) ++ [.arr [.int .u64 x.2.1] 0 true 119])
    (fun x => A ≤ x.1 ∧ x.1 ≤ B + 1 ∧ Go.Sort.PermIn a b d x.2.2 ∧ DA (h.set id (.arr (IC x.2.2) ver true 57)) id ver x.2.2) (A, (l : Int), d) (by simp only [push_cast, Nat.reduceEqDiff, reduceIte]) (by simp only [hsame]) ⟨Nat.le_refl _, by simp only; omega, Go.Sort.permIn_refl _ _ _, by simp only [hsame]; exact D⟩ ?_
  rintro ⟨x, v, dc⟩ ⟨h1, h2, h3, D1⟩
  simp only at h1 h2 h3 D1 ⊢
  have hsz1 : dc.size = d.size := h3.1
  have hL : ∀ dd : Array Item, (h.set id (.arr (IC dd) ver true 57)).length = h.length := fun dd => List.length_set ..
  by_cases hxB : x ≤ B
  · have d2 : decide ((x : Int) ≤ (B : Int)) = true := decide_eq_true (by omega)
    have e9 : IntKind.i64.wrap ((x : Int) + 1) = (x : Int) + 1 := wrap64_id (by omega) (by omega)
    have e10 : IntKind.u64.wrap ((m : Int) - 1) = ((m - 1 : Nat) : Int) := by rw [wrapU64 (by omega) (by omega)]; omega
    obtain ⟨m1, hm1⟩ : ∃ m1, m1 = m - 1 := ⟨_, rfl⟩
    rw [← hm1] at e10
    repeat (first | apply zs | apply zr | apply zn | ((first | apply zx | apply zy); · simp only [push_cast, env, Nat.reduceEqDiff, reduceIte, Nat.reduceAdd, Nat.reduceMul, Nat.reduceLeDiff, reduceCtorEq, Nat.reduceSub, Int.reduceToNat, e2, e4, e5, e7, d2] <;> first | exact rfl | exact .inl rfl | exact .inr rfl) | apply zq | apply zb | apply zo | apply zk | apply zl)
    refine cw_condT rfl ?_
    repeat (first | apply zs | apply zr | apply zn | ((first | apply zx | apply zy); · simp only [push_cast, env, Nat.reduceEqDiff, reduceIte, Nat.reduceAdd, Nat.reduceMul, Nat.reduceLeDiff, reduceCtorEq, Nat.reduceSub, Int.reduceToNat] <;> first | exact rfl | exact .inl rfl | exact .inr rfl) | apply zq | apply zb | apply zo | apply zk | apply zl)
    refine zc (fn := Try.f80) (by simp only [push_cast, env, Nat.reduceEqDiff, reduceIte] <;> exact rfl) Try.func80 (by kernel_rfl) (by kernel_rfl) ?_
    rw [List.append_nil]
    refine (xnext_fw (v := v) (get_pushn (hL _))).mono ?_
    rintro _ _ ⟨w, rfl, rfl⟩
    rw [push_setn (hL _)]
    obtain ⟨o, ho, hom⟩ := and_small (w := w) (m := m1) (by omega)
    have e11 : IntKind.i64.wrap (o : Int) = (o : Int) := wrap64_id (by omega) (by omega)
    repeat (first | apply zs | apply zr | apply zn | ((first | apply zx | apply zy); · simp only [push_cast, env, Nat.reduceEqDiff, reduceIte, Nat.reduceAdd, Nat.reduceMul, Nat.reduceLeDiff, reduceCtorEq, Nat.reduceSub, Int.reduceToNat, e10, ho, e11] <;> first | exact rfl | exact .inl rfl | exact .inr rfl) | apply zq | apply zb | apply zo | apply zk | apply zl)
    refine CW.mono (Q := fun e s' => e = .normal ∧ s'.h = h.set id (.arr (IC dc) ver true 57) ++ [.arr [.int .u64 w] 0 true 119] ∧ ∃ p : Nat, p < l ∧ SubL [(0, .val (.slice (some ⟨id, 0, some ver⟩) d.size c)), (1, .val (i64 a)), (8, .val (i64 l)), (9, .val (.pointer (some ⟨h.length, 0, some 0⟩))), (10, .val (.int .u64 m)), (11, .val (i64 x)), (12, .val (i64 p))] s'.fr) ?_ ?_
    · by_cases hol : l ≤ o
      · have d3 : decide ((l : Int) ≤ (o : Int)) = true := decide_eq_true (by omega)
        obtain ⟨p, hp⟩ : ∃ p, p = o - l := ⟨_, rfl⟩
        have e12 : IntKind.i64.wrap ((o : Int) - (l : Int)) = (p : Int) := by rw [wrap64_id (by omega) (by omega)]; omega
        refine cw_condT (by simp only [push_cast, env, Nat.reduceEqDiff, reduceIte, d3] <;> exact rfl) ?_
        repeat (first | apply zs | apply zr | apply zn | ((first | apply zx | apply zy); · simp only [push_cast, env, Nat.reduceEqDiff, reduceIte, Nat.reduceAdd, Nat.reduceMul, Nat.reduceLeDiff, reduceCtorEq, Nat.reduceSub, Int.reduceToNat, e12] <;> first | exact rfl | exact .inl rfl | exact .inr rfl) | apply zq | apply zb | apply zo | apply zk | apply zl)
        exact ⟨rfl, rfl, p, by omega, (by simp only [push_cast, Nat.reduceEqDiff, reduceIte])⟩
      · have d3 : decide ((l : Int) ≤ (o : Int)) = false := decide_eq_false (by omega)
        refine cw_condF (by simp only [push_cast, env, Nat.reduceEqDiff, reduceIte, d3] <;> exact rfl) ?_
        repeat (first | apply zs | apply zr | apply zn | ((first | apply zx | apply zy); · simp only [push_cast, env, Nat.reduceEqDiff, reduceIte, Nat.reduceAdd, Nat.reduceMul, Nat.reduceLeDiff, reduceCtorEq, Nat.reduceSub, Int.reduceToNat] <;> first | exact rfl | exact .inl rfl | exact .inr rfl) | apply zq | apply zb | apply zo | apply zk | apply zl)
        exact ⟨rfl, rfl, o, by omega, (by simp only [push_cast, Nat.reduceEqDiff, reduceIte])⟩
    rintro e s' ⟨rfl, hh, p, hpl, hf⟩
    show CW _ _ _ _
    refine cw_weakL _ hf ?_
    rw [hh]
    clear hf hh
    obtain ⟨y, hy⟩ : ∃ y, y = a + p := ⟨_, rfl⟩
    have e13 : IntKind.i64.wrap ((a : Int) + (p : Int)) = (y : Int) := by rw [wrap64_id (by omega) (by omega)]; omega
    have e14 : IntKind.i64.wrap ((p : Int) + (a : Int)) = (y : Int) := by rw [wrap64_id (by omega) (by omega)]; omega
    have hx1 : x < dc.size := by omega
    have hy1 : y < dc.size := by omega
    have gx := ic_get hx1
    have gy := ic_get hy1
    have rx := rng (k := x) (n := d.size) (by omega)
    have ry := rng (k := y) (n := d.size) (by omega)
    obtain ⟨hc, hhc⟩ : ∃ hc, h.set id (.arr (IC dc) ver true 57) ++ [.arr [.int .u64 w] 0 true 119] = hc := ⟨_, rfl⟩
    have hg : hc[id]? = some (.arr (IC dc) ver true 57) := by rw [← hhc]; exact get_of_push D1.g
    rw [hhc]
    repeat (first | apply zs | apply zr | apply zn | ((first | apply zx | apply zy); · simp only [push_cast, env, Nat.reduceEqDiff, reduceIte, Nat.reduceAdd, Nat.reduceMul, Nat.reduceLeDiff, reduceCtorEq, Nat.reduceSub, Int.reduceToNat] <;> first | exact rfl | exact .inl rfl | exact .inr rfl) | apply zq | apply zb | apply zo | apply zk | apply zl)
    apply cw_ordA (L := [[], [], [], [], [], [3, 4], [], [], [], [7, 8], [6, 7, 8, 9], [6, 7, 8, 9, 10], [], [], [12, 13], [12, 13, 14], [0, 1], [0, 1, 6, 7, 8, 9, 10, 11, 12, 13, 14, 15, 16], [2, 3, 4, 5], [0, 1, 2, 3, 4, 5, 6, 7, 8, 9, 10, 11, 12, 13, 14, 15, 16, 17, 18]]) (act := [17, 19]) (hs := [hc.set id (.arr (IC (dc.setIfInBounds x dc[y]!)) ver true 57), hc.set id (.arr (IC (Go.Sort.swp dc x y)) ver true 57)]) (resL := [_, _, _, _, _, _, _, _, _, _, _, _, _, _, _, _, _, _, _, _]) (frF := [(0, .val (.slice (some ⟨id, 0, some ver⟩) d.size c)), (1, .val (i64 a)), (8, .val (i64 l)), (9, .val (.pointer (some ⟨h.length, 0, some 0⟩))), (10, .val (.int .u64 m)), (11, .val (i64 x))])
    case hm => exact mixed
    case hc => kernel_rfl
    case ha => rfl
    case hb => rfl
    case hS =>
      repeat (first | exact StepsA.nil _ | (apply StepsA.cons; (· rfl); (· (first | refine ⟨?_, trivial⟩ | refine ⟨?_, ?_, trivial⟩ | refine ⟨?_, ?_, ?_, trivial⟩ | refine ⟨?_, ?_, ?_, ?_, trivial⟩) <;> (apply zz; simp only [push_cast, env, Nat.reduceEqDiff, reduceIte, Nat.reduceAdd, Nat.reduceMul, Nat.reduceLeDiff, reduceCtorEq, Nat.reduceSub, Int.reduceToNat, hg, gx, gy, rx, ry, e13, e14, Nat.mul_one] <;> exact rfl)); (· rfl)))
      apply StepsA.cons
      · rfl
      · refine ⟨?_, trivial⟩
        exact one_sto (r := .sl .unk) rfl (by simp only [push_cast, env, Nat.reduceEqDiff, reduceIte] <;> exact rfl) rfl (by simp only [push_cast, env, Nat.reduceEqDiff, reduceIte] <;> exact rfl) (by simp only [push_cast, env, Nat.reduceEqDiff, reduceIte] <;> exact rfl) hg (by simp only [push_cast, env, Nat.reduceEqDiff, reduceIte] <;> exact rfl) rfl (ic_set (d := dc) (i := x) (x := dc[y]!) hx1) rfl rfl
      · rfl
      repeat (first | exact StepsA.nil _ | (apply StepsA.cons; (· rfl); (· (first | refine ⟨?_, trivial⟩ | refine ⟨?_, ?_, trivial⟩ | refine ⟨?_, ?_, ?_, trivial⟩ | refine ⟨?_, ?_, ?_, ?_, trivial⟩) <;> (apply zz; simp only [push_cast, env, Nat.reduceEqDiff, reduceIte, Nat.reduceAdd, Nat.reduceMul, Nat.reduceLeDiff, reduceCtorEq, Nat.reduceSub, Int.reduceToNat, hg, gx, gy, rx, ry, e13, e14, Nat.mul_one] <;> exact rfl)); (· rfl)))
      apply StepsA.cons
      · rfl
      · refine ⟨?_, trivial⟩
        exact one_sto (r := .sl .unk) rfl (by simp only [push_cast, env, Nat.reduceEqDiff, reduceIte] <;> exact rfl) rfl (by simp only [push_cast, env, Nat.reduceEqDiff, reduceIte] <;> exact rfl) (by simp only [push_cast, env, Nat.reduceEqDiff, reduceIte] <;> exact rfl) (get_set_self hg) (by simp only [push_cast, env, Nat.reduceEqDiff, reduceIte] <;> exact rfl) rfl (ic_set (d := dc.setIfInBounds x dc[y]!) (i := y) (x := dc[x]!) (by simpa using hy1)) rfl set_set_heap.symm
      · rfl
      exact StepsA.nil _
    case ht => rfl
    case hF => repeat (first | exact trivial | (refine ⟨.inl ⟨by decide, rfl⟩, ?_⟩) | (refine ⟨.inr ⟨rfl, by simp⟩, ?_⟩))
    show CW _ _ _ _
    repeat (first | apply zs | apply zr | apply zn | ((first | apply zx | apply zy); · simp only [push_cast, env, Nat.reduceEqDiff, reduceIte, Nat.reduceAdd, Nat.reduceMul, Nat.reduceLeDiff, reduceCtorEq, Nat.reduceSub, Int.reduceToNat, e9] <;> first | exact rfl | exact .inl rfl | exact .inr rfl) | apply zq | apply zb | apply zo | apply zk | apply zl)
    refine ⟨(x + 1, w, Go.Sort.swp dc x y), by simp only; omega, (by simp only [push_cast, Nat.reduceEqDiff, reduceIte]), ?_, by simp only; omega, by simp only; omega, ?_, ?_⟩
    · simp only
      show hc.set id _ = _
      rw [← hhc, push_setm (by rw [hL]; exact hid), set_set_heap]
    · exact Go.Sort.permIn_trans _ _ _ a b h3 (Go.Sort.swp_permIn _ a b x y (by omega) (by omega) (by omega) (by omega) (by omega))
    · have := D1.swp hx1 hy1
      rw [set_set_heap] at this
      exact this
  · have d2 : decide ((x : Int) ≤ (B : Int)) = false := decide_eq_false (by omega)
    repeat (first | apply zs | apply zr | apply zn | ((first | apply zx | apply zy); · simp only [push_cast, env, Nat.reduceEqDiff, reduceIte, Nat.reduceAdd, Nat.reduceMul, Nat.reduceLeDiff, reduceCtorEq, Nat.reduceSub, Int.reduceToNat, e2, e4, e5, e7, d2] <;> first | exact rfl | exact .inl rfl | exact .inr rfl) | apply zq | apply zb | apply zo | apply zk | apply zl)
    refine cw_condF rfl ?_
    refine cw_exit ?_
    exact ⟨_, (by simp only [push_cast, env, Nat.reduceEqDiff, reduceIte] <;> exact rfl), rfl, dc, h3, ⟨get_of_push D1.g, D1.n, D1.b⟩, List.prefix_append _ _⟩
end Go.Proofs.Ytafncpgiibikcaa

namespace Go.Proofs.Ytafncpgiibikcaa
set_option linter.unusedSimpArgs false
set_option linter.unusedVariables false
set_option maxRecDepth 20000
open Go.RowKit Am Ty

theorem pre_setS {h hc : Heap} {id : Nat} {x y : HObj} (h1 : h.set id x <+: hc) (hid : id < h.length) : h.set id y <+: hc.set id y := by
  obtain ⟨t, rfl⟩ := h1
  refine ⟨t, ?_⟩
  rw [List.set_append_left _ _ (by rw [List.length_set]; exact hid), List.set_set]
def SInv (h : Heap) (id ver : Nat) (hc : Heap) (dc : Array Item) : Prop := DA hc id ver dc ∧ h.set id (.arr (IC dc) ver true 57) <+: hc
theorem SInv.to {h : Heap} {id ver : Nat} {hc h' : Heap} {dc d' : Array Item} (I : SInv h id ver hc dc) (hid : id < h.length) (D : DA h' id ver d') (e : hc.set id (.arr (IC d') ver true 57) <+: h') : SInv h id ver h' d' :=
  ⟨D, (pre_setS I.2 hid).trans e⟩
theorem SInv.eq {h : Heap} {id ver : Nat} {hc h' : Heap} {dc d' : Array Item} (I : SInv h id ver hc dc) (hid : id < h.length) (D : DA h' id ver d') (e : h' = hc.set id (.arr (IC d') ver true 57)) : SInv h id ver h' d' :=
  I.to hid D (by rw [e]; exact List.prefix_refl _)
def SDone (h : Heap) (id ver a b : Nat) (d : Array Item) (h' : Heap) : Prop := ∃ d', Go.Sort.PermIn a b d d' ∧ Go.Sort.SortedIn ltI a b d' ∧ SInv h id ver h' d'
set_option maxHeartbeats 16000000 in
theorem pdq_fw {id ver c : Nat} : ∀ (n : Nat) {h : Heap} {a b lim : Nat} {d : Array Item}, b - a ≤ n → DA h id ver d → a ≤ b → b ≤ d.size → lim ≤ 100 → Go.Sort.Below ltI a b d →
    FW env 57 [.slice (some ⟨id, 0, some ver⟩) d.size c, i64 a, i64 b, i64 lim, lessV] h fun r h' => r = .tuple #[] ∧ SDone h id ver a b d h' := by
  intro n
  induction n using Nat.strongRecOn with
  | _ n ih =>
  intro h a0 b0 lim0 d hbn D hab hb hlim hB0
  have hsz := D.n
  have hid : id < h.length := (List.getElem?_eq_some_iff.1 D.g).1
  refine fw_enter (fn := Try.f57) Try.func57 rfl (by kernel_rfl) (by simp [Try.ntmps57]) ?_; simp only [push_cast]
  repeat (first | apply zs | apply zr | apply zn | ((first | apply zx | apply zy); · simp only [push_cast, env, Nat.reduceEqDiff, reduceIte, Nat.reduceAdd, Nat.reduceMul, Nat.reduceLeDiff, reduceCtorEq, Nat.reduceSub, Int.reduceToNat] <;> first | exact rfl | exact .inl rfl | exact .inr rfl) | apply zq | apply zb | apply zo | apply zk | apply zl)
  refine cw_wh (fun x : Nat × Nat × Nat × Bool × Bool × Array Item × Heap => x.2.1 - x.1) (fun x => [(0, .val (.slice (some ⟨id, 0, some ver⟩) d.size c)), (1, .val (i64 x.1)), (2, .val (i64 x.2.1)), (3, .val (i64 x.2.2.1)), (4, .val lessV), (10, .val (.bool x.2.2.2.1)), (11, .val (.bool x.2.2.2.2.1))]) (fun x => x.2.2.2.2.2.2)
    (fun x => x.1 ≤ x.2.1 ∧ x.2.1 ≤ d.size ∧ x.2.1 - x.1 ≤ n ∧ x.2.2.1 ≤ 100 ∧ x.2.2.2.2.2.1.size = d.size ∧ SInv h id ver x.2.2.2.2.2.2 x.2.2.2.2.2.1 ∧ Go.Sort.Below ltI x.1 x.2.1 x.2.2.2.2.2.1 ∧
      ∀ R, Go.Sort.PermIn x.1 x.2.1 x.2.2.2.2.2.1 R → Go.Sort.SortedIn ltI x.1 x.2.1 R → Go.Sort.PermIn a0 b0 d R ∧ Go.Sort.SortedIn ltI a0 b0 R) (a0, b0, lim0, true, true, d, h) (by simp only [push_cast, Nat.reduceEqDiff, reduceIte]) rfl ⟨hab, hb, hbn, hlim, rfl, ⟨D, by simp only [set_same D.g]; exact List.prefix_refl _⟩, hB0, fun R h1 h2 => ⟨h1, h2⟩⟩ ?_
  clear D hab hb hlim hB0 hbn lim0
  rintro ⟨a, b, lim, wb, wp, dc, hc⟩ ⟨hab, hbs, hbn, hlim, hs, I, hB, K⟩
  simp only at hab hbs hbn hlim hs I hB K ⊢
  obtain ⟨l, hl⟩ : ∃ l, l = b - a := ⟨_, rfl⟩
  have e1 : IntKind.i64.wrap ((b : Int) - (a : Int)) = (l : Int) := by rw [wrap64_id (by omega) (by omega)]; omega
  repeat (first | apply zs | apply zr | apply zn | ((first | apply zx | apply zy); · simp only [push_cast, env, Nat.reduceEqDiff, reduceIte, Nat.reduceAdd, Nat.reduceMul, Nat.reduceLeDiff, reduceCtorEq, Nat.reduceSub, Int.reduceToNat, e1] <;> first | exact rfl | exact .inl rfl | exact .inr rfl) | apply zq | apply zb | apply zo | apply zk | apply zl)
  by_cases h12 : l ≤ 12
  · have d1 : decide ((l : Int) ≤ 12) = true := decide_eq_true (by omega)
    refine cw_condT (by simp only [push_cast, env, Nat.reduceEqDiff, reduceIte, d1] <;> exact rfl) ?_
    repeat (first | apply zs | apply zr | apply zn | ((first | apply zx | apply zy); · simp only [push_cast, env, Nat.reduceEqDiff, reduceIte, Nat.reduceAdd, Nat.reduceMul, Nat.reduceLeDiff, reduceCtorEq, Nat.reduceSub, Int.reduceToNat] <;> first | exact rfl | exact .inl rfl | exact .inr rfl) | apply zq | apply zb | apply zo | apply zk | apply zl)
    refine zc (fn := Try.f65) (by simp only [push_cast, env, Nat.reduceEqDiff, reduceIte] <;> exact rfl) Try.func65 (by kernel_rfl) (by kernel_rfl) ?_
    rw [List.append_nil]
    have kk := insertion_fw (c := c) I.1 hab (by omega)
    rw [hs] at kk
    refine kk.mono ?_
    rintro _ h1 ⟨rfl, k1, D1, k2⟩
    obtain ⟨q1, q2⟩ := Go.Sort.insertionSort_holds ltI_swo dc a b hab (by omega)
    obtain ⟨K1, K2⟩ := K _ q1 q2
    repeat (first | apply zs | apply zr | apply zn | ((first | apply zx | apply zy); · simp only [push_cast, env, Nat.reduceEqDiff, reduceIte, Nat.reduceAdd, Nat.reduceMul, Nat.reduceLeDiff, reduceCtorEq, Nat.reduceSub, Int.reduceToNat] <;> first | exact rfl | exact .inl rfl | exact .inr rfl) | apply zq | apply zb | apply zo | apply zk | apply zl)
    refine cw_ret ?_
    exact ⟨_, (by simp only [push_cast, env, Nat.reduceEqDiff, reduceIte] <;> exact rfl), rfl, _, K1, K2, I.eq hid D1 k1⟩
  have d1 : decide ((l : Int) ≤ 12) = false := decide_eq_false (by omega)
  refine cw_condF (by simp only [push_cast, env, Nat.reduceEqDiff, reduceIte, d1] <;> exact rfl) ?_
  clear d1
  repeat (first | apply zs | apply zr | apply zn | ((first | apply zx | apply zy); · simp only [push_cast, env, Nat.reduceEqDiff, reduceIte, Nat.reduceAdd, Nat.reduceMul, Nat.reduceLeDiff, reduceCtorEq, Nat.reduceSub, Int.reduceToNat] <;> first | exact rfl | exact .inl rfl | exact .inr rfl) | apply zq | apply zb | apply zo | apply zk | apply zl)
  by_cases hl0 : lim = 0
  · have d2 : decide ((lim : Int) = 0) = true := decide_eq_true (by omega)
    refine cw_condT (by simp only [push_cast, env, Nat.reduceEqDiff, reduceIte, d2] <;> exact rfl) ?_
    repeat (first | apply zs | apply zr | apply zn | ((first | apply zx | apply zy); · simp only [push_cast, env, Nat.reduceEqDiff, reduceIte, Nat.reduceAdd, Nat.reduceMul, Nat.reduceLeDiff, reduceCtorEq, Nat.reduceSub, Int.reduceToNat] <;> first | exact rfl | exact .inl rfl | exact .inr rfl) | apply zq | apply zb | apply zo | apply zk | apply zl)
    refine zc (fn := Try.f66) (by simp only [push_cast, env, Nat.reduceEqDiff, reduceIte] <;> exact rfl) Try.func66 (by kernel_rfl) (by kernel_rfl) ?_
    rw [List.append_nil]
    have kk := heap_fw (c := c) I.1 hab (by omega)
    rw [hs] at kk
    refine kk.mono ?_
    rintro _ h1 ⟨rfl, k1, D1, k2⟩
    obtain ⟨q1, q2⟩ := Go.Sort.heapSort_holds ltI_swo dc a b hab (by omega)
    obtain ⟨K1, K2⟩ := K _ q1 q2
    repeat (first | apply zs | apply zr | apply zn | ((first | apply zx | apply zy); · simp only [push_cast, env, Nat.reduceEqDiff, reduceIte, Nat.reduceAdd, Nat.reduceMul, Nat.reduceLeDiff, reduceCtorEq, Nat.reduceSub, Int.reduceToNat] <;> first | exact rfl | exact .inl rfl | exact .inr rfl) | apply zq | apply zb | apply zo | apply zk | apply zl)
    refine cw_ret ?_
    exact ⟨_, (by simp only [push_cast, env, Nat.reduceEqDiff, reduceIte] <;> exact rfl), rfl, _, K1, K2, I.eq hid D1 k1⟩
  have d2 : decide ((lim : Int) = 0) = false := decide_eq_false (by omega)
  refine cw_condF (by simp only [push_cast, env, Nat.reduceEqDiff, reduceIte, d2] <;> exact rfl) ?_
  clear d2
  repeat (first | apply zs | apply zr | apply zn | ((first | apply zx | apply zy); · simp only [push_cast, env, Nat.reduceEqDiff, reduceIte, Nat.reduceAdd, Nat.reduceMul, Nat.reduceLeDiff, reduceCtorEq, Nat.reduceSub, Int.reduceToNat] <;> first | exact rfl | exact .inl rfl | exact .inr rfl) | apply zq | apply zb | apply zo | apply zk | apply zl)
  refine CW.mono (Q := fun e s' => e = .normal ∧ ∃ (d1 : Array Item) (lim1 : Nat), Go.Sort.PermIn a b dc d1 ∧ SInv h id ver s'.h d1 ∧ lim1 ≤ 100 ∧ SubL [(0, .val (.slice (some ⟨id, 0, some ver⟩) d.size c)), (1, .val (i64 a)), (2, .val (i64 b)), (3, .val (i64 lim1)), (4, .val lessV), (10, .val (.bool wb)), (11, .val (.bool wp)), (12, .val (i64 l))] s'.fr) ?_ ?_
  · cases wb with
    | false =>
      obtain ⟨lim1, hl1⟩ : ∃ z, z = lim - 1 := ⟨_, rfl⟩
      have e2 : IntKind.i64.wrap ((lim : Int) - 1) = (lim1 : Int) := by rw [wrap64_id (by omega) (by omega)]; omega
      refine cw_condT rfl ?_
      repeat (first | apply zs | apply zr | apply zn | ((first | apply zx | apply zy); · simp only [push_cast, env, Nat.reduceEqDiff, reduceIte, Nat.reduceAdd, Nat.reduceMul, Nat.reduceLeDiff, reduceCtorEq, Nat.reduceSub, Int.reduceToNat] <;> first | exact rfl | exact .inl rfl | exact .inr rfl) | apply zq | apply zb | apply zo | apply zk | apply zl)
      refine zc (fn := Try.f67) (by simp only [push_cast, env, Nat.reduceEqDiff, reduceIte] <;> exact rfl) Try.func67 (by kernel_rfl) (by kernel_rfl) ?_
      rw [List.append_nil]
      have kk := brk_fw (c := c) (a := a) (b := b) (fv := lessV) I.1 (by omega) (by omega)
      rw [hs] at kk
      refine kk.mono ?_
      rintro _ h1 ⟨rfl, d1, q1, D1, q2⟩
      repeat (first | apply zs | apply zr | apply zn | ((first | apply zx | apply zy); · simp only [push_cast, env, Nat.reduceEqDiff, reduceIte, Nat.reduceAdd, Nat.reduceMul, Nat.reduceLeDiff, reduceCtorEq, Nat.reduceSub, Int.reduceToNat, e2] <;> first | exact rfl | exact .inl rfl | exact .inr rfl) | apply zq | apply zb | apply zo | apply zk | apply zl)
      exact ⟨rfl, d1, lim1, q1, I.to hid D1 q2, by omega, (by simp only [push_cast, Nat.reduceEqDiff, reduceIte, hs])⟩
    | true =>
      refine cw_condF rfl ?_
      repeat (first | apply zs | apply zr | apply zn | ((first | apply zx | apply zy); · simp only [push_cast, env, Nat.reduceEqDiff, reduceIte, Nat.reduceAdd, Nat.reduceMul, Nat.reduceLeDiff, reduceCtorEq, Nat.reduceSub, Int.reduceToNat] <;> first | exact rfl | exact .inl rfl | exact .inr rfl) | apply zq | apply zb | apply zo | apply zk | apply zl)
      exact ⟨rfl, dc, lim, Go.Sort.permIn_refl _ _ _, I, hlim, (by simp only [push_cast, Nat.reduceEqDiff, reduceIte])⟩
  rintro e s' ⟨rfl, d1, lim1, p1, I1, hlim1, hf⟩
  show CW _ _ _ _
  obtain ⟨h1, hh1⟩ : ∃ z, s'.h = z := ⟨_, rfl⟩
  refine cw_weakL _ hf ?_
  rw [hh1] at I1 ⊢
  clear hf hh1
  clear s'
  have hs1 : d1.size = d.size := p1.1.trans hs
  clear hl0 hlim
  repeat (first | apply zs | apply zr | apply zn | ((first | apply zx | apply zy); · simp only [push_cast, env, Nat.reduceEqDiff, reduceIte, Nat.reduceAdd, Nat.reduceMul, Nat.reduceLeDiff, reduceCtorEq, Nat.reduceSub, Int.reduceToNat] <;> first | exact rfl | exact .inl rfl | exact .inr rfl) | apply zq | apply zb | apply zo | apply zk | apply zl)
  refine zc (fn := Try.f68) (by simp only [push_cast, env, Nat.reduceEqDiff, reduceIte] <;> exact rfl) Try.func68 (by kernel_rfl) (by kernel_rfl) ?_
  rw [List.append_nil]
  have kk := pivot_fw (c := c) (a := a) (b := b) I1.1 (by omega) (by omega)
  rw [hs1] at kk
  refine kk.mono ?_
  rintro _ _ ⟨⟨p, hint, rfl, hpa, hpb⟩, rfl⟩
  repeat (first | apply zs | apply zr | apply zn | ((first | apply zx | apply zy); · simp only [push_cast, env, Nat.reduceEqDiff, reduceIte, Nat.reduceAdd, Nat.reduceMul, Nat.reduceLeDiff, reduceCtorEq, Nat.reduceSub, Int.reduceToNat] <;> first | exact rfl | exact .inl rfl | exact .inr rfl) | apply zq | apply zb | apply zo | apply zk | apply zl)
  refine CW.mono (Q := fun e s' => e = .normal ∧ ∃ (d2 : Array Item) (p2 : Nat) (hint2 : Int), Go.Sort.PermIn a b d1 d2 ∧ SInv h id ver s'.h d2 ∧ a ≤ p2 ∧ p2 < b ∧ SubL [(0, .val (.slice (some ⟨id, 0, some ver⟩) d.size c)), (1, .val (i64 a)), (2, .val (i64 b)), (3, .val (i64 lim1)), (4, .val lessV), (10, .val (.bool wb)), (11, .val (.bool wp)), (12, .val (i64 l)), (13, .val (i64 p2)), (14, .val (i64 hint2))] s'.fr) ?_ ?_
  · by_cases hh2 : hint = 2
    · have d3 : decide ((hint : Int) = 2) = true := decide_eq_true (by omega)
      obtain ⟨p2, hp2⟩ : ∃ z, z = (b - 1) - (p - a) := ⟨_, rfl⟩
      have e3 : IntKind.i64.wrap ((b : Int) - 1) = (b : Int) - 1 := wrap64_id (by omega) (by omega)
      have e4 : IntKind.i64.wrap ((p : Int) - (a : Int)) = (p : Int) - (a : Int) := wrap64_id (by omega) (by omega)
      have e5 : IntKind.i64.wrap ((b : Int) - 1 - ((p : Int) - (a : Int))) = (p2 : Int) := by rw [wrap64_id (by omega) (by omega)]; omega
      refine cw_condT (by simp only [push_cast, env, Nat.reduceEqDiff, reduceIte, d3] <;> exact rfl) ?_
      repeat (first | apply zs | apply zr | apply zn | ((first | apply zx | apply zy); · simp only [push_cast, env, Nat.reduceEqDiff, reduceIte, Nat.reduceAdd, Nat.reduceMul, Nat.reduceLeDiff, reduceCtorEq, Nat.reduceSub, Int.reduceToNat] <;> first | exact rfl | exact .inl rfl | exact .inr rfl) | apply zq | apply zb | apply zo | apply zk | apply zl)
      refine zc (fn := Try.f69) (by simp only [push_cast, env, Nat.reduceEqDiff, reduceIte] <;> exact rfl) Try.func69 (by kernel_rfl) (by kernel_rfl) ?_
      rw [List.append_nil]
      have kk := reverse_fw (c := c) (a := a) (b := b) (fv := lessV) I1.1 (by omega) (by omega)
      rw [hs1] at kk
      refine kk.mono ?_
      rintro _ h2 ⟨rfl, k1, D1, k2⟩
      have q1 := Go.Sort.reverseRange_holds d1 a b hab (by omega)
      repeat (first | apply zs | apply zr | apply zn | ((first | apply zx | apply zy); · simp only [push_cast, env, Nat.reduceEqDiff, reduceIte, Nat.reduceAdd, Nat.reduceMul, Nat.reduceLeDiff, reduceCtorEq, Nat.reduceSub, Int.reduceToNat, e3, e4, e5] <;> first | exact rfl | exact .inl rfl | exact .inr rfl) | apply zq | apply zb | apply zo | apply zk | apply zl)
      exact ⟨rfl, _, p2, 1, q1, I1.eq hid D1 k1, by omega, by omega, (by simp only [push_cast, Nat.reduceEqDiff, reduceIte, hs1])⟩
    · have d3 : decide ((hint : Int) = 2) = false := decide_eq_false (by omega)
      refine cw_condF (by simp only [push_cast, env, Nat.reduceEqDiff, reduceIte, d3] <;> exact rfl) ?_
      repeat (first | apply zs | apply zr | apply zn | ((first | apply zx | apply zy); · simp only [push_cast, env, Nat.reduceEqDiff, reduceIte, Nat.reduceAdd, Nat.reduceMul, Nat.reduceLeDiff, reduceCtorEq, Nat.reduceSub, Int.reduceToNat] <;> first | exact rfl | exact .inl rfl | exact .inr rfl) | apply zq | apply zb | apply zo | apply zk | apply zl)
      exact ⟨rfl, d1, p, hint, Go.Sort.permIn_refl _ _ _, I1, hpa, hpb, (by simp only [push_cast, Nat.reduceEqDiff, reduceIte, hs1])⟩
  clear hpa hpb
  clear p hint
  rintro e s' ⟨rfl, d2, p, hint, p2, I2, hpa, hpb, hf⟩
  show CW _ _ _ _
  obtain ⟨h2, hh2⟩ : ∃ z, s'.h = z := ⟨_, rfl⟩
  refine cw_weakL _ hf ?_
  rw [hh2] at I2 ⊢
  clear hf hh2
  clear s'
  have hs2 : d2.size = d.size := p2.1.trans hs1
  have P2 := Go.Sort.permIn_trans _ _ _ a b p1 p2
  have B2 := hB.perm (by omega) P2
  clear p1 p2 I1 hs1 hB I
  repeat refine cw_seq ?_
  refine CW.mono (Q := fun e s' => e = .normal ∧ s'.h = h2 ∧ ∃ β : Bool, SubL [(0, .val (.slice (some ⟨id, 0, some ver⟩) d.size c)), (1, .val (i64 a)), (2, .val (i64 b)), (3, .val (i64 lim1)), (4, .val lessV), (10, .val (.bool wb)), (11, .val (.bool wp)), (12, .val (i64 l)), (13, .val (i64 p)), (75, .val (.bool β))] s'.fr) ?_ ?_
  · cases wb with
    | false =>
      repeat (first | apply zs | apply zr | apply zn | ((first | apply zx | apply zy); · simp only [push_cast, env, Nat.reduceEqDiff, reduceIte, Nat.reduceAdd, Nat.reduceMul, Nat.reduceLeDiff, reduceCtorEq, Nat.reduceSub, Int.reduceToNat] <;> first | exact rfl | exact .inl rfl | exact .inr rfl) | apply zq | apply zb | apply zo | apply zk | apply zl)
      exact ⟨rfl, rfl, false, (by simp only [push_cast, Nat.reduceEqDiff, reduceIte])⟩
    | true =>
      cases wp with
      | false =>
        repeat (first | apply zs | apply zr | apply zn | ((first | apply zx | apply zy); · simp only [push_cast, env, Nat.reduceEqDiff, reduceIte, Nat.reduceAdd, Nat.reduceMul, Nat.reduceLeDiff, reduceCtorEq, Nat.reduceSub, Int.reduceToNat] <;> first | exact rfl | exact .inl rfl | exact .inr rfl) | apply zq | apply zb | apply zo | apply zk | apply zl)
        exact ⟨rfl, rfl, false, (by simp only [push_cast, Nat.reduceEqDiff, reduceIte])⟩
      | true =>
        repeat (first | apply zs | apply zr | apply zn | ((first | apply zx | apply zy); · simp only [push_cast, env, Nat.reduceEqDiff, reduceIte, Nat.reduceAdd, Nat.reduceMul, Nat.reduceLeDiff, reduceCtorEq, Nat.reduceSub, Int.reduceToNat] <;> first | exact rfl | exact .inl rfl | exact .inr rfl) | apply zq | apply zb | apply zo | apply zk | apply zl)
        exact ⟨rfl, rfl, decide (hint = 1), (by simp only [push_cast, Nat.reduceEqDiff, reduceIte])⟩
  rintro e s' ⟨rfl, hh, β, hf⟩
  show CW _ _ _ _
  refine cw_weakL _ hf ?_
  rw [hh]
  clear hf hh s'
  refine CW.mono (Q := fun e s' => (e = .ret ∧ SDone h id ver a b dc s'.h) ∨ (e = .normal ∧ ∃ d3, Go.Sort.PermIn a b d2 d3 ∧ SInv h id ver s'.h d3 ∧ SubL [(0, .val (.slice (some ⟨id, 0, some ver⟩) d.size c)), (1, .val (i64 a)), (2, .val (i64 b)), (3, .val (i64 lim1)), (4, .val lessV), (10, .val (.bool wb)), (11, .val (.bool wp)), (12, .val (i64 l)), (13, .val (i64 p))] s'.fr)) ?_ ?_
  · cases β with
    | true =>
      refine cw_condT rfl ?_
      repeat (first | apply zs | apply zr | apply zn | ((first | apply zx | apply zy); · simp only [push_cast, env, Nat.reduceEqDiff, reduceIte, Nat.reduceAdd, Nat.reduceMul, Nat.reduceLeDiff, reduceCtorEq, Nat.reduceSub, Int.reduceToNat] <;> first | exact rfl | exact .inl rfl | exact .inr rfl) | apply zq | apply zb | apply zo | apply zk | apply zl)
      refine zc (fn := Try.f70) (by simp only [push_cast, env, Nat.reduceEqDiff, reduceIte] <;> exact rfl) Try.func70 (by kernel_rfl) (by kernel_rfl) ?_
      rw [List.append_nil]
      have kk := pins_fw (c := c) (a := a) (b := b) I2.1 (by omega) (by omega)
      rw [hs2] at kk
      refine kk.mono ?_
      obtain ⟨q1, q2⟩ := Go.Sort.partialInsertionSort_holds ltI_swo d2 a b (by omega) (by omega) B2
      obtain ⟨P, hP⟩ : ∃ P, Go.Sort.partialInsertionSort ltI d2 a b = P := ⟨_, rfl⟩
      rw [hP] at q1 q2 ⊢
      rintro _ h3 ⟨rfl, k1, D1, k2⟩
      cases hP2 : P.2 with
      | true =>
        repeat (first | apply zs | apply zr | apply zn | ((first | apply zx | apply zy); · simp only [push_cast, env, Nat.reduceEqDiff, reduceIte, Nat.reduceAdd, Nat.reduceMul, Nat.reduceLeDiff, reduceCtorEq, Nat.reduceSub, Int.reduceToNat] <;> first | exact rfl | exact .inl rfl | exact .inr rfl) | apply zq | apply zb | apply zo | apply zk | apply zl)
        refine cw_condT rfl ?_
        refine cw_ret ?_
        exact .inl ⟨rfl, _, Go.Sort.permIn_trans _ _ _ a b P2 q1, q2 hP2, I2.eq hid D1 k1⟩
      | false =>
        repeat (first | apply zs | apply zr | apply zn | ((first | apply zx | apply zy); · simp only [push_cast, env, Nat.reduceEqDiff, reduceIte, Nat.reduceAdd, Nat.reduceMul, Nat.reduceLeDiff, reduceCtorEq, Nat.reduceSub, Int.reduceToNat] <;> first | exact rfl | exact .inl rfl | exact .inr rfl) | apply zq | apply zb | apply zo | apply zk | apply zl)
        refine cw_condF rfl ?_
        repeat (first | apply zs | apply zr | apply zn | ((first | apply zx | apply zy); · simp only [push_cast, env, Nat.reduceEqDiff, reduceIte, Nat.reduceAdd, Nat.reduceMul, Nat.reduceLeDiff, reduceCtorEq, Nat.reduceSub, Int.reduceToNat] <;> first | exact rfl | exact .inl rfl | exact .inr rfl) | apply zq | apply zb | apply zo | apply zk | apply zl)
        exact .inr ⟨rfl, _, q1, I2.eq hid D1 k1, (by simp only [push_cast, Nat.reduceEqDiff, reduceIte, hs2])⟩
    | false =>
      refine cw_condF rfl ?_
      repeat (first | apply zs | apply zr | apply zn | ((first | apply zx | apply zy); · simp only [push_cast, env, Nat.reduceEqDiff, reduceIte, Nat.reduceAdd, Nat.reduceMul, Nat.reduceLeDiff, reduceCtorEq, Nat.reduceSub, Int.reduceToNat] <;> first | exact rfl | exact .inl rfl | exact .inr rfl) | apply zq | apply zb | apply zo | apply zk | apply zl)
      exact .inr ⟨rfl, _, Go.Sort.permIn_refl _ _ _, I2, (by simp only [push_cast, Nat.reduceEqDiff, reduceIte])⟩
  rintro e s' (⟨rfl, dd, q1, q2, q3⟩ | ⟨rfl, d3, p3, I3, hf⟩)
  · obtain ⟨K1, K2⟩ := K _ q1 q2
    exact ⟨_, rfl, rfl, dd, K1, K2, q3⟩
  show CW _ _ _ _
  obtain ⟨h3, hh3⟩ : ∃ z, s'.h = z := ⟨_, rfl⟩
  refine cw_weakL _ hf ?_
  rw [hh3] at I3 ⊢
  clear hf hh3
  clear s'
  have hs3 : d3.size = d.size := p3.1.trans hs2
  have B3 := B2.perm (by omega) p3
  have P3 := Go.Sort.permIn_trans _ _ _ a b P2 p3
  have hp3 : p < d3.size := by omega
  have gp := ic_get hp3
  have bp := I3.1.b _ hp3
  have rp := rng (k := p) (n := d.size) (by omega)
  have hg := I3.1.g
  repeat refine cw_seq ?_
  refine CW.mono (Q := fun e s' => e = .normal ∧ s'.h = h3 ∧ SubL [(0, .val (.slice (some ⟨id, 0, some ver⟩) d.size c)), (1, .val (i64 a)), (2, .val (i64 b)), (3, .val (i64 lim1)), (4, .val lessV), (10, .val (.bool wb)), (11, .val (.bool wp)), (12, .val (i64 l)), (13, .val (i64 p)), (97, .val (.bool (decide (0 < a) && !ltI d3[a - 1]! d3[p]!)))] s'.fr) ?_ ?_
  · by_cases ha0 : 0 < a
    · have d4 : decide (0 < (a : Int)) = true := decide_eq_true (by omega)
      obtain ⟨q, hq⟩ : ∃ q, q = a - 1 := ⟨_, rfl⟩
      have e5 : IntKind.i64.wrap ((a : Int) - 1) = (q : Int) := by rw [wrap64_id (by omega) (by omega)]; omega
      have hq3 : q < d3.size := by omega
      have gq := ic_get hq3
      have bq := I3.1.b _ hq3
      have rq := rng (k := q) (n := d.size) (by omega)
      rw [← hq, decide_eq_true ha0, Bool.true_and]
      cases hl : ltI d3[q]! d3[p]! with
      | true =>
        have d7 : decide (cmpI d3[q]! d3[p]! < 0) = true := hl
        apply cw_ord0 (L := [[], [0], [1], [2], [2], [2], [2, 5], [2, 4, 6], [2, 7], [2], [2], [2, 9, 10], [2, 11], [2, 3, 8, 12], [2, 13], [2, 14], [2, 15]]) (resL := [_, _, _, _, _, _, _, _, _, _, _, _, _, _, _, _, _]) (frF := [(0, .val (.slice (some ⟨id, 0, some ver⟩) d.size c)), (1, .val (i64 a)), (2, .val (i64 b)), (3, .val (i64 lim1)), (4, .val lessV), (10, .val (.bool wb)), (11, .val (.bool wp)), (12, .val (i64 l)), (13, .val (i64 p)), (97, .val (.bool false))])
        case hm => exact mixed
        case hc => kernel_rfl
        case hb => rfl
        case hS =>
          repeat (first | exact Steps0.nil _ | (apply Steps0.cons; (· apply zz; simp only [push_cast, env, Nat.reduceEqDiff, reduceIte, Nat.reduceAdd, Nat.reduceMul, Nat.reduceLeDiff, reduceCtorEq, Nat.reduceSub, Int.reduceToNat, d4, e5, hg, gp, gq, rp, rq, Nat.mul_one] <;> exact rfl); (· rfl)))
          apply Steps0.cons
          · exact one_call (fn := Try.f44) (args := [d3[q]!.val, d3[p]!.val]) (cap := []) rfl (by simp only [push_cast, env, Nat.reduceEqDiff, reduceIte, d4] <;> exact rfl) rfl (by simp only [push_cast, env, Nat.reduceEqDiff, reduceIte] <;> exact rfl) (by simp only [push_cast, env, Nat.reduceEqDiff, reduceIte] <;> exact rfl) Try.func44 (by kernel_rfl) (by kernel_rfl) (less7_fw bq bp)
          · rfl
          repeat (first | exact Steps0.nil _ | (apply Steps0.cons; (· apply zz; simp only [push_cast, env, Nat.reduceEqDiff, reduceIte, Nat.reduceAdd, Nat.reduceMul, Nat.reduceLeDiff, reduceCtorEq, Nat.reduceSub, Int.reduceToNat, d7, d4] <;> exact rfl); (· rfl)))
        case ht => rfl
        case hF => repeat (first | exact trivial | (refine ⟨.inl ⟨by decide, rfl⟩, ?_⟩) | (refine ⟨.inr ⟨rfl, by simp⟩, ?_⟩))
        exact ⟨rfl, rfl, (by simp only [push_cast, Nat.reduceEqDiff, reduceIte])⟩
      | false =>
        have d7 : decide (cmpI d3[q]! d3[p]! < 0) = false := hl
        apply cw_ord0 (L := [[], [0], [1], [2], [2], [2], [2, 5], [2, 4, 6], [2, 7], [2], [2], [2, 9, 10], [2, 11], [2, 3, 8, 12], [2, 13], [2, 14], [2, 15]]) (resL := [_, _, _, _, _, _, _, _, _, _, _, _, _, _, _, _, _]) (frF := [(0, .val (.slice (some ⟨id, 0, some ver⟩) d.size c)), (1, .val (i64 a)), (2, .val (i64 b)), (3, .val (i64 lim1)), (4, .val lessV), (10, .val (.bool wb)), (11, .val (.bool wp)), (12, .val (i64 l)), (13, .val (i64 p)), (97, .val (.bool true))])
        case hm => exact mixed
        case hc => kernel_rfl
        case hb => rfl
        case hS =>
          repeat (first | exact Steps0.nil _ | (apply Steps0.cons; (· apply zz; simp only [push_cast, env, Nat.reduceEqDiff, reduceIte, Nat.reduceAdd, Nat.reduceMul, Nat.reduceLeDiff, reduceCtorEq, Nat.reduceSub, Int.reduceToNat, d4, e5, hg, gp, gq, rp, rq, Nat.mul_one] <;> exact rfl); (· rfl)))
          apply Steps0.cons
          · exact one_call (fn := Try.f44) (args := [d3[q]!.val, d3[p]!.val]) (cap := []) rfl (by simp only [push_cast, env, Nat.reduceEqDiff, reduceIte, d4] <;> exact rfl) rfl (by simp only [push_cast, env, Nat.reduceEqDiff, reduceIte] <;> exact rfl) (by simp only [push_cast, env, Nat.reduceEqDiff, reduceIte] <;> exact rfl) Try.func44 (by kernel_rfl) (by kernel_rfl) (less7_fw bq bp)
          · rfl
          repeat (first | exact Steps0.nil _ | (apply Steps0.cons; (· apply zz; simp only [push_cast, env, Nat.reduceEqDiff, reduceIte, Nat.reduceAdd, Nat.reduceMul, Nat.reduceLeDiff, reduceCtorEq, Nat.reduceSub, Int.reduceToNat, d7, d4] <;> exact rfl); (· rfl)))
        case ht => rfl
        case hF => repeat (first | exact trivial | (refine ⟨.inl ⟨by decide, rfl⟩, ?_⟩) | (refine ⟨.inr ⟨rfl, by simp⟩, ?_⟩))
        exact ⟨rfl, rfl, (by simp only [push_cast, Nat.reduceEqDiff, reduceIte])⟩
    · have d4 : decide (0 < (a : Int)) = false := decide_eq_false (by omega)
      rw [decide_eq_false ha0, Bool.false_and]
      apply cw_ord0 (L := [[], [0], [1], [2], [2], [2], [2, 5], [2, 4, 6], [2, 7], [2], [2], [2, 9, 10], [2, 11], [2, 3, 8, 12], [2, 13], [2, 14], [2, 15]]) (resL := [_, _, _, _, _, _, _, _, _, _, _, _, _, _, _, _, _]) (frF := [(0, .val (.slice (some ⟨id, 0, some ver⟩) d.size c)), (1, .val (i64 a)), (2, .val (i64 b)), (3, .val (i64 lim1)), (4, .val lessV), (10, .val (.bool wb)), (11, .val (.bool wp)), (12, .val (i64 l)), (13, .val (i64 p)), (97, .val (.bool false))])
      case hm => exact mixed
      case hc => kernel_rfl
      case hb => rfl
      case hS => repeat (first | exact Steps0.nil _ | (apply Steps0.cons; (· apply zz; simp only [push_cast, env, Nat.reduceEqDiff, reduceIte, Nat.reduceAdd, Nat.reduceMul, Nat.reduceLeDiff, reduceCtorEq, Nat.reduceSub, Int.reduceToNat, d4] <;> exact rfl); (· rfl)))
      case ht => rfl
      case hF => repeat (first | exact trivial | (refine ⟨.inl ⟨by decide, rfl⟩, ?_⟩) | (refine ⟨.inr ⟨rfl, by simp⟩, ?_⟩))
      exact ⟨rfl, rfl, (by simp only [push_cast, Nat.reduceEqDiff, reduceIte])⟩
  rintro e s' ⟨rfl, hh, hf⟩
  show CW _ _ _ _
  refine cw_weakL _ hf ?_
  rw [hh]
  clear hf hh s'
  clear gp bp rp hg
  cases hc2 : (decide (0 < a) && !ltI d3[a - 1]! d3[p]!) with
  | true =>
    rw [Bool.and_eq_true, decide_eq_true_eq, Bool.not_eq_true'] at hc2
    refine cw_condT rfl ?_
    repeat (first | apply zs | apply zr | apply zn | ((first | apply zx | apply zy); · simp only [push_cast, env, Nat.reduceEqDiff, reduceIte, Nat.reduceAdd, Nat.reduceMul, Nat.reduceLeDiff, reduceCtorEq, Nat.reduceSub, Int.reduceToNat] <;> first | exact rfl | exact .inl rfl | exact .inr rfl) | apply zq | apply zb | apply zo | apply zk | apply zl)
    refine zc (fn := Try.f71) (by simp only [push_cast, env, Nat.reduceEqDiff, reduceIte] <;> exact rfl) Try.func71 (by kernel_rfl) (by kernel_rfl) ?_
    rw [List.append_nil]
    have kk := parteq_fw (c := c) I3.1 hpa hpb (by omega)
    rw [hs3] at kk
    refine kk.mono ?_
    obtain ⟨P, hP⟩ : ∃ P, Go.Sort.partitionEqual ltI d3 a b p = P := ⟨_, rfl⟩
    obtain ⟨m1, m2, m3, m4, m5⟩ := Go.Sort.round_eq (mid := P.1) (d4 := P.2) ltI_swo (Go.Sort.partitionEqual_holds ltI) hc2.1 hpa hpb (by omega) B3 hc2.2 hP
    rw [hP]
    rintro _ h4 ⟨rfl, k1, D1, k2⟩
    obtain ⟨mid, hmid⟩ : ∃ z, P.1 = z := ⟨_, rfl⟩
    rw [hmid] at m1 m2 m4 m5 ⊢
    repeat (first | apply zs | apply zr | apply zn | ((first | apply zx | apply zy); · simp only [push_cast, env, Nat.reduceEqDiff, reduceIte, Nat.reduceAdd, Nat.reduceMul, Nat.reduceLeDiff, reduceCtorEq, Nat.reduceSub, Int.reduceToNat] <;> first | exact rfl | exact .inl rfl | exact .inr rfl) | apply zq | apply zb | apply zo | apply zk | apply zl)
    refine cw_exit ?_
    refine ⟨(mid, b, lim1, wb, wp, P.2, h4), by simp only; omega, (by simp only [push_cast, Nat.reduceEqDiff, reduceIte]), rfl, m2, hbs, by simp only; omega, hlim1, by simp only; omega, I3.eq hid D1 k1, m4, fun R r1 r2 => ?_⟩
    obtain ⟨s1, s2⟩ := m5 R r1 r2
    exact K R (Go.Sort.permIn_trans _ _ _ a b P3 s1) s2
  | false =>
  clear hc2
  refine cw_condF rfl ?_
  repeat (first | apply zs | apply zr | apply zn | ((first | apply zx | apply zy); · simp only [push_cast, env, Nat.reduceEqDiff, reduceIte, Nat.reduceAdd, Nat.reduceMul, Nat.reduceLeDiff, reduceCtorEq, Nat.reduceSub, Int.reduceToNat] <;> first | exact rfl | exact .inl rfl | exact .inr rfl) | apply zq | apply zb | apply zo | apply zk | apply zl)
  refine zc (fn := Try.f72) (by simp only [push_cast, env, Nat.reduceEqDiff, reduceIte] <;> exact rfl) Try.func72 (by kernel_rfl) (by kernel_rfl) ?_
  rw [List.append_nil]
  have kk := part_fw (c := c) I3.1 hpa hpb (by omega)
  rw [hs3] at kk
  refine kk.mono ?_
  obtain ⟨mid, hmid⟩ : ∃ z, (Go.Sort.partition ltI d3 a b p).1 = z := ⟨_, rfl⟩
  obtain ⟨d4, hd4⟩ : ∃ z, (Go.Sort.partition ltI d3 a b p).2.2 = z := ⟨_, rfl⟩
  obtain ⟨m1, m2, m3, m4, m5, m6, m7⟩ := Go.Sort.round_part (mid := mid) (d4 := d4) (ap := (Go.Sort.partition ltI d3 a b p).2.1) ltI_swo (Go.Sort.partition_holds ltI) hpa hpb (by omega) B3 (by rw [← hmid, ← hd4])
  rw [hmid, hd4]
  rintro _ h4 ⟨ap, rfl, k1, D1, k2⟩
  have I4 := I3.eq hid D1 k1
  have hs4 : d4.size = d.size := k2
  clear I3 B3 B2 I2 k1 k2 hmid hd4 D1
  obtain ⟨u, hu⟩ : ∃ z, z = mid - a := ⟨_, rfl⟩
  obtain ⟨v, hv⟩ : ∃ z, z = b - mid := ⟨_, rfl⟩
  have e6 : IntKind.i64.wrap ((mid : Int) - (a : Int)) = (u : Int) := by rw [wrap64_id (by omega) (by omega)]; omega
  have e7 : IntKind.i64.wrap ((b : Int) - (mid : Int)) = (v : Int) := by rw [wrap64_id (by omega) (by omega)]; omega
  have e8 : IntKind.i64.wrap ((mid : Int) + 1) = ((mid + 1 : Nat) : Int) := by rw [wrap64_id (by omega) (by omega)]; omega
  obtain ⟨mid1, hmid1⟩ : ∃ z, z = mid + 1 := ⟨_, rfl⟩
  rw [← hmid1] at e8
  rw [← hmid1] at m5 m6 m7
  repeat (first | apply zs | apply zr | apply zn | ((first | apply zx | apply zy); · simp only [push_cast, env, Nat.reduceEqDiff, reduceIte, Nat.reduceAdd, Nat.reduceMul, Nat.reduceLeDiff, reduceCtorEq, Nat.reduceSub, Int.reduceToNat, e6, e7] <;> first | exact rfl | exact .inl rfl | exact .inr rfl) | apply zq | apply zb | apply zo | apply zk | apply zl)
  by_cases huv : u < v
  · have d5 : decide ((u : Int) < (v : Int)) = true := decide_eq_true (by omega)
    refine cw_condT (by simp only [push_cast, env, Nat.reduceEqDiff, reduceIte, d5] <;> exact rfl) ?_
    repeat (first | apply zs | apply zr | apply zn | ((first | apply zx | apply zy); · simp only [push_cast, env, Nat.reduceEqDiff, reduceIte, Nat.reduceAdd, Nat.reduceMul, Nat.reduceLeDiff, reduceCtorEq, Nat.reduceSub, Int.reduceToNat] <;> first | exact rfl | exact .inl rfl | exact .inr rfl) | apply zq | apply zb | apply zo | apply zk | apply zl)
    refine zc (fn := Try.f57) (by simp only [push_cast, env, Nat.reduceEqDiff, reduceIte] <;> exact rfl) Try.func57 (by kernel_rfl) (by kernel_rfl) ?_
    rw [List.append_nil]
    have kk := ih (mid - a) (by omega) (Nat.le_refl _) I4.1 m1 (by omega) hlim1 m4
    rw [hs4] at kk
    refine kk.mono ?_
    rintro _ h5 ⟨rfl, L, l1, l2, l3⟩
    obtain ⟨m8, m9⟩ := m6 L l1 l2
    have hs5 : L.size = d.size := l1.1.trans hs4
    repeat (first | apply zs | apply zr | apply zn | ((first | apply zx | apply zy); · simp only [push_cast, env, Nat.reduceEqDiff, reduceIte, Nat.reduceAdd, Nat.reduceMul, Nat.reduceLeDiff, reduceCtorEq, Nat.reduceSub, Int.reduceToNat, e8] <;> first | exact rfl | exact .inl rfl | exact .inr rfl) | apply zq | apply zb | apply zo | apply zk | apply zl)
    refine ⟨(mid1, b, lim1, decide (IntKind.i64.wrap ((l : Int).tdiv 8) ≤ (u : Int)), ap, L, h5), by simp only; omega, (by simp only [push_cast, Nat.reduceEqDiff, reduceIte]), rfl, by simp only; omega, hbs, by simp only; omega, hlim1, hs5, I4.to hid l3.1 l3.2, m8, fun R r1 r2 => ?_⟩
    obtain ⟨s1, s2⟩ := m9 R r1 r2
    exact K R (Go.Sort.permIn_trans _ _ _ a b P3 s1) s2
  · have d5 : decide ((u : Int) < (v : Int)) = false := decide_eq_false (by omega)
    refine cw_condF (by simp only [push_cast, env, Nat.reduceEqDiff, reduceIte, d5] <;> exact rfl) ?_
    repeat (first | apply zs | apply zr | apply zn | ((first | apply zx | apply zy); · simp only [push_cast, env, Nat.reduceEqDiff, reduceIte, Nat.reduceAdd, Nat.reduceMul, Nat.reduceLeDiff, reduceCtorEq, Nat.reduceSub, Int.reduceToNat, e8] <;> first | exact rfl | exact .inl rfl | exact .inr rfl) | apply zq | apply zb | apply zo | apply zk | apply zl)
    refine zc (fn := Try.f57) (by simp only [push_cast, env, Nat.reduceEqDiff, reduceIte] <;> exact rfl) Try.func57 (by kernel_rfl) (by kernel_rfl) ?_
    rw [List.append_nil]
    have kk := ih (b - mid1) (by omega) (Nat.le_refl _) I4.1 (by omega) (by omega) hlim1 m5
    rw [hs4] at kk
    refine kk.mono ?_
    rintro _ h5 ⟨rfl, L, l1, l2, l3⟩
    obtain ⟨m8, m9⟩ := m7 L l1 l2
    have hs5 : L.size = d.size := l1.1.trans hs4
    repeat (first | apply zs | apply zr | apply zn | ((first | apply zx | apply zy); · simp only [push_cast, env, Nat.reduceEqDiff, reduceIte, Nat.reduceAdd, Nat.reduceMul, Nat.reduceLeDiff, reduceCtorEq, Nat.reduceSub, Int.reduceToNat] <;> first | exact rfl | exact .inl rfl | exact .inr rfl) | apply zq | apply zb | apply zo | apply zk | apply zl)
    refine ⟨(a, mid, lim1, decide (IntKind.i64.wrap ((l : Int).tdiv 8) ≤ (v : Int)), ap, L, h5), by simp only; omega, (by simp only [push_cast, Nat.reduceEqDiff, reduceIte]), rfl, m1, by simp only; omega, by simp only; omega, hlim1, hs5, I4.to hid l3.1 l3.2, m8, fun R r1 r2 => ?_⟩
    obtain ⟨s1, s2⟩ := m9 R r1 r2
    exact K R (Go.Sort.permIn_trans _ _ _ a b P3 s1) s2
set_option maxHeartbeats 4000000 in
theorem sort_fw {h : Heap} {id ver c : Nat} {d : Array Item} (D : DA h id ver d) :
    FW env 43 [.slice (some ⟨id, 0, some ver⟩) d.size c, lessV] h fun r h' => r = .tuple #[] ∧ SDone h id ver 0 d.size d h' := by
  have hn := D.n
  have e1 : IntKind.u64.wrap (d.size : Int) = (d.size : Int) := wrapU64 (by omega) (by omega)
  obtain ⟨z, hz⟩ : ∃ z : Nat, z = 0 := ⟨_, rfl⟩
  refine fw_enter (fn := Try.f43) Try.func43 rfl (by kernel_rfl) (by simp [Try.ntmps43]) ?_; simp only [push_cast]
  repeat (first | apply zs | apply zr | apply zn | ((first | apply zx | apply zy); · simp only [push_cast, env, Nat.reduceEqDiff, reduceIte, Nat.reduceAdd, Nat.reduceMul, Nat.reduceLeDiff, reduceCtorEq, Nat.reduceSub, Int.reduceToNat, e1] <;> first | exact rfl | exact .inl rfl | exact .inr rfl) | apply zq | apply zb | apply zo | apply zk | apply zl)
  refine zc (fn := Try.f58) (by simp only [push_cast, env, Nat.reduceEqDiff, reduceIte] <;> exact rfl) Try.func58 (by kernel_rfl) (by kernel_rfl) ?_
  rw [List.append_nil]
  refine (len_fw hn).mono ?_
  rintro _ _ ⟨rfl, rfl⟩
  have hb := (Go.Sort.bitsLen_le_iff d.size 20).2 (by omega)
  repeat (first | apply zs | apply zr | apply zn | ((first | apply zx | apply zy); · simp only [push_cast, env, Nat.reduceEqDiff, reduceIte, Nat.reduceAdd, Nat.reduceMul, Nat.reduceLeDiff, reduceCtorEq, Nat.reduceSub, Int.reduceToNat] <;> first | exact rfl | exact .inl rfl | exact .inr rfl) | apply zq | apply zb | apply zo | apply zk | apply zl)
  refine zc (fn := Try.f57) (by simp only [push_cast, env, Nat.reduceEqDiff, reduceIte] <;> exact rfl) Try.func57 (by kernel_rfl) (by kernel_rfl) ?_
  rw [List.append_nil]
  refine (pdq_fw (c := c) d.size (a := 0) (b := d.size) (lim := Go.Sort.bitsLen d.size) (Nat.le_refl _) D (Nat.zero_le _) (Nat.le_refl _) (by omega) (.inl rfl)).mono ?_
  rintro _ h1 ⟨rfl, k⟩
  repeat (first | apply zs | apply zr | apply zn | ((first | apply zx | apply zy); · simp only [push_cast, env, Nat.reduceEqDiff, reduceIte, Nat.reduceAdd, Nat.reduceMul, Nat.reduceLeDiff, reduceCtorEq, Nat.reduceSub, Int.reduceToNat] <;> first | exact rfl | exact .inl rfl | exact .inr rfl) | apply zq | apply zb | apply zo | apply zk | apply zl)
  exact ⟨_, (by simp only [push_cast, env, Nat.reduceEqDiff, reduceIte] <;> exact rfl), rfl, k⟩
theorem SDone.eq {h h' : Heap} {id ver : Nat} {d : Array Item} (k : SDone h id ver 0 d.size d h') : ∃ d', d'.toList = d.toList.mergeSort (fun x y => !ltI y x) ∧ SInv h id ver h' d' := by
  obtain ⟨d', k1, k2, k3⟩ := k
  exact ⟨d', Go.Sort.sorted_unique_holds ltI_swo (fun x y => ltI_eq) d d' k1 k2, k3⟩
end Go.Proofs.Ytafncpgiibikcaa

namespace Go.Proofs.Ytafncpgiibikcaa
set_option linter.unusedSimpArgs false
set_option linter.unusedVariables false

def GoodS (g : Gram) (s : KSym) : Prop := (s.nt < 0 → goodT s) ∧ (0 ≤ s.nt → goodD g s.nt)
inductive Bg (g : Gram) (w : List Nat) : Int → Nat → Prop
  | full (r : Rule) (d i : Nat) : r ∈ g.rules → d ≤ r.rhs.length → Sq g.rules w (r.rhs.take d) i w.length → (∀ s ∈ r.rhs.drop d, GoodS g s) → Bg g w r.lhs i
  | part (r : Rule) (d i k : Nat) (s : KSym) : r ∈ g.rules → r.rhs[d]? = some s → 0 ≤ s.nt → (∀ s ∈ r.rhs.drop (d + 1), GoodS g s) → Sq g.rules w (r.rhs.take d) i k → Bg g w s.nt k → Bg g w r.lhs i
theorem tx_good {g : Gram} {l : List KSym} {u : List Nat} (h : Tx g.rules l u) : ∀ s ∈ l, GoodS g s := by
  induction h with
  | nil => intro s hs; cases hs
  | term s l b u h1 h2 _ ih =>
    intro q hq
    rcases List.mem_cons.1 hq with rfl | hq
    · exact ⟨fun _ e => (by rw [e, zero_has] at h2; cases h2), fun h => by omega⟩
    · exact ih q hq
  | non s l r u v h1 h2 h3 h4 _ ih1 ih2 =>
    intro q hq
    rcases List.mem_cons.1 hq with rfl | hq
    · exact ⟨fun h => by omega, fun _ => by
        rw [← h3]
        exact .mk r h2 (fun s hs h0 => (ih1 s hs).1 h0) (fun s hs h0 => (ih1 s hs).2 h0)⟩
    · exact ih2 q hq
theorem sq_good {g : Gram} {w : List Nat} {l : List KSym} {i j : Nat} (h : Sq g.rules w l i j) : ∀ s ∈ l, GoodS g s := tx_good h.2.2
theorem good_of {g : Gram} {r : Rule} (hr : r ∈ g.rules) (h : ∀ s ∈ r.rhs, GoodS g s) : goodD g r.lhs := .mk r hr (fun s hs h0 => (h s hs).1 h0) (fun s hs h0 => (h s hs).2 h0)
theorem mem_cut {l : List KSym} {d : Nat} {s q : KSym} (hs : l[d]? = some s) (hq : q ∈ l) : q ∈ l.take d ∨ q = s ∨ q ∈ l.drop (d + 1) := by
  obtain ⟨h1, h2⟩ := List.getElem?_eq_some_iff.1 hs
  have : l = l.take d ++ (s :: l.drop (d + 1)) := by rw [← h2, ← List.drop_eq_getElem_cons h1, List.take_append_drop]
  rw [this, List.mem_append, List.mem_cons] at hq
  exact hq
theorem mem_cut2 {l : List KSym} {d : Nat} {q : KSym} (hq : q ∈ l) : q ∈ l.take d ∨ q ∈ l.drop d := by
  rw [← List.take_append_drop d l, List.mem_append] at hq
  exact hq
theorem Bg.good {g : Gram} {w : List Nat} {A : Int} {i : Nat} (h : Bg g w A i) : goodD g A := by
  induction h with
  | full r d i h1 h2 h3 h4 =>
    exact good_of h1 fun s hs => (mem_cut2 hs).elim (sq_good h3 s) (h4 s)
  | part r d i k s h1 h2 h3 h4 h5 _ ih =>
    refine good_of h1 fun q hq => ?_
    rcases mem_cut h2 hq with h | rfl | h
    · exact sq_good h5 q h
    · exact ⟨fun h => by omega, fun _ => ih⟩
    · exact h4 q h
section
variable {g : Gram} {m : List Bool} {w : List Nat}
end
theorem It.cut {g : Gram} {w : List Nat} {j : Nat} {x : Item} (h : It g w j x) : ∀ k, j ≤ k → It g (w.take k) j x := by
  induction h with
  | init q r h1 h2 => exact fun k _ => .init q r h1 h2
  | pred j x r s q r' h1 h2 h3 h4 h5 h6 ih => exact fun k hk => .pred j x r s q r' (ih k hk) h2 h3 h4 h5 h6
  | scan j x r s b h1 h2 h3 h4 h5 h6 ih => exact fun k hk => .scan j x r s b (ih k (by omega)) h2 h3 h4 (by rw [List.getElem?_take, if_pos (by omega)]; exact h5) h6
  | comp j x r y r' s h1 h2 h3 h4 h5 h6 h7 h8 ih1 ih2 =>
    intro k hk
    have hf : x.frm ≤ j := by obtain ⟨_, _, _, _, q⟩ := h1.sound; exact q.1
    exact .comp j x r y r' s (ih1 k hk) h2 h3 (ih2 k (by omega)) h5 h6 h7 h8
theorem It.last {g : Gram} {w : List Nat} {j : Nat} {x : Item} (h : It g w j x) : ∀ k, j = k + 1 → ∃ y r s b, It g w k y ∧ g.rules[y.rule]? = some r ∧ r.rhs[y.dot]? = some s ∧ s.nt < 0 ∧ w[k]? = some b ∧ s.set.has b = true := by
  induction h with
  | init q r h1 h2 => intro k hk; omega
  | pred j x r s q r' h1 h2 h3 h4 h5 h6 ih => exact ih
  | scan j x r s b h1 h2 h3 h4 h5 h6 ih =>
    intro k hk
    obtain rfl : j = k := by omega
    exact ⟨x, r, s, b, h1, h2, h3, h4, h5, h6⟩
  | comp j x r y r' s h1 h2 h3 h4 h5 h6 h7 h8 ih1 ih2 => exact ih1
end Go.Proofs.Ytafncpgiibikcaa

namespace Go.Proofs.Ytafncpgiibikcaa
set_option linter.unusedSimpArgs false
set_option linter.unusedVariables false

def LastP (g : Gram) (w : List Nat) (n : Int) : Prop :=
  (n = -1 ∧ ∀ j, j ≤ w.length → ¬ Bg g (w.take j) g.start 0) ∨ ∃ j, j ≤ w.length ∧ n = j ∧ Bg g (w.take j) g.start 0 ∧ ∀ i, j < i → i ≤ w.length → ¬ Bg g (w.take i) g.start 0
theorem LastP.eq {g : Gram} {w : List Nat} {a b : Int} (h1 : LastP g w a) (h2 : LastP g w b) : a = b := by
  rcases h1 with ⟨h1, k1⟩ | ⟨j, h1, rfl, h3, h4⟩ <;> rcases h2 with ⟨h2, k2⟩ | ⟨i, h2, rfl, k3, k4⟩
  · omega
  · exact absurd k3 (k1 i h2)
  · exact absurd h3 (k2 j h1)
  · rcases Nat.lt_trichotomy i j with h | h | h
    · exact absurd h3 (k4 j h h1)
    · omega
    · exact absurd k3 (h4 i h h2)
def ByteW (v : List Nat) : Prop := ∀ b ∈ v, b < 256
theorem ByteW.nil : ByteW [] := by simp [ByteW]
theorem ByteW.cons {b : Nat} {v : List Nat} (h : b < 256) (hv : ByteW v) : ByteW (b :: v) := fun x hx => (List.mem_cons.1 hx).elim (fun e => e ▸ h) (hv x)
theorem ByteW.app {u v : List Nat} (hu : ByteW u) (hv : ByteW v) : ByteW (u ++ v) := fun x hx => (List.mem_append.1 hx).elim (hu x) (hv x)
end Go.Proofs.Ytafncpgiibikcaa

namespace Go.Proofs.Ytafncpgiibikcaa
set_option linter.unusedSimpArgs false
set_option linter.unusedVariables false
set_option maxRecDepth 20000
open Go.RowKit Am Ty

def MkR (h : Heap) (v : Value) (m : List Bool) : Prop := ∃ id ver own c, v = .slice (some ⟨id, 0, some ver⟩) m.length c ∧ h[id]? = some (.arr (m.map .bool) ver own 4)
theorem MkR.mono {h h' : Heap} {v : Value} {m : List Bool} (r : MkR h v m) (hp : h <+: h') : MkR h' v m := by
  obtain ⟨id, ver, own, c, h1, h2⟩ := r
  exact ⟨id, ver, own, c, h1, getElem?_of_prefix hp h2⟩
theorem MkR.of {h h' : Heap} {v : Value} {m : List Bool} (r : MineB h h' v m) : MkR h' v m := by
  obtain ⟨id, ver, h1, h2, h3⟩ := r
  exact ⟨id, ver, true, _, h2, h3⟩
theorem mk_get {m : List Bool} {i : Nat} (hi : i < m.length) : (m.map Value.bool)[i]? = some (.bool (m.getD i false)) := by
  rw [List.getElem?_map, List.getD_eq_getElem?_getD, List.getElem?_eq_getElem hi]
  rfl
theorem syms_slice {h : Heap} {v : Value} {l : List KSym} {d : Nat} (hr : RdSyms h v l) (hd : d ≤ l.length) :
    ∃ v', (∀ (s : St) (x : Operand) (oh : Option Operand), s.h = h → ev s x = some v → evo s l.length oh = some (d : Int) → sliceV env s 44 x none oh = some v') ∧ RdSymsP h v' (l.take d) := by
  have hu : env.P.underlying 44 = some (.slice 43) := by kernel_rfl
  have ht : tinfo env.P 43 = _ := ti43
  have hlen : (l.take d).length = d := by rw [List.length_take]; omega
  have hle := RdSyms.le hr
  rcases hr.2 with ⟨k | k, hl0, _⟩ | ⟨id, ver, own, c, k1, k2⟩
  · subst k
    have hl : l = [] := List.eq_nil_of_length_eq_zero hl0
    subst hl
    have h0 : d = 0 := by simpa using hd
    subst h0
    refine ⟨.slice none 0 0, fun s x oh hh hx hz => ?_, by simp, ⟨_, _, rfl⟩, fun hi => by simp at hi⟩
    unfold sliceV
    simp only [hu, hx, ht, evo]
    simp only [List.length_nil] at hz
    unfold evo at hz
    rw [hz]
    rfl
  · subst k
    have hl : l = [] := List.eq_nil_of_length_eq_zero hl0
    subst hl
    have h0 : d = 0 := by simpa using hd
    subst h0
    refine ⟨.slice (some ⟨0, 0, none⟩) 0 0, fun s x oh hh hx hz => ?_, by simp, ⟨_, _, rfl⟩, fun hi => by simp at hi⟩
    unfold sliceV
    simp only [hu, hx, ht, evo]
    simp only [List.length_nil] at hz
    unfold evo at hz
    rw [hz]
    rfl
  · subst k1
    refine ⟨.slice (some ⟨id, 0, some ver⟩) d d, fun s x oh hh hx hz => ?_, by omega, ⟨_, _, by rw [hlen]⟩, fun {i} hi => ?_⟩
    · subst hh
      unfold sliceV
      have h0 : evo s 0 none = some 0 := rfl
      simp only [hu, hx, ht, h0, hz]
      rw [if_pos ⟨by omega, by omega, by omega⟩]
      simp only [k2, and_self, if_true, adAdd]
      rw [show ((d : Int) - 0).toNat = d by omega]
      rfl
    · have hil : i < l.length := by omega
      refine ⟨id, ver, own, d, _, by rw [hlen], k2, ?_⟩
      rw [List.getElem_take]
      exact syms_get hil
end Go.Proofs.Ytafncpgiibikcaa

namespace Go.Proofs.Ytafncpgiibikcaa
set_option linter.unusedSimpArgs false
set_option linter.unusedVariables false
set_option maxRecDepth 20000
open Go.RowKit Am Ty

theorem ends_iff {R : List Rule} {w : List Nat} {yf : Nat → Nat → Nat → Bool} (h1 : TSound R w yf) (h2 : TFull R w yf) {l : List KSym} {i j d : Nat} (hi : i ≤ w.length) (hj : j ≤ w.length) : endB yf w (l.take d) i (l.take d).length j = true ↔ Sq R w (l.take d) i j := by
  have := endB_iff h1 h2 (l := l.take d) (k := (l.take d).length) hi (Nat.le_refl _) hj
  rwa [List.take_length] at this
end Go.Proofs.Ytafncpgiibikcaa

namespace Go.Proofs.Ytafncpgiibikcaa
set_option linter.unusedSimpArgs false
set_option linter.unusedVariables false
open Go.RowKit Am Ty

def widx (M a i : Nat) : Nat := a * M + i
theorem widx_lt {N M a i : Nat} (ha : a < N) (hi : i < M) : widx M a i < N * M := by
  unfold widx
  have : (a + 1) * M ≤ N * M := Nat.mul_le_mul_right _ ha
  rw [Nat.add_mul] at this
  omega
theorem widx_inj {M a i a' i' : Nat} (hi : i < M) (hi' : i' < M) (h : widx M a i = widx M a' i') : a = a' ∧ i = i' := by
  unfold widx at h
  have h1 : (a * M + i) / M = a := by rw [Nat.mul_comm, Nat.mul_add_div (by omega), Nat.div_eq_of_lt hi, Nat.add_zero]
  have h2 : (a' * M + i') / M = a' := by rw [Nat.mul_comm, Nat.mul_add_div (by omega), Nat.div_eq_of_lt hi', Nat.add_zero]
  rw [h, h2] at h1
  subst h1
  omega
def wfn (m : List Bool) (M a i : Nat) : Bool := m.getD (widx M a i) false
theorem wfn_set {m : List Bool} {M a i a' i' : Nat} (hi : i < M) (hi' : i' < M) (hl : widx M a i < m.length) : wfn (m.set (widx M a i) true) M a' i' = if a = a' ∧ i = i' then true else wfn m M a' i' := by
  unfold wfn
  rw [List.getD_eq_getElem?_getD, List.getElem?_set]
  by_cases h : widx M a i = widx M a' i'
  · rw [if_pos h, if_pos hl, if_pos (widx_inj hi hi' h)]
    rfl
  · rw [if_neg h, if_neg (by rintro ⟨rfl, rfl⟩; exact h rfl), List.getD_eq_getElem?_getD]
def WSound (g : Gram) (w : List Nat) (wf : Nat → Nat → Bool) : Prop := ∀ a i : Nat, i ≤ w.length → wf a i = true → Wt g w a i
def WFull (g : Gram) (w : List Nat) (wf : Nat → Nat → Bool) : Prop := ∀ (A : Int) (i : Nat), Wt g w A i → wf A.toNat i = true
def PrW (g : Gram) (w : List Nat) (wf : Nat → Nat → Bool) (r i d j : Nat) : Prop :=
  ∀ (r' : Nat) (q : Rule) (i' d' : Nat) (s : KSym) (j' : Nat), g.rules[r']? = some q → (r' < r ∨ r' = r ∧ (i' < i ∨ i' = i ∧ (d' < d ∨ d' = d ∧ j' < j))) → i' ≤ w.length → wf q.lhs.toNat i' = true → q.rhs[d']? = some s → 0 ≤ s.nt → Sq g.rules w (q.rhs.take d') i' j' → wf s.nt.toNat j' = true
section
variable {g : Gram} {w : List Nat} {wf : Nat → Nat → Bool} {r i d j : Nat}
theorem PrW.start : PrW g w wf 0 0 0 0 := fun r' q i' d' s j' _ h => by omega
theorem PrW.jStart (h : PrW g w wf r i d 0) : PrW g w wf r i d i := fun r' q i' d' s j' h1 h2 h3 h4 h5 h6 h7 => by
  have := h7.1
  exact h r' q i' d' s j' h1 (by omega) h3 h4 h5 h6 h7
theorem PrW.jStep {q : Rule} {s : KSym} (h : PrW g w wf r i d j) (hq : g.rules[r]? = some q) (hs : q.rhs[d]? = some s) (hh : Sq g.rules w (q.rhs.take d) i j → wf s.nt.toNat j = true) : PrW g w wf r i d (j + 1) := fun r' q' i' d' s' j' h1 h2 h3 h4 h5 h6 h7 => by
  by_cases he : r' = r ∧ i' = i ∧ d' = d ∧ j' = j
  · obtain ⟨rfl, rfl, rfl, rfl⟩ := he
    obtain rfl : q = q' := Option.some.inj (hq.symm.trans h1)
    obtain rfl : s = s' := Option.some.inj (hs.symm.trans h5)
    exact hh h7
  · exact h r' q' i' d' s' j' h1 (by omega) h3 h4 h5 h6 h7
theorem PrW.dEnd (h : PrW g w wf r i d (w.length + 1)) : PrW g w wf r i (d + 1) 0 := fun r' q i' d' s j' h1 h2 h3 h4 h5 h6 h7 => by
  have := h7.2.1
  exact h r' q i' d' s j' h1 (by omega) h3 h4 h5 h6 h7
theorem PrW.dSkip {q : Rule} {s : KSym} (h : PrW g w wf r i d 0) (hq : g.rules[r]? = some q) (hs : q.rhs[d]? = some s) (hh : s.nt < 0) : PrW g w wf r i (d + 1) 0 := fun r' q' i' d' s' j' h1 h2 h3 h4 h5 h6 h7 => by
  by_cases he : r' = r ∧ d' = d
  · obtain ⟨rfl, rfl⟩ := he
    obtain rfl : q = q' := Option.some.inj (hq.symm.trans h1)
    obtain rfl : s = s' := Option.some.inj (hs.symm.trans h5)
    omega
  · exact h r' q' i' d' s' j' h1 (by omega) h3 h4 h5 h6 h7
theorem PrW.iEnd {q : Rule} (h : PrW g w wf r i d 0) (hq : g.rules[r]? = some q) (hh : q.rhs.length ≤ d ∨ wf q.lhs.toNat i = false) : PrW g w wf r (i + 1) 0 0 := fun r' q' i' d' s' j' h1 h2 h3 h4 h5 h6 h7 => by
  have hd := (List.getElem?_eq_some_iff.1 h5).1
  by_cases he : r' = r ∧ i' = i
  · obtain ⟨rfl, rfl⟩ := he
    obtain rfl : q = q' := Option.some.inj (hq.symm.trans h1)
    rcases hh with hh | hh
    · exact h r' q i' d' s' j' h1 (by omega) h3 h4 h5 h6 h7
    · rw [hh] at h4; cases h4
  · exact h r' q' i' d' s' j' h1 (by omega) h3 h4 h5 h6 h7
theorem PrW.rEnd (h : PrW g w wf r (w.length + 1) 0 0) : PrW g w wf (r + 1) 0 0 0 := fun r' q i' d' s j' h1 h2 h3 h4 h5 h6 h7 => h r' q i' d' s j' h1 (by omega) h3 h4 h5 h6 h7
theorem PrW.full (h : PrW g w wf g.rules.length 0 0 0) (h0 : wf g.start.toNat 0 = true) : WFull g w wf := fun A i hW => by
  induction hW with
  | start => exact h0
  | step r d i j s h1 h2 h3 h4 h5 ih =>
    obtain ⟨k, hk⟩ := List.getElem?_of_mem h1
    have := (List.getElem?_eq_some_iff.1 hk).1
    exact h k r i d s j hk (.inl this) h2.le ih h3 h4 h5
end
def ChS (g : Gram) (w : List Nat) (L : List (List Item)) : Prop := L.length = w.length + 1 ∧ ∀ j, j ≤ w.length → (gs L j).Pairwise (fun x y => ltI x y = true) ∧ ∀ x, x ∈ gs L j ↔ It g w j x
theorem ltI_irr (x : Item) : ltI x x = false := ltI_swo.irrefl x
theorem ltI_tr {x y z : Item} (h1 : ltI x y = true) (h2 : ltI y z = true) : ltI x z = true := ltI_swo.trans x y z h1 h2
theorem strict_ext : ∀ (l m : List Item), l.Pairwise (fun x y => ltI x y = true) → m.Pairwise (fun x y => ltI x y = true) → (∀ x, x ∈ l ↔ x ∈ m) → l = m
  | [], [], _, _, _ => rfl
  | [], y :: m, _, _, h => by have := (h y).2 List.mem_cons_self; cases this
  | x :: l, [], _, _, h => by have := (h x).1 List.mem_cons_self; cases this
  | x :: l, y :: m, h1, h2, h => by
    rw [List.pairwise_cons] at h1 h2
    have hxy : x = y := by
      rcases List.mem_cons.1 ((h x).1 List.mem_cons_self) with e | e
      · exact e
      rcases List.mem_cons.1 ((h y).2 List.mem_cons_self) with e' | e'
      · exact e'.symm
      have := ltI_tr (h1.1 y e') (h2.1 x e)
      rw [ltI_irr] at this
      cases this
    subst hxy
    congr 1
    refine strict_ext l m h1.2 h2.2 fun z => ⟨fun hz => ?_, fun hz => ?_⟩
    · rcases List.mem_cons.1 ((h z).1 (List.mem_cons_of_mem _ hz)) with rfl | e
      · have := h1.1 z hz
        rw [ltI_irr] at this
        cases this
      · exact e
    · rcases List.mem_cons.1 ((h z).2 (List.mem_cons_of_mem _ hz)) with rfl | e
      · have := h2.1 z hz
        rw [ltI_irr] at this
        cases this
      · exact e
theorem ChS.uniq {g : Gram} {w : List Nat} {L M : List (List Item)} (h1 : ChS g w L) (h2 : ChS g w M) : L = M := by
  refine List.ext_getElem (by rw [h1.1, h2.1]) fun j k1 k2 => ?_
  rw [gs_getElem k1, gs_getElem k2]
  have := h1.1
  have a := h1.2 j (by omega)
  have b := h2.2 j (by omega)
  exact strict_ext _ _ a.1 b.1 fun x => (a.2 x).trans (b.2 x).symm
theorem sort_strict {l : List Item} (hn : l.Nodup) : (l.mergeSort (fun x y => !ltI y x)).Pairwise (fun x y => ltI x y = true) := by
  have hp := List.mergeSort_perm l (fun x y => !ltI y x)
  have h1 := List.pairwise_mergeSort (le := fun x y : Item => !ltI y x) (fun a b c h1 h2 => by
    rw [Bool.not_eq_true'] at h1 h2 ⊢
    exact ltI_swo.ntrans c b a h2 h1) (fun a b => by
    cases h : ltI b a with
    | false => rfl
    | true =>
      cases h2 : ltI a b with
      | false => rfl
      | true => have := ltI_tr h h2; rw [ltI_irr] at this; cases this) l
  have h2 : (l.mergeSort (fun x y => !ltI y x)).Nodup := hp.nodup_iff.2 hn
  refine (h1.and h2).imp fun {x y} h => ?_
  obtain ⟨h3, h4⟩ := h
  rw [Bool.not_eq_true'] at h3
  cases h5 : ltI x y with
  | true => rfl
  | false => exact (h4 (ltI_eq h5 h3)).elim
theorem sort_mem {l : List Item} {x : Item} : x ∈ l.mergeSort (fun x y => !ltI y x) ↔ x ∈ l := (List.mergeSort_perm l _).mem_iff
def PC (g : Gram) (w : List Nat) (B : Nat → Item → Prop) (L : List (List Item)) : Prop := L.length = w.length + 1 ∧ ∀ j, j ≤ w.length → (gs L j).Pairwise (fun x y => ltI x y = true) ∧ ∀ x, x ∈ gs L j ↔ It g w j x ∧ B j x
section
variable {g : Gram} {w : List Nat} {B B' : Nat → Item → Prop} {L : List (List Item)}
theorem PC.imp (h : PC g w B L) (k : ∀ j x, j ≤ w.length → It g w j x → (B j x ↔ B' j x)) : PC g w B' L :=
  ⟨h.1, fun j hj => ⟨(h.2 j hj).1, fun x => by
    rw [(h.2 j hj).2 x]
    exact ⟨fun ⟨a, b⟩ => ⟨a, (k j x hj a).1 b⟩, fun ⟨a, b⟩ => ⟨a, (k j x hj a).2 b⟩⟩⟩⟩
theorem PC.start : PC g w (fun _ _ => False) (List.replicate (w.length + 1) []) := by
  refine ⟨List.length_replicate, fun j hj => ?_⟩
  have : gs (List.replicate (w.length + 1) ([] : List Item)) j = [] := by
    unfold gs
    rw [List.getD_eq_getElem?_getD, List.getElem?_replicate]
    split <;> rfl
  rw [this]
  exact ⟨List.Pairwise.nil, fun x => by simp⟩
theorem PC.add (h : PC g w B L) {jj : Nat} {y : Item} (hj : jj ≤ w.length) (hy : It g w jj y) (hb : ∀ x, B jj x → ltI x y = true) : PC g w (fun j x => B j x ∨ (j = jj ∧ x = y)) (L.set jj (gs L jj ++ [y])) := by
  refine ⟨by rw [List.length_set]; exact h.1, fun j hj2 => ?_⟩
  have hl : jj < L.length := by have := h.1; omega
  rw [gs_set hl]
  by_cases e : jj = j
  · subst e
    rw [if_pos rfl]
    refine ⟨List.pairwise_append.2 ⟨(h.2 jj hj).1, List.pairwise_singleton _ _, fun a ha b hb2 => ?_⟩, fun x => ?_⟩
    · rw [List.mem_singleton] at hb2
      subst hb2
      exact hb a (((h.2 jj hj).2 a).1 ha).2
    · rw [List.mem_append, List.mem_singleton, (h.2 jj hj).2 x]
      constructor
      · rintro (⟨a, b⟩ | rfl)
        · exact ⟨a, .inl b⟩
        · exact ⟨hy, .inr ⟨rfl, rfl⟩⟩
      · rintro ⟨a, b | ⟨_, rfl⟩⟩
        · exact .inl ⟨a, b⟩
        · exact .inr rfl
  · rw [if_neg e]
    refine ⟨(h.2 j hj2).1, fun x => ?_⟩
    rw [(h.2 j hj2).2 x]
    exact ⟨fun ⟨a, b⟩ => ⟨a, .inl b⟩, fun ⟨a, b⟩ => ⟨a, b.resolve_right fun h => e h.1.symm⟩⟩
end
theorem It.bd {g : Gram} {w : List Nat} {j : Nat} {x : Item} (h : It g w j x) : x.rule < g.rules.length ∧ x.frm ≤ j ∧ j ≤ w.length ∧ ∀ q, g.rules[x.rule]? = some q → x.dot ≤ q.rhs.length := by
  obtain ⟨r, h1, h2, h3, h4⟩ := h.sound
  exact ⟨(List.getElem?_eq_some_iff.1 h1).1, h4.1, h4.2.1, fun q hq => by cases hq.symm.trans h1; exact h2⟩
abbrev Bf (r d i : Nat) (x : Item) : Prop := x.rule < r ∨ x.rule = r ∧ (x.dot < d ∨ x.dot = d ∧ x.frm < i)
theorem Bf.lt {r d i : Nat} {x : Item} : Bf r d i x ↔ ltI x ⟨r, d, i⟩ = true := ⟨fun h => (ltI_iff (x := x) (y := ⟨r, d, i⟩)).2 h, fun h => (ltI_iff (x := x) (y := ⟨r, d, i⟩)).1 h⟩
section
variable {g : Gram} {w : List Nat} {L : List (List Item)} {r d i : Nat}
def PH (g : Gram) (w : List Nat) (r d i : Nat) (L : List (List Item)) : Prop := PC g w (fun _ x => Bf r d i x) L
def PJ (g : Gram) (w : List Nat) (r d i jj : Nat) (L : List (List Item)) : Prop := PC g w (fun j x => Bf r d i x ∨ (x = ⟨r, d, i⟩ ∧ j < jj)) L
theorem PH.start : PH g w 0 0 0 (List.replicate (w.length + 1) []) := PC.start.imp fun j x _ _ => by simp [Bf]
theorem PH.toJ (h : PH g w r d i L) : PJ g w r d i i L := PC.imp h fun j x _ hx => by
  have := hx.bd
  constructor
  · exact fun k => .inl k
  · rintro (k | ⟨rfl, k⟩)
    · exact k
    · simp only at this; omega
theorem PJ.skip {jj : Nat} (h : PJ g w r d i jj L) (hn : ¬ It g w jj ⟨r, d, i⟩) : PJ g w r d i (jj + 1) L := PC.imp h fun j x _ hx => by
  constructor
  · rintro (k | ⟨rfl, k⟩)
    · exact .inl k
    · exact .inr ⟨rfl, by omega⟩
  · rintro (k | ⟨rfl, k⟩)
    · exact .inl k
    · refine .inr ⟨rfl, ?_⟩
      rcases Nat.lt_or_ge j jj with q | q
      · exact q
      · obtain rfl : j = jj := by omega
        exact (hn hx).elim
theorem PJ.add {jj : Nat} (h : PJ g w r d i jj L) (hj : jj ≤ w.length) (hy : It g w jj ⟨r, d, i⟩) : PJ g w r d i (jj + 1) (L.set jj (gs L jj ++ [⟨r, d, i⟩])) := by
  refine PC.imp (PC.add h hj hy fun x hx => ?_) fun j x _ hx => ?_
  · rcases hx with k | ⟨_, k⟩
    · exact Bf.lt.1 k
    · omega
  · constructor
    · rintro ((k | ⟨rfl, k⟩) | ⟨rfl, rfl⟩)
      · exact .inl k
      · exact .inr ⟨rfl, by omega⟩
      · exact .inr ⟨rfl, by omega⟩
    · rintro (k | ⟨rfl, k⟩)
      · exact .inl (.inl k)
      · rcases Nat.lt_or_ge j jj with q | q
        · exact .inl (.inr ⟨rfl, q⟩)
        · exact .inr ⟨by omega, rfl⟩
theorem bf_succ {x : Item} : Bf r d (i + 1) x ↔ Bf r d i x ∨ x = ⟨r, d, i⟩ := by
  cases x
  simp only [Item.mk.injEq, Bf]
  omega
theorem PJ.toH (h : PJ g w r d i (w.length + 1) L) : PH g w r d (i + 1) L := PC.imp h fun j x hj hx => by
  rw [bf_succ]
  constructor
  · rintro (k | ⟨rfl, k⟩)
    · exact .inl k
    · exact .inr rfl
  · rintro (k | rfl)
    · exact .inl k
    · exact .inr ⟨rfl, by omega⟩
theorem PH.skip (h : PH g w r d i L) {q : Rule} (hq : g.rules[r]? = some q) (hn : ¬ Wt g w q.lhs i) : PH g w r d (i + 1) L := PC.imp h fun j x hj hx => by
  rw [bf_succ]
  constructor
  · exact .inl
  · rintro (k | rfl)
    · exact k
    · obtain ⟨r0, h1, h2, h3, h4⟩ := hx.sound
      simp only at h1 h3
      cases hq.symm.trans h1
      exact (hn h3).elim
theorem PH.iEnd (h : PH g w r d (w.length + 1) L) : PH g w r (d + 1) 0 L := PC.imp h fun j x hj hx => by
  have := hx.bd
  unfold Bf
  constructor <;> intro k <;> omega
theorem PH.dEnd (h : PH g w r d 0 L) {q : Rule} (hq : g.rules[r]? = some q) (hd : q.rhs.length < d) : PH g w (r + 1) 0 0 L := PC.imp h fun j x hj hx => by
  have hb := hx.bd
  unfold Bf
  constructor
  · intro k
    omega
  · intro k
    by_cases e : x.rule = r
    · have := hb.2.2.2 q (by rw [e]; exact hq)
      omega
    · omega
theorem PH.done (h : PH g w g.rules.length 0 0 L) : ChS g w L := ⟨h.1, fun j hj => ⟨(h.2 j hj).1, fun x => by
  rw [(h.2 j hj).2 x]
  exact ⟨fun k => k.1, fun k => ⟨k, .inl k.bd.1⟩⟩⟩⟩
end
end Go.Proofs.Ytafncpgiibikcaa

namespace Go.Proofs.Ytafncpgiibikcaa.Am
set_option linter.unusedSimpArgs false
set_option linter.unusedVariables false
open Go.RowKit

section
variable {N : Env} {ops : Array Oper} {L : List (List Nat)} {act : List Nat} {s0 : St} {res : Nat → Res} {Hs : Nat → Heap}
structure OInw (N : Env) (ops : Array Oper) (act : List Nat) (s0 : St) (res : Nat → Res) (Hs : Nat → Heap) (S : Array Bool) (t : St) : Prop where
  size : S.size = ops.size
  closed : ∀ j o, ops[j]? = some o → S.getD j false = true → ∀ e ∈ o.after, Region.binds .any e = true → S.getD e.on false = true
  pre : ∃ k, k ≤ act.length ∧ t.h = Hs k ∧ ∀ j, j < act.length → (S.getD (act.getD j 0) false = true ↔ j < k)
  out : ∀ x, (∀ j, S.getD j false = true → dstAt ops j ≠ some x) → fget t.fr x = fget s0.fr x ∧ eget t.eph x = none
  gotS : ∀ j d v, dstAt ops j = some d → S.getD j false = true → res j = .sl v → fget t.fr d = v ∧ eget t.eph d = none
  gotE : ∀ j d sl off, dstAt ops j = some d → S.getD j false = true → res j = .ep sl off → eget t.eph d = some ([], (sl, off))
  tgt : ∀ q ∈ t.eph, ∀ j, dstAt ops j ≠ some q.2.2.1
structure Viw (ops : Array Oper) (L : List (List Nat)) (s0 : St) (res : Nat → Res) (i : Nat) (V : St) : Prop where
  f : ∀ x, fget V.fr x = .unk ∨ ((∀ j, dstAt ops j = some x → j = i ∨ i ∈ ancs L j) ∧ fget s0.fr x = fget V.fr x) ∨ ∃ j, dstAt ops j = some x ∧ j ∈ ancs L i ∧ res j = .sl (fget V.fr x)
  e : ∀ x p, eget V.eph x = some p → ∃ j sl off, dstAt ops j = some x ∧ j ∈ ancs L i ∧ res j = .ep sl off ∧ p = ([], (sl, off))
  n : ∀ x, fget V.fr x ≠ .unk → eget V.eph x = none
theorem Viw.sub (C : Cert ops L act) {S : Array Bool} {t V : St} {i : Nat} (I : OInw N ops act s0 res Hs S t) (hi : i < ops.size) (hr : ∀ o, ops[i]? = some o → ∀ e ∈ o.after, Region.binds .any e = true → S.getD e.on false = true)
    (hnot : ¬ S.getD i false = true) (hV : Viw ops L s0 res i V) (hh : V.h = t.h) : SubS V t := by
  have hin : ∀ j, j ∈ ancs L i → S.getD j false = true := fun j hj => anc_in C I.size I.closed i j hi hr hj
  have hno : ∀ x, (∀ j, dstAt ops j = some x → j = i ∨ i ∈ ancs L j) → ∀ j, S.getD j false = true → dstAt ops j ≠ some x := fun x h j hl hj => by
    rcases h j hj with rfl | h
    · exact hnot hl
    · have hjl := dstAt_lt hj
      exact hnot (anc_in C I.size I.closed j i hjl (fun o ho e he hb => I.closed j o ho hl e he hb) h)
  refine ⟨hh, fun x => ?_, fun x p hp => ?_, fun x hx => ?_⟩
  · rcases hV.f x with h | ⟨h, h2⟩ | ⟨j, h, h2, h3⟩
    · exact .inl h
    · exact .inr ((I.out x (hno x h)).1.trans h2)
    · exact .inr (I.gotS j x _ h (hin j h2) h3).1
  · obtain ⟨j, sl, off, h, h2, h3, rfl⟩ := hV.e x p hp
    exact I.gotE j x sl off h (hin j h2) h3
  · rw [hV.n x hx]
    rcases hV.f x with h | ⟨h, h2⟩ | ⟨j, h, h2, h3⟩
    · exact (hx h).elim
    · exact (I.out x (hno x h)).2
    · exact (I.gotS j x _ h (hin j h2) h3).2
theorem OInw.step (C : Cert ops L act) (hT : ∀ j sl off, res j = .ep sl off → ∀ i, dstAt ops i ≠ some sl)
    {S : Array Bool} {t : St} {i : Nat} {o : Oper} (hstep : ∀ o k, ops[i]? = some o → k ≤ act.length → stageB L act i k = true → ∃ V, Viw ops L s0 res i V ∧ V.h = Hs k ∧ One N ops o V (res i) (Hs (if i ∈ act then k + 1 else k)))
    (I : OInw N ops act s0 res Hs S t) (hi : i ∈ Region.ready .any ops S) (ho : ops[i]? = some o) :
    ∃ s', Ev N (.ops ops [o] t s') ∧ OInw N ops act s0 res Hs (S.setIfInBounds i true) s' := by
  obtain ⟨hun, oi, hoi, hall⟩ := mem_ready.1 hi
  obtain rfl : oi = o := Option.some.inj (hoi.symm.trans ho)
  have hlt : i < ops.size := (Array.getElem?_eq_some_iff.1 ho).1
  have hltS : i < S.size := by rw [I.size]; exact hlt
  have hnot : ¬ S.getD i false = true := by
    have h1 := getD_both hun
    rw [h1]
    simp
  have hr : ∀ o, ops[i]? = some o → ∀ e ∈ o.after, Region.binds .any e = true → S.getD e.on false = true := fun o' ho' e he hb => by
    obtain rfl : oi = o' := Option.some.inj (ho.symm.trans ho')
    exact hall e he hb
  have hin : ∀ j, j ∈ ancs L i → S.getD j false = true := fun j hj => anc_in C I.size I.closed i j hlt hr hj
  obtain ⟨k, hk, hh, hpre⟩ := I.pre
  have hst : stageB L act i k = true := by
    unfold stageB
    rw [List.all_eq_true]
    intro j hj
    rw [List.mem_range] at hj
    simp only [Bool.and_eq_true, Bool.or_eq_true, Bool.not_eq_true', decide_eq_true_eq, decide_eq_false_iff_not]
    refine ⟨⟨?_, ?_⟩, ?_⟩
    · by_cases h : act.getD j 0 ∈ ancs L i
      · exact .inr ((hpre j hj).1 (hin _ h))
      · exact .inl (by simpa using h)
    · by_cases h : i ∈ ancs L (act.getD j 0)
      · refine .inr (Nat.le_of_not_lt fun hjk => ?_)
        have h1 := (hpre j hj).2 hjk
        have hal : act.getD j 0 < ops.size := by
          rcases Nat.lt_or_ge (act.getD j 0) ops.size with h2 | h2
          · exact h2
          · have : S.size ≤ act.getD j 0 := by rw [I.size]; exact h2
            rw [Array.getD_eq_getD_getElem?, Array.getElem?_eq_none this] at h1
            cases h1
        exact hnot (anc_in C I.size I.closed _ i hal (fun o' ho' e he hb => I.closed _ o' ho' h1 e he hb) h)
      · exact .inl (by simpa using h)
    · by_cases h : act.getD j 0 = i
      · refine .inr (Nat.le_antisymm (Nat.le_of_not_lt fun hjk => ?_) (Nat.le_of_not_lt fun hkj => ?_))
        · exact hnot (h ▸ (hpre j hj).2 hjk)
        · have h1 := C.act k j hkj hj
          rw [h] at h1
          have := (hpre k (by omega)).1 (hin _ h1)
          omega
      · exact .inl h
  obtain ⟨V, hV, hVh, hone⟩ := hstep oi k ho hk hst
  have hsub := hV.sub C I hlt hr hnot (hVh.trans hh.symm)
  refine ⟨_, (hone.mono hsub).ev, ?_⟩
  have hset : ∀ j, ((S.setIfInBounds i true).getD j false = true) ↔ (j = i ∨ S.getD j false = true) := fun j => getD_set_ite hltS
  have hpre' : ∃ k', k' ≤ act.length ∧ Hs (if i ∈ act then k + 1 else k) = Hs k' ∧ ∀ j, j < act.length → ((S.setIfInBounds i true).getD (act.getD j 0) false = true ↔ j < k') := by
    have hst' : ∀ j, j < act.length → act.getD j 0 = i → k = j := fun j hj h => by
      unfold stageB at hst
      rw [List.all_eq_true] at hst
      have := hst j (List.mem_range.2 hj)
      simp only [Bool.and_eq_true, Bool.or_eq_true, Bool.not_eq_true', decide_eq_true_eq, decide_eq_false_iff_not] at this
      exact this.2.resolve_left fun hn => hn h
    by_cases hia : i ∈ act
    · rw [if_pos hia]
      obtain ⟨j0, hj0, hji⟩ := List.mem_iff_getElem.1 hia
      have hg : act.getD j0 0 = i := by simp [hj0, hji]
      have hk0 := hst' j0 hj0 hg
      refine ⟨k + 1, by omega, rfl, fun j hj => ?_⟩
      rw [hset]
      constructor
      · rintro (h | h)
        · have := hst' j hj h
          omega
        · have := (hpre j hj).1 h
          omega
      · intro h
        rcases Nat.lt_or_ge j k with h1 | h1
        · exact .inr ((hpre j hj).2 h1)
        · obtain rfl : j = j0 := by omega
          exact .inl hg
    · rw [if_neg hia]
      refine ⟨k, hk, rfl, fun j hj => ?_⟩
      rw [hset]
      constructor
      · rintro (h | h)
        · exact (hia (by rw [← h]; simp [hj])).elim
        · exact (hpre j hj).1 h
      · exact fun h => .inr ((hpre j hj).2 h)
  have hcl' : ∀ j o, ops[j]? = some o → (S.setIfInBounds i true).getD j false = true → ∀ e ∈ o.after, Region.binds .any e = true → (S.setIfInBounds i true).getD e.on false = true := fun j o hj hl e he hb => by
    rw [hset]
    rcases (hset j).1 hl with rfl | h
    · exact .inr (hr o hj e he hb)
    · exact .inr (I.closed j o hj h e he hb)
  cases hd : oi.dst with
  | none =>
    have hda : dstAt ops i = none := by simp [dstAt, ho, hd]
    have hne : ∀ j d, dstAt ops j = some d → j ≠ i := fun j d h e => by rw [e, hda] at h; cases h
    exact ⟨by simp [I.size], hcl', hpre', fun x hx => I.out x fun j hl => hx j ((hset j).2 (.inr hl)), fun j d v hj hl => I.gotS j d v hj (((hset j).1 hl).resolve_left (hne j d hj)), fun j d sl off hj hl => I.gotE j d sl off hj (((hset j).1 hl).resolve_left (hne j d hj)), I.tgt⟩
  | some d =>
    have hda : dstAt ops i = some d := by simp [dstAt, ho, hd]
    have hdn : ∀ q ∈ t.eph, q.2.2.1 ≠ d := fun q hq e => I.tgt q hq i (by rw [e]; exact hda)
    have hdne : ∀ j d', j ≠ i → dstAt ops j = some d' → d' ≠ d := fun j d' hj h e => hj (C.dst j i d (e ▸ h) hda)
    cases hres : res i with
    | sl v =>
      refine ⟨by simp [I.size], hcl', hpre', fun x hx => ?_, fun j d' v' hj hl hv => ?_, fun j d' sl off hj hl hv => ?_, fun q hq => I.tgt q (edrop_sub hq)⟩
      · have hxd : x ≠ d := fun e => hx i ((hset i).2 (.inl rfl)) (e ▸ hda)
        simp only [updR, fget_fput]
        rw [if_neg (fun e => hxd e.symm), eget_edrop hdn hxd]
        exact I.out x fun j hl => hx j ((hset j).2 (.inr hl))
      · simp only [updR, fget_fput]
        by_cases hji : j = i
        · subst hji
          obtain rfl : d = d' := Option.some.inj (hda.symm.trans hj)
          rw [if_pos rfl, eget_edrop_self]
          rw [hres] at hv
          cases hv
          exact ⟨rfl, rfl⟩
        · have := hdne j d' hji hj
          rw [if_neg (fun e => this e.symm), eget_edrop hdn this]
          exact I.gotS j d' v' hj (((hset j).1 hl).resolve_left hji) hv
      · by_cases hji : j = i
        · subst hji
          rw [hres] at hv
          cases hv
        · have := hdne j d' hji hj
          simp only [updR]
          rw [eget_edrop hdn this]
          exact I.gotE j d' sl off hj (((hset j).1 hl).resolve_left hji) hv
    | ep sl0 off0 =>
      refine ⟨by simp [I.size], hcl', hpre', fun x hx => ?_, fun j d' v' hj hl hv => ?_, fun j d' sl off hj hl hv => ?_, fun q hq => ?_⟩
      · have hxd : x ≠ d := fun e => hx i ((hset i).2 (.inl rfl)) (e ▸ hda)
        simp only [updR, fget_fput, eget]
        rw [if_neg (fun e => hxd e.symm), if_neg (fun e => hxd e.symm), eget_edrop hdn hxd]
        exact I.out x fun j hl => hx j ((hset j).2 (.inr hl))
      · by_cases hji : j = i
        · subst hji
          rw [hres] at hv
          cases hv
        · have := hdne j d' hji hj
          simp only [updR, fget_fput, eget]
          rw [if_neg (fun e => this e.symm), if_neg (fun e => this e.symm), eget_edrop hdn this]
          exact I.gotS j d' v' hj (((hset j).1 hl).resolve_left hji) hv
      · by_cases hji : j = i
        · subst hji
          obtain rfl : d = d' := Option.some.inj (hda.symm.trans hj)
          simp only [updR, eget, if_true]
          rw [hres] at hv
          cases hv
          rfl
        · have := hdne j d' hji hj
          simp only [updR, eget]
          rw [if_neg (fun e => this e.symm), eget_edrop hdn this]
          exact I.gotE j d' sl off hj (((hset j).1 hl).resolve_left hji) hv
      · rcases List.mem_cons.1 hq with rfl | hq
        · exact fun j => hT i sl0 off0 hres j
        · exact I.tgt q (edrop_sub hq)
theorem ev_orderV {id : Nat} {s : St} {frF : Fr} (hm : N.P.follows .mixedOrders = true) (C : Cert ops L act) (hT : ∀ j sl off, res j = .ep sl off → ∀ i, dstAt ops i ≠ some sl)
    (hstep : ∀ i o k, ops[i]? = some o → k ≤ act.length → stageB L act i k = true → ∃ V, Viw ops L s res i V ∧ V.h = Hs k ∧ One N ops o V (res i) (Hs (if i ∈ act then k + 1 else k)))
    (hact : ∀ a ∈ act, a < ops.size) (h0 : s.h = Hs 0) (hF : ∀ p ∈ frF, ((∀ j, dstAt ops j ≠ some p.1) ∧ fget s.fr p.1 = p.2) ∨ ∃ j, dstAt ops j = some p.1 ∧ res j = .sl p.2) :
    Ev N (.code (.region id ops true) s .normal ⟨frF, [], Hs act.length⟩) := by
  classical
  refine .regionO (OInw N ops act s res Hs) (fun S t i => match ops[i]? with
    | some o => if h : ∃ s', Ev N (.ops ops [o] t s') ∧ OInw N ops act s res Hs (S.setIfInBounds i true) s' then h.choose else t
    | none => t) hm ?_ ?_ ?_ ?_ rfl
  · refine ⟨by simp, fun j o _ hl => ?_, ⟨0, Nat.zero_le _, h0, fun j _ => ?_⟩, fun x _ => ⟨rfl, rfl⟩, fun j d v _ hl => ?_, fun j d sl off _ hl => ?_, fun q hq => by cases hq⟩
    · rw [getD_replicate_false] at hl
      cases hl
    · rw [getD_replicate_false]
      simp
    · rw [getD_replicate_false] at hl
      cases hl
    · rw [getD_replicate_false] at hl
      cases hl
  · intro S t i o I hi ho
    simp only [ho]
    have h := I.step C hT (hstep i) hi ho
    rw [dif_pos h]
    exact h.choose_spec.1
  · intro S t i o I hi ho
    simp only [ho]
    have h := I.step C hT (hstep i) hi ho
    rw [dif_pos h]
    exact h.choose_spec.2
  · intro S t I hr
    have hall : ∀ i, i < ops.size → S.getD i false = true := by
      intro i
      induction i using Nat.strongRecOn with
      | _ i ih =>
        intro hi
        cases hb : S.getD i false with
        | true => rfl
        | false =>
          have : i ∈ Region.ready .any ops S := mem_ready.2 ⟨getD_in (by rw [I.size]; exact hi) hb, ops[i], Array.getElem?_eq_getElem hi, fun e he hbi => by
            have hlow := C.low i _ (Array.getElem?_eq_getElem hi) e he hbi
            exact ih e.on hlow (by omega)⟩
          rw [hr] at this
          cases this
    refine ⟨fun p hp => ?_, ?_⟩
    · rcases hF p hp with ⟨h1, h2⟩ | ⟨j, h1, h2⟩
      · exact (I.out p.1 fun j _ => h1 j).1.trans h2
      · exact (I.gotS j p.1 p.2 h1 (hall j (dstAt_lt h1)) h2).1
    · obtain ⟨k, hk, hh, hpre⟩ := I.pre
      have : k = act.length := by
        rcases Nat.lt_or_ge k act.length with h | h
        · have := (hpre k h).1 (hall _ (hact _ (by simp [h])))
          omega
        · omega
      rw [hh, this]
end

def apartG (ops : Array Oper) (L : List (List Nat)) (fr : Fr) : Bool := fr.all fun p => (List.range ops.size).all fun j => !(dstAt ops j == some p.1) || (List.range ops.size).all fun i => i == j || (ancs L j).contains i
theorem fget_app {A B : Fr} {x : Nat} : fget (A ++ B) x = fget A x ∨ fget (A ++ B) x = fget B x := by
  induction A with
  | nil => exact .inr rfl
  | cons p A ih =>
    obtain ⟨k, v⟩ := p
    simp only [List.cons_append, fget]
    split
    · exact .inl rfl
    · exact ih
theorem StepsA.get {N : Env} {ops : Array Oper} {L : List (List Nat)} {act : List Nat} {resL : List Res} {hs : List Heap} {fr : Fr} : ∀ {l : List Oper} {a i : Nat} {o : Oper} {k : Nat}, StepsA N ops L act resL hs fr a l → l[i]? = some o → k ≤ act.length → stageB L act (a + i) k = true → One N ops o (vw ops L resL fr (hpF hs k) (a + i)) (resF resL (a + i)) (hpF hs (if a + i ∈ act then k + 1 else k))
  | [], a, i, o, k, _, h, _, _ => by simp at h
  | o' :: l, a, 0, o, k, .cons ks h0 h1 h2 h3, h, hk, hst => by
    cases h
    have := h1.mem k (by rw [← h0]; exact List.mem_filter.2 ⟨List.mem_range.2 (by omega), hst⟩)
    subst h2
    unfold nxtA at this
    simp only [List.contains_iff_mem] at this
    exact this
  | o' :: l, a, i + 1, o, k, .cons ks h0 h1 h2 h3, h, hk, hst => by
    have h4 : l[i]? = some o := by simpa using h
    rw [show a + (i + 1) = a + 1 + i by omega] at hst ⊢
    exact StepsA.get h3 h4 hk hst
section
variable {N : Env} {ops : Array Oper} {L : List (List Nat)} {act : List Nat} {resL : List Res}
theorem fget_appB {A B : Fr} {x : Nat} (h : fget A x ≠ .unk) : fget (A ++ B) x = fget A x := by
  induction A with
  | nil => exact (h rfl).elim
  | cons p A ih =>
    obtain ⟨k, v⟩ := p
    simp only [List.cons_append, fget] at h ⊢
    split
    · rfl
    · rename_i hk
      rw [if_neg hk] at h
      exact ih h
theorem fget_appN {A B : Fr} {x : Nat} (h : ∀ v, (x, v) ∉ A) : fget (A ++ B) x = fget B x := by
  induction A with
  | nil => rfl
  | cons p A ih =>
    obtain ⟨k, v⟩ := p
    have hk : k ≠ x := fun e => h v (e ▸ List.mem_cons_self)
    simp only [List.cons_append, fget, if_neg hk]
    exact ih fun v hv => h v (List.mem_cons_of_mem _ hv)
theorem view_okV (C : Cert ops L act) {s0 : St} {h : Heap} {i : Nat} (hi : i < ops.size) (hb : apartG ops L s0.fr = true) (hcl : ∀ j, j ∈ ancs L i → j ≠ i ∧ i ∉ ancs L j) : Viw ops L s0 (resF resL) i (vw ops L resL s0.fr h i) := by
  have hw : ∀ x v, (x, v) ∈ s0.fr → ∀ j, dstAt ops j = some x → j = i ∨ i ∈ ancs L j := fun x v hx j hj => by
    have h1 := List.all_eq_true.1 hb (x, v) hx
    have h2 := List.all_eq_true.1 h1 j (List.mem_range.2 (dstAt_lt hj))
    rw [Bool.or_eq_true, Bool.not_eq_true', beq_eq_false_iff_ne] at h2
    have h3 := h2.resolve_left (fun h => h hj)
    have h4 := List.all_eq_true.1 h3 i (List.mem_range.2 hi)
    rw [Bool.or_eq_true, beq_iff_eq] at h4
    rcases h4 with h4 | h4
    · exact .inl h4.symm
    · exact .inr (List.contains_iff_mem.1 h4)
  have hf : ∀ x, fget (vw ops L resL s0.fr h i).fr x = .unk ∨ ((∀ j, dstAt ops j = some x → j = i ∨ i ∈ ancs L j) ∧ fget s0.fr x = fget (vw ops L resL s0.fr h i).fr x) ∨ ∃ j, dstAt ops j = some x ∧ j ∈ ancs L i ∧ resF resL j = .sl (fget (vw ops L resL s0.fr h i).fr x) := by
    intro x
    by_cases hx : ∃ v, (x, v) ∈ s0.fr
    · obtain ⟨v, hv⟩ := hx
      have hB : fget (ancFr ops resL (ancs L i)) x = .unk := by
        rcases fget_ancFr (ops := ops) (resL := resL) (x := x) (l := ancs L i) with h | ⟨j, h1, h2, _⟩
        · exact h
        · have := hcl j h2
          rcases hw x v hv j h1 with e | e
          · exact (this.1 e).elim
          · exact (this.2 e).elim
      refine .inr (.inl ⟨hw x v hv, ?_⟩)
      show fget s0.fr x = fget (s0.fr ++ ancFr ops resL (ancs L i)) x
      by_cases hu : fget s0.fr x = .unk
      · rcases fget_app (A := s0.fr) (B := ancFr ops resL (ancs L i)) (x := x) with e | e
        · exact e.symm
        · rw [e, hB, hu]
      · exact (fget_appB hu).symm
    · have he : fget (vw ops L resL s0.fr h i).fr x = fget (ancFr ops resL (ancs L i)) x := fget_appN fun v hv => hx ⟨v, hv⟩
      rw [he]
      rcases fget_ancFr (ops := ops) (resL := resL) (x := x) (l := ancs L i) with h | ⟨j, h1, h2, h3⟩
      · exact .inl h
      · exact .inr (.inr ⟨j, h1, h2, resF_some h3⟩)
  refine ⟨hf, fun x p hp => ?_, fun x hx => ?_⟩
  · obtain ⟨j, sl, off, h1, h2, h3, h4⟩ := eget_ancE hp
    exact ⟨j, sl, off, h1, h2, resF_some h3, h4⟩
  · cases he : eget (vw ops L resL s0.fr h i).eph x with
    | none => rfl
    | some p =>
      obtain ⟨j, sl, off, h1, h2, h3, _⟩ := eget_ancE he
      rcases hf x with h | ⟨h, _⟩ | ⟨j', k1, k2, k3⟩
      · exact (hx h).elim
      · have := hcl j h2
        rcases h j h1 with e | e
        · exact (this.1 e).elim
        · exact (this.2 e).elim
      · obtain rfl := C.dst j j' x h1 k1
        rw [resF_some h3] at k3
        cases k3
def lowB (L : List (List Nat)) (n : Nat) : Bool := (List.range n).all fun i => (ancs L i).all fun j => decide (j < i)
theorem cw_ordG {id : Nat} {fr : Fr} {h : Heap} {Q : AX → St → Prop} (L : List (List Nat)) (act : List Nat) (hs : List Heap) (resL : List Res) (frF : Fr) (hm : N.P.follows .mixedOrders = true) (hc : ordB ops L act = true) (ha : act.all (fun a => decide (a < ops.size)) = true) (hb : apartG ops L fr = true) (hlo : lowB L ops.size = true)
    (hS : StepsA N ops L act resL (h :: hs) fr 0 ops.toList) (ht : tgtB ops resL = true) (hF : FinOK ops resL fr frF) (k : Q .normal ⟨frF, [], hpF (h :: hs) act.length⟩) : CW N (.region id ops true) ⟨fr, [], h⟩ Q := by
  have C := ordB_cert hc
  have hlow : ∀ i j, i < ops.size → j ∈ ancs L i → j < i := fun i j hi hj => by
    have h1 := List.all_eq_true.1 hlo i (List.mem_range.2 hi)
    have h2 := List.all_eq_true.1 h1 j hj
    simpa using h2
  unfold CW
  refine ⟨_, _, ev_orderV (s := ⟨fr, [], h⟩) (res := resF resL) (Hs := hpF (h :: hs)) (frF := frF) hm C ?_ ?_ (fun a h => by simpa using List.all_eq_true.1 ha a h) rfl (fun p hp => hF.at hp), k⟩
  · intro j sl off hr i hi
    unfold resF at hr
    cases hj : resL[j]? with
    | none => simp [hj] at hr
    | some r =>
      simp only [hj, Option.getD_some] at hr
      have := List.all_eq_true.1 ht r (List.mem_of_getElem? hj)
      rw [hr] at this
      simp only [Bool.not_eq_true', List.contains_eq_mem, decide_eq_false_iff_not] at this
      exact this (mem_dstsOf hi)
  · intro i o k hi hk hst
    have hlt : i < ops.size := (Array.getElem?_eq_some_iff.1 hi).1
    refine ⟨vw ops L resL fr (hpF (h :: hs) k) i, view_okV C hlt hb fun j hj => ?_, rfl, ?_⟩
    · have h1 := hlow i j hlt hj
      refine ⟨by omega, fun h2 => ?_⟩
      have := hlow j i (by omega) h2
      omega
    · have := StepsA.get (a := 0) (i := i) (o := o) hS (by simpa using hi) hk (by rw [Nat.zero_add]; exact hst)
      rwa [Nat.zero_add] at this
end
end Go.Proofs.Ytafncpgiibikcaa.Am
