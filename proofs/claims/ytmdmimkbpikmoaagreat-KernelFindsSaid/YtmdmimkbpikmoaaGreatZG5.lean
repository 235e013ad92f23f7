/- Several texts, one behind the other; each begins with a remark of its own. -/
import Derived.Test.YtmdmimkbpikmoaaGreatZFa
import Derived.Test.YtmdmimkbpikmoaaGreatZTy
import Derived.RangeFuncBox
import Derived.RangeFuncNested
import Derived.RangeFuncBound
import Derived.RangeFuncCalls
import Derived.RangeFuncLeaves
import Derived.Shelf.Abstract
import Derived.Shelf.RegionOpen
import Derived.WalkKit
import Derived.OwnWalkIn
import Derived.TacticsInMore
import Derived.LoopNIn
import Derived.LoopIn
import Derived.Maps.AppendAt
import Derived.Lib.Builder
import Derived.Laws.Externs
import Derived.Test.YtmdmimkbpikmoaaGreatRows
import Derived.ProofKit
import Derived.OpenShut
import Derived.ChangeOld
import Derived.Below
import Derived.Carry
import Derived.SizedLaws
namespace Go.Proofs.YtmdmimkbpikmoaaGreat
set_option linter.unusedSimpArgs false
set_option linter.unusedVariables false
set_option maxRecDepth 20000
open Go.RowKit Am Ty

abbrev BSet.val (s : BSet) : Value := .agg #[u64 s.a, u64 s.b, u64 s.c, u64 s.d]
theorem div_pow {w : Int} (hw : WWf w) (j : Nat) : 0 ≤ w / 2 ^ j ∧ w / 2 ^ j < 18446744073709551616 := by
  obtain ⟨x, rfl⟩ : ∃ x : Nat, w = x := ⟨w.toNat, by have := hw.1; omega⟩
  have e : (x : Int) / 2 ^ j = ((x / 2 ^ j : Nat) : Int) := by simp
  have h1 : x / 2 ^ j ≤ x := Nat.div_le_self _ _
  have := hw.2
  rw [e]
  generalize x / 2 ^ j = q at h1 ⊢
  omega
end Go.Proofs.YtmdmimkbpikmoaaGreat

namespace Go.Proofs.YtmdmimkbpikmoaaGreat
set_option linter.unusedSimpArgs false
set_option linter.unusedVariables false
set_option maxRecDepth 20000
open Go.RowKit Am Ty

def RdTs (P : Program) (R : TypeId → List Value → Prop) : List TypeId → List Value → Prop
  | [], vs => vs = []
  | t :: r, vs => ∃ a b, vs = a ++ b ∧ a.length = P.cellsOf t ∧ R t a ∧ RdTs P R r b
theorem fs_types {P : Program} {R : TypeId → List Value → Prop} : ∀ {l : List Field} {vs : List Value}, RdFs P R l vs → RdTs P R (l.map (·.type)) vs
  | [], _, h => h
  | _ :: _, _, ⟨a, b, h1, h2, h3, h4⟩ => ⟨a, b, h1, h2, h3, fs_types h4⟩
theorem es_map {α : Type} {c : Nat} {R : List Value → Prop} {f : α → List Value} {Q : α → Prop} (k : ∀ vs, R vs → ∃ x, vs = f x ∧ Q x) : ∀ {m : Nat} {vs : List Value}, RdEs c R m vs → ∃ l : List α, l.length = m ∧ vs = l.flatMap f ∧ ∀ x ∈ l, Q x
  | 0, vs, h => ⟨[], rfl, h, fun x hx => by cases hx⟩
  | m + 1, vs, ⟨a, b, h1, _, h3, h4⟩ => by
    obtain ⟨x, rfl, hx⟩ := k a h3
    obtain ⟨l, rfl, rfl, hl⟩ := es_map k h4
    refine ⟨x :: l, rfl, by rw [h1]; rfl, fun y hy => ?_⟩
    rcases List.mem_cons.1 hy with rfl | hy
    · exact hx
    · exact hl y hy
theorem rd_struct {h : Heap} {n : Nat} {t : TypeId} {l : List TypeId} {vs : List Value} (hu : Tryz.prog.underlying t = some (.struct (Tryz.prog.fieldsOf t))) (hl : (Tryz.prog.fieldsOf t).toList.map (·.type) = l) (k : RdT Tryz.prog h (n + 1) t vs) : RdTs Tryz.prog (RdT Tryz.prog h n) l vs := by
  unfold RdT at k
  rw [hu] at k
  exact hl ▸ fs_types k
theorem rd_int {h : Heap} {n : Nat} {vs : List Value} (k : RdT Tryz.prog h n 3 vs) : ∃ i, vs = [i64 i] ∧ (Lit.int .i64 i).wf = true := by
  cases n with
  | zero => exact k.elim
  | succ n =>
    unfold RdT at k
    rw [show Tryz.prog.underlying 3 = some (.int .i64) by kernel_rfl] at k
    exact k
theorem zip_fst_snd {α β : Type} : ∀ (z : List (α × β)), (z.map (·.1)).zip (z.map (·.2)) = z
  | [] => rfl
  | (a, b) :: z => by simp [zip_fst_snd z]
end Go.Proofs.YtmdmimkbpikmoaaGreat

namespace Go.Proofs.YtmdmimkbpikmoaaGreat
set_option linter.unusedSimpArgs false
set_option linter.unusedVariables false
set_option maxRecDepth 20000
open Go.RowKit Am Ty

abbrev u8 (n : Int) : Value := .int .u8 n
theorem shr_and {w : Int} (hw : WWf w) {j : Nat} (hj : j < 64) : IntKind.u64.wrap ((BitVec.ofInt IntKind.u64.bits (w.fdiv (2 ^ (min j IntKind.u64.bits))) &&& BitVec.ofInt IntKind.u64.bits 1).toNat) = w / 2 ^ j % 2 := by
  have hb : IntKind.u64.bits = 64 := rfl
  rw [hb, Nat.min_eq_left (by omega), Int.fdiv_eq_ediv_of_nonneg _ (Int.pow_nonneg (by decide))]
  have h := div_pow hw j
  generalize w / 2 ^ j = q at h
  obtain ⟨x, rfl⟩ : ∃ x : Nat, q = x := ⟨q.toNat, by omega⟩
  have e1 : (BitVec.ofInt 64 (x : Int)).toNat = x := by
    rw [BitVec.toNat_ofInt]
    have := Int.emod_eq_of_lt (a := (x : Int)) (b := ((2 ^ 64 : Nat) : Int)) (by omega) (by have := h.2; simpa using this)
    rw [this]
    rfl
  have e2 : (BitVec.ofInt 64 1).toNat = 1 := by decide
  rw [BitVec.toNat_and, e1, e2, Nat.and_one_is_mod]
  rw [wrap_u64 ⟨by omega, by omega⟩]
  omega
set_option maxHeartbeats 2000000 in
theorem chas_fw {h : Heap} {s : BSet} {b : Nat} (hs : SetWf s) (hb : b < 256) : FW env 214 [s.val, u8 b] h fun r h' => r = .bool (s.has b) ∧ h' = h := by
  obtain ⟨j, hj⟩ : ∃ j : Nat, j = b % 64 := ⟨_, rfl⟩
  have hj2 : j < 64 := by omega
  have q2 : (b : Int).tmod 64 = (j : Int) := by
    rw [Int.tmod_eq_emod_of_nonneg (by omega)]
    omega
  have q3 : ((j : Int) < 0) = False := by simp
  have ww := hs.word (b / 64)
  have q5 := shr_and ww hj2
  have hres : s.has b = decide (s.word (b / 64) / 2 ^ j % 2 = 1) := by
    unfold BSet.has
    rw [wbit_div ww, hj]
  have q1 : IntKind.u8.wrap ((b : Int).tdiv 64) = ((b / 64 : Nat) : Int) := by
    rw [Int.tdiv_eq_ediv_of_nonneg (by omega)]
    unfold IntKind.wrap
    simp only [IntKind.bits, IntKind.signed, Bool.false_and, Bool.false_eq_true, if_false]
    omega
  rw [hres]
  refine fw_enter (fn := Tryz.f214) Tryz.func214 rfl (by kernel_rfl) (by simp [Tryz.ntmps214]) ?_; simp only [push_cast]
  rcases (by omega : b / 64 = 0 ∨ b / 64 = 1 ∨ b / 64 = 2 ∨ b / 64 = 3) with e | e | e | e
  all_goals
    rw [e] at q1 q5 ⊢
    simp only [BSet.word] at q5 ⊢
  · rw [show ((0 : Nat) : Int) = 0 from rfl] at q1
    repeat (first | apply zs | apply zr | apply zn | ((first | apply zx | apply zy); · simp only [push_cast, env, Nat.reduceEqDiff, reduceIte, Nat.reduceAdd, Nat.reduceMul, Nat.reduceLeDiff, reduceCtorEq, Nat.reduceSub, Int.reduceToNat, q1, q2, q3, q5, Int.reduceEq, Int.reduceLT, Int.reduceLE, Nat.mul_one] <;> first | exact rfl | exact .inl rfl | exact .inr rfl) | apply zq | apply zb | apply zo | apply zk | apply zl)
    refine cw_ret ?_
    exact ⟨_, (by simp only [push_cast, env, Nat.reduceEqDiff, reduceIte] <;> exact rfl), rfl, rfl⟩
  · rw [show ((1 : Nat) : Int) = 1 from rfl] at q1
    repeat (first | apply zs | apply zr | apply zn | ((first | apply zx | apply zy); · simp only [push_cast, env, Nat.reduceEqDiff, reduceIte, Nat.reduceAdd, Nat.reduceMul, Nat.reduceLeDiff, reduceCtorEq, Nat.reduceSub, Int.reduceToNat, q1, q2, q3, q5, Int.reduceEq, Int.reduceLT, Int.reduceLE, Nat.mul_one] <;> first | exact rfl | exact .inl rfl | exact .inr rfl) | apply zq | apply zb | apply zo | apply zk | apply zl)
    refine cw_ret ?_
    exact ⟨_, (by simp only [push_cast, env, Nat.reduceEqDiff, reduceIte] <;> exact rfl), rfl, rfl⟩
  · rw [show ((2 : Nat) : Int) = 2 from rfl] at q1
    repeat (first | apply zs | apply zr | apply zn | ((first | apply zx | apply zy); · simp only [push_cast, env, Nat.reduceEqDiff, reduceIte, Nat.reduceAdd, Nat.reduceMul, Nat.reduceLeDiff, reduceCtorEq, Nat.reduceSub, Int.reduceToNat, q1, q2, q3, q5, Int.reduceEq, Int.reduceLT, Int.reduceLE, Nat.mul_one] <;> first | exact rfl | exact .inl rfl | exact .inr rfl) | apply zq | apply zb | apply zo | apply zk | apply zl)
    refine cw_ret ?_
    exact ⟨_, (by simp only [push_cast, env, Nat.reduceEqDiff, reduceIte] <;> exact rfl), rfl, rfl⟩
  · rw [show ((3 : Nat) : Int) = 3 from rfl] at q1
    repeat (first | apply zs | apply zr | apply zn | ((first | apply zx | apply zy); · simp only [push_cast, env, Nat.reduceEqDiff, reduceIte, Nat.reduceAdd, Nat.reduceMul, Nat.reduceLeDiff, reduceCtorEq, Nat.reduceSub, Int.reduceToNat, q1, q2, q3, q5, Int.reduceEq, Int.reduceLT, Int.reduceLE, Nat.mul_one] <;> first | exact rfl | exact .inl rfl | exact .inr rfl) | apply zq | apply zb | apply zo | apply zk | apply zl)
    refine cw_ret ?_
    exact ⟨_, (by simp only [push_cast, env, Nat.reduceEqDiff, reduceIte] <;> exact rfl), rfl, rfl⟩
end Go.Proofs.YtmdmimkbpikmoaaGreat

namespace Go.Proofs.YtmdmimkbpikmoaaGreat.Pr
set_option linter.unusedSimpArgs false
set_option linter.unusedVariables false
set_option maxRecDepth 20000
open Go.RowKit Go.Shelf Am Ty
attribute [local go_sem] Oper.semAt_some
noncomputable def env : Env := ⟨Tryz.prog, YtmdmimkbpikmoaaGreat.env.eqs, keysTab, fun _ _ _ => none⟩
@[push_cast] theorem env_P : env.P = Tryz.prog := rfl
theorem env_ok : EnvOK env := ⟨eqs_ok, keysTab_ok, fun f args h r h' e => by cases e⟩
set_option maxHeartbeats 2000000 in
theorem chas_fw {h : Heap} {s : BSet} {b : Nat} (hs : SetWf s) (hb : b < 256) : FW env 214 [s.val, u8 b] h fun r h' => r = .bool (s.has b) ∧ h' = h := by
  obtain ⟨j, hj⟩ : ∃ j : Nat, j = b % 64 := ⟨_, rfl⟩
  have hj2 : j < 64 := by omega
  have q2 : (b : Int).tmod 64 = (j : Int) := by
    rw [Int.tmod_eq_emod_of_nonneg (by omega)]
    omega
  have q3 : ((j : Int) < 0) = False := by simp
  have ww := hs.word (b / 64)
  have q5 := shr_and ww hj2
  have hres : s.has b = decide (s.word (b / 64) / 2 ^ j % 2 = 1) := by
    unfold BSet.has
    rw [wbit_div ww, hj]
  have q1 : IntKind.u8.wrap ((b : Int).tdiv 64) = ((b / 64 : Nat) : Int) := by
    rw [Int.tdiv_eq_ediv_of_nonneg (by omega)]
    unfold IntKind.wrap
    simp only [IntKind.bits, IntKind.signed, Bool.false_and, Bool.false_eq_true, if_false]
    omega
  rw [hres]
  refine fw_enter (fn := Tryz.f214) Tryz.func214 rfl (by kernel_rfl) (by simp [Tryz.ntmps214]) ?_; simp only [push_cast]
  rcases (by omega : b / 64 = 0 ∨ b / 64 = 1 ∨ b / 64 = 2 ∨ b / 64 = 3) with e | e | e | e
  all_goals
    rw [e] at q1 q5 ⊢
    simp only [BSet.word] at q5 ⊢
  · rw [show ((0 : Nat) : Int) = 0 from rfl] at q1
    repeat (first | apply zs | apply zr | apply zn | ((first | apply zx | apply zy); · simp only [push_cast, env, Nat.reduceEqDiff, reduceIte, Nat.reduceAdd, Nat.reduceMul, Nat.reduceLeDiff, reduceCtorEq, Nat.reduceSub, Int.reduceToNat, q1, q2, q3, q5, Int.reduceEq, Int.reduceLT, Int.reduceLE, Nat.mul_one] <;> first | exact rfl | exact .inl rfl | exact .inr rfl) | apply zq | apply zb | apply zo | apply zk | apply zl)
    refine cw_ret ?_
    exact ⟨_, (by simp only [push_cast, env, Nat.reduceEqDiff, reduceIte] <;> exact rfl), rfl, rfl⟩
  · rw [show ((1 : Nat) : Int) = 1 from rfl] at q1
    repeat (first | apply zs | apply zr | apply zn | ((first | apply zx | apply zy); · simp only [push_cast, env, Nat.reduceEqDiff, reduceIte, Nat.reduceAdd, Nat.reduceMul, Nat.reduceLeDiff, reduceCtorEq, Nat.reduceSub, Int.reduceToNat, q1, q2, q3, q5, Int.reduceEq, Int.reduceLT, Int.reduceLE, Nat.mul_one] <;> first | exact rfl | exact .inl rfl | exact .inr rfl) | apply zq | apply zb | apply zo | apply zk | apply zl)
    refine cw_ret ?_
    exact ⟨_, (by simp only [push_cast, env, Nat.reduceEqDiff, reduceIte] <;> exact rfl), rfl, rfl⟩
  · rw [show ((2 : Nat) : Int) = 2 from rfl] at q1
    repeat (first | apply zs | apply zr | apply zn | ((first | apply zx | apply zy); · simp only [push_cast, env, Nat.reduceEqDiff, reduceIte, Nat.reduceAdd, Nat.reduceMul, Nat.reduceLeDiff, reduceCtorEq, Nat.reduceSub, Int.reduceToNat, q1, q2, q3, q5, Int.reduceEq, Int.reduceLT, Int.reduceLE, Nat.mul_one] <;> first | exact rfl | exact .inl rfl | exact .inr rfl) | apply zq | apply zb | apply zo | apply zk | apply zl)
    refine cw_ret ?_
    exact ⟨_, (by simp only [push_cast, env, Nat.reduceEqDiff, reduceIte] <;> exact rfl), rfl, rfl⟩
  · rw [show ((3 : Nat) : Int) = 3 from rfl] at q1
    repeat (first | apply zs | apply zr | apply zn | ((first | apply zx | apply zy); · simp only [push_cast, env, Nat.reduceEqDiff, reduceIte, Nat.reduceAdd, Nat.reduceMul, Nat.reduceLeDiff, reduceCtorEq, Nat.reduceSub, Int.reduceToNat, q1, q2, q3, q5, Int.reduceEq, Int.reduceLT, Int.reduceLE, Nat.mul_one] <;> first | exact rfl | exact .inl rfl | exact .inr rfl) | apply zq | apply zb | apply zo | apply zk | apply zl)
    refine cw_ret ?_
    exact ⟨_, (by simp only [push_cast, env, Nat.reduceEqDiff, reduceIte] <;> exact rfl), rfl, rfl⟩
theorem has_eq {s : BSet} {n : Nat} (h : n < 256) : s.has n = hasW s.a s.b s.c s.d n := by
  unfold BSet.has hasW wbit BSet.word
  rcases (by omega : n / 64 = 0 ∨ n / 64 = 1 ∨ n / 64 = 2 ∨ n / 64 = 3) with e | e | e | e <;> rw [e] <;> rfl
variable (has : Nat → Bool)
set_option maxHeartbeats 1000000 in
set_option maxRecDepth 100000 in
theorem cc_used (b : Nat) (w : World) (h0 : w.cell? ⟨b, 0, none⟩ = some (.pointer (some ⟨b, 0, none⟩))) :
    Calls Tryz.prog 205 #[.pointer (some ⟨b, 0, none⟩)] w fun e w' => e = .returned (.tuple #[]) ∧ w' = w := by
  have hj : ∃ j, Tryz.prog.info? 228 = some j := ⟨_, rfl⟩
  obtain ⟨j, hj⟩ := hj
  refine calls_of_wp Tryz.func205 rfl ?_
  simp only [Tryz.ntmps205, List.size_toArray, List.length_cons, List.length_nil, Nat.reduceAdd, Nat.reduceSub, Array.replicate_succ, Array.replicate_zero, List.push_toArray, List.append_toArray, List.nil_append, List.cons_append]
  go_wp2
  rw [Lib.run_neq_ptr_same w _ Tryz.underlying226 hj]
  go_wp2
  go_end0
  exact ⟨rfl, rfl⟩
set_option maxHeartbeats 1000000 in
set_option maxRecDepth 100000 in
theorem cc_fresh (b k : Nat) (w : World) (hk : 0 < k) (h0 : w.cell? ⟨b, 0, none⟩ = some (.pointer none)) (hsh : w.shape? b = some (228, k)) (hfz : w.frozen? ⟨b, 0, none⟩ = false) (hl : liesAt Tryz.prog Tryz.prog.depth 228 (k / Tryz.prog.cellsOf 228) 0 228 1 = true) :
    Calls Tryz.prog 205 #[.pointer (some ⟨b, 0, none⟩)] w fun e w' => e = .returned (.tuple #[]) ∧ w' = w.setCell ⟨b, 0, none⟩ (.pointer (some ⟨b, 0, none⟩)) := by
  obtain ⟨j, hj, hjs⟩ : ∃ j, Tryz.prog.info? 228 = some j ∧ j.size ≠ 0 := by
    have : (Tryz.prog.info? 228).map (·.size) = some 2 := by kernel_rfl
    obtain ⟨j, hj, hjs⟩ := Option.map_eq_some_iff.1 this
    exact ⟨j, hj, by rw [hjs]; decide⟩
  refine calls_of_wp Tryz.func205 rfl ?_
  simp only [Tryz.ntmps205, List.size_toArray, List.length_cons, List.length_nil, Nat.reduceAdd, Nat.reduceSub, Array.replicate_succ, Array.replicate_zero, List.push_toArray, List.append_toArray, List.nil_append, List.cons_append]
  go_wp2
  rw [Lib.run_to_unsafe w ⟨b, 0, none⟩ Tryz.underlying226 Tryz.underlying263 hj hjs hsh hk]
  simp only [Result.andThen]
  rw [Oper.upon_value]
  go_wp2
  rw [run_callFunc_extern Tryz.func215 (by kernel_rfl) (by kernel_rfl) (by kernel_rfl) (e := Extern.AbiNoEscape.same) (by kernel_rfl)]
  rw [Lib.run_noEscape]
  simp only [Result.andThen]
  rw [Oper.upon_value]
  go_wp2
  rw [Lib.run_from_unsafe w ⟨b, 0, none⟩ Tryz.underlying263 Tryz.underlying226 hj hsh hl]
  simp only [Result.andThen]
  rw [Oper.upon_value]
  go_wp2
  go_end0
  exact ⟨rfl, rfl⟩
theorem lies_self {P : Program} {e : TypeId} (hc : P.cellsOf e = 2) (count : Nat) (hn : 1 ≤ count) : liesAt P P.depth e count 0 e 1 = true := by
  have hd : P.depth = (2 * (P.types.size + Made.depth) + 1) + 1 := rfl
  rw [hd]
  simp only [liesAt, Bool.or_eq_true]
  left
  rw [hd]
  simp [rowAt, hc, hn, sameLayout]
variable (has : Nat → Bool)
theorem bytesTo_succ {k : Nat} (h : k < 256) : bytesTo has (k + 1) = if has k then bytesTo has k ++ [⟨k, h⟩] else bytesTo has k := by
  simp only [bytesTo, dif_pos h]
theorem bytesTo_len (k : Nat) : (bytesTo has k).length ≤ k := by
  induction k with
  | zero => simp [bytesTo]
  | succ k ih =>
    simp only [bytesTo]
    split
    · split
      · simp only [List.length_append, List.length_cons, List.length_nil]; omega
      · omega
    · omega
abbrev u8v (x : Nat) : Value := .int .u8 x
def setV (a b c d : Int) : Value := .agg #[.int .u64 a, .int .u64 b, .int .u64 c, .int .u64 d]
structure Kp2 (n₀ Bn : Nat) (W W' : World) : Prop where
  below : Below n₀ W W'
  blk : W'.heap[Bn]? = W.heap[Bn]?
theorem Kp2.trans {n₀ Bn : Nat} {A B C : World} (h : Kp2 n₀ Bn A B) (k : Kp2 n₀ Bn B C) : Kp2 n₀ Bn A C := ⟨h.below.trans k.below, k.blk.trans h.blk⟩
theorem Kp2.refl (n₀ Bn : Nat) (A : World) : Kp2 n₀ Bn A A := ⟨Below.refl _ _, rfl⟩
theorem Kp2.of {n₀ Bn : Nat} {A B : World} (h : Below A.heap.size A B) (hn : n₀ ≤ A.heap.size) (hb : Bn < A.heap.size) : Kp2 n₀ Bn A B := ⟨h.mono hn, h.block Bn hb⟩
theorem wrap_u8 {k : Nat} (h : k < 256) : IntKind.u8.wrap (k : Int) = k := by
  unfold IntKind.wrap
  simp only [IntKind.bits, IntKind.signed, Bool.false_and, Bool.false_eq_true, if_false]
  omega
set_option maxRecDepth 100000 in
set_option maxHeartbeats 2000000 in
theorem all1_in (a b c d : Int) (hh : ∀ (w : World) (x : Nat), x < 256 → Calls Tryz.prog 214 #[setV a b c d, u8v x] w fun e w' => e = .returned (.bool (has x)) ∧ Below w.heap.size w w')
    (n : Nat) (hn : 1 ≤ n) (l Bn n₀ : Nat) (J Jx : List (Fin 256) → World → Prop)
    (hY : ∀ (pre : List (Fin 256)) (x : Fin 256) W, J pre W → pre.length < 257 → YieldAt Fence.wide (n - 1) Tryz.prog l #[u8v x.1] W fun e W' =>
      (e = .returned (.bool true) ∧ J (pre ++ [x]) W' ∧ Kp2 n₀ Bn W W') ∨ (e = .returned (.bool false) ∧ Jx (pre ++ [x]) W'))
    (W : World) (hn0 : n₀ ≤ W.heap.size) (hBW : Bn < W.heap.size) (h0c : W.cell? ⟨Bn, 0, none⟩ = some (.int .u64 a)) (h1c : W.cell? ⟨Bn, 1, none⟩ = some (.int .u64 b)) (h2c : W.cell? ⟨Bn, 2, none⟩ = some (.int .u64 c)) (h3c : W.cell? ⟨Bn, 3, none⟩ = some (.int .u64 d))
    (hJ : AbidesFrom W.heap.size J) (h0 : J [] W) :
    CallsIn Fence.wide n Tryz.prog 213 #[.func (.yield l) #[] #[], .pointer (some ⟨Bn, 0, none⟩)] W fun e W' => (∃ v, e = .returned v) ∧
      ((∃ ys, ys = bytesTo has 256 ∧ J ys W') ∨ (∃ pre, True ∧ Jx pre W')) := by
  refine callsIn_of_wp Tryz.func213 rfl trivial ?_ rfl
  simp only [Tryz.ntmps213, List.size_toArray, List.length_cons, List.length_nil, Nat.reduceAdd, Nat.reduceSub, Array.replicate_succ, Array.replicate_zero, List.push_toArray, List.append_toArray, List.nil_append, List.cons_append]
  gi_wp2
  gi_loopw [3] (fun p wr => ∃ k : Nat, k ≤ 256 ∧ p = .int .i64 k ∧ J (bytesTo has k) wr ∧ Kp2 n₀ Bn W wr) (fun i _ => 256 - (intOf i).toNat)
  case atStart => exact ⟨0, by omega, rfl, h0, Kp2.refl _ _ _⟩
  case round =>
    obtain ⟨k, hk, rfl, hJs, hnx⟩ := hrel
    have c0 := (World.cell?_of_block (a := ⟨Bn, 0, none⟩) hnx.blk).trans h0c
    have c1 := (World.cell?_of_block (a := ⟨Bn, 1, none⟩) hnx.blk).trans h1c
    have c2 := (World.cell?_of_block (a := ⟨Bn, 2, none⟩) hnx.blk).trans h2c
    have c3 := (World.cell?_of_block (a := ⟨Bn, 3, none⟩) hnx.blk).trans h3c
    by_cases hlt : k < 256
    · have hwr := wrap_u8 hlt
      have hgr : ∀ {A B : World}, Below A.heap.size A B → A.grownBy B none := fun {A B} h => ⟨h.os, h.tape, h.output, h.size, fun j hj _ => h.block j hj⟩
      have hlen : (bytesTo has k).length < 257 := Nat.lt_of_le_of_lt (bytesTo_len has k) (by omega)
      cases hb : has k with
      | true =>
        have hs := bytesTo_succ has hlt
        rw [hb, if_pos rfl] at hs
        have hhk := hh
        gi_wp2_with (refine ⟨trivial, ?_⟩; gi_at_call 214; refine (callsIn_wide.2 (hh _ k hlt)).mono ?_; clear hh; rw [hb]; rintro e w' ⟨rfl, hbw⟩; have hJ' := hJ _ wr w' none hJs (hgr hbw) (fun r h => by cases h); obtain ⟨fn, tmps, assign, body, hy, hR⟩ := hY _ ⟨k, hlt⟩ w' hJ' hlen)
        refine hR.mono ?_
        rintro e W3 (⟨rfl, hJ3, hk3⟩ | ⟨rfl, hJx3⟩)
        · gi_wp2
          go_roundw
          case rel => exact ⟨k + 1, by omega, by simp, by rw [hs]; exact hJ3, hnx.trans ((Kp2.of hbw (by have := hnx.below.size; omega) (by have := hnx.below.size; omega)).trans hk3)⟩
          case measure => simp [intOf]; omega
        · gi_wp2
          refine bodyPost_ret (results_none rfl _ _ _) rfl ?_
          exact ⟨⟨_, rfl⟩, .inr ⟨_, trivial, hJx3⟩⟩
      | false =>
        have hs := bytesTo_succ has hlt
        rw [hb, if_neg (by decide)] at hs
        gi_wp2_with (refine ⟨trivial, ?_⟩; gi_at_call 214; refine (callsIn_wide.2 (hh _ k hlt)).mono ?_; clear hh; rw [hb]; rintro e w' ⟨rfl, hbw⟩; have hJ' := hJ _ wr w' none hJs (hgr hbw) (fun r h => by cases h))
        refine ⟨fun _ h => (by cases h), ?_⟩
        gi_wp2
        go_roundw
        case rel => exact ⟨k + 1, by omega, by simp, by rw [hs]; exact hJ', hnx.trans (Kp2.of hbw (by have := hnx.below.size; omega) (by have := hnx.below.size; omega))⟩
        case measure => simp [intOf]; omega
    · obtain rfl : k = 256 := by omega
      gi_wp2
      go_end0
      exact ⟨⟨_, rfl⟩, .inl ⟨_, rfl, hJs⟩⟩

set_option maxHeartbeats 1000000 in
theorem all_in (n : Nat) (a b c d : Int) (w : World) :
    CallsIn Fence.wide n Tryz.prog 204 #[setV a b c d] w fun e w' => e = .returned (.func (.func 213) #[] #[.pointer (some ⟨w.heap.size, 0, none⟩)]) ∧ w' = w.alloc (.cells #[.int .u64 a, .int .u64 b, .int .u64 c, .int .u64 d] 54) := by
  refine callsIn_of_wp Tryz.func204 rfl trivial ?_ rfl
  simp only [Tryz.ntmps204, List.size_toArray, List.length_cons, List.length_nil, Nat.reduceAdd, Nat.reduceSub, Array.replicate_succ, Array.replicate_zero, List.push_toArray, List.append_toArray, List.nil_append, List.cons_append]
  unfold setV
  gi_wp2
  go_ret
  exact ⟨rfl, rfl⟩
theorem all_stops (a b c d : Int) (hh : ∀ (w : World) (x : Nat), x < 256 → Calls Tryz.prog 214 #[setV a b c d, u8v x] w fun e w' => e = .returned (.bool (has x)) ∧ Below w.heap.size w w')
    (n : Nat) (hn : 1 ≤ n) (Bn n₀ : Nat) (w : World) (hBn : Bn < w.heap.size) (hn0 : n₀ ≤ w.heap.size) (hc : w.heap[Bn]? = some (.cells #[.int .u64 a, .int .u64 b, .int .u64 c, .int .u64 d] 54 (0, 0))) :
    SeqStopsK Fence.wide n Tryz.prog 213 #[.pointer (some ⟨Bn, 0, none⟩)] (fun x : Fin 256 => #[u8v x.1]) (Kp2 n₀ Bn) (fun ys => ys = bytesTo has 256) (fun _ => True) 257 w := fun l J Jx W hW hJ _ hY h0 => by
  have hW' := hW.block Bn (by omega)
  rw [hc] at hW'
  have hcell : ∀ j v, (#[Value.int .u64 a, .int .u64 b, .int .u64 c, .int .u64 d] : Array Value)[j]? = some v → W.cell? ⟨Bn, j, none⟩ = some v := fun j v hj => by simp only [World.cell?, hW']; exact hj
  exact all1_in has a b c d hh n hn l Bn n₀ J Jx hY W (by have := hW.size; omega) (by have := hW.size; omega) (hcell 0 _ rfl) (hcell 1 _ rfl) (hcell 2 _ rfl) (hcell 3 _ rfl) hJ h0

theorem runsOf_snoc (bs : List (Fin 256)) (x : Fin 256) : runsOf (bs ++ [x]) = runStep (runsOf bs) x.1 := by simp [runsOf]
theorem rcells_len (l : List (Nat × Nat)) : (rcells l).length = 2 * l.length := by
  induction l with
  | nil => rfl
  | cons x l ih => simp only [rcells, List.flatMap_cons, List.length_append, List.length_cons, List.length_nil] at ih ⊢; omega
theorem rcells_app (l m : List (Nat × Nat)) : rcells (l ++ m) = rcells l ++ rcells m := by simp [rcells]
theorem snoc_ind {α : Type} {p : List α → Prop} (h0 : p []) (h1 : ∀ l x, p l → p (l ++ [x])) (l : List α) : p l := by
  have : ∀ r : List α, p r.reverse := fun r => by
    induction r with
    | nil => exact h0
    | cons x r ih => rw [List.reverse_cons]; exact h1 _ _ ih
  have := this l.reverse
  rwa [List.reverse_reverse] at this
theorem runsOf_bound (bs : List (Fin 256)) : (runsOf bs).length ≤ bs.length ∧ ∀ p ∈ runsOf bs, p.2 < 256 := by
  induction bs using snoc_ind with
  | h0 => simp [runsOf]
  | h1 bs x ih =>
    rw [runsOf_snoc]
    obtain ⟨h1, h2⟩ := ih
    unfold runStep
    split
    · rename_i lo hi hl
      have hne : runsOf bs ≠ [] := by rintro e; rw [e] at hl; simp at hl
      have : 0 < (runsOf bs).length := List.length_pos_iff.2 hne
      split
      · refine ⟨by simp only [List.length_append, List.length_dropLast, List.length_cons, List.length_nil]; omega, fun p hp => ?_⟩
        rcases List.mem_append.1 hp with hp | hp
        · exact h2 p (List.dropLast_subset _ hp)
        · obtain rfl : p = (lo, x.1) := by simpa using hp
          exact x.2
      · refine ⟨by simp only [List.length_append, List.length_cons, List.length_nil]; omega, fun p hp => ?_⟩
        rcases List.mem_append.1 hp with hp | hp
        · exact h2 p hp
        · obtain rfl : p = (x.1, x.1) := by simpa using hp
          exact x.2
    · exact ⟨by simp, fun p hp => by obtain rfl : p = (x.1, x.1) := by simpa using hp
                                     exact x.2⟩
theorem infoRun : (Tryz.prog.info? 214).map (fun i => (i.zero, i.size, i.bytes)) = some (some (.agg #[.int .i64 0, .int .i64 0]), 2, 16) := by kernel_rfl

theorem owns_set {w : World} {base : Nat} {e : TypeId} {g n cap off : Nat} {xs ys : List Value} {v : Value} (h : w.ownsRow base e 2 (.slice (some ⟨g, 0, none⟩) n cap) n xs) (hy : ys = xs.set off v) : (w.setCell ⟨g, off, none⟩ v).ownsRow base e 2 (.slice (some ⟨g, 0, none⟩) n cap) n ys := by
  obtain ⟨h1, h2⟩ := h
  rcases h2 with ⟨h2, _⟩ | ⟨g', cap', cur, hv, hb, hg, h3, h4, h5, h6⟩
  · cases h2
  · cases hv
    have hlt : g < w.heap.size := (Array.getElem?_eq_some_iff.1 hg).1
    refine ⟨by rw [hy, List.length_set, h1], .inr ⟨g, cap, cur.setIfInBounds off v, rfl, hb, ?_, h3, h4, by simpa using h5, ?_⟩⟩
    · show (w.heap.modify g _)[g]? = _
      rw [Array.getElem?_modify, if_pos rfl, hg]
      simp
    · rw [hy, ← h6, Array.toList_setIfInBounds, List.take_set]
theorem rcells_set (l : List (Nat × Nat)) (lo hi x : Nat) : rcells (l ++ [(lo, x)]) = (rcells (l ++ [(lo, hi)])).set (2 * l.length + 1) (.int .i64 x) := by
  rw [rcells_app, rcells_app, List.set_append_right _ _ (by rw [rcells_len]; omega), rcells_len]
  simp only [show 2 * l.length + 1 - 2 * l.length = 1 by omega]
  rfl
theorem rcells_get (l : List (Nat × Nat)) (lo hi : Nat) : (rcells (l ++ [(lo, hi)]))[2 * l.length + 1]? = some (.int .i64 hi) := by
  rw [rcells_app, List.getElem?_append_right (by rw [rcells_len]; omega), rcells_len]
  simp only [show 2 * l.length + 1 - 2 * l.length = 1 by omega]
  rfl
theorem runStep_eq (l : List (Nat × Nat)) (lo hi b : Nat) : runStep (l ++ [(lo, hi)]) b = if hi + 1 = b then l ++ [(lo, b)] else l ++ [(lo, hi)] ++ [(b, b)] := by simp [runStep]
theorem kp2_b {w : World} {n₀ Bn : Nat} (hn : n₀ ≤ w.heap.size) (hb : Bn < w.heap.size) : ∀ (W : World) (l : Nat) (o o' : Obj), w.heap.size ≤ l → W.heap[l]? = some o → o.isCells = false → o.isWalk = false → Kp2 n₀ Bn W (W.putObj l o') := fun W l o o' h1 h2 h3 h4 =>
  ⟨belowK_b hn W l o o' h1 h2 h3 h4, (grownBy_putObj' W l o').block Bn (by have := (Array.getElem?_eq_some_iff.1 h2).1; omega) (fun e => by cases e; omega)⟩
theorem two_new (w : World) (x y : Value) (t : TypeId) : ∀ (j : Nat) (u : Value), [x, y][j]? = some u → (w.alloc (.cells #[x, y] t)).cell? ((⟨w.heap.size, 0, none⟩ : Addr).add j) = some u := by
  intro j u hj
  have hn := World.alloc_heap_new w (.cells #[x, y] t)
  match j, hj with
  | 0, hj => simp at hj; subst hj; simp only [World.cell?, Addr.add, if_true, hn]; rfl
  | 1, hj => simp at hj; subst hj; rw [Addr.add_lit]; simp only [World.cell?, hn]; rfl
  | j + 2, hj => simp at hj
theorem not_blk {W : World} {base n b : Nat} {v : Value} {xs : List Value} {cs : Array Value} (h : W.ownsRow base 214 2 v n xs) (hb : W.heap[b]? = some (.cells cs 54 (0, 0))) : v.ownBlock ≠ some b := by
  intro e
  rcases h.2 with ⟨rfl, _⟩ | ⟨g, cap, cur, rfl, _, hg, _⟩
  · simp [Value.ownBlock] at e
  · have : g = b := by simpa [Value.ownBlock] using e
    subst this
    rw [hb] at hg
    simp at hg
theorem blk_own {b : Nat} {cs : Array Value} {t : TypeId} : Own (fun (_ : List (Fin 256)) W => W.heap[b]? = some (.cells cs t (0, 0))) := by
  rintro s X Y row h hg hrow
  rw [hg.block b (Array.getElem?_eq_some_iff.1 h).1 (fun e => by
    obtain ⟨o, ho, hc⟩ := hrow b e.symm
    rw [h] at ho; cases ho; cases hc)]
  exact h
def IsNil (v : Value) : Prop := v = .slice none 0 0
theorem run_len_nil {v : Value} (hv : IsNil v) (W : World) : (Builtin.len_ #[210] 3 #[v]).run Tryz.prog W = .ok (.int .i64 0) W := by
  simp [show v = .slice none 0 0 from hv, Builtin.len_, run_underlying Tryz.underlying210, goInt]
set_option maxRecDepth 100000 in
set_option maxHeartbeats 1000000 in
theorem runs_in (a b c d : Int) (hh : ∀ (w : World) (x : Nat), x < 256 → Calls Tryz.prog 214 #[setV a b c d, u8v x] w fun e w' => e = .returned (.bool (has x)) ∧ Below w.heap.size w w') (w : World) :
    CallsIn Fence.wide 3 Tryz.prog 175 #[setV a b c d] w fun e W' => ∃ v, e = .returned v ∧ W'.ownsRow w.heap.size 214 2 v (runsOf (bytesTo has 256)).length (rcells (runsOf (bytesTo has 256))) ∧ (v = .slice none 0 0 ↔ runsOf (bytesTo has 256) = []) ∧ Below w.heap.size w W' := by
  obtain ⟨i0, hi, hz0, hz1, hz2⟩ := info_parts infoRun
  refine callsIn_of_wp_marks Tryz.func175 rfl trivial ?_ rfl
  simp only [Tryz.ntmps175, List.size_toArray, List.length_cons, List.length_nil, Nat.reduceAdd, Nat.reduceSub, Array.replicate_succ, Array.replicate_zero, List.push_toArray, List.append_toArray, List.nil_append, List.cons_append]
  have hall := fun W => all_in (3 - 1) a b c d W
  unfold setV at hall ⊢
  gi_wp2_with (refine ⟨trivial, ?_⟩; gi_at_call 204; refine (hall _).mono ?_; clear hall; rintro e w' ⟨rfl, rfl⟩)
  have bO : Boxed (((w.alloc (.cells #[.int .u64 a, .int .u64 b, .int .u64 c, .int .u64 d] 54)).alloc (.cells #[.slice none 0 0] 210)).alloc (.cells #[.int .u64 a, .int .u64 b, .int .u64 c, .int .u64 d] 54)) (w.heap.size + 1) 210 (.slice none 0 0) := by
    have := (Boxed.new (w.alloc (.cells #[.int .u64 a, .int .u64 b, .int .u64 c, .int .u64 d] 54)) 210 (.slice none 0 0)).alloc (.cells #[.int .u64 a, .int .u64 b, .int .u64 c, .int .u64 d] 54)
    rwa [World.size_alloc] at this
  have bN : (((w.alloc (.cells #[.int .u64 a, .int .u64 b, .int .u64 c, .int .u64 d] 54)).alloc (.cells #[.slice none 0 0] 210)).alloc (.cells #[.int .u64 a, .int .u64 b, .int .u64 c, .int .u64 d] 54)).heap[w.heap.size + 2]? = some (.cells #[.int .u64 a, .int .u64 b, .int .u64 c, .int .u64 d] 54 (0, 0)) := by
    have := World.alloc_heap_new ((w.alloc (.cells #[.int .u64 a, .int .u64 b, .int .u64 c, .int .u64 d] 54)).alloc (.cells #[.slice none 0 0] 210)) (.cells #[.int .u64 a, .int .u64 b, .int .u64 c, .int .u64 d] 54)
    simpa using this
  have hB0 : Below w.heap.size w (((w.alloc (.cells #[.int .u64 a, .int .u64 b, .int .u64 c, .int .u64 d] 54)).alloc (.cells #[.slice none 0 0] 210)).alloc (.cells #[.int .u64 a, .int .u64 b, .int .u64 c, .int .u64 d] 54)) := (((Below.refl _ w).alloc (Nat.le_refl _) _).alloc (by simp) _).alloc (by simp; omega) _
  obtain ⟨W0, hW0⟩ : ∃ W0, (((w.alloc (.cells #[.int .u64 a, .int .u64 b, .int .u64 c, .int .u64 d] 54)).alloc (.cells #[.slice none 0 0] 210)).alloc (.cells #[.int .u64 a, .int .u64 b, .int .u64 c, .int .u64 d] 54)) = W0 := ⟨_, rfl⟩
  have hsz : W0.heap.size = w.heap.size + 3 := by rw [← hW0]; simp
  rw [hW0] at bO bN hB0 ⊢
  refine wpIn_rangeFunc_ownG rfl (by decide) (gf := 213) (lb := #[.pointer (some ⟨w.heap.size + 2, 0, none⟩)]) rfl trivial (enters_of Tryz.func213 (by kernel_rfl) rfl)
    (all_stops has a b c d hh (3 - 1) (by decide) (w.heap.size + 2) w.heap.size W0 (by omega) (by omega) bN) (Kp2.trans) (kp2_b (by omega) (by omega)) (Below.refl _ _) (fun _ => rfl)
    (fun pre W => (∃ v, Boxed W (w.heap.size + 1) 210 v ∧ W.ownsRow w.heap.size 214 2 v (runsOf pre).length (rcells (runsOf pre)) ∧ (v = .slice none 0 0 ↔ runsOf pre = [])) ∧ (Below w.heap.size W0 W ∧ W.heap[w.heap.size + 2]? = some (.cells #[.int .u64 a, .int .u64 b, .int .u64 c, .int .u64 d] 54 (0, 0))))
    (fun _ _ _ => False)
    (OwnFrom.and (Own.from (holdsRow_own w.heap.size (w.heap.size + 1) 210 214 2 (fun pre => (runsOf pre).length) (fun pre => rcells (runsOf pre)) (fun pre v => v = .slice none 0 0 ↔ runsOf pre = [])) _) (OwnFrom.and (ownFrom_below (by omega) (by omega)) (Own.from blk_own _)))
    (fun _ _ _ _ _ hs _ _ => hs)
    ⟨⟨_, bO, World.ownsRow_nil _ _ _ _, by simp [runsOf]⟩, Below.refl _ _, bN⟩
    (fun x => { tmps := #[.agg #[.int .u64 a, .int .u64 b, .int .u64 c, .int .u64 d], .pointer (some ⟨w.heap.size, 0, none⟩), .slice none 0 0, .pointer (some ⟨w.heap.size + 1, 0, none⟩), u8v x.1, undef, .agg #[.int .u64 a, .int .u64 b, .int .u64 c, .int .u64 d], .func (.func 213) #[] #[.pointer (some ⟨w.heap.size + 2, 0, none⟩)], u8v x.1, undef, undef, undef, undef, undef, undef, undef, undef, undef, undef, undef, undef, undef, undef, undef, undef, undef, undef, undef, undef, undef, undef, undef, undef, undef, undef, undef, undef, undef, undef, undef, undef], defers := [] }) ?assign ?body ?done ?stop
  case assign =>
    intro l x W K hK
    gi_wp2
    exact hK
  case body =>
    rintro l pre x W ⟨⟨v, hv, hrow, hnil⟩, hB, hN⟩ hlt
    have hc := hv.cell
    have hx := x.2
    have hlen := (runsOf_bound pre).1
    have hlen2 : (runsOf pre).length ≤ 257 := by omega
    have hrs := runsOf_snoc pre x
    have hbd := (runsOf_bound pre).2
    have hBs := hB.size
    have hfzc : ∀ {A : World} {g n cap : Nat} {xs : List Value}, A.ownsRow w.heap.size 214 2 (.slice (some ⟨g, 0, none⟩) n cap) n xs → ∀ j, A.frozen? ⟨g, j, none⟩ = false := fun {A g n cap xs} h j => by
      rcases h.2 with ⟨h2, _⟩ | ⟨g', cap', cur, hv, _, hg, _⟩
      · cases h2
      · cases hv
        simp [World.frozen?, hg]
    rcases List.eq_nil_or_concat (runsOf pre) with hr | ⟨rs, ⟨lo, hi2⟩, hr⟩
    · have hveq : IsNil v := hnil.2 hr
      have e1 : runsOf (pre ++ [x]) = [(x.1, x.1)] := by rw [hrs, hr]; rfl
      rw [hr] at hrow
      clear hnil hlen hlen2 hbd hh hfzc hlt hrs hr
      gi_wp2
      rw [run_len_nil hveq W]
      simp only [Result.andThen]
      rw [Oper.uponIn_value]
      gi_wp2_with (gi_at_builtin; refine wpListIn_append_own _ rfl _ _ 210 rfl w.heap.size 214 i0 (.agg #[.int .i64 0, .int .i64 0]) 2 16 Tryz.underlying210 hi hz0 hz1 hz2 rfl (by decide) _ _ _ rfl (hrow.alloc _) ⟨W.heap.size, 0, none⟩ 1 1 [.int .i64 x.1, .int .i64 x.1] rfl rfl (two_new _ _ _ _) (by simp [Value.oneCell']) (by simp [maxLen]) (by decide) (by simp; omega) ?_; intro v' w1 hown' hgrow _; obtain ⟨g', cap', rfl⟩ := ownsRow_succ hown'; obtain ⟨hv1, hv2, hr2, hk2, hb2⟩ := hv.appended (by decide) hrow (by omega) (by omega) hown' hgrow; have hc1 := hv1.cell; have hf1 := hv1.frozen)
      have hnb := not_blk hrow hN
      have hN1 : (w1.setCell ⟨w.heap.size + 1, 0, none⟩ (.slice (some ⟨g', 0, none⟩) 1 cap')).heap[w.heap.size + 2]? = W.heap[w.heap.size + 2]? := by
        rw [Below.heap_setCell _ _ _ _ (by simp), hgrow.block _ (by simp; omega) (fun e => hnb e.symm), Below.heap_alloc _ _ _ (by omega)]
      exact ⟨hk2.from _, ⟨hb2, hN1⟩, ⟨_, hv2, by rw [e1]; simpa [rcells] using hr2, by rw [e1]; simp⟩, hB.trans hb2, hN1.trans hN⟩
    · rw [List.concat_eq_append] at hr
      rw [hr] at hrow hbd hlen2
      have hk : rs.length ≤ 256 := by simp only [List.length_append, List.length_cons, List.length_nil] at hlen2; omega
      have hh2 : hi2 < 256 := hbd (lo, hi2) (by simp)
      have hl1 : (rs ++ [(lo, hi2)]).length = rs.length + 1 := by simp
      rw [hl1] at hrow
      obtain ⟨g, cap, rfl⟩ := ownsRow_succ hrow
      have ci := hrow.cells (g := g) rfl (2 * rs.length + 1) _ (rcells_get rs lo hi2)
      rw [Addr.add_lit, Nat.zero_add, Nat.mul_comm 2 rs.length] at ci
      have ff := hfzc hrow (rs.length * 2 + 1)
      clear hnil hlen hlen2 hbd hh hfzc hlt
      have hnb := not_blk hrow hN
      have hnb2 : g ≠ w.heap.size + 2 := fun e => hnb (by rw [e]; rfl)
      have hgB : g ≠ w.heap.size + 1 := fun e => by
        have := hv.not_row (by decide) hrow
        exact this (by rw [e]; rfl)
      have hgb : w.heap.size ≤ g := by
        rcases hrow.2 with ⟨h2, _⟩ | ⟨g', cap', cur, hv', hbg, _⟩
        · cases h2
        · cases hv'; exact hbg
      by_cases he : hi2 + 1 = x.1
      · have he2 : ((hi2 : Int) + 1 = (x.1 : Int)) = True := by simp; omega
        have e1 : runsOf (pre ++ [x]) = rs ++ [(lo, x.1)] := by rw [hrs, hr, runStep_eq, if_pos he]
        gi_wp2
        have hs := owns_set (off := rs.length * 2 + 1) (v := .int .i64 x.1) (ys := rcells (rs ++ [(lo, x.1)])) hrow (by rw [rcells_set rs lo hi2, Nat.mul_comm 2])
        refine ⟨(KeepsOthers.setCell _ _ _).from _, ⟨(Below.refl _ W).setCell (p := ⟨g, rs.length * 2 + 1, none⟩) hgb _, Below.heap_setCell _ _ _ _ (fun e => hnb2 e.symm)⟩, ⟨_, ?_, by rw [e1]; simpa using hs, by rw [e1]; simp⟩, hB.trans ((Below.refl _ W).setCell (p := ⟨g, rs.length * 2 + 1, none⟩) hgb _), by rw [Below.heap_setCell _ _ _ _ (fun e => hnb2 e.symm)]; exact hN⟩
        show (W.setCell _ _).heap[w.heap.size + 1]? = _
        rw [Below.heap_setCell _ _ _ _ (fun e => hgB e.symm)]
        exact hv
      · have he2 : ((hi2 : Int) + 1 = (x.1 : Int)) = False := by simp; omega
        have e1 : runsOf (pre ++ [x]) = rs ++ [(lo, hi2)] ++ [(x.1, x.1)] := by rw [hrs, hr, runStep_eq, if_neg he]
        gi_wp2_with (gi_at_builtin; refine wpListIn_append_own _ rfl _ _ 210 rfl w.heap.size 214 i0 (.agg #[.int .i64 0, .int .i64 0]) 2 16 Tryz.underlying210 hi hz0 hz1 hz2 rfl (by decide) _ _ _ rfl (hrow.alloc _) ⟨W.heap.size, 0, none⟩ 1 1 [.int .i64 x.1, .int .i64 x.1] rfl rfl (two_new _ _ _ _) (by simp [Value.oneCell']) (by simp [maxLen]; omega) (by omega) (by simp; omega) ?_; intro v' w1 hown' hgrow _; obtain ⟨g', cap', rfl⟩ := ownsRow_succ hown'; obtain ⟨hv1, hv2, hr2, hk2, hb2⟩ := hv.appended (by decide) hrow (by omega) (by omega) hown' hgrow; have hc1 := hv1.cell; have hf1 := hv1.frozen)
        have hN1 : (w1.setCell ⟨w.heap.size + 1, 0, none⟩ (.slice (some ⟨g', 0, none⟩) (rs.length + 1 + 1) cap')).heap[w.heap.size + 2]? = W.heap[w.heap.size + 2]? := by
          rw [Below.heap_setCell _ _ _ _ (by simp), hgrow.block _ (by simp; omega) (fun e => hnb e.symm), Below.heap_alloc _ _ _ (by omega)]
        exact ⟨hk2.from _, ⟨hb2, hN1⟩, ⟨_, hv2, by rw [e1, show (rs ++ [(lo, hi2)] ++ [(x.1, x.1)]).length = rs.length + 1 + 1 by simp, rcells_app (rs ++ [(lo, hi2)])]; exact hr2, by rw [e1]; simp⟩, hB.trans hb2, hN1.trans hN⟩
  case done =>
    rintro D ys W hD rfl ⟨⟨v, hv, hrow, hnil⟩, hB, hN⟩ hK
    have hc := hv.cell
    gi_wp2
    refine ⟨by simp, .inl ⟨_, _, rfl, run_takeDeferred hK, ?_⟩⟩
    exact ⟨_, results_tmp rfl _ _ _, v, rfl, ownsRow_putObj hrow _ hK rfl, hnil, hB0.trans (hB.trans (belowK_b (w := w) (Nat.le_refl _) W D _ _ (by omega) hK rfl rfl))⟩
  case stop =>
    rintro D c pre W _ _ h _
    exact h.elim

theorem heap_nil (P : Program) (w : World) : HeapR P [] [] w := ⟨rfl, fun id o h => by simp at h, fun a b o1 o2 m1 m2 _ h => by simp at h⟩
theorem own_nil (b : Nat) : ¬ OwnB [] [] b := by
  rintro ⟨i, o, m, h1, _⟩
  simp at h1
theorem has_calls {a b c d : Int} (ha : WWf a) (hb : WWf b) (hc : WWf c) (hd : WWf d) (w : World) (x : Nat) (hx : x < 256) :
    Calls Tryz.prog 214 #[setV a b c d, u8v x] w fun e w' => e = .returned (.bool (hasW a b c d x)) ∧ Below w.heap.size w w' := by
  have hs : SetWf ⟨a, b, c, d⟩ := ⟨ha, hb, hc, hd⟩
  have k := chas_fw (h := []) hs hx
  unfold FW at k
  obtain ⟨r, h', hcall, rfl, rfl⟩ := k
  have hv : VRL Tryz.prog [] [(BSet.mk a b c d).val, u8 x] (#[setV a b c d, u8v x] : Array Value).toList := by
    refine ⟨?_, .pure rfl, trivial⟩
    exact VRL.agg (l := [.int .u64 a, .int .u64 b, .int .u64 c, .int .u64 d]) (l' := [.int .u64 a, .int .u64 b, .int .u64 c, .int .u64 d]) (VRL.pure rfl)
  refine (hcall.calls env_ok [] w #[setV a b c d, u8v x] (heap_nil _ w) hv).mono ?_
  rintro e w' ⟨μ', r', rfl, hr, hH, hX, hF, hO, hK⟩
  rw [hr.bool, has_eq hx]
  exact ⟨rfl, hF.os, hF.tape, hF.output, hF.size, fun k hk => hF.block k hk (own_nil k)⟩
theorem wwf_iff {w : Int} (h : wwf w = true) : WWf w := by
  simp only [wwf, Bool.and_eq_true, decide_eq_true_eq] at h
  exact h
theorem runs_ok {args : List Value} {h h' : Heap} {r : Value} (e : runsTab h args = some (r, h')) : CallSndP Tryz.prog 175 args h r h' := by
  unfold runsTab at e
  split at e
  case h_2 => cases e
  rename_i cs
  split at e
  case h_2 => cases e
  rename_i a b c d hcs
  split at e
  case isFalse => cases e
  rename_i hw
  simp only [Bool.and_eq_true] at hw
  obtain ⟨⟨⟨wa, wb⟩, wc⟩, wd⟩ := hw
  intro μ w args' hH hA
  have hargs : args' = #[setV a b c d] := by
    generalize he : args'.toList = l at hA
    match l, hA with
    | [v], ⟨hv, _⟩ =>
      obtain ⟨cs', rfl, hl⟩ := hv.aggInv
      rw [hcs] at hl
      generalize hq : cs'.toList = q at hl
      match q, hl with
      | [v1, v2, v3, v4], ⟨h1, h2, h3, h4, _⟩ =>
        rw [h1.int, h2.int, h3.int, h4.int] at hq
        have : cs' = #[.int .u64 a, .int .u64 b, .int .u64 c, .int .u64 d] := Array.toList_inj.1 hq
        rw [this] at he
        exact Array.toList_inj.1 he
  subst hargs
  refine (callsIn_wide.1 (runs_in (hasW a b c d) a b c d (fun w x hx => has_calls (wwf_iff wa) (wwf_iff wb) (wwf_iff wc) (wwf_iff wd) w x hx) w)).mono ?_
  rintro e2 w' ⟨v, rfl, hrow, hnil, hB⟩
  have hfr : FrW (OwnB μ h) w w' := ⟨hB.os, hB.tape, hB.output, hB.size, fun k hk _ => hB.block k hk⟩
  have hH' : HeapR Tryz.prog μ h w' := hH.world hB.size fun b hb => hB.block b (hb.lt hH)
  generalize runsOf (bytesTo (hasW a b c d) 256) = rs at *
  split at e
  · rename_i hr
    cases e
    have : rs = [] := by simpa using hr
    rw [hnil.2 this]
    exact ⟨μ, _, rfl, .pure rfl, hH', Ext.refl _, hfr, fun b hb => .inl hb, fun b hb => .inl hb⟩
  · rename_i hr
    cases e
    have hne : rs ≠ [] := by simpa using hr
    rcases hrow.2 with ⟨h0, _⟩ | ⟨g, cap, cur, rfl, hbg, hg, hnc, hcm, hcs2, htk⟩
    · exact absurd (hnil.1 h0) hne
    · have hone : (rcells rs).all one = true := by
        rw [List.all_eq_true]
        intro x hx
        simp only [rcells, List.mem_flatMap, List.mem_cons, List.not_mem_nil, or_false] at hx
        obtain ⟨p, _, rfl | rfl⟩ := hx <;> rfl
      have hpu : ∀ x ∈ rcells rs, pure1 x = true := by
        intro x hx
        simp only [rcells, List.mem_flatMap, List.mem_cons, List.not_mem_nil, or_false] at hx
        obtain ⟨p, _, rfl | rfl⟩ := hx <;> rfl
      have hcell : ∀ (j : Nat) (v : Value), (rcells rs)[j]? = some v → ∃ v', cur[j]? = some v' ∧ VR Tryz.prog μ v v' := fun j v hj => by
        refine ⟨v, ?_, .pure (hpu v (List.mem_of_getElem? hj))⟩
        rw [← htk, List.getElem?_take] at hj
        split at hj
        · simpa using hj
        · cases hj
      have hnew := hH.new (cells := rcells rs) (cur := cur) (e := 214) (b := g) hB.size hbg (Array.getElem?_eq_some_iff.1 hg).1 (fun k hk => hB.block k hk) hg hcell hone
      refine ⟨_, _, rfl, ?_, hnew, Ext.push _ _, hfr, fun b hb => ?_, fun b hb => ?_⟩
      · have := mAt_push_new μ ⟨g, 0, cur.size, 214⟩
        rw [hH.len] at this
        have hh := VR.slice (P := Tryz.prog) (c := rs.length) (len := rs.length) (cap := cap) (off := 0) this hnc hcm (by
          have : Tryz.prog.cellsOf 214 = 2 := by kernel_rfl
          simp only [this, hcs2]; omega)
        simpa using hh
      · rcases own_newG rfl hH.len hb with h1 | h1
        · exact .inl h1
        · exact .inr (by rw [h1]; exact hbg)
      · rcases blk_newG rfl hH.len hb with h1 | h1
        · exact .inl h1
        · exact .inr (by rw [h1]; exact hbg)
theorem cc_ok {args : List Value} {h h' : Heap} {r : Value} (e : ccTab h args = some (r, h')) : CallSndP Tryz.prog 205 args h r h' := by
  unfold ccTab at e
  split at e
  case h_2 => cases e
  rename_i id ver
  split at e
  case h_2 => cases e
  rename_i p x v et hid
  split at e
  case isFalse => cases e
  rename_i hv
  subst hv
  split at e
  case isFalse => cases e
  rename_i het
  subst het
  intro μ w args' hH hA
  obtain ⟨m, hm⟩ := hH.obj _ _ _ _ _ hid
  obtain ⟨hb0, cur, hr, hroom⟩ := hm.own rfl
  have hargs : args' = #[.pointer (some ⟨m.block, 0, none⟩)] := by
    generalize he : args'.toList = l at hA
    match l, hA with
    | [u], ⟨hu, _⟩ =>
      obtain ⟨id', off', ver', m', hq, hm', rfl⟩ := hu.ptrInv
      cases hq
      rw [hm.at] at hm'
      cases hm'
      rw [hb0] at he
      exact Array.toList_inj.1 he
  subst hargs
  obtain ⟨v0, k0, q0⟩ := hm.cell 0 _ rfl
  obtain ⟨v1, k1, q1⟩ := hm.cell 1 _ rfl
  rw [hb0] at k0 k1
  have hsize : 1 < cur.size := by
    simp only [World.cell?, hr] at k1
    exact (Array.getElem?_eq_some_iff.1 (by simpa using k1)).1
  have hce : Tryz.prog.cellsOf 228 = 2 := by kernel_rfl
  split at e
  · cases e
    rw [q0.of_pure1 rfl] at k0
    have hl := lies_self hce (cur.size / 2) (by omega)
    refine (cc_fresh m.block cur.size w (by omega) k0 (by simp [World.shape?, hr]) (by simp [World.frozen?, hr]) (by rw [hce]; exact hl)).mono ?_
    rintro e2 w' ⟨rfl, rfl⟩
    have hgr : w.grownBy (w.setCell ⟨m.block, 0, none⟩ (.pointer (some ⟨m.block, 0, none⟩))) (some m.block) := grownBy_setCell' w m.block _
    have hnew : (w.setCell ⟨m.block, 0, none⟩ (.pointer (some ⟨m.block, 0, none⟩))).heap[m.block]? = some (.cells (cur.setIfInBounds 0 (.pointer (some ⟨m.block, 0, none⟩))) 228 (0, 0)) := by
      show (w.heap.modify m.block _)[m.block]? = _
      rw [Array.getElem?_modify, if_pos rfl, hr]
      simp
    have hO : ObjR Tryz.prog μ (w.setCell ⟨m.block, 0, none⟩ (.pointer (some ⟨m.block, 0, none⟩))) id [.pointer (some ⟨id, 0, some v⟩), x] v true 228 m := by
      refine ⟨hm.hist, hm.ez, fun j u hj => ?_, ?_, Nat.lt_of_lt_of_le hm.blk hgr.size, fun _ => ⟨hb0, _, hnew, by simpa using hroom⟩⟩
      · rw [hb0, Nat.zero_add]
        match j with
        | 0 =>
          cases hj
          refine ⟨.pointer (some ⟨m.block, 0, none⟩), ?_, ?_⟩
          · simp only [World.cell?, hnew]
            simp only [Option.isSome_none, Bool.false_eq_true, if_false]
            rw [Array.getElem?_setIfInBounds_self_of_lt (by omega)]
          · have := VR.ptr (P := Tryz.prog) (off := 0) hm.at
            rwa [hb0] at this
        | 1 =>
          cases hj
          refine ⟨v1, ?_, q1⟩
          simp only [World.cell?, hr] at k1
          simp only [World.cell?, hnew]
          simp only [Option.isSome_none, Bool.false_eq_true, if_false] at k1 ⊢
          rw [Array.getElem?_setIfInBounds_ne (by decide)]
          simpa using k1
        | j + 2 => simp at hj
      · have := hm.one
        simp only [List.all_cons, Bool.and_eq_true] at this ⊢
        exact ⟨rfl, this.2⟩
    have hHR := hH.repl hid hm.at (Ext.refl _) rfl (fun _ _ => rfl) hO (.inl rfl) hgr.size fun k hk hne => hgr.block k hk (fun e => hne (Option.some.inj e))
    refine ⟨μ, _, rfl, VR.undef, hHR, Ext.refl _, ⟨hgr.os, hgr.tape, hgr.output, hgr.size, fun k hk hn => hgr.block k hk (fun e => hn (by cases e; exact OwnB.arr hid hm.at))⟩, fun b hb => ?_, fun b hb => ?_⟩
    · rcases own_repl (fun _ _ => rfl) hm.at hb with h1 | h1
      · exact .inl h1
      · exact .inl (h1 ▸ OwnB.arr hid hm.at)
    · rcases blk_repl (fun _ _ => rfl) hm.at hb with h1 | h1
      · exact .inl h1
      · exact .inl (h1 ▸ (OwnB.arr hid hm.at).blk)
  · rename_i a
    split at e
    case isFalse => cases e
    rename_i ha
    subst ha
    cases e
    obtain ⟨id', off', ver', m', hq, hm', hv0⟩ := q0.ptrInv
    cases hq
    rw [hm.at] at hm'
    cases hm'
    rw [hv0, hb0] at k0
    refine (cc_used m.block w k0).mono ?_
    rintro e2 w' ⟨rfl, rfl⟩
    exact ⟨μ, _, rfl, VR.undef, hH, Ext.refl _, FrW.refl _ _, fun b hb => .inl hb, fun b hb => .inl hb⟩
end Go.Proofs.YtmdmimkbpikmoaaGreat.Pr
namespace Go.Proofs.YtmdmimkbpikmoaaGreat
open Am
theorem primTab_ok : ∀ f args h r h', primTab f args h = some (r, h') → CallSndP Tryz.prog f args h r h' := fun f args h r h' e => by
  unfold primTab at e
  split at e
  · rename_i hf; subst hf; exact Pr.cc_ok e
  · split at e
    · rename_i hf; subst hf; exact Pr.runs_ok e
    · cases e
end Go.Proofs.YtmdmimkbpikmoaaGreat

namespace Go.Proofs.YtmdmimkbpikmoaaGreat
open Go.RowKit Am Ty
theorem env_ok : EnvOK env := ⟨eqs_ok, keysTab_ok, primTab_ok⟩
end Go.Proofs.YtmdmimkbpikmoaaGreat

namespace Go.Proofs.YtmdmimkbpikmoaaGreat
set_option linter.unusedSimpArgs false
set_option linter.unusedVariables false
set_option maxRecDepth 20000
open Go.ChangeShapes Go.WideShapes Go.ChangeAt Go.RowKit Am Ty

theorem own : ownKnob Tryz.prog.godebug = none := by kernel_rfl
theorem laidOut : laidOutB Tryz.prog = true := by kernel_rfl
theorem noOwn_below {μ : Mu} {h : Heap} {W w' : World} (hn : noOwn h) (k : FrW (OwnB μ h) W w') : Below W.heap.size W w' :=
  ⟨k.os, k.tape, k.output, k.size, fun i hi => k.block i hi fun ⟨_, _, _, h1, h2, _⟩ => by have := hn _ _ h1; rw [h2] at this; cases this⟩
end Go.Proofs.YtmdmimkbpikmoaaGreat

namespace Go.Proofs.YtmdmimkbpikmoaaGreat.Am
set_option linter.unusedSimpArgs false
set_option linter.unusedVariables false
open Go.RowKit

def isAggT (P : Program) (t : TypeId) : Bool := match P.underlying t with
  | some (.struct _) => true
  | some (.array _ _) => true
  | _ => false
def RdA (P : Program) (h : Heap) (t : TypeId) (a : Value) : Prop := ∃ n vs, RdT P h n t vs ∧ ((isAggT P t = true ∧ a = .agg vs.toArray) ∨ (isAggT P t = false ∧ vs = [a]))
def AllRd (P : Program) (h : Heap) : List TypeId → List Value → Prop
  | [], [] => True
  | t :: ts, a :: avs => RdA P h t a ∧ AllRd P h ts avs
  | _, _ => False
theorem RdA.mono {P : Program} {h h' : Heap} {t : TypeId} {a : Value} (hp : h <+: h') : RdA P h t a → RdA P h' t a := fun ⟨n, vs, k, e⟩ => ⟨n, vs, k.mono hp, e⟩
section
variable {P : Program} {W : World}
theorem okWide_cells {ts : List TypeId} {base : Nat} {t : TypeId} {v : Value} (hk : kindB P ts t = true) (hval : Value.okWide P W .any base t v) (ha : isAggT P t = false) : v.cells.toList = [v] := by
  unfold Value.okWide at hval
  unfold kindB at hk
  unfold isAggT at ha
  cases hu : P.underlying t with
  | none => rw [hu] at hk; simp at hk
  | some d =>
    rw [hu] at hk ha hval
    cases d <;> simp at hk ha <;> simp only [Cell.okWide, Cell.ok, hu] at hval <;> cases v <;> first | rfl | exact hval.elim | simp at hval
theorem okWide_agg {base : Nat} {t : TypeId} {v : Value} (hval : Value.okWide P W .any base t v) (ha : isAggT P t = true) : ∃ cs, v = .agg cs := by
  unfold Value.okWide at hval
  unfold isAggT at ha
  split at ha
  · rename_i hu
    rw [hu] at hval
    exact hval.imp fun _ h => h.1
  · rename_i hu
    rw [hu] at hval
    exact hval.imp fun _ h => h.1
  · cases ha
theorem tells_arg {H : Type} {enc : TypeId × Value → H} {held : Bool} {ts : List TypeId} (hcl : ts.all (kindB P ts) = true) {base : Nat} {t : TypeId} {v : Value} {d : DataW H} {p : List MemPlace} (ht : t ∈ ts) (hval : Value.okWide P W .any base t v)
    (h0 : DataW.Trod enc P W 0 (fun _ => true) held t v d p) (hw : (d.weights P t).all (fun b => decide (b ≤ reachBytes)) = true) {μ : Mu} {h : Heap} (H : HeapR P μ h W) (hn : noOwn h) :
    ∃ μ' h' a, h <+: h' ∧ Ext μ μ' ∧ HeapR P μ' h' W ∧ noOwn h' ∧ VR P μ' a v ∧ RdA P h' t a := by
  obtain ⟨n, hn0⟩ := h0
  obtain ⟨μ', h', vs, h1, h2, h3, h4, h5, h6, h7⟩ := tells_trod hcl n _ _ _ ht hn0 hw μ h H hn
  cases ha : isAggT P t with
  | true =>
    obtain ⟨cs, rfl⟩ := okWide_agg hval ha
    have h5' : VRL P μ' vs cs.toList := h5
    refine ⟨μ', h', .agg vs.toArray, h1, h2, h3, h4, ?_, n, vs, h7, .inl ⟨ha, rfl⟩⟩
    have := VRL.agg h5'
    simpa using this
  | false =>
    have e := okWide_cells (List.all_eq_true.1 hcl t ht) hval ha
    rw [e] at h5
    match vs, h5, h7 with
    | [a], h5, h7 => exact ⟨μ', h', a, h1, h2, h3, h4, h5.1, n, [a], h7, .inr ⟨ha, rfl⟩⟩
theorem AllRd.mono {h h' : Heap} (hp : h <+: h') : ∀ {ts : List TypeId} {avs : List Value}, AllRd P h ts avs → AllRd P h' ts avs
  | [], [], _ => trivial
  | _ :: _, _ :: _, ⟨h1, h2⟩ => ⟨h1.mono hp, AllRd.mono hp h2⟩
  | [], _ :: _, h => h.elim
  | _ :: _, [], h => h.elim
theorem tells_args {H : Type} {enc : TypeId × Value → H} {held : Bool} {ts : List TypeId} (hcl : ts.all (kindB P ts) = true) {base : Nat} : ∀ {tys : List TypeId} {vs : List Value} {ds : List (DataW H)} {p : List MemPlace}, (∀ t ∈ tys, t ∈ ts) →
    DataW.TrodAll enc P W 0 (fun _ => true) held tys vs ds p → (∀ (i : Nat) (t : TypeId) (v : Value), tys[i]? = some t → vs[i]? = some v → Value.okWide P W .any base t v) →
    (∀ (i : Nat) (t : TypeId) (d : DataW H), tys[i]? = some t → ds[i]? = some d → (d.weights P t).all (fun b => decide (b ≤ reachBytes)) = true) → ∀ {μ : Mu} {h : Heap}, HeapR P μ h W → noOwn h →
    ∃ μ' h' avs, h <+: h' ∧ Ext μ μ' ∧ HeapR P μ' h' W ∧ noOwn h' ∧ VRL P μ' avs vs ∧ AllRd P h' tys avs
  | [], [], [], _, _, _, _, _, μ, h, H, hn => ⟨μ, h, [], List.prefix_refl _, Ext.refl _, H, hn, trivial, trivial⟩
  | t :: tys, v :: vs, d :: ds, _, ht, ⟨p, q, k1, k2, _⟩, hv, hw, μ, h, H, hn => by
    obtain ⟨μ1, h1, a, p1, x1, H1, n1, v1, r1⟩ := tells_arg hcl (ht t List.mem_cons_self) (hv 0 t v rfl rfl) k1 (hw 0 t d rfl rfl) H hn
    obtain ⟨μ2, h2, avs, p2, x2, H2, n2, v2, r2⟩ := tells_args hcl (fun t h => ht t (List.mem_cons_of_mem _ h)) k2 (fun i t v e1 e2 => hv (i + 1) t v (by simpa using e1) (by simpa using e2)) (fun i t d e1 e2 => hw (i + 1) t d (by simpa using e1) (by simpa using e2)) H1 n1
    exact ⟨μ2, h2, a :: avs, p1.trans p2, x1.trans x2, H2, n2, ⟨v1.mono x2, v2⟩, r1.mono p2, r2⟩
  | [], _ :: _, _, _, _, h, _, _, _, _, _, _ => by simp [DataW.TrodAll] at h
  | [], [], _ :: _, _, _, h, _, _, _, _, _, _ => by simp [DataW.TrodAll] at h
  | _ :: _, [], _, _, _, h, _, _, _, _, _, _ => by simp [DataW.TrodAll] at h
  | _ :: _, _ :: _, [], _, _, h, _, _, _, _, _, _ => by simp [DataW.TrodAll] at h
end
end Go.Proofs.YtmdmimkbpikmoaaGreat.Am

namespace Go.Proofs.YtmdmimkbpikmoaaGreat
set_option linter.unusedSimpArgs false
set_option linter.unusedVariables false
set_option maxRecDepth 20000
open Go.ChangeShapes Go.WideShapes Go.ChangeAt Go.RowKit Am Ty

theorem heap_nil {W : World} : HeapR Tryz.prog [] [] W := ⟨rfl, fun id o h1 => by simp at h1, fun a b o1 o2 m1 m2 _ h1 => by simp at h1⟩
set_option maxRecDepth 100000 in
theorem calls_args {H : Type} {enc : TypeId × Value → H} {f : FuncId} {W : World} {base : Nat} {tys ts : List TypeId} {args : Array Value} {ds : List (DataW H)} {p : List MemPlace} (hcl : ts.all (kindB Tryz.prog ts) = true) (htys : tys.all (fun t => ts.contains t) = true)
    (hf : ∀ (h : Heap) (avs : List Value), AllRd Tryz.prog h tys avs → FW env f avs h fun r _ => r = .bool true)
    (hval : ∀ (j : Nat) (t : TypeId) (v : Value), tys[j]? = some t → args.toList[j]? = some v → Value.okWide Tryz.prog W .any base t v) (h0 : DataW.TrodAll enc Tryz.prog W 0 (fun _ => true) true tys args.toList ds p)
    (hw : ∀ (i : Nat) (t : TypeId) (d : DataW H), tys[i]? = some t → ds[i]? = some d → (d.weights Tryz.prog t).all (fun b => decide (b ≤ reachBytes)) = true) :
    Calls Tryz.prog f args W fun e W' => e = .returned (.bool true) ∧ Below W.heap.size W W' := by
  obtain ⟨μ, h, avs, _, _, H, hno, hv, hr⟩ := tells_args hcl (fun t ht => by have := List.all_eq_true.1 htys t ht; simpa using this) h0 hval hw (μ := []) (h := []) heap_nil (fun id o h1 => by simp at h1)
  have k := hf h avs hr
  unfold FW at k
  obtain ⟨r, h', k1, rfl⟩ := k
  refine (Ev.calls env_ok k1 μ W args H hv).mono fun e W' ⟨μ', r', he, hvr, _, _, hfr, _, _⟩ => ?_
  exact ⟨by rw [he, VR.bool hvr], noOwn_below hno hfr⟩
theorem below_all {H : Type} {enc : TypeId × Value → H} {W W' : World} (hb : Below W.heap.size W W') (tys : List TypeId) (ht : ∀ t ∈ tys, Tryz.prog.readableRec t = true ∧ t < Tryz.prog.types.size) : ∀ (vs : List Value) (ds : List (DataW H)) (p : List MemPlace),
    DataW.TrodAll enc Tryz.prog W 0 (fun _ => true) true tys vs ds p → DataW.TrodAll enc Tryz.prog W' 0 (fun b => decide (b < W.heap.size)) true tys vs ds p := by
  induction tys with
  | nil =>
    intro vs ds p h
    obtain ⟨rfl, rfl, rfl⟩ := trodAll_nil h
    exact trodAll_mk0
  | cons t tys ih =>
    intro vs ds p h
    obtain ⟨v, vs', d, ds', p1, q1, rfl, rfl, rfl, k1, k2⟩ := trodAll_cons h
    have lt0 : ∀ x ∈ p1, x.block < W.heap.size := by obtain ⟨m, hm⟩ := k1; exact DataW.trod_lt m _ _ _ hm
    have h1 := ht t List.mem_cons_self
    exact trodAll_cons_mk (Below.trod laidOut h1.1 h1.2 k1 hb lt0) (ih (fun t h => ht t (List.mem_cons_of_mem _ h)) _ _ _ k2)
theorem below_all' {H : Type} {enc : TypeId × Value → H} {W W' : World} (hb : Below W.heap.size W W') {tys : List TypeId} (ht : tys.all (fun t => Tryz.prog.readableRec t && decide (t < Tryz.prog.types.size)) = true) {vs : List Value} {ds : List (DataW H)} {p : List MemPlace}
    (h : DataW.TrodAll enc Tryz.prog W 0 (fun _ => true) true tys vs ds p) : DataW.TrodAll enc Tryz.prog W' 0 (fun b => decide (b < W.heap.size)) true tys vs ds p :=
  below_all hb tys (fun t h => by have := List.all_eq_true.1 ht t h; simp only [Bool.and_eq_true, decide_eq_true_eq] at this; exact this) _ _ _ h
theorem rda_int {h : Heap} {a : Value} (k : RdA Tryz.prog h 3 a) : ∃ i, a = i64 i ∧ (Lit.int .i64 i).wf = true := by
  obtain ⟨n, vs, k, ⟨h1, _⟩ | ⟨_, rfl⟩⟩ := k
  · have : isAggT Tryz.prog 3 = false := by kernel_rfl
    rw [this] at h1
    cases h1
  · obtain ⟨i, e, hi⟩ := rd_int k
    exact ⟨i, by simpa using e, hi⟩
end Go.Proofs.YtmdmimkbpikmoaaGreat

namespace Go.Proofs.YtmdmimkbpikmoaaGreat
set_option linter.unusedSimpArgs false
set_option linter.unusedVariables false
set_option maxRecDepth 20000
open Go.RowKit Am Ty

abbrev i32 (n : Int) : Value := .int .i32 n
def inR (lo hi c : Int) : Bool := decide (lo ≤ c) && decide (c ≤ hi)
set_option maxHeartbeats 2000000 in
theorem great_fw {h : Heap} {c : Int} : FW env 122 [i32 c] h fun r h' => r = .bool (inR 65 90 c) ∧ h' = h := by
  refine fw_enter (fn := Tryz.f122) Tryz.func122 rfl (by kernel_rfl) (by simp [Tryz.ntmps122]) ?_; simp only [push_cast]
  by_cases q1 : 65 ≤ c
  · by_cases q2 : c ≤ 90
    · repeat (first | apply zs | apply zr | apply zn | ((first | apply zx | apply zy); · simp only [push_cast, env, Nat.reduceEqDiff, reduceIte, Nat.reduceAdd, Nat.reduceMul, Nat.reduceLeDiff, reduceCtorEq, Nat.reduceSub, Int.reduceToNat, q1, q2, decide_true] <;> first | exact rfl | exact .inl rfl | exact .inr rfl) | apply zq | apply zb | apply zo | apply zk | apply zl)
      refine cw_ret ?_
      exact ⟨_, (by simp only [push_cast, env, Nat.reduceEqDiff, reduceIte] <;> exact rfl), by simp [resV, inR, q1, q2], rfl⟩
    · repeat (first | apply zs | apply zr | apply zn | ((first | apply zx | apply zy); · simp only [push_cast, env, Nat.reduceEqDiff, reduceIte, Nat.reduceAdd, Nat.reduceMul, Nat.reduceLeDiff, reduceCtorEq, Nat.reduceSub, Int.reduceToNat, q1, q2, decide_true, decide_false] <;> first | exact rfl | exact .inl rfl | exact .inr rfl) | apply zq | apply zb | apply zo | apply zk | apply zl)
      refine cw_ret ?_
      exact ⟨_, (by simp only [push_cast, env, Nat.reduceEqDiff, reduceIte] <;> exact rfl), by simp [resV, inR, q1, q2], rfl⟩
  · repeat (first | apply zs | apply zr | apply zn | ((first | apply zx | apply zy); · simp only [push_cast, env, Nat.reduceEqDiff, reduceIte, Nat.reduceAdd, Nat.reduceMul, Nat.reduceLeDiff, reduceCtorEq, Nat.reduceSub, Int.reduceToNat, q1, decide_false] <;> first | exact rfl | exact .inl rfl | exact .inr rfl) | apply zq | apply zb | apply zo | apply zk | apply zl)
    refine cw_ret ?_
    exact ⟨_, (by simp only [push_cast, env, Nat.reduceEqDiff, reduceIte] <;> exact rfl), by simp [resV, inR, q1], rfl⟩
set_option maxHeartbeats 2000000 in
theorem small_fw {h : Heap} {c : Int} : FW env 168 [i32 c] h fun r h' => r = .bool (inR 97 122 c) ∧ h' = h := by
  refine fw_enter (fn := Tryz.f168) Tryz.func168 rfl (by kernel_rfl) (by simp [Tryz.ntmps168]) ?_; simp only [push_cast]
  by_cases q1 : 97 ≤ c
  · by_cases q2 : c ≤ 122
    · repeat (first | apply zs | apply zr | apply zn | ((first | apply zx | apply zy); · simp only [push_cast, env, Nat.reduceEqDiff, reduceIte, Nat.reduceAdd, Nat.reduceMul, Nat.reduceLeDiff, reduceCtorEq, Nat.reduceSub, Int.reduceToNat, q1, q2, decide_true] <;> first | exact rfl | exact .inl rfl | exact .inr rfl) | apply zq | apply zb | apply zo | apply zk | apply zl)
      refine cw_ret ?_
      exact ⟨_, (by simp only [push_cast, env, Nat.reduceEqDiff, reduceIte] <;> exact rfl), by simp [resV, inR, q1, q2], rfl⟩
    · repeat (first | apply zs | apply zr | apply zn | ((first | apply zx | apply zy); · simp only [push_cast, env, Nat.reduceEqDiff, reduceIte, Nat.reduceAdd, Nat.reduceMul, Nat.reduceLeDiff, reduceCtorEq, Nat.reduceSub, Int.reduceToNat, q1, q2, decide_true, decide_false] <;> first | exact rfl | exact .inl rfl | exact .inr rfl) | apply zq | apply zb | apply zo | apply zk | apply zl)
      refine cw_ret ?_
      exact ⟨_, (by simp only [push_cast, env, Nat.reduceEqDiff, reduceIte] <;> exact rfl), by simp [resV, inR, q1, q2], rfl⟩
  · repeat (first | apply zs | apply zr | apply zn | ((first | apply zx | apply zy); · simp only [push_cast, env, Nat.reduceEqDiff, reduceIte, Nat.reduceAdd, Nat.reduceMul, Nat.reduceLeDiff, reduceCtorEq, Nat.reduceSub, Int.reduceToNat, q1, decide_false] <;> first | exact rfl | exact .inl rfl | exact .inr rfl) | apply zq | apply zb | apply zo | apply zk | apply zl)
    refine cw_ret ?_
    exact ⟨_, (by simp only [push_cast, env, Nat.reduceEqDiff, reduceIte] <;> exact rfl), by simp [resV, inR, q1], rfl⟩
set_option maxHeartbeats 2000000 in
theorem digit_fw {h : Heap} {c : Int} : FW env 169 [i32 c] h fun r h' => r = .bool (inR 48 57 c) ∧ h' = h := by
  refine fw_enter (fn := Tryz.f169) Tryz.func169 rfl (by kernel_rfl) (by simp [Tryz.ntmps169]) ?_; simp only [push_cast]
  by_cases q1 : 48 ≤ c
  · by_cases q2 : c ≤ 57
    · repeat (first | apply zs | apply zr | apply zn | ((first | apply zx | apply zy); · simp only [push_cast, env, Nat.reduceEqDiff, reduceIte, Nat.reduceAdd, Nat.reduceMul, Nat.reduceLeDiff, reduceCtorEq, Nat.reduceSub, Int.reduceToNat, q1, q2, decide_true] <;> first | exact rfl | exact .inl rfl | exact .inr rfl) | apply zq | apply zb | apply zo | apply zk | apply zl)
      refine cw_ret ?_
      exact ⟨_, (by simp only [push_cast, env, Nat.reduceEqDiff, reduceIte] <;> exact rfl), by simp [resV, inR, q1, q2], rfl⟩
    · repeat (first | apply zs | apply zr | apply zn | ((first | apply zx | apply zy); · simp only [push_cast, env, Nat.reduceEqDiff, reduceIte, Nat.reduceAdd, Nat.reduceMul, Nat.reduceLeDiff, reduceCtorEq, Nat.reduceSub, Int.reduceToNat, q1, q2, decide_true, decide_false] <;> first | exact rfl | exact .inl rfl | exact .inr rfl) | apply zq | apply zb | apply zo | apply zk | apply zl)
      refine cw_ret ?_
      exact ⟨_, (by simp only [push_cast, env, Nat.reduceEqDiff, reduceIte] <;> exact rfl), by simp [resV, inR, q1, q2], rfl⟩
  · repeat (first | apply zs | apply zr | apply zn | ((first | apply zx | apply zy); · simp only [push_cast, env, Nat.reduceEqDiff, reduceIte, Nat.reduceAdd, Nat.reduceMul, Nat.reduceLeDiff, reduceCtorEq, Nat.reduceSub, Int.reduceToNat, q1, decide_false] <;> first | exact rfl | exact .inl rfl | exact .inr rfl) | apply zq | apply zb | apply zo | apply zk | apply zl)
    refine cw_ret ?_
    exact ⟨_, (by simp only [push_cast, env, Nat.reduceEqDiff, reduceIte] <;> exact rfl), by simp [resV, inR, q1], rfl⟩
def cls (c : Int) : Int := if inR 65 90 c then 1 else if inR 97 122 c then 2 else if inR 48 57 c then 3 else 0
def isC (c : Int) : Bool := inR 65 90 c || inR 97 122 c || inR 48 57 c
theorem cls_pos {c : Int} : decide (0 < cls c) = isC c := by
  unfold cls isC
  cases inR 65 90 c <;> cases inR 97 122 c <;> cases inR 48 57 c <;> rfl
theorem cls_one {c : Int} : decide (cls c = 1) = inR 65 90 c := by
  unfold cls
  cases inR 65 90 c <;> cases inR 97 122 c <;> cases inR 48 57 c <;> rfl
set_option maxHeartbeats 4000000 in
theorem class_fw {h : Heap} {c : Int} : FW env 124 [u8 c] h fun r h' => r = i64 (cls c) ∧ h' = h := by
  refine fw_enter (fn := Tryz.f124) Tryz.func124 rfl (by kernel_rfl) (by simp [Tryz.ntmps124]) ?_; simp only [push_cast]
  rcases (by omega : (65 ≤ c ∧ c ≤ 90) ∨ (97 ≤ c ∧ c ≤ 122) ∨ (48 ≤ c ∧ c ≤ 57) ∨ c < 48 ∨ (57 < c ∧ c < 65) ∨ (90 < c ∧ c < 97) ∨ 122 < c) with ⟨q1, q2⟩ | ⟨q1, q2⟩ | ⟨q1, q2⟩ | q1 | ⟨q1, q2⟩ | ⟨q1, q2⟩ | q1
  all_goals
    first | (have d1 : 65 ≤ c ↔ True := iff_true_intro (by omega)) | (have d1 : 65 ≤ c ↔ False := iff_false_intro (by omega))
    first | (have d2 : c ≤ 90 ↔ True := iff_true_intro (by omega)) | (have d2 : c ≤ 90 ↔ False := iff_false_intro (by omega))
    first | (have d3 : 97 ≤ c ↔ True := iff_true_intro (by omega)) | (have d3 : 97 ≤ c ↔ False := iff_false_intro (by omega))
    first | (have d4 : c ≤ 122 ↔ True := iff_true_intro (by omega)) | (have d4 : c ≤ 122 ↔ False := iff_false_intro (by omega))
    first | (have d5 : 48 ≤ c ↔ True := iff_true_intro (by omega)) | (have d5 : 48 ≤ c ↔ False := iff_false_intro (by omega))
    first | (have d6 : c ≤ 57 ↔ True := iff_true_intro (by omega)) | (have d6 : c ≤ 57 ↔ False := iff_false_intro (by omega))
    have hcl : cls c = cls c := rfl
    conv at hcl => rhs; simp only [cls, inR, d1, d2, d3, d4, d5, d6, decide_true, decide_false, Bool.and_true, Bool.and_false, Bool.true_and, Bool.false_eq_true, if_true, if_false]
    rw [hcl]
    repeat (first | apply zs | apply zr | apply zn | ((first | apply zx | apply zy); · simp only [push_cast, env, Nat.reduceEqDiff, reduceIte, Nat.reduceAdd, Nat.reduceMul, Nat.reduceLeDiff, reduceCtorEq, Nat.reduceSub, Int.reduceToNat, d1, d2, d3, d4, d5, d6, decide_true, decide_false] <;> first | exact rfl | exact .inl rfl | exact .inr rfl) | apply zq | apply zb | apply zo | apply zk | apply zl)
    first | refine cw_condT rfl ?_ | refine cw_condF rfl ?_
    repeat (first | apply zs | apply zr | apply zn | ((first | apply zx | apply zy); · simp only [push_cast, env, Nat.reduceEqDiff, reduceIte, Nat.reduceAdd, Nat.reduceMul, Nat.reduceLeDiff, reduceCtorEq, Nat.reduceSub, Int.reduceToNat, d1, d2, d3, d4, d5, d6, decide_true, decide_false] <;> first | exact rfl | exact .inl rfl | exact .inr rfl) | apply zq | apply zb | apply zo | apply zk | apply zl)
    try first | refine cw_condT rfl ?_ | refine cw_condF rfl ?_
    repeat (first | apply zs | apply zr | apply zn | ((first | apply zx | apply zy); · simp only [push_cast, env, Nat.reduceEqDiff, reduceIte, Nat.reduceAdd, Nat.reduceMul, Nat.reduceLeDiff, reduceCtorEq, Nat.reduceSub, Int.reduceToNat, d1, d2, d3, d4, d5, d6, decide_true, decide_false] <;> first | exact rfl | exact .inl rfl | exact .inr rfl) | apply zq | apply zb | apply zo | apply zk | apply zl)
    try first | refine cw_condT rfl ?_ | refine cw_condF rfl ?_
    repeat (first | apply zs | apply zr | apply zn | ((first | apply zx | apply zy); · simp only [push_cast, env, Nat.reduceEqDiff, reduceIte, Nat.reduceAdd, Nat.reduceMul, Nat.reduceLeDiff, reduceCtorEq, Nat.reduceSub, Int.reduceToNat] <;> first | exact rfl | exact .inl rfl | exact .inr rfl) | apply zq | apply zb | apply zo | apply zk | apply zl)
    show CW _ _ _ _
    repeat (first | apply zs | apply zr | apply zn | ((first | apply zx | apply zy); · simp only [push_cast, env, Nat.reduceEqDiff, reduceIte, Nat.reduceAdd, Nat.reduceMul, Nat.reduceLeDiff, reduceCtorEq, Nat.reduceSub, Int.reduceToNat] <;> first | exact rfl | exact .inl rfl | exact .inr rfl) | apply zq | apply zb | apply zo | apply zk | apply zl)
    refine cw_ret ?_
    exact ⟨_, (by simp only [push_cast, env, Nat.reduceEqDiff, reduceIte] <;> exact rfl), rfl, rfl⟩
def bn (b : ByteArray) (i : Nat) : Nat := (b.get! i).toNat
theorem bn_get {b : ByteArray} {i : Nat} (hi : i < b.size) : ∃ c : UInt8, b[i]? = some c ∧ c.toNat = bn b i := by
  refine ⟨b[i], getElem?_pos b i hi, ?_⟩
  obtain ⟨bs⟩ := b
  show (bs[i]).toNat = (bs[i]!).toNat
  rw [getElem!_pos bs i hi]
theorem isC_lt {n : Nat} (h : isC (n : Int) = true) : n < 128 := by
  unfold isC inR at h
  simp only [Bool.or_eq_true, Bool.and_eq_true, decide_eq_true_eq] at h
  omega
theorem dec_ascii {b : ByteArray} {i : Nat} (h : bn b i < 128) : Utf8.decode b i = (bn b i, 1) := by
  unfold bn at h ⊢
  unfold Utf8.decode
  simp only [Nat.add_zero]
  rw [if_pos h]
theorem dec_other {b : ByteArray} {i : Nat} (h : ¬ bn b i < 128) : 128 ≤ (Utf8.decode b i).1 := by
  unfold bn at h
  unfold Utf8.decode
  simp only [Nat.add_zero]
  rw [if_neg h]
  split
  · split
    · simp only; omega
    · simp [Utf8.runeError]
  · split
    · split
      · rename_i hq; simp only [ge_iff_le, Bool.and_eq_true, decide_eq_true_eq] at hq; simp only; omega
      · simp [Utf8.runeError]
    · split
      · split
        · rename_i hq; simp only [ge_iff_le, Bool.and_eq_true, decide_eq_true_eq] at hq; simp only; omega
        · simp [Utf8.runeError]
      · simp [Utf8.runeError]
theorem dec_C {b : ByteArray} {i : Nat} : isC ((Utf8.decode b i).1 : Int) = isC (bn b i : Int) := by
  by_cases h : bn b i < 128
  · rw [dec_ascii h]
  · have h1 := dec_other h
    cases e1 : isC ((Utf8.decode b i).1 : Int) with
    | true => have := isC_lt e1; omega
    | false =>
      cases e2 : isC (bn b i : Int) with
      | true => exact absurd (isC_lt e2) h
      | false => rfl
structure FarP (b : ByteArray) (k : Nat) : Prop where
  le : k ≤ b.size
  all : ∀ i < k, isC (bn b i : Int) = true
  stop : k < b.size → isC (bn b k : Int) = false
def allC (b : ByteArray) : Bool := (List.range b.size).all fun i => isC (bn b i : Int)
theorem FarP.eq {b : ByteArray} {k : Nat} (h : FarP b k) : decide ((k : Int) = (b.size : Int)) = allC b := by
  have := h.le
  cases e : allC b with
  | true =>
    simp only [allC, List.all_eq_true, List.mem_range] at e
    refine decide_eq_true ?_
    by_cases hk : k < b.size
    · have := h.stop hk; rw [e k hk] at this; cases this
    · omega
  | false =>
    refine decide_eq_false fun hk => ?_
    have hk' : k = b.size := by omega
    have : allC b = true := by
      simp only [allC, List.all_eq_true, List.mem_range]
      intro i hi
      exact h.all i (by omega)
    rw [e] at this
    cases this
def isName (b : ByteArray) : Bool := decide (0 < b.size) && decide (b.size ≤ 32) && inR 65 90 (bn b 0 : Int) && allC b
set_option maxHeartbeats 4000000 in
theorem run_fw {h : Heap} {b : ByteArray} (hb : b.size ≤ 140737488355328) : FW env 123 [.string b] h fun r h' => (∃ k : Nat, FarP b k ∧ r = i64 k) ∧ h' = h := by
  refine fw_enter (fn := Tryz.f123) Tryz.func123 rfl (by kernel_rfl) (by simp [Tryz.ntmps123]) ?_; simp only [push_cast]
  repeat (first | apply zs | apply zr | apply zn | ((first | apply zx | apply zy); · simp only [push_cast, env, Nat.reduceEqDiff, reduceIte, Nat.reduceAdd, Nat.reduceMul, Nat.reduceLeDiff, reduceCtorEq, Nat.reduceSub, Int.reduceToNat] <;> first | exact rfl | exact .inl rfl | exact .inr rfl) | apply zq | apply zb | apply zo | apply zk | apply zl)
  refine ow_rngS (t := 9) rfl rfl rfl (by kernel_rfl) rfl ?_
  repeat (first | apply zs | apply zr | apply zn | ((first | apply zx | apply zy); · simp only [push_cast, env, Nat.reduceEqDiff, reduceIte, Nat.reduceAdd, Nat.reduceMul, Nat.reduceLeDiff, reduceCtorEq, Nat.reduceSub, Int.reduceToNat] <;> first | exact rfl | exact .inl rfl | exact .inr rfl) | apply zq | apply zb | apply zo | apply zk | apply zl)
  refine cw_loop (fun m s => ∃ p, m = b.size - p ∧ p ≤ b.size ∧ (∀ i < p, isC (bn b i : Int) = true) ∧ SubL [(0, .val (.string b)), (6, .sit b p)] s.fr ∧ s.h = h) b.size ⟨0, rfl, Nat.zero_le _, fun i hi => absurd hi (by omega), (by simp only [push_cast, Nat.reduceEqDiff, reduceIte]), rfl⟩ ?_
  rintro m s ⟨p, rfl, hp, hall, hf, hh⟩
  refine cw_weakL _ hf ?_
  rw [hh]
  by_cases hlt : p < b.size
  · repeat (first | apply zs | apply zr | apply zn | apply zq | apply zb | apply zo | apply zk | apply zl)
    refine ow_nextS (b := b) (p := p) rfl rfl rfl hlt ?_
    have hC := dec_C (b := b) (i := p)
    have hnx : isC (bn b p : Int) = true → (Utf8.decode b p).2 = 1 := fun ha => by rw [dec_ascii (isC_lt ha)]
    generalize Utf8.decode b p = cw at hC hnx
    obtain ⟨c, w⟩ := cw
    simp only at hC hnx
    repeat (first | apply zs | apply zr | apply zn | ((first | apply zx | apply zy); · simp only [push_cast, env, Nat.reduceEqDiff, reduceIte, Nat.reduceAdd, Nat.reduceMul, Nat.reduceLeDiff, reduceCtorEq, Nat.reduceSub, Int.reduceToNat] <;> first | exact rfl | exact .inl rfl | exact .inr rfl) | apply zq | apply zb | apply zo | apply zk | apply zl)
    refine cw_condT rfl ?_
    repeat (first | apply zs | apply zr | apply zn | ((first | apply zx | apply zy); · simp only [push_cast, env, Nat.reduceEqDiff, reduceIte, Nat.reduceAdd, Nat.reduceMul, Nat.reduceLeDiff, reduceCtorEq, Nat.reduceSub, Int.reduceToNat] <;> first | exact rfl | exact .inl rfl | exact .inr rfl) | apply zq | apply zb | apply zo | apply zk | apply zl)
    refine zc (fn := Tryz.f122) (by simp only [push_cast, env, Nat.reduceEqDiff, reduceIte] <;> exact rfl) Tryz.func122 (by kernel_rfl) (by kernel_rfl) ?_
    refine great_fw.mono ?_
    rintro _ h1 ⟨rfl, rfl⟩
    cases g1 : inR 65 90 (c : Int) with
    | true =>
      have hcc : isC (c : Int) = true := by simp [isC, g1]
      rw [hcc] at hC
      have hw := hnx hC.symm
      subst hw
      repeat (first | apply zs | apply zr | apply zn | ((first | apply zx | apply zy); · simp only [push_cast, env, Nat.reduceEqDiff, reduceIte, Nat.reduceAdd, Nat.reduceMul, Nat.reduceLeDiff, reduceCtorEq, Nat.reduceSub, Int.reduceToNat] <;> first | exact rfl | exact .inl rfl | exact .inr rfl) | apply zq | apply zb | apply zo | apply zk | apply zl)
      refine cw_condF rfl ?_
      repeat (first | apply zs | apply zr | apply zn | ((first | apply zx | apply zy); · simp only [push_cast, env, Nat.reduceEqDiff, reduceIte, Nat.reduceAdd, Nat.reduceMul, Nat.reduceLeDiff, reduceCtorEq, Nat.reduceSub, Int.reduceToNat] <;> first | exact rfl | exact .inl rfl | exact .inr rfl) | apply zq | apply zb | apply zo | apply zk | apply zl)
      refine ⟨b.size - (p + 1), by omega, p + 1, rfl, by omega, fun i hi => ?_, (by simp only [push_cast, Nat.reduceEqDiff, reduceIte]), rfl⟩
      rcases (by omega : i < p ∨ i = p) with hi | rfl
      · exact hall i hi
      · exact hC.symm
    | false =>
      repeat (first | apply zs | apply zr | apply zn | ((first | apply zx | apply zy); · simp only [push_cast, env, Nat.reduceEqDiff, reduceIte, Nat.reduceAdd, Nat.reduceMul, Nat.reduceLeDiff, reduceCtorEq, Nat.reduceSub, Int.reduceToNat, Bool.not_false] <;> first | exact rfl | exact .inl rfl | exact .inr rfl) | apply zq | apply zb | apply zo | apply zk | apply zl)
      refine zc (fn := Tryz.f168) (by simp only [push_cast, env, Nat.reduceEqDiff, reduceIte] <;> exact rfl) Tryz.func168 (by kernel_rfl) (by kernel_rfl) ?_
      refine small_fw.mono ?_
      rintro _ h1 ⟨rfl, rfl⟩
      cases g2 : inR 97 122 (c : Int) with
      | true =>
        have hcc : isC (c : Int) = true := by simp [isC, g1, g2]
        rw [hcc] at hC
        have hw := hnx hC.symm
        subst hw
        repeat (first | apply zs | apply zr | apply zn | ((first | apply zx | apply zy); · simp only [push_cast, env, Nat.reduceEqDiff, reduceIte, Nat.reduceAdd, Nat.reduceMul, Nat.reduceLeDiff, reduceCtorEq, Nat.reduceSub, Int.reduceToNat] <;> first | exact rfl | exact .inl rfl | exact .inr rfl) | apply zq | apply zb | apply zo | apply zk | apply zl)
        refine cw_condF rfl ?_
        repeat (first | apply zs | apply zr | apply zn | ((first | apply zx | apply zy); · simp only [push_cast, env, Nat.reduceEqDiff, reduceIte, Nat.reduceAdd, Nat.reduceMul, Nat.reduceLeDiff, reduceCtorEq, Nat.reduceSub, Int.reduceToNat] <;> first | exact rfl | exact .inl rfl | exact .inr rfl) | apply zq | apply zb | apply zo | apply zk | apply zl)
        refine ⟨b.size - (p + 1), by omega, p + 1, rfl, by omega, fun i hi => ?_, (by simp only [push_cast, Nat.reduceEqDiff, reduceIte]), rfl⟩
        rcases (by omega : i < p ∨ i = p) with hi | rfl
        · exact hall i hi
        · exact hC.symm
      | false =>
        repeat (first | apply zs | apply zr | apply zn | ((first | apply zx | apply zy); · simp only [push_cast, env, Nat.reduceEqDiff, reduceIte, Nat.reduceAdd, Nat.reduceMul, Nat.reduceLeDiff, reduceCtorEq, Nat.reduceSub, Int.reduceToNat] <;> first | exact rfl | exact .inl rfl | exact .inr rfl) | apply zq | apply zb | apply zo | apply zk | apply zl)
        refine zc (fn := Tryz.f169) (by simp only [push_cast, env, Nat.reduceEqDiff, reduceIte] <;> exact rfl) Tryz.func169 (by kernel_rfl) (by kernel_rfl) ?_
        refine digit_fw.mono ?_
        rintro _ h1 ⟨rfl, rfl⟩
        cases g3 : inR 48 57 (c : Int) with
        | true =>
          have hcc : isC (c : Int) = true := by simp [isC, g1, g2, g3]
          rw [hcc] at hC
          have hw := hnx hC.symm
          subst hw
          repeat (first | apply zs | apply zr | apply zn | ((first | apply zx | apply zy); · simp only [push_cast, env, Nat.reduceEqDiff, reduceIte, Nat.reduceAdd, Nat.reduceMul, Nat.reduceLeDiff, reduceCtorEq, Nat.reduceSub, Int.reduceToNat] <;> first | exact rfl | exact .inl rfl | exact .inr rfl) | apply zq | apply zb | apply zo | apply zk | apply zl)
          refine cw_condF rfl ?_
          repeat (first | apply zs | apply zr | apply zn | ((first | apply zx | apply zy); · simp only [push_cast, env, Nat.reduceEqDiff, reduceIte, Nat.reduceAdd, Nat.reduceMul, Nat.reduceLeDiff, reduceCtorEq, Nat.reduceSub, Int.reduceToNat] <;> first | exact rfl | exact .inl rfl | exact .inr rfl) | apply zq | apply zb | apply zo | apply zk | apply zl)
          refine ⟨b.size - (p + 1), by omega, p + 1, rfl, by omega, fun i hi => ?_, (by simp only [push_cast, Nat.reduceEqDiff, reduceIte]), rfl⟩
          rcases (by omega : i < p ∨ i = p) with hi | rfl
          · exact hall i hi
          · exact hC.symm
        | false =>
          have hcc : isC (c : Int) = false := by simp [isC, g1, g2, g3]
          rw [hcc] at hC
          repeat (first | apply zs | apply zr | apply zn | ((first | apply zx | apply zy); · simp only [push_cast, env, Nat.reduceEqDiff, reduceIte, Nat.reduceAdd, Nat.reduceMul, Nat.reduceLeDiff, reduceCtorEq, Nat.reduceSub, Int.reduceToNat] <;> first | exact rfl | exact .inl rfl | exact .inr rfl) | apply zq | apply zb | apply zo | apply zk | apply zl)
          refine cw_condT rfl ?_
          repeat (first | apply zs | apply zr | apply zn | ((first | apply zx | apply zy); · simp only [push_cast, env, Nat.reduceEqDiff, reduceIte, Nat.reduceAdd, Nat.reduceMul, Nat.reduceLeDiff, reduceCtorEq, Nat.reduceSub, Int.reduceToNat] <;> first | exact rfl | exact .inl rfl | exact .inr rfl) | apply zq | apply zb | apply zo | apply zk | apply zl)
          refine cw_ret ?_
          exact ⟨_, (by simp only [push_cast, env, Nat.reduceEqDiff, reduceIte] <;> exact rfl), ⟨p, ⟨by omega, hall, fun _ => hC.symm⟩, rfl⟩, rfl⟩
  · obtain rfl : p = b.size := by omega
    repeat (first | apply zs | apply zr | apply zn | apply zq | apply zb | apply zo | apply zk | apply zl)
    refine ow_nextE (b := b) (p := b.size) rfl rfl rfl (Nat.le_refl _) ?_
    repeat (first | apply zs | apply zr | apply zn | ((first | apply zx | apply zy); · simp only [push_cast, env, Nat.reduceEqDiff, reduceIte, Nat.reduceAdd, Nat.reduceMul, Nat.reduceLeDiff, reduceCtorEq, Nat.reduceSub, Int.reduceToNat] <;> first | exact rfl | exact .inl rfl | exact .inr rfl) | apply zq | apply zb | apply zo | apply zk | apply zl)
    refine cw_condF rfl ?_
    refine cw_exit ?_
    show CW _ _ _ _
    repeat (first | apply zs | apply zr | apply zn | ((first | apply zx | apply zy); · simp only [push_cast, env, Nat.reduceEqDiff, reduceIte, Nat.reduceAdd, Nat.reduceMul, Nat.reduceLeDiff, reduceCtorEq, Nat.reduceSub, Int.reduceToNat] <;> first | exact rfl | exact .inl rfl | exact .inr rfl) | apply zq | apply zb | apply zo | apply zk | apply zl)
    refine cw_ret ?_
    exact ⟨_, (by simp only [push_cast, env, Nat.reduceEqDiff, reduceIte] <;> exact rfl), ⟨b.size, ⟨Nat.le_refl _, hall, fun h => absurd h (by omega)⟩, rfl⟩, rfl⟩
theorem emp_iff {b : ByteArray} : b = ⟨#[]⟩ ↔ b.size = 0 := by
  constructor
  · rintro rfl; rfl
  · intro h
    obtain ⟨bs⟩ := b
    have : bs = #[] := Array.eq_empty_of_size_eq_zero h
    rw [this]
theorem wrap_i32 {n : Int} (h0 : 0 ≤ n) (h1 : n < 2147483648) : IntKind.i32.wrap n = n := by
  unfold IntKind.wrap
  simp only [IntKind.bits, IntKind.signed]
  simp
  omega
set_option maxHeartbeats 4000000 in
theorem wname_fw {h : Heap} {b : ByteArray} (hb : b.size ≤ 140737488355328) : FW env 49 [.string b] h fun r h' => r = .bool (isName b) ∧ h' = h := by
  refine fw_enter (fn := Tryz.f49) Tryz.func49 rfl (by kernel_rfl) (by simp [Tryz.ntmps49]) ?_; simp only [push_cast]
  by_cases q1 : 0 < b.size
  · have e1 : ¬ b = ⟨#[]⟩ := fun e => by rw [emp_iff] at e; omega
    by_cases q2 : b.size ≤ 32
    · have d2 : decide ((b.size : Int) ≤ 32) = true := decide_eq_true (by omega)
      obtain ⟨c, hc, hcn⟩ := bn_get q1
      have hcl : c.toNat < 256 := c.toNat_lt
      have e4 : IntKind.i32.wrap (bn b 0 : Int) = (bn b 0 : Int) := wrap_i32 (by omega) (by omega)
      repeat (first | apply zs | apply zr | apply zn | ((first | apply zx | apply zy); · simp only [push_cast, env, Nat.reduceEqDiff, reduceIte, Nat.reduceAdd, Nat.reduceMul, Nat.reduceLeDiff, reduceCtorEq, Nat.reduceSub, Int.reduceToNat, e1, d2, hc, hcn, e4] <;> first | exact rfl | exact .inl rfl | exact .inr rfl) | apply zq | apply zb | apply zo | apply zk | apply zl)
      refine zc (fn := Tryz.f122) (by simp only [push_cast, env, Nat.reduceEqDiff, reduceIte] <;> exact rfl) Tryz.func122 (by kernel_rfl) (by kernel_rfl) ?_
      refine great_fw.mono ?_
      rintro _ h1 ⟨rfl, rfl⟩
      cases g : inR 65 90 (bn b 0 : Int) with
      | false =>
        repeat (first | apply zs | apply zr | apply zn | ((first | apply zx | apply zy); · simp only [push_cast, env, Nat.reduceEqDiff, reduceIte, Nat.reduceAdd, Nat.reduceMul, Nat.reduceLeDiff, reduceCtorEq, Nat.reduceSub, Int.reduceToNat] <;> first | exact rfl | exact .inl rfl | exact .inr rfl) | apply zq | apply zb | apply zo | apply zk | apply zl)
        refine cw_ret ?_
        exact ⟨_, (by simp only [push_cast, env, Nat.reduceEqDiff, reduceIte] <;> exact rfl), by simp [resV, isName, g], rfl⟩
      | true =>
        repeat (first | apply zs | apply zr | apply zn | ((first | apply zx | apply zy); · simp only [push_cast, env, Nat.reduceEqDiff, reduceIte, Nat.reduceAdd, Nat.reduceMul, Nat.reduceLeDiff, reduceCtorEq, Nat.reduceSub, Int.reduceToNat] <;> first | exact rfl | exact .inl rfl | exact .inr rfl) | apply zq | apply zb | apply zo | apply zk | apply zl)
        refine zc (fn := Tryz.f123) (by simp only [push_cast, env, Nat.reduceEqDiff, reduceIte] <;> exact rfl) Tryz.func123 (by kernel_rfl) (by kernel_rfl) ?_
        refine (run_fw hb).mono ?_
        rintro _ h1 ⟨⟨k, hk, rfl⟩, rfl⟩
        have e5 := hk.eq
        repeat (first | apply zs | apply zr | apply zn | ((first | apply zx | apply zy); · simp only [push_cast, env, Nat.reduceEqDiff, reduceIte, Nat.reduceAdd, Nat.reduceMul, Nat.reduceLeDiff, reduceCtorEq, Nat.reduceSub, Int.reduceToNat, e5] <;> first | exact rfl | exact .inl rfl | exact .inr rfl) | apply zq | apply zb | apply zo | apply zk | apply zl)
        refine cw_ret ?_
        exact ⟨_, (by simp only [push_cast, env, Nat.reduceEqDiff, reduceIte] <;> exact rfl), by simp [resV, isName, q1, q2, g], rfl⟩
    · have d2 : decide ((b.size : Int) ≤ 32) = false := decide_eq_false (by omega)
      repeat (first | apply zs | apply zr | apply zn | ((first | apply zx | apply zy); · simp only [push_cast, env, Nat.reduceEqDiff, reduceIte, Nat.reduceAdd, Nat.reduceMul, Nat.reduceLeDiff, reduceCtorEq, Nat.reduceSub, Int.reduceToNat, e1, d2] <;> first | exact rfl | exact .inl rfl | exact .inr rfl) | apply zq | apply zb | apply zo | apply zk | apply zl)
      refine cw_ret ?_
      exact ⟨_, (by simp only [push_cast, env, Nat.reduceEqDiff, reduceIte] <;> exact rfl), by simp [resV, isName, q2], rfl⟩
  · have e1 : b = ⟨#[]⟩ := emp_iff.2 (by omega)
    repeat (first | apply zs | apply zr | apply zn | ((first | apply zx | apply zy); · simp only [push_cast, env, Nat.reduceEqDiff, reduceIte, Nat.reduceAdd, Nat.reduceMul, Nat.reduceLeDiff, reduceCtorEq, Nat.reduceSub, Int.reduceToNat, e1] <;> first | exact rfl | exact .inl rfl | exact .inr rfl) | apply zq | apply zb | apply zo | apply zk | apply zl)
    refine cw_ret ?_
    exact ⟨_, (by simp only [push_cast, env, Nat.reduceEqDiff, reduceIte] <;> exact rfl), by simp [resV, isName, q1], rfl⟩
set_option maxHeartbeats 4000000 in
theorem far_fw {h : Heap} {b : ByteArray} (hb : b.size ≤ 140737488355328) : FW env 125 [.string b, i64 0] h fun r h' => (∃ k : Nat, FarP b k ∧ r = i64 k) ∧ h' = h := by
  refine fw_enter (fn := Tryz.f125) Tryz.func125 rfl (by kernel_rfl) (by simp [Tryz.ntmps125]) ?_; simp only [push_cast]
  repeat (first | apply zs | apply zr | apply zn | ((first | apply zx | apply zy); · simp only [push_cast, env, Nat.reduceEqDiff, reduceIte, Nat.reduceAdd, Nat.reduceMul, Nat.reduceLeDiff, reduceCtorEq, Nat.reduceSub, Int.reduceToNat] <;> first | exact rfl | exact .inl rfl | exact .inr rfl) | apply zq | apply zb | apply zo | apply zk | apply zl)
  refine cw_for b.size (fun k => [(0, .val (.string b)), (1, .val (i64 k))]) (fun _ => h) (fun k => ∀ i < k, isC (bn b i : Int) = true) (by simp only [push_cast, Nat.reduceEqDiff, reduceIte]) rfl (fun i hi => absurd hi (by omega)) ?_
  intro k hk hall
  by_cases hlt : k < b.size
  · have e1 := rng hlt
    have e2 := inc hlt hb
    have e3 := lt_dec hlt
    obtain ⟨c, hc, hcn⟩ := bn_get hlt
    repeat (first | apply zs | apply zr | apply zn | ((first | apply zx | apply zy); · simp only [push_cast, env, Nat.reduceEqDiff, reduceIte, Nat.reduceAdd, Nat.reduceMul, Nat.reduceLeDiff, reduceCtorEq, Nat.reduceSub, Int.reduceToNat, e3, hc, hcn, Int.toNat_natCast, Int.natCast_nonneg, if_true] <;> first | exact rfl | exact .inl rfl | exact .inr rfl) | apply zq | apply zb | apply zo | apply zk | apply zl)
    refine zc (fn := Tryz.f124) (by simp only [push_cast, env, Nat.reduceEqDiff, reduceIte] <;> exact rfl) Tryz.func124 (by kernel_rfl) (by kernel_rfl) ?_
    refine class_fw.mono ?_
    rintro _ h1 ⟨rfl, rfl⟩
    have e4 := cls_pos (c := (bn b k : Int))
    cases g : isC (bn b k : Int) with
    | false =>
      rw [g] at e4
      repeat (first | apply zs | apply zr | apply zn | ((first | apply zx | apply zy); · simp only [push_cast, env, Nat.reduceEqDiff, reduceIte, Nat.reduceAdd, Nat.reduceMul, Nat.reduceLeDiff, reduceCtorEq, Nat.reduceSub, Int.reduceToNat, e4] <;> first | exact rfl | exact .inl rfl | exact .inr rfl) | apply zq | apply zb | apply zo | apply zk | apply zl)
      refine cw_condF rfl ?_
      refine cw_exit ?_
      show CW _ _ _ _
      repeat (first | apply zs | apply zr | apply zn | ((first | apply zx | apply zy); · simp only [push_cast, env, Nat.reduceEqDiff, reduceIte, Nat.reduceAdd, Nat.reduceMul, Nat.reduceLeDiff, reduceCtorEq, Nat.reduceSub, Int.reduceToNat] <;> first | exact rfl | exact .inl rfl | exact .inr rfl) | apply zq | apply zb | apply zo | apply zk | apply zl)
      refine cw_ret ?_
      exact ⟨_, (by simp only [push_cast, env, Nat.reduceEqDiff, reduceIte] <;> exact rfl), ⟨k, ⟨by omega, hall, fun _ => g⟩, rfl⟩, rfl⟩
    | true =>
      rw [g] at e4
      repeat (first | apply zs | apply zr | apply zn | ((first | apply zx | apply zy); · simp only [push_cast, env, Nat.reduceEqDiff, reduceIte, Nat.reduceAdd, Nat.reduceMul, Nat.reduceLeDiff, reduceCtorEq, Nat.reduceSub, Int.reduceToNat, e4] <;> first | exact rfl | exact .inl rfl | exact .inr rfl) | apply zq | apply zb | apply zo | apply zk | apply zl)
      refine cw_condT rfl ?_
      repeat (first | apply zs | apply zr | apply zn | ((first | apply zx | apply zy); · simp only [push_cast, env, Nat.reduceEqDiff, reduceIte, Nat.reduceAdd, Nat.reduceMul, Nat.reduceLeDiff, reduceCtorEq, Nat.reduceSub, Int.reduceToNat, e2] <;> first | exact rfl | exact .inl rfl | exact .inr rfl) | apply zq | apply zb | apply zo | apply zk | apply zl)
      refine ⟨hlt, (by simp only [push_cast, Nat.reduceEqDiff, reduceIte]), rfl, fun i hi => ?_⟩
      rcases (by omega : i < k ∨ i = k) with hi | rfl
      · exact hall i hi
      · exact g
  · have e3 := ge_dec hlt
    obtain rfl : k = b.size := by omega
    repeat (first | apply zs | apply zr | apply zn | ((first | apply zx | apply zy); · simp only [push_cast, env, Nat.reduceEqDiff, reduceIte, Nat.reduceAdd, Nat.reduceMul, Nat.reduceLeDiff, reduceCtorEq, Nat.reduceSub, Int.reduceToNat, e3] <;> first | exact rfl | exact .inl rfl | exact .inr rfl) | apply zq | apply zb | apply zo | apply zk | apply zl)
    refine cw_condF rfl ?_
    refine cw_exit ?_
    show CW _ _ _ _
    repeat (first | apply zs | apply zr | apply zn | ((first | apply zx | apply zy); · simp only [push_cast, env, Nat.reduceEqDiff, reduceIte, Nat.reduceAdd, Nat.reduceMul, Nat.reduceLeDiff, reduceCtorEq, Nat.reduceSub, Int.reduceToNat] <;> first | exact rfl | exact .inl rfl | exact .inr rfl) | apply zq | apply zb | apply zo | apply zk | apply zl)
    refine cw_ret ?_
    exact ⟨_, (by simp only [push_cast, env, Nat.reduceEqDiff, reduceIte] <;> exact rfl), ⟨b.size, ⟨Nat.le_refl _, hall, fun h => absurd h (by omega)⟩, rfl⟩, rfl⟩
set_option maxHeartbeats 4000000 in
theorem rname_fw {h : Heap} {b : ByteArray} (hb : b.size ≤ 140737488355328) : FW env 51 [.string b] h fun r h' => r = .bool (isName b) ∧ h' = h := by
  refine fw_enter (fn := Tryz.f51) Tryz.func51 rfl (by kernel_rfl) (by simp [Tryz.ntmps51]) ?_; simp only [push_cast]
  by_cases q1 : 0 < b.size
  · have e1 : decide ((0 : Int) < (b.size : Int)) = true := decide_eq_true (by omega)
    by_cases q2 : b.size ≤ 32
    · have d2 : decide ((b.size : Int) ≤ 32) = true := decide_eq_true (by omega)
      obtain ⟨c, hc, hcn⟩ := bn_get q1
      repeat (first | apply zs | apply zr | apply zn | ((first | apply zx | apply zy); · simp only [push_cast, env, Nat.reduceEqDiff, reduceIte, Nat.reduceAdd, Nat.reduceMul, Nat.reduceLeDiff, reduceCtorEq, Nat.reduceSub, Int.reduceToNat, e1, d2, hc, hcn] <;> first | exact rfl | exact .inl rfl | exact .inr rfl) | apply zq | apply zb | apply zo | apply zk | apply zl)
      refine zc (fn := Tryz.f124) (by simp only [push_cast, env, Nat.reduceEqDiff, reduceIte] <;> exact rfl) Tryz.func124 (by kernel_rfl) (by kernel_rfl) ?_
      refine class_fw.mono ?_
      rintro _ h1 ⟨rfl, rfl⟩
      have e4 := cls_one (c := (bn b 0 : Int))
      cases g : inR 65 90 (bn b 0 : Int) with
      | false =>
        rw [g] at e4
        repeat (first | apply zs | apply zr | apply zn | ((first | apply zx | apply zy); · simp only [push_cast, env, Nat.reduceEqDiff, reduceIte, Nat.reduceAdd, Nat.reduceMul, Nat.reduceLeDiff, reduceCtorEq, Nat.reduceSub, Int.reduceToNat, e4] <;> first | exact rfl | exact .inl rfl | exact .inr rfl) | apply zq | apply zb | apply zo | apply zk | apply zl)
        refine cw_ret ?_
        exact ⟨_, (by simp only [push_cast, env, Nat.reduceEqDiff, reduceIte] <;> exact rfl), by simp [resV, isName, g], rfl⟩
      | true =>
        rw [g] at e4
        repeat (first | apply zs | apply zr | apply zn | ((first | apply zx | apply zy); · simp only [push_cast, env, Nat.reduceEqDiff, reduceIte, Nat.reduceAdd, Nat.reduceMul, Nat.reduceLeDiff, reduceCtorEq, Nat.reduceSub, Int.reduceToNat, e4] <;> first | exact rfl | exact .inl rfl | exact .inr rfl) | apply zq | apply zb | apply zo | apply zk | apply zl)
        refine zc (fn := Tryz.f125) (by simp only [push_cast, env, Nat.reduceEqDiff, reduceIte] <;> exact rfl) Tryz.func125 (by kernel_rfl) (by kernel_rfl) ?_
        refine (far_fw hb).mono ?_
        rintro _ h1 ⟨⟨k, hk, rfl⟩, rfl⟩
        have e5 := hk.eq
        repeat (first | apply zs | apply zr | apply zn | ((first | apply zx | apply zy); · simp only [push_cast, env, Nat.reduceEqDiff, reduceIte, Nat.reduceAdd, Nat.reduceMul, Nat.reduceLeDiff, reduceCtorEq, Nat.reduceSub, Int.reduceToNat, e5] <;> first | exact rfl | exact .inl rfl | exact .inr rfl) | apply zq | apply zb | apply zo | apply zk | apply zl)
        refine cw_ret ?_
        exact ⟨_, (by simp only [push_cast, env, Nat.reduceEqDiff, reduceIte] <;> exact rfl), by simp [resV, isName, q1, q2, g], rfl⟩
    · have d2 : decide ((b.size : Int) ≤ 32) = false := decide_eq_false (by omega)
      repeat (first | apply zs | apply zr | apply zn | ((first | apply zx | apply zy); · simp only [push_cast, env, Nat.reduceEqDiff, reduceIte, Nat.reduceAdd, Nat.reduceMul, Nat.reduceLeDiff, reduceCtorEq, Nat.reduceSub, Int.reduceToNat, e1, d2] <;> first | exact rfl | exact .inl rfl | exact .inr rfl) | apply zq | apply zb | apply zo | apply zk | apply zl)
      refine cw_ret ?_
      exact ⟨_, (by simp only [push_cast, env, Nat.reduceEqDiff, reduceIte] <;> exact rfl), by simp [resV, isName, q2], rfl⟩
  · have e1 : decide ((0 : Int) < (b.size : Int)) = false := decide_eq_false (by omega)
    repeat (first | apply zs | apply zr | apply zn | ((first | apply zx | apply zy); · simp only [push_cast, env, Nat.reduceEqDiff, reduceIte, Nat.reduceAdd, Nat.reduceMul, Nat.reduceLeDiff, reduceCtorEq, Nat.reduceSub, Int.reduceToNat, e1] <;> first | exact rfl | exact .inl rfl | exact .inr rfl) | apply zq | apply zb | apply zo | apply zk | apply zl)
    refine cw_ret ?_
    exact ⟨_, (by simp only [push_cast, env, Nat.reduceEqDiff, reduceIte] <;> exact rfl), by simp [resV, isName, q1], rfl⟩
end Go.Proofs.YtmdmimkbpikmoaaGreat

namespace Go.Proofs.YtmdmimkbpikmoaaGreat
set_option linter.unusedSimpArgs false
set_option linter.unusedVariables false
set_option maxRecDepth 20000
open Go.RowKit Am Ty

structure Org where
  kind : Int
  prod : Int
  mask : Int
  syms : List Int
  deriving DecidableEq
def RdNames (h : Heap) (v : Value) (l : List ByteArray) : Prop := SlR h v l.length (l.map .string) 9 16
def RdFrom (h : Heap) (v : Value) (l : List Org) : Prop :=
  ∃ us : List Value, us.length = l.length ∧ SlR h v l.length ((l.zip us).flatMap fun p => [i64 p.1.kind, i64 p.1.prod, i64 p.1.mask, p.2]) 67 48 ∧ ∀ (i : Nat) (r : Org) (u : Value), l[i]? = some r → us[i]? = some u → RdInts h u r.syms
theorem RdNames.mono {h h' : Heap} {v : Value} {l : List ByteArray} (hr : RdNames h v l) (hp : h <+: h') : RdNames h' v l := SlR.mono hr hp
theorem RdFrom.mono {h h' : Heap} {v : Value} {l : List Org} (hr : RdFrom h v l) (hp : h <+: h') : RdFrom h' v l := by
  obtain ⟨us, hl, hs, hu⟩ := hr
  exact ⟨us, hl, hs.mono hp, fun i r u h1 h2 => (hu i r u h1 h2).mono hp⟩
theorem RdNames.form {h : Heap} {v : Value} {l : List ByteArray} (hr : RdNames h v l) : ∃ p c, v = .slice p l.length c := SlR.form hr
theorem RdFrom.form {h : Heap} {v : Value} {l : List Org} (hr : RdFrom h v l) : ∃ p c, v = .slice p l.length c := by
  obtain ⟨_, _, hs, _⟩ := hr
  exact hs.form
theorem RdFrom.le {h : Heap} {v : Value} {l : List Org} (hr : RdFrom h v l) : l.length ≤ 140737488355328 := by
  obtain ⟨_, _, hs, _⟩ := hr
  have := hs.1
  omega
theorem RdNames.le {h : Heap} {v : Value} {l : List ByteArray} (hr : RdNames h v l) : l.length ≤ 140737488355328 := by
  have := hr.1
  omega
theorem RdNames.at {h : Heap} {v : Value} {l : List ByteArray} (hr : RdNames h v l) {i : Nat} (hi : i < l.length) :
    ∃ id ver own c cells, v = .slice (some ⟨id, 0, some ver⟩) l.length c ∧ h[id]? = some (.arr cells ver own 9) ∧ cells[i]? = some (.string l[i]) := by
  obtain ⟨id, ver, own, c, rfl, hid⟩ := SlR.at hr (by omega)
  exact ⟨id, ver, own, c, _, rfl, hid, by simp [hi]⟩
theorem from_get {l : List Org} {us : List Value} (hl : us.length = l.length) {i : Nat} (hi : i < l.length) :
    rdH ((l.zip us).flatMap fun p => [i64 p.1.kind, i64 p.1.prod, i64 p.1.mask, p.2]) (i * 4) 4 = some [i64 l[i].kind, i64 l[i].prod, i64 l[i].mask, us[i]'(hl ▸ hi)] := by
  refine rdH_flatMap (f := fun p : Org × Value => [i64 p.1.kind, i64 p.1.prod, i64 p.1.mask, p.2]) (fun _ => rfl) (l.zip us) i (l[i], us[i]'(hl ▸ hi)) ?_
  simp [List.getElem?_zip_eq_some, hi, hl ▸ hi]
theorem RdFrom.at {h : Heap} {v : Value} {l : List Org} (hr : RdFrom h v l) {i : Nat} (hi : i < l.length) :
    ∃ id ver own c cells p n c', v = .slice (some ⟨id, 0, some ver⟩) l.length c ∧ h[id]? = some (.arr cells ver own 67) ∧ n = l[i].syms.length ∧
      rdH cells (i * 4) 4 = some [i64 l[i].kind, i64 l[i].prod, i64 l[i].mask, .slice p n c'] ∧ RdInts h (.slice p n c') l[i].syms := by
  obtain ⟨us, hl, hs, hu⟩ := hr
  obtain ⟨id, ver, own, c, rfl, hid⟩ := hs.at (by omega)
  have hi' : i < us.length := hl ▸ hi
  have hS := hu i l[i] us[i] (by simp [hi]) (by simp [hi'])
  obtain ⟨p, c', hp⟩ := SlR.form hS
  refine ⟨id, ver, own, c, _, p, l[i].syms.length, c', rfl, hid, rfl, ?_, ?_⟩
  · rw [← hp]
    exact from_get hl hi
  · rw [← hp]
    exact hS
def PlaceP (l : List ByteArray) (x : ByteArray) (r : Int) : Prop := (∃ (k : Nat) (hk : k < l.length), l[k] = x ∧ (∀ (i : Nat) (hi : i < k), l[i]'(by omega) ≠ x) ∧ r = k) ∨ ((∀ (i : Nat) (hi : i < l.length), l[i] ≠ x) ∧ r = -1)
theorem PlaceP.uniq {l : List ByteArray} {x : ByteArray} {r r' : Int} (h : PlaceP l x r) (h' : PlaceP l x r') : r = r' := by
  rcases h with ⟨k, hk, e, hn, rfl⟩ | ⟨hn, rfl⟩
  · rcases h' with ⟨k', hk', e', hn', rfl⟩ | ⟨hn', rfl⟩
    · rcases (by omega : k < k' ∨ k = k' ∨ k' < k) with g | g | g
      · exact absurd e (hn' k g)
      · rw [g]
      · exact absurd e' (hn k' g)
    · exact absurd e (hn' k hk)
  · rcases h' with ⟨k', hk', e', hn', rfl⟩ | ⟨hn', rfl⟩
    · exact absurd e' (hn k' hk')
    · rfl
end Go.Proofs.YtmdmimkbpikmoaaGreat

namespace Go.Proofs.YtmdmimkbpikmoaaGreat
set_option linter.unusedSimpArgs false
set_option linter.unusedVariables false
set_option maxRecDepth 20000
open Go.RowKit Am Ty
section
variable {h : Heap} {vn : Value} {l : List ByteArray} {b : ByteArray}
set_option maxHeartbeats 2000000 in
theorem index_fw (hn : RdNames h vn l) : FW env 50 [vn, .string b] h fun r h' => (∃ i, PlaceP l b i ∧ r = i64 i) ∧ h' = h := by
  obtain ⟨p, c, rfl⟩ := hn.form
  have hl := hn.le
  refine fw_enter (fn := Tryz.f50) Tryz.func50 rfl (by kernel_rfl) (by simp [Tryz.ntmps50]) ?_; simp only [push_cast]
  repeat (first | apply zs | apply zr | apply zn | ((first | apply zx | apply zy); · simp only [push_cast, env, Nat.reduceEqDiff, reduceIte, Nat.reduceAdd, Nat.reduceMul, Nat.reduceLeDiff, reduceCtorEq, Nat.reduceSub, Int.reduceToNat] <;> first | exact rfl | exact .inl rfl | exact .inr rfl) | apply zq | apply zb | apply zo | apply zk | apply zl)
  refine cw_for l.length (fun k => [(0, .val (.slice p l.length c)), (1, .val (.string b)), (7, .val (i64 l.length)), (8, .val (i64 k))]) (fun _ => h) (fun k => ∀ i (hi : i < l.length), i < k → l[i] ≠ b) (by simp only [push_cast, Nat.reduceEqDiff, reduceIte]) rfl (fun i _ hi => absurd hi (by omega)) ?_
  intro k hk hall
  by_cases hlt : k < l.length
  · obtain ⟨id, ver, own, c', cells, hv, hid, hc⟩ := hn.at hlt
    cases hv
    have e1 := rng hlt
    have e2 := inc hlt hl
    have e3 := lt_dec hlt
    repeat (first | apply zs | apply zr | apply zn | ((first | apply zx | apply zy); · simp only [push_cast, env, Nat.reduceEqDiff, reduceIte, Nat.reduceAdd, Nat.reduceMul, Nat.reduceLeDiff, reduceCtorEq, Nat.reduceSub, Int.reduceToNat, e3] <;> first | exact rfl | exact .inl rfl | exact .inr rfl) | apply zq | apply zb | apply zo | apply zk | apply zl)
    refine cw_condT rfl ?_
    by_cases q : b = l[k]
    · have d : decide (b = l[k]) = true := decide_eq_true q
      repeat (first | apply zs | apply zr | apply zn | ((first | apply zx | apply zy); · simp only [push_cast, env, Nat.reduceEqDiff, reduceIte, Nat.reduceAdd, Nat.reduceMul, Nat.reduceLeDiff, reduceCtorEq, Nat.reduceSub, Int.reduceToNat, e1, hid, hc, d, Nat.mul_one] <;> first | exact rfl | exact .inl rfl | exact .inr rfl) | apply zq | apply zb | apply zo | apply zk | apply zl)
      refine cw_condT rfl ?_
      repeat (first | apply zs | apply zr | apply zn | ((first | apply zx | apply zy); · simp only [push_cast, env, Nat.reduceEqDiff, reduceIte, Nat.reduceAdd, Nat.reduceMul, Nat.reduceLeDiff, reduceCtorEq, Nat.reduceSub, Int.reduceToNat] <;> first | exact rfl | exact .inl rfl | exact .inr rfl) | apply zq | apply zb | apply zo | apply zk | apply zl)
      refine cw_ret ?_
      exact ⟨_, (by simp only [push_cast, env, Nat.reduceEqDiff, reduceIte] <;> exact rfl), ⟨_, .inl ⟨k, hlt, q.symm, fun i hi => hall i (by omega) hi, rfl⟩, rfl⟩, rfl⟩
    · have d : decide (b = l[k]) = false := decide_eq_false q
      repeat (first | apply zs | apply zr | apply zn | ((first | apply zx | apply zy); · simp only [push_cast, env, Nat.reduceEqDiff, reduceIte, Nat.reduceAdd, Nat.reduceMul, Nat.reduceLeDiff, reduceCtorEq, Nat.reduceSub, Int.reduceToNat, e1, hid, hc, d, Nat.mul_one] <;> first | exact rfl | exact .inl rfl | exact .inr rfl) | apply zq | apply zb | apply zo | apply zk | apply zl)
      refine cw_condF rfl ?_
      repeat (first | apply zs | apply zr | apply zn | ((first | apply zx | apply zy); · simp only [push_cast, env, Nat.reduceEqDiff, reduceIte, Nat.reduceAdd, Nat.reduceMul, Nat.reduceLeDiff, reduceCtorEq, Nat.reduceSub, Int.reduceToNat, e2] <;> first | exact rfl | exact .inl rfl | exact .inr rfl) | apply zq | apply zb | apply zo | apply zk | apply zl)
      refine ⟨hlt, (by simp only [push_cast, Nat.reduceEqDiff, reduceIte]), rfl, fun i hi h2 => ?_⟩
      rcases (by omega : i < k ∨ i = k) with h3 | rfl
      · exact hall i hi h3
      · exact fun e => q e.symm
  · have e3 := ge_dec hlt
    obtain rfl : k = l.length := by omega
    repeat (first | apply zs | apply zr | apply zn | ((first | apply zx | apply zy); · simp only [push_cast, env, Nat.reduceEqDiff, reduceIte, Nat.reduceAdd, Nat.reduceMul, Nat.reduceLeDiff, reduceCtorEq, Nat.reduceSub, Int.reduceToNat, e3] <;> first | exact rfl | exact .inl rfl | exact .inr rfl) | apply zq | apply zb | apply zo | apply zk | apply zl)
    refine cw_condF rfl ?_
    refine cw_exit ?_
    show CW _ _ _ _
    repeat (first | apply zs | apply zr | apply zn | ((first | apply zx | apply zy); · simp only [push_cast, env, Nat.reduceEqDiff, reduceIte, Nat.reduceAdd, Nat.reduceMul, Nat.reduceLeDiff, reduceCtorEq, Nat.reduceSub, Int.reduceToNat] <;> first | exact rfl | exact .inl rfl | exact .inr rfl) | apply zq | apply zb | apply zo | apply zk | apply zl)
    refine cw_ret ?_
    exact ⟨_, (by simp only [push_cast, env, Nat.reduceEqDiff, reduceIte] <;> exact rfl), ⟨_, .inr ⟨fun i hi => hall i hi hi, rfl⟩, rfl⟩, rfl⟩
set_option maxHeartbeats 2000000 in
theorem rplace_fw (hn : RdNames h vn l) : FW env 52 [vn, .string b] h fun r h' => (∃ i, PlaceP l b i ∧ r = i64 i) ∧ h' = h := by
  obtain ⟨p, c, rfl⟩ := hn.form
  have hl := hn.le
  refine fw_enter (fn := Tryz.f52) Tryz.func52 rfl (by kernel_rfl) (by simp [Tryz.ntmps52]) ?_; simp only [push_cast]
  repeat (first | apply zs | apply zr | apply zn | ((first | apply zx | apply zy); · simp only [push_cast, env, Nat.reduceEqDiff, reduceIte, Nat.reduceAdd, Nat.reduceMul, Nat.reduceLeDiff, reduceCtorEq, Nat.reduceSub, Int.reduceToNat] <;> first | exact rfl | exact .inl rfl | exact .inr rfl) | apply zq | apply zb | apply zo | apply zk | apply zl)
  refine cw_for l.length (fun k => [(0, .val (.slice p l.length c)), (1, .val (.string b)), (5, .val (i64 k))]) (fun _ => h) (fun k => ∀ i (hi : i < l.length), i < k → l[i] ≠ b) (by simp only [push_cast, Nat.reduceEqDiff, reduceIte]) rfl (fun i _ hi => absurd hi (by omega)) ?_
  intro k hk hall
  by_cases hlt : k < l.length
  · obtain ⟨id, ver, own, c', cells, hv, hid, hc⟩ := hn.at hlt
    cases hv
    have e1 := rng hlt
    have e2 := inc hlt hl
    have e3 := lt_dec hlt
    repeat (first | apply zs | apply zr | apply zn | ((first | apply zx | apply zy); · simp only [push_cast, env, Nat.reduceEqDiff, reduceIte, Nat.reduceAdd, Nat.reduceMul, Nat.reduceLeDiff, reduceCtorEq, Nat.reduceSub, Int.reduceToNat, e3] <;> first | exact rfl | exact .inl rfl | exact .inr rfl) | apply zq | apply zb | apply zo | apply zk | apply zl)
    refine cw_condT rfl ?_
    by_cases q : l[k] = b
    · have d : decide (l[k] = b) = true := decide_eq_true q
      repeat (first | apply zs | apply zr | apply zn | ((first | apply zx | apply zy); · simp only [push_cast, env, Nat.reduceEqDiff, reduceIte, Nat.reduceAdd, Nat.reduceMul, Nat.reduceLeDiff, reduceCtorEq, Nat.reduceSub, Int.reduceToNat, e1, hid, hc, d, Nat.mul_one] <;> first | exact rfl | exact .inl rfl | exact .inr rfl) | apply zq | apply zb | apply zo | apply zk | apply zl)
      refine cw_condT rfl ?_
      repeat (first | apply zs | apply zr | apply zn | ((first | apply zx | apply zy); · simp only [push_cast, env, Nat.reduceEqDiff, reduceIte, Nat.reduceAdd, Nat.reduceMul, Nat.reduceLeDiff, reduceCtorEq, Nat.reduceSub, Int.reduceToNat] <;> first | exact rfl | exact .inl rfl | exact .inr rfl) | apply zq | apply zb | apply zo | apply zk | apply zl)
      refine cw_ret ?_
      exact ⟨_, (by simp only [push_cast, env, Nat.reduceEqDiff, reduceIte] <;> exact rfl), ⟨_, .inl ⟨k, hlt, q, fun i hi => hall i (by omega) hi, rfl⟩, rfl⟩, rfl⟩
    · have d : decide (l[k] = b) = false := decide_eq_false q
      repeat (first | apply zs | apply zr | apply zn | ((first | apply zx | apply zy); · simp only [push_cast, env, Nat.reduceEqDiff, reduceIte, Nat.reduceAdd, Nat.reduceMul, Nat.reduceLeDiff, reduceCtorEq, Nat.reduceSub, Int.reduceToNat, e1, hid, hc, d, Nat.mul_one] <;> first | exact rfl | exact .inl rfl | exact .inr rfl) | apply zq | apply zb | apply zo | apply zk | apply zl)
      refine cw_condF rfl ?_
      repeat (first | apply zs | apply zr | apply zn | ((first | apply zx | apply zy); · simp only [push_cast, env, Nat.reduceEqDiff, reduceIte, Nat.reduceAdd, Nat.reduceMul, Nat.reduceLeDiff, reduceCtorEq, Nat.reduceSub, Int.reduceToNat, e2] <;> first | exact rfl | exact .inl rfl | exact .inr rfl) | apply zq | apply zb | apply zo | apply zk | apply zl)
      refine ⟨hlt, (by simp only [push_cast, Nat.reduceEqDiff, reduceIte]), rfl, fun i hi h2 => ?_⟩
      rcases (by omega : i < k ∨ i = k) with h3 | rfl
      · exact hall i hi h3
      · exact q
  · have e3 := ge_dec hlt
    obtain rfl : k = l.length := by omega
    repeat (first | apply zs | apply zr | apply zn | ((first | apply zx | apply zy); · simp only [push_cast, env, Nat.reduceEqDiff, reduceIte, Nat.reduceAdd, Nat.reduceMul, Nat.reduceLeDiff, reduceCtorEq, Nat.reduceSub, Int.reduceToNat, e3] <;> first | exact rfl | exact .inl rfl | exact .inr rfl) | apply zq | apply zb | apply zo | apply zk | apply zl)
    refine cw_condF rfl ?_
    refine cw_exit ?_
    show CW _ _ _ _
    repeat (first | apply zs | apply zr | apply zn | ((first | apply zx | apply zy); · simp only [push_cast, env, Nat.reduceEqDiff, reduceIte, Nat.reduceAdd, Nat.reduceMul, Nat.reduceLeDiff, reduceCtorEq, Nat.reduceSub, Int.reduceToNat] <;> first | exact rfl | exact .inl rfl | exact .inr rfl) | apply zq | apply zb | apply zo | apply zk | apply zl)
    refine cw_ret ?_
    exact ⟨_, (by simp only [push_cast, env, Nat.reduceEqDiff, reduceIte] <;> exact rfl), ⟨_, .inr ⟨fun i hi => hall i hi hi, rfl⟩, rfl⟩, rfl⟩
def SortP (l : List ByteArray) (b : ByteArray) (i : Int) : Prop := if isName b = true then PlaceP l b i else i = -1
theorem SortP.uniq {i j : Int} (h1 : SortP l b i) (h2 : SortP l b j) : i = j := by
  unfold SortP at h1 h2
  split at h1
  · rename_i q
    rw [if_pos q] at h2
    exact h1.uniq h2
  · rename_i q
    rw [if_neg q] at h2
    rw [h1, h2]
def RdKern0 (h : Heap) (v : Value) (fr : List Org) (l : List ByteArray) : Prop :=
  ∃ (s0 s1 : ByteArray) (p2 p3 p4 p5 p6 p9 p12 p13 p14 : Option Addr) (n2 n3 n4 n5 n6 n9 n12 n13 n14 c2 c3 c4 c5 c6 c9 c12 c13 c14 : Nat) (i7 i8 : Int) (uf un : Value), v = .agg #[.string s0, .string s1, .slice p2 n2 c2, .slice p3 n3 c3, .slice p4 n4 c4, .slice p5 n5 c5, .slice p6 n6 c6, i64 i7, i64 i8, .slice p9 n9 c9, uf, un, .slice p12 n12 c12, .slice p13 n13 c13, .slice p14 n14 c14] ∧ RdFrom h uf fr ∧ RdNames h un l
set_option maxHeartbeats 4000000 in
theorem ksort_fw {v : Value} {fr : List Org} (hk : RdKern0 h v fr l) (hb : b.size ≤ 140737488355328) : FW env 19 [v, .string b] h fun r h' => (∃ i, SortP l b i ∧ r = i64 i) ∧ h' = h := by
  obtain ⟨s0, s1, p2, p3, p4, p5, p6, p9, p12, p13, p14, n2, n3, n4, n5, n6, n9, n12, n13, n14, c2, c3, c4, c5, c6, c9, c12, c13, c14, i7, i8, uf, un, rfl, hf, hn⟩ := hk
  obtain ⟨pf, cf, rfl⟩ := hf.form
  obtain ⟨pn, cn, rfl⟩ := hn.form
  refine fw_enter (fn := Tryz.f19) Tryz.func19 rfl (by kernel_rfl) (by simp [Tryz.ntmps19]) ?_; simp only [push_cast]
  repeat (first | apply zs | apply zr | apply zn | ((first | apply zx | apply zy); · simp only [push_cast, env, Nat.reduceEqDiff, reduceIte, Nat.reduceAdd, Nat.reduceMul, Nat.reduceLeDiff, reduceCtorEq, Nat.reduceSub, Int.reduceToNat] <;> first | exact rfl | exact .inl rfl | exact .inr rfl) | apply zq | apply zb | apply zo | apply zk | apply zl)
  refine zc (fn := Tryz.f49) (by simp only [push_cast, env, Nat.reduceEqDiff, reduceIte] <;> exact rfl) Tryz.func49 (by kernel_rfl) (by kernel_rfl) ?_
  refine (wname_fw hb).mono ?_
  rintro _ h1 ⟨rfl, rfl⟩
  cases q : isName b with
  | false =>
    repeat (first | apply zs | apply zr | apply zn | ((first | apply zx | apply zy); · simp only [push_cast, env, Nat.reduceEqDiff, reduceIte, Nat.reduceAdd, Nat.reduceMul, Nat.reduceLeDiff, reduceCtorEq, Nat.reduceSub, Int.reduceToNat] <;> first | exact rfl | exact .inl rfl | exact .inr rfl) | apply zq | apply zb | apply zo | apply zk | apply zl)
    refine cw_condT rfl ?_
    repeat (first | apply zs | apply zr | apply zn | ((first | apply zx | apply zy); · simp only [push_cast, env, Nat.reduceEqDiff, reduceIte, Nat.reduceAdd, Nat.reduceMul, Nat.reduceLeDiff, reduceCtorEq, Nat.reduceSub, Int.reduceToNat] <;> first | exact rfl | exact .inl rfl | exact .inr rfl) | apply zq | apply zb | apply zo | apply zk | apply zl)
    refine cw_ret ?_
    exact ⟨_, (by simp only [push_cast, env, Nat.reduceEqDiff, reduceIte] <;> exact rfl), ⟨_, by unfold SortP; rw [q]; exact rfl, rfl⟩, rfl⟩
  | true =>
    repeat (first | apply zs | apply zr | apply zn | ((first | apply zx | apply zy); · simp only [push_cast, env, Nat.reduceEqDiff, reduceIte, Nat.reduceAdd, Nat.reduceMul, Nat.reduceLeDiff, reduceCtorEq, Nat.reduceSub, Int.reduceToNat] <;> first | exact rfl | exact .inl rfl | exact .inr rfl) | apply zq | apply zb | apply zo | apply zk | apply zl)
    refine cw_condF rfl ?_
    repeat (first | apply zs | apply zr | apply zn | ((first | apply zx | apply zy); · simp only [push_cast, env, Nat.reduceEqDiff, reduceIte, Nat.reduceAdd, Nat.reduceMul, Nat.reduceLeDiff, reduceCtorEq, Nat.reduceSub, Int.reduceToNat] <;> first | exact rfl | exact .inl rfl | exact .inr rfl) | apply zq | apply zb | apply zo | apply zk | apply zl)
    refine zc (fn := Tryz.f50) (by simp only [push_cast, env, Nat.reduceEqDiff, reduceIte] <;> exact rfl) Tryz.func50 (by kernel_rfl) (by kernel_rfl) ?_
    refine (index_fw hn).mono ?_
    rintro _ h1 ⟨⟨i, hi, rfl⟩, rfl⟩
    repeat (first | apply zs | apply zr | apply zn | ((first | apply zx | apply zy); · simp only [push_cast, env, Nat.reduceEqDiff, reduceIte, Nat.reduceAdd, Nat.reduceMul, Nat.reduceLeDiff, reduceCtorEq, Nat.reduceSub, Int.reduceToNat] <;> first | exact rfl | exact .inl rfl | exact .inr rfl) | apply zq | apply zb | apply zo | apply zk | apply zl)
    refine cw_ret ?_
    exact ⟨_, (by simp only [push_cast, env, Nat.reduceEqDiff, reduceIte] <;> exact rfl), ⟨_, by unfold SortP; rw [q]; exact hi, rfl⟩, rfl⟩
set_option maxHeartbeats 4000000 in
theorem rsort_fw {v : Value} {fr : List Org} (hk : RdKern0 h v fr l) (hb : b.size ≤ 140737488355328) : FW env 20 [v, .string b] h fun r h' => (∃ i, SortP l b i ∧ r = i64 i) ∧ h' = h := by
  obtain ⟨s0, s1, p2, p3, p4, p5, p6, p9, p12, p13, p14, n2, n3, n4, n5, n6, n9, n12, n13, n14, c2, c3, c4, c5, c6, c9, c12, c13, c14, i7, i8, uf, un, rfl, hf, hn⟩ := hk
  obtain ⟨pf, cf, rfl⟩ := hf.form
  obtain ⟨pn, cn, rfl⟩ := hn.form
  refine fw_enter (fn := Tryz.f20) Tryz.func20 rfl (by kernel_rfl) (by simp [Tryz.ntmps20]) ?_; simp only [push_cast]
  repeat (first | apply zs | apply zr | apply zn | ((first | apply zx | apply zy); · simp only [push_cast, env, Nat.reduceEqDiff, reduceIte, Nat.reduceAdd, Nat.reduceMul, Nat.reduceLeDiff, reduceCtorEq, Nat.reduceSub, Int.reduceToNat] <;> first | exact rfl | exact .inl rfl | exact .inr rfl) | apply zq | apply zb | apply zo | apply zk | apply zl)
  refine zc (fn := Tryz.f51) (by simp only [push_cast, env, Nat.reduceEqDiff, reduceIte] <;> exact rfl) Tryz.func51 (by kernel_rfl) (by kernel_rfl) ?_
  refine (rname_fw hb).mono ?_
  rintro _ h1 ⟨rfl, rfl⟩
  cases q : isName b with
  | false =>
    repeat (first | apply zs | apply zr | apply zn | ((first | apply zx | apply zy); · simp only [push_cast, env, Nat.reduceEqDiff, reduceIte, Nat.reduceAdd, Nat.reduceMul, Nat.reduceLeDiff, reduceCtorEq, Nat.reduceSub, Int.reduceToNat] <;> first | exact rfl | exact .inl rfl | exact .inr rfl) | apply zq | apply zb | apply zo | apply zk | apply zl)
    refine cw_condT rfl ?_
    repeat (first | apply zs | apply zr | apply zn | ((first | apply zx | apply zy); · simp only [push_cast, env, Nat.reduceEqDiff, reduceIte, Nat.reduceAdd, Nat.reduceMul, Nat.reduceLeDiff, reduceCtorEq, Nat.reduceSub, Int.reduceToNat] <;> first | exact rfl | exact .inl rfl | exact .inr rfl) | apply zq | apply zb | apply zo | apply zk | apply zl)
    refine cw_ret ?_
    exact ⟨_, (by simp only [push_cast, env, Nat.reduceEqDiff, reduceIte] <;> exact rfl), ⟨_, by unfold SortP; rw [q]; exact rfl, rfl⟩, rfl⟩
  | true =>
    repeat (first | apply zs | apply zr | apply zn | ((first | apply zx | apply zy); · simp only [push_cast, env, Nat.reduceEqDiff, reduceIte, Nat.reduceAdd, Nat.reduceMul, Nat.reduceLeDiff, reduceCtorEq, Nat.reduceSub, Int.reduceToNat] <;> first | exact rfl | exact .inl rfl | exact .inr rfl) | apply zq | apply zb | apply zo | apply zk | apply zl)
    refine cw_condF rfl ?_
    repeat (first | apply zs | apply zr | apply zn | ((first | apply zx | apply zy); · simp only [push_cast, env, Nat.reduceEqDiff, reduceIte, Nat.reduceAdd, Nat.reduceMul, Nat.reduceLeDiff, reduceCtorEq, Nat.reduceSub, Int.reduceToNat] <;> first | exact rfl | exact .inl rfl | exact .inr rfl) | apply zq | apply zb | apply zo | apply zk | apply zl)
    refine zc (fn := Tryz.f52) (by simp only [push_cast, env, Nat.reduceEqDiff, reduceIte] <;> exact rfl) Tryz.func52 (by kernel_rfl) (by kernel_rfl) ?_
    refine (rplace_fw hn).mono ?_
    rintro _ h1 ⟨⟨i, hi, rfl⟩, rfl⟩
    repeat (first | apply zs | apply zr | apply zn | ((first | apply zx | apply zy); · simp only [push_cast, env, Nat.reduceEqDiff, reduceIte, Nat.reduceAdd, Nat.reduceMul, Nat.reduceLeDiff, reduceCtorEq, Nat.reduceSub, Int.reduceToNat] <;> first | exact rfl | exact .inl rfl | exact .inr rfl) | apply zq | apply zb | apply zo | apply zk | apply zl)
    refine cw_ret ?_
    exact ⟨_, (by simp only [push_cast, env, Nat.reduceEqDiff, reduceIte] <;> exact rfl), ⟨_, by unfold SortP; rw [q]; exact hi, rfl⟩, rfl⟩
theorem RdKern0.mono {h h' : Heap} {v : Value} {fr : List Org} {l : List ByteArray} (hr : RdKern0 h v fr l) (hp : h <+: h') : RdKern0 h' v fr l := by
  obtain ⟨s0, s1, p2, p3, p4, p5, p6, p9, p12, p13, p14, n2, n3, n4, n5, n6, n9, n12, n13, n14, c2, c3, c4, c5, c6, c9, c12, c13, c14, i7, i8, uf, un, rfl, hf, hn⟩ := hr
  obtain ⟨pf, cf, rfl⟩ := hf.form
  obtain ⟨pn, cn, rfl⟩ := hn.form
  exact ⟨_, _, _, _, _, _, _, _, _, _, _, _, _, _, _, _, _, _, _, _, _, _, _, _, _, _, _, _, _, _, _, _, _, rfl, hf.mono hp, hn.mono hp⟩
end
end Go.Proofs.YtmdmimkbpikmoaaGreat

namespace Go.Proofs.YtmdmimkbpikmoaaGreat
set_option linter.unusedSimpArgs false
set_option linter.unusedVariables false
set_option maxRecDepth 20000
open Go.ChangeShapes Go.WideShapes Go.ChangeAt Go.RowKit Am Ty

def kernTs : List TypeId := [43, 28, 34, 35, 67, 36, 9, 41, 22, 51, 4, 49, 56, 3, 54, 52, 23, 80, 82,
  24, 112, 25, 114, 26, 85, 83, 136, 32, 63, 61, 65, 39, 37, 70, 38]
set_option maxRecDepth 100000 in
theorem kernTs_ok : kernTs.all (kindB Tryz.prog kernTs) = true := by kernel_rfl
theorem rd_str {h : Heap} {n : Nat} {vs : List Value} (k : RdT Tryz.prog h n 9 vs) : ∃ s : ByteArray, vs = [.string s] ∧ s.size ≤ 140737488355328 := by
  cases n with
  | zero => exact k.elim
  | succ n =>
    unfold RdT at k
    rw [show Tryz.prog.underlying 9 = some .string by kernel_rfl] at k
    obtain ⟨s, h1, h2⟩ := k
    exact ⟨s, h1, Nat.le_trans h2 (by decide)⟩
theorem flat1 {α : Type} {f : α → Value} : ∀ l : List α, l.flatMap (fun x => [f x]) = l.map f
  | [] => rfl
  | x :: l => by rw [List.flatMap_cons, flat1 l]; rfl
theorem rd_slice {h : Heap} {n : Nat} {t e : TypeId} {vs : List Value} (hu : Tryz.prog.underlying t = some (.slice e)) (k : RdT Tryz.prog h n t vs) : ∃ p m c, vs = [.slice p m c] := by
  cases n with
  | zero => exact k.elim
  | succ n =>
    unfold RdT at k
    rw [hu] at k
    rcases k with rfl | rfl | ⟨id, len, c, cells, rfl, _⟩
    · exact ⟨_, _, _, rfl⟩
    · exact ⟨_, _, _, rfl⟩
    · exact ⟨_, _, _, rfl⟩
theorem rd_ints {h : Heap} {n : Nat} {vs : List Value} (k : RdT Tryz.prog h n 39 vs) : ∃ u l, vs = [u] ∧ RdInts h u l := by
  cases n with
  | zero => exact k.elim
  | succ n =>
    unfold RdT at k
    rw [show Tryz.prog.underlying 39 = some (.slice 3) by kernel_rfl] at k
    rcases k with rfl | rfl | ⟨id, len, c, cells, rfl, hb, hid, he⟩
    · exact ⟨_, [], rfl, ⟨by simp, .inl ⟨.inl rfl, rfl, rfl⟩⟩⟩
    · exact ⟨_, [], rfl, ⟨by simp, .inl ⟨.inr rfl, rfl, rfl⟩⟩⟩
    · obtain ⟨l, rfl, rfl, hq⟩ := es_map (f := fun i => [i64 i]) (Q := fun _ => True) (fun vs h => (rd_int h).imp fun i k => ⟨k.1, trivial⟩) he
      rw [show Tryz.prog.bytesOf 3 = 8 by kernel_rfl] at hb
      rw [flat1] at hid
      exact ⟨_, l, rfl, ⟨Nat.le_trans hb (by decide), .inr ⟨id, 0, false, c, rfl, hid⟩⟩⟩
theorem rd_names {h : Heap} {n : Nat} {vs : List Value} (k : RdT Tryz.prog h n 36 vs) : ∃ u l, vs = [u] ∧ RdNames h u l ∧ ∀ s ∈ l, s.size ≤ 140737488355328 := by
  cases n with
  | zero => exact k.elim
  | succ n =>
    unfold RdT at k
    rw [show Tryz.prog.underlying 36 = some (.slice 9) by kernel_rfl] at k
    rcases k with rfl | rfl | ⟨id, len, c, cells, rfl, hb, hid, he⟩
    · exact ⟨_, [], rfl, ⟨by simp, .inl ⟨.inl rfl, rfl, rfl⟩⟩, by simp⟩
    · exact ⟨_, [], rfl, ⟨by simp, .inl ⟨.inr rfl, rfl, rfl⟩⟩, by simp⟩
    · obtain ⟨l, rfl, rfl, hq⟩ := es_map (f := fun s => [Value.string s]) (Q := fun s => s.size ≤ 140737488355328) (fun vs h => rd_str h) he
      rw [show Tryz.prog.bytesOf 9 = 16 by kernel_rfl] at hb
      rw [flat1] at hid
      exact ⟨_, l, rfl, ⟨Nat.le_trans hb (by decide), .inr ⟨id, 0, false, c, rfl, hid⟩⟩, hq⟩
theorem rd_origin {h : Heap} {n : Nat} {vs : List Value} (k : RdT Tryz.prog h n 67 vs) : ∃ p : Org × Value, vs = [i64 p.1.kind, i64 p.1.prod, i64 p.1.mask, p.2] ∧ RdInts h p.2 p.1.syms := by
  cases n with
  | zero => exact k.elim
  | succ n =>
    obtain ⟨a, b, rfl, _, h1, c, d, rfl, _, h2, e, f, rfl, _, h3, x, y, rfl, _, h4, rfl⟩ := rd_struct (l := [3, 3, 3, 39]) (by kernel_rfl) (by kernel_rfl) k
    obtain ⟨i, rfl, _⟩ := rd_int h1
    obtain ⟨j, rfl, _⟩ := rd_int h2
    obtain ⟨m, rfl, _⟩ := rd_int h3
    obtain ⟨u, l, rfl, hl⟩ := rd_ints h4
    exact ⟨⟨⟨i, j, m, l⟩, u⟩, rfl, hl⟩
theorem rd_from {h : Heap} {n : Nat} {vs : List Value} (k : RdT Tryz.prog h n 35 vs) : ∃ u l, vs = [u] ∧ RdFrom h u l := by
  cases n with
  | zero => exact k.elim
  | succ n =>
    unfold RdT at k
    rw [show Tryz.prog.underlying 35 = some (.slice 67) by kernel_rfl] at k
    rcases k with rfl | rfl | ⟨id, len, c, cells, rfl, hb, hid, he⟩
    · exact ⟨_, [], rfl, ⟨[], rfl, ⟨by simp, .inl ⟨.inl rfl, rfl, rfl⟩⟩, fun i r u h => by simp at h⟩⟩
    · exact ⟨_, [], rfl, ⟨[], rfl, ⟨by simp, .inl ⟨.inr rfl, rfl, rfl⟩⟩, fun i r u h => by simp at h⟩⟩
    · obtain ⟨z, rfl, rfl, hz⟩ := es_map (f := fun p : Org × Value => [i64 p.1.kind, i64 p.1.prod, i64 p.1.mask, p.2]) (Q := fun p => RdInts h p.2 p.1.syms) (fun vs h => rd_origin h) he
      rw [show Tryz.prog.bytesOf 67 = 48 by kernel_rfl] at hb
      refine ⟨_, z.map (·.1), rfl, ⟨z.map (·.2), by simp, ⟨by rw [List.length_map]; exact Nat.le_trans hb (by decide), .inr ⟨id, 0, false, c, by rw [List.length_map], by rw [zip_fst_snd]; exact hid⟩⟩, fun i r u h1 h2 => ?_⟩⟩
      rw [List.getElem?_map, Option.map_eq_some_iff] at h1 h2
      obtain ⟨p, h3, rfl⟩ := h1
      obtain ⟨q, h4, rfl⟩ := h2
      obtain rfl := Option.some.inj (h3.symm.trans h4)
      exact hz p (List.mem_of_getElem? h3)
theorem rd_kern0 {h : Heap} {n : Nat} {vs : List Value} (k : RdT Tryz.prog h n 43 vs) : ∃ fr l, RdKern0 h (.agg vs.toArray) fr l := by
  match n, k with
  | 0, k => exact k.elim
  | 1, k =>
    obtain ⟨a, b, rfl, _, h1, _⟩ := rd_struct (l := [28, 34, 35, 36, 41]) (by kernel_rfl) (by kernel_rfl) k
    exact h1.elim
  | n + 2, k =>
    obtain ⟨a, b, rfl, _, h1, c, d, rfl, _, h2, e, f, rfl, _, h3, x, y, rfl, _, h4, z, w, rfl, _, h5, rfl⟩ := rd_struct (l := [28, 34, 35, 36, 41]) (by kernel_rfl) (by kernel_rfl) k
    obtain ⟨a0, b0, rfl, _, k0, a1, b1, rfl, _, k1, a2, b2, rfl, _, k2, a3, b3, rfl, _, k3, a4, b4, rfl, _, k4, a5, b5, rfl, _, k5, a6, b6, rfl, _, k6, rfl⟩ := rd_struct (l := [9, 9, 22, 23, 24, 25, 26]) (by kernel_rfl) (by kernel_rfl) h1
    obtain ⟨a7, b7, rfl, _, k7, a8, b8, rfl, _, k8, a9, b9, rfl, _, k9, rfl⟩ := rd_struct (l := [3, 3, 32]) (by kernel_rfl) (by kernel_rfl) h2
    obtain ⟨aa, ba, rfl, _, ka, ab, bb, rfl, _, kb, ac, bc, rfl, _, kc, rfl⟩ := rd_struct (l := [37, 38, 39]) (by kernel_rfl) (by kernel_rfl) h5
    obtain ⟨s0, rfl, _⟩ := rd_str k0
    obtain ⟨s1, rfl, _⟩ := rd_str k1
    obtain ⟨p2, n2, c2, rfl⟩ := rd_slice (e := 51) (by kernel_rfl) k2
    obtain ⟨p3, n3, c3, rfl⟩ := rd_slice (e := 80) (by kernel_rfl) k3
    obtain ⟨p4, n4, c4, rfl⟩ := rd_slice (e := 112) (by kernel_rfl) k4
    obtain ⟨p5, n5, c5, rfl⟩ := rd_slice (e := 114) (by kernel_rfl) k5
    obtain ⟨p6, n6, c6, rfl⟩ := rd_slice (e := 85) (by kernel_rfl) k6
    obtain ⟨i7, rfl, _⟩ := rd_int k7
    obtain ⟨i8, rfl, _⟩ := rd_int k8
    obtain ⟨p9, n9, c9, rfl⟩ := rd_slice (e := 63) (by kernel_rfl) k9
    obtain ⟨uf, fr, rfl, hf⟩ := rd_from h3
    obtain ⟨un, l, rfl, hn, _⟩ := rd_names h4
    obtain ⟨pa, na, ca, rfl⟩ := rd_slice (e := 70) (by kernel_rfl) ka
    obtain ⟨pb, nb, cb, rfl⟩ := rd_slice (e := 54) (by kernel_rfl) kb
    obtain ⟨pc, nc, cc, rfl⟩ := rd_slice (e := 3) (by kernel_rfl) kc
    exact ⟨fr, l, _, _, _, _, _, _, _, _, _, _, _, _, _, _, _, _, _, _, _, _, _, _, _, _, _, _, _, _, _, _, _, _, _, rfl, hf, hn⟩
theorem rda_kern0 {h : Heap} {a : Value} (k : RdA Tryz.prog h 43 a) : ∃ fr l, RdKern0 h a fr l := by
  obtain ⟨n, vs, k, ⟨_, rfl⟩ | ⟨h1, _⟩⟩ := k
  · exact rd_kern0 k
  · have : isAggT Tryz.prog 43 = true := by kernel_rfl
    rw [this] at h1
    cases h1
theorem rda_str {h : Heap} {a : Value} (k : RdA Tryz.prog h 9 a) : ∃ s : ByteArray, a = .string s ∧ s.size ≤ 140737488355328 := by
  obtain ⟨n, vs, k, ⟨h1, _⟩ | ⟨_, rfl⟩⟩ := k
  · have : isAggT Tryz.prog 9 = false := by kernel_rfl
    rw [this] at h1
    cases h1
  · obtain ⟨s, e, hs⟩ := rd_str k
    exact ⟨s, by simpa using e, hs⟩
end Go.Proofs.YtmdmimkbpikmoaaGreat

namespace Go.Proofs.YtmdmimkbpikmoaaGreat
set_option linter.unusedSimpArgs false
set_option linter.unusedVariables false
set_option maxRecDepth 20000
open Go.RowKit Am Ty

def selB (l : List Org) (p : Int) (i : Nat) : Bool := match l[i]? with
  | some o => decide (o.kind = 0) && decide (o.prod = p)
  | none => false
def rulesN (l : List Org) (p : Int) (n : Nat) : List Int := ((List.range n).filter (selB l p)).map Int.ofNat
theorem rulesN_succ {l : List Org} {p : Int} {n : Nat} : rulesN l p (n + 1) = if selB l p n = true then rulesN l p n ++ [(n : Int)] else rulesN l p n := by
  unfold rulesN
  rw [List.range_succ, List.filter_append, List.map_append]
  cases h : selB l p n <;> simp [h]
theorem rulesN_len {l : List Org} {p : Int} {n : Nat} : (rulesN l p n).length ≤ n := by
  unfold rulesN
  rw [List.length_map]
  exact Nat.le_trans (List.length_filter_le _ _) (by simp)
theorem selB_at {l : List Org} {p : Int} {i : Nat} (hi : i < l.length) : selB l p i = (decide (l[i].kind = 0) && decide (l[i].prod = p)) := by
  unfold selB
  rw [List.getElem?_eq_getElem hi]
section
variable {h : Heap} {v : Value} {fr : List Org} {l : List ByteArray} {b : ByteArray} {p : Int}
set_option maxHeartbeats 4000000 in
theorem krules_fw (hk : RdKern0 h v fr l) (hm : fr.length ≤ 4096) : FW env 22 [v, i64 p] h fun r h' => h <+: h' ∧ Grow h h' r (rulesN fr p fr.length).length ((rulesN fr p fr.length).map i64) 3 := by
  obtain ⟨s0, s1, p2, p3, p4, p5, p6, p9, p12, p13, p14, n2, n3, n4, n5, n6, n9, n12, n13, n14, c2, c3, c4, c5, c6, c9, c12, c13, c14, i7, i8, uf, un, rfl, hf, hn⟩ := hk
  obtain ⟨pf, cf, rfl⟩ := hf.form
  obtain ⟨pn, cn, rfl⟩ := hn.form
  have z0 : (rulesN fr p 0).length = 0 := rfl
  refine fw_enter (fn := Tryz.f22) Tryz.func22 rfl (by kernel_rfl) (by simp [Tryz.ntmps22]) ?_; simp only [push_cast]
  repeat (first | apply zs | apply zr | apply zn | ((first | apply zx | apply zy); · simp only [push_cast, env, Nat.reduceEqDiff, reduceIte, Nat.reduceAdd, Nat.reduceMul, Nat.reduceLeDiff, reduceCtorEq, Nat.reduceSub, Int.reduceToNat] <;> first | exact rfl | exact .inl rfl | exact .inr rfl) | apply zq | apply zb | apply zo | apply zk | apply zl)
  refine cw_forG fr.length (fun k (x : Heap × Option Addr × Nat) => [(1, .val (i64 p)), (5, .val (.slice x.2.1 (rulesN fr p k).length x.2.2)), (9, .val (.slice pf fr.length cf)), (10, .val (i64 fr.length)), (11, .val (i64 k))]) (fun _ x => x.1)
    (fun k x => h <+: x.1 ∧ Grow h x.1 (.slice x.2.1 (rulesN fr p k).length x.2.2) (rulesN fr p k).length ((rulesN fr p k).map i64) 3) (h, none, 0) (by simp only [push_cast, Nat.reduceEqDiff, reduceIte, z0]) rfl ⟨List.prefix_refl _, Grow.nil⟩ ?_
  rintro k ⟨hk, q, cq⟩ hkn ⟨hp, hG⟩
  simp only at hp hG ⊢
  have hlen : (rulesN fr p k).length ≤ k := rulesN_len
  by_cases hlt : k < fr.length
  · have hf' := hf.mono hp
    obtain ⟨id, ver, own, c', cells, ps, ns, cs, hv, hid, _, hc, _⟩ := hf'.at hlt
    cases hv
    have e1 := rng hlt
    have e2 := inc hlt hf.le
    have e3 := lt_dec hlt
    have hs := rulesN_succ (l := fr) (p := p) (n := k)
    rw [selB_at hlt] at hs
    repeat (first | apply zs | apply zr | apply zn | ((first | apply zx | apply zy); · simp only [push_cast, env, Nat.reduceEqDiff, reduceIte, Nat.reduceAdd, Nat.reduceMul, Nat.reduceLeDiff, reduceCtorEq, Nat.reduceSub, Int.reduceToNat, e3] <;> first | exact rfl | exact .inl rfl | exact .inr rfl) | apply zq | apply zb | apply zo | apply zk | apply zl)
    refine cw_condT rfl ?_
    by_cases q1 : fr[k].kind = 0
    · by_cases q2 : fr[k].prod = p
      · rw [if_pos (by simp [q1, q2])] at hs
        have hs2 : (rulesN fr p (k + 1)).length = (rulesN fr p k).length + 1 := by rw [hs]; simp
        repeat (first | apply zs | apply zr | apply zn | ((first | apply zx | apply zy); · simp only [push_cast, env, Nat.reduceEqDiff, reduceIte, Nat.reduceAdd, Nat.reduceMul, Nat.reduceLeDiff, reduceCtorEq, Nat.reduceSub, Int.reduceToNat, e1, hid, hc, q1, q2, decide_true] <;> first | exact rfl | exact .inl rfl | exact .inr rfl) | apply zq | apply zb | apply zo | apply zk | apply zl)
        refine cw_condT rfl ?_
        repeat (first | apply zs | apply zr | apply zn | ((first | apply zx | apply zy); · simp only [push_cast, env, Nat.reduceEqDiff, reduceIte, Nat.reduceAdd, Nat.reduceMul, Nat.reduceLeDiff, reduceCtorEq, Nat.reduceSub, Int.reduceToNat] <;> first | exact rfl | exact .inl rfl | exact .inr rfl) | apply zq | apply zb | apply zo | apply zk | apply zl)
        refine ow_pushI (l := rulesN fr p k) (b := k) (h := h) (by simp only [push_cast, env, Nat.reduceEqDiff, reduceIte] <;> exact rfl) rfl (by simp only [push_cast, env, Nat.reduceEqDiff, reduceIte] <;> exact rfl) (by simp only [push_cast, env, Nat.reduceEqDiff, reduceIte] <;> exact rfl) hG hp (by omega) ?_
        intro p' c' h' k1 k2 _ _
        repeat (first | apply zs | apply zr | apply zn | ((first | apply zx | apply zy); · simp only [push_cast, env, Nat.reduceEqDiff, reduceIte, Nat.reduceAdd, Nat.reduceMul, Nat.reduceLeDiff, reduceCtorEq, Nat.reduceSub, Int.reduceToNat, e2] <;> first | exact rfl | exact .inl rfl | exact .inr rfl) | apply zq | apply zb | apply zo | apply zk | apply zl)
        refine ⟨hlt, (h', p', c'), ?_, rfl, k2, ?_⟩
        · exact (by simp only [push_cast, Nat.reduceEqDiff, reduceIte, hs2])
        · rw [hs]
          simpa using k1
      · rw [if_neg (by simp [q2])] at hs
        repeat (first | apply zs | apply zr | apply zn | ((first | apply zx | apply zy); · simp only [push_cast, env, Nat.reduceEqDiff, reduceIte, Nat.reduceAdd, Nat.reduceMul, Nat.reduceLeDiff, reduceCtorEq, Nat.reduceSub, Int.reduceToNat, e1, hid, hc, q1, q2, decide_true, decide_false] <;> first | exact rfl | exact .inl rfl | exact .inr rfl) | apply zq | apply zb | apply zo | apply zk | apply zl)
        refine cw_condF rfl ?_
        repeat (first | apply zs | apply zr | apply zn | ((first | apply zx | apply zy); · simp only [push_cast, env, Nat.reduceEqDiff, reduceIte, Nat.reduceAdd, Nat.reduceMul, Nat.reduceLeDiff, reduceCtorEq, Nat.reduceSub, Int.reduceToNat, e2] <;> first | exact rfl | exact .inl rfl | exact .inr rfl) | apply zq | apply zb | apply zo | apply zk | apply zl)
        refine ⟨hlt, (hk, q, cq), ?_, rfl, hp, ?_⟩
        · exact (by simp only [push_cast, Nat.reduceEqDiff, reduceIte, hs])
        · rw [hs]
          exact hG
    · rw [if_neg (by simp [q1])] at hs
      repeat (first | apply zs | apply zr | apply zn | ((first | apply zx | apply zy); · simp only [push_cast, env, Nat.reduceEqDiff, reduceIte, Nat.reduceAdd, Nat.reduceMul, Nat.reduceLeDiff, reduceCtorEq, Nat.reduceSub, Int.reduceToNat, e1, hid, hc, q1, decide_false] <;> first | exact rfl | exact .inl rfl | exact .inr rfl) | apply zq | apply zb | apply zo | apply zk | apply zl)
      refine cw_condF rfl ?_
      repeat (first | apply zs | apply zr | apply zn | ((first | apply zx | apply zy); · simp only [push_cast, env, Nat.reduceEqDiff, reduceIte, Nat.reduceAdd, Nat.reduceMul, Nat.reduceLeDiff, reduceCtorEq, Nat.reduceSub, Int.reduceToNat, e2] <;> first | exact rfl | exact .inl rfl | exact .inr rfl) | apply zq | apply zb | apply zo | apply zk | apply zl)
      refine ⟨hlt, (hk, q, cq), ?_, rfl, hp, ?_⟩
      · exact (by simp only [push_cast, Nat.reduceEqDiff, reduceIte, hs])
      · rw [hs]
        exact hG
  · have e3 := ge_dec hlt
    obtain rfl : k = fr.length := by omega
    repeat (first | apply zs | apply zr | apply zn | ((first | apply zx | apply zy); · simp only [push_cast, env, Nat.reduceEqDiff, reduceIte, Nat.reduceAdd, Nat.reduceMul, Nat.reduceLeDiff, reduceCtorEq, Nat.reduceSub, Int.reduceToNat, e3] <;> first | exact rfl | exact .inl rfl | exact .inr rfl) | apply zq | apply zb | apply zo | apply zk | apply zl)
    refine cw_condF rfl ?_
    refine cw_exit ?_
    show CW _ _ _ _
    repeat (first | apply zs | apply zr | apply zn | ((first | apply zx | apply zy); · simp only [push_cast, env, Nat.reduceEqDiff, reduceIte, Nat.reduceAdd, Nat.reduceMul, Nat.reduceLeDiff, reduceCtorEq, Nat.reduceSub, Int.reduceToNat] <;> first | exact rfl | exact .inl rfl | exact .inr rfl) | apply zq | apply zb | apply zo | apply zk | apply zl)
    refine cw_ret ?_
    refine ⟨_, (by simp only [push_cast, env, Nat.reduceEqDiff, reduceIte] <;> exact rfl), hp, ?_⟩
    exact hG
set_option maxHeartbeats 4000000 in
theorem rrules_fw (hk : RdKern0 h v fr l) (hm : fr.length ≤ 4096) : FW env 23 [v, i64 p] h fun r h' => h <+: h' ∧ Grow h h' r (rulesN fr p fr.length).length ((rulesN fr p fr.length).map i64) 3 := by
  obtain ⟨s0, s1, p2, p3, p4, p5, p6, p9, p12, p13, p14, n2, n3, n4, n5, n6, n9, n12, n13, n14, c2, c3, c4, c5, c6, c9, c12, c13, c14, i7, i8, uf, un, rfl, hf, hn⟩ := hk
  obtain ⟨pf, cf, rfl⟩ := hf.form
  obtain ⟨pn, cn, rfl⟩ := hn.form
  have z0 : (rulesN fr p 0).length = 0 := rfl
  refine fw_enter (fn := Tryz.f23) Tryz.func23 rfl (by kernel_rfl) (by simp [Tryz.ntmps23]) ?_; simp only [push_cast]
  repeat (first | apply zs | apply zr | apply zn | ((first | apply zx | apply zy); · simp only [push_cast, env, Nat.reduceEqDiff, reduceIte, Nat.reduceAdd, Nat.reduceMul, Nat.reduceLeDiff, reduceCtorEq, Nat.reduceSub, Int.reduceToNat] <;> first | exact rfl | exact .inl rfl | exact .inr rfl) | apply zq | apply zb | apply zo | apply zk | apply zl)
  refine cw_forG fr.length (fun k (x : Heap × Option Addr × Nat) => [(1, .val (i64 p)), (2, .box [.string s0, .string s1, .slice p2 n2 c2, .slice p3 n3 c3, .slice p4 n4 c4, .slice p5 n5 c5, .slice p6 n6 c6, i64 i7, i64 i8, .slice p9 n9 c9, .slice pf fr.length cf, .slice pn l.length cn, .slice p12 n12 c12, .slice p13 n13 c13, .slice p14 n14 c14]), (5, .val (.slice x.2.1 (rulesN fr p k).length x.2.2)), (6, .val (i64 k))]) (fun _ x => x.1)
    (fun k x => h <+: x.1 ∧ Grow h x.1 (.slice x.2.1 (rulesN fr p k).length x.2.2) (rulesN fr p k).length ((rulesN fr p k).map i64) 3) (h, none, 0) (by simp only [push_cast, Nat.reduceEqDiff, reduceIte, z0]) rfl ⟨List.prefix_refl _, Grow.nil⟩ ?_
  rintro k ⟨hk, q, cq⟩ hkn ⟨hp, hG⟩
  simp only at hp hG ⊢
  have hlen : (rulesN fr p k).length ≤ k := rulesN_len
  by_cases hlt : k < fr.length
  · have hf' := hf.mono hp
    obtain ⟨id, ver, own, c', cells, ps, ns, cs, hv, hid, _, hc, _⟩ := hf'.at hlt
    cases hv
    have g1 := rdH_get0 hc (by omega)
    have g2 := rdH_get (j := 1) hc (by omega)
    simp only [List.getElem?_cons_succ, List.getElem?_cons_zero] at g1 g2
    have e1 := rng hlt
    have e2 := inc hlt hf.le
    have e3 := lt_dec hlt
    have hs := rulesN_succ (l := fr) (p := p) (n := k)
    rw [selB_at hlt] at hs
    repeat (first | apply zs | apply zr | apply zn | ((first | apply zx | apply zy); · simp only [push_cast, env, Nat.reduceEqDiff, reduceIte, Nat.reduceAdd, Nat.reduceMul, Nat.reduceLeDiff, reduceCtorEq, Nat.reduceSub, Int.reduceToNat, e3] <;> first | exact rfl | exact .inl rfl | exact .inr rfl) | apply zq | apply zb | apply zo | apply zk | apply zl)
    refine cw_condT rfl ?_
    by_cases q1 : fr[k].kind = 0
    · by_cases q2 : fr[k].prod = p
      · rw [if_pos (by simp [q1, q2])] at hs
        have hs2 : (rulesN fr p (k + 1)).length = (rulesN fr p k).length + 1 := by rw [hs]; simp
        repeat (first | apply zs | apply zr | apply zn | ((first | apply zx | apply zy); · simp only [push_cast, env, Nat.reduceEqDiff, reduceIte, Nat.reduceAdd, Nat.reduceMul, Nat.reduceLeDiff, reduceCtorEq, Nat.reduceSub, Int.reduceToNat, e1, hid, g1, g2, q1, q2, decide_true] <;> first | exact rfl | exact .inl rfl | exact .inr rfl) | apply zq | apply zb | apply zo | apply zk | apply zl)
        refine cw_condT rfl ?_
        repeat (first | apply zs | apply zr | apply zn | ((first | apply zx | apply zy); · simp only [push_cast, env, Nat.reduceEqDiff, reduceIte, Nat.reduceAdd, Nat.reduceMul, Nat.reduceLeDiff, reduceCtorEq, Nat.reduceSub, Int.reduceToNat] <;> first | exact rfl | exact .inl rfl | exact .inr rfl) | apply zq | apply zb | apply zo | apply zk | apply zl)
        refine ow_pushI (l := rulesN fr p k) (b := k) (h := h) (by simp only [push_cast, env, Nat.reduceEqDiff, reduceIte] <;> exact rfl) rfl (by simp only [push_cast, env, Nat.reduceEqDiff, reduceIte] <;> exact rfl) (by simp only [push_cast, env, Nat.reduceEqDiff, reduceIte] <;> exact rfl) hG hp (by omega) ?_
        intro p' c' h' k1 k2 _ _
        repeat (first | apply zs | apply zr | apply zn | ((first | apply zx | apply zy); · simp only [push_cast, env, Nat.reduceEqDiff, reduceIte, Nat.reduceAdd, Nat.reduceMul, Nat.reduceLeDiff, reduceCtorEq, Nat.reduceSub, Int.reduceToNat, e2] <;> first | exact rfl | exact .inl rfl | exact .inr rfl) | apply zq | apply zb | apply zo | apply zk | apply zl)
        refine ⟨hlt, (h', p', c'), ?_, rfl, k2, ?_⟩
        · exact (by simp only [push_cast, Nat.reduceEqDiff, reduceIte, hs2])
        · rw [hs]
          simpa using k1
      · rw [if_neg (by simp [q2])] at hs
        repeat (first | apply zs | apply zr | apply zn | ((first | apply zx | apply zy); · simp only [push_cast, env, Nat.reduceEqDiff, reduceIte, Nat.reduceAdd, Nat.reduceMul, Nat.reduceLeDiff, reduceCtorEq, Nat.reduceSub, Int.reduceToNat, e1, hid, g1, g2, q1, q2, decide_true, decide_false] <;> first | exact rfl | exact .inl rfl | exact .inr rfl) | apply zq | apply zb | apply zo | apply zk | apply zl)
        refine cw_condF rfl ?_
        repeat (first | apply zs | apply zr | apply zn | ((first | apply zx | apply zy); · simp only [push_cast, env, Nat.reduceEqDiff, reduceIte, Nat.reduceAdd, Nat.reduceMul, Nat.reduceLeDiff, reduceCtorEq, Nat.reduceSub, Int.reduceToNat, e2] <;> first | exact rfl | exact .inl rfl | exact .inr rfl) | apply zq | apply zb | apply zo | apply zk | apply zl)
        refine ⟨hlt, (hk, q, cq), ?_, rfl, hp, ?_⟩
        · exact (by simp only [push_cast, Nat.reduceEqDiff, reduceIte, hs])
        · rw [hs]
          exact hG
    · rw [if_neg (by simp [q1])] at hs
      repeat (first | apply zs | apply zr | apply zn | ((first | apply zx | apply zy); · simp only [push_cast, env, Nat.reduceEqDiff, reduceIte, Nat.reduceAdd, Nat.reduceMul, Nat.reduceLeDiff, reduceCtorEq, Nat.reduceSub, Int.reduceToNat, e1, hid, g1, q1, decide_false] <;> first | exact rfl | exact .inl rfl | exact .inr rfl) | apply zq | apply zb | apply zo | apply zk | apply zl)
      refine cw_condF rfl ?_
      repeat (first | apply zs | apply zr | apply zn | ((first | apply zx | apply zy); · simp only [push_cast, env, Nat.reduceEqDiff, reduceIte, Nat.reduceAdd, Nat.reduceMul, Nat.reduceLeDiff, reduceCtorEq, Nat.reduceSub, Int.reduceToNat, e2] <;> first | exact rfl | exact .inl rfl | exact .inr rfl) | apply zq | apply zb | apply zo | apply zk | apply zl)
      refine ⟨hlt, (hk, q, cq), ?_, rfl, hp, ?_⟩
      · exact (by simp only [push_cast, Nat.reduceEqDiff, reduceIte, hs])
      · rw [hs]
        exact hG
  · have e3 := ge_dec hlt
    obtain rfl : k = fr.length := by omega
    repeat (first | apply zs | apply zr | apply zn | ((first | apply zx | apply zy); · simp only [push_cast, env, Nat.reduceEqDiff, reduceIte, Nat.reduceAdd, Nat.reduceMul, Nat.reduceLeDiff, reduceCtorEq, Nat.reduceSub, Int.reduceToNat, e3] <;> first | exact rfl | exact .inl rfl | exact .inr rfl) | apply zq | apply zb | apply zo | apply zk | apply zl)
    refine cw_condF rfl ?_
    refine cw_exit ?_
    show CW _ _ _ _
    repeat (first | apply zs | apply zr | apply zn | ((first | apply zx | apply zy); · simp only [push_cast, env, Nat.reduceEqDiff, reduceIte, Nat.reduceAdd, Nat.reduceMul, Nat.reduceLeDiff, reduceCtorEq, Nat.reduceSub, Int.reduceToNat] <;> first | exact rfl | exact .inl rfl | exact .inr rfl) | apply zq | apply zb | apply zo | apply zk | apply zl)
    refine cw_ret ?_
    refine ⟨_, (by simp only [push_cast, env, Nat.reduceEqDiff, reduceIte] <;> exact rfl), hp, ?_⟩
    exact hG
end
end Go.Proofs.YtmdmimkbpikmoaaGreat

namespace Go.Proofs.YtmdmimkbpikmoaaGreat.Run5
set_option linter.unusedSimpArgs false
set_option linter.unusedVariables false
open Go.RowKit Am Ty
set_option maxRecDepth 100000
def s1v : Value := .agg #[.string ⟨#[69]⟩, .string ⟨#[]⟩, .slice (some ⟨7, 0, some 0⟩) 3 3, .slice (some ⟨10, 0, some 0⟩) 1 1, .slice none 0 0, .slice none 0 0, .slice none 0 0]
def s1h : Heap := [.arr [.string ⟨#[69]⟩, .string ⟨#[]⟩, .slice (some ⟨7, 0, some 0⟩) 3 3, .slice (some ⟨10, 0, some 0⟩) 1 1, .slice none 0 0, .slice none 0 0, .slice none 0 0] 0 true 28,
  .arr [.int .i64 3, .string ⟨#[]⟩, .int .u64 0, .int .u64 0, .int .u64 0, .int .u64 0, .string ⟨#[69]⟩, .string ⟨#[]⟩] 0 true 56,
  .arr [.int .i64 3, .string ⟨#[]⟩, .int .u64 0, .int .u64 0, .int .u64 0, .int .u64 0, .string ⟨#[78]⟩, .string ⟨#[]⟩] 0 true 56,
  .arr [.int .i64 1, .string ⟨#[43]⟩, .int .u64 0, .int .u64 0, .int .u64 0, .int .u64 0, .string ⟨#[]⟩, .string ⟨#[]⟩] 0 true 56,
  .arr [.int .i64 3, .string ⟨#[]⟩, .int .u64 0, .int .u64 0, .int .u64 0, .int .u64 0, .string ⟨#[69]⟩, .string ⟨#[]⟩, .int .i64 1, .string ⟨#[43]⟩, .int .u64 0, .int .u64 0, .int .u64 0, .int .u64 0, .string ⟨#[]⟩, .string ⟨#[]⟩, .int .i64 3, .string ⟨#[]⟩, .int .u64 0, .int .u64 0, .int .u64 0, .int .u64 0, .string ⟨#[69]⟩, .string ⟨#[]⟩] 0 true 56,
  .arr [.int .i64 3, .string ⟨#[]⟩, .int .u64 0, .int .u64 0, .int .u64 0, .int .u64 0, .string ⟨#[78]⟩, .string ⟨#[]⟩] 0 true 56,
  .arr [.int .i64 6, .string ⟨#[]⟩, .int .u64 281474976710656, .int .u64 0, .int .u64 0, .int .u64 0, .string ⟨#[]⟩, .string ⟨#[]⟩] 0 true 56,
  .arr [.bool false, .string ⟨#[69]⟩, .string ⟨#[65]⟩, .bool false, .slice (some ⟨4, 0, some 0⟩) 3 3, .bool false, .string ⟨#[69]⟩, .string ⟨#[78]⟩, .bool false, .slice (some ⟨5, 0, some 0⟩) 1 1, .bool true, .string ⟨#[78]⟩, .string ⟨#[]⟩, .bool false, .slice (some ⟨6, 0, some 0⟩) 1 1] 0 true 51,
  .arr [.string ⟨#[65]⟩] 0 true 9,
  .arr [.int .i64 1, .slice (some ⟨8, 0, some 0⟩) 1 1] 0 true 82,
  .arr [.slice (some ⟨9, 0, some 0⟩) 1 1] 0 true 80,
  .arr [.string ⟨#[69]⟩, .string ⟨#[]⟩, .slice (some ⟨7, 0, some 0⟩) 3 3, .slice (some ⟨10, 0, some 0⟩) 1 1, .slice none 0 0, .slice none 0 0, .slice none 0 0] 0 true 28,
  .arr [.string ⟨#[]⟩, .string ⟨#[]⟩, .slice none 0 0, .slice none 0 0, .slice none 0 0, .slice none 0 0, .slice none 0 0, .int .i64 0, .int .i64 0, .slice none 0 0, .slice none 0 0, .slice none 0 0, .slice none 0 0, .slice none 0 0, .slice none 0 0] 0 true 43]
def s2v : Value := .agg #[.string ⟨#[69]⟩, .string ⟨#[]⟩, .slice (some ⟨15, 0, some 1⟩) 3 3, .slice (some ⟨22, 0, some 0⟩) 1 1, .slice none 0 0, .slice none 0 0, .slice none 0 0]
def s2h : Heap := [.arr [.string ⟨#[69]⟩, .string ⟨#[]⟩, .slice (some ⟨7, 0, some 0⟩) 3 3, .slice (some ⟨10, 0, some 0⟩) 1 1, .slice none 0 0, .slice none 0 0, .slice none 0 0] 0 true 28,
  .arr [.int .i64 3, .string ⟨#[]⟩, .int .u64 0, .int .u64 0, .int .u64 0, .int .u64 0, .string ⟨#[69]⟩, .string ⟨#[]⟩] 0 true 56,
  .arr [.int .i64 3, .string ⟨#[]⟩, .int .u64 0, .int .u64 0, .int .u64 0, .int .u64 0, .string ⟨#[78]⟩, .string ⟨#[]⟩] 0 true 56,
  .arr [.int .i64 1, .string ⟨#[43]⟩, .int .u64 0, .int .u64 0, .int .u64 0, .int .u64 0, .string ⟨#[]⟩, .string ⟨#[]⟩] 0 true 56,
  .arr [.int .i64 3, .string ⟨#[]⟩, .int .u64 0, .int .u64 0, .int .u64 0, .int .u64 0, .string ⟨#[69]⟩, .string ⟨#[]⟩, .int .i64 1, .string ⟨#[43]⟩, .int .u64 0, .int .u64 0, .int .u64 0, .int .u64 0, .string ⟨#[]⟩, .string ⟨#[]⟩, .int .i64 3, .string ⟨#[]⟩, .int .u64 0, .int .u64 0, .int .u64 0, .int .u64 0, .string ⟨#[69]⟩, .string ⟨#[]⟩] 0 true 56,
  .arr [.int .i64 3, .string ⟨#[]⟩, .int .u64 0, .int .u64 0, .int .u64 0, .int .u64 0, .string ⟨#[78]⟩, .string ⟨#[]⟩] 0 true 56,
  .arr [.int .i64 6, .string ⟨#[]⟩, .int .u64 281474976710656, .int .u64 0, .int .u64 0, .int .u64 0, .string ⟨#[]⟩, .string ⟨#[]⟩] 0 true 56,
  .arr [.bool false, .string ⟨#[69]⟩, .string ⟨#[65]⟩, .bool false, .slice (some ⟨4, 0, some 0⟩) 3 3, .bool false, .string ⟨#[69]⟩, .string ⟨#[78]⟩, .bool false, .slice (some ⟨5, 0, some 0⟩) 1 1, .bool true, .string ⟨#[78]⟩, .string ⟨#[]⟩, .bool false, .slice (some ⟨6, 0, some 0⟩) 1 1] 0 true 51,
  .arr [.string ⟨#[65]⟩] 0 true 9,
  .arr [.int .i64 1, .slice (some ⟨8, 0, some 0⟩) 1 1] 0 true 82,
  .arr [.slice (some ⟨9, 0, some 0⟩) 1 1] 0 true 80,
  .arr [.string ⟨#[69]⟩, .string ⟨#[]⟩, .slice (some ⟨7, 0, some 0⟩) 3 3, .slice (some ⟨10, 0, some 0⟩) 1 1, .slice none 0 0, .slice none 0 0, .slice none 0 0] 0 true 28,
  .arr [.string ⟨#[]⟩, .string ⟨#[]⟩, .slice none 0 0, .slice none 0 0, .slice none 0 0, .slice none 0 0, .slice none 0 0, .int .i64 0, .int .i64 0, .slice none 0 0, .slice none 0 0, .slice none 0 0, .slice none 0 0, .slice none 0 0, .slice none 0 0] 0 true 43,
  .arr [.string ⟨#[69]⟩, .string ⟨#[]⟩, .slice (some ⟨15, 0, some 1⟩) 3 3, .slice (some ⟨22, 0, some 0⟩) 1 1, .slice none 0 0, .slice none 0 0, .slice none 0 0] 0 true 28,
  .arr [.string ⟨#[69]⟩, .string ⟨#[]⟩, .slice (some ⟨15, 0, some 1⟩) 3 3, .slice (some ⟨22, 0, some 0⟩) 1 1, .slice none 0 0, .slice none 0 0, .slice none 0 0] 0 true 28,
  .arr [.bool false, .string ⟨#[69]⟩, .string ⟨#[65]⟩, .bool false, .slice (some ⟨16, 0, some 1⟩) 3 3, .bool false, .string ⟨#[69]⟩, .string ⟨#[78]⟩, .bool false, .slice (some ⟨17, 0, some 1⟩) 1 1, .bool true, .string ⟨#[78]⟩, .string ⟨#[]⟩, .bool false, .slice (some ⟨18, 0, some 1⟩) 1 1] 1 true 51,
  .arr [.int .i64 3, .string ⟨#[]⟩, .int .u64 0, .int .u64 0, .int .u64 0, .int .u64 0, .string ⟨#[69]⟩, .string ⟨#[]⟩, .int .i64 1, .string ⟨#[43]⟩, .int .u64 0, .int .u64 0, .int .u64 0, .int .u64 0, .string ⟨#[]⟩, .string ⟨#[]⟩, .int .i64 3, .string ⟨#[]⟩, .int .u64 0, .int .u64 0, .int .u64 0, .int .u64 0, .string ⟨#[69]⟩, .string ⟨#[]⟩] 1 true 56,
  .arr [.int .i64 3, .string ⟨#[]⟩, .int .u64 0, .int .u64 0, .int .u64 0, .int .u64 0, .string ⟨#[78]⟩, .string ⟨#[]⟩] 1 true 56,
  .arr [.int .i64 6, .string ⟨#[]⟩, .int .u64 281474976710656, .int .u64 0, .int .u64 0, .int .u64 0, .string ⟨#[]⟩, .string ⟨#[]⟩] 1 true 56,
  .arr [.int .i64 1, .slice (some ⟨20, 0, some 1⟩) 1 1] 1 true 82,
  .arr [.string ⟨#[65]⟩] 1 true 9,
  .arr [.slice (some ⟨19, 0, some 1⟩) 1 1] 0 true 80,
  .arr [.slice (some ⟨19, 0, some 1⟩) 1 1] 0 true 80]
def s3v : Value := .pointer (some ⟨25, 0, some 0⟩)
def s3h : Heap := [.arr [.string ⟨#[69]⟩, .string ⟨#[]⟩, .slice (some ⟨7, 0, some 0⟩) 3 3, .slice (some ⟨10, 0, some 0⟩) 1 1, .slice none 0 0, .slice none 0 0, .slice none 0 0] 0 true 28,
  .arr [.int .i64 3, .string ⟨#[]⟩, .int .u64 0, .int .u64 0, .int .u64 0, .int .u64 0, .string ⟨#[69]⟩, .string ⟨#[]⟩] 0 true 56,
  .arr [.int .i64 3, .string ⟨#[]⟩, .int .u64 0, .int .u64 0, .int .u64 0, .int .u64 0, .string ⟨#[78]⟩, .string ⟨#[]⟩] 0 true 56,
  .arr [.int .i64 1, .string ⟨#[43]⟩, .int .u64 0, .int .u64 0, .int .u64 0, .int .u64 0, .string ⟨#[]⟩, .string ⟨#[]⟩] 0 true 56,
  .arr [.int .i64 3, .string ⟨#[]⟩, .int .u64 0, .int .u64 0, .int .u64 0, .int .u64 0, .string ⟨#[69]⟩, .string ⟨#[]⟩, .int .i64 1, .string ⟨#[43]⟩, .int .u64 0, .int .u64 0, .int .u64 0, .int .u64 0, .string ⟨#[]⟩, .string ⟨#[]⟩, .int .i64 3, .string ⟨#[]⟩, .int .u64 0, .int .u64 0, .int .u64 0, .int .u64 0, .string ⟨#[69]⟩, .string ⟨#[]⟩] 0 true 56,
  .arr [.int .i64 3, .string ⟨#[]⟩, .int .u64 0, .int .u64 0, .int .u64 0, .int .u64 0, .string ⟨#[78]⟩, .string ⟨#[]⟩] 0 true 56,
  .arr [.int .i64 6, .string ⟨#[]⟩, .int .u64 281474976710656, .int .u64 0, .int .u64 0, .int .u64 0, .string ⟨#[]⟩, .string ⟨#[]⟩] 0 true 56,
  .arr [.bool false, .string ⟨#[69]⟩, .string ⟨#[65]⟩, .bool false, .slice (some ⟨4, 0, some 0⟩) 3 3, .bool false, .string ⟨#[69]⟩, .string ⟨#[78]⟩, .bool false, .slice (some ⟨5, 0, some 0⟩) 1 1, .bool true, .string ⟨#[78]⟩, .string ⟨#[]⟩, .bool false, .slice (some ⟨6, 0, some 0⟩) 1 1] 0 true 51,
  .arr [.string ⟨#[65]⟩] 0 true 9,
  .arr [.int .i64 1, .slice (some ⟨8, 0, some 0⟩) 1 1] 0 true 82,
  .arr [.slice (some ⟨9, 0, some 0⟩) 1 1] 0 true 80,
  .arr [.string ⟨#[69]⟩, .string ⟨#[]⟩, .slice (some ⟨7, 0, some 0⟩) 3 3, .slice (some ⟨10, 0, some 0⟩) 1 1, .slice none 0 0, .slice none 0 0, .slice none 0 0] 0 true 28,
  .arr [.string ⟨#[]⟩, .string ⟨#[]⟩, .slice none 0 0, .slice none 0 0, .slice none 0 0, .slice none 0 0, .slice none 0 0, .int .i64 0, .int .i64 0, .slice none 0 0, .slice none 0 0, .slice none 0 0, .slice none 0 0, .slice none 0 0, .slice none 0 0] 0 true 43,
  .arr [.string ⟨#[69]⟩, .string ⟨#[]⟩, .slice (some ⟨15, 0, some 1⟩) 3 3, .slice (some ⟨22, 0, some 0⟩) 1 1, .slice none 0 0, .slice none 0 0, .slice none 0 0] 0 true 28,
  .arr [.string ⟨#[69]⟩, .string ⟨#[]⟩, .slice (some ⟨15, 0, some 1⟩) 3 3, .slice (some ⟨22, 0, some 0⟩) 1 1, .slice none 0 0, .slice none 0 0, .slice none 0 0] 0 true 28,
  .arr [.bool false, .string ⟨#[69]⟩, .string ⟨#[65]⟩, .bool false, .slice (some ⟨16, 0, some 1⟩) 3 3, .bool false, .string ⟨#[69]⟩, .string ⟨#[78]⟩, .bool false, .slice (some ⟨17, 0, some 1⟩) 1 1, .bool true, .string ⟨#[78]⟩, .string ⟨#[]⟩, .bool false, .slice (some ⟨18, 0, some 1⟩) 1 1] 1 true 51,
  .arr [.int .i64 3, .string ⟨#[]⟩, .int .u64 0, .int .u64 0, .int .u64 0, .int .u64 0, .string ⟨#[69]⟩, .string ⟨#[]⟩, .int .i64 1, .string ⟨#[43]⟩, .int .u64 0, .int .u64 0, .int .u64 0, .int .u64 0, .string ⟨#[]⟩, .string ⟨#[]⟩, .int .i64 3, .string ⟨#[]⟩, .int .u64 0, .int .u64 0, .int .u64 0, .int .u64 0, .string ⟨#[69]⟩, .string ⟨#[]⟩] 1 true 56,
  .arr [.int .i64 3, .string ⟨#[]⟩, .int .u64 0, .int .u64 0, .int .u64 0, .int .u64 0, .string ⟨#[78]⟩, .string ⟨#[]⟩] 1 true 56,
  .arr [.int .i64 6, .string ⟨#[]⟩, .int .u64 281474976710656, .int .u64 0, .int .u64 0, .int .u64 0, .string ⟨#[]⟩, .string ⟨#[]⟩] 1 true 56,
  .arr [.int .i64 1, .slice (some ⟨20, 0, some 1⟩) 1 1] 1 true 82,
  .arr [.string ⟨#[65]⟩] 1 true 9,
  .arr [.slice (some ⟨19, 0, some 1⟩) 1 1] 0 true 80,
  .arr [.slice (some ⟨19, 0, some 1⟩) 1 1] 0 true 80,
  .map [],
  .map [],
  .arr [.string ⟨#[69]⟩, .string ⟨#[]⟩, .slice (some ⟨15, 0, some 1⟩) 3 3, .slice (some ⟨22, 0, some 0⟩) 1 1, .slice none 0 0, .slice none 0 0, .slice none 0 0, .int .i64 0, .int .i64 0, .slice none 0 0, .slice none 0 0, .slice none 0 0, .slice none 0 0, .slice none 0 0, .slice none 0 0, .map (some 23), .map (some 24), .slice none 0 0, .int .i64 0] 0 true 94]
def s4h : Heap := [.arr [.string ⟨#[69]⟩, .string ⟨#[]⟩, .slice (some ⟨7, 0, some 0⟩) 3 3, .slice (some ⟨10, 0, some 0⟩) 1 1, .slice none 0 0, .slice none 0 0, .slice none 0 0] 0 true 28,
  .arr [.int .i64 3, .string ⟨#[]⟩, .int .u64 0, .int .u64 0, .int .u64 0, .int .u64 0, .string ⟨#[69]⟩, .string ⟨#[]⟩] 0 true 56,
  .arr [.int .i64 3, .string ⟨#[]⟩, .int .u64 0, .int .u64 0, .int .u64 0, .int .u64 0, .string ⟨#[78]⟩, .string ⟨#[]⟩] 0 true 56,
  .arr [.int .i64 1, .string ⟨#[43]⟩, .int .u64 0, .int .u64 0, .int .u64 0, .int .u64 0, .string ⟨#[]⟩, .string ⟨#[]⟩] 0 true 56,
  .arr [.int .i64 3, .string ⟨#[]⟩, .int .u64 0, .int .u64 0, .int .u64 0, .int .u64 0, .string ⟨#[69]⟩, .string ⟨#[]⟩, .int .i64 1, .string ⟨#[43]⟩, .int .u64 0, .int .u64 0, .int .u64 0, .int .u64 0, .string ⟨#[]⟩, .string ⟨#[]⟩, .int .i64 3, .string ⟨#[]⟩, .int .u64 0, .int .u64 0, .int .u64 0, .int .u64 0, .string ⟨#[69]⟩, .string ⟨#[]⟩] 0 true 56,
  .arr [.int .i64 3, .string ⟨#[]⟩, .int .u64 0, .int .u64 0, .int .u64 0, .int .u64 0, .string ⟨#[78]⟩, .string ⟨#[]⟩] 0 true 56,
  .arr [.int .i64 6, .string ⟨#[]⟩, .int .u64 281474976710656, .int .u64 0, .int .u64 0, .int .u64 0, .string ⟨#[]⟩, .string ⟨#[]⟩] 0 true 56,
  .arr [.bool false, .string ⟨#[69]⟩, .string ⟨#[65]⟩, .bool false, .slice (some ⟨4, 0, some 0⟩) 3 3, .bool false, .string ⟨#[69]⟩, .string ⟨#[78]⟩, .bool false, .slice (some ⟨5, 0, some 0⟩) 1 1, .bool true, .string ⟨#[78]⟩, .string ⟨#[]⟩, .bool false, .slice (some ⟨6, 0, some 0⟩) 1 1] 0 true 51,
  .arr [.string ⟨#[65]⟩] 0 true 9,
  .arr [.int .i64 1, .slice (some ⟨8, 0, some 0⟩) 1 1] 0 true 82,
  .arr [.slice (some ⟨9, 0, some 0⟩) 1 1] 0 true 80,
  .arr [.string ⟨#[69]⟩, .string ⟨#[]⟩, .slice (some ⟨7, 0, some 0⟩) 3 3, .slice (some ⟨10, 0, some 0⟩) 1 1, .slice none 0 0, .slice none 0 0, .slice none 0 0] 0 true 28,
  .arr [.string ⟨#[]⟩, .string ⟨#[]⟩, .slice none 0 0, .slice none 0 0, .slice none 0 0, .slice none 0 0, .slice none 0 0, .int .i64 0, .int .i64 0, .slice none 0 0, .slice none 0 0, .slice none 0 0, .slice none 0 0, .slice none 0 0, .slice none 0 0] 0 true 43,
  .arr [.string ⟨#[69]⟩, .string ⟨#[]⟩, .slice (some ⟨15, 0, some 1⟩) 3 3, .slice (some ⟨22, 0, some 0⟩) 1 1, .slice none 0 0, .slice none 0 0, .slice none 0 0] 0 true 28,
  .arr [.string ⟨#[69]⟩, .string ⟨#[]⟩, .slice (some ⟨15, 0, some 1⟩) 3 3, .slice (some ⟨22, 0, some 0⟩) 1 1, .slice none 0 0, .slice none 0 0, .slice none 0 0] 0 true 28,
  .arr [.bool false, .string ⟨#[69]⟩, .string ⟨#[65]⟩, .bool false, .slice (some ⟨16, 0, some 1⟩) 3 3, .bool false, .string ⟨#[69]⟩, .string ⟨#[78]⟩, .bool false, .slice (some ⟨17, 0, some 1⟩) 1 1, .bool true, .string ⟨#[78]⟩, .string ⟨#[]⟩, .bool false, .slice (some ⟨18, 0, some 1⟩) 1 1] 1 true 51,
  .arr [.int .i64 3, .string ⟨#[]⟩, .int .u64 0, .int .u64 0, .int .u64 0, .int .u64 0, .string ⟨#[69]⟩, .string ⟨#[]⟩, .int .i64 1, .string ⟨#[43]⟩, .int .u64 0, .int .u64 0, .int .u64 0, .int .u64 0, .string ⟨#[]⟩, .string ⟨#[]⟩, .int .i64 3, .string ⟨#[]⟩, .int .u64 0, .int .u64 0, .int .u64 0, .int .u64 0, .string ⟨#[69]⟩, .string ⟨#[]⟩] 1 true 56,
  .arr [.int .i64 3, .string ⟨#[]⟩, .int .u64 0, .int .u64 0, .int .u64 0, .int .u64 0, .string ⟨#[78]⟩, .string ⟨#[]⟩] 1 true 56,
  .arr [.int .i64 6, .string ⟨#[]⟩, .int .u64 281474976710656, .int .u64 0, .int .u64 0, .int .u64 0, .string ⟨#[]⟩, .string ⟨#[]⟩] 1 true 56,
  .arr [.int .i64 1, .slice (some ⟨20, 0, some 1⟩) 1 1] 1 true 82,
  .arr [.string ⟨#[65]⟩] 1 true 9,
  .arr [.slice (some ⟨19, 0, some 1⟩) 1 1] 0 true 80,
  .arr [.slice (some ⟨19, 0, some 1⟩) 1 1] 0 true 80,
  .map [(.string ⟨#[69]⟩, .int .i64 0), (.string ⟨#[78]⟩, .int .i64 1)],
  .map [(.agg #[.bool true, .string ⟨#[]⟩, .int .u64 281474976710656, .int .u64 0, .int .u64 0, .int .u64 0, .string ⟨#[]⟩], .int .i64 2)],
  .arr [.string ⟨#[69]⟩, .string ⟨#[]⟩, .slice (some ⟨15, 0, some 1⟩) 3 3, .slice (some ⟨22, 0, some 0⟩) 1 1, .slice none 0 0, .slice none 0 0, .slice none 0 0, .int .i64 4, .int .i64 3, .slice none 0 0, .slice none 0 0, .slice (some ⟨35, 0, some 3⟩) 4 4, .slice none 0 0, .slice none 0 0, .slice none 0 0, .map (some 23), .map (some 24), .slice (some ⟨45, 0, some 0⟩) 1 1, .int .i64 (-1)] 0 true 94,
  .arr [.pointer (some ⟨25, 0, some 0⟩)] 0 true 89,
  .arr [.string ⟨#[69]⟩, .string ⟨#[]⟩, .slice (some ⟨15, 0, some 1⟩) 3 3, .slice (some ⟨22, 0, some 0⟩) 1 1, .slice none 0 0, .slice none 0 0, .slice none 0 0] 0 true 28,
  .arr [.string ⟨#[69]⟩, .string ⟨#[]⟩, .slice (some ⟨15, 0, some 1⟩) 3 3, .slice (some ⟨22, 0, some 0⟩) 1 1, .slice none 0 0, .slice none 0 0, .slice none 0 0] 0 true 28,
  .map [(.string ⟨#[69]⟩, .int .i64 2), (.string ⟨#[78]⟩, .int .i64 1)],
  .arr [.string ⟨#[69]⟩, .string ⟨#[]⟩, .slice (some ⟨15, 0, some 1⟩) 3 3, .slice (some ⟨22, 0, some 0⟩) 1 1, .slice none 0 0, .slice none 0 0, .slice none 0 0, .slice (some ⟨32, 0, some 1⟩) 2 2, .map (some 29)] 0 true 190,
  .arr [.bool false, .string ⟨#[69]⟩, .string ⟨#[65]⟩, .bool false, .slice (some ⟨16, 0, some 1⟩) 3 3] 0 true 51,
  .arr [.string ⟨#[69]⟩, .string ⟨#[78]⟩] 1 true 9,
  .arr [.bool false, .string ⟨#[69]⟩, .string ⟨#[78]⟩, .bool false, .slice (some ⟨17, 0, some 1⟩) 1 1] 0 true 51,
  .arr [.bool true, .string ⟨#[78]⟩, .string ⟨#[]⟩, .bool false, .slice (some ⟨18, 0, some 1⟩) 1 1] 0 true 51,
  .arr [.string ⟨#[69]⟩, .string ⟨#[78]⟩, .string ⟨#[91, 48, 93, 43]⟩, .string ⟨#[116, 111, 112]⟩] 3 true 9,
  .arr [.bool false, .string ⟨#[69]⟩, .string ⟨#[65]⟩, .bool false, .slice (some ⟨16, 0, some 1⟩) 3 3] 0 true 51,
  .arr [.int .i64 3, .string ⟨#[]⟩, .int .u64 0, .int .u64 0, .int .u64 0, .int .u64 0, .string ⟨#[69]⟩, .string ⟨#[]⟩] 0 true 56,
  .arr [.int .i64 1, .string ⟨#[43]⟩, .int .u64 0, .int .u64 0, .int .u64 0, .int .u64 0, .string ⟨#[]⟩, .string ⟨#[]⟩] 0 true 56,
  .arr [.int .i64 3, .string ⟨#[]⟩, .int .u64 0, .int .u64 0, .int .u64 0, .int .u64 0, .string ⟨#[69]⟩, .string ⟨#[]⟩] 0 true 56,
  .arr [.bool false, .string ⟨#[69]⟩, .string ⟨#[78]⟩, .bool false, .slice (some ⟨17, 0, some 1⟩) 1 1] 0 true 51,
  .arr [.int .i64 3, .string ⟨#[]⟩, .int .u64 0, .int .u64 0, .int .u64 0, .int .u64 0, .string ⟨#[78]⟩, .string ⟨#[]⟩] 0 true 56,
  .arr [.bool true, .string ⟨#[78]⟩, .string ⟨#[]⟩, .bool false, .slice (some ⟨18, 0, some 1⟩) 1 1] 0 true 51,
  .arr [.int .i64 6, .string ⟨#[]⟩, .int .u64 281474976710656, .int .u64 0, .int .u64 0, .int .u64 0, .string ⟨#[]⟩, .string ⟨#[]⟩] 0 true 56,
  .arr [.bool true, .string ⟨#[]⟩, .int .u64 281474976710656, .int .u64 0, .int .u64 0, .int .u64 0, .string ⟨#[]⟩] 0 true 154,
  .arr [.bool true, .string ⟨#[]⟩, .int .u64 281474976710656, .int .u64 0, .int .u64 0, .int .u64 0, .string ⟨#[]⟩] 0 true 154]
def s5h : Heap := [.arr [.string ⟨#[69]⟩, .string ⟨#[]⟩, .slice (some ⟨7, 0, some 0⟩) 3 3, .slice (some ⟨10, 0, some 0⟩) 1 1, .slice none 0 0, .slice none 0 0, .slice none 0 0] 0 true 28,
  .arr [.int .i64 3, .string ⟨#[]⟩, .int .u64 0, .int .u64 0, .int .u64 0, .int .u64 0, .string ⟨#[69]⟩, .string ⟨#[]⟩] 0 true 56,
  .arr [.int .i64 3, .string ⟨#[]⟩, .int .u64 0, .int .u64 0, .int .u64 0, .int .u64 0, .string ⟨#[78]⟩, .string ⟨#[]⟩] 0 true 56,
  .arr [.int .i64 1, .string ⟨#[43]⟩, .int .u64 0, .int .u64 0, .int .u64 0, .int .u64 0, .string ⟨#[]⟩, .string ⟨#[]⟩] 0 true 56,
  .arr [.int .i64 3, .string ⟨#[]⟩, .int .u64 0, .int .u64 0, .int .u64 0, .int .u64 0, .string ⟨#[69]⟩, .string ⟨#[]⟩, .int .i64 1, .string ⟨#[43]⟩, .int .u64 0, .int .u64 0, .int .u64 0, .int .u64 0, .string ⟨#[]⟩, .string ⟨#[]⟩, .int .i64 3, .string ⟨#[]⟩, .int .u64 0, .int .u64 0, .int .u64 0, .int .u64 0, .string ⟨#[69]⟩, .string ⟨#[]⟩] 0 true 56,
  .arr [.int .i64 3, .string ⟨#[]⟩, .int .u64 0, .int .u64 0, .int .u64 0, .int .u64 0, .string ⟨#[78]⟩, .string ⟨#[]⟩] 0 true 56,
  .arr [.int .i64 6, .string ⟨#[]⟩, .int .u64 281474976710656, .int .u64 0, .int .u64 0, .int .u64 0, .string ⟨#[]⟩, .string ⟨#[]⟩] 0 true 56,
  .arr [.bool false, .string ⟨#[69]⟩, .string ⟨#[65]⟩, .bool false, .slice (some ⟨4, 0, some 0⟩) 3 3, .bool false, .string ⟨#[69]⟩, .string ⟨#[78]⟩, .bool false, .slice (some ⟨5, 0, some 0⟩) 1 1, .bool true, .string ⟨#[78]⟩, .string ⟨#[]⟩, .bool false, .slice (some ⟨6, 0, some 0⟩) 1 1] 0 true 51,
  .arr [.string ⟨#[65]⟩] 0 true 9,
  .arr [.int .i64 1, .slice (some ⟨8, 0, some 0⟩) 1 1] 0 true 82,
  .arr [.slice (some ⟨9, 0, some 0⟩) 1 1] 0 true 80,
  .arr [.string ⟨#[69]⟩, .string ⟨#[]⟩, .slice (some ⟨7, 0, some 0⟩) 3 3, .slice (some ⟨10, 0, some 0⟩) 1 1, .slice none 0 0, .slice none 0 0, .slice none 0 0] 0 true 28,
  .arr [.string ⟨#[]⟩, .string ⟨#[]⟩, .slice none 0 0, .slice none 0 0, .slice none 0 0, .slice none 0 0, .slice none 0 0, .int .i64 0, .int .i64 0, .slice none 0 0, .slice none 0 0, .slice none 0 0, .slice none 0 0, .slice none 0 0, .slice none 0 0] 0 true 43,
  .arr [.string ⟨#[69]⟩, .string ⟨#[]⟩, .slice (some ⟨15, 0, some 1⟩) 3 3, .slice (some ⟨22, 0, some 0⟩) 1 1, .slice none 0 0, .slice none 0 0, .slice none 0 0] 0 true 28,
  .arr [.string ⟨#[69]⟩, .string ⟨#[]⟩, .slice (some ⟨15, 0, some 1⟩) 3 3, .slice (some ⟨22, 0, some 0⟩) 1 1, .slice none 0 0, .slice none 0 0, .slice none 0 0] 0 true 28,
  .arr [.bool false, .string ⟨#[69]⟩, .string ⟨#[65]⟩, .bool false, .slice (some ⟨16, 0, some 1⟩) 3 3, .bool false, .string ⟨#[69]⟩, .string ⟨#[78]⟩, .bool false, .slice (some ⟨17, 0, some 1⟩) 1 1, .bool true, .string ⟨#[78]⟩, .string ⟨#[]⟩, .bool false, .slice (some ⟨18, 0, some 1⟩) 1 1] 1 true 51,
  .arr [.int .i64 3, .string ⟨#[]⟩, .int .u64 0, .int .u64 0, .int .u64 0, .int .u64 0, .string ⟨#[69]⟩, .string ⟨#[]⟩, .int .i64 1, .string ⟨#[43]⟩, .int .u64 0, .int .u64 0, .int .u64 0, .int .u64 0, .string ⟨#[]⟩, .string ⟨#[]⟩, .int .i64 3, .string ⟨#[]⟩, .int .u64 0, .int .u64 0, .int .u64 0, .int .u64 0, .string ⟨#[69]⟩, .string ⟨#[]⟩] 1 true 56,
  .arr [.int .i64 3, .string ⟨#[]⟩, .int .u64 0, .int .u64 0, .int .u64 0, .int .u64 0, .string ⟨#[78]⟩, .string ⟨#[]⟩] 1 true 56,
  .arr [.int .i64 6, .string ⟨#[]⟩, .int .u64 281474976710656, .int .u64 0, .int .u64 0, .int .u64 0, .string ⟨#[]⟩, .string ⟨#[]⟩] 1 true 56,
  .arr [.int .i64 1, .slice (some ⟨20, 0, some 1⟩) 1 1] 1 true 82,
  .arr [.string ⟨#[65]⟩] 1 true 9,
  .arr [.slice (some ⟨19, 0, some 1⟩) 1 1] 0 true 80,
  .arr [.slice (some ⟨19, 0, some 1⟩) 1 1] 0 true 80,
  .map [(.string ⟨#[69]⟩, .int .i64 0), (.string ⟨#[78]⟩, .int .i64 1)],
  .map [(.agg #[.bool true, .string ⟨#[]⟩, .int .u64 281474976710656, .int .u64 0, .int .u64 0, .int .u64 0, .string ⟨#[]⟩], .int .i64 2)],
  .arr [.string ⟨#[69]⟩, .string ⟨#[]⟩, .slice (some ⟨15, 0, some 1⟩) 3 3, .slice (some ⟨22, 0, some 0⟩) 1 1, .slice none 0 0, .slice none 0 0, .slice none 0 0, .int .i64 4, .int .i64 3, .slice (some ⟨77, 0, some 5⟩) 6 6, .slice (some ⟨78, 0, some 5⟩) 6 6, .slice (some ⟨35, 0, some 3⟩) 4 4, .slice none 0 0, .slice none 0 0, .slice none 0 0, .map (some 23), .map (some 24), .slice (some ⟨45, 0, some 0⟩) 1 1, .int .i64 (-1)] 0 true 94,
  .arr [.pointer (some ⟨25, 0, some 0⟩)] 0 true 89,
  .arr [.string ⟨#[69]⟩, .string ⟨#[]⟩, .slice (some ⟨15, 0, some 1⟩) 3 3, .slice (some ⟨22, 0, some 0⟩) 1 1, .slice none 0 0, .slice none 0 0, .slice none 0 0] 0 true 28,
  .arr [.string ⟨#[69]⟩, .string ⟨#[]⟩, .slice (some ⟨15, 0, some 1⟩) 3 3, .slice (some ⟨22, 0, some 0⟩) 1 1, .slice none 0 0, .slice none 0 0, .slice none 0 0] 0 true 28,
  .map [(.string ⟨#[69]⟩, .int .i64 2), (.string ⟨#[78]⟩, .int .i64 1)],
  .arr [.string ⟨#[69]⟩, .string ⟨#[]⟩, .slice (some ⟨15, 0, some 1⟩) 3 3, .slice (some ⟨22, 0, some 0⟩) 1 1, .slice none 0 0, .slice none 0 0, .slice none 0 0, .slice (some ⟨32, 0, some 1⟩) 2 2, .map (some 29)] 0 true 190,
  .arr [.bool false, .string ⟨#[69]⟩, .string ⟨#[65]⟩, .bool false, .slice (some ⟨16, 0, some 1⟩) 3 3] 0 true 51,
  .arr [.string ⟨#[69]⟩, .string ⟨#[78]⟩] 1 true 9,
  .arr [.bool false, .string ⟨#[69]⟩, .string ⟨#[78]⟩, .bool false, .slice (some ⟨17, 0, some 1⟩) 1 1] 0 true 51,
  .arr [.bool true, .string ⟨#[78]⟩, .string ⟨#[]⟩, .bool false, .slice (some ⟨18, 0, some 1⟩) 1 1] 0 true 51,
  .arr [.string ⟨#[69]⟩, .string ⟨#[78]⟩, .string ⟨#[91, 48, 93, 43]⟩, .string ⟨#[116, 111, 112]⟩] 3 true 9,
  .arr [.bool false, .string ⟨#[69]⟩, .string ⟨#[65]⟩, .bool false, .slice (some ⟨16, 0, some 1⟩) 3 3] 0 true 51,
  .arr [.int .i64 3, .string ⟨#[]⟩, .int .u64 0, .int .u64 0, .int .u64 0, .int .u64 0, .string ⟨#[69]⟩, .string ⟨#[]⟩] 0 true 56,
  .arr [.int .i64 1, .string ⟨#[43]⟩, .int .u64 0, .int .u64 0, .int .u64 0, .int .u64 0, .string ⟨#[]⟩, .string ⟨#[]⟩] 0 true 56,
  .arr [.int .i64 3, .string ⟨#[]⟩, .int .u64 0, .int .u64 0, .int .u64 0, .int .u64 0, .string ⟨#[69]⟩, .string ⟨#[]⟩] 0 true 56,
  .arr [.bool false, .string ⟨#[69]⟩, .string ⟨#[78]⟩, .bool false, .slice (some ⟨17, 0, some 1⟩) 1 1] 0 true 51,
  .arr [.int .i64 3, .string ⟨#[]⟩, .int .u64 0, .int .u64 0, .int .u64 0, .int .u64 0, .string ⟨#[78]⟩, .string ⟨#[]⟩] 0 true 56,
  .arr [.bool true, .string ⟨#[78]⟩, .string ⟨#[]⟩, .bool false, .slice (some ⟨18, 0, some 1⟩) 1 1] 0 true 51,
  .arr [.int .i64 6, .string ⟨#[]⟩, .int .u64 281474976710656, .int .u64 0, .int .u64 0, .int .u64 0, .string ⟨#[]⟩, .string ⟨#[]⟩] 0 true 56,
  .arr [.bool true, .string ⟨#[]⟩, .int .u64 281474976710656, .int .u64 0, .int .u64 0, .int .u64 0, .string ⟨#[]⟩] 0 true 154,
  .arr [.bool true, .string ⟨#[]⟩, .int .u64 281474976710656, .int .u64 0, .int .u64 0, .int .u64 0, .string ⟨#[]⟩] 0 true 154,
  .arr [.pointer (some ⟨25, 0, some 0⟩)] 0 true 89,
  .arr [.bool false, .string ⟨#[69]⟩, .string ⟨#[65]⟩, .bool false, .slice (some ⟨16, 0, some 1⟩) 3 3] 0 true 51,
  .arr [.bool false, .string ⟨#[69]⟩, .string ⟨#[65]⟩, .bool false, .slice (some ⟨16, 0, some 1⟩) 3 3] 0 true 51,
  .arr [.int .i64 0, .int .i64 0, .int .i64 0, .slice (some ⟨58, 0, some 2⟩) 3 3] 0 true 67,
  .arr [.int .i64 3, .string ⟨#[]⟩, .int .u64 0, .int .u64 0, .int .u64 0, .int .u64 0, .string ⟨#[69]⟩, .string ⟨#[]⟩] 0 true 56,
  .arr [.bool false, .string ⟨#[69]⟩, .string ⟨#[65]⟩, .bool false, .slice (some ⟨16, 0, some 1⟩) 3 3] 0 true 51,
  .arr [.int .i64 3, .string ⟨#[]⟩, .int .u64 0, .int .u64 0, .int .u64 0, .int .u64 0, .string ⟨#[69]⟩, .string ⟨#[]⟩] 0 true 56,
  .arr [.int .i64 0, .int .u64 0, .int .u64 0, .int .u64 0, .int .u64 0] 0 true 65,
  .arr [.int .i64 0, .int .u64 0, .int .u64 0, .int .u64 0, .int .u64 0] 0 true 65,
  .arr [.int .i64 0, .int .u64 0, .int .u64 0, .int .u64 0, .int .u64 0] 0 true 65,
  .arr [.int .i64 0, .int .u64 0, .int .u64 0, .int .u64 0, .int .u64 0, .int .i64 (-1), .int .u64 8796093022208, .int .u64 0, .int .u64 0, .int .u64 0, .int .i64 0, .int .u64 0, .int .u64 0, .int .u64 0, .int .u64 0] 2 true 65,
  .arr [.int .i64 0] 0 true 3,
  .arr [.int .i64 0, .int .i64 1, .int .i64 2] 2 true 3,
  .arr [.int .i64 1, .string ⟨#[43]⟩, .int .u64 0, .int .u64 0, .int .u64 0, .int .u64 0, .string ⟨#[]⟩, .string ⟨#[]⟩] 0 true 56,
  .arr [.bool false, .string ⟨#[69]⟩, .string ⟨#[65]⟩, .bool false, .slice (some ⟨16, 0, some 1⟩) 3 3] 0 true 51,
  .arr [.int .i64 1, .string ⟨#[43]⟩, .int .u64 0, .int .u64 0, .int .u64 0, .int .u64 0, .string ⟨#[]⟩, .string ⟨#[]⟩] 0 true 56,
  .arr [.int .u8 43] 0 true 5,
  .arr [.int .i64 (-1), .int .u64 8796093022208, .int .u64 0, .int .u64 0, .int .u64 0] 0 true 65,
  .arr [.int .i64 (-1), .int .u64 8796093022208, .int .u64 0, .int .u64 0, .int .u64 0] 0 true 65,
  .arr [.int .i64 (-1), .int .u64 8796093022208, .int .u64 0, .int .u64 0, .int .u64 0] 0 true 65,
  .arr [.int .i64 (-1), .int .u64 8796093022208, .int .u64 0, .int .u64 0, .int .u64 0] 0 true 65,
  .arr [.int .i64 1] 0 true 3,
  .arr [.int .i64 3, .string ⟨#[]⟩, .int .u64 0, .int .u64 0, .int .u64 0, .int .u64 0, .string ⟨#[69]⟩, .string ⟨#[]⟩] 0 true 56,
  .arr [.bool false, .string ⟨#[69]⟩, .string ⟨#[65]⟩, .bool false, .slice (some ⟨16, 0, some 1⟩) 3 3] 0 true 51,
  .arr [.int .i64 3, .string ⟨#[]⟩, .int .u64 0, .int .u64 0, .int .u64 0, .int .u64 0, .string ⟨#[69]⟩, .string ⟨#[]⟩] 0 true 56,
  .arr [.int .i64 0, .int .u64 0, .int .u64 0, .int .u64 0, .int .u64 0] 0 true 65,
  .arr [.int .i64 0, .int .u64 0, .int .u64 0, .int .u64 0, .int .u64 0] 0 true 65,
  .arr [.int .i64 0, .int .u64 0, .int .u64 0, .int .u64 0, .int .u64 0] 0 true 65,
  .arr [.int .i64 2] 0 true 3,
  .arr [.int .i64 0, .int .i64 0, .int .i64 0, .slice (some ⟨58, 0, some 2⟩) 3 3] 0 true 67,
  .arr [.int .i64 0, .slice (some ⟨56, 0, some 2⟩) 3 3] 0 true 63,
  .arr [.int .i64 0, .slice (some ⟨56, 0, some 2⟩) 3 3, .int .i64 0, .slice (some ⟨88, 0, some 0⟩) 1 1, .int .i64 1, .slice (some ⟨100, 0, some 0⟩) 1 1, .int .i64 2, .slice (some ⟨105, 0, some 0⟩) 1 1, .int .i64 2, .slice (some ⟨106, 0, some 1⟩) 2 2, .int .i64 3, .slice (some ⟨109, 0, some 0⟩) 1 1] 5 true 63,
  .arr [.int .i64 0, .int .i64 0, .int .i64 0, .slice (some ⟨58, 0, some 2⟩) 3 3, .int .i64 0, .int .i64 1, .int .i64 0, .slice (some ⟨90, 0, some 0⟩) 1 1, .int .i64 0, .int .i64 2, .int .i64 0, .slice (some ⟨102, 0, some 0⟩) 1 1, .int .i64 1, .int .i64 0, .int .i64 0, .slice none 0 0, .int .i64 2, .int .i64 0, .int .i64 0, .slice none 0 0, .int .i64 5, .int .i64 0, .int .i64 0, .slice none 0 0] 5 true 67,
  .arr [.bool false, .string ⟨#[69]⟩, .string ⟨#[78]⟩, .bool false, .slice (some ⟨17, 0, some 1⟩) 1 1] 0 true 51,
  .arr [.bool false, .string ⟨#[69]⟩, .string ⟨#[78]⟩, .bool false, .slice (some ⟨17, 0, some 1⟩) 1 1] 0 true 51,
  .arr [.int .i64 0, .int .i64 1, .int .i64 0, .slice (some ⟨90, 0, some 0⟩) 1 1] 0 true 67,
  .arr [.int .i64 3, .string ⟨#[]⟩, .int .u64 0, .int .u64 0, .int .u64 0, .int .u64 0, .string ⟨#[78]⟩, .string ⟨#[]⟩] 0 true 56,
  .arr [.bool false, .string ⟨#[69]⟩, .string ⟨#[78]⟩, .bool false, .slice (some ⟨17, 0, some 1⟩) 1 1] 0 true 51,
  .arr [.int .i64 3, .string ⟨#[]⟩, .int .u64 0, .int .u64 0, .int .u64 0, .int .u64 0, .string ⟨#[78]⟩, .string ⟨#[]⟩] 0 true 56,
  .arr [.int .i64 1, .int .u64 0, .int .u64 0, .int .u64 0, .int .u64 0] 0 true 65,
  .arr [.int .i64 1, .int .u64 0, .int .u64 0, .int .u64 0, .int .u64 0] 0 true 65,
  .arr [.int .i64 1, .int .u64 0, .int .u64 0, .int .u64 0, .int .u64 0] 0 true 65,
  .arr [.int .i64 1, .int .u64 0, .int .u64 0, .int .u64 0, .int .u64 0] 0 true 65,
  .arr [.int .i64 0] 0 true 3,
  .arr [.int .i64 0] 0 true 3,
  .arr [.bool true, .string ⟨#[78]⟩, .string ⟨#[]⟩, .bool false, .slice (some ⟨18, 0, some 1⟩) 1 1] 0 true 51,
  .arr [.bool true, .string ⟨#[78]⟩, .string ⟨#[]⟩, .bool false, .slice (some ⟨18, 0, some 1⟩) 1 1] 0 true 51,
  .arr [.int .i64 0, .int .i64 2, .int .i64 0, .slice (some ⟨102, 0, some 0⟩) 1 1] 0 true 67,
  .arr [.int .i64 6, .string ⟨#[]⟩, .int .u64 281474976710656, .int .u64 0, .int .u64 0, .int .u64 0, .string ⟨#[]⟩, .string ⟨#[]⟩] 0 true 56,
  .arr [.bool true, .string ⟨#[78]⟩, .string ⟨#[]⟩, .bool false, .slice (some ⟨18, 0, some 1⟩) 1 1] 0 true 51,
  .arr [.int .i64 6, .string ⟨#[]⟩, .int .u64 281474976710656, .int .u64 0, .int .u64 0, .int .u64 0, .string ⟨#[]⟩, .string ⟨#[]⟩] 0 true 56,
  .arr [.int .i64 2, .int .u64 0, .int .u64 0, .int .u64 0, .int .u64 0] 0 true 65,
  .arr [.int .i64 2, .int .u64 0, .int .u64 0, .int .u64 0, .int .u64 0] 0 true 65,
  .arr [.int .i64 2, .int .u64 0, .int .u64 0, .int .u64 0, .int .u64 0] 0 true 65,
  .arr [.int .i64 2, .int .u64 0, .int .u64 0, .int .u64 0, .int .u64 0] 0 true 65,
  .arr [.int .i64 0] 0 true 3,
  .arr [.int .i64 0] 0 true 3,
  .arr [.bool true, .string ⟨#[]⟩, .int .u64 281474976710656, .int .u64 0, .int .u64 0, .int .u64 0, .string ⟨#[]⟩] 0 true 154,
  .arr [.int .i64 (-1), .int .u64 281474976710656, .int .u64 0, .int .u64 0, .int .u64 0] 0 true 65,
  .arr [.int .i64 (-1), .int .u64 281474976710656, .int .u64 0, .int .u64 0, .int .u64 0] 0 true 65,
  .arr [.int .i64 2, .int .u64 0, .int .u64 0, .int .u64 0, .int .u64 0, .int .i64 (-1), .int .u64 281474976710656, .int .u64 0, .int .u64 0, .int .u64 0] 1 true 65,
  .arr [.slice (some ⟨106, 0, some 0⟩) 1 1] 0 true 61,
  .arr [.int .i64 0, .int .u64 0, .int .u64 0, .int .u64 0, .int .u64 0] 0 true 65,
  .arr [.int .i64 0, .int .u64 0, .int .u64 0, .int .u64 0, .int .u64 0] 0 true 65]
def s6h : Heap := [.arr [.string ⟨#[69]⟩, .string ⟨#[]⟩, .slice (some ⟨7, 0, some 0⟩) 3 3, .slice (some ⟨10, 0, some 0⟩) 1 1, .slice none 0 0, .slice none 0 0, .slice none 0 0] 0 true 28,
  .arr [.int .i64 3, .string ⟨#[]⟩, .int .u64 0, .int .u64 0, .int .u64 0, .int .u64 0, .string ⟨#[69]⟩, .string ⟨#[]⟩] 0 true 56,
  .arr [.int .i64 3, .string ⟨#[]⟩, .int .u64 0, .int .u64 0, .int .u64 0, .int .u64 0, .string ⟨#[78]⟩, .string ⟨#[]⟩] 0 true 56,
  .arr [.int .i64 1, .string ⟨#[43]⟩, .int .u64 0, .int .u64 0, .int .u64 0, .int .u64 0, .string ⟨#[]⟩, .string ⟨#[]⟩] 0 true 56,
  .arr [.int .i64 3, .string ⟨#[]⟩, .int .u64 0, .int .u64 0, .int .u64 0, .int .u64 0, .string ⟨#[69]⟩, .string ⟨#[]⟩, .int .i64 1, .string ⟨#[43]⟩, .int .u64 0, .int .u64 0, .int .u64 0, .int .u64 0, .string ⟨#[]⟩, .string ⟨#[]⟩, .int .i64 3, .string ⟨#[]⟩, .int .u64 0, .int .u64 0, .int .u64 0, .int .u64 0, .string ⟨#[69]⟩, .string ⟨#[]⟩] 0 true 56,
  .arr [.int .i64 3, .string ⟨#[]⟩, .int .u64 0, .int .u64 0, .int .u64 0, .int .u64 0, .string ⟨#[78]⟩, .string ⟨#[]⟩] 0 true 56,
  .arr [.int .i64 6, .string ⟨#[]⟩, .int .u64 281474976710656, .int .u64 0, .int .u64 0, .int .u64 0, .string ⟨#[]⟩, .string ⟨#[]⟩] 0 true 56,
  .arr [.bool false, .string ⟨#[69]⟩, .string ⟨#[65]⟩, .bool false, .slice (some ⟨4, 0, some 0⟩) 3 3, .bool false, .string ⟨#[69]⟩, .string ⟨#[78]⟩, .bool false, .slice (some ⟨5, 0, some 0⟩) 1 1, .bool true, .string ⟨#[78]⟩, .string ⟨#[]⟩, .bool false, .slice (some ⟨6, 0, some 0⟩) 1 1] 0 true 51,
  .arr [.string ⟨#[65]⟩] 0 true 9,
  .arr [.int .i64 1, .slice (some ⟨8, 0, some 0⟩) 1 1] 0 true 82,
  .arr [.slice (some ⟨9, 0, some 0⟩) 1 1] 0 true 80,
  .arr [.string ⟨#[69]⟩, .string ⟨#[]⟩, .slice (some ⟨7, 0, some 0⟩) 3 3, .slice (some ⟨10, 0, some 0⟩) 1 1, .slice none 0 0, .slice none 0 0, .slice none 0 0] 0 true 28,
  .arr [.string ⟨#[]⟩, .string ⟨#[]⟩, .slice none 0 0, .slice none 0 0, .slice none 0 0, .slice none 0 0, .slice none 0 0, .int .i64 0, .int .i64 0, .slice none 0 0, .slice none 0 0, .slice none 0 0, .slice none 0 0, .slice none 0 0, .slice none 0 0] 0 true 43,
  .arr [.string ⟨#[69]⟩, .string ⟨#[]⟩, .slice (some ⟨15, 0, some 1⟩) 3 3, .slice (some ⟨22, 0, some 0⟩) 1 1, .slice none 0 0, .slice none 0 0, .slice none 0 0] 0 true 28,
  .arr [.string ⟨#[69]⟩, .string ⟨#[]⟩, .slice (some ⟨15, 0, some 1⟩) 3 3, .slice (some ⟨22, 0, some 0⟩) 1 1, .slice none 0 0, .slice none 0 0, .slice none 0 0] 0 true 28,
  .arr [.bool false, .string ⟨#[69]⟩, .string ⟨#[65]⟩, .bool false, .slice (some ⟨16, 0, some 1⟩) 3 3, .bool false, .string ⟨#[69]⟩, .string ⟨#[78]⟩, .bool false, .slice (some ⟨17, 0, some 1⟩) 1 1, .bool true, .string ⟨#[78]⟩, .string ⟨#[]⟩, .bool false, .slice (some ⟨18, 0, some 1⟩) 1 1] 1 true 51,
  .arr [.int .i64 3, .string ⟨#[]⟩, .int .u64 0, .int .u64 0, .int .u64 0, .int .u64 0, .string ⟨#[69]⟩, .string ⟨#[]⟩, .int .i64 1, .string ⟨#[43]⟩, .int .u64 0, .int .u64 0, .int .u64 0, .int .u64 0, .string ⟨#[]⟩, .string ⟨#[]⟩, .int .i64 3, .string ⟨#[]⟩, .int .u64 0, .int .u64 0, .int .u64 0, .int .u64 0, .string ⟨#[69]⟩, .string ⟨#[]⟩] 1 true 56,
  .arr [.int .i64 3, .string ⟨#[]⟩, .int .u64 0, .int .u64 0, .int .u64 0, .int .u64 0, .string ⟨#[78]⟩, .string ⟨#[]⟩] 1 true 56,
  .arr [.int .i64 6, .string ⟨#[]⟩, .int .u64 281474976710656, .int .u64 0, .int .u64 0, .int .u64 0, .string ⟨#[]⟩, .string ⟨#[]⟩] 1 true 56,
  .arr [.int .i64 1, .slice (some ⟨20, 0, some 1⟩) 1 1] 1 true 82,
  .arr [.string ⟨#[65]⟩] 1 true 9,
  .arr [.slice (some ⟨19, 0, some 1⟩) 1 1] 0 true 80,
  .arr [.slice (some ⟨19, 0, some 1⟩) 1 1] 0 true 80,
  .map [(.string ⟨#[69]⟩, .int .i64 0), (.string ⟨#[78]⟩, .int .i64 1)],
  .map [(.agg #[.bool true, .string ⟨#[]⟩, .int .u64 281474976710656, .int .u64 0, .int .u64 0, .int .u64 0, .string ⟨#[]⟩], .int .i64 2)],
  .arr [.string ⟨#[69]⟩, .string ⟨#[]⟩, .slice (some ⟨15, 0, some 1⟩) 3 3, .slice (some ⟨22, 0, some 0⟩) 1 1, .slice none 0 0, .slice none 0 0, .slice none 0 0, .int .i64 4, .int .i64 3, .slice (some ⟨77, 0, some 5⟩) 6 6, .slice (some ⟨78, 0, some 5⟩) 6 6, .slice (some ⟨35, 0, some 3⟩) 4 4, .slice (some ⟨112, 0, some 0⟩) 1 1, .slice (some ⟨113, 0, some 0⟩) 4 4, .slice (some ⟨114, 0, some 0⟩) 4 4, .map (some 23), .map (some 24), .slice (some ⟨45, 0, some 0⟩) 1 1, .int .i64 (-1)] 0 true 94,
  .arr [.pointer (some ⟨25, 0, some 0⟩)] 0 true 89,
  .arr [.string ⟨#[69]⟩, .string ⟨#[]⟩, .slice (some ⟨15, 0, some 1⟩) 3 3, .slice (some ⟨22, 0, some 0⟩) 1 1, .slice none 0 0, .slice none 0 0, .slice none 0 0] 0 true 28,
  .arr [.string ⟨#[69]⟩, .string ⟨#[]⟩, .slice (some ⟨15, 0, some 1⟩) 3 3, .slice (some ⟨22, 0, some 0⟩) 1 1, .slice none 0 0, .slice none 0 0, .slice none 0 0] 0 true 28,
  .map [(.string ⟨#[69]⟩, .int .i64 2), (.string ⟨#[78]⟩, .int .i64 1)],
  .arr [.string ⟨#[69]⟩, .string ⟨#[]⟩, .slice (some ⟨15, 0, some 1⟩) 3 3, .slice (some ⟨22, 0, some 0⟩) 1 1, .slice none 0 0, .slice none 0 0, .slice none 0 0, .slice (some ⟨32, 0, some 1⟩) 2 2, .map (some 29)] 0 true 190,
  .arr [.bool false, .string ⟨#[69]⟩, .string ⟨#[65]⟩, .bool false, .slice (some ⟨16, 0, some 1⟩) 3 3] 0 true 51,
  .arr [.string ⟨#[69]⟩, .string ⟨#[78]⟩] 1 true 9,
  .arr [.bool false, .string ⟨#[69]⟩, .string ⟨#[78]⟩, .bool false, .slice (some ⟨17, 0, some 1⟩) 1 1] 0 true 51,
  .arr [.bool true, .string ⟨#[78]⟩, .string ⟨#[]⟩, .bool false, .slice (some ⟨18, 0, some 1⟩) 1 1] 0 true 51,
  .arr [.string ⟨#[69]⟩, .string ⟨#[78]⟩, .string ⟨#[91, 48, 93, 43]⟩, .string ⟨#[116, 111, 112]⟩] 3 true 9,
  .arr [.bool false, .string ⟨#[69]⟩, .string ⟨#[65]⟩, .bool false, .slice (some ⟨16, 0, some 1⟩) 3 3] 0 true 51,
  .arr [.int .i64 3, .string ⟨#[]⟩, .int .u64 0, .int .u64 0, .int .u64 0, .int .u64 0, .string ⟨#[69]⟩, .string ⟨#[]⟩] 0 true 56,
  .arr [.int .i64 1, .string ⟨#[43]⟩, .int .u64 0, .int .u64 0, .int .u64 0, .int .u64 0, .string ⟨#[]⟩, .string ⟨#[]⟩] 0 true 56,
  .arr [.int .i64 3, .string ⟨#[]⟩, .int .u64 0, .int .u64 0, .int .u64 0, .int .u64 0, .string ⟨#[69]⟩, .string ⟨#[]⟩] 0 true 56,
  .arr [.bool false, .string ⟨#[69]⟩, .string ⟨#[78]⟩, .bool false, .slice (some ⟨17, 0, some 1⟩) 1 1] 0 true 51,
  .arr [.int .i64 3, .string ⟨#[]⟩, .int .u64 0, .int .u64 0, .int .u64 0, .int .u64 0, .string ⟨#[78]⟩, .string ⟨#[]⟩] 0 true 56,
  .arr [.bool true, .string ⟨#[78]⟩, .string ⟨#[]⟩, .bool false, .slice (some ⟨18, 0, some 1⟩) 1 1] 0 true 51,
  .arr [.int .i64 6, .string ⟨#[]⟩, .int .u64 281474976710656, .int .u64 0, .int .u64 0, .int .u64 0, .string ⟨#[]⟩, .string ⟨#[]⟩] 0 true 56,
  .arr [.bool true, .string ⟨#[]⟩, .int .u64 281474976710656, .int .u64 0, .int .u64 0, .int .u64 0, .string ⟨#[]⟩] 0 true 154,
  .arr [.bool true, .string ⟨#[]⟩, .int .u64 281474976710656, .int .u64 0, .int .u64 0, .int .u64 0, .string ⟨#[]⟩] 0 true 154,
  .arr [.pointer (some ⟨25, 0, some 0⟩)] 0 true 89,
  .arr [.bool false, .string ⟨#[69]⟩, .string ⟨#[65]⟩, .bool false, .slice (some ⟨16, 0, some 1⟩) 3 3] 0 true 51,
  .arr [.bool false, .string ⟨#[69]⟩, .string ⟨#[65]⟩, .bool false, .slice (some ⟨16, 0, some 1⟩) 3 3] 0 true 51,
  .arr [.int .i64 0, .int .i64 0, .int .i64 0, .slice (some ⟨58, 0, some 2⟩) 3 3] 0 true 67,
  .arr [.int .i64 3, .string ⟨#[]⟩, .int .u64 0, .int .u64 0, .int .u64 0, .int .u64 0, .string ⟨#[69]⟩, .string ⟨#[]⟩] 0 true 56,
  .arr [.bool false, .string ⟨#[69]⟩, .string ⟨#[65]⟩, .bool false, .slice (some ⟨16, 0, some 1⟩) 3 3] 0 true 51,
  .arr [.int .i64 3, .string ⟨#[]⟩, .int .u64 0, .int .u64 0, .int .u64 0, .int .u64 0, .string ⟨#[69]⟩, .string ⟨#[]⟩] 0 true 56,
  .arr [.int .i64 0, .int .u64 0, .int .u64 0, .int .u64 0, .int .u64 0] 0 true 65,
  .arr [.int .i64 0, .int .u64 0, .int .u64 0, .int .u64 0, .int .u64 0] 0 true 65,
  .arr [.int .i64 0, .int .u64 0, .int .u64 0, .int .u64 0, .int .u64 0] 0 true 65,
  .arr [.int .i64 0, .int .u64 0, .int .u64 0, .int .u64 0, .int .u64 0, .int .i64 (-1), .int .u64 8796093022208, .int .u64 0, .int .u64 0, .int .u64 0, .int .i64 0, .int .u64 0, .int .u64 0, .int .u64 0, .int .u64 0] 2 true 65,
  .arr [.int .i64 0] 0 true 3,
  .arr [.int .i64 0, .int .i64 1, .int .i64 2] 2 true 3,
  .arr [.int .i64 1, .string ⟨#[43]⟩, .int .u64 0, .int .u64 0, .int .u64 0, .int .u64 0, .string ⟨#[]⟩, .string ⟨#[]⟩] 0 true 56,
  .arr [.bool false, .string ⟨#[69]⟩, .string ⟨#[65]⟩, .bool false, .slice (some ⟨16, 0, some 1⟩) 3 3] 0 true 51,
  .arr [.int .i64 1, .string ⟨#[43]⟩, .int .u64 0, .int .u64 0, .int .u64 0, .int .u64 0, .string ⟨#[]⟩, .string ⟨#[]⟩] 0 true 56,
  .arr [.int .u8 43] 0 true 5,
  .arr [.int .i64 (-1), .int .u64 8796093022208, .int .u64 0, .int .u64 0, .int .u64 0] 0 true 65,
  .arr [.int .i64 (-1), .int .u64 8796093022208, .int .u64 0, .int .u64 0, .int .u64 0] 0 true 65,
  .arr [.int .i64 (-1), .int .u64 8796093022208, .int .u64 0, .int .u64 0, .int .u64 0] 0 true 65,
  .arr [.int .i64 (-1), .int .u64 8796093022208, .int .u64 0, .int .u64 0, .int .u64 0] 0 true 65,
  .arr [.int .i64 1] 0 true 3,
  .arr [.int .i64 3, .string ⟨#[]⟩, .int .u64 0, .int .u64 0, .int .u64 0, .int .u64 0, .string ⟨#[69]⟩, .string ⟨#[]⟩] 0 true 56,
  .arr [.bool false, .string ⟨#[69]⟩, .string ⟨#[65]⟩, .bool false, .slice (some ⟨16, 0, some 1⟩) 3 3] 0 true 51,
  .arr [.int .i64 3, .string ⟨#[]⟩, .int .u64 0, .int .u64 0, .int .u64 0, .int .u64 0, .string ⟨#[69]⟩, .string ⟨#[]⟩] 0 true 56,
  .arr [.int .i64 0, .int .u64 0, .int .u64 0, .int .u64 0, .int .u64 0] 0 true 65,
  .arr [.int .i64 0, .int .u64 0, .int .u64 0, .int .u64 0, .int .u64 0] 0 true 65,
  .arr [.int .i64 0, .int .u64 0, .int .u64 0, .int .u64 0, .int .u64 0] 0 true 65,
  .arr [.int .i64 2] 0 true 3,
  .arr [.int .i64 0, .int .i64 0, .int .i64 0, .slice (some ⟨58, 0, some 2⟩) 3 3] 0 true 67,
  .arr [.int .i64 0, .slice (some ⟨56, 0, some 2⟩) 3 3] 0 true 63,
  .arr [.int .i64 0, .slice (some ⟨56, 0, some 2⟩) 3 3, .int .i64 0, .slice (some ⟨88, 0, some 0⟩) 1 1, .int .i64 1, .slice (some ⟨100, 0, some 0⟩) 1 1, .int .i64 2, .slice (some ⟨105, 0, some 0⟩) 1 1, .int .i64 2, .slice (some ⟨106, 0, some 1⟩) 2 2, .int .i64 3, .slice (some ⟨109, 0, some 0⟩) 1 1] 5 true 63,
  .arr [.int .i64 0, .int .i64 0, .int .i64 0, .slice (some ⟨58, 0, some 2⟩) 3 3, .int .i64 0, .int .i64 1, .int .i64 0, .slice (some ⟨90, 0, some 0⟩) 1 1, .int .i64 0, .int .i64 2, .int .i64 0, .slice (some ⟨102, 0, some 0⟩) 1 1, .int .i64 1, .int .i64 0, .int .i64 0, .slice none 0 0, .int .i64 2, .int .i64 0, .int .i64 0, .slice none 0 0, .int .i64 5, .int .i64 0, .int .i64 0, .slice none 0 0] 5 true 67,
  .arr [.bool false, .string ⟨#[69]⟩, .string ⟨#[78]⟩, .bool false, .slice (some ⟨17, 0, some 1⟩) 1 1] 0 true 51,
  .arr [.bool false, .string ⟨#[69]⟩, .string ⟨#[78]⟩, .bool false, .slice (some ⟨17, 0, some 1⟩) 1 1] 0 true 51,
  .arr [.int .i64 0, .int .i64 1, .int .i64 0, .slice (some ⟨90, 0, some 0⟩) 1 1] 0 true 67,
  .arr [.int .i64 3, .string ⟨#[]⟩, .int .u64 0, .int .u64 0, .int .u64 0, .int .u64 0, .string ⟨#[78]⟩, .string ⟨#[]⟩] 0 true 56,
  .arr [.bool false, .string ⟨#[69]⟩, .string ⟨#[78]⟩, .bool false, .slice (some ⟨17, 0, some 1⟩) 1 1] 0 true 51,
  .arr [.int .i64 3, .string ⟨#[]⟩, .int .u64 0, .int .u64 0, .int .u64 0, .int .u64 0, .string ⟨#[78]⟩, .string ⟨#[]⟩] 0 true 56,
  .arr [.int .i64 1, .int .u64 0, .int .u64 0, .int .u64 0, .int .u64 0] 0 true 65,
  .arr [.int .i64 1, .int .u64 0, .int .u64 0, .int .u64 0, .int .u64 0] 0 true 65,
  .arr [.int .i64 1, .int .u64 0, .int .u64 0, .int .u64 0, .int .u64 0] 0 true 65,
  .arr [.int .i64 1, .int .u64 0, .int .u64 0, .int .u64 0, .int .u64 0] 0 true 65,
  .arr [.int .i64 0] 0 true 3,
  .arr [.int .i64 0] 0 true 3,
  .arr [.bool true, .string ⟨#[78]⟩, .string ⟨#[]⟩, .bool false, .slice (some ⟨18, 0, some 1⟩) 1 1] 0 true 51,
  .arr [.bool true, .string ⟨#[78]⟩, .string ⟨#[]⟩, .bool false, .slice (some ⟨18, 0, some 1⟩) 1 1] 0 true 51,
  .arr [.int .i64 0, .int .i64 2, .int .i64 0, .slice (some ⟨102, 0, some 0⟩) 1 1] 0 true 67,
  .arr [.int .i64 6, .string ⟨#[]⟩, .int .u64 281474976710656, .int .u64 0, .int .u64 0, .int .u64 0, .string ⟨#[]⟩, .string ⟨#[]⟩] 0 true 56,
  .arr [.bool true, .string ⟨#[78]⟩, .string ⟨#[]⟩, .bool false, .slice (some ⟨18, 0, some 1⟩) 1 1] 0 true 51,
  .arr [.int .i64 6, .string ⟨#[]⟩, .int .u64 281474976710656, .int .u64 0, .int .u64 0, .int .u64 0, .string ⟨#[]⟩, .string ⟨#[]⟩] 0 true 56,
  .arr [.int .i64 2, .int .u64 0, .int .u64 0, .int .u64 0, .int .u64 0] 0 true 65,
  .arr [.int .i64 2, .int .u64 0, .int .u64 0, .int .u64 0, .int .u64 0] 0 true 65,
  .arr [.int .i64 2, .int .u64 0, .int .u64 0, .int .u64 0, .int .u64 0] 0 true 65,
  .arr [.int .i64 2, .int .u64 0, .int .u64 0, .int .u64 0, .int .u64 0] 0 true 65,
  .arr [.int .i64 0] 0 true 3,
  .arr [.int .i64 0] 0 true 3,
  .arr [.bool true, .string ⟨#[]⟩, .int .u64 281474976710656, .int .u64 0, .int .u64 0, .int .u64 0, .string ⟨#[]⟩] 0 true 154,
  .arr [.int .i64 (-1), .int .u64 281474976710656, .int .u64 0, .int .u64 0, .int .u64 0] 0 true 65,
  .arr [.int .i64 (-1), .int .u64 281474976710656, .int .u64 0, .int .u64 0, .int .u64 0] 0 true 65,
  .arr [.int .i64 2, .int .u64 0, .int .u64 0, .int .u64 0, .int .u64 0, .int .i64 (-1), .int .u64 281474976710656, .int .u64 0, .int .u64 0, .int .u64 0] 1 true 65,
  .arr [.slice (some ⟨106, 0, some 0⟩) 1 1] 0 true 61,
  .arr [.int .i64 0, .int .u64 0, .int .u64 0, .int .u64 0, .int .u64 0] 0 true 65,
  .arr [.int .i64 0, .int .u64 0, .int .u64 0, .int .u64 0, .int .u64 0] 0 true 65,
  .map [(.agg #[.int .i64 0, .int .i64 2, .int .i64 0], .int .i64 1)],
  .arr [.int .i64 0, .int .i64 2, .int .i64 0] 0 true 70,
  .arr [.int .i64 0, .int .i64 2, .int .i64 0] 0 true 70,
  .arr [.int .u64 0, .int .u64 0, .int .u64 0, .int .u64 0, .int .u64 0, .int .u64 0, .int .u64 0, .int .u64 0, .int .u64 0, .int .u64 0, .int .u64 0, .int .u64 0, .int .u64 0, .int .u64 0, .int .u64 0, .int .u64 0] 0 true 54,
  .arr [.int .i64 (-1), .int .i64 (-1), .int .i64 (-1), .int .i64 (-1)] 0 true 3]

def tup0 : Value := .tuple #[]
def rCheck : Ran := ⟨31, [s1v], s1h, .tuple #[.int .i64 0, .string ⟨#[]⟩], s1h⟩
def rCopied : Ran := ⟨32, [s1v], s1h, s2v, s2h⟩
def rNts : Ran := ⟨33, [s3v], s3h, tup0, s4h⟩
def rRules : Ran := ⟨34, [s3v], s4h, tup0, s5h⟩
def rFilters : Ran := ⟨35, [s3v], s5h, tup0, s6h⟩
theorem t_check : ranB rCheck (callX env (fun _ => true) 400 20 rCheck.f rCheck.args rCheck.h) = true := by kernel_rfl
theorem t_copied : ranB rCopied (callX env (fun _ => true) 400 20 rCopied.f rCopied.args rCopied.h) = true := by kernel_rfl
theorem t_nts : ranB rNts (callX env (fun _ => true) 400 20 rNts.f rNts.args rNts.h) = true := by kernel_rfl
theorem t_rules : ranB rRules (callX env (fun _ => true) 400 20 rRules.f rRules.args rRules.h) = true := by kernel_rfl
theorem t_filters : ranB rFilters (callX env (fun _ => true) 400 20 rFilters.f rFilters.args rFilters.h) = true := by kernel_rfl
def rans : List Ran := [rCheck, rCopied, rNts, rRules, rFilters]
theorem rans_ok : ∀ m ∈ rans, RanOK env m := by
  intro m hm
  simp only [rans, List.mem_cons, List.not_mem_nil, or_false] at hm
  have hC := callX_sound (N := env) mixed nm_ok (fuel := 400) 20
  rcases hm with rfl | rfl | rfl | rfl | rfl
  · exact ran_ok hC t_check
  · exact ran_ok hC t_copied
  · exact ran_ok hC t_nts
  · exact ran_ok hC t_rules
  · exact ran_ok hC t_filters
noncomputable def orc1 := memoX (callX env (fun _ => true) 400 20) rans
noncomputable def orc2 := runF env (fun _ => true) 400 orc1
noncomputable def orc3 := runF env (fun _ => true) 400 orc2
theorem alive_run : ((orc3 13 [] []).map fun p => p.1) = some (.bool true) := by kernel_rfl
end Go.Proofs.YtmdmimkbpikmoaaGreat.Run5
namespace Go.Proofs.YtmdmimkbpikmoaaGreat
open Go.RowKit Am Ty
theorem aliveK_fw {h : Heap} : FW env 13 [] h fun r h' => r = .bool true ∧ h' = h := by
  have h1 := Run5.alive_run
  cases hc : Run5.orc3 13 [] [] with
  | none => rw [hc] at h1; cases h1
  | some p =>
    obtain ⟨r, h'⟩ := p
    rw [hc] at h1
    simp only [Option.map_some, Option.some.injEq] at h1
    subst h1
    have h2 := (runF_sound mixed nm_ok (runF_sound mixed nm_ok (memoX_ok (callX_sound (N := env) mixed nm_ok (fuel := 400) 20) Run5.rans_ok)) _ _ _ _ _ hc).2
    unfold FW
    exact ⟨_, _, .fresh h2 (.pure1 rfl), rfl, rfl⟩
end Go.Proofs.YtmdmimkbpikmoaaGreat

namespace Go.Proofs.YtmdmimkbpikmoaaGreat.Am
set_option linter.unusedSimpArgs false
set_option linter.unusedVariables false
open Go.RowKit

def apartB (ds : List Nat) : Fr → Bool
  | [] => true
  | (k, _) :: r => !ds.contains k && apartB ds r
theorem baseFr_id {ds : List Nat} : ∀ {fr : Fr}, apartB ds fr = true → baseFr ds fr = fr
  | [], _ => rfl
  | (k, v) :: r, h => by
    unfold apartB at h
    rw [Bool.and_eq_true, Bool.not_eq_true'] at h
    unfold baseFr
    rw [h.1, baseFr_id h.2]
    rfl
section
variable {N : Env} {ops : Array Oper}
theorem cw_ordA {id : Nat} {fr : Fr} {h : Heap} {Q : AX → St → Prop} (L : List (List Nat)) (act : List Nat) (hs : List Heap) (resL : List Res) (frF : Fr) (hm : N.P.follows .mixedOrders = true) (hc : ordB ops L act = true) (ha : act.all (fun a => decide (a < ops.size)) = true) (hb : apartB (dstsOf ops) fr = true)
    (hS : StepsA N ops L act resL (h :: hs) fr 0 ops.toList) (ht : tgtB ops resL = true) (hF : FinOK ops resL fr frF) (k : Q .normal ⟨frF, [], hpF (h :: hs) act.length⟩) : CW N (.region id ops true) ⟨fr, [], h⟩ Q :=
  cw_orderA L act (h :: hs) resL fr frF _ hm hc ha ht rfl rfl (baseFr_id hb) hS hF k
end
end Go.Proofs.YtmdmimkbpikmoaaGreat.Am

namespace Go.Proofs.YtmdmimkbpikmoaaGreat.Am
set_option linter.unusedSimpArgs false
set_option linter.unusedVariables false
open Go.RowKit

def cutP (N : Env) : Judg → Prop
  | .ops all (o :: r) s sF => ∃ s', Ev N (.ops all [o] s s') ∧ Ev N (.ops all r s' sF)
  | _ => True
theorem Ev.cutJ {N : Env} {j : Judg} (h : Ev N j) : cutP N j := by
  induction h
  case opSkip hw h _ => exact ⟨_, .opSkip hw (.nil _ _), h⟩
  case opVal hw hv h _ => exact ⟨_, .opVal hw hv (.nil _ _), h⟩
  case opEph hw hd he hne h _ => exact ⟨_, .opEph hw hd he hne (.nil _ _), h⟩
  case opSpec hg hv hd h _ => exact ⟨_, .opSpec hg hv hd (.nil _ _), h⟩
  case opSpecE hg he hd hne h _ => exact ⟨_, .opSpecE hg he hd hne (.nil _ _), h⟩
  case opBox hw hd hb h _ => exact ⟨_, .opBox hw hd hb (.nil _ _), h⟩
  case opBsl hw hd hb h _ => exact ⟨_, .opBsl hw hd hb (.nil _ _), h⟩
  case opBoxH hw hb h _ => exact ⟨_, .opBoxH hw hb (.nil _ _), h⟩
  case opBslH hw hb h _ => exact ⟨_, .opBslH hw hb (.nil _ _), h⟩
  case opMk hw hb h _ => exact ⟨_, .opMk hw hb (.nil _ _), h⟩
  case opSto hw ho ht hp hb hx hv hq hd h _ => exact ⟨_, .opSto hw ho ht hp hb hx hv hq hd (.nil _ _), h⟩
  case opStoH hw ho ht ha hid hx hv hq hd h _ => exact ⟨_, .opStoH hw ho ht ha hid hx hv hq hd (.nil _ _), h⟩
  case opFrz hw ho ht he hx hob hk h _ => exact ⟨_, .opFrz hw ho ht he hx hob hk (.nil _ _), h⟩
  case opMkP hw hd hb h _ => exact ⟨_, .opMkP hw hd hb (.nil _ _), h⟩
  case opMapP hw hd ho hu h _ => exact ⟨_, .opMapP hw hd ho hu (.nil _ _), h⟩
  case opPub hs h ih => obtain ⟨s', k1, k2⟩ := ih; exact ⟨s', .opPub hs k1, k2⟩
  case weakO hf hh he h ih => obtain ⟨s', k1, k2⟩ := ih; exact ⟨s', .weakO hf hh he k1, k2⟩
  case opMap hw ho hu h _ => exact ⟨_, .opMap hw ho hu (.nil _ _), h⟩
  case opUpd hw ho hu hkd hx hid hk hv hkk hmk hd h _ => exact ⟨_, .opUpd hw ho hu hkd hx hid hk hv hkk hmk hd (.nil _ _), h⟩
  case opEnt hw ho hu hkd hz hx hid hk hkk hmk hm h _ => exact ⟨_, .opEnt hw ho hu hkd hz hx hid hk hkk hmk hm (.nil _ _), h⟩
  case opEst hw ho hx hid hi hv hj hd h _ => exact ⟨_, .opEst hw ho hx hid hi hv hj hd (.nil _ _), h⟩
  case opApp0 hw ho hu h2 ht h3 h4 hx hi h5 h6 h7 h _ => exact ⟨_, .opApp0 hw ho hu h2 ht h3 h4 hx hi h5 h6 h7 (.nil _ _), h⟩
  case opApp hw ho hu h2 ht h3 h4 hx hid h8 hi h5 h6 h _ => exact ⟨_, .opApp hw ho hu h2 ht h3 h4 hx hid h8 hi h5 h6 (.nil _ _), h⟩
  case opAppZ hw ho hu h2 ht hx hy h _ => exact ⟨_, .opAppZ hw ho hu h2 ht hx hy (.nil _ _), h⟩
  case opRange hw hd ho hu hx hid h _ => exact ⟨_, .opRange hw hd ho hu hx hid (.nil _ _), h⟩
  case opRangeS hw hd ho hu hx h _ => exact ⟨_, .opRangeS hw hd ho hu hx (.nil _ _), h⟩
  case opNextS hw ho hx hp hc h _ => exact ⟨_, .opNextS hw ho hx hp hc (.nil _ _), h⟩
  case opNextE hw ho hx hp h _ => exact ⟨_, .opNextE hw ho hx hp (.nil _ _), h⟩
  case opNext1 hw ho hx hid hl hf hkv hp h _ => exact ⟨_, .opNext1 hw ho hx hid hl hf hkv hp (.nil _ _), h⟩
  case opNext0 hw ho hx hid hl hf h _ => exact ⟨_, .opNext0 hw ho hx hid hl hf (.nil _ _), h⟩
  case opAppS0 hw ho hu h2 ht h3 h4 h5 hx hy h6 h7 h _ => exact ⟨_, .opAppS0 hw ho hu h2 ht h3 h4 h5 hx hy h6 h7 (.nil _ _), h⟩
  case opAppS hw ho hu h2 ht h3 h4 h5 hx hid h8 hy h6 h _ => exact ⟨_, .opAppS hw ho hu h2 ht h3 h4 h5 hx hid h8 hy h6 (.nil _ _), h⟩
  case opAppSZ hw ho hu h2 ht h3 h4 h5 hx hy h6 h _ => exact ⟨_, .opAppSZ hw ho hu h2 ht h3 h4 h5 hx hy h6 (.nil _ _), h⟩
  case opStB hw ho hu h2 h3 ht h4 hx h5 h _ => exact ⟨_, .opStB hw ho hu h2 h3 ht h4 hx h5 (.nil _ _), h⟩
  case opUStr hw ho hu ht h1 hx hid hy h2 h3 h4 h _ => exact ⟨_, .opUStr hw ho hu ht h1 hx hid hy h2 h3 h4 (.nil _ _), h⟩
  case opCall hw ho hc ha hf hn hb he h _ _ => exact ⟨_, .opCall hw ho hc ha hf hn hb he (.nil _ _), h⟩
  all_goals trivial
theorem Ev.cut {N : Env} {all : Array Oper} {o : Oper} {r : List Oper} {s sF : St} (h : Ev N (.ops all (o :: r) s sF)) : ∃ s', Ev N (.ops all [o] s s') ∧ Ev N (.ops all r s' sF) := h.cutJ
def tailB (ops : Array Oper) (L : List (List Nat)) (n : Nat) : Bool := decide (n < ops.size) && (List.range ops.size).all fun i => decide (i < n) || (List.range i).all fun j => (ancs L i).contains j
section
variable {N : Env} {ops : Array Oper} {L : List (List Nat)} {act : List Nat} {s0 sF : St} {res : Nat → Res} {Hs : Nat → Heap} {n : Nat}
def TInv (N : Env) (ops : Array Oper) (act : List Nat) (s0 : St) (res : Nat → Res) (Hs : Nat → Heap) (n : Nat) (sF : St) (S : Array Bool) (t : St) : Prop :=
  (OInv N ops act s0 res Hs S t ∧ ∀ j, n ≤ j → S.getD j false = false) ∨
  (S.size = ops.size ∧ ∃ m, n < m ∧ m ≤ ops.size ∧ (∀ j, j < ops.size → (S.getD j false = true ↔ j < m)) ∧ Ev N (.ops ops (ops.toList.drop m) t sF))
theorem TInv.step (C : Cert ops L act) (hn : tailB ops L n = true) (hT : ∀ j sl off, res j = .ep sl off → ∀ i, dstAt ops i ≠ some sl)
    (hstep : ∀ i o k, i < n → ops[i]? = some o → k ≤ act.length → stageB L act i k = true → ∃ V, View ops L s0 res i V ∧ V.h = Hs k ∧ One N ops o V (res i) (Hs (if i ∈ act then k + 1 else k)))
    (hact : ∀ a ∈ act, a < n) {frP : Fr} (hF : ∀ p ∈ frP, ((∀ j, dstAt ops j ≠ some p.1) ∧ fget s0.fr p.1 = p.2) ∨ ∃ j, j < n ∧ dstAt ops j = some p.1 ∧ res j = .sl p.2)
    (hE : Ev N (.ops ops (ops.toList.drop n) ⟨frP, [], Hs act.length⟩ sF))
    {S : Array Bool} {t : St} {i : Nat} {o : Oper} (I : TInv N ops act s0 res Hs n sF S t) (hi : i ∈ Region.ready .any ops S) (ho : ops[i]? = some o) :
    ∃ s', Ev N (.ops ops [o] t s') ∧ TInv N ops act s0 res Hs n sF (S.setIfInBounds i true) s' := by
  unfold tailB at hn
  rw [Bool.and_eq_true, decide_eq_true_eq, List.all_eq_true] at hn
  obtain ⟨hns, htl⟩ := hn
  have htl' : ∀ i, i < ops.size → n ≤ i → ∀ j, j < i → j ∈ ancs L i := fun i hi hni j hj => by
    have := htl i (List.mem_range.2 hi)
    rw [Bool.or_eq_true, decide_eq_true_eq] at this
    rcases this with h | h
    · omega
    · rw [List.all_eq_true] at h
      exact List.contains_iff_mem.1 (h j (List.mem_range.2 hj))
  obtain ⟨hun, oi, hoi, hall⟩ := mem_ready.1 hi
  obtain rfl : oi = o := Option.some.inj (hoi.symm.trans ho)
  have hlt : i < ops.size := (Array.getElem?_eq_some_iff.1 ho).1
  have hnot : S.getD i false = false := getD_both hun
  have hr : ∀ o, ops[i]? = some o → ∀ e ∈ o.after, Region.binds .any e = true → S.getD e.on false = true := fun o' ho' e he hb => by
    obtain rfl : oi = o' := Option.some.inj (ho.symm.trans ho')
    exact hall e he hb
  have hdrop : ∀ m, ops[m]? = some oi → ops.toList.drop m = oi :: ops.toList.drop (m + 1) := fun m hm => by
    have h1 : m < ops.toList.length := by simpa using (Array.getElem?_eq_some_iff.1 hm).1
    rw [List.drop_eq_getElem_cons h1]
    congr 1
    have := (Array.getElem?_eq_some_iff.1 hm).2
    simpa using this
  rcases I with ⟨I, hlow⟩ | ⟨hsz, m, hm1, hm2, hS, hEv⟩
  · by_cases hin : i < n
    · obtain ⟨s', k1, k2⟩ := I.step C hT (fun o k => hstep i o k hin) hi ho
      refine ⟨s', k1, .inl ⟨k2, fun j hj => ?_⟩⟩
      cases hb : (S.setIfInBounds i true).getD j false with
      | false => rfl
      | true =>
        rcases (getD_set_ite (by rw [I.size]; exact hlt)).1 hb with rfl | h
        · omega
        · rw [hlow j hj] at h; cases h
    · have hanc : ∀ j, j < i → S.getD j false = true := fun j hj => anc_in C I.size I.closed i j hlt hr (htl' i hlt (by omega) j hj)
      have hin' : i = n := by
        rcases Nat.lt_or_ge n i with h | h
        · have := hanc n h
          rw [hlow n (Nat.le_refl _)] at this
          cases this
        · omega
      subst hin'
      have hsub : SubF frP t.fr := fun p hp => by
        rcases hF p hp with ⟨h1, h2⟩ | ⟨j, h0, h1, h2⟩
        · exact (I.out p.1 h1).1.trans h2
        · exact (I.gotS j p.1 p.2 h1 (hanc j h0) h2).1
      have hh : Hs act.length = t.h := by
        obtain ⟨k, hk, hh, hpre⟩ := I.pre
        have : k = act.length := by
          rcases Nat.lt_or_ge k act.length with h | h
          · have := (hpre k h).1 (hanc _ (hact _ (by simp [h])))
            omega
          · omega
        rw [hh, this]
      rw [hdrop i ho] at hE
      obtain ⟨s', k1, k2⟩ := Ev.cut (.weakO (s0 := ⟨frP, [], Hs act.length⟩) hsub hh rfl hE)
      refine ⟨s', k1, .inr ⟨by simp [I.size], i + 1, by omega, by omega, fun j hj => ?_, k2⟩⟩
      rw [getD_set_ite (by rw [I.size]; exact hlt)]
      constructor
      · rintro (rfl | h)
        · omega
        · rcases Nat.lt_or_ge j i with h2 | h2
          · omega
          · rw [hlow j h2] at h; cases h
      · intro h
        rcases Nat.lt_or_ge j i with h2 | h2
        · exact .inr (hanc j h2)
        · exact .inl (by omega)
  · have him : m ≤ i := by
      rcases Nat.lt_or_ge i m with h | h
      · have := (hS i hlt).2 h
        rw [hnot] at this
        cases this
      · exact h
    have hcl : ∀ j o, ops[j]? = some o → S.getD j false = true → ∀ e ∈ o.after, Region.binds .any e = true → S.getD e.on false = true := fun j o hj hl e he hb => by
      have h1 := C.low j o hj e he hb
      have h2 := (hS j (Array.getElem?_eq_some_iff.1 hj).1).1 hl
      exact (hS e.on (by omega)).2 (by omega)
    have hie : i = m := by
      rcases Nat.lt_or_ge m i with h | h
      · have := anc_in C hsz hcl i m hlt hr (htl' i hlt (by omega) m h)
        have := (hS m (by omega)).1 this
        omega
      · omega
    subst hie
    rw [hdrop i ho] at hEv
    obtain ⟨s', k1, k2⟩ := hEv.cut
    refine ⟨s', k1, .inr ⟨by simp [hsz], i + 1, by omega, by omega, fun j hj => ?_, k2⟩⟩
    rw [getD_set_ite (by rw [hsz]; exact hlt), hS j hj]
    omega
end
section
variable {N : Env} {ops : Array Oper}
def FinT (ops : Array Oper) (resL : List Res) (n : Nat) (fr : Fr) : Fr → Prop
  | [] => True
  | (x, v) :: r => ((x ∉ dstsOf ops ∧ fget fr x = v) ∨ fget (ancFr ops resL (List.range n)) x = v ∧ v ≠ .unk) ∧ FinT ops resL n fr r
theorem FinT.at {resL : List Res} {n : Nat} {fr : Fr} : ∀ {frF : Fr} {p : Nat × Slot}, FinT ops resL n fr frF → p ∈ frF → ((∀ j, dstAt ops j ≠ some p.1) ∧ fget fr p.1 = p.2) ∨ ∃ j, j < n ∧ dstAt ops j = some p.1 ∧ resF resL j = .sl p.2
  | [], p, _, h => by cases h
  | (x, v) :: r, p, ⟨h1, h2⟩, h => by
    rcases List.mem_cons.1 h with rfl | h
    · rcases h1 with ⟨h3, h4⟩ | ⟨h3, h4⟩
      · exact .inl ⟨fun j hj => h3 (mem_dstsOf hj), h4⟩
      · rcases fget_ancFr (ops := ops) (resL := resL) (x := x) (l := List.range n) with h | ⟨j, k1, k2, k3⟩
        · exact (h4 (h3.symm.trans h)).elim
        · exact .inr ⟨j, List.mem_range.1 k2, k1, by rw [resF_some k3, h3]⟩
    · exact FinT.at h2 h
end
attribute [push_cast] prvV
end Go.Proofs.YtmdmimkbpikmoaaGreat.Am

namespace Go.Proofs.YtmdmimkbpikmoaaGreat
set_option linter.unusedSimpArgs false
set_option linter.unusedVariables false
set_option maxRecDepth 20000
open Go.RowKit Am Ty
theorem one_callE {all : Array Oper} {o : Oper} {s : St} {c : Call} {f : FuncId} {cap args : List Value} {fn : Func} {v : Value} {h' : Heap} (hw : wantedA all o s = some true) (ho : o.op = .call c) (hc : calleeA s c.callee = some (f, cap)) (ha : evs s c.args.toList = some args)
    (hf : env.P.funcs[f]? = some fn) (hnm : (fn.name == "runtime.NumGoroutine") = false) (hb : fn.body.isNone = false) (k : Ev env (.call f (args ++ cap) s.h v h')) : One env all o s (.sl (.val v)) h' := .call hw ho hc ha hf hnm hb k
section
variable {h : Heap} {v : Value} {fr : List Org} {l : List ByteArray} {b : ByteArray} {p : Int}
set_option maxHeartbeats 8000000 in
theorem kernelfinds_fw (hk : RdKern0 h v fr l) (hb : b.size ≤ 140737488355328) : FW env 4 [v, .string b, i64 p] h fun r _ => r = .bool true := by
  have hk0 := hk
  obtain ⟨s0, s1, p2, p3, p4, p5, p6, p9, p12, p13, p14, n2, n3, n4, n5, n6, n9, n12, n13, n14, c2, c3, c4, c5, c6, c9, c12, c13, c14, i7, i8, uf, un, rfl, hf, hn⟩ := hk
  obtain ⟨pf, cf, rfl⟩ := hf.form
  obtain ⟨pn, cn, rfl⟩ := hn.form
  refine fw_enter (fn := Tryz.f4) Tryz.func4 rfl (by kernel_rfl) (by simp [Tryz.ntmps4]) ?_; simp only [push_cast]
  by_cases q1 : 4096 < l.length
  · have d1 : decide (4096 < (l.length : Int)) = true := decide_eq_true (by omega)
    repeat (first | apply zs | apply zr | apply zn | ((first | apply zx | apply zy); · simp only [push_cast, env, Nat.reduceEqDiff, reduceIte, Nat.reduceAdd, Nat.reduceMul, Nat.reduceLeDiff, reduceCtorEq, Nat.reduceSub, Int.reduceToNat, d1] <;> first | exact rfl | exact .inl rfl | exact .inr rfl) | apply zq | apply zb | apply zo | apply zk | apply zl)
    refine cw_condT rfl ?_
    repeat (first | apply zs | apply zr | apply zn | ((first | apply zx | apply zy); · simp only [push_cast, env, Nat.reduceEqDiff, reduceIte, Nat.reduceAdd, Nat.reduceMul, Nat.reduceLeDiff, reduceCtorEq, Nat.reduceSub, Int.reduceToNat] <;> first | exact rfl | exact .inl rfl | exact .inr rfl) | apply zq | apply zb | apply zo | apply zk | apply zl)
    refine zc (fn := Tryz.f13) (by simp only [push_cast, env, Nat.reduceEqDiff, reduceIte] <;> exact rfl) Tryz.func13 (by kernel_rfl) (by kernel_rfl) ?_
    refine aliveK_fw.mono ?_
    rintro _ h ⟨rfl, rfl⟩
    repeat (first | apply zs | apply zr | apply zn | ((first | apply zx | apply zy); · simp only [push_cast, env, Nat.reduceEqDiff, reduceIte, Nat.reduceAdd, Nat.reduceMul, Nat.reduceLeDiff, reduceCtorEq, Nat.reduceSub, Int.reduceToNat] <;> first | exact rfl | exact .inl rfl | exact .inr rfl) | apply zq | apply zb | apply zo | apply zk | apply zl)
    refine cw_ret ?_
    exact ⟨_, (by simp only [push_cast, env, Nat.reduceEqDiff, reduceIte] <;> exact rfl), rfl⟩
  have d1 : decide (4096 < (l.length : Int)) = false := decide_eq_false (by omega)
  by_cases q2 : 4096 < fr.length
  · have d2 : decide (4096 < (fr.length : Int)) = true := decide_eq_true (by omega)
    repeat (first | apply zs | apply zr | apply zn | ((first | apply zx | apply zy); · simp only [push_cast, env, Nat.reduceEqDiff, reduceIte, Nat.reduceAdd, Nat.reduceMul, Nat.reduceLeDiff, reduceCtorEq, Nat.reduceSub, Int.reduceToNat, d1, d2] <;> first | exact rfl | exact .inl rfl | exact .inr rfl) | apply zq | apply zb | apply zo | apply zk | apply zl)
    refine cw_condT rfl ?_
    repeat (first | apply zs | apply zr | apply zn | ((first | apply zx | apply zy); · simp only [push_cast, env, Nat.reduceEqDiff, reduceIte, Nat.reduceAdd, Nat.reduceMul, Nat.reduceLeDiff, reduceCtorEq, Nat.reduceSub, Int.reduceToNat] <;> first | exact rfl | exact .inl rfl | exact .inr rfl) | apply zq | apply zb | apply zo | apply zk | apply zl)
    refine zc (fn := Tryz.f13) (by simp only [push_cast, env, Nat.reduceEqDiff, reduceIte] <;> exact rfl) Tryz.func13 (by kernel_rfl) (by kernel_rfl) ?_
    refine aliveK_fw.mono ?_
    rintro _ h ⟨rfl, rfl⟩
    repeat (first | apply zs | apply zr | apply zn | ((first | apply zx | apply zy); · simp only [push_cast, env, Nat.reduceEqDiff, reduceIte, Nat.reduceAdd, Nat.reduceMul, Nat.reduceLeDiff, reduceCtorEq, Nat.reduceSub, Int.reduceToNat] <;> first | exact rfl | exact .inl rfl | exact .inr rfl) | apply zq | apply zb | apply zo | apply zk | apply zl)
    refine cw_ret ?_
    exact ⟨_, (by simp only [push_cast, env, Nat.reduceEqDiff, reduceIte] <;> exact rfl), rfl⟩
  have d2 : decide (4096 < (fr.length : Int)) = false := decide_eq_false (by omega)
  repeat (first | apply zs | apply zr | apply zn | ((first | apply zx | apply zy); · simp only [push_cast, env, Nat.reduceEqDiff, reduceIte, Nat.reduceAdd, Nat.reduceMul, Nat.reduceLeDiff, reduceCtorEq, Nat.reduceSub, Int.reduceToNat, d1, d2] <;> first | exact rfl | exact .inl rfl | exact .inr rfl) | apply zq | apply zb | apply zo | apply zk | apply zl)
  refine cw_condF rfl ?_
  repeat (first | apply zs | apply zr | apply zn | ((first | apply zx | apply zy); · simp only [push_cast, env, Nat.reduceEqDiff, reduceIte, Nat.reduceAdd, Nat.reduceMul, Nat.reduceLeDiff, reduceCtorEq, Nat.reduceSub, Int.reduceToNat] <;> first | exact rfl | exact .inl rfl | exact .inr rfl) | apply zq | apply zb | apply zo | apply zk | apply zl)
  have hA1 := ksort_fw hk0 hb
  unfold FW at hA1
  obtain ⟨r1, h1, hc1, ⟨i1, s1', rfl⟩, ee⟩ := hA1
  rw [ee] at hc1
  clear ee h1
  have hA2 := rsort_fw hk0 hb
  unfold FW at hA2
  obtain ⟨r2, h2, hc2, ⟨i2, s2', rfl⟩, ee⟩ := hA2
  rw [ee] at hc2
  clear ee h2
  obtain rfl := s1'.uniq s2'
  have hA3 := krules_fw (p := p) hk0 (by omega)
  unfold FW at hA3
  obtain ⟨r3, h3, hc3, hp3, G3⟩ := hA3
  have hA4 := rrules_fw (p := p) (hk0.mono hp3) (by omega)
  unfold FW at hA4
  obtain ⟨r4, h4, hc4, hp4, G4⟩ := hA4
  have hln : (rulesN fr p fr.length).length ≤ fr.length := rulesN_len
  have hI3 : RdInts h3 r3 (rulesN fr p fr.length) := G3.sl (b := 8) (by omega)
  have hI4 : RdInts h4 r4 (rulesN fr p fr.length) := G4.sl (b := 8) (by omega)
  have hA5 := sameints_fw (SlR.mono hI3 hp4) hI4
  obtain ⟨q3, k3, rfl⟩ := SlR.form hI3
  obtain ⟨q4, k4, rfl⟩ := SlR.form hI4
  have dd : decide (i1 = i1) = true := decide_eq_true rfl
  refine cw_weakL [(1, .val (.string b)), (2, .val (i64 p)), (3, .box [.string s0, .string s1, .slice p2 n2 c2, .slice p3 n3 c3, .slice p4 n4 c4, .slice p5 n5 c5, .slice p6 n6 c6, i64 i7, i64 i8, .slice p9 n9 c9, .slice pf fr.length cf, .slice pn l.length cn, .slice p12 n12 c12, .slice p13 n13 c13, .slice p14 n14 c14])] (by simp only [push_cast, Nat.reduceEqDiff, reduceIte]) ?_
  show CW _ _ ⟨_, [], h⟩ _
  apply cw_ordA (L := [[], [0], [0, 1], [0, 1], [0, 1, 2, 3], [0, 1], [0, 1], [0, 1, 5, 6], [0, 1, 2, 3, 4, 5, 6, 7], [0, 1, 2, 3, 4, 5, 6, 7, 8], [0, 1, 2, 3, 4, 5, 6, 7, 8, 9], [0, 1, 2, 3, 4, 5, 6, 7, 8, 9, 10], [0, 1, 2, 3, 4, 5, 6, 7, 8, 9, 10], [0, 1, 2, 3, 4, 5, 6, 7, 8, 9, 10, 11, 12], [0, 1, 2, 3, 4, 5, 6, 7, 8, 9, 10], [0, 1, 2, 3, 4, 5, 6, 7, 8, 9, 10], [0, 1, 2, 3, 4, 5, 6, 7, 8, 9, 10, 11, 12, 13, 14, 15], [0, 1, 2, 3, 4, 5, 6, 7, 8, 9, 10, 11, 12, 13, 14, 15, 16], [0, 1, 2, 3, 4, 5, 6, 7, 8, 9, 10, 11, 12, 13, 14, 15, 16, 17], [0, 1, 2, 3, 4, 5, 6, 7, 8, 9, 10, 11, 12, 13, 14, 15, 16, 17, 18]]) (act := [13, 16]) (hs := [h3, h4]) (resL := [_, _, _, _, _, _, _, _, _, _, _, _, _, _, _, _, _, _, _, _]) (frF := [(6, .val (.bool true))])
  case hm => exact mixed
  case hc => kernel_rfl
  case ha => rfl
  case hb => rfl
  case hS =>
    repeat (first | exact StepsA.nil _ | (apply StepsA.cons; (· rfl); (· (first | refine ⟨?_, trivial⟩ | refine ⟨?_, ?_, trivial⟩ | refine ⟨?_, ?_, ?_, trivial⟩ | refine ⟨?_, ?_, ?_, ?_, trivial⟩) <;> (apply zz; simp only [push_cast, env, Nat.reduceEqDiff, reduceIte, Nat.reduceAdd, Nat.reduceMul, Nat.reduceLeDiff, reduceCtorEq, Nat.reduceSub, Int.reduceToNat] <;> exact rfl)); (· rfl)))
    apply StepsA.cons
    · rfl
    · refine ⟨?_, trivial⟩
      exact one_call (fn := Tryz.f13) (args := []) (cap := []) rfl (by simp only [push_cast, env, Nat.reduceEqDiff, reduceIte] <;> exact rfl) rfl (by simp only [push_cast, env, Nat.reduceEqDiff, reduceIte] <;> exact rfl) (by simp only [push_cast, env, Nat.reduceEqDiff, reduceIte] <;> exact rfl) Tryz.func13 (by kernel_rfl) (by kernel_rfl) aliveK_fw
    · rfl
    repeat (first | exact StepsA.nil _ | (apply StepsA.cons; (· rfl); (· (first | refine ⟨?_, trivial⟩ | refine ⟨?_, ?_, trivial⟩ | refine ⟨?_, ?_, ?_, trivial⟩ | refine ⟨?_, ?_, ?_, ?_, trivial⟩) <;> (apply zz; simp only [push_cast, env, Nat.reduceEqDiff, reduceIte, Nat.reduceAdd, Nat.reduceMul, Nat.reduceLeDiff, reduceCtorEq, Nat.reduceSub, Int.reduceToNat] <;> exact rfl)); (· rfl)))
    apply StepsA.cons
    · rfl
    · refine ⟨?_, trivial⟩
      exact one_callE (args := [.agg #[.string s0, .string s1, .slice p2 n2 c2, .slice p3 n3 c3, .slice p4 n4 c4, .slice p5 n5 c5, .slice p6 n6 c6, i64 i7, i64 i8, .slice p9 n9 c9, .slice pf fr.length cf, .slice pn l.length cn, .slice p12 n12 c12, .slice p13 n13 c13, .slice p14 n14 c14], .string b]) (cap := []) (fn := Tryz.f19) (by simp only [push_cast, env, Nat.reduceEqDiff, reduceIte] <;> exact rfl) rfl (by simp only [push_cast, env, Nat.reduceEqDiff, reduceIte] <;> exact rfl) (by simp only [push_cast, env, Nat.reduceEqDiff, reduceIte] <;> exact rfl) Tryz.func19 (by kernel_rfl) (by kernel_rfl) hc1
    · rfl
    repeat (first | exact StepsA.nil _ | (apply StepsA.cons; (· rfl); (· (first | refine ⟨?_, trivial⟩ | refine ⟨?_, ?_, trivial⟩ | refine ⟨?_, ?_, ?_, trivial⟩ | refine ⟨?_, ?_, ?_, ?_, trivial⟩) <;> (apply zz; simp only [push_cast, env, Nat.reduceEqDiff, reduceIte, Nat.reduceAdd, Nat.reduceMul, Nat.reduceLeDiff, reduceCtorEq, Nat.reduceSub, Int.reduceToNat] <;> exact rfl)); (· rfl)))
    apply StepsA.cons
    · rfl
    · refine ⟨?_, trivial⟩
      exact one_callE (args := [.agg #[.string s0, .string s1, .slice p2 n2 c2, .slice p3 n3 c3, .slice p4 n4 c4, .slice p5 n5 c5, .slice p6 n6 c6, i64 i7, i64 i8, .slice p9 n9 c9, .slice pf fr.length cf, .slice pn l.length cn, .slice p12 n12 c12, .slice p13 n13 c13, .slice p14 n14 c14], .string b]) (cap := []) (fn := Tryz.f20) (by simp only [push_cast, env, Nat.reduceEqDiff, reduceIte] <;> exact rfl) rfl (by simp only [push_cast, env, Nat.reduceEqDiff, reduceIte] <;> exact rfl) (by simp only [push_cast, env, Nat.reduceEqDiff, reduceIte] <;> exact rfl) Tryz.func20 (by kernel_rfl) (by kernel_rfl) hc2
    · rfl
    repeat (first | exact StepsA.nil _ | (apply StepsA.cons; (· rfl); (· (first | refine ⟨?_, trivial⟩ | refine ⟨?_, ?_, trivial⟩ | refine ⟨?_, ?_, ?_, trivial⟩ | refine ⟨?_, ?_, ?_, ?_, trivial⟩) <;> (apply zz; simp only [push_cast, env, Nat.reduceEqDiff, reduceIte, Nat.reduceAdd, Nat.reduceMul, Nat.reduceLeDiff, reduceCtorEq, Nat.reduceSub, Int.reduceToNat, dd] <;> exact rfl)); (· rfl)))
    apply StepsA.cons
    · rfl
    · refine ⟨?_, trivial⟩
      exact one_callE (args := [.agg #[.string s0, .string s1, .slice p2 n2 c2, .slice p3 n3 c3, .slice p4 n4 c4, .slice p5 n5 c5, .slice p6 n6 c6, i64 i7, i64 i8, .slice p9 n9 c9, .slice pf fr.length cf, .slice pn l.length cn, .slice p12 n12 c12, .slice p13 n13 c13, .slice p14 n14 c14], i64 p]) (cap := []) (fn := Tryz.f22) (by simp only [push_cast, env, Nat.reduceEqDiff, reduceIte] <;> exact rfl) rfl (by simp only [push_cast, env, Nat.reduceEqDiff, reduceIte] <;> exact rfl) (by simp only [push_cast, env, Nat.reduceEqDiff, reduceIte] <;> exact rfl) Tryz.func22 (by kernel_rfl) (by kernel_rfl) hc3
    · rfl
    repeat (first | exact StepsA.nil _ | (apply StepsA.cons; (· rfl); (· (first | refine ⟨?_, trivial⟩ | refine ⟨?_, ?_, trivial⟩ | refine ⟨?_, ?_, ?_, trivial⟩ | refine ⟨?_, ?_, ?_, ?_, trivial⟩) <;> (apply zz; simp only [push_cast, env, Nat.reduceEqDiff, reduceIte, Nat.reduceAdd, Nat.reduceMul, Nat.reduceLeDiff, reduceCtorEq, Nat.reduceSub, Int.reduceToNat] <;> exact rfl)); (· rfl)))
    apply StepsA.cons
    · rfl
    · refine ⟨?_, trivial⟩
      exact one_callE (args := [.agg #[.string s0, .string s1, .slice p2 n2 c2, .slice p3 n3 c3, .slice p4 n4 c4, .slice p5 n5 c5, .slice p6 n6 c6, i64 i7, i64 i8, .slice p9 n9 c9, .slice pf fr.length cf, .slice pn l.length cn, .slice p12 n12 c12, .slice p13 n13 c13, .slice p14 n14 c14], i64 p]) (cap := []) (fn := Tryz.f23) (by simp only [push_cast, env, Nat.reduceEqDiff, reduceIte] <;> exact rfl) rfl (by simp only [push_cast, env, Nat.reduceEqDiff, reduceIte] <;> exact rfl) (by simp only [push_cast, env, Nat.reduceEqDiff, reduceIte] <;> exact rfl) Tryz.func23 (by kernel_rfl) (by kernel_rfl) hc4
    · rfl
    apply StepsA.cons
    · rfl
    · refine ⟨?_, trivial⟩
      exact one_call (fn := Tryz.f21) (args := [.slice q3 (rulesN fr p fr.length).length k3, .slice q4 (rulesN fr p fr.length).length k4]) (cap := []) rfl (by simp only [push_cast, env, Nat.reduceEqDiff, reduceIte] <;> exact rfl) rfl (by simp only [push_cast, env, Nat.reduceEqDiff, reduceIte] <;> exact rfl) (by simp only [push_cast, env, Nat.reduceEqDiff, reduceIte] <;> exact rfl) Tryz.func21 (by kernel_rfl) (by kernel_rfl) (hA5.mono fun r h' ⟨e1, e2⟩ => ⟨by rw [e1, decide_eq_true rfl], e2⟩)
    · rfl
    repeat (first | exact StepsA.nil _ | (apply StepsA.cons; (· rfl); (· (first | refine ⟨?_, trivial⟩ | refine ⟨?_, ?_, trivial⟩ | refine ⟨?_, ?_, ?_, trivial⟩ | refine ⟨?_, ?_, ?_, ?_, trivial⟩) <;> (apply zz; simp only [push_cast, env, Nat.reduceEqDiff, reduceIte, Nat.reduceAdd, Nat.reduceMul, Nat.reduceLeDiff, reduceCtorEq, Nat.reduceSub, Int.reduceToNat] <;> exact rfl)); (· rfl)))
  case ht => rfl
  case hF => repeat (first | exact trivial | (refine ⟨.inl ⟨by decide, rfl⟩, ?_⟩) | (refine ⟨.inr ⟨rfl, by simp⟩, ?_⟩))
  show CW _ _ _ _
  repeat (first | apply zs | apply zr | apply zn | ((first | apply zx | apply zy); · simp only [push_cast, env, Nat.reduceEqDiff, reduceIte, Nat.reduceAdd, Nat.reduceMul, Nat.reduceLeDiff, reduceCtorEq, Nat.reduceSub, Int.reduceToNat] <;> first | exact rfl | exact .inl rfl | exact .inr rfl) | apply zq | apply zb | apply zo | apply zk | apply zl)
  refine cw_ret ?_
  exact ⟨_, (by simp only [push_cast, env, Nat.reduceEqDiff, reduceIte] <;> exact rfl), rfl⟩
end
end Go.Proofs.YtmdmimkbpikmoaaGreat
