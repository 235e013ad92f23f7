/- Several texts, one behind the other; each begins with a remark of its own. -/
import Derived.Test.YtafncpgiibikcaaZG8
import Derived.Test.YtafncpgiibikcaaZFa
import Derived.Test.YtafncpgiibikcaaZTy
import Derived.Test.YtafncpgiibikcaaZG1
import Derived.Test.YtafncpgiibikcaaRows
import Derived.WalkKit
import Derived.ProofKit
import Derived.OpenShut
import Derived.ChangeOld
import Derived.Below
import Derived.Carry
import Derived.SizedLaws
namespace Go.Proofs.Ytafncpgiibikcaa
set_option linter.unusedSimpArgs false
set_option linter.unusedVariables false
open Go.RowKit Am Ty

abbrev BSet.val (s : BSet) : Value := .agg #[u64 s.a, u64 s.b, u64 s.c, u64 s.d]
def ub (s t : BSet) : Nat → List Value
  | 0 => [u64 s.a, u64 s.b, u64 s.c, u64 s.d]
  | 1 => [u64 (wor s.a t.a), u64 s.b, u64 s.c, u64 s.d]
  | 2 => [u64 (wor s.a t.a), u64 (wor s.b t.b), u64 s.c, u64 s.d]
  | 3 => [u64 (wor s.a t.a), u64 (wor s.b t.b), u64 (wor s.c t.c), u64 s.d]
  | _ => [u64 (wor s.a t.a), u64 (wor s.b t.b), u64 (wor s.c t.c), u64 (wor s.d t.d)]
theorem div_pow {w : Int} (hw : WWf w) (j : Nat) : 0 ≤ w / 2 ^ j ∧ w / 2 ^ j < 18446744073709551616 := by
  obtain ⟨x, rfl⟩ : ∃ x : Nat, w = x := ⟨w.toNat, by have := hw.1; omega⟩
  have e : (x : Int) / 2 ^ j = ((x / 2 ^ j : Nat) : Int) := by simp
  have h1 : x / 2 ^ j ≤ x := Nat.div_le_self _ _
  have := hw.2
  rw [e]
  generalize x / 2 ^ j = q at h1 ⊢
  omega
theorem half_step {w : Int} (hw : WWf w) (j : Nat) : IntKind.u64.wrap ((w / 2 ^ j).tdiv 2) = w / 2 ^ (j + 1) := by
  have h := div_pow hw j
  have h2 := div_pow hw (j + 1)
  rw [Int.tdiv_eq_ediv_of_nonneg h.1, Int.ediv_ediv_of_nonneg (Int.pow_nonneg (by decide)), ← Int.pow_succ]
  exact wrap_u64 h2
set_option maxHeartbeats 1000000 in
theorem has_fw {h : Heap} {s : BSet} {n : Nat} (hs : SetWf s) (hn : n < 256) : FW env 31 [s.val, i64 n] h fun r h' => r = .bool (s.has n) ∧ h' = h := by
  have d1 : decide ((n : Int) < 0) = false := decide_eq_false (by omega)
  have d2 : decide (255 < (n : Int)) = false := decide_eq_false (by omega)
  have q1 : IntKind.i64.wrap ((n : Int).tdiv 64) = (n : Int) / 64 := by
    rw [Int.tdiv_eq_ediv_of_nonneg (by omega)]
    exact wrap64_id (by omega) (by omega)
  have q2 : (n : Int).tmod 64 = (n : Int) % 64 := Int.tmod_eq_emod_of_nonneg (by omega)
  have ww := hs.word (n / 64)
  refine fw_enter (fn := Try.f31) Try.func31 rfl (by kernel_rfl) (by simp [Try.ntmps31]) ?_; simp only [push_cast]
  repeat (first | apply zs | apply zr | apply zn | ((first | apply zx | apply zy); · simp only [push_cast, env, Nat.reduceEqDiff, reduceIte, Nat.reduceAdd, Nat.reduceMul, Nat.reduceLeDiff, reduceCtorEq, Nat.reduceSub, Int.reduceToNat, d1, d2] <;> first | exact rfl | exact .inl rfl | exact .inr rfl) | apply zq | apply zb | apply zo | apply zk | apply zl)
  refine cw_condF (by simp only [push_cast, env, Nat.reduceEqDiff, reduceIte, d1, d2] <;> exact rfl) ?_
  repeat (first | apply zs | apply zr | apply zn | ((first | apply zx | apply zy); · simp only [push_cast, env, Nat.reduceEqDiff, reduceIte, Nat.reduceAdd, Nat.reduceMul, Nat.reduceLeDiff, reduceCtorEq, Nat.reduceSub, Int.reduceToNat, q1, Int.reduceEq, Int.reduceLT, Int.reduceLE, Int.reduceToNat] <;> first | exact rfl | exact .inl rfl | exact .inr rfl) | apply zq | apply zb | apply zo | apply zk | apply zl)
  refine CW.mono (Q := fun e s' => e = .normal ∧ s'.h = h ∧ SubL [(1, .val (i64 n)), (5, .val (u64 (s.word (n / 64))))] s'.fr) ?_ ?_
  · rcases (by omega : n / 64 = 0 ∨ n / 64 = 1 ∨ n / 64 = 2 ∨ n / 64 = 3) with e | e | e | e
    all_goals rw [e]
    · refine cw_condF (by simp [ev, fget]; omega) ?_
      repeat (first | apply zs | apply zr | apply zn | ((first | apply zx | apply zy); · simp only [push_cast, env, Nat.reduceEqDiff, reduceIte, Nat.reduceAdd, Nat.reduceMul, Nat.reduceLeDiff, reduceCtorEq, Nat.reduceSub, Int.reduceToNat, e] <;> first | exact rfl | exact .inl rfl | exact .inr rfl) | apply zq | apply zb | apply zo | apply zk | apply zl)
      refine cw_condF (by simp [ev, fget]; omega) ?_
      repeat (first | apply zs | apply zr | apply zn | ((first | apply zx | apply zy); · simp only [push_cast, env, Nat.reduceEqDiff, reduceIte, Nat.reduceAdd, Nat.reduceMul, Nat.reduceLeDiff, reduceCtorEq, Nat.reduceSub, Int.reduceToNat, e] <;> first | exact rfl | exact .inl rfl | exact .inr rfl) | apply zq | apply zb | apply zo | apply zk | apply zl)
      refine cw_condF (by simp [ev, fget]; omega) ?_
      repeat (first | apply zs | apply zr | apply zn | ((first | apply zx | apply zy); · simp only [push_cast, env, Nat.reduceEqDiff, reduceIte, Nat.reduceAdd, Nat.reduceMul, Nat.reduceLeDiff, reduceCtorEq, Nat.reduceSub, Int.reduceToNat] <;> first | exact rfl | exact .inl rfl | exact .inr rfl) | apply zq | apply zb | apply zo | apply zk | apply zl)
      exact ⟨rfl, rfl, (by simp only [push_cast, Nat.reduceEqDiff, reduceIte, BSet.word])⟩
    · refine cw_condT (by simp [ev, fget]; omega) ?_
      repeat (first | apply zs | apply zr | apply zn | ((first | apply zx | apply zy); · simp only [push_cast, env, Nat.reduceEqDiff, reduceIte, Nat.reduceAdd, Nat.reduceMul, Nat.reduceLeDiff, reduceCtorEq, Nat.reduceSub, Int.reduceToNat, e] <;> first | exact rfl | exact .inl rfl | exact .inr rfl) | apply zq | apply zb | apply zo | apply zk | apply zl)
      exact ⟨rfl, rfl, (by simp only [push_cast, Nat.reduceEqDiff, reduceIte, BSet.word])⟩
    · refine cw_condF (by simp [ev, fget]; omega) ?_
      repeat (first | apply zs | apply zr | apply zn | ((first | apply zx | apply zy); · simp only [push_cast, env, Nat.reduceEqDiff, reduceIte, Nat.reduceAdd, Nat.reduceMul, Nat.reduceLeDiff, reduceCtorEq, Nat.reduceSub, Int.reduceToNat, e] <;> first | exact rfl | exact .inl rfl | exact .inr rfl) | apply zq | apply zb | apply zo | apply zk | apply zl)
      refine cw_condT (by simp [ev, fget]; omega) ?_
      repeat (first | apply zs | apply zr | apply zn | ((first | apply zx | apply zy); · simp only [push_cast, env, Nat.reduceEqDiff, reduceIte, Nat.reduceAdd, Nat.reduceMul, Nat.reduceLeDiff, reduceCtorEq, Nat.reduceSub, Int.reduceToNat, e] <;> first | exact rfl | exact .inl rfl | exact .inr rfl) | apply zq | apply zb | apply zo | apply zk | apply zl)
      exact ⟨rfl, rfl, (by simp only [push_cast, Nat.reduceEqDiff, reduceIte, BSet.word])⟩
    · refine cw_condF (by simp [ev, fget]; omega) ?_
      repeat (first | apply zs | apply zr | apply zn | ((first | apply zx | apply zy); · simp only [push_cast, env, Nat.reduceEqDiff, reduceIte, Nat.reduceAdd, Nat.reduceMul, Nat.reduceLeDiff, reduceCtorEq, Nat.reduceSub, Int.reduceToNat, e] <;> first | exact rfl | exact .inl rfl | exact .inr rfl) | apply zq | apply zb | apply zo | apply zk | apply zl)
      refine cw_condF (by simp [ev, fget]; omega) ?_
      repeat (first | apply zs | apply zr | apply zn | ((first | apply zx | apply zy); · simp only [push_cast, env, Nat.reduceEqDiff, reduceIte, Nat.reduceAdd, Nat.reduceMul, Nat.reduceLeDiff, reduceCtorEq, Nat.reduceSub, Int.reduceToNat, e] <;> first | exact rfl | exact .inl rfl | exact .inr rfl) | apply zq | apply zb | apply zo | apply zk | apply zl)
      refine cw_condT (by simp [ev, fget]; omega) ?_
      repeat (first | apply zs | apply zr | apply zn | ((first | apply zx | apply zy); · simp only [push_cast, env, Nat.reduceEqDiff, reduceIte, Nat.reduceAdd, Nat.reduceMul, Nat.reduceLeDiff, reduceCtorEq, Nat.reduceSub, Int.reduceToNat, e] <;> first | exact rfl | exact .inl rfl | exact .inr rfl) | apply zq | apply zb | apply zo | apply zk | apply zl)
      exact ⟨rfl, rfl, (by simp only [push_cast, Nat.reduceEqDiff, reduceIte, BSet.word])⟩
  rintro e s' ⟨rfl, hh, hf⟩
  show CW _ _ _ _
  refine cw_weakL _ hf ?_
  rw [hh]
  repeat (first | apply zs | apply zr | apply zn | ((first | apply zx | apply zy); · simp only [push_cast, env, Nat.reduceEqDiff, reduceIte, Nat.reduceAdd, Nat.reduceMul, Nat.reduceLeDiff, reduceCtorEq, Nat.reduceSub, Int.reduceToNat] <;> first | exact rfl | exact .inl rfl | exact .inr rfl) | apply zq | apply zb | apply zo | apply zk | apply zl)
  refine cw_for (n % 64) (fun k => [(1, .val (i64 n)), (5, .val (u64 (s.word (n / 64) / 2 ^ k))), (6, .val (i64 k))]) (fun _ => h) (fun _ => True) (by simp only [push_cast, Nat.reduceEqDiff, reduceIte, Int.pow_zero, Int.ediv_one]) rfl trivial ?_
  intro k hk _
  by_cases hlt : k < n % 64
  · have e2 := inc hlt (by omega)
    have e3 : decide ((k : Int) < (n : Int) % 64) = true := decide_eq_true (by omega)
    have e4 := half_step ww k
    repeat (first | apply zs | apply zr | apply zn | ((first | apply zx | apply zy); · simp only [push_cast, env, Nat.reduceEqDiff, reduceIte, Nat.reduceAdd, Nat.reduceMul, Nat.reduceLeDiff, reduceCtorEq, Nat.reduceSub, Int.reduceToNat, q2, e3, Int.reduceEq] <;> first | exact rfl | exact .inl rfl | exact .inr rfl) | apply zq | apply zb | apply zo | apply zk | apply zl)
    refine cw_condT rfl ?_
    repeat (first | apply zs | apply zr | apply zn | ((first | apply zx | apply zy); · simp only [push_cast, env, Nat.reduceEqDiff, reduceIte, Nat.reduceAdd, Nat.reduceMul, Nat.reduceLeDiff, reduceCtorEq, Nat.reduceSub, Int.reduceToNat, e2, e4, Int.reduceEq] <;> first | exact rfl | exact .inl rfl | exact .inr rfl) | apply zq | apply zb | apply zo | apply zk | apply zl)
    exact ⟨hlt, (by simp only [push_cast, Nat.reduceEqDiff, reduceIte]), rfl, trivial⟩
  · have e3 : decide ((k : Int) < (n : Int) % 64) = false := decide_eq_false (by omega)
    have hk' : k = n % 64 := by omega
    repeat (first | apply zs | apply zr | apply zn | ((first | apply zx | apply zy); · simp only [push_cast, env, Nat.reduceEqDiff, reduceIte, Nat.reduceAdd, Nat.reduceMul, Nat.reduceLeDiff, reduceCtorEq, Nat.reduceSub, Int.reduceToNat, q2, e3, Int.reduceEq] <;> first | exact rfl | exact .inl rfl | exact .inr rfl) | apply zq | apply zb | apply zo | apply zk | apply zl)
    refine cw_condF rfl ?_
    refine cw_exit ?_
    show CW _ _ _ _
    repeat (first | apply zs | apply zr | apply zn | ((first | apply zx | apply zy); · simp only [push_cast, env, Nat.reduceEqDiff, reduceIte, Nat.reduceAdd, Nat.reduceMul, Nat.reduceLeDiff, reduceCtorEq, Nat.reduceSub, Int.reduceToNat, Int.reduceEq] <;> first | exact rfl | exact .inl rfl | exact .inr rfl) | apply zq | apply zb | apply zo | apply zk | apply zl)
    refine cw_ret ?_
    refine ⟨_, (by simp only [push_cast, env, Nat.reduceEqDiff, reduceIte] <;> exact rfl), ?_, rfl⟩
    have : s.has n = decide ((s.word (n / 64) / 2 ^ k).tmod 2 = 1) := by
      rw [hk']
      unfold BSet.has
      rw [wbit_div ww, Int.tmod_eq_emod_of_nonneg (div_pow ww _).1]
    rw [this]
    rfl
end Go.Proofs.Ytafncpgiibikcaa

namespace Go.Proofs.Ytafncpgiibikcaa
set_option linter.unusedSimpArgs false
set_option linter.unusedVariables false
open Go.RowKit Am Ty

def WfG (g : Gram) : Prop := ∀ r ∈ g.rules, ∀ s ∈ r.rhs, SetWf s.set
end Go.Proofs.Ytafncpgiibikcaa

namespace Go.Proofs.Ytafncpgiibikcaa
set_option linter.unusedSimpArgs false
set_option linter.unusedVariables false
set_option maxRecDepth 20000
open Go.RowKit Am Ty

def RdTs (P : Program) (R : TypeId → List Value → Prop) : List TypeId → List Value → Prop
  | [], vs => vs = []
  | t :: r, vs => ∃ a b, vs = a ++ b ∧ a.length = P.cellsOf t ∧ R t a ∧ RdTs P R r b
theorem fs_types {P : Program} {R : TypeId → List Value → Prop} : ∀ {l : List Field} {vs : List Value}, RdFs P R l vs → RdTs P R (l.map (·.type)) vs
  | [], _, h => h
  | _ :: _, _, ⟨a, b, h1, h2, h3, h4⟩ => ⟨a, b, h1, h2, h3, fs_types h4⟩
theorem es_map {α : Type} {c : Nat} {R : List Value → Prop} {f : α → List Value} {Q : α → Prop} (k : ∀ vs, R vs → ∃ x, vs = f x ∧ Q x) : ∀ {m : Nat} {vs : List Value}, RdEs c R m vs → ∃ l : List α, l.length = m ∧ vs = l.flatMap f ∧ ∀ x ∈ l, Q x
  | 0, vs, h => ⟨[], rfl, h, fun x hx => by cases hx⟩
  | m + 1, vs, ⟨a, b, h1, _, h3, h4⟩ => by
    obtain ⟨x, rfl, hx⟩ := k a h3
    obtain ⟨l, rfl, rfl, hl⟩ := es_map k h4
    refine ⟨x :: l, rfl, by rw [h1]; rfl, fun y hy => ?_⟩
    rcases List.mem_cons.1 hy with rfl | hy
    · exact hx
    · exact hl y hy
theorem rd_struct {h : Heap} {n : Nat} {t : TypeId} {l : List TypeId} {vs : List Value} (hu : Try.prog.underlying t = some (.struct (Try.prog.fieldsOf t))) (hl : (Try.prog.fieldsOf t).toList.map (·.type) = l) (k : RdT Try.prog h (n + 1) t vs) : RdTs Try.prog (RdT Try.prog h n) l vs := by
  unfold RdT at k
  rw [hu] at k
  exact hl ▸ fs_types k
theorem rd_int {h : Heap} {n : Nat} {vs : List Value} (k : RdT Try.prog h n 3 vs) : ∃ i, vs = [i64 i] ∧ (Lit.int .i64 i).wf = true := by
  cases n with
  | zero => exact k.elim
  | succ n =>
    unfold RdT at k
    rw [show Try.prog.underlying 3 = some (.int .i64) by kernel_rfl] at k
    exact k
theorem rd_u64 {h : Heap} {n : Nat} {vs : List Value} (k : RdT Try.prog h n 39 vs) : ∃ i, vs = [u64 i] ∧ WWf i := by
  cases n with
  | zero => exact k.elim
  | succ n =>
    unfold RdT at k
    rw [show Try.prog.underlying 39 = some (.int .u64) by kernel_rfl] at k
    obtain ⟨i, h1, h2⟩ := k
    simp only [Lit.wf, Bool.and_eq_true, decide_eq_true_eq] at h2
    have e1 : IntKind.u64.min = 0 := by decide
    have e2 : IntKind.u64.max = 18446744073709551615 := by decide
    exact ⟨i, h1, by omega, by omega⟩
theorem rd_set {h : Heap} {n : Nat} {vs : List Value} (k : RdT Try.prog h n 41 vs) : ∃ s : BSet, vs = s.cells ∧ SetWf s := by
  cases n with
  | zero => exact k.elim
  | succ n =>
    unfold RdT at k
    rw [show Try.prog.underlying 41 = some (.array 4 39) by kernel_rfl] at k
    obtain ⟨l, hl, rfl, hq⟩ := es_map (f := fun i => [u64 i]) (Q := fun i => WWf i) (fun vs h => rd_u64 h) k
    match l, hl with
    | [a, b, c, d], _ => exact ⟨⟨a, b, c, d⟩, rfl, hq a (by simp), hq b (by simp), hq c (by simp), hq d (by simp)⟩
theorem rd_sym {h : Heap} {n : Nat} {vs : List Value} (k : RdT Try.prog h n 43 vs) : ∃ s : KSym, vs = s.cells ∧ SetWf s.set := by
  cases n with
  | zero => exact k.elim
  | succ n =>
    obtain ⟨a, b, rfl, _, h1, c, d, rfl, _, h2, rfl⟩ := rd_struct (l := [3, 41]) (by kernel_rfl) (by kernel_rfl) k
    obtain ⟨i, rfl, _⟩ := rd_int h1
    obtain ⟨s, rfl, hs⟩ := rd_set h2
    exact ⟨⟨i, s⟩, rfl, hs⟩
theorem rd_syms {h : Heap} {n : Nat} {vs : List Value} (k : RdT Try.prog h n 44 vs) : ∃ u l, vs = [u] ∧ RdSyms h u l ∧ ∀ s ∈ l, SetWf s.set := by
  cases n with
  | zero => exact k.elim
  | succ n =>
    unfold RdT at k
    rw [show Try.prog.underlying 44 = some (.slice 43) by kernel_rfl] at k
    rcases k with rfl | rfl | ⟨id, len, c, cells, rfl, hb, hid, he⟩
    · exact ⟨_, [], rfl, ⟨by simp, .inl ⟨.inl rfl, rfl, rfl⟩⟩, by simp⟩
    · exact ⟨_, [], rfl, ⟨by simp, .inl ⟨.inr rfl, rfl, rfl⟩⟩, by simp⟩
    · obtain ⟨l, rfl, rfl, hq⟩ := es_map (f := KSym.cells) (Q := fun s => SetWf s.set) (fun vs h => rd_sym h) he
      rw [show Try.prog.bytesOf 43 = 40 by kernel_rfl] at hb
      exact ⟨_, l, rfl, ⟨Nat.le_trans hb (by decide), .inr ⟨id, 0, false, c, rfl, hid⟩⟩, hq⟩
theorem rd_rule {h : Heap} {n : Nat} {vs : List Value} (k : RdT Try.prog h n 46 vs) : ∃ p : Rule × Value, vs = [i64 p.1.lhs, p.2] ∧ RdSyms h p.2 p.1.rhs ∧ (∀ s ∈ p.1.rhs, SetWf s.set) ∧ (Lit.int .i64 p.1.lhs).wf = true := by
  cases n with
  | zero => exact k.elim
  | succ n =>
    obtain ⟨a, b, rfl, _, h1, c, d, rfl, _, h2, rfl⟩ := rd_struct (l := [3, 44]) (by kernel_rfl) (by kernel_rfl) k
    obtain ⟨i, rfl, hi⟩ := rd_int h1
    obtain ⟨u, l, rfl, hl, hq⟩ := rd_syms h2
    exact ⟨⟨⟨i, l⟩, u⟩, rfl, hl, hq, hi⟩
theorem zip_fst_snd {α β : Type} : ∀ (z : List (α × β)), (z.map (·.1)).zip (z.map (·.2)) = z
  | [] => rfl
  | (a, b) :: z => by simp [zip_fst_snd z]
theorem rd_rules {h : Heap} {n : Nat} {vs : List Value} (k : RdT Try.prog h n 22 vs) : ∃ u l, vs = [u] ∧ RdRules h u l ∧ ∀ r ∈ l, ∀ s ∈ r.rhs, SetWf s.set := by
  cases n with
  | zero => exact k.elim
  | succ n =>
    unfold RdT at k
    rw [show Try.prog.underlying 22 = some (.slice 46) by kernel_rfl] at k
    rcases k with rfl | rfl | ⟨id, len, c, cells, rfl, hb, hid, he⟩
    · exact ⟨_, [], rfl, ⟨[], rfl, ⟨by simp, .inl ⟨.inl rfl, rfl, rfl⟩⟩, fun i r u h => by simp at h⟩, by simp⟩
    · exact ⟨_, [], rfl, ⟨[], rfl, ⟨by simp, .inl ⟨.inr rfl, rfl, rfl⟩⟩, fun i r u h => by simp at h⟩, by simp⟩
    · obtain ⟨z, rfl, rfl, hz⟩ := es_map (f := fun p : Rule × Value => [i64 p.1.lhs, p.2]) (Q := fun p => RdSyms h p.2 p.1.rhs ∧ ∀ s ∈ p.1.rhs, SetWf s.set) (fun vs h => (rd_rule h).imp fun p k => ⟨k.1, k.2.1, k.2.2.1⟩) he
      rw [show Try.prog.bytesOf 46 = 32 by kernel_rfl] at hb
      refine ⟨_, z.map (·.1), rfl, ⟨z.map (·.2), by simp, ⟨by rw [List.length_map]; exact Nat.le_trans hb (by decide), .inr ⟨id, 0, false, c, by rw [List.length_map], by rw [zip_fst_snd]; exact hid⟩⟩, fun i r u h1 h2 => ?_⟩, fun r hr => ?_⟩
      · rw [List.getElem?_map, Option.map_eq_some_iff] at h1 h2
        obtain ⟨p, h3, rfl⟩ := h1
        obtain ⟨q, h4, rfl⟩ := h2
        obtain rfl := Option.some.inj (h3.symm.trans h4)
        exact (hz p (List.mem_of_getElem? h3)).1
      · rw [List.mem_map] at hr
        obtain ⟨p, hp, rfl⟩ := hr
        exact (hz p hp).2
theorem rd_gram {h : Heap} {n : Nat} {vs : List Value} (k : RdT Try.prog h n 24 vs) : ∃ g : Gram, RdGram h (.agg vs.toArray) g ∧ (Lit.int .i64 g.nts).wf = true ∧ (Lit.int .i64 g.start).wf = true ∧ WfG g := by
  cases n with
  | zero => exact k.elim
  | succ n =>
    obtain ⟨a, b, rfl, _, h1, c, d, rfl, _, h2, e, f, rfl, _, h3, rfl⟩ := rd_struct (l := [3, 3, 22]) (by kernel_rfl) (by kernel_rfl) k
    obtain ⟨i, rfl, w1⟩ := rd_int h1
    obtain ⟨j, rfl, w2⟩ := rd_int h2
    obtain ⟨u, l, rfl, hl, hq⟩ := rd_rules h3
    exact ⟨⟨i, j, l⟩, ⟨u, rfl, hl⟩, w1, w2, hq⟩
end Go.Proofs.Ytafncpgiibikcaa

namespace Go.Proofs.Ytafncpgiibikcaa
set_option linter.unusedSimpArgs false
set_option linter.unusedVariables false
set_option maxRecDepth 20000
open Go.ChangeShapes Go.WideShapes Go.ChangeAt Go.RowKit Am Ty

theorem own : ownKnob Try.prog.godebug = none := by kernel_rfl
theorem laidOut : laidOutB Try.prog = true := by kernel_rfl
theorem noOwn_below {μ : Mu} {h : Heap} {W w' : World} (hn : noOwn h) (k : FrW (OwnB μ h) W w') : Below W.heap.size W w' :=
  ⟨k.os, k.tape, k.output, k.size, fun i hi => k.block i hi fun ⟨_, _, _, h1, h2, _⟩ => by have := hn _ _ h1; rw [h2] at this; cases this⟩
theorem nts_wf {n : Int} (h : (Lit.int .i64 n).wf = true) : -9223372036854775808 ≤ n := by
  simp only [Lit.wf, Bool.and_eq_true, decide_eq_true_eq] at h
  have h2 : IntKind.i64.min = -9223372036854775808 := by decide
  omega
end Go.Proofs.Ytafncpgiibikcaa

namespace Go.Proofs.Ytafncpgiibikcaa.Am
set_option linter.unusedSimpArgs false
set_option linter.unusedVariables false
open Go.RowKit

def isAggT (P : Program) (t : TypeId) : Bool := match P.underlying t with
  | some (.struct _) => true
  | some (.array _ _) => true
  | _ => false
def RdA (P : Program) (h : Heap) (t : TypeId) (a : Value) : Prop := ∃ n vs, RdT P h n t vs ∧ ((isAggT P t = true ∧ a = .agg vs.toArray) ∨ (isAggT P t = false ∧ vs = [a]))
def AllRd (P : Program) (h : Heap) : List TypeId → List Value → Prop
  | [], [] => True
  | t :: ts, a :: avs => RdA P h t a ∧ AllRd P h ts avs
  | _, _ => False
theorem RdA.mono {P : Program} {h h' : Heap} {t : TypeId} {a : Value} (hp : h <+: h') : RdA P h t a → RdA P h' t a := fun ⟨n, vs, k, e⟩ => ⟨n, vs, k.mono hp, e⟩
section
variable {P : Program} {W : World}
theorem okWide_cells {ts : List TypeId} {base : Nat} {t : TypeId} {v : Value} (hk : kindB P ts t = true) (hval : Value.okWide P W .any base t v) (ha : isAggT P t = false) : v.cells.toList = [v] := by
  unfold Value.okWide at hval
  unfold kindB at hk
  unfold isAggT at ha
  cases hu : P.underlying t with
  | none => rw [hu] at hk; simp at hk
  | some d =>
    rw [hu] at hk ha hval
    cases d <;> simp at hk ha <;> simp only [Cell.okWide, Cell.ok, hu] at hval <;> cases v <;> first | rfl | exact hval.elim | simp at hval
theorem okWide_agg {base : Nat} {t : TypeId} {v : Value} (hval : Value.okWide P W .any base t v) (ha : isAggT P t = true) : ∃ cs, v = .agg cs := by
  unfold Value.okWide at hval
  unfold isAggT at ha
  split at ha
  · rename_i hu
    rw [hu] at hval
    exact hval.imp fun _ h => h.1
  · rename_i hu
    rw [hu] at hval
    exact hval.imp fun _ h => h.1
  · cases ha
theorem tells_arg {H : Type} {enc : TypeId × Value → H} {held : Bool} {ts : List TypeId} (hcl : ts.all (kindB P ts) = true) {base : Nat} {t : TypeId} {v : Value} {d : DataW H} {p : List MemPlace} (ht : t ∈ ts) (hval : Value.okWide P W .any base t v)
    (h0 : DataW.Trod enc P W 0 (fun _ => true) held t v d p) (hw : (d.weights P t).all (fun b => decide (b ≤ reachBytes)) = true) {μ : Mu} {h : Heap} (H : HeapR P μ h W) (hn : noOwn h) :
    ∃ μ' h' a, h <+: h' ∧ Ext μ μ' ∧ HeapR P μ' h' W ∧ noOwn h' ∧ VR P μ' a v ∧ RdA P h' t a := by
  obtain ⟨n, hn0⟩ := h0
  obtain ⟨μ', h', vs, h1, h2, h3, h4, h5, h6, h7⟩ := tells_trod hcl n _ _ _ ht hn0 hw μ h H hn
  cases ha : isAggT P t with
  | true =>
    obtain ⟨cs, rfl⟩ := okWide_agg hval ha
    have h5' : VRL P μ' vs cs.toList := h5
    refine ⟨μ', h', .agg vs.toArray, h1, h2, h3, h4, ?_, n, vs, h7, .inl ⟨ha, rfl⟩⟩
    have := VRL.agg h5'
    simpa using this
  | false =>
    have e := okWide_cells (List.all_eq_true.1 hcl t ht) hval ha
    rw [e] at h5
    match vs, h5, h7 with
    | [a], h5, h7 => exact ⟨μ', h', a, h1, h2, h3, h4, h5.1, n, [a], h7, .inr ⟨ha, rfl⟩⟩
theorem AllRd.mono {h h' : Heap} (hp : h <+: h') : ∀ {ts : List TypeId} {avs : List Value}, AllRd P h ts avs → AllRd P h' ts avs
  | [], [], _ => trivial
  | _ :: _, _ :: _, ⟨h1, h2⟩ => ⟨h1.mono hp, AllRd.mono hp h2⟩
  | [], _ :: _, h => h.elim
  | _ :: _, [], h => h.elim
theorem tells_args {H : Type} {enc : TypeId × Value → H} {held : Bool} {ts : List TypeId} (hcl : ts.all (kindB P ts) = true) {base : Nat} : ∀ {tys : List TypeId} {vs : List Value} {ds : List (DataW H)} {p : List MemPlace}, (∀ t ∈ tys, t ∈ ts) →
    DataW.TrodAll enc P W 0 (fun _ => true) held tys vs ds p → (∀ (i : Nat) (t : TypeId) (v : Value), tys[i]? = some t → vs[i]? = some v → Value.okWide P W .any base t v) →
    (∀ (i : Nat) (t : TypeId) (d : DataW H), tys[i]? = some t → ds[i]? = some d → (d.weights P t).all (fun b => decide (b ≤ reachBytes)) = true) → ∀ {μ : Mu} {h : Heap}, HeapR P μ h W → noOwn h →
    ∃ μ' h' avs, h <+: h' ∧ Ext μ μ' ∧ HeapR P μ' h' W ∧ noOwn h' ∧ VRL P μ' avs vs ∧ AllRd P h' tys avs
  | [], [], [], _, _, _, _, _, μ, h, H, hn => ⟨μ, h, [], List.prefix_refl _, Ext.refl _, H, hn, trivial, trivial⟩
  | t :: tys, v :: vs, d :: ds, _, ht, ⟨p, q, k1, k2, _⟩, hv, hw, μ, h, H, hn => by
    obtain ⟨μ1, h1, a, p1, x1, H1, n1, v1, r1⟩ := tells_arg hcl (ht t List.mem_cons_self) (hv 0 t v rfl rfl) k1 (hw 0 t d rfl rfl) H hn
    obtain ⟨μ2, h2, avs, p2, x2, H2, n2, v2, r2⟩ := tells_args hcl (fun t h => ht t (List.mem_cons_of_mem _ h)) k2 (fun i t v e1 e2 => hv (i + 1) t v (by simpa using e1) (by simpa using e2)) (fun i t d e1 e2 => hw (i + 1) t d (by simpa using e1) (by simpa using e2)) H1 n1
    exact ⟨μ2, h2, a :: avs, p1.trans p2, x1.trans x2, H2, n2, ⟨v1.mono x2, v2⟩, r1.mono p2, r2⟩
  | [], _ :: _, _, _, _, h, _, _, _, _, _, _ => by simp [DataW.TrodAll] at h
  | [], [], _ :: _, _, _, h, _, _, _, _, _, _ => by simp [DataW.TrodAll] at h
  | _ :: _, [], _, _, _, h, _, _, _, _, _, _ => by simp [DataW.TrodAll] at h
  | _ :: _, _ :: _, [], _, _, h, _, _, _, _, _, _ => by simp [DataW.TrodAll] at h
end
end Go.Proofs.Ytafncpgiibikcaa.Am

namespace Go.Proofs.Ytafncpgiibikcaa
set_option linter.unusedSimpArgs false
set_option linter.unusedVariables false
set_option maxRecDepth 20000
open Go.ChangeShapes Go.WideShapes Go.ChangeAt Go.RowKit Am Ty

theorem heap_nil {W : World} : HeapR Try.prog [] [] W := ⟨rfl, fun id o h1 => by simp at h1, fun a b o1 o2 m1 m2 _ h1 => by simp at h1⟩
set_option maxRecDepth 100000 in
theorem calls_args {H : Type} {enc : TypeId × Value → H} {f : FuncId} {W : World} {base : Nat} {tys ts : List TypeId} {args : Array Value} {ds : List (DataW H)} {p : List MemPlace} (hcl : ts.all (kindB Try.prog ts) = true) (htys : tys.all (fun t => ts.contains t) = true)
    (hf : ∀ (h : Heap) (avs : List Value), AllRd Try.prog h tys avs → FW env f avs h fun r _ => r = .bool true)
    (hval : ∀ (j : Nat) (t : TypeId) (v : Value), tys[j]? = some t → args.toList[j]? = some v → Value.okWide Try.prog W .any base t v) (h0 : DataW.TrodAll enc Try.prog W 0 (fun _ => true) true tys args.toList ds p)
    (hw : ∀ (i : Nat) (t : TypeId) (d : DataW H), tys[i]? = some t → ds[i]? = some d → (d.weights Try.prog t).all (fun b => decide (b ≤ reachBytes)) = true) :
    Calls Try.prog f args W fun e W' => e = .returned (.bool true) ∧ Below W.heap.size W W' := by
  obtain ⟨μ, h, avs, _, _, H, hno, hv, hr⟩ := tells_args hcl (fun t ht => by have := List.all_eq_true.1 htys t ht; simpa using this) h0 hval hw (μ := []) (h := []) heap_nil (fun id o h1 => by simp at h1)
  have k := hf h avs hr
  unfold FW at k
  obtain ⟨r, h', k1, rfl⟩ := k
  refine (Ev.calls env_ok k1 μ W args H hv).mono fun e W' ⟨μ', r', he, hvr, _, _, hfr, _, _⟩ => ?_
  exact ⟨by rw [he, VR.bool hvr], noOwn_below hno hfr⟩
theorem below_all {H : Type} {enc : TypeId × Value → H} {W W' : World} (hb : Below W.heap.size W W') (tys : List TypeId) (ht : ∀ t ∈ tys, Try.prog.readableRec t = true ∧ t < Try.prog.types.size) : ∀ (vs : List Value) (ds : List (DataW H)) (p : List MemPlace),
    DataW.TrodAll enc Try.prog W 0 (fun _ => true) true tys vs ds p → DataW.TrodAll enc Try.prog W' 0 (fun b => decide (b < W.heap.size)) true tys vs ds p := by
  induction tys with
  | nil =>
    intro vs ds p h
    obtain ⟨rfl, rfl, rfl⟩ := trodAll_nil h
    exact trodAll_mk0
  | cons t tys ih =>
    intro vs ds p h
    obtain ⟨v, vs', d, ds', p1, q1, rfl, rfl, rfl, k1, k2⟩ := trodAll_cons h
    have lt0 : ∀ x ∈ p1, x.block < W.heap.size := by obtain ⟨m, hm⟩ := k1; exact DataW.trod_lt m _ _ _ hm
    have h1 := ht t List.mem_cons_self
    exact trodAll_cons_mk (Below.trod laidOut h1.1 h1.2 k1 hb lt0) (ih (fun t h => ht t (List.mem_cons_of_mem _ h)) _ _ _ k2)
theorem below_all' {H : Type} {enc : TypeId × Value → H} {W W' : World} (hb : Below W.heap.size W W') {tys : List TypeId} (ht : tys.all (fun t => Try.prog.readableRec t && decide (t < Try.prog.types.size)) = true) {vs : List Value} {ds : List (DataW H)} {p : List MemPlace}
    (h : DataW.TrodAll enc Try.prog W 0 (fun _ => true) true tys vs ds p) : DataW.TrodAll enc Try.prog W' 0 (fun b => decide (b < W.heap.size)) true tys vs ds p :=
  below_all hb tys (fun t h => by have := List.all_eq_true.1 ht t h; simp only [Bool.and_eq_true, decide_eq_true_eq] at this; exact this) _ _ _ h
theorem rda_gram {h : Heap} {a : Value} (k : RdA Try.prog h 24 a) : ∃ g : Gram, RdGram h a g ∧ (Lit.int .i64 g.nts).wf = true ∧ (Lit.int .i64 g.start).wf = true ∧ WfG g := by
  obtain ⟨n, vs, k, ⟨_, rfl⟩ | ⟨h1, _⟩⟩ := k
  · exact rd_gram k
  · have : isAggT Try.prog 24 = true := by kernel_rfl
    rw [this] at h1
    cases h1
end Go.Proofs.Ytafncpgiibikcaa

namespace Go.Proofs.Ytafncpgiibikcaa
set_option linter.unusedSimpArgs false
set_option linter.unusedVariables false

inductive Tx (R : List Rule) : List KSym → List Nat → Prop
  | nil : Tx R [] []
  | term (s : KSym) (l : List KSym) (b : Nat) (u : List Nat) : s.nt < 0 → s.set.has b = true → Tx R l u → Tx R (s :: l) (b :: u)
  | non (s : KSym) (l : List KSym) (r : Rule) (u v : List Nat) : 0 ≤ s.nt → r ∈ R → r.lhs = s.nt → Tx R r.rhs u → Tx R l v → Tx R (s :: l) (u ++ v)
theorem Tx.append {R : List Rule} {a b : List KSym} {u v : List Nat} (h : Tx R a u) (k : Tx R b v) : Tx R (a ++ b) (u ++ v) := by
  induction h with
  | nil => exact k
  | term s l c u h1 h2 _ ih => exact .term s _ c _ h1 h2 ih
  | non s l r u1 u2 h1 h2 h3 h4 _ _ ih => rw [List.append_assoc]; exact .non s _ r _ _ h1 h2 h3 h4 ih
theorem Tx.split {R : List Rule} {a b : List KSym} {w : List Nat} (h : Tx R (a ++ b) w) : ∃ u v, w = u ++ v ∧ Tx R a u ∧ Tx R b v := by
  induction a generalizing w with
  | nil => exact ⟨[], w, rfl, .nil, h⟩
  | cons s a ih =>
    cases h with
    | term _ _ c u h1 h2 h3 =>
      obtain ⟨x, y, rfl, k1, k2⟩ := ih h3
      exact ⟨c :: x, y, rfl, .term s _ c _ h1 h2 k1, k2⟩
    | non _ _ r u v h1 h2 h3 h4 h5 =>
      obtain ⟨x, y, rfl, k1, k2⟩ := ih h5
      exact ⟨u ++ x, y, by rw [List.append_assoc], .non s _ r _ _ h1 h2 h3 h4 k1, k2⟩
def NtTx (R : List Rule) (A : Int) (u : List Nat) : Prop := ∃ r ∈ R, r.lhs = A ∧ Tx R r.rhs u
theorem Tx.nil_iff {R : List Rule} {u : List Nat} : Tx R [] u ↔ u = [] := ⟨fun h => by cases h; rfl, fun h => h ▸ .nil⟩
theorem Tx.one_term {R : List Rule} {s : KSym} {u : List Nat} (h0 : s.nt < 0) : Tx R [s] u ↔ ∃ b, u = [b] ∧ s.set.has b = true := by
  constructor
  · intro h
    cases h with
    | term _ _ b v h1 h2 h3 => cases h3; exact ⟨b, rfl, h2⟩
    | non _ _ r u v h1 => omega
  · rintro ⟨b, rfl, h⟩
    exact .term s [] b [] h0 h .nil
theorem Tx.one_non {R : List Rule} {s : KSym} {u : List Nat} (h0 : 0 ≤ s.nt) : Tx R [s] u ↔ NtTx R s.nt u := by
  constructor
  · intro h
    cases h with
    | term _ _ b v h1 h2 h3 => omega
    | non _ _ r u v h1 h2 h3 h4 h5 => cases h5; rw [List.append_nil]; exact ⟨r, h2, h3, h4⟩
  · rintro ⟨r, h1, h2, h3⟩
    have := Tx.non s [] r u [] h0 h1 h2 h3 .nil
    rwa [List.append_nil] at this
theorem Tx.mono {R R' : List Rule} (hs : ∀ r ∈ R, r ∈ R') {l : List KSym} {u : List Nat} (h : Tx R l u) : Tx R' l u := by
  induction h with
  | nil => exact .nil
  | term s l c u h1 h2 _ ih => exact .term s _ c _ h1 h2 ih
  | non s l r u1 u2 h1 h2 h3 h4 _ ih1 ih => exact .non s _ r _ _ h1 (hs r h2) h3 ih1 ih

def sub (w : List Nat) (i j : Nat) : List Nat := (w.drop i).take (j - i)
theorem sub_len {w : List Nat} {i j : Nat} (h1 : i ≤ j) (h2 : j ≤ w.length) : (sub w i j).length = j - i := by
  unfold sub; rw [List.length_take, List.length_drop]; omega
theorem sub_app {w : List Nat} {i k j : Nat} (h1 : i ≤ k) (h2 : k ≤ j) : sub w i k ++ sub w k j = sub w i j := by
  unfold sub
  rw [show j - i = (k - i) + (j - k) by omega, List.take_add, List.drop_drop, show i + (k - i) = k by omega]
theorem sub_self {w : List Nat} {i : Nat} : sub w i i = [] := by unfold sub; simp
theorem sub_all {w : List Nat} : sub w 0 w.length = w := by unfold sub; simp
theorem sub_one {w : List Nat} {i b : Nat} (h : w[i]? = some b) : sub w i (i + 1) = [b] := by
  unfold sub
  obtain ⟨h1, h2⟩ := List.getElem?_eq_some_iff.1 h
  rw [show i + 1 - i = 1 by omega, List.drop_eq_getElem_cons h1, h2]; rfl
theorem sub_split {w u v : List Nat} {i j : Nat} (h1 : i ≤ j) (h2 : j ≤ w.length) (h : sub w i j = u ++ v) : i + u.length ≤ j ∧ u = sub w i (i + u.length) ∧ v = sub w (i + u.length) j := by
  have hl := congrArg List.length h
  rw [sub_len h1 h2, List.length_append] at hl
  have hk : i + u.length ≤ j := by omega
  have e := sub_app (w := w) (i := i) (k := i + u.length) (j := j) (by omega) hk
  rw [h] at e
  have := List.append_inj e (by rw [sub_len (by omega) (by omega)]; omega)
  exact ⟨hk, this.1.symm, this.2.symm⟩
def Sq (R : List Rule) (w : List Nat) (l : List KSym) (i j : Nat) : Prop := i ≤ j ∧ j ≤ w.length ∧ Tx R l (sub w i j)
def Sy (R : List Rule) (w : List Nat) (s : KSym) (i j : Nat) : Prop := if s.nt < 0 then j = i + 1 ∧ ∃ b, w[i]? = some b ∧ s.set.has b = true else i ≤ j ∧ j ≤ w.length ∧ NtTx R s.nt (sub w i j)
theorem Sq.nil_iff {R : List Rule} {w : List Nat} {i j : Nat} : Sq R w [] i j ↔ i = j ∧ j ≤ w.length := by
  unfold Sq
  rw [Tx.nil_iff]
  constructor
  · rintro ⟨h1, h2, h3⟩
    have := congrArg List.length h3
    rw [sub_len h1 h2] at this
    simp at this
    omega
  · rintro ⟨rfl, h⟩
    exact ⟨Nat.le_refl _, h, sub_self⟩
theorem Sq.append_iff {R : List Rule} {w : List Nat} {a b : List KSym} {i j : Nat} : Sq R w (a ++ b) i j ↔ ∃ k, Sq R w a i k ∧ Sq R w b k j := by
  constructor
  · rintro ⟨h1, h2, h3⟩
    obtain ⟨u, v, e, k1, k2⟩ := h3.split
    obtain ⟨q1, q2, q3⟩ := sub_split h1 h2 e
    exact ⟨i + u.length, ⟨by omega, by omega, q2 ▸ k1⟩, ⟨q1, h2, q3 ▸ k2⟩⟩
  · rintro ⟨k, ⟨h1, h2, h3⟩, h4, h5, h6⟩
    exact ⟨by omega, h5, by rw [← sub_app h1 h4]; exact h3.append h6⟩
theorem Sq.one_iff {R : List Rule} {w : List Nat} {s : KSym} {i j : Nat} : Sq R w [s] i j ↔ Sy R w s i j := by
  unfold Sq Sy
  split
  · rename_i h0
    rw [Tx.one_term h0]
    constructor
    · rintro ⟨h1, h2, b, h3, h4⟩
      have := congrArg List.length h3
      rw [sub_len h1 h2] at this
      simp at this
      have hj : j = i + 1 := by omega
      subst hj
      obtain ⟨c, hc⟩ : ∃ c, w[i]? = some c := ⟨w[i], by simp⟩
      rw [sub_one hc] at h3
      cases h3
      exact ⟨rfl, _, hc, h4⟩
    · rintro ⟨rfl, b, h1, h2⟩
      have := (List.getElem?_eq_some_iff.1 h1).1
      exact ⟨by omega, by omega, b, sub_one h1, h2⟩
  · rename_i h0
    rw [Tx.one_non (by omega)]
theorem Sq.snoc_iff {R : List Rule} {w : List Nat} {a : List KSym} {s : KSym} {i j : Nat} : Sq R w (a ++ [s]) i j ↔ ∃ k, Sq R w a i k ∧ Sy R w s k j := by
  rw [Sq.append_iff]
  simp only [Sq.one_iff]
theorem Sq.take_succ {R : List Rule} {w : List Nat} {l : List KSym} {d i j : Nat} {s : KSym} (hs : l[d]? = some s) : Sq R w (l.take (d + 1)) i j ↔ ∃ k, Sq R w (l.take d) i k ∧ Sy R w s k j := by
  obtain ⟨h1, h2⟩ := List.getElem?_eq_some_iff.1 hs
  rw [List.take_succ_eq_append_getElem h1, h2]
  exact Sq.snoc_iff
theorem Sq.le {R : List Rule} {w : List Nat} {l : List KSym} {i j : Nat} (h : Sq R w l i j) : i ≤ j ∧ j ≤ w.length := ⟨h.1, h.2.1⟩
theorem Sy.le {R : List Rule} {w : List Nat} {s : KSym} {i j : Nat} (h : Sy R w s i j) : i ≤ j ∧ j ≤ w.length := (Sq.one_iff.2 h).le

structure Item where
  rule : Nat
  dot : Nat
  frm : Nat
  deriving DecidableEq
inductive It (g : Gram) (w : List Nat) : Nat → Item → Prop
  | init (q : Nat) (r : Rule) : g.rules[q]? = some r → r.lhs = g.start → It g w 0 ⟨q, 0, 0⟩
  | pred (j : Nat) (x : Item) (r : Rule) (s : KSym) (q : Nat) (r' : Rule) : It g w j x → g.rules[x.rule]? = some r → r.rhs[x.dot]? = some s → 0 ≤ s.nt → g.rules[q]? = some r' → r'.lhs = s.nt → It g w j ⟨q, 0, j⟩
  | scan (j : Nat) (x : Item) (r : Rule) (s : KSym) (b : Nat) : It g w j x → g.rules[x.rule]? = some r → r.rhs[x.dot]? = some s → s.nt < 0 → w[j]? = some b → s.set.has b = true → It g w (j + 1) ⟨x.rule, x.dot + 1, x.frm⟩
  | comp (j : Nat) (x : Item) (r : Rule) (y : Item) (r' : Rule) (s : KSym) : It g w j x → g.rules[x.rule]? = some r → x.dot = r.rhs.length → It g w x.frm y → g.rules[y.rule]? = some r' → r'.rhs[y.dot]? = some s → 0 ≤ s.nt → s.nt = r.lhs →
      It g w j ⟨y.rule, y.dot + 1, y.frm⟩
inductive Wt (g : Gram) (w : List Nat) : Int → Nat → Prop
  | start : Wt g w g.start 0
  | step (r : Rule) (d i j : Nat) (s : KSym) : r ∈ g.rules → Wt g w r.lhs i → r.rhs[d]? = some s → 0 ≤ s.nt → Sq g.rules w (r.rhs.take d) i j → Wt g w s.nt j
theorem Wt.le {g : Gram} {w : List Nat} {A : Int} {i : Nat} (h : Wt g w A i) : i ≤ w.length := by
  cases h with
  | start => exact Nat.zero_le _
  | step r d i j s _ _ _ _ h => exact h.2.1
theorem It.sound {g : Gram} {w : List Nat} {j : Nat} {x : Item} (h : It g w j x) : ∃ r, g.rules[x.rule]? = some r ∧ x.dot ≤ r.rhs.length ∧ Wt g w r.lhs x.frm ∧ Sq g.rules w (r.rhs.take x.dot) x.frm j := by
  induction h with
  | init q r h1 h2 => exact ⟨r, h1, Nat.zero_le _, h2 ▸ .start, Sq.nil_iff.2 ⟨rfl, Nat.zero_le _⟩⟩
  | pred j x r s q r' h1 h2 h3 h4 h5 h6 ih =>
    obtain ⟨r0, k1, k2, k3, k4⟩ := ih
    obtain rfl : r0 = r := Option.some.inj (k1.symm.trans h2)
    exact ⟨r', h5, Nat.zero_le _, h6 ▸ .step r0 x.dot x.frm j s (List.mem_of_getElem? h2) k3 h3 h4 k4, Sq.nil_iff.2 ⟨rfl, k4.2.1⟩⟩
  | scan j x r s b h1 h2 h3 h4 h5 h6 ih =>
    obtain ⟨r0, k1, k2, k3, k4⟩ := ih
    obtain rfl : r0 = r := Option.some.inj (k1.symm.trans h2)
    refine ⟨r0, h2, (List.getElem?_eq_some_iff.1 h3).1, k3, (Sq.take_succ h3).2 ⟨j, k4, ?_⟩⟩
    unfold Sy
    rw [if_pos h4]
    exact ⟨rfl, b, h5, h6⟩
  | comp j x r y r' s h1 h2 h3 h4 h5 h6 h7 h8 ih1 ih2 =>
    obtain ⟨r0, k1, k2, k3, k4⟩ := ih1
    obtain rfl : r0 = r := Option.some.inj (k1.symm.trans h2)
    obtain ⟨r1, q1, q2, q3, q4⟩ := ih2
    obtain rfl : r1 = r' := Option.some.inj (q1.symm.trans h5)
    refine ⟨r1, h5, (List.getElem?_eq_some_iff.1 h6).1, q3, (Sq.take_succ h6).2 ⟨x.frm, q4, ?_⟩⟩
    unfold Sy
    rw [if_neg (by omega)]
    rw [h3, List.take_length] at k4
    exact ⟨k4.1, k4.2.1, r0, List.mem_of_getElem? h2, h8.symm, k4.2.2⟩
theorem It.run {g : Gram} {w : List Nat} {l : List KSym} {u : List Nat} (h : Tx g.rules l u) : ∀ {x : Item} {k : Nat} {r : Rule} {l' : List KSym} {t : List Nat}, It g w k x → g.rules[x.rule]? = some r → r.rhs.drop x.dot = l ++ l' → w.drop k = u ++ t →
    It g w (k + u.length) ⟨x.rule, x.dot + l.length, x.frm⟩ := by
  induction h with
  | nil => intro x k r l' t h1 _ _ _; exact h1
  | term s l b u h1 h2 h3 ih =>
    intro x k r l' t k1 k2 k3 k4
    have e1 : r.rhs[x.dot]? = some s := by
      have := congrArg (fun z : List KSym => z[0]?) k3
      simpa using this
    have e2 : w[k]? = some b := by
      have := congrArg (fun z : List Nat => z[0]?) k4
      simpa using this
    have := ih (x := ⟨x.rule, x.dot + 1, x.frm⟩) (k := k + 1) (r := r) (l' := l') (t := t) (.scan k x r s b k1 k2 e1 h1 e2 h2) k2 (by
      have := congrArg List.tail k3
      simpa using this) (by
      have := congrArg List.tail k4
      simpa using this)
    simp only [List.length_cons]
    rw [show k + (u.length + 1) = k + 1 + u.length by omega, show x.dot + (l.length + 1) = x.dot + 1 + l.length by omega]
    exact this
  | non s l r0 u v h1 h2 h3 h4 h5 ih1 ih2 =>
    intro x k r l' t k1 k2 k3 k4
    have e1 : r.rhs[x.dot]? = some s := by
      have := congrArg (fun z : List KSym => z[0]?) k3
      simpa using this
    obtain ⟨q, hq⟩ := List.getElem?_of_mem h2
    have p1 := It.pred k x r s q r0 k1 k2 e1 h1 hq h3
    rw [List.append_assoc] at k4
    have p2 := ih1 (l' := []) p1 hq (by simp) k4
    have p3 := It.comp (k + u.length) _ r0 x r s p2 hq (by simp) k1 k2 e1 h1 h3.symm
    have := ih2 (l' := l') (t := t) p3 k2 (by
      have := congrArg List.tail k3
      simpa using this) (by
      have := congrArg (List.drop u.length) k4
      rw [List.drop_drop, List.drop_left] at this
      exact this)
    simp only [List.length_cons, List.length_append]
    rw [show k + (u.length + v.length) = k + u.length + v.length by omega, show x.dot + (l.length + 1) = x.dot + 1 + l.length by omega]
    exact this
theorem Sq.drop {R : List Rule} {w : List Nat} {l : List KSym} {i j : Nat} (h : Sq R w l i j) : ∃ u t, w.drop i = u ++ t ∧ u.length = j - i ∧ Tx R l u :=
  ⟨sub w i j, w.drop j, by
    unfold sub
    have := List.take_append_drop (j - i) (w.drop i)
    rw [List.drop_drop, show i + (j - i) = j by have := h.1; omega] at this
    exact this.symm, sub_len h.1 h.2.1, h.2.2⟩
theorem Wt.it {g : Gram} {w : List Nat} {A : Int} {i : Nat} (h : Wt g w A i) : ∀ (q : Nat) (r : Rule), g.rules[q]? = some r → r.lhs = A → It g w i ⟨q, 0, i⟩ := by
  induction h with
  | start => exact fun q r h1 h2 => .init q r h1 h2
  | step r d i j s h1 h2 h3 h4 h5 ih =>
    intro q r' k1 k2
    obtain ⟨q0, hq0⟩ := List.getElem?_of_mem h1
    have p := ih q0 r hq0 rfl
    obtain ⟨u, t, e1, e2, e3⟩ := h5.drop
    have hd := (List.getElem?_eq_some_iff.1 h3).1
    have p2 := It.run e3 (l' := r.rhs.drop d) p hq0 (by simp) e1
    simp only [List.length_take] at p2
    rw [e2, Nat.min_eq_left (by omega), show i + (j - i) = j by have := h5.1; omega, Nat.zero_add] at p2
    exact .pred j _ r s q r' p2 hq0 h3 h4 k1 k2
theorem It.iff {g : Gram} {w : List Nat} {j : Nat} {x : Item} : It g w j x ↔ ∃ r, g.rules[x.rule]? = some r ∧ x.dot ≤ r.rhs.length ∧ Wt g w r.lhs x.frm ∧ Sq g.rules w (r.rhs.take x.dot) x.frm j := by
  refine ⟨It.sound, ?_⟩
  rintro ⟨r, h1, h2, h3, h4⟩
  have p := h3.it x.rule r h1 rfl
  obtain ⟨u, t, e1, e2, e3⟩ := h4.drop
  have p2 := It.run e3 (l' := r.rhs.drop x.dot) p h1 (by simp) e1
  simp only [List.length_take] at p2
  rwa [e2, Nat.min_eq_left h2, show x.frm + (j - x.frm) = j by have := h4.1; omega, Nat.zero_add] at p2
theorem it_accept {g : Gram} {w : List Nat} {j : Nat} (hj : j ≤ w.length) : (∃ x r, It g w j x ∧ g.rules[x.rule]? = some r ∧ r.lhs = g.start ∧ x.frm = 0 ∧ x.dot = r.rhs.length) ↔ NtTx g.rules g.start (sub w 0 j) := by
  constructor
  · rintro ⟨x, r, h1, h2, h3, h4, h5⟩
    obtain ⟨r0, k1, k2, k3, k4⟩ := h1.sound
    obtain rfl : r0 = r := Option.some.inj (k1.symm.trans h2)
    rw [h5, h4, List.take_length] at k4
    exact ⟨r0, List.mem_of_getElem? h2, h3, k4.2.2⟩
  · rintro ⟨r, h1, h2, h3⟩
    obtain ⟨q, hq⟩ := List.getElem?_of_mem h1
    exact ⟨⟨q, r.rhs.length, 0⟩, r, It.iff.2 ⟨r, hq, Nat.le_refl _, h2 ▸ .start, Nat.zero_le _, hj, by rw [List.take_length]; exact h3⟩, hq, h2, rfl, rfl⟩
end Go.Proofs.Ytafncpgiibikcaa

namespace Go.Proofs.Ytafncpgiibikcaa
set_option linter.unusedSimpArgs false
set_option linter.unusedVariables false

def gs (S : List (List Item)) (k : Nat) : List Item := S.getD k []
theorem gs_set {S : List (List Item)} {j k : Nat} {l : List Item} (hj : j < S.length) : gs (S.set j l) k = if j = k then l else gs S k := by
  unfold gs
  rw [List.getD_eq_getElem?_getD, List.getD_eq_getElem?_getD, List.getElem?_set]
  split
  · rename_i e
    subst e
    simp [hj]
  · rfl
theorem gs_get {S : List (List Item)} {k : Nat} (hk : k < S.length) : S[k]? = some (gs S k) := by
  unfold gs
  rw [List.getD_eq_getElem?_getD, List.getElem?_eq_getElem hk]
  rfl
theorem gs_getElem {S : List (List Item)} {k : Nat} (hk : k < S.length) : S[k] = gs S k := by
  have := gs_get hk
  rw [List.getElem?_eq_getElem hk] at this
  exact Option.some.inj this
def addS (S : List (List Item)) (j : Nat) (x : Item) : List (List Item) := if x ∈ gs S j then S else S.set j (gs S j ++ [x])
structure Ext (S S' : List (List Item)) : Prop where
  n : S'.length = S.length
  p : ∀ k, gs S k <+: gs S' k
theorem Ext.refl {S : List (List Item)} : Ext S S := ⟨rfl, fun _ => List.prefix_refl _⟩
theorem Ext.trans {S S' T : List (List Item)} (h : Ext S S') (k : Ext S' T) : Ext S T := ⟨k.n.trans h.n, fun i => (h.p i).trans (k.p i)⟩
theorem Ext.mem {S S' : List (List Item)} (h : Ext S S') {k : Nat} {x : Item} (hx : x ∈ gs S k) : x ∈ gs S' k := (h.p k).subset hx
theorem Ext.le {S S' : List (List Item)} (h : Ext S S') (k : Nat) : (gs S k).length ≤ (gs S' k).length := (h.p k).length_le
theorem Ext.take {S S' : List (List Item)} (h : Ext S S') {k i : Nat} (hi : i ≤ (gs S k).length) : (gs S' k).take i = (gs S k).take i := by
  obtain ⟨t, e⟩ := h.p k
  rw [← e, List.take_append_of_le_length hi]
theorem addS_ext {S : List (List Item)} {j : Nat} {x : Item} (hj : j < S.length) : Ext S (addS S j x) := by
  unfold addS
  split
  · exact .refl
  · refine ⟨by simp, fun k => ?_⟩
    rw [gs_set hj]
    split
    · rename_i e; subst e; exact List.prefix_append _ _
    · exact List.prefix_refl _
theorem addS_mem {S : List (List Item)} {j : Nat} {x : Item} (hj : j < S.length) : x ∈ gs (addS S j x) j := by
  unfold addS
  split
  · assumption
  · rw [gs_set hj, if_pos rfl]; simp
theorem addS_ne {S : List (List Item)} {j k : Nat} {x : Item} (hj : j < S.length) (h : k ≠ j) : gs (addS S j x) k = gs S k := by
  unfold addS
  split
  · rfl
  · rw [gs_set hj, if_neg (Ne.symm h)]
theorem addS_sub {S : List (List Item)} {j : Nat} {x y : Item} (hj : j < S.length) (hy : y ∈ gs (addS S j x) j) : y ∈ gs S j ∨ y = x := by
  unfold addS at hy
  split at hy
  · exact .inl hy
  · rw [gs_set hj, if_pos rfl] at hy
    simpa using hy
structure CI (g : Gram) (w : List Nat) (S : List (List Item)) : Prop where
  n : S.length = w.length + 1
  s : ∀ k x, x ∈ gs S k → It g w k x
  nd : ∀ k, (gs S k).Nodup
theorem CI.add {g : Gram} {w : List Nat} {S : List (List Item)} {j : Nat} {x : Item} (h : CI g w S) (hx : It g w j x) (hj : j ≤ w.length) : CI g w (addS S j x) := by
  have hj' : j < S.length := by have := h.n; omega
  refine ⟨(addS_ext hj').n.trans h.n, fun k y hy => ?_, fun k => ?_⟩
  · by_cases e : k = j
    · subst e
      rcases addS_sub hj' hy with h1 | rfl
      · exact h.s _ _ h1
      · exact hx
    · rw [addS_ne hj' e] at hy
      exact h.s _ _ hy
  · by_cases e : k = j
    · subst e
      unfold addS
      split
      · exact h.nd k
      · rename_i hn
        rw [gs_set hj', if_pos rfl, List.nodup_append]
        exact ⟨h.nd k, by simp, fun a ha b hb => by
          simp only [List.mem_singleton] at hb
          subst hb
          rintro rfl
          exact hn ha⟩
    · rw [addS_ne hj' e]
      exact h.nd k

def gsize (R : List Rule) : Nat := (R.map fun r => r.rhs.length + 1).sum
theorem nodup_le {α : Type} [DecidableEq α] : ∀ (l m : List α), l.Nodup → (∀ x ∈ l, x ∈ m) → l.length ≤ m.length
  | [], m, _, _ => Nat.zero_le _
  | a :: l, m, h1, h2 => by
    have ha : a ∈ m := h2 a (by simp)
    rw [List.nodup_cons] at h1
    have := nodup_le l (m.erase a) h1.2 fun x hx => by
      have hne : x ≠ a := by rintro rfl; exact h1.1 hx
      exact (List.mem_erase_of_ne hne).2 (h2 x (by simp [hx]))
    rw [List.length_erase_of_mem ha] at this
    have hp : 0 < m.length := List.length_pos_of_mem ha
    simp only [List.length_cons]
    omega
def ruleItems (j q n : Nat) : List Item := (List.range (n + 1)).flatMap fun d => (List.range (j + 1)).map fun f => ⟨q, d, f⟩
def allItems (j : Nat) : Nat → List Rule → List Item
  | _, [] => []
  | q, r :: R => ruleItems j q r.rhs.length ++ allItems j (q + 1) R
theorem flatMap_const_len {α β : Type} {f : α → List β} {k : Nat} (hf : ∀ x, (f x).length = k) : ∀ l : List α, (l.flatMap f).length = l.length * k
  | [] => by simp
  | x :: l => by rw [List.flatMap_cons, List.length_append, hf, flatMap_const_len hf l, List.length_cons, Nat.succ_mul, Nat.add_comm]
theorem ruleItems_len {j q n : Nat} : (ruleItems j q n).length = (n + 1) * (j + 1) := by
  unfold ruleItems
  rw [flatMap_const_len (k := j + 1) fun d => by simp]
  simp
theorem allItems_len {j : Nat} : ∀ (q : Nat) (R : List Rule), (allItems j q R).length = gsize R * (j + 1)
  | q, [] => by simp [allItems, gsize]
  | q, r :: R => by
    rw [allItems, List.length_append, ruleItems_len, allItems_len (q + 1) R]
    unfold gsize
    rw [List.map_cons, List.sum_cons, Nat.add_mul (r.rhs.length + 1)]
theorem allItems_mem {j : Nat} {x : Item} : ∀ (q : Nat) (R : List Rule) (i : Nat) (r : Rule), R[i]? = some r → x.rule = q + i → x.dot ≤ r.rhs.length → x.frm ≤ j → x ∈ allItems j q R
  | q, [], i, r, h, _, _, _ => by simp at h
  | q, r0 :: R, 0, r, h, h1, h2, h3 => by
    simp only [List.getElem?_cons_zero, Option.some.injEq] at h
    subst h
    unfold allItems ruleItems
    rw [List.mem_append, List.mem_flatMap]
    refine .inl ⟨x.dot, by simp; omega, ?_⟩
    rw [List.mem_map]
    refine ⟨x.frm, by simp; omega, ?_⟩
    cases x
    simp_all
  | q, r0 :: R, i + 1, r, h, h1, h2, h3 => by
    unfold allItems
    rw [List.mem_append]
    exact .inr (allItems_mem (q + 1) R i r (by simpa using h) (by omega) h2 h3)
theorem CI.le {g : Gram} {w : List Nat} {S : List (List Item)} (h : CI g w S) (k : Nat) : (gs S k).length ≤ gsize g.rules * (k + 1) := by
  rw [← allItems_len (j := k) 0]
  refine nodup_le _ _ (h.nd k) fun x hx => ?_
  obtain ⟨r, h1, h2, h3, h4⟩ := (h.s k x hx).sound
  exact allItems_mem 0 _ x.rule r h1 (by omega) h2 h4.1

def adv (x : Item) : Item := ⟨x.rule, x.dot + 1, x.frm⟩
def Wait (g : Gram) (y : Item) (A : Int) : Prop := ∃ r s, g.rules[y.rule]? = some r ∧ r.rhs[y.dot]? = some s ∧ s.nt = A
def Endd (g : Gram) (x : Item) (A : Int) : Prop := ∃ r, g.rules[x.rule]? = some r ∧ x.dot = r.rhs.length ∧ r.lhs = A
structure Pd (g : Gram) (w : List Nat) (S : List (List Item)) (E : List Int) (k : Nat) (x : Item) : Prop where
  pr : ∀ A q r', Wait g x A → 0 ≤ A → g.rules[q]? = some r' → r'.lhs = A → (⟨q, 0, k⟩ : Item) ∈ gs S k
  sc : ∀ r s b, g.rules[x.rule]? = some r → r.rhs[x.dot]? = some s → s.nt < 0 → w[k]? = some b → s.set.has b = true → adv x ∈ gs S (k + 1)
  cm : ∀ A y, Endd g x A → x.frm < k → y ∈ gs S x.frm → Wait g y A → adv y ∈ gs S k
  ce : ∀ A, Endd g x A → x.frm = k → A ∈ E
  em : ∀ A, Wait g x A → A ∈ E → adv x ∈ gs S k
def ESound (g : Gram) (w : List Nat) (j : Nat) (E : List Int) : Prop := ∀ a ∈ E, ∃ x, It g w j x ∧ x.frm = j ∧ Endd g x a
structure StepP (g : Gram) (w : List Nat) (j : Nat) (x : Item) (S : List (List Item)) (E : List Int) (S' : List (List Item)) (E' : List Int) : Prop where
  ext : Ext S S'
  ci : CI g w S'
  ne : ∀ k, k ≠ j → k ≠ j + 1 → gs S' k = gs S k
  ee : ∀ a ∈ E, a ∈ E'
  es : ESound g w j E'
  nw : ∀ a ∈ E', a ∉ E → ∀ y ∈ gs S' j, Wait g y a → adv y ∈ gs S' j
  pd : Pd g w S' E' j x
theorem Pd.mono {g : Gram} {w : List Nat} {S S' : List (List Item)} {E E' : List Int} {k : Nat} {x : Item} (h : Pd g w S E k x) (he : Ext S S') (hne : ∀ i, i < k → gs S' i = gs S i) (hE : ∀ a ∈ E, a ∈ E')
    (hn : ∀ a ∈ E', a ∉ E → ∀ y ∈ gs S' k, Wait g y a → adv y ∈ gs S' k) (hx : x ∈ gs S' k) : Pd g w S' E' k x where
  pr := fun A q r' h1 h2 h3 h4 => he.mem (h.pr A q r' h1 h2 h3 h4)
  sc := fun r s b h1 h2 h3 h4 h5 => he.mem (h.sc r s b h1 h2 h3 h4 h5)
  cm := fun A y h1 h2 h3 h4 => he.mem (h.cm A y h1 h2 (by rwa [hne _ h2] at h3) h4)
  ce := fun A h1 h2 => hE _ (h.ce A h1 h2)
  em := fun A h1 h2 => by
    by_cases hA : A ∈ E
    · exact he.mem (h.em A h1 hA)
    · exact hn A h2 hA x hx h1
def Done (g : Gram) (w : List Nat) (S : List (List Item)) (j : Nat) : Prop := ∀ k, k < j → ∃ E, ∀ x ∈ gs S k, Pd g w S E k x
def Inits (g : Gram) (S : List (List Item)) : Prop := ∀ q r, g.rules[q]? = some r → r.lhs = g.start → (⟨q, 0, 0⟩ : Item) ∈ gs S 0
theorem closed_all {g : Gram} {w : List Nat} {S : List (List Item)} (hi : Inits g S) (hd : Done g w S (w.length + 1)) {j : Nat} {x : Item} (h : It g w j x) : x ∈ gs S j := by
  induction h with
  | init q r h1 h2 => exact hi q r h1 h2
  | pred j x r s q r' h1 h2 h3 h4 h5 h6 ih =>
    obtain ⟨E, hE⟩ := hd j (by obtain ⟨_, _, _, _, k⟩ := h1.sound; have := k.2.1; omega)
    exact (hE x ih).pr s.nt q r' ⟨r, s, h2, h3, rfl⟩ h4 h5 h6
  | scan j x r s b h1 h2 h3 h4 h5 h6 ih =>
    obtain ⟨E, hE⟩ := hd j (by obtain ⟨_, _, _, _, k⟩ := h1.sound; have := k.2.1; omega)
    exact (hE x ih).sc r s b h2 h3 h4 h5 h6
  | comp j x r y r' s h1 h2 h3 h4 h5 h6 h7 h8 ih1 ih2 =>
    obtain ⟨_, _, _, _, k⟩ := h1.sound
    obtain ⟨E, hE⟩ := hd j (by have := k.2.1; omega)
    by_cases e : x.frm = j
    · rw [e] at ih2
      have := (hE x ih1).ce r.lhs ⟨r, h2, h3, rfl⟩ e
      exact (hE y ih2).em r.lhs ⟨r', s, h5, h6, h8⟩ this
    · exact (hE x ih1).cm r.lhs y ⟨r, h2, h3, rfl⟩ (by have := k.1; omega) ih2 ⟨r', s, h5, h6, h8⟩
structure ChartOK (g : Gram) (w : List Nat) (S : List (List Item)) : Prop where
  n : S.length = w.length + 1
  nd : ∀ k, (gs S k).Nodup
  m : ∀ k x, x ∈ gs S k ↔ It g w k x
theorem chart_ok {g : Gram} {w : List Nat} {S : List (List Item)} (hc : CI g w S) (hi : Inits g S) (hd : Done g w S (w.length + 1)) : ChartOK g w S := ⟨hc.n, hc.nd, fun k x => ⟨hc.s k x, closed_all hi hd⟩⟩
structure At (g : Gram) (w : List Nat) (S : List (List Item)) (E : List Int) (j i : Nat) : Prop where
  ci : CI g w S
  ini : Inits g S
  don : Done g w S j
  es : ESound g w j E
  pd : ∀ x ∈ (gs S j).take i, Pd g w S E j x
theorem Done.mono {g : Gram} {w : List Nat} {S S' : List (List Item)} {j : Nat} (h : Done g w S j) (he : Ext S S') (hne : ∀ k, k < j → gs S' k = gs S k) : Done g w S' j := by
  intro k hk
  obtain ⟨E, hE⟩ := h k hk
  refine ⟨E, fun x hx => ?_⟩
  have hx' := hx
  rw [hne k hk] at hx'
  exact (hE x hx').mono he (fun i hi => hne i (by omega)) (fun a h => h) (fun a h1 h2 => (h2 h1).elim) hx
theorem At.step {g : Gram} {w : List Nat} {S S' : List (List Item)} {E E' : List Int} {j i : Nat} (h : At g w S E j i) (hi : i < (gs S j).length) (hs : StepP g w j (gs S j)[i] S E S' E') : At g w S' E' j (i + 1) := by
  have hle := hs.ext.le j
  refine ⟨hs.ci, fun q r h1 h2 => hs.ext.mem (h.ini q r h1 h2), h.don.mono hs.ext fun k hk => hs.ne k (by omega) (by omega), hs.es, fun x hx => ?_⟩
  have e : (gs S' j).take (i + 1) = (gs S j).take i ++ [(gs S j)[i]] := by rw [hs.ext.take (by omega), List.take_succ_eq_append_getElem hi]
  have hx2 := List.mem_of_mem_take hx
  rw [e, List.mem_append, List.mem_singleton] at hx
  rcases hx with hx | rfl
  · exact (h.pd x hx).mono hs.ext (fun i hi => hs.ne i (by omega) (by omega)) hs.ee hs.nw hx2
  · exact hs.pd
theorem At.next {g : Gram} {w : List Nat} {S : List (List Item)} {E : List Int} {j i : Nat} (h : At g w S E j i) (hi : (gs S j).length ≤ i) : At g w S [] (j + 1) 0 := by
  refine ⟨h.ci, h.ini, fun k hk => ?_, fun a ha => (by cases ha), fun x hx => (by simp at hx)⟩
  by_cases e : k = j
  · subst e
    have := h.pd
    rw [List.take_of_length_le hi] at this
    exact ⟨E, this⟩
  · exact h.don k (by omega)
structure CompP (g : Gram) (w : List Nat) (j : Nat) (x : Item) (A : Int) (S : List (List Item)) (S' : List (List Item)) : Prop where
  ext : Ext S S'
  ci : CI g w S'
  ne : ∀ k, k ≠ j → gs S' k = gs S k
  all : ∀ y ∈ gs S' x.frm, Wait g y A → adv y ∈ gs S' j
def insE (E : List Int) (a : Int) : List Int := if a ∈ E then E else E ++ [a]
theorem insE_mem {E : List Int} {a b : Int} : b ∈ insE E a ↔ b ∈ E ∨ b = a := by
  unfold insE
  split
  · rename_i h
    exact ⟨.inl, fun h' => h'.elim id fun e => e ▸ h⟩
  · simp
theorem wait_end {g : Gram} {x : Item} {A B : Int} (h : Wait g x A) (k : Endd g x B) : False := by
  obtain ⟨r, s, h1, h2, h3⟩ := h
  obtain ⟨r', k1, k2, k3⟩ := k
  obtain rfl : r = r' := Option.some.inj (h1.symm.trans k1)
  have := (List.getElem?_eq_some_iff.1 h2).1
  omega
theorem CompP.step {g : Gram} {w : List Nat} {j : Nat} {x : Item} {A : Int} {S S' : List (List Item)} {E : List Int} (h : CompP g w j x A S S') (he : Endd g x A) (hx : It g w j x) (hE : ESound g w j E) :
    StepP g w j x S E S' (if x.frm = j then insE E A else E) := by
  have uA : ∀ B, Endd g x B → B = A := fun B hB => by
    obtain ⟨r, h1, h2, h3⟩ := he
    obtain ⟨r', k1, k2, k3⟩ := hB
    obtain rfl : r = r' := Option.some.inj (h1.symm.trans k1)
    rw [← h3, ← k3]
  refine ⟨h.ext, h.ci, fun k h1 _ => h.ne k h1, fun a ha => ?_, fun a ha => ?_, fun a h1 h2 y hy hw => ?_, ⟨fun B q r' h1 => (wait_end h1 he).elim, fun r s b h1 h2 => ?_, fun B y h1 h2 h3 h4 => ?_, fun B h1 h2 => ?_, fun B h1 => (wait_end h1 he).elim⟩⟩
  · split
    · exact insE_mem.2 (.inl ha)
    · exact ha
  · split at ha
    · rename_i e
      rcases insE_mem.1 ha with h1 | rfl
      · exact hE a h1
      · exact ⟨x, hx, e, he⟩
    · exact hE a ha
  · split at h1
    · rename_i e
      rcases insE_mem.1 h1 with h3 | rfl
      · exact (h2 h3).elim
      · have := h.all y
        rw [e] at this
        exact this hy hw
    · exact (h2 h1).elim
  · exact (wait_end ⟨r, s, h1, h2, rfl⟩ he).elim
  · rw [uA B h1] at h4
    exact h.all y h3 h4
  · rw [if_pos h2, uA B h1]
    exact insE_mem.2 (.inr rfl)
end Go.Proofs.Ytafncpgiibikcaa

namespace Go.Proofs.Ytafncpgiibikcaa
set_option linter.unusedSimpArgs false
set_option linter.unusedVariables false
open Go.RowKit Am Ty

theorem push_one {v : Value} {l : List Int} {b : Int} {h hk : Heap} (G : Grow h hk v l.length (l.map i64) 3) (hp : h <+: hk) (hn : l.length ≤ 1000000) : ∃ p c h',
    (∀ (all : Array Oper) (o : Oper) (s : St) (x : Operand) (y : Nat), s.h = hk → wantedA all o s = some true → o.op = .call { callee := .builtin .append, args := #[x, .tmp y], argTypes := #[91, 91] } → ev s x = some v → fget s.fr y = .bsl [i64 b] 1 →
      One env all o s (.sl (.val (.slice p (l.length + 1) c))) h') ∧
    Grow h h' (.slice p (l.length + 1) c) (l ++ [b]).length ((l ++ [b]).map i64) 3 ∧ h <+: h' ∧ (∀ j o, isAt v j = false → hk[j]? = some o → h'[j]? = some o) ∧ ∀ x, isAt (.slice p (l.length + 1) c) x = true → isAt v x = true ∨ x = hk.length := by
  have hu : env.P.underlying 91 = some (.slice 3) := by kernel_rfl
  have ht : tinfo env.P 3 = _ := ti3
  have hl : (l ++ [b]).length = l.length + 1 := by simp
  have hm : (l ++ [b]).map i64 = l.map i64 ++ [i64 b] := by simp
  rw [hl, hm]
  have hi : ∀ (s : St) (y : Nat), fget s.fr y = .bsl [i64 b] 1 → itemsC s s.h 1 (.tmp y) = some ([i64 b], 1) := fun s y hy => by simp only [itemsC, hy]; rfl
  rcases G with ⟨h0, hc, rfl⟩ | ⟨id, ver, h1, rfl, h3⟩
  · have hl0 : l = [] := List.eq_nil_of_length_eq_zero h0
    subst hl0
    refine ⟨some ⟨hk.length, 0, some 0⟩, 1, hk ++ [HObj.arr [i64 b] 0 true 3], fun all o s x y e hw ho hx hy => ?_, .inr ⟨hk.length, 0, hp.length_le, rfl, get_push⟩, pre_push hp, fun j o _ h => get_of_push h, fun x hx => ?_⟩
    · subst e
      exact .app0 hw ho hu rfl ht (by decide) rfl hx (hi s y hy) (by decide) (by decide) (by decide)
    · simp only [isAt, beq_iff_eq] at hx
      exact .inr hx.symm
  · refine ⟨some ⟨id, 0, some (ver + 1)⟩, l.length + 1, hk.set id (HObj.arr (l.map i64 ++ [i64 b]) (ver + 1) true 3), fun all o s x y e hw ho hx hy => ?_, .inr ⟨id, ver + 1, h1, rfl, get_set_self h3⟩, pre_set hp h1, fun j o hj h => ?_, fun x hx => ?_⟩
    · subst e
      have := One.app (N := env) hw ho hu rfl ht (by decide) rfl hx h3 (by simp) (hi s y hy) (by simp only; omega) (by omega)
      rwa [List.take_of_length_le (by simp)] at this
    · simp only [isAt, beq_eq_false_iff_ne] at hj
      rw [get_set_ne hj]
      exact h
    · simp only [isAt] at hx ⊢
      exact .inl hx
theorem one_sto {all : Array Oper} {o : Oper} {s : St} {h h' : Heap} {t et : TypeId} {a x : Operand} {ti : TI} {id off ver : Nat} {cells vs cells' : List Value} {v : Value} {r : Res} (hh : s.h = h) (hw : wantedA all o s = some true) (ho : o.op = .store t a x) (ht : tinfo env.P t = some ti) (ha : ev s a = some (.pointer (some ⟨id, off, some ver⟩))) (hid : h[id]? = some (.arr cells ver true et)) (hx : ev s x = some v) (hv : vcells ti.size v = some vs)
    (hq : wrC cells off vs = some cells') (hd : o.dst = none) (he : h' = h.set id (HObj.arr cells' ver true et)) : One env all o s r h' := by
  subst hh he
  exact .stoH hw ho ht ha hid hx hv hq hd
structure NL (h hk : Heap) (io : Nat) (us : List Value) (ls : List (List Int)) : Prop where
  n : us.length = ls.length
  g : ∀ (i : Nat) (u : Value) (l : List Int), us[i]? = some u → ls[i]? = some l → Grow h hk u l.length (l.map i64) 3
  d : ∀ (i j : Nat) (u w : Value) (x : Nat), i ≠ j → us[i]? = some u → us[j]? = some w → isAt u x = true → isAt w x = false
  o : ∀ (i : Nat) (u : Value), us[i]? = some u → isAt u io = false
theorem NL.put {h hk h' : Heap} {io i : Nat} {us : List Value} {ls : List (List Int)} {v v' : Value} {l l' : List Int} {vs : List Value} (H : NL h hk io us ls) (hi : us[i]? = some v) (hl : ls[i]? = some l) (hio : io < hk.length)
    (G : Grow h h' v' l'.length (l'.map i64) 3) (hp : ∀ j o, isAt v j = false → hk[j]? = some o → h'[j]? = some o) (hx : ∀ x, isAt v' x = true → isAt v x = true ∨ x = hk.length) :
    NL h (h'.set io (.arr vs 0 true 91)) io (us.set i v') (ls.set i l') := by
  have hiu : i < us.length := (List.getElem?_eq_some_iff.1 hi).1
  have hil : i < ls.length := (List.getElem?_eq_some_iff.1 hl).1
  have at' : ∀ (j : Nat) (u : Value), us[j]? = some u → ∀ x, isAt u x = true → x < hk.length ∧ x ≠ io := fun j u hj x hu => by
    obtain ⟨l, hl⟩ : ∃ l, ls[j]? = some l := ⟨ls[j]'(by rw [← H.n]; exact (List.getElem?_eq_some_iff.1 hj).1), by simp⟩
    have h1 := (H.g j u l hj hl).lt hu
    refine ⟨h1.2, ?_⟩
    rintro rfl
    rw [H.o j u hj] at hu
    cases hu
  have v'io : isAt v' io = false := by
    cases hb : isAt v' io with
    | false => rfl
    | true =>
      rcases hx io hb with h1 | h1
      · exact ((at' i v hi io h1).2 rfl).elim
      · omega
  have setne : ∀ (u : Value), isAt u io = false → ∀ j o, isAt u j = true → h'[j]? = some o → (h'.set io (.arr vs 0 true 91))[j]? = some o := fun u hu j o hj ho => by
    rw [get_set_ne (by rintro rfl; rw [hu] at hj; cases hj)]
    exact ho
  refine ⟨by simp [H.n], fun j u q hj hq => ?_, fun j k u w x hjk hj hk2 hu => ?_, fun j u hj => ?_⟩
  · rw [List.getElem?_set] at hj hq
    by_cases e : i = j
    · subst e
      rw [if_pos rfl, if_pos hiu] at hj
      rw [if_pos rfl, if_pos hil] at hq
      cases hj; cases hq
      exact G.mono (setne _ v'io)
    · rw [if_neg e] at hj hq
      refine (H.g j u q hj hq).mono fun x o hx1 ho => ?_
      exact setne u (H.o j u hj) x o hx1 (hp x o (H.d j i u v x (Ne.symm e) hj hi hx1) ho)
  · rw [List.getElem?_set] at hj hk2
    by_cases e : i = j
    · subst e
      rw [if_pos rfl, if_pos hiu] at hj
      rw [if_neg hjk] at hk2
      cases hj
      rcases hx x hu with h1 | h1
      · exact H.d i k v w x hjk hi hk2 h1
      · cases hb : isAt w x with
        | false => rfl
        | true => have := (at' k w hk2 x hb).1; omega
    · rw [if_neg e] at hj
      by_cases e2 : i = k
      · subst e2
        rw [if_pos rfl, if_pos hiu] at hk2
        cases hk2
        cases hb : isAt v' x with
        | false => rfl
        | true =>
          rcases hx x hb with h1 | h1
          · rw [H.d j i u v x hjk hj hi hu] at h1
            cases h1
          · have := (at' j u hj x hu).1; omega
      · rw [if_neg e2] at hk2
        exact H.d j k u w x hjk hj hk2 hu
  · rw [List.getElem?_set] at hj
    by_cases e : i = j
    · subst e
      rw [if_pos rfl, if_pos hiu] at hj
      cases hj
      exact v'io
    · rw [if_neg e] at hj
      exact H.o j u hj
theorem wrV {us : List Value} {i : Nat} {u : Value} (hi : i < us.length) : wrC us i [u] = some (us.set i u) := by
  have := wr_map (f := id) (l := us) (x := u) hi
  simpa using this
def lget (ls : List (List Int)) (i : Int) : List Int := ls.getD i.toNat []
theorem lget_set {ls : List (List Int)} {i j : Int} {l : List Int} (h0 : 0 ≤ i) (h1 : i < ls.length) (j0 : 0 ≤ j) : lget (ls.set i.toNat l) j = if i = j then l else lget ls j := by
  unfold lget
  simp only [List.getD_eq_getElem?_getD, List.getElem?_set]
  by_cases h : i = j
  · subst h
    rw [if_pos rfl, if_pos rfl, if_pos (by omega)]
    rfl
  · rw [if_neg (by omega), if_neg h]
theorem lget_rep {n : Nat} {i : Int} : lget (List.replicate n []) i = [] := by
  unfold lget
  rw [List.getD_eq_getElem?_getD, List.getElem?_replicate]
  split <;> rfl
theorem lget_get {ls : List (List Int)} {i : Int} (h0 : 0 ≤ i) (h1 : i < ls.length) : ls[i.toNat]? = some (lget ls i) := by
  unfold lget
  rw [List.getD_eq_getElem?_getD, List.getElem?_eq_getElem (by omega : i.toNat < ls.length)]
  rfl
structure SG where
  hk : Heap
  us : List Value
  ls : List (List Int)
end Go.Proofs.Ytafncpgiibikcaa

namespace Go.Proofs.Ytafncpgiibikcaa
set_option linter.unusedSimpArgs false
set_option linter.unusedVariables false
open Go.RowKit Am Ty

theorem One.ow {all : Array Oper} {o : Oper} {rest : List Oper} {s : St} {r : Res} {h' : Heap} {K : St → Prop} (k : One env all o s r h') (h : OW env all rest (updR s o.dst r h') K) : OW env all (o :: rest) s K := by
  unfold OW at h ⊢
  obtain ⟨s2, h1, h2⟩ := h
  refine ⟨s2, ?_, h2⟩
  cases k with
  | skip hw => exact .opSkip hw (by rw [← putO_upd] at h1; exact h1)
  | val hw hv => exact .opVal hw hv (by rw [← putO_upd] at h1; exact h1)
  | eph hw hd he hne => exact .opEph hw hd he hne (by rw [hd] at h1; exact h1)
  | bsl hw hd hb => exact .opBsl hw hd hb (by rw [hd] at h1; exact h1)
  | box hw hd hb => exact .opBox hw hd hb (by rw [hd] at h1; exact h1)
  | mkP hw hd hb => exact .opMkP hw hd hb (by rw [hd] at h1; exact h1)
  | mapP hw hd ho hu => exact .opMapP hw hd ho hu (by rw [hd] at h1; exact h1)
  | boxH hw hb => exact .opBoxH hw hb (by rw [← putO_upd] at h1; exact h1)
  | bslH hw hb => exact .opBslH hw hb (by rw [← putO_upd] at h1; exact h1)
  | mk hw hb => exact .opMk hw hb (by rw [← putO_upd] at h1; exact h1)
  | stoH hw ho ht ha hid hx hv hq hd => exact .opStoH hw ho ht ha hid hx hv hq hd (by rw [hd] at h1; exact h1)
  | app0 hw ho hu h2 ht h3 h4 hx hi h5 h6 h7 => exact .opApp0 hw ho hu h2 ht h3 h4 hx hi h5 h6 h7 (by rw [← putO_upd] at h1; exact h1)
  | app hw ho hu h2 ht h3 h4 hx hid h8 hi h5 h6 => exact .opApp hw ho hu h2 ht h3 h4 hx hid h8 hi h5 h6 (by rw [← putO_upd] at h1; exact h1)
  | call hw ho hc ha hf hn hb he => exact .opCall hw ho hc ha hf hn hb he (by rw [← putO_upd] at h1; exact h1)
  | map hw ho hu => exact .opMap hw ho hu (by rw [← putO_upd] at h1; exact h1)
  | upd hw ho hu hkd hx hid hk hv hkk hmk hd => exact .opUpd hw ho hu hkd hx hid hk hv hkk hmk hd (by rw [hd] at h1; exact h1)
theorem push_any' {t e : TypeId} {ti : TI} {v : Value} {n : Nat} {cells cs : List Value} {h hk : Heap} (hu : env.P.underlying t = some (.slice e)) (ht : tinfo env.P e = some ti) (hs0 : 0 < ti.size) (hz : (ti.zero.map fun z => z.cells.size) = some ti.size)
    (G : Grow h hk v n cells e) (hp : h <+: hk) (hl : cells.length = n * ti.size) (hc : cs.length = ti.size) (hb : (n + 1) * ti.bytes ≤ 140737488355328) (hn : n + 1 ≤ 140737488355328) : ∃ p c h',
    (∀ (all : Array Oper) (o : Oper) (s : St) (x : Operand) (y : Nat), s.h = hk → wantedA all o s = some true → o.op = .call { callee := .builtin .append, args := #[x, .tmp y], argTypes := #[t, t] } → ev s x = some v → fget s.fr y = .bsl cs 1 →
      One env all o s (.sl (.val (.slice p (n + 1) c))) h') ∧
    Grow h h' (.slice p (n + 1) c) (n + 1) (cells ++ cs) e ∧ h <+: h' ∧ (∀ j o, isAt v j = false → hk[j]? = some o → h'[j]? = some o) ∧ (∀ x, isAt (.slice p (n + 1) c) x = true → isAt v x = true ∨ x = hk.length) ∧ hk.length ≤ h'.length := by
  have hi : ∀ (s : St) (y : Nat), fget s.fr y = .bsl cs 1 → itemsC s s.h ti.size (.tmp y) = some (cs, 1) := fun s y hy => by simp only [itemsC, hy, hc, Nat.one_mul, if_true]
  rcases G with ⟨rfl, rfl, rfl⟩ | ⟨id, ver, h1, rfl, h3⟩
  · refine ⟨some ⟨hk.length, 0, some 0⟩, 1, hk ++ [HObj.arr cs 0 true e], fun all o s x y e hw ho hx hy => ?_, .inr ⟨hk.length, 0, hp.length_le, rfl, get_push⟩, pre_push hp, fun j o _ h => get_of_push h, fun x hx => ?_, by simp⟩
    · subst e
      exact .app0 hw ho hu rfl ht hs0 hz hx (hi s y hy) (by decide) (by simpa using hb) (by decide)
    · simp only [isAt, beq_iff_eq] at hx
      exact .inr hx.symm
  · refine ⟨some ⟨id, 0, some (ver + 1)⟩, n + 1, hk.set id (HObj.arr (cells ++ cs) (ver + 1) true e), fun all o s x y e hw ho hx hy => ?_, .inr ⟨id, ver + 1, h1, rfl, get_set_self h3⟩, pre_set hp h1, fun j o hj h => ?_, fun x hx => ?_, by simp⟩
    · subst e
      have := One.app (N := env) hw ho hu rfl ht hs0 hz hx h3 (by omega) (hi s y hy) hb hn
      rwa [List.take_of_length_le (by omega)] at this
    · simp only [isAt, beq_eq_false_iff_ne] at hj
      rw [get_set_ne hj]
      exact h
    · simp only [isAt] at hx ⊢
      exact .inl hx
def isAtS : Value → Nat → Bool
  | .slice (some ⟨b, _, some _⟩) _ _, j => b == j
  | _, _ => false
theorem SlR.keep {h h' : Heap} {v : Value} {n b : Nat} {cells : List Value} {et : TypeId} (hs : SlR h v n cells et b) (hp : ∀ j o, isAtS v j = true → h[j]? = some o → h'[j]? = some o) : SlR h' v n cells et b := by
  refine ⟨hs.1, ?_⟩
  rcases hs.2 with h1 | ⟨id, ver, own, c, rfl, h2⟩
  · exact .inl h1
  · exact .inr ⟨id, ver, own, c, rfl, hp _ _ (by simp [isAtS]) h2⟩
theorem SlR.lt {h : Heap} {v : Value} {n b : Nat} {cells : List Value} {et : TypeId} (hs : SlR h v n cells et b) {j : Nat} (hj : isAt v j = true) : j < h.length ∨ n = 0 := by
  rcases hs.2 with ⟨_, h1, _⟩ | ⟨id, ver, own, c, rfl, h2⟩
  · exact .inr h1
  · simp only [isAt, beq_iff_eq] at hj
    subst hj
    exact .inl (lt_of_get h2)
theorem SlR.keep' {h h' : Heap} {v : Value} {n b : Nat} {cells : List Value} {et : TypeId} (hs : SlR h v n cells et b) (hp : ∀ j o, j < h.length → isAtS v j = true → h[j]? = some o → h'[j]? = some o) : SlR h' v n cells et b := by
  refine ⟨hs.1, ?_⟩
  rcases hs.2 with h1 | ⟨id, ver, own, c, rfl, h2⟩
  · exact .inl h1
  · exact .inr ⟨id, ver, own, c, rfl, hp _ _ (lt_of_get h2) (by simp [isAtS]) h2⟩
structure BR (h hk : Heap) (u : Value) (l : List Rule) (us : List Value) : Prop where
  p : h <+: hk
  n : us.length = l.length
  g : Grow h hk u l.length ((l.zip us).flatMap rowf) 46
  r : ∀ (i : Nat) (r : Rule) (x : Value), l[i]? = some r → us[i]? = some x → RdSyms hk x r.rhs ∧ ∀ j, j < hk.length → isAt u j = true → isAtS x j = false
theorem BR.nil {h hk : Heap} (hp : h <+: hk) : BR h hk nilS [] [] := ⟨hp, rfl, Grow.nil, fun i r x h => by simp at h⟩
theorem BR.form {h hk : Heap} {u : Value} {l : List Rule} {us : List Value} (b : BR h hk u l us) : ∃ p c, u = .slice p l.length c := b.g.form
theorem BR.rd {h hk : Heap} {u : Value} {l : List Rule} {us : List Value} (b : BR h hk u l us) (hl : l.length * 32 ≤ 140737488355328) : RdRules hk u l :=
  ⟨us, b.n, b.g.sl hl, fun i r x h1 h2 => (b.r i r x h1 h2).1⟩
theorem BR.keep {h hk h' : Heap} {u : Value} {l : List Rule} {us : List Value} (b : BR h hk u l us) (hp : hk <+: h') : BR h h' u l us := by
  refine ⟨b.p.trans hp, b.n, b.g.mono fun j o _ ho => getElem?_prefix hp ho, fun i r x h1 h2 => ⟨(b.r i r x h1 h2).1.mono hp, fun j _ hj => ?_⟩⟩
  have hj2 := (b.g.lt hj).2
  exact (b.r i r x h1 h2).2 j hj2 hj
theorem BR.set {h hk : Heap} {u : Value} {l : List Rule} {us : List Value} {i : Nat} {X : HObj} (b : BR h hk u l us) (hi : h.length ≤ i) (hu : isAt u i = false) (hx : ∀ x ∈ us, isAtS x i = false) : BR h (hk.set i X) u l us := by
  refine ⟨pre_set b.p hi, b.n, b.g.mono fun j o hj ho => ?_, fun k r x h1 h2 => ⟨SlR.keep (b.r k r x h1 h2).1 fun j o hj ho => ?_, fun j hj => ?_⟩⟩
  · rw [get_set_ne (by rintro rfl; rw [hu] at hj; cases hj)]
    exact ho
  · rw [get_set_ne (by rintro rfl; rw [hx x (List.mem_of_getElem? h2)] at hj; cases hj)]
    exact ho
  · rw [List.length_set] at hj
    exact (b.r k r x h1 h2).2 j hj
theorem BR.push' {h hk : Heap} {u : Value} {l : List Rule} {us : List Value} {r : Rule} {v : Value} (b : BR h hk u l us) (hv : RdSyms hk v r.rhs) (hv2 : ∀ j, j < hk.length → isAt u j = true → isAtS v j = false) (hv3 : isAtS v hk.length = false) (hx3 : ∀ x ∈ us, isAtS x hk.length = false) (hl : (l.length + 1) * 32 ≤ 140737488355328) : ∃ p c h',
    (∀ (all : Array Oper) (o : Oper) (s : St) (x : Operand) (y : Nat), s.h = hk → wantedA all o s = some true → o.op = .call { callee := .builtin .append, args := #[x, .tmp y], argTypes := #[22, 22] } → ev s x = some u → fget s.fr y = .bsl [i64 r.lhs, v] 1 →
      One env all o s (.sl (.val (.slice p (l.length + 1) c))) h') ∧
    BR h h' (.slice p (l.length + 1) c) (l ++ [r]) (us ++ [v]) ∧ (∀ j o, isAt u j = false → hk[j]? = some o → h'[j]? = some o) ∧ (∀ x, isAt (.slice p (l.length + 1) c) x = true → isAt u x = true ∨ x = hk.length) ∧ hk.length ≤ h'.length := by
  obtain ⟨p, c, h', h1, h2, h3, h4, h5, h6⟩ := push_any' (cs := [i64 r.lhs, v]) (t := 22) (by kernel_rfl) ti46 (by decide) rfl b.g b.p (rows_len b.n) rfl (by simp only; omega) (by omega)
  refine ⟨p, c, h', h1, ⟨h3, by simp [b.n], ?_, fun i q x k1 k2 => ?_⟩, h4, h5, h6⟩
  · rw [zip_snoc b.n, List.flatMap_append, List.length_append]
    exact h2
  · have key : ∀ (x : Value) (q : Rule), RdSyms hk x q.rhs → (∀ j, j < hk.length → isAt u j = true → isAtS x j = false) → isAtS x hk.length = false → RdSyms h' x q.rhs ∧ ∀ j, j < h'.length → isAt (.slice p (l.length + 1) c) j = true → isAtS x j = false := fun x q e1 e2 e3 => by
      refine ⟨SlR.keep' e1 fun j o hj hx ho => h4 j o ?_ ho, fun j hj hx => ?_⟩
      · cases hb : isAt u j with
        | false => rfl
        | true => rw [e2 j hj hb] at hx; cases hx
      · rcases h5 j hx with hh | rfl
        · exact e2 j (b.g.lt hh).2 hh
        · exact e3
    rcases get_snoc k1 with k1' | ⟨i1, rfl⟩
    · rcases get_snoc k2 with k2' | ⟨i2, _⟩
      · exact key x q (b.r i q x k1' k2').1 (b.r i q x k1' k2').2 (hx3 x (List.mem_of_getElem? k2'))
      · have := (List.getElem?_eq_some_iff.1 k1').1
        have := b.n
        omega
    · rcases get_snoc k2 with k2' | ⟨_, rfl⟩
      · have := (List.getElem?_eq_some_iff.1 k2').1
        have := b.n
        omega
      · exact key x q hv hv2 hv3
theorem BR.push {h hk : Heap} {u : Value} {l : List Rule} {us : List Value} {r : Rule} {v : Value} (b : BR h hk u l us) (hv : RdSyms hk v r.rhs) (hv2 : ∀ j, j < hk.length → isAt u j = true → isAtS v j = false) (hv3 : isAtS v hk.length = false) (hx3 : ∀ x ∈ us, isAtS x hk.length = false) (hl : (l.length + 1) * 32 ≤ 140737488355328) : ∃ p c h',
    (∀ (all : Array Oper) (o : Oper) (s : St) (x : Operand) (y : Nat), s.h = hk → wantedA all o s = some true → o.op = .call { callee := .builtin .append, args := #[x, .tmp y], argTypes := #[22, 22] } → ev s x = some u → fget s.fr y = .bsl [i64 r.lhs, v] 1 →
      One env all o s (.sl (.val (.slice p (l.length + 1) c))) h') ∧
    BR h h' (.slice p (l.length + 1) c) (l ++ [r]) (us ++ [v]) ∧ (∀ j o, isAt u j = false → hk[j]? = some o → h'[j]? = some o) ∧ ∀ x, isAt (.slice p (l.length + 1) c) x = true → isAt u x = true ∨ x = hk.length := by
  obtain ⟨p, c, h', h1, h2, h3, h4, _⟩ := b.push' hv hv2 hv3 hx3 hl
  exact ⟨p, c, h', h1, h2, h3, h4⟩
theorem owv {all : Array Oper} {o : Oper} {rest : List Oper} {s : St} {v : Value} {h' : Heap} {K : St → Prop} (k : One env all o s (.sl (.val v)) h') (h : OW env all rest ({ s with h := h' }.putO o.dst (.val v)) K) : OW env all (o :: rest) s K := Go.Proofs.Ytafncpgiibikcaa.One.ow k (by rw [← putO_upd]; exact h)
end Go.Proofs.Ytafncpgiibikcaa

namespace Go.Proofs.Ytafncpgiibikcaa.Am
set_option linter.unusedSimpArgs false
set_option linter.unusedVariables false
open Go.RowKit

def apartB (ds : List Nat) : Fr → Bool
  | [] => true
  | (k, _) :: r => !ds.contains k && apartB ds r
theorem baseFr_id {ds : List Nat} : ∀ {fr : Fr}, apartB ds fr = true → baseFr ds fr = fr
  | [], _ => rfl
  | (k, v) :: r, h => by
    unfold apartB at h
    rw [Bool.and_eq_true, Bool.not_eq_true'] at h
    unfold baseFr
    rw [h.1, baseFr_id h.2]
    rfl
section
variable {N : Env} {ops : Array Oper}
theorem cw_ordA {id : Nat} {fr : Fr} {h : Heap} {Q : AX → St → Prop} (L : List (List Nat)) (act : List Nat) (hs : List Heap) (resL : List Res) (frF : Fr) (hm : N.P.follows .mixedOrders = true) (hc : ordB ops L act = true) (ha : act.all (fun a => decide (a < ops.size)) = true) (hb : apartB (dstsOf ops) fr = true)
    (hS : StepsA N ops L act resL (h :: hs) fr 0 ops.toList) (ht : tgtB ops resL = true) (hF : FinOK ops resL fr frF) (k : Q .normal ⟨frF, [], hpF (h :: hs) act.length⟩) : CW N (.region id ops true) ⟨fr, [], h⟩ Q :=
  cw_orderA L act (h :: hs) resL fr frF _ hm hc ha ht rfl rfl (baseFr_id hb) hS hF k
theorem cw_ord0 {id : Nat} {fr : Fr} {h : Heap} {Q : AX → St → Prop} (L : List (List Nat)) (resL : List Res) (frF : Fr) (hm : N.P.follows .mixedOrders = true) (hc : ordB ops L [] = true) (hb : apartB (dstsOf ops) fr = true)
    (hS : Steps0 N ops L resL fr h 0 ops.toList) (ht : tgtB ops resL = true) (hF : FinOK ops resL fr frF) (k : Q .normal ⟨frF, [], h⟩) : CW N (.region id ops true) ⟨fr, [], h⟩ Q :=
  cw_order0 L resL fr frF hm hc ht rfl (baseFr_id hb) hS hF k
end
end Go.Proofs.Ytafncpgiibikcaa.Am

namespace Go.Proofs.Ytafncpgiibikcaa.Am
set_option linter.unusedSimpArgs false
set_option linter.unusedVariables false
open Go.RowKit

def cutP (N : Env) : Judg → Prop
  | .ops all (o :: r) s sF => ∃ s', Ev N (.ops all [o] s s') ∧ Ev N (.ops all r s' sF)
  | _ => True
theorem Ev.cutJ {N : Env} {j : Judg} (h : Ev N j) : cutP N j := by
  induction h
  case opSkip hw h _ => exact ⟨_, .opSkip hw (.nil _ _), h⟩
  case opVal hw hv h _ => exact ⟨_, .opVal hw hv (.nil _ _), h⟩
  case opEph hw hd he hne h _ => exact ⟨_, .opEph hw hd he hne (.nil _ _), h⟩
  case opSpec hg hv hd h _ => exact ⟨_, .opSpec hg hv hd (.nil _ _), h⟩
  case opSpecE hg he hd hne h _ => exact ⟨_, .opSpecE hg he hd hne (.nil _ _), h⟩
  case opBox hw hd hb h _ => exact ⟨_, .opBox hw hd hb (.nil _ _), h⟩
  case opBsl hw hd hb h _ => exact ⟨_, .opBsl hw hd hb (.nil _ _), h⟩
  case opBoxH hw hb h _ => exact ⟨_, .opBoxH hw hb (.nil _ _), h⟩
  case opBslH hw hb h _ => exact ⟨_, .opBslH hw hb (.nil _ _), h⟩
  case opMk hw hb h _ => exact ⟨_, .opMk hw hb (.nil _ _), h⟩
  case opSto hw ho ht hp hb hx hv hq hd h _ => exact ⟨_, .opSto hw ho ht hp hb hx hv hq hd (.nil _ _), h⟩
  case opStoH hw ho ht ha hid hx hv hq hd h _ => exact ⟨_, .opStoH hw ho ht ha hid hx hv hq hd (.nil _ _), h⟩
  case opFrz hw ho ht he hx hob hk h _ => exact ⟨_, .opFrz hw ho ht he hx hob hk (.nil _ _), h⟩
  case opMkP hw hd hb h _ => exact ⟨_, .opMkP hw hd hb (.nil _ _), h⟩
  case opMapP hw hd ho hu h _ => exact ⟨_, .opMapP hw hd ho hu (.nil _ _), h⟩
  case opPub hs h ih => obtain ⟨s', k1, k2⟩ := ih; exact ⟨s', .opPub hs k1, k2⟩
  case weakO hf hh he h ih => obtain ⟨s', k1, k2⟩ := ih; exact ⟨s', .weakO hf hh he k1, k2⟩
  case opMap hw ho hu h _ => exact ⟨_, .opMap hw ho hu (.nil _ _), h⟩
  case opUpd hw ho hu hkd hx hid hk hv hkk hmk hd h _ => exact ⟨_, .opUpd hw ho hu hkd hx hid hk hv hkk hmk hd (.nil _ _), h⟩
  case opApp0 hw ho hu h2 ht h3 h4 hx hi h5 h6 h7 h _ => exact ⟨_, .opApp0 hw ho hu h2 ht h3 h4 hx hi h5 h6 h7 (.nil _ _), h⟩
  case opApp hw ho hu h2 ht h3 h4 hx hid h8 hi h5 h6 h _ => exact ⟨_, .opApp hw ho hu h2 ht h3 h4 hx hid h8 hi h5 h6 (.nil _ _), h⟩
  case opAppZ hw ho hu h2 ht hx hy h _ => exact ⟨_, .opAppZ hw ho hu h2 ht hx hy (.nil _ _), h⟩
  case opCall hw ho hc ha hf hn hb he h _ _ => exact ⟨_, .opCall hw ho hc ha hf hn hb he (.nil _ _), h⟩
  all_goals trivial
theorem Ev.cut {N : Env} {all : Array Oper} {o : Oper} {r : List Oper} {s sF : St} (h : Ev N (.ops all (o :: r) s sF)) : ∃ s', Ev N (.ops all [o] s s') ∧ Ev N (.ops all r s' sF) := h.cutJ
theorem Ev.opsNil {N : Env} {all : Array Oper} {s sF : St} (h : Ev N (.ops all [] s sF)) : sF = s := by cases h; rfl

def tailB (ops : Array Oper) (L : List (List Nat)) (n : Nat) : Bool := decide (n < ops.size) && (List.range ops.size).all fun i => decide (i < n) || (List.range i).all fun j => (ancs L i).contains j
section
variable {N : Env} {ops : Array Oper} {L : List (List Nat)} {act : List Nat} {s0 sF : St} {res : Nat → Res} {Hs : Nat → Heap} {n : Nat}
def TInv (N : Env) (ops : Array Oper) (act : List Nat) (s0 : St) (res : Nat → Res) (Hs : Nat → Heap) (n : Nat) (sF : St) (S : Array Bool) (t : St) : Prop :=
  (OInv N ops act s0 res Hs S t ∧ ∀ j, n ≤ j → S.getD j false = false) ∨
  (S.size = ops.size ∧ ∃ m, n < m ∧ m ≤ ops.size ∧ (∀ j, j < ops.size → (S.getD j false = true ↔ j < m)) ∧ Ev N (.ops ops (ops.toList.drop m) t sF))
theorem TInv.step (C : Cert ops L act) (hn : tailB ops L n = true) (hT : ∀ j sl off, res j = .ep sl off → ∀ i, dstAt ops i ≠ some sl)
    (hstep : ∀ i o k, i < n → ops[i]? = some o → k ≤ act.length → stageB L act i k = true → ∃ V, View ops L s0 res i V ∧ V.h = Hs k ∧ One N ops o V (res i) (Hs (if i ∈ act then k + 1 else k)))
    (hact : ∀ a ∈ act, a < n) {frP : Fr} (hF : ∀ p ∈ frP, ((∀ j, dstAt ops j ≠ some p.1) ∧ fget s0.fr p.1 = p.2) ∨ ∃ j, j < n ∧ dstAt ops j = some p.1 ∧ res j = .sl p.2)
    (hE : Ev N (.ops ops (ops.toList.drop n) ⟨frP, [], Hs act.length⟩ sF))
    {S : Array Bool} {t : St} {i : Nat} {o : Oper} (I : TInv N ops act s0 res Hs n sF S t) (hi : i ∈ Region.ready .any ops S) (ho : ops[i]? = some o) :
    ∃ s', Ev N (.ops ops [o] t s') ∧ TInv N ops act s0 res Hs n sF (S.setIfInBounds i true) s' := by
  unfold tailB at hn
  rw [Bool.and_eq_true, decide_eq_true_eq, List.all_eq_true] at hn
  obtain ⟨hns, htl⟩ := hn
  have htl' : ∀ i, i < ops.size → n ≤ i → ∀ j, j < i → j ∈ ancs L i := fun i hi hni j hj => by
    have := htl i (List.mem_range.2 hi)
    rw [Bool.or_eq_true, decide_eq_true_eq] at this
    rcases this with h | h
    · omega
    · rw [List.all_eq_true] at h
      exact List.contains_iff_mem.1 (h j (List.mem_range.2 hj))
  obtain ⟨hun, oi, hoi, hall⟩ := mem_ready.1 hi
  obtain rfl : oi = o := Option.some.inj (hoi.symm.trans ho)
  have hlt : i < ops.size := (Array.getElem?_eq_some_iff.1 ho).1
  have hnot : S.getD i false = false := getD_both hun
  have hr : ∀ o, ops[i]? = some o → ∀ e ∈ o.after, Region.binds .any e = true → S.getD e.on false = true := fun o' ho' e he hb => by
    obtain rfl : oi = o' := Option.some.inj (ho.symm.trans ho')
    exact hall e he hb
  have hdrop : ∀ m, ops[m]? = some oi → ops.toList.drop m = oi :: ops.toList.drop (m + 1) := fun m hm => by
    have h1 : m < ops.toList.length := by simpa using (Array.getElem?_eq_some_iff.1 hm).1
    rw [List.drop_eq_getElem_cons h1]
    congr 1
    have := (Array.getElem?_eq_some_iff.1 hm).2
    simpa using this
  rcases I with ⟨I, hlow⟩ | ⟨hsz, m, hm1, hm2, hS, hEv⟩
  · by_cases hin : i < n
    · obtain ⟨s', k1, k2⟩ := I.step C hT (fun o k => hstep i o k hin) hi ho
      refine ⟨s', k1, .inl ⟨k2, fun j hj => ?_⟩⟩
      cases hb : (S.setIfInBounds i true).getD j false with
      | false => rfl
      | true =>
        rcases (getD_set_ite (by rw [I.size]; exact hlt)).1 hb with rfl | h
        · omega
        · rw [hlow j hj] at h; cases h
    · have hanc : ∀ j, j < i → S.getD j false = true := fun j hj => anc_in C I.size I.closed i j hlt hr (htl' i hlt (by omega) j hj)
      have hin' : i = n := by
        rcases Nat.lt_or_ge n i with h | h
        · have := hanc n h
          rw [hlow n (Nat.le_refl _)] at this
          cases this
        · omega
      subst hin'
      have hsub : SubF frP t.fr := fun p hp => by
        rcases hF p hp with ⟨h1, h2⟩ | ⟨j, h0, h1, h2⟩
        · exact (I.out p.1 h1).1.trans h2
        · exact (I.gotS j p.1 p.2 h1 (hanc j h0) h2).1
      have hh : Hs act.length = t.h := by
        obtain ⟨k, hk, hh, hpre⟩ := I.pre
        have : k = act.length := by
          rcases Nat.lt_or_ge k act.length with h | h
          · have := (hpre k h).1 (hanc _ (hact _ (by simp [h])))
            omega
          · omega
        rw [hh, this]
      rw [hdrop i ho] at hE
      obtain ⟨s', k1, k2⟩ := Ev.cut (.weakO (s0 := ⟨frP, [], Hs act.length⟩) hsub hh rfl hE)
      refine ⟨s', k1, .inr ⟨by simp [I.size], i + 1, by omega, by omega, fun j hj => ?_, k2⟩⟩
      rw [getD_set_ite (by rw [I.size]; exact hlt)]
      constructor
      · rintro (rfl | h)
        · omega
        · rcases Nat.lt_or_ge j i with h2 | h2
          · omega
          · rw [hlow j h2] at h; cases h
      · intro h
        rcases Nat.lt_or_ge j i with h2 | h2
        · exact .inr (hanc j h2)
        · exact .inl (by omega)
  · have him : m ≤ i := by
      rcases Nat.lt_or_ge i m with h | h
      · have := (hS i hlt).2 h
        rw [hnot] at this
        cases this
      · exact h
    have hcl : ∀ j o, ops[j]? = some o → S.getD j false = true → ∀ e ∈ o.after, Region.binds .any e = true → S.getD e.on false = true := fun j o hj hl e he hb => by
      have h1 := C.low j o hj e he hb
      have h2 := (hS j (Array.getElem?_eq_some_iff.1 hj).1).1 hl
      exact (hS e.on (by omega)).2 (by omega)
    have hie : i = m := by
      rcases Nat.lt_or_ge m i with h | h
      · have := anc_in C hsz hcl i m hlt hr (htl' i hlt (by omega) m h)
        have := (hS m (by omega)).1 this
        omega
      · omega
    subst hie
    rw [hdrop i ho] at hEv
    obtain ⟨s', k1, k2⟩ := hEv.cut
    refine ⟨s', k1, .inr ⟨by simp [hsz], i + 1, by omega, by omega, fun j hj => ?_, k2⟩⟩
    rw [getD_set_ite (by rw [hsz]; exact hlt), hS j hj]
    omega
theorem ev_orderT {id : Nat} {frP frF : Fr} (hFF : SubF frF sF.fr) (hm : N.P.follows .mixedOrders = true) (C : Cert ops L act) (hn : tailB ops L n = true) (hT : ∀ j sl off, res j = .ep sl off → ∀ i, dstAt ops i ≠ some sl)
    (hstep : ∀ i o k, i < n → ops[i]? = some o → k ≤ act.length → stageB L act i k = true → ∃ V, View ops L s0 res i V ∧ V.h = Hs k ∧ One N ops o V (res i) (Hs (if i ∈ act then k + 1 else k)))
    (hact : ∀ a ∈ act, a < n) (h0 : s0.h = Hs 0) (hF : ∀ p ∈ frP, ((∀ j, dstAt ops j ≠ some p.1) ∧ fget s0.fr p.1 = p.2) ∨ ∃ j, j < n ∧ dstAt ops j = some p.1 ∧ res j = .sl p.2)
    (hE : Ev N (.ops ops (ops.toList.drop n) ⟨frP, [], Hs act.length⟩ sF)) :
    Ev N (.code (.region id ops true) s0 .normal ⟨frF, [], sF.h⟩) := by
  classical
  have key := fun (S : Array Bool) (t : St) (i : Nat) (o : Oper) (I : TInv N ops act s0 res Hs n sF S t) (hi : i ∈ Region.ready .any ops S) (ho : ops[i]? = some o) => I.step C hn hT hstep hact hF hE hi ho
  refine .regionO (TInv N ops act s0 res Hs n sF) (fun S t i => match ops[i]? with
    | some o => if h : ∃ s', Ev N (.ops ops [o] t s') ∧ TInv N ops act s0 res Hs n sF (S.setIfInBounds i true) s' then h.choose else t
    | none => t) hm ?_ ?_ ?_ ?_ rfl
  · refine .inl ⟨⟨by simp, fun j o _ hl => ?_, ⟨0, Nat.zero_le _, h0, fun j _ => ?_⟩, fun x _ => ⟨rfl, rfl⟩, fun j d v _ hl => ?_, fun j d sl off _ hl => ?_, fun q hq => by cases hq⟩, fun j _ => getD_replicate_false _ _⟩
    · rw [getD_replicate_false] at hl
      cases hl
    · rw [getD_replicate_false]
      simp
    · rw [getD_replicate_false] at hl
      cases hl
    · rw [getD_replicate_false] at hl
      cases hl
  · intro S t i o I hi ho
    simp only [ho]
    have h := key S t i o I hi ho
    rw [dif_pos h]
    exact h.choose_spec.1
  · intro S t i o I hi ho
    simp only [ho]
    have h := key S t i o I hi ho
    rw [dif_pos h]
    exact h.choose_spec.2
  · intro S t I hr
    have hsz : S.size = ops.size := by
      rcases I with ⟨I, _⟩ | ⟨h, _⟩
      · exact I.size
      · exact h
    have hall : ∀ i, i < ops.size → S.getD i false = true := by
      intro i
      induction i using Nat.strongRecOn with
      | _ i ih =>
        intro hi
        cases hb : S.getD i false with
        | true => rfl
        | false =>
          have : i ∈ Region.ready .any ops S := mem_ready.2 ⟨getD_in (by rw [hsz]; exact hi) hb, ops[i], Array.getElem?_eq_getElem hi, fun e he hbi => by
            have hlow := C.low i _ (Array.getElem?_eq_getElem hi) e he hbi
            exact ih e.on hlow (by omega)⟩
          rw [hr] at this
          cases this
    have hns : n < ops.size := by
      unfold tailB at hn
      rw [Bool.and_eq_true, decide_eq_true_eq] at hn
      exact hn.1
    rcases I with ⟨I, hlow⟩ | ⟨_, m, hm1, hm2, hS, hEv⟩
    · have := hall n hns
      rw [hlow n (Nat.le_refl _)] at this
      cases this
    · have hme : m = ops.size := by
        rcases Nat.lt_or_ge m ops.size with h | h
        · have := (hS m h).1 (hall m h)
          omega
        · omega
      rw [hme, List.drop_of_length_le (by simp)] at hEv
      have := hEv.opsNil
      subst this
      exact ⟨hFF, rfl⟩
end
section
variable {N : Env} {ops : Array Oper}
def FinT (ops : Array Oper) (resL : List Res) (n : Nat) (fr : Fr) : Fr → Prop
  | [] => True
  | (x, v) :: r => ((x ∉ dstsOf ops ∧ fget fr x = v) ∨ fget (ancFr ops resL (List.range n)) x = v ∧ v ≠ .unk) ∧ FinT ops resL n fr r
theorem FinT.at {resL : List Res} {n : Nat} {fr : Fr} : ∀ {frF : Fr} {p : Nat × Slot}, FinT ops resL n fr frF → p ∈ frF → ((∀ j, dstAt ops j ≠ some p.1) ∧ fget fr p.1 = p.2) ∨ ∃ j, j < n ∧ dstAt ops j = some p.1 ∧ resF resL j = .sl p.2
  | [], p, _, h => by cases h
  | (x, v) :: r, p, ⟨h1, h2⟩, h => by
    rcases List.mem_cons.1 h with rfl | h
    · rcases h1 with ⟨h3, h4⟩ | ⟨h3, h4⟩
      · exact .inl ⟨fun j hj => h3 (mem_dstsOf hj), h4⟩
      · rcases fget_ancFr (ops := ops) (resL := resL) (x := x) (l := List.range n) with h | ⟨j, k1, k2, k3⟩
        · exact (h4 (h3.symm.trans h)).elim
        · exact .inr ⟨j, List.mem_range.1 k2, k1, by rw [resF_some k3, h3]⟩
    · exact FinT.at h2 h
theorem StepsOK.atT {L : List (List Nat)} {act : List Nat} {resL : List Res} {hs : List Heap} {fr : Fr} {n : Nat} {i : Nat} {o : Oper} (h : StepsOK N ops L act resL hs fr 0 (ops.toList.take n)) (hi : i < n) (ho : ops[i]? = some o) : StageOK N ops L act resL hs fr i o (List.range (act.length + 1)) := by
  have := StepsOK.at (j := i) h (by rw [List.getElem?_take, if_pos hi]; simpa using ho)
  rwa [Nat.zero_add] at this
theorem cw_ordT {id : Nat} {fr : Fr} {h : Heap} {Q : AX → St → Prop} (n : Nat) (L : List (List Nat)) (act : List Nat) (hs : List Heap) (resL : List Res) (frP : Fr) (hm : N.P.follows .mixedOrders = true) (hc : ordB ops L act = true) (hn : tailB ops L n = true)
    (ha : act.all (fun a => decide (a < n)) = true) (hb : apartB (dstsOf ops) fr = true) (hS : StepsA N ops L act resL (h :: hs) fr 0 (ops.toList.take n)) (ht : tgtB ops resL = true) (hF : FinT ops resL n fr frP)
    (k : OW N ops (ops.toList.drop n) ⟨frP, [], hpF (h :: hs) act.length⟩ fun s1 => ∃ frF, SubL frF s1.fr ∧ Q .normal ⟨frF, [], s1.h⟩) : CW N (.region id ops true) ⟨fr, [], h⟩ Q := by
  have C := ordB_cert hc
  unfold OW at k
  unfold CW
  obtain ⟨sF, hE, frF, hFF, hQ⟩ := k
  rw [← baseFr_id hb] at hS
  have hS' := hS.ok
  refine ⟨_, _, ev_orderT (s0 := ⟨fr, [], h⟩) (res := resF resL) (Hs := hpF (h :: hs)) hFF.sub hm C hn ?_ ?_ (fun a h => by simpa using List.all_eq_true.1 ha a h) rfl (fun p hp => hF.at hp) hE, hQ⟩
  · intro j sl off hr i hi
    unfold resF at hr
    cases hj : resL[j]? with
    | none => simp [hj] at hr
    | some r =>
      simp only [hj, Option.getD_some] at hr
      have := List.all_eq_true.1 ht r (List.mem_of_getElem? hj)
      rw [hr] at this
      simp only [Bool.not_eq_true', List.contains_eq_mem, decide_eq_false_iff_not] at this
      exact this (mem_dstsOf hi)
  · intro i o k hi ho hk hst
    have h1 := hS'.atT hi ho
    exact ⟨_, view_ok C, rfl, h1.at (List.mem_range.2 (by omega)) hst⟩
theorem ow_pub {all : Array Oper} {o : Oper} {r : List Oper} {s : St} {K : St → Prop} {d n : Nat} {x : HObj} (hs : fget s.fr d = .prv x n) (k : OW N all (o :: r) ({ (s.put d .unk) with h := s.h ++ [x] }.put d (.val (prvV x n s.h.length))) K) : OW N all (o :: r) s K := by
  unfold OW at k ⊢
  obtain ⟨s2, k1, k2⟩ := k
  exact ⟨s2, .opPub hs k1, k2⟩
theorem ow_frz {all : Array Oper} {o : Oper} {r : List Oper} {s : St} {K : St → Prop} {t e et : TypeId} {x : Operand} {id off ver n c : Nat} {cells : List Value} (hw : wantedA all o s = some true) (ho : o.op = .convert t t x) (ht : N.P.underlying t = some (.slice e)) (he : N.P.underlying e = some (.int .u8))
    (hx : ev s x = some (.slice (some ⟨id, off, some ver⟩) n c)) (hob : s.h[id]? = some (.arr cells ver true et)) (hn : 0 < n) (k : OW N all r ({ s with h := s.h.set id (HObj.arr cells ver false et) }.putO o.dst (.val (.slice (some ⟨id, off, some ver⟩) n c))) K) : OW N all (o :: r) s K := by
  unfold OW at k ⊢
  obtain ⟨s2, k1, k2⟩ := k
  exact ⟨s2, .opFrz hw ho ht he hx hob hn k1, k2⟩
end
attribute [push_cast] prvV
end Go.Proofs.Ytafncpgiibikcaa.Am

namespace Go.Proofs.Ytafncpgiibikcaa
set_option linter.unusedSimpArgs false
set_option linter.unusedVariables false
set_option maxRecDepth 20000
open Go.RowKit Am Ty

@[push_cast] theorem env_keys_int : keysTab 3 = some kdInt := rfl
@[push_cast] theorem env_keys_item : keysTab 57 = some kdItem := rfl
@[push_cast] theorem env_eqs3 : eqsMore 57 = some chkItem := rfl
@[push_cast] theorem env_eqs4 : eqsMore 50 = some chkRun := rfl
attribute [push_cast] lookV mapOf zeroOf chkItem chkRun
@[push_cast] theorem kd_item (a b c : Int) : kdItem (.agg #[.int .i64 a, .int .i64 b, .int .i64 c]) = true := rfl
@[push_cast] theorem kd_int (a : Int) : kdInt (.int .i64 a) = true := rfl
abbrev u8 (n : Int) : Value := .int .u8 n
def Item.cells (x : Item) : List Value := [i64 x.rule, i64 x.dot, i64 x.frm]
abbrev Item.val (x : Item) : Value := .agg #[i64 x.rule, i64 x.dot, i64 x.frm]
def metE (l : List Item) : List (Value × Value) := l.map fun x => (x.val, i64 1)
def empE (E : List Int) : List (Value × Value) := E.map fun a => (i64 a, i64 1)
theorem eqK_item (x y : Item) : eqK x.val y.val = decide (x = y) := by
  cases x; cases y
  simp only [eqK, eqL, eq1, Bool.and_true, Item.mk.injEq, Int.ofNat_inj, Bool.decide_and, Int.natCast_inj]
theorem eqK_int (a b : Int) : eqK (i64 a) (i64 b) = decide (a = b) := rfl
theorem metE_get (x : Item) : ∀ l : List Item, mget (metE l) x.val = if x ∈ l then some (i64 1) else none
  | [] => rfl
  | y :: l => by
    have ih := metE_get x l
    unfold metE at ih ⊢
    rw [List.map_cons]
    unfold mget
    rw [eqK_item, ih]
    by_cases h : x = y
    · simp [h]
    · simp [h]
theorem metE_put (x : Item) : ∀ l : List Item, x ∉ l → mput (metE l) x.val (i64 1) = metE (l ++ [x])
  | [], _ => rfl
  | y :: l, h => by
    have ih := metE_put x l fun k => h (List.mem_cons_of_mem _ k)
    have hn : ¬ x = y := fun e => h (e ▸ List.mem_cons_self)
    unfold metE at ih ⊢
    rw [List.map_cons, List.cons_append, List.map_cons]
    unfold mput
    rw [eqK_item, if_neg (by simpa using hn), ih]
theorem metE_keys (l : List Item) : mkeys kdItem (metE l) = true := by
  unfold mkeys metE
  rw [List.all_map, List.all_eq_true]
  intro x _
  rfl
theorem empE_get (a : Int) : ∀ l : List Int, mget (empE l) (i64 a) = if a ∈ l then some (i64 1) else none
  | [] => rfl
  | y :: l => by
    have ih := empE_get a l
    unfold empE at ih ⊢
    rw [List.map_cons]
    unfold mget
    rw [eqK_int, ih]
    by_cases h : a = y
    · simp [h]
    · simp [h]
theorem empE_put (a : Int) : ∀ l : List Int, mput (empE l) (i64 a) (i64 1) = empE (insE l a)
  | [] => rfl
  | y :: l => by
    have ih := empE_put a l
    unfold empE insE at ih ⊢
    rw [List.map_cons]
    unfold mput
    rw [eqK_int]
    by_cases h : a = y
    · simp [h]
    · rw [if_neg (by simpa using h), ih]
      by_cases h2 : a ∈ l
      · simp [h, h2]
      · simp [h, h2]
theorem empE_keys (l : List Int) : mkeys kdInt (empE l) = true := by
  unfold mkeys empE
  rw [List.all_map, List.all_eq_true]
  intro x _
  rfl
theorem Grow.obj {h hk : Heap} {v : Value} {n : Nat} {cells : List Value} {et : TypeId} (g : Grow h hk v n cells et) {j : Nat} (hj : isAt v j = true) : ∃ ver, hk[j]? = some (.arr cells ver true et) := by
  rcases g with ⟨_, _, rfl⟩ | ⟨id, ver, h1, rfl, h3⟩
  · simp [isAt] at hj
  · simp only [isAt, beq_iff_eq] at hj
    subst hj
    exact ⟨ver, h3⟩
theorem get_other {h : Heap} {i j : Nat} {x y z : HObj} (hi : h[i]? = some x) (hj : h[j]? = some y) (hne : x ≠ y) : (h.set i z)[j]? = some y := by
  rw [get_set_ne (by rintro rfl; rw [hi] at hj; exact hne (Option.some.inj hj))]
  exact hj
def RdB (h : Heap) (v : Value) (w : List Nat) : Prop :=
  w.length ≤ 140737488355328 ∧ (∀ b ∈ w, b < 256) ∧ (((v = .slice none 0 0 ∨ v = .slice (some ⟨0, 0, none⟩) 0 0) ∧ w = []) ∨ ∃ id off ver own c cells, v = .slice (some ⟨id, off, some ver⟩) w.length c ∧ h[id]? = some (.arr cells ver own 5) ∧ ∀ (i b : Nat), w[i]? = some b → cells[off + i]? = some (u8 b))
theorem RdB.mono {h h' : Heap} {v : Value} {w : List Nat} (r : RdB h v w) (hp : h <+: h') : RdB h' v w := by
  refine ⟨r.1, r.2.1, ?_⟩
  rcases r.2.2 with k | ⟨id, off, ver, own, c, cells, k1, k2, k3⟩
  · exact .inl k
  · exact .inr ⟨id, off, ver, own, c, cells, k1, getElem?_of_prefix hp k2, k3⟩
theorem RdB.form {h : Heap} {v : Value} {w : List Nat} (r : RdB h v w) : ∃ p c, v = .slice p w.length c := by
  rcases r.2.2 with ⟨k | k, rfl⟩ | ⟨id, off, ver, own, c, cells, k1, k2, k3⟩
  · exact ⟨_, 0, k⟩
  · exact ⟨_, 0, k⟩
  · exact ⟨_, c, k1⟩
theorem RdB.at {h : Heap} {v : Value} {w : List Nat} (r : RdB h v w) {i : Nat} (hi : i < w.length) : ∃ id off ver own c cells, v = .slice (some ⟨id, off, some ver⟩) w.length c ∧ h[id]? = some (.arr cells ver own 5) ∧ cells[off + i]? = some (u8 (w[i] : Nat)) ∧ w[i] < 256 := by
  rcases r.2.2 with ⟨k, rfl⟩ | ⟨id, off, ver, own, c, cells, k1, k2, k3⟩
  · simp at hi
  · exact ⟨id, off, ver, own, c, cells, k1, k2, k3 i _ (by simp [hi]), r.2.1 _ (List.getElem_mem hi)⟩
theorem u8_size : tinfo env.P 5 = some ⟨false, 1, 1, some (.int .u8 0)⟩ := ti5
theorem rdb_slice {h : Heap} {v : Value} {w : List Nat} {lo hi : Nat} (r : RdB h v w) (hlo : lo ≤ hi) (hhi : hi ≤ w.length) :
    ∃ v', (∀ (s : St) (x : Operand) (ol oh : Option Operand), s.h = h → ev s x = some v → evo s 0 ol = some (lo : Int) → evo s w.length oh = some (hi : Int) → sliceV env s 25 x ol oh = some v') ∧ RdB h v' (sub w lo hi) := by
  have hu : env.P.underlying 25 = some (.slice 5) := by kernel_rfl
  have hlen : (sub w lo hi).length = hi - lo := sub_len hlo hhi
  have hmem : ∀ b ∈ sub w lo hi, b < 256 := fun b hb => r.2.1 b (List.mem_of_mem_drop (List.mem_of_mem_take hb))
  rcases r.2.2 with ⟨k | k, hw0⟩ | ⟨id, off, ver, own, c, cells, k1, k2, k3⟩
  · subst k
    subst hw0
    have h0 : hi = 0 := by simpa using hhi
    subst h0
    have h1 : lo = 0 := by omega
    subst h1
    refine ⟨.slice none 0 0, fun s x ol oh hh hx hy hz => ?_, r.1, by simp [sub], .inl ⟨.inl rfl, by simp [sub]⟩⟩
    unfold sliceV
    simp only [hu, hx, u8_size, hy]
    simp only [List.length_nil] at hz
    rw [hz]
    rfl
  · subst k
    subst hw0
    have h0 : hi = 0 := by simpa using hhi
    subst h0
    have h1 : lo = 0 := by omega
    subst h1
    refine ⟨.slice (some ⟨0, 0, none⟩) 0 0, fun s x ol oh hh hx hy hz => ?_, r.1, by simp [sub], .inl ⟨.inr rfl, by simp [sub]⟩⟩
    unfold sliceV
    simp only [hu, hx, u8_size, hy]
    simp only [List.length_nil] at hz
    rw [hz]
    rfl
  · subst k1
    refine ⟨.slice (some ⟨id, off + lo, some ver⟩) (hi - lo) (hi - lo), fun s x ol oh hh hx hy hz => ?_, by have := r.1; omega, hmem, .inr ⟨id, off + lo, ver, own, hi - lo, cells, by rw [hlen], k2, fun i b hb => ?_⟩⟩
    · subst hh
      unfold sliceV
      simp only [hu, hx, u8_size, hy, hz]
      rw [if_pos ⟨by omega, by omega, by omega⟩]
      simp only [k2, and_self, if_true, adAdd, Int.toNat_natCast, Nat.mul_one]
      rw [show ((hi : Int) - lo).toNat = hi - lo by omega]
    · unfold sub at hb
      rw [List.getElem?_take] at hb
      split at hb
      · rw [List.getElem?_drop] at hb
        have := k3 _ _ hb
        rwa [← Nat.add_assoc] at this
      · cases hb
theorem qw_val {all : Array Oper} {o : Oper} {r : List Oper} {s : St} {K : St → Prop} {v : Value} (hw : wantedA all o s = some true) (hv : vop env s o.op = some v) (k : QW env all r (s.putO o.dst (.val v)) K) : QW env all (o :: r) s K :=
  qw_cons (s1 := s.putO o.dst (.val v)) (by unfold stepQ; rw [hw]; simp only [hv]) k
theorem ow_val {all : Array Oper} {o : Oper} {r : List Oper} {s : St} {K : St → Prop} {v : Value} (hw : wantedA all o s = some true) (hv : vop env s o.op = some v) (k : OW env all r (s.putO o.dst (.val v)) K) : OW env all (o :: r) s K := by
  unfold OW at k ⊢
  obtain ⟨s2, k1, k2⟩ := k
  exact ⟨s2, .opVal hw hv k1, k2⟩
theorem qw_slice {all : Array Oper} {o : Oper} {r : List Oper} {s : St} {K : St → Prop} {v : Value} {t : TypeId} {x : Operand} {ol oh : Option Operand} (hw : wantedA all o s = some true) (ho : o.op = .slice t x ol oh none) (hv : sliceV env s t x ol oh = some v) (k : QW env all r (s.putO o.dst (.val v)) K) : QW env all (o :: r) s K :=
  qw_val hw (by rw [ho]; exact hv) k
theorem ow_slice {all : Array Oper} {o : Oper} {r : List Oper} {s : St} {K : St → Prop} {v : Value} {t : TypeId} {x : Operand} {ol oh : Option Operand} (hw : wantedA all o s = some true) (ho : o.op = .slice t x ol oh none) (hv : sliceV env s t x ol oh = some v) (k : OW env all r (s.putO o.dst (.val v)) K) : OW env all (o :: r) s K :=
  ow_val hw (by rw [ho]; exact hv) k
structure Fix where
  cp : Nat
  si : Nat
  im : Nat
  vm : Nat
  ms : List Nat
  ie : Nat
  bv : Value
  ev : Value
structure Gh where
  h : Heap
  us : List Value
  S : List (List Item)
  E : List Int
def chCells (g : Gram) (rv wv : Value) (F : Fix) (n : Nat) : List Value := [i64 g.nts, i64 g.start, rv, wv, F.bv, .slice (some ⟨F.si, 0, some 0⟩) n n, .slice (some ⟨F.im, 0, some F.vm⟩) n n, F.ev]
structure CHR (h0 hB : Heap) (g : Gram) (rv wv : Value) (F : Fix) (G : Gh) : Prop where
  p : h0 <+: G.h
  c : G.h[F.cp]? = some (.arr (chCells g rv wv F G.S.length) 0 true 73)
  s : G.h[F.si]? = some (.arr G.us 0 true 55)
  m : G.h[F.im]? = some (.arr (F.ms.map fun i => Value.map (some i)) F.vm true 92)
  e : F.ev = .map (some F.ie) → G.h[F.ie]? = some (.map (empE G.E)) ∧ F.ie ∉ F.ms ∧ h0.length ≤ F.ie
  un : G.us.length = G.S.length
  mn : F.ms.length = G.S.length
  ug : ∀ (j : Nat) (u : Value) (l : List Item), G.us[j]? = some u → G.S[j]? = some l → Grow h0 G.h u l.length (l.flatMap Item.cells) 57
  ud : ∀ (i j : Nat) (u w : Value) (x : Nat), i ≠ j → G.us[i]? = some u → G.us[j]? = some w → isAt u x = true → isAt w x = false
  mg : ∀ (j i : Nat) (l : List Item), F.ms[j]? = some i → G.S[j]? = some l → G.h[i]? = some (.map (metE l))
  md : ∀ (i j x : Nat), F.ms[i]? = some x → F.ms[j]? = some x → i = j
  kb : ∀ (i : Nat) (cs : List Value) (v : Nat) (o : Bool) (et : TypeId), et = 3 ∨ et = 91 → hB[i]? = some (.arr cs v o et) → G.h[i]? = some (.arr cs v o et)
  lo : h0.length ≤ F.cp ∧ h0.length ≤ F.si ∧ h0.length ≤ F.im ∧ ∀ i ∈ F.ms, h0.length ≤ i
section
variable {h0 hB : Heap} {g : Gram} {rv wv : Value} {F : Fix} {G : Gh}
theorem CHR.us_at (K : CHR h0 hB g rv wv F G) {j : Nat} (hj : j < G.S.length) : ∃ u c, G.us[j]? = some (.slice u (gs G.S j).length c) ∧ Grow h0 G.h (.slice u (gs G.S j).length c) (gs G.S j).length ((gs G.S j).flatMap Item.cells) 57 := by
  have hu : j < G.us.length := by rw [K.un]; exact hj
  have h1 := K.ug j G.us[j] (gs G.S j) (by simp [hu]) (gs_get hj)
  obtain ⟨p, c, e⟩ := h1.form
  rw [e] at h1
  exact ⟨p, c, by rw [List.getElem?_eq_getElem hu, e], h1⟩
theorem CHR.ms_at (K : CHR h0 hB g rv wv F G) {j : Nat} (hj : j < G.S.length) : ∃ i, F.ms[j]? = some i ∧ G.h[i]? = some (.map (metE (gs G.S j))) ∧ h0.length ≤ i := by
  have hu : j < F.ms.length := by rw [K.mn]; exact hj
  refine ⟨F.ms[j], by simp [hu], K.mg j _ _ (by simp [hu]) (gs_get hj), K.lo.2.2.2 _ (List.getElem_mem hu)⟩
theorem CHR.put (K : CHR h0 hB g rv wv F G) {j mj : Nat} {u u' : Value} {x : Item} {h3 : Heap} (hj : j < G.S.length) (hm : F.ms[j]? = some mj) (hu : G.us[j]? = some u) (a : h0 <+: h3)
    (b : ∀ i o, i ≠ mj → i ≠ F.si → isAt u i = false → G.h[i]? = some o → h3[i]? = some o) (c : h3[mj]? = some (.map (metE (gs G.S j ++ [x])))) (d : h3[F.si]? = some (.arr (G.us.set j u') 0 true 55))
    (e : Grow h0 h3 u' (gs G.S j ++ [x]).length ((gs G.S j ++ [x]).flatMap Item.cells) 57) (f : ∀ i, isAt u' i = true → isAt u i = true ∨ G.h.length ≤ i) :
    CHR h0 hB g rv wv F ⟨h3, G.us.set j u', G.S.set j (gs G.S j ++ [x]), G.E⟩ := by
  have hju : j < G.us.length := (List.getElem?_eq_some_iff.1 hu).1
  have hmj := K.mg j mj _ hm (gs_get hj)
  have gu := K.ug j u _ hu (gs_get hj)
  have keepA : ∀ (i : Nat) (cs : List Value) (v : Nat) (ow : Bool) (et : TypeId), G.h[i]? = some (.arr cs v ow et) → et ≠ 55 → et ≠ 57 → h3[i]? = some (.arr cs v ow et) := fun i cs v ow et h1 h2 h4 => by
    refine b i _ ?_ ?_ ?_ h1
    · rintro rfl; rw [hmj] at h1; cases h1
    · rintro rfl; rw [K.s] at h1; simp only [Option.some.injEq, HObj.arr.injEq] at h1; exact h2 h1.2.2.2.symm
    · cases hb : isAt u i with
      | false => rfl
      | true =>
        obtain ⟨ver, h5⟩ := gu.obj hb
        rw [h5] at h1; simp only [Option.some.injEq, HObj.arr.injEq] at h1; exact (h4 h1.2.2.2.symm).elim
  have keepM : ∀ (i : Nat) (es : List (Value × Value)), i ≠ mj → G.h[i]? = some (.map es) → h3[i]? = some (.map es) := fun i es h1 h2 => by
    refine b i _ h1 ?_ ?_ h2
    · rintro rfl; rw [K.s] at h2; cases h2
    · cases hb : isAt u i with
      | false => rfl
      | true =>
        obtain ⟨ver, h5⟩ := gu.obj hb
        rw [h5] at h2; cases h2
  refine ⟨a, ?_, d, keepA _ _ _ _ _ K.m (by decide) (by decide), (fun hv => let ⟨q1, q2, q3⟩ := K.e hv; ⟨keepM _ _ (fun e => q2 (e ▸ List.mem_of_getElem? hm)) q1, q2, q3⟩), by simp [K.un], by simp [K.mn], fun k v l h1 h2 => ?_, fun i k v w y hik h1 h2 h4 => ?_, fun k i l h1 h2 => ?_, K.md, fun i cs v o et he hi => keepA i cs v o et (K.kb i cs v o et he hi) (by rcases he with rfl | rfl <;> decide) (by rcases he with rfl | rfl <;> decide), K.lo⟩
  · simp only [List.length_set]
    exact keepA _ _ _ _ _ K.c (by decide) (by decide)
  · simp only at h1 h2 ⊢
    rw [List.getElem?_set] at h1 h2
    by_cases ek : j = k
    · subst ek
      rw [if_pos rfl, if_pos hju] at h1
      rw [if_pos rfl, if_pos hj] at h2
      cases h1; cases h2
      exact e
    · rw [if_neg ek] at h1 h2
      refine (K.ug k v l h1 h2).mono fun i o hi ho => b i o ?_ ?_ ?_ ho
      · rintro rfl
        obtain ⟨ver, h5⟩ := (K.ug k v l h1 h2).obj hi
        rw [hmj] at h5; cases h5
      · rintro rfl
        obtain ⟨ver, h5⟩ := (K.ug k v l h1 h2).obj hi
        rw [K.s] at h5; simp only [Option.some.injEq, HObj.arr.injEq] at h5; exact absurd h5.2.2.2 (by decide)
      · exact K.ud k j v u i (Ne.symm ek) h1 hu hi
  · simp only at h1 h2
    rw [List.getElem?_set] at h1 h2
    by_cases ei : j = i
    · subst ei
      rw [if_pos rfl, if_pos hju] at h1
      rw [if_neg hik] at h2
      cases h1
      rcases f y h4 with h5 | h5
      · exact K.ud j k u w y hik hu h2 h5
      · cases hb : isAt w y with
        | false => rfl
        | true =>
          have hk : k < G.S.length := by rw [← K.un]; exact (List.getElem?_eq_some_iff.1 h2).1
          have := ((K.ug k w _ h2 (gs_get hk)).lt hb).2
          omega
    · rw [if_neg ei] at h1
      by_cases ek : j = k
      · subst ek
        rw [if_pos rfl, if_pos hju] at h2
        cases h2
        cases hb : isAt u' y with
        | false => rfl
        | true =>
          rcases f y hb with h5 | h5
          · have := K.ud i j v u y hik h1 hu h4
            rw [h5] at this; cases this
          · have hi : i < G.S.length := by rw [← K.un]; exact (List.getElem?_eq_some_iff.1 h1).1
            have := ((K.ug i v _ h1 (gs_get hi)).lt h4).2
            omega
      · rw [if_neg ek] at h2
        exact K.ud i k v w y hik h1 h2 h4
  · simp only at h2 ⊢
    rw [List.getElem?_set] at h2
    by_cases ek : j = k
    · subst ek
      rw [if_pos rfl, if_pos hj] at h2
      obtain rfl : mj = i := Option.some.inj (hm.symm.trans h1)
      cases h2
      exact c
    · rw [if_neg ek] at h2
      refine keepM i _ ?_ (K.mg k i l h1 h2)
      rintro rfl
      exact ek (K.md j k i hm h1)
end
end Go.Proofs.Ytafncpgiibikcaa

namespace Go.Proofs.Ytafncpgiibikcaa
set_option linter.unusedSimpArgs false
set_option linter.unusedVariables false

def tix (M a i j : Nat) : Nat := (a * M + i) * M + j
theorem tix_lt {N M a i j : Nat} (ha : a < N) (hi : i < M) (hj : j < M) : tix M a i j < N * M * M := by
  unfold tix
  have h1 : a * M + i < N * M := by
    have : (a + 1) * M ≤ N * M := Nat.mul_le_mul_right M ha
    rw [Nat.succ_mul] at this
    omega
  have h2 : (a * M + i + 1) * M ≤ N * M * M := Nat.mul_le_mul_right M h1
  rw [Nat.succ_mul] at h2
  omega
theorem tix_inj {M a i j a' i' j' : Nat} (hi : i < M) (hj : j < M) (hi' : i' < M) (hj' : j' < M) (h : tix M a i j = tix M a' i' j') : a = a' ∧ i = i' ∧ j = j' := by
  unfold tix at h
  have hM : 0 < M := by omega
  have key : ∀ x y x' y' : Nat, y < M → y' < M → x * M + y = x' * M + y' → x = x' ∧ y = y' := fun x y x' y' hy hy' e => by
    have h1 : (x * M + y) / M = x := by rw [Nat.mul_comm, Nat.mul_add_div hM, Nat.div_eq_of_lt hy]; omega
    have h2 : (x' * M + y') / M = x' := by rw [Nat.mul_comm, Nat.mul_add_div hM, Nat.div_eq_of_lt hy']; omega
    have : x = x' := by rw [← h1, ← h2, e]
    subst this
    exact ⟨rfl, by omega⟩
  obtain ⟨h1, h2⟩ := key _ _ _ _ hj hj' h
  obtain ⟨h3, h4⟩ := key _ _ _ _ hi hi' h1
  exact ⟨h3, h4, h2⟩
def yfn (Y : List Bool) (M a i j : Nat) : Bool := Y.getD (tix M a i j) false
def symY (yf : Nat → Nat → Nat → Bool) (w : List Nat) (s : KSym) (i j : Nat) : Bool :=
  if 0 ≤ s.nt then yf s.nt.toNat i j else decide (j = i + 1) && (match w[i]? with | some b => s.set.has b | none => false)
def kdef : KSym := ⟨0, ⟨0, 0, 0, 0⟩⟩
def endB (yf : Nat → Nat → Nat → Bool) (w : List Nat) (l : List KSym) (i : Nat) : Nat → Nat → Bool
  | 0, j => decide (j = i)
  | k + 1, j => (List.range (j + 1)).any fun m => decide (i ≤ m) && (endB yf w l i k m && symY yf w (l.getD k kdef) m j)
def TSound (R : List Rule) (w : List Nat) (yf : Nat → Nat → Nat → Bool) : Prop := ∀ a i j : Nat, i ≤ j → j ≤ w.length → yf a i j = true → NtTx R a (sub w i j)
def TFull (R : List Rule) (w : List Nat) (yf : Nat → Nat → Nat → Bool) : Prop := ∀ a i j : Nat, i ≤ j → j ≤ w.length → NtTx R a (sub w i j) → yf a i j = true
theorem symY_sound {R : List Rule} {w : List Nat} {yf : Nat → Nat → Nat → Bool} (h : TSound R w yf) {s : KSym} {i j : Nat} (hij : i ≤ j) (hj : j ≤ w.length) (hs : symY yf w s i j = true) : Sy R w s i j := by
  unfold symY at hs
  unfold Sy
  split at hs
  · rename_i h0
    rw [if_neg (by omega)]
    have := h _ _ _ hij hj hs
    rw [Int.toNat_of_nonneg h0] at this
    exact ⟨hij, hj, this⟩
  · rename_i h0
    rw [if_pos (by omega)]
    rw [Bool.and_eq_true, decide_eq_true_eq] at hs
    refine ⟨hs.1, ?_⟩
    cases hb : w[i]? with
    | none => rw [hb] at hs; cases hs.2
    | some b => rw [hb] at hs; exact ⟨b, rfl, hs.2⟩
theorem symY_full {R : List Rule} {w : List Nat} {yf : Nat → Nat → Nat → Bool} (h : TFull R w yf) {s : KSym} {i j : Nat} (hs : Sy R w s i j) : symY yf w s i j = true := by
  unfold Sy at hs
  unfold symY
  split at hs
  · rename_i h0
    rw [if_neg (by omega)]
    obtain ⟨rfl, b, h1, h2⟩ := hs
    rw [h1]
    simpa using h2
  · rename_i h0
    rw [if_pos (by omega)]
    exact h _ _ _ hs.1 hs.2.1 (by rw [Int.toNat_of_nonneg (by omega)]; exact hs.2.2)
theorem getD_take {l : List KSym} {k : Nat} (hk : k < l.length) : l[k]? = some (l.getD k kdef) := by
  rw [List.getD_eq_getElem?_getD, List.getElem?_eq_getElem hk]
  rfl
theorem endB_sound {R : List Rule} {w : List Nat} {yf : Nat → Nat → Nat → Bool} (h : TSound R w yf) {l : List KSym} {i : Nat} (hi : i ≤ w.length) : ∀ (k j : Nat), k ≤ l.length → j ≤ w.length → endB yf w l i k j = true → Sq R w (l.take k) i j
  | 0, j, _, hj, hb => by
    simp only [endB, decide_eq_true_eq] at hb
    subst hb
    exact Sq.nil_iff.2 ⟨rfl, hj⟩
  | k + 1, j, hk, hj, hb => by
    simp only [endB, List.any_eq_true, List.mem_range, Bool.and_eq_true, decide_eq_true_eq] at hb
    obtain ⟨m, hm, h1, h2, h3⟩ := hb
    have hm' : m ≤ j := by omega
    exact (Sq.take_succ (getD_take (by omega))).2 ⟨m, endB_sound h hi k m (by omega) (by omega) h2, symY_sound h hm' hj h3⟩
theorem endB_full {R : List Rule} {w : List Nat} {yf : Nat → Nat → Nat → Bool} (h : TFull R w yf) {l : List KSym} {i : Nat} : ∀ (k j : Nat), k ≤ l.length → Sq R w (l.take k) i j → endB yf w l i k j = true
  | 0, j, _, hs => by
    simp only [endB, decide_eq_true_eq]
    exact (Sq.nil_iff.1 hs).1.symm
  | k + 1, j, hk, hs => by
    obtain ⟨m, h1, h2⟩ := (Sq.take_succ (getD_take (by omega))).1 hs
    simp only [endB, List.any_eq_true, List.mem_range, Bool.and_eq_true, decide_eq_true_eq]
    exact ⟨m, by have := h2.le; omega, h1.1, endB_full h k m (by omega) h1, symY_full h h2⟩
theorem endB_iff {R : List Rule} {w : List Nat} {yf : Nat → Nat → Nat → Bool} (h1 : TSound R w yf) (h2 : TFull R w yf) {l : List KSym} {i k j : Nat} (hi : i ≤ w.length) (hk : k ≤ l.length) (hj : j ≤ w.length) : endB yf w l i k j = true ↔ Sq R w (l.take k) i j :=
  ⟨endB_sound h1 hi k j hk hj, endB_full h2 k j hk⟩
def TClosed (R : List Rule) (w : List Nat) (yf : Nat → Nat → Nat → Bool) : Prop := ∀ r ∈ R, ∀ i j : Nat, i ≤ j → j ≤ w.length → endB yf w r.rhs i r.rhs.length j = true → yf r.lhs.toNat i j = true
theorem closed_tx {R : List Rule} {w : List Nat} {yf : Nat → Nat → Nat → Bool} (hc : TClosed R w yf) {l : List KSym} {u : List Nat} (h : Tx R l u) :
    ∀ (l0 : List KSym) (i k d : Nat) (t : List Nat), d ≤ l0.length → l0.drop d = l → w.drop k = u ++ t → endB yf w l0 i d k = true → i ≤ k → k ≤ w.length → endB yf w l0 i l0.length (k + u.length) = true := by
  have hd1 : ∀ (l0 l : List KSym) (d : Nat) (s : KSym), l0.drop d = s :: l → d < l0.length ∧ l0.getD d kdef = s ∧ l0.drop (d + 1) = l := fun l0 l d s e => by
    have h1 : d < l0.length := by
      rcases Nat.lt_or_ge d l0.length with h | h
      · exact h
      · rw [List.drop_of_length_le h] at e; cases e
    refine ⟨h1, ?_, ?_⟩
    · have := congrArg (fun z : List KSym => z[0]?) e
      rw [List.getD_eq_getElem?_getD]
      simp only [List.getElem?_drop, Nat.add_zero, List.getElem?_cons_zero] at this
      rw [this]
      rfl
    · have := congrArg List.tail e
      simpa using this
  have lens : ∀ (u t : List Nat) (k : Nat), w.drop k = u ++ t → k ≤ w.length → k + u.length ≤ w.length := fun u t k e hk => by
    have := congrArg List.length e
    rw [List.length_drop, List.length_append] at this
    omega
  induction h with
  | nil =>
    intro l0 i k d t h0 h1 _ h3 _ _
    have hd : l0.length ≤ d := by
      have := congrArg List.length h1
      simp at this
      omega
    have : d = l0.length := by omega
    subst this
    exact h3
  | term s l b u h1 h2 h3 ih =>
    intro l0 i k d t k0 k1 k2 k3 k4 k5
    obtain ⟨e1, e2, e3⟩ := hd1 _ _ _ _ k1
    have hk := lens _ _ _ k2 k5
    simp only [List.length_cons] at hk
    have hb : w[k]? = some b := by
      have := congrArg (fun z : List Nat => z[0]?) k2
      simpa using this
    have hE : endB yf w l0 i (d + 1) (k + 1) = true := by
      simp only [endB, List.any_eq_true, List.mem_range, Bool.and_eq_true, decide_eq_true_eq]
      refine ⟨k, by omega, k4, k3, ?_⟩
      rw [e2]
      unfold symY
      rw [if_neg (by omega), hb]
      simpa using h2
    have := ih l0 i (k + 1) (d + 1) t (by omega) e3 (by
      have := congrArg List.tail k2
      simpa using this) hE (by omega) (by omega)
    simp only [List.length_cons]
    rw [show k + (u.length + 1) = k + 1 + u.length by omega]
    exact this
  | non s l r u v h1 h2 h3 h4 h5 ih1 ih2 =>
    intro l0 i k d t k0 k1 k2 k3 k4 k5
    obtain ⟨e1, e2, e3⟩ := hd1 _ _ _ _ k1
    rw [List.append_assoc] at k2
    have hk := lens _ _ _ k2 k5
    have p1 := ih1 r.rhs k k 0 (v ++ t) (Nat.zero_le _) rfl k2 (by simp [endB]) (Nat.le_refl _) k5
    have p2 := hc r h2 k (k + u.length) (by omega) hk p1
    have hE : endB yf w l0 i (d + 1) (k + u.length) = true := by
      simp only [endB, List.any_eq_true, List.mem_range, Bool.and_eq_true, decide_eq_true_eq]
      refine ⟨k, by omega, k4, k3, ?_⟩
      rw [e2]
      unfold symY
      rw [if_pos h1, ← h3]
      exact p2
    have := ih2 l0 i (k + u.length) (d + 1) t (by omega) e3 (by
      have := congrArg (List.drop u.length) k2
      rw [List.drop_drop, List.drop_left] at this
      exact this) hE (by omega) hk
    simp only [List.length_append]
    rw [show k + (u.length + v.length) = k + u.length + v.length by omega]
    exact this
theorem closed_full {R : List Rule} {w : List Nat} {yf : Nat → Nat → Nat → Bool} (hc : TClosed R w yf) : TFull R w yf := by
  rintro a i j hij hj ⟨r, h1, h2, h3⟩
  have hd : w.drop i = sub w i j ++ w.drop j := by
    unfold sub
    have := List.take_append_drop (j - i) (w.drop i)
    rw [List.drop_drop, show i + (j - i) = j by omega] at this
    exact this.symm
  have p := closed_tx hc h3 r.rhs i i 0 (w.drop j) (Nat.zero_le _) rfl hd (by simp [endB]) (Nat.le_refl _) (by omega)
  rw [sub_len hij hj, show i + (j - i) = j by omega] at p
  have := hc r h1 i j hij hj p
  rwa [h2, Int.toNat_natCast] at this
theorem yfn_set {Y : List Bool} {M a i j a' i' j' : Nat} (hi : i < M) (hj : j < M) (hi' : i' < M) (hj' : j' < M) (hl : tix M a i j < Y.length) : yfn (Y.set (tix M a i j) true) M a' i' j' = if a = a' ∧ i = i' ∧ j = j' then true else yfn Y M a' i' j' := by
  unfold yfn
  simp only [List.getD_eq_getElem?_getD, List.getElem?_set]
  by_cases h : tix M a i j = tix M a' i' j'
  · rw [if_pos h, if_pos hl, if_pos (tix_inj hi hj hi' hj' h)]
    rfl
  · rw [if_neg h, if_neg (by rintro ⟨rfl, rfl, rfl⟩; exact h rfl)]
theorem count_set_true {Y : List Bool} {k : Nat} (hk : k < Y.length) (hb : Y.getD k false = false) : (Y.set k true).count false < Y.count false := by
  rw [List.getD_eq_getElem?_getD, List.getElem?_eq_getElem hk] at hb
  simp only [Option.getD_some] at hb
  have hp : 0 < Y.count false := List.count_pos_iff.2 (hb ▸ List.getElem_mem _)
  rw [List.count_set hk, hb]
  simp only [beq_self_eq_true, if_true, Bool.true_beq, Bool.false_eq_true, if_false]
  omega
end Go.Proofs.Ytafncpgiibikcaa

namespace Go.Proofs.Ytafncpgiibikcaa
set_option linter.unusedSimpArgs false
set_option linter.unusedVariables false
set_option maxRecDepth 20000
open Go.RowKit Am Ty

structure TbR (h : Heap) (tp : Nat) (g : Gram) (rv wv : Value) (w : List Nat) (yi yr : Nat) (Y : List Bool) : Prop where
  c : ∃ cy, h[tp]? = some (.arr [i64 g.nts, i64 g.start, rv, wv, i64 w.length, .slice (some ⟨yi, 0, some yr⟩) Y.length cy] 0 true 79)
  y : h[yi]? = some (.arr (Y.map .bool) yr true 4)
theorem TbR.mono {h h' : Heap} {tp : Nat} {g : Gram} {rv wv : Value} {w : List Nat} {yi yr : Nat} {Y : List Bool} (t : TbR h tp g rv wv w yi yr Y) (hp : h <+: h') : TbR h' tp g rv wv w yi yr Y :=
  ⟨let ⟨cy, h1⟩ := t.c; ⟨cy, getElem?_of_prefix hp h1⟩, getElem?_of_prefix hp t.y⟩
section
variable {h : Heap} {tp : Nat} {g : Gram} {rv wv : Value} {w : List Nat} {yi yr : Nat} {Y : List Bool}
set_option maxHeartbeats 2000000 in
theorem at_fw {vs : Value} (hc : h[tp]? = some (.arr [i64 g.nts, i64 g.start, rv, wv, i64 w.length, vs] 0 true 79)) (hw : w.length ≤ 512) {a i j : Nat} (ha : a < 4097) (hi : i ≤ w.length) (hj : j ≤ w.length) :
    FW env 54 [.pointer (some ⟨tp, 0, some 0⟩), i64 a, i64 i, i64 j] h fun r h' => r = i64 ((tix (w.length + 1) a i j : Nat) : Int) ∧ h' = h := by
  have hN : ((w.length : Int) + 1) = ((w.length + 1 : Nat) : Int) := by omega
  have b1 : (a : Int) * ((w.length : Int) + 1) ≤ 4097 * 513 := by
    rw [hN, ← Int.natCast_mul]
    have : a * (w.length + 1) ≤ 4097 * 513 := Nat.mul_le_mul (by omega) (by omega)
    omega
  have b1' : 0 ≤ (a : Int) * ((w.length : Int) + 1) := by rw [hN, ← Int.natCast_mul]; omega
  have b2 : ((a : Int) * ((w.length : Int) + 1) + i) * ((w.length : Int) + 1) ≤ (4098 * 513) * 513 := by
    rw [hN, ← Int.natCast_mul, ← Int.natCast_add, ← Int.natCast_mul]
    have h1 : a * (w.length + 1) ≤ 4097 * 513 := Nat.mul_le_mul (by omega) (by omega)
    have : (a * (w.length + 1) + i) * (w.length + 1) ≤ (4098 * 513) * 513 := Nat.mul_le_mul (by omega) (by omega)
    omega
  have b2' : 0 ≤ ((a : Int) * ((w.length : Int) + 1) + i) * ((w.length : Int) + 1) := by rw [hN, ← Int.natCast_mul, ← Int.natCast_add, ← Int.natCast_mul]; omega
  have e1 : IntKind.i64.wrap ((w.length : Int) + 1) = (w.length : Int) + 1 := wrap64_id (by omega) (by omega)
  have e2 : IntKind.i64.wrap ((a : Int) * ((w.length : Int) + 1)) = (a : Int) * ((w.length : Int) + 1) := wrap64_id (by omega) (by omega)
  have e3 : IntKind.i64.wrap ((a : Int) * ((w.length : Int) + 1) + i) = (a : Int) * ((w.length : Int) + 1) + i := wrap64_id (by omega) (by omega)
  have e4 : IntKind.i64.wrap (((a : Int) * ((w.length : Int) + 1) + i) * ((w.length : Int) + 1)) = ((a : Int) * ((w.length : Int) + 1) + i) * ((w.length : Int) + 1) := wrap64_id (by omega) (by omega)
  have e5 : IntKind.i64.wrap (((a : Int) * ((w.length : Int) + 1) + i) * ((w.length : Int) + 1) + j) = ((a : Int) * ((w.length : Int) + 1) + i) * ((w.length : Int) + 1) + j := wrap64_id (by omega) (by omega)
  refine fw_enter (fn := Try.f54) Try.func54 rfl (by kernel_rfl) (by simp [Try.ntmps54]) ?_; simp only [push_cast]
  repeat (first | apply zs | apply zr | apply zn | ((first | apply zx | apply zy); · simp only [push_cast, env, Nat.reduceEqDiff, reduceIte, Nat.reduceAdd, Nat.reduceMul, Nat.reduceLeDiff, reduceCtorEq, Nat.reduceSub, Int.reduceToNat] <;> first | exact rfl | exact .inl rfl | exact .inr rfl) | apply zq | apply zb | apply zo | apply zk | apply zl)
  refine cw_regionD 17 mixed (by kernel_rfl) ?_
  repeat (first | apply zs | apply zr | apply zn | ((first | apply zx | apply zy); · simp only [push_cast, env, Nat.reduceEqDiff, reduceIte, Nat.reduceAdd, Nat.reduceMul, Nat.reduceLeDiff, reduceCtorEq, Nat.reduceSub, Int.reduceToNat, hc, e1, e2, e3, e4, e5] <;> first | exact rfl | exact .inl rfl | exact .inr rfl) | apply zq | apply zb | apply zo | apply zk | apply zl)
  refine cw_ret ?_
  refine ⟨_, (by simp only [push_cast, env, Nat.reduceEqDiff, reduceIte] <;> exact rfl), ?_, rfl⟩
  simp only [resV, tix]
  push_cast
  rfl
set_option maxHeartbeats 2000000 in
theorem thas_fw (T : TbR h tp g rv wv w yi yr Y) (hw : w.length ≤ 512) {a i j : Nat} (ha : a < 4097) (hi : i ≤ w.length) (hj : j ≤ w.length) (hl : tix (w.length + 1) a i j < Y.length) :
    FW env 39 [.pointer (some ⟨tp, 0, some 0⟩), i64 a, i64 i, i64 j] h fun r h' => r = .bool (yfn Y (w.length + 1) a i j) ∧ h' = h := by
  obtain ⟨cy, hc⟩ := T.c
  have hy := T.y
  have hyv : (Y.map Value.bool)[tix (w.length + 1) a i j]? = some (.bool (yfn Y (w.length + 1) a i j)) := by
    unfold yfn
    rw [List.getElem?_map, List.getD_eq_getElem?_getD, List.getElem?_eq_getElem hl]
    rfl
  have e1 := rng hl
  have hAt := at_fw hc hw ha hi hj
  generalize tix (w.length + 1) a i j = k at hAt hyv e1
  refine fw_enter (fn := Try.f39) Try.func39 rfl (by kernel_rfl) (by simp [Try.ntmps39]) ?_; simp only [push_cast]
  repeat (first | apply zs | apply zr | apply zn | ((first | apply zx | apply zy); · simp only [push_cast, env, Nat.reduceEqDiff, reduceIte, Nat.reduceAdd, Nat.reduceMul, Nat.reduceLeDiff, reduceCtorEq, Nat.reduceSub, Int.reduceToNat] <;> first | exact rfl | exact .inl rfl | exact .inr rfl) | apply zq | apply zb | apply zo | apply zk | apply zl)
  refine cw_weakL [(0, .val (.pointer (some ⟨tp, 0, some 0⟩))), (1, .val (i64 a)), (2, .val (i64 i)), (3, .val (i64 j))] (by simp only [push_cast, Nat.reduceEqDiff, reduceIte]) ?_
  show CW _ _ ⟨_, [], h⟩ _
  apply cw_ord0 (L := [[], [0], [1], [2], [], [], [], [], [4, 5, 6, 7], [3, 8], [9], [10]]) (resL := [_, _, _, _, _, _, _, _, _, _, _, _]) (frF := [(8, .val (.bool (yfn Y (w.length + 1) a i j)))])
  case hm => exact mixed
  case hc => kernel_rfl
  case hb => rfl
  case hS =>
    repeat (first | exact Steps0.nil _ | (apply Steps0.cons; (· apply zz; simp only [push_cast, env, Nat.reduceEqDiff, reduceIte, Nat.reduceAdd, Nat.reduceMul, Nat.reduceLeDiff, reduceCtorEq, Nat.reduceSub, Int.reduceToNat, hc] <;> exact rfl); (· rfl)))
    apply Steps0.cons; · refine one_call (fn := Try.f54) rfl (by simp only [push_cast, env, Nat.reduceEqDiff, reduceIte] <;> exact rfl) rfl (by simp only [push_cast, env, Nat.reduceEqDiff, reduceIte] <;> exact rfl) (by simp only [push_cast, env, Nat.reduceEqDiff, reduceIte] <;> exact rfl) Try.func54 (by kernel_rfl) (by kernel_rfl) (hAt)
    · rfl
    repeat (first | exact Steps0.nil _ | (apply Steps0.cons; (· apply zz; simp only [push_cast, env, Nat.reduceEqDiff, reduceIte, Nat.reduceAdd, Nat.reduceMul, Nat.reduceLeDiff, reduceCtorEq, Nat.reduceSub, Int.reduceToNat, hy, e1, hyv, Nat.mul_one] <;> exact rfl); (· rfl)))
  case ht => rfl
  case hF => repeat (first | exact trivial | (refine ⟨.inl ⟨by decide, rfl⟩, ?_⟩) | (refine ⟨.inr ⟨rfl, by simp⟩, ?_⟩))
  show CW _ _ _ _
  repeat (first | apply zs | apply zr | apply zn | ((first | apply zx | apply zy); · simp only [push_cast, env, Nat.reduceEqDiff, reduceIte, Nat.reduceAdd, Nat.reduceMul, Nat.reduceLeDiff, reduceCtorEq, Nat.reduceSub, Int.reduceToNat] <;> first | exact rfl | exact .inl rfl | exact .inr rfl) | apply zq | apply zb | apply zo | apply zk | apply zl)
  refine cw_ret ?_
  exact ⟨_, (by simp only [push_cast, env, Nat.reduceEqDiff, reduceIte] <;> exact rfl), rfl, rfl⟩
end
end Go.Proofs.Ytafncpgiibikcaa

namespace Go.Proofs.Ytafncpgiibikcaa
set_option linter.unusedSimpArgs false
set_option linter.unusedVariables false
set_option maxRecDepth 20000
open Go.RowKit Am Ty

section
variable {h : Heap} {tp : Nat} {g : Gram} {rv wv : Value} {w : List Nat} {yi yr : Nat} {Y : List Bool}
set_option maxHeartbeats 2000000 in
theorem sym_fw {N : Nat} {s : KSym} {i j : Nat} (T : TbR h tp g rv wv w yi yr Y) (hwR : RdB h wv w) (hw : w.length ≤ 512) (hN : N ≤ 4096) (hY : Y.length = N * (w.length + 1) * (w.length + 1)) (hs : s.nt < N) (hW : SetWf s.set) (hij : i ≤ j) (hj : j ≤ w.length) :
    FW env 59 [.pointer (some ⟨tp, 0, some 0⟩), .agg #[i64 s.nt, u64 s.set.a, u64 s.set.b, u64 s.set.c, u64 s.set.d], i64 i, i64 j] h fun r h' => r = .bool (symY (yfn Y (w.length + 1)) w s i j) ∧ h' = h := by
  obtain ⟨cy, hc⟩ := T.c
  refine fw_enter (fn := Try.f59) Try.func59 rfl (by kernel_rfl) (by simp [Try.ntmps59]) ?_; simp only [push_cast]
  repeat (first | apply zs | apply zr | apply zn | ((first | apply zx | apply zy); · simp only [push_cast, env, Nat.reduceEqDiff, reduceIte, Nat.reduceAdd, Nat.reduceMul, Nat.reduceLeDiff, reduceCtorEq, Nat.reduceSub, Int.reduceToNat] <;> first | exact rfl | exact .inl rfl | exact .inr rfl) | apply zq | apply zb | apply zo | apply zk | apply zl)
  refine cw_cond (by simp only [push_cast, env, Nat.reduceEqDiff, reduceIte] <;> exact rfl) (fun c1 => ?_) (fun c1 => ?_)
  · have c1' : 0 ≤ s.nt := by simpa using c1
    obtain ⟨a, ha⟩ : ∃ a : Nat, s.nt = a := ⟨s.nt.toNat, by omega⟩
    have hsy : symY (yfn Y (w.length + 1)) w s i j = yfn Y (w.length + 1) a i j := by unfold symY; rw [if_pos c1', ha, Int.toNat_natCast]
    rw [hsy, ha]
    have hl : tix (w.length + 1) a i j < Y.length := by rw [hY]; exact tix_lt (by omega) (by omega) (by omega)
    repeat (first | apply zs | apply zr | apply zn | ((first | apply zx | apply zy); · simp only [push_cast, env, Nat.reduceEqDiff, reduceIte, Nat.reduceAdd, Nat.reduceMul, Nat.reduceLeDiff, reduceCtorEq, Nat.reduceSub, Int.reduceToNat] <;> first | exact rfl | exact .inl rfl | exact .inr rfl) | apply zq | apply zb | apply zo | apply zk | apply zl)
    refine zc (fn := Try.f39) (by simp only [push_cast, env, Nat.reduceEqDiff, reduceIte] <;> exact rfl) Try.func39 (by kernel_rfl) (by kernel_rfl) ?_
    rw [List.append_nil]
    refine (thas_fw T hw (by omega) (by omega) hj hl).mono ?_
    rintro _ h ⟨rfl, rfl⟩
    repeat (first | apply zs | apply zr | apply zn | ((first | apply zx | apply zy); · simp only [push_cast, env, Nat.reduceEqDiff, reduceIte, Nat.reduceAdd, Nat.reduceMul, Nat.reduceLeDiff, reduceCtorEq, Nat.reduceSub, Int.reduceToNat] <;> first | exact rfl | exact .inl rfl | exact .inr rfl) | apply zq | apply zb | apply zo | apply zk | apply zl)
    refine cw_ret ?_
    exact ⟨_, (by simp only [push_cast, env, Nat.reduceEqDiff, reduceIte] <;> exact rfl), rfl, rfl⟩
  · have c1' : ¬ 0 ≤ s.nt := by simpa using c1
    refine cw_weakL [(0, .val (.pointer (some ⟨tp, 0, some 0⟩))), (2, .val (i64 i)), (3, .val (i64 j)), (5, .box [i64 s.nt, u64 s.set.a, u64 s.set.b, u64 s.set.c, u64 s.set.d])] (by simp only [push_cast, Nat.reduceEqDiff, reduceIte]) ?_
    show CW _ _ ⟨_, [], h⟩ _
    repeat (first | apply zs | apply zr | apply zn | apply zq | apply zb | apply zo | apply zk | apply zl)
    show CW _ _ _ _
    repeat (first | apply zs | apply zr | apply zn | apply zq | apply zb | apply zo | apply zk | apply zl)
    have e1 : IntKind.i64.wrap ((i : Int) + 1) = (i : Int) + 1 := wrap64_id (by omega) (by omega)
    by_cases hji : j = i + 1
    · have d1 : decide ((j : Int) = (i : Int) + 1) = true := decide_eq_true (by omega)
      obtain ⟨idw, offw, verw, ownw, cw', cellsw, hvw, hidw, hgw, hbw⟩ := hwR.at (i := i) (by omega)
      subst hvw
      have e6 := rng (k := i) (n := w.length) (by omega)
      have e7 : IntKind.i64.wrap (w[i] : Int) = (w[i] : Int) := wrap64_id (by omega) (by omega)
      have hsy : symY (yfn Y (w.length + 1)) w s i j = s.set.has w[i] := by
        unfold symY
        rw [if_neg c1', List.getElem?_eq_getElem (by omega : i < w.length), decide_eq_true hji]
        rfl
      rw [hsy]
      apply cw_ord0 (L := [[], [], [1], [0, 2], [3], [4], [4, 5], [4], [4, 7], [4, 8], [4, 9], [4], [4, 10, 11], [4, 12], [4, 13], [4, 6, 14], [4, 15], [16]]) (resL := [_, _, _, _, _, _, _, _, _, _, _, _, _, _, _, _, _, _]) (frF := [(8, .val (.bool (s.set.has w[i])))])
      case hm => exact mixed
      case hc => kernel_rfl
      case hb => rfl
      case hS =>
        repeat (first | exact Steps0.nil _ | (apply Steps0.cons; (· apply zz; simp only [push_cast, env, Nat.reduceEqDiff, reduceIte, Nat.reduceAdd, Nat.reduceMul, Nat.reduceLeDiff, reduceCtorEq, Nat.reduceSub, Int.reduceToNat, hc, e1, d1, hidw, hgw, e6, e7, Nat.mul_one] <;> exact rfl); (· rfl)))
        apply Steps0.cons; · refine one_call (fn := Try.f31) rfl (by simp only [push_cast, env, Nat.reduceEqDiff, reduceIte, d1] <;> exact rfl) rfl (by simp only [push_cast, env, Nat.reduceEqDiff, reduceIte, d1] <;> exact rfl) (by simp only [push_cast, env, Nat.reduceEqDiff, reduceIte, d1] <;> exact rfl) Try.func31 (by kernel_rfl) (by kernel_rfl) (has_fw hW hbw)
        · rfl
        repeat (first | exact Steps0.nil _ | (apply Steps0.cons; (· apply zz; simp only [push_cast, env, Nat.reduceEqDiff, reduceIte, Nat.reduceAdd, Nat.reduceMul, Nat.reduceLeDiff, reduceCtorEq, Nat.reduceSub, Int.reduceToNat] <;> exact rfl); (· rfl)))
      case ht => rfl
      case hF => repeat (first | exact trivial | (refine ⟨.inl ⟨by decide, rfl⟩, ?_⟩) | (refine ⟨.inr ⟨rfl, by simp⟩, ?_⟩))
      show CW _ _ _ _
      repeat (first | apply zs | apply zr | apply zn | ((first | apply zx | apply zy); · simp only [push_cast, env, Nat.reduceEqDiff, reduceIte, Nat.reduceAdd, Nat.reduceMul, Nat.reduceLeDiff, reduceCtorEq, Nat.reduceSub, Int.reduceToNat] <;> first | exact rfl | exact .inl rfl | exact .inr rfl) | apply zq | apply zb | apply zo | apply zk | apply zl)
      refine cw_ret ?_
      exact ⟨_, (by simp only [push_cast, env, Nat.reduceEqDiff, reduceIte] <;> exact rfl), rfl, rfl⟩
    · have d1 : decide ((j : Int) = (i : Int) + 1) = false := decide_eq_false (by omega)
      have hsy : symY (yfn Y (w.length + 1)) w s i j = false := by
        unfold symY
        rw [if_neg c1', decide_eq_false hji]
        rfl
      rw [hsy]
      apply cw_ord0 (L := [[], [], [1], [0, 2], [3], [4], [4, 5], [4], [4, 7], [4, 8], [4, 9], [4], [4, 10, 11], [4, 12], [4, 13], [4, 6, 14], [4, 15], [16]]) (resL := [_, _, _, _, _, _, _, _, _, _, _, _, _, _, _, _, _, _]) (frF := [(8, .val (.bool false))])
      case hm => exact mixed
      case hc => kernel_rfl
      case hb => rfl
      case hS => repeat (first | exact Steps0.nil _ | (apply Steps0.cons; (· apply zz; simp only [push_cast, env, Nat.reduceEqDiff, reduceIte, Nat.reduceAdd, Nat.reduceMul, Nat.reduceLeDiff, reduceCtorEq, Nat.reduceSub, Int.reduceToNat, hc, e1, d1, Nat.mul_one] <;> exact rfl); (· rfl)))
      case ht => rfl
      case hF => repeat (first | exact trivial | (refine ⟨.inl ⟨by decide, rfl⟩, ?_⟩) | (refine ⟨.inr ⟨rfl, by simp⟩, ?_⟩))
      show CW _ _ _ _
      repeat (first | apply zs | apply zr | apply zn | ((first | apply zx | apply zy); · simp only [push_cast, env, Nat.reduceEqDiff, reduceIte, Nat.reduceAdd, Nat.reduceMul, Nat.reduceLeDiff, reduceCtorEq, Nat.reduceSub, Int.reduceToNat] <;> first | exact rfl | exact .inl rfl | exact .inr rfl) | apply zq | apply zb | apply zo | apply zk | apply zl)
      refine cw_ret ?_
      exact ⟨_, (by simp only [push_cast, env, Nat.reduceEqDiff, reduceIte] <;> exact rfl), rfl, rfl⟩
end
theorem Grow.low {h0 h hk : Heap} {v : Value} {n : Nat} {cells : List Value} {et : TypeId} (g : Grow h hk v n cells et) (hp : h0.length ≤ h.length) : Grow h0 hk v n cells et := by
  rcases g with g | ⟨id, ver, h1, h2⟩
  · exact .inl g
  · exact .inr ⟨id, ver, by omega, h2⟩
def endL (yf : Nat → Nat → Nat → Bool) (w : List Nat) (l : List KSym) (i k : Nat) : List Bool := (List.range (w.length + 1)).map (endB yf w l i k)
theorem endL_get {yf : Nat → Nat → Nat → Bool} {w : List Nat} {l : List KSym} {i k j : Nat} (hj : j ≤ w.length) : ((endL yf w l i k).map Value.bool)[j]? = some (.bool (endB yf w l i k j)) := by
  unfold endL
  rw [List.map_map, List.getElem?_map, List.getElem?_range (by omega)]
  rfl
theorem map_take_succ {f : Nat → Bool} {n j : Nat} (hj : j < n) : ((List.range n).map f).take (j + 1) = ((List.range n).map f).take j ++ [f j] := by
  rw [List.take_succ_eq_append_getElem (by simpa using hj)]
  simp
def endF (yf : Nat → Nat → Nat → Bool) (w : List Nat) (l : List KSym) (i k j m : Nat) : Bool := decide (i ≤ m) && (endB yf w l i k m && symY yf w (l.getD k kdef) m j)
theorem any_succ {f : Nat → Bool} {n : Nat} : (List.range (n + 1)).any f = ((List.range n).any f || f n) := by
  rw [List.range_succ, List.any_append]
  simp
structure RdSymsP (h : Heap) (v : Value) (l : List KSym) : Prop where
  le : l.length ≤ 140737488355328
  form : ∃ p c, v = .slice p l.length c
  get : ∀ {i : Nat} (hi : i < l.length), ∃ id ver own c cells, v = .slice (some ⟨id, 0, some ver⟩) l.length c ∧ h[id]? = some (.arr cells ver own 43) ∧ rdH cells (i * 5) 5 = some [i64 l[i].nt, u64 l[i].set.a, u64 l[i].set.b, u64 l[i].set.c, u64 l[i].set.d]
theorem RdSymsP.of {h : Heap} {v : Value} {l : List KSym} (hr : RdSyms h v l) : RdSymsP h v l := ⟨RdSyms.le hr, SlR.form hr, fun hi => RdSyms.at hr hi⟩
set_option maxHeartbeats 8000000 in
theorem ends_fw {h : Heap} {tp : Nat} {g : Gram} {rv wv vl : Value} {w : List Nat} {yi yr : Nat} {Y : List Bool} {N : Nat} {l : List KSym} {i : Nat} (T : TbR h tp g rv wv w yi yr Y) (hwR : RdB h wv w) (hw : w.length ≤ 512) (hN : N ≤ 4096) (hY : Y.length = N * (w.length + 1) * (w.length + 1))
    (hl : RdSymsP h vl l) (hs : ∀ s ∈ l, s.nt < N ∧ SetWf s.set) (hi : i ≤ w.length) :
    FW env 46 [.pointer (some ⟨tp, 0, some 0⟩), vl, i64 i] h fun r h' => Grow h h' r (w.length + 1) ((endL (yfn Y (w.length + 1)) w l i l.length).map .bool) 4 ∧ h <+: h' := by
  obtain ⟨p, c, rfl⟩ := hl.form
  have hle := hl.le
  obtain ⟨cy, hc⟩ := T.c
  generalize hyf : yfn Y (w.length + 1) = yf
  have hlen0 : ∀ k, (endL yf w l i k).length = w.length + 1 := fun k => by unfold endL; simp
  refine fw_enter (fn := Try.f46) Try.func46 rfl (by kernel_rfl) (by simp [Try.ntmps46]) ?_; simp only [push_cast]
  repeat (first | apply zs | apply zr | apply zn | ((first | apply zx | apply zy); · simp only [push_cast, env, Nat.reduceEqDiff, reduceIte, Nat.reduceAdd, Nat.reduceMul, Nat.reduceLeDiff, reduceCtorEq, Nat.reduceSub, Int.reduceToNat] <;> first | exact rfl | exact .inl rfl | exact .inr rfl) | apply zq | apply zb | apply zo | apply zk | apply zl)
  refine cw_forG (w.length + 1) (fun j (x : Heap × Value) => [(0, .val (.pointer (some ⟨tp, 0, some 0⟩))), (1, .val (.slice p l.length c)), (2, .val (i64 i)), (7, .val x.2), (8, .val (i64 j))]) (fun _ x => x.1)
    (fun j x => h <+: x.1 ∧ Grow h x.1 x.2 j (((endL yf w l i 0).take j).map .bool) 4) (h, nilS) (by simp only [push_cast, Nat.reduceEqDiff, reduceIte]) rfl ⟨List.prefix_refl _, Grow.nil⟩ ?_
  rintro j ⟨hj, now⟩ hjn ⟨hp, hG⟩
  simp only at hp hG ⊢
  have hc1 := getElem?_of_prefix hp hc
  by_cases hlt : j < w.length + 1
  · have e3 : decide ((j : Int) ≤ (w.length : Int)) = true := decide_eq_true (by omega)
    have e2 : IntKind.i64.wrap ((j : Int) + 1) = ((j : Int) + 1) := wrap64_id (by omega) (by omega)
    have hlj : ((endL yf w l i 0).take j).length = j := by rw [List.length_take, hlen0]; omega
    repeat (first | apply zs | apply zr | apply zn | ((first | apply zx | apply zy); · simp only [push_cast, env, Nat.reduceEqDiff, reduceIte, Nat.reduceAdd, Nat.reduceMul, Nat.reduceLeDiff, reduceCtorEq, Nat.reduceSub, Int.reduceToNat, hc1, e3] <;> first | exact rfl | exact .inl rfl | exact .inr rfl) | apply zq | apply zb | apply zo | apply zk | apply zl)
    refine cw_condT rfl ?_
    repeat (first | apply zs | apply zr | apply zn | ((first | apply zx | apply zy); · simp only [push_cast, env, Nat.reduceEqDiff, reduceIte, Nat.reduceAdd, Nat.reduceMul, Nat.reduceLeDiff, reduceCtorEq, Nat.reduceSub, Int.reduceToNat] <;> first | exact rfl | exact .inl rfl | exact .inr rfl) | apply zq | apply zb | apply zo | apply zk | apply zl)
    refine ow_pushB (l := (endL yf w l i 0).take j) (b := decide ((j : Int) = (i : Int))) (by simp only [push_cast, env, Nat.reduceEqDiff, reduceIte] <;> exact rfl) rfl (by simp only [push_cast, env, Nat.reduceEqDiff, reduceIte] <;> exact rfl) rfl (by rw [hlj]; exact hG) hp (by omega) ?_
    rw [hlj]
    intro p1 c1 h1 G1 hp1 hk1 hl1
    repeat (first | apply zs | apply zr | apply zn | ((first | apply zx | apply zy); · simp only [push_cast, env, Nat.reduceEqDiff, reduceIte, Nat.reduceAdd, Nat.reduceMul, Nat.reduceLeDiff, reduceCtorEq, Nat.reduceSub, Int.reduceToNat, e2] <;> first | exact rfl | exact .inl rfl | exact .inr rfl) | apply zq | apply zb | apply zo | apply zk | apply zl)
    refine ⟨hlt, (h1, .slice p1 (j + 1) c1), (by simp only [push_cast, Nat.reduceEqDiff, reduceIte]), rfl, hp1, ?_⟩
    have : (endL yf w l i 0).take (j + 1) = (endL yf w l i 0).take j ++ [decide ((j : Int) = (i : Int))] := by
      unfold endL
      rw [map_take_succ hlt]
      congr 2
      simp only [endB]
      rw [decide_eq_decide]
      omega
    simp only
    rw [this]
    rw [List.length_append, hlj] at G1
    exact G1
  · have e3 : decide ((w.length : Int) + 1 ≤ (w.length : Int)) = false := decide_eq_false (by omega)
    obtain rfl : j = w.length + 1 := by omega
    repeat (first | apply zs | apply zr | apply zn | ((first | apply zx | apply zy); · simp only [push_cast, env, Nat.reduceEqDiff, reduceIte, Nat.reduceAdd, Nat.reduceMul, Nat.reduceLeDiff, reduceCtorEq, Nat.reduceSub, Int.reduceToNat, hc1, e3] <;> first | exact rfl | exact .inl rfl | exact .inr rfl) | apply zq | apply zb | apply zo | apply zk | apply zl)
    refine cw_condF rfl ?_
    refine cw_exit ?_
    show CW _ _ _ _
    rw [List.take_of_length_le (by rw [hlen0]; omega)] at hG
    clear hc1
    repeat (first | apply zs | apply zr | apply zn | ((first | apply zx | apply zy); · simp only [push_cast, env, Nat.reduceEqDiff, reduceIte, Nat.reduceAdd, Nat.reduceMul, Nat.reduceLeDiff, reduceCtorEq, Nat.reduceSub, Int.reduceToNat] <;> first | exact rfl | exact .inl rfl | exact .inr rfl) | apply zq | apply zb | apply zo | apply zk | apply zl)
    refine cw_forG l.length (fun k (x : Heap × Value) => [(0, .val (.pointer (some ⟨tp, 0, some 0⟩))), (1, .val (.slice p l.length c)), (2, .val (i64 i)), (7, .val x.2), (9, .val (i64 k))]) (fun _ x => x.1)
      (fun k x => h <+: x.1 ∧ Grow h x.1 x.2 (w.length + 1) ((endL yf w l i k).map .bool) 4) (hj, now) (by simp only [push_cast, Nat.reduceEqDiff, reduceIte]) rfl ⟨hp, hG⟩ ?_
    clear hp hG
    rintro k ⟨hk, now⟩ hkn ⟨hp, hG⟩
    simp only at hp hG ⊢
    by_cases hlt2 : k < l.length
    · have f3 := lt_dec hlt2
      have f2 := inc hlt2 (by omega)
      repeat (first | apply zs | apply zr | apply zn | ((first | apply zx | apply zy); · simp only [push_cast, env, Nat.reduceEqDiff, reduceIte, Nat.reduceAdd, Nat.reduceMul, Nat.reduceLeDiff, reduceCtorEq, Nat.reduceSub, Int.reduceToNat, f3] <;> first | exact rfl | exact .inl rfl | exact .inr rfl) | apply zq | apply zb | apply zo | apply zk | apply zl)
      refine cw_condT rfl ?_
      repeat (first | apply zs | apply zr | apply zn | ((first | apply zx | apply zy); · simp only [push_cast, env, Nat.reduceEqDiff, reduceIte, Nat.reduceAdd, Nat.reduceMul, Nat.reduceLeDiff, reduceCtorEq, Nat.reduceSub, Int.reduceToNat] <;> first | exact rfl | exact .inl rfl | exact .inr rfl) | apply zq | apply zb | apply zo | apply zk | apply zl)
      refine cw_forG (w.length + 1) (fun j (x : Heap × Value) => [(0, .val (.pointer (some ⟨tp, 0, some 0⟩))), (1, .val (.slice p l.length c)), (2, .val (i64 i)), (7, .val now), (9, .val (i64 k)), (10, .val x.2), (11, .val (i64 j))]) (fun _ x => x.1)
        (fun j x => hk <+: x.1 ∧ Grow hk x.1 x.2 j (((endL yf w l i (k + 1)).take j).map .bool) 4) (hk, nilS) (by simp only [push_cast, Nat.reduceEqDiff, reduceIte]) rfl ⟨List.prefix_refl _, Grow.nil⟩ ?_
      rintro j ⟨hj, nxt⟩ hjn ⟨hpj, hGj⟩
      simp only at hpj hGj ⊢
      have hph := hp.trans hpj
      have hc1 := getElem?_of_prefix hph hc
      by_cases hlt3 : j < w.length + 1
      · have e3 : decide ((j : Int) ≤ (w.length : Int)) = true := decide_eq_true (by omega)
        have e2 : IntKind.i64.wrap ((j : Int) + 1) = ((j : Int) + 1) := wrap64_id (by omega) (by omega)
        have hlj : ((endL yf w l i (k + 1)).take j).length = j := by rw [List.length_take, hlen0]; omega
        repeat (first | apply zs | apply zr | apply zn | ((first | apply zx | apply zy); · simp only [push_cast, env, Nat.reduceEqDiff, reduceIte, Nat.reduceAdd, Nat.reduceMul, Nat.reduceLeDiff, reduceCtorEq, Nat.reduceSub, Int.reduceToNat, hc1, e3] <;> first | exact rfl | exact .inl rfl | exact .inr rfl) | apply zq | apply zb | apply zo | apply zk | apply zl)
        refine cw_condT rfl ?_
        repeat (first | apply zs | apply zr | apply zn | ((first | apply zx | apply zy); · simp only [push_cast, env, Nat.reduceEqDiff, reduceIte, Nat.reduceAdd, Nat.reduceMul, Nat.reduceLeDiff, reduceCtorEq, Nat.reduceSub, Int.reduceToNat] <;> first | exact rfl | exact .inl rfl | exact .inr rfl) | apply zq | apply zb | apply zo | apply zk | apply zl)
        refine CW.mono (Q := fun e s' => e = .exit 6 ∧ s'.h = hj ∧ SubL [(0, .val (.pointer (some ⟨tp, 0, some 0⟩))), (1, .val (.slice p l.length c)), (2, .val (i64 i)), (7, .val now), (9, .val (i64 k)), (10, .val nxt), (11, .val (i64 j)), (12, .val (.bool (endB yf w l i (k + 1) j)))] s'.fr) ?_ ?_
        · refine cw_wh (fun x : Nat × Bool => j + 1 - x.1) (fun x => [(0, .val (.pointer (some ⟨tp, 0, some 0⟩))), (1, .val (.slice p l.length c)), (2, .val (i64 i)), (7, .val now), (9, .val (i64 k)), (10, .val nxt), (11, .val (i64 j)), (12, .val (.bool x.2)), (13, .val (i64 x.1))]) (fun _ => hj)
            (fun x => i ≤ x.1 ∧ (x.1 ≤ j + 1 ∨ x.1 = i) ∧ x.2 = (List.range x.1).any (endF yf w l i k j)) (i, false) (by simp only [push_cast, Nat.reduceEqDiff, reduceIte]) rfl ⟨Nat.le_refl _, .inr rfl, ?_⟩ ?_
          · simp only
            rw [eq_comm, List.any_eq_false]
            intro m hm
            rw [List.mem_range] at hm
            unfold endF
            rw [decide_eq_false (by omega)]
            simp
          rintro ⟨m, is⟩ ⟨hm1, hm2, hm3⟩
          simp only at hm1 hm2 hm3 ⊢
          have hfin : is = true ∨ ¬ m ≤ j → is = endB yf w l i (k + 1) j := fun hh => by
            have e0 : endB yf w l i (k + 1) j = (List.range (j + 1)).any (endF yf w l i k j) := rfl
            rw [e0, hm3, Bool.eq_iff_iff, List.any_eq_true, List.any_eq_true]
            constructor
            · rintro ⟨q, hq, hf⟩
              rw [List.mem_range] at hq
              have hiq : i ≤ q := by unfold endF at hf; simp only [Bool.and_eq_true, decide_eq_true_eq] at hf; exact hf.1
              exact ⟨q, List.mem_range.2 (by omega), hf⟩
            · rintro ⟨q, hq, hf⟩
              rw [List.mem_range] at hq
              rcases hh with hh | hh
              · rw [hm3, List.any_eq_true] at hh
                exact hh
              · exact ⟨q, List.mem_range.2 (by omega), hf⟩
          by_cases hmj : m ≤ j
          · have d1 : decide ((m : Int) ≤ (j : Int)) = true := decide_eq_true (by omega)
            have e4 : IntKind.i64.wrap ((m : Int) + 1) = ((m : Int) + 1) := wrap64_id (by omega) (by omega)
            cases is with
            | true =>
              repeat (first | apply zs | apply zr | apply zn | ((first | apply zx | apply zy); · simp only [push_cast, env, Nat.reduceEqDiff, reduceIte, Nat.reduceAdd, Nat.reduceMul, Nat.reduceLeDiff, reduceCtorEq, Nat.reduceSub, Int.reduceToNat, d1] <;> first | exact rfl | exact .inl rfl | exact .inr rfl) | apply zq | apply zb | apply zo | apply zk | apply zl)
              refine cw_condF rfl ?_
              refine cw_exit ?_
              have := hfin (.inl rfl)
              exact ⟨rfl, rfl, by rw [← this]; exact ⟨rfl, rfl, rfl, rfl, rfl, rfl, rfl, rfl, trivial⟩⟩
            | false =>
              repeat (first | apply zs | apply zr | apply zn | ((first | apply zx | apply zy); · simp only [push_cast, env, Nat.reduceEqDiff, reduceIte, Nat.reduceAdd, Nat.reduceMul, Nat.reduceLeDiff, reduceCtorEq, Nat.reduceSub, Int.reduceToNat, d1] <;> first | exact rfl | exact .inl rfl | exact .inr rfl) | apply zq | apply zb | apply zo | apply zk | apply zl)
              refine cw_condT rfl ?_
              obtain ⟨idn, vern, hnl, hne, hng⟩ := hG.mine (by omega)
              subst hne
              have hng' := getElem?_of_prefix hpj hng
              have hgt := endL_get (yf := yf) (w := w) (l := l) (i := i) (k := k) (j := m) (by omega)
              have r1 : (0 ≤ (m : Int) ∧ (m : Int) < (w.length : Int) + 1) = True := by simp; omega
              have hnext : (List.range (m + 1)).any (endF yf w l i k j) = (false || endF yf w l i k j m) := by rw [any_succ, ← hm3]
              have heF : endF yf w l i k j m = (endB yf w l i k m && symY yf w (l.getD k kdef) m j) := by unfold endF; rw [decide_eq_true hm1]; rfl
              cases hb : endB yf w l i k m with
              | false =>
                rw [hb] at hgt heF
                repeat (first | apply zs | apply zr | apply zn | ((first | apply zx | apply zy); · simp only [push_cast, env, Nat.reduceEqDiff, reduceIte, Nat.reduceAdd, Nat.reduceMul, Nat.reduceLeDiff, reduceCtorEq, Nat.reduceSub, Int.reduceToNat, hng', hgt, r1, Nat.mul_one, e4] <;> first | exact rfl | exact .inl rfl | exact .inr rfl) | apply zq | apply zb | apply zo | apply zk | apply zl)
                exact ⟨(m + 1, false), by simp only; omega, (by simp only [push_cast, Nat.reduceEqDiff, reduceIte]), rfl, by simp only; omega, by simp only; omega, by simp only; rw [hnext, heF]; rfl⟩
              | true =>
                rw [hb] at hgt heF
                obtain ⟨ids, vers, owns, cs, cellss, hvs, hids, hrds⟩ := hl.get hlt2
                cases hvs
                have hids' := getElem?_of_prefix hph hids
                have e5 := rng hlt2
                have hgd : l.getD k kdef = l[k] := by rw [List.getD_eq_getElem?_getD, List.getElem?_eq_getElem hlt2]; rfl
                rw [hgd] at heF
                obtain ⟨s1, s2⟩ := hs _ (List.getElem_mem hlt2)
                repeat (first | apply zs | apply zr | apply zn | ((first | apply zx | apply zy); · simp only [push_cast, env, Nat.reduceEqDiff, reduceIte, Nat.reduceAdd, Nat.reduceMul, Nat.reduceLeDiff, reduceCtorEq, Nat.reduceSub, Int.reduceToNat, hng', hgt, r1, Nat.mul_one, hids', hrds, e5] <;> first | exact rfl | exact .inl rfl | exact .inr rfl) | apply zq | apply zb | apply zo | apply zk | apply zl)
                refine zc (fn := Try.f59) (by simp only [push_cast, env, Nat.reduceEqDiff, reduceIte] <;> exact rfl) Try.func59 (by kernel_rfl) (by kernel_rfl) ?_
                rw [List.append_nil]
                refine (sym_fw (T.mono hph) (hwR.mono hph) hw hN hY s1 s2 hmj (by omega)).mono ?_
                rintro _ hj ⟨rfl, rfl⟩
                rw [hyf]
                repeat (first | apply zs | apply zr | apply zn | ((first | apply zx | apply zy); · simp only [push_cast, env, Nat.reduceEqDiff, reduceIte, Nat.reduceAdd, Nat.reduceMul, Nat.reduceLeDiff, reduceCtorEq, Nat.reduceSub, Int.reduceToNat, e4] <;> first | exact rfl | exact .inl rfl | exact .inr rfl) | apply zq | apply zb | apply zo | apply zk | apply zl)
                exact ⟨(m + 1, symY yf w l[k] m j), by simp only; omega, (by simp only [push_cast, Nat.reduceEqDiff, reduceIte]), rfl, by simp only; omega, by simp only; omega, by simp only; rw [hnext, heF]; rfl⟩
          · have d1 : decide ((m : Int) ≤ (j : Int)) = false := decide_eq_false (by omega)
            repeat (first | apply zs | apply zr | apply zn | ((first | apply zx | apply zy); · simp only [push_cast, env, Nat.reduceEqDiff, reduceIte, Nat.reduceAdd, Nat.reduceMul, Nat.reduceLeDiff, reduceCtorEq, Nat.reduceSub, Int.reduceToNat, d1] <;> first | exact rfl | exact .inl rfl | exact .inr rfl) | apply zq | apply zb | apply zo | apply zk | apply zl)
            refine cw_condF rfl ?_
            refine cw_exit ?_
            have := hfin (.inr hmj)
            exact ⟨rfl, rfl, by rw [← this]; exact ⟨rfl, rfl, rfl, rfl, rfl, rfl, rfl, rfl, trivial⟩⟩
        rintro e s' ⟨rfl, hh, hf⟩
        show CW _ _ _ _
        refine cw_weakL _ hf ?_
        rw [hh]
        clear hh hf s'
        repeat (first | apply zs | apply zr | apply zn | ((first | apply zx | apply zy); · simp only [push_cast, env, Nat.reduceEqDiff, reduceIte, Nat.reduceAdd, Nat.reduceMul, Nat.reduceLeDiff, reduceCtorEq, Nat.reduceSub, Int.reduceToNat] <;> first | exact rfl | exact .inl rfl | exact .inr rfl) | apply zq | apply zb | apply zo | apply zk | apply zl)
        refine ow_pushB (l := (endL yf w l i (k + 1)).take j) (b := endB yf w l i (k + 1) j) (by simp only [push_cast, env, Nat.reduceEqDiff, reduceIte] <;> exact rfl) rfl (by simp only [push_cast, env, Nat.reduceEqDiff, reduceIte] <;> exact rfl) rfl (by rw [hlj]; exact hGj) hpj (by omega) ?_
        rw [hlj]
        intro p1 c1 h1 G1 hp1 hk1 hl1
        repeat (first | apply zs | apply zr | apply zn | ((first | apply zx | apply zy); · simp only [push_cast, env, Nat.reduceEqDiff, reduceIte, Nat.reduceAdd, Nat.reduceMul, Nat.reduceLeDiff, reduceCtorEq, Nat.reduceSub, Int.reduceToNat, e2] <;> first | exact rfl | exact .inl rfl | exact .inr rfl) | apply zq | apply zb | apply zo | apply zk | apply zl)
        refine ⟨hlt3, (h1, .slice p1 (j + 1) c1), (by simp only [push_cast, Nat.reduceEqDiff, reduceIte]), rfl, hp1, ?_⟩
        have : (endL yf w l i (k + 1)).take (j + 1) = (endL yf w l i (k + 1)).take j ++ [endB yf w l i (k + 1) j] := by
          unfold endL
          rw [map_take_succ hlt3]
        simp only
        rw [this]
        rw [List.length_append, hlj] at G1
        exact G1
      · have e3 : decide ((w.length : Int) + 1 ≤ (w.length : Int)) = false := decide_eq_false (by omega)
        obtain rfl : j = w.length + 1 := by omega
        repeat (first | apply zs | apply zr | apply zn | ((first | apply zx | apply zy); · simp only [push_cast, env, Nat.reduceEqDiff, reduceIte, Nat.reduceAdd, Nat.reduceMul, Nat.reduceLeDiff, reduceCtorEq, Nat.reduceSub, Int.reduceToNat, hc1, e3] <;> first | exact rfl | exact .inl rfl | exact .inr rfl) | apply zq | apply zb | apply zo | apply zk | apply zl)
        refine cw_condF rfl ?_
        refine cw_exit ?_
        show CW _ _ _ _
        rw [List.take_of_length_le (by rw [hlen0]; omega)] at hGj
        repeat (first | apply zs | apply zr | apply zn | ((first | apply zx | apply zy); · simp only [push_cast, env, Nat.reduceEqDiff, reduceIte, Nat.reduceAdd, Nat.reduceMul, Nat.reduceLeDiff, reduceCtorEq, Nat.reduceSub, Int.reduceToNat, f2] <;> first | exact rfl | exact .inl rfl | exact .inr rfl) | apply zq | apply zb | apply zo | apply zk | apply zl)
        exact ⟨hlt2, (hj, nxt), (by simp only [push_cast, Nat.reduceEqDiff, reduceIte]), rfl, hph, hGj.low hp.length_le⟩
    · have f3 := ge_dec hlt2
      obtain rfl : k = l.length := by omega
      repeat (first | apply zs | apply zr | apply zn | ((first | apply zx | apply zy); · simp only [push_cast, env, Nat.reduceEqDiff, reduceIte, Nat.reduceAdd, Nat.reduceMul, Nat.reduceLeDiff, reduceCtorEq, Nat.reduceSub, Int.reduceToNat, f3] <;> first | exact rfl | exact .inl rfl | exact .inr rfl) | apply zq | apply zb | apply zo | apply zk | apply zl)
      refine cw_condF rfl ?_
      refine cw_exit ?_
      show CW _ _ _ _
      repeat (first | apply zs | apply zr | apply zn | ((first | apply zx | apply zy); · simp only [push_cast, env, Nat.reduceEqDiff, reduceIte, Nat.reduceAdd, Nat.reduceMul, Nat.reduceLeDiff, reduceCtorEq, Nat.reduceSub, Int.reduceToNat] <;> first | exact rfl | exact .inl rfl | exact .inr rfl) | apply zq | apply zb | apply zo | apply zk | apply zl)
      refine cw_ret ?_
      refine ⟨_, (by simp only [push_cast, env, Nat.reduceEqDiff, reduceIte] <;> exact rfl), ?_, hp⟩
      exact hG
end Go.Proofs.Ytafncpgiibikcaa

namespace Go.Proofs.Ytafncpgiibikcaa
set_option linter.unusedSimpArgs false
set_option linter.unusedVariables false
set_option maxRecDepth 20000
open Go.RowKit Am Ty

def PrD (g : Gram) (w : List Nat) (yf : Nat → Nat → Nat → Bool) (r i j : Nat) : Prop :=
  ∀ (r' : Nat) (q : Rule) (i' j' : Nat), g.rules[r']? = some q → (r' < r ∨ r' = r ∧ (i' < i ∨ i' = i ∧ j' < j)) → i' ≤ j' → j' ≤ w.length → endB yf w q.rhs i' q.rhs.length j' = true → yf q.lhs.toNat i' j' = true
theorem PrD.start {g : Gram} {w : List Nat} {yf : Nat → Nat → Nat → Bool} : PrD g w yf 0 0 0 := fun r' q i' j' _ h => by omega
theorem PrD.rowStart {g : Gram} {w : List Nat} {yf : Nat → Nat → Nat → Bool} {r i : Nat} (h : PrD g w yf r i 0) : PrD g w yf r i i := fun r' q i' j' h1 h2 h3 h4 => h r' q i' j' h1 (by omega) h3 h4
theorem PrD.rowEnd {g : Gram} {w : List Nat} {yf : Nat → Nat → Nat → Bool} {r i : Nat} (h : PrD g w yf r i (w.length + 1)) : PrD g w yf r (i + 1) 0 := fun r' q i' j' h1 h2 h3 h4 => h r' q i' j' h1 (by omega) h3 h4
theorem PrD.ruleEnd {g : Gram} {w : List Nat} {yf : Nat → Nat → Nat → Bool} {r : Nat} (h : PrD g w yf r (w.length + 1) 0) : PrD g w yf (r + 1) 0 0 := fun r' q i' j' h1 h2 h3 h4 => h r' q i' j' h1 (by omega) h3 h4
theorem PrD.step {g : Gram} {w : List Nat} {yf : Nat → Nat → Nat → Bool} {r i j : Nat} {q : Rule} (h : PrD g w yf r i j) (hq : g.rules[r]? = some q) (hs : endB yf w q.rhs i q.rhs.length j = true → yf q.lhs.toNat i j = true) : PrD g w yf r i (j + 1) := fun r' q' i' j' h1 h2 h3 h4 h5 => by
  by_cases e : r' = r ∧ i' = i ∧ j' = j
  · obtain ⟨rfl, rfl, rfl⟩ := e
    obtain rfl : q = q' := Option.some.inj (hq.symm.trans h1)
    exact hs h5
  · exact h r' q' i' j' h1 (by omega) h3 h4 h5
theorem PrD.closed {g : Gram} {w : List Nat} {yf : Nat → Nat → Nat → Bool} (h : PrD g w yf g.rules.length 0 0) : TClosed g.rules w yf := fun r hr i j hij hj he => by
  obtain ⟨k, hk⟩ := List.getElem?_of_mem hr
  exact h k r i j hk (.inl (List.getElem?_eq_some_iff.1 hk).1) hij hj he
structure RoundI (h : Heap) (tp : Nat) (g : Gram) (rv wv : Value) (w : List Nat) (yi yr N : Nat) (Y0 : List Bool) (r i j : Nat) (hk : Heap) (Y : List Bool) (more : Bool) : Prop where
  p : h <+: hk
  t : TbR hk tp g rv wv w yi yr Y
  n : Y.length = N * (w.length + 1) * (w.length + 1)
  s : TSound g.rules w (yfn Y (w.length + 1))
  m : more = true → Y.count false < Y0.count false
  f : more = false → Y = Y0 ∧ PrD g w (yfn Y0 (w.length + 1)) r i j
theorem sound_set {g : Gram} {w : List Nat} {Y : List Bool} {N : Nat} {q : Rule} {i j : Nat} (hq : q ∈ g.rules) (h0 : 0 ≤ q.lhs) (hN : q.lhs < N) (hY : Y.length = N * (w.length + 1) * (w.length + 1)) (hs : TSound g.rules w (yfn Y (w.length + 1))) (hij : i ≤ j) (hj : j ≤ w.length) (hd : Sq g.rules w q.rhs i j) :
    TSound g.rules w (yfn (Y.set (tix (w.length + 1) q.lhs.toNat i j) true) (w.length + 1)) := fun a i' j' h1 h2 h3 => by
  rw [yfn_set (by omega) (by omega) (by omega) (by omega) (by rw [hY]; exact tix_lt (by omega) (by omega) (by omega))] at h3
  split at h3
  · rename_i e
    obtain ⟨e1, rfl, rfl⟩ := e
    exact ⟨q, hq, by rw [← e1, Int.toNat_of_nonneg h0], hd.2.2⟩
  · exact hs a i' j' h1 h2 h3
theorem rep_snoc {k : Nat} : List.replicate (k + 1) false = List.replicate k false ++ [false] := by rw [List.replicate_succ']
theorem RoundI.mono {h : Heap} {tp : Nat} {g : Gram} {rv wv : Value} {w : List Nat} {yi yr N : Nat} {Y0 : List Bool} {r i j : Nat} {hk hk' : Heap} {Y : List Bool} {more : Bool} (I : RoundI h tp g rv wv w yi yr N Y0 r i j hk Y more) (hp : hk <+: hk') : RoundI h tp g rv wv w yi yr N Y0 r i j hk' Y more :=
  ⟨I.p.trans hp, I.t.mono hp, I.n, I.s, I.m, I.f⟩
theorem RoundI.upd {h : Heap} {tp : Nat} {g : Gram} {rv wv : Value} {w : List Nat} {yi yr N : Nat} {Y0 : List Bool} {r i j : Nat} {r' i' j' : Nat} {hk : Heap} {Y : List Bool} {more : Bool} (I : RoundI h tp g rv wv w yi yr N Y0 r i j hk Y more) (hf : PrD g w (yfn Y0 (w.length + 1)) r i j → PrD g w (yfn Y0 (w.length + 1)) r' i' j') : RoundI h tp g rv wv w yi yr N Y0 r' i' j' hk Y more :=
  ⟨I.p, I.t, I.n, I.s, I.m, fun hm => ⟨(I.f hm).1, hf (I.f hm).2⟩⟩
theorem TbR.ne {h : Heap} {tp : Nat} {g : Gram} {rv wv : Value} {w : List Nat} {yi yr : Nat} {Y : List Bool} (T : TbR h tp g rv wv w yi yr Y) : yi ≠ tp := by
  rintro rfl
  obtain ⟨cy, hc⟩ := T.c
  rw [T.y] at hc
  simp only [Option.some.injEq, HObj.arr.injEq] at hc
  exact absurd hc.2.2.2 (by decide)
theorem TbR.set {h : Heap} {tp : Nat} {g : Gram} {rv wv : Value} {w : List Nat} {yi yr : Nat} {Y : List Bool} (T : TbR h tp g rv wv w yi yr Y) (k : Nat) : TbR (h.set yi (.arr ((Y.set k true).map .bool) yr true 4)) tp g rv wv w yi yr (Y.set k true) := by
  obtain ⟨cy, hc⟩ := T.c
  exact ⟨⟨cy, by rw [get_set_ne T.ne, List.length_set]; exact hc⟩, get_set_self T.y⟩
set_option maxHeartbeats 16000000 in
theorem fill_fw {h : Heap} {g : Gram} {v wv : Value} {w : List Nat} {N : Nat} (hr : RdGram h v g) (hwR : RdB h wv w) (R : RightS g) (W : WfG g) (hw : w.length ≤ 512) (hN : g.nts = N) (hsz : N * (w.length + 1) * (w.length + 1) ≤ 1000000) :
    FW env 38 [v, wv] h fun r h' => ∃ tp rv yi yr Y, r = .pointer (some ⟨tp, 0, some 0⟩) ∧ h <+: h' ∧ TbR h' tp g rv wv w yi yr Y ∧ Y.length = N * (w.length + 1) * (w.length + 1) ∧ TSound g.rules w (yfn Y (w.length + 1)) ∧ TFull g.rules w (yfn Y (w.length + 1)) ∧ RdRules h rv g.rules := by
  obtain ⟨u, rfl, hu⟩ := id hr
  obtain ⟨p, c, rfl⟩ := hu.form
  obtain ⟨pw, cw, rfl⟩ := hwR.form
  have n1 := R.n1
  have n2 := R.n2
  have hrl := R.rl
  have hM : ((w.length : Int) + 1) = ((w.length + 1 : Nat) : Int) := by omega
  have b0 : N * (w.length + 1) ≤ 1000000 := Nat.le_trans (Nat.le_mul_of_pos_right _ (by omega)) hsz
  have e1 : IntKind.i64.wrap ((w.length : Int) + 1) = (w.length : Int) + 1 := wrap64_id (by omega) (by omega)
  have e2 : IntKind.i64.wrap (g.nts * ((w.length : Int) + 1)) = g.nts * ((w.length : Int) + 1) := by
    rw [hN, hM, ← Int.natCast_mul]
    exact wrap64_id (by omega) (by omega)
  obtain ⟨T, hT⟩ : ∃ T : Nat, T = N * (w.length + 1) * (w.length + 1) := ⟨_, rfl⟩
  have e3 : IntKind.i64.wrap (g.nts * ((w.length : Int) + 1) * ((w.length : Int) + 1)) = (T : Int) := by
    rw [hN, hM, ← Int.natCast_mul, ← Int.natCast_mul, ← hT]
    exact wrap64_id (by omega) (by omega)
  have hT0 : 0 < T := by rw [hT]; exact Nat.mul_pos (Nat.mul_pos (by omega) (by omega)) (by omega)
  refine fw_enter (fn := Try.f38) Try.func38 rfl (by kernel_rfl) (by simp [Try.ntmps38]) ?_; simp only [push_cast]
  repeat (first | apply zs | apply zr | apply zn | apply zq | apply zb | apply zo | apply zk | apply zl)
  iterate 2 (apply ow_cons; · simp only [push_cast, env, Nat.reduceEqDiff, reduceIte, Nat.reduceAdd, Nat.reduceMul, Nat.reduceLeDiff, reduceCtorEq, Nat.reduceSub, Int.reduceToNat] <;> exact rfl)
  repeat (first | apply zs | apply zr | apply zn | apply zq | apply zb | apply zo | apply zk | apply zl)
  iterate 5 (apply ow_cons; · simp only [push_cast, env, Nat.reduceEqDiff, reduceIte, Nat.reduceAdd, Nat.reduceMul, Nat.reduceLeDiff, reduceCtorEq, Nat.reduceSub, Int.reduceToNat] <;> exact rfl)
  refine ow_boxH (by simp only [push_cast, env, Nat.reduceEqDiff, reduceIte] <;> exact rfl) (by simp only [push_cast, env, Nat.reduceEqDiff, reduceIte] <;> exact rfl) ?_
  simp only [St.putO, St.put]
  obtain ⟨h1, hh1⟩ : ∃ h1, h1 = h ++ [HObj.arr [i64 g.nts, i64 g.start, .slice p g.rules.length c, .slice pw w.length cw, i64 w.length, nilS] 0 true 79] := ⟨_, rfl⟩
  have hp1 : h <+: h1 := by rw [hh1]; exact prefix_push
  have ht1 : h1[h.length]? = some (.arr [i64 g.nts, i64 g.start, .slice p g.rules.length c, .slice pw w.length cw, i64 w.length, nilS] 0 true 79) := by rw [hh1]; exact get_push
  rw [← hh1]
  clear hh1
  repeat (first | apply zs | apply zr | apply zn | ((first | apply zx | apply zy); · simp only [push_cast, env, Nat.reduceEqDiff, reduceIte, Nat.reduceAdd, Nat.reduceMul, Nat.reduceLeDiff, reduceCtorEq, Nat.reduceSub, Int.reduceToNat] <;> first | exact rfl | exact .inl rfl | exact .inr rfl) | apply zq | apply zb | apply zo | apply zk | apply zl)
  refine cw_forG T (fun k (x : Heap × Value) => [(2, .box [i64 g.nts, i64 g.start, .slice p g.rules.length c]), (5, .val (.pointer (some ⟨h.length, 0, some 0⟩))), (6, .val (i64 k))]) (fun _ x => x.1)
    (fun k x => h <+: x.1 ∧ x.1[h.length]? = some (.arr [i64 g.nts, i64 g.start, .slice p g.rules.length c, .slice pw w.length cw, i64 w.length, x.2] 0 true 79) ∧ Grow h x.1 x.2 k ((List.replicate k false).map .bool) 4) (h1, nilS) (by simp only [push_cast, Nat.reduceEqDiff, reduceIte]) rfl ⟨hp1, ht1, Grow.nil⟩ ?_
  clear hp1 ht1 h1
  rintro k ⟨hk, yv⟩ hkn ⟨hp, ht, hG⟩
  simp only at hp ht hG ⊢
  obtain ⟨py, cy, rfl⟩ := hG.form
  repeat (first | apply zs | apply zr | apply zn | ((first | apply zx | apply zy); · simp only [push_cast, env, Nat.reduceEqDiff, reduceIte, Nat.reduceAdd, Nat.reduceMul, Nat.reduceLeDiff, reduceCtorEq, Nat.reduceSub, Int.reduceToNat] <;> first | exact rfl | exact .inl rfl | exact .inr rfl) | apply zq | apply zb | apply zo | apply zk | apply zl)
  refine cw_regionD 15 mixed (by kernel_rfl) ?_
  by_cases hlt : k < T
  · have f3 := lt_dec hlt
    have f2 := inc hlt (by omega)
    repeat (first | apply zs | apply zr | apply zn | ((first | apply zx | apply zy); · simp only [push_cast, env, Nat.reduceEqDiff, reduceIte, Nat.reduceAdd, Nat.reduceMul, Nat.reduceLeDiff, reduceCtorEq, Nat.reduceSub, Int.reduceToNat, ht, e1, e2, e3, f3] <;> first | exact rfl | exact .inl rfl | exact .inr rfl) | apply zq | apply zb | apply zo | apply zk | apply zl)
    refine cw_condT rfl ?_
    repeat (first | apply zs | apply zr | apply zn | ((first | apply zx | apply zy); · simp only [push_cast, env, Nat.reduceEqDiff, reduceIte, Nat.reduceAdd, Nat.reduceMul, Nat.reduceLeDiff, reduceCtorEq, Nat.reduceSub, Int.reduceToNat, ht] <;> first | exact rfl | exact .inl rfl | exact .inr rfl) | apply zq | apply zb | apply zo | apply zk | apply zl)
    refine ow_pushB (l := List.replicate k false) (b := false) (by simp only [push_cast, env, Nat.reduceEqDiff, reduceIte] <;> exact rfl) rfl (by simp only [push_cast, env, Nat.reduceEqDiff, reduceIte] <;> exact rfl) rfl (by rw [List.length_replicate]; exact hG) hp (by rw [List.length_replicate]; omega) ?_
    rw [List.length_replicate]
    intro p1 c1 h2 G2 hp2 hk2 hl2
    have ht2 := hk2 _ _ (by
      cases hb : isAt (.slice py k cy) h.length with
      | false => rfl
      | true =>
        obtain ⟨ve, h5⟩ := hG.obj hb
        rw [ht] at h5
        simp only [Option.some.injEq, HObj.arr.injEq] at h5
        exact absurd h5.2.2.2 (by decide)) ht
    repeat (first | apply zs | apply zr | apply zn | ((first | apply zx | apply zy); · simp only [push_cast, env, Nat.reduceEqDiff, reduceIte, Nat.reduceAdd, Nat.reduceMul, Nat.reduceLeDiff, reduceCtorEq, Nat.reduceSub, Int.reduceToNat] <;> first | exact rfl | exact .inl rfl | exact .inr rfl) | apply zq | apply zb | apply zo | apply zk | apply zl)
    refine ow_stoH (cells' := [i64 g.nts, i64 g.start, .slice p g.rules.length c, .slice pw w.length cw, i64 w.length, .slice p1 (k + 1) c1]) (by simp only [push_cast, env, Nat.reduceEqDiff, reduceIte] <;> exact rfl) rfl rfl (by simp only [push_cast, env, Nat.reduceEqDiff, reduceIte] <;> exact rfl) (by simp only [push_cast, env, Nat.reduceEqDiff, reduceIte] <;> exact rfl) ht2 (by simp only [push_cast, env, Nat.reduceEqDiff, reduceIte] <;> exact rfl) rfl rfl ?_
    repeat (first | apply zs | apply zr | apply zn | ((first | apply zx | apply zy); · simp only [push_cast, env, Nat.reduceEqDiff, reduceIte, Nat.reduceAdd, Nat.reduceMul, Nat.reduceLeDiff, reduceCtorEq, Nat.reduceSub, Int.reduceToNat, f2] <;> first | exact rfl | exact .inl rfl | exact .inr rfl) | apply zq | apply zb | apply zo | apply zk | apply zl)
    refine ⟨hlt, (_, .slice p1 (k + 1) c1), (by simp only [push_cast, Nat.reduceEqDiff, reduceIte]), rfl, pre_set hp2 (Nat.le_refl _), get_set_self ht2, ?_⟩
    simp only
    rw [← rep_snoc, List.length_replicate] at G2
    refine G2.mono fun i o hi ho => ?_
    rw [get_set_ne (by
      rintro rfl
      obtain ⟨ve, h5⟩ := G2.obj hi
      rw [ht2] at h5
      simp only [Option.some.injEq, HObj.arr.injEq] at h5
      exact absurd h5.2.2.2 (by decide))]
    exact ho
  · have f3 := ge_dec hlt
    obtain rfl : k = T := by omega
    repeat (first | apply zs | apply zr | apply zn | ((first | apply zx | apply zy); · simp only [push_cast, env, Nat.reduceEqDiff, reduceIte, Nat.reduceAdd, Nat.reduceMul, Nat.reduceLeDiff, reduceCtorEq, Nat.reduceSub, Int.reduceToNat, ht, e1, e2, e3, f3] <;> first | exact rfl | exact .inl rfl | exact .inr rfl) | apply zq | apply zb | apply zo | apply zk | apply zl)
    refine cw_condF rfl ?_
    refine cw_exit ?_
    show CW _ _ _ _
    obtain ⟨yi, yr, hyi, hye, hyg⟩ := hG.mine hT0
    cases hye
    have T0 : TbR hk h.length g (.slice p g.rules.length c) (.slice pw w.length cw) w yi yr (List.replicate k false) := ⟨⟨k, by rw [List.length_replicate]; exact ht⟩, hyg⟩
    have S0 : TSound g.rules w (yfn (List.replicate k false) (w.length + 1)) := fun a i j _ _ hb => by
      unfold yfn at hb
      rw [List.getD_eq_getElem?_getD, List.getElem?_replicate] at hb
      split at hb <;> cases hb
    repeat (first | apply zs | apply zr | apply zn | ((first | apply zx | apply zy); · simp only [push_cast, env, Nat.reduceEqDiff, reduceIte, Nat.reduceAdd, Nat.reduceMul, Nat.reduceLeDiff, reduceCtorEq, Nat.reduceSub, Int.reduceToNat] <;> first | exact rfl | exact .inl rfl | exact .inr rfl) | apply zq | apply zb | apply zo | apply zk | apply zl)
    refine cw_wh (fun x : Heap × List Bool × Bool => 2 * x.2.1.count false + (if x.2.2 = true then 1 else 0)) (fun x => [(2, .box [i64 g.nts, i64 g.start, .slice p g.rules.length c]), (5, .val (.pointer (some ⟨h.length, 0, some 0⟩))), (7, .val (.bool x.2.2))]) (fun x => x.1)
      (fun x => h <+: x.1 ∧ TbR x.1 h.length g (.slice p g.rules.length c) (.slice pw w.length cw) w yi yr x.2.1 ∧ x.2.1.length = N * (w.length + 1) * (w.length + 1) ∧ TSound g.rules w (yfn x.2.1 (w.length + 1)) ∧ (x.2.2 = false → TClosed g.rules w (yfn x.2.1 (w.length + 1)))) (hk, List.replicate k false, true) (by simp only [push_cast, Nat.reduceEqDiff, reduceIte]) rfl ⟨hp, T0, by simp [hT], S0, fun h => (by cases h)⟩ ?_
    clear T0 S0 hyg hG hp ht hk
    rintro ⟨hk, Y0, more⟩ ⟨hp, T0, hY0, S0, hcl⟩
    simp only at hp T0 hY0 S0 hcl ⊢
    cases more with
    | false =>
      repeat (first | apply zs | apply zr | apply zn | ((first | apply zx | apply zy); · simp only [push_cast, env, Nat.reduceEqDiff, reduceIte, Nat.reduceAdd, Nat.reduceMul, Nat.reduceLeDiff, reduceCtorEq, Nat.reduceSub, Int.reduceToNat] <;> first | exact rfl | exact .inl rfl | exact .inr rfl) | apply zq | apply zb | apply zo | apply zk | apply zl)
      refine cw_condF rfl ?_
      refine cw_exit ?_
      show CW _ _ _ _
      repeat (first | apply zs | apply zr | apply zn | ((first | apply zx | apply zy); · simp only [push_cast, env, Nat.reduceEqDiff, reduceIte, Nat.reduceAdd, Nat.reduceMul, Nat.reduceLeDiff, reduceCtorEq, Nat.reduceSub, Int.reduceToNat] <;> first | exact rfl | exact .inl rfl | exact .inr rfl) | apply zq | apply zb | apply zo | apply zk | apply zl)
      refine cw_ret ?_
      exact ⟨_, (by simp only [push_cast, env, Nat.reduceEqDiff, reduceIte] <;> exact rfl), h.length, _, yi, yr, Y0, rfl, hp, T0, hY0, S0, closed_full (hcl rfl), hu⟩
    | true =>
      clear hcl
      repeat (first | apply zs | apply zr | apply zn | ((first | apply zx | apply zy); · simp only [push_cast, env, Nat.reduceEqDiff, reduceIte, Nat.reduceAdd, Nat.reduceMul, Nat.reduceLeDiff, reduceCtorEq, Nat.reduceSub, Int.reduceToNat] <;> first | exact rfl | exact .inl rfl | exact .inr rfl) | apply zq | apply zb | apply zo | apply zk | apply zl)
      refine cw_condT rfl ?_
      repeat (first | apply zs | apply zr | apply zn | ((first | apply zx | apply zy); · simp only [push_cast, env, Nat.reduceEqDiff, reduceIte, Nat.reduceAdd, Nat.reduceMul, Nat.reduceLeDiff, reduceCtorEq, Nat.reduceSub, Int.reduceToNat] <;> first | exact rfl | exact .inl rfl | exact .inr rfl) | apply zq | apply zb | apply zo | apply zk | apply zl)
      refine cw_forG g.rules.length (fun r (x : Heap × List Bool × Bool) => [(2, .box [i64 g.nts, i64 g.start, .slice p g.rules.length c]), (5, .val (.pointer (some ⟨h.length, 0, some 0⟩))), (7, .val (.bool x.2.2)), (8, .val (i64 r))]) (fun _ x => x.1)
        (fun r x => RoundI h h.length g (.slice p g.rules.length c) (.slice pw w.length cw) w yi yr N Y0 r 0 0 x.1 x.2.1 x.2.2) (hk, Y0, false) (by simp only [push_cast, Nat.reduceEqDiff, reduceIte]) rfl ⟨hp, T0, hY0, S0, fun h => (by cases h), fun _ => ⟨rfl, PrD.start⟩⟩ ?_
      clear T0 hp
      rintro r ⟨hk, Y, more⟩ hrn I
      simp only at I ⊢
      by_cases hlr : r < g.rules.length
      · have hltr := hlr
        obtain ⟨id, ver, own, c', cells, p', n', c2, hv, hid, hn, hrd, hu'⟩ := hu.at hlr
        cases hv
        subst hn
        have e0 := rdH_get0 hrd (by omega)
        have e0' := rdH_get (j := 1) hrd (by omega)
        simp only [List.getElem?_cons_succ, List.getElem?_cons_zero] at e0 e0'
        have e1r := rng hlr
        have e2r := inc hlr (by omega)
        have e3r := lt_dec hlr
        have hmem : g.rules[r] ∈ _ := List.getElem_mem hlr
        obtain ⟨l1, l2, l3, hS⟩ := R.r _ hmem
        have hq : g.rules[r]? = some g.rules[r] := List.getElem?_eq_getElem hlr
        have hWr := W _ hmem
        generalize g.rules[r] = q at *
        repeat (first | apply zs | apply zr | apply zn | ((first | apply zx | apply zy); · simp only [push_cast, env, Nat.reduceEqDiff, reduceIte, Nat.reduceAdd, Nat.reduceMul, Nat.reduceLeDiff, reduceCtorEq, Nat.reduceSub, Int.reduceToNat, e3r] <;> first | exact rfl | exact .inl rfl | exact .inr rfl) | apply zq | apply zb | apply zo | apply zk | apply zl)
        refine cw_condT rfl ?_
        repeat (first | apply zs | apply zr | apply zn | ((first | apply zx | apply zy); · simp only [push_cast, env, Nat.reduceEqDiff, reduceIte, Nat.reduceAdd, Nat.reduceMul, Nat.reduceLeDiff, reduceCtorEq, Nat.reduceSub, Int.reduceToNat] <;> first | exact rfl | exact .inl rfl | exact .inr rfl) | apply zq | apply zb | apply zo | apply zk | apply zl)
        refine cw_forG (w.length + 1) (fun i (x : Heap × List Bool × Bool) => [(2, .box [i64 g.nts, i64 g.start, .slice (some ⟨id, 0, some ver⟩) g.rules.length c]), (5, .val (.pointer (some ⟨h.length, 0, some 0⟩))), (7, .val (.bool x.2.2)), (8, .val (i64 r)), (9, .val (i64 i))]) (fun _ x => x.1)
          (fun i x => RoundI h h.length g (.slice (some ⟨id, 0, some ver⟩) g.rules.length c) (.slice pw w.length cw) w yi yr N Y0 r i 0 x.1 x.2.1 x.2.2) (hk, Y, more) (by simp only [push_cast, Nat.reduceEqDiff, reduceIte]) rfl I ?_
        clear I
        rintro i ⟨hk, Y1, more1⟩ hin I
        simp only at I ⊢
        obtain ⟨cy1, hc1⟩ := I.t.c
        by_cases hli : i < w.length + 1
        · have d1 : decide ((i : Int) ≤ (w.length : Int)) = true := decide_eq_true (by omega)
          have e4 : IntKind.i64.wrap ((i : Int) + 1) = (i : Int) + 1 := wrap64_id (by omega) (by omega)
          have hid' := getElem?_of_prefix I.p hid
          repeat (first | apply zs | apply zr | apply zn | ((first | apply zx | apply zy); · simp only [push_cast, env, Nat.reduceEqDiff, reduceIte, Nat.reduceAdd, Nat.reduceMul, Nat.reduceLeDiff, reduceCtorEq, Nat.reduceSub, Int.reduceToNat, hc1, d1] <;> first | exact rfl | exact .inl rfl | exact .inr rfl) | apply zq | apply zb | apply zo | apply zk | apply zl)
          refine cw_condT rfl ?_
          repeat (first | apply zs | apply zr | apply zn | ((first | apply zx | apply zy); · simp only [push_cast, env, Nat.reduceEqDiff, reduceIte, Nat.reduceAdd, Nat.reduceMul, Nat.reduceLeDiff, reduceCtorEq, Nat.reduceSub, Int.reduceToNat, hid', e1r, e0', Nat.mul_one] <;> first | exact rfl | exact .inl rfl | exact .inr rfl) | apply zq | apply zb | apply zo | apply zk | apply zl)
          refine zc (fn := Try.f46) (by simp only [push_cast, env, Nat.reduceEqDiff, reduceIte] <;> exact rfl) Try.func46 (by kernel_rfl) (by kernel_rfl) ?_
          rw [List.append_nil]
          refine (ends_fw (N := N) I.t (hwR.mono I.p) hw (by omega) I.n (.of (hu'.mono I.p)) (fun s hs => ⟨by have := hS s hs; omega, hWr s hs⟩) (by omega)).mono ?_
          rintro _ h2 ⟨hE, hp2⟩
          obtain ⟨ie, ve, hie, hee, heg⟩ := hE.mine (by omega)
          subst hee
          have hyl := lt_of_get I.t.y
          have I2 := (I.upd PrD.rowStart).mono hp2
          have hs1 := I.s
          have hf1 := I.f
          clear I hc1 hE
          repeat (first | apply zs | apply zr | apply zn | ((first | apply zx | apply zy); · simp only [push_cast, env, Nat.reduceEqDiff, reduceIte, Nat.reduceAdd, Nat.reduceMul, Nat.reduceLeDiff, reduceCtorEq, Nat.reduceSub, Int.reduceToNat] <;> first | exact rfl | exact .inl rfl | exact .inr rfl) | apply zq | apply zb | apply zo | apply zk | apply zl)
          refine cw_wh (fun x : Nat × Heap × List Bool × Bool => w.length + 1 - x.1) (fun x => [(2, .box [i64 g.nts, i64 g.start, .slice (some ⟨id, 0, some ver⟩) g.rules.length c]), (5, .val (.pointer (some ⟨h.length, 0, some 0⟩))), (7, .val (.bool x.2.2.2)), (8, .val (i64 r)), (9, .val (i64 i)), (10, .val (.slice (some ⟨ie, 0, some ve⟩) (w.length + 1) (w.length + 1))), (11, .val (i64 x.1))]) (fun x => x.2.1)
            (fun x => RoundI h h.length g (.slice (some ⟨id, 0, some ver⟩) g.rules.length c) (.slice pw w.length cw) w yi yr N Y0 r i x.1 x.2.1 x.2.2.1 x.2.2.2 ∧ i ≤ x.1 ∧ x.1 ≤ w.length + 1 ∧ (x.2.2.2 = false → more1 = false) ∧ x.2.1[ie]? = some (.arr ((endL (yfn Y1 (w.length + 1)) w q.rhs i q.rhs.length).map .bool) ve true 4)) (i, h2, Y1, more1) (by simp only [push_cast, Nat.reduceEqDiff, reduceIte]) rfl ⟨I2, Nat.le_refl _, by simp only; omega, fun h => h, heg⟩ ?_
          clear I2 heg
          rintro ⟨j, hk3, Y, more⟩ ⟨I, hij, hjn, hmm, heg⟩
          simp only at I hij hjn hmm heg ⊢
          obtain ⟨cy3, hc3⟩ := I.t.c
          have hY3 := I.t.y
          by_cases hlj : j < w.length + 1
          · have d2 : decide ((j : Int) ≤ (w.length : Int)) = true := decide_eq_true (by omega)
            have e5 : IntKind.i64.wrap ((j : Int) + 1) = (j : Int) + 1 := wrap64_id (by omega) (by omega)
            have hid3 := getElem?_of_prefix I.p hid
            obtain ⟨a, ha⟩ : ∃ a : Nat, q.lhs = a := ⟨q.lhs.toNat, by omega⟩
            have ha2 : q.lhs.toNat = a := by omega
            have hti : tix (w.length + 1) a i j < Y.length := by rw [I.n]; exact tix_lt (by omega) (by omega) (by omega)
            have e0a := e0
            rw [ha] at e0a
            have hEb := endL_get (yf := yfn Y1 (w.length + 1)) (w := w) (l := q.rhs) (i := i) (k := q.rhs.length) (j := j) (by omega)
            have r1 : (0 ≤ (j : Int) ∧ (j : Int) < (w.length : Int) + 1) = True := by simp; omega
            have hyv : (Y.map Value.bool)[tix (w.length + 1) a i j]? = some (.bool (yfn Y (w.length + 1) a i j)) := by
              unfold yfn
              rw [List.getElem?_map, List.getD_eq_getElem?_getD, List.getElem?_eq_getElem hti]
              rfl
            repeat (first | apply zs | apply zr | apply zn | ((first | apply zx | apply zy); · simp only [push_cast, env, Nat.reduceEqDiff, reduceIte, Nat.reduceAdd, Nat.reduceMul, Nat.reduceLeDiff, reduceCtorEq, Nat.reduceSub, Int.reduceToNat, hc3, d2] <;> first | exact rfl | exact .inl rfl | exact .inr rfl) | apply zq | apply zb | apply zo | apply zk | apply zl)
            refine cw_condT rfl ?_
            repeat (first | apply zs | apply zr | apply zn | ((first | apply zx | apply zy); · simp only [push_cast, env, Nat.reduceEqDiff, reduceIte, Nat.reduceAdd, Nat.reduceMul, Nat.reduceLeDiff, reduceCtorEq, Nat.reduceSub, Int.reduceToNat, hid3, e1r, e0a, Nat.mul_one] <;> first | exact rfl | exact .inl rfl | exact .inr rfl) | apply zq | apply zb | apply zo | apply zk | apply zl)
            refine zc (fn := Try.f54) (by simp only [push_cast, env, Nat.reduceEqDiff, reduceIte] <;> exact rfl) Try.func54 (by kernel_rfl) (by kernel_rfl) ?_
            rw [List.append_nil]
            refine (at_fw hc3 hw (a := a) (i := i) (j := j) (by omega) (by omega) (by omega)).mono ?_
            rintro _ hk3 ⟨rfl, rfl⟩
            have r2 := rng hti
            obtain ⟨K, hK⟩ : ∃ K, K = tix (w.length + 1) a i j := ⟨_, rfl⟩
            rw [← hK] at hti hyv r2 ⊢
            have hPs : (endB (yfn Y1 (w.length + 1)) w q.rhs i q.rhs.length j = true → yfn Y (w.length + 1) a i j = true) → RoundI h h.length g (.slice (some ⟨id, 0, some ver⟩) g.rules.length c) (.slice pw w.length cw) w yi yr N Y0 r i (j + 1) hk3 Y more := fun hh => ⟨I.p, I.t, I.n, I.s, I.m, fun hm => ⟨(I.f hm).1, (I.f hm).2.step hq fun he => by
              rw [(hf1 (hmm hm)).1] at hh
              rw [← (I.f hm).1]
              rw [ha2]
              exact hh he⟩⟩
            cases hb1 : endB (yfn Y1 (w.length + 1)) w q.rhs i q.rhs.length j with
            | false =>
              rw [hb1] at hEb hPs
              repeat (first | apply zs | apply zr | apply zn | ((first | apply zx | apply zy); · simp only [push_cast, env, Nat.reduceEqDiff, reduceIte, Nat.reduceAdd, Nat.reduceMul, Nat.reduceLeDiff, reduceCtorEq, Nat.reduceSub, Int.reduceToNat, heg, hEb, r1, Nat.mul_one] <;> first | exact rfl | exact .inl rfl | exact .inr rfl) | apply zq | apply zb | apply zo | apply zk | apply zl)
              refine cw_condF rfl ?_
              repeat (first | apply zs | apply zr | apply zn | ((first | apply zx | apply zy); · simp only [push_cast, env, Nat.reduceEqDiff, reduceIte, Nat.reduceAdd, Nat.reduceMul, Nat.reduceLeDiff, reduceCtorEq, Nat.reduceSub, Int.reduceToNat, e5] <;> first | exact rfl | exact .inl rfl | exact .inr rfl) | apply zq | apply zb | apply zo | apply zk | apply zl)
              exact ⟨(j + 1, hk3, Y, more), by simp only; omega, (by simp only [push_cast, Nat.reduceEqDiff, reduceIte]), rfl, hPs (fun h => (by cases h)), by simp only; omega, by simp only; omega, hmm, heg⟩
            | true =>
              rw [hb1] at hEb hPs
              cases hb2 : yfn Y (w.length + 1) a i j with
              | true =>
                rw [hb2] at hyv
                repeat (first | apply zs | apply zr | apply zn | ((first | apply zx | apply zy); · simp only [push_cast, env, Nat.reduceEqDiff, reduceIte, Nat.reduceAdd, Nat.reduceMul, Nat.reduceLeDiff, reduceCtorEq, Nat.reduceSub, Int.reduceToNat, heg, hEb, r1, hc3, hY3, hyv, r2, Nat.mul_one] <;> first | exact rfl | exact .inl rfl | exact .inr rfl) | apply zq | apply zb | apply zo | apply zk | apply zl)
                refine cw_condF rfl ?_
                repeat (first | apply zs | apply zr | apply zn | ((first | apply zx | apply zy); · simp only [push_cast, env, Nat.reduceEqDiff, reduceIte, Nat.reduceAdd, Nat.reduceMul, Nat.reduceLeDiff, reduceCtorEq, Nat.reduceSub, Int.reduceToNat, e5] <;> first | exact rfl | exact .inl rfl | exact .inr rfl) | apply zq | apply zb | apply zo | apply zk | apply zl)
                exact ⟨(j + 1, hk3, Y, more), by simp only; omega, (by simp only [push_cast, Nat.reduceEqDiff, reduceIte]), rfl, hPs (fun _ => hb2), by simp only; omega, by simp only; omega, hmm, heg⟩
              | false =>
                rw [hb2] at hyv
                repeat (first | apply zs | apply zr | apply zn | ((first | apply zx | apply zy); · simp only [push_cast, env, Nat.reduceEqDiff, reduceIte, Nat.reduceAdd, Nat.reduceMul, Nat.reduceLeDiff, reduceCtorEq, Nat.reduceSub, Int.reduceToNat, heg, hEb, r1, hc3, hY3, hyv, r2, Nat.mul_one] <;> first | exact rfl | exact .inl rfl | exact .inr rfl) | apply zq | apply zb | apply zo | apply zk | apply zl)
                refine cw_condT rfl ?_
                repeat (first | apply zs | apply zr | apply zn | ((first | apply zx | apply zy); · simp only [push_cast, env, Nat.reduceEqDiff, reduceIte, Nat.reduceAdd, Nat.reduceMul, Nat.reduceLeDiff, reduceCtorEq, Nat.reduceSub, Int.reduceToNat, hc3, r2, Nat.mul_one] <;> first | exact rfl | exact .inl rfl | exact .inr rfl) | apply zq | apply zb | apply zo | apply zk | apply zl)
                refine ow_stoH (by simp only [push_cast, env, Nat.reduceEqDiff, reduceIte] <;> exact rfl) rfl rfl (by simp only [push_cast, env, Nat.reduceEqDiff, reduceIte] <;> exact rfl) (by simp only [push_cast, env, Nat.reduceEqDiff, reduceIte] <;> exact rfl) hY3 (by simp only [push_cast, env, Nat.reduceEqDiff, reduceIte] <;> exact rfl) rfl (wr_map (f := Value.bool) (x := true) hti) ?_
                repeat (first | apply zs | apply zr | apply zn | ((first | apply zx | apply zy); · simp only [push_cast, env, Nat.reduceEqDiff, reduceIte, Nat.reduceAdd, Nat.reduceMul, Nat.reduceLeDiff, reduceCtorEq, Nat.reduceSub, Int.reduceToNat, e5] <;> first | exact rfl | exact .inl rfl | exact .inr rfl) | apply zq | apply zb | apply zo | apply zk | apply zl)
                have hSq : Sq g.rules w q.rhs i j := by
                  have := endB_sound hs1 (l := q.rhs) (i := i) (by omega) q.rhs.length j (Nat.le_refl _) (by omega) hb1
                  rwa [List.take_length] at this
                have hcnt : (Y.set K true).count false < Y.count false := count_set_true hti (by rw [hK]; exact hb2)
                have hye : yi ≠ ie := by omega
                refine ⟨(j + 1, _, Y.set K true, true), by simp only; omega, (by simp only [push_cast, Nat.reduceEqDiff, reduceIte]), rfl, ⟨pre_set I.p hyi, I.t.set K, by rw [List.length_set]; exact I.n, ?_, fun _ => ?_, fun h => (by cases h)⟩, by simp only; omega, by simp only; omega, fun h => (by cases h), ?_⟩
                · have := sound_set (N := N) hmem l1 (by omega) I.n I.s hij (by omega) hSq
                  rw [ha2, ← hK] at this
                  exact this
                · cases more with
                  | true => have := I.m rfl; simp only; omega
                  | false => simp only; rw [← (I.f rfl).1]; exact hcnt
                · simp only
                  rw [get_set_ne hye]
                  exact heg
          · have d2 : decide ((w.length : Int) + 1 ≤ (w.length : Int)) = false := decide_eq_false (by omega)
            obtain rfl : j = w.length + 1 := by omega
            repeat (first | apply zs | apply zr | apply zn | ((first | apply zx | apply zy); · simp only [push_cast, env, Nat.reduceEqDiff, reduceIte, Nat.reduceAdd, Nat.reduceMul, Nat.reduceLeDiff, reduceCtorEq, Nat.reduceSub, Int.reduceToNat, hc3, d2] <;> first | exact rfl | exact .inl rfl | exact .inr rfl) | apply zq | apply zb | apply zo | apply zk | apply zl)
            refine cw_condF rfl ?_
            refine cw_exit ?_
            show CW _ _ _ _
            repeat (first | apply zs | apply zr | apply zn | ((first | apply zx | apply zy); · simp only [push_cast, env, Nat.reduceEqDiff, reduceIte, Nat.reduceAdd, Nat.reduceMul, Nat.reduceLeDiff, reduceCtorEq, Nat.reduceSub, Int.reduceToNat, e4] <;> first | exact rfl | exact .inl rfl | exact .inr rfl) | apply zq | apply zb | apply zo | apply zk | apply zl)
            exact ⟨hli, (hk3, Y, more), (by simp only [push_cast, Nat.reduceEqDiff, reduceIte]), rfl, I.upd PrD.rowEnd⟩
        · have d1 : decide ((w.length : Int) + 1 ≤ (w.length : Int)) = false := decide_eq_false (by omega)
          obtain rfl : i = w.length + 1 := by omega
          repeat (first | apply zs | apply zr | apply zn | ((first | apply zx | apply zy); · simp only [push_cast, env, Nat.reduceEqDiff, reduceIte, Nat.reduceAdd, Nat.reduceMul, Nat.reduceLeDiff, reduceCtorEq, Nat.reduceSub, Int.reduceToNat, hc1, d1] <;> first | exact rfl | exact .inl rfl | exact .inr rfl) | apply zq | apply zb | apply zo | apply zk | apply zl)
          refine cw_condF rfl ?_
          refine cw_exit ?_
          show CW _ _ _ _
          repeat (first | apply zs | apply zr | apply zn | ((first | apply zx | apply zy); · simp only [push_cast, env, Nat.reduceEqDiff, reduceIte, Nat.reduceAdd, Nat.reduceMul, Nat.reduceLeDiff, reduceCtorEq, Nat.reduceSub, Int.reduceToNat, e2r] <;> first | exact rfl | exact .inl rfl | exact .inr rfl) | apply zq | apply zb | apply zo | apply zk | apply zl)
          exact ⟨hltr, (hk, Y1, more1), (by simp only [push_cast, Nat.reduceEqDiff, reduceIte]), rfl, I.upd PrD.ruleEnd⟩
      · have e3r := ge_dec hlr
        obtain rfl : r = g.rules.length := by omega
        repeat (first | apply zs | apply zr | apply zn | ((first | apply zx | apply zy); · simp only [push_cast, env, Nat.reduceEqDiff, reduceIte, Nat.reduceAdd, Nat.reduceMul, Nat.reduceLeDiff, reduceCtorEq, Nat.reduceSub, Int.reduceToNat, e3r] <;> first | exact rfl | exact .inl rfl | exact .inr rfl) | apply zq | apply zb | apply zo | apply zk | apply zl)
        refine cw_condF rfl ?_
        refine cw_exit ?_
        refine ⟨(hk, Y, more), ?_, (by simp only [push_cast, Nat.reduceEqDiff, reduceIte]), rfl, I.p, I.t, I.n, I.s, fun hm => (I.f hm).1 ▸ (I.f hm).2.closed⟩
        simp only
        cases more with
        | true => have := I.m rfl; simp; omega
        | false => rw [(I.f rfl).1]; simp
end Go.Proofs.Ytafncpgiibikcaa

namespace Go.Proofs.Ytafncpgiibikcaa
set_option linter.unusedSimpArgs false
set_option linter.unusedVariables false
set_option maxRecDepth 20000
open Go.RowKit Am Ty

set_option maxHeartbeats 4000000 in
theorem add_fw {h0 hB : Heap} {g : Gram} {rv wv : Value} {F : Fix} {G : Gh} {j : Nat} {x : Item} (K : CHR h0 hB g rv wv F G) (hj : j < G.S.length) (hl : (gs G.S j).length ≤ 1000000000000) :
    FW env 52 [.pointer (some ⟨F.cp, 0, some 0⟩), i64 j, x.val] G.h fun r h' => ∃ us, CHR h0 hB g rv wv F ⟨h', us, addS G.S j x, G.E⟩ := by
  obtain ⟨h, us, S, E⟩ := G
  simp only at hj hl ⊢
  obtain ⟨u, cu, hu, gu⟩ := K.us_at hj
  obtain ⟨mj, hm, hmo, hml⟩ := K.ms_at hj
  simp only at hu gu hmo
  have hc := K.c
  have hs := K.s
  have hmm := K.m
  unfold chCells at hc
  simp only at hc hs hmm
  have e1 := rng hj
  have hmv : (F.ms.map fun i => Value.map (some i))[j]? = some (.map (some mj)) := by rw [List.getElem?_map, hm]; rfl
  have k1 := metE_keys (gs S j)
  have k2 := metE_get x (gs S j)
  have hl0 : S.length = us.length := K.un.symm
  have rm := rdH
  refine fw_enter (fn := Try.f52) Try.func52 rfl (by kernel_rfl) (by simp [Try.ntmps52]) ?_; simp only [push_cast]
  repeat (first | apply zs | apply zr | apply zn | ((first | apply zx | apply zy); · simp only [push_cast, env, Nat.reduceEqDiff, reduceIte, Nat.reduceAdd, Nat.reduceMul, Nat.reduceLeDiff, reduceCtorEq, Nat.reduceSub, Int.reduceToNat] <;> first | exact rfl | exact .inl rfl | exact .inr rfl) | apply zq | apply zb | apply zo | apply zk | apply zl)
  refine cw_regionD 9 mixed (by kernel_rfl) ?_
  by_cases hx : x ∈ gs S j
  · rw [if_pos hx] at k2
    repeat (first | apply zs | apply zr | apply zn | ((first | apply zx | apply zy); · simp only [push_cast, env, Nat.reduceEqDiff, reduceIte, Nat.reduceAdd, Nat.reduceMul, Nat.reduceLeDiff, reduceCtorEq, Nat.reduceSub, Int.reduceToNat, hc, hmm, e1, hmv, hmo, k1, k2, Nat.mul_one] <;> first | exact rfl | exact .inl rfl | exact .inr rfl) | apply zq | apply zb | apply zo | apply zk | apply zl)
    refine cw_condT (by simp only [push_cast, env, Nat.reduceEqDiff, reduceIte, Int.reduceLT] <;> exact rfl) ?_
    refine cw_ret ?_
    exact ⟨_, (by simp only [push_cast, env, Nat.reduceEqDiff, reduceIte] <;> exact rfl), us, by unfold addS; rw [if_pos hx]; exact K⟩
  rw [if_neg hx] at k2
  repeat (first | apply zs | apply zr | apply zn | ((first | apply zx | apply zy); · simp only [push_cast, env, Nat.reduceEqDiff, reduceIte, Nat.reduceAdd, Nat.reduceMul, Nat.reduceLeDiff, reduceCtorEq, Nat.reduceSub, Int.reduceToNat, hc, hmm, e1, hmv, hmo, k1, k2, Nat.mul_one] <;> first | exact rfl | exact .inl rfl | exact .inr rfl) | apply zq | apply zb | apply zo | apply zk | apply zl)
  refine cw_condF (by simp only [push_cast, env, Nat.reduceEqDiff, reduceIte, Int.reduceLT] <;> exact rfl) ?_
  repeat (first | apply zs | apply zr | apply zn | ((first | apply zx | apply zy); · simp only [push_cast, env, Nat.reduceEqDiff, reduceIte, Nat.reduceAdd, Nat.reduceMul, Nat.reduceLeDiff, reduceCtorEq, Nat.reduceSub, Int.reduceToNat] <;> first | exact rfl | exact .inl rfl | exact .inr rfl) | apply zq | apply zb | apply zo | apply zk | apply zl)
  refine cw_regionD 8 mixed (by kernel_rfl) ?_
  repeat (first | apply zs | apply zr | apply zn | ((first | apply zx | apply zy); · simp only [push_cast, env, Nat.reduceEqDiff, reduceIte, Nat.reduceAdd, Nat.reduceMul, Nat.reduceLeDiff, reduceCtorEq, Nat.reduceSub, Int.reduceToNat, hc, hmm, e1, hmv, Nat.mul_one] <;> first | exact rfl | exact .inl rfl | exact .inr rfl) | apply zq | apply zb | apply zo | apply zk | apply zl)
  refine ow_upd (kt := 57) (et := 3) (kd := kdItem) (by simp only [push_cast, env, Nat.reduceEqDiff, reduceIte] <;> exact rfl) rfl rfl (by kernel_rfl) rfl (by simp only [push_cast, env, Nat.reduceEqDiff, reduceIte] <;> exact rfl) hmo (by simp only [push_cast, env, Nat.reduceEqDiff, reduceIte] <;> exact rfl) (by simp only [push_cast, env, Nat.reduceEqDiff, reduceIte] <;> exact rfl) rfl k1 ?_
  rw [metE_put x _ hx]
  repeat (first | apply zs | apply zr | apply zn | ((first | apply zx | apply zy); · simp only [push_cast, env, Nat.reduceEqDiff, reduceIte, Nat.reduceAdd, Nat.reduceMul, Nat.reduceLeDiff, reduceCtorEq, Nat.reduceSub, Int.reduceToNat] <;> first | exact rfl | exact .inl rfl | exact .inr rfl) | apply zq | apply zb | apply zo | apply zk | apply zl)
  refine cw_weakL [(0, .val (.pointer (some ⟨F.cp, 0, some 0⟩))), (1, .val (i64 j)), (5, .box [i64 x.rule, i64 x.dot, i64 x.frm])] (by simp only [push_cast, Nat.reduceEqDiff, reduceIte]) ?_
  have hsc : (h.set mj (HObj.map (metE (gs S j ++ [x]))))[F.cp]? = _ := get_other hmo hc (by simp)
  have hss : (h.set mj (HObj.map (metE (gs S j ++ [x]))))[F.si]? = _ := get_other hmo hs (by simp)
  have hsi : mj ≠ F.si := by rintro rfl; rw [hmo] at hs; cases hs
  generalize hh1 : h.set mj (HObj.map (metE (gs S j ++ [x]))) = h1 at hsc hss
  show CW _ _ ⟨_, [], h1⟩ _
  have p1 : h0 <+: h1 := hh1 ▸ pre_set K.p hml
  have gu1 : Grow h0 h1 (.slice u (gs S j).length cu) (gs S j).length ((gs S j).flatMap Item.cells) 57 := gu.mono fun i o hi ho => by
    obtain ⟨ver, h5⟩ := gu.obj hi
    rw [ho] at h5
    exact hh1 ▸ get_other hmo ho (by rw [Option.some.inj h5]; simp)
  obtain ⟨p2, c2, h2, hone, gu2, p2', hk2, hx2, hl2⟩ := push_any' (cs := x.cells) (t := 55) (by kernel_rfl) ti57 (by decide) rfl gu1 p1 (flat_len (f := Item.cells) (k := 3) (fun _ => rfl) _) rfl (by simp only; omega) (by omega)
  have nus : isAt (.slice u (gs S j).length cu) F.si = false := by
    cases hb : isAt (.slice u (gs S j).length cu) F.si with
    | false => rfl
    | true =>
      obtain ⟨ver, h5⟩ := gu1.obj hb
      rw [hss] at h5
      simp only [Option.some.injEq, HObj.arr.injEq] at h5
      exact absurd h5.2.2.2 (by decide)
  have nuc : isAt (.slice u (gs S j).length cu) F.cp = false := by
    cases hb : isAt (.slice u (gs S j).length cu) F.cp with
    | false => rfl
    | true =>
      obtain ⟨ver, h5⟩ := gu1.obj hb
      rw [hsc] at h5
      simp only [Option.some.injEq, HObj.arr.injEq] at h5
      exact absurd h5.2.2.2 (by decide)
  have hs2 := hk2 _ _ nus hss
  have hc2 := hk2 _ _ nuc hsc
  apply cw_ordA (L := [[], [0], [1], [2], [], [], [5], [6], [7], [], [8, 9], [10], [], [12], [11, 13], [3, 4], [0, 1, 2, 3, 4, 5, 6, 7, 8, 9, 10, 11, 12, 13, 14, 15]]) (act := [14, 16]) (hs := [h2, h2.set F.si (.arr (us.set j (.slice p2 ((gs S j).length + 1) c2)) 0 true 55)]) (resL := [_, _, _, _, _, _, _, _, _, _, _, _, _, _, _, _, _]) (frF := [])
  case hm => exact mixed
  case hc => kernel_rfl
  case ha => rfl
  case hb => rfl
  case hS =>
    repeat (first | exact StepsA.nil _ | (apply StepsA.cons; (· rfl); (· (first | refine ⟨?_, trivial⟩ | refine ⟨?_, ?_, trivial⟩ | refine ⟨?_, ?_, ?_, trivial⟩ | refine ⟨?_, ?_, ?_, ?_, trivial⟩) <;> (apply zz; simp only [push_cast, env, Nat.reduceEqDiff, reduceIte, Nat.reduceAdd, Nat.reduceMul, Nat.reduceLeDiff, reduceCtorEq, Nat.reduceSub, Int.reduceToNat, hsc, hss, hc2, e1, hu, Nat.mul_one] <;> exact rfl)); (· rfl)))
    apply StepsA.cons
    · rfl
    · refine ⟨?_, trivial⟩
      exact hone _ _ _ _ _ rfl (by simp only [push_cast, env, Nat.reduceEqDiff, reduceIte] <;> exact rfl) rfl (by simp only [push_cast, env, Nat.reduceEqDiff, reduceIte] <;> exact rfl) (by simp only [push_cast, env, Nat.reduceEqDiff, reduceIte] <;> exact rfl)
    · rfl
    repeat (first | exact StepsA.nil _ | (apply StepsA.cons; (· rfl); (· (first | refine ⟨?_, trivial⟩ | refine ⟨?_, ?_, trivial⟩ | refine ⟨?_, ?_, ?_, trivial⟩ | refine ⟨?_, ?_, ?_, ?_, trivial⟩) <;> (apply zz; simp only [push_cast, env, Nat.reduceEqDiff, reduceIte, Nat.reduceAdd, Nat.reduceMul, Nat.reduceLeDiff, reduceCtorEq, Nat.reduceSub, Int.reduceToNat, e1, Nat.mul_one] <;> exact rfl)); (· rfl)))
    apply StepsA.cons
    · rfl
    · refine ⟨?_, trivial⟩
      exact One.stoH (r := .sl .unk) (cells' := us.set j (.slice p2 ((gs S j).length + 1) c2)) (by simp only [push_cast, env, Nat.reduceEqDiff, reduceIte] <;> exact rfl) rfl (by simp only [push_cast, env, Nat.reduceEqDiff, reduceIte] <;> exact rfl) (by simp only [push_cast, env, Nat.reduceEqDiff, reduceIte] <;> exact rfl) hs2 (by simp only [push_cast, env, Nat.reduceEqDiff, reduceIte] <;> exact rfl) rfl (wrV (by omega)) rfl
    · rfl
    exact StepsA.nil _
  case ht => rfl
  case hF => exact trivial
  case k =>
    refine ⟨_, (by simp only [push_cast, env, Nat.reduceEqDiff, reduceIte] <;> exact rfl), us.set j (.slice p2 ((gs S j).length + 1) c2), ?_⟩
    show CHR h0 hB g rv wv F ⟨h2.set F.si (.arr (us.set j (.slice p2 ((gs S j).length + 1) c2)) 0 true 55), us.set j (.slice p2 ((gs S j).length + 1) c2), addS S j x, E⟩
    unfold addS
    rw [if_neg hx]
    have hlen : h1.length = h.length := by rw [← hh1, List.length_set]
    have n2 : isAt (.slice p2 ((gs S j).length + 1) c2) F.si = false := by
      cases hb : isAt (.slice p2 ((gs S j).length + 1) c2) F.si with
      | false => rfl
      | true =>
        rcases hx2 _ hb with h5 | h5
        · rw [h5] at nus; cases nus
        · have := lt_of_get hss; omega
    refine K.put (mj := mj) hj hm hu (pre_set p2' K.lo.2.1) (fun i o q1 q2 q3 q4 => ?_) ?_ (get_set_self hs2) ?_ fun i hi => ?_
    · rw [get_set_ne (Ne.symm q2)]
      refine hk2 i o q3 ?_
      rw [← hh1, get_set_ne (Ne.symm q1)]
      exact q4
    · rw [get_set_ne (Ne.symm hsi)]
      refine hk2 _ _ ?_ ?_
      · cases hb : isAt (.slice u (gs S j).length cu) mj with
        | false => rfl
        | true =>
          obtain ⟨ver, h5⟩ := gu.obj hb
          rw [hmo] at h5; cases h5
      · rw [← hh1]
        exact get_set_self hmo
    · rw [List.length_append, List.flatMap_append, List.flatMap_singleton]
      refine gu2.mono fun i o hi ho => ?_
      rw [get_set_ne (by rintro rfl; rw [n2] at hi; cases hi)]
      exact ho
    · rcases hx2 i hi with h5 | h5
      · exact .inl h5
      · simp only; exact .inr (by omega)
theorem CHR.item_at {h0 hB : Heap} {g : Gram} {rv wv : Value} {F : Fix} {G : Gh} (K : CHR h0 hB g rv wv F G) {k i : Nat} (hk : k < G.S.length) (hi : i < (gs G.S k).length) : ∃ id ver c,
    G.us[k]? = some (.slice (some ⟨id, 0, some ver⟩) (gs G.S k).length c) ∧ G.h[id]? = some (.arr ((gs G.S k).flatMap Item.cells) ver true 57) ∧
      rdH ((gs G.S k).flatMap Item.cells) (i * 3) 3 = some [i64 (gs G.S k)[i].rule, i64 (gs G.S k)[i].dot, i64 (gs G.S k)[i].frm] := by
  obtain ⟨u, c, h1, h2⟩ := K.us_at hk
  obtain ⟨id, ver, _, h4, h5⟩ := h2.mine (by omega)
  cases h4
  exact ⟨id, ver, _, h1, h5, rdH_flatMap (f := Item.cells) (fun _ => rfl) _ i _ (by simp [hi])⟩
theorem gsize_le {g : Gram} (R : RightS g) : gsize g.rules ≤ 663552 := by
  have key : ∀ l : List Rule, (∀ r ∈ l, r.rhs.length ≤ 80) → gsize l ≤ 81 * l.length := by
    intro l
    induction l with
    | nil => intro _; simp [gsize]
    | cons r l ih =>
      intro h
      have h1 := ih fun r hr => h r (List.mem_cons_of_mem _ hr)
      have h2 := h r List.mem_cons_self
      unfold gsize at h1 ⊢
      rw [List.map_cons, List.sum_cons, List.length_cons]
      omega
  have := key g.rules fun r hr => (R.r r hr).2.2.1
  have := R.rl
  omega
theorem CI.small {g : Gram} {w : List Nat} {S : List (List Item)} (C : CI g w S) (R : RightS g) (hw : w.length ≤ 512) {k : Nat} (hk : k ≤ w.length) : (gs S k).length ≤ 400000000 := by
  have h1 := C.le k
  have h2 := gsize_le R
  have h3 : gsize g.rules * (k + 1) ≤ 663552 * 513 := Nat.mul_le_mul h2 (by omega)
  omega
theorem CHR.setE {h0 hB : Heap} {g : Gram} {rv wv : Value} {F : Fix} {G : Gh} {E' : List Int} (K : CHR h0 hB g rv wv F G) (hev : F.ev = .map (some F.ie)) : CHR h0 hB g rv wv F ⟨G.h.set F.ie (.map (empE E')), G.us, G.S, E'⟩ := by
  obtain ⟨he, hme, hle⟩ := K.e hev
  have keepA : ∀ (i : Nat) (cs : List Value) (v : Nat) (o : Bool) (et : TypeId), G.h[i]? = some (.arr cs v o et) → (G.h.set F.ie (.map (empE E')))[i]? = some (.arr cs v o et) := fun i cs v o et h => get_other he h (by simp)
  refine ⟨pre_set K.p hle, keepA _ _ _ _ _ K.c, keepA _ _ _ _ _ K.s, keepA _ _ _ _ _ K.m, (fun _ => ⟨get_set_self he, hme, hle⟩), K.un, K.mn, fun j u l h1 h2 => ?_, K.ud, fun j i l h1 h2 => ?_, K.md, fun i cs v o et he hi => keepA _ _ _ _ _ (K.kb i cs v o et he hi), K.lo⟩
  · refine (K.ug j u l h1 h2).mono fun i o hi ho => ?_
    obtain ⟨ver, h5⟩ := (K.ug j u l h1 h2).obj hi
    rw [ho] at h5
    cases h5
    exact keepA _ _ _ _ _ ho
  · rw [get_set_ne (by rintro rfl; exact hme (List.mem_of_getElem? h1))]
    exact K.mg j i l h1 h2
end Go.Proofs.Ytafncpgiibikcaa

namespace Go.Proofs.Ytafncpgiibikcaa
set_option linter.unusedSimpArgs false
set_option linter.unusedVariables false
set_option maxRecDepth 20000
open Go.RowKit Am Ty

set_option maxHeartbeats 8000000 in
theorem complete_fw {h0 hB : Heap} {g : Gram} {rv wv : Value} {F : Fix} {G : Gh} {j : Nat} {x : Item} {w : List Nat} {r : Rule} (K : CHR h0 hB g rv wv F G) (hev : F.ev = .map (some F.ie)) (hr : RdRules h0 rv g.rules) (R : RightS g) (hw : w.length ≤ 512) (C : CI g w G.S) (hj : j ≤ w.length) (hx : It g w j x)
    (hq : g.rules[x.rule]? = some r) (hd : x.dot = r.rhs.length) :
    FW env 62 [.pointer (some ⟨F.cp, 0, some 0⟩), i64 j, x.val] G.h fun _ h' => ∃ us S', CHR h0 hB g rv wv F ⟨h', us, S', if x.frm = j then insE G.E r.lhs else G.E⟩ ∧ CompP g w j x r.lhs G.S S' := by
  obtain ⟨h, us, S, E⟩ := G
  simp only at C ⊢
  obtain ⟨p, cr, rfl⟩ := hr.form
  have hle := hr.le
  obtain ⟨hql, hqe⟩ := List.getElem?_eq_some_iff.1 hq
  have hxf : x.frm ≤ j := by obtain ⟨_, _, _, _, k⟩ := hx.sound; exact k.1
  have hjS : j < S.length := by have := C.n; omega
  have hfS : x.frm < S.length := by omega
  obtain ⟨l1, l2, l3, hS⟩ := R.r _ (List.mem_of_getElem? hq)
  refine fw_enter (fn := Try.f62) Try.func62 rfl (by kernel_rfl) (by simp [Try.ntmps62]) ?_; simp only [push_cast]
  repeat (first | apply zs | apply zr | apply zn | ((first | apply zx | apply zy); · simp only [push_cast, env, Nat.reduceEqDiff, reduceIte, Nat.reduceAdd, Nat.reduceMul, Nat.reduceLeDiff, reduceCtorEq, Nat.reduceSub, Int.reduceToNat] <;> first | exact rfl | exact .inl rfl | exact .inr rfl) | apply zq | apply zb | apply zo | apply zk | apply zl)
  refine cw_regionD 10 mixed (by kernel_rfl) ?_
  have hc := K.c
  unfold chCells at hc
  simp only at hc
  obtain ⟨id, ver, own, c', cells, p', n', c2, hv, hid0, hn, hrd, hu'⟩ := hr.at hql
  cases hv
  subst hn
  have hid := getElem?_of_prefix K.p hid0
  have e0 := rdH_get0 hrd (by omega)
  simp only [List.getElem?_cons_zero] at e0
  rw [hqe] at e0
  have e1 := rng hql
  repeat (first | apply zs | apply zr | apply zn | ((first | apply zx | apply zy); · simp only [push_cast, env, Nat.reduceEqDiff, reduceIte, Nat.reduceAdd, Nat.reduceMul, Nat.reduceLeDiff, reduceCtorEq, Nat.reduceSub, Int.reduceToNat, hc, e1, hid, e0, Nat.mul_one] <;> first | exact rfl | exact .inl rfl | exact .inr rfl) | apply zq | apply zb | apply zo | apply zk | apply zl)
  refine CW.mono (Q := fun e s' => e = .normal ∧ CHR h0 hB g (.slice (some ⟨id, 0, some ver⟩) g.rules.length cr) wv F ⟨s'.h, us, S, if x.frm = j then insE E r.lhs else E⟩ ∧ SubL [(0, .val (.pointer (some ⟨F.cp, 0, some 0⟩))), (1, .val (i64 j)), (5, .box [i64 x.rule, i64 x.dot, i64 x.frm]), (6, .val (i64 r.lhs))] s'.fr) ?_ ?_
  · by_cases hf : x.frm = j
    · have d1 : decide ((x.frm : Int) = (j : Int)) = true := decide_eq_true (by omega)
      refine cw_condT (by simp only [push_cast, env, Nat.reduceEqDiff, reduceIte, d1] <;> exact rfl) ?_
      have he := (K.e hev).1
      simp only at he
      rw [hev] at hc
      repeat (first | apply zs | apply zr | apply zn | ((first | apply zx | apply zy); · simp only [push_cast, env, Nat.reduceEqDiff, reduceIte, Nat.reduceAdd, Nat.reduceMul, Nat.reduceLeDiff, reduceCtorEq, Nat.reduceSub, Int.reduceToNat, hc] <;> first | exact rfl | exact .inl rfl | exact .inr rfl) | apply zq | apply zb | apply zo | apply zk | apply zl)
      refine ow_upd (kt := 3) (et := 3) (kd := kdInt) (by simp only [push_cast, env, Nat.reduceEqDiff, reduceIte] <;> exact rfl) rfl rfl (by kernel_rfl) rfl (by simp only [push_cast, env, Nat.reduceEqDiff, reduceIte] <;> exact rfl) he (by simp only [push_cast, env, Nat.reduceEqDiff, reduceIte] <;> exact rfl) (by simp only [push_cast, env, Nat.reduceEqDiff, reduceIte] <;> exact rfl) rfl (empE_keys _) ?_
      rw [empE_put]
      repeat (first | apply zs | apply zr | apply zn | ((first | apply zx | apply zy); · simp only [push_cast, env, Nat.reduceEqDiff, reduceIte, Nat.reduceAdd, Nat.reduceMul, Nat.reduceLeDiff, reduceCtorEq, Nat.reduceSub, Int.reduceToNat] <;> first | exact rfl | exact .inl rfl | exact .inr rfl) | apply zq | apply zb | apply zo | apply zk | apply zl)
      rw [if_pos hf]
      exact ⟨rfl, K.setE hev, (by simp only [push_cast, Nat.reduceEqDiff, reduceIte])⟩
    · have d1 : decide ((x.frm : Int) = (j : Int)) = false := decide_eq_false (by omega)
      refine cw_condF (by simp only [push_cast, env, Nat.reduceEqDiff, reduceIte, d1] <;> exact rfl) ?_
      repeat (first | apply zs | apply zr | apply zn | ((first | apply zx | apply zy); · simp only [push_cast, env, Nat.reduceEqDiff, reduceIte, Nat.reduceAdd, Nat.reduceMul, Nat.reduceLeDiff, reduceCtorEq, Nat.reduceSub, Int.reduceToNat] <;> first | exact rfl | exact .inl rfl | exact .inr rfl) | apply zq | apply zb | apply zo | apply zk | apply zl)
      rw [if_neg hf]
      exact ⟨rfl, K, (by simp only [push_cast, Nat.reduceEqDiff, reduceIte])⟩
  rintro e s' ⟨rfl, K1, hf⟩
  show CW _ _ _ _
  refine cw_weakL _ hf ?_
  generalize s'.h = h1 at K1
  generalize (if x.frm = j then insE E r.lhs else E) = E1 at K1 ⊢
  clear hf hc hid
  repeat (first | apply zs | apply zr | apply zn | ((first | apply zx | apply zy); · simp only [push_cast, env, Nat.reduceEqDiff, reduceIte, Nat.reduceAdd, Nat.reduceMul, Nat.reduceLeDiff, reduceCtorEq, Nat.reduceSub, Int.reduceToNat] <;> first | exact rfl | exact .inl rfl | exact .inr rfl) | apply zq | apply zb | apply zo | apply zk | apply zl)
  refine cw_wh (fun z : Gh × Nat => 400000001 - z.2) (fun z => [(0, .val (.pointer (some ⟨F.cp, 0, some 0⟩))), (1, .val (i64 j)), (5, .box [i64 x.rule, i64 x.dot, i64 x.frm]), (6, .val (i64 r.lhs)), (7, .val (i64 z.2))]) (fun z => z.1.h)
    (fun z => CHR h0 hB g (.slice (some ⟨id, 0, some ver⟩) g.rules.length cr) wv F z.1 ∧ z.1.E = E1 ∧ Ext S z.1.S ∧ CI g w z.1.S ∧ (∀ k, k ≠ j → gs z.1.S k = gs S k) ∧ z.2 ≤ (gs z.1.S x.frm).length ∧ ∀ y ∈ (gs z.1.S x.frm).take z.2, Wait g y r.lhs → adv y ∈ gs z.1.S j)
    (⟨h1, us, S, E1⟩, 0) (by simp only [push_cast, Nat.reduceEqDiff, reduceIte]) rfl ⟨K1, rfl, .refl, C, fun _ _ => rfl, Nat.zero_le _, fun y hy => by simp at hy⟩ ?_
  clear K1 K
  rintro ⟨⟨hk, us1, S1, E2⟩, i⟩ ⟨K, rfl, X, C1, hne, hi, hall⟩
  simp only at K X C1 hne hi hall ⊢
  have hfS1 : x.frm < S1.length := by rw [X.n]; exact hfS
  have hsm := C1.small R hw (k := x.frm) (by omega)
  have hc := K.c
  have hs := K.s
  unfold chCells at hc
  simp only at hc hs
  obtain ⟨u, cu, hu, gu⟩ := K.us_at hfS1
  simp only at hu gu
  have f1 := rng hfS1
  repeat (first | apply zs | apply zr | apply zn | ((first | apply zx | apply zy); · simp only [push_cast, env, Nat.reduceEqDiff, reduceIte, Nat.reduceAdd, Nat.reduceMul, Nat.reduceLeDiff, reduceCtorEq, Nat.reduceSub, Int.reduceToNat] <;> first | exact rfl | exact .inl rfl | exact .inr rfl) | apply zq | apply zb | apply zo | apply zk | apply zl)
  refine cw_regionD 10 mixed (by kernel_rfl) ?_
  repeat (first | apply zs | apply zr | apply zn | ((first | apply zx | apply zy); · simp only [push_cast, env, Nat.reduceEqDiff, reduceIte, Nat.reduceAdd, Nat.reduceMul, Nat.reduceLeDiff, reduceCtorEq, Nat.reduceSub, Int.reduceToNat, hc, hs, hu, f1, Nat.mul_one] <;> first | exact rfl | exact .inl rfl | exact .inr rfl) | apply zq | apply zb | apply zo | apply zk | apply zl)
  by_cases hlt : i < (gs S1 x.frm).length
  · have f3 := lt_dec hlt
    have f2 := inc hlt (by omega)
    obtain ⟨iu, vu, cu, hu2, hgu, hrdu⟩ := K.item_at hfS1 hlt
    simp only at hu2 hgu hrdu
    have f4 := rng hlt
    generalize hy : (gs S1 x.frm)[i] = y at hrdu
    have hym : y ∈ gs S1 x.frm := hy ▸ List.getElem_mem hlt
    have hyI := C1.s _ _ hym
    obtain ⟨ry, hry, hyd, _, hysq⟩ := hyI.sound
    obtain ⟨hyl, hye⟩ := List.getElem?_eq_some_iff.1 hry
    refine cw_condT (by simp only [push_cast, env, Nat.reduceEqDiff, reduceIte, f3] <;> exact rfl) ?_
    repeat (first | apply zs | apply zr | apply zn | ((first | apply zx | apply zy); · simp only [push_cast, env, Nat.reduceEqDiff, reduceIte, Nat.reduceAdd, Nat.reduceMul, Nat.reduceLeDiff, reduceCtorEq, Nat.reduceSub, Int.reduceToNat] <;> first | exact rfl | exact .inl rfl | exact .inr rfl) | apply zq | apply zb | apply zo | apply zk | apply zl)
    refine cw_weakL [(0, .val (.pointer (some ⟨F.cp, 0, some 0⟩))), (1, .val (i64 j)), (5, .box [i64 x.rule, i64 x.dot, i64 x.frm]), (6, .val (i64 r.lhs)), (7, .val (i64 i))] (by simp only [push_cast, Nat.reduceEqDiff, reduceIte]) ?_
    show CW _ _ ⟨_, [], hk⟩ _
    apply cw_ordT (n := 12) (L := [[], [0], [0, 1], [0, 1, 2], [], [4], [0, 1, 2, 3, 4, 5], [0, 1, 2, 3, 4, 5, 6], [], [0, 1, 2, 3, 4, 5, 6, 7, 8], [0, 1, 2, 3, 4, 5, 6, 7, 8, 9], [], [0, 1, 2, 3, 4, 5, 6, 7, 8, 9, 10, 11]]) (act := []) (hs := []) (resL := [_, _, _, _, _, _, _, _, _, _, _, _]) (frP := [(0, .val (.pointer (some ⟨F.cp, 0, some 0⟩))), (1, .val (i64 j)), (5, .box [i64 x.rule, i64 x.dot, i64 x.frm]), (6, .val (i64 r.lhs)), (7, .val (i64 i)), (8, .box [i64 0, i64 0, i64 0]), (52, .val y.val)])
    case hm => exact mixed
    case hc => kernel_rfl
    case hn => kernel_rfl
    case ha => rfl
    case hb => rfl
    case hS => repeat (first | exact StepsA.nil _ | (apply StepsA.cons; (· rfl); (· (first | refine ⟨?_, trivial⟩ | refine ⟨?_, ?_, trivial⟩ | refine ⟨?_, ?_, ?_, trivial⟩ | refine ⟨?_, ?_, ?_, ?_, trivial⟩) <;> (apply zz; simp only [push_cast, env, Nat.reduceEqDiff, reduceIte, Nat.reduceAdd, Nat.reduceMul, Nat.reduceLeDiff, reduceCtorEq, Nat.reduceSub, Int.reduceToNat, hc, hs, hu2, hgu, hrdu, f1, f4, Nat.mul_one] <;> exact rfl)); (· rfl)))
    case ht => rfl
    case hF => repeat (first | exact trivial | (refine ⟨.inl ⟨by decide, rfl⟩, ?_⟩) | (refine ⟨.inr ⟨rfl, by simp⟩, ?_⟩))
    repeat (first | apply zs | apply zr | apply zn | ((first | apply zx | apply zy); · simp only [push_cast, env, Nat.reduceEqDiff, reduceIte, Nat.reduceAdd, Nat.reduceMul, Nat.reduceLeDiff, reduceCtorEq, Nat.reduceSub, Int.reduceToNat] <;> first | exact rfl | exact .inl rfl | exact .inr rfl) | apply zq | apply zb | apply zo | apply zk | apply zl)
    refine ⟨[(0, .val (.pointer (some ⟨F.cp, 0, some 0⟩))), (1, .val (i64 j)), (5, .box [i64 x.rule, i64 x.dot, i64 x.frm]), (6, .val (i64 r.lhs)), (7, .val (i64 i)), (8, .box [i64 y.rule, i64 y.dot, i64 y.frm])], (by simp only [push_cast, Nat.reduceEqDiff, reduceIte]), ?_⟩
    show CW _ _ ⟨_, [], hk⟩ _
    repeat (first | apply zs | apply zr | apply zn | ((first | apply zx | apply zy); · simp only [push_cast, env, Nat.reduceEqDiff, reduceIte, Nat.reduceAdd, Nat.reduceMul, Nat.reduceLeDiff, reduceCtorEq, Nat.reduceSub, Int.reduceToNat] <;> first | exact rfl | exact .inl rfl | exact .inr rfl) | apply zq | apply zb | apply zo | apply zk | apply zl)
    refine cw_regionD 10 mixed (by kernel_rfl) ?_
    obtain ⟨id3, ver3, own3, c3, cells3, p3, n3, c4, hv3, hid3, hn3, hrd3, hu3⟩ := hr.at hyl
    cases hv3
    subst hn3
    have hid3' := getElem?_of_prefix K.p hid3
    have g1 := rdH_get (j := 1) hrd3 (by omega)
    simp only [List.getElem?_cons_succ, List.getElem?_cons_zero] at g1
    have g2 := rng hyl
    have hnx : (gs S1 x.frm).take (i + 1) = (gs S1 x.frm).take i ++ [y] := by rw [List.take_succ_eq_append_getElem hlt, hy]
    by_cases hdl : y.dot < g.rules[y.rule].rhs.length
    · have d1 : decide ((y.dot : Int) < (g.rules[y.rule].rhs.length : Int)) = true := lt_dec hdl
      obtain ⟨id4, ver4, own4, c5, cells4, hv4, hid4, hrd4⟩ := hu3.at hdl
      cases hv4
      have hid4' := getElem?_of_prefix K.p hid4
      have g4 := rdH_get0 hrd4 (by omega)
      simp only [List.getElem?_cons_zero] at g4
      have g5 := rng hdl
      repeat (first | apply zs | apply zr | apply zn | ((first | apply zx | apply zy); · simp only [push_cast, env, Nat.reduceEqDiff, reduceIte, Nat.reduceAdd, Nat.reduceMul, Nat.reduceLeDiff, reduceCtorEq, Nat.reduceSub, Int.reduceToNat, hc, hid3', g1, g2, d1, hid4', g4, g5, Nat.mul_one] <;> first | exact rfl | exact .inl rfl | exact .inr rfl) | apply zq | apply zb | apply zo | apply zk | apply zl)
      refine cw_cond (by simp only [push_cast, env, Nat.reduceEqDiff, reduceIte] <;> exact rfl) (fun c1 => ?_) (fun c1 => ?_)
      · simp only [decide_eq_true_eq] at c1
        have hsy : ry.rhs[y.dot]? = some (g.rules[y.rule].rhs[y.dot]) := by rw [← hye]; exact List.getElem?_eq_getElem hdl
        have hadv : It g w j (adv y) := .comp j x r y ry _ hx hq hd hyI hry hsy (by omega) c1
        have f5 : IntKind.i64.wrap ((y.dot : Int) + 1) = ((y.dot + 1 : Nat) : Int) := by
          have := (R.r _ (List.mem_of_getElem? hry)).2.2.1
          rw [wrap64_id (by omega) (by omega)]
          rfl
        have hjS1 : j < S1.length := by rw [X.n]; exact hjS
        repeat (first | apply zs | apply zr | apply zn | ((first | apply zx | apply zy); · simp only [push_cast, env, Nat.reduceEqDiff, reduceIte, Nat.reduceAdd, Nat.reduceMul, Nat.reduceLeDiff, reduceCtorEq, Nat.reduceSub, Int.reduceToNat, f5] <;> first | exact rfl | exact .inl rfl | exact .inr rfl) | apply zq | apply zb | apply zo | apply zk | apply zl)
        refine zc (fn := Try.f52) (by simp only [push_cast, env, Nat.reduceEqDiff, reduceIte] <;> exact rfl) Try.func52 (by kernel_rfl) (by kernel_rfl) ?_
        rw [List.append_nil]
        refine (add_fw (x := adv y) K hjS1 (by have := C1.small R hw hj; simp only; omega)).mono ?_
        rintro _ h2 ⟨us2, K2⟩
        simp only at K2
        repeat (first | apply zs | apply zr | apply zn | ((first | apply zx | apply zy); · simp only [push_cast, env, Nat.reduceEqDiff, reduceIte, Nat.reduceAdd, Nat.reduceMul, Nat.reduceLeDiff, reduceCtorEq, Nat.reduceSub, Int.reduceToNat, f2] <;> first | exact rfl | exact .inl rfl | exact .inr rfl) | apply zq | apply zb | apply zo | apply zk | apply zl)
        have X2 := addS_ext (x := adv y) hjS1
        refine ⟨(⟨h2, us2, addS S1 j (adv y), E2⟩, i + 1), by simp only; omega, (by simp only [push_cast, Nat.reduceEqDiff, reduceIte]), rfl, K2, rfl, X.trans X2, C1.add hadv hj, fun k hkj => by simp only; rw [addS_ne hjS1 hkj]; exact hne k hkj, by simp only; have := X2.le x.frm; omega, fun z hz hwz => ?_⟩
        simp only at hz ⊢
        rw [X2.take (by omega), hnx, List.mem_append, List.mem_singleton] at hz
        rcases hz with hz | rfl
        · exact X2.mem (hall z hz hwz)
        · exact addS_mem hjS1
      · simp only [decide_eq_false_iff_not] at c1
        repeat (first | apply zs | apply zr | apply zn | ((first | apply zx | apply zy); · simp only [push_cast, env, Nat.reduceEqDiff, reduceIte, Nat.reduceAdd, Nat.reduceMul, Nat.reduceLeDiff, reduceCtorEq, Nat.reduceSub, Int.reduceToNat, f2] <;> first | exact rfl | exact .inl rfl | exact .inr rfl) | apply zq | apply zb | apply zo | apply zk | apply zl)
        refine ⟨(⟨hk, us1, S1, E2⟩, i + 1), by simp only; omega, (by simp only [push_cast, Nat.reduceEqDiff, reduceIte]), rfl, K, rfl, X, C1, hne, by simp only; omega, fun z hz hwz => ?_⟩
        rw [hnx, List.mem_append, List.mem_singleton] at hz
        rcases hz with hz | rfl
        · exact hall z hz hwz
        obtain ⟨r', s, w1, w2, w3⟩ := hwz
        obtain rfl : ry = r' := Option.some.inj (hry.symm.trans w1)
        rw [← hye] at w2
        rw [List.getElem?_eq_getElem hdl] at w2
        exact (c1 (by rw [Option.some.inj w2]; exact w3)).elim
    · have d1 : decide ((y.dot : Int) < (g.rules[y.rule].rhs.length : Int)) = false := ge_dec hdl
      repeat (first | apply zs | apply zr | apply zn | ((first | apply zx | apply zy); · simp only [push_cast, env, Nat.reduceEqDiff, reduceIte, Nat.reduceAdd, Nat.reduceMul, Nat.reduceLeDiff, reduceCtorEq, Nat.reduceSub, Int.reduceToNat, hc, hid3', g1, g2, d1, Nat.mul_one] <;> first | exact rfl | exact .inl rfl | exact .inr rfl) | apply zq | apply zb | apply zo | apply zk | apply zl)
      refine cw_condF rfl ?_
      repeat (first | apply zs | apply zr | apply zn | ((first | apply zx | apply zy); · simp only [push_cast, env, Nat.reduceEqDiff, reduceIte, Nat.reduceAdd, Nat.reduceMul, Nat.reduceLeDiff, reduceCtorEq, Nat.reduceSub, Int.reduceToNat, f2] <;> first | exact rfl | exact .inl rfl | exact .inr rfl) | apply zq | apply zb | apply zo | apply zk | apply zl)
      refine ⟨(⟨hk, us1, S1, E2⟩, i + 1), by simp only; omega, (by simp only [push_cast, Nat.reduceEqDiff, reduceIte]), rfl, K, rfl, X, C1, hne, by simp only; omega, fun z hz hwz => ?_⟩
      rw [hnx, List.mem_append, List.mem_singleton] at hz
      rcases hz with hz | rfl
      · exact hall z hz hwz
      obtain ⟨r', s, w1, w2, w3⟩ := hwz
      obtain rfl : ry = r' := Option.some.inj (hry.symm.trans w1)
      rw [← hye] at w2
      exact (hdl (List.getElem?_eq_some_iff.1 w2).1).elim
  · have f3 := ge_dec hlt
    refine cw_condF (by simp only [push_cast, env, Nat.reduceEqDiff, reduceIte, f3] <;> exact rfl) ?_
    refine cw_exit ?_
    refine ⟨_, (by simp only [push_cast, env, Nat.reduceEqDiff, reduceIte] <;> exact rfl), us1, S1, K, X, C1, hne, fun y hy => hall y ?_⟩
    rw [List.take_of_length_le (by omega)]
    exact hy
end Go.Proofs.Ytafncpgiibikcaa

namespace Go.Proofs.Ytafncpgiibikcaa
set_option linter.unusedSimpArgs false
set_option linter.unusedVariables false
set_option maxRecDepth 20000
open Go.RowKit Am Ty

theorem shr_and {w : Int} (hw : WWf w) {j : Nat} (hj : j < 64) : IntKind.u64.wrap ((BitVec.ofInt IntKind.u64.bits (w.fdiv (2 ^ (min j IntKind.u64.bits))) &&& BitVec.ofInt IntKind.u64.bits 1).toNat) = w / 2 ^ j % 2 := by
  have hb : IntKind.u64.bits = 64 := rfl
  rw [hb, Nat.min_eq_left (by omega), Int.fdiv_eq_ediv_of_nonneg _ (Int.pow_nonneg (by decide))]
  have h := div_pow hw j
  generalize w / 2 ^ j = q at h
  obtain ⟨x, rfl⟩ : ∃ x : Nat, q = x := ⟨q.toNat, by omega⟩
  have e1 : (BitVec.ofInt 64 (x : Int)).toNat = x := by
    rw [BitVec.toNat_ofInt]
    have := Int.emod_eq_of_lt (a := (x : Int)) (b := ((2 ^ 64 : Nat) : Int)) (by omega) (by have := h.2; simpa using this)
    rw [this]
    rfl
  have e2 : (BitVec.ofInt 64 1).toNat = 1 := by decide
  rw [BitVec.toNat_and, e1, e2, Nat.and_one_is_mod]
  rw [wrap_u64 ⟨by omega, by omega⟩]
  omega
set_option maxHeartbeats 2000000 in
theorem chas_fw {h : Heap} {s : BSet} {b : Nat} (hs : SetWf s) (hb : b < 256) : FW env 33 [s.val, u8 b] h fun r h' => r = .bool (s.has b) ∧ h' = h := by
  obtain ⟨j, hj⟩ : ∃ j : Nat, j = b % 64 := ⟨_, rfl⟩
  have hj2 : j < 64 := by omega
  have q2 : (b : Int).tmod 64 = (j : Int) := by
    rw [Int.tmod_eq_emod_of_nonneg (by omega)]
    omega
  have q3 : ((j : Int) < 0) = False := by simp
  have ww := hs.word (b / 64)
  have q5 := shr_and ww hj2
  have hres : s.has b = decide (s.word (b / 64) / 2 ^ j % 2 = 1) := by
    unfold BSet.has
    rw [wbit_div ww, hj]
  have q1 : IntKind.u8.wrap ((b : Int).tdiv 64) = ((b / 64 : Nat) : Int) := by
    rw [Int.tdiv_eq_ediv_of_nonneg (by omega)]
    unfold IntKind.wrap
    simp only [IntKind.bits, IntKind.signed, Bool.false_and, Bool.false_eq_true, if_false]
    omega
  rw [hres]
  refine fw_enter (fn := Try.f33) Try.func33 rfl (by kernel_rfl) (by simp [Try.ntmps33]) ?_; simp only [push_cast]
  rcases (by omega : b / 64 = 0 ∨ b / 64 = 1 ∨ b / 64 = 2 ∨ b / 64 = 3) with e | e | e | e
  all_goals
    rw [e] at q1 q5 ⊢
    simp only [BSet.word] at q5 ⊢
  · rw [show ((0 : Nat) : Int) = 0 from rfl] at q1
    repeat (first | apply zs | apply zr | apply zn | ((first | apply zx | apply zy); · simp only [push_cast, env, Nat.reduceEqDiff, reduceIte, Nat.reduceAdd, Nat.reduceMul, Nat.reduceLeDiff, reduceCtorEq, Nat.reduceSub, Int.reduceToNat, q1, q2, q3, q5, Int.reduceEq, Int.reduceLT, Int.reduceLE, Nat.mul_one] <;> first | exact rfl | exact .inl rfl | exact .inr rfl) | apply zq | apply zb | apply zo | apply zk | apply zl)
    refine cw_ret ?_
    exact ⟨_, (by simp only [push_cast, env, Nat.reduceEqDiff, reduceIte] <;> exact rfl), rfl, rfl⟩
  · rw [show ((1 : Nat) : Int) = 1 from rfl] at q1
    repeat (first | apply zs | apply zr | apply zn | ((first | apply zx | apply zy); · simp only [push_cast, env, Nat.reduceEqDiff, reduceIte, Nat.reduceAdd, Nat.reduceMul, Nat.reduceLeDiff, reduceCtorEq, Nat.reduceSub, Int.reduceToNat, q1, q2, q3, q5, Int.reduceEq, Int.reduceLT, Int.reduceLE, Nat.mul_one] <;> first | exact rfl | exact .inl rfl | exact .inr rfl) | apply zq | apply zb | apply zo | apply zk | apply zl)
    refine cw_ret ?_
    exact ⟨_, (by simp only [push_cast, env, Nat.reduceEqDiff, reduceIte] <;> exact rfl), rfl, rfl⟩
  · rw [show ((2 : Nat) : Int) = 2 from rfl] at q1
    repeat (first | apply zs | apply zr | apply zn | ((first | apply zx | apply zy); · simp only [push_cast, env, Nat.reduceEqDiff, reduceIte, Nat.reduceAdd, Nat.reduceMul, Nat.reduceLeDiff, reduceCtorEq, Nat.reduceSub, Int.reduceToNat, q1, q2, q3, q5, Int.reduceEq, Int.reduceLT, Int.reduceLE, Nat.mul_one] <;> first | exact rfl | exact .inl rfl | exact .inr rfl) | apply zq | apply zb | apply zo | apply zk | apply zl)
    refine cw_ret ?_
    exact ⟨_, (by simp only [push_cast, env, Nat.reduceEqDiff, reduceIte] <;> exact rfl), rfl, rfl⟩
  · rw [show ((3 : Nat) : Int) = 3 from rfl] at q1
    repeat (first | apply zs | apply zr | apply zn | ((first | apply zx | apply zy); · simp only [push_cast, env, Nat.reduceEqDiff, reduceIte, Nat.reduceAdd, Nat.reduceMul, Nat.reduceLeDiff, reduceCtorEq, Nat.reduceSub, Int.reduceToNat, q1, q2, q3, q5, Int.reduceEq, Int.reduceLT, Int.reduceLE, Nat.mul_one] <;> first | exact rfl | exact .inl rfl | exact .inr rfl) | apply zq | apply zb | apply zo | apply zk | apply zl)
    refine cw_ret ?_
    exact ⟨_, (by simp only [push_cast, env, Nat.reduceEqDiff, reduceIte] <;> exact rfl), rfl, rfl⟩
end Go.Proofs.Ytafncpgiibikcaa

namespace Go.Proofs.Ytafncpgiibikcaa
set_option linter.unusedSimpArgs false
set_option linter.unusedVariables false
set_option maxRecDepth 20000
open Go.RowKit Am Ty

structure ByR (g : Gram) (ls : List (List Int)) : Prop where
  n : (ls.length : Int) = g.nts
  m : ∀ a : Int, 0 ≤ a → a < g.nts → ∀ q : Int, q ∈ lget ls a ↔ ∃ (k : Nat) (r : Rule), q = k ∧ g.rules[k]? = some r ∧ r.lhs = a
  l : ∀ l ∈ ls, l.length ≤ 8192
def RdLL (h : Heap) (v : Value) (ls : List (List Int)) : Prop := ∃ id ver own c us, v = .slice (some ⟨id, 0, some ver⟩) ls.length c ∧ h[id]? = some (.arr us ver own 91) ∧ us.length = ls.length ∧ ∀ (i : Nat) (u : Value) (l : List Int), us[i]? = some u → ls[i]? = some l → RdInts h u l
theorem RdLL.mono {h h' : Heap} {v : Value} {ls : List (List Int)} (r : RdLL h v ls) (hp : h <+: h') : RdLL h' v ls := by
  obtain ⟨id, ver, own, c, us, h1, h2, h3, h4⟩ := r
  exact ⟨id, ver, own, c, us, h1, getElem?_of_prefix hp h2, h3, fun i u l k1 k2 => SlR.mono (h4 i u l k1 k2) hp⟩
set_option maxHeartbeats 8000000 in
theorem step_fw {h0 hB hb : Heap} {g : Gram} {rv wv : Value} {F : Fix} {G : Gh} {j : Nat} {x : Item} {w : List Nat} {ls : List (List Int)} (K : CHR h0 hB g rv wv F G) (hev : F.ev = .map (some F.ie)) (hp0 : hb <+: h0) (hr : RdRules hb rv g.rules) (hwR : RdB hb wv w) (hl : RdLL hB F.bv ls) (B : ByR g ls) (R : RightS g) (W : WfG g)
    (hw : w.length ≤ 512) (C : CI g w G.S) (hj : j ≤ w.length) (hx : It g w j x) (hE : ESound g w j G.E) :
    FW env 53 [.pointer (some ⟨F.cp, 0, some 0⟩), i64 j, x.val] G.h fun _ h' => ∃ us S' E', CHR h0 hB g rv wv F ⟨h', us, S', E'⟩ ∧ StepP g w j x G.S G.E S' E' := by
  obtain ⟨h, us, S, E⟩ := G
  simp only at C hE ⊢
  obtain ⟨p, cr, rfl⟩ := hr.form
  obtain ⟨pw, cw, rfl⟩ := hwR.form
  have hle := hr.le
  obtain ⟨r, hq, hxd, _, hxs⟩ := hx.sound
  obtain ⟨hql, hqe⟩ := List.getElem?_eq_some_iff.1 hq
  have hxf : x.frm ≤ j := hxs.1
  have hjS : j < S.length := by have := C.n; omega
  obtain ⟨l1, l2, l3, hS⟩ := R.r _ (List.mem_of_getElem? hq)
  have hc := K.c
  unfold chCells at hc
  simp only at hc
  obtain ⟨id, ver, own, c', cells, p', n', c2, hv, hid0, hn, hrd, hu'⟩ := hr.at hql
  cases hv
  subst hn
  have hph : hb <+: h := hp0.trans K.p
  have hid := getElem?_of_prefix hph hid0
  have e0 := rdH_get (j := 1) hrd (by omega)
  simp only [List.getElem?_cons_zero, List.getElem?_cons_succ] at e0
  have e1 := rng hql
  refine fw_enter (fn := Try.f53) Try.func53 rfl (by kernel_rfl) (by simp [Try.ntmps53]) ?_; simp only [push_cast]
  repeat (first | apply zs | apply zr | apply zn | ((first | apply zx | apply zy); · simp only [push_cast, env, Nat.reduceEqDiff, reduceIte, Nat.reduceAdd, Nat.reduceMul, Nat.reduceLeDiff, reduceCtorEq, Nat.reduceSub, Int.reduceToNat] <;> first | exact rfl | exact .inl rfl | exact .inr rfl) | apply zq | apply zb | apply zo | apply zk | apply zl)
  refine cw_regionD 10 mixed (by kernel_rfl) ?_
  by_cases hend : x.dot = g.rules[x.rule].rhs.length
  · have d1 : decide ((x.dot : Int) = (g.rules[x.rule].rhs.length : Int)) = true := decide_eq_true (by omega)
    repeat (first | apply zs | apply zr | apply zn | ((first | apply zx | apply zy); · simp only [push_cast, env, Nat.reduceEqDiff, reduceIte, Nat.reduceAdd, Nat.reduceMul, Nat.reduceLeDiff, reduceCtorEq, Nat.reduceSub, Int.reduceToNat, hc, e1, hid, e0, Nat.mul_one, d1] <;> first | exact rfl | exact .inl rfl | exact .inr rfl) | apply zq | apply zb | apply zo | apply zk | apply zl)
    refine cw_condT rfl ?_
    repeat (first | apply zs | apply zr | apply zn | ((first | apply zx | apply zy); · simp only [push_cast, env, Nat.reduceEqDiff, reduceIte, Nat.reduceAdd, Nat.reduceMul, Nat.reduceLeDiff, reduceCtorEq, Nat.reduceSub, Int.reduceToNat] <;> first | exact rfl | exact .inl rfl | exact .inr rfl) | apply zq | apply zb | apply zo | apply zk | apply zl)
    refine zc (fn := Try.f62) (by simp only [push_cast, env, Nat.reduceEqDiff, reduceIte] <;> exact rfl) Try.func62 (by kernel_rfl) (by kernel_rfl) ?_
    rw [List.append_nil]
    refine (complete_fw (x := x) K hev (hr.mono hp0) R hw C hj hx hq (by rw [← hqe]; exact hend)).mono ?_
    rintro _ h2 ⟨us2, S2, K2, P2⟩
    repeat (first | apply zs | apply zr | apply zn | ((first | apply zx | apply zy); · simp only [push_cast, env, Nat.reduceEqDiff, reduceIte, Nat.reduceAdd, Nat.reduceMul, Nat.reduceLeDiff, reduceCtorEq, Nat.reduceSub, Int.reduceToNat] <;> first | exact rfl | exact .inl rfl | exact .inr rfl) | apply zq | apply zb | apply zo | apply zk | apply zl)
    refine cw_ret ?_
    exact ⟨_, (by simp only [push_cast, env, Nat.reduceEqDiff, reduceIte] <;> exact rfl), us2, S2, _, K2, P2.step ⟨r, hq, by rw [← hqe]; exact hend, rfl⟩ hx hE⟩
  have d1 : decide ((x.dot : Int) = (g.rules[x.rule].rhs.length : Int)) = false := decide_eq_false (by omega)
  have hdl : x.dot < g.rules[x.rule].rhs.length := by rw [← hqe] at hxd; omega
  obtain ⟨id4, ver4, own4, c5, cells4, hv4, hid4, hrd4⟩ := hu'.at hdl
  cases hv4
  have hid4' := getElem?_of_prefix hph hid4
  have g5 := rng hdl
  obtain ⟨s, hs⟩ : ∃ s, s = g.rules[x.rule].rhs[x.dot] := ⟨_, rfl⟩
  rw [← hs] at hrd4
  have hsy : r.rhs[x.dot]? = some s := by rw [hs, ← hqe]; exact List.getElem?_eq_getElem hdl
  have hsm := hS s (List.mem_of_getElem? hsy)
  have f5 : IntKind.i64.wrap ((x.dot : Int) + 1) = ((x.dot + 1 : Nat) : Int) := by
    rw [← hqe] at l3
    rw [wrap64_id (by omega) (by omega)]
    rfl
  repeat (first | apply zs | apply zr | apply zn | ((first | apply zx | apply zy); · simp only [push_cast, env, Nat.reduceEqDiff, reduceIte, Nat.reduceAdd, Nat.reduceMul, Nat.reduceLeDiff, reduceCtorEq, Nat.reduceSub, Int.reduceToNat, hc, e1, hid, e0, Nat.mul_one, d1] <;> first | exact rfl | exact .inl rfl | exact .inr rfl) | apply zq | apply zb | apply zo | apply zk | apply zl)
  refine cw_condF rfl ?_
  repeat (first | apply zs | apply zr | apply zn | ((first | apply zx | apply zy); · simp only [push_cast, env, Nat.reduceEqDiff, reduceIte, Nat.reduceAdd, Nat.reduceMul, Nat.reduceLeDiff, reduceCtorEq, Nat.reduceSub, Int.reduceToNat, hid4', hrd4, g5, f5] <;> first | exact rfl | exact .inl rfl | exact .inr rfl) | apply zq | apply zb | apply zo | apply zk | apply zl)
  have hsB : ∀ b : Nat, s.set.has b = true → b < 256 → True := fun _ _ _ => trivial
  refine cw_cond (by simp only [push_cast, env, Nat.reduceEqDiff, reduceIte] <;> exact rfl) (fun c1 => ?_) (fun c1 => ?_)
  · have c1' : s.nt < 0 := by simpa using c1
    have nowait : ∀ A, Wait g x A → 0 ≤ A → False := fun A hA h0 => by
      obtain ⟨r', s', w1, w2, w3⟩ := hA
      obtain rfl : r = r' := Option.some.inj (hq.symm.trans w1)
      obtain rfl : s = s' := Option.some.inj (hsy.symm.trans w2)
      omega
    have noend : ∀ A, Endd g x A → False := fun A hA => by
      obtain ⟨r', w1, w2, _⟩ := hA
      obtain rfl : r = r' := Option.some.inj (hq.symm.trans w1)
      rw [← hqe] at w2
      exact hend w2
    refine cw_weakL [(0, .val (.pointer (some ⟨F.cp, 0, some 0⟩))), (1, .val (i64 j)), (7, .box [i64 s.nt, u64 s.set.a, u64 s.set.b, u64 s.set.c, u64 s.set.d]), (8, .box [i64 x.rule, i64 (x.dot + 1), i64 x.frm])] (by simp only [push_cast, Nat.reduceEqDiff, reduceIte]) ?_
    show CW _ _ ⟨_, [], h⟩ _
    refine cw_seq ?_
    refine cw_seq ?_
    by_cases hjw : j < w.length
    · have d2 := lt_dec hjw
      obtain ⟨idw, offw, verw, ownw, cw', cellsw, hvw, hidw, hgw, hbw⟩ := hwR.at hjw
      cases hvw
      have hidw' := getElem?_of_prefix hph hidw
      have e6 := rng hjw
      have hsw := W _ (List.mem_of_getElem? hq) s (List.mem_of_getElem? hsy)
      apply cw_ord0 (L := [[], [], [1], [2], [3], [4], [0, 5], [6], [7], [7, 8], [7], [7, 10], [7, 11], [7, 12], [7], [7, 13, 14], [7, 15], [7, 9, 16], [7, 17]]) (resL := [_, _, _, _, _, _, _, _, _, _, _, _, _, _, _, _, _, _, _]) (frF := [(0, .val (.pointer (some ⟨F.cp, 0, some 0⟩))), (1, .val (i64 j)), (8, .box [i64 x.rule, i64 (x.dot + 1), i64 x.frm]), (64, .val (.bool (s.set.has w[j])))])
      case hm => exact mixed
      case hc => kernel_rfl
      case hb => rfl
      case hS =>
        repeat (first | exact Steps0.nil _ | (apply Steps0.cons; (· apply zz; simp only [push_cast, env, Nat.reduceEqDiff, reduceIte, Nat.reduceAdd, Nat.reduceMul, Nat.reduceLeDiff, reduceCtorEq, Nat.reduceSub, Int.reduceToNat, hc, d2, hidw', hgw, e6, Nat.mul_one] <;> exact rfl); (· rfl)))
        apply Steps0.cons; · refine one_call (fn := Try.f33) rfl (by simp only [push_cast, env, Nat.reduceEqDiff, reduceIte, d2] <;> exact rfl) rfl (by simp only [push_cast, env, Nat.reduceEqDiff, reduceIte, d2] <;> exact rfl) (by simp only [push_cast, env, Nat.reduceEqDiff, reduceIte, d2] <;> exact rfl) Try.func33 (by kernel_rfl) (by kernel_rfl) (chas_fw hsw hbw)
        · rfl
        repeat (first | exact Steps0.nil _ | (apply Steps0.cons; (· apply zz; simp only [push_cast, env, Nat.reduceEqDiff, reduceIte, Nat.reduceAdd, Nat.reduceMul, Nat.reduceLeDiff, reduceCtorEq, Nat.reduceSub, Int.reduceToNat] <;> exact rfl); (· rfl)))
      case ht => rfl
      case hF => repeat (first | exact trivial | (refine ⟨.inl ⟨by decide, rfl⟩, ?_⟩) | (refine ⟨.inr ⟨rfl, by simp⟩, ?_⟩))
      show CW _ _ _ _
      repeat (first | apply zs | apply zr | apply zn | ((first | apply zx | apply zy); · simp only [push_cast, env, Nat.reduceEqDiff, reduceIte, Nat.reduceAdd, Nat.reduceMul, Nat.reduceLeDiff, reduceCtorEq, Nat.reduceSub, Int.reduceToNat] <;> first | exact rfl | exact .inl rfl | exact .inr rfl) | apply zq | apply zb | apply zo | apply zk | apply zl)
      refine cw_cond (by simp only [push_cast, env, Nat.reduceEqDiff, reduceIte] <;> exact rfl) (fun c2 => ?_) (fun c2 => ?_)
      · have hadv : It g w (j + 1) (adv x) := .scan j x r s w[j] hx hq hsy c1' (List.getElem?_eq_getElem hjw) c2
        have hj1 : j + 1 < S.length := by have := C.n; omega
        have f6 : IntKind.i64.wrap ((j : Int) + 1) = ((j + 1 : Nat) : Int) := by rw [wrap64_id (by omega) (by omega)]; rfl
        repeat (first | apply zs | apply zr | apply zn | ((first | apply zx | apply zy); · simp only [push_cast, env, Nat.reduceEqDiff, reduceIte, Nat.reduceAdd, Nat.reduceMul, Nat.reduceLeDiff, reduceCtorEq, Nat.reduceSub, Int.reduceToNat, f6] <;> first | exact rfl | exact .inl rfl | exact .inr rfl) | apply zq | apply zb | apply zo | apply zk | apply zl)
        refine zc (fn := Try.f52) (by simp only [push_cast, env, Nat.reduceEqDiff, reduceIte] <;> exact rfl) Try.func52 (by kernel_rfl) (by kernel_rfl) ?_
        rw [List.append_nil]
        refine (add_fw (j := j + 1) (x := adv x) K hj1 (by have := C.small R hw (k := j + 1) (by omega); simp only; omega)).mono ?_
        rintro _ h2 ⟨us2, K2⟩
        have X2 := addS_ext (x := adv x) hj1
        repeat (first | apply zs | apply zr | apply zn | ((first | apply zx | apply zy); · simp only [push_cast, env, Nat.reduceEqDiff, reduceIte, Nat.reduceAdd, Nat.reduceMul, Nat.reduceLeDiff, reduceCtorEq, Nat.reduceSub, Int.reduceToNat] <;> first | exact rfl | exact .inl rfl | exact .inr rfl) | apply zq | apply zb | apply zo | apply zk | apply zl)
        refine cw_ret ?_
        refine ⟨_, (by simp only [push_cast, env, Nat.reduceEqDiff, reduceIte] <;> exact rfl), us2, _, E, K2, X2, C.add hadv (by omega), fun k k1 k2 => addS_ne hj1 k2, fun a h => h, hE, fun a h1 h2 => (h2 h1).elim, ⟨fun A q r' h1 h2 => (nowait A h1 h2).elim, fun _ _ _ _ _ _ _ _ => addS_mem hj1, fun A y h1 => (noend A h1).elim, fun A h1 => (noend A h1).elim, fun A h1 h2 => ?_⟩⟩
        obtain ⟨y, hy, hy2, ry, w1, w2, w3⟩ := hE A h2
        exact (nowait A h1 (by have := (R.r _ (List.mem_of_getElem? w1)).1; omega)).elim
      · repeat (first | apply zs | apply zr | apply zn | ((first | apply zx | apply zy); · simp only [push_cast, env, Nat.reduceEqDiff, reduceIte, Nat.reduceAdd, Nat.reduceMul, Nat.reduceLeDiff, reduceCtorEq, Nat.reduceSub, Int.reduceToNat] <;> first | exact rfl | exact .inl rfl | exact .inr rfl) | apply zq | apply zb | apply zo | apply zk | apply zl)
        refine cw_ret ?_
        refine ⟨_, (by simp only [push_cast, env, Nat.reduceEqDiff, reduceIte] <;> exact rfl), us, S, E, K, .refl, C, fun k k1 k2 => rfl, fun a h => h, hE, fun a h1 h2 => (h2 h1).elim, ⟨fun A q r' h1 h2 => (nowait A h1 h2).elim, fun r' s' b h1 h2 h3 h4 h5 => ?_, fun A y h1 => (noend A h1).elim, fun A h1 => (noend A h1).elim, fun A h1 h2 => ?_⟩⟩
        · obtain rfl : r = r' := Option.some.inj (hq.symm.trans h1)
          obtain rfl : s = s' := Option.some.inj (hsy.symm.trans h2)
          rw [List.getElem?_eq_getElem hjw] at h4
          cases h4
          rw [c2] at h5
          cases h5
        · obtain ⟨y, hy, hy2, ry, w1, w2, w3⟩ := hE A h2
          exact (nowait A h1 (by have := (R.r _ (List.mem_of_getElem? w1)).1; omega)).elim
    · have d2 := ge_dec hjw
      apply cw_ord0 (L := [[], [], [1], [2], [3], [4], [0, 5], [6], [7], [7, 8], [7], [7, 10], [7, 11], [7, 12], [7], [7, 13, 14], [7, 15], [7, 9, 16], [7, 17]]) (resL := [_, _, _, _, _, _, _, _, _, _, _, _, _, _, _, _, _, _, _]) (frF := [(0, .val (.pointer (some ⟨F.cp, 0, some 0⟩))), (1, .val (i64 j)), (8, .box [i64 x.rule, i64 (x.dot + 1), i64 x.frm]), (64, .val (.bool false))])
      case hm => exact mixed
      case hc => kernel_rfl
      case hb => rfl
      case hS => repeat (first | exact Steps0.nil _ | (apply Steps0.cons; (· apply zz; simp only [push_cast, env, Nat.reduceEqDiff, reduceIte, Nat.reduceAdd, Nat.reduceMul, Nat.reduceLeDiff, reduceCtorEq, Nat.reduceSub, Int.reduceToNat, hc, d2, Nat.mul_one] <;> exact rfl); (· rfl)))
      case ht => rfl
      case hF => repeat (first | exact trivial | (refine ⟨.inl ⟨by decide, rfl⟩, ?_⟩) | (refine ⟨.inr ⟨rfl, by simp⟩, ?_⟩))
      show CW _ _ _ _
      repeat (first | apply zs | apply zr | apply zn | ((first | apply zx | apply zy); · simp only [push_cast, env, Nat.reduceEqDiff, reduceIte, Nat.reduceAdd, Nat.reduceMul, Nat.reduceLeDiff, reduceCtorEq, Nat.reduceSub, Int.reduceToNat] <;> first | exact rfl | exact .inl rfl | exact .inr rfl) | apply zq | apply zb | apply zo | apply zk | apply zl)
      refine cw_condF rfl ?_
      repeat (first | apply zs | apply zr | apply zn | ((first | apply zx | apply zy); · simp only [push_cast, env, Nat.reduceEqDiff, reduceIte, Nat.reduceAdd, Nat.reduceMul, Nat.reduceLeDiff, reduceCtorEq, Nat.reduceSub, Int.reduceToNat] <;> first | exact rfl | exact .inl rfl | exact .inr rfl) | apply zq | apply zb | apply zo | apply zk | apply zl)
      refine cw_ret ?_
      refine ⟨_, (by simp only [push_cast, env, Nat.reduceEqDiff, reduceIte] <;> exact rfl), us, S, E, K, .refl, C, fun k k1 k2 => rfl, fun a h => h, hE, fun a h1 h2 => (h2 h1).elim, ⟨fun A q r' h1 h2 => (nowait A h1 h2).elim, fun r' s' b h1 h2 h3 h4 h5 => ?_, fun A y h1 => (noend A h1).elim, fun A h1 => (noend A h1).elim, fun A h1 h2 => ?_⟩⟩
      · exact (hjw (List.getElem?_eq_some_iff.1 h4).1).elim
      · obtain ⟨y, hy, hy2, ry, w1, w2, w3⟩ := hE A h2
        exact (nowait A h1 (by have := (R.r _ (List.mem_of_getElem? w1)).1; omega)).elim
  · have c1' : 0 ≤ s.nt := by simpa using c1
    have sn := hsm.2.1
    have onewait : ∀ A, Wait g x A → A = s.nt := fun A hA => by
      obtain ⟨r', s', w1, w2, w3⟩ := hA
      obtain rfl : r = r' := Option.some.inj (hq.symm.trans w1)
      obtain rfl : s = s' := Option.some.inj (hsy.symm.trans w2)
      exact w3.symm
    have noend : ∀ A, Endd g x A → False := fun A hA => by
      obtain ⟨r', w1, w2, _⟩ := hA
      obtain rfl : r = r' := Option.some.inj (hq.symm.trans w1)
      rw [← hqe] at w2
      exact hend w2
    obtain ⟨idb, verb, ownb, cb, usb, hbv, hidb, hbn, hbr⟩ := hl
    have hln := B.n
    have hnl : s.nt.toNat < ls.length := by omega
    have hli := lget_get (ls := ls) c1' (by omega)
    obtain ⟨ub, hub⟩ : ∃ ub, usb[s.nt.toNat]? = some ub := ⟨_, List.getElem?_eq_getElem (by omega)⟩
    have hlr := hbr _ _ _ hub hli
    obtain ⟨pb, cbb, rfl⟩ := SlR.form hlr
    have hidb' := K.kb _ _ _ _ _ (.inr rfl) hidb
    have q3 := rng0 (N := ls.length) c1' (by omega)
    have hll := B.l _ (List.mem_of_getElem? hli)
    rw [hbv] at hc
    generalize hL : lget ls s.nt = L at hlr hll hub
    refine cw_weakL [(0, .val (.pointer (some ⟨F.cp, 0, some 0⟩))), (1, .val (i64 j)), (7, .box [i64 s.nt, u64 s.set.a, u64 s.set.b, u64 s.set.c, u64 s.set.d]), (8, .box [i64 x.rule, i64 (x.dot + 1), i64 x.frm])] (by simp only [push_cast, Nat.reduceEqDiff, reduceIte]) ?_
    show CW _ _ ⟨_, [], h⟩ _
    repeat (first | apply zs | apply zr | apply zn | apply zq | apply zb | apply zo | apply zk | apply zl)
    show CW _ _ _ _
    repeat (first | apply zs | apply zr | apply zn | apply zq | apply zb | apply zo | apply zk | apply zl)
    apply cw_ord0 (L := [[], [0], [1], [2], [], [4], [3, 5], [6], [7], []]) (resL := [_, _, _, _, _, _, _, _, _, _]) (frF := [(0, .val (.pointer (some ⟨F.cp, 0, some 0⟩))), (1, .val (i64 j)), (7, .box [i64 s.nt, u64 s.set.a, u64 s.set.b, u64 s.set.c, u64 s.set.d]), (8, .box [i64 x.rule, i64 (x.dot + 1), i64 x.frm]), (77, .val (.slice pb L.length cbb)), (78, .val (i64 L.length)), (79, .val (i64 0))])
    case hm => exact mixed
    case hc => kernel_rfl
    case hb => rfl
    case hS => repeat (first | exact Steps0.nil _ | (apply Steps0.cons; (· apply zz; simp only [push_cast, env, Nat.reduceEqDiff, reduceIte, Nat.reduceAdd, Nat.reduceMul, Nat.reduceLeDiff, reduceCtorEq, Nat.reduceSub, Int.reduceToNat, hc, hidb', q3, hub, Nat.mul_one] <;> exact rfl); (· rfl)))
    case ht => rfl
    case hF => repeat (first | exact trivial | (refine ⟨.inl ⟨by decide, rfl⟩, ?_⟩) | (refine ⟨.inr ⟨rfl, by simp⟩, ?_⟩))
    show CW _ _ _ _
    have qok : ∀ q : Int, q ∈ L → ∃ (k : Nat) (r' : Rule), q = k ∧ g.rules[k]? = some r' ∧ r'.lhs = s.nt := fun q hq => (B.m s.nt c1' sn q).1 (hL ▸ hq)
    repeat (first | apply zs | apply zr | apply zn | ((first | apply zx | apply zy); · simp only [push_cast, env, Nat.reduceEqDiff, reduceIte, Nat.reduceAdd, Nat.reduceMul, Nat.reduceLeDiff, reduceCtorEq, Nat.reduceSub, Int.reduceToNat] <;> first | exact rfl | exact .inl rfl | exact .inr rfl) | apply zq | apply zb | apply zo | apply zk | apply zl)
    refine cw_forG L.length (fun k (z : Gh) => [(0, .val (.pointer (some ⟨F.cp, 0, some 0⟩))), (1, .val (i64 j)), (7, .box [i64 s.nt, u64 s.set.a, u64 s.set.b, u64 s.set.c, u64 s.set.d]), (8, .box [i64 x.rule, i64 (x.dot + 1), i64 x.frm]), (77, .val (.slice pb L.length cbb)), (78, .val (i64 L.length)), (79, .val (i64 k))]) (fun _ z => z.h)
      (fun k z => CHR h0 hB g (.slice (some ⟨id, 0, some ver⟩) g.rules.length cr) (.slice pw w.length cw) F z ∧ z.E = E ∧ Ext S z.S ∧ CI g w z.S ∧ (∀ i, i ≠ j → gs z.S i = gs S i) ∧ ∀ q : Nat, (q : Int) ∈ L.take k → (⟨q, 0, j⟩ : Item) ∈ gs z.S j) ⟨h, us, S, E⟩ (by simp only [push_cast, Nat.reduceEqDiff, reduceIte]) rfl ⟨K, rfl, .refl, C, fun _ _ => rfl, fun q hq => by simp at hq⟩ ?_
    clear K hc hid hidb' hid4'
    rintro k ⟨hk, us1, S1, E1⟩ hkn ⟨K, rfl, X, C1, hne, hall⟩
    simp only at K X C1 hne hall ⊢
    have hjS1 : j < S1.length := by rw [X.n]; exact hjS
    have hsm1 := C1.small R hw hj
    by_cases hlt : k < L.length
    · obtain ⟨idl, verl, ownl, cl, cellsl, hvl, hidl, hgl⟩ := RdInts.at hlr hlt
      cases hvl
      have hidl' := K.kb _ _ _ _ _ (.inl rfl) hidl
      have f1 := rng hlt
      have f2 := inc hlt (by omega)
      have f3 := lt_dec hlt
      obtain ⟨q, rq, hqe', hq2, hq3⟩ := qok L[k] (List.getElem_mem hlt)
      rw [hqe'] at hgl
      have hIt : It g w j ⟨q, 0, j⟩ := .pred j x r s q rq hx hq hsy c1' hq2 hq3
      repeat (first | apply zs | apply zr | apply zn | ((first | apply zx | apply zy); · simp only [push_cast, env, Nat.reduceEqDiff, reduceIte, Nat.reduceAdd, Nat.reduceMul, Nat.reduceLeDiff, reduceCtorEq, Nat.reduceSub, Int.reduceToNat, f3] <;> first | exact rfl | exact .inl rfl | exact .inr rfl) | apply zq | apply zb | apply zo | apply zk | apply zl)
      refine cw_condT rfl ?_
      repeat (first | apply zs | apply zr | apply zn | ((first | apply zx | apply zy); · simp only [push_cast, env, Nat.reduceEqDiff, reduceIte, Nat.reduceAdd, Nat.reduceMul, Nat.reduceLeDiff, reduceCtorEq, Nat.reduceSub, Int.reduceToNat, hidl', f1, hgl, Nat.mul_one] <;> first | exact rfl | exact .inl rfl | exact .inr rfl) | apply zq | apply zb | apply zo | apply zk | apply zl)
      refine zc (fn := Try.f52) (by simp only [push_cast, env, Nat.reduceEqDiff, reduceIte] <;> exact rfl) Try.func52 (by kernel_rfl) (by kernel_rfl) ?_
      rw [List.append_nil]
      refine (add_fw (x := ⟨q, 0, j⟩) K hjS1 (by simp only; omega)).mono ?_
      rintro _ h2 ⟨us2, K2⟩
      simp only at K2
      have X2 := addS_ext (x := ⟨q, 0, j⟩) hjS1
      repeat (first | apply zs | apply zr | apply zn | ((first | apply zx | apply zy); · simp only [push_cast, env, Nat.reduceEqDiff, reduceIte, Nat.reduceAdd, Nat.reduceMul, Nat.reduceLeDiff, reduceCtorEq, Nat.reduceSub, Int.reduceToNat, f2] <;> first | exact rfl | exact .inl rfl | exact .inr rfl) | apply zq | apply zb | apply zo | apply zk | apply zl)
      refine ⟨hlt, ⟨h2, us2, _, E1⟩, (by simp only [push_cast, Nat.reduceEqDiff, reduceIte]), rfl, K2, rfl, X.trans X2, C1.add hIt hj, fun i hi => by simp only; rw [addS_ne hjS1 hi]; exact hne i hi, fun q' hq' => ?_⟩
      rw [List.take_succ_eq_append_getElem hlt, List.mem_append, List.mem_singleton] at hq'
      rcases hq' with hq' | hq'
      · exact X2.mem (hall q' hq')
      · rw [hqe'] at hq'
        have : q' = q := by omega
        subst this
        exact addS_mem hjS1
    · have e3 := ge_dec hlt
      obtain rfl : k = L.length := by omega
      repeat (first | apply zs | apply zr | apply zn | ((first | apply zx | apply zy); · simp only [push_cast, env, Nat.reduceEqDiff, reduceIte, Nat.reduceAdd, Nat.reduceMul, Nat.reduceLeDiff, reduceCtorEq, Nat.reduceSub, Int.reduceToNat, e3] <;> first | exact rfl | exact .inl rfl | exact .inr rfl) | apply zq | apply zb | apply zo | apply zk | apply zl)
      refine cw_condF rfl ?_
      refine cw_exit ?_
      show CW _ _ _ _
      rw [List.take_length] at hall
      have hc := K.c
      have he := (K.e hev).1
      unfold chCells at hc
      simp only at hc he
      rw [hbv, hev] at hc
      have k1 := empE_keys E1
      have k2 := empE_get s.nt E1
      have hpr : ∀ S2, Ext S1 S2 → ∀ A q r', Wait g x A → 0 ≤ A → g.rules[q]? = some r' → r'.lhs = A → (⟨q, 0, j⟩ : Item) ∈ gs S2 j := fun S2 X2 A q r' h1 h2 h3 h4 => by
        have := onewait A h1
        subst this
        exact X2.mem (hall q (by rw [← hL]; exact (B.m s.nt c1' sn q).2 ⟨q, r', rfl, h3, h4⟩))
      have hsc : ∀ S2 : List (List Item), ∀ r' s' b, g.rules[x.rule]? = some r' → r'.rhs[x.dot]? = some s' → s'.nt < 0 → w[j]? = some b → s'.set.has b = true → adv x ∈ gs S2 (j + 1) := fun S2 r' s' b w1 w2 w3 _ _ => by
        obtain rfl : r = r' := Option.some.inj (hq.symm.trans w1)
        obtain rfl : s = s' := Option.some.inj (hsy.symm.trans w2)
        omega
      repeat (first | apply zs | apply zr | apply zn | ((first | apply zx | apply zy); · simp only [push_cast, env, Nat.reduceEqDiff, reduceIte, Nat.reduceAdd, Nat.reduceMul, Nat.reduceLeDiff, reduceCtorEq, Nat.reduceSub, Int.reduceToNat] <;> first | exact rfl | exact .inl rfl | exact .inr rfl) | apply zq | apply zb | apply zo | apply zk | apply zl)
      refine cw_regionD 7 mixed (by kernel_rfl) ?_
      by_cases hsE : s.nt ∈ E1
      · rw [if_pos hsE] at k2
        repeat (first | apply zs | apply zr | apply zn | ((first | apply zx | apply zy); · simp only [push_cast, env, Nat.reduceEqDiff, reduceIte, Nat.reduceAdd, Nat.reduceMul, Nat.reduceLeDiff, reduceCtorEq, Nat.reduceSub, Int.reduceToNat, hc, he, k1, k2, Nat.mul_one] <;> first | exact rfl | exact .inl rfl | exact .inr rfl) | apply zq | apply zb | apply zo | apply zk | apply zl)
        refine cw_condT (by simp only [push_cast, env, Nat.reduceEqDiff, reduceIte, Int.reduceLT] <;> exact rfl) ?_
        obtain ⟨y, hy, hyf, hye⟩ := hE s.nt hsE
        obtain ⟨ry, w1, w2, w3⟩ := hye
        have hadv : It g w j (adv x) := .comp j y ry x r s hy w1 w2 (by rw [hyf]; exact hx) hq hsy c1' w3.symm
        repeat (first | apply zs | apply zr | apply zn | ((first | apply zx | apply zy); · simp only [push_cast, env, Nat.reduceEqDiff, reduceIte, Nat.reduceAdd, Nat.reduceMul, Nat.reduceLeDiff, reduceCtorEq, Nat.reduceSub, Int.reduceToNat] <;> first | exact rfl | exact .inl rfl | exact .inr rfl) | apply zq | apply zb | apply zo | apply zk | apply zl)
        refine zc (fn := Try.f52) (by simp only [push_cast, env, Nat.reduceEqDiff, reduceIte] <;> exact rfl) Try.func52 (by kernel_rfl) (by kernel_rfl) ?_
        rw [List.append_nil]
        refine (add_fw (x := adv x) K hjS1 (by simp only; omega)).mono ?_
        rintro _ h2 ⟨us2, K2⟩
        simp only at K2
        have X2 := addS_ext (x := adv x) hjS1
        repeat (first | apply zs | apply zr | apply zn | ((first | apply zx | apply zy); · simp only [push_cast, env, Nat.reduceEqDiff, reduceIte, Nat.reduceAdd, Nat.reduceMul, Nat.reduceLeDiff, reduceCtorEq, Nat.reduceSub, Int.reduceToNat] <;> first | exact rfl | exact .inl rfl | exact .inr rfl) | apply zq | apply zb | apply zo | apply zk | apply zl)
        exact ⟨_, (by simp only [push_cast, env, Nat.reduceEqDiff, reduceIte] <;> exact rfl), us2, _, E1, K2, X.trans X2, C1.add hadv hj, fun i k1 _ => by rw [addS_ne hjS1 k1]; exact hne i k1, fun a h => h, hE, fun a h1 h2 => (h2 h1).elim, ⟨hpr _ X2, hsc _, fun A y h1 => (noend A h1).elim, fun A h1 => (noend A h1).elim, fun A h1 h2 => addS_mem hjS1⟩⟩
      · rw [if_neg hsE] at k2
        repeat (first | apply zs | apply zr | apply zn | ((first | apply zx | apply zy); · simp only [push_cast, env, Nat.reduceEqDiff, reduceIte, Nat.reduceAdd, Nat.reduceMul, Nat.reduceLeDiff, reduceCtorEq, Nat.reduceSub, Int.reduceToNat, hc, he, k1, k2, Nat.mul_one] <;> first | exact rfl | exact .inl rfl | exact .inr rfl) | apply zq | apply zb | apply zo | apply zk | apply zl)
        refine cw_condF (by simp only [push_cast, env, Nat.reduceEqDiff, reduceIte, Int.reduceLT] <;> exact rfl) ?_
        repeat (first | apply zs | apply zr | apply zn | ((first | apply zx | apply zy); · simp only [push_cast, env, Nat.reduceEqDiff, reduceIte, Nat.reduceAdd, Nat.reduceMul, Nat.reduceLeDiff, reduceCtorEq, Nat.reduceSub, Int.reduceToNat] <;> first | exact rfl | exact .inl rfl | exact .inr rfl) | apply zq | apply zb | apply zo | apply zk | apply zl)
        exact ⟨_, (by simp only [push_cast, env, Nat.reduceEqDiff, reduceIte] <;> exact rfl), us1, S1, E1, K, X, C1, fun i k1 _ => hne i k1, fun a h => h, hE, fun a h1 h2 => (h2 h1).elim, ⟨hpr _ .refl, hsc _, fun A y h1 => (noend A h1).elim, fun A h1 => (noend A h1).elim, fun A h1 h2 => (hsE (onewait A h1 ▸ h2)).elim⟩⟩
end Go.Proofs.Ytafncpgiibikcaa
