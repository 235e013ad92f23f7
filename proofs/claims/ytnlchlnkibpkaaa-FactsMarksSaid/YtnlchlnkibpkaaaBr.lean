/- From a grammar that a row reads to one of the abstract machine. -/
import Derived.Test.YtnlchlnkibpkaaaG6
import Derived.Test.YtnlchlnkibpkaaaAmH
namespace Go.Proofs.Ytnlchlnkibpkaaa
set_option linter.unusedSimpArgs false
set_option linter.unusedVariables false
open Go.RowKit Am Ty

def RdTs (P : Program) (R : TypeId → List Value → Prop) : List TypeId → List Value → Prop
  | [], vs => vs = []
  | t :: r, vs => ∃ a b, vs = a ++ b ∧ a.length = P.cellsOf t ∧ R t a ∧ RdTs P R r b
theorem fs_types {P : Program} {R : TypeId → List Value → Prop} : ∀ {l : List Field} {vs : List Value}, RdFs P R l vs → RdTs P R (l.map (·.type)) vs
  | [], _, h => h
  | _ :: _, _, ⟨a, b, h1, h2, h3, h4⟩ => ⟨a, b, h1, h2, h3, fs_types h4⟩
theorem es_map {α : Type} {c : Nat} {R : List Value → Prop} {f : α → List Value} {Q : α → Prop} (k : ∀ vs, R vs → ∃ x, vs = f x ∧ Q x) : ∀ {m : Nat} {vs : List Value}, RdEs c R m vs → ∃ l : List α, l.length = m ∧ vs = l.flatMap f ∧ ∀ x ∈ l, Q x
  | 0, vs, h => ⟨[], rfl, h, fun x hx => by cases hx⟩
  | m + 1, vs, ⟨a, b, h1, _, h3, h4⟩ => by
    obtain ⟨x, rfl, hx⟩ := k a h3
    obtain ⟨l, rfl, rfl, hl⟩ := es_map k h4
    refine ⟨x :: l, rfl, by rw [h1]; rfl, fun y hy => ?_⟩
    rcases List.mem_cons.1 hy with rfl | hy
    · exact hx
    · exact hl y hy
theorem rd_struct {h : Heap} {n : Nat} {t : TypeId} {l : List TypeId} {vs : List Value} (hu : Try.prog.underlying t = some (.struct (Try.prog.fieldsOf t))) (hl : (Try.prog.fieldsOf t).toList.map (·.type) = l) (k : RdT Try.prog h (n + 1) t vs) : RdTs Try.prog (RdT Try.prog h n) l vs := by
  unfold RdT at k
  rw [hu] at k
  exact hl ▸ fs_types k
theorem rd_int {h : Heap} {n : Nat} {vs : List Value} (k : RdT Try.prog h n 3 vs) : ∃ i, vs = [i64 i] ∧ (Lit.int .i64 i).wf = true := by
  cases n with
  | zero => exact k.elim
  | succ n =>
    unfold RdT at k
    rw [show Try.prog.underlying 3 = some (.int .i64) by kernel_rfl] at k
    exact k
theorem rd_u64 {h : Heap} {n : Nat} {vs : List Value} (k : RdT Try.prog h n 43 vs) : ∃ i, vs = [u64 i] ∧ WWf i := by
  cases n with
  | zero => exact k.elim
  | succ n =>
    unfold RdT at k
    rw [show Try.prog.underlying 43 = some (.int .u64) by kernel_rfl] at k
    obtain ⟨i, h1, h2⟩ := k
    simp only [Lit.wf, Bool.and_eq_true, decide_eq_true_eq] at h2
    have e1 : IntKind.u64.min = 0 := by decide
    have e2 : IntKind.u64.max = 18446744073709551615 := by decide
    exact ⟨i, h1, by omega, by omega⟩
theorem rd_set {h : Heap} {n : Nat} {vs : List Value} (k : RdT Try.prog h n 45 vs) : ∃ s : BSet, vs = s.cells ∧ SetWf s := by
  cases n with
  | zero => exact k.elim
  | succ n =>
    unfold RdT at k
    rw [show Try.prog.underlying 45 = some (.array 4 43) by kernel_rfl] at k
    obtain ⟨l, hl, rfl, hq⟩ := es_map (f := fun i => [u64 i]) (Q := fun i => WWf i) (fun vs h => rd_u64 h) k
    match l, hl with
    | [a, b, c, d], _ => exact ⟨⟨a, b, c, d⟩, rfl, hq a (by simp), hq b (by simp), hq c (by simp), hq d (by simp)⟩
theorem rd_sym {h : Heap} {n : Nat} {vs : List Value} (k : RdT Try.prog h n 56 vs) : ∃ s : KSym, vs = s.cells ∧ SetWf s.set := by
  cases n with
  | zero => exact k.elim
  | succ n =>
    obtain ⟨a, b, rfl, _, h1, c, d, rfl, _, h2, rfl⟩ := rd_struct (l := [3, 45]) (by kernel_rfl) (by kernel_rfl) k
    obtain ⟨i, rfl, _⟩ := rd_int h1
    obtain ⟨s, rfl, hs⟩ := rd_set h2
    exact ⟨⟨i, s⟩, rfl, hs⟩
theorem rd_syms {h : Heap} {n : Nat} {vs : List Value} (k : RdT Try.prog h n 46 vs) : ∃ u l, vs = [u] ∧ RdSyms h u l ∧ ∀ s ∈ l, SetWf s.set := by
  cases n with
  | zero => exact k.elim
  | succ n =>
    unfold RdT at k
    rw [show Try.prog.underlying 46 = some (.slice 56) by kernel_rfl] at k
    rcases k with rfl | rfl | ⟨id, len, c, cells, rfl, hb, hid, he⟩
    · exact ⟨_, [], rfl, ⟨by simp, .inl ⟨.inl rfl, rfl, rfl⟩⟩, by simp⟩
    · exact ⟨_, [], rfl, ⟨by simp, .inl ⟨.inr rfl, rfl, rfl⟩⟩, by simp⟩
    · obtain ⟨l, rfl, rfl, hq⟩ := es_map (f := KSym.cells) (Q := fun s => SetWf s.set) (fun vs h => rd_sym h) he
      rw [show Try.prog.bytesOf 56 = 40 by kernel_rfl] at hb
      exact ⟨_, l, rfl, ⟨Nat.le_trans hb (by decide), .inr ⟨id, 0, false, c, rfl, hid⟩⟩, hq⟩
theorem rd_rule {h : Heap} {n : Nat} {vs : List Value} (k : RdT Try.prog h n 48 vs) : ∃ p : Rule × Value, vs = [i64 p.1.lhs, p.2] ∧ RdSyms h p.2 p.1.rhs ∧ (∀ s ∈ p.1.rhs, SetWf s.set) ∧ (Lit.int .i64 p.1.lhs).wf = true := by
  cases n with
  | zero => exact k.elim
  | succ n =>
    obtain ⟨a, b, rfl, _, h1, c, d, rfl, _, h2, rfl⟩ := rd_struct (l := [3, 46]) (by kernel_rfl) (by kernel_rfl) k
    obtain ⟨i, rfl, hi⟩ := rd_int h1
    obtain ⟨u, l, rfl, hl, hq⟩ := rd_syms h2
    exact ⟨⟨⟨i, l⟩, u⟩, rfl, hl, hq, hi⟩
theorem zip_fst_snd {α β : Type} : ∀ (z : List (α × β)), (z.map (·.1)).zip (z.map (·.2)) = z
  | [] => rfl
  | (a, b) :: z => by simp [zip_fst_snd z]
theorem rd_rules {h : Heap} {n : Nat} {vs : List Value} (k : RdT Try.prog h n 22 vs) : ∃ u l, vs = [u] ∧ RdRules h u l ∧ ∀ r ∈ l, ∀ s ∈ r.rhs, SetWf s.set := by
  cases n with
  | zero => exact k.elim
  | succ n =>
    unfold RdT at k
    rw [show Try.prog.underlying 22 = some (.slice 48) by kernel_rfl] at k
    rcases k with rfl | rfl | ⟨id, len, c, cells, rfl, hb, hid, he⟩
    · exact ⟨_, [], rfl, ⟨[], rfl, ⟨by simp, .inl ⟨.inl rfl, rfl, rfl⟩⟩, fun i r u h => by simp at h⟩, by simp⟩
    · exact ⟨_, [], rfl, ⟨[], rfl, ⟨by simp, .inl ⟨.inr rfl, rfl, rfl⟩⟩, fun i r u h => by simp at h⟩, by simp⟩
    · obtain ⟨z, rfl, rfl, hz⟩ := es_map (f := fun p : Rule × Value => [i64 p.1.lhs, p.2]) (Q := fun p => RdSyms h p.2 p.1.rhs ∧ ∀ s ∈ p.1.rhs, SetWf s.set) (fun vs h => (rd_rule h).imp fun p k => ⟨k.1, k.2.1, k.2.2.1⟩) he
      rw [show Try.prog.bytesOf 48 = 32 by kernel_rfl] at hb
      refine ⟨_, z.map (·.1), rfl, ⟨z.map (·.2), by simp, ⟨by rw [List.length_map]; exact Nat.le_trans hb (by decide), .inr ⟨id, 0, false, c, by rw [List.length_map], by rw [zip_fst_snd]; exact hid⟩⟩, fun i r u h1 h2 => ?_⟩, fun r hr => ?_⟩
      · rw [List.getElem?_map, Option.map_eq_some_iff] at h1 h2
        obtain ⟨p, h3, rfl⟩ := h1
        obtain ⟨q, h4, rfl⟩ := h2
        obtain rfl := Option.some.inj (h3.symm.trans h4)
        exact (hz p (List.mem_of_getElem? h3)).1
      · rw [List.mem_map] at hr
        obtain ⟨p, hp, rfl⟩ := hr
        exact (hz p hp).2
theorem rd_gram {h : Heap} {n : Nat} {vs : List Value} (k : RdT Try.prog h n 24 vs) : ∃ g : Gram, RdGram h (.agg vs.toArray) g ∧ (Lit.int .i64 g.nts).wf = true ∧ (Lit.int .i64 g.start).wf = true ∧ WfG g := by
  cases n with
  | zero => exact k.elim
  | succ n =>
    obtain ⟨a, b, rfl, _, h1, c, d, rfl, _, h2, e, f, rfl, _, h3, rfl⟩ := rd_struct (l := [3, 3, 22]) (by kernel_rfl) (by kernel_rfl) k
    obtain ⟨i, rfl, w1⟩ := rd_int h1
    obtain ⟨j, rfl, w2⟩ := rd_int h2
    obtain ⟨u, l, rfl, hl, hq⟩ := rd_rules h3
    exact ⟨⟨i, j, l⟩, ⟨u, rfl, hl⟩, w1, w2, hq⟩
end Go.Proofs.Ytnlchlnkibpkaaa
