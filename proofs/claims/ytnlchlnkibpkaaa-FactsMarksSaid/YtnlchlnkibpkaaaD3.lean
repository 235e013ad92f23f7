/- Lists that are appended to. -/
import Derived.Test.YtnlchlnkibpkaaaD2
namespace Go.Proofs.Ytnlchlnkibpkaaa
set_option linter.unusedSimpArgs false
set_option linter.unusedVariables false
open Go.RowKit Am Ty

/-- a list that is built by appending: of the call's own, or nothing yet -/
def Grow (h hk : Heap) (v : Value) (n : Nat) (cells : List Value) (et : TypeId) : Prop := (n = 0 ∧ cells = [] ∧ v = .slice none 0 0) ∨ Mine h hk v n cells et
def isAt : Value → Nat → Bool
  | .slice (some a) _ _, j => a.block == j
  | _, _ => false
section
variable {h hk : Heap} {v : Value} {n b : Nat} {cells : List Value} {et : TypeId}
theorem Grow.nil : Grow h hk (.slice none 0 0) 0 [] et := .inl ⟨rfl, rfl, rfl⟩
theorem Grow.form (g : Grow h hk v n cells et) : ∃ p c, v = .slice p n c := by
  rcases g with ⟨rfl, _, rfl⟩ | ⟨id, ver, _, rfl, _⟩
  · exact ⟨_, _, rfl⟩
  · exact ⟨_, _, rfl⟩
theorem Grow.sl (g : Grow h hk v n cells et) (hb : n * b ≤ 140737488355328) : SlR hk v n cells et b := by
  rcases g with ⟨rfl, rfl, rfl⟩ | ⟨id, ver, _, h2, h3⟩
  · exact ⟨hb, .inl ⟨.inl rfl, rfl, rfl⟩⟩
  · exact ⟨hb, .inr ⟨id, ver, true, _, h2, h3⟩⟩
theorem Grow.mono {h' : Heap} (g : Grow h hk v n cells et) (hp : ∀ j o, isAt v j = true → hk[j]? = some o → h'[j]? = some o) : Grow h h' v n cells et := by
  rcases g with g | ⟨id, ver, h1, rfl, h3⟩
  · exact .inl g
  · exact .inr ⟨id, ver, h1, rfl, hp _ _ (by simp [isAt]) h3⟩
theorem Mine.mono {h' : Heap} (g : Mine h hk v n cells et) (hp : ∀ j o, isAt v j = true → hk[j]? = some o → h'[j]? = some o) : Mine h h' v n cells et := by
  obtain ⟨id, ver, h1, rfl, h3⟩ := g
  exact ⟨id, ver, h1, rfl, hp _ _ (by simp [isAt]) h3⟩
theorem Grow.lt (g : Grow h hk v n cells et) {j : Nat} (hj : isAt v j = true) : h.length ≤ j ∧ j < hk.length := by
  rcases g with ⟨_, _, rfl⟩ | ⟨id, ver, h1, rfl, h3⟩
  · simp [isAt] at hj
  · simp only [isAt, beq_iff_eq] at hj
    subst hj
    exact ⟨h1, lt_of_get h3⟩
theorem Grow.mine (g : Grow h hk v n cells et) (hn : 0 < n) : Mine h hk v n cells et := by
  rcases g with ⟨h0, _⟩ | g
  · omega
  · exact g
end
section
variable {all : Array Oper} {o : Oper} {r : List Oper} {s : St} {K : St → Prop}
theorem ow_push {x : Operand} {t y : Nat} {e : TypeId} {ti : TI} {v : Value} {cs cells : List Value} {n : Nat} {h : Heap} (hw : wantedA all o s = some true)
    (ho : o.op = .call { callee := .builtin .append, args := #[x, .tmp y], argTypes := #[t, t] }) (hu : env.P.underlying t = some (.slice e)) (ht : tinfo env.P e = some ti) (hs0 : 0 < ti.size) (hz : (ti.zero.map fun z => z.cells.size) = some ti.size)
    (hx : ev s x = some v) (hy : fget s.fr y = .bsl cs 1) (G : Grow h s.h v n cells e) (hp : h <+: s.h) (hl : cells.length = n * ti.size) (hc : cs.length = ti.size) (hb : (n + 1) * ti.bytes ≤ 140737488355328) (hn : n + 1 ≤ 140737488355328)
    (k : ∀ p c h', Grow h h' (.slice p (n + 1) c) (n + 1) (cells ++ cs) e → h <+: h' → (∀ j o, isAt v j = false → s.h[j]? = some o → h'[j]? = some o) → s.h.length ≤ h'.length → OW env all r ({ s with h := h' }.putO o.dst (.val (.slice p (n + 1) c))) K) : OW env all (o :: r) s K := by
  have hi : itemsC s s.h ti.size (.tmp y) = some (cs, 1) := by simp only [itemsC, hy, hc, Nat.one_mul, if_true]
  rcases G with ⟨rfl, rfl, rfl⟩ | ⟨id, ver, h1, rfl, h3⟩
  · refine ow_app0 hw ho hu ht hs0 hz hx hi (by decide) (by simpa using hb) (by decide) ?_
    exact k (some ⟨s.h.length, 0, some 0⟩) 1 _ (.inr ⟨s.h.length, 0, hp.length_le, rfl, by simp⟩) (pre_push hp) (fun j o _ h => get_of_push h) (by simp)
  · refine ow_app hw ho hu ht hs0 hz hx h3 (by omega) hi hb hn ?_
    rw [List.take_of_length_le (by omega)]
    refine k (some ⟨id, 0, some (ver + 1)⟩) (n + 1) _ (.inr ⟨id, ver + 1, h1, rfl, get_set_self h3⟩) (pre_set hp h1) (fun j o hj h => ?_) (by simp)
    simp only [isAt, beq_eq_false_iff_ne] at hj
    rw [get_set_ne hj]
    exact h
theorem ow_pushB {x : Operand} {y : Nat} {v : Value} {l : List Bool} {b : Bool} {h : Heap} (hw : wantedA all o s = some true)
    (ho : o.op = .call { callee := .builtin .append, args := #[x, .tmp y], argTypes := #[37, 37] }) (hx : ev s x = some v) (hy : fget s.fr y = .bsl [.bool b] 1) (G : Grow h s.h v l.length (l.map .bool) 4) (hp : h <+: s.h) (hn : l.length ≤ 1000000)
    (k : ∀ p c h', Grow h h' (.slice p (l.length + 1) c) (l ++ [b]).length ((l ++ [b]).map .bool) 4 → h <+: h' → (∀ j o, isAt v j = false → s.h[j]? = some o → h'[j]? = some o) → s.h.length ≤ h'.length → OW env all r ({ s with h := h' }.putO o.dst (.val (.slice p (l.length + 1) c))) K) : OW env all (o :: r) s K := by
  refine ow_push hw ho (by kernel_rfl) ti4 (by decide) rfl hx hy G hp (by simp) rfl (by simp only; omega) (by omega) fun p c h' h1 h2 h3 h4 => k p c h' ?_ h2 h3 h4
  rw [List.map_append, List.length_append]
  exact h1
theorem ow_pushI {x : Operand} {y : Nat} {v : Value} {l : List Int} {b : Int} {h : Heap} (hw : wantedA all o s = some true)
    (ho : o.op = .call { callee := .builtin .append, args := #[x, .tmp y], argTypes := #[40, 40] }) (hx : ev s x = some v) (hy : fget s.fr y = .bsl [i64 b] 1) (G : Grow h s.h v l.length (l.map i64) 3) (hp : h <+: s.h) (hn : l.length ≤ 1000000)
    (k : ∀ p c h', Grow h h' (.slice p (l.length + 1) c) (l ++ [b]).length ((l ++ [b]).map i64) 3 → h <+: h' → (∀ j o, isAt v j = false → s.h[j]? = some o → h'[j]? = some o) → s.h.length ≤ h'.length → OW env all r ({ s with h := h' }.putO o.dst (.val (.slice p (l.length + 1) c))) K) : OW env all (o :: r) s K := by
  refine ow_push hw ho (by kernel_rfl) ti3 (by decide) rfl hx hy G hp (by simp) rfl (by simp only; omega) (by omega) fun p c h' h1 h2 h3 h4 => k p c h' ?_ h2 h3 h4
  rw [List.map_append, List.length_append]
  exact h1
theorem ow_pushS {x : Operand} {y : Nat} {v : Value} {l : List BSet} {b : BSet} {h : Heap} (hw : wantedA all o s = some true)
    (ho : o.op = .call { callee := .builtin .append, args := #[x, .tmp y], argTypes := #[33, 33] }) (hx : ev s x = some v) (hy : fget s.fr y = .bsl b.cells 1) (G : Grow h s.h v l.length (l.flatMap BSet.cells) 45) (hp : h <+: s.h) (hn : l.length ≤ 1000000)
    (k : ∀ p c h', Grow h h' (.slice p (l.length + 1) c) (l ++ [b]).length ((l ++ [b]).flatMap BSet.cells) 45 → h <+: h' → (∀ j o, isAt v j = false → s.h[j]? = some o → h'[j]? = some o) → s.h.length ≤ h'.length → OW env all r ({ s with h := h' }.putO o.dst (.val (.slice p (l.length + 1) c))) K) : OW env all (o :: r) s K := by
  refine ow_push hw ho (by kernel_rfl) ti45 (by decide) rfl hx hy G hp (flat_len (f := BSet.cells) (k := 4) (fun _ => rfl) l) rfl (by simp only; omega) (by omega) fun p c h' h1 h2 h3 h4 => k p c h' ?_ h2 h3 h4
  rw [List.flatMap_append, List.length_append, List.flatMap_singleton]
  exact h1
theorem ow_bslH {t : TypeId} {cs : List Value} {n : Nat} (hw : wantedA all o s = some true) (hm : bslC env s o.op = some (t, cs, n))
    (k : OW env all r ({ s with h := s.h ++ [HObj.arr cs 0 true t] }.putO o.dst (.val (.slice (some ⟨s.h.length, 0, some 0⟩) n n))) K) : OW env all (o :: r) s K := by
  unfold OW at k ⊢
  obtain ⟨s2, k1, k2⟩ := k
  exact ⟨s2, .opBslH hw hm k1, k2⟩
/-- append to a list of numbers of which the first are known, as of a stack -/
theorem ow_pushT {x : Operand} {y id ver : Nat} {l : List Int} {junk : List Value} {b : Int} (hw : wantedA all o s = some true)
    (ho : o.op = .call { callee := .builtin .append, args := #[x, .tmp y], argTypes := #[40, 40] }) (hx : ev s x = some (.slice (some ⟨id, 0, some ver⟩) l.length l.length)) (hy : fget s.fr y = .bsl [i64 b] 1)
    (hg : s.h[id]? = some (.arr (l.map i64 ++ junk) ver true 3)) (hn : l.length ≤ 1000000)
    (k : OW env all r ({ s with h := s.h.set id (.arr ((l ++ [b]).map i64) (ver + 1) true 3) }.putO o.dst (.val (.slice (some ⟨id, 0, some (ver + 1)⟩) (l.length + 1) (l.length + 1)))) K) : OW env all (o :: r) s K := by
  refine ow_app (t := 40) hw ho (by kernel_rfl) ti3 (by decide) rfl hx hg (by simp) (by simp only [itemsC, hy]; rfl) (by simp only; omega) (by omega) ?_
  have : List.take (l.length * 1) (l.map i64 ++ junk) ++ [i64 b] = (l ++ [b]).map i64 := by
    rw [Nat.mul_one, List.take_left' (by simp), List.map_append]
    rfl
  rw [this]
  exact k
end
end Go.Proofs.Ytnlchlnkibpkaaa
