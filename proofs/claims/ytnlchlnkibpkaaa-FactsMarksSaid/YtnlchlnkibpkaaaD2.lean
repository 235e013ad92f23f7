/- Lists that are written in place; loops with a measure of their own; what is derived. -/
import Derived.Test.YtnlchlnkibpkaaaFg
namespace Go.Proofs.Ytnlchlnkibpkaaa
set_option linter.unusedSimpArgs false
set_option linter.unusedVariables false
open Go.RowKit Am Ty

/-! ### a loop with ghost state and a measure -/
def whK {G : Type} (m : G → Nat) (F : G → Fr) (H : G → Heap) (I : G → Prop) (g : G) (Q : AX → St → Prop) : AX → St → Prop
  | .normal, s => ∃ g', m g' < m g ∧ SubL (F g') s.fr ∧ s.h = H g' ∧ I g'
  | e, s => Q e s
theorem cw_wh {N : Env} {G : Type} {c : Code} {s : St} {Q : AX → St → Prop} (m : G → Nat) (F : G → Fr) (H : G → Heap) (I : G → Prop) (g0 : G) (h0 : SubL (F g0) s.fr) (hh : s.h = H g0) (hI : I g0)
    (hs : ∀ g, I g → CW N c ⟨F g, [], H g⟩ (whK m F H I g Q)) : CW N (.loop c) s Q := by
  refine cw_loop (fun n s => ∃ g, n = m g ∧ SubL (F g) s.fr ∧ s.h = H g ∧ I g) (m g0) ⟨g0, rfl, h0, hh, hI⟩ ?_
  rintro n s ⟨g, rfl, hf, hh, hI⟩
  refine cw_weakL _ hf ?_
  rw [hh]
  refine (hs g hI).mono fun e s' hq => ?_
  cases e with
  | normal =>
    obtain ⟨g', h1, h2, h3, h4⟩ := hq
    exact ⟨m g', h1, g', rfl, h2, h3, h4⟩
  | exit id => exact hq
  | ret => exact hq

/-! ### objects of the call's own -/
theorem pre_push {h H : Heap} {x : HObj} (hp : h <+: H) : h <+: H ++ [x] := hp.trans prefix_push
theorem pre_set {h H : Heap} {id : Nat} {x : HObj} (hp : h <+: H) (hi : h.length ≤ id) : h <+: H.set id x := by
  obtain ⟨tl, rfl⟩ := hp
  rw [List.prefix_iff_eq_take, List.take_set_of_le hi, List.take_left]
theorem get_set_ne {H : Heap} {i j : Nat} {x : HObj} (h : i ≠ j) : (H.set i x)[j]? = H[j]? := List.getElem?_set_ne h
theorem get_set_self {H : Heap} {i : Nat} {x y : HObj} (h : H[i]? = some y) : (H.set i x)[i]? = some x := List.getElem?_set_self (List.getElem?_eq_some_iff.1 h).1
theorem lt_of_get {H : Heap} {i : Nat} {y : HObj} (h : H[i]? = some y) : i < H.length := (List.getElem?_eq_some_iff.1 h).1
theorem get_of_push {H : Heap} {x : HObj} {i : Nat} {y : HObj} (h : H[i]? = some y) : (H ++ [x])[i]? = some y := getElem?_prefix prefix_push h
theorem push_get_self {H : Heap} {x : HObj} : (H ++ [x])[H.length]? = some x := get_push
theorem wr_map {α : Type} {f : α → Value} {l : List α} {i : Nat} {x : α} (hi : i < l.length) : wrC (l.map f) i [f x] = some ((l.set i x).map f) := by
  unfold wrC
  rw [if_pos (by simp only [List.length_map, List.length_singleton]; omega)]
  congr 1
  rw [List.set_eq_take_append_cons_drop, if_pos hi]
  simp
theorem flat_len {α : Type} {f : α → List Value} {k : Nat} (hf : ∀ x, (f x).length = k) : ∀ l : List α, (l.flatMap f).length = l.length * k
  | [] => by simp
  | x :: l => by simp only [List.flatMap_cons, List.length_append, hf, flat_len hf l, List.length_cons, Nat.succ_mul]; omega
theorem wr_flat {α : Type} {f : α → List Value} {k : Nat} (hf : ∀ x, (f x).length = k) {l : List α} {i : Nat} {x : α} (hi : i < l.length) : wrC (l.flatMap f) (i * k) (f x) = some ((l.set i x).flatMap f) := by
  have h1 : (i + 1) * k ≤ l.length * k := Nat.mul_le_mul_right k hi
  have h2 : (i + 1) * k = i * k + k := Nat.succ_mul i k
  unfold wrC
  rw [if_pos (by rw [flat_len hf, hf]; omega), hf]
  congr 1
  rw [List.set_eq_take_append_cons_drop, if_pos hi, List.flatMap_append, List.flatMap_cons]
  have e : l.flatMap f = (l.take i).flatMap f ++ (f l[i] ++ (l.drop (i + 1)).flatMap f) := by
    conv => lhs; rw [← List.take_append_drop i l, List.flatMap_append, List.drop_eq_getElem_cons hi, List.flatMap_cons]
  have hti : ((l.take i).flatMap f).length = i * k := by rw [flat_len hf, List.length_take, Nat.min_eq_left (by omega)]
  rw [e]
  simp only [List.append_assoc]
  rw [List.take_left' hti, ← hti, List.drop_append, List.drop_of_length_le (by omega), show (List.flatMap f (List.take i l)).length + k - (List.flatMap f (List.take i l)).length = k by omega, ← hf l[i], List.drop_left, List.nil_append]
theorem flat_rep1 {n : Nat} {v : Value} : (List.replicate n [v]).flatten = List.replicate n v := by
  induction n with
  | zero => rfl
  | succ n ih => rw [List.replicate_succ, List.flatten_cons, ih, List.replicate_succ]; rfl
theorem rep_map {α : Type} {f : α → Value} {n : Nat} {x : α} : List.replicate n (f x) = (List.replicate n x).map f := by simp
theorem rep_flat {α : Type} {f : α → List Value} {n : Nat} {x : α} : (List.replicate n (f x)).flatten = (List.replicate n x).flatMap f := by
  induction n with
  | zero => rfl
  | succ n ih => rw [List.replicate_succ, List.flatten_cons, ih, List.replicate_succ, List.flatMap_cons]
theorem map_get {α : Type} {f : α → Value} {l : List α} {i : Nat} (hi : i < l.length) : (l.map f)[i]? = some (f l[i]) := by simp [hi]

/-! ### make -/
section
variable {all : Array Oper} {o : Oper} {r : List Oper} {s : St} {K : St → Prop}
theorem ow_mkv {x : Operand} {t e : TypeId} {ti : TI} {z : Value} {n : Int} {N : Nat} {cs : List Value} (hw : wantedA all o s = some true) (ho : o.op = .makeSlice t x x) (hx : ev s x = some (i64 n)) (hN : n = N) (hu : env.P.underlying t = some (.slice e)) (ht : tinfo env.P e = some ti)
    (hz : ti.zero = some z) (hp : (pureV z && z.cells.toList.all one && decide (z.cells.size = ti.size) && decide (0 < ti.size)) = true) (hb : N * ti.bytes ≤ 140737488355328) (hN2 : N ≤ 140737488355328) (hcs : (List.replicate N z.cells.toList).flatten = cs)
    (k : OW env all r ({ s with h := s.h ++ [HObj.arr cs 0 true e] }.putO o.dst (.val (.slice (some ⟨s.h.length, 0, some 0⟩) N N))) K) : OW env all (o :: r) s K := by
  subst hN hcs
  refine ow_mk hw ?_ k
  rw [ho]
  have h1 : (ti.bytes : Int) * (N : Int) ≤ 140737488355328 := by
    have : ((N * ti.bytes : Nat) : Int) ≤ 140737488355328 := by omega
    rw [Int.natCast_mul, Int.mul_comm] at this
    exact this
  have h2 : (N : Int) ≤ 140737488355328 := by omega
  unfold mkC
  simp only [hu, hx, ht, hz]
  rw [if_pos (by rw [hp, decide_eq_true trivial, decide_eq_true (Int.natCast_nonneg N), decide_eq_true h1, decide_eq_true h2]; rfl), Int.toNat_natCast]
theorem ow_mkBool {x : Operand} {n : Int} {N : Nat} (hw : wantedA all o s = some true) (ho : o.op = .makeSlice 37 x x) (hx : ev s x = some (i64 n)) (hN : n = N) (hN2 : N ≤ 1000000)
    (k : OW env all r ({ s with h := s.h ++ [HObj.arr ((List.replicate N false).map Value.bool) 0 true 4] }.putO o.dst (.val (.slice (some ⟨s.h.length, 0, some 0⟩) N N))) K) : OW env all (o :: r) s K := by
  refine ow_mkv hw ho hx hN (by kernel_rfl) ti4 rfl (by rfl) (by simp only; omega) (by omega) (by rw [← rep_map]; exact flat_rep1) k
theorem ow_mkInt {x : Operand} {n : Int} {N : Nat} (hw : wantedA all o s = some true) (ho : o.op = .makeSlice 40 x x) (hx : ev s x = some (i64 n)) (hN : n = N) (hN2 : N ≤ 1000000)
    (k : OW env all r ({ s with h := s.h ++ [HObj.arr ((List.replicate N (0 : Int)).map i64) 0 true 3] }.putO o.dst (.val (.slice (some ⟨s.h.length, 0, some 0⟩) N N))) K) : OW env all (o :: r) s K := by
  refine ow_mkv hw ho hx hN (by kernel_rfl) ti3 rfl (by rfl) (by simp only; omega) (by omega) (by rw [← rep_map]; exact flat_rep1) k
theorem ow_mkSet {x : Operand} {n : Int} {N : Nat} (hw : wantedA all o s = some true) (ho : o.op = .makeSlice 33 x x) (hx : ev s x = some (i64 n)) (hN : n = N) (hN2 : N ≤ 1000000)
    (k : OW env all r ({ s with h := s.h ++ [HObj.arr ((List.replicate N (⟨0, 0, 0, 0⟩ : BSet)).flatMap BSet.cells) 0 true 45] }.putO o.dst (.val (.slice (some ⟨s.h.length, 0, some 0⟩) N N))) K) : OW env all (o :: r) s K := by
  refine ow_mkv hw ho hx hN (by kernel_rfl) ti45 rfl (by rfl) (by simp only; omega) (by omega) (rep_flat (f := BSet.cells) (n := N) (x := ⟨0, 0, 0, 0⟩)) k
end

/-! ### what is derived -/
inductive Der (T : KSym → Prop) (rules : List Rule) : Int → Prop
  | mk (r : Rule) : r ∈ rules → (∀ s ∈ r.rhs, s.nt < 0 → T s) → (∀ s ∈ r.rhs, 0 ≤ s.nt → Der T rules s.nt) → Der T rules r.lhs
/-- a list's bit, number at a place -/
def bit (m : List Bool) (i : Int) : Bool := m.getD i.toNat false
theorem bit_get {m : List Bool} {i : Int} (h0 : 0 ≤ i) (h1 : i < m.length) : bit m i = m[i.toNat]'(by omega) := by
  unfold bit
  rw [List.getD_eq_getElem?_getD, List.getElem?_eq_getElem (by omega : i.toNat < m.length)]
  rfl
theorem bit_map {m : List Bool} {i : Int} (h0 : 0 ≤ i) (h1 : i < m.length) : (m.map Value.bool)[i.toNat]? = some (.bool (bit m i)) := by
  rw [map_get (by omega : i.toNat < m.length), bit_get h0 h1]
theorem bit_set {m : List Bool} {i j : Int} {b : Bool} (h0 : 0 ≤ i) (h1 : i < m.length) (j0 : 0 ≤ j) : bit (m.set i.toNat b) j = if i = j then b else bit m j := by
  unfold bit
  simp only [List.getD_eq_getElem?_getD, List.getElem?_set]
  by_cases h : i = j
  · subst h
    rw [if_pos rfl, if_pos rfl, if_pos (by omega)]
    rfl
  · rw [if_neg (by omega), if_neg h]
theorem bit_rep {n : Nat} {i : Int} : bit (List.replicate n false) i = false := by
  unfold bit
  rw [List.getD_eq_getElem?_getD, List.getElem?_replicate]
  split <;> rfl
theorem count_mark {m : List Bool} {i : Int} (h0 : 0 ≤ i) (h1 : i < m.length) (hb : bit m i = false) : (m.set i.toNat true).count false < m.count false := by
  rw [bit_get h0 h1] at hb
  have hp : 0 < m.count false := List.count_pos_iff.2 (hb ▸ List.getElem_mem _)
  rw [List.count_set (by omega : i.toNat < m.length), hb]
  simp only [beq_self_eq_true, if_true, Bool.true_beq, Bool.false_eq_true, if_false]
  omega
/-- marks that tell what is derived -/
def Marks (n : Int) (D : Int → Prop) (m : List Bool) : Prop := (m.length : Int) = n ∧ ∀ i : Int, 0 ≤ i → i < n → (bit m i = true ↔ D i)
theorem Marks.eq {n : Int} {D : Int → Prop} {m m' : List Bool} (h : Marks n D m) (h' : Marks n D m') : m = m' := by
  have hl : m.length = m'.length := by have := h.1; have := h'.1; omega
  refine List.ext_getElem hl fun i h1 h2 => ?_
  have a1 := h.2 i (by omega) (by have := h.1; omega)
  have a2 := h'.2 i (by omega) (by have := h.1; omega)
  rw [bit_get (by omega) (by omega)] at a1 a2
  simp only [Int.toNat_natCast] at a1 a2
  cases hm : m[i] <;> cases hm' : m'[i] <;> simp_all
/-- a list of the call's own -/
def Mine (h h' : Heap) (v : Value) (n : Nat) (cells : List Value) (et : TypeId) : Prop := ∃ id ver, h.length ≤ id ∧ v = .slice (some ⟨id, 0, some ver⟩) n n ∧ h'[id]? = some (.arr cells ver true et)
abbrev MineB (h h' : Heap) (v : Value) (m : List Bool) : Prop := Mine h h' v m.length (m.map Value.bool) 4
theorem MineB.rd {h h' : Heap} {v : Value} {m : List Bool} (k : MineB h h' v m) (hl : m.length ≤ 1000000) : RdBools h' v m := by
  obtain ⟨id, ver, h1, h2, h3⟩ := k
  exact ⟨by omega, .inr ⟨id, ver, true, _, h2, h3⟩⟩
def Right (g : Gram) : Prop := ¬ badG g
structure RightS (g : Gram) : Prop where
  n1 : 1 ≤ g.nts
  n2 : g.nts ≤ 4096
  s1 : 0 ≤ g.start
  s2 : g.start < g.nts
  rl : g.rules.length ≤ 8192
  r : ∀ r ∈ g.rules, 0 ≤ r.lhs ∧ r.lhs < g.nts ∧ r.rhs.length ≤ 80 ∧ ∀ s ∈ r.rhs, -1 ≤ s.nt ∧ s.nt < g.nts ∧ (0 ≤ s.nt → s.set = BSet.zero)
theorem rightS {g : Gram} (h : ¬ badG g) : RightS g := by
  have k : ∀ p : Prop, ¬ ¬ p → p := fun p => Classical.not_not.1
  refine ⟨k _ fun c => h (.inl (by omega)), k _ fun c => h (.inr (.inl (by omega))), k _ fun c => h (.inr (.inr (.inl (by omega)))), k _ fun c => h (.inr (.inr (.inr (.inl (by omega))))), k _ fun c => h (.inr (.inr (.inr (.inr (.inl (by omega)))))), fun r hr => ?_⟩
  have hr' : ¬ badR g.nts r := fun c => h (.inr (.inr (.inr (.inr (.inr ⟨r, hr, c⟩)))))
  refine ⟨k _ fun c => hr' (.inl (by omega)), k _ fun c => hr' (.inr (.inl (by omega))), k _ fun c => hr' (.inr (.inr (.inl (by omega)))), fun s hs => ?_⟩
  have hs' : ¬ badS g.nts s := fun c => hr' (.inr (.inr (.inr ⟨s, hs, c⟩)))
  exact ⟨k _ fun c => hs' (.inl (by omega)), k _ fun c => hs' (.inr (.inl (by omega))), fun h0 => k _ fun c => hs' (.inr (.inr ⟨h0, c⟩))⟩
theorem rightG_ok {g : Gram} : rightG g = 0 ↔ ¬ badG g := by unfold rightG; split <;> simp_all
end Go.Proofs.Ytnlchlnkibpkaaa
