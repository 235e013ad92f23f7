/- The abstract machine's values and heap against the model's: relations and their small laws. -/
import Derived.Test.YtnlchlnkibpkaaaAm0
namespace Go.Proofs.Ytnlchlnkibpkaaa.Am
set_option linter.unusedSimpArgs false
set_option linter.unusedVariables false
open Go.RowKit

structure M where
  block : Nat
  base : Nat
  room : Nat
  et : TypeId
abbrev Mu := List (List M)
def mAt (μ : Mu) (id ver : Nat) : Option M := match μ[id]? with
  | some l => l[ver]?
  | none => none
def Ext (μ μ' : Mu) : Prop := ∀ (id : Nat) (l : List M), μ[id]? = some l → ∃ l', μ'[id]? = some (l ++ l')
theorem Ext.refl (μ : Mu) : Ext μ μ := fun _ l h => ⟨[], by simpa using h⟩
theorem Ext.trans {a b c : Mu} (h : Ext a b) (k : Ext b c) : Ext a c := fun id l hl => by
  obtain ⟨l1, h1⟩ := h id l hl
  obtain ⟨l2, h2⟩ := k id _ h1
  exact ⟨l1 ++ l2, by rw [h2, List.append_assoc]⟩
theorem Ext.at {μ μ' : Mu} (h : Ext μ μ') {id ver : Nat} {m : M} (hm : mAt μ id ver = some m) : mAt μ' id ver = some m := by
  unfold mAt at hm
  split at hm
  · rename_i l hl
    obtain ⟨l', h'⟩ := h id l hl
    have hlt : ver < l.length := by
      rcases Nat.lt_or_ge ver l.length with h | h
      · exact h
      · simp [List.getElem?_eq_none h] at hm
    simp [mAt, h', List.getElem?_append_left hlt, hm]
  · cases hm
theorem Ext.push (μ : Mu) (l : List M) : Ext μ (μ ++ [l]) := fun id l' h => by
  have hlt : id < μ.length := by
    rcases Nat.lt_or_ge id μ.length with h' | h'
    · exact h'
    · simp [List.getElem?_eq_none h'] at h
  exact ⟨[], by simp [List.getElem?_append_left hlt, h]⟩
theorem mAt_push_new (μ : Mu) (m : M) : mAt (μ ++ [[m]]) μ.length 0 = some m := by simp [mAt]
def muBump (μ : Mu) (id : Nat) (m : M) : Mu := μ.modify id (· ++ [m])
theorem Ext.bump (μ : Mu) (id : Nat) (m : M) : Ext μ (muBump μ id m) := fun i l h => by
  by_cases hi : id = i
  · subst hi
    exact ⟨[m], by simp [muBump, h]⟩
  · exact ⟨[], by simp [muBump, hi, h]⟩

inductive VR (P : Program) (μ : Mu) : Value → Value → Prop
  | pure {v : Value} : pure1 v = true → VR P μ v v
  | ptr {id off ver : Nat} {m : M} : mAt μ id ver = some m → VR P μ (.pointer (some ⟨id, off, some ver⟩)) (.pointer (some ⟨m.block, m.base + off, none⟩))
  | slice {id off ver len c cap : Nat} {m : M} : mAt μ id ver = some m → len ≤ cap → cap ≤ maxLen → off + cap * P.cellsOf m.et = m.room →
      VR P μ (.slice (some ⟨id, off, some ver⟩) len c) (.slice (some ⟨m.block, m.base + off, none⟩) len cap)
  | slice0 {id off ver c o : Nat} {m : M} : mAt μ id ver = some m → 0 < off → VR P μ (.slice (some ⟨id, off, some ver⟩) 0 c) (.slice (some ⟨m.block, o, none⟩) 0 0)
  /-- an empty slice of no room, wherever it points -/
  | sliceE {id off : Nat} {a : Addr} : VR P μ (.slice (some ⟨id, off, none⟩) 0 0) (.slice (some a) 0 0)
  | agg {cs cs' : Array Value} : cs.size = cs'.size → (∀ (i : Nat) (v v' : Value), cs[i]? = some v → cs'[i]? = some v' → VR P μ v v') → VR P μ (.agg cs) (.agg cs')
  | tuple {cs cs' : Array Value} : cs.size = cs'.size → (∀ (i : Nat) (v v' : Value), cs[i]? = some v → cs'[i]? = some v' → VR P μ v v') → VR P μ (.tuple cs) (.tuple cs')
  | func {f : FuncId} {cs cs' : Array Value} : cs.size = cs'.size → (∀ (i : Nat) (v v' : Value), cs[i]? = some v → cs'[i]? = some v' → VR P μ v v') →
      VR P μ (.func (.func f) #[] cs) (.func (.func f) #[] cs')

def VRL (P : Program) (μ : Mu) : List Value → List Value → Prop
  | [], [] => True
  | a :: l, b :: l' => VR P μ a b ∧ VRL P μ l l'
  | _, _ => False

section
variable {P : Program} {μ μ' : Mu} {v v' : Value} {l l' : List Value}
theorem VR.mono (hx : Ext μ μ') (h : VR P μ v v') : VR P μ' v v' := by
  induction h with
  | pure h => exact .pure h
  | ptr h => exact .ptr (hx.at h)
  | slice h a b c => exact .slice (hx.at h) a b c
  | slice0 h a => exact .slice0 (hx.at h) a
  | sliceE => exact .sliceE
  | agg h _ ih => exact .agg h ih
  | tuple h _ ih => exact .tuple h ih
  | func h _ ih => exact .func h ih
theorem VRL.mono (hx : Ext μ μ') : ∀ {l l' : List Value}, VRL P μ l l' → VRL P μ' l l'
  | [], [], _ => trivial
  | _ :: _, _ :: _, ⟨h, k⟩ => ⟨h.mono hx, VRL.mono hx k⟩
  | [], _ :: _, h => h.elim
  | _ :: _, [], h => h.elim
theorem VRL.length : ∀ {l l' : List Value}, VRL P μ l l' → l.length = l'.length
  | [], [], _ => rfl
  | _ :: _, _ :: _, ⟨_, k⟩ => by simp [VRL.length k]
  | [], _ :: _, h => h.elim
  | _ :: _, [], h => h.elim
theorem VRL.get : ∀ {l l' : List Value} {i : Nat} {v : Value}, VRL P μ l l' → l[i]? = some v → ∃ v', l'[i]? = some v' ∧ VR P μ v v'
  | _ :: _, b :: _, 0, _, ⟨h, _⟩, e => by simp at e; subst e; exact ⟨b, by simp, h⟩
  | _ :: _, _ :: _, i + 1, _, ⟨_, k⟩, e => by simpa using VRL.get k (by simpa using e)
  | [], [], _, _, _, e => by simp at e
  | [], _ :: _, _, _, h, _ => h.elim
  | _ :: _, [], _, _, h, _ => h.elim
theorem VRL.of : ∀ {l l' : List Value}, l.length = l'.length → (∀ (i : Nat) (v v' : Value), l[i]? = some v → l'[i]? = some v' → VR P μ v v') → VRL P μ l l'
  | [], [], _, _ => trivial
  | a :: l, b :: l', h, k => ⟨k 0 a b rfl rfl, VRL.of (by simpa using h) fun i v v' e e' => k (i + 1) v v' (by simpa using e) (by simpa using e')⟩
  | [], _ :: _, h, _ => by simp at h
  | _ :: _, [], h, _ => by simp at h
theorem VRL.at (h : VRL P μ l l') {i : Nat} {v v' : Value} (e : l[i]? = some v) (e' : l'[i]? = some v') : VR P μ v v' := by
  obtain ⟨u, hu, k⟩ := h.get e
  rw [e'] at hu
  cases hu
  exact k
theorem VRL.append : ∀ {a a' b b' : List Value}, VRL P μ a a' → VRL P μ b b' → VRL P μ (a ++ b) (a' ++ b')
  | [], [], _, _, _, k => k
  | _ :: _, _ :: _, _, _, ⟨h, q⟩, k => ⟨h, VRL.append q k⟩
  | [], _ :: _, _, _, h, _ => h.elim
  | _ :: _, [], _, _, h, _ => h.elim
theorem VRL.take (n : Nat) : ∀ {l l' : List Value}, VRL P μ l l' → VRL P μ (l.take n) (l'.take n)
  | [], [], _ => by simp [VRL]
  | _ :: _, _ :: _, ⟨h, k⟩ => by
    cases n with
    | zero => simp [VRL]
    | succ n => exact ⟨h, VRL.take n k⟩
  | [], _ :: _, h => h.elim
  | _ :: _, [], h => h.elim
theorem VRL.drop (n : Nat) : ∀ {l l' : List Value}, VRL P μ l l' → VRL P μ (l.drop n) (l'.drop n)
  | [], [], _ => by simp [VRL]
  | _ :: _, _ :: _, ⟨h, k⟩ => by
    cases n with
    | zero => exact ⟨h, k⟩
    | succ n => exact VRL.drop n k
  | [], _ :: _, h => h.elim
  | _ :: _, [], h => h.elim
theorem VRL.pure : ∀ {l : List Value}, l.all pure1 = true → VRL P μ l l
  | [], _ => trivial
  | a :: l, h => by
    simp only [List.all_cons, Bool.and_eq_true] at h
    exact ⟨.pure h.1, VRL.pure h.2⟩
theorem VRL.agg (h : VRL P μ l l') : VR P μ (.agg l.toArray) (.agg l'.toArray) := .agg (by simpa using h.length) fun i v v' e e' => h.at (by simpa using e) (by simpa using e')
theorem VRL.tup (h : VRL P μ l l') : VR P μ (.tuple l.toArray) (.tuple l'.toArray) := .tuple (by simpa using h.length) fun i v v' e e' => h.at (by simpa using e) (by simpa using e')

theorem VR.of_pure1 (h : VR P μ v v') (hp : pure1 v = true) : v' = v := by
  cases h <;> first | rfl | (simp [pure1] at hp)
theorem VR.int {k : IntKind} {n : Int} (h : VR P μ (.int k n) v') : v' = .int k n := h.of_pure1 rfl
theorem VR.bool {b : Bool} (h : VR P μ (.bool b) v') : v' = .bool b := h.of_pure1 rfl
theorem VR.string {b : ByteArray} (h : VR P μ (.string b) v') : v' = .string b := h.of_pure1 rfl
theorem VR.tupleInv {cs : Array Value} (h : VR P μ (.tuple cs) v') : ∃ cs', v' = .tuple cs' ∧ VRL P μ cs.toList cs'.toList := by
  cases h with
  | pure h => simp [pure1] at h
  | tuple h k => exact ⟨_, rfl, .of (by simpa using h) fun i v v' e e' => k i v v' (by simpa using e) (by simpa using e')⟩
theorem VR.aggInv {cs : Array Value} (h : VR P μ (.agg cs) v') : ∃ cs', v' = .agg cs' ∧ VRL P μ cs.toList cs'.toList := by
  cases h with
  | pure h => simp [pure1] at h
  | agg h k => exact ⟨_, rfl, .of (by simpa using h) fun i v v' e e' => k i v v' (by simpa using e) (by simpa using e')⟩
theorem VR.ptrInv {a : Addr} (h : VR P μ (.pointer (some a)) v') : ∃ id off ver m, a = ⟨id, off, some ver⟩ ∧ mAt μ id ver = some m ∧ v' = .pointer (some ⟨m.block, m.base + off, none⟩) := by
  cases h with
  | pure h => simp [pure1] at h
  | ptr h => exact ⟨_, _, _, _, rfl, h, rfl⟩
theorem VR.funcInv {f : Fn} {a b : Array Value} (h : VR P μ (.func f a b) v') : ∃ g b', f = .func g ∧ a = #[] ∧ v' = .func (.func g) #[] b' ∧ VRL P μ b.toList b'.toList := by
  cases h with
  | pure h => simp [pure1] at h
  | func h k => exact ⟨_, _, rfl, rfl, rfl, .of (by simpa using h) fun i v v' e e' => k i v v' (by simpa using e) (by simpa using e')⟩
theorem VR.undef : VR P μ Go.undef Go.undef := .tuple rfl fun i v v' e _ => by simp at e
theorem VR.undefInv (h : VR P μ (.tuple #[]) v') : v' = Go.undef := by
  obtain ⟨cs', rfl, k⟩ := h.tupleInv
  have e := k.length
  have e' : cs' = #[] := by
    apply Array.eq_empty_of_size_eq_zero
    simpa using e.symm
  rw [e']
  rfl
theorem VR.one (h : VR P μ v v') (h1 : one v = true) : one v' = true := by
  cases h <;> first | exact h1 | rfl
theorem one_iff (v : Value) : one v = v.oneCell' := by cases v <;> rfl
theorem VR.cells (h : VR P μ v v') : VRL P μ v.cells.toList v'.cells.toList := by
  cases h with
  | agg h k => exact .of (by simpa [Value.cells] using h) fun i v v' e e' => k i v v' (by simpa [Value.cells] using e) (by simpa [Value.cells] using e')
  | pure h => cases v <;> first | exact ⟨.pure h, trivial⟩ | (simp [pure1] at h)
  | ptr h => exact ⟨.ptr h, trivial⟩
  | slice h a b c => exact ⟨.slice h a b c, trivial⟩
  | slice0 h a => exact ⟨.slice0 h a, trivial⟩
  | sliceE => exact ⟨.sliceE, trivial⟩
  | tuple h k => exact ⟨.tuple h k, trivial⟩
  | func h k => exact ⟨.func h k, trivial⟩
theorem VR.ofPureV (h : pureV v = true) : VR P μ v v := by
  cases v with
  | agg cs =>
    have h' : cs.toList.all pure1 = true := h
    have := (VRL.pure (P := P) (μ := μ) h').agg
    simpa using this
  | tuple cs =>
    have h' : cs.toList.isEmpty = true := h
    have e : cs = #[] := by simpa using h'
    subst e
    exact VR.undef
  | _ => exact .pure h
theorem VRL.all_one : ∀ {l l' : List Value}, VRL P μ l l' → l.all one = true → l'.all one = true
  | [], [], _, _ => rfl
  | _ :: _, _ :: _, ⟨h, k⟩, e => by
    simp only [List.all_cons, Bool.and_eq_true] at e ⊢
    exact ⟨h.one e.1, VRL.all_one k e.2⟩
  | [], _ :: _, h, _ => h.elim
  | _ :: _, [], h, _ => h.elim
theorem VRL.rdC (h : VRL P μ l l') {off n : Nat} {r : List Value} (e : rdC l off n = some r) : ∃ r', rdC l' off n = some r' ∧ VRL P μ r r' ∧ off + n ≤ l'.length ∧ r' = (l'.drop off).take n := by
  unfold Am.rdC at e
  split at e
  · rename_i hle
    cases e
    have := h.length
    exact ⟨_, by rw [Am.rdC, if_pos (by omega)], (h.drop off).take n, by omega, rfl⟩
  · cases e
theorem VRL.wrC (h : VRL P μ l l') {off : Nat} {vs vs' r : List Value} (hv : VRL P μ vs vs') (e : wrC l off vs = some r) :
    VRL P μ r (l'.take off ++ vs' ++ l'.drop (off + vs'.length)) ∧ off + vs'.length ≤ l'.length := by
  unfold Am.wrC at e
  split at e
  · rename_i hle
    cases e
    have := h.length
    have hvl := hv.length
    rw [← hvl]
    exact ⟨((h.take off).append hv).append (h.drop _), by omega⟩
  · cases e
theorem vcells_some {n : Nat} {v : Value} {cs : List Value} (h : vcells n v = some cs) : cs = v.cells.toList ∧ cs.length = n ∧ v.cells.size = n ∧ cs.all one = true := by
  unfold vcells at h
  split at h
  · rename_i hh
    cases h
    exact ⟨rfl, by simpa using hh.1, hh.1, hh.2⟩
  · cases h
theorem tinfo_some {t : TypeId} {ti : TI} (h : tinfo P t = some ti) : ∃ i d, P.info? t = some i ∧ P.underlying t = some d ∧ ti = ⟨isAggD d, i.size, i.bytes, i.zero⟩ := by
  unfold tinfo at h
  split at h
  · rename_i i d hi hd
    cases h
    exact ⟨i, d, hi, hd, rfl⟩
  · cases h
theorem tinfo_cellsOf {t : TypeId} {ti : TI} (h : tinfo P t = some ti) : P.cellsOf t = ti.size := by
  obtain ⟨i, d, hi, hd, rfl⟩ := tinfo_some h
  simp [Program.cellsOf, hi]
end

/-! ### the heap -/
structure ObjR (P : Program) (μ : Mu) (w : World) (id : Nat) (cells : List Value) (ver : Nat) (own : Bool) (et : TypeId) (m : M) : Prop where
  hist : ∃ l, μ[id]? = some l ∧ l.length = ver + 1 ∧ l[ver]? = some m
  ez : m.et = et
  cell : ∀ (j : Nat) (v : Value), cells[j]? = some v → ∃ v', w.cell? ⟨m.block, m.base + j, none⟩ = some v' ∧ VR P μ v v'
  one : cells.all one = true
  blk : m.block < w.heap.size
  own : own = true → m.base = 0 ∧ ∃ cur, w.heap[m.block]? = some (.cells cur et (0, 0)) ∧ m.room = cur.size
theorem ObjR.at {P : Program} {μ : Mu} {w : World} {id ver : Nat} {cells : List Value} {own : Bool} {et : TypeId} {m : M} (h : ObjR P μ w id cells ver own et m) : mAt μ id ver = some m := by
  obtain ⟨l, h1, _, h3⟩ := h.hist
  simp [mAt, h1, h3]

structure HeapR (P : Program) (μ : Mu) (h : Heap) (w : World) : Prop where
  len : μ.length = h.length
  obj : ∀ (id : Nat) (cells : List Value) (ver : Nat) (own : Bool) (et : TypeId), h[id]? = some (.arr cells ver own et) → ∃ m, ObjR P μ w id cells ver own et m
  sep : ∀ (id1 id2 : Nat) (c1 c2 : List Value) (v1 v2 : Nat) (o2 : Bool) (e1 e2 : TypeId) (m1 m2 : M), id1 ≠ id2 → h[id1]? = some (.arr c1 v1 true e1) → h[id2]? = some (.arr c2 v2 o2 e2) → mAt μ id1 v1 = some m1 → mAt μ id2 v2 = some m2 → m1.block ≠ m2.block

def OwnB (μ : Mu) (h : Heap) (b : Nat) : Prop := ∃ (id : Nat) (c : List Value) (v : Nat) (e : TypeId) (m : M), h[id]? = some (.arr c v true e) ∧ mAt μ id v = some m ∧ m.block = b
def BlkB (μ : Mu) (h : Heap) (b : Nat) : Prop := ∃ (id : Nat) (c : List Value) (v : Nat) (o : Bool) (e : TypeId) (m : M), h[id]? = some (.arr c v o e) ∧ mAt μ id v = some m ∧ m.block = b
theorem OwnB.blk {μ : Mu} {h : Heap} {b : Nat} (k : OwnB μ h b) : BlkB μ h b := by
  obtain ⟨id, c, v, e, m, h1, h2, h3⟩ := k
  exact ⟨id, c, v, true, e, m, h1, h2, h3⟩
theorem BlkB.lt {P : Program} {μ : Mu} {h : Heap} {w : World} {b : Nat} (H : HeapR P μ h w) (k : BlkB μ h b) : b < w.heap.size := by
  obtain ⟨id, c, v, o, e, m, h1, h2, rfl⟩ := k
  obtain ⟨m', hm'⟩ := H.obj _ _ _ _ _ h1
  have := hm'.at
  rw [h2] at this
  cases this
  exact hm'.blk

/-- of what was there nothing has turned but for what `Own0` names -/
structure FrW (Own0 : Nat → Prop) (w0 w : World) : Prop where
  os : w.os = w0.os
  tape : w.tape = w0.tape
  output : w.output = w0.output
  size : w0.heap.size ≤ w.heap.size
  block : ∀ k, k < w0.heap.size → ¬ Own0 k → w.heap[k]? = w0.heap[k]?
theorem FrW.refl (O : Nat → Prop) (w : World) : FrW O w w := ⟨rfl, rfl, rfl, Nat.le_refl _, fun _ _ _ => rfl⟩
theorem FrW.trans {O O' : Nat → Prop} {a b c : World} (h : FrW O a b) (k : FrW O' b c) (hO : ∀ x, O' x → O x ∨ a.heap.size ≤ x) : FrW O a c :=
  ⟨k.os.trans h.os, k.tape.trans h.tape, k.output.trans h.output, Nat.le_trans h.size k.size, fun x hx hn =>
    (k.block x (Nat.lt_of_lt_of_le hx h.size) fun ho => (hO x ho).elim hn fun h' => by omega).trans (h.block x hx hn)⟩

/-! ### frames -/
def priv : Slot → Bool
  | .box _ => true
  | .bsl _ _ => true
  | _ => false
def RowR (P : Program) (μ : Mu) (b : Nat) (cs : List Value) (w : World) : Prop := ∃ cur e, w.heap[b]? = some (.cells cur e (0, 0)) ∧ VRL P μ cs cur.toList ∧ cs.all one = true
def SlotR (P : Program) (μ : Mu) (b : Nat) (w : World) : Slot → Value → Prop
  | .val v, v' => VR P μ v v'
  | .cnd ks v, v' => if condL ks = true then VR P μ v v' else v' = undef
  | .box cs, v' => v' = .pointer (some ⟨b, 0, none⟩) ∧ RowR P μ b cs w
  | .bsl cs n, v' => v' = .slice (some ⟨b, 0, none⟩) n n ∧ RowR P μ b cs w
  | .unk, _ => True

theorem mem_of_eget {t : Nat} {p : List Key × (Nat × Nat)} : ∀ {e : Eph}, eget e t = some p → (t, p) ∈ e
  | [], h => by simp [eget] at h
  | (k, v) :: r, h => by
    simp only [eget] at h
    split at h
    · rename_i hk
      cases h
      subst hk
      exact List.mem_cons_self
    · exact List.mem_cons_of_mem _ (mem_of_eget h)
theorem mem_edrop {t sl off : Nat} {g : List Key} (i : Nat) : ∀ {e : Eph}, (t, (g, (sl, off))) ∈ edrop e i → (t, (g, (sl, off))) ∈ e ∧ t ≠ i ∧ sl ≠ i
  | [], h => by simp [edrop] at h
  | (k, (_, (s, o))) :: r, h => by
    simp only [edrop] at h
    split at h
    · have := mem_edrop i h
      exact ⟨List.mem_cons_of_mem _ this.1, this.2⟩
    · rename_i hk
      split at h
      · have := mem_edrop i h
        exact ⟨List.mem_cons_of_mem _ this.1, this.2⟩
      · rename_i hs
        rcases List.mem_cons.1 h with h | h
        · cases h
          exact ⟨List.mem_cons_self, hk, hs⟩
        · have := mem_edrop i h
          exact ⟨List.mem_cons_of_mem _ this.1, this.2⟩
/-- what was so when the function was entered -/
structure Bs where
  w0 : World
  own : Nat → Prop
  blk : Nat → Prop
  μ0 : Mu
structure StR (N : Env) (B : Bs) (n : Nat) (μ : Mu) (β : Nat → Nat) (s : St) (a : Act) (w : World) : Prop where
  defers : a.defers = []
  size : a.tmps.size = n
  slot : ∀ t, t < n → SlotR N.P μ (β t) w (fget s.fr t) (a.tmps.getD t undef)
  hi : ∀ t, n ≤ t → fget s.fr t = .unk
  eph : ∀ t g sl off, (t, (g, (sl, off))) ∈ s.eph → t < n ∧ (if condL g = true then a.tmps.getD t undef = .pointer (some ⟨β sl, off, none⟩) else a.tmps.getD t undef = undef) ∧ ∃ cs, fget s.fr sl = .box cs
  heap : HeapR N.P μ s.h w
  fr : FrW B.own B.w0 w
  ext : Ext B.μ0 μ
  own : ∀ b, OwnB μ s.h b → B.own b ∨ B.w0.heap.size ≤ b
  blk : ∀ b, BlkB μ s.h b → B.blk b ∨ B.w0.heap.size ≤ b
  bnew : ∀ t, priv (fget s.fr t) = true → B.w0.heap.size ≤ β t ∧ β t < w.heap.size
  binj : ∀ t t', priv (fget s.fr t) = true → priv (fget s.fr t') = true → t ≠ t' → β t ≠ β t'
  bsep : ∀ t, priv (fget s.fr t) = true → ¬ BlkB μ s.h (β t)
end Go.Proofs.Ytnlchlnkibpkaaa.Am
