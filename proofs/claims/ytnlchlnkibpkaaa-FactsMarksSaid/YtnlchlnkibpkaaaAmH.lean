/- The abstract machine: from what a row reads to a heap of objects that are read. Generic in the type: bools, numbers, strings, structs, arrays, slices. -/
import Derived.Test.YtnlchlnkibpkaaaAmG
import Derived.Deep.Slices
import Derived.ProofKit
import Derived.OpenShut
import GoSem.ClaimJoined
namespace Go.Proofs.Ytnlchlnkibpkaaa.Am
set_option linter.unusedSimpArgs false
set_option linter.unusedVariables false
open Go.RowKit

def conB (P : Program) : Nat → List Field → Option Nat
  | o, [] => some o
  | o, f :: r => if f.offset = o then conB P (o + P.cellsOf f.type) r else none
def kindB (P : Program) (ts : List TypeId) (t : TypeId) : Bool :=
  match P.underlying t with
  | some .bool => true
  | some (.int _) => true
  | some .string => true
  | some (.struct fs) => decide (conB P 0 fs.toList = some (P.cellsOf t)) && fs.toList.all fun f => ts.contains f.type
  | some (.array n e) => decide (P.cellsOf t = n * P.cellsOf e) && ts.contains e
  | some (.slice e) => decide (0 < P.cellsOf e) && ts.contains e
  | _ => false
def RdEs (c : Nat) (R : List Value → Prop) : Nat → List Value → Prop
  | 0, vs => vs = []
  | m + 1, vs => ∃ a b, vs = a ++ b ∧ a.length = c ∧ R a ∧ RdEs c R m b
def RdFs (P : Program) (R : TypeId → List Value → Prop) : List Field → List Value → Prop
  | [], vs => vs = []
  | f :: r, vs => ∃ a b, vs = a ++ b ∧ a.length = P.cellsOf f.type ∧ R f.type a ∧ RdFs P R r b
def RdT (P : Program) (h : Heap) : Nat → TypeId → List Value → Prop
  | 0, _, _ => False
  | n + 1, t, vs => match P.underlying t with
    | some .bool => ∃ b, vs = [.bool b]
    | some (.int k) => ∃ i, vs = [.int k i] ∧ (Lit.int k i).wf = true
    | some .string => ∃ s : ByteArray, vs = [.string s] ∧ s.size ≤ reachBytes
    | some (.struct fs) => RdFs P (RdT P h n) fs.toList vs
    | some (.array m e) => RdEs (P.cellsOf e) (RdT P h n e) m vs
    | some (.slice e) => vs = [.slice none 0 0] ∨ vs = [.slice (some ⟨0, 0, none⟩) 0 0] ∨
        ∃ id len c cells, vs = [.slice (some ⟨id, 0, some 0⟩) len c] ∧ len * P.bytesOf e ≤ reachBytes ∧ h[id]? = some (.arr cells 0 false e) ∧ RdEs (P.cellsOf e) (RdT P h n e) len cells
    | _ => False

theorem RdEs.mono {c : Nat} {R R' : List Value → Prop} (k : ∀ vs, R vs → R' vs) : ∀ {m : Nat} {vs : List Value}, RdEs c R m vs → RdEs c R' m vs
  | 0, _, h => h
  | _ + 1, _, ⟨a, b, h1, h2, h3, h4⟩ => ⟨a, b, h1, h2, k _ h3, RdEs.mono k h4⟩
theorem RdFs.mono {P : Program} {R R' : TypeId → List Value → Prop} (k : ∀ t vs, R t vs → R' t vs) : ∀ {l : List Field} {vs : List Value}, RdFs P R l vs → RdFs P R' l vs
  | [], _, h => h
  | _ :: _, _, ⟨a, b, h1, h2, h3, h4⟩ => ⟨a, b, h1, h2, k _ _ h3, RdFs.mono k h4⟩
theorem pre_get {h h' : Heap} (hp : h <+: h') {i : Nat} {x : HObj} (hx : h[i]? = some x) : h'[i]? = some x := by
  obtain ⟨t, rfl⟩ := hp
  rw [List.getElem?_append_left (List.getElem?_eq_some_iff.1 hx).1]
  exact hx
theorem RdT.mono {P : Program} {h h' : Heap} (hp : h <+: h') : ∀ {n : Nat} {t : TypeId} {vs : List Value}, RdT P h n t vs → RdT P h' n t vs
  | 0, _, _, k => k
  | n + 1, t, vs, k => by
    unfold RdT at k ⊢
    split at k
    · exact k
    · exact k
    · exact k
    · exact k.mono fun t vs h => RdT.mono hp h
    · exact k.mono fun vs h => RdT.mono hp h
    · rcases k with k | k | ⟨id, len, c, cells, k1, k2, k3, k4⟩
      · exact .inl k
      · exact .inr (.inl k)
      · exact .inr (.inr ⟨id, len, c, cells, k1, k2, pre_get hp k3, k4.mono fun vs h => RdT.mono hp h⟩)
    · exact k

section
variable {P : Program} {W : World} {μ μ' : Mu} {h h' : Heap}
def noOwn (h : Heap) : Prop := ∀ (id : Nat) (c : List Value) (v : Nat) (o : Bool) (e : TypeId), h[id]? = some (.arr c v o e) → o = false
theorem VRL.mono' (hx : Ext μ μ') : ∀ {a a' : List Value}, VRL P μ a a' → VRL P μ' a a'
  | [], [], _ => trivial
  | _ :: _, _ :: _, ⟨h1, h2⟩ => ⟨h1.mono hx, VRL.mono' hx h2⟩
  | [], _ :: _, k => k.elim
  | _ :: _, [], k => k.elim
/-- an object that is read alone -/
theorem HeapR.addRO (H : HeapR P μ h W) (hn : noOwn h) {cells : List Value} {m : M} (hc : ∀ (j : Nat) (v : Value), cells[j]? = some v → ∃ v', W.cell? ⟨m.block, m.base + j, none⟩ = some v' ∧ VR P μ v v') (h1 : cells.all one = true) (hb : m.block < W.heap.size) :
    HeapR P (μ ++ [[m]]) (h ++ [.arr cells 0 false m.et]) W ∧ noOwn (h ++ [.arr cells 0 false m.et]) ∧ Ext μ (μ ++ [[m]]) ∧ mAt (μ ++ [[m]]) h.length 0 = some m := by
  have hx : Ext μ (μ ++ [[m]]) := fun id l hl => ⟨[], by rw [List.getElem?_append_left (List.getElem?_eq_some_iff.1 hl).1, List.append_nil]; exact hl⟩
  have hnew : noOwn (h ++ [.arr cells 0 false m.et]) := by
    intro id c v o e ho
    rcases Nat.lt_or_ge id h.length with hlt | hge
    · rw [List.getElem?_append_left hlt] at ho
      exact hn _ _ _ _ _ ho
    · rw [List.getElem?_append_right hge] at ho
      cases hk : id - h.length with
      | zero =>
        rw [hk] at ho
        simp at ho
        exact ho.2.2.1
      | succ k =>
        rw [hk] at ho
        simp at ho
  refine ⟨⟨by simp [H.len], ?_, ?_⟩, hnew, hx, ?_⟩
  · intro id c v o e ho
    rcases Nat.lt_or_ge id h.length with hlt | hge
    · rw [List.getElem?_append_left hlt] at ho
      obtain ⟨m', hm'⟩ := H.obj _ _ _ _ _ ho
      obtain ⟨l, q1, q2, q3⟩ := hm'.hist
      refine ⟨m', ⟨l, ?_, q2, q3⟩, hm'.ez, fun j v hj => ?_, hm'.one, hm'.blk, hm'.own⟩
      · rw [List.getElem?_append_left (by rw [H.len]; exact hlt)]
        exact q1
      · obtain ⟨v', k1, k2⟩ := hm'.cell j v hj
        exact ⟨v', k1, k2.mono hx⟩
    · rw [List.getElem?_append_right hge] at ho
      cases hk : id - h.length with
      | succ k => rw [hk] at ho; simp at ho
      | zero =>
        rw [hk] at ho
        simp at ho
        obtain ⟨rfl, rfl, rfl, rfl⟩ := ho
        obtain rfl : id = h.length := by omega
        refine ⟨m, ⟨[m], by rw [← H.len]; simp, rfl, rfl⟩, rfl, fun j v hj => ?_, h1, hb, fun e => by cases e⟩
        obtain ⟨v', k1, k2⟩ := hc j v hj
        exact ⟨v', k1, k2.mono hx⟩
  · intro id1 id2 c1 c2 v1 v2 o2 e1 e2 m1 m2 _ g1
    have := hnew _ _ _ _ _ g1
    cases this
  · unfold mAt
    rw [← H.len]
    simp
/-- cells of the world can be told in the abstract machine, with more objects -/
def Tells (P : Program) (W : World) (R : Heap → List Value → Prop) (cs : List Value) : Prop :=
  ∀ μ h, HeapR P μ h W → noOwn h → ∃ μ' h' vs, h <+: h' ∧ Ext μ μ' ∧ HeapR P μ' h' W ∧ noOwn h' ∧ VRL P μ' vs cs ∧ vs.all one = true ∧ R h' vs
def Grows (R : Heap → List Value → Prop) : Prop := ∀ (h h' : Heap) (vs : List Value), h <+: h' → R h vs → R h' vs
theorem Tells.nil {R : Heap → List Value → Prop} (hR : ∀ h, R h []) : Tells P W R [] := fun μ h H hn => ⟨μ, h, [], List.prefix_refl _, Ext.refl _, H, hn, trivial, rfl, hR h⟩
theorem Tells.pure {R : Heap → List Value → Prop} {v v' : Value} (hv : ∀ μ, VR P μ v v') (h1 : one v = true) (hR : ∀ h, R h [v]) : Tells P W R [v'] :=
  fun μ h H hn => ⟨μ, h, [v], List.prefix_refl _, Ext.refl _, H, hn, ⟨hv μ, trivial⟩, by simp [h1], hR h⟩
theorem Tells.append {R1 R2 R : Heap → List Value → Prop} (g1 : Grows R1) {c1 c2 : List Value} (k1 : Tells P W R1 c1) (k2 : Tells P W R2 c2) (hR : ∀ h a b, a.length = c1.length → R1 h a → R2 h b → R h (a ++ b)) : Tells P W R (c1 ++ c2) := by
  intro μ h H hn
  obtain ⟨μ1, h1, a, p1, x1, H1, n1, v1, o1, r1⟩ := k1 μ h H hn
  obtain ⟨μ2, h2, b, p2, x2, H2, n2, v2, o2, r2⟩ := k2 μ1 h1 H1 n1
  refine ⟨μ2, h2, a ++ b, p1.trans p2, x1.trans x2, H2, n2, (v1.mono' x2).append v2, by rw [List.all_append, o1, o2]; rfl, hR h2 a b v1.length (g1 _ _ _ p2 r1) r2⟩
theorem Tells.es {R : Heap → List Value → Prop} (g : Grows R) {c : Nat} : ∀ {l : List (List Value)}, (∀ cs ∈ l, cs.length = c ∧ Tells P W R cs) → Tells P W (fun h vs => RdEs c (R h) l.length vs) l.flatten
  | [], _ => Tells.nil fun _ => rfl
  | cs :: l, k => by
    rw [List.flatten_cons]
    have hk := k cs List.mem_cons_self
    exact Tells.append (R1 := R) (R2 := fun h vs => RdEs c (R h) l.length vs) g hk.2 (Tells.es g fun cs h => k cs (List.mem_cons_of_mem _ h)) fun h a b ha h1 h2 => ⟨a, b, rfl, ha.trans hk.1, h1, h2⟩
theorem con_le {P : Program} : ∀ {l : List Field} {o n : Nat}, conB P o l = some n → o ≤ n
  | [], o, n, h => by
    simp only [conB, Option.some.injEq] at h
    omega
  | f :: l, o, n, h => by
    simp only [conB] at h
    split at h
    · have := con_le h
      omega
    · cases h
theorem Tells.fs {R : Heap → TypeId → List Value → Prop} (g : ∀ t, Grows fun h vs => R h t vs) {cs : List Value} : ∀ {l : List Field} {o : Nat}, conB P o l = some cs.length →
    (∀ f ∈ l, Tells P W (fun h vs => R h f.type vs) ((cs.drop f.offset).take (P.cellsOf f.type))) → Tells P W (fun h vs => RdFs P (R h) l vs) (cs.drop o)
  | [], o, hc, _ => by
    simp only [conB, Option.some.injEq] at hc
    rw [List.drop_of_length_le (by omega)]
    exact Tells.nil fun _ => rfl
  | f :: l, o, hc, k => by
    simp only [conB] at hc
    split at hc
    · rename_i ho
      have h1 := k f List.mem_cons_self
      rw [ho] at h1
      have h2 := Tells.fs g hc fun f' hf => k f' (List.mem_cons_of_mem _ hf)
      have hle : o + P.cellsOf f.type ≤ cs.length := con_le hc
      have e : cs.drop o = (cs.drop o).take (P.cellsOf f.type) ++ cs.drop (o + P.cellsOf f.type) := by
        rw [← List.drop_drop, List.take_append_drop]
      rw [e]
      refine Tells.append (R1 := fun h vs => R h f.type vs) (R2 := fun h vs => RdFs P (R h) l vs) (g f.type) h1 h2 fun h a b ha k1 k2 => ⟨a, b, rfl, ?_, k1, k2⟩
      rw [ha, List.length_take, List.length_drop]
      omega
    · cases hc
theorem weights_each {H : Type} : ∀ {ts : List TypeId} {ds : List (DataW H)}, (DataW.weightsEach P ts ds).all (fun b => decide (b ≤ reachBytes)) = true → ∀ (i : Nat) (t : TypeId) (d : DataW H), ts[i]? = some t → ds[i]? = some d → (d.weights P t).all (fun b => decide (b ≤ reachBytes)) = true
  | [], _, _, i, t, d, h, _ => by simp at h
  | _ :: _, [], _, i, t, d, _, h => by simp at h
  | t :: ts, d :: ds, k, i, t', d', h1, h2 => by
    unfold DataW.weightsEach at k
    rw [List.all_append, Bool.and_eq_true] at k
    cases i with
    | zero =>
      simp only [List.getElem?_cons_zero, Option.some.injEq] at h1 h2
      subst h1
      subst h2
      exact k.1
    | succ i => exact weights_each k.2 i t' d' (by simpa using h1) (by simpa using h2)
theorem weights_all {H : Type} {e : TypeId} : ∀ {ds : List (DataW H)}, (DataW.weightsAll P e ds).all (fun b => decide (b ≤ reachBytes)) = true → ∀ d ∈ ds, (d.weights P e).all (fun b => decide (b ≤ reachBytes)) = true
  | [], _, d, h => by cases h
  | d :: ds, k, d', h => by
    unfold DataW.weightsAll at k
    rw [List.all_append, Bool.and_eq_true] at k
    rcases List.mem_cons.1 h with rfl | h
    · exact k.1
    · exact weights_all k.2 d' h
theorem chunks_flatten {c : Nat} : ∀ {m : Nat} {cs : List Value}, cs.length = m * c → ((List.range m).map fun i => (cs.drop (i * c)).take c).flatten = cs
  | 0, cs, h => by
    rw [Nat.zero_mul] at h
    simp [List.eq_nil_of_length_eq_zero h]
  | m + 1, cs, h => by
    rw [Nat.succ_mul] at h
    have ih := chunks_flatten (c := c) (m := m) (cs := cs.drop c) (by rw [List.length_drop]; omega)
    rw [List.range_succ_eq_map, List.map_cons, List.map_map, List.flatten_cons, Nat.zero_mul, List.drop_zero]
    have e : ((fun i => (cs.drop (i * c)).take c) ∘ Nat.succ) = fun i => ((cs.drop c).drop (i * c)).take c := by
      funext i
      simp only [Function.comp, List.drop_drop, Nat.succ_mul]
      rw [Nat.add_comm]
    rw [e, ih, List.take_append_drop]
theorem flatten_cells {b c : Nat} : ∀ {l : List (List Value)} {o : Nat}, (∀ (i : Nat) (cs : List Value), l[i]? = some cs → cs.length = c ∧ ∀ r, r < c → W.cell? ⟨b, o + i * c + r, none⟩ = cs[r]?) →
    ∀ (j : Nat) (v : Value), l.flatten[j]? = some v → W.cell? ⟨b, o + j, none⟩ = some v
  | [], o, _, j, v, h => by simp at h
  | cs :: l, o, k, j, v, h => by
    obtain ⟨h1, h2⟩ := k 0 cs rfl
    rw [List.flatten_cons] at h
    rcases Nat.lt_or_ge j cs.length with hj | hj
    · rw [List.getElem?_append_left hj] at h
      have := h2 j (by omega)
      rw [Nat.zero_mul, Nat.add_zero] at this
      rw [this, h]
    · rw [List.getElem?_append_right hj] at h
      have ih := flatten_cells (b := b) (c := c) (l := l) (o := o + c) (fun i cs' hi => by
        obtain ⟨q1, q2⟩ := k (i + 1) cs' (by simpa using hi)
        refine ⟨q1, fun r hr => ?_⟩
        rw [← q2 r hr, Nat.succ_mul]
        congr 2
        omega) (j - cs.length) v h
      rw [← ih]
      congr 2
      omega
theorem grows_T {n : Nat} {t : TypeId} : Grows fun h vs => RdT P h n t vs := fun _ _ _ hp k => k.mono hp
theorem tells_trod {H : Type} {enc : TypeId × Value → H} {held : Bool} {ts : List TypeId} (hcl : ts.all (kindB P ts) = true) : ∀ (n : Nat) (t : TypeId) (cs : List Value) (x : DataW H × List MemPlace), t ∈ ts →
    DataW.trod enc P W 0 (fun _ => true) held n t cs = some x → (x.1.weights P t).all (fun b => decide (b ≤ reachBytes)) = true → Tells P W (fun h vs => RdT P h n t vs) cs
  | 0, t, cs, x, _, h, _ => by simp [DataW.trod] at h
  | n + 1, t, cs, x, ht, h, hw => by
    have hk := List.all_eq_true.1 hcl t ht
    unfold kindB at hk
    split at hk
    · rename_i hu
      obtain ⟨b, rfl, _⟩ := DataW.trod_bool hu h
      exact Tells.pure (v := .bool b) (fun _ => .pure rfl) rfl fun h => by unfold RdT; rw [hu]; exact ⟨b, rfl⟩
    · rename_i k hu
      obtain ⟨i, rfl, _, hwf⟩ := DataW.trod_int hu h
      exact Tells.pure (v := .int k i) (fun _ => .pure rfl) rfl fun h => by unfold RdT; rw [hu]; exact ⟨i, rfl, hwf⟩
    · rename_i hu
      obtain ⟨s, rfl, rfl, _⟩ := DataW.trod_string hu h
      refine Tells.pure (v := .string s) (fun _ => .pure rfl) rfl fun h => ?_
      unfold RdT
      rw [hu]
      refine ⟨s, rfl, ?_⟩
      unfold DataW.weights at hw
      simpa using hw
    · rename_i fs hu
      rw [Bool.and_eq_true, decide_eq_true_eq, List.all_eq_true] at hk
      obtain ⟨xs, n', hn', rfl, hlen, hxl, hf⟩ := DataW.trod_struct hu h
      obtain rfl : n' = n := by omega
      unfold DataW.weights at hw
      rw [hu] at hw
      simp only at hw
      have key := Tells.fs (P := P) (W := W) (R := fun h t vs => RdT P h n' t vs) (fun t => grows_T) (cs := cs) (l := fs.toList) (o := 0) (by rw [hlen]; exact hk.1) (fun f hfm => by
        obtain ⟨i, hi, rfl⟩ := List.mem_iff_getElem.1 hfm
        have hfi : fs[i]? = some fs.toList[i] := by simp
        have h1 := hf i _ hfi
        have hix : i < xs.length := by rw [hxl]; simpa using hi
        rw [List.getElem?_eq_getElem hix] at h1
        refine tells_trod hcl n' _ _ _ (by simpa using hk.2 _ (List.getElem_mem hi)) h1 ?_
        exact weights_each hw i _ _ (by rw [List.getElem?_map, List.getElem?_eq_getElem hi]; rfl) (by simp [hix]))
      rw [List.drop_zero] at key
      intro μ h H hn
      obtain ⟨μ', h', vs, a1, a2, a3, a4, a5, a6, a7⟩ := key μ h H hn
      exact ⟨μ', h', vs, a1, a2, a3, a4, a5, a6, by unfold RdT; rw [hu]; exact a7⟩
    · rename_i m e hu
      rw [Bool.and_eq_true, decide_eq_true_eq] at hk
      obtain ⟨xs, n', hn', rfl, hlen, hxl, hf⟩ := DataW.trod_array hu h
      obtain rfl : n' = n := by omega
      unfold DataW.weights at hw
      rw [hu] at hw
      simp only at hw
      have hcs : cs.length = m * P.cellsOf e := hlen.trans hk.1
      have key := Tells.es (P := P) (W := W) (R := fun h vs => RdT P h n' e vs) grows_T (c := P.cellsOf e) (l := (List.range m).map fun i => (cs.drop (i * P.cellsOf e)).take (P.cellsOf e)) (fun cs' hm => by
        rw [List.mem_map] at hm
        obtain ⟨i, hi, rfl⟩ := hm
        rw [List.mem_range] at hi
        have h1 := hf i hi
        have hix : i < xs.length := by rw [hxl]; exact hi
        rw [List.getElem?_eq_getElem hix] at h1
        refine ⟨?_, tells_trod hcl n' _ _ _ (by simpa using hk.2) h1 (weights_all hw _ (List.mem_map.2 ⟨_, List.getElem_mem hix, rfl⟩))⟩
        rw [List.length_take, List.length_drop, hcs]
        have : (i + 1) * P.cellsOf e ≤ m * P.cellsOf e := Nat.mul_le_mul_right _ hi
        rw [Nat.succ_mul] at this
        omega)
      rw [chunks_flatten hcs, List.length_map, List.length_range] at key
      intro μ h H hn
      obtain ⟨μ', h', vs, a1, a2, a3, a4, a5, a6, a7⟩ := key μ h H hn
      exact ⟨μ', h', vs, a1, a2, a3, a4, a5, a6, by unfold RdT; rw [hu]; exact a7⟩
    · rename_i e hu
      rw [Bool.and_eq_true, decide_eq_true_eq] at hk
      rcases DataW.trod_slice hu h with ⟨rfl, _⟩ | ⟨a, len, cap, elems, rest, n', hn', rfl, rfl, _, hlc, hcm, hel, hf, hsp, _⟩
      · exact Tells.pure (v := .slice none 0 0) (fun _ => .pure rfl) rfl fun h => by unfold RdT; rw [hu]; exact .inl rfl
      obtain rfl : n' = n := by omega
      obtain ⟨hrl, hr⟩ := hsp rfl
      unfold DataW.weights at hw
      rw [hu] at hw
      simp only [List.all_cons, List.all_append, Bool.and_eq_true, decide_eq_true_eq, List.length_map] at hw
      obtain ⟨hw1, hw2, _⟩ := hw
      by_cases hcap : cap = 0
      · subst hcap
        obtain rfl : len = 0 := by omega
        exact Tells.pure (v := .slice (some ⟨0, 0, none⟩) 0 0) (fun _ => .sliceE) rfl fun h => by unfold RdT; rw [hu]; exact .inr (.inl rfl)
      have hcell : ∃ cs', W.cells? 0 (a.add 0) (P.cellsOf e) = some cs' := by
        by_cases hl0 : 0 < len
        · have := hf 0 hl0
          rw [List.getElem?_eq_getElem (by omega), Nat.zero_mul, Option.bind_eq_some_iff] at this
          obtain ⟨cs', h1, _⟩ := this
          exact ⟨cs', h1⟩
        · have := hr 0 (by omega)
          obtain rfl : len = 0 := by omega
          rw [List.getElem?_eq_getElem (by omega), Nat.zero_add, Nat.zero_mul, Option.bind_eq_some_iff] at this
          obtain ⟨cs', h1, _⟩ := this
          exact ⟨cs', h1⟩
      obtain ⟨hspot, hblk⟩ : a.spot = none ∧ a.block < W.heap.size := by
        obtain ⟨cs', h1⟩ := hcell
        obtain ⟨_, h2, h3⟩ := World.cells?_some h1
        have h4 := h3 0 hk.1
        rw [List.getElem?_eq_getElem (by omega)] at h4
        obtain ⟨ab, ao, asp⟩ := a
        cases asp with
        | none =>
          refine ⟨rfl, ?_⟩
          rcases Nat.lt_or_ge ab W.heap.size with h5 | h5
          · exact h5
          · simp [World.cell?, Addr.add, Array.getElem?_eq_none h5] at h4
        | some sp =>
          exfalso
          unfold World.cell? at h4
          split at h4
          · simp [Addr.add] at h4
          · cases h4
      obtain ⟨ab, ao, asp⟩ := a
      simp only at hspot hblk
      subst hspot
      have hget : ∀ i, i < len → ∃ cs', W.cells? 0 ⟨ab, ao + i * P.cellsOf e, none⟩ (P.cellsOf e) = some cs' ∧ ∃ y ∈ elems, DataW.trod enc P W 0 (fun _ => true) held n' e cs' = some y := fun i hi => by
        have := hf i hi
        rw [List.getElem?_eq_getElem (by omega), Option.bind_eq_some_iff] at this
        obtain ⟨cs', h1, h2⟩ := this
        rw [Addr.add_lit] at h1
        exact ⟨cs', h1, _, List.getElem_mem _, h2⟩
      have key := Tells.es (P := P) (W := W) (R := fun h vs => RdT P h n' e vs) grows_T (c := P.cellsOf e) (l := (List.range len).map fun i => (W.cells? 0 ⟨ab, ao + i * P.cellsOf e, none⟩ (P.cellsOf e)).getD []) (fun cs' hm => by
        rw [List.mem_map] at hm
        obtain ⟨i, hi, rfl⟩ := hm
        rw [List.mem_range] at hi
        obtain ⟨cs', h1, y, hy, h2⟩ := hget i hi
        rw [h1]
        exact ⟨(World.cells?_some h1).2.1, tells_trod hcl n' _ _ _ (by simpa using hk.2) h2 (weights_all hw2 _ (List.mem_map.2 ⟨_, hy, rfl⟩))⟩)
      rw [List.length_map, List.length_range] at key
      intro μ h H hn
      obtain ⟨μ', h', vs, a1, a2, a3, a4, a5, a6, a7⟩ := key μ h H hn
      have hfl := flatten_cells (W := W) (b := ab) (c := P.cellsOf e) (l := (List.range len).map fun i => (W.cells? 0 ⟨ab, ao + i * P.cellsOf e, none⟩ (P.cellsOf e)).getD []) (o := ao) (fun i cs' hi => by
        rw [List.getElem?_map] at hi
        have hil : i < len := by
          rcases Nat.lt_or_ge i len with h5 | h5
          · exact h5
          · simp [List.getElem?_eq_none (l := List.range len) (by simpa using h5)] at hi
        rw [List.getElem?_eq_getElem (by simpa using hil), Option.map_some, List.getElem_range, Option.some.injEq] at hi
        subst hi
        obtain ⟨cs', h1, _⟩ := hget i hil
        rw [h1]
        obtain ⟨_, q1, q2⟩ := World.cells?_some h1
        refine ⟨q1, fun r hr => ?_⟩
        have := q2 r hr
        rwa [Addr.add_lit] at this)
      obtain ⟨b1, b2, b3, b4⟩ := a3.addRO a4 (cells := vs) (m := ⟨ab, ao, cap * P.cellsOf e, e⟩) (fun j v hj => by
        obtain ⟨v', k1, k2⟩ := a5.get hj
        exact ⟨v', hfl j v' k1, k2⟩) a6 hblk
      refine ⟨_, _, [.slice (some ⟨h'.length, 0, some 0⟩) len len], a1.trans ⟨_, rfl⟩, a2.trans b3, b1, b2, ⟨?_, trivial⟩, rfl, ?_⟩
      · have hv := VR.slice (P := P) (c := len) (len := len) (cap := cap) (off := 0) b4 hlc hcm (by simp)
        simpa using hv
      · unfold RdT
        rw [hu]
        refine .inr (.inr ⟨h'.length, len, len, vs, rfl, ?_, by simp, a7.mono fun vs k => k.mono ⟨_, rfl⟩⟩)
        have : len * P.bytesOf e ≤ (elems.length + rest.length) * P.bytesOf e := Nat.mul_le_mul_right _ (by omega)
        omega
    · cases hk
end
end Go.Proofs.Ytnlchlnkibpkaaa.Am
