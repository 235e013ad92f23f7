/- The abstract machine: regions in any order, as a rule for use; and in the executor. -/
import Derived.Test.YtnlchlnkibpkaaaAmD
namespace Go.Proofs.Ytnlchlnkibpkaaa.Am
set_option linter.unusedSimpArgs false
set_option linter.unusedVariables false
open Go.RowKit

def dstsOf (ops : Array Oper) : List Nat := ops.toList.filterMap (·.dst)
def resF (resL : List Res) (j : Nat) : Res := (resL[j]?).getD (.sl .unk)
def hpF (hs : List Heap) (k : Nat) : Heap := (hs[k]?).getD []
def ancFr (ops : Array Oper) (resL : List Res) : List Nat → Fr
  | [] => []
  | j :: l => match dstAt ops j, resL[j]? with
    | some d, some (.sl v) => (d, v) :: ancFr ops resL l
    | _, _ => ancFr ops resL l
def ancE (ops : Array Oper) (resL : List Res) : List Nat → Eph
  | [] => []
  | j :: l => match dstAt ops j, resL[j]? with
    | some d, some (.ep sl off) => (d, ([], (sl, off))) :: ancE ops resL l
    | _, _ => ancE ops resL l
def baseFr (ds : List Nat) : Fr → Fr
  | [] => []
  | (k, v) :: r => if ds.contains k then baseFr ds r else (k, v) :: baseFr ds r
def viewOf (ops : Array Oper) (L : List (List Nat)) (resL : List Res) (fr : Fr) (h : Heap) (i : Nat) : St := ⟨baseFr (dstsOf ops) fr ++ ancFr ops resL (ancs L i), ancE ops resL (ancs L i), h⟩

section
variable {N : Env} {ops : Array Oper} {L : List (List Nat)} {act : List Nat} {resL : List Res}
theorem mem_dstsOf {j d : Nat} (h : dstAt ops j = some d) : d ∈ dstsOf ops := by
  unfold dstAt at h
  split at h
  · rename_i o ho
    unfold dstsOf
    rw [List.mem_filterMap]
    exact ⟨o, Array.mem_toList_iff.2 (Array.mem_of_getElem? ho), h⟩
  · cases h
theorem fget_ancFr {x : Nat} : ∀ {l : List Nat}, fget (ancFr ops resL l) x = .unk ∨ ∃ j, dstAt ops j = some x ∧ j ∈ l ∧ resL[j]? = some (.sl (fget (ancFr ops resL l) x))
  | [] => .inl rfl
  | j :: l => by
    have ih := fget_ancFr (x := x) (l := l)
    have ih' : fget (ancFr ops resL l) x = .unk ∨ ∃ j', dstAt ops j' = some x ∧ j' ∈ j :: l ∧ resL[j']? = some (.sl (fget (ancFr ops resL l) x)) := by
      rcases ih with h | ⟨j', h1, h2, h3⟩
      · exact .inl h
      · exact .inr ⟨j', h1, List.mem_cons_of_mem _ h2, h3⟩
    simp only [ancFr]
    split
    · rename_i d v hd hr
      simp only [fget]
      split
      · rename_i hx
        subst hx
        exact .inr ⟨j, hd, List.mem_cons_self, hr⟩
      · exact ih'
    · exact ih'
theorem eget_ancE {x : Nat} {p : List Key × (Nat × Nat)} : ∀ {l : List Nat}, eget (ancE ops resL l) x = some p → ∃ j sl off, dstAt ops j = some x ∧ j ∈ l ∧ resL[j]? = some (.ep sl off) ∧ p = ([], (sl, off))
  | [], h => by cases h
  | j :: l, h => by
    have ih : eget (ancE ops resL l) x = some p → ∃ j' sl off, dstAt ops j' = some x ∧ j' ∈ j :: l ∧ resL[j']? = some (.ep sl off) ∧ p = ([], (sl, off)) := fun h => by
      obtain ⟨j', sl, off, h1, h2, h3⟩ := eget_ancE h
      exact ⟨j', sl, off, h1, List.mem_cons_of_mem _ h2, h3⟩
    simp only [ancE] at h
    split at h
    · rename_i d sl off hd hr
      simp only [eget] at h
      split at h
      · rename_i hx
        subst hx
        cases h
        exact ⟨j, sl, off, hd, List.mem_cons_self, hr, rfl⟩
      · exact ih h
    · exact ih h
theorem fget_base {ds : List Nat} {B : Fr} {x : Nat} (hx : x ∈ ds) : ∀ {fr : Fr}, fget (baseFr ds fr ++ B) x = fget B x
  | [] => rfl
  | (k, v) :: r => by
    simp only [baseFr]
    split
    · exact fget_base hx
    · rename_i hk
      have : k ≠ x := fun e => hk (by rw [e]; simpa using hx)
      simp only [List.cons_append, fget, if_neg this]
      exact fget_base hx
theorem fget_base' {ds : List Nat} {B : Fr} {x : Nat} (hx : x ∉ ds) (hB : fget B x = .unk) : ∀ {fr : Fr}, fget (baseFr ds fr ++ B) x = fget fr x
  | [] => hB
  | (k, v) :: r => by
    simp only [baseFr]
    split
    · rename_i hk
      have : k ≠ x := fun e => hx (by rw [← e]; simpa using hk)
      simp only [fget, if_neg this]
      exact fget_base' hx hB
    · simp only [List.cons_append, fget]
      split
      · rfl
      · exact fget_base' hx hB
theorem resF_some {j : Nat} {r : Res} (h : resL[j]? = some r) : resF resL j = r := by simp [resF, h]
theorem view_ok (C : Cert ops L act) {s0 : St} {h : Heap} {i : Nat} : View ops L s0 (resF resL) i (viewOf ops L resL s0.fr h i) := by
  have hf : ∀ x, fget (viewOf ops L resL s0.fr h i).fr x = .unk ∨ ((∀ j, dstAt ops j ≠ some x) ∧ fget s0.fr x = fget (viewOf ops L resL s0.fr h i).fr x) ∨ ∃ j, dstAt ops j = some x ∧ j ∈ ancs L i ∧ resF resL j = .sl (fget (viewOf ops L resL s0.fr h i).fr x) := by
    intro x
    by_cases hx : x ∈ dstsOf ops
    · simp only [viewOf, fget_base hx]
      rcases fget_ancFr (ops := ops) (resL := resL) (x := x) (l := ancs L i) with h | ⟨j, h1, h2, h3⟩
      · exact .inl h
      · exact .inr (.inr ⟨j, h1, h2, resF_some h3⟩)
    · have hB : fget (ancFr ops resL (ancs L i)) x = .unk := by
        rcases fget_ancFr (ops := ops) (resL := resL) (x := x) (l := ancs L i) with h | ⟨j, h1, _⟩
        · exact h
        · exact (hx (mem_dstsOf h1)).elim
      refine .inr (.inl ⟨fun j hj => hx (mem_dstsOf hj), ?_⟩)
      simp only [viewOf, fget_base' hx hB]
  refine ⟨hf, fun x p hp => ?_, fun x hx => ?_⟩
  · obtain ⟨j, sl, off, h1, h2, h3, h4⟩ := eget_ancE hp
    exact ⟨j, sl, off, h1, h2, resF_some h3, h4⟩
  · cases he : eget (viewOf ops L resL s0.fr h i).eph x with
    | none => rfl
    | some p =>
      obtain ⟨j, sl, off, h1, h2, h3, _⟩ := eget_ancE he
      rcases hf x with h | ⟨h, _⟩ | ⟨j', k1, k2, k3⟩
      · exact (hx h).elim
      · exact (h j h1).elim
      · obtain rfl := C.dst j j' x h1 k1
        rw [resF_some h3] at k3
        cases k3

/-! ### one operation, computed -/
def stepR (N : Env) (call : FuncId → List Value → Heap → Option (Value × Heap)) (nm : FuncId → Bool) (all : Array Oper) (o : Oper) (s : St) : Option (Res × Heap) :=
  match wantedA all o s with
  | none => none
  | some false => some (.sl (.val (.tuple #[])), s.h)
  | some true => match o.op with
    | .box t x => (boxC N s (.box t x)).map fun p => (.sl (.val (.pointer (some ⟨s.h.length, 0, some 0⟩))), s.h ++ [HObj.arr p.2 0 true p.1])
    | .alloc t => (boxC N s (.alloc t)).map fun p => (.sl (.val (.pointer (some ⟨s.h.length, 0, some 0⟩))), s.h ++ [HObj.arr p.2 0 true p.1])
    | .buildSlice t l ps => match o.dst with
      | some _ => (bslC N s (.buildSlice t l ps)).map fun p => (.sl (.bsl p.2.1 p.2.2), s.h)
      | none => none
    | .makeSlice t l c => (mkC N s (.makeSlice t l c)).map fun p => (.sl (.val (.slice (some ⟨s.h.length, 0, some 0⟩) p.2.2 p.2.2)), s.h ++ [HObj.arr p.2.1 0 true p.1])
    | .store t a x => match o.dst with
      | none => match tinfo N.P t, ev s a, ev s x with
        | some ti, some (.pointer (some ⟨id, off, some ver⟩)), some v => match s.h[id]?, vcells ti.size v with
          | some (.arr cells ver' true et), some vs => if ver' = ver then (wrC cells off vs).map fun cells' => (.sl .unk, s.h.set id (HObj.arr cells' ver true et)) else none
          | _, _ => none
        | _, _, _ => none
      | some _ => none
    | .call c => match c.callee with
      | .builtin .append => match c.args.toList, c.argTypes.toList with
        | [x, y], [t, t2] => match N.P.underlying t with
          | some (.slice e) => match tinfo N.P e with
            | some ti => if t2 = t ∧ 0 < ti.size ∧ (ti.zero.map fun z => z.cells.size) = some ti.size then (match itemsC s s.h ti.size y with
              | some (cs, m) => match ev s x with
                | some (.slice none 0 0) => if 0 < m ∧ m * ti.bytes ≤ 140737488355328 ∧ m ≤ 140737488355328 then some (.sl (.val (.slice (some ⟨s.h.length, 0, some 0⟩) m m)), s.h ++ [HObj.arr cs 0 true e]) else none
                | some (.slice (some ⟨id, 0, some ver⟩) n _) => match s.h[id]? with
                  | some (.arr cells ver' true et) => if ver' = ver ∧ et = e ∧ n * ti.size ≤ cells.length ∧ (n + m) * ti.bytes ≤ 140737488355328 ∧ n + m ≤ 140737488355328 then
                      some (.sl (.val (.slice (some ⟨id, 0, some (ver + 1)⟩) (n + m) (n + m))), s.h.set id (HObj.arr (cells.take (n * ti.size) ++ cs) (ver + 1) true e)) else none
                  | _ => none
                | _ => none
              | none => none) else none
            | none => none
          | _ => none
        | _, _ => none
      | .builtin _ => (vop N s o.op).map fun v => (.sl (.val v), s.h)
      | cal => match calleeA s cal, evs s c.args.toList with
        | some (f, cap), some args => if nm f then (match call f (args ++ cap) s.h with
          | some (v, h') => some (.sl (.val v), h')
          | none => none) else none
        | _, _ => none
    | _ => match vop N s o.op with
      | some v => some (.sl (.val v), s.h)
      | none => match epl N s o.op, o.dst with
        | some (sl, off), some d => if sl = d then none else some (.ep sl off, s.h)
        | _, _ => none
variable {call : FuncId → List Value → Heap → Option (Value × Heap)} {nm : FuncId → Bool}
theorem one_of (hC : CallOK N call) (hn : NmOK N nm) {all : Array Oper} {o : Oper} {s : St} {r : Res} {h' : Heap} (h : stepR N call nm all o s = some (r, h')) : One N all o s r h' := by
  unfold stepR at h
  split at h
  · cases h
  · rename_i hw
    cases h
    exact .skip hw
  · rename_i hw
    split at h
    · rename_i t x ho
      cases hb : boxC N s (.box t x) with
      | none => simp [hb] at h
      | some p =>
        simp only [hb, Option.map_some, Option.some.injEq, Prod.mk.injEq] at h
        obtain ⟨rfl, rfl⟩ := h
        exact .boxH hw (by rw [ho]; exact hb)
    · rename_i t ho
      cases hb : boxC N s (.alloc t) with
      | none => simp [hb] at h
      | some p =>
        simp only [hb, Option.map_some, Option.some.injEq, Prod.mk.injEq] at h
        obtain ⟨rfl, rfl⟩ := h
        exact .boxH hw (by rw [ho]; exact hb)
    · rename_i t l ps ho
      split at h
      · rename_i d hd
        cases hb : bslC N s (.buildSlice t l ps) with
        | none => simp [hb] at h
        | some p =>
          simp only [hb, Option.map_some, Option.some.injEq, Prod.mk.injEq] at h
          obtain ⟨rfl, rfl⟩ := h
          exact .bsl hw hd (by rw [ho]; exact hb)
      · cases h
    · rename_i t l c ho
      cases hb : mkC N s (.makeSlice t l c) with
      | none => simp [hb] at h
      | some p =>
        simp only [hb, Option.map_some, Option.some.injEq, Prod.mk.injEq] at h
        obtain ⟨rfl, rfl⟩ := h
        exact .mk hw (by rw [ho]; exact hb)
    · rename_i t a x ho
      split at h
      · rename_i hd
        split at h
        · rename_i ti id off ver v ht ha hx
          split at h
          · rename_i cells ver' et vs hid hv
            split at h
            · rename_i hver
              subst hver
              cases hq : Am.wrC cells off vs with
              | none => simp [hq] at h
              | some cells' =>
                simp only [hq, Option.map_some, Option.some.injEq, Prod.mk.injEq] at h
                obtain ⟨rfl, rfl⟩ := h
                exact .stoH hw ho ht ha hid hx hv hq hd
            · cases h
          · cases h
        · cases h
      · cases h
    · rename_i c ho
      split at h
      · rename_i hc
        split at h
        · rename_i x y t t2 hx ht
          have ho' : o.op = .call { callee := .builtin .append, args := #[x, y], argTypes := #[t, t2] } := by
            rw [ho]
            cases c with
            | mk cal a ty =>
              simp only at hc hx ht
              subst hc
              rw [show a = #[x, y] from Array.toList_inj.1 hx, show ty = #[t, t2] from Array.toList_inj.1 ht]
          split at h
          · rename_i e hu
            split at h
            · rename_i ti hti
              split at h
              · rename_i hq
                obtain ⟨q1, q2, q3⟩ := hq
                split at h
                · rename_i cs m hi
                  split at h
                  · rename_i hv
                    split at h
                    · rename_i hm
                      cases h
                      exact .app0 hw ho' hu q1 hti q2 q3 hv hi hm.1 hm.2.1 hm.2.2
                    · cases h
                  · rename_i id ver n cp hv
                    split at h
                    · rename_i cells ver' et hid
                      split at h
                      · rename_i hm
                        obtain ⟨rfl, rfl, m1, m2, m3⟩ := hm
                        cases h
                        exact .app hw ho' hu q1 hti q2 q3 hv hid m1 hi m2 m3
                      · cases h
                    · cases h
                  · cases h
                · cases h
              · cases h
            · cases h
          · cases h
        · cases h
      · rename_i b hb
        cases hv : vop N s o.op with
        | none => simp [hv] at h
        | some v =>
          simp only [hv, Option.map_some, Option.some.injEq, Prod.mk.injEq] at h
          obtain ⟨rfl, rfl⟩ := h
          exact .val hw hv
      · split at h
        · rename_i f cap args hcal hargs
          split at h
          · rename_i hnm
            split at h
            · rename_i v h' hcall
              cases h
              obtain ⟨⟨fn, h1, h2⟩, h3⟩ := hC _ _ _ _ _ hcall
              exact .call hw ho hcal hargs h1 (hn _ _ hnm h1) h2 h3
            · cases h
          · cases h
        · cases h
    · split at h
      · rename_i v hv
        cases h
        exact .val hw hv
      · split at h
        · rename_i sl off d he hd
          split at h
          · cases h
          · rename_i hne
            cases h
            exact .eph hw hd he hne
        · cases h

/-! ### the rule -/
def StageOK (N : Env) (ops : Array Oper) (L : List (List Nat)) (act : List Nat) (resL : List Res) (hs : List Heap) (fr : Fr) (i : Nat) (o : Oper) : List Nat → Prop
  | [] => True
  | k :: l => (stageB L act i k = true → One N ops o (viewOf ops L resL fr (hpF hs k) i) (resF resL i) (hpF hs (if i ∈ act then k + 1 else k))) ∧ StageOK N ops L act resL hs fr i o l
def StepsOK (N : Env) (ops : Array Oper) (L : List (List Nat)) (act : List Nat) (resL : List Res) (hs : List Heap) (fr : Fr) : Nat → List Oper → Prop
  | _, [] => True
  | i, o :: l => StageOK N ops L act resL hs fr i o (List.range (act.length + 1)) ∧ StepsOK N ops L act resL hs fr (i + 1) l
theorem StageOK.at {hs : List Heap} {fr : Fr} {i : Nat} {o : Oper} : ∀ {l : List Nat} {k : Nat}, StageOK N ops L act resL hs fr i o l → k ∈ l → stageB L act i k = true →
    One N ops o (viewOf ops L resL fr (hpF hs k) i) (resF resL i) (hpF hs (if i ∈ act then k + 1 else k))
  | [], _, _, h => by cases h
  | k' :: l, k, ⟨h1, h2⟩, h => by
    rcases List.mem_cons.1 h with rfl | h
    · exact h1
    · exact StageOK.at h2 h
theorem StepsOK.at {hs : List Heap} {fr : Fr} : ∀ {l : List Oper} {i j : Nat} {o : Oper}, StepsOK N ops L act resL hs fr i l → l[j]? = some o → StageOK N ops L act resL hs fr (i + j) o (List.range (act.length + 1))
  | [], _, _, _, _, h => by simp at h
  | o' :: l, i, 0, o, ⟨h1, _⟩, h => by
    simp only [List.getElem?_cons_zero, Option.some.injEq] at h
    exact h ▸ h1
  | o' :: l, i, j + 1, o, ⟨_, h2⟩, h => by
    have := StepsOK.at h2 (by simpa using h)
    rwa [show i + 1 + j = i + (j + 1) by omega] at this
def tgtB (ops : Array Oper) (resL : List Res) : Bool := resL.all fun r => match r with
  | .ep sl _ => !(dstsOf ops).contains sl
  | _ => true
def FinOK (ops : Array Oper) (resL : List Res) (fr : Fr) : Fr → Prop
  | [] => True
  | (x, v) :: r => ((x ∉ dstsOf ops ∧ fget fr x = v) ∨ fget (ancFr ops resL (List.range ops.size)) x = v ∧ v ≠ .unk) ∧ FinOK ops resL fr r
theorem FinOK.at {fr : Fr} : ∀ {frF : Fr} {p : Nat × Slot}, FinOK ops resL fr frF → p ∈ frF → ((∀ j, dstAt ops j ≠ some p.1) ∧ fget fr p.1 = p.2) ∨ ∃ j, dstAt ops j = some p.1 ∧ resF resL j = .sl p.2
  | [], p, _, h => by cases h
  | (x, v) :: r, p, ⟨h1, h2⟩, h => by
    rcases List.mem_cons.1 h with rfl | h
    · rcases h1 with ⟨h3, h4⟩ | ⟨h3, h4⟩
      · exact .inl ⟨fun j hj => h3 (mem_dstsOf hj), h4⟩
      · rcases fget_ancFr (ops := ops) (resL := resL) (x := x) (l := List.range ops.size) with h | ⟨j, k1, _, k3⟩
        · exact (h4 (h3.symm.trans h)).elim
        · exact .inr ⟨j, k1, by rw [resF_some k3, h3]⟩
    · exact FinOK.at h2 h
theorem ev_orderL {id : Nat} {s : St} {hs : List Heap} {frF : Fr} (hm : N.P.follows .mixedOrders = true) (hc : ordB ops L act = true) (ha : act.all (fun a => decide (a < ops.size)) = true) (ht : tgtB ops resL = true) (h0 : s.h = hpF hs 0)
    (hS : StepsOK N ops L act resL hs s.fr 0 ops.toList) (hF : FinOK ops resL s.fr frF) : Ev N (.code (.region id ops true) s .normal ⟨frF, [], hpF hs act.length⟩) := by
  have C := ordB_cert hc
  refine ev_order (res := resF resL) (Hs := hpF hs) hm C ?_ ?_ (fun a h => by simpa using List.all_eq_true.1 ha a h) h0 fun p hp => hF.at hp
  · intro j sl off hr i hi
    unfold resF at hr
    cases hj : resL[j]? with
    | none => simp [hj] at hr
    | some r =>
      simp only [hj, Option.getD_some] at hr
      have := List.all_eq_true.1 ht r (List.mem_of_getElem? hj)
      rw [hr] at this
      simp only [Bool.not_eq_true', List.contains_eq_mem, decide_eq_false_iff_not] at this
      exact this (mem_dstsOf hi)
  · intro i o k ho hk hst
    have h1 := StepsOK.at (j := i) hS (by simpa using ho)
    rw [Nat.zero_add] at h1
    exact ⟨_, view_ok C, rfl, h1.at (List.mem_range.2 (by omega)) hst⟩
end
end Go.Proofs.Ytnlchlnkibpkaaa.Am
