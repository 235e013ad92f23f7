/- The abstract machine, run: what is closed is evaluated by the kernel. Objects all lie in the heap here. Then the rules for objects of the heap. -/
import Derived.Test.YtnlchlnkibpkaaaAmA
namespace Go.Proofs.Ytnlchlnkibpkaaa.Am
set_option linter.unusedSimpArgs false
set_option linter.unusedVariables false
open Go.RowKit

section
variable (N : Env) (call : FuncId → List Value → Heap → Option (Value × Heap)) (nm : FuncId → Bool) (dr : Array Oper → St → Option St)
def newObj (s : St) (d : Option Nat) (t : TypeId) (cs : List Value) (v : Addr → Value) : St := { s with h := s.h ++ [HObj.arr cs 0 true t] }.putO d (.val (v ⟨s.h.length, 0, some 0⟩))
def appX (s : St) (d : Option Nat) (x y : Operand) (t t2 : TypeId) : Option St :=
  match N.P.underlying t with
  | some (.slice e) => match tinfo N.P e with
    | some ti => if t2 = t ∧ 0 < ti.size ∧ (ti.zero.map fun z => z.cells.size) = some ti.size then (match itemsC s s.h ti.size y with
      | some (cs, m) => match ev s x with
        | some (.slice none 0 0) => if 0 < m ∧ m * ti.bytes ≤ 140737488355328 ∧ m ≤ 140737488355328 then some ({ s with h := s.h ++ [HObj.arr cs 0 true e] }.putO d (.val (.slice (some ⟨s.h.length, 0, some 0⟩) m m))) else none
        | some (.slice (some ⟨id, 0, some ver⟩) n _) => match s.h[id]? with
          | some (.arr cells ver' true et) => if ver' = ver ∧ et = e ∧ n * ti.size ≤ cells.length ∧ (n + m) * ti.bytes ≤ 140737488355328 ∧ n + m ≤ 140737488355328 then
              some ({ s with h := s.h.set id (HObj.arr (cells.take (n * ti.size) ++ cs) (ver + 1) true e) }.putO d (.val (.slice (some ⟨id, 0, some (ver + 1)⟩) (n + m) (n + m)))) else none
          | _ => none
        | _ => none
      | none => none) else none
    | none => none
  | _ => none
def stoX (s : St) (t : TypeId) (a x : Operand) : Option St :=
  match tinfo N.P t, ev s a, ev s x with
  | some ti, some (.pointer (some ⟨id, off, some ver⟩)), some v => match s.h[id]?, vcells ti.size v with
    | some (.arr cells ver' true et), some vs => if ver' = ver then (wrC cells off vs).map fun cells' => { s with h := s.h.set id (HObj.arr cells' ver true et) } else none
    | _, _ => none
  | _, _, _ => none
def stepX (all : Array Oper) (o : Oper) (s : St) : Option St :=
  match wantedA all o s with
  | none => none
  | some false => some (s.putO o.dst (.val (.tuple #[])))
  | some true => match o.op with
    | .box t x => (boxC N s (.box t x)).map fun p => newObj s o.dst p.1 p.2 fun a => .pointer (some a)
    | .alloc t => (boxC N s (.alloc t)).map fun p => newObj s o.dst p.1 p.2 fun a => .pointer (some a)
    | .buildSlice t l ps => (bslC N s (.buildSlice t l ps)).map fun p => newObj s o.dst p.1 p.2.1 fun a => .slice (some a) p.2.2 p.2.2
    | .makeSlice t l c => (mkC N s (.makeSlice t l c)).map fun p => newObj s o.dst p.1 p.2.1 fun a => .slice (some a) p.2.2 p.2.2
    | .store t a x => if o.dst = none then stoX N s t a x else none
    | .call c => match c.callee with
      | .builtin .append => match c.args.toList, c.argTypes.toList with
        | [x, y], [t, t2] => appX N s o.dst x y t t2
        | _, _ => none
      | .builtin _ => (vop N s o.op).map fun v => s.putO o.dst (.val v)
      | cal => match calleeA s cal, evs s c.args.toList with
        | some (f, cap), some args => if nm f then (match call f (args ++ cap) s.h with
          | some (v, h') => some ({ s with h := h' }.putO o.dst (.val v))
          | none => none) else none
        | _, _ => none
    | _ => (vop N s o.op).map fun v => s.putO o.dst (.val v)
def opsX (all : Array Oper) : List Oper → St → Option St
  | [], s => some s
  | o :: r, s => match stepX N call nm all o s with
    | some s1 => opsX all r s1
    | none => none
def opsQ (all : Array Oper) : List Oper → St → Option St
  | [], s => some s
  | o :: r, s => match stepQ N all o s with
    | some s1 => opsQ all r s1
    | none => none
def cutX (ops : Array Oper) : Nat := ((List.range ops.size).find? fun n => Region.lexTailB .any ops n).getD 0
def codeX : Nat → Code → St → Option (AX × St)
  | 0, _, _ => none
  | n + 1, c, s => match c with
    | .skip => some (.normal, s)
    | .label _ => some (.normal, s)
    | .exit id => some (.exit id, s)
    | .ret => some (.ret, s)
    | .seq a b => match codeX n a s with
      | some (.normal, s1) => codeX n b s1
      | r => r
    | .cond c x y => match ev s c with
      | some (.bool true) => codeX n x s
      | some (.bool false) => codeX n y s
      | _ => none
    | .block id c => match codeX n c s with
      | some (e, s1) => some (e.inBlock id, s1)
      | none => none
    | .scope c => codeX n c s
    | .loop c => match codeX n c s with
      | some (.normal, s1) => codeX n (.loop c) s1
      | r => r
    | .region _ ops false => match opsX N call nm ops ops.toList { s with eph := [] } with
      | some s1 => some (.normal, s1)
      | none => none
    | .region _ ops true => match dr ops s with
      | some s1 => some (.normal, s1)
      | none => none
    | _ => none
end
section
variable {N : Env} {call : FuncId → List Value → Heap → Option (Value × Heap)} {nm : FuncId → Bool}
def CallOK (N : Env) (call : FuncId → List Value → Heap → Option (Value × Heap)) : Prop := ∀ f a h r h', call f a h = some (r, h') → (∃ fn, N.P.funcs[f]? = some fn ∧ fn.body.isNone = false) ∧ Ev N (.call f a h r h')
def NmOK (N : Env) (nm : FuncId → Bool) : Prop := ∀ f fn, nm f = true → N.P.funcs[f]? = some fn → (fn.name == "runtime.NumGoroutine") = false
theorem appX_sound {all : Array Oper} {o : Oper} {r : List Oper} {s s1 s2 : St} {x y : Operand} {t t2 : TypeId} {c : Call} (hw : wantedA all o s = some true) (ho : o.op = .call c) (hc : c.callee = .builtin .append)
    (hx : c.args.toList = [x, y]) (ht : c.argTypes.toList = [t, t2]) (h : appX N s o.dst x y t t2 = some s1) (k : Ev N (.ops all r s1 s2)) : Ev N (.ops all (o :: r) s s2) := by
  have ho' : o.op = .call { callee := .builtin .append, args := #[x, y], argTypes := #[t, t2] } := by
    rw [ho]
    cases c with
    | mk cal a ty =>
      simp only at hc hx ht
      subst hc
      rw [show a = #[x, y] from Array.toList_inj.1 hx, show ty = #[t, t2] from Array.toList_inj.1 ht]
  unfold appX at h
  split at h
  · rename_i e hu
    split at h
    · rename_i ti hti
      split at h
      · rename_i hq
        obtain ⟨q1, q2, q3⟩ := hq
        split at h
        · rename_i cs m hi
          split at h
          · rename_i hv
            split at h
            · rename_i hm
              cases h
              exact .opApp0 hw ho' hu q1 hti q2 q3 hv hi hm.1 hm.2.1 hm.2.2 k
            · cases h
          · rename_i id ver n cp hv
            split at h
            · rename_i cells ver' et hid
              split at h
              · rename_i hm
                obtain ⟨rfl, rfl, m1, m2, m3⟩ := hm
                cases h
                exact .opApp hw ho' hu q1 hti q2 q3 hv hid m1 hi m2 m3 k
              · cases h
            · cases h
          · cases h
        · cases h
      · cases h
    · cases h
  · cases h
theorem newObj_box {all : Array Oper} {o : Oper} {r : List Oper} {s s1 s2 : St} (hw : wantedA all o s = some true) (h : ((boxC N s o.op).map fun p => newObj s o.dst p.1 p.2 fun a => .pointer (some a)) = some s1) (k : Ev N (.ops all r s1 s2)) : Ev N (.ops all (o :: r) s s2) := by
  cases hb : boxC N s o.op with
  | none => simp [hb] at h
  | some p =>
    simp only [hb, Option.map_some, Option.some.injEq] at h
    subst h
    exact .opBoxH hw hb k
theorem stepX_sound (hC : CallOK N call) (hn : NmOK N nm) {all : Array Oper} {o : Oper} {r : List Oper} {s s1 s2 : St} (h : stepX N call nm all o s = some s1) (k : Ev N (.ops all r s1 s2)) : Ev N (.ops all (o :: r) s s2) := by
  unfold stepX at h
  split at h
  · cases h
  · rename_i hw
    cases h
    exact .opSkip hw k
  · rename_i hw
    split at h
    · rename_i t x ho
      exact newObj_box hw (by rw [ho]; exact h) k
    · rename_i t ho
      exact newObj_box hw (by rw [ho]; exact h) k
    · rename_i t l ps ho
      cases hb : bslC N s (.buildSlice t l ps) with
      | none => simp [hb] at h
      | some p =>
        simp only [hb, Option.map_some, Option.some.injEq] at h
        subst h
        exact .opBslH hw (by rw [ho]; exact hb) k
    · rename_i t l c ho
      cases hb : mkC N s (.makeSlice t l c) with
      | none => simp [hb] at h
      | some p =>
        simp only [hb, Option.map_some, Option.some.injEq] at h
        subst h
        exact .opMk hw (by rw [ho]; exact hb) k
    · rename_i t a x ho
      split at h
      · rename_i hd
        unfold stoX at h
        split at h
        · rename_i ti id off ver v ht ha hx
          split at h
          · rename_i cells ver' et vs hid hv
            split at h
            · rename_i hver
              subst hver
              cases hq : Am.wrC cells off vs with
              | none => simp [hq] at h
              | some cells' =>
                simp only [hq, Option.map_some, Option.some.injEq] at h
                subst h
                exact .opStoH hw ho ht ha hid hx hv hq hd k
            · cases h
          · cases h
        · cases h
      · cases h
    · rename_i c ho
      split at h
      · rename_i hc
        split at h
        · rename_i x y t t2 hx ht
          exact appX_sound hw ho hc hx ht h k
        · cases h
      · rename_i b hb
        cases hv : vop N s o.op with
        | none => simp [hv] at h
        | some v =>
          simp only [hv, Option.map_some, Option.some.injEq] at h
          subst h
          exact .opVal hw hv k
      · split at h
        · rename_i f cap args hcal hargs
          split at h
          · rename_i hnm
            split at h
            · rename_i v h' hcall
              cases h
              obtain ⟨⟨fn, h1, h2⟩, h3⟩ := hC _ _ _ _ _ hcall
              exact .opCall hw ho hcal hargs h1 (hn _ _ hnm h1) h2 h3 k
            · cases h
          · cases h
        · cases h
    · cases hv : vop N s o.op with
      | none => simp [hv] at h
      | some v =>
        simp only [hv, Option.map_some, Option.some.injEq] at h
        subst h
        exact .opVal hw hv k
theorem opsX_sound (hC : CallOK N call) (hn : NmOK N nm) {all : Array Oper} : ∀ {l : List Oper} {s s1 : St}, opsX N call nm all l s = some s1 → Ev N (.ops all l s s1)
  | [], s, s1, h => by
    cases h
    exact .nil all s
  | o :: r, s, s1, h => by
    simp only [opsX] at h
    split at h
    · rename_i s2 h2
      exact stepX_sound hC hn h2 (opsX_sound hC hn h)
    · cases h
theorem qw_consE {all : Array Oper} {o : Oper} {r : List Oper} {K : St → Prop} {s s1 : St} (h : stepQ N all o s = some s1) (k : ∃ s', QOps N all r s1 s' ∧ K s') : ∃ s', QOps N all (o :: r) s s' ∧ K s' := by
  have := @qw_cons N s all o r K s1 h
  simp only [QW] at this
  exact this k
theorem loop_cons {c : Code} {s s1 s2 : St} {e : AX} (h : Ev N (.code c s .normal s1)) (k : Ev N (.code (.loop c) s1 e s2)) : Ev N (.code (.loop c) s e s2) := by
  refine .loop (.iterN h ?_)
  clear h
  generalize hj : Judg.code (.loop c) s1 e s2 = j at k
  induction k generalizing s1 with
  | loop h3 => cases hj; exact h3
  | weak a b c h3 ih => cases hj; exact .weakI a b c (ih rfl)
  | _ => cases hj
theorem opsQ_sound {all : Array Oper} : ∀ {l : List Oper} {s s1 : St}, opsQ N all l s = some s1 → QOps N all l s s1
  | [], s, s1, h => by
    cases h
    exact .nil s
  | o :: r, s, s1, h => by
    simp only [opsQ] at h
    split at h
    · rename_i s2 h2
      obtain ⟨s3, k1, rfl⟩ := qw_consE (K := fun x => x = s1) h2 ⟨s1, opsQ_sound h, rfl⟩
      exact k1
    · cases h
def DrOK (N : Env) (dr : Array Oper → St → Option St) : Prop := ∀ id ops s s1, dr ops s = some s1 → Ev N (.code (.region id ops true) s .normal s1)
theorem codeX_sound {dr : Array Oper → St → Option St} (hm : DrOK N dr) (hC : CallOK N call) (hn : NmOK N nm) : ∀ {n : Nat} {c : Code} {s s1 : St} {e : AX}, codeX N call nm dr n c s = some (e, s1) → Ev N (.code c s e s1)
  | 0, _, _, _, _, h => by cases h
  | n + 1, c, s, s1, e, h => by
    unfold codeX at h
    split at h
    · cases h; exact .skip _
    · cases h; exact .label _ _
    · cases h; exact .exit _ _
    · cases h; exact .ret _
    · split at h
      · rename_i s2 h2
        exact .seqN (codeX_sound hm hC hn h2) (codeX_sound hm hC hn h)
      · rename_i h2
        exact .seqX (codeX_sound hm hC hn h) (by rintro rfl; exact h2 _ h)
    · split at h
      · rename_i hc
        exact .cond hc (codeX_sound hm hC hn h)
      · rename_i hc
        exact .cond hc (codeX_sound hm hC hn h)
      · cases h
    · split at h
      · rename_i e s2 h2
        cases h
        exact .block (codeX_sound hm hC hn h2)
      · cases h
    · exact .scope (codeX_sound hm hC hn h)
    · split at h
      · rename_i s2 h2
        have := codeX_sound hm hC hn h
        cases this with
        | loop h3 => exact .loop (.iterN (codeX_sound hm hC hn h2) h3)
        | weak a b c h3 =>
          exact loop_cons (codeX_sound hm hC hn h2) (.weak a b c h3)
      · rename_i h2
        exact .loop (.iterX (codeX_sound hm hC hn h) (by rintro rfl; exact h2 _ h))
    · split at h
      · rename_i s2 h2
        cases h
        exact .region (opsX_sound hC hn h2)
      · cases h
    · split at h
      · rename_i s2 h2
        cases h
        exact hm _ _ _ _ h2
      · cases h
    · cases h
end
end Go.Proofs.Ytnlchlnkibpkaaa.Am
