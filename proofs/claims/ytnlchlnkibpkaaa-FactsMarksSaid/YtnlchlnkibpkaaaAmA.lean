/- The abstract machine: rules for use. -/
import Derived.Test.YtnlchlnkibpkaaaAm9
namespace Go.Proofs.Ytnlchlnkibpkaaa.Am
set_option linter.unusedSimpArgs false
set_option linter.unusedVariables false
open Go.RowKit

/-! ### what holds behind code, operations, a call -/
def CW (N : Env) (c : Code) (s : St) (Q : AX → St → Prop) : Prop := ∃ e s', Ev N (.code c s e s') ∧ Q e s'
def IW (N : Env) (c : Code) (s : St) (Q : AX → St → Prop) : Prop := ∃ e s', Ev N (.iter c s e s') ∧ Q e s'
def OW (N : Env) (all : Array Oper) (l : List Oper) (s : St) (Q : St → Prop) : Prop := ∃ s', Ev N (.ops all l s s') ∧ Q s'
def FW (N : Env) (f : FuncId) (args : List Value) (h : Heap) (Q : Value → Heap → Prop) : Prop := ∃ r h', Ev N (.call f args h r h') ∧ Q r h'

def seqK (N : Env) (b : Code) (Q : AX → St → Prop) : AX → St → Prop
  | .normal, s => CW N b s Q
  | e, s => Q e s
def blkK (id : Nat) (Q : AX → St → Prop) : AX → St → Prop := fun e s => Q (e.inBlock id) s
def loopK (I : Nat → St → Prop) (n : Nat) (Q : AX → St → Prop) : AX → St → Prop
  | .normal, s => ∃ m, m < n ∧ I m s
  | e, s => Q e s

section
variable {N : Env} {s : St} {Q : AX → St → Prop}
theorem CW.mono {c : Code} {Q' : AX → St → Prop} (h : CW N c s Q) (k : ∀ e s, Q e s → Q' e s) : CW N c s Q' := let ⟨e, s', h1, h2⟩ := h; ⟨e, s', h1, k _ _ h2⟩
theorem FW.mono {f : FuncId} {args : List Value} {h : Heap} {Q Q' : Value → Heap → Prop} (hh : FW N f args h Q) (k : ∀ r h', Q r h' → Q' r h') : FW N f args h Q' := let ⟨r, h', h1, h2⟩ := hh; ⟨r, h', h1, k _ _ h2⟩
theorem cw_skip (h : Q .normal s) : CW N .skip s Q := ⟨_, _, .skip s, h⟩
theorem cw_label {l : Nat} (h : Q .normal s) : CW N (.label l) s Q := ⟨_, _, .label l s, h⟩
theorem cw_exit {id : Nat} (h : Q (.exit id) s) : CW N (.exit id) s Q := ⟨_, _, .exit id s, h⟩
theorem cw_ret (h : Q .ret s) : CW N .ret s Q := ⟨_, _, .ret s, h⟩
theorem cw_seq {a b : Code} (h : CW N a s (seqK N b Q)) : CW N (.seq a b) s Q := by
  obtain ⟨e, s1, h1, h2⟩ := h
  cases e with
  | normal => obtain ⟨e2, s2, k1, k2⟩ := h2; exact ⟨e2, s2, .seqN h1 k1, k2⟩
  | exit id => exact ⟨_, s1, .seqX h1 (by simp), h2⟩
  | ret => exact ⟨_, s1, .seqX h1 (by simp), h2⟩
theorem cw_cond {c : Operand} {x y : Code} {t : Bool} (hc : ev s c = some (.bool t)) (h1 : t = true → CW N x s Q) (h2 : t = false → CW N y s Q) : CW N (.cond c x y) s Q := by
  cases t with
  | true => obtain ⟨e, s1, k1, k2⟩ := h1 rfl; exact ⟨e, s1, .cond hc k1, k2⟩
  | false => obtain ⟨e, s1, k1, k2⟩ := h2 rfl; exact ⟨e, s1, .cond hc k1, k2⟩
theorem cw_condT {c : Operand} {x y : Code} (hc : ev s c = some (.bool true)) (h : CW N x s Q) : CW N (.cond c x y) s Q := cw_cond hc (fun _ => h) (fun h => by cases h)
theorem cw_condF {c : Operand} {x y : Code} (hc : ev s c = some (.bool false)) (h : CW N y s Q) : CW N (.cond c x y) s Q := cw_cond hc (fun h => by cases h) (fun _ => h)
theorem cw_block {id : Nat} {c : Code} (h : CW N c s (blkK id Q)) : CW N (.block id c) s Q := let ⟨_, s1, h1, h2⟩ := h; ⟨_, s1, .block h1, h2⟩
theorem cw_scope {c : Code} (h : CW N c s Q) : CW N (.scope c) s Q := let ⟨_, s1, h1, h2⟩ := h; ⟨_, s1, .scope h1, h2⟩
theorem cw_region {id : Nat} {ops : Array Oper} (h : OW N ops ops.toList { s with eph := [] } (Q .normal)) : CW N (.region id ops false) s Q := let ⟨s1, h1, h2⟩ := h; ⟨_, s1, .region h1, h2⟩
theorem cw_weak {c : Code} {fr : Fr} (hf : SubF fr s.fr) (h : CW N c ⟨fr, [], s.h⟩ Q) : CW N c s Q := let ⟨e, s1, h1, h2⟩ := h; ⟨e, s1, .weak (s0 := ⟨fr, [], s.h⟩) hf rfl rfl h1, h2⟩
theorem cw_loop {c : Code} (I : Nat → St → Prop) (n : Nat) (h0 : I n s) (hs : ∀ n s, I n s → CW N c s (loopK I n Q)) : CW N (.loop c) s Q := by
  have key : ∀ n s, I n s → IW N c s Q := by
    intro n
    induction n using Nat.strongRecOn with
    | _ n ih =>
      intro s hI
      obtain ⟨e, s1, h1, h2⟩ := hs n s hI
      cases e with
      | normal =>
        obtain ⟨m, hm, hI'⟩ := h2
        obtain ⟨e2, s2, k1, k2⟩ := ih m hm s1 hI'
        exact ⟨e2, s2, .iterN h1 k1, k2⟩
      | exit id => exact ⟨_, s1, .iterX h1 (by simp), h2⟩
      | ret => exact ⟨_, s1, .iterX h1 (by simp), h2⟩
  obtain ⟨e, s1, h1, h2⟩ := key n s h0
  exact ⟨e, s1, .loop h1, h2⟩

/-! ### a region that draws its order -/
def QW (N : Env) (all : Array Oper) (l : List Oper) (s : St) (K : St → Prop) : Prop := ∃ s', QOps N all l s s' ∧ K s'
theorem cw_regionD (n : Nat) {id : Nat} {ops : Array Oper} (hm : N.P.follows .mixedOrders = true) (hB : Region.lexTailB .any ops n = true)
    (h : QW N ops (ops.toList.take n) { s with eph := [] } fun s1 => OW N ops (ops.toList.drop n) s1 (Q .normal)) : CW N (.region id ops true) s Q := by
  obtain ⟨s1, h1, s2, h2, h3⟩ := h
  exact ⟨_, s2, .regionD hm hB h1 h2, h3⟩
def stepQ (N : Env) (all : Array Oper) (o : Oper) (s : St) : Option St :=
  match wantedA all o s with
  | none => none
  | some false => some (s.putO o.dst (.val (.tuple #[])))
  | some true => match vop N s o.op with
    | some v => some (s.putO o.dst (.val v))
    | none => match epl N s o.op, o.dst with
      | some (sl, off), some d => if sl = d then none else some { s with fr := fput s.fr d .unk, eph := (d, ([], (sl, off))) :: edrop s.eph d }
      | _, _ => none
theorem qw_nil {all : Array Oper} {K : St → Prop} (h : K s) : QW N all [] s K := ⟨_, .nil s, h⟩
theorem qw_cons {all : Array Oper} {o : Oper} {r : List Oper} {K : St → Prop} {s1 : St} (h : stepQ N all o s = some s1) (k : QW N all r s1 K) : QW N all (o :: r) s K := by
  obtain ⟨s2, k1, k2⟩ := k
  refine ⟨s2, ?_, k2⟩
  unfold stepQ at h
  split at h
  · cases h
  · rename_i hw
    cases h
    exact .skip hw k1
  · rename_i hw
    split at h
    · rename_i v hv
      cases h
      exact .val hw hv k1
    · split at h
      · rename_i sl off d he hd
        split at h
        · cases h
        · rename_i hne
          cases h
          exact .eph hw hd he hne k1
      · cases h
/-! ### frames, by their known slots -/
def SubL : Fr → Fr → Prop
  | [], _ => True
  | (k, v) :: r, f => fget f k = v ∧ SubL r f
theorem SubL.sub : ∀ {f0 f : Fr}, SubL f0 f → SubF f0 f
  | [], _, _ => fun p hp => by cases hp
  | (k, v) :: r, f, ⟨h1, h2⟩ => fun p hp => by
    rcases List.mem_cons.1 hp with rfl | hp
    · exact h1
    · exact SubL.sub h2 p hp
theorem cw_weakL {c : Code} (fr : Fr) (hf : SubL fr s.fr) (h : CW N c ⟨fr, [], s.h⟩ Q) : CW N c s Q := cw_weak hf.sub h

/-! ### single operations -/
/-- one operation that is no call and that touches the frame alone -/
def stepO (N : Env) (all : Array Oper) (o : Oper) (s : St) : Option St :=
  match wantedA all o s with
  | none => none
  | some false => some (s.putO o.dst (.val (.tuple #[])))
  | some true => match o.op, o.dst with
    | .box t x, some d => (boxC N s (.box t x)).map fun p => s.put d (.box p.2)
    | .alloc t, some d => (boxC N s (.alloc t)).map fun p => s.put d (.box p.2)
    | .buildSlice t l ps, some d => (bslC N s (.buildSlice t l ps)).map fun p => s.put d (.bsl p.2.1 p.2.2)
    | .store t a x, none => match tinfo N.P t, plc s a, ev s x with
      | some ti, some (sl, off), some v => match fget s.fr sl, vcells ti.size v with
        | .box cs, some vs => (wrC cs off vs).map fun cs' => { s with fr := fput s.fr sl (.box cs') }
        | _, _ => none
      | _, _, _ => none
    | op, d => match vop N s op with
      | some v => some (s.putO d (.val v))
      | none => match epl N s op, d with
        | some (sl, off), some d => if sl = d then none else some { s with fr := fput s.fr d .unk, eph := (d, ([], (sl, off))) :: edrop s.eph d }
        | _, _ => none
variable {all : Array Oper} {o : Oper} {r : List Oper} {K : St → Prop}
theorem ow_nil (h : K s) : OW N all [] s K := ⟨_, .nil all s, h⟩
theorem ow_cons {s1 : St} (h : stepO N all o s = some s1) (k : OW N all r s1 K) : OW N all (o :: r) s K := by
  obtain ⟨s2, k1, k2⟩ := k
  refine ⟨s2, ?_, k2⟩
  unfold stepO at h
  split at h
  · cases h
  · rename_i hw
    cases h
    exact .opSkip hw k1
  · rename_i hw
    split at h
    · rename_i t x d ho hd
      cases hb : boxC N s (.box t x) with
      | none => simp [hb] at h
      | some p =>
        simp only [hb, Option.map_some, Option.some.injEq] at h
        subst h
        exact .opBox hw hd (by rw [ho]; exact hb) k1
    · rename_i t d ho hd
      cases hb : boxC N s (.alloc t) with
      | none => simp [hb] at h
      | some p =>
        simp only [hb, Option.map_some, Option.some.injEq] at h
        subst h
        exact .opBox hw hd (by rw [ho]; exact hb) k1
    · rename_i t l ps d ho hd
      cases hb : bslC N s (.buildSlice t l ps) with
      | none => simp [hb] at h
      | some p =>
        simp only [hb, Option.map_some, Option.some.injEq] at h
        subst h
        exact .opBsl hw hd (by rw [ho]; exact hb) k1
    · rename_i t a x ho hd
      split at h
      · rename_i ti sl off v ht hp hx
        split at h
        · rename_i cs vs hb hv
          cases hq : Am.wrC cs off vs with
          | none => simp [hq] at h
          | some cs' =>
            simp only [hq, Option.map_some, Option.some.injEq] at h
            subst h
            exact .opSto hw ho ht hp hb hx hv hq hd k1
        · cases h
      · cases h
    · split at h
      · rename_i v hv
        cases h
        exact .opVal hw hv k1
      · split at h
        · rename_i sl off d he hd
          split at h
          · cases h
          · rename_i hne
            cases h
            exact .opEph hw hd he hne k1
        · cases h
/-- an operation whose guard is not decided -/
def stepS (N : Env) (all : Array Oper) (o : Oper) (s : St) : Option St :=
  match gkeys all o s, o.dst with
  | some ks, some d => match vop N (s.asm ks) o.op with
    | some v => some (s.put d (.cnd ks v))
    | none => match epl N (s.asm ks) o.op with
      | some (sl, off) => if sl = d then none else some { s with fr := fput s.fr d .unk, eph := (d, (ks, (sl, off))) :: edrop s.eph d }
      | none => none
  | _, _ => none
theorem ow_spec {s1 : St} (h : stepS N all o s = some s1) (k : OW N all r s1 K) : OW N all (o :: r) s K := by
  obtain ⟨s2, k1, k2⟩ := k
  refine ⟨s2, ?_, k2⟩
  unfold stepS at h
  split at h
  · rename_i ks d hg hd
    split at h
    · rename_i v hv
      cases h
      exact .opSpec hg hv hd k1
    · split at h
      · rename_i sl off he
        split at h
        · cases h
        · rename_i hne
          cases h
          exact .opSpecE hg he hd hne k1
      · cases h
  · cases h
theorem qw_spec {s1 : St} (h : stepS N all o s = some s1) (k : QW N all r s1 K) : QW N all (o :: r) s K := by
  obtain ⟨s2, k1, k2⟩ := k
  refine ⟨s2, ?_, k2⟩
  unfold stepS at h
  split at h
  · rename_i ks d hg hd
    split at h
    · rename_i v hv
      cases h
      exact .spec hg hv hd k1
    · split at h
      · rename_i sl off he
        split at h
        · cases h
        · rename_i hne
          cases h
          exact .specE hg he hd hne k1
      · cases h
  · cases h
theorem ow_call {c : Call} {f : FuncId} {cap args : List Value} {fn : Func} (hw : wantedA all o s = some true) (ho : o.op = .call c) (hc : calleeA s c.callee = some (f, cap)) (ha : evs s c.args.toList = some args)
    (hf : N.P.funcs[f]? = some fn) (hnm : (fn.name == "runtime.NumGoroutine") = false) (hb : fn.body.isNone = false)
    (h : FW N f (args ++ cap) s.h fun v h' => OW N all r ({ s with h := h' }.putO o.dst (.val v)) K) : OW N all (o :: r) s K := by
  obtain ⟨v, h', h1, s2, k1, k2⟩ := h
  exact ⟨s2, .opCall hw ho hc ha hf hnm hb h1 k1, k2⟩
/-! ### objects of the heap -/
theorem ow_mk {t : TypeId} {cs : List Value} {n : Nat} (hw : wantedA all o s = some true) (hm : mkC N s o.op = some (t, cs, n))
    (k : OW N all r ({ s with h := s.h ++ [HObj.arr cs 0 true t] }.putO o.dst (.val (.slice (some ⟨s.h.length, 0, some 0⟩) n n))) K) : OW N all (o :: r) s K := by
  obtain ⟨s2, k1, k2⟩ := k
  exact ⟨s2, .opMk hw hm k1, k2⟩
theorem ow_boxH {t : TypeId} {cs : List Value} (hw : wantedA all o s = some true) (hm : boxC N s o.op = some (t, cs))
    (k : OW N all r ({ s with h := s.h ++ [HObj.arr cs 0 true t] }.putO o.dst (.val (.pointer (some ⟨s.h.length, 0, some 0⟩)))) K) : OW N all (o :: r) s K := by
  obtain ⟨s2, k1, k2⟩ := k
  exact ⟨s2, .opBoxH hw hm k1, k2⟩
theorem ow_stoH {t et : TypeId} {a x : Operand} {ti : TI} {id off ver : Nat} {cells vs cells' : List Value} {v : Value} (hw : wantedA all o s = some true) (ho : o.op = .store t a x) (hd : o.dst = none) (ht : tinfo N.P t = some ti)
    (ha : ev s a = some (.pointer (some ⟨id, off, some ver⟩))) (hid : s.h[id]? = some (.arr cells ver true et)) (hx : ev s x = some v) (hv : vcells ti.size v = some vs) (hq : wrC cells off vs = some cells')
    (k : OW N all r { s with h := s.h.set id (HObj.arr cells' ver true et) } K) : OW N all (o :: r) s K := by
  obtain ⟨s2, k1, k2⟩ := k
  exact ⟨s2, .opStoH hw ho ht ha hid hx hv hq hd k1, k2⟩
theorem ow_appZ {x y : Operand} {t e : TypeId} {ti : TI} {p q : Option Addr} {n c c' : Nat} (hw : wantedA all o s = some true) (ho : o.op = .call { callee := .builtin .append, args := #[x, y], argTypes := #[t, t] }) (hu : N.P.underlying t = some (.slice e)) (ht : tinfo N.P e = some ti)
    (hx : ev s x = some (.slice p n c)) (hy : ev s y = some (.slice q 0 c')) (k : OW N all r (s.putO o.dst (.val (.slice p n c))) K) : OW N all (o :: r) s K := by
  obtain ⟨s2, k1, k2⟩ := k
  exact ⟨s2, .opAppZ hw ho hu rfl ht hx hy k1, k2⟩
theorem ow_app0 {x y : Operand} {t e : TypeId} {ti : TI} {cs : List Value} {m : Nat} (hw : wantedA all o s = some true) (ho : o.op = .call { callee := .builtin .append, args := #[x, y], argTypes := #[t, t] }) (hu : N.P.underlying t = some (.slice e)) (ht : tinfo N.P e = some ti) (hs0 : 0 < ti.size)
    (hz : (ti.zero.map fun z => z.cells.size) = some ti.size) (hx : ev s x = some (.slice none 0 0)) (hi : itemsC s s.h ti.size y = some (cs, m)) (hm : 0 < m) (hb : m * ti.bytes ≤ 140737488355328) (hmx : m ≤ 140737488355328)
    (k : OW N all r ({ s with h := s.h ++ [HObj.arr cs 0 true e] }.putO o.dst (.val (.slice (some ⟨s.h.length, 0, some 0⟩) m m))) K) : OW N all (o :: r) s K := by
  obtain ⟨s2, k1, k2⟩ := k
  exact ⟨s2, .opApp0 hw ho hu rfl ht hs0 hz hx hi hm hb hmx k1, k2⟩
theorem ow_app {x y : Operand} {t e : TypeId} {ti : TI} {cs cells : List Value} {m n c id ver : Nat} (hw : wantedA all o s = some true) (ho : o.op = .call { callee := .builtin .append, args := #[x, y], argTypes := #[t, t] }) (hu : N.P.underlying t = some (.slice e)) (ht : tinfo N.P e = some ti) (hs0 : 0 < ti.size)
    (hz : (ti.zero.map fun z => z.cells.size) = some ti.size) (hx : ev s x = some (.slice (some ⟨id, 0, some ver⟩) n c)) (hid : s.h[id]? = some (.arr cells ver true e)) (hn : n * ti.size ≤ cells.length) (hi : itemsC s s.h ti.size y = some (cs, m))
    (hb : (n + m) * ti.bytes ≤ 140737488355328) (hmx : n + m ≤ 140737488355328)
    (k : OW N all r ({ s with h := s.h.set id (HObj.arr (cells.take (n * ti.size) ++ cs) (ver + 1) true e) }.putO o.dst (.val (.slice (some ⟨id, 0, some (ver + 1)⟩) (n + m) (n + m)))) K) : OW N all (o :: r) s K := by
  obtain ⟨s2, k1, k2⟩ := k
  exact ⟨s2, .opApp hw ho hu rfl ht hs0 hz hx hid hn hi hb hmx k1, k2⟩
/-- the frame with which a call begins: its arguments -/
def argFr (args : List Value) : Fr := args.zipIdx.map fun p => (p.2, Slot.val p.1)
theorem argFr_sub {args : List Value} {n : Nat} : SubF (argFr args) (initFr args n) := by
  intro p hp
  unfold argFr at hp
  rw [List.mem_map] at hp
  obtain ⟨⟨v, i⟩, hm, rfl⟩ := hp
  have hi : i < args.length ∧ args[i]? = some v := by
    have := List.mem_zipIdx_iff_getElem?.1 hm
    exact ⟨(List.getElem?_eq_some_iff.1 this).1, this⟩
  unfold initFr
  rw [fget_init, dif_pos ⟨Nat.zero_le _, by simp only [List.length_append, Nat.sub_zero]; omega⟩]
  simp only [Nat.sub_zero]
  congr 1
  rw [List.getElem_append_left hi.1]
  exact (List.getElem?_eq_some_iff.1 hi.2).2
def retK (N : Env) (fn : Func) (K : Value → Heap → Prop) : AX → St → Prop
  | .exit _, _ => False
  | _, s => ∃ rs, resA N s fn.results.toList = some rs ∧ K (resV rs) s.h
theorem fw_enter {f : FuncId} {fn : Func} {c : Code} {args : List Value} {h : Heap} {K : Value → Heap → Prop} (hf : N.P.funcs[f]? = some fn) (hb : fn.body = some c) (hd : dstOK fn.ntmps c = true) (hl : args.length ≤ fn.ntmps)
    (k : CW N c ⟨argFr args, [], h⟩ (retK N fn K)) : FW N f args h K := by
  obtain ⟨e, s1, k1, k2⟩ := k
  have k1' : Ev N (.code c ⟨initFr args fn.ntmps, [], h⟩ e s1) := .weak (s0 := ⟨argFr args, [], h⟩) argFr_sub rfl rfl k1
  cases e with
  | normal => obtain ⟨rs, q1, q2⟩ := k2; exact ⟨_, _, .call hf hb hd hl k1' (.inl rfl) q1, q2⟩
  | ret => obtain ⟨rs, q1, q2⟩ := k2; exact ⟨_, _, .call hf hb hd hl k1' (.inr rfl) q1, q2⟩
  | exit id => exact k2.elim
end
attribute [irreducible] CW OW FW IW QW
theorem bif_or (a b : Bool) : (bif a then true else b) = (a || b) := by cases a <;> rfl
theorem bif_and (a b : Bool) : (bif a then b else false) = (a && b) := by cases a <;> rfl
theorem beq_t (a : Bool) : (a == true) = a := by cases a <;> rfl
theorem beq_f (a : Bool) : (a == false) = !a := by cases a <;> rfl
attribute [push_cast] bif_or bif_and beq_t beq_f condV pickV gkeys strip asmS asmF asmE St.asm stepS stepO stepQ wantedA vop epl boxC bslC mkC ev plc evs evParts fget fput eget edrop St.put St.putO loadV ldC ldCH ldH rdC wrC vcells pureV pure1 one Value.cells fieldAddrV indexAddrV fieldV indexV sliceV evo lenV minmaxV
  builtinV convV putParts placeA buildV binV intBin shiftBin strBin unF eq1 eqL adAdd calleeA argFr resA resV SubL isNilSl
  Option.map_some Option.map_none List.all_cons List.all_nil List.isEmpty_nil List.isEmpty_cons List.drop_zero List.drop_succ_cons List.drop_nil List.take_zero List.take_succ_cons List.take_nil
  List.getElem?_cons_zero List.getElem?_cons_succ List.getElem?_nil List.length_cons List.length_nil List.append_nil List.nil_append List.cons_append List.size_toArray List.zipIdx_cons List.zipIdx_nil List.map_cons List.map_nil
  List.getElem?_toArray List.replicate_succ List.replicate_zero List.flatten_cons List.flatten_nil
  Bool.and_true Bool.true_and Bool.and_false Bool.false_and Bool.or_true Bool.true_or Bool.or_false Bool.false_or Bool.not_true Bool.not_false Option.isNone_none Option.isNone_some decide_true decide_false
  and_self and_true true_and or_self or_true true_or and_false false_and or_false false_or not_true not_false_eq_true if_true if_false ite_true ite_false Int.toNat_natCast Nat.zero_add Nat.add_zero beq_self_eq_true
theorem wrap64_id {x : Int} (h0 : -9223372036854775808 ≤ x) (h1 : x ≤ 9223372036854775807) : IntKind.i64.wrap x = x := by rw [IntKind.wrap_i64]; omega
end Go.Proofs.Ytnlchlnkibpkaaa.Am
