/- The abstract machine: what is known of a state may grow; regions whose operations go in any order. -/
import Derived.Test.YtnlchlnkibpkaaaAmB
namespace Go.Proofs.Ytnlchlnkibpkaaa.Am
set_option linter.unusedSimpArgs false
set_option linter.unusedVariables false
open Go.RowKit

structure SubS (s0 s : St) : Prop where
  h : s0.h = s.h
  f : ∀ t, fget s0.fr t = .unk ∨ fget s.fr t = fget s0.fr t
  e : ∀ t p, eget s0.eph t = some p → eget s.eph t = some p
  n : ∀ t, fget s0.fr t ≠ .unk → eget s.eph t = eget s0.eph t
section
variable {N : Env} {s0 s : St}
theorem SubS.fg (H : SubS s0 s) {t : Nat} {sl : Slot} (h : fget s0.fr t = sl) (hn : sl ≠ .unk) : fget s.fr t = sl := by
  rcases H.f t with h1 | h1
  · exact (hn (h.symm.trans h1)).elim
  · exact h1.trans h
theorem ev_mono (H : SubS s0 s) {x : Operand} {v : Value} (h : ev s0 x = some v) : ev s x = some v := by
  cases x with
  | tmp t =>
    simp only [ev] at h ⊢
    split at h
    · rename_i u hu
      rw [H.fg hu (by simp)]
      exact h
    · cases h
  | const k => exact h
  | func f => exact h
  | global g => exact h
theorem plc_mono (H : SubS s0 s) {x : Operand} {p : Nat × Nat} (h : plc s0 x = some p) : plc s x = some p := by
  cases x with
  | tmp t =>
    simp only [plc] at h ⊢
    split at h
    · rename_i q hq
      rw [H.e _ _ hq]
      exact h
    · cases h
    · rename_i hq
      split at h
      · rename_i cs hb
        rw [H.n t (by rw [hb]; simp), hq, H.fg hb (by simp)]
        exact h
      · cases h
  | const k => exact h
  | func f => exact h
  | global g => exact h
theorem plc_same (H : SubS s0 s) {x : Operand} {v : Value} (h : ev s0 x = some v) : plc s x = plc s0 x := by
  cases x with
  | tmp t =>
    simp only [ev] at h
    split at h
    · rename_i u hu
      simp only [plc, H.n t (by rw [hu]; simp), H.fg hu (by simp), hu]
    · cases h
  | const k => rfl
  | func f => rfl
  | global g => rfl
theorem evs_mono (H : SubS s0 s) : ∀ {l : List Operand} {v : List Value}, evs s0 l = some v → evs s l = some v
  | [], _, h => h
  | x :: r, v, h => by
    simp only [evs] at h ⊢
    split at h
    · rename_i a b h1 h2
      rw [ev_mono H h1, evs_mono H h2]
      exact h
    · cases h
theorem evParts_mono (H : SubS s0 s) : ∀ {l : List (Nat × Operand)} {v : List (Nat × Value)}, evParts s0 l = some v → evParts s l = some v
  | [], _, h => h
  | (i, x) :: r, v, h => by
    simp only [evParts] at h ⊢
    split at h
    · rename_i a b h1 h2
      rw [ev_mono H h1, evParts_mono H h2]
      exact h
    · cases h
theorem evo_mono (H : SubS s0 s) {d : Int} {x : Option Operand} {v : Int} (h : evo s0 d x = some v) : evo s d x = some v := by
  cases x with
  | none => exact h
  | some x =>
    simp only [evo] at h ⊢
    split at h
    · rename_i k n h1
      rw [ev_mono H h1]
      exact h
    · cases h
theorem box_mono (H : SubS s0 s) {t : Nat} {cs : List Value} (h : fget s0.fr t = .box cs) : fget s.fr t = .box cs := H.fg h (by simp)
theorem loadV_mono (H : SubS s0 s) {t : TypeId} {a : Operand} {v : Value} (h : loadV N s0 t a = some v) : loadV N s t a = some v := by
  unfold loadV at h ⊢
  split at h
  · cases h
  · rename_i ti hti
    split at h
    · rename_i sl off hp
      rw [plc_mono H hp]
      simp only
      split at h
      · rename_i cs hb
        rw [box_mono H hb]
        exact h
      · cases h
    · rename_i hp
      split at h
      · rename_i ad he
        rw [plc_same H he, hp, ev_mono H he, ← H.h]
        exact h
      · cases h
theorem fieldAddrV_mono (H : SubS s0 s) {t : TypeId} {x : Operand} {f : Nat} {v : Value} (h : fieldAddrV N s0 t x f = some v) : fieldAddrV N s t x f = some v := by
  unfold fieldAddrV at h ⊢
  split at h
  · rename_i h1 h2
    rw [h1, ev_mono H h2]
    exact h
  · cases h
theorem indexAddrV_mono (H : SubS s0 s) {t : TypeId} {x i : Operand} {v : Value} (h : indexAddrV N s0 t x i = some v) : indexAddrV N s t x i = some v := by
  unfold indexAddrV at h ⊢
  split at h
  · rename_i h1 h2 h3
    rw [h1, ev_mono H h2, ev_mono H h3]
    exact h
  · rename_i h1 h2 h3
    rw [h1, ev_mono H h2, ev_mono H h3]
    exact h
  · cases h
theorem fieldV_mono (H : SubS s0 s) {t : TypeId} {x : Operand} {f : Nat} {v : Value} (h : fieldV N s0 t x f = some v) : fieldV N s t x f = some v := by
  unfold fieldV at h ⊢
  split at h
  · rename_i h1 h2
    rw [h1, ev_mono H h2]
    exact h
  · cases h
theorem indexV_mono (H : SubS s0 s) {t : TypeId} {x i : Operand} {v : Value} (h : indexV N s0 t x i = some v) : indexV N s t x i = some v := by
  unfold indexV at h ⊢
  split at h
  · rename_i h1 h2 h3
    rw [h1, ev_mono H h2, ev_mono H h3]
    exact h
  · rename_i h1 h2 h3
    rw [h1, ev_mono H h2, ev_mono H h3]
    exact h
  · cases h
theorem sliceV_mono (H : SubS s0 s) {t : TypeId} {x : Operand} {lo hi : Option Operand} {v : Value} (h : sliceV N s0 t x lo hi = some v) : sliceV N s t x lo hi = some v := by
  unfold sliceV at h ⊢
  split at h
  · rename_i h1 h2
    rw [h1, ev_mono H h2]
    simp only
    split at h
    · rename_i h3 h4 h5
      rw [h3, evo_mono H h4, evo_mono H h5, ← H.h]
      exact h
    · cases h
  · rename_i h1 h2
    rw [h1, ev_mono H h2]
    simp only
    split at h
    · rename_i h3 h4
      rw [evo_mono H h3, evo_mono H h4]
      exact h
    · cases h
  · cases h
theorem buildV_mono (H : SubS s0 s) {t : TypeId} {ps : Array (Nat × Operand)} {v : Value} (h : buildV N s0 t ps = some v) : buildV N s t ps = some v := by
  unfold buildV at h ⊢
  split at h
  · rename_i h1 h2
    rw [h1, evParts_mono H h2]
    exact h
  · cases h
theorem builtinV_mono (H : SubS s0 s) {b : Builtin} {args : Array Operand} {tys : Array TypeId} {v : Value} (h : builtinV N s0 b args tys = some v) : builtinV N s b args tys = some v := by
  unfold builtinV at h ⊢
  cases he : evs s0 args.toList with
  | none => rw [he] at h; split at h <;> simp_all
  | some l => rw [he] at h; rw [evs_mono H he]; exact h
theorem condV_mono (H : SubS s0 s) {c z : Operand} {t want : Bool} {u : Value} (h : condV s0 c t want z = some u) : condV s c t want z = some u := by
  cases z with
  | tmp r =>
    simp only [condV] at h ⊢
    split at h
    · rename_i v hv
      rw [H.fg hv (by simp)]
      exact h
    · rename_i d w q v hv
      rw [H.fg hv (by simp)]
      exact h
    · cases h
  | const k => exact h
  | func f => exact h
  | global g => exact h
theorem condV_ev {c z : Operand} {t want : Bool} {u : Value} (h : ev s z = some u) : condV s c t want z = some u := by
  cases z with
  | tmp r =>
    simp only [ev] at h
    split at h
    · rename_i v hv
      simp only [condV, hv]
      exact h
    · cases h
  | const k => exact h
  | func f => exact h
  | global g => exact h
theorem pickV_mono (H : SubS s0 s) {c x y : Operand} {t : Bool} {v : Value} (h : pickV s0 c t x y = some v) : pickV s c t x y = some v := by
  unfold pickV at h ⊢
  split at h
  · rename_i a b h1 h2
    rw [condV_mono H h1, condV_mono H h2]
    exact h
  · cases t with
    | true =>
      simp only at h
      have h1 := ev_mono H h
      rw [condV_ev (c := c) (t := true) (want := true) h1]
      split
      · rename_i a b h2 h3
        cases h2
        rfl
      · exact h1
    | false =>
      simp only at h
      have h1 := ev_mono H h
      rw [condV_ev (c := c) (t := false) (want := false) h1]
      split
      · rename_i a b h2 h3
        cases h3
        rfl
      · exact h1
theorem vop_mono (H : SubS s0 s) {o : Op} {v : Value} (h : vop N s0 o = some v) : vop N s o = some v := by
  unfold vop at h ⊢
  split at h
  · exact ev_mono H h
  · exact ev_mono H h
  · split at h
    · rename_i t hc
      simp only [ev_mono H hc]
      exact pickV_mono H h
    · cases h
  · exact buildV_mono H h
  · exact loadV_mono H h
  · split at h
    · rename_i h1 h2
      simp only [ev_mono H h1, ev_mono H h2]
      exact h
    · cases h
  · split at h
    · rename_i h1
      simp only [ev_mono H h1]
      exact h
    · cases h
  · split at h
    · rename_i h1
      simp only [ev_mono H h1]
      exact h
    · cases h
  · exact fieldAddrV_mono H h
  · exact indexAddrV_mono H h
  · exact fieldV_mono H h
  · exact indexV_mono H h
  · exact sliceV_mono H h
  · split at h
    · rename_i h1
      simp only [ev_mono H h1]
      exact h
    · cases h
  · split at h
    · rename_i h1
      cases he : evs s0 _ with
      | none => rw [he] at h; cases h
      | some l =>
        rw [he] at h
        simp only [h1, if_true, evs_mono H he]
        exact h
    · cases h
  · split at h
    · rename_i b hb
      try simp only [hb]
      exact builtinV_mono H h
    · cases h
  · split at h
    · rename_i h1
      simp only [ev_mono H h1]
      exact h
    · rename_i h1
      simp only [ev_mono H h1]
      exact h
    · cases h
  · cases h
theorem epl_mono (H : SubS s0 s) {o : Op} {p : Nat × Nat} (h : epl N s0 o = some p) : epl N s o = some p := by
  unfold epl at h ⊢
  split at h
  · split at h
    · rename_i h1 h2
      simp only [h1, plc_mono H h2]
      exact h
    · cases h
  · split at h
    · rename_i h1 h2 h3
      simp only [h1, plc_mono H h2, ev_mono H h3]
      exact h
    · cases h
  · exact plc_mono H h
  · exact plc_mono H h
  · cases h
theorem wantedA_mono (H : SubS s0 s) {all : Array Oper} {o : Oper} {b : Bool} (h : wantedA all o s0 = some b) : wantedA all o s = some b := by
  unfold wantedA at h ⊢
  split at h
  · rename_i hg
    try simp only [hg]
    exact h
  · rename_i j want hg
    try simp only [hg]
    split at h
    · rename_i hj
      try simp only [hj]
      exact h
    · rename_i q hj
      try simp only [hj]
      split at h
      · rename_i hd
        try simp only [hd]
        exact h
      · rename_i d hd
        try simp only [hd]
        split at h
        · rename_i c hc
          rw [H.fg hc (by simp)]
          exact h
        · rename_i c hc
          rw [H.fg hc (by simp)]
          exact h
        · cases h
theorem boxC_mono (H : SubS s0 s) {o : Op} {p : TypeId × List Value} (h : boxC N s0 o = some p) : boxC N s o = some p := by
  unfold boxC at h ⊢
  split at h
  · exact h
  · split at h
    · rename_i h1 h2
      simp only [h1, ev_mono H h2]
      exact h
    · cases h
  · cases h
theorem bslC_mono (H : SubS s0 s) {o : Op} {p : TypeId × List Value × Nat} (h : bslC N s0 o = some p) : bslC N s o = some p := by
  unfold bslC at h ⊢
  split at h
  · split at h
    · rename_i h0
      try simp only [h0]
      split at h
      · rename_i h1 h2
        simp only [h1, evParts_mono H h2]
        exact h
      · cases h
    · cases h
  · cases h
theorem mkC_mono (H : SubS s0 s) {o : Op} {p : TypeId × List Value × Nat} (h : mkC N s0 o = some p) : mkC N s o = some p := by
  unfold mkC at h ⊢
  split at h
  · split at h
    · rename_i h0 h1 h2
      simp only [h0, ev_mono H h1, ev_mono H h2]
      exact h
    · cases h
  · cases h
theorem itemsC_mono (H : SubS s0 s) {h0 : Heap} {sz : Nat} {y : Operand} {p : List Value × Nat} (h : itemsC s0 h0 sz y = some p) : itemsC s h0 sz y = some p := by
  unfold itemsC at h ⊢
  split at h
  · split at h
    · rename_i hb
      simp only [H.fg hb (by simp)]
      exact h
    · rename_i hb
      simp only [H.fg hb (by simp)]
      exact h
    · cases h
  · cases h
theorem calleeA_mono (H : SubS s0 s) {c : Callee} {p : FuncId × List Value} (h : calleeA s0 c = some p) : calleeA s c = some p := by
  unfold calleeA at h ⊢
  split at h
  · split at h
    · rename_i h1
      simp only [ev_mono H h1]
      exact h
    · cases h
  · cases h

/-! ### what one operation does: its result, and the heap behind it -/
inductive Res where
  | sl (v : Slot)
  | ep (sl off : Nat)
def updR (s : St) (d : Option Nat) (r : Res) (h : Heap) : St :=
  match d, r with
  | some d, .sl v => ⟨fput s.fr d v, edrop s.eph d, h⟩
  | some d, .ep sl off => ⟨fput s.fr d .unk, (d, ([], (sl, off))) :: edrop s.eph d, h⟩
  | none, _ => ⟨s.fr, s.eph, h⟩
/-- one operation, at a state: it leaves boxes as they are -/
inductive One (N : Env) (all : Array Oper) (o : Oper) (s : St) : Res → Heap → Prop
  | skip : wantedA all o s = some false → One N all o s (.sl (.val (.tuple #[]))) s.h
  | val {v : Value} : wantedA all o s = some true → vop N s o.op = some v → One N all o s (.sl (.val v)) s.h
  | eph {d sl off : Nat} : wantedA all o s = some true → o.dst = some d → epl N s o.op = some (sl, off) → sl ≠ d → One N all o s (.ep sl off) s.h
  | bsl {d n : Nat} {t : TypeId} {cs : List Value} : wantedA all o s = some true → o.dst = some d → bslC N s o.op = some (t, cs, n) → One N all o s (.sl (.bsl cs n)) s.h
  | boxH {t : TypeId} {cs : List Value} : wantedA all o s = some true → boxC N s o.op = some (t, cs) → One N all o s (.sl (.val (.pointer (some ⟨s.h.length, 0, some 0⟩)))) (s.h ++ [HObj.arr cs 0 true t])
  | bslH {n : Nat} {t : TypeId} {cs : List Value} : wantedA all o s = some true → bslC N s o.op = some (t, cs, n) → One N all o s (.sl (.val (.slice (some ⟨s.h.length, 0, some 0⟩) n n))) (s.h ++ [HObj.arr cs 0 true t])
  | mk {n : Nat} {t : TypeId} {cs : List Value} : wantedA all o s = some true → mkC N s o.op = some (t, cs, n) → One N all o s (.sl (.val (.slice (some ⟨s.h.length, 0, some 0⟩) n n))) (s.h ++ [HObj.arr cs 0 true t])
  | stoH {t et : TypeId} {a x : Operand} {ti : TI} {id off ver : Nat} {cells vs cells' : List Value} {v : Value} {r : Res} : wantedA all o s = some true →
      o.op = .store t a x → tinfo N.P t = some ti → ev s a = some (.pointer (some ⟨id, off, some ver⟩)) → s.h[id]? = some (.arr cells ver true et) → ev s x = some v → vcells ti.size v = some vs →
      wrC cells off vs = some cells' → o.dst = none → One N all o s r (s.h.set id (HObj.arr cells' ver true et))
  | app0 {x y : Operand} {t t2 e : TypeId} {ti : TI} {cs : List Value} {m : Nat} : wantedA all o s = some true →
      o.op = .call { callee := .builtin .append, args := #[x, y], argTypes := #[t, t2] } → N.P.underlying t = some (.slice e) → t2 = t → tinfo N.P e = some ti → 0 < ti.size →
      (ti.zero.map fun z => z.cells.size) = some ti.size → ev s x = some (.slice none 0 0) → itemsC s s.h ti.size y = some (cs, m) → 0 < m → m * ti.bytes ≤ 140737488355328 → m ≤ 140737488355328 →
      One N all o s (.sl (.val (.slice (some ⟨s.h.length, 0, some 0⟩) m m))) (s.h ++ [HObj.arr cs 0 true e])
  | app {x y : Operand} {t t2 e : TypeId} {ti : TI} {cs cells : List Value} {m n c id ver : Nat} : wantedA all o s = some true →
      o.op = .call { callee := .builtin .append, args := #[x, y], argTypes := #[t, t2] } → N.P.underlying t = some (.slice e) → t2 = t → tinfo N.P e = some ti → 0 < ti.size →
      (ti.zero.map fun z => z.cells.size) = some ti.size → ev s x = some (.slice (some ⟨id, 0, some ver⟩) n c) → s.h[id]? = some (.arr cells ver true e) → n * ti.size ≤ cells.length →
      itemsC s s.h ti.size y = some (cs, m) → (n + m) * ti.bytes ≤ 140737488355328 → n + m ≤ 140737488355328 →
      One N all o s (.sl (.val (.slice (some ⟨id, 0, some (ver + 1)⟩) (n + m) (n + m)))) (s.h.set id (HObj.arr (cells.take (n * ti.size) ++ cs) (ver + 1) true e))
  | call {c : Call} {f : FuncId} {cap args : List Value} {fn : Func} {v : Value} {h' : Heap} : wantedA all o s = some true →
      o.op = .call c → calleeA s c.callee = some (f, cap) → evs s c.args.toList = some args → N.P.funcs[f]? = some fn → (fn.name == "runtime.NumGoroutine") = false → fn.body.isNone = false →
      Ev N (.call f (args ++ cap) s.h v h') → One N all o s (.sl (.val v)) h'
theorem putO_upd {d : Option Nat} {v : Value} {h : Heap} : ({ s with h := h }).putO d (.val v) = updR s d (.sl (.val v)) h := by
  cases d <;> rfl
theorem One.ev {all : Array Oper} {o : Oper} {r : Res} {h' : Heap} (k : One N all o s r h') : Ev N (.ops all [o] s (updR s o.dst r h')) := by
  cases k with
  | skip hw => exact .opSkip hw (by rw [← putO_upd]; exact .nil _ _)
  | val hw hv => exact .opVal hw hv (by rw [← putO_upd]; exact .nil _ _)
  | eph hw hd he hne => exact .opEph hw hd he hne (by rw [hd]; exact .nil _ _)
  | bsl hw hd hb => exact .opBsl hw hd hb (by rw [hd]; exact .nil _ _)
  | boxH hw hb => exact .opBoxH hw hb (by rw [← putO_upd]; exact .nil _ _)
  | bslH hw hb => exact .opBslH hw hb (by rw [← putO_upd]; exact .nil _ _)
  | mk hw hb => exact .opMk hw hb (by rw [← putO_upd]; exact .nil _ _)
  | stoH hw ho ht ha hid hx hv hq hd => exact .opStoH hw ho ht ha hid hx hv hq hd (by rw [hd]; exact .nil _ _)
  | app0 hw ho hu h2 ht h3 h4 hx hi h5 h6 h7 => exact .opApp0 hw ho hu h2 ht h3 h4 hx hi h5 h6 h7 (by rw [← putO_upd]; exact .nil _ _)
  | app hw ho hu h2 ht h3 h4 hx hid h8 hi h5 h6 => exact .opApp hw ho hu h2 ht h3 h4 hx hid h8 hi h5 h6 (by rw [← putO_upd]; exact .nil _ _)
  | call hw ho hc ha hf hn hb he => exact .opCall hw ho hc ha hf hn hb he (by rw [← putO_upd]; exact .nil _ _)
theorem One.mono (H : SubS s0 s) {all : Array Oper} {o : Oper} {r : Res} {h' : Heap} (k : One N all o s0 r h') : One N all o s r h' := by
  have e := H.h
  cases k with
  | skip hw => rw [e]; exact .skip (wantedA_mono H hw)
  | val hw hv => rw [e]; exact .val (wantedA_mono H hw) (vop_mono H hv)
  | eph hw hd he hne => rw [e]; exact .eph (wantedA_mono H hw) hd (epl_mono H he) hne
  | bsl hw hd hb => rw [e]; exact .bsl (wantedA_mono H hw) hd (bslC_mono H hb)
  | boxH hw hb => rw [e]; exact .boxH (wantedA_mono H hw) (boxC_mono H hb)
  | bslH hw hb => rw [e]; exact .bslH (wantedA_mono H hw) (bslC_mono H hb)
  | mk hw hb => rw [e]; exact .mk (wantedA_mono H hw) (mkC_mono H hb)
  | stoH hw ho ht ha hid hx hv hq hd => rw [e] at hid ⊢; exact .stoH (wantedA_mono H hw) ho ht (ev_mono H ha) hid (ev_mono H hx) hv hq hd
  | app0 hw ho hu h2 ht h3 h4 hx hi h5 h6 h7 => rw [e] at hi ⊢; exact .app0 (wantedA_mono H hw) ho hu h2 ht h3 h4 (ev_mono H hx) (itemsC_mono H hi) h5 h6 h7
  | app hw ho hu h2 ht h3 h4 hx hid h8 hi h5 h6 => rw [e] at hi hid ⊢; exact .app (wantedA_mono H hw) ho hu h2 ht h3 h4 (ev_mono H hx) hid h8 (itemsC_mono H hi) h5 h6
  | call hw ho hc ha hf hn hb he => exact .call (wantedA_mono H hw) ho (calleeA_mono H hc) (evs_mono H ha) hf hn hb (e ▸ he)
end
end Go.Proofs.Ytnlchlnkibpkaaa.Am
