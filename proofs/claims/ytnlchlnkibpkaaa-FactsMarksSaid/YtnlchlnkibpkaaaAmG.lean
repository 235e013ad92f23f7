/- The abstract machine: a region that draws its order and leaves the heap as it is, as a rule for use. -/
import Derived.Test.YtnlchlnkibpkaaaAmF
namespace Go.Proofs.Ytnlchlnkibpkaaa.Am
set_option linter.unusedSimpArgs false
set_option linter.unusedVariables false
open Go.RowKit

def vw (ops : Array Oper) (L : List (List Nat)) (resL : List Res) (fr0 : Fr) (h : Heap) (i : Nat) : St := ⟨fr0 ++ ancFr ops resL (ancs L i), ancE ops resL (ancs L i), h⟩
inductive Steps0 (N : Env) (ops : Array Oper) (L : List (List Nat)) (resL : List Res) (fr0 : Fr) (h : Heap) : Nat → List Oper → Prop
  | nil (i : Nat) : Steps0 N ops L resL fr0 h i []
  | cons {i : Nat} {o : Oper} {l : List Oper} {r : Res} : One N ops o (vw ops L resL fr0 h i) r h → resF resL i = r → Steps0 N ops L resL fr0 h (i + 1) l → Steps0 N ops L resL fr0 h i (o :: l)
section
variable {N : Env} {ops : Array Oper} {L : List (List Nat)} {resL : List Res}
theorem Steps0.ok {fr : Fr} {h : Heap} : ∀ {l : List Oper} {i : Nat}, Steps0 N ops L resL (baseFr (dstsOf ops) fr) h i l → StepsOK N ops L [] resL [h] fr i l
  | [], _, _ => trivial
  | o :: l, i, .cons h1 h2 h3 => by
    refine ⟨?_, h3.ok⟩
    subst h2
    exact ⟨fun _ => h1, trivial⟩
theorem cw_order0 {id : Nat} {s : St} {Q : AX → St → Prop} {h : Heap} (L : List (List Nat)) (resL : List Res) (fr0 : Fr) (frF : Fr) (hm : N.P.follows .mixedOrders = true) (hc : ordB ops L [] = true) (ht : tgtB ops resL = true) (h0 : s.h = h) (hb : baseFr (dstsOf ops) s.fr = fr0)
    (hS : Steps0 N ops L resL fr0 h 0 ops.toList) (hF : FinOK ops resL s.fr frF) (k : Q .normal ⟨frF, [], h⟩) : CW N (.region id ops true) s Q := by
  subst hb
  unfold CW
  exact ⟨_, _, ev_orderL (hs := [h]) hm hc rfl ht h0 hS.ok hF, k⟩
theorem one_val {all : Array Oper} {o : Oper} {s : St} {v : Value} {h : Heap} (hh : s.h = h) (hw : wantedA all o s = some true) (hv : vop N s o.op = some v) : One N all o s (.sl (.val v)) h := hh ▸ .val hw hv
theorem one_skip {all : Array Oper} {o : Oper} {s : St} {h : Heap} (hh : s.h = h) (hw : wantedA all o s = some false) : One N all o s (.sl (.val (.tuple #[]))) h := hh ▸ .skip hw
theorem one_eph {all : Array Oper} {o : Oper} {s : St} {h : Heap} {d sl off : Nat} (hh : s.h = h) (hw : wantedA all o s = some true) (hd : o.dst = some d) (he : epl N s o.op = some (sl, off)) (hne : sl ≠ d) : One N all o s (.ep sl off) h := hh ▸ .eph hw hd he hne
/-- a call that leaves the heap as it is -/
theorem one_call {all : Array Oper} {o : Oper} {s : St} {h : Heap} {c : Call} {f : FuncId} {cap args : List Value} {fn : Func} {v : Value} (hh : s.h = h) (hw : wantedA all o s = some true) (ho : o.op = .call c) (hc : calleeA s c.callee = some (f, cap)) (ha : evs s c.args.toList = some args)
    (hf : N.P.funcs[f]? = some fn) (hnm : (fn.name == "runtime.NumGoroutine") = false) (hb : fn.body.isNone = false) (k : FW N f (args ++ cap) h fun r h' => r = v ∧ h' = h) : One N all o s (.sl (.val v)) h := by
  unfold FW at k
  obtain ⟨r, h', k1, rfl, rfl⟩ := k
  exact .call hw ho hc ha hf hnm hb (hh ▸ k1)
end
attribute [push_cast] vw ancs ancFr ancE dstAt resF Option.getD_some Option.getD_none
end Go.Proofs.Ytnlchlnkibpkaaa.Am
