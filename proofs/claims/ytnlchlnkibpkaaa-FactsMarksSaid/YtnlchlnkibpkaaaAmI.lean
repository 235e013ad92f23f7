/- The abstract machine: a region that draws its order, with operations that turn the heap, as a rule for use. -/
import Derived.Test.YtnlchlnkibpkaaaAmG
namespace Go.Proofs.Ytnlchlnkibpkaaa.Am
set_option linter.unusedSimpArgs false
set_option linter.unusedVariables false
open Go.RowKit

def AllP (P : Nat → Prop) : List Nat → Prop
  | [] => True
  | a :: l => P a ∧ AllP P l
theorem AllP.mem {P : Nat → Prop} : ∀ {l : List Nat}, AllP P l → ∀ k ∈ l, P k
  | [], _, k, h => by cases h
  | a :: l, ⟨h1, h2⟩, k, h => by
    rcases List.mem_cons.1 h with rfl | h
    · exact h1
    · exact AllP.mem h2 k h
def stg (L : List (List Nat)) (act : List Nat) (i : Nat) : List Nat := (List.range (act.length + 1)).filter (stageB L act i)
def nxtA (act : List Nat) (i k : Nat) : Nat := if act.contains i then k + 1 else k
inductive StepsA (N : Env) (ops : Array Oper) (L : List (List Nat)) (act : List Nat) (resL : List Res) (hs : List Heap) (fr0 : Fr) : Nat → List Oper → Prop
  | nil (i : Nat) : StepsA N ops L act resL hs fr0 i []
  | cons {i : Nat} {o : Oper} {l : List Oper} {r : Res} (ks : List Nat) : stg L act i = ks → AllP (fun k => One N ops o (vw ops L resL fr0 (hpF hs k) i) r (hpF hs (nxtA act i k))) ks → resF resL i = r → StepsA N ops L act resL hs fr0 (i + 1) l → StepsA N ops L act resL hs fr0 i (o :: l)
section
variable {N : Env} {ops : Array Oper} {L : List (List Nat)} {act : List Nat} {resL : List Res} {hs : List Heap}
theorem StageOK.of {fr : Fr} {i : Nat} {o : Oper} : ∀ {l : List Nat}, (∀ k ∈ l, stageB L act i k = true → One N ops o (viewOf ops L resL fr (hpF hs k) i) (resF resL i) (hpF hs (if i ∈ act then k + 1 else k))) → StageOK N ops L act resL hs fr i o l
  | [], _ => trivial
  | k :: l, h => ⟨h k List.mem_cons_self, StageOK.of fun k' hk => h k' (List.mem_cons_of_mem _ hk)⟩
theorem StepsA.ok {fr : Fr} : ∀ {l : List Oper} {i : Nat}, StepsA N ops L act resL hs (baseFr (dstsOf ops) fr) i l → StepsOK N ops L act resL hs fr i l
  | [], _, _ => trivial
  | o :: l, i, .cons ks h0 h1 h2 h3 => by
    refine ⟨StageOK.of fun k hk hb => ?_, h3.ok⟩
    have := h1.mem k (by rw [← h0]; exact List.mem_filter.2 ⟨hk, hb⟩)
    subst h2
    unfold nxtA at this
    simp only [List.contains_iff_mem] at this
    exact this
theorem cw_orderA {id : Nat} {s : St} {Q : AX → St → Prop} (L : List (List Nat)) (act : List Nat) (hs : List Heap) (resL : List Res) (fr0 : Fr) (frF : Fr) (hE : Heap) (hm : N.P.follows .mixedOrders = true) (hc : ordB ops L act = true) (ha : act.all (fun a => decide (a < ops.size)) = true) (ht : tgtB ops resL = true)
    (h0 : s.h = hpF hs 0) (hl : hpF hs act.length = hE) (hb : baseFr (dstsOf ops) s.fr = fr0) (hS : StepsA N ops L act resL hs fr0 0 ops.toList) (hF : FinOK ops resL s.fr frF) (k : Q .normal ⟨frF, [], hE⟩) : CW N (.region id ops true) s Q := by
  subst hb
  subst hl
  unfold CW
  exact ⟨_, _, ev_orderL (hs := hs) hm hc ha ht h0 hS.ok hF, k⟩
end
attribute [push_cast] hpF nxtA
end Go.Proofs.Ytnlchlnkibpkaaa.Am
