/- The abstract machine's executor: regions that draw, calls. -/
import Derived.Test.YtnlchlnkibpkaaaAmE
namespace Go.Proofs.Ytnlchlnkibpkaaa.Am
set_option linter.unusedSimpArgs false
set_option linter.unusedVariables false
open Go.RowKit

def eqP : Value → Value → Bool
  | .int k a, .int k' b => decide (k = k') && decide (a = b)
  | .bool a, .bool b => decide (a = b)
  | .string a, .string b => decide (a = b)
  | .pointer p, .pointer q => decide (p = q)
  | .slice p n c, .slice q m d => decide (p = q) && decide (n = m) && decide (c = d)
  | .nilFunc, .nilFunc => true
  | .nilIface, .nilIface => true
  | _, _ => false
def eqPL : List Value → List Value → Bool
  | [], [] => true
  | a :: l, b :: r => eqP a b && eqPL l r
  | _, _ => false
def eqV (a b : Value) : Bool :=
  match a, b with
  | .agg xs, .agg ys => eqPL xs.toList ys.toList
  | .tuple xs, .tuple ys => eqPL xs.toList ys.toList
  | x, y => eqP x y
def eqH : Heap → Heap → Bool
  | [], [] => true
  | .arr cs v o t :: l, .arr cs' v' o' t' :: r => eqPL cs cs' && decide (v = v') && decide (o = o') && decide (t = t') && eqH l r
  | _, _ => false
def eqS : Slot → Slot → Bool
  | .val a, .val b => eqV a b
  | .bsl cs n, .bsl cs' n' => eqPL cs cs' && decide (n = n')
  | .unk, .unk => true
  | _, _ => false
def eqR : Res → Res → Bool
  | .sl a, .sl b => eqS a b
  | .ep a b, .ep c d => decide (a = c) && decide (b = d)
  | _, _ => false
theorem eqP_sound {a b : Value} (h : eqP a b = true) : a = b := by
  unfold eqP at h
  split at h <;> simp_all
theorem eqPL_sound : ∀ {a b : List Value}, eqPL a b = true → a = b
  | [], [], _ => rfl
  | a :: l, b :: r, h => by
    simp only [eqPL, Bool.and_eq_true] at h
    rw [eqP_sound h.1, eqPL_sound h.2]
  | [], _ :: _, h => by simp [eqPL] at h
  | _ :: _, [], h => by simp [eqPL] at h
theorem eqV_sound {a b : Value} (h : eqV a b = true) : a = b := by
  unfold eqV at h
  split at h
  · rw [Array.toList_inj.1 (eqPL_sound h)]
  · rw [Array.toList_inj.1 (eqPL_sound h)]
  · exact eqP_sound h
theorem eqH_sound : ∀ {a b : Heap}, eqH a b = true → a = b
  | [], [], _ => rfl
  | .arr cs v o t :: l, .arr cs' v' o' t' :: r, h => by
    simp only [eqH, Bool.and_eq_true, decide_eq_true_eq] at h
    obtain ⟨⟨⟨⟨h1, rfl⟩, rfl⟩, rfl⟩, h2⟩ := h
    rw [eqPL_sound h1, eqH_sound h2]
  | [], _ :: _, h => by simp [eqH] at h
  | _ :: _, [], h => by simp [eqH] at h
theorem eqS_sound {a b : Slot} (h : eqS a b = true) : a = b := by
  unfold eqS at h
  split at h
  · rw [eqV_sound h]
  · simp only [Bool.and_eq_true, decide_eq_true_eq] at h
    rw [eqPL_sound h.1, h.2]
  · rfl
  · cases h
theorem eqR_sound {a b : Res} (h : eqR a b = true) : a = b := by
  unfold eqR at h
  split at h
  · rw [eqS_sound h]
  · simp only [Bool.and_eq_true, decide_eq_true_eq] at h
    rw [h.1, h.2]
  · cases h

def isAct (ops : Array Oper) (i : Nat) : Bool :=
  match ops[i]? with
  | some o => match o.op with
    | .box _ _ => true
    | .alloc _ => true
    | .makeSlice _ _ _ => true
    | .store _ _ _ => true
    | .call c => match c.callee with
      | .builtin .append => true
      | .builtin _ => false
      | _ => true
    | _ => false
  | none => false
section
variable (N : Env) (call : FuncId → List Value → Heap → Option (Value × Heap)) (nm : FuncId → Bool) (ops : Array Oper) (L : List (List Nat)) (act : List Nat) (fr : Fr)
def runO : Nat → List Oper → List Res → List Heap → Heap → Option (List Res × List Heap)
  | _, [], resL, hs, _ => some (resL, hs)
  | i, o :: r, resL, hs, h => match stepR N call nm ops o (viewOf ops L resL fr h i) with
    | some (rs, h') => runO (i + 1) r (resL ++ [rs]) (if act.contains i then hs ++ [h'] else hs) h'
    | none => none
def stageX (resL : List Res) (hs : List Heap) (i : Nat) (o : Oper) : List Nat → Bool
  | [] => true
  | k :: l => (!stageB L act i k || (match stepR N call nm ops o (viewOf ops L resL fr (hpF hs k) i) with
    | some (r, h') => eqR r (resF resL i) && eqH h' (hpF hs (if i ∈ act then k + 1 else k))
    | none => false)) && stageX resL hs i o l
def stepsX (resL : List Res) (hs : List Heap) : Nat → List Oper → Bool
  | _, [] => true
  | i, o :: l => stageX N call nm ops L act fr resL hs i o (List.range (act.length + 1)) && stepsX resL hs (i + 1) l
end
def keysF (P : Nat → Bool) (g : Fr) : Fr → Fr
  | [] => []
  | (x, _) :: r => if P x then (match fget g x with
    | .unk => keysF P g r
    | v => (x, v) :: keysF P g r) else keysF P g r
def finFr (ops : Array Oper) (resL : List Res) (fr : Fr) : Fr :=
  keysF (fun _ => true) (ancFr ops resL (List.range ops.size)) (ancFr ops resL (List.range ops.size)) ++ keysF (fun x => !(dstsOf ops).contains x) fr fr
def drX (N : Env) (call : FuncId → List Value → Heap → Option (Value × Heap)) (nm : FuncId → Bool) (ops : Array Oper) (s : St) : Option St :=
  match runO N call nm ops (mkAnc ops) ((List.range ops.size).filter (isAct ops)) s.fr 0 ops.toList [] [s.h] s.h with
  | some (resL, hs) =>
    if ordB ops (mkAnc ops) ((List.range ops.size).filter (isAct ops)) && tgtB ops resL && eqH s.h (hpF hs 0) && stepsX N call nm ops (mkAnc ops) ((List.range ops.size).filter (isAct ops)) s.fr resL hs 0 ops.toList then
      some ⟨finFr ops resL s.fr, [], hpF hs ((List.range ops.size).filter (isAct ops)).length⟩ else none
  | none => none
section
variable {N : Env} {call : FuncId → List Value → Heap → Option (Value × Heap)} {nm : FuncId → Bool} {ops : Array Oper} {L : List (List Nat)} {act : List Nat} {fr : Fr} {resL : List Res} {hs : List Heap}
theorem stageX_ok (hC : CallOK N call) (hn : NmOK N nm) {i : Nat} {o : Oper} : ∀ {l : List Nat}, stageX N call nm ops L act fr resL hs i o l = true → StageOK N ops L act resL hs fr i o l
  | [], _ => trivial
  | k :: l, h => by
    simp only [stageX, Bool.and_eq_true, Bool.or_eq_true, Bool.not_eq_true'] at h
    refine ⟨fun hst => ?_, stageX_ok hC hn h.2⟩
    rcases h.1 with h1 | h1
    · rw [hst] at h1
      cases h1
    · split at h1
      · rename_i r h' hr
        simp only [Bool.and_eq_true] at h1
        rw [← eqR_sound h1.1, ← eqH_sound h1.2]
        exact one_of hC hn hr
      · cases h1
theorem stepsX_ok (hC : CallOK N call) (hn : NmOK N nm) : ∀ {l : List Oper} {i : Nat}, stepsX N call nm ops L act fr resL hs i l = true → StepsOK N ops L act resL hs fr i l
  | [], _, _ => trivial
  | o :: l, i, h => by
    simp only [stepsX, Bool.and_eq_true] at h
    exact ⟨stageX_ok hC hn h.1, stepsX_ok hC hn h.2⟩
theorem FinOK.append {fr : Fr} : ∀ {a b : Fr}, FinOK ops resL fr a → FinOK ops resL fr b → FinOK ops resL fr (a ++ b)
  | [], _, _, h => h
  | (_, _) :: _, _, ⟨h1, h2⟩, h => ⟨h1, FinOK.append h2 h⟩
theorem fin1 : ∀ {l : Fr}, FinOK ops resL fr (keysF (fun _ => true) (ancFr ops resL (List.range ops.size)) l)
  | [] => trivial
  | (x, _) :: r => by
    simp only [keysF, if_true]
    split
    · exact fin1
    · rename_i h
      exact ⟨.inr ⟨rfl, h⟩, fin1⟩
theorem fin2 : ∀ {l : Fr}, FinOK ops resL fr (keysF (fun x => !(dstsOf ops).contains x) fr l)
  | [] => trivial
  | (x, _) :: r => by
    simp only [keysF]
    split
    · rename_i hx
      split
      · exact fin2
      · exact ⟨.inl ⟨by simpa using hx, rfl⟩, fin2⟩
    · exact fin2
theorem drX_ok (hm : N.P.follows .mixedOrders = true) (hC : CallOK N call) (hn : NmOK N nm) : DrOK N (drX N call nm) := by
  intro id ops s s1 h
  unfold drX at h
  split at h
  · rename_i resL hs hrun
    split at h
    · rename_i hc
      simp only [Bool.and_eq_true] at hc
      obtain ⟨⟨⟨h1, h2⟩, h3⟩, h4⟩ := hc
      cases h
      refine ev_orderL hm h1 ?_ h2 (eqH_sound h3) (stepsX_ok hC hn h4) (FinOK.append fin1 fin2)
      rw [List.all_eq_true]
      intro a ha
      rw [List.mem_filter, List.mem_range] at ha
      exact decide_eq_true ha.1
    · cases h
  · cases h
end
def callX (N : Env) (nm : FuncId → Bool) (fuel : Nat) : Nat → FuncId → List Value → Heap → Option (Value × Heap)
  | 0, _, _, _ => none
  | d + 1, f, args, h => match N.P.funcs[f]? with
    | some fn => match fn.body with
      | some c => if dstOK fn.ntmps c = true ∧ args.length ≤ fn.ntmps then (match codeX N (callX N nm fuel d) nm (drX N (callX N nm fuel d) nm) fuel c ⟨initFr args fn.ntmps, [], h⟩ with
        | some (.exit _, _) => none
        | some (_, s1) => match resA N s1 fn.results.toList with
          | some rs => some (resV rs, s1.h)
          | none => none
        | none => none) else none
      | none => none
    | none => none
theorem callX_sound {N : Env} {nm : FuncId → Bool} (hm : N.P.follows .mixedOrders = true) (hn : NmOK N nm) {fuel : Nat} : ∀ d, CallOK N (callX N nm fuel d)
  | 0 => fun f a h r h' e => by cases e
  | d + 1 => fun f a h r h' e => by
    unfold callX at e
    split at e
    · rename_i fn hf
      split at e
      · rename_i c hb
        split at e
        · rename_i hd
          split at e
          · cases e
          · rename_i ex s1 h3 h2
            split at e
            · rename_i rs hr
              cases e
              refine ⟨⟨fn, hf, by rw [hb]; rfl⟩, .call hf hb hd.1 hd.2 (codeX_sound (drX_ok hm (callX_sound hm hn d) hn) (callX_sound hm hn d) hn h2) ?_ hr⟩
              cases ex with
              | normal => exact .inl rfl
              | ret => exact .inr rfl
              | exit id => exact (h3 _ rfl).elim
            · cases e
          · cases e
        · cases e
      · cases e
    · cases e
end Go.Proofs.Ytnlchlnkibpkaaa.Am
