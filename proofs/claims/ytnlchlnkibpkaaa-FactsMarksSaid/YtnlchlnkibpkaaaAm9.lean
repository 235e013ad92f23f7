/- The abstract machine: what the judgement says of a call, the model's call does. -/
import Derived.Test.YtnlchlnkibpkaaaAm8
namespace Go.Proofs.Ytnlchlnkibpkaaa.Am
set_option linter.unusedSimpArgs false
set_option linter.unusedVariables false
open Go.RowKit

def AX.toExit : AX → Exit
  | .normal => .normal
  | .exit id => .exit id
  | .ret => .ret
/-- what a call's judgement says of the model -/
def CallSnd (N : Env) (f : FuncId) (args : List Value) (h : Heap) (r : Value) (h' : Heap) : Prop :=
  ∀ (μ : Mu) (w : World) (args' : Array Value), HeapR N.P μ h w → VRL N.P μ args args'.toList →
    Calls N.P f args' w fun e w' => ∃ μ' r', e = .returned r' ∧ VR N.P μ' r r' ∧ HeapR N.P μ' h' w' ∧ Ext μ μ' ∧ FrW (OwnB μ h) w w' ∧
      (∀ b, OwnB μ' h' b → OwnB μ h b ∨ w.heap.size ≤ b) ∧ (∀ b, BlkB μ' h' b → BlkB μ h b ∨ w.heap.size ≤ b)
def Snd (N : Env) : Judg → Prop
  | .code c s e s' => ∀ (B : Bs) (n : Nat) (μ : Mu) (β : Nat → Nat) (a : Act) (w : World), StR N B n μ β s a w → dstOK n c = true →
      ∀ Q : Exit → Act → World → Prop, (∀ μ' β' a' w', StR N B n μ' β' s' a' w' → Q e.toExit a' w') → c.wp N.P Q a w
  | .iter c s e s' => ∃ k, ∀ (B : Bs) (n : Nat) (μ : Mu) (β : Nat → Nat) (a : Act) (w : World), StR N B n μ β s a w → dstOK n c = true →
      ∀ Q : Exit → Act → World → Prop, (∀ μ' β' a' w', StR N B n μ' β' s' a' w' → Q e.toExit a' w') → Code.rounds N.P c Q k a w
  | .ops all l s s' => ∀ (B : Bs) (n : Nat) (μ : Mu) (β : Nat → Nat) (a : Act) (w : World), StR N B n μ β s a w → dstOps n l = true →
      ∀ Q : Exit → Act → World → Prop, (∀ μ' β' a' w', StR N B n μ' β' s' a' w' → Q .normal a' w') → wpList N.P all Q l a w
  | .call f args h r h' => CallSnd N f args h r h'

section
variable {N : Env} {B : Bs} {n : Nat} {μ μ' : Mu} {β : Nat → Nat} {s : St} {a : Act} {w w' : World}

theorem dst_lt {o : Oper} {l : List Oper} (h : dstOps n (o :: l) = true) : (∀ d, o.dst = some d → d < n) ∧ dstOps n l = true := by
  unfold dstOps at h ⊢
  rw [List.all_cons, Bool.and_eq_true] at h
  refine ⟨fun d hd => ?_, h.2⟩
  have := h.1
  rw [hd] at this
  simpa using this
theorem AX.inBlock_then {e : AX} {id : Nat} {Q : Exit → Act → World → Prop} (h : Q (e.inBlock id).toExit a w) : Exit.inBlock id Q e.toExit a w := by
  cases e with
  | normal => exact h
  | ret => exact h
  | exit id' =>
    simp only [AX.inBlock] at h
    simp only [AX.toExit, Exit.inBlock]
    split
    · rename_i e
      rw [if_pos e] at h
      exact h
    · rename_i e
      rw [if_neg e] at h
      exact h
theorem AX.then_of {e : AX} {K : Act → World → Prop} {Q : Exit → Act → World → Prop} (he : e ≠ .normal) (h : Q e.toExit a w) : Exit.then K Q e.toExit a w := by
  cases e with
  | normal => exact absurd rfl he
  | ret => exact h
  | exit id' => exact h
theorem SubF.get {f0 f : Fr} (h : SubF f0 f) (t : Nat) : fget f0 t = .unk ∨ fget f0 t = fget f t := by
  have key : ∀ (l : Fr), (∀ p ∈ l, p ∈ f0) → fget l t = .unk ∨ (t, fget l t) ∈ f0 := by
    intro l
    induction l with
    | nil => exact fun _ => .inl rfl
    | cons p r ih =>
      intro hl
      obtain ⟨k, v⟩ := p
      simp only [fget]
      split
      · rename_i e
        subst e
        exact .inr (hl _ List.mem_cons_self)
      · exact ih fun q hq => hl q (List.mem_cons_of_mem _ hq)
  rcases key f0 fun p hp => hp with h' | h'
  · exact .inl h'
  · exact .inr (h _ h').symm
theorem StR.weak (R : StR N B n μ β s a w) {s0 : St} (hf : SubF s0.fr s.fr) (hh : s0.h = s.h) (he : s0.eph = []) : StR N B n μ β s0 a w := by
  have hp : ∀ t, priv (fget s0.fr t) = true → priv (fget s.fr t) = true := fun t ht => by
    rcases hf.get t with h | h
    · rw [h] at ht
      simp [priv] at ht
    · rw [← h]
      exact ht
  refine ⟨R.defers, R.size, ?_, ?_, ?_, hh ▸ R.heap, R.fr, R.ext, hh ▸ R.own, hh ▸ R.blk, fun t ht => R.bnew t (hp t ht), fun t t' ht ht' => R.binj t t' (hp t ht) (hp t' ht'), fun t ht => hh ▸ R.bsep t (hp t ht)⟩
  · intro t ht
    rcases hf.get t with h | h
    · rw [h]
      trivial
    · rw [h]
      exact R.slot t ht
  · intro t ht
    rcases hf.get t with h | h
    · exact h
    · rw [h]
      exact R.hi t ht
  · intro t g sl off hm
    rw [he] at hm
    cases hm
theorem fget_init (l : List Value) (k t : Nat) : fget ((l.zipIdx k).map fun p => (p.2, Slot.val p.1)) t = if h : k ≤ t ∧ t - k < l.length then .val (l[t - k]'h.2) else .unk := by
  induction l generalizing k with
  | nil => simp [fget]
  | cons v l ih =>
    rw [List.zipIdx_cons, List.map_cons]
    simp only [fget, ih]
    by_cases h : k = t
    · subst h
      simp
    · rw [if_neg h]
      by_cases h1 : k + 1 ≤ t ∧ t - (k + 1) < l.length
      · rw [dif_pos h1, dif_pos ⟨by omega, by simp only [List.length_cons]; omega⟩]
        have e : t - k = (t - (k + 1)) + 1 := by omega
        simp [e]
      · rw [dif_neg h1, dif_neg]
        simp only [List.length_cons]
        omega
def resM (tmps : Array Value) : ResultVar → Sem Value
  | .tmp t => pure (tmps.getD t undef)
  | .cell b t => do loadVar t (← asAddr (tmps.getD b undef))
theorem resA_sound (R : StR N B n μ β s a w) : ∀ {l : List ResultVar} {vs : List Value}, resA N s l = some vs → ∃ vs', (l.mapM (resM a.tmps)).run N.P w = .ok vs' w ∧ VRL N.P μ vs vs'
  | [], vs, h => by
    simp only [resA] at h
    cases h
    exact ⟨[], by simp, trivial⟩
  | .tmp t :: r, vs, h => by
    simp only [resA] at h
    split at h
    · rename_i v l hv hl
      cases h
      obtain ⟨vs', k1, k2⟩ := resA_sound R hl
      exact ⟨a.tmps.getD t undef :: vs', by simp only [List.mapM_cons, Sem.run_bind, resM, Sem.run_pure, Result.andThen_ok, k1], ev_sound R hv, k2⟩
    · cases h
  | .cell b t :: r, vs, h => by
    simp only [resA] at h
    split at h
    · rename_i v l hv hl
      cases h
      obtain ⟨vs', k1, k2⟩ := resA_sound R hl
      obtain ⟨v', q1, q2⟩ := snd_load R hv
      have hq : ∃ ad, a.tmps.getD b undef = .pointer (some ad) ∧ (loadVar t ad).run N.P w = .ok v' w := by
        simp only [Act.eval] at q1
        generalize a.tmps.getD b undef = u at q1
        cases u with
        | pointer p =>
          cases p with
          | none => simp [Instr.loadAt, Instr.sureAddr] at q1
          | some ad => exact ⟨ad, rfl, by simpa [Instr.loadAt, Instr.sureAddr] using q1⟩
        | _ => simp [Instr.loadAt, Instr.sureAddr] at q1
      obtain ⟨ad, e1, e2⟩ := hq
      exact ⟨v' :: vs', by simp only [List.mapM_cons, Sem.run_bind, resM, e1, asAddr, Sem.run_pure, Result.andThen_ok, e2, k1], q2, k2⟩
    · cases h
theorem res_sound (R : StR N B n μ β s a w) {fn : Func} {vs : List Value} (h : resA N s fn.results.toList = some vs) : ∃ v', (results fn a.tmps).run N.P w = .ok v' w ∧ VR N.P μ (resV vs) v' := by
  obtain ⟨vs', k1, k2⟩ := resA_sound R h
  refine ⟨resV vs', ?_, ?_⟩
  · have e : results fn a.tmps = (do let vs ← fn.results.mapM (resM a.tmps); pure (if h : vs.size = 1 then vs[0] else .tuple vs)) := by
      unfold results
      have e2 : (fun (x : ResultVar) => (match x with | .tmp t => pure (a.tmps.getD t undef) | .cell b t => do loadVar t (← asAddr (a.tmps.getD b undef)) : Sem Value)) = resM a.tmps := by
        funext x
        cases x <;> rfl
      rw [← e2]
      rfl
    rw [e, Array.mapM_eq_mapM_toList, Sem.run_bind, Sem.run_map, k1]
    simp only [Result.andThen_ok, Sem.run_pure]
    congr 1
    match vs' with
    | [] => simp [resV]
    | [v] => simp [resV]
    | v :: u :: r => simp [resV]
  · match vs, vs', k2 with
    | [], [], _ => exact VRL.tup (l := []) (l' := []) trivial
    | [v], [v'], ⟨h, _⟩ => exact h
    | _ :: _ :: _, _ :: _ :: _, k => exact k.tup
theorem VR.cut {P : Program} {k : Nat} {v u v' : Value} (hx : VR P μ' v v') (h : VR P μ v u) (hk : μ.length = k) : VR P (μ'.take k) v v' := by
  have hat : ∀ {id ver : Nat} {m m0 : M}, mAt μ id ver = some m0 → mAt μ' id ver = some m → mAt (μ'.take k) id ver = some m := by
    intro id ver m m0 h0 h1
    have hlt : id < k := by
      rw [← hk]
      rcases Nat.lt_or_ge id μ.length with h' | h'
      · exact h'
      · simp [mAt, List.getElem?_eq_none h'] at h0
    unfold mAt at h1 ⊢
    rw [List.getElem?_take_of_lt hlt]
    exact h1
  induction hx generalizing u with
  | pure hp => exact .pure hp
  | ptr h1 =>
    obtain ⟨_, _, _, _, e, h0, _⟩ := h.ptrInv
    cases e
    exact .ptr (hat h0 h1)
  | slice h1 a b c =>
    obtain ⟨_, _, _, _, _, _, e, h0, _⟩ := h.slInv (by simp)
    cases e
    exact .slice (hat h0 h1) a b c
  | slice0 h1 a =>
    obtain ⟨_, _, _, _, _, _, e, h0, _⟩ := h.slInv (by simp)
    cases e
    exact .slice0 (hat h0 h1) a
  | sliceE => exact .sliceE
  | agg hs _ ih =>
    obtain ⟨cs', rfl, hl⟩ := h.aggInv
    refine .agg hs fun i v v' e e' => ?_
    obtain ⟨q, _, hq⟩ := hl.get (i := i) (v := v) (by simpa using e)
    exact ih i v v' e e' hq
  | tuple hs _ ih =>
    obtain ⟨cs', rfl, hl⟩ := h.tupleInv
    refine .tuple hs fun i v v' e e' => ?_
    obtain ⟨q, _, hq⟩ := hl.get (i := i) (v := v) (by simpa using e)
    exact ih i v v' e e' hq
  | func hs _ ih =>
    obtain ⟨g, b', hg, _, rfl, hl⟩ := h.funcInv
    refine .func hs fun i v v' e e' => ?_
    obtain ⟨q, _, hq⟩ := hl.get (i := i) (v := v) (by simpa using e)
    exact ih i v v' e e' hq
theorem VR.scp {P : Program} {k : Nat} {v v' : Value} (hs : Scoped k v) (hx : VR P μ v v') : VR P (μ.take k) v v' := by
  have hat : ∀ {id ver : Nat} {m : M}, id < k → mAt μ id ver = some m → mAt (μ.take k) id ver = some m := by
    intro id ver m hlt h1
    unfold mAt at h1 ⊢
    rw [List.getElem?_take_of_lt hlt]
    exact h1
  induction hx with
  | pure h => exact .pure h
  | ptr h1 => cases hs with
    | pure1 h => simp [Am.pure1] at h
    | ptr h => exact .ptr (hat h h1)
  | slice h1 a b c => cases hs with
    | pure1 h => simp [Am.pure1] at h
    | slice h => exact .slice (hat h h1) a b c
  | slice0 h1 a => cases hs with
    | pure1 h => simp [Am.pure1] at h
    | slice h => exact .slice0 (hat h h1) a
  | sliceE => exact .sliceE
  | agg hz _ ih => cases hs with
    | pure1 h => simp [Am.pure1] at h
    | agg h => exact .agg hz fun i v v' e e' => ih i v v' e e' (h i v e)
  | tuple hz _ ih => cases hs with
    | pure1 h => simp [Am.pure1] at h
    | tup h => exact .tuple hz fun i v v' e e' => ih i v v' e e' (h i v e)
  | func hz _ ih => cases hs with
    | pure1 h => simp [Am.pure1] at h
theorem Ext.take {k : Nat} (h : Ext μ μ') (hk : μ.length = k) : Ext μ (μ'.take k) := fun id l hl => by
  obtain ⟨l', h'⟩ := h id l hl
  have hlt : id < k := by
    rw [← hk]
    rcases Nat.lt_or_ge id μ.length with h' | h'
    · exact h'
    · simp [List.getElem?_eq_none h'] at hl
  exact ⟨l', by rw [List.getElem?_take_of_lt hlt]; exact h'⟩

theorem StR.cndPut (R : StR N B n μ β s a w) {d : Nat} {ks : List Key} {v v' : Value} (hd : d < n) (hS : if condL ks = true then VR N.P μ v v' else v' = undef) : ∃ β', StR N B n μ β' (s.put d (.cnd ks v)) (a.put (some d) v') w :=
  ⟨_, R.upd (h' := s.h) (b := 0) hd (Ext.refl _) R.heap R.fr R.own R.blk (Nat.le_refl _) (fun _ _ => rfl) R.bsep hS (fun h => by simp [priv] at h)⟩
theorem asm_box {ks : List Key} {sl : Nat} {cs : List Value} (h : fget (s.asm ks).fr sl = .box cs) : ∃ cs, fget s.fr sl = .box cs := by
  simp only [St.asm, fget_asm] at h
  generalize fget s.fr sl = q at h
  cases q with
  | box c => exact ⟨c, rfl⟩
  | cnd k v =>
    simp only [asmS] at h
    split at h <;> cases h
  | val v => cases h
  | bsl c m => cases h
  | unk => cases h
theorem plc_box {x : Operand} {sl off : Nat} {a0 : Act} {w0 : World} (R : StR N B n μ β s a0 w0) (h : plc s x = some (sl, off)) : ∃ cs, fget s.fr sl = .box cs := (plc_sound R h).2
/-- an address is one of a box, whatever is taken for met -/
theorem mem_box (R : StR N B n μ β s a w) {x : Operand} {ks : List Key} {sl off : Nat} (h : plc (s.asm ks) x = some (sl, off)) : ∃ cs, fget s.fr sl = .box cs := by
  cases x with
  | tmp t =>
    simp only [plc] at h
    split at h
    · rename_i p hp
      obtain rfl : p = (sl, off) := by simpa using h
      obtain ⟨g0, h1, _⟩ := mem_asm ks (mem_of_eget hp)
      exact (R.eph _ _ _ _ h1).2.2
    · cases h
    · split at h
      · rename_i cs hb
        obtain ⟨rfl, rfl⟩ : t = sl ∧ 0 = off := by simpa using h
        exact asm_box hb
      · cases h
  | const c => simp [plc] at h
  | func f => simp [plc] at h
  | global g => simp [plc] at h
theorem StR.epl_box (R : StR N B n μ β s a w) {o : Op} {ks : List Key} {sl off : Nat} (h : epl N (s.asm ks) o = some (sl, off)) : ∃ cs, fget s.fr sl = .box cs := by
  unfold epl at h
  split at h
  · split at h
    · rename_i o' ft sl' off' hf hp
      cases h
      exact mem_box R hp
    · cases h
  · split at h
    · rename_i m e sl' off' k q hu hp hi
      split at h
      · split at h
        · cases h
          exact mem_box R hp
        · cases h
      · cases h
    · cases h
  · exact mem_box R h
  · exact mem_box R h
  · cases h
theorem StR.drew (R : StR N B n μ β s a w) : StR N B n μ β s a { w with drawn := w.drawn + 1 } :=
  ⟨R.defers, R.size, fun t ht => (R.slot t ht).mono (Ext.refl _) fun _ => rfl, R.hi, R.eph, R.heap.world (Nat.le_refl _) fun _ _ => rfl, ⟨R.fr.os, R.fr.tape, R.fr.output, R.fr.size, R.fr.block⟩, R.ext, R.own, R.blk, R.bnew, R.binj, R.bsep⟩
theorem StR.ephPut0 (R : StR N B n μ β s a w) {d sl off : Nat} (hd : d < n) (hb : ∃ cs, fget s.fr sl = .box cs) (hne : sl ≠ d) :
    ∃ β', StR N B n μ β' { s with fr := fput s.fr d .unk, eph := (d, ([], (sl, off))) :: edrop s.eph d } (a.put (some d) (.pointer (some ⟨β sl, off, none⟩))) w :=
  R.ephPut hd hb hne (by rw [if_pos (show condL [] = true from rfl)])
theorem qops_sound (hN : EnvOK N) {all : Array Oper} {K : Act → Prop} {s1 : St} : ∀ {l : List Oper} {s : St} {β : Nat → Nat} {a : Act}, QOps N all l s s1 → StR N B n μ β s a w → dstOps n l = true →
    (∀ β' a', StR N B n μ β' s1 a' w → K a') → wpStill N.P all w K l a
  | [], _, _, _, .nil _, R, _, hK => wpStill_nil (hK _ _ R)
  | _ :: _, _, _, _, .skip hw hq, R, hd, hK => by
    obtain ⟨hd1, hd2⟩ := dst_lt hd
    obtain ⟨β', R'⟩ := R.val hd1 VR.undef
    refine wpStill_step fun K' hK' => ?_
    rw [if_neg (by rw [wanted_sound R hw]; simp)]
    exact hK' _ (qops_sound hN hq R' hd2 hK)
  | o :: _, _, _, _, .val hw hv hq, R, hd, hK => by
    obtain ⟨hd1, hd2⟩ := dst_lt hd
    obtain ⟨v', h1, h2⟩ := vop_sound hN R hv
    obtain ⟨β', R'⟩ := R.val hd1 h2
    refine wpStill_step fun K' hK' => ?_
    rw [if_pos (wanted_sound R hw)]
    unfold Oper.still
    rw [h1, Oper.stillUpon_value]
    exact hK' _ (qops_sound hN hq R' hd2 hK)
  | o :: _, _, _, _, .eph hw hd he hne hq, R, hds, hK => by
    obtain ⟨hd1, hd2⟩ := dst_lt hds
    obtain ⟨h1, hb⟩ := epl_sound R he
    obtain ⟨β', R'⟩ := R.ephPut0 (hd1 _ hd) hb hne
    refine wpStill_step fun K' hK' => ?_
    rw [if_pos (wanted_sound R hw)]
    unfold Oper.still
    rw [h1, Oper.stillUpon_value, hd]
    exact hK' _ (qops_sound hN hq R' hd2 hK)
  | o :: _, _, _, _, .spec (ks := ks) hg hv hd hq, R, hds, hK => by
    obtain ⟨hd1, hd2⟩ := dst_lt hds
    have hw := gkeys_sound R hg
    refine wpStill_step fun K' hK' => ?_
    by_cases hc : condL ks = true
    · obtain ⟨v', h1, h2⟩ := vop_sound hN (R.asm hc) hv
      obtain ⟨β', R'⟩ := R.cndPut (hd1 _ hd) (v' := v') (by rw [if_pos hc]; exact h2)
      rw [if_pos (by rw [hw]; exact hc)]
      unfold Oper.still
      rw [h1, Oper.stillUpon_value, hd]
      exact hK' _ (qops_sound hN hq R' hd2 hK)
    · obtain ⟨β', R'⟩ := R.cndPut (hd1 _ hd) (ks := ks) (v' := undef) (by rw [if_neg hc])
      rw [if_neg (by rw [hw]; exact hc), hd]
      exact hK' _ (qops_sound hN hq R' hd2 hK)
  | o :: _, _, _, _, .specE (ks := ks) (sl := sl) (off := off) hg he hd hne hq, R, hds, hK => by
    obtain ⟨hd1, hd2⟩ := dst_lt hds
    have hw := gkeys_sound R hg
    refine wpStill_step fun K' hK' => ?_
    by_cases hc : condL ks = true
    · obtain ⟨h1, cs, hb⟩ := epl_sound (R.asm hc) he
      obtain ⟨β', R'⟩ := R.ephPut (ks := ks) (off := off) (v' := .pointer (some ⟨_, off, none⟩)) (hd1 _ hd) (asm_box hb) hne (by rw [if_pos hc])
      rw [if_pos (by rw [hw]; exact hc)]
      unfold Oper.still
      rw [h1, Oper.stillUpon_value, hd]
      exact hK' _ (qops_sound hN hq R' hd2 hK)
    · obtain ⟨β', R'⟩ := R.ephPut (ks := ks) (sl := sl) (off := off) (v' := undef) (hd1 _ hd) (R.epl_box he) hne (by rw [if_neg hc])
      rw [if_neg (by rw [hw]; exact hc), hd]
      exact hK' _ (qops_sound hN hq R' hd2 hK)
theorem VR.slForm {P : Program} {p : Option Addr} {k c : Nat} {v' : Value} (h : VR P μ (.slice p k c) v') : ∃ p' cap, v' = .slice p' k cap ∧ k ≤ cap := by
  cases p with
  | none =>
    cases h with
    | pure h =>
      cases k <;> cases c <;> simp [pure1] at h
      exact ⟨_, _, rfl, Nat.le_refl _⟩
  | some ad =>
    obtain ⟨_, cap, he, hlc⟩ := h.slAny
    exact ⟨_, cap, he, hlc⟩
theorem run_app_zero {P : Program} {w : World} {t e ty : TypeId} {ti : TI} (hu : P.underlying t = some (.slice e)) (ht : tinfo P e = some ti) {base q : Option Addr} {n cap c : Nat} (hc : n ≤ cap) :
    (Builtin.append_ #[t, t] ty #[.slice base n cap, .slice q 0 c]).run P w = .ok (.slice base n cap) w := by
  obtain ⟨i, d, hi, hd, rfl⟩ := tinfo_some ht
  cases base <;> cases q <;> simp [Builtin.append_, run_underlying hu, run_sizeOf' hi, Builtin.lenOf, Builtin.firstCells, hc, storeCells, loadCells, loadCellsFrom]
theorem wp_monoQ {P : Program} {o : Oper} {a : Act} {w : World} {K K' : Act → World → Prop} {Q Q' : Exit → Act → World → Prop} (h : ∀ a w, K a w → K' a w) (hq : ∀ e a w, e ≠ .normal → Q e a w → Q' e a w)
    (hh : o.wp P a w K Q) : o.wp P a w K' Q' := by
  unfold Oper.wp at *
  generalize (execOp a.eval o).run P w = r at *
  cases r with
  | ok n w' =>
    cases n <;> simp only [Oper.upon] at hh ⊢ <;>
      first
        | exact h _ _ hh
        | exact Calls.mono hh (fun e w'' he => by
            cases e <;> first
              | exact h _ _ he
              | exact hq _ _ _ (by simp) he
              | (obtain ⟨a0, w0, he⟩ := he; exact ⟨a0, w0, hq _ _ _ (by simp) he⟩))
        | exact Rows.mono hh (fun _ _ he => h _ _ he)
  | halt x w' => cases x <;> simp only [Oper.upon] at hh ⊢ <;> first | exact hh | exact hq _ _ _ (by simp) hh | (obtain ⟨a0, w0, he⟩ := hh; exact ⟨a0, w0, hq _ _ _ (by simp) he⟩)
theorem wpOp_of_list {P : Program} {ops : Array Oper} {o : Oper} {i : Nat} {a : Act} {w : World} {K : Act → World → Prop} {Q Q' : Exit → Act → World → Prop} (ho : ops[i]? = some o) (h : ∀ a w, Q' .normal a w → K a w)
    (hq : ∀ e a w, e ≠ .normal → Q' e a w → Q e a w) (hh : wpList P ops Q' [o] a w) : wpOp P ops Q i K a w := by
  unfold wpOp
  rw [ho]
  simp only
  unfold wpList at hh
  split
  · rename_i hw
    rw [if_pos hw] at hh
    rcases hh with hh | ⟨h1, a0, w0, h2⟩
    · exact .inl (wp_monoQ (fun a w hk => h a w (by simpa only [wpList] using hk)) hq hh)
    · exact .inr ⟨h1, a0, w0, hq _ _ _ (by simp) h2⟩
  · rename_i hw
    rw [if_neg hw] at hh
    exact h _ _ (by simpa only [wpList] using hh)
theorem dstOps_take {l : List Oper} (k : Nat) (h : dstOps n l = true) : dstOps n (l.take k) = true ∧ dstOps n (l.drop k) = true := by
  unfold dstOps at h ⊢
  rw [List.all_eq_true] at h
  exact ⟨List.all_eq_true.2 fun x hx => h x (List.mem_of_mem_take hx), List.all_eq_true.2 fun x hx => h x (List.mem_of_mem_drop hx)⟩

theorem sound (hN : EnvOK N) {j : Judg} (h : Ev N j) : Snd N j := by
  induction h with
  | skip s => exact fun B n μ β a w R _ Q hQ => wp_skip (hQ _ _ _ _ R)
  | label l s => exact fun B n μ β a w R _ Q hQ => wp_label (hQ _ _ _ _ R)
  | exit id s => exact fun B n μ β a w R _ Q hQ => wp_exit (hQ _ _ _ _ R)
  | ret s => exact fun B n μ β a w R _ Q hQ => wp_ret (hQ _ _ _ _ R)
  | seqN _ _ ih1 ih2 =>
    intro B n μ β a w R hd Q hQ
    simp only [dstOK, Bool.and_eq_true] at hd
    exact wp_seq (ih1 B n μ β a w R hd.1 _ fun μ' β' a' w' R' => ih2 B n μ' β' a' w' R' hd.2 Q hQ)
  | seqX _ he ih =>
    intro B n μ β a w R hd Q hQ
    simp only [dstOK, Bool.and_eq_true] at hd
    exact wp_seq (ih B n μ β a w R hd.1 _ fun μ' β' a' w' R' => AX.then_of he (hQ _ _ _ _ R'))
  | cond hc _ ih =>
    intro B n μ β a w R hd Q hQ
    simp only [dstOK, Bool.and_eq_true] at hd
    refine wp_cond (ev_sound R hc).bool (ih B n μ β a w R ?_ Q hQ)
    split
    · exact hd.1
    · exact hd.2
  | block _ ih =>
    intro B n μ β a w R hd Q hQ
    simp only [dstOK] at hd
    exact wp_block (ih B n μ β a w R hd _ fun μ' β' a' w' R' => AX.inBlock_then (hQ _ _ _ _ R'))
  | @scope c s s1 e _ ih =>
    intro B n μ β a w R hd Q hQ
    simp only [dstOK] at hd
    refine wp_scope_straight (ih B n μ β a w R hd _ fun μ' β' a' w' R' => ?_)
    have := hQ _ _ _ _ R'
    cases e <;> exact this
  | loop _ ih =>
    obtain ⟨k, ih⟩ := ih
    intro B n μ β a w R hd Q hQ
    simp only [dstOK] at hd
    exact wp_loop_rounds k (ih B n μ β a w R hd Q hQ)
  | iterX _ he ih =>
    refine ⟨1, fun B n μ β a w R hd Q hQ => ?_⟩
    rw [rounds_succ]
    exact ih B n μ β a w R hd _ fun μ' β' a' w' R' => AX.then_of he (hQ _ _ _ _ R')
  | iterN _ _ ih1 ih2 =>
    obtain ⟨k, ih2⟩ := ih2
    refine ⟨k + 1, fun B n μ β a w R hd Q hQ => ?_⟩
    rw [rounds_succ]
    exact ih1 B n μ β a w R hd _ fun μ' β' a' w' R' => ih2 B n μ' β' a' w' R' hd Q hQ
  | @region id ops s s1 _ ih =>
    intro B n μ β a w R hd Q hQ
    simp only [dstOK] at hd
    have R' : StR N B n μ β { s with eph := [] } a w := ⟨R.defers, R.size, R.slot, R.hi, (fun t g sl off hm => by cases hm), R.heap, R.fr, R.ext, R.own, R.blk, R.bnew, R.binj, R.bsep⟩
    exact wp_region_list (ih B n μ β a w R' hd Q hQ)
  | @regionD id k ops s s1 s2 hm hB hq _ ih =>
    intro B n μ β a w R hd Q hQ
    simp only [dstOK] at hd
    obtain ⟨hd1, hd2⟩ := dstOps_take k hd
    have R' : StR N B n μ β { s with eph := [] } a w := ⟨R.defers, R.size, R.slot, R.hi, (fun t g sl off hm => by cases hm), R.heap, R.fr, R.ext, R.own, R.blk, R.bnew, R.binj, R.bsep⟩
    have e : ops = ops.toList.toArray := by simp
    rw [e]
    refine wp_region_still_tail k hm (by rw [← e]; exact hB) ?_
    rw [← e]
    exact qops_sound hN hq R'.drew hd1 fun β' a' R2 => ih B n μ β' a' _ R2 hd2 Q hQ
  | @regionO id ops s sF Inv nxt hm h0 _ h2 h3 h4 ih =>
    intro B n μ β a w R hd Q hQ
    simp only [dstOK] at hd
    have R' : StR N B n μ β { s with eph := [] } a w := ⟨R.defers, R.size, R.slot, R.hi, (fun t g sl off hm => by cases hm), R.heap, R.fr, R.ext, R.own, R.blk, R.bnew, R.binj, R.bsep⟩
    refine wp_region_any hm ?_
    have key : ∀ (f : Nat) (S : Array Bool) (t : St) (μ : Mu) (β : Nat → Nat) (a : Act) (w : World), StR N B n μ β t a w → Inv S t → S.size = ops.size → S.toList.count false ≤ f → wpAny N.P .any ops Q f S a w := by
      intro f
      induction f with
      | zero =>
        intro S t μ β a w R hI hsz hc
        have hr : Region.ready .any ops S = [] := by
          rw [List.eq_nil_iff_forall_not_mem]
          intro i hi
          obtain ⟨h1, _⟩ := mem_ready.1 hi
          have hlt : i < S.size := by
            rcases Nat.lt_or_ge i S.size with h | h
            · exact h
            · simp [Array.getElem?_eq_none h] at h1
          have : false ∈ S.toList := by
            simp only [Array.getD_eq_getD_getElem?, Array.getElem?_eq_getElem hlt, Option.getD_some] at h1
            rw [← h1]
            simp
          have := List.count_pos_iff.2 this
          omega
        obtain ⟨q1, q2⟩ := h3 S t hI hr
        exact ⟨hr, hQ _ _ _ _ (R.weak q1 q2 h4)⟩
      | succ f ihf =>
        intro S t μ β a w R hI hsz hc
        refine ⟨fun hr => ?_, fun i hi => ?_⟩
        · obtain ⟨q1, q2⟩ := h3 S t hI hr
          exact hQ _ _ _ _ (R.weak q1 q2 h4)
        · obtain ⟨h1, o, ho, _⟩ := mem_ready.1 hi
          have hlt : i < S.size := by
            rcases Nat.lt_or_ge i S.size with h | h
            · exact h
            · simp [Array.getElem?_eq_none h] at h1
          have hS : S[i] = false := by simpa [Array.getD_eq_getD_getElem?, Array.getElem?_eq_getElem hlt] using h1
          have hdo : dstOps n [o] = true := by
            unfold dstOps at hd ⊢
            rw [List.all_eq_true] at hd
            have := hd o (Array.mem_toList_iff.2 (Array.mem_of_getElem? ho))
            simpa using this
          refine wpOp_of_list ho (Q' := fun e a' w' => (e = .normal → wpAny N.P .any ops Q f (S.setIfInBounds i true) a' w') ∧ (e ≠ .normal → Q e a' w')) (fun a' w' h => h.1 rfl) (fun e a' w' he h => h.2 he) ?_
          refine ih S t i o hI hi ho B n μ β a w R hdo _ fun μ' β' a' w' R2 => ⟨fun _ => ?_, fun h => (h rfl).elim⟩
          refine ihf _ _ _ _ _ _ R2 (h2 S t i o hI hi ho) (by simp [hsz]) ?_
          rw [Array.toList_setIfInBounds, List.count_set (by simpa using hlt)]
          have hm : false ∈ S.toList := by
            rw [← hS]
            simp
          have := List.count_pos_iff.2 hm
          generalize S.toList.count false = d at *
          simp [hS]
          omega
    exact key _ _ _ _ _ _ _ R'.drew h0 (by simp) (by simp)
  | weak hf hh he _ ih => exact fun B n μ β a w R hd Q hQ => ih B n μ β a w (R.weak hf hh he) hd Q hQ
  | weakI hf hh he _ ih =>
    obtain ⟨k, ih⟩ := ih
    exact ⟨k, fun B n μ β a w R hd Q hQ => ih B n μ β a w (R.weak hf hh he) hd Q hQ⟩
  | nil all s => exact fun B n μ β a w R _ Q hQ => wpList_nil (hQ _ _ _ _ R)
  | opSkip hw _ ih =>
    intro B n μ β a w R hd Q hQ
    obtain ⟨hd1, hd2⟩ := dst_lt hd
    obtain ⟨β', R'⟩ := R.val hd1 VR.undef
    refine wpList_skip (wanted_sound R hw) (ih B n μ β' _ w R' hd2 Q hQ)
  | opVal hw hv _ ih =>
    intro B n μ β a w R hd Q hQ
    obtain ⟨hd1, hd2⟩ := dst_lt hd
    obtain ⟨v', h1, h2⟩ := vop_sound hN R hv
    obtain ⟨β', R'⟩ := R.val hd1 h2
    exact step_val (wanted_sound R hw) h1 (ih B n μ β' _ w R' hd2 Q hQ)
  | opEph hw hd he hne _ ih =>
    intro B n μ β a w R hds Q hQ
    obtain ⟨hd1, hd2⟩ := dst_lt hds
    obtain ⟨h1, hb⟩ := epl_sound R he
    obtain ⟨β', R'⟩ := R.ephPut0 (hd1 _ hd) hb hne
    refine step_val (wanted_sound R hw) h1 ?_
    rw [hd]
    exact ih B n μ β' _ w R' hd2 Q hQ
  | @opSpec all o r s s1 ks v d hg hv hd _ ih =>
    intro B n μ β a w R hds Q hQ
    obtain ⟨hd1, hd2⟩ := dst_lt hds
    have hw := gkeys_sound R hg
    by_cases hc : condL ks = true
    · obtain ⟨v', h1, h2⟩ := vop_sound hN (R.asm hc) hv
      obtain ⟨β', R'⟩ := R.cndPut (hd1 _ hd) (v' := v') (by rw [if_pos hc]; exact h2)
      refine step_val (hw.trans hc) h1 ?_
      rw [hd]
      exact ih B n μ β' _ w R' hd2 Q hQ
    · obtain ⟨β', R'⟩ := R.cndPut (hd1 _ hd) (ks := ks) (v' := undef) (by rw [if_neg hc])
      refine wpList_skip (hw.trans (by simpa using hc)) ?_
      rw [hd]
      exact ih B n μ β' _ w R' hd2 Q hQ
  | @opSpecE all o r s s1 ks d sl off hg he hd hne _ ih =>
    intro B n μ β a w R hds Q hQ
    obtain ⟨hd1, hd2⟩ := dst_lt hds
    have hw := gkeys_sound R hg
    by_cases hc : condL ks = true
    · obtain ⟨h1, cs, hb⟩ := epl_sound (R.asm hc) he
      obtain ⟨β', R'⟩ := R.ephPut (ks := ks) (off := off) (v' := .pointer (some ⟨_, off, none⟩)) (hd1 _ hd) (asm_box hb) hne (by rw [if_pos hc])
      refine step_val (hw.trans hc) h1 ?_
      rw [hd]
      exact ih B n μ β' _ w R' hd2 Q hQ
    · obtain ⟨β', R'⟩ := R.ephPut (ks := ks) (sl := sl) (off := off) (v' := undef) (hd1 _ hd) (R.epl_box he) hne (by rw [if_neg hc])
      refine wpList_skip (hw.trans (by simpa using hc)) ?_
      rw [hd]
      exact ih B n μ β' _ w R' hd2 Q hQ
  | opBox hw hd hb _ ih =>
    intro B n μ β a w R hds Q hQ
    obtain ⟨hd1, hd2⟩ := dst_lt hds
    obtain ⟨cur, h1, h2, h3⟩ := snd_boxC R hb
    obtain ⟨β', R'⟩ := R.privNew (sl := .box _) (v' := .pointer (some ⟨w.heap.size, 0, none⟩)) (hd1 _ hd) h2 h3 fun hr => ⟨rfl, hr⟩
    refine step_val (wanted_sound R hw) h1 ?_
    rw [hd]
    exact ih B n μ β' _ _ R' hd2 Q hQ
  | opBsl hw hd hb _ ih =>
    intro B n μ β a w R hds Q hQ
    obtain ⟨hd1, hd2⟩ := dst_lt hds
    obtain ⟨cur, h1, h2, h3, _, _⟩ := snd_bslC R hb
    obtain ⟨β', R'⟩ := R.privNew (sl := .bsl _ _) (v' := .slice (some ⟨w.heap.size, 0, none⟩) _ _) (hd1 _ hd) h2 h3 fun hr => ⟨rfl, hr⟩
    refine step_val (wanted_sound R hw) h1 ?_
    rw [hd]
    exact ih B n μ β' _ _ R' hd2 Q hQ
  | @opBoxH all o r s s1 t cs hw hb _ ih =>
    intro B n μ β a w R hds Q hQ
    obtain ⟨hd1, hd2⟩ := dst_lt hds
    obtain ⟨cur, h1, h2, h3⟩ := snd_boxC R hb
    obtain ⟨μ', β', _, R'⟩ := R.objNew (d := o.dst) (cells := cs) (cur := cur) (e := t) (w' := w.alloc (.cells cur t)) (b := w.heap.size) (v := .pointer (some ⟨s.h.length, 0, some 0⟩)) (v' := .pointer (some ⟨w.heap.size, 0, none⟩)) hd1 rfl rfl rfl (by simp)
      (fun k hk => heap_alloc_lt w _ hk) (Nat.le_refl _) (by simp) (heap_alloc_new w _) (fun j v hj => by simpa using h2.get hj) h3 (by
        have := mAt_push_new μ ⟨w.heap.size, 0, cur.size, t⟩
        rw [R.heap.len] at this
        exact VR.ptr this)
    exact step_val (wanted_sound R hw) h1 (ih B n μ' β' _ _ R' hd2 Q hQ)
  | @opBslH all o r s s1 m t cs hw hb _ ih =>
    intro B n μ β a w R hds Q hQ
    obtain ⟨hd1, hd2⟩ := dst_lt hds
    obtain ⟨cur, h1, h2, h3, h4, h5⟩ := snd_bslC R hb
    have hml : maxLen = 9223372036854775807 := by simp [maxLen]
    obtain ⟨μ', β', _, R'⟩ := R.objNew (d := o.dst) (cells := cs) (cur := cur) (e := t) (w' := w.alloc (.cells cur t)) (b := w.heap.size) (v := .slice (some ⟨s.h.length, 0, some 0⟩) m m) (v' := .slice (some ⟨w.heap.size, 0, none⟩) m m) hd1 rfl rfl rfl (by simp)
      (fun k hk => heap_alloc_lt w _ hk) (Nat.le_refl _) (by simp) (heap_alloc_new w _) (fun j v hj => by simpa using h2.get hj) h3 (by
        have := mAt_push_new μ ⟨w.heap.size, 0, cur.size, t⟩
        rw [R.heap.len] at this
        have hl : cs.length = cur.size := by
          have := h2.length
          rwa [Array.length_toList] at this
        exact VR.slice (off := 0) this (Nat.le_refl _) (by omega) (by simp only; omega))
    exact step_val (wanted_sound R hw) h1 (ih B n μ' β' _ _ R' hd2 Q hQ)
  | @opMk all o r s s1 m t cs hw hb _ ih =>
    intro B n μ β a w R hds Q hQ
    obtain ⟨hd1, hd2⟩ := dst_lt hds
    obtain ⟨cur, h1, h2, h3, h4, h5⟩ := snd_mkC R hb
    have hml : maxLen = 9223372036854775807 := by simp [maxLen]
    obtain ⟨μ', β', _, R'⟩ := R.objNew (d := o.dst) (cells := cs) (cur := cur) (e := t) (w' := w.alloc (.cells cur t)) (b := w.heap.size) (v := .slice (some ⟨s.h.length, 0, some 0⟩) m m) (v' := .slice (some ⟨w.heap.size, 0, none⟩) m m) hd1 rfl rfl rfl (by simp)
      (fun k hk => heap_alloc_lt w _ hk) (Nat.le_refl _) (by simp) (heap_alloc_new w _) (fun j v hj => by simpa using h2.get hj) h3 (by
        have := mAt_push_new μ ⟨w.heap.size, 0, cur.size, t⟩
        rw [R.heap.len] at this
        have hl : cs.length = cur.size := by
          have := h2.length
          rwa [Array.length_toList] at this
        exact VR.slice (off := 0) this (Nat.le_refl _) (by omega) (by simp only; omega))
    exact step_val (wanted_sound R hw) h1 (ih B n μ' β' _ _ R' hd2 Q hQ)
  | @opSto all o r s s1 t x y ti sl off cs vs cs' v hw ho ht hp hb hx hvc hwr hdst _ ih =>
    intro B n μ β a w R hds Q hQ
    obtain ⟨hd1, hd2⟩ := dst_lt hds
    obtain ⟨he, _⟩ := plc_sound R hp
    obtain ⟨cur, e, hr, hc, h1⟩ := box_row R hb
    obtain ⟨rfl, h2, h3, h4⟩ := vcells_some hvc
    have hv := ev_sound R hx
    have hvl := hv.cells.length
    obtain ⟨_, k2⟩ := hc.wrC hv.cells hwr
    simp only [Array.length_toList] at hvl k2
    have hrun := run_storeAt' (w := w) (off := off) (v := a.eval y) ht (by omega) (hv.cells.all_one h4) hr k2
    have R' := R.stoBox hb hr hc h1 hv.cells h4 hwr
    refine step_of (wanted_sound R hw) ?_
    unfold Oper.wp
    have : (execOp a.eval o).run N.P w = .ok .skip (w.setRow (β sl) (cur.toList.take off ++ (a.eval y).cells.toList ++ cur.toList.drop (off + (a.eval y).cells.toList.length)).toArray) := by
      simp only [execOp, ho, he, Sem.run_bind, hrun, Result.andThen_ok, Sem.run_pure]
    rw [this, Oper.upon_skip, hdst]
    exact ih B n μ β _ _ R' hd2 Q hQ
  | @opStoH all o r s s1 t et x y ti id off ver cells vs cells' v hw ho ht hp hob hx hvc hwr hdst _ ih =>
    intro B n μ β a w R hds Q hQ
    obtain ⟨hd1, hd2⟩ := dst_lt hds
    obtain ⟨id', off', ver', m, hid, hm, he⟩ := (ev_sound R hp).ptrInv
    cases hid
    have O := R.heap.get hob hm
    obtain ⟨hb0, cur, hr, hroom⟩ := O.own rfl
    obtain ⟨rfl, h2, h3, h4⟩ := vcells_some hvc
    have hv := ev_sound R hx
    have hvl := hv.cells.length
    obtain ⟨R', k2⟩ := R.stoHeap hob hm hr hv.cells h4 hwr
    simp only [Array.length_toList] at hvl k2
    rw [hb0, Nat.zero_add] at he
    have hrun := run_storeAt' (w := w) (off := off) (v := a.eval y) ht (by omega) (hv.cells.all_one h4) hr k2
    refine step_of (wanted_sound R hw) ?_
    unfold Oper.wp
    have : (execOp a.eval o).run N.P w = .ok .skip (w.setRow m.block (cur.toList.take off ++ (a.eval y).cells.toList ++ cur.toList.drop (off + (a.eval y).cells.toList.length)).toArray) := by
      simp only [execOp, ho, he, Sem.run_bind, hrun, Result.andThen_ok, Sem.run_pure]
    rw [this, Oper.upon_skip, hdst]
    exact ih B n μ β _ _ R' hd2 Q hQ
  | @opApp0 all o r s s1 x y t t2 e ti cs m hw ho hu htt ht hs0 hz hx hy hm hb hmx _ ih =>
    intro B n μ β a w R hds Q hQ
    subst htt
    obtain ⟨hd1, hd2⟩ := dst_lt hds
    obtain ⟨v', w', μ', β', h1, R'⟩ := snd_app0 R hd1 ho hu ht hs0 hz hx hy hm hb hmx
    exact step_val (wanted_sound R hw) h1 (ih B n μ' β' _ _ R' hd2 Q hQ)
  | @opApp all o r s s1 x y t t2 e ti cs cells m k c id ver hw ho hu htt ht hs0 hz hx hob hkl hy hb hmx _ ih =>
    intro B n μ β a w R hds Q hQ
    subst htt
    obtain ⟨hd1, hd2⟩ := dst_lt hds
    obtain ⟨v', w', μ', β', h1, R'⟩ := snd_app R hd1 ho hu ht hs0 hz hx hob hkl hy hb hmx
    exact step_val (wanted_sound R hw) h1 (ih B n μ' β' _ _ R' hd2 Q hQ)
  | @opAppZ all o r s s1 x y t t2 e ti p q k c c' hw ho hu htt ht hx hy _ ih =>
    intro B n μ β a w R hds Q hQ
    subst htt
    obtain ⟨hd1, hd2⟩ := dst_lt hds
    have hxe := ev_sound R hx
    obtain ⟨p', cap, hex, hkc⟩ := hxe.slForm
    obtain ⟨q', cap', hey, _⟩ := (ev_sound R hy).slForm
    obtain ⟨β', R'⟩ := R.val hd1 hxe
    exact step_val (wanted_sound R hw) (run_app_op ho (by rw [hex, hey]; exact run_app_zero hu ht hkc)) (ih B n μ β' _ _ (hex ▸ R') hd2 Q hQ)
  | @opCall all o r s s1 c f cap args fn v h' hw ho hc ha hf hnm hbd _ _ ihc ih =>
    intro B n μ β a w R hds Q hQ
    obtain ⟨hd1, hd2⟩ := dst_lt hds
    have hargs := evs_sound R ha
    unfold calleeA at hc
    split at hc
    case h_2 => cases hc
    rename_i fo hfo
    split at hc
    case h_2 => cases hc
    rename_i g first captured hev
    split at hc
    case isFalse => cases hc
    cases hc
    obtain ⟨g', b', hg, _, hfe, hcap⟩ := (ev_sound R hev).funcInv
    cases hg
    have hrun : (execOp a.eval o).run N.P w = .ok (.enter f (c.args.map a.eval ++ b')) w := by
      simp only [execOp, ho, resolve, hfo, hfe, Deferred.ofValue, Sem.run_bind, Sem.run_pure, Result.andThen_ok, invoke, callFunc, run_program, hf, hnm, hbd, Array.empty_append]
      rfl
    refine step_of (wanted_sound R hw) ?_
    unfold Oper.wp
    rw [hrun, Oper.upon_enter]
    have hcs := ihc μ w (c.args.map a.eval ++ b') R.heap (by
      rw [Array.toList_append, Array.toList_map]
      exact hargs.append hcap)
    refine hcs.mono ?_
    rintro e w' ⟨μ', r', rfl, hv, hH, hx, hF, hO, hK⟩
    have hplt := fun (t : Nat) (hp : priv (fget s.fr t) = true) => (R.bnew t hp).2
    have hfs := R.fr.size
    obtain ⟨β', R'⟩ := R.updO (d := o.dst) (v := v) (v' := r') hd1 hx hH
      (R.fr.trans hF fun x hx => R.own x hx)
      (fun b hb => by
        rcases hO b hb with h | h
        · exact R.own b h
        · exact .inr (by omega))
      (fun b hb => by
        rcases hK b hb with h | h
        · exact R.blk b h
        · exact .inr (by omega))
      hF.size (fun t hp => hF.block _ (hplt t hp) fun ho => R.bsep t hp ho.blk)
      (fun t hp hb => by
        rcases hK _ hb with h | h
        · exact R.bsep t hp h
        · have := hplt t hp
          omega) hv
    exact ih B n μ' β' _ _ R' hd2 Q hQ
  | @call f fn c args rs h e s1 hf hb hd hl _ he hr ih =>
    intro μ w args' hH hA
    have hsz : args'.size = args.length := by
      have := hA.length
      rw [Array.length_toList] at this
      exact this.symm
    refine calls_of_wp hf hb ?_
    let B : Bs := ⟨w, OwnB μ h, BlkB μ h, μ⟩
    let a0 : Act := { tmps := args' ++ Array.replicate (fn.ntmps - args'.size) undef, defers := [] }
    have hp : ∀ t, priv (fget (initFr args fn.ntmps) t) = true → False := fun t ht => by
      unfold initFr at ht
      rw [fget_init] at ht
      split at ht <;> simp [priv] at ht
    have R : StR N B fn.ntmps μ (fun _ => 0) ⟨initFr args fn.ntmps, [], h⟩ a0 w := by
      refine ⟨rfl, ?_, ?_, ?_, (fun t g sl off hm => by cases hm), hH, FrW.refl _ _, Ext.refl _, fun b hb => .inl hb, fun b hb => .inl hb, fun t ht => (hp t ht).elim, fun t t' ht => (hp t ht).elim, fun t ht => (hp t ht).elim⟩
      · simp only [a0, Array.size_append, Array.size_replicate]
        omega
      · intro t ht
        unfold initFr
        rw [fget_init]
        have hlen : t - 0 < (args ++ List.replicate (fn.ntmps - args.length) (Value.tuple #[])).length := by
          simp only [List.length_append, List.length_replicate]
          omega
        rw [dif_pos ⟨Nat.zero_le _, hlen⟩]
        simp only [Nat.sub_zero]
        by_cases h1 : t < args.length
        · rw [List.getElem_append_left h1]
          obtain ⟨v', k1, k2⟩ := hA.get (i := t) (v := args[t]) (by simp [h1])
          have : a0.tmps.getD t undef = v' := by
            rw [Array.getD_eq_getD_getElem?]
            simp only [a0]
            rw [Array.getElem?_append_left (by omega)]
            have k1' : args'[t]? = some v' := by simpa using k1
            rw [k1']
            rfl
          rw [this]
          exact k2
        · rw [List.getElem_append_right (by omega)]
          have : a0.tmps.getD t undef = undef := by
            rw [Array.getD_eq_getD_getElem?]
            simp only [a0]
            rw [Array.getElem?_append_right (by omega), Array.getElem?_replicate]
            split <;> rfl
          rw [this]
          simp only [List.getElem_replicate]
          exact VR.undef
      · intro t ht
        unfold initFr
        rw [fget_init, dif_neg]
        simp only [List.length_append, List.length_replicate]
        omega
    refine ih B fn.ntmps μ _ a0 w R hd _ fun μ' β' a' w' R' => ?_
    obtain ⟨v', k1, k2⟩ := res_sound R' hr
    have hfin : a'.defers = [] ∧ ∃ v, (results fn a'.tmps).run N.P w' = .ok v w' ∧ ∃ μ' r', Ending.returned v = .returned r' ∧ VR N.P μ' (resV rs) r' ∧ HeapR N.P μ' s1.h w' ∧ Ext μ μ' ∧ FrW (OwnB μ h) w w' ∧
        (∀ b, OwnB μ' s1.h b → OwnB μ h b ∨ w.heap.size ≤ b) ∧ (∀ b, BlkB μ' s1.h b → BlkB μ h b ∨ w.heap.size ≤ b) :=
      ⟨R'.defers, v', k1, μ', v', rfl, k2, R'.heap, R'.ext, R'.fr, R'.own, R'.blk⟩
    rcases he with rfl | rfl
    · exact hfin
    · exact hfin
  | @fresh f h h' r _ hs ih =>
    intro μ w args' hH hA
    have hA0 : VRL N.P [] [] args'.toList := by
      cases e : args'.toList with
      | nil => trivial
      | cons a l =>
        rw [e] at hA
        exact hA.elim
    have hO0 : ∀ b, ¬ OwnB [] [] b := by
      rintro b ⟨i, c, v, t, m, h1, _⟩
      simp at h1
    refine (ih [] w args' ⟨rfl, fun id c v o t h1 => by simp at h1, fun a b c1 c2 v1 v2 o e1 e2 m1 m2 _ h1 => by simp at h1⟩ hA0).mono ?_
    rintro e w' ⟨μ', r', rfl, hv, hH', hx, hF, hO, hK⟩
    have hb : ∀ b, BlkB μ h b → w'.heap[b]? = w.heap[b]? := fun b hb => hF.block b (BlkB.lt hH hb) (hO0 b)
    have hv0 := hv.scp hs
    rw [List.take_zero] at hv0
    exact ⟨μ, r', rfl, hv0.mono (fun id l hl => by simp at hl), hH.world hF.size hb, Ext.refl _, ⟨hF.os, hF.tape, hF.output, hF.size, fun k hk _ => hF.block k hk (hO0 k)⟩, fun b hb => .inl hb, fun b hb => .inl hb⟩
  | @gc f args h h' r _ hs ht ih =>
    intro μ w args' hH hA
    refine (ih μ w args' hH hA).mono ?_
    rintro e w' ⟨μ', r', rfl, hv, hH', hx, hF, hO, hK⟩
    have hlen : μ.length = h.length := hH.len
    have hle : h.length ≤ h'.length := by
      have := congrArg List.length ht
      rw [List.length_take] at this
      omega
    have hget : ∀ {i : Nat} {o : HObj}, h[i]? = some o → i < h.length ∧ h'[i]? = some o := fun {i o} hi => by
      have hlt : i < h.length := by
        rcases Nat.lt_or_ge i h.length with h1 | h1
        · exact h1
        · simp [List.getElem?_eq_none h1] at hi
      refine ⟨hlt, ?_⟩
      rw [← ht, List.getElem?_take_of_lt hlt] at hi
      exact hi
    have hmt : ∀ {i v : Nat}, i < h.length → mAt (μ'.take h.length) i v = mAt μ' i v := fun {i v} hi => by
      unfold mAt
      rw [List.getElem?_take_of_lt hi]
    refine ⟨μ'.take h.length, r', rfl, hv.scp hs, ?_, hx.take hlen, hF, ?_, ?_⟩
    · refine ⟨?_, ?_, ?_⟩
      · rw [List.length_take, hH'.len]
        omega
      · intro id cells ver own et ho
        obtain ⟨hlt, ho'⟩ := hget ho
        obtain ⟨m, hm⟩ := hH'.obj _ _ _ _ _ ho'
        obtain ⟨m0, hm0⟩ := hH.obj _ _ _ _ _ ho
        refine ⟨m, ?_, hm.ez, ?_, hm.one, hm.blk, hm.own⟩
        · obtain ⟨l, g1, g2, g3⟩ := hm.hist
          exact ⟨l, by rw [List.getElem?_take_of_lt hlt]; exact g1, g2, g3⟩
        · intro j v hj
          obtain ⟨v', k1, k2⟩ := hm.cell j v hj
          obtain ⟨v0, _, k3⟩ := hm0.cell j v hj
          exact ⟨v', k1, k2.cut k3 hlen⟩
      · intro i1 i2 c1 c2 v1 v2 o2 e1 e2 m1 m2 hne h1 h2 k1 k2
        obtain ⟨l1, g1⟩ := hget h1
        obtain ⟨l2, g2⟩ := hget h2
        rw [hmt l1] at k1
        rw [hmt l2] at k2
        exact hH'.sep _ _ _ _ _ _ _ _ _ _ _ hne g1 g2 k1 k2
    · rintro b ⟨i, c, v, t, m, h1, h2, rfl⟩
      obtain ⟨l1, g1⟩ := hget h1
      rw [hmt l1] at h2
      exact hO _ ⟨i, c, v, t, m, g1, h2, rfl⟩
    · rintro b ⟨i, c, v, o, t, m, h1, h2, rfl⟩
      obtain ⟨l1, g1⟩ := hget h1
      rw [hmt l1] at h2
      exact hK _ ⟨i, c, v, o, t, m, g1, h2, rfl⟩
theorem Ev.calls (hN : EnvOK N) {f : FuncId} {args : List Value} {h h' : Heap} {r : Value} (e : Ev N (.call f args h r h')) : CallSnd N f args h r h' := sound hN e
end
end Go.Proofs.Ytnlchlnkibpkaaa.Am
