/- The abstract machine: operations that turn nothing, further. -/
import Derived.Test.YtnlchlnkibpkaaaAm2
namespace Go.Proofs.Ytnlchlnkibpkaaa.Am
set_option linter.unusedSimpArgs false
set_option linter.unusedVariables false
open Go.RowKit

section
variable {N : Env} {B : Bs} {n : Nat} {μ : Mu} {β : Nat → Nat} {s : St} {a : Act} {w : World}

theorem beq_bytes (a b : ByteArray) : (a.toList == b.toList) = decide (a = b) := by
  rw [Bool.eq_iff_iff, beq_iff_eq, decide_eq_true_eq]
  constructor
  · intro h
    rw [ByteArray.toList_eq, ByteArray.toList_eq] at h
    have h' := Array.toList_inj.1 h
    cases a; cases b
    simpa using h'
  · rintro rfl
    rfl
theorem run_equal_nilSl {P : Program} (w : World) {t e : TypeId} (p : Option Addr) (l c : Nat) (hu : P.underlying t = some (.slice e)) : (Op.equal t (.slice p l c) (.slice none 0 0)).run P w = .ok p.isNone w := by
  have h : ∀ d : Nat, (Op.equalIn (d + 1) t (.slice p l c) (.slice none 0 0)).run P w = .ok p.isNone w := fun d => by
    cases p <;> simp [Op.equalIn, run_underlying hu]
  exact h 9999
theorem snd_intBin {op : BinOp} {t : TypeId} {k : IntKind} {x y : Int} {v : Value} {P : Program} (h : intBin op k x y = some v) (w : World) : (binOp op t (.int k x) (.int k y)).run P w = .ok v w ∧ pure1 v = true := by
  unfold intBin at h
  split at h
  all_goals first
    | (cases h; exact ⟨by simp [binOp, Op.intArith, Op.intBits, Op.intCmp, Bool.beq_eq_decide_eq, bne], rfl⟩)
    | (split at h
       · cases h
       · rename_i hz
         cases h
         exact ⟨by simp [binOp, Op.intDiv, hz], rfl⟩)
    | (cases h; done)
theorem snd_shiftBin {op : BinOp} {t : TypeId} {k k' : IntKind} {x y : Int} {v : Value} {P : Program} (h : shiftBin op k x y = some v) (w : World) : (binOp op t (.int k x) (.int k' y)).run P w = .ok v w ∧ pure1 v = true := by
  unfold shiftBin at h
  split at h
  · cases h
  · rename_i hy
    split at h
    · cases h
      exact ⟨by simp [binOp, Op.shift, hy], rfl⟩
    · cases h
      exact ⟨by simp [binOp, Op.shift, hy], rfl⟩
    · cases h
theorem snd_strBin {op : BinOp} {t : TypeId} {x y : ByteArray} {v : Value} {P : Program} (h : strBin op x y = some v) (w : World) : (binOp op t (.string x) (.string y)).run P w = .ok v w ∧ pure1 v = true := by
  unfold strBin at h
  split at h
  · split at h
    · rename_i hle
      cases h
      refine ⟨?_, rfl⟩
      have : ¬ (((x.size + y.size : Nat) : Int) > IntKind.i64.max) := by rw [IntKind.max_i64]; omega
      simp only [binOp, Op.stringOp, this, if_false]
      rfl
    · cases h
  · cases h
    exact ⟨by simp only [binOp, Op.stringOp, beq_bytes]; rfl, rfl⟩
  · cases h
    exact ⟨by simp only [binOp, Op.stringOp, beq_bytes]; rfl, rfl⟩
  · cases h
theorem run_eqGuard_else {op : BinOp} {t : TypeId} {x y : Operand} {a b : Value} {P : Program} (w : World) (ha : ∀ cs, a ≠ .agg cs) (hb : a ≠ .nilIface) : (eqGuard op t x y a b).run P w = .ok () w := by
  unfold eqGuard
  cases op <;> simp <;> split <;> first | rfl | (exact absurd rfl (ha _)) | (exact absurd rfl hb) | simp_all
theorem snd_binV (hN : EnvOK N) {op : BinOp} {t : TypeId} {x y v u u' : Value} {X Y : Operand} (h : binV N op t x y = some v) (hx : VR N.P μ x u) (hy : VR N.P μ y u') (w : World) :
    ∃ v', (do eqGuard op t X Y u u'; binOp op t u u' : Sem Value).run N.P w = .ok v' w ∧ VR N.P μ v v' := by
  unfold binV at h
  split at h
  · rename_i k p k' q
    rw [hx.int, hy.int]
    have hg := run_eqGuard_else (op := op) (t := t) (x := X) (y := Y) (a := .int k p) (b := .int k' q) (P := N.P) w (by simp) (by simp)
    split at h
    · obtain ⟨h1, h2⟩ := snd_shiftBin (t := t) (k' := k') (P := N.P) h w
      exact ⟨v, by simp only [Sem.run_bind, hg, Result.andThen_ok, h1], .pure h2⟩
    · obtain ⟨h1, h2⟩ := snd_shiftBin (t := t) (k' := k') (P := N.P) h w
      exact ⟨v, by simp only [Sem.run_bind, hg, Result.andThen_ok, h1], .pure h2⟩
    · split at h
      · rename_i hk
        subst hk
        obtain ⟨h1, h2⟩ := snd_intBin (t := t) (P := N.P) h w
        exact ⟨v, by simp only [Sem.run_bind, hg, Result.andThen_ok, h1], .pure h2⟩
      · cases h
  · rename_i p q
    rw [hx.string, hy.string]
    have hg := run_eqGuard_else (op := op) (t := t) (x := X) (y := Y) (a := .string p) (b := .string q) (P := N.P) w (by simp) (by simp)
    obtain ⟨h1, h2⟩ := snd_strBin (t := t) (P := N.P) h w
    exact ⟨v, by simp only [Sem.run_bind, hg, Result.andThen_ok, h1], .pure h2⟩
  · rename_i p q
    rw [hx.bool, hy.bool]
    have hg := run_eqGuard_else (op := op) (t := t) (x := X) (y := Y) (a := .bool p) (b := .bool q) (P := N.P) w (by simp) (by simp)
    split at h
    · rename_i hu
      cases h
      exact ⟨.bool (decide (p = q)), by rw [Sem.run_bind, hg, Result.andThen_ok, run_eql_bool w t p q hu, Bool.beq_eq_decide_eq], .pure rfl⟩
    · rename_i hu
      cases h
      exact ⟨.bool (!decide (p = q)), by rw [Sem.run_bind, hg, Result.andThen_ok, run_neq_bool w t p q hu, Bool.beq_eq_decide_eq], .pure rfl⟩
    · cases h
  · rename_i p q
    split at h
    · rename_i chk hc
      obtain ⟨he, hf⟩ := hN t chk hc
      split at h
      · rename_i hb
        simp only [Bool.and_eq_true] at hb
        obtain ⟨p', rfl, hp⟩ := hx.aggInv
        obtain ⟨q', rfl, hq⟩ := hy.aggInv
        have ep := hf _ _ _ hp hb.1
        have eq := hf _ _ _ hq hb.2
        have ep' : p' = p := Array.toList_inj.1 ep
        have eq' : q' = q := Array.toList_inj.1 eq
        subst ep'
        subst eq'
        obtain ⟨h1, h2⟩ := he p' q' hb.1 hb.2
        have hg := run_eqGuard_agg (P := N.P) w op t X Y p' q' h1
        split at h
        · cases h
          exact ⟨_, by simp only [Sem.run_bind, hg, Result.andThen_ok, binOp, Op.equal, Op.maxDepth, h2 w, Sem.run_pure], .pure rfl⟩
        · cases h
          exact ⟨_, by simp only [Sem.run_bind, hg, Result.andThen_ok, binOp, Op.equal, Op.maxDepth, h2 w, Sem.run_pure], .pure rfl⟩
        · cases h
      · cases h
    · cases h
  · rename_i p c1 c2
    have hy' : u' = .slice none 0 0 := hy.of_pure1 rfl
    subst hy'
    have hu' : ∃ p' l' c', u = .slice p' l' c' ∧ p'.isNone = p.isNone := by
      cases p with
      | none => cases hx with | pure hp => exact ⟨_, _, _, rfl, rfl⟩
      | some ad =>
        obtain ⟨_, _, rfl, _⟩ := hx.slAny
        exact ⟨_, _, _, rfl, rfl⟩
    obtain ⟨p', l', c', rfl, hp⟩ := hu'
    have hg := run_eqGuard_else (op := op) (t := t) (x := X) (y := Y) (a := .slice p' l' c') (b := .slice none 0 0) (P := N.P) w (by simp) (by simp)
    split at h
    · rename_i e hu
      cases h
      refine ⟨.bool p.isNone, ?_, .pure rfl⟩
      rw [← hp, Sem.run_bind, hg, Result.andThen_ok]
      simp only [binOp]
      simp [run_equal_nilSl w p' l' c' hu]
    · rename_i e hu
      cases h
      refine ⟨.bool !p.isNone, ?_, .pure rfl⟩
      rw [← hp, Sem.run_bind, hg, Result.andThen_ok]
      simp only [binOp]
      simp [run_equal_nilSl w p' l' c' hu]
    · cases h
  · cases h
theorem snd_unF {op : UnOp} {x v u : Value} {P : Program} (h : unF op x = some v) (hx : VR P μ x u) (w : World) : ∃ v', (Op.unary op u).run P w = .ok v' w ∧ VR P μ v v' := by
  unfold unF at h
  split at h
  · cases h
    rw [hx.bool]
    exact ⟨_, by simp only [Op.unary, Sem.run_pure], .pure rfl⟩
  · cases h
    rw [hx.int]
    exact ⟨_, by simp only [Op.unary, Op.intArith, Sem.run_pure], .pure rfl⟩
  · cases h
theorem snd_convV {src dst : TypeId} {x v u : Value} (h : convV N src dst x = some v) (hx : VR N.P μ x u) (w : World) : ∃ v', (convert src dst u).run N.P w = .ok v' w ∧ VR N.P μ v v' := by
  unfold convV at h
  split at h
  · rename_i d k q m hs hd
    cases h
    rw [hx.int]
    exact ⟨_, by simp only [convert, Sem.run_bind, run_underlying hs, run_underlying hd, Result.andThen_ok, Conv.intToInt, Sem.run_pure], .pure rfl⟩
  · rename_i d b hs hd
    cases h
    rw [hx.string]
    refine ⟨.string b, ?_, .pure rfl⟩
    simp [convert, run_underlying hs, run_underlying hd]
  · cases h
theorem evo_sound (R : StR N B n μ β s a w) {d q : Int} {x : Option Operand} (h : evo s d x = some q) : (x = none ∧ q = d) ∨ ∃ o k, x = some o ∧ a.eval o = .int k q := by
  cases x with
  | none => simp only [evo] at h; cases h; exact .inl ⟨rfl, rfl⟩
  | some o =>
    simp only [evo] at h
    split at h
    · rename_i k m hv
      cases h
      exact .inr ⟨o, k, rfl, (ev_sound R hv).int⟩
    · cases h
theorem run_bounds {P : Program} (isS : Bool) (len cap : Nat) (lo hi : Option Value) (l h : Int) (h0 : 0 ≤ l) (h1 : l ≤ h) (h2 : h ≤ (len : Int)) (h3 : len ≤ cap)
    (hl : (lo = none ∧ l = 0) ∨ ∃ k, lo = some (.int k l)) (hh : (hi = none ∧ h = len) ∨ ∃ k, hi = some (.int k h)) (w : World) :
    (Instr.sliceBounds isS len cap lo hi none).run P w = .ok (l.toNat, h.toNat, cap) w := by
  have eh : (h.toNat : Int) = h := Int.toNat_of_nonneg (by omega)
  have e1 : ∀ (k : IntKind) (c : BoundsCode), (Instr.sliceBound (.int k h) cap c).run P w = .ok h.toNat w := fun k c => run_sliceBound w k h cap c (by omega) (by omega)
  have e2 : ∀ (k : IntKind) (c : BoundsCode) (m : Nat), l ≤ (m : Int) → (Instr.sliceBound (.int k l) m c).run P w = .ok l.toNat w := fun k c m hm => run_sliceBound w k l m c h0 hm
  rcases hl with ⟨rfl, rfl⟩ | ⟨kl, rfl⟩ <;> rcases hh with ⟨rfl, rfl⟩ | ⟨kh, rfl⟩
  · simp [Instr.sliceBounds]
  · simp only [Instr.sliceBounds, Sem.run_bind, Sem.run_pure, Result.andThen_ok, e1]
    simp
  · simp only [Instr.sliceBounds, Sem.run_bind, Sem.run_pure, Result.andThen_ok, e2 kl _ len (by omega), Int.toNat_natCast]
  · simp only [Instr.sliceBounds, Sem.run_bind, Sem.run_pure, Result.andThen_ok, e1, e2 kl _ h.toNat (by omega)]
theorem snd_sliceV (R : StR N B n μ β s a w) {t : TypeId} {x : Operand} {lo hi : Option Operand} {v : Value} (h : sliceV N s t x lo hi = some v) :
    ∃ v', (Instr.sliceAt t (a.eval x) (lo.map a.eval) (hi.map a.eval) none).run N.P w = .ok v' w ∧ VR N.P μ v v' := by
  unfold sliceV at h
  split at h
  · rename_i e ad len c hu hx
    split at h
    · rename_i ti l q ht hl hh
      split at h
      · rename_i hr
        obtain ⟨j, d, hj, hd, rfl⟩ := tinfo_some ht
        have hl' : ((lo.map a.eval) = none ∧ l = 0) ∨ ∃ k, (lo.map a.eval) = some (.int k l) := by
          rcases evo_sound R hl with ⟨rfl, rfl⟩ | ⟨o, k, rfl, e⟩
          · exact .inl ⟨rfl, rfl⟩
          · exact .inr ⟨k, by simp [e]⟩
        have hh' : ((hi.map a.eval) = none ∧ q = (len : Int)) ∨ ∃ k, (hi.map a.eval) = some (.int k q) := by
          rcases evo_sound R hh with ⟨rfl, rfl⟩ | ⟨o, k, rfl, e⟩
          · exact .inl ⟨rfl, rfl⟩
          · exact .inr ⟨k, by simp [e]⟩
        split at h
        · rename_i hn
          cases h
          have hxx := ev_sound R hx
          generalize hev : a.eval x = u at hxx
          cases hxx with
          | pure hp =>
            have : len = 0 ∧ c = 0 := by
              unfold pure1 at hp
              split at hp <;> simp_all
            obtain ⟨rfl, rfl⟩ := this
            have l0 : l = 0 := by omega
            have q0 : q = 0 := by omega
            subst l0
            subst q0
            have hb := run_bounds (P := N.P) true 0 0 (lo.map a.eval) (hi.map a.eval) 0 0 (by omega) (by omega) (by omega) (by omega) hl' hh' w
            refine ⟨.slice none 0 0, ?_, .pure rfl⟩
            rw [run_sliceAt_slice w t _ _ _ _ (by rw [elem_of hu]; exact hu)]
            simp [Instr.slice, run_underlying hu, hb, run_sizeOf' hj]
        · rename_i ad
          split at h
          · rename_i ver cells ver' own et hsp ho
            split at h
            · rename_i hve
              obtain ⟨rfl, rfl⟩ := hve
              cases h
              obtain ⟨id, off, ver2, m, o, cap, rfl, hm, he, hlc, hcm, hcase⟩ := (ev_sound R hx).slInv (by rw [hsp]; simp)
              cases hsp
              obtain ⟨m', hm'⟩ := R.heap.obj _ _ _ _ _ ho
              have hat := hm'.at
              rw [hm] at hat
              cases hat
              have hsz : N.P.cellsOf m.et = j.size := by simp [hm'.ez, Program.cellsOf, hj]
              have hb := run_bounds (P := N.P) true len cap (lo.map a.eval) (hi.map a.eval) l q hr.1 hr.2.1 hr.2.2 hlc hl' hh' w
              have hrun : (Instr.sliceAt t (a.eval x) (lo.map a.eval) (hi.map a.eval) none).run N.P w = .ok (.slice (some (if cap = l.toNat then ⟨m.block, o, none⟩ else ⟨m.block, o + l.toNat * j.size, none⟩)) (q.toNat - l.toNat) (cap - l.toNat)) w := by
                rw [he, run_sliceAt_slice w t _ _ _ _ (by rw [elem_of hu]; exact hu)]
                simp only [Instr.slice, Sem.run_bind, run_underlying hu, Result.andThen_ok, hb, run_sizeOf' hj, Sem.run_pure, Option.map_some, Addr.add_lit]
                split <;> rfl
              refine ⟨_, hrun, ?_⟩
              have hq : (q - l).toNat = q.toNat - l.toNat := by omega
              rw [hq]
              have hroom : ∀ x : Nat, x ≤ cap → x * j.size + (cap - x) * j.size = cap * j.size := fun x hx => by rw [← Nat.add_mul]; congr 1; omega
              have hlcap : l.toNat ≤ cap := by omega
              rcases hcase with ⟨rfl, hrm⟩ | ⟨rfl, rfl, h3⟩
              · by_cases hcl : cap = l.toNat
                · rw [if_pos hcl, show q.toNat - l.toNat = 0 from by omega, show cap - l.toNat = 0 from by omega]
                  by_cases hz : l.toNat * j.size = 0
                  · have e : adAdd ⟨id, off, some ver⟩ (l.toNat * j.size) = ⟨id, off, some ver⟩ := by simp [adAdd, hz]
                    rw [e]
                    refine .slice hm (Nat.le_refl _) (by simp [maxLen]) ?_
                    rw [← hrm, hsz, hcl, hz, Nat.zero_mul]
                  · exact .slice0 hm (by simp only; omega)
                · rw [if_neg hcl, Nat.add_assoc]
                  refine .slice hm (by omega) (by omega) ?_
                  have hrr := hroom l.toNat hlcap
                  rw [hsz] at hrm
                  show off + l.toNat * j.size + (cap - l.toNat) * N.P.cellsOf m.et = m.room
                  rw [hsz]
                  omega
              · have e0 : l.toNat = 0 := by omega
                have e1 : q.toNat = 0 := by omega
                rw [if_pos (by omega), e0, e1]
                simp only [Nat.zero_mul, Nat.sub_zero]
                exact .slice0 hm (by simp only; omega)
            · cases h
          · cases h
      · cases h
    · cases h
  · rename_i b hu hx
    split at h
    · rename_i l q hl hh
      split at h
      · rename_i hr
        cases h
        have hl' : ((lo.map a.eval) = none ∧ l = 0) ∨ ∃ k, (lo.map a.eval) = some (.int k l) := by
          rcases evo_sound R hl with ⟨rfl, rfl⟩ | ⟨o, k, rfl, e⟩
          · exact .inl ⟨rfl, rfl⟩
          · exact .inr ⟨k, by simp [e]⟩
        have hh' : ((hi.map a.eval) = none ∧ q = (b.size : Int)) ∨ ∃ k, (hi.map a.eval) = some (.int k q) := by
          rcases evo_sound R hh with ⟨rfl, rfl⟩ | ⟨o, k, rfl, e⟩
          · exact .inl ⟨rfl, rfl⟩
          · exact .inr ⟨k, by simp [e]⟩
        have hb := run_bounds (P := N.P) false b.size b.size (lo.map a.eval) (hi.map a.eval) l q hr.1 hr.2.1 hr.2.2 (Nat.le_refl _) hl' hh' w
        refine ⟨.string (b.extract l.toNat q.toNat), ?_, .pure rfl⟩
        rw [(ev_sound R hx).string]
        simp [Instr.sliceAt, Instr.slice, run_underlying hu, hb]
      · cases h
    · cases h
  · cases h
end
end Go.Proofs.Ytnlchlnkibpkaaa.Am
