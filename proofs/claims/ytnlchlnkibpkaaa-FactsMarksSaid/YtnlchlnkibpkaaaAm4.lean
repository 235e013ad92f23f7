/- The abstract machine: all operations that turn nothing, in one lemma. -/
import Derived.Test.YtnlchlnkibpkaaaAm3
namespace Go.Proofs.Ytnlchlnkibpkaaa.Am
set_option linter.unusedSimpArgs false
set_option linter.unusedVariables false
open Go.RowKit

theorem foldl_put (off : Nat) : ∀ (vs : List Value) (k : Nat) (cs : Array Value), off + k + vs.length ≤ cs.size →
    ((vs.zipIdx k).foldl (fun cs p => cs.setIfInBounds (off + p.2) p.1) cs).toList = cs.toList.take (off + k) ++ vs ++ cs.toList.drop (off + k + vs.length)
  | [], k, cs, _ => by simp
  | v :: vs, k, cs, h => by
    rw [List.zipIdx_cons, List.foldl_cons]
    have h' : off + (k + 1) + vs.length ≤ (cs.setIfInBounds (off + k) v).size := by
      simp only [Array.size_setIfInBounds]
      simp only [List.length_cons] at h
      omega
    rw [foldl_put off vs (k + 1) _ h']
    simp only [Array.toList_setIfInBounds]
    have hlt : off + k < cs.toList.length := by
      simp only [List.length_cons] at h
      simp only [Array.length_toList]
      omega
    rw [show off + (k + 1) = off + k + 1 from by omega, List.take_set, List.drop_set_of_lt (by omega), List.length_cons, show off + k + (vs.length + 1) = off + k + 1 + vs.length from by omega]
    congr 1
    have e : ∀ (l : List Value) (n : Nat), n < l.length → (l.take (n + 1)).set n v = l.take n ++ [v] := by
      intro l n hn
      apply List.ext_getElem
      · simp only [List.length_set, List.length_take, List.length_append, List.length_singleton]
        omega
      · intro i h1 h2
        simp only [List.getElem_set, List.getElem_append, List.length_take, List.getElem_take, List.getElem_singleton]
        split
        · rename_i e
          subst e
          rw [dif_neg (by omega)]
        · rename_i e
          simp only [List.length_set, List.length_take] at h1
          rw [dif_pos (by omega)]
    rw [e _ _ hlt]
    simp

section
variable {N : Env} {B : Bs} {n : Nat} {μ : Mu} {β : Nat → Nat} {s : St} {a : Act} {w : World}

def PartsR (P : Program) (μ : Mu) : List (Nat × Value) → List (Nat × Value) → Prop
  | [], [] => True
  | (i, v) :: l, (j, u) :: l' => i = j ∧ VR P μ v u ∧ PartsR P μ l l'
  | _, _ => False
theorem evParts_sound (R : StR N B n μ β s a w) : ∀ {l : List (Nat × Operand)} {ps : List (Nat × Value)}, evParts s l = some ps → PartsR N.P μ ps (l.map fun p => (p.1, a.eval p.2))
  | [], ps, h => by
    simp only [evParts] at h
    cases h
    trivial
  | (i, x) :: r, ps, h => by
    simp only [evParts] at h
    split at h
    · rename_i v l hv hl
      cases h
      exact ⟨rfl, ev_sound R hv, evParts_sound R hl⟩
    · cases h
theorem fill_sound {P : Program} {place : Nat → Option (Nat × Nat)} : ∀ {ps ps' : List (Nat × Value)} {cells l : List Value} {cells' : Array Value}, PartsR P μ ps ps' → VRL P μ cells cells'.toList →
    putParts place cells ps = some l → ∃ l', Instr.fill place cells' ps' = some l' ∧ VRL P μ l l'.toList
  | [], [], cells, l, cells', _, hc, h => by
    simp only [putParts] at h
    cases h
    exact ⟨cells', rfl, hc⟩
  | (i, v) :: ps, (j, u) :: ps', cells, l, cells', ⟨hij, hv, hp⟩, hc, h => by
    subst hij
    simp only [putParts] at h
    split at h
    · cases h
    · rename_i off size hpl
      split at h
      · cases h
      · rename_i vs hvs
        split at h
        · cases h
        · rename_i cs hcs
          obtain ⟨rfl, h2, h3, h4⟩ := vcells_some hvs
          obtain ⟨k1, k2⟩ := hc.wrC hv.cells hcs
          have hus : u.cells.size = size := by
            have := hv.cells.length
            simp only [Array.length_toList] at this h2
            omega
          have hfit : ¬ (u.cells.size ≠ size ∨ off + u.cells.size > cells'.size) := by
            rw [not_or]
            refine ⟨by simpa using hus, ?_⟩
            simp only [Array.length_toList] at k2
            omega
          have hf := foldl_put off u.cells.toList 0 cells' (by simpa using k2)
          simp only [Nat.add_zero] at hf
          have e : (u.cells.zipIdx.foldl (fun cs p => cs.setIfInBounds (off + p.2) p.1) cells') = (u.cells.toList.zipIdx.foldl (fun cs p => cs.setIfInBounds (off + p.2) p.1) cells') := by
            rw [← Array.foldl_toList, Array.toList_zipIdx]
          have k1' : VRL P μ cs (u.cells.zipIdx.foldl (fun cs p => cs.setIfInBounds (off + p.2) p.1) cells').toList := by
            rw [e, hf]
            exact k1
          obtain ⟨l', q1, q2⟩ := fill_sound hp k1' h
          refine ⟨l', ?_, q2⟩
          simp only [Instr.fill, hpl, Bool.or_eq_true, decide_eq_true_eq]
          rw [if_neg (by simpa using hfit)]
          exact q1
  | [], _ :: _, _, _, _, h, _, _ => h.elim
  | _ :: _, [], _, _, _, h, _, _ => h.elim
theorem snd_buildV (R : StR N B n μ β s a w) {t : TypeId} {parts : Array (Nat × Operand)} {v : Value} (h : buildV N s t parts = some v) :
    ∃ v', (Instr.build t (parts.map fun (i, x) => (i, a.eval x))).run N.P w = .ok v' w ∧ VR N.P μ v v' := by
  unfold buildV at h
  split at h
  · rename_i ti ps ht hps
    obtain ⟨i, d, hi, hd, rfl⟩ := tinfo_some ht
    have hP := evParts_sound R hps
    have hl : (parts.map fun (i, x) => (i, a.eval x)).toList = parts.toList.map fun p => (p.1, a.eval p.2) := by simp
    split at h
    · rename_i z hz
      simp only at hz
      split at h
      · rename_i hpz
        simp only [Bool.and_eq_true] at hpz
        have hzz : VRL N.P μ z.cells.toList z.cells.toList := (VR.ofPureV hpz.1).cells
        split at h
        · rename_i fs hu
          split at h
          · rename_i pl hpl
            cases hq : putParts (fun i => pl[i]?) z.cells.toList ps with
            | none => simp [hq] at h
            | some l =>
              simp only [hq, Option.map_some, Option.some.injEq] at h
              subst h
              obtain ⟨l', k1, k2⟩ := fill_sound hP hzz hq
              refine ⟨.agg l', run_build w t _ l' ?_, ?_⟩
              · have hpl' : fs.toList.mapM (fun f => (N.P.info? f.type).map fun i => (f.offset, i.size)) = some pl := by simpa [placesOf, hu] using hpl
                rw [hl]
                simp only [Program.built, hi, hu, hz, hpl']
                simpa using k1
              · have := k2.agg
                simpa using this
          · cases h
        · rename_i m e hu
          split at h
          · rename_i te hte
            obtain ⟨ie, de, hie, hde, rfl⟩ := tinfo_some hte
            cases hq : putParts (placeA ie.size) z.cells.toList ps with
            | none => simp [hq] at h
            | some l =>
              simp only [hq, Option.map_some, Option.some.injEq] at h
              subst h
              obtain ⟨l', k1, k2⟩ := fill_sound hP hzz hq
              refine ⟨.agg l', run_build w t _ l' ?_, ?_⟩
              · rw [hl]
                simp only [Program.built, hi, hu, hz, hie]
                exact k1
              · have := k2.agg
                simpa using this
          · cases h
        · cases h
      · cases h
    · cases h
  · cases h
theorem snd_lenV {P : Program} {t ty : TypeId} {tys : Array TypeId} {x v u : Value} (ht : tys[0]? = some t) (h : (match P.underlying t, x with
    | some .string, .string b => some (.int .i64 b.size)
    | some (.slice _), .slice _ n _ => some (.int .i64 n)
    | some (.array n _), _ => some (.int .i64 n)
    | _, _ => none : Option Value) = some v) (hx : VR P μ x u) (w : World) : (Builtin.len_ tys ty #[u]).run P w = .ok v w ∧ pure1 v = true := by
  split at h
  · rename_i b hu
    cases h
    rw [hx.string]
    exact ⟨by simp [Builtin.len_, ht, run_underlying hu, goInt], rfl⟩
  · rename_i e p m c hu
    cases h
    have : ∃ p' c', u = .slice p' m c' := by
      cases hx with
      | pure hp => exact ⟨_, _, rfl⟩
      | slice _ _ _ _ => exact ⟨_, _, rfl⟩
      | slice0 _ _ => exact ⟨_, _, rfl⟩
      | sliceE => exact ⟨_, _, rfl⟩
    obtain ⟨p', c', rfl⟩ := this
    exact ⟨by simp [Builtin.len_, ht, run_underlying hu, goInt], rfl⟩
  · rename_i m e hu
    cases h
    exact ⟨by simp [Builtin.len_, ht, run_underlying hu, goInt], rfl⟩
  · cases h
theorem snd_minmax {b : Builtin} {x y v u u' : Value} {P : Program} {tys : Array TypeId} {ty : TypeId} {cs : Array Bool} (h : minmaxV b x y = some v) (hx : VR P μ x u) (hy : VR P μ y u') (w : World) :
    (builtin b tys ty cs #[u, u']).run P w = .ok (.value v) w ∧ pure1 v = true := by
  unfold minmaxV at h
  split at h
  · split at h
    · cases h
      rw [hx.int, hy.int]
      refine ⟨?_, rfl⟩
      simp only [builtin, Builtin.min_, List.foldlM_cons, List.foldlM_nil, Builtin.min2, Sem.run_bind, Sem.run_pure, Result.andThen_ok]
    · cases h
  · split at h
    · cases h
      rw [hx.int, hy.int]
      refine ⟨?_, rfl⟩
      simp only [builtin, Builtin.max_, List.foldlM_cons, List.foldlM_nil, Builtin.max2, Sem.run_bind, Sem.run_pure, Result.andThen_ok, gt_iff_lt]
    · cases h
  · cases h
theorem snd_builtinV (R : StR N B n μ β s a w) {b : Builtin} {args : Array Operand} {tys : Array TypeId} {ty : TypeId} {cs : Array Bool} {v : Value} (h : builtinV N s b args tys = some v) :
    ∃ v', (builtin b tys ty cs (args.map a.eval)).run N.P w = .ok (.value v') w ∧ VR N.P μ v v' := by
  have hl : (args.map a.eval) = (args.toList.map a.eval).toArray := by rw [← Array.toList_map, Array.toArray_toList]
  unfold builtinV at h
  split at h
  · rename_i x hv
    have hr := evs_sound R hv
    split at h
    · rename_i t ht
      obtain ⟨u, hu, hx⟩ : ∃ u, args.toList.map a.eval = [u] ∧ VR N.P μ x u := by
        generalize args.toList.map a.eval = l at hr
        match l, hr with
        | [u], ⟨hx, _⟩ => exact ⟨u, rfl, hx⟩
      rw [hl, hu]
      obtain ⟨h1, h2⟩ := snd_lenV (ty := ty) ht h hx w
      exact ⟨v, by simp [builtin, h1], .pure h2⟩
    · cases h
  · rename_i x y hv
    have hr := evs_sound R hv
    obtain ⟨u, u', hu, hx, hy⟩ : ∃ u u', args.toList.map a.eval = [u, u'] ∧ VR N.P μ x u ∧ VR N.P μ y u' := by
      generalize args.toList.map a.eval = l at hr
      match l, hr with
      | [u, u'], ⟨hx, hy, _⟩ => exact ⟨u, u', rfl, hx, hy⟩
    rw [hl, hu]
    obtain ⟨h1, h2⟩ := snd_minmax (tys := tys) (ty := ty) (cs := cs) h hx hy w
    exact ⟨v, h1, .pure h2⟩
  · rename_i x y hv
    have hr := evs_sound R hv
    obtain ⟨u, u', hu, hx, hy⟩ : ∃ u u', args.toList.map a.eval = [u, u'] ∧ VR N.P μ x u ∧ VR N.P μ y u' := by
      generalize args.toList.map a.eval = l at hr
      match l, hr with
      | [u, u'], ⟨hx, hy, _⟩ => exact ⟨u, u', rfl, hx, hy⟩
    rw [hl, hu]
    obtain ⟨h1, h2⟩ := snd_minmax (tys := tys) (ty := ty) (cs := cs) h hx hy w
    exact ⟨v, h1, .pure h2⟩
  · cases h
theorem condV_sound (R : StR N B n μ β s a w) {c x : Operand} {t want : Bool} {v : Value} (ht : ev s c = some (.bool t)) (h : condV s c t want x = some v) (hw : t = want) : VR N.P μ v (a.eval x) := by
  cases x with
  | tmp r =>
    simp only [condV] at h
    split at h
    · rename_i u hu
      cases h
      exact ev_sound R (x := .tmp r) (by simp [ev, hu])
    · rename_i d w q u hu
      split at h
      · rename_i e
        split at h
        · split at h
          · split at h
            · rename_i hq
              cases h
              have hs := R.slot r (lt_of_fget R (by rw [hu]; simp))
              rw [hu] at hs
              have hcl : condL [(d, w, q)] = true := by
                subst hw
                simp [condL, hq]
              simp only [SlotR, hcl, if_true] at hs
              exact hs
            · cases h
          · cases h
        · cases h
      · cases h
    · cases h
  | const k => exact ev_sound R (by simpa [condV] using h)
  | func f => exact ev_sound R (by simpa [condV] using h)
  | global g => exact ev_sound R (by simpa [condV] using h)
theorem pickV_sound (R : StR N B n μ β s a w) {c x y : Operand} {t : Bool} {v : Value} (ht : ev s c = some (.bool t)) (h : pickV s c t x y = some v) : VR N.P μ v (if t then a.eval x else a.eval y) := by
  unfold pickV at h
  split at h
  · rename_i p q hp hq
    cases h
    cases t with
    | true => exact condV_sound R ht hp rfl
    | false => exact condV_sound R ht hq rfl
  · split at h
    · exact ev_sound R h
    · exact ev_sound R h
theorem vop_sound (hN : EnvOK N) (R : StR N B n μ β s a w) {o : Oper} {v : Value} (h : vop N s o.op = some v) : ∃ v', (execOp a.eval o).run N.P w = .ok (.value v') w ∧ VR N.P μ v v' := by
  unfold vop at h
  split at h
  · rename_i x ho
    exact ⟨a.eval x, by simp [execOp, ho], ev_sound R h⟩
  · rename_i x ho
    exact ⟨a.eval x, by simp [execOp, ho], ev_sound R h⟩
  · rename_i c x y ho
    split at h
    · rename_i t hc
      have hb := (ev_sound R hc).bool
      refine ⟨if t then a.eval x else a.eval y, ?_, pickV_sound R hc h⟩
      cases t <;> simp [execOp, ho, hb, asBool]
    · cases h
  · rename_i t parts ho
    obtain ⟨v', h1, h2⟩ := snd_buildV R h
    exact ⟨v', by simp [execOp, ho, h1], h2⟩
  · rename_i t x ho
    obtain ⟨v', h1, h2⟩ := snd_load R h
    exact ⟨v', by simp [execOp, ho, h1], h2⟩
  · rename_i op t x y ty ho
    split at h
    · rename_i p q hp hq
      obtain ⟨v', h1, h2⟩ := snd_binV hN (X := x) (Y := y) h (ev_sound R hp) (ev_sound R hq) w
      refine ⟨v', ?_, h2⟩
      simp only [execOp, ho]
      rw [Sem.run_bind, h1]
      rfl
    · cases h
  · rename_i op t x ho
    split at h
    · rename_i p hp
      obtain ⟨v', h1, h2⟩ := snd_unF h (ev_sound R hp) w
      exact ⟨v', by simp [execOp, ho, h1], h2⟩
    · cases h
  · rename_i src dst x ho
    split at h
    · rename_i p hp
      obtain ⟨v', h1, h2⟩ := snd_convV h (ev_sound R hp) w
      exact ⟨v', by simp [execOp, ho, h1], h2⟩
    · cases h
  · rename_i t x f ho
    obtain ⟨v', h1, h2⟩ := snd_fieldAddr R h
    exact ⟨v', by simp [execOp, ho, h1], h2⟩
  · rename_i t x i ho
    obtain ⟨v', h1, h2⟩ := snd_indexAddr R h
    exact ⟨v', by simp [execOp, ho, h1], h2⟩
  · rename_i t x f ho
    obtain ⟨v', h1, h2⟩ := snd_field R h
    exact ⟨v', by simp [execOp, ho, h1], h2⟩
  · rename_i t x i ho
    obtain ⟨v', h1, h2⟩ := snd_index R h
    exact ⟨v', by simp [execOp, ho, h1], h2⟩
  · rename_i t x lo hi ho
    obtain ⟨v', h1, h2⟩ := snd_sliceV R h
    refine ⟨v', ?_, h2⟩
    simp only [execOp, ho, Option.map_none, Sem.run_bind, h1, Result.andThen_ok, Sem.run_pure]
  · rename_i x k ho
    split at h
    · rename_i vs hx
      obtain ⟨cs', he, hl⟩ := (ev_sound R hx).tupleInv
      obtain ⟨u', h1, h2⟩ := hl.get (i := k) (v := v) (by simpa using h)
      refine ⟨u', ?_, h2⟩
      have h1' : cs'[k]? = some u' := by simpa using h1
      simp [execOp, ho, he, Instr.extract, h1']
    · cases h
  · rename_i f first captured ho
    split at h
    · rename_i hf
      cases hq : evs s captured.toList with
      | none => simp [hq] at h
      | some l =>
        simp only [hq, Option.map_some, Option.some.injEq] at h
        subst h
        have hr := evs_sound R hq
        have he : first = #[] := by simpa using hf
        subst he
        refine ⟨.func (.func f) #[] (captured.map a.eval), by simp [execOp, ho, Instr.makeFunc], .func ?_ ?_⟩
        · simpa using hr.length
        · intro i v v' e e'
          exact hr.at (by simpa using e) (by simpa using e')
    · cases h
  · rename_i c ho
    split at h
    · rename_i b hb
      obtain ⟨v', h1, h2⟩ := snd_builtinV R (ty := o.type) (cs := c.args.map fun | .const _ => true | _ => false) h
      refine ⟨v', ?_, h2⟩
      simp only [execOp, ho, resolve, hb, Sem.run_bind, Sem.run_pure, Result.andThen_ok, invoke]
      exact h1
    · cases h
  · rename_i x ho
    split at h
    · rename_i ad hx
      cases h
      obtain ⟨id, off, ver, m, rfl, hm, he⟩ := (ev_sound R hx).ptrInv
      exact ⟨_, by simp only [execOp, ho, he]; rfl, .ptr hm⟩
    · rename_i f p q hx
      cases h
      have hv := ev_sound R hx
      obtain ⟨g, b', hg, rfl, he, hl⟩ := hv.funcInv
      rw [he] at hv
      exact ⟨_, by simp only [execOp, ho, he]; rfl, hv⟩
    · cases h
  · cases h
end
end Go.Proofs.Ytnlchlnkibpkaaa.Am
