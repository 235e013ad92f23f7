/- The abstract machine: each operation that turns nothing yields in the model what it yields here. -/
import Derived.Test.YtnlchlnkibpkaaaAm1
namespace Go.Proofs.Ytnlchlnkibpkaaa.Am
set_option linter.unusedSimpArgs false
set_option linter.unusedVariables false
open Go.RowKit

/-- what is asked of the table of equalities -/
def EnvOK (N : Env) : Prop := ∀ t chk, N.eqs t = some chk → EqOK N.P t chk ∧ ∀ l l' : List Value, ∀ μ : Mu, VRL N.P μ l l' → chk l = true → l' = l

section
variable {N : Env} {B : Bs} {n : Nat} {μ : Mu} {β : Nat → Nat} {s : St} {a : Act} {w : World}

theorem lt_of_fget (R : StR N B n μ β s a w) {t : Nat} (h : fget s.fr t ≠ .unk) : t < n := by
  rcases Nat.lt_or_ge t n with h' | h'
  · exact h'
  · exact absurd (R.hi t h') h
theorem ev_sound (R : StR N B n μ β s a w) {x : Operand} {v : Value} (h : ev s x = some v) : VR N.P μ v (a.eval x) := by
  cases x with
  | tmp t =>
    simp only [ev] at h
    split at h
    · rename_i u hu
      cases h
      have hs := R.slot t (lt_of_fget R (by rw [hu]; simp))
      rw [hu] at hs
      exact hs
    · cases h
  | const c =>
    simp only [ev] at h
    split at h
    · rename_i hp
      cases h
      exact VR.ofPureV hp
    · cases h
  | func f =>
    simp only [ev] at h
    cases h
    exact .func rfl fun i v v' e _ => by simp at e
  | global g => simp [ev] at h
theorem evs_sound (R : StR N B n μ β s a w) : ∀ {l : List Operand} {vs : List Value}, evs s l = some vs → VRL N.P μ vs (l.map a.eval)
  | [], vs, h => by
    simp only [evs] at h
    cases h
    trivial
  | x :: r, vs, h => by
    simp only [evs] at h
    split at h
    · rename_i v l hv hl
      cases h
      exact ⟨ev_sound R hv, evs_sound R hl⟩
    · cases h
theorem plc_sound (R : StR N B n μ β s a w) {x : Operand} {sl off : Nat} (h : plc s x = some (sl, off)) :
    a.eval x = .pointer (some ⟨β sl, off, none⟩) ∧ ∃ cs, fget s.fr sl = .box cs := by
  cases x with
  | tmp t =>
    simp only [plc] at h
    split at h
    · rename_i p hp
      obtain rfl : p = (sl, off) := by simpa using h
      have h2 := R.eph _ [] sl off (mem_of_eget hp)
      have h3 := h2.2.1
      simp only [condL, List.all_nil, if_true] at h3
      exact ⟨h3, h2.2.2⟩
    · cases h
    · split at h
      · rename_i cs hb
        cases h
        have hs := R.slot _ (lt_of_fget R (by rw [hb]; simp))
        rw [hb] at hs
        exact ⟨hs.1, cs, hb⟩
      · cases h
  | const c => simp [plc] at h
  | func f => simp [plc] at h
  | global g => simp [plc] at h
theorem box_row (R : StR N B n μ β s a w) {sl : Nat} {cs : List Value} (h : fget s.fr sl = .box cs) : RowR N.P μ (β sl) cs w := by
  have hs := R.slot sl (lt_of_fget R (by rw [h]; simp))
  rw [h] at hs
  exact hs.2
theorem RowR.cell {P : Program} {b : Nat} {cs : List Value} (h : RowR P μ b cs w) {j : Nat} {u : Value} (hu : cs[j]? = some u) : ∃ u', w.cell? ⟨b, j, none⟩ = some u' ∧ VR P μ u u' := by
  obtain ⟨cur, e, hw, hv, _⟩ := h
  obtain ⟨u', h1, h2⟩ := hv.get hu
  exact ⟨u', by simpa [World.cell?, hw] using h1, h2⟩

theorem gather {P : Program} {b : Nat} : ∀ (l : List Value) (o : Nat), (∀ (j : Nat) (u : Value), l[j]? = some u → ∃ u', w.cell? ⟨b, o + j, none⟩ = some u' ∧ VR P μ u u') →
    ∃ l', VRL P μ l l' ∧ ∀ (j : Nat) (u' : Value), l'[j]? = some u' → w.cell? ⟨b, o + j, none⟩ = some u'
  | [], _, _ => ⟨[], trivial, fun j u' h => by simp at h⟩
  | u :: l, o, h => by
    obtain ⟨u', h1, h2⟩ := h 0 u rfl
    obtain ⟨l', k1, k2⟩ := gather l (o + 1) fun j v hv => by
      have := h (j + 1) v (by simpa using hv)
      rwa [show o + (j + 1) = o + 1 + j from by omega] at this
    refine ⟨u' :: l', ⟨h2, k1⟩, fun j v hv => ?_⟩
    cases j with
    | zero => simp at hv; subst hv; exact h1
    | succ j => rw [show o + (j + 1) = o + 1 + j from by omega]; exact k2 j v (by simpa using hv)

theorem run_isAgg {P : Program} {t : TypeId} {d : TypeDesc} (h : P.underlying t = some d) (w : World) : (isAgg t).run P w = .ok (isAggD d) w := by
  cases d <;> simp [isAgg, run_underlying h, isAggD]
theorem run_sizeOf' {P : Program} {t : TypeId} {i : TypeInfo} (h : P.info? t = some i) (w : World) : (sizeOf t).run P w = .ok i.size w := by simp [sizeOf, typeInfo, h]

/-- a load: of a variable whose cells lie at b, base + .. -/
theorem snd_ld {P : Program} {t : TypeId} {ti : TI} {cells : List Value} {b base off : Nat} {v : Value} (ht : tinfo P t = some ti) (hv : ldC ti cells off = some v)
    (hc : ∀ (j : Nat) (u : Value), cells[j]? = some u → ∃ u', w.cell? ⟨b, base + j, none⟩ = some u' ∧ VR P μ u u') :
    ∃ v', (loadVar t ⟨b, base + off, none⟩).run P w = .ok v' w ∧ VR P μ v v' := by
  obtain ⟨i, d, hi, hd, rfl⟩ := tinfo_some ht
  unfold ldC at hv
  simp only at hv
  split at hv
  · rename_i hagg
    unfold Am.rdC at hv
    split at hv
    · rename_i hle
      simp only [Option.map_some, Option.some.injEq] at hv
      subst hv
      obtain ⟨l', k1, k2⟩ := gather (w := w) (P := P) (μ := μ) (b := b) ((cells.drop off).take i.size) (base + off) fun j u hu => by
        rw [List.getElem?_take] at hu
        split at hu
        · rw [List.getElem?_drop] at hu
          have := hc (off + j) u hu
          rwa [← Nat.add_assoc] at this
        · cases hu
      have hl : l'.length = i.size := by
        rw [← k1.length, List.length_take, List.length_drop]
        omega
      refine ⟨.agg l'.toArray, ?_, k1.agg⟩
      have hr := run_loadCells_list (P := P) w ⟨b, base + off, none⟩ l' fun j u hu => by
        rw [Addr.add_lit]
        exact k2 j u hu
      rw [hl] at hr
      simp [loadVar, run_isAgg hd, hagg, run_sizeOf' hi, hr]
    · simp at hv
  · rename_i hagg
    obtain ⟨u', h1, h2⟩ := hc off v hv
    refine ⟨u', ?_, h2⟩
    simp [loadVar, run_isAgg hd, hagg, h1]
theorem snd_load (R : StR N B n μ β s a w) {t : TypeId} {x : Operand} {v : Value} (h : loadV N s t x = some v) : ∃ v', (Instr.loadAt t (a.eval x)).run N.P w = .ok v' w ∧ VR N.P μ v v' := by
  unfold loadV at h
  split at h
  · cases h
  · rename_i ti ht
    split at h
    · rename_i sl off hp
      obtain ⟨he, _⟩ := plc_sound R hp
      split at h
      · rename_i cs hb
        obtain ⟨v', h1, h2⟩ := snd_ld (w := w) (μ := μ) (b := β sl) (base := 0) ht h fun j u hu => by
          rw [Nat.zero_add]
          exact (box_row R hb).cell hu
        rw [Nat.zero_add] at h1
        exact ⟨v', by simp [Instr.loadAt, Instr.sureAddr, he, h1], h2⟩
      · cases h
    · split at h
      · rename_i ad hv
        obtain ⟨id, off, ver, m, rfl, hm, he⟩ := (ev_sound R hv).ptrInv
        simp only [ldH] at h
        split at h
        · rename_i cells v' own et ho
          split at h
          · rename_i hver
            subst hver
            obtain ⟨m', hm'⟩ := R.heap.obj _ _ _ _ _ ho
            have := hm'.at
            rw [hm] at this
            cases this
            have h : ldC ti cells off = some v := h
            obtain ⟨v'', h1, h2⟩ := snd_ld (w := w) (μ := μ) (b := m.block) (base := m.base) ht h hm'.cell
            exact ⟨v'', by simp [Instr.loadAt, Instr.sureAddr, he, h1], h2⟩
          · cases h
        · cases h
      · cases h

theorem fieldOff_some {P : Program} {t : TypeId} {f o : Nat} {ft : TypeId} (h : fieldOff P t f = some (o, ft)) :
    ∃ fs fd i, P.underlying t = some (.struct fs) ∧ fs[f]? = some fd ∧ P.info? fd.type = some i ∧ i.size ≠ 0 ∧ o = fd.offset ∧ ft = fd.type := by
  unfold fieldOff at h
  split at h
  · rename_i fs hfs
    split at h
    · rename_i fd hfd
      split at h
      · rename_i i hi
        split at h
        · cases h
        · rename_i hz
          cases h
          exact ⟨fs, fd, i, hfs, hfd, hi, hz, rfl, rfl⟩
      · cases h
    · cases h
  · cases h
theorem run_fieldAt' {P : Program} {t : TypeId} {f o : Nat} {ft : TypeId} (h : fieldOff P t f = some (o, ft)) (b off : Nat) (w : World) :
    (Instr.fieldAt t (.pointer (some ⟨b, off, none⟩)) f).run P w = .ok (.pointer (some ⟨b, off + o, none⟩)) w := by
  obtain ⟨fs, fd, i, h1, h2, h3, h4, rfl, rfl⟩ := fieldOff_some h
  simp [Instr.fieldAt, run_underlying h1, h2, Instr.sureAddr, fieldPlace, run_sizeOf' h3, h4, Addr.add_lit]
theorem snd_fieldAddr (R : StR N B n μ β s a w) {t : TypeId} {x : Operand} {f : Nat} {v : Value} (h : fieldAddrV N s t x f = some v) :
    ∃ v', (Instr.fieldAt t (a.eval x) f).run N.P w = .ok v' w ∧ VR N.P μ v v' := by
  unfold fieldAddrV at h
  split at h
  · rename_i o ft ad hf hv
    cases h
    obtain ⟨id, off, ver, m, rfl, hm, he⟩ := (ev_sound R hv).ptrInv
    refine ⟨_, by rw [he]; exact run_fieldAt' hf _ _ _, ?_⟩
    rw [Nat.add_assoc]
    exact .ptr hm
  · cases h
theorem VR.slE {P : Program} {ad : Addr} {len c : Nat} {v' : Value} (h : VR P μ (.slice (some ad) len c) v') (hs : ad.spot = none) : len = 0 := by
  cases h with
  | pure h => simp [pure1] at h
  | slice h a b c => cases hs
  | slice0 h a => rfl
  | sliceE => rfl
theorem VR.slAny {P : Program} {ad : Addr} {len c : Nat} {v' : Value} (h : VR P μ (.slice (some ad) len c) v') : ∃ a cap, v' = .slice (some a) len cap ∧ len ≤ cap := by
  cases h with
  | pure h => simp [pure1] at h
  | slice h a b c => exact ⟨_, _, rfl, a⟩
  | slice0 h a => exact ⟨_, _, rfl, Nat.le_refl _⟩
  | sliceE => exact ⟨_, _, rfl, Nat.le_refl _⟩
theorem VR.slInv {P : Program} {ad : Addr} {len c : Nat} {v' : Value} (hs : ad.spot ≠ none) (h : VR P μ (.slice (some ad) len c) v') :
    ∃ id off ver m o cap, ad = ⟨id, off, some ver⟩ ∧ mAt μ id ver = some m ∧ v' = .slice (some ⟨m.block, o, none⟩) len cap ∧ len ≤ cap ∧ cap ≤ maxLen ∧
      ((o = m.base + off ∧ off + cap * P.cellsOf m.et = m.room) ∨ (len = 0 ∧ cap = 0 ∧ 0 < off)) := by
  cases h with
  | pure h => simp [pure1] at h
  | slice h a b c => exact ⟨_, _, _, _, _, _, rfl, h, rfl, a, b, .inl ⟨rfl, c⟩⟩
  | slice0 h a => exact ⟨_, _, _, _, _, _, rfl, h, rfl, Nat.le_refl _, by simp [maxLen], .inr ⟨rfl, rfl, a⟩⟩
  | sliceE => exact (hs rfl).elim
theorem elem_of {P : Program} {t e : TypeId} (h : P.underlying t = some (.slice e)) : P.elem t = e := by simp [Program.elem, h]
theorem elem_of_arr {P : Program} {t e : TypeId} {m : Nat} (h : P.underlying t = some (.array m e)) : P.elem t = e ∧ P.arrayLen t = m := by simp [Program.elem, Program.arrayLen, h]
theorem run_indexAt_arr {P : Program} {t e : TypeId} {m : Nat} {ti : TI} (h : P.underlying t = some (.array m e)) (ht : tinfo P e = some ti) (b off : Nat) (k : IntKind) (i : Int) (h0 : 0 ≤ i) (h1 : i < (m : Int)) (w : World) :
    (Instr.indexAt t (.pointer (some ⟨b, off, none⟩)) (.int k i)).run P w = .ok (.pointer (some ⟨b, off + i.toNat * ti.size, none⟩)) w := by
  obtain ⟨j, d, hi, hd, rfl⟩ := tinfo_some ht
  obtain ⟨e1, e2⟩ := elem_of_arr h
  rw [run_indexAt_array w t ⟨b, off, none⟩ k i (by rw [e1, e2]; exact h), e1, e2, if_pos ⟨h0, h1⟩, run_sizeOf' hi]
  simp [Addr.add_lit]
theorem snd_indexAddr (R : StR N B n μ β s a w) {t : TypeId} {x i : Operand} {v : Value} (h : indexAddrV N s t x i = some v) :
    ∃ v', (Instr.indexAt t (a.eval x) (a.eval i)).run N.P w = .ok v' w ∧ VR N.P μ v v' := by
  unfold indexAddrV at h
  split at h
  · rename_i e ad len c k q hu hx hi
    split at h
    · rename_i ti ht
      split at h
      · rename_i hr
        cases h
        obtain ⟨j, d, hj, hd, rfl⟩ := tinfo_some ht
        have hspot : ad.spot ≠ none := fun hs => by
          have := (ev_sound R hx).slE hs
          omega
        obtain ⟨id, off, ver, m, o, cap, rfl, hm, he, hlc, _, hcase⟩ := (ev_sound R hx).slInv hspot
        have hi' := (ev_sound R hi).int
        rcases hcase with ⟨rfl, _⟩ | ⟨h0, _, _⟩
        · refine ⟨.pointer (some ⟨m.block, m.base + off + q.toNat * j.size, none⟩), ?_, ?_⟩
          · rw [he, hi', run_indexAt_slice w t _ len cap k q (by rw [elem_of hu]; exact hu), if_pos hr, elem_of hu, run_sizeOf' hj]
            simp [Addr.add_lit]
          · rw [Nat.add_assoc]
            exact .ptr hm
        · omega
      · cases h
    · cases h
  · rename_i m e ad k q hu hx hi
    split at h
    · rename_i ti ht
      split at h
      · rename_i hr
        cases h
        obtain ⟨id, off, ver, mm, rfl, hm, he⟩ := (ev_sound R hx).ptrInv
        have hi' := (ev_sound R hi).int
        refine ⟨_, by rw [he, hi']; exact run_indexAt_arr hu ht _ _ _ _ hr.1 hr.2 _, ?_⟩
        rw [Nat.add_assoc]
        exact .ptr hm
      · cases h
    · cases h
  · cases h

/-- a part of a value -/
theorem snd_part {P : Program} {t : TypeId} {ti : TI} {cs cs' : Array Value} {off : Nat} {v : Value} (ht : tinfo P t = some ti) (hv : ldC ti cs.toList off = some v) (h : VRL P μ cs.toList cs'.toList) :
    ∃ v', (part t cs' off).run P w = .ok v' w ∧ VR P μ v v' := by
  obtain ⟨i, d, hi, hd, rfl⟩ := tinfo_some ht
  unfold ldC at hv
  simp only at hv
  split at hv
  · rename_i hagg
    cases hr : Am.rdC cs.toList off i.size with
    | none => simp [hr] at hv
    | some l =>
      simp only [hr, Option.map_some, Option.some.injEq] at hv
      subst hv
      obtain ⟨r', h1, h2, h3, rfl⟩ := h.rdC hr
      have e : cs'.extract off (off + i.size) = ((cs'.toList.drop off).take i.size).toArray := by
        apply Array.toList_inj.1
        rw [Array.toList_extract]
        simp [List.extract]
      refine ⟨.agg ((cs'.toList.drop off).take i.size).toArray, ?_, h2.agg⟩
      simp [part, run_isAgg hd, hagg, run_sizeOf' hi, e]
  · rename_i hagg
    obtain ⟨u', h1, h2⟩ := h.get hv
    have h1' : cs'[off]? = some u' := by simpa using h1
    exact ⟨u', by simp [part, run_isAgg hd, hagg, h1'], h2⟩
theorem snd_field (R : StR N B n μ β s a w) {t : TypeId} {x : Operand} {f : Nat} {v : Value} (h : fieldV N s t x f = some v) :
    ∃ v', (Instr.field t (a.eval x) f).run N.P w = .ok v' w ∧ VR N.P μ v v' := by
  unfold fieldV at h
  split at h
  · rename_i o ft cs hf hv
    split at h
    · rename_i ti ht
      obtain ⟨fs, fd, i, h1, h2, h3, h4, rfl, rfl⟩ := fieldOff_some hf
      obtain ⟨cs', he, hl⟩ := (ev_sound R hv).aggInv
      obtain ⟨v', k1, k2⟩ := snd_part (w := w) ht h hl
      exact ⟨v', by simp [Instr.field, run_underlying h1, h2, he, asAgg, k1], k2⟩
    · cases h
  · cases h
theorem snd_index (R : StR N B n μ β s a w) {t : TypeId} {x i : Operand} {v : Value} (h : indexV N s t x i = some v) :
    ∃ v', (Instr.index t (a.eval x) (a.eval i)).run N.P w = .ok v' w ∧ VR N.P μ v v' := by
  unfold indexV at h
  split at h
  · rename_i m e cs k q hu hx hi
    split at h
    · rename_i ti ht
      split at h
      · rename_i hr
        obtain ⟨j, d, hj, hd, rfl⟩ := tinfo_some ht
        obtain ⟨cs', he, hl⟩ := (ev_sound R hx).aggInv
        have hi' := (ev_sound R hi).int
        obtain ⟨v', k1, k2⟩ := snd_part (w := w) ht h hl
        exact ⟨v', by simp only [Instr.index, he, hi', asIntOf, Sem.run_bind, Sem.run_pure, Result.andThen_ok, run_underlying hu, hr, and_self, if_true, run_sizeOf' hj, k1], k2⟩
      · cases h
    · cases h
  · rename_i b k q hu hx hi
    split at h
    · rename_i h0
      split at h
      · rename_i c hc
        cases h
        have hx' := (ev_sound R hx).string
        have hi' := (ev_sound R hi).int
        refine ⟨.int .u8 c.toNat, ?_, .pure rfl⟩
        simp [Instr.index, hx', hi', asIntOf, run_underlying hu, h0, hc]
      · cases h
    · cases h
  · cases h
end
end Go.Proofs.Ytnlchlnkibpkaaa.Am
