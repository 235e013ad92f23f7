/- The abstract machine: the judgement is sound (the induction). -/
import Derived.Test.YtnlchlnkibpkaaaAm7
namespace Go.Proofs.Ytnlchlnkibpkaaa.Am
set_option linter.unusedSimpArgs false
set_option linter.unusedVariables false
open Go.RowKit

section
variable {N : Env} {B : Bs} {n : Nat} {μ μ' : Mu} {β : Nat → Nat} {s : St} {a : Act} {w w' : World}

/-! ### append -/
theorem itemsC_sound (R : StR N B n μ β s a w) {sz m : Nat} {y : Operand} {cs : List Value} (h : itemsC s s.h sz y = some (cs, m)) :
    ∃ ad c news, a.eval y = .slice (some ad) m c ∧ VRL N.P μ cs news ∧ cs.length = m * sz ∧ cs.all one = true ∧ ∀ (j : Nat) (u : Value), news[j]? = some u → w.cell? (ad.add j) = some u := by
  unfold itemsC at h
  split at h
  · rename_i t
    split at h
    · rename_i l k ht
      split at h
      · rename_i hl
        cases h
        have hs := R.slot t (lt_of_fget R (by rw [ht]; simp))
        rw [ht] at hs
        obtain ⟨he, cur, e, hr, hv, h1⟩ := hs
        refine ⟨_, _, cur.toList, he, hv, hl, h1, ?_⟩
        intro j u hj
        rw [Addr.add_lit, Nat.zero_add]
        simpa [World.cell?, hr] using hj
      · cases h
    · rename_i id off ver k c ht
      split at h
      · rename_i cells v own et ho
        split at h
        · rename_i hve
          subst hve
          have h : (Am.rdC cells off (k * sz)).map (fun l => (l, k)) = some (cs, m) := h
          cases hq : Am.rdC cells off (k * sz) with
          | none => simp [hq] at h
          | some l =>
            simp only [hq, Option.map_some, Option.some.injEq, Prod.mk.injEq] at h
            obtain ⟨rfl, rfl⟩ := h
            have hev : ev s (.tmp t) = some (.slice (some ⟨id, off, some v⟩) k c) := by simp [ev, ht]
            obtain ⟨id', off', ver', m, o, cap, hid, hm, he, hlc, _, hcase⟩ := (ev_sound R hev).slInv (by simp)
            cases hid
            have O := R.heap.get ho hm
            have hq' := hq
            unfold Am.rdC at hq'
            split at hq'
            case isFalse => cases hq'
            rename_i hle
            cases hq'
            obtain ⟨news, k1, k2⟩ := gather (w := w) (P := N.P) (μ := μ) (b := m.block) ((cells.drop off).take (k * sz)) (m.base + off) fun j u hu => by
              rw [List.getElem?_take] at hu
              split at hu
              · rw [List.getElem?_drop] at hu
                have := O.cell (off + j) u hu
                rwa [← Nat.add_assoc] at this
              · cases hu
            have hlen : ((cells.drop off).take (k * sz)).length = k * sz := by
              rw [List.length_take, List.length_drop]
              omega
            have hone : ((cells.drop off).take (k * sz)).all one = true := by
              have := O.one
              rw [List.all_eq_true] at this ⊢
              exact fun x hx => this x (List.mem_of_mem_drop (List.mem_of_mem_take hx))
            refine ⟨⟨m.block, o, none⟩, cap, news, he, k1, hlen, hone, ?_⟩
            intro j u hj
            rw [Addr.add_lit]
            rcases hcase with ⟨rfl, _⟩ | ⟨h0, _, _⟩
            · exact k2 j u hj
            · subst h0
              have hn := k1.length
              rw [hlen, Nat.zero_mul] at hn
              have : news = [] := List.eq_nil_of_length_eq_zero hn.symm
              subst this
              simp at hj
        · cases h
      · cases h
    · cases h
  · cases h
theorem news_one {P : Program} {cs news : List Value} (h : VRL P μ cs news) (h1 : cs.all one = true) : ∀ u ∈ news, u.oneCell' = true := fun u hu => by
  rw [← one_iff]
  exact List.all_eq_true.1 (h.all_one h1) u hu
theorem zero_of {P : Program} {e : TypeId} {ti : TI} (ht : tinfo P e = some ti) (hz : (ti.zero.map fun z => z.cells.size) = some ti.size) :
    ∃ i z, P.info? e = some i ∧ i.zero = some z ∧ i.size = ti.size ∧ i.bytes = ti.bytes ∧ z.cells.size = ti.size := by
  obtain ⟨i, d, hi, hd, rfl⟩ := tinfo_some ht
  simp only at hz
  cases hzz : i.zero with
  | none => simp [hzz] at hz
  | some z => exact ⟨i, z, hi, hzz, rfl, rfl, by simpa [hzz] using hz⟩
theorem run_app_op {P : Program} {x y : Operand} {t : TypeId} {o : Oper} (ho : o.op = .call { callee := .builtin .append, args := #[x, y], argTypes := #[t, t] }) {v : Value}
    (hr : (Builtin.append_ #[t, t] o.type #[a.eval x, a.eval y]).run P w = .ok v w') : (execOp a.eval o).run P w = .ok (.value v) w' := by
  simp only [execOp, ho, resolve, Sem.run_bind, Sem.run_pure, Result.andThen_ok, invoke, builtin, List.map_toArray, List.map_cons, List.map_nil, hr]
theorem snd_app0 (R : StR N B n μ β s a w) {o : Oper} {x y : Operand} {t e : TypeId} {ti : TI} {cs : List Value} {m : Nat} (hd : ∀ d, o.dst = some d → d < n)
    (ho : o.op = .call { callee := .builtin .append, args := #[x, y], argTypes := #[t, t] }) (hu : N.P.underlying t = some (.slice e)) (ht : tinfo N.P e = some ti) (hs0 : 0 < ti.size)
    (hz : (ti.zero.map fun z => z.cells.size) = some ti.size) (hx : ev s x = some (.slice none 0 0)) (hy : itemsC s s.h ti.size y = some (cs, m)) (hm : 0 < m) (hb : m * ti.bytes ≤ 140737488355328) (hmx : m ≤ 140737488355328) :
    ∃ v' w' μ' β', (execOp a.eval o).run N.P w = .ok (.value v') w' ∧ StR N B n μ' β' ({ s with h := s.h ++ [HObj.arr cs 0 true e] }.putO o.dst (.val (.slice (some ⟨s.h.length, 0, some 0⟩) m m))) (a.put o.dst v') w' := by
  obtain ⟨i, z, hi, hzz, hsz, hby, hzs⟩ := zero_of ht hz
  obtain ⟨ad, c, news, he, hv, hlen, h1, hnews⟩ := itemsC_sound R hy
  have hxe : a.eval x = .slice none 0 0 := (ev_sound R hx).of_pure1 rfl
  have hml : maxLen = 9223372036854775807 := by simp [maxLen]
  obtain ⟨v', w', hr, hown, hg, hnil, hat⟩ := run_append_own_at (P := N.P) w w.heap.size t o.type e i z ti.size ti.bytes hu hi hzz hsz hby hzs hs0 (.slice none 0 0) 0 [] (World.ownsRow_nil w w.heap.size e ti.size) ad m c news
    (by rw [← hv.length]; exact hlen) hnews (news_one hv h1) (by omega) (by simpa using hb) (Nat.le_refl _)
  simp only [Nat.zero_add, List.nil_append] at hown
  obtain ⟨hl2, h2⟩ := hown
  rcases h2 with ⟨_, h0⟩ | ⟨g, cap, cur, rfl, hgb, hgr, hmc, hcm, hcs, htake⟩
  · omega
  · have hw : ∀ k, k < w.heap.size → w'.heap[k]? = w.heap[k]? := fun k hk => hg.block k hk (by simp [Value.ownBlock])
    obtain ⟨μ', β', _, h⟩ := R.objNew (d := o.dst) (cells := cs) (cur := cur) (e := e) (v := .slice (some ⟨s.h.length, 0, some 0⟩) m m) (v' := .slice (some ⟨g, 0, none⟩) m cap) hd hg.os hg.tape hg.output hg.size hw hgb
      (Array.getElem?_eq_some_iff.1 hgr).1 hgr
      (fun j v hj => by
        obtain ⟨v', k1, k2⟩ := hv.get hj
        rw [← htake, List.getElem?_take] at k1
        split at k1
        · exact ⟨v', by simpa using k1, k2⟩
        · cases k1)
      h1 (by
        have := mAt_push_new μ ⟨g, 0, cur.size, e⟩
        rw [R.heap.len] at this
        have hh := VR.slice (P := N.P) (c := m) (len := m) (cap := cap) (off := 0) this hmc hcm (by simp only [hcs, tinfo_cellsOf ht]; omega)
        simpa using hh)
    exact ⟨_, w', μ', β', run_app_op ho (by rw [hxe, he]; exact hr), h⟩
theorem snd_app (R : StR N B n μ β s a w) {o : Oper} {x y : Operand} {t e : TypeId} {ti : TI} {cs cells : List Value} {m k c id ver : Nat} (hd : ∀ d, o.dst = some d → d < n)
    (ho : o.op = .call { callee := .builtin .append, args := #[x, y], argTypes := #[t, t] }) (hu : N.P.underlying t = some (.slice e)) (ht : tinfo N.P e = some ti) (hs0 : 0 < ti.size)
    (hz : (ti.zero.map fun z => z.cells.size) = some ti.size) (hx : ev s x = some (.slice (some ⟨id, 0, some ver⟩) k c)) (hob : s.h[id]? = some (.arr cells ver true e)) (hkl : k * ti.size ≤ cells.length)
    (hy : itemsC s s.h ti.size y = some (cs, m)) (hb : (k + m) * ti.bytes ≤ 140737488355328) (hmx : k + m ≤ 140737488355328) :
    ∃ v' w' μ' β', (execOp a.eval o).run N.P w = .ok (.value v') w' ∧
      StR N B n μ' β' ({ s with h := s.h.set id (HObj.arr (cells.take (k * ti.size) ++ cs) (ver + 1) true e) }.putO o.dst (.val (.slice (some ⟨id, 0, some (ver + 1)⟩) (k + m) (k + m)))) (a.put o.dst v') w' := by
  obtain ⟨i, z, hi, hzz, hsz, hby, hzs⟩ := zero_of ht hz
  obtain ⟨ad, cc, news, he, hv, hlen, h1, hnews⟩ := itemsC_sound R hy
  obtain ⟨id', off', ver', q, oo, cap, hid, hq, hxe, hkc, hcm, hcase⟩ := (ev_sound R hx).slInv (by simp)
  cases hid
  have O := R.heap.get hob hq
  obtain ⟨hb0, cur, hr, hroom⟩ := O.own rfl
  obtain ⟨hoo, hrm⟩ : oo = q.base + 0 ∧ 0 + cap * N.P.cellsOf q.et = q.room := by
    rcases hcase with h | ⟨_, _, h0⟩
    · exact h
    · omega
  rw [hb0] at hoo
  simp only [Nat.zero_add, O.ez, tinfo_cellsOf ht, hroom] at hrm hoo
  subst hoo
  have hml : maxLen = 9223372036854775807 := by simp [maxLen]
  have hks : k * ti.size ≤ cur.size := by rw [← hrm]; exact Nat.mul_le_mul_right _ hkc
  have hrow : w.ownsRow 0 e ti.size (.slice (some ⟨q.block, 0, none⟩) k cap) k (cur.toList.take (k * ti.size)) :=
    ⟨by rw [List.length_take, Array.length_toList]; omega, .inr ⟨q.block, cap, cur, rfl, Nat.zero_le _, hr, hkc, hcm, hrm.symm, rfl⟩⟩
  obtain ⟨v', w', hrun, hown, hg, hnil, hat⟩ := run_append_own_at (P := N.P) w 0 t o.type e i z ti.size ti.bytes hu hi hzz hsz hby hzs hs0 _ k _ hrow ad m cc news
    (by rw [← hv.length]; exact hlen) hnews (news_one hv h1) (by omega) hb (Nat.zero_le _)
  obtain ⟨hl2, h2⟩ := hown
  rcases h2 with ⟨h0, _⟩ | ⟨g, cap', cur', rfl, _, hgr, hmc, hcm', hcs, htake⟩
  · have := hnil.1 h0
    simp at this
  have hgq : g = q.block ∨ g = w.heap.size := by
    rcases hat with h | h
    · left; simpa [Value.ownBlock] using h
    · right; simpa [Value.ownBlock] using h
  have hlt : id < s.h.length := by
    rcases Nat.lt_or_ge id s.h.length with h' | h'
    · exact h'
    · simp [List.getElem?_eq_none h'] at hob
  obtain ⟨hs, g1, g2, g3⟩ := O.hist
  let m' : M := ⟨g, 0, cur'.size, e⟩
  have hbump : (muBump μ id m')[id]? = some (hs ++ [m']) := by simp [muBump, g1]
  have hsame : ∀ i', i' ≠ id → (muBump μ id m')[i']? = μ[i']? := fun i' hi' => by simp [muBump, Ne.symm hi']
  have hnew : mAt (muBump μ id m') id (ver + 1) = some m' := by
    unfold mAt
    rw [hbump]
    simp only
    rw [← g2, List.getElem?_append_right (Nat.le_refl _)]
    simp
  have hwo : ∀ k', k' < w.heap.size → k' ≠ q.block → w'.heap[k']? = w.heap[k']? := fun k' hk' hne => hg.block k' hk' (by simpa [Value.ownBlock] using hne)
  have hgl : g < w'.heap.size := (Array.getElem?_eq_some_iff.1 hgr).1
  have htk : VRL N.P μ (cells.take (k * ti.size)) (cur.toList.take (k * ti.size)) := by
    refine VRL.of ?_ ?_
    · have hcl : cur.toList.length = cur.size := Array.length_toList
      rw [List.length_take, List.length_take, hcl, Nat.min_eq_left hkl, Nat.min_eq_left hks]
    · intro j u u' hj hj'
      rw [List.getElem?_take] at hj hj'
      split at hj
      · rename_i hlt'
        rw [if_pos hlt'] at hj'
        obtain ⟨u2, k1, k2⟩ := O.cell j u hj
        rw [hb0, Nat.zero_add] at k1
        simp only [World.cell?, hr] at k1
        simp at k1 hj'
        rw [hj'] at k1
        cases k1
        exact k2
      · cases hj
  have hall := htk.append hv
  rw [← htake] at hall
  have hO : ObjR N.P (muBump μ id m') w' id (cells.take (k * ti.size) ++ cs) (ver + 1) true e m' := by
    refine ⟨⟨_, hbump, by simp [g2], by rw [← g2, List.getElem?_append_right (Nat.le_refl _)]; simp⟩, rfl, ?_, ?_, hgl, fun _ => ⟨rfl, cur', hgr, rfl⟩⟩
    · intro j u hj
      obtain ⟨u', k1, k2⟩ := hall.get hj
      rw [List.getElem?_take] at k1
      split at k1
      · refine ⟨u', ?_, k2.mono (Ext.bump _ _ _)⟩
        show w'.cell? ⟨g, 0 + j, none⟩ = some u'
        simp only [World.cell?, hgr, Nat.zero_add]
        simpa using k1
      · cases k1
    · rw [List.all_append, h1, Bool.and_true]
      have := O.one
      rw [List.all_eq_true] at this ⊢
      exact fun x hx => this x (List.mem_of_mem_take hx)
  have hown0 : OwnB μ s.h q.block := ⟨id, cells, ver, e, q, hob, hq, rfl⟩
  have hx0 := R.own _ hown0
  have hfs := R.fr.size
  have hplt := fun (t : Nat) (hp : priv (fget s.fr t) = true) => (R.bnew t hp).2
  obtain ⟨β', hfin⟩ := R.updO (d := o.dst) (v := .slice (some ⟨id, 0, some (ver + 1)⟩) (k + m) (k + m)) (v' := .slice (some ⟨g, 0, none⟩) (k + m) cap') hd (Ext.bump μ id m')
    (R.heap.repl hob hq (Ext.bump μ id m') (by simp [muBump]) hsame hO (by rcases hgq with h | h; exact .inl h; exact .inr (by simp only [m']; omega)) hg.size hwo)
    ⟨hg.os.trans R.fr.os, hg.tape.trans R.fr.tape, hg.output.trans R.fr.output, Nat.le_trans hfs hg.size, fun k' hk' hn => (hwo k' (Nat.lt_of_lt_of_le hk' hfs) (fun e' => by rcases hx0 with h | h; exact hn (e' ▸ h); omega)).trans (R.fr.block k' hk' hn)⟩
    (fun b hb => by
      rcases own_repl hsame hnew hb with h | h
      · exact R.own b h
      · rcases hgq with h' | h'
        · rw [h]; simp only [m']; rw [h']; exact hx0
        · rw [h]; simp only [m']; exact .inr (by omega))
    (fun b hb => by
      rcases blk_repl hsame hnew hb with h | h
      · exact R.blk b h
      · rcases hgq with h' | h'
        · rw [h]; simp only [m']; rw [h']; exact R.blk _ hown0.blk
        · rw [h]; simp only [m']; exact .inr (by omega))
    hg.size (fun t hp => hwo _ (hplt t hp) fun e' => R.bsep t hp (e' ▸ hown0.blk))
    (fun t hp hb => by
      rcases blk_repl hsame hnew hb with h | h
      · exact R.bsep t hp h
      · rcases hgq with h' | h'
        · exact R.bsep t hp (by rw [h]; simp only [m']; rw [h']; exact hown0.blk)
        · have := hplt t hp
          simp only [m'] at h
          omega)
    (by
      have hh := VR.slice (P := N.P) (c := k + m) (len := k + m) (cap := cap') (off := 0) hnew hmc hcm' (by simp only [m', hcs, tinfo_cellsOf ht]; omega)
      simpa [m'] using hh)
  exact ⟨_, w', _, β', run_app_op ho (by rw [hxe, he]; exact hrun), hfin⟩
end
end Go.Proofs.Ytnlchlnkibpkaaa.Am
