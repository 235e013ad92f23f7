/- Lists under construction; CopyGram. -/
import Derived.Test.YtnlchlnkibpkaaaFe
namespace Go.Proofs.Ytnlchlnkibpkaaa
set_option linter.unusedSimpArgs false
set_option linter.unusedVariables false
open Go.RowKit Am Ty

/-- read whatever becomes of object `id` -/
def RdSymsN (id : Nat) (h : Heap) (u : Value) (l : List KSym) : Prop := ∀ h' : Heap, (∀ j o, j ≠ id → h[j]? = some o → h'[j]? = some o) → RdSyms h' u l
theorem RdSymsN.rd {id : Nat} {h : Heap} {u : Value} {l : List KSym} (k : RdSymsN id h u l) : RdSyms h u l := k h fun _ _ _ h => h
theorem RdSymsN.mono {id : Nat} {h h' : Heap} {u : Value} {l : List KSym} (k : RdSymsN id h u l) (hh : ∀ j o, j ≠ id → h[j]? = some o → h'[j]? = some o) : RdSymsN id h' u l :=
  fun h2 h3 => k h2 fun j o hj ho => h3 j o hj (hh j o hj ho)
abbrev rowf (p : Rule × Value) : List Value := [i64 p.1.lhs, p.2]
/-- a list of rules that is built: of the call's own -/
def BuiltR (h hk : Heap) (u : Value) (l : List Rule) : Prop :=
  h <+: hk ∧ l.length ≤ 1000000 ∧ ∃ us : List Value, us.length = l.length ∧ ((l = [] ∧ u = .slice none 0 0) ∨ ∃ id ver, h.length ≤ id ∧ u = .slice (some ⟨id, 0, some ver⟩) l.length l.length ∧
    hk[id]? = some (.arr ((l.zip us).flatMap rowf) ver true 48) ∧ ∀ (i : Nat) (r : Rule) (x : Value), l[i]? = some r → us[i]? = some x → RdSymsN id hk x r.rhs)
theorem getElem?_prefix {hk h1 : Heap} (hp : hk <+: h1) : ∀ {j : Nat} {o : HObj}, hk[j]? = some o → h1[j]? = some o := fun h => getElem?_of_prefix hp h
theorem BuiltR.grow {h hk h1 : Heap} {u : Value} {l : List Rule} (b : BuiltR h hk u l) (hp : hk <+: h1) : BuiltR h h1 u l := by
  obtain ⟨b1, b0, us, b2, b3⟩ := b
  refine ⟨b1.trans hp, b0, us, b2, ?_⟩
  rcases b3 with b3 | ⟨id, ver, c1, c2, c3, c4⟩
  · exact .inl b3
  · exact .inr ⟨id, ver, c1, c2, getElem?_prefix hp c3, fun i r x h1 h2 => (c4 i r x h1 h2).mono fun j o _ ho => getElem?_prefix hp ho⟩
theorem BuiltR.rd {h hk : Heap} {u : Value} {l : List Rule} (b : BuiltR h hk u l) : RdRules hk u l := by
  obtain ⟨b1, b0, us, b2, b3⟩ := b
  rcases b3 with ⟨rfl, rfl⟩ | ⟨id, ver, c1, c2, c3, c4⟩
  · exact ⟨[], rfl, ⟨by simp, .inl ⟨.inl rfl, rfl, rfl⟩⟩, fun i r u h => by simp at h⟩
  · exact ⟨us, b2, ⟨by omega, .inr ⟨id, ver, true, _, c2, c3⟩⟩, fun i r x h1 h2 => (c4 i r x h1 h2).rd⟩
theorem syms_all {l : List KSym} : rdH (l.flatMap KSym.cells) 0 (l.length * 5) = some (l.flatMap KSym.cells) := by
  have : (l.flatMap KSym.cells).length = l.length * 5 := by
    induction l with
    | nil => rfl
    | cons x l ih => simp only [List.flatMap_cons, List.length_append, ih, List.length_cons, KSym.cells, List.length_nil]; omega
  unfold rdH rdC
  rw [if_pos (by omega), List.drop_zero, List.take_of_length_le (by omega)]
theorem prefix_push {h : Heap} {x : HObj} : h <+: h ++ [x] := ⟨[x], rfl⟩
theorem get_push {h : Heap} {x : HObj} : (h ++ [x])[h.length]? = some x := by simp
theorem get_push_ne {h : Heap} {x : HObj} {j : Nat} {o : HObj} (hh : (h ++ [x])[j]? = some o) (hj : j ≠ h.length) : h[j]? = some o := by
  rcases Nat.lt_or_ge j h.length with h1 | h1
  · rwa [List.getElem?_append_left h1] at hh
  · rw [List.getElem?_eq_none (by simp only [List.length_append, List.length_singleton]; omega)] at hh
    cases hh
theorem ow_copysyms {all : Array Oper} {o : Oper} {r : List Oper} {s : St} {K : St → Prop} {x : Operand} {t : Nat} {src : Value} {l : List KSym} (hw : wantedA all o s = some true)
    (ho : o.op = .call { callee := .builtin .append, args := #[x, .tmp t], argTypes := #[46, 46] }) (hx : ev s x = some (.slice none 0 0)) (hy : fget s.fr t = .val src) (hsrc : RdSyms s.h src l)
    (k : ∀ v p c h1, v = .slice p l.length c → s.h <+: h1 → (∀ id, id < s.h.length ∨ h1.length ≤ id → RdSymsN id h1 v l) → OW env all r ({ s with h := h1 }.putO o.dst (.val v)) K) : OW env all (o :: r) s K := by
  have hu : env.P.underlying 46 = some (.slice 56) := by kernel_rfl
  have ht : tinfo env.P 56 = _ := ti56
  have hy' : ev s (.tmp t) = some src := by simp only [ev, hy]
  rcases hsrc.2 with ⟨hs0, h0, _⟩ | ⟨id, ver, own, c, rfl, hid⟩
  · obtain ⟨q, rfl⟩ : ∃ q, src = .slice q 0 0 := by rcases hs0 with rfl | rfl <;> exact ⟨_, rfl⟩
    obtain rfl : l = [] := List.eq_nil_of_length_eq_zero h0
    refine ow_appZ hw ho hu ht hx hy' ?_
    exact k _ none 0 s.h rfl (List.prefix_refl _) fun id _ h' _ => ⟨by simp, .inl ⟨.inl rfl, rfl, rfl⟩⟩
  · by_cases h0 : l = []
    · subst h0
      refine ow_appZ hw ho hu ht hx hy' ?_
      exact k _ none 0 s.h rfl (List.prefix_refl _) fun id _ h' _ => ⟨by simp, .inl ⟨.inl rfl, rfl, rfl⟩⟩
    · have hpos : 0 < l.length := List.length_pos_iff.2 h0
      refine ow_app0 hw ho hu ht (by decide) rfl hx (cs := l.flatMap KSym.cells) (m := l.length) ?_ hpos ?_ ?_ ?_
      · simp only [itemsC, hy, hid, if_true, syms_all, Option.map_some]
      · exact hsrc.1
      · exact RdSyms.le hsrc
      · refine k _ _ _ (s.h ++ [_]) rfl prefix_push fun id' hid' h' hh => ⟨hsrc.1, .inr ⟨_, _, true, _, rfl, hh _ _ ?_ get_push⟩⟩
        simp only [List.length_append, List.length_singleton] at hid'
        omega
theorem zip_snoc {l : List Rule} {us : List Value} {r : Rule} {v : Value} (h : us.length = l.length) : (l ++ [r]).zip (us ++ [v]) = l.zip us ++ [(r, v)] := by
  rw [List.zip_append h.symm]
  rfl
theorem rows_len {l : List Rule} {us : List Value} (h : us.length = l.length) : ((l.zip us).flatMap rowf).length = l.length * 2 := by
  have hl : (l.zip us).length = l.length := by simp [h]
  rw [← hl]
  generalize l.zip us = z
  induction z with
  | nil => rfl
  | cons x z ih => simp only [List.flatMap_cons, List.length_append, ih, List.length_cons, List.length_nil]; omega
theorem get_snoc {α : Type} {l : List α} {x y : α} {i : Nat} (h : (l ++ [x])[i]? = some y) : l[i]? = some y ∨ (i = l.length ∧ y = x) := by
  rcases Nat.lt_or_ge i l.length with h1 | h1
  · rw [List.getElem?_append_left h1] at h
    exact .inl h
  · rw [List.getElem?_append_right h1] at h
    rcases Nat.eq_or_lt_of_le h1 with h2 | h2
    · subst h2
      simp only [Nat.sub_self, List.getElem?_cons_zero, Option.some.injEq] at h
      exact .inr ⟨rfl, h.symm⟩
    · rw [List.getElem?_eq_none (by simp only [List.length_singleton]; omega)] at h
      cases h
theorem ow_apprule {all : Array Oper} {o : Oper} {rr : List Oper} {s : St} {K : St → Prop} {x : Operand} {t : Nat} {u v : Value} {l : List Rule} {r : Rule} {h : Heap} {nid : Nat} (hw : wantedA all o s = some true)
    (ho : o.op = .call { callee := .builtin .append, args := #[x, .tmp t], argTypes := #[22, 22] }) (hx : ev s x = some u) (hy : fget s.fr t = .bsl [i64 r.lhs, v] 1) (b : BuiltR h s.h u l) (hlen : l.length + 1 ≤ 1000000)
    (hin : ∀ id ver, u = .slice (some ⟨id, 0, some ver⟩) l.length l.length → id < nid) (hv : ∀ id, id < nid ∨ s.h.length ≤ id → RdSymsN id s.h v r.rhs)
    (k : ∀ u' h', BuiltR h h' u' (l ++ [r]) → s.h.length ≤ h'.length → (∀ id ver, u' = .slice (some ⟨id, 0, some ver⟩) (l ++ [r]).length (l ++ [r]).length → id < h'.length) → OW env all rr ({ s with h := h' }.putO o.dst (.val u')) K) : OW env all (o :: rr) s K := by
  have hu : env.P.underlying 22 = some (.slice 48) := by kernel_rfl
  have ht : tinfo env.P 48 = _ := ti48
  obtain ⟨b1, b0, us, b2, b3⟩ := b
  have hi : itemsC s s.h 2 (.tmp t) = some ([i64 r.lhs, v], 1) := by simp only [itemsC, hy, List.length_cons, List.length_nil, if_true]
  rcases b3 with ⟨rfl, rfl⟩ | ⟨id, ver, c1, rfl, c3, c4⟩
  · refine ow_app0 hw ho hu ht (by decide) rfl hx hi (by decide) (by decide) (by decide) ?_
    have hus : us = [] := List.eq_nil_of_length_eq_zero b2
    subst hus
    have hl1 := b1.length_le
    refine k _ _ ⟨b1.trans prefix_push, by simp, [v], rfl, .inr ⟨s.h.length, 0, hl1, rfl, get_push, ?_⟩⟩ (by simp) ?_
    · intro i r' x h1 h2
      obtain ⟨rfl, rfl⟩ : r' = r ∧ x = v := by
        cases i with
        | zero =>
          simp at h1 h2
          exact ⟨h1.symm, h2.symm⟩
        | succ i => simp at h1
      exact (hv _ (.inr (Nat.le_refl _))).mono fun j o _ ho => getElem?_prefix prefix_push ho
    · intro id ver he
      simp only [Value.slice.injEq, Option.some.injEq, Addr.mk.injEq] at he
      simp only [List.length_append, List.length_singleton]
      omega
  · have hlt : id < s.h.length := (List.getElem?_eq_some_iff.1 c3).1
    have hl2 := rows_len b2
    refine ow_app hw ho hu ht (by decide) rfl hx c3 (by rw [hl2]; exact Nat.le_refl _) hi (by simp only; omega) (by omega) ?_
    have hcells : List.take (l.length * 2) (List.flatMap rowf (l.zip us)) ++ [i64 r.lhs, v] = List.flatMap rowf ((l ++ [r]).zip (us ++ [v])) := by
      rw [List.take_of_length_le (by omega), zip_snoc b2, List.flatMap_append]
      rfl
    simp only [hcells]
    have hag : ∀ j o, j ≠ id → s.h[j]? = some o → (s.h.set id (.arr (List.flatMap rowf ((l ++ [r]).zip (us ++ [v]))) (ver + 1) true 48))[j]? = some o := fun j o hj ho => by
      rw [List.getElem?_set_ne (fun e => hj e.symm)]
      exact ho
    have hll : (l ++ [r]).length = l.length + 1 := by simp
    refine k _ _ ⟨?_, by omega, us ++ [v], by simp [b2], .inr ⟨id, ver + 1, c1, by rw [hll], List.getElem?_set_self hlt, ?_⟩⟩ (by simp) ?_
    · obtain ⟨tl, htl⟩ := b1
      rw [List.prefix_iff_eq_take, List.take_set_of_le c1]
      rw [← htl, List.take_left]
    · intro i r' x h1 h2
      rcases get_snoc h1 with h1' | ⟨hi1, rfl⟩
      · rcases get_snoc h2 with h2' | ⟨hi2, _⟩
        · exact (c4 i r' x h1' h2').mono hag
        · have := (List.getElem?_eq_some_iff.1 h1').1
          omega
      · rcases get_snoc h2 with h2' | ⟨_, rfl⟩
        · have := (List.getElem?_eq_some_iff.1 h2').1
          omega
        · exact (hv id (.inl (hin _ _ rfl))).mono hag
    · intro id' ver' he
      simp only [Value.slice.injEq, Option.some.injEq, Addr.mk.injEq] at he
      simp only [List.length_set]
      omega
end Go.Proofs.Ytnlchlnkibpkaaa
