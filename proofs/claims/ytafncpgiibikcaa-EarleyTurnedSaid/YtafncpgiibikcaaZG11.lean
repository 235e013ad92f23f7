/- Several texts, one behind the other; each begins with a remark of its own. -/
import Derived.Test.YtafncpgiibikcaaZS4
import Derived.Test.YtafncpgiibikcaaZG5
import Derived.Test.YtafncpgiibikcaaZFa
import Derived.Test.YtafncpgiibikcaaZE6
/- Cyclic of the program: a search in depth. -/
namespace Go.Proofs.Ytafncpgiibikcaa
set_option linter.unusedSimpArgs false
set_option linter.unusedVariables false
open Go.RowKit Am Ty

theorem SlR.set {h : Heap} {v : Value} {n b i : Nat} {cells : List Value} {et : TypeId} {X : HObj} (hs : SlR h v n cells et b) (hi : isAt v i = false) : SlR (h.set i X) v n cells et b := by
  refine ⟨hs.1, ?_⟩
  rcases hs.2 with h1 | ⟨id, ver, own, c, rfl, h2⟩
  · exact .inl h1
  · simp only [isAt, beq_eq_false_iff_ne] at hi
    exact .inr ⟨id, ver, own, c, rfl, by rw [get_set_ne (Ne.symm hi)]; exact h2⟩
def S2 (st : List Int) (i : Int) : Prop := 0 ≤ i ∧ iget st i = 2
def V3 (N : Nat) (st : List Int) : Prop := ∀ i : Int, 0 ≤ i → i < N → iget st i = 0 ∨ iget st i = 1 ∨ iget st i = 2
/-- what is met is met for good -/
structure Later (N : Nat) (st st' : List Int) : Prop where
  n : st'.length = N
  v : V3 N st'
  k : ∀ i : Int, 0 ≤ i → iget st i ≠ 0 → iget st' i = iget st i
  z : ∀ i : Int, 0 ≤ i → iget st i = 0 → iget st' i = 0 ∨ iget st' i = 2
theorem Later.refl {N : Nat} {st : List Int} (h : st.length = N) (v : V3 N st) : Later N st st := ⟨h, v, fun _ _ _ => rfl, fun _ _ h => .inl h⟩
theorem Later.trans {N : Nat} {a b c : List Int} (h : Later N a b) (k : Later N b c) : Later N a c := by
  refine ⟨k.n, k.v, fun i h0 h1 => ?_, fun i h0 h1 => ?_⟩
  · have e := h.k i h0 h1
    rw [k.k i h0 (by rw [e]; exact h1), e]
  · rcases h.z i h0 h1 with e | e
    · exact k.z i h0 e
    · exact .inr (by rw [k.k i h0 (by rw [e]; decide), e])
end Go.Proofs.Ytafncpgiibikcaa

/- Cyclic of the reference. -/
namespace Go.Proofs.Ytafncpgiibikcaa
set_option linter.unusedSimpArgs false
set_option linter.unusedVariables false
open Go.RowKit Am Ty

/-! ### rounds -/
def SB (s : List Bool) (i : Int) : Prop := 0 ≤ i ∧ bit s i = true
def Stable (E : Int → Int → Prop) (N : Nat) (s : List Bool) (n : Nat) : Prop := ∀ a : Int, 0 ≤ a → a < n → bit s a = false → ∃ b, E a b ∧ bit s b = false
structure CRounds (E : Int → Int → Prop) (N k : Nat) (s : List Bool) : Prop where
  n : s.length = N
  a : Acy E (SB s)
  c : k ≤ s.count true ∨ Stable E N s N
structure CRound (E : Int → Int → Prop) (N : Nat) (s0 : List Bool) (k : Nat) (s : List Bool) : Prop where
  n : s.length = N
  a : Acy E (SB s)
  c : (s0.count true < s.count true ∧ ¬ Stable E N s0 N) ∨ (s = s0 ∧ Stable E N s k)
theorem CRounds.step {E : Int → Int → Prop} {N k : Nat} {s s' : List Bool} (h : CRounds E N k s) (hr : CRound E N s N s') : CRounds E N (k + 1) s' := by
  refine ⟨hr.n, hr.a, ?_⟩
  rcases hr.c with ⟨h1, h3⟩ | ⟨rfl, h1⟩
  · rcases h.c with h2 | h2
    · exact .inl (by omega)
    · exact (h3 h2).elim
  · exact .inr h1
theorem CRounds.fin {E : Int → Int → Prop} {N k : Nat} {s : List Bool} (hE : ∀ a b, E a b → (0 ≤ a ∧ a < N) ∧ 0 ≤ b ∧ b < N) (h : CRounds E N k s) (hk : N ≤ k) : 0 < (N : Int) - s.count true ↔ CycE E := by
  have hn := h.n
  have hle := List.count_le_length (a := true) (l := s)
  by_cases hf : s.count true = N
  · have hall := cnt_full (m := s) (by omega)
    have : ¬ CycE E := h.a.none fun a b hab => ⟨(hE a b hab).1.1, by rw [bit_get (hE a b hab).1.1 (by have := (hE a b hab).1.2; omega)]; exact hall _ (List.getElem_mem _)⟩
    constructor
    · omega
    · intro h
      exact (this h).elim
  · have hs : Stable E N s N := h.c.elim (fun h => by omega) id
    have : ∃ u : Int, 0 ≤ u ∧ u < N ∧ bit s u = false := by
      refine Classical.byContradiction fun c => hf ?_
      have : ∀ b ∈ s, true = b := fun b hb => by
        obtain ⟨i, hi, rfl⟩ := List.mem_iff_getElem.1 hb
        cases hbi : s[i] with
        | true => rfl
        | false => exact (c ⟨i, by omega, by omega, by rw [bit_get (by omega) (by omega)]; simpa using hbi⟩).elim
      rw [← hn]
      exact List.count_eq_length.2 this
    obtain ⟨u, u0, u1, hu⟩ := this
    constructor
    · intro _
      exact stuck (N := N) (U := fun u => 0 ≤ u ∧ u < N ∧ bit s u = false) (fun u h => ⟨h.1, h.2.1⟩) (fun u h => by
        obtain ⟨b, h1, h2⟩ := hs u h.1 h.2.1 h.2.2
        exact ⟨b, ⟨(hE u b h1).2.1, (hE u b h1).2.2, h2⟩, h1⟩) ⟨u0, u1, hu⟩
    · intro _
      omega
end Go.Proofs.Ytafncpgiibikcaa

/- What is told of a grammar, for the laws. -/
namespace Go.Proofs.Ytafncpgiibikcaa
set_option linter.unusedSimpArgs false
set_option linter.unusedVariables false
open Go.RowKit Am Ty
theorem MineS.rd {h h' : Heap} {v : Value} {m : List BSet} (k : MineS h h' v m) (hl : m.length ≤ 1000000) : RdSets h' v m := by
  obtain ⟨id, ver, h1, h2, h3⟩ := k
  exact ⟨by omega, .inr ⟨id, ver, true, _, h2, h3⟩⟩
theorem Told.cases {g : Gram} {z r : Value} {K : Value → Heap → Prop} {h : Heap} (t : Told g z K r h) : (badG g ∧ r = .tuple #[z, i64 3]) ∨ (¬ badG g ∧ ∃ x, r = .tuple #[x, i64 0] ∧ K x h) := by
  obtain ⟨x, rfl, ⟨hb, rfl⟩ | ⟨hb, k⟩⟩ := t
  · exact .inl ⟨hb, by rw [show rightG g = 3 from if_pos hb]⟩
  · exact .inr ⟨hb, x, by rw [show rightG g = 0 from if_neg hb], k⟩
theorem Told.bad {g : Gram} {z r : Value} {K : Value → Heap → Prop} {h : Heap} (t : Told g z K r h) (hb : badG g) : r = .tuple #[z, i64 3] := by
  rcases t.cases with ⟨_, h⟩ | ⟨h, _⟩
  · exact h
  · exact (h hb).elim
theorem Told.good {g : Gram} {z r : Value} {K : Value → Heap → Prop} {h : Heap} (t : Told g z K r h) (hb : ¬ badG g) : ∃ x, r = .tuple #[x, i64 0] ∧ K x h := by
  rcases t.cases with ⟨h, _⟩ | ⟨_, h⟩
  · exact (hb h).elim
  · exact h
end Go.Proofs.Ytafncpgiibikcaa

/- FactsShort and FactsLengths, as the abstract machine runs them. -/
namespace Go.Proofs.Ytafncpgiibikcaa
set_option linter.unusedSimpArgs false
set_option linter.unusedVariables false
open Go.RowKit Am Ty

theorem MineI.rd {h h' : Heap} {v : Value} {m : List Int} (k : MineI h h' v m) (hl : m.length ≤ 1000000) : RdInts h' v m := by
  obtain ⟨id, ver, h1, h2, h3⟩ := k
  exact ⟨by omega, .inr ⟨id, ver, true, _, h2, h3⟩⟩
end Go.Proofs.Ytafncpgiibikcaa

/- FactsMore, as the abstract machine runs it. -/
namespace Go.Proofs.Ytafncpgiibikcaa
set_option linter.unusedSimpArgs false
set_option linter.unusedVariables false
set_option maxRecDepth 20000
open Go.RowKit Am Ty

def Ids (h hk : Heap) (us : List Value) : Prop := ∀ x ∈ us, ∀ j, isAtS x j = true → h.length ≤ j ∧ j < hk.length
theorem ids_new {h hk : Heap} {us : List Value} (k : Ids h hk us) : ∀ x ∈ us, isAtS x hk.length = false := fun x hx => by
  cases hb : isAtS x hk.length with
  | false => rfl
  | true => have := (k x hx _ hb).2; omega
end Go.Proofs.Ytafncpgiibikcaa

/- Plain facts: grammars that are turned about. -/
namespace Go.Proofs.Ytafncpgiibikcaa
set_option linter.unusedSimpArgs false
set_option linter.unusedVariables false

def turnR (r : Rule) : Rule := ⟨r.lhs, r.rhs.reverse⟩
def turnG (g : Gram) : Gram := ⟨g.nts, g.start, g.rules.map turnR⟩
theorem tx_rev {R : List Rule} {l : List KSym} {u : List Nat} (h : Tx R l u) : Tx (R.map turnR) l.reverse u.reverse := by
  induction h with
  | nil => exact .nil
  | term s l b u h1 h2 _ ih =>
    rw [List.reverse_cons, List.reverse_cons]
    exact ih.append (.term s [] b [] h1 h2 .nil)
  | non s l r u v h1 h2 h3 h4 h5 ih1 ih2 =>
    rw [List.reverse_cons, List.reverse_append]
    have := Tx.non s [] (turnR r) u.reverse [] h1 (List.mem_map.2 ⟨r, h2, rfl⟩) h3 ih1 .nil
    rw [List.append_nil] at this
    exact ih2.append this
theorem turn_turn (R : List Rule) : (R.map turnR).map turnR = R := by
  rw [List.map_map]
  have : turnR ∘ turnR = id := by funext r; simp [turnR]
  rw [this, List.map_id]
theorem nt_rev {R : List Rule} {A : Int} {u : List Nat} (h : NtTx R A u) : NtTx (R.map turnR) A u.reverse := by
  obtain ⟨r, h1, h2, h3⟩ := h
  exact ⟨turnR r, List.mem_map.2 ⟨r, h1, rfl⟩, h2, tx_rev h3⟩
theorem turn_nt {g : Gram} {w : List Nat} : NtTx (turnG g).rules (turnG g).start w.reverse ↔ NtTx g.rules g.start w := by
  constructor
  · intro h
    have := nt_rev h
    unfold turnG at this
    rw [turn_turn, List.reverse_reverse] at this
    exact this
  · exact nt_rev
theorem turn_bad {g : Gram} : badG (turnG g) ↔ badG g := by
  have key : ∀ r : Rule, badR g.nts (turnR r) ↔ badR g.nts r := fun r => by
    unfold badR turnR
    simp only [List.length_reverse, List.mem_reverse]
  unfold badG turnG
  simp only [List.length_map, List.mem_map]
  constructor
  · rintro (h | h | h | h | h | ⟨_, ⟨r, h1, rfl⟩, h2⟩)
    · exact .inl h
    · exact .inr (.inl h)
    · exact .inr (.inr (.inl h))
    · exact .inr (.inr (.inr (.inl h)))
    · exact .inr (.inr (.inr (.inr (.inl h))))
    · exact .inr (.inr (.inr (.inr (.inr ⟨r, h1, (key r).1 h2⟩))))
  · rintro (h | h | h | h | h | ⟨r, h1, h2⟩)
    · exact .inl h
    · exact .inr (.inl h)
    · exact .inr (.inr (.inl h))
    · exact .inr (.inr (.inr (.inl h)))
    · exact .inr (.inr (.inr (.inr (.inl h))))
    · exact .inr (.inr (.inr (.inr (.inr ⟨_, ⟨r, h1, rfl⟩, (key r).2 h2⟩))))
theorem turn_fit {g : Gram} {w : List Nat} : fitE (turnG g) w.reverse = fitE g w := by
  unfold fitE
  by_cases h : badG g
  · rw [if_pos h, if_pos (turn_bad.2 h)]
  · rw [if_neg h, if_neg (fun k => h (turn_bad.1 k)), List.length_reverse]
theorem turn_wf {g : Gram} (W : WfG g) : WfG (turnG g) := fun r hr s hs => by
  obtain ⟨q, h1, rfl⟩ := List.mem_map.1 hr
  exact W q h1 s (List.mem_reverse.1 hs)
theorem rev_take {α : Type} {l : List α} {j i : Nat} (hj : i < l.length) (hi : i + j + 1 = l.length) : l.reverse.take (j + 1) = l.reverse.take j ++ [l[i]] := by
  rw [List.take_succ_eq_append_getElem (by rw [List.length_reverse]; omega)]
  congr 2
  rw [List.getElem_reverse]
  congr 1
  omega
end Go.Proofs.Ytafncpgiibikcaa

/- EarleyTurned, as the abstract machine runs it. -/
namespace Go.Proofs.Ytafncpgiibikcaa
set_option linter.unusedSimpArgs false
set_option linter.unusedVariables false
set_option maxRecDepth 20000
open Go.RowKit Am Ty

theorem Grow.atS {h hk : Heap} {v : Value} {n : Nat} {cells : List Value} {et : TypeId} (g : Grow h hk v n cells et) {j : Nat} (hj : isAtS v j = true) : h.length ≤ j ∧ j < hk.length := by
  rcases g with ⟨_, _, rfl⟩ | ⟨id, ver, h1, rfl, h3⟩
  · cases hj
  · simp only [isAtS, beq_iff_eq] at hj
    subst hj
    exact ⟨h1, lt_of_get h3⟩
set_option maxHeartbeats 8000000 in
theorem earleyturned_fw {h : Heap} {g : Gram} {v wv : Value} {w : List Nat} (hr : RdGram h v g) (hwR : RdB h wv w) (hn : -9223372036854775808 ≤ g.nts) (W : WfG g) : FW env 7 [v, wv] h fun r _ => r = .bool true := by
  obtain ⟨u, rfl, hu⟩ := id hr
  obtain ⟨p, c, rfl⟩ := hu.form
  obtain ⟨pw, cw, rfl⟩ := hwR.form
  have hle := hu.le
  have lw := hwR.1
  have hle32 : g.rules.length * 32 ≤ 140737488355328 := by obtain ⟨_, _, hs, _⟩ := id hu; exact hs.1
  refine fw_enter (fn := Try.f7) Try.func7 rfl (by kernel_rfl) (by simp [Try.ntmps7]) ?_; simp only [push_cast]
  repeat (first | refine cw_seq ?_ | refine cw_region ?_ | refine ow_nil ?_ | ((first | apply ow_cons | apply qw_cons); · simp only [push_cast, env, Nat.reduceEqDiff, reduceIte, Nat.reduceAdd, Nat.reduceMul, Nat.reduceLeDiff, reduceCtorEq, Nat.reduceSub, Int.reduceToNat] <;> exact rfl) | ((first | apply ow_spec | apply qw_spec); · simp only [push_cast, env, Nat.reduceEqDiff, reduceIte, Nat.reduceAdd, Nat.reduceMul, Nat.reduceLeDiff, reduceCtorEq, Nat.reduceSub, Int.reduceToNat] <;> exact rfl) | refine qw_nil ?_ | refine cw_block ?_ | refine cw_scope ?_ | refine cw_label ?_ | refine cw_skip ?_)
  refine ow_call (fn := Try.f13) (by simp only [push_cast, env, Nat.reduceEqDiff, reduceIte, Nat.reduceAdd, Nat.reduceMul, Nat.reduceLeDiff, reduceCtorEq, Nat.reduceSub, Int.reduceToNat] <;> exact rfl) rfl (by simp only [push_cast, env, Nat.reduceEqDiff, reduceIte, Nat.reduceAdd, Nat.reduceMul, Nat.reduceLeDiff, reduceCtorEq, Nat.reduceSub, Int.reduceToNat] <;> exact rfl) (by simp only [push_cast, env, Nat.reduceEqDiff, reduceIte, Nat.reduceAdd, Nat.reduceMul, Nat.reduceLeDiff, reduceCtorEq, Nat.reduceSub, Int.reduceToNat] <;> exact rfl) Try.func13 (by kernel_rfl) (by kernel_rfl) ?_
  rw [List.append_nil]
  refine (heavy7_fw hr hwR hn).mono ?_
  rintro _ h ⟨rfl, rfl⟩
  repeat (first | refine cw_seq ?_ | refine cw_region ?_ | refine ow_nil ?_ | ((first | apply ow_cons | apply qw_cons); · simp only [push_cast, env, Nat.reduceEqDiff, reduceIte, Nat.reduceAdd, Nat.reduceMul, Nat.reduceLeDiff, reduceCtorEq, Nat.reduceSub, Int.reduceToNat] <;> exact rfl) | ((first | apply ow_spec | apply qw_spec); · simp only [push_cast, env, Nat.reduceEqDiff, reduceIte, Nat.reduceAdd, Nat.reduceMul, Nat.reduceLeDiff, reduceCtorEq, Nat.reduceSub, Int.reduceToNat] <;> exact rfl) | refine qw_nil ?_ | refine cw_block ?_ | refine cw_scope ?_ | refine cw_label ?_ | refine cw_skip ?_)
  refine cw_cond (by simp only [push_cast, env, Nat.reduceEqDiff, reduceIte, Nat.reduceAdd, Nat.reduceMul, Nat.reduceLeDiff, reduceCtorEq, Nat.reduceSub, Int.reduceToNat] <;> exact rfl) (fun c1 => ?_) (fun c1 => ?_)
  · repeat (first | refine cw_seq ?_ | refine cw_region ?_ | refine ow_nil ?_ | ((first | apply ow_cons | apply qw_cons); · simp only [push_cast, env, Nat.reduceEqDiff, reduceIte, Nat.reduceAdd, Nat.reduceMul, Nat.reduceLeDiff, reduceCtorEq, Nat.reduceSub, Int.reduceToNat] <;> exact rfl) | ((first | apply ow_spec | apply qw_spec); · simp only [push_cast, env, Nat.reduceEqDiff, reduceIte, Nat.reduceAdd, Nat.reduceMul, Nat.reduceLeDiff, reduceCtorEq, Nat.reduceSub, Int.reduceToNat] <;> exact rfl) | refine qw_nil ?_ | refine cw_block ?_ | refine cw_scope ?_ | refine cw_label ?_ | refine cw_skip ?_)
    refine ow_call (fn := Try.f14) (by simp only [push_cast, env, Nat.reduceEqDiff, reduceIte, Nat.reduceAdd, Nat.reduceMul, Nat.reduceLeDiff, reduceCtorEq, Nat.reduceSub, Int.reduceToNat] <;> exact rfl) rfl (by simp only [push_cast, env, Nat.reduceEqDiff, reduceIte, Nat.reduceAdd, Nat.reduceMul, Nat.reduceLeDiff, reduceCtorEq, Nat.reduceSub, Int.reduceToNat] <;> exact rfl) (by simp only [push_cast, env, Nat.reduceEqDiff, reduceIte, Nat.reduceAdd, Nat.reduceMul, Nat.reduceLeDiff, reduceCtorEq, Nat.reduceSub, Int.reduceToNat] <;> exact rfl) Try.func14 (by kernel_rfl) (by kernel_rfl) ?_
    refine alive7_fw.mono ?_
    rintro _ h ⟨rfl, rfl⟩
    repeat (first | refine cw_seq ?_ | refine cw_region ?_ | refine ow_nil ?_ | ((first | apply ow_cons | apply qw_cons); · simp only [push_cast, env, Nat.reduceEqDiff, reduceIte, Nat.reduceAdd, Nat.reduceMul, Nat.reduceLeDiff, reduceCtorEq, Nat.reduceSub, Int.reduceToNat] <;> exact rfl) | ((first | apply ow_spec | apply qw_spec); · simp only [push_cast, env, Nat.reduceEqDiff, reduceIte, Nat.reduceAdd, Nat.reduceMul, Nat.reduceLeDiff, reduceCtorEq, Nat.reduceSub, Int.reduceToNat] <;> exact rfl) | refine qw_nil ?_ | refine cw_block ?_ | refine cw_scope ?_ | refine cw_label ?_ | refine cw_skip ?_)
    refine cw_ret ?_
    exact ⟨_, (by simp only [push_cast, env, Nat.reduceEqDiff, reduceIte, Nat.reduceAdd, Nat.reduceMul, Nat.reduceLeDiff, reduceCtorEq, Nat.reduceSub, Int.reduceToNat] <;> exact rfl), rfl⟩
  have hL := light_of c1
  repeat (first | refine cw_seq ?_ | refine cw_region ?_ | refine ow_nil ?_ | ((first | apply ow_cons | apply qw_cons); · simp only [push_cast, env, Nat.reduceEqDiff, reduceIte, Nat.reduceAdd, Nat.reduceMul, Nat.reduceLeDiff, reduceCtorEq, Nat.reduceSub, Int.reduceToNat] <;> exact rfl) | ((first | apply ow_spec | apply qw_spec); · simp only [push_cast, env, Nat.reduceEqDiff, reduceIte, Nat.reduceAdd, Nat.reduceMul, Nat.reduceLeDiff, reduceCtorEq, Nat.reduceSub, Int.reduceToNat] <;> exact rfl) | refine qw_nil ?_ | refine cw_block ?_ | refine cw_scope ?_ | refine cw_label ?_ | refine cw_skip ?_)
  refine cw_forG g.rules.length (fun k (x : Heap × Option Addr × Nat × List Value) => [(1, .val (.slice pw w.length cw)), (2, .box [i64 g.nts, i64 g.start, .slice p g.rules.length c]), (5, .box [i64 g.nts, i64 g.start, .slice x.2.1 k x.2.2.1]), (6, .val (i64 k))]) (fun _ x => x.1)
    (fun k x => BR h x.1 (.slice x.2.1 k x.2.2.1) ((turnG g).rules.take k) x.2.2.2 ∧ Ids h x.1 x.2.2.2) (h, none, 0, []) (by simp only [push_cast, SubL, fget, Nat.reduceEqDiff, reduceIte]) rfl ⟨.nil (List.prefix_refl _), fun x hx => by cases hx⟩ ?_
  rintro k ⟨hk, q, cc, us⟩ hkn ⟨hB, hI⟩
  simp only at hB hI ⊢
  have hpre := hB.p
  have htr : (turnG g).rules.length = g.rules.length := by unfold turnG; simp
  have htl : ((turnG g).rules.take k).length = k := by rw [List.length_take, htr]; omega
  by_cases hlt : k < g.rules.length
  · obtain ⟨id, ver, own, c', cells, p', n', c2, hv, hid, hn, hrd, hu'⟩ := hu.at hlt
    cases hv
    subst hn
    have e0 := rdH_get0 hrd (by omega)
    have e0' := rdH_get (j := 1) hrd (by omega)
    simp only [List.getElem?_cons_succ, List.getElem?_cons_zero] at e0 e0'
    have e1 := rng hlt
    have e2 := inc hlt hle
    have e3 := lt_dec hlt
    have hmem : g.rules[k] ∈ _ := List.getElem_mem hlt
    have hn2 := RdSyms.le hu'
    have hqk : (turnG g).rules[k]? = some (turnR g.rules[k]) := by unfold turnG; rw [List.getElem?_map, List.getElem?_eq_getElem hlt]; rfl
    have htk : (turnG g).rules.take (k + 1) = (turnG g).rules.take k ++ [turnR g.rules[k]] := by
      obtain ⟨k1, k2⟩ := List.getElem?_eq_some_iff.1 hqk
      rw [List.take_succ_eq_append_getElem k1, k2]
    generalize g.rules[k] = r at *
    have hid' := getElem?_prefix hpre hid
    have hu2 := SlR.mono hu' hpre
    have h40 : r.rhs.length * 40 ≤ 140737488355328 := hu'.1
    have f1 : IntKind.i64.wrap ((r.rhs.length : Int) - 1) = (r.rhs.length : Int) - 1 := wrap64_id (by omega) (by omega)
    repeat (first | refine cw_seq ?_ | refine cw_region ?_ | refine ow_nil ?_ | ((first | apply ow_cons | apply qw_cons); · simp only [push_cast, env, Nat.reduceEqDiff, reduceIte, Nat.reduceAdd, Nat.reduceMul, Nat.reduceLeDiff, reduceCtorEq, Nat.reduceSub, Int.reduceToNat, e1, hid', e0, e0', e3] <;> exact rfl) | ((first | apply ow_spec | apply qw_spec); · simp only [push_cast, env, Nat.reduceEqDiff, reduceIte, Nat.reduceAdd, Nat.reduceMul, Nat.reduceLeDiff, reduceCtorEq, Nat.reduceSub, Int.reduceToNat, e1, hid', e0, e0', e3] <;> exact rfl) | refine qw_nil ?_ | refine cw_block ?_ | refine cw_scope ?_ | refine cw_label ?_ | refine cw_skip ?_)
    refine cw_condT (by simp only [push_cast, env, Nat.reduceEqDiff, reduceIte, Nat.reduceAdd, Nat.reduceMul, Nat.reduceLeDiff, reduceCtorEq, Nat.reduceSub, Int.reduceToNat] <;> exact rfl) ?_
    repeat (first | refine cw_seq ?_ | refine cw_region ?_ | refine ow_nil ?_ | ((first | apply ow_cons | apply qw_cons); · simp only [push_cast, env, Nat.reduceEqDiff, reduceIte, Nat.reduceAdd, Nat.reduceMul, Nat.reduceLeDiff, reduceCtorEq, Nat.reduceSub, Int.reduceToNat, e1, hid', e0, e0', f1, Nat.mul_one] <;> exact rfl) | ((first | apply ow_spec | apply qw_spec); · simp only [push_cast, env, Nat.reduceEqDiff, reduceIte, Nat.reduceAdd, Nat.reduceMul, Nat.reduceLeDiff, reduceCtorEq, Nat.reduceSub, Int.reduceToNat, e1, hid', e0, e0', f1, Nat.mul_one] <;> exact rfl) | refine qw_nil ?_ | refine cw_block ?_ | refine cw_scope ?_ | refine cw_label ?_ | refine cw_skip ?_)
    refine cw_forG r.rhs.length (fun j (y : Heap × Option Addr × Nat) => [(1, .val (.slice pw w.length cw)), (2, .box [i64 g.nts, i64 g.start, .slice (some ⟨id, 0, some ver⟩) g.rules.length c]), (5, .box [i64 g.nts, i64 g.start, .slice q k cc]), (6, .val (i64 k)), (7, .box [i64 r.lhs, .slice y.2.1 j y.2.2]), (8, .val (i64 ((r.rhs.length : Int) - 1 - (j : Int))))]) (fun _ y => y.1)
      (fun j y => hk <+: y.1 ∧ Grow hk y.1 (.slice y.2.1 j y.2.2) j ((r.rhs.reverse.take j).flatMap KSym.cells) 43) (hk, none, 0) (by simp only [push_cast, SubL, fget, Nat.reduceEqDiff, reduceIte, Int.natCast_zero, Int.sub_zero]) rfl ⟨List.prefix_refl _, Grow.nil⟩ ?_
    rintro j ⟨hj, pr, cr⟩ hjn ⟨hpj, hG⟩
    simp only at hpj hG ⊢
    by_cases hlj : j < r.rhs.length
    · obtain ⟨i, hi⟩ : ∃ i : Nat, i + j + 1 = r.rhs.length := ⟨r.rhs.length - 1 - j, by omega⟩
      have hjl : i < r.rhs.length := by omega
      rw [show (r.rhs.length : Int) - 1 - (j : Int) = (i : Int) by omega]
      have hrt := rev_take hjl hi
      have hid3 := getElem?_prefix hpj hid'
      obtain ⟨id2, ver2, own2, c3, cells2, hv2, hid2, hrd2⟩ := RdSyms.at (l := r.rhs) (SlR.mono hu2 hpj) hjl
      cases hv2
      have e9 := rng hjl
      have d9 : decide (0 ≤ (i : Int)) = true := decide_eq_true (by omega)
      have e10 : IntKind.i64.wrap ((i : Int) - 1) = (r.rhs.length : Int) - 1 - ((j : Int) + 1) := by rw [wrap64_id (by omega) (by omega)]; omega
      generalize r.rhs[i] = sy at *
      have hgl : ((r.rhs.reverse.take j).flatMap KSym.cells).length = j * 5 := by
        rw [flat_len (f := KSym.cells) (k := 5) (fun _ => rfl), List.length_take, List.length_reverse, Nat.min_eq_left (by omega)]
      repeat (first | refine cw_seq ?_ | refine cw_region ?_ | refine ow_nil ?_ | ((first | apply ow_cons | apply qw_cons); · simp only [push_cast, env, Nat.reduceEqDiff, reduceIte, Nat.reduceAdd, Nat.reduceMul, Nat.reduceLeDiff, reduceCtorEq, Nat.reduceSub, Int.reduceToNat, d9] <;> exact rfl) | ((first | apply ow_spec | apply qw_spec); · simp only [push_cast, env, Nat.reduceEqDiff, reduceIte, Nat.reduceAdd, Nat.reduceMul, Nat.reduceLeDiff, reduceCtorEq, Nat.reduceSub, Int.reduceToNat, d9] <;> exact rfl) | refine qw_nil ?_ | refine cw_block ?_ | refine cw_scope ?_ | refine cw_label ?_ | refine cw_skip ?_)
      refine cw_condT (by simp only [push_cast, env, Nat.reduceEqDiff, reduceIte, Nat.reduceAdd, Nat.reduceMul, Nat.reduceLeDiff, reduceCtorEq, Nat.reduceSub, Int.reduceToNat] <;> exact rfl) ?_
      repeat (first | refine cw_seq ?_ | refine cw_region ?_ | refine ow_nil ?_ | ((first | apply ow_cons | apply qw_cons); · simp only [push_cast, env, Nat.reduceEqDiff, reduceIte, Nat.reduceAdd, Nat.reduceMul, Nat.reduceLeDiff, reduceCtorEq, Nat.reduceSub, Int.reduceToNat] <;> exact rfl) | ((first | apply ow_spec | apply qw_spec); · simp only [push_cast, env, Nat.reduceEqDiff, reduceIte, Nat.reduceAdd, Nat.reduceMul, Nat.reduceLeDiff, reduceCtorEq, Nat.reduceSub, Int.reduceToNat] <;> exact rfl) | refine qw_nil ?_ | refine cw_block ?_ | refine cw_scope ?_ | refine cw_label ?_ | refine cw_skip ?_)
      apply cw_ordT (n := 12) (L := [[], [0], [], [2], [], [2, 3, 4], [2, 3, 4, 5], [2, 3, 4, 5, 6], [], [2, 3, 4, 5, 6, 7, 8], [2, 3, 4, 5, 6, 7, 8, 9], [2, 3, 4, 5, 6, 7, 8, 9, 10], [0, 1, 2, 3, 4, 5, 6, 7, 8, 9, 10, 11], [0, 1, 2, 3, 4, 5, 6, 7, 8, 9, 10, 11, 12], [0, 1, 2, 3, 4, 5, 6, 7, 8, 9, 10, 11, 12, 13]]) (act := []) (hs := []) (resL := [_, _, _, _, _, _, _, _, _, _, _, _]) (frP := [(1, .val (.slice pw w.length cw)), (2, .box [i64 g.nts, i64 g.start, .slice (some ⟨id, 0, some ver⟩) g.rules.length c]), (5, .box [i64 g.nts, i64 g.start, .slice q k cc]), (6, .val (i64 k)), (7, .box [i64 r.lhs, .slice pr j cr]), (8, .val (i64 i)), (51, .val (.slice pr j cr)), (61, .bsl sy.cells 1)])
      case hm => exact mixed
      case hc => kernel_rfl
      case hn => kernel_rfl
      case ha => rfl
      case hb => rfl
      case hS => repeat (first | exact StepsA.nil _ | (apply StepsA.cons; (· rfl); (· first | (refine ⟨?_, trivial⟩; (· (first | (apply one_val; (· rfl); (· simp only [push_cast, env, Nat.reduceEqDiff, reduceIte, Nat.reduceAdd, Nat.reduceMul, Nat.reduceLeDiff, reduceCtorEq, Nat.reduceSub, Int.reduceToNat, e1, hid3, e0, e0', e9, hid2, hrd2, Nat.mul_one] <;> exact rfl); (· simp only [push_cast, env, Nat.reduceEqDiff, reduceIte, Nat.reduceAdd, Nat.reduceMul, Nat.reduceLeDiff, reduceCtorEq, Nat.reduceSub, Int.reduceToNat, e1, hid3, e0, e0', e9, hid2, hrd2, Nat.mul_one] <;> exact rfl)) | (apply one_eph; (· rfl); (· simp only [push_cast, env, Nat.reduceEqDiff, reduceIte, Nat.reduceAdd, Nat.reduceMul, Nat.reduceLeDiff, reduceCtorEq, Nat.reduceSub, Int.reduceToNat, e1, hid3, e0, e0', e9, hid2, hrd2, Nat.mul_one] <;> exact rfl); (· rfl); (· simp only [push_cast, env, Nat.reduceEqDiff, reduceIte, Nat.reduceAdd, Nat.reduceMul, Nat.reduceLeDiff, reduceCtorEq, Nat.reduceSub, Int.reduceToNat, e1, hid3, e0, e0', e9, hid2, hrd2, Nat.mul_one] <;> exact rfl); (· decide)) | (apply one_bsl; (· rfl); (· simp only [push_cast, env, Nat.reduceEqDiff, reduceIte, Nat.reduceAdd, Nat.reduceMul, Nat.reduceLeDiff, reduceCtorEq, Nat.reduceSub, Int.reduceToNat, e1, hid3, e0, e0', e9, hid2, hrd2, Nat.mul_one] <;> exact rfl); (· rfl); (· simp only [push_cast, env, Nat.reduceEqDiff, reduceIte, Nat.reduceAdd, Nat.reduceMul, Nat.reduceLeDiff, reduceCtorEq, Nat.reduceSub, Int.reduceToNat, e1, hid3, e0, e0', e9, hid2, hrd2, Nat.mul_one] <;> exact rfl)) | (apply one_box; (· rfl); (· simp only [push_cast, env, Nat.reduceEqDiff, reduceIte, Nat.reduceAdd, Nat.reduceMul, Nat.reduceLeDiff, reduceCtorEq, Nat.reduceSub, Int.reduceToNat, e1, hid3, e0, e0', e9, hid2, hrd2, Nat.mul_one] <;> exact rfl); (· rfl); (· simp only [push_cast, env, Nat.reduceEqDiff, reduceIte, Nat.reduceAdd, Nat.reduceMul, Nat.reduceLeDiff, reduceCtorEq, Nat.reduceSub, Int.reduceToNat, e1, hid3, e0, e0', e9, hid2, hrd2, Nat.mul_one] <;> exact rfl)) | (apply one_skip; (· rfl); (· simp only [push_cast, env, Nat.reduceEqDiff, reduceIte, Nat.reduceAdd, Nat.reduceMul, Nat.reduceLeDiff, reduceCtorEq, Nat.reduceSub, Int.reduceToNat, e1, hid3, e0, e0', e9, hid2, hrd2, Nat.mul_one] <;> exact rfl))))) | (refine ⟨?_, ?_, trivial⟩; (· (first | (apply one_val; (· rfl); (· simp only [push_cast, env, Nat.reduceEqDiff, reduceIte, Nat.reduceAdd, Nat.reduceMul, Nat.reduceLeDiff, reduceCtorEq, Nat.reduceSub, Int.reduceToNat, e1, hid3, e0, e0', e9, hid2, hrd2, Nat.mul_one] <;> exact rfl); (· simp only [push_cast, env, Nat.reduceEqDiff, reduceIte, Nat.reduceAdd, Nat.reduceMul, Nat.reduceLeDiff, reduceCtorEq, Nat.reduceSub, Int.reduceToNat, e1, hid3, e0, e0', e9, hid2, hrd2, Nat.mul_one] <;> exact rfl)) | (apply one_eph; (· rfl); (· simp only [push_cast, env, Nat.reduceEqDiff, reduceIte, Nat.reduceAdd, Nat.reduceMul, Nat.reduceLeDiff, reduceCtorEq, Nat.reduceSub, Int.reduceToNat, e1, hid3, e0, e0', e9, hid2, hrd2, Nat.mul_one] <;> exact rfl); (· rfl); (· simp only [push_cast, env, Nat.reduceEqDiff, reduceIte, Nat.reduceAdd, Nat.reduceMul, Nat.reduceLeDiff, reduceCtorEq, Nat.reduceSub, Int.reduceToNat, e1, hid3, e0, e0', e9, hid2, hrd2, Nat.mul_one] <;> exact rfl); (· decide)) | (apply one_bsl; (· rfl); (· simp only [push_cast, env, Nat.reduceEqDiff, reduceIte, Nat.reduceAdd, Nat.reduceMul, Nat.reduceLeDiff, reduceCtorEq, Nat.reduceSub, Int.reduceToNat, e1, hid3, e0, e0', e9, hid2, hrd2, Nat.mul_one] <;> exact rfl); (· rfl); (· simp only [push_cast, env, Nat.reduceEqDiff, reduceIte, Nat.reduceAdd, Nat.reduceMul, Nat.reduceLeDiff, reduceCtorEq, Nat.reduceSub, Int.reduceToNat, e1, hid3, e0, e0', e9, hid2, hrd2, Nat.mul_one] <;> exact rfl)) | (apply one_box; (· rfl); (· simp only [push_cast, env, Nat.reduceEqDiff, reduceIte, Nat.reduceAdd, Nat.reduceMul, Nat.reduceLeDiff, reduceCtorEq, Nat.reduceSub, Int.reduceToNat, e1, hid3, e0, e0', e9, hid2, hrd2, Nat.mul_one] <;> exact rfl); (· rfl); (· simp only [push_cast, env, Nat.reduceEqDiff, reduceIte, Nat.reduceAdd, Nat.reduceMul, Nat.reduceLeDiff, reduceCtorEq, Nat.reduceSub, Int.reduceToNat, e1, hid3, e0, e0', e9, hid2, hrd2, Nat.mul_one] <;> exact rfl)) | (apply one_skip; (· rfl); (· simp only [push_cast, env, Nat.reduceEqDiff, reduceIte, Nat.reduceAdd, Nat.reduceMul, Nat.reduceLeDiff, reduceCtorEq, Nat.reduceSub, Int.reduceToNat, e1, hid3, e0, e0', e9, hid2, hrd2, Nat.mul_one] <;> exact rfl)))); (· (first | (apply one_val; (· rfl); (· simp only [push_cast, env, Nat.reduceEqDiff, reduceIte, Nat.reduceAdd, Nat.reduceMul, Nat.reduceLeDiff, reduceCtorEq, Nat.reduceSub, Int.reduceToNat, e1, hid3, e0, e0', e9, hid2, hrd2, Nat.mul_one] <;> exact rfl); (· simp only [push_cast, env, Nat.reduceEqDiff, reduceIte, Nat.reduceAdd, Nat.reduceMul, Nat.reduceLeDiff, reduceCtorEq, Nat.reduceSub, Int.reduceToNat, e1, hid3, e0, e0', e9, hid2, hrd2, Nat.mul_one] <;> exact rfl)) | (apply one_eph; (· rfl); (· simp only [push_cast, env, Nat.reduceEqDiff, reduceIte, Nat.reduceAdd, Nat.reduceMul, Nat.reduceLeDiff, reduceCtorEq, Nat.reduceSub, Int.reduceToNat, e1, hid3, e0, e0', e9, hid2, hrd2, Nat.mul_one] <;> exact rfl); (· rfl); (· simp only [push_cast, env, Nat.reduceEqDiff, reduceIte, Nat.reduceAdd, Nat.reduceMul, Nat.reduceLeDiff, reduceCtorEq, Nat.reduceSub, Int.reduceToNat, e1, hid3, e0, e0', e9, hid2, hrd2, Nat.mul_one] <;> exact rfl); (· decide)) | (apply one_bsl; (· rfl); (· simp only [push_cast, env, Nat.reduceEqDiff, reduceIte, Nat.reduceAdd, Nat.reduceMul, Nat.reduceLeDiff, reduceCtorEq, Nat.reduceSub, Int.reduceToNat, e1, hid3, e0, e0', e9, hid2, hrd2, Nat.mul_one] <;> exact rfl); (· rfl); (· simp only [push_cast, env, Nat.reduceEqDiff, reduceIte, Nat.reduceAdd, Nat.reduceMul, Nat.reduceLeDiff, reduceCtorEq, Nat.reduceSub, Int.reduceToNat, e1, hid3, e0, e0', e9, hid2, hrd2, Nat.mul_one] <;> exact rfl)) | (apply one_box; (· rfl); (· simp only [push_cast, env, Nat.reduceEqDiff, reduceIte, Nat.reduceAdd, Nat.reduceMul, Nat.reduceLeDiff, reduceCtorEq, Nat.reduceSub, Int.reduceToNat, e1, hid3, e0, e0', e9, hid2, hrd2, Nat.mul_one] <;> exact rfl); (· rfl); (· simp only [push_cast, env, Nat.reduceEqDiff, reduceIte, Nat.reduceAdd, Nat.reduceMul, Nat.reduceLeDiff, reduceCtorEq, Nat.reduceSub, Int.reduceToNat, e1, hid3, e0, e0', e9, hid2, hrd2, Nat.mul_one] <;> exact rfl)) | (apply one_skip; (· rfl); (· simp only [push_cast, env, Nat.reduceEqDiff, reduceIte, Nat.reduceAdd, Nat.reduceMul, Nat.reduceLeDiff, reduceCtorEq, Nat.reduceSub, Int.reduceToNat, e1, hid3, e0, e0', e9, hid2, hrd2, Nat.mul_one] <;> exact rfl))))) | (refine ⟨?_, ?_, ?_, trivial⟩; (· (first | (apply one_val; (· rfl); (· simp only [push_cast, env, Nat.reduceEqDiff, reduceIte, Nat.reduceAdd, Nat.reduceMul, Nat.reduceLeDiff, reduceCtorEq, Nat.reduceSub, Int.reduceToNat, e1, hid3, e0, e0', e9, hid2, hrd2, Nat.mul_one] <;> exact rfl); (· simp only [push_cast, env, Nat.reduceEqDiff, reduceIte, Nat.reduceAdd, Nat.reduceMul, Nat.reduceLeDiff, reduceCtorEq, Nat.reduceSub, Int.reduceToNat, e1, hid3, e0, e0', e9, hid2, hrd2, Nat.mul_one] <;> exact rfl)) | (apply one_eph; (· rfl); (· simp only [push_cast, env, Nat.reduceEqDiff, reduceIte, Nat.reduceAdd, Nat.reduceMul, Nat.reduceLeDiff, reduceCtorEq, Nat.reduceSub, Int.reduceToNat, e1, hid3, e0, e0', e9, hid2, hrd2, Nat.mul_one] <;> exact rfl); (· rfl); (· simp only [push_cast, env, Nat.reduceEqDiff, reduceIte, Nat.reduceAdd, Nat.reduceMul, Nat.reduceLeDiff, reduceCtorEq, Nat.reduceSub, Int.reduceToNat, e1, hid3, e0, e0', e9, hid2, hrd2, Nat.mul_one] <;> exact rfl); (· decide)) | (apply one_bsl; (· rfl); (· simp only [push_cast, env, Nat.reduceEqDiff, reduceIte, Nat.reduceAdd, Nat.reduceMul, Nat.reduceLeDiff, reduceCtorEq, Nat.reduceSub, Int.reduceToNat, e1, hid3, e0, e0', e9, hid2, hrd2, Nat.mul_one] <;> exact rfl); (· rfl); (· simp only [push_cast, env, Nat.reduceEqDiff, reduceIte, Nat.reduceAdd, Nat.reduceMul, Nat.reduceLeDiff, reduceCtorEq, Nat.reduceSub, Int.reduceToNat, e1, hid3, e0, e0', e9, hid2, hrd2, Nat.mul_one] <;> exact rfl)) | (apply one_box; (· rfl); (· simp only [push_cast, env, Nat.reduceEqDiff, reduceIte, Nat.reduceAdd, Nat.reduceMul, Nat.reduceLeDiff, reduceCtorEq, Nat.reduceSub, Int.reduceToNat, e1, hid3, e0, e0', e9, hid2, hrd2, Nat.mul_one] <;> exact rfl); (· rfl); (· simp only [push_cast, env, Nat.reduceEqDiff, reduceIte, Nat.reduceAdd, Nat.reduceMul, Nat.reduceLeDiff, reduceCtorEq, Nat.reduceSub, Int.reduceToNat, e1, hid3, e0, e0', e9, hid2, hrd2, Nat.mul_one] <;> exact rfl)) | (apply one_skip; (· rfl); (· simp only [push_cast, env, Nat.reduceEqDiff, reduceIte, Nat.reduceAdd, Nat.reduceMul, Nat.reduceLeDiff, reduceCtorEq, Nat.reduceSub, Int.reduceToNat, e1, hid3, e0, e0', e9, hid2, hrd2, Nat.mul_one] <;> exact rfl)))); (· (first | (apply one_val; (· rfl); (· simp only [push_cast, env, Nat.reduceEqDiff, reduceIte, Nat.reduceAdd, Nat.reduceMul, Nat.reduceLeDiff, reduceCtorEq, Nat.reduceSub, Int.reduceToNat, e1, hid3, e0, e0', e9, hid2, hrd2, Nat.mul_one] <;> exact rfl); (· simp only [push_cast, env, Nat.reduceEqDiff, reduceIte, Nat.reduceAdd, Nat.reduceMul, Nat.reduceLeDiff, reduceCtorEq, Nat.reduceSub, Int.reduceToNat, e1, hid3, e0, e0', e9, hid2, hrd2, Nat.mul_one] <;> exact rfl)) | (apply one_eph; (· rfl); (· simp only [push_cast, env, Nat.reduceEqDiff, reduceIte, Nat.reduceAdd, Nat.reduceMul, Nat.reduceLeDiff, reduceCtorEq, Nat.reduceSub, Int.reduceToNat, e1, hid3, e0, e0', e9, hid2, hrd2, Nat.mul_one] <;> exact rfl); (· rfl); (· simp only [push_cast, env, Nat.reduceEqDiff, reduceIte, Nat.reduceAdd, Nat.reduceMul, Nat.reduceLeDiff, reduceCtorEq, Nat.reduceSub, Int.reduceToNat, e1, hid3, e0, e0', e9, hid2, hrd2, Nat.mul_one] <;> exact rfl); (· decide)) | (apply one_bsl; (· rfl); (· simp only [push_cast, env, Nat.reduceEqDiff, reduceIte, Nat.reduceAdd, Nat.reduceMul, Nat.reduceLeDiff, reduceCtorEq, Nat.reduceSub, Int.reduceToNat, e1, hid3, e0, e0', e9, hid2, hrd2, Nat.mul_one] <;> exact rfl); (· rfl); (· simp only [push_cast, env, Nat.reduceEqDiff, reduceIte, Nat.reduceAdd, Nat.reduceMul, Nat.reduceLeDiff, reduceCtorEq, Nat.reduceSub, Int.reduceToNat, e1, hid3, e0, e0', e9, hid2, hrd2, Nat.mul_one] <;> exact rfl)) | (apply one_box; (· rfl); (· simp only [push_cast, env, Nat.reduceEqDiff, reduceIte, Nat.reduceAdd, Nat.reduceMul, Nat.reduceLeDiff, reduceCtorEq, Nat.reduceSub, Int.reduceToNat, e1, hid3, e0, e0', e9, hid2, hrd2, Nat.mul_one] <;> exact rfl); (· rfl); (· simp only [push_cast, env, Nat.reduceEqDiff, reduceIte, Nat.reduceAdd, Nat.reduceMul, Nat.reduceLeDiff, reduceCtorEq, Nat.reduceSub, Int.reduceToNat, e1, hid3, e0, e0', e9, hid2, hrd2, Nat.mul_one] <;> exact rfl)) | (apply one_skip; (· rfl); (· simp only [push_cast, env, Nat.reduceEqDiff, reduceIte, Nat.reduceAdd, Nat.reduceMul, Nat.reduceLeDiff, reduceCtorEq, Nat.reduceSub, Int.reduceToNat, e1, hid3, e0, e0', e9, hid2, hrd2, Nat.mul_one] <;> exact rfl)))); (· (first | (apply one_val; (· rfl); (· simp only [push_cast, env, Nat.reduceEqDiff, reduceIte, Nat.reduceAdd, Nat.reduceMul, Nat.reduceLeDiff, reduceCtorEq, Nat.reduceSub, Int.reduceToNat, e1, hid3, e0, e0', e9, hid2, hrd2, Nat.mul_one] <;> exact rfl); (· simp only [push_cast, env, Nat.reduceEqDiff, reduceIte, Nat.reduceAdd, Nat.reduceMul, Nat.reduceLeDiff, reduceCtorEq, Nat.reduceSub, Int.reduceToNat, e1, hid3, e0, e0', e9, hid2, hrd2, Nat.mul_one] <;> exact rfl)) | (apply one_eph; (· rfl); (· simp only [push_cast, env, Nat.reduceEqDiff, reduceIte, Nat.reduceAdd, Nat.reduceMul, Nat.reduceLeDiff, reduceCtorEq, Nat.reduceSub, Int.reduceToNat, e1, hid3, e0, e0', e9, hid2, hrd2, Nat.mul_one] <;> exact rfl); (· rfl); (· simp only [push_cast, env, Nat.reduceEqDiff, reduceIte, Nat.reduceAdd, Nat.reduceMul, Nat.reduceLeDiff, reduceCtorEq, Nat.reduceSub, Int.reduceToNat, e1, hid3, e0, e0', e9, hid2, hrd2, Nat.mul_one] <;> exact rfl); (· decide)) | (apply one_bsl; (· rfl); (· simp only [push_cast, env, Nat.reduceEqDiff, reduceIte, Nat.reduceAdd, Nat.reduceMul, Nat.reduceLeDiff, reduceCtorEq, Nat.reduceSub, Int.reduceToNat, e1, hid3, e0, e0', e9, hid2, hrd2, Nat.mul_one] <;> exact rfl); (· rfl); (· simp only [push_cast, env, Nat.reduceEqDiff, reduceIte, Nat.reduceAdd, Nat.reduceMul, Nat.reduceLeDiff, reduceCtorEq, Nat.reduceSub, Int.reduceToNat, e1, hid3, e0, e0', e9, hid2, hrd2, Nat.mul_one] <;> exact rfl)) | (apply one_box; (· rfl); (· simp only [push_cast, env, Nat.reduceEqDiff, reduceIte, Nat.reduceAdd, Nat.reduceMul, Nat.reduceLeDiff, reduceCtorEq, Nat.reduceSub, Int.reduceToNat, e1, hid3, e0, e0', e9, hid2, hrd2, Nat.mul_one] <;> exact rfl); (· rfl); (· simp only [push_cast, env, Nat.reduceEqDiff, reduceIte, Nat.reduceAdd, Nat.reduceMul, Nat.reduceLeDiff, reduceCtorEq, Nat.reduceSub, Int.reduceToNat, e1, hid3, e0, e0', e9, hid2, hrd2, Nat.mul_one] <;> exact rfl)) | (apply one_skip; (· rfl); (· simp only [push_cast, env, Nat.reduceEqDiff, reduceIte, Nat.reduceAdd, Nat.reduceMul, Nat.reduceLeDiff, reduceCtorEq, Nat.reduceSub, Int.reduceToNat, e1, hid3, e0, e0', e9, hid2, hrd2, Nat.mul_one] <;> exact rfl))))) | (refine ⟨?_, ?_, ?_, ?_, trivial⟩; (· (first | (apply one_val; (· rfl); (· simp only [push_cast, env, Nat.reduceEqDiff, reduceIte, Nat.reduceAdd, Nat.reduceMul, Nat.reduceLeDiff, reduceCtorEq, Nat.reduceSub, Int.reduceToNat, e1, hid3, e0, e0', e9, hid2, hrd2, Nat.mul_one] <;> exact rfl); (· simp only [push_cast, env, Nat.reduceEqDiff, reduceIte, Nat.reduceAdd, Nat.reduceMul, Nat.reduceLeDiff, reduceCtorEq, Nat.reduceSub, Int.reduceToNat, e1, hid3, e0, e0', e9, hid2, hrd2, Nat.mul_one] <;> exact rfl)) | (apply one_eph; (· rfl); (· simp only [push_cast, env, Nat.reduceEqDiff, reduceIte, Nat.reduceAdd, Nat.reduceMul, Nat.reduceLeDiff, reduceCtorEq, Nat.reduceSub, Int.reduceToNat, e1, hid3, e0, e0', e9, hid2, hrd2, Nat.mul_one] <;> exact rfl); (· rfl); (· simp only [push_cast, env, Nat.reduceEqDiff, reduceIte, Nat.reduceAdd, Nat.reduceMul, Nat.reduceLeDiff, reduceCtorEq, Nat.reduceSub, Int.reduceToNat, e1, hid3, e0, e0', e9, hid2, hrd2, Nat.mul_one] <;> exact rfl); (· decide)) | (apply one_bsl; (· rfl); (· simp only [push_cast, env, Nat.reduceEqDiff, reduceIte, Nat.reduceAdd, Nat.reduceMul, Nat.reduceLeDiff, reduceCtorEq, Nat.reduceSub, Int.reduceToNat, e1, hid3, e0, e0', e9, hid2, hrd2, Nat.mul_one] <;> exact rfl); (· rfl); (· simp only [push_cast, env, Nat.reduceEqDiff, reduceIte, Nat.reduceAdd, Nat.reduceMul, Nat.reduceLeDiff, reduceCtorEq, Nat.reduceSub, Int.reduceToNat, e1, hid3, e0, e0', e9, hid2, hrd2, Nat.mul_one] <;> exact rfl)) | (apply one_box; (· rfl); (· simp only [push_cast, env, Nat.reduceEqDiff, reduceIte, Nat.reduceAdd, Nat.reduceMul, Nat.reduceLeDiff, reduceCtorEq, Nat.reduceSub, Int.reduceToNat, e1, hid3, e0, e0', e9, hid2, hrd2, Nat.mul_one] <;> exact rfl); (· rfl); (· simp only [push_cast, env, Nat.reduceEqDiff, reduceIte, Nat.reduceAdd, Nat.reduceMul, Nat.reduceLeDiff, reduceCtorEq, Nat.reduceSub, Int.reduceToNat, e1, hid3, e0, e0', e9, hid2, hrd2, Nat.mul_one] <;> exact rfl)) | (apply one_skip; (· rfl); (· simp only [push_cast, env, Nat.reduceEqDiff, reduceIte, Nat.reduceAdd, Nat.reduceMul, Nat.reduceLeDiff, reduceCtorEq, Nat.reduceSub, Int.reduceToNat, e1, hid3, e0, e0', e9, hid2, hrd2, Nat.mul_one] <;> exact rfl)))); (· (first | (apply one_val; (· rfl); (· simp only [push_cast, env, Nat.reduceEqDiff, reduceIte, Nat.reduceAdd, Nat.reduceMul, Nat.reduceLeDiff, reduceCtorEq, Nat.reduceSub, Int.reduceToNat, e1, hid3, e0, e0', e9, hid2, hrd2, Nat.mul_one] <;> exact rfl); (· simp only [push_cast, env, Nat.reduceEqDiff, reduceIte, Nat.reduceAdd, Nat.reduceMul, Nat.reduceLeDiff, reduceCtorEq, Nat.reduceSub, Int.reduceToNat, e1, hid3, e0, e0', e9, hid2, hrd2, Nat.mul_one] <;> exact rfl)) | (apply one_eph; (· rfl); (· simp only [push_cast, env, Nat.reduceEqDiff, reduceIte, Nat.reduceAdd, Nat.reduceMul, Nat.reduceLeDiff, reduceCtorEq, Nat.reduceSub, Int.reduceToNat, e1, hid3, e0, e0', e9, hid2, hrd2, Nat.mul_one] <;> exact rfl); (· rfl); (· simp only [push_cast, env, Nat.reduceEqDiff, reduceIte, Nat.reduceAdd, Nat.reduceMul, Nat.reduceLeDiff, reduceCtorEq, Nat.reduceSub, Int.reduceToNat, e1, hid3, e0, e0', e9, hid2, hrd2, Nat.mul_one] <;> exact rfl); (· decide)) | (apply one_bsl; (· rfl); (· simp only [push_cast, env, Nat.reduceEqDiff, reduceIte, Nat.reduceAdd, Nat.reduceMul, Nat.reduceLeDiff, reduceCtorEq, Nat.reduceSub, Int.reduceToNat, e1, hid3, e0, e0', e9, hid2, hrd2, Nat.mul_one] <;> exact rfl); (· rfl); (· simp only [push_cast, env, Nat.reduceEqDiff, reduceIte, Nat.reduceAdd, Nat.reduceMul, Nat.reduceLeDiff, reduceCtorEq, Nat.reduceSub, Int.reduceToNat, e1, hid3, e0, e0', e9, hid2, hrd2, Nat.mul_one] <;> exact rfl)) | (apply one_box; (· rfl); (· simp only [push_cast, env, Nat.reduceEqDiff, reduceIte, Nat.reduceAdd, Nat.reduceMul, Nat.reduceLeDiff, reduceCtorEq, Nat.reduceSub, Int.reduceToNat, e1, hid3, e0, e0', e9, hid2, hrd2, Nat.mul_one] <;> exact rfl); (· rfl); (· simp only [push_cast, env, Nat.reduceEqDiff, reduceIte, Nat.reduceAdd, Nat.reduceMul, Nat.reduceLeDiff, reduceCtorEq, Nat.reduceSub, Int.reduceToNat, e1, hid3, e0, e0', e9, hid2, hrd2, Nat.mul_one] <;> exact rfl)) | (apply one_skip; (· rfl); (· simp only [push_cast, env, Nat.reduceEqDiff, reduceIte, Nat.reduceAdd, Nat.reduceMul, Nat.reduceLeDiff, reduceCtorEq, Nat.reduceSub, Int.reduceToNat, e1, hid3, e0, e0', e9, hid2, hrd2, Nat.mul_one] <;> exact rfl)))); (· (first | (apply one_val; (· rfl); (· simp only [push_cast, env, Nat.reduceEqDiff, reduceIte, Nat.reduceAdd, Nat.reduceMul, Nat.reduceLeDiff, reduceCtorEq, Nat.reduceSub, Int.reduceToNat, e1, hid3, e0, e0', e9, hid2, hrd2, Nat.mul_one] <;> exact rfl); (· simp only [push_cast, env, Nat.reduceEqDiff, reduceIte, Nat.reduceAdd, Nat.reduceMul, Nat.reduceLeDiff, reduceCtorEq, Nat.reduceSub, Int.reduceToNat, e1, hid3, e0, e0', e9, hid2, hrd2, Nat.mul_one] <;> exact rfl)) | (apply one_eph; (· rfl); (· simp only [push_cast, env, Nat.reduceEqDiff, reduceIte, Nat.reduceAdd, Nat.reduceMul, Nat.reduceLeDiff, reduceCtorEq, Nat.reduceSub, Int.reduceToNat, e1, hid3, e0, e0', e9, hid2, hrd2, Nat.mul_one] <;> exact rfl); (· rfl); (· simp only [push_cast, env, Nat.reduceEqDiff, reduceIte, Nat.reduceAdd, Nat.reduceMul, Nat.reduceLeDiff, reduceCtorEq, Nat.reduceSub, Int.reduceToNat, e1, hid3, e0, e0', e9, hid2, hrd2, Nat.mul_one] <;> exact rfl); (· decide)) | (apply one_bsl; (· rfl); (· simp only [push_cast, env, Nat.reduceEqDiff, reduceIte, Nat.reduceAdd, Nat.reduceMul, Nat.reduceLeDiff, reduceCtorEq, Nat.reduceSub, Int.reduceToNat, e1, hid3, e0, e0', e9, hid2, hrd2, Nat.mul_one] <;> exact rfl); (· rfl); (· simp only [push_cast, env, Nat.reduceEqDiff, reduceIte, Nat.reduceAdd, Nat.reduceMul, Nat.reduceLeDiff, reduceCtorEq, Nat.reduceSub, Int.reduceToNat, e1, hid3, e0, e0', e9, hid2, hrd2, Nat.mul_one] <;> exact rfl)) | (apply one_box; (· rfl); (· simp only [push_cast, env, Nat.reduceEqDiff, reduceIte, Nat.reduceAdd, Nat.reduceMul, Nat.reduceLeDiff, reduceCtorEq, Nat.reduceSub, Int.reduceToNat, e1, hid3, e0, e0', e9, hid2, hrd2, Nat.mul_one] <;> exact rfl); (· rfl); (· simp only [push_cast, env, Nat.reduceEqDiff, reduceIte, Nat.reduceAdd, Nat.reduceMul, Nat.reduceLeDiff, reduceCtorEq, Nat.reduceSub, Int.reduceToNat, e1, hid3, e0, e0', e9, hid2, hrd2, Nat.mul_one] <;> exact rfl)) | (apply one_skip; (· rfl); (· simp only [push_cast, env, Nat.reduceEqDiff, reduceIte, Nat.reduceAdd, Nat.reduceMul, Nat.reduceLeDiff, reduceCtorEq, Nat.reduceSub, Int.reduceToNat, e1, hid3, e0, e0', e9, hid2, hrd2, Nat.mul_one] <;> exact rfl)))); (· (first | (apply one_val; (· rfl); (· simp only [push_cast, env, Nat.reduceEqDiff, reduceIte, Nat.reduceAdd, Nat.reduceMul, Nat.reduceLeDiff, reduceCtorEq, Nat.reduceSub, Int.reduceToNat, e1, hid3, e0, e0', e9, hid2, hrd2, Nat.mul_one] <;> exact rfl); (· simp only [push_cast, env, Nat.reduceEqDiff, reduceIte, Nat.reduceAdd, Nat.reduceMul, Nat.reduceLeDiff, reduceCtorEq, Nat.reduceSub, Int.reduceToNat, e1, hid3, e0, e0', e9, hid2, hrd2, Nat.mul_one] <;> exact rfl)) | (apply one_eph; (· rfl); (· simp only [push_cast, env, Nat.reduceEqDiff, reduceIte, Nat.reduceAdd, Nat.reduceMul, Nat.reduceLeDiff, reduceCtorEq, Nat.reduceSub, Int.reduceToNat, e1, hid3, e0, e0', e9, hid2, hrd2, Nat.mul_one] <;> exact rfl); (· rfl); (· simp only [push_cast, env, Nat.reduceEqDiff, reduceIte, Nat.reduceAdd, Nat.reduceMul, Nat.reduceLeDiff, reduceCtorEq, Nat.reduceSub, Int.reduceToNat, e1, hid3, e0, e0', e9, hid2, hrd2, Nat.mul_one] <;> exact rfl); (· decide)) | (apply one_bsl; (· rfl); (· simp only [push_cast, env, Nat.reduceEqDiff, reduceIte, Nat.reduceAdd, Nat.reduceMul, Nat.reduceLeDiff, reduceCtorEq, Nat.reduceSub, Int.reduceToNat, e1, hid3, e0, e0', e9, hid2, hrd2, Nat.mul_one] <;> exact rfl); (· rfl); (· simp only [push_cast, env, Nat.reduceEqDiff, reduceIte, Nat.reduceAdd, Nat.reduceMul, Nat.reduceLeDiff, reduceCtorEq, Nat.reduceSub, Int.reduceToNat, e1, hid3, e0, e0', e9, hid2, hrd2, Nat.mul_one] <;> exact rfl)) | (apply one_box; (· rfl); (· simp only [push_cast, env, Nat.reduceEqDiff, reduceIte, Nat.reduceAdd, Nat.reduceMul, Nat.reduceLeDiff, reduceCtorEq, Nat.reduceSub, Int.reduceToNat, e1, hid3, e0, e0', e9, hid2, hrd2, Nat.mul_one] <;> exact rfl); (· rfl); (· simp only [push_cast, env, Nat.reduceEqDiff, reduceIte, Nat.reduceAdd, Nat.reduceMul, Nat.reduceLeDiff, reduceCtorEq, Nat.reduceSub, Int.reduceToNat, e1, hid3, e0, e0', e9, hid2, hrd2, Nat.mul_one] <;> exact rfl)) | (apply one_skip; (· rfl); (· simp only [push_cast, env, Nat.reduceEqDiff, reduceIte, Nat.reduceAdd, Nat.reduceMul, Nat.reduceLeDiff, reduceCtorEq, Nat.reduceSub, Int.reduceToNat, e1, hid3, e0, e0', e9, hid2, hrd2, Nat.mul_one] <;> exact rfl)))))); (· rfl)))
      case ht => rfl
      case hF => repeat (first | exact trivial | (refine ⟨.inl ⟨by decide, rfl⟩, ?_⟩) | (refine ⟨.inr ⟨rfl, by simp⟩, ?_⟩))
      refine ow_push (h := hk) (cs := sy.cells) (by simp only [push_cast, env, Nat.reduceEqDiff, reduceIte, Nat.reduceAdd, Nat.reduceMul, Nat.reduceLeDiff, reduceCtorEq, Nat.reduceSub, Int.reduceToNat] <;> exact rfl) rfl (by kernel_rfl) ti43 (by decide) rfl (by simp only [push_cast, env, Nat.reduceEqDiff, reduceIte, Nat.reduceAdd, Nat.reduceMul, Nat.reduceLeDiff, reduceCtorEq, Nat.reduceSub, Int.reduceToNat] <;> exact rfl) rfl hG hpj hgl rfl (by simp only; omega) (by omega) ?_
      intro p4 c4 h4 G4 hp4 hk4 hl4
      repeat (first | refine cw_seq ?_ | refine cw_region ?_ | refine ow_nil ?_ | ((first | apply ow_cons | apply qw_cons); · simp only [push_cast, env, Nat.reduceEqDiff, reduceIte, Nat.reduceAdd, Nat.reduceMul, Nat.reduceLeDiff, reduceCtorEq, Nat.reduceSub, Int.reduceToNat] <;> exact rfl) | ((first | apply ow_spec | apply qw_spec); · simp only [push_cast, env, Nat.reduceEqDiff, reduceIte, Nat.reduceAdd, Nat.reduceMul, Nat.reduceLeDiff, reduceCtorEq, Nat.reduceSub, Int.reduceToNat] <;> exact rfl) | refine qw_nil ?_ | refine cw_block ?_ | refine cw_scope ?_ | refine cw_label ?_ | refine cw_skip ?_)
      refine ⟨[(1, .val (.slice pw w.length cw)), (2, .box [i64 g.nts, i64 g.start, .slice (some ⟨id, 0, some ver⟩) g.rules.length c]), (5, .box [i64 g.nts, i64 g.start, .slice q k cc]), (6, .val (i64 k)), (7, .box [i64 r.lhs, .slice p4 (j + 1) c4]), (8, .val (i64 i))], (by simp only [push_cast, SubL, fget, Nat.reduceEqDiff, reduceIte]), ?_⟩
      show CW _ _ _ _
      repeat (first | refine cw_seq ?_ | refine cw_region ?_ | refine ow_nil ?_ | ((first | apply ow_cons | apply qw_cons); · simp only [push_cast, env, Nat.reduceEqDiff, reduceIte, Nat.reduceAdd, Nat.reduceMul, Nat.reduceLeDiff, reduceCtorEq, Nat.reduceSub, Int.reduceToNat, e10] <;> exact rfl) | ((first | apply ow_spec | apply qw_spec); · simp only [push_cast, env, Nat.reduceEqDiff, reduceIte, Nat.reduceAdd, Nat.reduceMul, Nat.reduceLeDiff, reduceCtorEq, Nat.reduceSub, Int.reduceToNat, e10] <;> exact rfl) | refine qw_nil ?_ | refine cw_block ?_ | refine cw_scope ?_ | refine cw_label ?_ | refine cw_skip ?_)
      refine ⟨hlj, (h4, p4, c4), (by simp only [push_cast, SubL, fget, Nat.reduceEqDiff, reduceIte]), rfl, hp4, ?_⟩
      rw [hrt, List.flatMap_append, List.flatMap_singleton]
      exact G4
    · obtain rfl : j = r.rhs.length := by omega
      have d9 : decide (0 ≤ (r.rhs.length : Int) - 1 - (r.rhs.length : Int)) = false := decide_eq_false (by omega)
      repeat (first | refine cw_seq ?_ | refine cw_region ?_ | refine ow_nil ?_ | ((first | apply ow_cons | apply qw_cons); · simp only [push_cast, env, Nat.reduceEqDiff, reduceIte, Nat.reduceAdd, Nat.reduceMul, Nat.reduceLeDiff, reduceCtorEq, Nat.reduceSub, Int.reduceToNat, d9] <;> exact rfl) | ((first | apply ow_spec | apply qw_spec); · simp only [push_cast, env, Nat.reduceEqDiff, reduceIte, Nat.reduceAdd, Nat.reduceMul, Nat.reduceLeDiff, reduceCtorEq, Nat.reduceSub, Int.reduceToNat, d9] <;> exact rfl) | refine qw_nil ?_ | refine cw_block ?_ | refine cw_scope ?_ | refine cw_label ?_ | refine cw_skip ?_)
      refine cw_condF (by simp only [push_cast, env, Nat.reduceEqDiff, reduceIte, Nat.reduceAdd, Nat.reduceMul, Nat.reduceLeDiff, reduceCtorEq, Nat.reduceSub, Int.reduceToNat] <;> exact rfl) ?_
      refine cw_exit ?_
      show CW _ _ _ _
      rw [List.take_of_length_le (by simp)] at hG
      have hsl : RdSyms hj (.slice pr r.rhs.length cr) r.rhs.reverse := by
        have := hG.sl (b := 40) (by have := hu'.1; omega)
        rw [show r.rhs.length = r.rhs.reverse.length by simp] at this
        have e : Value.slice pr r.rhs.length cr = .slice pr r.rhs.reverse.length cr := by simp
        rw [e]
        exact this
      have hB1 := hB.keep hpj
      have hl1 := hpj.length_le
      have hI1 : Ids h hj us := fun x hx i hi => by have := hI x hx i hi; omega
      obtain ⟨p2, c2', h2, hone, hB2, hpr, hx2, hl2⟩ := hB1.push' (r := turnR r) hsl (fun i hi hiu => by
        cases hb : isAtS (.slice pr r.rhs.length cr) i with
        | false => rfl
        | true => have := (hG.atS hb).1; have := (hB.g.lt hiu).2; omega) (by
        cases hb : isAtS (.slice pr r.rhs.length cr) hj.length with
        | false => rfl
        | true => have := (hG.atS hb).2; omega) (ids_new hI1) (by rw [htl]; omega)
      rw [← htk, htl] at hB2
      simp only [htl] at hone
      repeat (first | refine cw_seq ?_ | refine cw_region ?_ | refine ow_nil ?_ | ((first | apply ow_cons | apply qw_cons); · simp only [push_cast, env, Nat.reduceEqDiff, reduceIte, Nat.reduceAdd, Nat.reduceMul, Nat.reduceLeDiff, reduceCtorEq, Nat.reduceSub, Int.reduceToNat] <;> exact rfl) | ((first | apply ow_spec | apply qw_spec); · simp only [push_cast, env, Nat.reduceEqDiff, reduceIte, Nat.reduceAdd, Nat.reduceMul, Nat.reduceLeDiff, reduceCtorEq, Nat.reduceSub, Int.reduceToNat] <;> exact rfl) | refine qw_nil ?_ | refine cw_block ?_ | refine cw_scope ?_ | refine cw_label ?_ | refine cw_skip ?_)
      refine owv (hone _ _ _ _ _ rfl (by simp only [push_cast, env, Nat.reduceEqDiff, reduceIte, Nat.reduceAdd, Nat.reduceMul, Nat.reduceLeDiff, reduceCtorEq, Nat.reduceSub, Int.reduceToNat] <;> exact rfl) rfl (by simp only [push_cast, env, Nat.reduceEqDiff, reduceIte, Nat.reduceAdd, Nat.reduceMul, Nat.reduceLeDiff, reduceCtorEq, Nat.reduceSub, Int.reduceToNat] <;> exact rfl) (by simp only [push_cast, env, Nat.reduceEqDiff, reduceIte, Nat.reduceAdd, Nat.reduceMul, Nat.reduceLeDiff, reduceCtorEq, Nat.reduceSub, Int.reduceToNat] <;> exact rfl)) ?_
      repeat (first | refine cw_seq ?_ | refine cw_region ?_ | refine ow_nil ?_ | ((first | apply ow_cons | apply qw_cons); · simp only [push_cast, env, Nat.reduceEqDiff, reduceIte, Nat.reduceAdd, Nat.reduceMul, Nat.reduceLeDiff, reduceCtorEq, Nat.reduceSub, Int.reduceToNat, e2] <;> exact rfl) | ((first | apply ow_spec | apply qw_spec); · simp only [push_cast, env, Nat.reduceEqDiff, reduceIte, Nat.reduceAdd, Nat.reduceMul, Nat.reduceLeDiff, reduceCtorEq, Nat.reduceSub, Int.reduceToNat, e2] <;> exact rfl) | refine qw_nil ?_ | refine cw_block ?_ | refine cw_scope ?_ | refine cw_label ?_ | refine cw_skip ?_)
      refine ⟨hlt, (h2, p2, c2', us ++ [.slice pr r.rhs.length cr]), (by simp only [push_cast, SubL, fget, Nat.reduceEqDiff, reduceIte]), rfl, hB2, fun x hx i hi => ?_⟩
      have h12 := hB2.p
      rw [List.mem_append] at hx
      rcases hx with hx | hx
      · have := hI1 x hx i hi
        dsimp only
        omega
      · obtain rfl : x = _ := by simpa using hx
        have := hG.atS hi
        have := hpre.length_le
        dsimp only
        omega
  · have e3 := ge_dec hlt
    obtain rfl : k = g.rules.length := by omega
    repeat (first | refine cw_seq ?_ | refine cw_region ?_ | refine ow_nil ?_ | ((first | apply ow_cons | apply qw_cons); · simp only [push_cast, env, Nat.reduceEqDiff, reduceIte, Nat.reduceAdd, Nat.reduceMul, Nat.reduceLeDiff, reduceCtorEq, Nat.reduceSub, Int.reduceToNat, e3] <;> exact rfl) | ((first | apply ow_spec | apply qw_spec); · simp only [push_cast, env, Nat.reduceEqDiff, reduceIte, Nat.reduceAdd, Nat.reduceMul, Nat.reduceLeDiff, reduceCtorEq, Nat.reduceSub, Int.reduceToNat, e3] <;> exact rfl) | refine qw_nil ?_ | refine cw_block ?_ | refine cw_scope ?_ | refine cw_label ?_ | refine cw_skip ?_)
    refine cw_condF (by simp only [push_cast, env, Nat.reduceEqDiff, reduceIte, Nat.reduceAdd, Nat.reduceMul, Nat.reduceLeDiff, reduceCtorEq, Nat.reduceSub, Int.reduceToNat] <;> exact rfl) ?_
    refine cw_exit ?_
    show CW _ _ _ _
    rw [List.take_of_length_le (by rw [htr]; omega)] at hB
    have hX : RdGram hk (.agg #[i64 g.nts, i64 g.start, .slice q g.rules.length cc]) (turnG g) := ⟨_, rfl, hB.rd (by rw [htr]; omega)⟩
    have f1 : IntKind.i64.wrap ((w.length : Int) - 1) = (w.length : Int) - 1 := wrap64_id (by omega) (by omega)
    repeat (first | refine cw_seq ?_ | refine cw_region ?_ | refine ow_nil ?_ | ((first | apply ow_cons | apply qw_cons); · simp only [push_cast, env, Nat.reduceEqDiff, reduceIte, Nat.reduceAdd, Nat.reduceMul, Nat.reduceLeDiff, reduceCtorEq, Nat.reduceSub, Int.reduceToNat, f1] <;> exact rfl) | ((first | apply ow_spec | apply qw_spec); · simp only [push_cast, env, Nat.reduceEqDiff, reduceIte, Nat.reduceAdd, Nat.reduceMul, Nat.reduceLeDiff, reduceCtorEq, Nat.reduceSub, Int.reduceToNat, f1] <;> exact rfl) | refine qw_nil ?_ | refine cw_block ?_ | refine cw_scope ?_ | refine cw_label ?_ | refine cw_skip ?_)
    refine cw_forG w.length (fun j (y : Heap × Value) => [(1, .val (.slice pw w.length cw)), (2, .box [i64 g.nts, i64 g.start, .slice p g.rules.length c]), (5, .box [i64 g.nts, i64 g.start, .slice q g.rules.length cc]), (9, .val y.2), (10, .val (i64 ((w.length : Int) - 1 - (j : Int))))]) (fun _ y => y.1)
      (fun j y => hk <+: y.1 ∧ GB hk y.1 y.2 (w.reverse.take j)) (hk, nilS) (by simp only [push_cast, SubL, fget, Nat.reduceEqDiff, reduceIte, Int.natCast_zero, Int.sub_zero]) rfl ⟨List.prefix_refl _, GB.nil⟩ ?_
    rintro j ⟨hj, vv⟩ hjn ⟨hpj, hG⟩
    simp only at hpj hG ⊢
    have hwl : (w.reverse.take j).length = j := by rw [List.length_take, List.length_reverse]; omega
    by_cases hlj : j < w.length
    · obtain ⟨i, hi⟩ : ∃ i : Nat, i + j + 1 = w.length := ⟨w.length - 1 - j, by omega⟩
      have hjl : i < w.length := by omega
      rw [show (w.length : Int) - 1 - (j : Int) = (i : Int) by omega]
      have hrt := rev_take hjl hi
      obtain ⟨idw, offw, verw, ownw, cw', cellsw, hvw, hidw, hgw, hbw⟩ := ((hwR.mono hpre).mono hpj).at hjl
      cases hvw
      have e9 := rng hjl
      have d9 : decide (0 ≤ (i : Int)) = true := decide_eq_true (by omega)
      have e10 : IntKind.i64.wrap ((i : Int) - 1) = (w.length : Int) - 1 - ((j : Int) + 1) := by rw [wrap64_id (by omega) (by omega)]; omega
      generalize w[i] = b at *
      repeat (first | refine cw_seq ?_ | refine cw_region ?_ | refine ow_nil ?_ | ((first | apply ow_cons | apply qw_cons); · simp only [push_cast, env, Nat.reduceEqDiff, reduceIte, Nat.reduceAdd, Nat.reduceMul, Nat.reduceLeDiff, reduceCtorEq, Nat.reduceSub, Int.reduceToNat, d9] <;> exact rfl) | ((first | apply ow_spec | apply qw_spec); · simp only [push_cast, env, Nat.reduceEqDiff, reduceIte, Nat.reduceAdd, Nat.reduceMul, Nat.reduceLeDiff, reduceCtorEq, Nat.reduceSub, Int.reduceToNat, d9] <;> exact rfl) | refine qw_nil ?_ | refine cw_block ?_ | refine cw_scope ?_ | refine cw_label ?_ | refine cw_skip ?_)
      refine cw_condT (by simp only [push_cast, env, Nat.reduceEqDiff, reduceIte, Nat.reduceAdd, Nat.reduceMul, Nat.reduceLeDiff, reduceCtorEq, Nat.reduceSub, Int.reduceToNat] <;> exact rfl) ?_
      repeat (first | refine cw_seq ?_ | refine cw_region ?_ | refine ow_nil ?_ | ((first | apply ow_cons | apply qw_cons); · simp only [push_cast, env, Nat.reduceEqDiff, reduceIte, Nat.reduceAdd, Nat.reduceMul, Nat.reduceLeDiff, reduceCtorEq, Nat.reduceSub, Int.reduceToNat, hidw, hgw, e9, Nat.mul_one] <;> exact rfl) | ((first | apply ow_spec | apply qw_spec); · simp only [push_cast, env, Nat.reduceEqDiff, reduceIte, Nat.reduceAdd, Nat.reduceMul, Nat.reduceLeDiff, reduceCtorEq, Nat.reduceSub, Int.reduceToNat, hidw, hgw, e9, Nat.mul_one] <;> exact rfl) | refine qw_nil ?_ | refine cw_block ?_ | refine cw_scope ?_ | refine cw_label ?_ | refine cw_skip ?_)
      refine ow_appB1 (h := hk) (b := b) hG hpj hbw (by rw [hwl]; omega) (by simp only [push_cast, env, Nat.reduceEqDiff, reduceIte, Nat.reduceAdd, Nat.reduceMul, Nat.reduceLeDiff, reduceCtorEq, Nat.reduceSub, Int.reduceToNat] <;> exact rfl) rfl (by simp only [push_cast, env, Nat.reduceEqDiff, reduceIte, Nat.reduceAdd, Nat.reduceMul, Nat.reduceLeDiff, reduceCtorEq, Nat.reduceSub, Int.reduceToNat] <;> exact rfl) rfl ?_
      intro v4 h4 hp4 hG4
      repeat (first | refine cw_seq ?_ | refine cw_region ?_ | refine ow_nil ?_ | ((first | apply ow_cons | apply qw_cons); · simp only [push_cast, env, Nat.reduceEqDiff, reduceIte, Nat.reduceAdd, Nat.reduceMul, Nat.reduceLeDiff, reduceCtorEq, Nat.reduceSub, Int.reduceToNat, e10] <;> exact rfl) | ((first | apply ow_spec | apply qw_spec); · simp only [push_cast, env, Nat.reduceEqDiff, reduceIte, Nat.reduceAdd, Nat.reduceMul, Nat.reduceLeDiff, reduceCtorEq, Nat.reduceSub, Int.reduceToNat, e10] <;> exact rfl) | refine qw_nil ?_ | refine cw_block ?_ | refine cw_scope ?_ | refine cw_label ?_ | refine cw_skip ?_)
      refine ⟨hlj, (h4, v4), (by simp only [push_cast, SubL, fget, Nat.reduceEqDiff, reduceIte]), rfl, hp4, ?_⟩
      rw [hrt]
      exact hG4
    · obtain rfl : j = w.length := by omega
      have d9 : decide (0 ≤ (w.length : Int) - 1 - (w.length : Int)) = false := decide_eq_false (by omega)
      repeat (first | refine cw_seq ?_ | refine cw_region ?_ | refine ow_nil ?_ | ((first | apply ow_cons | apply qw_cons); · simp only [push_cast, env, Nat.reduceEqDiff, reduceIte, Nat.reduceAdd, Nat.reduceMul, Nat.reduceLeDiff, reduceCtorEq, Nat.reduceSub, Int.reduceToNat, d9] <;> exact rfl) | ((first | apply ow_spec | apply qw_spec); · simp only [push_cast, env, Nat.reduceEqDiff, reduceIte, Nat.reduceAdd, Nat.reduceMul, Nat.reduceLeDiff, reduceCtorEq, Nat.reduceSub, Int.reduceToNat, d9] <;> exact rfl) | refine qw_nil ?_ | refine cw_block ?_ | refine cw_scope ?_ | refine cw_label ?_ | refine cw_skip ?_)
      refine cw_condF (by simp only [push_cast, env, Nat.reduceEqDiff, reduceIte, Nat.reduceAdd, Nat.reduceMul, Nat.reduceLeDiff, reduceCtorEq, Nat.reduceSub, Int.reduceToNat] <;> exact rfl) ?_
      refine cw_exit ?_
      show CW _ _ _ _
      rw [List.take_of_length_le (by simp)] at hG
      repeat (first | refine cw_seq ?_ | refine cw_region ?_ | refine ow_nil ?_ | ((first | apply ow_cons | apply qw_cons); · simp only [push_cast, env, Nat.reduceEqDiff, reduceIte, Nat.reduceAdd, Nat.reduceMul, Nat.reduceLeDiff, reduceCtorEq, Nat.reduceSub, Int.reduceToNat] <;> exact rfl) | ((first | apply ow_spec | apply qw_spec); · simp only [push_cast, env, Nat.reduceEqDiff, reduceIte, Nat.reduceAdd, Nat.reduceMul, Nat.reduceLeDiff, reduceCtorEq, Nat.reduceSub, Int.reduceToNat] <;> exact rfl) | refine qw_nil ?_ | refine cw_block ?_ | refine cw_scope ?_ | refine cw_label ?_ | refine cw_skip ?_)
      refine ow_call (fn := Try.f15) (by simp only [push_cast, env, Nat.reduceEqDiff, reduceIte, Nat.reduceAdd, Nat.reduceMul, Nat.reduceLeDiff, reduceCtorEq, Nat.reduceSub, Int.reduceToNat] <;> exact rfl) rfl (by simp only [push_cast, env, Nat.reduceEqDiff, reduceIte, Nat.reduceAdd, Nat.reduceMul, Nat.reduceLeDiff, reduceCtorEq, Nat.reduceSub, Int.reduceToNat] <;> exact rfl) (by simp only [push_cast, env, Nat.reduceEqDiff, reduceIte, Nat.reduceAdd, Nat.reduceMul, Nat.reduceLeDiff, reduceCtorEq, Nat.reduceSub, Int.reduceToNat] <;> exact rfl) Try.func15 (by kernel_rfl) (by kernel_rfl) ?_
      rw [List.append_nil]
      refine (accepts_fw (hr.mono (hpre.trans hpj)) (hwR.mono (hpre.trans hpj)) W).mono ?_
      rintro _ h2 ⟨⟨a, rfl, a1, a2⟩, hp2⟩
      repeat (first | refine cw_seq ?_ | refine cw_region ?_ | refine ow_nil ?_ | ((first | apply ow_cons | apply qw_cons); · simp only [push_cast, env, Nat.reduceEqDiff, reduceIte, Nat.reduceAdd, Nat.reduceMul, Nat.reduceLeDiff, reduceCtorEq, Nat.reduceSub, Int.reduceToNat] <;> exact rfl) | ((first | apply ow_spec | apply qw_spec); · simp only [push_cast, env, Nat.reduceEqDiff, reduceIte, Nat.reduceAdd, Nat.reduceMul, Nat.reduceLeDiff, reduceCtorEq, Nat.reduceSub, Int.reduceToNat] <;> exact rfl) | refine qw_nil ?_ | refine cw_block ?_ | refine cw_scope ?_ | refine cw_label ?_ | refine cw_skip ?_)
      refine ow_call (fn := Try.f15) (by simp only [push_cast, env, Nat.reduceEqDiff, reduceIte, Nat.reduceAdd, Nat.reduceMul, Nat.reduceLeDiff, reduceCtorEq, Nat.reduceSub, Int.reduceToNat] <;> exact rfl) rfl (by simp only [push_cast, env, Nat.reduceEqDiff, reduceIte, Nat.reduceAdd, Nat.reduceMul, Nat.reduceLeDiff, reduceCtorEq, Nat.reduceSub, Int.reduceToNat] <;> exact rfl) (by simp only [push_cast, env, Nat.reduceEqDiff, reduceIte, Nat.reduceAdd, Nat.reduceMul, Nat.reduceLeDiff, reduceCtorEq, Nat.reduceSub, Int.reduceToNat] <;> exact rfl) Try.func15 (by kernel_rfl) (by kernel_rfl) ?_
      rw [List.append_nil]
      refine (accepts_fw ((hX.mono hpj).mono hp2) (hG.rdb.mono hp2) (turn_wf W)).mono ?_
      rintro _ h3 ⟨⟨b, rfl, b1, b2⟩, hp3⟩
      rw [turn_fit] at b1 b2 ⊢
      obtain rfl : a = b := by
        by_cases hf : fitE g w = 0
        · rw [Bool.eq_iff_iff, a2 hf, b2 hf, turn_nt]
        · rw [a1 hf, b1 hf]
      repeat (first | refine cw_seq ?_ | refine cw_region ?_ | refine ow_nil ?_ | ((first | apply ow_cons | apply qw_cons); · simp only [push_cast, env, Nat.reduceEqDiff, reduceIte, Nat.reduceAdd, Nat.reduceMul, Nat.reduceLeDiff, reduceCtorEq, Nat.reduceSub, Int.reduceToNat] <;> exact rfl) | ((first | apply ow_spec | apply qw_spec); · simp only [push_cast, env, Nat.reduceEqDiff, reduceIte, Nat.reduceAdd, Nat.reduceMul, Nat.reduceLeDiff, reduceCtorEq, Nat.reduceSub, Int.reduceToNat] <;> exact rfl) | refine qw_nil ?_ | refine cw_block ?_ | refine cw_scope ?_ | refine cw_label ?_ | refine cw_skip ?_)
      refine ow_call (fn := Try.f14) (by simp only [push_cast, env, Nat.reduceEqDiff, reduceIte, Nat.reduceAdd, Nat.reduceMul, Nat.reduceLeDiff, reduceCtorEq, Nat.reduceSub, Int.reduceToNat] <;> exact rfl) rfl (by simp only [push_cast, env, Nat.reduceEqDiff, reduceIte, Nat.reduceAdd, Nat.reduceMul, Nat.reduceLeDiff, reduceCtorEq, Nat.reduceSub, Int.reduceToNat] <;> exact rfl) (by simp only [push_cast, env, Nat.reduceEqDiff, reduceIte, Nat.reduceAdd, Nat.reduceMul, Nat.reduceLeDiff, reduceCtorEq, Nat.reduceSub, Int.reduceToNat] <;> exact rfl) Try.func14 (by kernel_rfl) (by kernel_rfl) ?_
      refine alive7_fw.mono ?_
      rintro _ h3 ⟨rfl, rfl⟩
      repeat (first | refine cw_seq ?_ | refine cw_region ?_ | refine ow_nil ?_ | ((first | apply ow_cons | apply qw_cons); · simp only [push_cast, env, Nat.reduceEqDiff, reduceIte, Nat.reduceAdd, Nat.reduceMul, Nat.reduceLeDiff, reduceCtorEq, Nat.reduceSub, Int.reduceToNat] <;> exact rfl) | ((first | apply ow_spec | apply qw_spec); · simp only [push_cast, env, Nat.reduceEqDiff, reduceIte, Nat.reduceAdd, Nat.reduceMul, Nat.reduceLeDiff, reduceCtorEq, Nat.reduceSub, Int.reduceToNat] <;> exact rfl) | refine qw_nil ?_ | refine cw_block ?_ | refine cw_scope ?_ | refine cw_label ?_ | refine cw_skip ?_)
      refine cw_ret ?_
      exact ⟨_, (by simp only [push_cast, env, Nat.reduceEqDiff, reduceIte, Nat.reduceAdd, Nat.reduceMul, Nat.reduceLeDiff, reduceCtorEq, Nat.reduceSub, Int.reduceToNat] <;> exact rfl), rfl⟩
end Go.Proofs.Ytafncpgiibikcaa
