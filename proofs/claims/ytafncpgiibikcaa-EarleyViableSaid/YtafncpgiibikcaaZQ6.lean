/- Several texts, one behind the other; each begins with a remark of its own. -/
import Derived.Test.YtafncpgiibikcaaZE6
/- Plain facts: the longest beginning; what goes on behind a beginning. -/
namespace Go.Proofs.Ytafncpgiibikcaa
set_option linter.unusedSimpArgs false
set_option linter.unusedVariables false

/-- the longest beginning of w that begins a text -/
def LastP (g : Gram) (w : List Nat) (n : Int) : Prop :=
  (n = -1 ∧ ∀ j, j ≤ w.length → ¬ Bg g (w.take j) g.start 0) ∨ ∃ j, j ≤ w.length ∧ n = j ∧ Bg g (w.take j) g.start 0 ∧ ∀ i, j < i → i ≤ w.length → ¬ Bg g (w.take i) g.start 0
theorem lastK_spec {S : List (List Item)} : ∀ k, (lastK S k = -1 ∧ ∀ j, j < k → ¬ 0 < (gs S j).length) ∨ ∃ j, j < k ∧ lastK S k = j ∧ 0 < (gs S j).length ∧ ∀ i, j < i → i < k → ¬ 0 < (gs S i).length
  | 0 => .inl ⟨rfl, fun j hj => by omega⟩
  | k + 1 => by
    unfold lastK
    by_cases h : 0 < (gs S k).length
    · rw [if_pos h]
      exact .inr ⟨k, by omega, rfl, h, fun i h1 h2 => by omega⟩
    · rw [if_neg h]
      rcases lastK_spec (S := S) k with ⟨h1, h2⟩ | ⟨j, h1, h2, h3, h4⟩
      · refine .inl ⟨h1, fun j hj => ?_⟩
        rcases Nat.lt_or_ge j k with h5 | h5
        · exact h2 j h5
        · rw [show j = k by omega]; exact h
      · refine .inr ⟨j, by omega, h2, h3, fun i h5 h6 => ?_⟩
        rcases Nat.lt_or_ge i k with h7 | h7
        · exact h4 i h5 h7
        · rw [show i = k by omega]; exact h
theorem lastK_P {g : Gram} {m : List Bool} {w : List Nat} {S : List (List Item)} (R : RightS g) (hm : Marks g.nts (goodD g) m) (C : ChartOK (trG g m) w S) : LastP g w (lastK S (w.length + 1)) := by
  have hv := fun j (hj : j ≤ w.length) => set_viable R hm C hj
  rcases lastK_spec (S := S) (w.length + 1) with ⟨h1, h2⟩ | ⟨j, h1, h2, h3, h4⟩
  · exact .inl ⟨h1, fun j hj hb => h2 j (by omega) ((hv j hj).2 hb)⟩
  · exact .inr ⟨j, by omega, h2, (hv j (by omega)).1 h3, fun i h5 h6 hb => h4 i h5 (by omega) ((hv i h6).2 hb)⟩
theorem LastP.eq {g : Gram} {w : List Nat} {a b : Int} (h1 : LastP g w a) (h2 : LastP g w b) : a = b := by
  rcases h1 with ⟨h1, k1⟩ | ⟨j, h1, rfl, h3, h4⟩ <;> rcases h2 with ⟨h2, k2⟩ | ⟨i, h2, rfl, k3, k4⟩
  · omega
  · exact absurd k3 (k1 i h2)
  · exact absurd h3 (k2 j h1)
  · rcases Nat.lt_trichotomy i j with h | h | h
    · exact absurd h3 (k4 j h h1)
    · omega
    · exact absurd k3 (h4 i h h2)
theorem bg_text {g : Gram} {w : List Nat} (h : NtTx g.rules g.start w) : Bg g w g.start 0 := by
  obtain ⟨r, h1, h2, h3⟩ := h
  rw [← h2]
  refine .full r r.rhs.length 0 h1 (Nat.le_refl _) ⟨Nat.zero_le _, Nat.le_refl _, ?_⟩ fun s hs => ?_
  · rw [List.take_length]
    have : sub w 0 w.length = w := by unfold sub; rw [List.drop_zero]; exact List.take_of_length_le (by omega)
    rw [this]
    exact h3
  · rw [List.drop_length] at hs
    cases hs
def ByteW (v : List Nat) : Prop := ∀ b ∈ v, b < 256
theorem ByteW.nil : ByteW [] := by simp [ByteW]
theorem ByteW.cons {b : Nat} {v : List Nat} (h : b < 256) (hv : ByteW v) : ByteW (b :: v) := fun x hx => (List.mem_cons.1 hx).elim (fun e => e ▸ h) (hv x)
theorem ByteW.app {u v : List Nat} (hu : ByteW u) (hv : ByteW v) : ByteW (u ++ v) := fun x hx => (List.mem_append.1 hx).elim (hu x) (hv x)
theorem good_tx {g : Gram} (W : WfG g) {A : Int} (h : goodD g A) : ∃ v, NtTx g.rules A v ∧ ByteW v := by
  induction h with
  | mk r hr h1 h2 ih =>
    have key : ∀ l : List KSym, (∀ s ∈ l, s ∈ r.rhs) → ∃ v, Tx g.rules l v ∧ ByteW v := by
      intro l
      induction l with
      | nil => exact fun _ => ⟨[], .nil, ByteW.nil⟩
      | cons s l ihl =>
        intro hl
        obtain ⟨v, hv, hb2⟩ := ihl fun q hq => hl q (List.mem_cons_of_mem _ hq)
        have hs := hl s List.mem_cons_self
        by_cases h0 : s.nt < 0
        · obtain ⟨b, hb1, hb⟩ := has_of_ne (W r hr s hs) (h1 s hs h0)
          exact ⟨_, .term s l b v h0 hb hv, ByteW.cons hb1 hb2⟩
        · obtain ⟨u, ⟨r', k1, k2, k3⟩, hb3⟩ := ih s hs (by omega)
          exact ⟨_, .non s l r' u v (by omega) k1 k2 k3 hv, ByteW.app hb3 hb2⟩
    obtain ⟨v, hv, hb⟩ := key r.rhs fun _ h => h
    exact ⟨v, ⟨r, hr, rfl, hv⟩, hb⟩
theorem goods_tx {g : Gram} (W : WfG g) : ∀ l : List KSym, (∀ s ∈ l, GoodS g s) → (∀ s ∈ l, SetWf s.set) → ∃ v, Tx g.rules l v ∧ ByteW v
  | [], _, _ => ⟨[], .nil, ByteW.nil⟩
  | s :: l, h, hw => by
    obtain ⟨v, hv, hb2⟩ := goods_tx W l (fun q hq => h q (List.mem_cons_of_mem _ hq)) (fun q hq => hw q (List.mem_cons_of_mem _ hq))
    by_cases h0 : s.nt < 0
    · obtain ⟨b, hb1, hb⟩ := has_of_ne (hw s List.mem_cons_self) ((h s List.mem_cons_self).1 h0)
      exact ⟨_, .term s l b v h0 hb hv, ByteW.cons hb1 hb2⟩
    · obtain ⟨u, ⟨r', k1, k2, k3⟩, hb3⟩ := good_tx W ((h s List.mem_cons_self).2 (by omega))
      exact ⟨_, .non s l r' u v (by omega) k1 k2 k3 hv, ByteW.app hb3 hb2⟩
theorem bg_full {g : Gram} {w : List Nat} (W : WfG g) {A : Int} {i : Nat} (h : Bg g w A i) : ∃ v, NtTx g.rules A (w.drop i ++ v) ∧ ByteW v := by
  induction h with
  | full r d i h1 h2 h3 h4 =>
    obtain ⟨v, hv, hb⟩ := goods_tx W (r.rhs.drop d) h4 fun s hs => W r h1 s (List.mem_of_mem_drop hs)
    refine ⟨v, ⟨r, h1, rfl, ?_⟩, hb⟩
    have h5 := h3.2.2
    have e : sub w i w.length = w.drop i := by unfold sub; exact List.take_of_length_le (by simp)
    rw [e] at h5
    have := h5.append hv
    rwa [List.take_append_drop] at this
  | part r d i k s h1 h2 h3 h4 h5 hb ih =>
    obtain ⟨v, ⟨r', k1, k2, k3⟩, hb1⟩ := ih
    obtain ⟨u, hu, hb2⟩ := goods_tx W (r.rhs.drop (d + 1)) h4 fun q hq => W r h1 q (List.mem_of_mem_drop hq)
    refine ⟨v ++ u, ⟨r, h1, rfl, ?_⟩, ByteW.app hb1 hb2⟩
    have h6 := h5.2.2.append (Tx.non s _ r' _ u h3 k1 k2 k3 hu)
    obtain ⟨q1, q2⟩ := List.getElem?_eq_some_iff.1 h2
    rw [← q2, ← List.drop_eq_getElem_cons q1, List.take_append_drop] at h6
    have e : sub w i k ++ (w.drop k ++ v ++ u) = w.drop i ++ (v ++ u) := by
      have hik := h5.1
      have : sub w i k ++ w.drop k = w.drop i := by
        unfold sub
        have := List.take_append_drop (k - i) (w.drop i)
        rwa [List.drop_drop, show i + (k - i) = k by omega] at this
      rw [← this]
      simp
    rw [← e]
    exact h6
/-- a beginning is a text, or it goes on -/
theorem bg_goes {g : Gram} {m : List Bool} {w : List Nat} (R : RightS g) (hm : Marks g.nts (goodD g) m) (W : WfG g) (h : Bg g w g.start 0) (hn : ¬ NtTx g.rules g.start w) : ∃ b, b < 256 ∧ Bg g (w ++ [b]) g.start 0 := by
  obtain ⟨v, hv, hb⟩ := bg_full W h
  rw [List.drop_zero] at hv
  cases v with
  | nil => rw [List.append_nil] at hv; exact absurd hv hn
  | cons b v =>
    refine ⟨b, hb b List.mem_cons_self, ?_⟩
    have := (bg_text hv).less R hm (j := w.length + 1) (by simp)
    have e : (w ++ b :: v).take (w.length + 1) = w ++ [b] := by rw [List.take_append, List.take_of_length_le (by omega)]; simp
    rwa [e] at this
end Go.Proofs.Ytafncpgiibikcaa

/- EarleyViable, as the abstract machine runs it. -/
namespace Go.Proofs.Ytafncpgiibikcaa
set_option linter.unusedSimpArgs false
set_option linter.unusedVariables false
set_option maxRecDepth 20000
open Go.RowKit Am Ty

theorem LastR.p {g : Gram} {w : List Nat} {r : Value} (k : LastR g w r) (hf : fitE g w = 0) : ∃ n m, r = .tuple #[i64 n, i64 0] ∧ Marks g.nts (goodD g) m ∧ LastP g w n := by
  obtain ⟨n, rfl, _, k⟩ := k
  obtain ⟨m, S, hm, C, rfl⟩ := k hf
  rw [hf]
  exact ⟨_, m, rfl, hm, lastK_P (rightS (fitE_ok.1 hf).1) hm C⟩
theorem NextR.p {g : Gram} {w : List Nat} {r : Value} (k : NextR g w r) (hf : fitE g w = 0) : ∃ s : BSet, r = .tuple #[s.val, i64 0] ∧ SetWf s ∧ ∀ b, b < 256 → (s.has b = true ↔ Bg g (w ++ [b]) g.start 0) := by
  obtain ⟨s, rfl, hs, _, k⟩ := k
  obtain ⟨m, S, hm, C, k⟩ := k hf
  rw [hf]
  exact ⟨s, rfl, hs, fun b hb => (k b hb).trans (next_viable (rightS (fitE_ok.1 hf).1) hm C)⟩
theorem AccR.p {g : Gram} {w : List Nat} {r : Value} (k : AccR g w r) (hf : fitE g w = 0) : ∃ b, r = .tuple #[.bool b, i64 0] ∧ (b = true ↔ NtTx g.rules g.start w) := by
  obtain ⟨b, rfl, _, k⟩ := k
  rw [hf]
  exact ⟨b, rfl, k hf⟩
theorem fit_less {g : Gram} {w x : List Nat} (hf : fitE g w = 0) (hx : x.length ≤ 512) : fitE g x = 0 := fitE_ok.2 ⟨(fitE_ok.1 hf).1, hx⟩
set_option maxHeartbeats 8000000 in
theorem earleyviable_fw {h : Heap} {g : Gram} {v wv xv : Value} {w x : List Nat} (hr : RdGram h v g) (hwR : RdB h wv w) (hxR : RdB h xv x) (hn : -9223372036854775808 ≤ g.nts) (W : WfG g) : FW env 12 [v, wv, xv] h fun r _ => r = .bool true := by
  obtain ⟨u, rfl, hu⟩ := id hr
  obtain ⟨p, c, rfl⟩ := hu.form
  obtain ⟨pw, cw, rfl⟩ := hwR.form
  obtain ⟨px, cx, rfl⟩ := hxR.form
  have lw := hwR.1
  have lx := hxR.1
  refine fw_enter (fn := Try.f12) Try.func12 rfl (by kernel_rfl) (by simp [Try.ntmps12]) ?_; simp only [push_cast]
  repeat (first | refine cw_seq ?_ | refine cw_region ?_ | refine ow_nil ?_ | ((first | apply ow_cons | apply qw_cons); · simp only [push_cast, env, Nat.reduceEqDiff, reduceIte, Nat.reduceAdd, Nat.reduceMul, Nat.reduceLeDiff, reduceCtorEq, Nat.reduceSub, Int.reduceToNat] <;> exact rfl) | ((first | apply ow_spec | apply qw_spec); · simp only [push_cast, env, Nat.reduceEqDiff, reduceIte, Nat.reduceAdd, Nat.reduceMul, Nat.reduceLeDiff, reduceCtorEq, Nat.reduceSub, Int.reduceToNat] <;> exact rfl) | refine qw_nil ?_ | refine cw_block ?_ | refine cw_scope ?_ | refine cw_label ?_ | refine cw_skip ?_)
  refine ow_call (fn := Try.f13) (by simp only [push_cast, env, Nat.reduceEqDiff, reduceIte, Nat.reduceAdd, Nat.reduceMul, Nat.reduceLeDiff, reduceCtorEq, Nat.reduceSub, Int.reduceToNat] <;> exact rfl) rfl (by simp only [push_cast, env, Nat.reduceEqDiff, reduceIte, Nat.reduceAdd, Nat.reduceMul, Nat.reduceLeDiff, reduceCtorEq, Nat.reduceSub, Int.reduceToNat] <;> exact rfl) (by simp only [push_cast, env, Nat.reduceEqDiff, reduceIte, Nat.reduceAdd, Nat.reduceMul, Nat.reduceLeDiff, reduceCtorEq, Nat.reduceSub, Int.reduceToNat] <;> exact rfl) Try.func13 (by kernel_rfl) (by kernel_rfl) ?_
  rw [List.append_nil]
  refine (heavy7_fw hr hwR hn).mono ?_
  rintro _ h ⟨rfl, rfl⟩
  by_cases c1 : heavy7 g w = true
  · rw [c1]
    repeat (first | refine cw_seq ?_ | refine cw_region ?_ | refine ow_nil ?_ | ((first | apply ow_cons | apply qw_cons); · simp only [push_cast, env, Nat.reduceEqDiff, reduceIte, Nat.reduceAdd, Nat.reduceMul, Nat.reduceLeDiff, reduceCtorEq, Nat.reduceSub, Int.reduceToNat] <;> exact rfl) | ((first | apply ow_spec | apply qw_spec); · simp only [push_cast, env, Nat.reduceEqDiff, reduceIte, Nat.reduceAdd, Nat.reduceMul, Nat.reduceLeDiff, reduceCtorEq, Nat.reduceSub, Int.reduceToNat] <;> exact rfl) | refine qw_nil ?_ | refine cw_block ?_ | refine cw_scope ?_ | refine cw_label ?_ | refine cw_skip ?_)
    refine cw_condT (by simp only [push_cast, env, Nat.reduceEqDiff, reduceIte, Nat.reduceAdd, Nat.reduceMul, Nat.reduceLeDiff, reduceCtorEq, Nat.reduceSub, Int.reduceToNat] <;> exact rfl) ?_
    repeat (first | refine cw_seq ?_ | refine cw_region ?_ | refine ow_nil ?_ | ((first | apply ow_cons | apply qw_cons); · simp only [push_cast, env, Nat.reduceEqDiff, reduceIte, Nat.reduceAdd, Nat.reduceMul, Nat.reduceLeDiff, reduceCtorEq, Nat.reduceSub, Int.reduceToNat] <;> exact rfl) | ((first | apply ow_spec | apply qw_spec); · simp only [push_cast, env, Nat.reduceEqDiff, reduceIte, Nat.reduceAdd, Nat.reduceMul, Nat.reduceLeDiff, reduceCtorEq, Nat.reduceSub, Int.reduceToNat] <;> exact rfl) | refine qw_nil ?_ | refine cw_block ?_ | refine cw_scope ?_ | refine cw_label ?_ | refine cw_skip ?_)
    refine ow_call (fn := Try.f14) (by simp only [push_cast, env, Nat.reduceEqDiff, reduceIte, Nat.reduceAdd, Nat.reduceMul, Nat.reduceLeDiff, reduceCtorEq, Nat.reduceSub, Int.reduceToNat] <;> exact rfl) rfl (by simp only [push_cast, env, Nat.reduceEqDiff, reduceIte, Nat.reduceAdd, Nat.reduceMul, Nat.reduceLeDiff, reduceCtorEq, Nat.reduceSub, Int.reduceToNat] <;> exact rfl) (by simp only [push_cast, env, Nat.reduceEqDiff, reduceIte, Nat.reduceAdd, Nat.reduceMul, Nat.reduceLeDiff, reduceCtorEq, Nat.reduceSub, Int.reduceToNat] <;> exact rfl) Try.func14 (by kernel_rfl) (by kernel_rfl) ?_
    refine alive7_fw.mono ?_
    rintro _ h ⟨rfl, rfl⟩
    repeat (first | refine cw_seq ?_ | refine cw_region ?_ | refine ow_nil ?_ | ((first | apply ow_cons | apply qw_cons); · simp only [push_cast, env, Nat.reduceEqDiff, reduceIte, Nat.reduceAdd, Nat.reduceMul, Nat.reduceLeDiff, reduceCtorEq, Nat.reduceSub, Int.reduceToNat] <;> exact rfl) | ((first | apply ow_spec | apply qw_spec); · simp only [push_cast, env, Nat.reduceEqDiff, reduceIte, Nat.reduceAdd, Nat.reduceMul, Nat.reduceLeDiff, reduceCtorEq, Nat.reduceSub, Int.reduceToNat] <;> exact rfl) | refine qw_nil ?_ | refine cw_block ?_ | refine cw_scope ?_ | refine cw_label ?_ | refine cw_skip ?_)
    refine cw_ret ?_
    exact ⟨_, (by simp only [push_cast, env, Nat.reduceEqDiff, reduceIte, Nat.reduceAdd, Nat.reduceMul, Nat.reduceLeDiff, reduceCtorEq, Nat.reduceSub, Int.reduceToNat] <;> exact rfl), rfl⟩
  have c1' : heavy7 g w = false := by simpa using c1
  rw [c1']
  have e1 : IntKind.i64.wrap ((w.length : Int) + (x.length : Int)) = (w.length : Int) + (x.length : Int) := wrap64_id (by omega) (by omega)
  by_cases c2 : 16 < w.length + x.length
  · have d2 : decide (16 < (w.length : Int) + (x.length : Int)) = true := decide_eq_true (by omega)
    repeat (first | refine cw_seq ?_ | refine cw_region ?_ | refine ow_nil ?_ | ((first | apply ow_cons | apply qw_cons); · simp only [push_cast, env, Nat.reduceEqDiff, reduceIte, Nat.reduceAdd, Nat.reduceMul, Nat.reduceLeDiff, reduceCtorEq, Nat.reduceSub, Int.reduceToNat, e1, d2] <;> exact rfl) | ((first | apply ow_spec | apply qw_spec); · simp only [push_cast, env, Nat.reduceEqDiff, reduceIte, Nat.reduceAdd, Nat.reduceMul, Nat.reduceLeDiff, reduceCtorEq, Nat.reduceSub, Int.reduceToNat, e1, d2] <;> exact rfl) | refine qw_nil ?_ | refine cw_block ?_ | refine cw_scope ?_ | refine cw_label ?_ | refine cw_skip ?_)
    refine cw_condT (by simp only [push_cast, env, Nat.reduceEqDiff, reduceIte, Nat.reduceAdd, Nat.reduceMul, Nat.reduceLeDiff, reduceCtorEq, Nat.reduceSub, Int.reduceToNat] <;> exact rfl) ?_
    repeat (first | refine cw_seq ?_ | refine cw_region ?_ | refine ow_nil ?_ | ((first | apply ow_cons | apply qw_cons); · simp only [push_cast, env, Nat.reduceEqDiff, reduceIte, Nat.reduceAdd, Nat.reduceMul, Nat.reduceLeDiff, reduceCtorEq, Nat.reduceSub, Int.reduceToNat] <;> exact rfl) | ((first | apply ow_spec | apply qw_spec); · simp only [push_cast, env, Nat.reduceEqDiff, reduceIte, Nat.reduceAdd, Nat.reduceMul, Nat.reduceLeDiff, reduceCtorEq, Nat.reduceSub, Int.reduceToNat] <;> exact rfl) | refine qw_nil ?_ | refine cw_block ?_ | refine cw_scope ?_ | refine cw_label ?_ | refine cw_skip ?_)
    refine ow_call (fn := Try.f14) (by simp only [push_cast, env, Nat.reduceEqDiff, reduceIte, Nat.reduceAdd, Nat.reduceMul, Nat.reduceLeDiff, reduceCtorEq, Nat.reduceSub, Int.reduceToNat] <;> exact rfl) rfl (by simp only [push_cast, env, Nat.reduceEqDiff, reduceIte, Nat.reduceAdd, Nat.reduceMul, Nat.reduceLeDiff, reduceCtorEq, Nat.reduceSub, Int.reduceToNat] <;> exact rfl) (by simp only [push_cast, env, Nat.reduceEqDiff, reduceIte, Nat.reduceAdd, Nat.reduceMul, Nat.reduceLeDiff, reduceCtorEq, Nat.reduceSub, Int.reduceToNat] <;> exact rfl) Try.func14 (by kernel_rfl) (by kernel_rfl) ?_
    refine alive7_fw.mono ?_
    rintro _ h ⟨rfl, rfl⟩
    repeat (first | refine cw_seq ?_ | refine cw_region ?_ | refine ow_nil ?_ | ((first | apply ow_cons | apply qw_cons); · simp only [push_cast, env, Nat.reduceEqDiff, reduceIte, Nat.reduceAdd, Nat.reduceMul, Nat.reduceLeDiff, reduceCtorEq, Nat.reduceSub, Int.reduceToNat] <;> exact rfl) | ((first | apply ow_spec | apply qw_spec); · simp only [push_cast, env, Nat.reduceEqDiff, reduceIte, Nat.reduceAdd, Nat.reduceMul, Nat.reduceLeDiff, reduceCtorEq, Nat.reduceSub, Int.reduceToNat] <;> exact rfl) | refine qw_nil ?_ | refine cw_block ?_ | refine cw_scope ?_ | refine cw_label ?_ | refine cw_skip ?_)
    refine cw_ret ?_
    exact ⟨_, (by simp only [push_cast, env, Nat.reduceEqDiff, reduceIte, Nat.reduceAdd, Nat.reduceMul, Nat.reduceLeDiff, reduceCtorEq, Nat.reduceSub, Int.reduceToNat] <;> exact rfl), rfl⟩
  have d2 : decide (16 < (w.length : Int) + (x.length : Int)) = false := decide_eq_false (by omega)
  repeat (first | refine cw_seq ?_ | refine cw_region ?_ | refine ow_nil ?_ | ((first | apply ow_cons | apply qw_cons); · simp only [push_cast, env, Nat.reduceEqDiff, reduceIte, Nat.reduceAdd, Nat.reduceMul, Nat.reduceLeDiff, reduceCtorEq, Nat.reduceSub, Int.reduceToNat, e1, d2] <;> exact rfl) | ((first | apply ow_spec | apply qw_spec); · simp only [push_cast, env, Nat.reduceEqDiff, reduceIte, Nat.reduceAdd, Nat.reduceMul, Nat.reduceLeDiff, reduceCtorEq, Nat.reduceSub, Int.reduceToNat, e1, d2] <;> exact rfl) | refine qw_nil ?_ | refine cw_block ?_ | refine cw_scope ?_ | refine cw_label ?_ | refine cw_skip ?_)
  refine cw_condF (by simp only [push_cast, env, Nat.reduceEqDiff, reduceIte, Nat.reduceAdd, Nat.reduceMul, Nat.reduceLeDiff, reduceCtorEq, Nat.reduceSub, Int.reduceToNat] <;> exact rfl) ?_
  repeat (first | refine cw_seq ?_ | refine cw_region ?_ | refine ow_nil ?_ | ((first | apply ow_cons | apply qw_cons); · simp only [push_cast, env, Nat.reduceEqDiff, reduceIte, Nat.reduceAdd, Nat.reduceMul, Nat.reduceLeDiff, reduceCtorEq, Nat.reduceSub, Int.reduceToNat] <;> exact rfl) | ((first | apply ow_spec | apply qw_spec); · simp only [push_cast, env, Nat.reduceEqDiff, reduceIte, Nat.reduceAdd, Nat.reduceMul, Nat.reduceLeDiff, reduceCtorEq, Nat.reduceSub, Int.reduceToNat] <;> exact rfl) | refine qw_nil ?_ | refine cw_block ?_ | refine cw_scope ?_ | refine cw_label ?_ | refine cw_skip ?_)
  refine ow_call (fn := Try.f17) (by simp only [push_cast, env, Nat.reduceEqDiff, reduceIte, Nat.reduceAdd, Nat.reduceMul, Nat.reduceLeDiff, reduceCtorEq, Nat.reduceSub, Int.reduceToNat] <;> exact rfl) rfl (by simp only [push_cast, env, Nat.reduceEqDiff, reduceIte, Nat.reduceAdd, Nat.reduceMul, Nat.reduceLeDiff, reduceCtorEq, Nat.reduceSub, Int.reduceToNat] <;> exact rfl) (by simp only [push_cast, env, Nat.reduceEqDiff, reduceIte, Nat.reduceAdd, Nat.reduceMul, Nat.reduceLeDiff, reduceCtorEq, Nat.reduceSub, Int.reduceToNat] <;> exact rfl) Try.func17 (by kernel_rfl) (by kernel_rfl) ?_
  rw [List.append_nil]
  refine (last_fw hr hwR W).mono ?_
  rintro _ h2 ⟨k1, hp2⟩
  by_cases hf : ¬ fitE g w = 0
  · obtain ⟨n, rfl, _, _⟩ := k1
    have df : decide (fitE g w = 0) = false := decide_eq_false hf
    repeat (first | refine cw_seq ?_ | refine cw_region ?_ | refine ow_nil ?_ | ((first | apply ow_cons | apply qw_cons); · simp only [push_cast, env, Nat.reduceEqDiff, reduceIte, Nat.reduceAdd, Nat.reduceMul, Nat.reduceLeDiff, reduceCtorEq, Nat.reduceSub, Int.reduceToNat, df] <;> exact rfl) | ((first | apply ow_spec | apply qw_spec); · simp only [push_cast, env, Nat.reduceEqDiff, reduceIte, Nat.reduceAdd, Nat.reduceMul, Nat.reduceLeDiff, reduceCtorEq, Nat.reduceSub, Int.reduceToNat, df] <;> exact rfl) | refine qw_nil ?_ | refine cw_block ?_ | refine cw_scope ?_ | refine cw_label ?_ | refine cw_skip ?_)
    refine cw_condT (by simp only [push_cast, env, Nat.reduceEqDiff, reduceIte, Nat.reduceAdd, Nat.reduceMul, Nat.reduceLeDiff, reduceCtorEq, Nat.reduceSub, Int.reduceToNat, df] <;> exact rfl) ?_
    repeat (first | refine cw_seq ?_ | refine cw_region ?_ | refine ow_nil ?_ | ((first | apply ow_cons | apply qw_cons); · simp only [push_cast, env, Nat.reduceEqDiff, reduceIte, Nat.reduceAdd, Nat.reduceMul, Nat.reduceLeDiff, reduceCtorEq, Nat.reduceSub, Int.reduceToNat] <;> exact rfl) | ((first | apply ow_spec | apply qw_spec); · simp only [push_cast, env, Nat.reduceEqDiff, reduceIte, Nat.reduceAdd, Nat.reduceMul, Nat.reduceLeDiff, reduceCtorEq, Nat.reduceSub, Int.reduceToNat] <;> exact rfl) | refine qw_nil ?_ | refine cw_block ?_ | refine cw_scope ?_ | refine cw_label ?_ | refine cw_skip ?_)
    refine ow_call (fn := Try.f14) (by simp only [push_cast, env, Nat.reduceEqDiff, reduceIte, Nat.reduceAdd, Nat.reduceMul, Nat.reduceLeDiff, reduceCtorEq, Nat.reduceSub, Int.reduceToNat] <;> exact rfl) rfl (by simp only [push_cast, env, Nat.reduceEqDiff, reduceIte, Nat.reduceAdd, Nat.reduceMul, Nat.reduceLeDiff, reduceCtorEq, Nat.reduceSub, Int.reduceToNat] <;> exact rfl) (by simp only [push_cast, env, Nat.reduceEqDiff, reduceIte, Nat.reduceAdd, Nat.reduceMul, Nat.reduceLeDiff, reduceCtorEq, Nat.reduceSub, Int.reduceToNat] <;> exact rfl) Try.func14 (by kernel_rfl) (by kernel_rfl) ?_
    refine alive7_fw.mono ?_
    rintro _ h2 ⟨rfl, rfl⟩
    repeat (first | refine cw_seq ?_ | refine cw_region ?_ | refine ow_nil ?_ | ((first | apply ow_cons | apply qw_cons); · simp only [push_cast, env, Nat.reduceEqDiff, reduceIte, Nat.reduceAdd, Nat.reduceMul, Nat.reduceLeDiff, reduceCtorEq, Nat.reduceSub, Int.reduceToNat] <;> exact rfl) | ((first | apply ow_spec | apply qw_spec); · simp only [push_cast, env, Nat.reduceEqDiff, reduceIte, Nat.reduceAdd, Nat.reduceMul, Nat.reduceLeDiff, reduceCtorEq, Nat.reduceSub, Int.reduceToNat] <;> exact rfl) | refine qw_nil ?_ | refine cw_block ?_ | refine cw_scope ?_ | refine cw_label ?_ | refine cw_skip ?_)
    refine cw_ret ?_
    exact ⟨_, (by simp only [push_cast, env, Nat.reduceEqDiff, reduceIte, Nat.reduceAdd, Nat.reduceMul, Nat.reduceLeDiff, reduceCtorEq, Nat.reduceSub, Int.reduceToNat] <;> exact rfl), rfl⟩
  have hf0 : fitE g w = 0 := by simpa using hf
  have R := rightS (fitE_ok.1 hf0).1
  obtain ⟨n, m, rfl, hm, hP⟩ := k1.p hf0
  repeat (first | refine cw_seq ?_ | refine cw_region ?_ | refine ow_nil ?_ | ((first | apply ow_cons | apply qw_cons); · simp only [push_cast, env, Nat.reduceEqDiff, reduceIte, Nat.reduceAdd, Nat.reduceMul, Nat.reduceLeDiff, reduceCtorEq, Nat.reduceSub, Int.reduceToNat] <;> exact rfl) | ((first | apply ow_spec | apply qw_spec); · simp only [push_cast, env, Nat.reduceEqDiff, reduceIte, Nat.reduceAdd, Nat.reduceMul, Nat.reduceLeDiff, reduceCtorEq, Nat.reduceSub, Int.reduceToNat] <;> exact rfl) | refine qw_nil ?_ | refine cw_block ?_ | refine cw_scope ?_ | refine cw_label ?_ | refine cw_skip ?_)
  refine cw_condF (by simp only [push_cast, env, Nat.reduceEqDiff, reduceIte, Nat.reduceAdd, Nat.reduceMul, Nat.reduceLeDiff, reduceCtorEq, Nat.reduceSub, Int.reduceToNat] <;> exact rfl) ?_
  repeat (first | refine cw_seq ?_ | refine cw_region ?_ | refine ow_nil ?_ | ((first | apply ow_cons | apply qw_cons); · simp only [push_cast, env, Nat.reduceEqDiff, reduceIte, Nat.reduceAdd, Nat.reduceMul, Nat.reduceLeDiff, reduceCtorEq, Nat.reduceSub, Int.reduceToNat] <;> exact rfl) | ((first | apply ow_spec | apply qw_spec); · simp only [push_cast, env, Nat.reduceEqDiff, reduceIte, Nat.reduceAdd, Nat.reduceMul, Nat.reduceLeDiff, reduceCtorEq, Nat.reduceSub, Int.reduceToNat] <;> exact rfl) | refine qw_nil ?_ | refine cw_block ?_ | refine cw_scope ?_ | refine cw_label ?_ | refine cw_skip ?_)
  refine ow_call (fn := Try.f15) (by simp only [push_cast, env, Nat.reduceEqDiff, reduceIte, Nat.reduceAdd, Nat.reduceMul, Nat.reduceLeDiff, reduceCtorEq, Nat.reduceSub, Int.reduceToNat] <;> exact rfl) rfl (by simp only [push_cast, env, Nat.reduceEqDiff, reduceIte, Nat.reduceAdd, Nat.reduceMul, Nat.reduceLeDiff, reduceCtorEq, Nat.reduceSub, Int.reduceToNat] <;> exact rfl) (by simp only [push_cast, env, Nat.reduceEqDiff, reduceIte, Nat.reduceAdd, Nat.reduceMul, Nat.reduceLeDiff, reduceCtorEq, Nat.reduceSub, Int.reduceToNat] <;> exact rfl) Try.func15 (by kernel_rfl) (by kernel_rfl) ?_
  rw [List.append_nil]
  refine (accepts_fw (hr.mono hp2) (hwR.mono hp2) W).mono ?_
  rintro _ h3 ⟨k2, hp3⟩
  obtain ⟨b, rfl, hb⟩ := k2.p hf0
  have htw : w.take w.length = w := List.take_length
  rcases hP with ⟨rfl, hN⟩ | ⟨j, hj, rfl, hB, hN⟩
  · have hbf : b = false := by
      cases b with
      | false => rfl
      | true => exact absurd (bg_text (hb.1 rfl)) (by have := hN w.length (Nat.le_refl _); rwa [htw] at this)
    subst hbf
    have d3 : decide ((w.length : Int) < -1) = false := decide_eq_false (by omega)
    repeat (first | refine cw_seq ?_ | refine cw_region ?_ | refine ow_nil ?_ | ((first | apply ow_cons | apply qw_cons); · simp only [push_cast, env, Nat.reduceEqDiff, reduceIte, Nat.reduceAdd, Nat.reduceMul, Nat.reduceLeDiff, reduceCtorEq, Nat.reduceSub, Int.reduceToNat, d3] <;> exact rfl) | ((first | apply ow_spec | apply qw_spec); · simp only [push_cast, env, Nat.reduceEqDiff, reduceIte, Nat.reduceAdd, Nat.reduceMul, Nat.reduceLeDiff, reduceCtorEq, Nat.reduceSub, Int.reduceToNat, d3] <;> exact rfl) | refine qw_nil ?_ | refine cw_block ?_ | refine cw_scope ?_ | refine cw_label ?_ | refine cw_skip ?_)
    refine cw_condF (by simp only [push_cast, env, Nat.reduceEqDiff, reduceIte, Nat.reduceAdd, Nat.reduceMul, Nat.reduceLeDiff, reduceCtorEq, Nat.reduceSub, Int.reduceToNat] <;> exact rfl) ?_
    repeat (first | refine cw_seq ?_ | refine cw_region ?_ | refine ow_nil ?_ | ((first | apply ow_cons | apply qw_cons); · simp only [push_cast, env, Nat.reduceEqDiff, reduceIte, Nat.reduceAdd, Nat.reduceMul, Nat.reduceLeDiff, reduceCtorEq, Nat.reduceSub, Int.reduceToNat] <;> exact rfl) | ((first | apply ow_spec | apply qw_spec); · simp only [push_cast, env, Nat.reduceEqDiff, reduceIte, Nat.reduceAdd, Nat.reduceMul, Nat.reduceLeDiff, reduceCtorEq, Nat.reduceSub, Int.reduceToNat] <;> exact rfl) | refine qw_nil ?_ | refine cw_block ?_ | refine cw_scope ?_ | refine cw_label ?_ | refine cw_skip ?_)
    refine cw_condT (by simp only [push_cast, env, Nat.reduceEqDiff, reduceIte, Nat.reduceAdd, Nat.reduceMul, Nat.reduceLeDiff, reduceCtorEq, Nat.reduceSub, Int.reduceToNat] <;> exact rfl) ?_
    repeat (first | refine cw_seq ?_ | refine cw_region ?_ | refine ow_nil ?_ | ((first | apply ow_cons | apply qw_cons); · simp only [push_cast, env, Nat.reduceEqDiff, reduceIte, Nat.reduceAdd, Nat.reduceMul, Nat.reduceLeDiff, reduceCtorEq, Nat.reduceSub, Int.reduceToNat] <;> exact rfl) | ((first | apply ow_spec | apply qw_spec); · simp only [push_cast, env, Nat.reduceEqDiff, reduceIte, Nat.reduceAdd, Nat.reduceMul, Nat.reduceLeDiff, reduceCtorEq, Nat.reduceSub, Int.reduceToNat] <;> exact rfl) | refine qw_nil ?_ | refine cw_block ?_ | refine cw_scope ?_ | refine cw_label ?_ | refine cw_skip ?_)
    refine ow_call (fn := Try.f17) (by simp only [push_cast, env, Nat.reduceEqDiff, reduceIte, Nat.reduceAdd, Nat.reduceMul, Nat.reduceLeDiff, reduceCtorEq, Nat.reduceSub, Int.reduceToNat] <;> exact rfl) rfl (by simp only [push_cast, env, Nat.reduceEqDiff, reduceIte, Nat.reduceAdd, Nat.reduceMul, Nat.reduceLeDiff, reduceCtorEq, Nat.reduceSub, Int.reduceToNat] <;> exact rfl) (by simp only [push_cast, env, Nat.reduceEqDiff, reduceIte, Nat.reduceAdd, Nat.reduceMul, Nat.reduceLeDiff, reduceCtorEq, Nat.reduceSub, Int.reduceToNat] <;> exact rfl) Try.func17 (by kernel_rfl) (by kernel_rfl) ?_
    rw [List.append_nil]
    refine (last_fw (hr.mono (hp2.trans hp3)) (hxR.mono (hp2.trans hp3)) W).mono ?_
    rintro _ h4 ⟨k4, hp4⟩
    obtain ⟨k, m4, rfl, _, hk⟩ := k4.p (fit_less hf0 (by omega))
    have hk1 : k = -1 := hk.eq (.inl ⟨rfl, fun i hi hbi => by
      have := hbi.less R hm (j := 0) (Nat.zero_le _)
      have h0 := hN 0 (Nat.zero_le _)
      rw [List.take_zero] at this h0
      exact h0 this⟩)
    subst hk1
    repeat (first | refine cw_seq ?_ | refine cw_region ?_ | refine ow_nil ?_ | ((first | apply ow_cons | apply qw_cons); · simp only [push_cast, env, Nat.reduceEqDiff, reduceIte, Nat.reduceAdd, Nat.reduceMul, Nat.reduceLeDiff, reduceCtorEq, Nat.reduceSub, Int.reduceToNat] <;> exact rfl) | ((first | apply ow_spec | apply qw_spec); · simp only [push_cast, env, Nat.reduceEqDiff, reduceIte, Nat.reduceAdd, Nat.reduceMul, Nat.reduceLeDiff, reduceCtorEq, Nat.reduceSub, Int.reduceToNat] <;> exact rfl) | refine qw_nil ?_ | refine cw_block ?_ | refine cw_scope ?_ | refine cw_label ?_ | refine cw_skip ?_)
    refine ow_call (fn := Try.f14) (by simp only [push_cast, env, Nat.reduceEqDiff, reduceIte, Nat.reduceAdd, Nat.reduceMul, Nat.reduceLeDiff, reduceCtorEq, Nat.reduceSub, Int.reduceToNat] <;> exact rfl) rfl (by simp only [push_cast, env, Nat.reduceEqDiff, reduceIte, Nat.reduceAdd, Nat.reduceMul, Nat.reduceLeDiff, reduceCtorEq, Nat.reduceSub, Int.reduceToNat] <;> exact rfl) (by simp only [push_cast, env, Nat.reduceEqDiff, reduceIte, Nat.reduceAdd, Nat.reduceMul, Nat.reduceLeDiff, reduceCtorEq, Nat.reduceSub, Int.reduceToNat] <;> exact rfl) Try.func14 (by kernel_rfl) (by kernel_rfl) ?_
    refine alive7_fw.mono ?_
    rintro _ h4 ⟨rfl, rfl⟩
    repeat (first | refine cw_seq ?_ | refine cw_region ?_ | refine ow_nil ?_ | ((first | apply ow_cons | apply qw_cons); · simp only [push_cast, env, Nat.reduceEqDiff, reduceIte, Nat.reduceAdd, Nat.reduceMul, Nat.reduceLeDiff, reduceCtorEq, Nat.reduceSub, Int.reduceToNat] <;> exact rfl) | ((first | apply ow_spec | apply qw_spec); · simp only [push_cast, env, Nat.reduceEqDiff, reduceIte, Nat.reduceAdd, Nat.reduceMul, Nat.reduceLeDiff, reduceCtorEq, Nat.reduceSub, Int.reduceToNat] <;> exact rfl) | refine qw_nil ?_ | refine cw_block ?_ | refine cw_scope ?_ | refine cw_label ?_ | refine cw_skip ?_)
    refine cw_ret ?_
    exact ⟨_, (by simp only [push_cast, env, Nat.reduceEqDiff, reduceIte, Nat.reduceAdd, Nat.reduceMul, Nat.reduceLeDiff, reduceCtorEq, Nat.reduceSub, Int.reduceToNat] <;> exact rfl), rfl⟩
  have hltj : (w.take j).length ≤ 512 := by rw [List.length_take]; have := (fitE_ok.1 hf0).2; omega
  have d4 : decide ((j : Int) < -1) = false := decide_eq_false (by omega)
  have d5 : decide ((w.length : Int) < (j : Int)) = false := decide_eq_false (by omega)
  have d6 : decide ((j : Int) < 0) = false := decide_eq_false (by omega)
  by_cases hjl : j = w.length
  · subst hjl
    cases b with
    | true =>
      repeat (first | refine cw_seq ?_ | refine cw_region ?_ | refine ow_nil ?_ | ((first | apply ow_cons | apply qw_cons); · simp only [push_cast, env, Nat.reduceEqDiff, reduceIte, Nat.reduceAdd, Nat.reduceMul, Nat.reduceLeDiff, reduceCtorEq, Nat.reduceSub, Int.reduceToNat, d4, d5] <;> exact rfl) | ((first | apply ow_spec | apply qw_spec); · simp only [push_cast, env, Nat.reduceEqDiff, reduceIte, Nat.reduceAdd, Nat.reduceMul, Nat.reduceLeDiff, reduceCtorEq, Nat.reduceSub, Int.reduceToNat, d4, d5] <;> exact rfl) | refine qw_nil ?_ | refine cw_block ?_ | refine cw_scope ?_ | refine cw_label ?_ | refine cw_skip ?_)
      refine cw_condF (by simp only [push_cast, env, Nat.reduceEqDiff, reduceIte, Nat.reduceAdd, Nat.reduceMul, Nat.reduceLeDiff, reduceCtorEq, Nat.reduceSub, Int.reduceToNat] <;> exact rfl) ?_
      repeat (first | refine cw_seq ?_ | refine cw_region ?_ | refine ow_nil ?_ | ((first | apply ow_cons | apply qw_cons); · simp only [push_cast, env, Nat.reduceEqDiff, reduceIte, Nat.reduceAdd, Nat.reduceMul, Nat.reduceLeDiff, reduceCtorEq, Nat.reduceSub, Int.reduceToNat, d6] <;> exact rfl) | ((first | apply ow_spec | apply qw_spec); · simp only [push_cast, env, Nat.reduceEqDiff, reduceIte, Nat.reduceAdd, Nat.reduceMul, Nat.reduceLeDiff, reduceCtorEq, Nat.reduceSub, Int.reduceToNat, d6] <;> exact rfl) | refine qw_nil ?_ | refine cw_block ?_ | refine cw_scope ?_ | refine cw_label ?_ | refine cw_skip ?_)
      refine cw_condF (by simp only [push_cast, env, Nat.reduceEqDiff, reduceIte, Nat.reduceAdd, Nat.reduceMul, Nat.reduceLeDiff, reduceCtorEq, Nat.reduceSub, Int.reduceToNat] <;> exact rfl) ?_
      obtain ⟨vj, hsl, hwj⟩ := rdb_slice (lo := 0) (hi := w.length) (hwR.mono (hp2.trans hp3)) (Nat.zero_le _) (Nat.le_refl _)
      have hsube : sub w 0 w.length = w.take w.length := by unfold sub; rw [List.drop_zero, Nat.sub_zero]
      rw [hsube] at hwj
      obtain ⟨pj, cj, rfl⟩ := hwj.form
      have hlast := last_fw (hr.mono (hp2.trans hp3)) hwj W
      unfold FW at hlast
      obtain ⟨rr, h4, hcall, k4, hp4⟩ := hlast
      obtain ⟨k, m4, rfl, _, hk⟩ := k4.p (fit_less hf0 hltj)
      have hkj : k = ((w.length : Nat) : Int) := by
        refine hk.eq (.inr ⟨w.length, by rw [List.length_take]; omega, rfl, by rw [List.take_take, Nat.min_self]; exact hB, fun i h1 h2 => ?_⟩)
        rw [List.length_take] at h2
        omega
      subst hkj
      repeat (first | refine cw_seq ?_ | refine cw_region ?_ | refine ow_nil ?_ | ((first | apply ow_cons | apply qw_cons); · simp only [push_cast, env, Nat.reduceEqDiff, reduceIte, Nat.reduceAdd, Nat.reduceMul, Nat.reduceLeDiff, reduceCtorEq, Nat.reduceSub, Int.reduceToNat] <;> exact rfl) | ((first | apply ow_spec | apply qw_spec); · simp only [push_cast, env, Nat.reduceEqDiff, reduceIte, Nat.reduceAdd, Nat.reduceMul, Nat.reduceLeDiff, reduceCtorEq, Nat.reduceSub, Int.reduceToNat] <;> exact rfl) | refine qw_nil ?_ | refine cw_block ?_ | refine cw_scope ?_ | refine cw_label ?_ | refine cw_skip ?_)
      refine cw_weakL [(1, .val (.slice pw w.length cw)), (2, .val (.slice px x.length cx)), (3, .box [i64 g.nts, i64 g.start, .slice p g.rules.length c]), (7, .val (i64 ((w.length : Nat) : Int)))] (by simp only [push_cast, SubL, fget, Nat.reduceEqDiff, reduceIte]) ?_
      show CW _ _ ⟨_, [], h3⟩ _
      apply cw_ordA (L := [[], [], [], [1, 2], [0, 1, 2, 3], [0, 1, 2, 3, 4], [0, 1, 2, 3, 4, 5], [0, 1, 2, 3, 4, 5], [0, 1, 2, 3, 4, 5, 6], [0, 1, 2, 3, 4, 5, 7]]) (act := [4]) (hs := [h4]) (resL := [_, _, _, _, _, _, _, _, _, _]) (frF := [(1, .val (.slice pw w.length cw)), (2, .val (.slice px x.length cx)), (3, .box [i64 g.nts, i64 g.start, .slice p g.rules.length c]), (7, .val (i64 ((w.length : Nat) : Int))), (13, .val (i64 ((w.length : Nat) : Int)))])
      case hm => exact mixed
      case hc => kernel_rfl
      case ha => rfl
      case hb => rfl
      case hS =>
        repeat (first | exact StepsA.nil _ | (apply StepsA.cons; (· rfl); (· (first | refine ⟨?_, trivial⟩ | refine ⟨?_, ?_, trivial⟩ | refine ⟨?_, ?_, ?_, trivial⟩ | refine ⟨?_, ?_, ?_, ?_, trivial⟩) <;> (first | (apply one_val; (· rfl); (· simp only [push_cast, env, Nat.reduceEqDiff, reduceIte, Nat.reduceAdd, Nat.reduceMul, Nat.reduceLeDiff, reduceCtorEq, Nat.reduceSub, Int.reduceToNat] <;> exact rfl); (· simp only [push_cast, env, Nat.reduceEqDiff, reduceIte, Nat.reduceAdd, Nat.reduceMul, Nat.reduceLeDiff, reduceCtorEq, Nat.reduceSub, Int.reduceToNat] <;> exact rfl)) | (apply one_eph; (· rfl); (· simp only [push_cast, env, Nat.reduceEqDiff, reduceIte, Nat.reduceAdd, Nat.reduceMul, Nat.reduceLeDiff, reduceCtorEq, Nat.reduceSub, Int.reduceToNat] <;> exact rfl); (· rfl); (· simp only [push_cast, env, Nat.reduceEqDiff, reduceIte, Nat.reduceAdd, Nat.reduceMul, Nat.reduceLeDiff, reduceCtorEq, Nat.reduceSub, Int.reduceToNat] <;> exact rfl); (· decide)) | (apply one_bsl; (· rfl); (· simp only [push_cast, env, Nat.reduceEqDiff, reduceIte, Nat.reduceAdd, Nat.reduceMul, Nat.reduceLeDiff, reduceCtorEq, Nat.reduceSub, Int.reduceToNat] <;> exact rfl); (· rfl); (· simp only [push_cast, env, Nat.reduceEqDiff, reduceIte, Nat.reduceAdd, Nat.reduceMul, Nat.reduceLeDiff, reduceCtorEq, Nat.reduceSub, Int.reduceToNat] <;> exact rfl)) | (apply one_box; (· rfl); (· simp only [push_cast, env, Nat.reduceEqDiff, reduceIte, Nat.reduceAdd, Nat.reduceMul, Nat.reduceLeDiff, reduceCtorEq, Nat.reduceSub, Int.reduceToNat] <;> exact rfl); (· rfl); (· simp only [push_cast, env, Nat.reduceEqDiff, reduceIte, Nat.reduceAdd, Nat.reduceMul, Nat.reduceLeDiff, reduceCtorEq, Nat.reduceSub, Int.reduceToNat] <;> exact rfl)) | (apply one_skip; (· rfl); (· simp only [push_cast, env, Nat.reduceEqDiff, reduceIte, Nat.reduceAdd, Nat.reduceMul, Nat.reduceLeDiff, reduceCtorEq, Nat.reduceSub, Int.reduceToNat] <;> exact rfl)))); (· rfl)))
        apply StepsA.cons
        · rfl
        · refine ⟨?_, trivial⟩
          exact one_slice (v := .slice pj (w.take w.length).length cj) rfl (by simp only [push_cast, env, Nat.reduceEqDiff, reduceIte, Nat.reduceAdd, Nat.reduceMul, Nat.reduceLeDiff, reduceCtorEq, Nat.reduceSub, Int.reduceToNat] <;> exact rfl) rfl (hsl _ _ _ _ rfl (by simp only [push_cast, env, Nat.reduceEqDiff, reduceIte, Nat.reduceAdd, Nat.reduceMul, Nat.reduceLeDiff, reduceCtorEq, Nat.reduceSub, Int.reduceToNat] <;> exact rfl) (by simp only [push_cast, env, Nat.reduceEqDiff, reduceIte, Nat.reduceAdd, Nat.reduceMul, Nat.reduceLeDiff, reduceCtorEq, Nat.reduceSub, Int.reduceToNat] <;> exact rfl) (by simp only [push_cast, env, Nat.reduceEqDiff, reduceIte, Nat.reduceAdd, Nat.reduceMul, Nat.reduceLeDiff, reduceCtorEq, Nat.reduceSub, Int.reduceToNat] <;> exact rfl))
        · rfl
        apply StepsA.cons
        · rfl
        · refine ⟨?_, trivial⟩
          exact one_callE (args := [.agg #[i64 g.nts, i64 g.start, .slice p g.rules.length c], .slice pj (w.take w.length).length cj]) (cap := []) (fn := Try.f17) (by simp only [push_cast, env, Nat.reduceEqDiff, reduceIte, Nat.reduceAdd, Nat.reduceMul, Nat.reduceLeDiff, reduceCtorEq, Nat.reduceSub, Int.reduceToNat] <;> exact rfl) rfl (by simp only [push_cast, env, Nat.reduceEqDiff, reduceIte, Nat.reduceAdd, Nat.reduceMul, Nat.reduceLeDiff, reduceCtorEq, Nat.reduceSub, Int.reduceToNat] <;> exact rfl) (by simp only [push_cast, env, Nat.reduceEqDiff, reduceIte, Nat.reduceAdd, Nat.reduceMul, Nat.reduceLeDiff, reduceCtorEq, Nat.reduceSub, Int.reduceToNat] <;> exact rfl) Try.func17 (by kernel_rfl) (by kernel_rfl) hcall
        · rfl
        repeat (first | exact StepsA.nil _ | (apply StepsA.cons; (· rfl); (· (first | refine ⟨?_, trivial⟩ | refine ⟨?_, ?_, trivial⟩ | refine ⟨?_, ?_, ?_, trivial⟩ | refine ⟨?_, ?_, ?_, ?_, trivial⟩) <;> (first | (apply one_val; (· rfl); (· simp only [push_cast, env, Nat.reduceEqDiff, reduceIte, Nat.reduceAdd, Nat.reduceMul, Nat.reduceLeDiff, reduceCtorEq, Nat.reduceSub, Int.reduceToNat] <;> exact rfl); (· simp only [push_cast, env, Nat.reduceEqDiff, reduceIte, Nat.reduceAdd, Nat.reduceMul, Nat.reduceLeDiff, reduceCtorEq, Nat.reduceSub, Int.reduceToNat] <;> exact rfl)) | (apply one_eph; (· rfl); (· simp only [push_cast, env, Nat.reduceEqDiff, reduceIte, Nat.reduceAdd, Nat.reduceMul, Nat.reduceLeDiff, reduceCtorEq, Nat.reduceSub, Int.reduceToNat] <;> exact rfl); (· rfl); (· simp only [push_cast, env, Nat.reduceEqDiff, reduceIte, Nat.reduceAdd, Nat.reduceMul, Nat.reduceLeDiff, reduceCtorEq, Nat.reduceSub, Int.reduceToNat] <;> exact rfl); (· decide)) | (apply one_bsl; (· rfl); (· simp only [push_cast, env, Nat.reduceEqDiff, reduceIte, Nat.reduceAdd, Nat.reduceMul, Nat.reduceLeDiff, reduceCtorEq, Nat.reduceSub, Int.reduceToNat] <;> exact rfl); (· rfl); (· simp only [push_cast, env, Nat.reduceEqDiff, reduceIte, Nat.reduceAdd, Nat.reduceMul, Nat.reduceLeDiff, reduceCtorEq, Nat.reduceSub, Int.reduceToNat] <;> exact rfl)) | (apply one_box; (· rfl); (· simp only [push_cast, env, Nat.reduceEqDiff, reduceIte, Nat.reduceAdd, Nat.reduceMul, Nat.reduceLeDiff, reduceCtorEq, Nat.reduceSub, Int.reduceToNat] <;> exact rfl); (· rfl); (· simp only [push_cast, env, Nat.reduceEqDiff, reduceIte, Nat.reduceAdd, Nat.reduceMul, Nat.reduceLeDiff, reduceCtorEq, Nat.reduceSub, Int.reduceToNat] <;> exact rfl)) | (apply one_skip; (· rfl); (· simp only [push_cast, env, Nat.reduceEqDiff, reduceIte, Nat.reduceAdd, Nat.reduceMul, Nat.reduceLeDiff, reduceCtorEq, Nat.reduceSub, Int.reduceToNat] <;> exact rfl)))); (· rfl)))
      case ht => rfl
      case hF => repeat (first | exact trivial | (refine ⟨.inl ⟨by decide, rfl⟩, ?_⟩) | (refine ⟨.inr ⟨rfl, by simp⟩, ?_⟩))
      show CW _ _ _ _
      repeat (first | refine cw_seq ?_ | refine cw_region ?_ | refine ow_nil ?_ | ((first | apply ow_cons | apply qw_cons); · simp only [push_cast, env, Nat.reduceEqDiff, reduceIte, Nat.reduceAdd, Nat.reduceMul, Nat.reduceLeDiff, reduceCtorEq, Nat.reduceSub, Int.reduceToNat] <;> exact rfl) | ((first | apply ow_spec | apply qw_spec); · simp only [push_cast, env, Nat.reduceEqDiff, reduceIte, Nat.reduceAdd, Nat.reduceMul, Nat.reduceLeDiff, reduceCtorEq, Nat.reduceSub, Int.reduceToNat] <;> exact rfl) | refine qw_nil ?_ | refine cw_block ?_ | refine cw_scope ?_ | refine cw_label ?_ | refine cw_skip ?_)
      refine cw_condF (by simp only [push_cast, env, Nat.reduceEqDiff, reduceIte, Nat.reduceAdd, Nat.reduceMul, Nat.reduceLeDiff, reduceCtorEq, Nat.reduceSub, Int.reduceToNat] <;> exact rfl) ?_
      obtain ⟨vj2, hsl2, hwj2⟩ := rdb_slice (lo := 0) (hi := w.length) (hwR.mono (hp2.trans (hp3.trans hp4))) (Nat.zero_le _) (Nat.le_refl _)
      rw [hsube] at hwj2
      obtain ⟨pj2, cj2, rfl⟩ := hwj2.form
      have hnext := next_fw (hr.mono (hp2.trans (hp3.trans hp4))) hwj2 W
      unfold FW at hnext
      obtain ⟨rr2, h5, hcall2, k5, hp5⟩ := hnext
      obtain ⟨s, rfl, hsw, hs⟩ := k5.p (fit_less hf0 hltj)
      repeat (first | refine cw_seq ?_ | refine cw_region ?_ | refine ow_nil ?_ | ((first | apply ow_cons | apply qw_cons); · simp only [push_cast, env, Nat.reduceEqDiff, reduceIte, Nat.reduceAdd, Nat.reduceMul, Nat.reduceLeDiff, reduceCtorEq, Nat.reduceSub, Int.reduceToNat] <;> exact rfl) | ((first | apply ow_spec | apply qw_spec); · simp only [push_cast, env, Nat.reduceEqDiff, reduceIte, Nat.reduceAdd, Nat.reduceMul, Nat.reduceLeDiff, reduceCtorEq, Nat.reduceSub, Int.reduceToNat] <;> exact rfl) | refine qw_nil ?_ | refine cw_block ?_ | refine cw_scope ?_ | refine cw_label ?_ | refine cw_skip ?_)
      refine cw_weakL [(1, .val (.slice pw w.length cw)), (2, .val (.slice px x.length cx)), (3, .box [i64 g.nts, i64 g.start, .slice p g.rules.length c]), (7, .val (i64 ((w.length : Nat) : Int)))] (by simp only [push_cast, SubL, fget, Nat.reduceEqDiff, reduceIte]) ?_
      show CW _ _ ⟨_, [], h4⟩ _
      apply cw_ordS (L := [[], [], [], [1, 2], [0, 1, 2, 3], [0, 1, 2, 3, 4], [0, 1, 2, 3, 4, 5], [0, 1, 2, 3, 4, 5], [], [0, 1, 2, 3, 4, 5, 6, 8], [0, 1, 2, 3, 4, 5, 7]]) (act := [4]) (hs := [h5]) (resL := [_, _, _, _, _, _, _, _, _, .sl .unk, _]) (frF := [(1, .val (.slice pw w.length cw)), (2, .val (.slice px x.length cx)), (3, .box [i64 g.nts, i64 g.start, .slice p g.rules.length c]), (7, .val (i64 ((w.length : Nat) : Int))), (15, .box [u64 s.a, u64 s.b, u64 s.c, u64 s.d])]) (a := 8) (st := 9) (d := 15) (cs' := [u64 s.a, u64 s.b, u64 s.c, u64 s.d])
      case hm => exact mixed
      case hc => kernel_rfl
      case ha => rfl
      case hb => rfl
      case hfree => rfl
      case hna => rfl
      case hanc => rfl
      case ho => rfl
      case hop => rfl
      case hod => rfl
      case hda => rfl
      case hS1 =>
        repeat (first | exact StepsA.nil _ | (apply StepsA.cons; (· rfl); (· (first | refine ⟨?_, trivial⟩ | refine ⟨?_, ?_, trivial⟩ | refine ⟨?_, ?_, ?_, trivial⟩ | refine ⟨?_, ?_, ?_, ?_, trivial⟩) <;> (first | (apply one_val; (· rfl); (· simp only [push_cast, env, Nat.reduceEqDiff, reduceIte, Nat.reduceAdd, Nat.reduceMul, Nat.reduceLeDiff, reduceCtorEq, Nat.reduceSub, Int.reduceToNat] <;> exact rfl); (· simp only [push_cast, env, Nat.reduceEqDiff, reduceIte, Nat.reduceAdd, Nat.reduceMul, Nat.reduceLeDiff, reduceCtorEq, Nat.reduceSub, Int.reduceToNat] <;> exact rfl)) | (apply one_eph; (· rfl); (· simp only [push_cast, env, Nat.reduceEqDiff, reduceIte, Nat.reduceAdd, Nat.reduceMul, Nat.reduceLeDiff, reduceCtorEq, Nat.reduceSub, Int.reduceToNat] <;> exact rfl); (· rfl); (· simp only [push_cast, env, Nat.reduceEqDiff, reduceIte, Nat.reduceAdd, Nat.reduceMul, Nat.reduceLeDiff, reduceCtorEq, Nat.reduceSub, Int.reduceToNat] <;> exact rfl); (· decide)) | (apply one_bsl; (· rfl); (· simp only [push_cast, env, Nat.reduceEqDiff, reduceIte, Nat.reduceAdd, Nat.reduceMul, Nat.reduceLeDiff, reduceCtorEq, Nat.reduceSub, Int.reduceToNat] <;> exact rfl); (· rfl); (· simp only [push_cast, env, Nat.reduceEqDiff, reduceIte, Nat.reduceAdd, Nat.reduceMul, Nat.reduceLeDiff, reduceCtorEq, Nat.reduceSub, Int.reduceToNat] <;> exact rfl)) | (apply one_box; (· rfl); (· simp only [push_cast, env, Nat.reduceEqDiff, reduceIte, Nat.reduceAdd, Nat.reduceMul, Nat.reduceLeDiff, reduceCtorEq, Nat.reduceSub, Int.reduceToNat] <;> exact rfl); (· rfl); (· simp only [push_cast, env, Nat.reduceEqDiff, reduceIte, Nat.reduceAdd, Nat.reduceMul, Nat.reduceLeDiff, reduceCtorEq, Nat.reduceSub, Int.reduceToNat] <;> exact rfl)) | (apply one_skip; (· rfl); (· simp only [push_cast, env, Nat.reduceEqDiff, reduceIte, Nat.reduceAdd, Nat.reduceMul, Nat.reduceLeDiff, reduceCtorEq, Nat.reduceSub, Int.reduceToNat] <;> exact rfl)))); (· rfl)))
        apply StepsA.cons
        · rfl
        · refine ⟨?_, trivial⟩
          exact one_slice (v := .slice pj2 (w.take w.length).length cj2) rfl (by simp only [push_cast, env, Nat.reduceEqDiff, reduceIte, Nat.reduceAdd, Nat.reduceMul, Nat.reduceLeDiff, reduceCtorEq, Nat.reduceSub, Int.reduceToNat] <;> exact rfl) rfl (hsl2 _ _ _ _ rfl (by simp only [push_cast, env, Nat.reduceEqDiff, reduceIte, Nat.reduceAdd, Nat.reduceMul, Nat.reduceLeDiff, reduceCtorEq, Nat.reduceSub, Int.reduceToNat] <;> exact rfl) (by simp only [push_cast, env, Nat.reduceEqDiff, reduceIte, Nat.reduceAdd, Nat.reduceMul, Nat.reduceLeDiff, reduceCtorEq, Nat.reduceSub, Int.reduceToNat] <;> exact rfl) (by simp only [push_cast, env, Nat.reduceEqDiff, reduceIte, Nat.reduceAdd, Nat.reduceMul, Nat.reduceLeDiff, reduceCtorEq, Nat.reduceSub, Int.reduceToNat] <;> exact rfl))
        · rfl
        apply StepsA.cons
        · rfl
        · refine ⟨?_, trivial⟩
          exact one_callE (args := [.agg #[i64 g.nts, i64 g.start, .slice p g.rules.length c], .slice pj2 (w.take w.length).length cj2]) (cap := []) (fn := Try.f29) (by simp only [push_cast, env, Nat.reduceEqDiff, reduceIte, Nat.reduceAdd, Nat.reduceMul, Nat.reduceLeDiff, reduceCtorEq, Nat.reduceSub, Int.reduceToNat] <;> exact rfl) rfl (by simp only [push_cast, env, Nat.reduceEqDiff, reduceIte, Nat.reduceAdd, Nat.reduceMul, Nat.reduceLeDiff, reduceCtorEq, Nat.reduceSub, Int.reduceToNat] <;> exact rfl) (by simp only [push_cast, env, Nat.reduceEqDiff, reduceIte, Nat.reduceAdd, Nat.reduceMul, Nat.reduceLeDiff, reduceCtorEq, Nat.reduceSub, Int.reduceToNat] <;> exact rfl) Try.func29 (by kernel_rfl) (by kernel_rfl) hcall2
        · rfl
        repeat (first | exact StepsA.nil _ | (apply StepsA.cons; (· rfl); (· (first | refine ⟨?_, trivial⟩ | refine ⟨?_, ?_, trivial⟩ | refine ⟨?_, ?_, ?_, trivial⟩ | refine ⟨?_, ?_, ?_, ?_, trivial⟩) <;> (first | (apply one_val; (· rfl); (· simp only [push_cast, env, Nat.reduceEqDiff, reduceIte, Nat.reduceAdd, Nat.reduceMul, Nat.reduceLeDiff, reduceCtorEq, Nat.reduceSub, Int.reduceToNat] <;> exact rfl); (· simp only [push_cast, env, Nat.reduceEqDiff, reduceIte, Nat.reduceAdd, Nat.reduceMul, Nat.reduceLeDiff, reduceCtorEq, Nat.reduceSub, Int.reduceToNat] <;> exact rfl)) | (apply one_eph; (· rfl); (· simp only [push_cast, env, Nat.reduceEqDiff, reduceIte, Nat.reduceAdd, Nat.reduceMul, Nat.reduceLeDiff, reduceCtorEq, Nat.reduceSub, Int.reduceToNat] <;> exact rfl); (· rfl); (· simp only [push_cast, env, Nat.reduceEqDiff, reduceIte, Nat.reduceAdd, Nat.reduceMul, Nat.reduceLeDiff, reduceCtorEq, Nat.reduceSub, Int.reduceToNat] <;> exact rfl); (· decide)) | (apply one_bsl; (· rfl); (· simp only [push_cast, env, Nat.reduceEqDiff, reduceIte, Nat.reduceAdd, Nat.reduceMul, Nat.reduceLeDiff, reduceCtorEq, Nat.reduceSub, Int.reduceToNat] <;> exact rfl); (· rfl); (· simp only [push_cast, env, Nat.reduceEqDiff, reduceIte, Nat.reduceAdd, Nat.reduceMul, Nat.reduceLeDiff, reduceCtorEq, Nat.reduceSub, Int.reduceToNat] <;> exact rfl)) | (apply one_box; (· rfl); (· simp only [push_cast, env, Nat.reduceEqDiff, reduceIte, Nat.reduceAdd, Nat.reduceMul, Nat.reduceLeDiff, reduceCtorEq, Nat.reduceSub, Int.reduceToNat] <;> exact rfl); (· rfl); (· simp only [push_cast, env, Nat.reduceEqDiff, reduceIte, Nat.reduceAdd, Nat.reduceMul, Nat.reduceLeDiff, reduceCtorEq, Nat.reduceSub, Int.reduceToNat] <;> exact rfl)) | (apply one_skip; (· rfl); (· simp only [push_cast, env, Nat.reduceEqDiff, reduceIte, Nat.reduceAdd, Nat.reduceMul, Nat.reduceLeDiff, reduceCtorEq, Nat.reduceSub, Int.reduceToNat] <;> exact rfl)))); (· rfl)))
      case hS2 => repeat (first | exact StepsA.nil _ | (apply StepsA.cons; (· rfl); (· (first | refine ⟨?_, trivial⟩ | refine ⟨?_, ?_, trivial⟩ | refine ⟨?_, ?_, ?_, trivial⟩ | refine ⟨?_, ?_, ?_, ?_, trivial⟩) <;> (first | (apply one_val; (· rfl); (· simp only [push_cast, env, Nat.reduceEqDiff, reduceIte, Nat.reduceAdd, Nat.reduceMul, Nat.reduceLeDiff, reduceCtorEq, Nat.reduceSub, Int.reduceToNat] <;> exact rfl); (· simp only [push_cast, env, Nat.reduceEqDiff, reduceIte, Nat.reduceAdd, Nat.reduceMul, Nat.reduceLeDiff, reduceCtorEq, Nat.reduceSub, Int.reduceToNat] <;> exact rfl)) | (apply one_eph; (· rfl); (· simp only [push_cast, env, Nat.reduceEqDiff, reduceIte, Nat.reduceAdd, Nat.reduceMul, Nat.reduceLeDiff, reduceCtorEq, Nat.reduceSub, Int.reduceToNat] <;> exact rfl); (· rfl); (· simp only [push_cast, env, Nat.reduceEqDiff, reduceIte, Nat.reduceAdd, Nat.reduceMul, Nat.reduceLeDiff, reduceCtorEq, Nat.reduceSub, Int.reduceToNat] <;> exact rfl); (· decide)) | (apply one_bsl; (· rfl); (· simp only [push_cast, env, Nat.reduceEqDiff, reduceIte, Nat.reduceAdd, Nat.reduceMul, Nat.reduceLeDiff, reduceCtorEq, Nat.reduceSub, Int.reduceToNat] <;> exact rfl); (· rfl); (· simp only [push_cast, env, Nat.reduceEqDiff, reduceIte, Nat.reduceAdd, Nat.reduceMul, Nat.reduceLeDiff, reduceCtorEq, Nat.reduceSub, Int.reduceToNat] <;> exact rfl)) | (apply one_box; (· rfl); (· simp only [push_cast, env, Nat.reduceEqDiff, reduceIte, Nat.reduceAdd, Nat.reduceMul, Nat.reduceLeDiff, reduceCtorEq, Nat.reduceSub, Int.reduceToNat] <;> exact rfl); (· rfl); (· simp only [push_cast, env, Nat.reduceEqDiff, reduceIte, Nat.reduceAdd, Nat.reduceMul, Nat.reduceLeDiff, reduceCtorEq, Nat.reduceSub, Int.reduceToNat] <;> exact rfl)) | (apply one_skip; (· rfl); (· simp only [push_cast, env, Nat.reduceEqDiff, reduceIte, Nat.reduceAdd, Nat.reduceMul, Nat.reduceLeDiff, reduceCtorEq, Nat.reduceSub, Int.reduceToNat] <;> exact rfl)))); (· rfl)))
      case hra => rfl
      case hti => exact ti41
      case hw => intro H; exact (by simp only [push_cast, env, Nat.reduceEqDiff, reduceIte, Nat.reduceAdd, Nat.reduceMul, Nat.reduceLeDiff, reduceCtorEq, Nat.reduceSub, Int.reduceToNat] <;> exact rfl)
      case hp => intro H; exact (by simp only [push_cast, env, Nat.reduceEqDiff, reduceIte, Nat.reduceAdd, Nat.reduceMul, Nat.reduceLeDiff, reduceCtorEq, Nat.reduceSub, Int.reduceToNat, plc, eget] <;> exact rfl)
      case hbx => intro H; exact (by simp only [push_cast, env, Nat.reduceEqDiff, reduceIte, Nat.reduceAdd, Nat.reduceMul, Nat.reduceLeDiff, reduceCtorEq, Nat.reduceSub, Int.reduceToNat] <;> exact rfl)
      case hv => intro H; exact (by simp only [push_cast, env, Nat.reduceEqDiff, reduceIte, Nat.reduceAdd, Nat.reduceMul, Nat.reduceLeDiff, reduceCtorEq, Nat.reduceSub, Int.reduceToNat] <;> exact rfl)
      case hvs => rfl
      case hwr => rfl
      case ht => rfl
      case hF => repeat (first | exact trivial | (refine ⟨.inl ⟨by decide, rfl⟩, ?_⟩) | (refine ⟨.inr ⟨rfl, by simp⟩, ?_⟩))
      show CW _ _ _ _
      repeat (first | refine cw_seq ?_ | refine cw_region ?_ | refine ow_nil ?_ | ((first | apply ow_cons | apply qw_cons); · simp only [push_cast, env, Nat.reduceEqDiff, reduceIte, Nat.reduceAdd, Nat.reduceMul, Nat.reduceLeDiff, reduceCtorEq, Nat.reduceSub, Int.reduceToNat] <;> exact rfl) | ((first | apply ow_spec | apply qw_spec); · simp only [push_cast, env, Nat.reduceEqDiff, reduceIte, Nat.reduceAdd, Nat.reduceMul, Nat.reduceLeDiff, reduceCtorEq, Nat.reduceSub, Int.reduceToNat] <;> exact rfl) | refine qw_nil ?_ | refine cw_block ?_ | refine cw_scope ?_ | refine cw_label ?_ | refine cw_skip ?_)
      refine cw_condT (by simp only [push_cast, env, Nat.reduceEqDiff, reduceIte, Nat.reduceAdd, Nat.reduceMul, Nat.reduceLeDiff, reduceCtorEq, Nat.reduceSub, Int.reduceToNat] <;> exact rfl) ?_
      repeat (first | refine cw_seq ?_ | refine cw_region ?_ | refine ow_nil ?_ | ((first | apply ow_cons | apply qw_cons); · simp only [push_cast, env, Nat.reduceEqDiff, reduceIte, Nat.reduceAdd, Nat.reduceMul, Nat.reduceLeDiff, reduceCtorEq, Nat.reduceSub, Int.reduceToNat] <;> exact rfl) | ((first | apply ow_spec | apply qw_spec); · simp only [push_cast, env, Nat.reduceEqDiff, reduceIte, Nat.reduceAdd, Nat.reduceMul, Nat.reduceLeDiff, reduceCtorEq, Nat.reduceSub, Int.reduceToNat] <;> exact rfl) | refine qw_nil ?_ | refine cw_block ?_ | refine cw_scope ?_ | refine cw_label ?_ | refine cw_skip ?_)
      refine ow_call (fn := Try.f15) (by simp only [push_cast, env, Nat.reduceEqDiff, reduceIte, Nat.reduceAdd, Nat.reduceMul, Nat.reduceLeDiff, reduceCtorEq, Nat.reduceSub, Int.reduceToNat] <;> exact rfl) rfl (by simp only [push_cast, env, Nat.reduceEqDiff, reduceIte, Nat.reduceAdd, Nat.reduceMul, Nat.reduceLeDiff, reduceCtorEq, Nat.reduceSub, Int.reduceToNat] <;> exact rfl) (by simp only [push_cast, env, Nat.reduceEqDiff, reduceIte, Nat.reduceAdd, Nat.reduceMul, Nat.reduceLeDiff, reduceCtorEq, Nat.reduceSub, Int.reduceToNat] <;> exact rfl) Try.func15 (by kernel_rfl) (by kernel_rfl) ?_
      rw [List.append_nil]
      refine (accepts_fw (hr.mono (hp2.trans (hp3.trans (hp4.trans hp5)))) (hwR.mono (hp2.trans (hp3.trans (hp4.trans hp5)))) W).mono ?_
      rintro _ h6 ⟨k6, hp6⟩
      obtain ⟨b6, rfl, hb6⟩ := k6.p hf0
      obtain rfl : b6 = true := hb6.2 (hb.1 rfl)
      repeat (first | refine cw_seq ?_ | refine cw_region ?_ | refine ow_nil ?_ | ((first | apply ow_cons | apply qw_cons); · simp only [push_cast, env, Nat.reduceEqDiff, reduceIte, Nat.reduceAdd, Nat.reduceMul, Nat.reduceLeDiff, reduceCtorEq, Nat.reduceSub, Int.reduceToNat] <;> exact rfl) | ((first | apply ow_spec | apply qw_spec); · simp only [push_cast, env, Nat.reduceEqDiff, reduceIte, Nat.reduceAdd, Nat.reduceMul, Nat.reduceLeDiff, reduceCtorEq, Nat.reduceSub, Int.reduceToNat] <;> exact rfl) | refine qw_nil ?_ | refine cw_block ?_ | refine cw_scope ?_ | refine cw_label ?_ | refine cw_skip ?_)
      refine ow_call (fn := Try.f14) (by simp only [push_cast, env, Nat.reduceEqDiff, reduceIte, Nat.reduceAdd, Nat.reduceMul, Nat.reduceLeDiff, reduceCtorEq, Nat.reduceSub, Int.reduceToNat] <;> exact rfl) rfl (by simp only [push_cast, env, Nat.reduceEqDiff, reduceIte, Nat.reduceAdd, Nat.reduceMul, Nat.reduceLeDiff, reduceCtorEq, Nat.reduceSub, Int.reduceToNat] <;> exact rfl) (by simp only [push_cast, env, Nat.reduceEqDiff, reduceIte, Nat.reduceAdd, Nat.reduceMul, Nat.reduceLeDiff, reduceCtorEq, Nat.reduceSub, Int.reduceToNat] <;> exact rfl) Try.func14 (by kernel_rfl) (by kernel_rfl) ?_
      refine alive7_fw.mono ?_
      rintro _ h6 ⟨rfl, rfl⟩
      repeat (first | refine cw_seq ?_ | refine cw_region ?_ | refine ow_nil ?_ | ((first | apply ow_cons | apply qw_cons); · simp only [push_cast, env, Nat.reduceEqDiff, reduceIte, Nat.reduceAdd, Nat.reduceMul, Nat.reduceLeDiff, reduceCtorEq, Nat.reduceSub, Int.reduceToNat] <;> exact rfl) | ((first | apply ow_spec | apply qw_spec); · simp only [push_cast, env, Nat.reduceEqDiff, reduceIte, Nat.reduceAdd, Nat.reduceMul, Nat.reduceLeDiff, reduceCtorEq, Nat.reduceSub, Int.reduceToNat] <;> exact rfl) | refine qw_nil ?_ | refine cw_block ?_ | refine cw_scope ?_ | refine cw_label ?_ | refine cw_skip ?_)
      refine cw_ret ?_
      exact ⟨_, (by simp only [push_cast, env, Nat.reduceEqDiff, reduceIte, Nat.reduceAdd, Nat.reduceMul, Nat.reduceLeDiff, reduceCtorEq, Nat.reduceSub, Int.reduceToNat] <;> exact rfl), rfl⟩
    | false =>
      repeat (first | refine cw_seq ?_ | refine cw_region ?_ | refine ow_nil ?_ | ((first | apply ow_cons | apply qw_cons); · simp only [push_cast, env, Nat.reduceEqDiff, reduceIte, Nat.reduceAdd, Nat.reduceMul, Nat.reduceLeDiff, reduceCtorEq, Nat.reduceSub, Int.reduceToNat, d4, d5] <;> exact rfl) | ((first | apply ow_spec | apply qw_spec); · simp only [push_cast, env, Nat.reduceEqDiff, reduceIte, Nat.reduceAdd, Nat.reduceMul, Nat.reduceLeDiff, reduceCtorEq, Nat.reduceSub, Int.reduceToNat, d4, d5] <;> exact rfl) | refine qw_nil ?_ | refine cw_block ?_ | refine cw_scope ?_ | refine cw_label ?_ | refine cw_skip ?_)
      refine cw_condF (by simp only [push_cast, env, Nat.reduceEqDiff, reduceIte, Nat.reduceAdd, Nat.reduceMul, Nat.reduceLeDiff, reduceCtorEq, Nat.reduceSub, Int.reduceToNat] <;> exact rfl) ?_
      repeat (first | refine cw_seq ?_ | refine cw_region ?_ | refine ow_nil ?_ | ((first | apply ow_cons | apply qw_cons); · simp only [push_cast, env, Nat.reduceEqDiff, reduceIte, Nat.reduceAdd, Nat.reduceMul, Nat.reduceLeDiff, reduceCtorEq, Nat.reduceSub, Int.reduceToNat, d6] <;> exact rfl) | ((first | apply ow_spec | apply qw_spec); · simp only [push_cast, env, Nat.reduceEqDiff, reduceIte, Nat.reduceAdd, Nat.reduceMul, Nat.reduceLeDiff, reduceCtorEq, Nat.reduceSub, Int.reduceToNat, d6] <;> exact rfl) | refine qw_nil ?_ | refine cw_block ?_ | refine cw_scope ?_ | refine cw_label ?_ | refine cw_skip ?_)
      refine cw_condF (by simp only [push_cast, env, Nat.reduceEqDiff, reduceIte, Nat.reduceAdd, Nat.reduceMul, Nat.reduceLeDiff, reduceCtorEq, Nat.reduceSub, Int.reduceToNat] <;> exact rfl) ?_
      obtain ⟨vj, hsl, hwj⟩ := rdb_slice (lo := 0) (hi := w.length) (hwR.mono (hp2.trans hp3)) (Nat.zero_le _) (Nat.le_refl _)
      have hsube : sub w 0 w.length = w.take w.length := by unfold sub; rw [List.drop_zero, Nat.sub_zero]
      rw [hsube] at hwj
      obtain ⟨pj, cj, rfl⟩ := hwj.form
      have hlast := last_fw (hr.mono (hp2.trans hp3)) hwj W
      unfold FW at hlast
      obtain ⟨rr, h4, hcall, k4, hp4⟩ := hlast
      obtain ⟨k, m4, rfl, _, hk⟩ := k4.p (fit_less hf0 hltj)
      have hkj : k = ((w.length : Nat) : Int) := by
        refine hk.eq (.inr ⟨w.length, by rw [List.length_take]; omega, rfl, by rw [List.take_take, Nat.min_self]; exact hB, fun i h1 h2 => ?_⟩)
        rw [List.length_take] at h2
        omega
      subst hkj
      repeat (first | refine cw_seq ?_ | refine cw_region ?_ | refine ow_nil ?_ | ((first | apply ow_cons | apply qw_cons); · simp only [push_cast, env, Nat.reduceEqDiff, reduceIte, Nat.reduceAdd, Nat.reduceMul, Nat.reduceLeDiff, reduceCtorEq, Nat.reduceSub, Int.reduceToNat] <;> exact rfl) | ((first | apply ow_spec | apply qw_spec); · simp only [push_cast, env, Nat.reduceEqDiff, reduceIte, Nat.reduceAdd, Nat.reduceMul, Nat.reduceLeDiff, reduceCtorEq, Nat.reduceSub, Int.reduceToNat] <;> exact rfl) | refine qw_nil ?_ | refine cw_block ?_ | refine cw_scope ?_ | refine cw_label ?_ | refine cw_skip ?_)
      refine cw_weakL [(1, .val (.slice pw w.length cw)), (2, .val (.slice px x.length cx)), (3, .box [i64 g.nts, i64 g.start, .slice p g.rules.length c]), (7, .val (i64 ((w.length : Nat) : Int)))] (by simp only [push_cast, SubL, fget, Nat.reduceEqDiff, reduceIte]) ?_
      show CW _ _ ⟨_, [], h3⟩ _
      apply cw_ordA (L := [[], [], [], [1, 2], [0, 1, 2, 3], [0, 1, 2, 3, 4], [0, 1, 2, 3, 4, 5], [0, 1, 2, 3, 4, 5], [0, 1, 2, 3, 4, 5, 6], [0, 1, 2, 3, 4, 5, 7]]) (act := [4]) (hs := [h4]) (resL := [_, _, _, _, _, _, _, _, _, _]) (frF := [(1, .val (.slice pw w.length cw)), (2, .val (.slice px x.length cx)), (3, .box [i64 g.nts, i64 g.start, .slice p g.rules.length c]), (7, .val (i64 ((w.length : Nat) : Int))), (13, .val (i64 ((w.length : Nat) : Int)))])
      case hm => exact mixed
      case hc => kernel_rfl
      case ha => rfl
      case hb => rfl
      case hS =>
        repeat (first | exact StepsA.nil _ | (apply StepsA.cons; (· rfl); (· (first | refine ⟨?_, trivial⟩ | refine ⟨?_, ?_, trivial⟩ | refine ⟨?_, ?_, ?_, trivial⟩ | refine ⟨?_, ?_, ?_, ?_, trivial⟩) <;> (first | (apply one_val; (· rfl); (· simp only [push_cast, env, Nat.reduceEqDiff, reduceIte, Nat.reduceAdd, Nat.reduceMul, Nat.reduceLeDiff, reduceCtorEq, Nat.reduceSub, Int.reduceToNat] <;> exact rfl); (· simp only [push_cast, env, Nat.reduceEqDiff, reduceIte, Nat.reduceAdd, Nat.reduceMul, Nat.reduceLeDiff, reduceCtorEq, Nat.reduceSub, Int.reduceToNat] <;> exact rfl)) | (apply one_eph; (· rfl); (· simp only [push_cast, env, Nat.reduceEqDiff, reduceIte, Nat.reduceAdd, Nat.reduceMul, Nat.reduceLeDiff, reduceCtorEq, Nat.reduceSub, Int.reduceToNat] <;> exact rfl); (· rfl); (· simp only [push_cast, env, Nat.reduceEqDiff, reduceIte, Nat.reduceAdd, Nat.reduceMul, Nat.reduceLeDiff, reduceCtorEq, Nat.reduceSub, Int.reduceToNat] <;> exact rfl); (· decide)) | (apply one_bsl; (· rfl); (· simp only [push_cast, env, Nat.reduceEqDiff, reduceIte, Nat.reduceAdd, Nat.reduceMul, Nat.reduceLeDiff, reduceCtorEq, Nat.reduceSub, Int.reduceToNat] <;> exact rfl); (· rfl); (· simp only [push_cast, env, Nat.reduceEqDiff, reduceIte, Nat.reduceAdd, Nat.reduceMul, Nat.reduceLeDiff, reduceCtorEq, Nat.reduceSub, Int.reduceToNat] <;> exact rfl)) | (apply one_box; (· rfl); (· simp only [push_cast, env, Nat.reduceEqDiff, reduceIte, Nat.reduceAdd, Nat.reduceMul, Nat.reduceLeDiff, reduceCtorEq, Nat.reduceSub, Int.reduceToNat] <;> exact rfl); (· rfl); (· simp only [push_cast, env, Nat.reduceEqDiff, reduceIte, Nat.reduceAdd, Nat.reduceMul, Nat.reduceLeDiff, reduceCtorEq, Nat.reduceSub, Int.reduceToNat] <;> exact rfl)) | (apply one_skip; (· rfl); (· simp only [push_cast, env, Nat.reduceEqDiff, reduceIte, Nat.reduceAdd, Nat.reduceMul, Nat.reduceLeDiff, reduceCtorEq, Nat.reduceSub, Int.reduceToNat] <;> exact rfl)))); (· rfl)))
        apply StepsA.cons
        · rfl
        · refine ⟨?_, trivial⟩
          exact one_slice (v := .slice pj (w.take w.length).length cj) rfl (by simp only [push_cast, env, Nat.reduceEqDiff, reduceIte, Nat.reduceAdd, Nat.reduceMul, Nat.reduceLeDiff, reduceCtorEq, Nat.reduceSub, Int.reduceToNat] <;> exact rfl) rfl (hsl _ _ _ _ rfl (by simp only [push_cast, env, Nat.reduceEqDiff, reduceIte, Nat.reduceAdd, Nat.reduceMul, Nat.reduceLeDiff, reduceCtorEq, Nat.reduceSub, Int.reduceToNat] <;> exact rfl) (by simp only [push_cast, env, Nat.reduceEqDiff, reduceIte, Nat.reduceAdd, Nat.reduceMul, Nat.reduceLeDiff, reduceCtorEq, Nat.reduceSub, Int.reduceToNat] <;> exact rfl) (by simp only [push_cast, env, Nat.reduceEqDiff, reduceIte, Nat.reduceAdd, Nat.reduceMul, Nat.reduceLeDiff, reduceCtorEq, Nat.reduceSub, Int.reduceToNat] <;> exact rfl))
        · rfl
        apply StepsA.cons
        · rfl
        · refine ⟨?_, trivial⟩
          exact one_callE (args := [.agg #[i64 g.nts, i64 g.start, .slice p g.rules.length c], .slice pj (w.take w.length).length cj]) (cap := []) (fn := Try.f17) (by simp only [push_cast, env, Nat.reduceEqDiff, reduceIte, Nat.reduceAdd, Nat.reduceMul, Nat.reduceLeDiff, reduceCtorEq, Nat.reduceSub, Int.reduceToNat] <;> exact rfl) rfl (by simp only [push_cast, env, Nat.reduceEqDiff, reduceIte, Nat.reduceAdd, Nat.reduceMul, Nat.reduceLeDiff, reduceCtorEq, Nat.reduceSub, Int.reduceToNat] <;> exact rfl) (by simp only [push_cast, env, Nat.reduceEqDiff, reduceIte, Nat.reduceAdd, Nat.reduceMul, Nat.reduceLeDiff, reduceCtorEq, Nat.reduceSub, Int.reduceToNat] <;> exact rfl) Try.func17 (by kernel_rfl) (by kernel_rfl) hcall
        · rfl
        repeat (first | exact StepsA.nil _ | (apply StepsA.cons; (· rfl); (· (first | refine ⟨?_, trivial⟩ | refine ⟨?_, ?_, trivial⟩ | refine ⟨?_, ?_, ?_, trivial⟩ | refine ⟨?_, ?_, ?_, ?_, trivial⟩) <;> (first | (apply one_val; (· rfl); (· simp only [push_cast, env, Nat.reduceEqDiff, reduceIte, Nat.reduceAdd, Nat.reduceMul, Nat.reduceLeDiff, reduceCtorEq, Nat.reduceSub, Int.reduceToNat] <;> exact rfl); (· simp only [push_cast, env, Nat.reduceEqDiff, reduceIte, Nat.reduceAdd, Nat.reduceMul, Nat.reduceLeDiff, reduceCtorEq, Nat.reduceSub, Int.reduceToNat] <;> exact rfl)) | (apply one_eph; (· rfl); (· simp only [push_cast, env, Nat.reduceEqDiff, reduceIte, Nat.reduceAdd, Nat.reduceMul, Nat.reduceLeDiff, reduceCtorEq, Nat.reduceSub, Int.reduceToNat] <;> exact rfl); (· rfl); (· simp only [push_cast, env, Nat.reduceEqDiff, reduceIte, Nat.reduceAdd, Nat.reduceMul, Nat.reduceLeDiff, reduceCtorEq, Nat.reduceSub, Int.reduceToNat] <;> exact rfl); (· decide)) | (apply one_bsl; (· rfl); (· simp only [push_cast, env, Nat.reduceEqDiff, reduceIte, Nat.reduceAdd, Nat.reduceMul, Nat.reduceLeDiff, reduceCtorEq, Nat.reduceSub, Int.reduceToNat] <;> exact rfl); (· rfl); (· simp only [push_cast, env, Nat.reduceEqDiff, reduceIte, Nat.reduceAdd, Nat.reduceMul, Nat.reduceLeDiff, reduceCtorEq, Nat.reduceSub, Int.reduceToNat] <;> exact rfl)) | (apply one_box; (· rfl); (· simp only [push_cast, env, Nat.reduceEqDiff, reduceIte, Nat.reduceAdd, Nat.reduceMul, Nat.reduceLeDiff, reduceCtorEq, Nat.reduceSub, Int.reduceToNat] <;> exact rfl); (· rfl); (· simp only [push_cast, env, Nat.reduceEqDiff, reduceIte, Nat.reduceAdd, Nat.reduceMul, Nat.reduceLeDiff, reduceCtorEq, Nat.reduceSub, Int.reduceToNat] <;> exact rfl)) | (apply one_skip; (· rfl); (· simp only [push_cast, env, Nat.reduceEqDiff, reduceIte, Nat.reduceAdd, Nat.reduceMul, Nat.reduceLeDiff, reduceCtorEq, Nat.reduceSub, Int.reduceToNat] <;> exact rfl)))); (· rfl)))
      case ht => rfl
      case hF => repeat (first | exact trivial | (refine ⟨.inl ⟨by decide, rfl⟩, ?_⟩) | (refine ⟨.inr ⟨rfl, by simp⟩, ?_⟩))
      show CW _ _ _ _
      repeat (first | refine cw_seq ?_ | refine cw_region ?_ | refine ow_nil ?_ | ((first | apply ow_cons | apply qw_cons); · simp only [push_cast, env, Nat.reduceEqDiff, reduceIte, Nat.reduceAdd, Nat.reduceMul, Nat.reduceLeDiff, reduceCtorEq, Nat.reduceSub, Int.reduceToNat] <;> exact rfl) | ((first | apply ow_spec | apply qw_spec); · simp only [push_cast, env, Nat.reduceEqDiff, reduceIte, Nat.reduceAdd, Nat.reduceMul, Nat.reduceLeDiff, reduceCtorEq, Nat.reduceSub, Int.reduceToNat] <;> exact rfl) | refine qw_nil ?_ | refine cw_block ?_ | refine cw_scope ?_ | refine cw_label ?_ | refine cw_skip ?_)
      refine cw_condF (by simp only [push_cast, env, Nat.reduceEqDiff, reduceIte, Nat.reduceAdd, Nat.reduceMul, Nat.reduceLeDiff, reduceCtorEq, Nat.reduceSub, Int.reduceToNat] <;> exact rfl) ?_
      obtain ⟨vj2, hsl2, hwj2⟩ := rdb_slice (lo := 0) (hi := w.length) (hwR.mono (hp2.trans (hp3.trans hp4))) (Nat.zero_le _) (Nat.le_refl _)
      rw [hsube] at hwj2
      obtain ⟨pj2, cj2, rfl⟩ := hwj2.form
      have hnext := next_fw (hr.mono (hp2.trans (hp3.trans hp4))) hwj2 W
      unfold FW at hnext
      obtain ⟨rr2, h5, hcall2, k5, hp5⟩ := hnext
      obtain ⟨s, rfl, hsw, hs⟩ := k5.p (fit_less hf0 hltj)
      repeat (first | refine cw_seq ?_ | refine cw_region ?_ | refine ow_nil ?_ | ((first | apply ow_cons | apply qw_cons); · simp only [push_cast, env, Nat.reduceEqDiff, reduceIte, Nat.reduceAdd, Nat.reduceMul, Nat.reduceLeDiff, reduceCtorEq, Nat.reduceSub, Int.reduceToNat] <;> exact rfl) | ((first | apply ow_spec | apply qw_spec); · simp only [push_cast, env, Nat.reduceEqDiff, reduceIte, Nat.reduceAdd, Nat.reduceMul, Nat.reduceLeDiff, reduceCtorEq, Nat.reduceSub, Int.reduceToNat] <;> exact rfl) | refine qw_nil ?_ | refine cw_block ?_ | refine cw_scope ?_ | refine cw_label ?_ | refine cw_skip ?_)
      refine cw_weakL [(1, .val (.slice pw w.length cw)), (2, .val (.slice px x.length cx)), (3, .box [i64 g.nts, i64 g.start, .slice p g.rules.length c]), (7, .val (i64 ((w.length : Nat) : Int)))] (by simp only [push_cast, SubL, fget, Nat.reduceEqDiff, reduceIte]) ?_
      show CW _ _ ⟨_, [], h4⟩ _
      apply cw_ordS (L := [[], [], [], [1, 2], [0, 1, 2, 3], [0, 1, 2, 3, 4], [0, 1, 2, 3, 4, 5], [0, 1, 2, 3, 4, 5], [], [0, 1, 2, 3, 4, 5, 6, 8], [0, 1, 2, 3, 4, 5, 7]]) (act := [4]) (hs := [h5]) (resL := [_, _, _, _, _, _, _, _, _, .sl .unk, _]) (frF := [(1, .val (.slice pw w.length cw)), (2, .val (.slice px x.length cx)), (3, .box [i64 g.nts, i64 g.start, .slice p g.rules.length c]), (7, .val (i64 ((w.length : Nat) : Int))), (15, .box [u64 s.a, u64 s.b, u64 s.c, u64 s.d])]) (a := 8) (st := 9) (d := 15) (cs' := [u64 s.a, u64 s.b, u64 s.c, u64 s.d])
      case hm => exact mixed
      case hc => kernel_rfl
      case ha => rfl
      case hb => rfl
      case hfree => rfl
      case hna => rfl
      case hanc => rfl
      case ho => rfl
      case hop => rfl
      case hod => rfl
      case hda => rfl
      case hS1 =>
        repeat (first | exact StepsA.nil _ | (apply StepsA.cons; (· rfl); (· (first | refine ⟨?_, trivial⟩ | refine ⟨?_, ?_, trivial⟩ | refine ⟨?_, ?_, ?_, trivial⟩ | refine ⟨?_, ?_, ?_, ?_, trivial⟩) <;> (first | (apply one_val; (· rfl); (· simp only [push_cast, env, Nat.reduceEqDiff, reduceIte, Nat.reduceAdd, Nat.reduceMul, Nat.reduceLeDiff, reduceCtorEq, Nat.reduceSub, Int.reduceToNat] <;> exact rfl); (· simp only [push_cast, env, Nat.reduceEqDiff, reduceIte, Nat.reduceAdd, Nat.reduceMul, Nat.reduceLeDiff, reduceCtorEq, Nat.reduceSub, Int.reduceToNat] <;> exact rfl)) | (apply one_eph; (· rfl); (· simp only [push_cast, env, Nat.reduceEqDiff, reduceIte, Nat.reduceAdd, Nat.reduceMul, Nat.reduceLeDiff, reduceCtorEq, Nat.reduceSub, Int.reduceToNat] <;> exact rfl); (· rfl); (· simp only [push_cast, env, Nat.reduceEqDiff, reduceIte, Nat.reduceAdd, Nat.reduceMul, Nat.reduceLeDiff, reduceCtorEq, Nat.reduceSub, Int.reduceToNat] <;> exact rfl); (· decide)) | (apply one_bsl; (· rfl); (· simp only [push_cast, env, Nat.reduceEqDiff, reduceIte, Nat.reduceAdd, Nat.reduceMul, Nat.reduceLeDiff, reduceCtorEq, Nat.reduceSub, Int.reduceToNat] <;> exact rfl); (· rfl); (· simp only [push_cast, env, Nat.reduceEqDiff, reduceIte, Nat.reduceAdd, Nat.reduceMul, Nat.reduceLeDiff, reduceCtorEq, Nat.reduceSub, Int.reduceToNat] <;> exact rfl)) | (apply one_box; (· rfl); (· simp only [push_cast, env, Nat.reduceEqDiff, reduceIte, Nat.reduceAdd, Nat.reduceMul, Nat.reduceLeDiff, reduceCtorEq, Nat.reduceSub, Int.reduceToNat] <;> exact rfl); (· rfl); (· simp only [push_cast, env, Nat.reduceEqDiff, reduceIte, Nat.reduceAdd, Nat.reduceMul, Nat.reduceLeDiff, reduceCtorEq, Nat.reduceSub, Int.reduceToNat] <;> exact rfl)) | (apply one_skip; (· rfl); (· simp only [push_cast, env, Nat.reduceEqDiff, reduceIte, Nat.reduceAdd, Nat.reduceMul, Nat.reduceLeDiff, reduceCtorEq, Nat.reduceSub, Int.reduceToNat] <;> exact rfl)))); (· rfl)))
        apply StepsA.cons
        · rfl
        · refine ⟨?_, trivial⟩
          exact one_slice (v := .slice pj2 (w.take w.length).length cj2) rfl (by simp only [push_cast, env, Nat.reduceEqDiff, reduceIte, Nat.reduceAdd, Nat.reduceMul, Nat.reduceLeDiff, reduceCtorEq, Nat.reduceSub, Int.reduceToNat] <;> exact rfl) rfl (hsl2 _ _ _ _ rfl (by simp only [push_cast, env, Nat.reduceEqDiff, reduceIte, Nat.reduceAdd, Nat.reduceMul, Nat.reduceLeDiff, reduceCtorEq, Nat.reduceSub, Int.reduceToNat] <;> exact rfl) (by simp only [push_cast, env, Nat.reduceEqDiff, reduceIte, Nat.reduceAdd, Nat.reduceMul, Nat.reduceLeDiff, reduceCtorEq, Nat.reduceSub, Int.reduceToNat] <;> exact rfl) (by simp only [push_cast, env, Nat.reduceEqDiff, reduceIte, Nat.reduceAdd, Nat.reduceMul, Nat.reduceLeDiff, reduceCtorEq, Nat.reduceSub, Int.reduceToNat] <;> exact rfl))
        · rfl
        apply StepsA.cons
        · rfl
        · refine ⟨?_, trivial⟩
          exact one_callE (args := [.agg #[i64 g.nts, i64 g.start, .slice p g.rules.length c], .slice pj2 (w.take w.length).length cj2]) (cap := []) (fn := Try.f29) (by simp only [push_cast, env, Nat.reduceEqDiff, reduceIte, Nat.reduceAdd, Nat.reduceMul, Nat.reduceLeDiff, reduceCtorEq, Nat.reduceSub, Int.reduceToNat] <;> exact rfl) rfl (by simp only [push_cast, env, Nat.reduceEqDiff, reduceIte, Nat.reduceAdd, Nat.reduceMul, Nat.reduceLeDiff, reduceCtorEq, Nat.reduceSub, Int.reduceToNat] <;> exact rfl) (by simp only [push_cast, env, Nat.reduceEqDiff, reduceIte, Nat.reduceAdd, Nat.reduceMul, Nat.reduceLeDiff, reduceCtorEq, Nat.reduceSub, Int.reduceToNat] <;> exact rfl) Try.func29 (by kernel_rfl) (by kernel_rfl) hcall2
        · rfl
        repeat (first | exact StepsA.nil _ | (apply StepsA.cons; (· rfl); (· (first | refine ⟨?_, trivial⟩ | refine ⟨?_, ?_, trivial⟩ | refine ⟨?_, ?_, ?_, trivial⟩ | refine ⟨?_, ?_, ?_, ?_, trivial⟩) <;> (first | (apply one_val; (· rfl); (· simp only [push_cast, env, Nat.reduceEqDiff, reduceIte, Nat.reduceAdd, Nat.reduceMul, Nat.reduceLeDiff, reduceCtorEq, Nat.reduceSub, Int.reduceToNat] <;> exact rfl); (· simp only [push_cast, env, Nat.reduceEqDiff, reduceIte, Nat.reduceAdd, Nat.reduceMul, Nat.reduceLeDiff, reduceCtorEq, Nat.reduceSub, Int.reduceToNat] <;> exact rfl)) | (apply one_eph; (· rfl); (· simp only [push_cast, env, Nat.reduceEqDiff, reduceIte, Nat.reduceAdd, Nat.reduceMul, Nat.reduceLeDiff, reduceCtorEq, Nat.reduceSub, Int.reduceToNat] <;> exact rfl); (· rfl); (· simp only [push_cast, env, Nat.reduceEqDiff, reduceIte, Nat.reduceAdd, Nat.reduceMul, Nat.reduceLeDiff, reduceCtorEq, Nat.reduceSub, Int.reduceToNat] <;> exact rfl); (· decide)) | (apply one_bsl; (· rfl); (· simp only [push_cast, env, Nat.reduceEqDiff, reduceIte, Nat.reduceAdd, Nat.reduceMul, Nat.reduceLeDiff, reduceCtorEq, Nat.reduceSub, Int.reduceToNat] <;> exact rfl); (· rfl); (· simp only [push_cast, env, Nat.reduceEqDiff, reduceIte, Nat.reduceAdd, Nat.reduceMul, Nat.reduceLeDiff, reduceCtorEq, Nat.reduceSub, Int.reduceToNat] <;> exact rfl)) | (apply one_box; (· rfl); (· simp only [push_cast, env, Nat.reduceEqDiff, reduceIte, Nat.reduceAdd, Nat.reduceMul, Nat.reduceLeDiff, reduceCtorEq, Nat.reduceSub, Int.reduceToNat] <;> exact rfl); (· rfl); (· simp only [push_cast, env, Nat.reduceEqDiff, reduceIte, Nat.reduceAdd, Nat.reduceMul, Nat.reduceLeDiff, reduceCtorEq, Nat.reduceSub, Int.reduceToNat] <;> exact rfl)) | (apply one_skip; (· rfl); (· simp only [push_cast, env, Nat.reduceEqDiff, reduceIte, Nat.reduceAdd, Nat.reduceMul, Nat.reduceLeDiff, reduceCtorEq, Nat.reduceSub, Int.reduceToNat] <;> exact rfl)))); (· rfl)))
      case hS2 => repeat (first | exact StepsA.nil _ | (apply StepsA.cons; (· rfl); (· (first | refine ⟨?_, trivial⟩ | refine ⟨?_, ?_, trivial⟩ | refine ⟨?_, ?_, ?_, trivial⟩ | refine ⟨?_, ?_, ?_, ?_, trivial⟩) <;> (first | (apply one_val; (· rfl); (· simp only [push_cast, env, Nat.reduceEqDiff, reduceIte, Nat.reduceAdd, Nat.reduceMul, Nat.reduceLeDiff, reduceCtorEq, Nat.reduceSub, Int.reduceToNat] <;> exact rfl); (· simp only [push_cast, env, Nat.reduceEqDiff, reduceIte, Nat.reduceAdd, Nat.reduceMul, Nat.reduceLeDiff, reduceCtorEq, Nat.reduceSub, Int.reduceToNat] <;> exact rfl)) | (apply one_eph; (· rfl); (· simp only [push_cast, env, Nat.reduceEqDiff, reduceIte, Nat.reduceAdd, Nat.reduceMul, Nat.reduceLeDiff, reduceCtorEq, Nat.reduceSub, Int.reduceToNat] <;> exact rfl); (· rfl); (· simp only [push_cast, env, Nat.reduceEqDiff, reduceIte, Nat.reduceAdd, Nat.reduceMul, Nat.reduceLeDiff, reduceCtorEq, Nat.reduceSub, Int.reduceToNat] <;> exact rfl); (· decide)) | (apply one_bsl; (· rfl); (· simp only [push_cast, env, Nat.reduceEqDiff, reduceIte, Nat.reduceAdd, Nat.reduceMul, Nat.reduceLeDiff, reduceCtorEq, Nat.reduceSub, Int.reduceToNat] <;> exact rfl); (· rfl); (· simp only [push_cast, env, Nat.reduceEqDiff, reduceIte, Nat.reduceAdd, Nat.reduceMul, Nat.reduceLeDiff, reduceCtorEq, Nat.reduceSub, Int.reduceToNat] <;> exact rfl)) | (apply one_box; (· rfl); (· simp only [push_cast, env, Nat.reduceEqDiff, reduceIte, Nat.reduceAdd, Nat.reduceMul, Nat.reduceLeDiff, reduceCtorEq, Nat.reduceSub, Int.reduceToNat] <;> exact rfl); (· rfl); (· simp only [push_cast, env, Nat.reduceEqDiff, reduceIte, Nat.reduceAdd, Nat.reduceMul, Nat.reduceLeDiff, reduceCtorEq, Nat.reduceSub, Int.reduceToNat] <;> exact rfl)) | (apply one_skip; (· rfl); (· simp only [push_cast, env, Nat.reduceEqDiff, reduceIte, Nat.reduceAdd, Nat.reduceMul, Nat.reduceLeDiff, reduceCtorEq, Nat.reduceSub, Int.reduceToNat] <;> exact rfl)))); (· rfl)))
      case hra => rfl
      case hti => exact ti41
      case hw => intro H; exact (by simp only [push_cast, env, Nat.reduceEqDiff, reduceIte, Nat.reduceAdd, Nat.reduceMul, Nat.reduceLeDiff, reduceCtorEq, Nat.reduceSub, Int.reduceToNat] <;> exact rfl)
      case hp => intro H; exact (by simp only [push_cast, env, Nat.reduceEqDiff, reduceIte, Nat.reduceAdd, Nat.reduceMul, Nat.reduceLeDiff, reduceCtorEq, Nat.reduceSub, Int.reduceToNat, plc, eget] <;> exact rfl)
      case hbx => intro H; exact (by simp only [push_cast, env, Nat.reduceEqDiff, reduceIte, Nat.reduceAdd, Nat.reduceMul, Nat.reduceLeDiff, reduceCtorEq, Nat.reduceSub, Int.reduceToNat] <;> exact rfl)
      case hv => intro H; exact (by simp only [push_cast, env, Nat.reduceEqDiff, reduceIte, Nat.reduceAdd, Nat.reduceMul, Nat.reduceLeDiff, reduceCtorEq, Nat.reduceSub, Int.reduceToNat] <;> exact rfl)
      case hvs => rfl
      case hwr => rfl
      case ht => rfl
      case hF => repeat (first | exact trivial | (refine ⟨.inl ⟨by decide, rfl⟩, ?_⟩) | (refine ⟨.inr ⟨rfl, by simp⟩, ?_⟩))
      show CW _ _ _ _
      rw [htw] at hs
      have hno : ¬ NtTx g.rules g.start w := fun hh => by have := hb.2 hh; cases this
      have dz : decide (s = BSet.zero) = false := decide_eq_false (by
        rintro rfl
        obtain ⟨q, hq, hg⟩ := bg_goes R hm W (by rw [htw] at hB; exact hB) hno
        have := (hs q hq).2 hg
        rw [zero_has] at this
        cases this)
      repeat (first | refine cw_seq ?_ | refine cw_region ?_ | refine ow_nil ?_ | ((first | apply ow_cons | apply qw_cons); · simp only [push_cast, env, Nat.reduceEqDiff, reduceIte, Nat.reduceAdd, Nat.reduceMul, Nat.reduceLeDiff, reduceCtorEq, Nat.reduceSub, Int.reduceToNat] <;> exact rfl) | ((first | apply ow_spec | apply qw_spec); · simp only [push_cast, env, Nat.reduceEqDiff, reduceIte, Nat.reduceAdd, Nat.reduceMul, Nat.reduceLeDiff, reduceCtorEq, Nat.reduceSub, Int.reduceToNat] <;> exact rfl) | refine qw_nil ?_ | refine cw_block ?_ | refine cw_scope ?_ | refine cw_label ?_ | refine cw_skip ?_)
      refine cw_condT (by simp only [push_cast, env, Nat.reduceEqDiff, reduceIte, Nat.reduceAdd, Nat.reduceMul, Nat.reduceLeDiff, reduceCtorEq, Nat.reduceSub, Int.reduceToNat] <;> exact rfl) ?_
      repeat (first | refine cw_seq ?_ | refine cw_region ?_ | refine ow_nil ?_ | ((first | apply ow_cons | apply qw_cons); · simp only [push_cast, env, Nat.reduceEqDiff, reduceIte, Nat.reduceAdd, Nat.reduceMul, Nat.reduceLeDiff, reduceCtorEq, Nat.reduceSub, Int.reduceToNat] <;> exact rfl) | ((first | apply ow_spec | apply qw_spec); · simp only [push_cast, env, Nat.reduceEqDiff, reduceIte, Nat.reduceAdd, Nat.reduceMul, Nat.reduceLeDiff, reduceCtorEq, Nat.reduceSub, Int.reduceToNat] <;> exact rfl) | refine qw_nil ?_ | refine cw_block ?_ | refine cw_scope ?_ | refine cw_label ?_ | refine cw_skip ?_)
      refine ow_call (fn := Try.f15) (by simp only [push_cast, env, Nat.reduceEqDiff, reduceIte, Nat.reduceAdd, Nat.reduceMul, Nat.reduceLeDiff, reduceCtorEq, Nat.reduceSub, Int.reduceToNat] <;> exact rfl) rfl (by simp only [push_cast, env, Nat.reduceEqDiff, reduceIte, Nat.reduceAdd, Nat.reduceMul, Nat.reduceLeDiff, reduceCtorEq, Nat.reduceSub, Int.reduceToNat] <;> exact rfl) (by simp only [push_cast, env, Nat.reduceEqDiff, reduceIte, Nat.reduceAdd, Nat.reduceMul, Nat.reduceLeDiff, reduceCtorEq, Nat.reduceSub, Int.reduceToNat] <;> exact rfl) Try.func15 (by kernel_rfl) (by kernel_rfl) ?_
      rw [List.append_nil]
      refine (accepts_fw (hr.mono (hp2.trans (hp3.trans (hp4.trans hp5)))) (hwR.mono (hp2.trans (hp3.trans (hp4.trans hp5)))) W).mono ?_
      rintro _ h6 ⟨k6, hp6⟩
      obtain ⟨b6, rfl, hb6⟩ := k6.p hf0
      obtain rfl : b6 = false := by
        cases b6 with
        | false => rfl
        | true => exact absurd (hb6.1 rfl) hno
      repeat (first | refine cw_seq ?_ | refine cw_region ?_ | refine ow_nil ?_ | ((first | apply ow_cons | apply qw_cons); · simp only [push_cast, env, Nat.reduceEqDiff, reduceIte, Nat.reduceAdd, Nat.reduceMul, Nat.reduceLeDiff, reduceCtorEq, Nat.reduceSub, Int.reduceToNat] <;> exact rfl) | ((first | apply ow_spec | apply qw_spec); · simp only [push_cast, env, Nat.reduceEqDiff, reduceIte, Nat.reduceAdd, Nat.reduceMul, Nat.reduceLeDiff, reduceCtorEq, Nat.reduceSub, Int.reduceToNat] <;> exact rfl) | refine qw_nil ?_ | refine cw_block ?_ | refine cw_scope ?_ | refine cw_label ?_ | refine cw_skip ?_)
      refine ow_call (fn := Try.f14) (by simp only [push_cast, env, Nat.reduceEqDiff, reduceIte, Nat.reduceAdd, Nat.reduceMul, Nat.reduceLeDiff, reduceCtorEq, Nat.reduceSub, Int.reduceToNat] <;> exact rfl) rfl (by simp only [push_cast, env, Nat.reduceEqDiff, reduceIte, Nat.reduceAdd, Nat.reduceMul, Nat.reduceLeDiff, reduceCtorEq, Nat.reduceSub, Int.reduceToNat] <;> exact rfl) (by simp only [push_cast, env, Nat.reduceEqDiff, reduceIte, Nat.reduceAdd, Nat.reduceMul, Nat.reduceLeDiff, reduceCtorEq, Nat.reduceSub, Int.reduceToNat] <;> exact rfl) Try.func14 (by kernel_rfl) (by kernel_rfl) ?_
      refine alive7_fw.mono ?_
      rintro _ h6 ⟨rfl, rfl⟩
      repeat (first | refine cw_seq ?_ | refine cw_region ?_ | refine ow_nil ?_ | ((first | apply ow_cons | apply qw_cons); · simp only [push_cast, env, Nat.reduceEqDiff, reduceIte, Nat.reduceAdd, Nat.reduceMul, Nat.reduceLeDiff, reduceCtorEq, Nat.reduceSub, Int.reduceToNat, set_zero, dz] <;> exact rfl) | ((first | apply ow_spec | apply qw_spec); · simp only [push_cast, env, Nat.reduceEqDiff, reduceIte, Nat.reduceAdd, Nat.reduceMul, Nat.reduceLeDiff, reduceCtorEq, Nat.reduceSub, Int.reduceToNat, set_zero, dz] <;> exact rfl) | refine qw_nil ?_ | refine cw_block ?_ | refine cw_scope ?_ | refine cw_label ?_ | refine cw_skip ?_)
      refine cw_ret ?_
      exact ⟨_, (by simp only [push_cast, env, Nat.reduceEqDiff, reduceIte, Nat.reduceAdd, Nat.reduceMul, Nat.reduceLeDiff, reduceCtorEq, Nat.reduceSub, Int.reduceToNat] <;> exact rfl), rfl⟩
  have hlt : j < w.length := by omega
  obtain rfl : b = false := by
    cases b with
    | false => rfl
    | true => exact absurd (bg_text (hb.1 rfl)) (by have := hN w.length hlt (Nat.le_refl _); rwa [htw] at this)
  repeat (first | refine cw_seq ?_ | refine cw_region ?_ | refine ow_nil ?_ | ((first | apply ow_cons | apply qw_cons); · simp only [push_cast, env, Nat.reduceEqDiff, reduceIte, Nat.reduceAdd, Nat.reduceMul, Nat.reduceLeDiff, reduceCtorEq, Nat.reduceSub, Int.reduceToNat, d4, d5] <;> exact rfl) | ((first | apply ow_spec | apply qw_spec); · simp only [push_cast, env, Nat.reduceEqDiff, reduceIte, Nat.reduceAdd, Nat.reduceMul, Nat.reduceLeDiff, reduceCtorEq, Nat.reduceSub, Int.reduceToNat, d4, d5] <;> exact rfl) | refine qw_nil ?_ | refine cw_block ?_ | refine cw_scope ?_ | refine cw_label ?_ | refine cw_skip ?_)
  refine cw_condF (by simp only [push_cast, env, Nat.reduceEqDiff, reduceIte, Nat.reduceAdd, Nat.reduceMul, Nat.reduceLeDiff, reduceCtorEq, Nat.reduceSub, Int.reduceToNat] <;> exact rfl) ?_
  repeat (first | refine cw_seq ?_ | refine cw_region ?_ | refine ow_nil ?_ | ((first | apply ow_cons | apply qw_cons); · simp only [push_cast, env, Nat.reduceEqDiff, reduceIte, Nat.reduceAdd, Nat.reduceMul, Nat.reduceLeDiff, reduceCtorEq, Nat.reduceSub, Int.reduceToNat, d6] <;> exact rfl) | ((first | apply ow_spec | apply qw_spec); · simp only [push_cast, env, Nat.reduceEqDiff, reduceIte, Nat.reduceAdd, Nat.reduceMul, Nat.reduceLeDiff, reduceCtorEq, Nat.reduceSub, Int.reduceToNat, d6] <;> exact rfl) | refine qw_nil ?_ | refine cw_block ?_ | refine cw_scope ?_ | refine cw_label ?_ | refine cw_skip ?_)
  refine cw_condF (by simp only [push_cast, env, Nat.reduceEqDiff, reduceIte, Nat.reduceAdd, Nat.reduceMul, Nat.reduceLeDiff, reduceCtorEq, Nat.reduceSub, Int.reduceToNat] <;> exact rfl) ?_
  obtain ⟨vj, hsl, hwj⟩ := rdb_slice (lo := 0) (hi := j) (hwR.mono (hp2.trans hp3)) (Nat.zero_le _) hj
  have hsube : sub w 0 j = w.take j := by unfold sub; rw [List.drop_zero, Nat.sub_zero]
  rw [hsube] at hwj
  obtain ⟨pj, cj, rfl⟩ := hwj.form
  have hlast := last_fw (hr.mono (hp2.trans hp3)) hwj W
  unfold FW at hlast
  obtain ⟨rr, h4, hcall, k4, hp4⟩ := hlast
  obtain ⟨k, m4, rfl, _, hk⟩ := k4.p (fit_less hf0 hltj)
  have hkj : k = ((j : Nat) : Int) := by
    refine hk.eq (.inr ⟨j, by rw [List.length_take]; omega, rfl, by rw [List.take_take, Nat.min_self]; exact hB, fun i h1 h2 => ?_⟩)
    rw [List.length_take] at h2
    omega
  subst hkj
  repeat (first | refine cw_seq ?_ | refine cw_region ?_ | refine ow_nil ?_ | ((first | apply ow_cons | apply qw_cons); · simp only [push_cast, env, Nat.reduceEqDiff, reduceIte, Nat.reduceAdd, Nat.reduceMul, Nat.reduceLeDiff, reduceCtorEq, Nat.reduceSub, Int.reduceToNat] <;> exact rfl) | ((first | apply ow_spec | apply qw_spec); · simp only [push_cast, env, Nat.reduceEqDiff, reduceIte, Nat.reduceAdd, Nat.reduceMul, Nat.reduceLeDiff, reduceCtorEq, Nat.reduceSub, Int.reduceToNat] <;> exact rfl) | refine qw_nil ?_ | refine cw_block ?_ | refine cw_scope ?_ | refine cw_label ?_ | refine cw_skip ?_)
  refine cw_weakL [(1, .val (.slice pw w.length cw)), (2, .val (.slice px x.length cx)), (3, .box [i64 g.nts, i64 g.start, .slice p g.rules.length c]), (7, .val (i64 ((j : Nat) : Int)))] (by simp only [push_cast, SubL, fget, Nat.reduceEqDiff, reduceIte]) ?_
  show CW _ _ ⟨_, [], h3⟩ _
  apply cw_ordA (L := [[], [], [], [1, 2], [0, 1, 2, 3], [0, 1, 2, 3, 4], [0, 1, 2, 3, 4, 5], [0, 1, 2, 3, 4, 5], [0, 1, 2, 3, 4, 5, 6], [0, 1, 2, 3, 4, 5, 7]]) (act := [4]) (hs := [h4]) (resL := [_, _, _, _, _, _, _, _, _, _]) (frF := [(1, .val (.slice pw w.length cw)), (2, .val (.slice px x.length cx)), (3, .box [i64 g.nts, i64 g.start, .slice p g.rules.length c]), (7, .val (i64 ((j : Nat) : Int))), (13, .val (i64 ((j : Nat) : Int)))])
  case hm => exact mixed
  case hc => kernel_rfl
  case ha => rfl
  case hb => rfl
  case hS =>
    repeat (first | exact StepsA.nil _ | (apply StepsA.cons; (· rfl); (· (first | refine ⟨?_, trivial⟩ | refine ⟨?_, ?_, trivial⟩ | refine ⟨?_, ?_, ?_, trivial⟩ | refine ⟨?_, ?_, ?_, ?_, trivial⟩) <;> (first | (apply one_val; (· rfl); (· simp only [push_cast, env, Nat.reduceEqDiff, reduceIte, Nat.reduceAdd, Nat.reduceMul, Nat.reduceLeDiff, reduceCtorEq, Nat.reduceSub, Int.reduceToNat] <;> exact rfl); (· simp only [push_cast, env, Nat.reduceEqDiff, reduceIte, Nat.reduceAdd, Nat.reduceMul, Nat.reduceLeDiff, reduceCtorEq, Nat.reduceSub, Int.reduceToNat] <;> exact rfl)) | (apply one_eph; (· rfl); (· simp only [push_cast, env, Nat.reduceEqDiff, reduceIte, Nat.reduceAdd, Nat.reduceMul, Nat.reduceLeDiff, reduceCtorEq, Nat.reduceSub, Int.reduceToNat] <;> exact rfl); (· rfl); (· simp only [push_cast, env, Nat.reduceEqDiff, reduceIte, Nat.reduceAdd, Nat.reduceMul, Nat.reduceLeDiff, reduceCtorEq, Nat.reduceSub, Int.reduceToNat] <;> exact rfl); (· decide)) | (apply one_bsl; (· rfl); (· simp only [push_cast, env, Nat.reduceEqDiff, reduceIte, Nat.reduceAdd, Nat.reduceMul, Nat.reduceLeDiff, reduceCtorEq, Nat.reduceSub, Int.reduceToNat] <;> exact rfl); (· rfl); (· simp only [push_cast, env, Nat.reduceEqDiff, reduceIte, Nat.reduceAdd, Nat.reduceMul, Nat.reduceLeDiff, reduceCtorEq, Nat.reduceSub, Int.reduceToNat] <;> exact rfl)) | (apply one_box; (· rfl); (· simp only [push_cast, env, Nat.reduceEqDiff, reduceIte, Nat.reduceAdd, Nat.reduceMul, Nat.reduceLeDiff, reduceCtorEq, Nat.reduceSub, Int.reduceToNat] <;> exact rfl); (· rfl); (· simp only [push_cast, env, Nat.reduceEqDiff, reduceIte, Nat.reduceAdd, Nat.reduceMul, Nat.reduceLeDiff, reduceCtorEq, Nat.reduceSub, Int.reduceToNat] <;> exact rfl)) | (apply one_skip; (· rfl); (· simp only [push_cast, env, Nat.reduceEqDiff, reduceIte, Nat.reduceAdd, Nat.reduceMul, Nat.reduceLeDiff, reduceCtorEq, Nat.reduceSub, Int.reduceToNat] <;> exact rfl)))); (· rfl)))
    apply StepsA.cons
    · rfl
    · refine ⟨?_, trivial⟩
      exact one_slice (v := .slice pj (w.take j).length cj) rfl (by simp only [push_cast, env, Nat.reduceEqDiff, reduceIte, Nat.reduceAdd, Nat.reduceMul, Nat.reduceLeDiff, reduceCtorEq, Nat.reduceSub, Int.reduceToNat] <;> exact rfl) rfl (hsl _ _ _ _ rfl (by simp only [push_cast, env, Nat.reduceEqDiff, reduceIte, Nat.reduceAdd, Nat.reduceMul, Nat.reduceLeDiff, reduceCtorEq, Nat.reduceSub, Int.reduceToNat] <;> exact rfl) (by simp only [push_cast, env, Nat.reduceEqDiff, reduceIte, Nat.reduceAdd, Nat.reduceMul, Nat.reduceLeDiff, reduceCtorEq, Nat.reduceSub, Int.reduceToNat] <;> exact rfl) (by simp only [push_cast, env, Nat.reduceEqDiff, reduceIte, Nat.reduceAdd, Nat.reduceMul, Nat.reduceLeDiff, reduceCtorEq, Nat.reduceSub, Int.reduceToNat] <;> exact rfl))
    · rfl
    apply StepsA.cons
    · rfl
    · refine ⟨?_, trivial⟩
      exact one_callE (args := [.agg #[i64 g.nts, i64 g.start, .slice p g.rules.length c], .slice pj (w.take j).length cj]) (cap := []) (fn := Try.f17) (by simp only [push_cast, env, Nat.reduceEqDiff, reduceIte, Nat.reduceAdd, Nat.reduceMul, Nat.reduceLeDiff, reduceCtorEq, Nat.reduceSub, Int.reduceToNat] <;> exact rfl) rfl (by simp only [push_cast, env, Nat.reduceEqDiff, reduceIte, Nat.reduceAdd, Nat.reduceMul, Nat.reduceLeDiff, reduceCtorEq, Nat.reduceSub, Int.reduceToNat] <;> exact rfl) (by simp only [push_cast, env, Nat.reduceEqDiff, reduceIte, Nat.reduceAdd, Nat.reduceMul, Nat.reduceLeDiff, reduceCtorEq, Nat.reduceSub, Int.reduceToNat] <;> exact rfl) Try.func17 (by kernel_rfl) (by kernel_rfl) hcall
    · rfl
    repeat (first | exact StepsA.nil _ | (apply StepsA.cons; (· rfl); (· (first | refine ⟨?_, trivial⟩ | refine ⟨?_, ?_, trivial⟩ | refine ⟨?_, ?_, ?_, trivial⟩ | refine ⟨?_, ?_, ?_, ?_, trivial⟩) <;> (first | (apply one_val; (· rfl); (· simp only [push_cast, env, Nat.reduceEqDiff, reduceIte, Nat.reduceAdd, Nat.reduceMul, Nat.reduceLeDiff, reduceCtorEq, Nat.reduceSub, Int.reduceToNat] <;> exact rfl); (· simp only [push_cast, env, Nat.reduceEqDiff, reduceIte, Nat.reduceAdd, Nat.reduceMul, Nat.reduceLeDiff, reduceCtorEq, Nat.reduceSub, Int.reduceToNat] <;> exact rfl)) | (apply one_eph; (· rfl); (· simp only [push_cast, env, Nat.reduceEqDiff, reduceIte, Nat.reduceAdd, Nat.reduceMul, Nat.reduceLeDiff, reduceCtorEq, Nat.reduceSub, Int.reduceToNat] <;> exact rfl); (· rfl); (· simp only [push_cast, env, Nat.reduceEqDiff, reduceIte, Nat.reduceAdd, Nat.reduceMul, Nat.reduceLeDiff, reduceCtorEq, Nat.reduceSub, Int.reduceToNat] <;> exact rfl); (· decide)) | (apply one_bsl; (· rfl); (· simp only [push_cast, env, Nat.reduceEqDiff, reduceIte, Nat.reduceAdd, Nat.reduceMul, Nat.reduceLeDiff, reduceCtorEq, Nat.reduceSub, Int.reduceToNat] <;> exact rfl); (· rfl); (· simp only [push_cast, env, Nat.reduceEqDiff, reduceIte, Nat.reduceAdd, Nat.reduceMul, Nat.reduceLeDiff, reduceCtorEq, Nat.reduceSub, Int.reduceToNat] <;> exact rfl)) | (apply one_box; (· rfl); (· simp only [push_cast, env, Nat.reduceEqDiff, reduceIte, Nat.reduceAdd, Nat.reduceMul, Nat.reduceLeDiff, reduceCtorEq, Nat.reduceSub, Int.reduceToNat] <;> exact rfl); (· rfl); (· simp only [push_cast, env, Nat.reduceEqDiff, reduceIte, Nat.reduceAdd, Nat.reduceMul, Nat.reduceLeDiff, reduceCtorEq, Nat.reduceSub, Int.reduceToNat] <;> exact rfl)) | (apply one_skip; (· rfl); (· simp only [push_cast, env, Nat.reduceEqDiff, reduceIte, Nat.reduceAdd, Nat.reduceMul, Nat.reduceLeDiff, reduceCtorEq, Nat.reduceSub, Int.reduceToNat] <;> exact rfl)))); (· rfl)))
  case ht => rfl
  case hF => repeat (first | exact trivial | (refine ⟨.inl ⟨by decide, rfl⟩, ?_⟩) | (refine ⟨.inr ⟨rfl, by simp⟩, ?_⟩))
  show CW _ _ _ _
  repeat (first | refine cw_seq ?_ | refine cw_region ?_ | refine ow_nil ?_ | ((first | apply ow_cons | apply qw_cons); · simp only [push_cast, env, Nat.reduceEqDiff, reduceIte, Nat.reduceAdd, Nat.reduceMul, Nat.reduceLeDiff, reduceCtorEq, Nat.reduceSub, Int.reduceToNat] <;> exact rfl) | ((first | apply ow_spec | apply qw_spec); · simp only [push_cast, env, Nat.reduceEqDiff, reduceIte, Nat.reduceAdd, Nat.reduceMul, Nat.reduceLeDiff, reduceCtorEq, Nat.reduceSub, Int.reduceToNat] <;> exact rfl) | refine qw_nil ?_ | refine cw_block ?_ | refine cw_scope ?_ | refine cw_label ?_ | refine cw_skip ?_)
  refine cw_condF (by simp only [push_cast, env, Nat.reduceEqDiff, reduceIte, Nat.reduceAdd, Nat.reduceMul, Nat.reduceLeDiff, reduceCtorEq, Nat.reduceSub, Int.reduceToNat] <;> exact rfl) ?_
  obtain ⟨vj2, hsl2, hwj2⟩ := rdb_slice (lo := 0) (hi := j) (hwR.mono (hp2.trans (hp3.trans hp4))) (Nat.zero_le _) hj
  rw [hsube] at hwj2
  obtain ⟨pj2, cj2, rfl⟩ := hwj2.form
  have hnext := next_fw (hr.mono (hp2.trans (hp3.trans hp4))) hwj2 W
  unfold FW at hnext
  obtain ⟨rr2, h5, hcall2, k5, hp5⟩ := hnext
  obtain ⟨s, rfl, hsw, hs⟩ := k5.p (fit_less hf0 hltj)
  repeat (first | refine cw_seq ?_ | refine cw_region ?_ | refine ow_nil ?_ | ((first | apply ow_cons | apply qw_cons); · simp only [push_cast, env, Nat.reduceEqDiff, reduceIte, Nat.reduceAdd, Nat.reduceMul, Nat.reduceLeDiff, reduceCtorEq, Nat.reduceSub, Int.reduceToNat] <;> exact rfl) | ((first | apply ow_spec | apply qw_spec); · simp only [push_cast, env, Nat.reduceEqDiff, reduceIte, Nat.reduceAdd, Nat.reduceMul, Nat.reduceLeDiff, reduceCtorEq, Nat.reduceSub, Int.reduceToNat] <;> exact rfl) | refine qw_nil ?_ | refine cw_block ?_ | refine cw_scope ?_ | refine cw_label ?_ | refine cw_skip ?_)
  refine cw_weakL [(1, .val (.slice pw w.length cw)), (2, .val (.slice px x.length cx)), (3, .box [i64 g.nts, i64 g.start, .slice p g.rules.length c]), (7, .val (i64 ((j : Nat) : Int)))] (by simp only [push_cast, SubL, fget, Nat.reduceEqDiff, reduceIte]) ?_
  show CW _ _ ⟨_, [], h4⟩ _
  apply cw_ordS (L := [[], [], [], [1, 2], [0, 1, 2, 3], [0, 1, 2, 3, 4], [0, 1, 2, 3, 4, 5], [0, 1, 2, 3, 4, 5], [], [0, 1, 2, 3, 4, 5, 6, 8], [0, 1, 2, 3, 4, 5, 7]]) (act := [4]) (hs := [h5]) (resL := [_, _, _, _, _, _, _, _, _, .sl .unk, _]) (frF := [(1, .val (.slice pw w.length cw)), (2, .val (.slice px x.length cx)), (3, .box [i64 g.nts, i64 g.start, .slice p g.rules.length c]), (7, .val (i64 ((j : Nat) : Int))), (15, .box [u64 s.a, u64 s.b, u64 s.c, u64 s.d])]) (a := 8) (st := 9) (d := 15) (cs' := [u64 s.a, u64 s.b, u64 s.c, u64 s.d])
  case hm => exact mixed
  case hc => kernel_rfl
  case ha => rfl
  case hb => rfl
  case hfree => rfl
  case hna => rfl
  case hanc => rfl
  case ho => rfl
  case hop => rfl
  case hod => rfl
  case hda => rfl
  case hS1 =>
    repeat (first | exact StepsA.nil _ | (apply StepsA.cons; (· rfl); (· (first | refine ⟨?_, trivial⟩ | refine ⟨?_, ?_, trivial⟩ | refine ⟨?_, ?_, ?_, trivial⟩ | refine ⟨?_, ?_, ?_, ?_, trivial⟩) <;> (first | (apply one_val; (· rfl); (· simp only [push_cast, env, Nat.reduceEqDiff, reduceIte, Nat.reduceAdd, Nat.reduceMul, Nat.reduceLeDiff, reduceCtorEq, Nat.reduceSub, Int.reduceToNat] <;> exact rfl); (· simp only [push_cast, env, Nat.reduceEqDiff, reduceIte, Nat.reduceAdd, Nat.reduceMul, Nat.reduceLeDiff, reduceCtorEq, Nat.reduceSub, Int.reduceToNat] <;> exact rfl)) | (apply one_eph; (· rfl); (· simp only [push_cast, env, Nat.reduceEqDiff, reduceIte, Nat.reduceAdd, Nat.reduceMul, Nat.reduceLeDiff, reduceCtorEq, Nat.reduceSub, Int.reduceToNat] <;> exact rfl); (· rfl); (· simp only [push_cast, env, Nat.reduceEqDiff, reduceIte, Nat.reduceAdd, Nat.reduceMul, Nat.reduceLeDiff, reduceCtorEq, Nat.reduceSub, Int.reduceToNat] <;> exact rfl); (· decide)) | (apply one_bsl; (· rfl); (· simp only [push_cast, env, Nat.reduceEqDiff, reduceIte, Nat.reduceAdd, Nat.reduceMul, Nat.reduceLeDiff, reduceCtorEq, Nat.reduceSub, Int.reduceToNat] <;> exact rfl); (· rfl); (· simp only [push_cast, env, Nat.reduceEqDiff, reduceIte, Nat.reduceAdd, Nat.reduceMul, Nat.reduceLeDiff, reduceCtorEq, Nat.reduceSub, Int.reduceToNat] <;> exact rfl)) | (apply one_box; (· rfl); (· simp only [push_cast, env, Nat.reduceEqDiff, reduceIte, Nat.reduceAdd, Nat.reduceMul, Nat.reduceLeDiff, reduceCtorEq, Nat.reduceSub, Int.reduceToNat] <;> exact rfl); (· rfl); (· simp only [push_cast, env, Nat.reduceEqDiff, reduceIte, Nat.reduceAdd, Nat.reduceMul, Nat.reduceLeDiff, reduceCtorEq, Nat.reduceSub, Int.reduceToNat] <;> exact rfl)) | (apply one_skip; (· rfl); (· simp only [push_cast, env, Nat.reduceEqDiff, reduceIte, Nat.reduceAdd, Nat.reduceMul, Nat.reduceLeDiff, reduceCtorEq, Nat.reduceSub, Int.reduceToNat] <;> exact rfl)))); (· rfl)))
    apply StepsA.cons
    · rfl
    · refine ⟨?_, trivial⟩
      exact one_slice (v := .slice pj2 (w.take j).length cj2) rfl (by simp only [push_cast, env, Nat.reduceEqDiff, reduceIte, Nat.reduceAdd, Nat.reduceMul, Nat.reduceLeDiff, reduceCtorEq, Nat.reduceSub, Int.reduceToNat] <;> exact rfl) rfl (hsl2 _ _ _ _ rfl (by simp only [push_cast, env, Nat.reduceEqDiff, reduceIte, Nat.reduceAdd, Nat.reduceMul, Nat.reduceLeDiff, reduceCtorEq, Nat.reduceSub, Int.reduceToNat] <;> exact rfl) (by simp only [push_cast, env, Nat.reduceEqDiff, reduceIte, Nat.reduceAdd, Nat.reduceMul, Nat.reduceLeDiff, reduceCtorEq, Nat.reduceSub, Int.reduceToNat] <;> exact rfl) (by simp only [push_cast, env, Nat.reduceEqDiff, reduceIte, Nat.reduceAdd, Nat.reduceMul, Nat.reduceLeDiff, reduceCtorEq, Nat.reduceSub, Int.reduceToNat] <;> exact rfl))
    · rfl
    apply StepsA.cons
    · rfl
    · refine ⟨?_, trivial⟩
      exact one_callE (args := [.agg #[i64 g.nts, i64 g.start, .slice p g.rules.length c], .slice pj2 (w.take j).length cj2]) (cap := []) (fn := Try.f29) (by simp only [push_cast, env, Nat.reduceEqDiff, reduceIte, Nat.reduceAdd, Nat.reduceMul, Nat.reduceLeDiff, reduceCtorEq, Nat.reduceSub, Int.reduceToNat] <;> exact rfl) rfl (by simp only [push_cast, env, Nat.reduceEqDiff, reduceIte, Nat.reduceAdd, Nat.reduceMul, Nat.reduceLeDiff, reduceCtorEq, Nat.reduceSub, Int.reduceToNat] <;> exact rfl) (by simp only [push_cast, env, Nat.reduceEqDiff, reduceIte, Nat.reduceAdd, Nat.reduceMul, Nat.reduceLeDiff, reduceCtorEq, Nat.reduceSub, Int.reduceToNat] <;> exact rfl) Try.func29 (by kernel_rfl) (by kernel_rfl) hcall2
    · rfl
    repeat (first | exact StepsA.nil _ | (apply StepsA.cons; (· rfl); (· (first | refine ⟨?_, trivial⟩ | refine ⟨?_, ?_, trivial⟩ | refine ⟨?_, ?_, ?_, trivial⟩ | refine ⟨?_, ?_, ?_, ?_, trivial⟩) <;> (first | (apply one_val; (· rfl); (· simp only [push_cast, env, Nat.reduceEqDiff, reduceIte, Nat.reduceAdd, Nat.reduceMul, Nat.reduceLeDiff, reduceCtorEq, Nat.reduceSub, Int.reduceToNat] <;> exact rfl); (· simp only [push_cast, env, Nat.reduceEqDiff, reduceIte, Nat.reduceAdd, Nat.reduceMul, Nat.reduceLeDiff, reduceCtorEq, Nat.reduceSub, Int.reduceToNat] <;> exact rfl)) | (apply one_eph; (· rfl); (· simp only [push_cast, env, Nat.reduceEqDiff, reduceIte, Nat.reduceAdd, Nat.reduceMul, Nat.reduceLeDiff, reduceCtorEq, Nat.reduceSub, Int.reduceToNat] <;> exact rfl); (· rfl); (· simp only [push_cast, env, Nat.reduceEqDiff, reduceIte, Nat.reduceAdd, Nat.reduceMul, Nat.reduceLeDiff, reduceCtorEq, Nat.reduceSub, Int.reduceToNat] <;> exact rfl); (· decide)) | (apply one_bsl; (· rfl); (· simp only [push_cast, env, Nat.reduceEqDiff, reduceIte, Nat.reduceAdd, Nat.reduceMul, Nat.reduceLeDiff, reduceCtorEq, Nat.reduceSub, Int.reduceToNat] <;> exact rfl); (· rfl); (· simp only [push_cast, env, Nat.reduceEqDiff, reduceIte, Nat.reduceAdd, Nat.reduceMul, Nat.reduceLeDiff, reduceCtorEq, Nat.reduceSub, Int.reduceToNat] <;> exact rfl)) | (apply one_box; (· rfl); (· simp only [push_cast, env, Nat.reduceEqDiff, reduceIte, Nat.reduceAdd, Nat.reduceMul, Nat.reduceLeDiff, reduceCtorEq, Nat.reduceSub, Int.reduceToNat] <;> exact rfl); (· rfl); (· simp only [push_cast, env, Nat.reduceEqDiff, reduceIte, Nat.reduceAdd, Nat.reduceMul, Nat.reduceLeDiff, reduceCtorEq, Nat.reduceSub, Int.reduceToNat] <;> exact rfl)) | (apply one_skip; (· rfl); (· simp only [push_cast, env, Nat.reduceEqDiff, reduceIte, Nat.reduceAdd, Nat.reduceMul, Nat.reduceLeDiff, reduceCtorEq, Nat.reduceSub, Int.reduceToNat] <;> exact rfl)))); (· rfl)))
  case hS2 => repeat (first | exact StepsA.nil _ | (apply StepsA.cons; (· rfl); (· (first | refine ⟨?_, trivial⟩ | refine ⟨?_, ?_, trivial⟩ | refine ⟨?_, ?_, ?_, trivial⟩ | refine ⟨?_, ?_, ?_, ?_, trivial⟩) <;> (first | (apply one_val; (· rfl); (· simp only [push_cast, env, Nat.reduceEqDiff, reduceIte, Nat.reduceAdd, Nat.reduceMul, Nat.reduceLeDiff, reduceCtorEq, Nat.reduceSub, Int.reduceToNat] <;> exact rfl); (· simp only [push_cast, env, Nat.reduceEqDiff, reduceIte, Nat.reduceAdd, Nat.reduceMul, Nat.reduceLeDiff, reduceCtorEq, Nat.reduceSub, Int.reduceToNat] <;> exact rfl)) | (apply one_eph; (· rfl); (· simp only [push_cast, env, Nat.reduceEqDiff, reduceIte, Nat.reduceAdd, Nat.reduceMul, Nat.reduceLeDiff, reduceCtorEq, Nat.reduceSub, Int.reduceToNat] <;> exact rfl); (· rfl); (· simp only [push_cast, env, Nat.reduceEqDiff, reduceIte, Nat.reduceAdd, Nat.reduceMul, Nat.reduceLeDiff, reduceCtorEq, Nat.reduceSub, Int.reduceToNat] <;> exact rfl); (· decide)) | (apply one_bsl; (· rfl); (· simp only [push_cast, env, Nat.reduceEqDiff, reduceIte, Nat.reduceAdd, Nat.reduceMul, Nat.reduceLeDiff, reduceCtorEq, Nat.reduceSub, Int.reduceToNat] <;> exact rfl); (· rfl); (· simp only [push_cast, env, Nat.reduceEqDiff, reduceIte, Nat.reduceAdd, Nat.reduceMul, Nat.reduceLeDiff, reduceCtorEq, Nat.reduceSub, Int.reduceToNat] <;> exact rfl)) | (apply one_box; (· rfl); (· simp only [push_cast, env, Nat.reduceEqDiff, reduceIte, Nat.reduceAdd, Nat.reduceMul, Nat.reduceLeDiff, reduceCtorEq, Nat.reduceSub, Int.reduceToNat] <;> exact rfl); (· rfl); (· simp only [push_cast, env, Nat.reduceEqDiff, reduceIte, Nat.reduceAdd, Nat.reduceMul, Nat.reduceLeDiff, reduceCtorEq, Nat.reduceSub, Int.reduceToNat] <;> exact rfl)) | (apply one_skip; (· rfl); (· simp only [push_cast, env, Nat.reduceEqDiff, reduceIte, Nat.reduceAdd, Nat.reduceMul, Nat.reduceLeDiff, reduceCtorEq, Nat.reduceSub, Int.reduceToNat] <;> exact rfl)))); (· rfl)))
  case hra => rfl
  case hti => exact ti41
  case hw => intro H; exact (by simp only [push_cast, env, Nat.reduceEqDiff, reduceIte, Nat.reduceAdd, Nat.reduceMul, Nat.reduceLeDiff, reduceCtorEq, Nat.reduceSub, Int.reduceToNat] <;> exact rfl)
  case hp => intro H; exact (by simp only [push_cast, env, Nat.reduceEqDiff, reduceIte, Nat.reduceAdd, Nat.reduceMul, Nat.reduceLeDiff, reduceCtorEq, Nat.reduceSub, Int.reduceToNat, plc, eget] <;> exact rfl)
  case hbx => intro H; exact (by simp only [push_cast, env, Nat.reduceEqDiff, reduceIte, Nat.reduceAdd, Nat.reduceMul, Nat.reduceLeDiff, reduceCtorEq, Nat.reduceSub, Int.reduceToNat] <;> exact rfl)
  case hv => intro H; exact (by simp only [push_cast, env, Nat.reduceEqDiff, reduceIte, Nat.reduceAdd, Nat.reduceMul, Nat.reduceLeDiff, reduceCtorEq, Nat.reduceSub, Int.reduceToNat] <;> exact rfl)
  case hvs => rfl
  case hwr => rfl
  case ht => rfl
  case hF => repeat (first | exact trivial | (refine ⟨.inl ⟨by decide, rfl⟩, ?_⟩) | (refine ⟨.inr ⟨rfl, by simp⟩, ?_⟩))
  show CW _ _ _ _
  have d7 : decide ((j : Int) = (w.length : Int)) = false := decide_eq_false (by omega)
  have e8 : IntKind.i64.wrap ((j : Int) + 1) = (j : Int) + 1 := wrap64_id (by omega) (by omega)
  repeat (first | refine cw_seq ?_ | refine cw_region ?_ | refine ow_nil ?_ | ((first | apply ow_cons | apply qw_cons); · simp only [push_cast, env, Nat.reduceEqDiff, reduceIte, Nat.reduceAdd, Nat.reduceMul, Nat.reduceLeDiff, reduceCtorEq, Nat.reduceSub, Int.reduceToNat, d7] <;> exact rfl) | ((first | apply ow_spec | apply qw_spec); · simp only [push_cast, env, Nat.reduceEqDiff, reduceIte, Nat.reduceAdd, Nat.reduceMul, Nat.reduceLeDiff, reduceCtorEq, Nat.reduceSub, Int.reduceToNat, d7] <;> exact rfl) | refine qw_nil ?_ | refine cw_block ?_ | refine cw_scope ?_ | refine cw_label ?_ | refine cw_skip ?_)
  refine cw_condF (by simp only [push_cast, env, Nat.reduceEqDiff, reduceIte, Nat.reduceAdd, Nat.reduceMul, Nat.reduceLeDiff, reduceCtorEq, Nat.reduceSub, Int.reduceToNat] <;> exact rfl) ?_
  have hpp := hp2.trans (hp3.trans (hp4.trans hp5))
  obtain ⟨vk, hsl3, hwk⟩ := rdb_slice (lo := 0) (hi := j + 1) (hwR.mono hpp) (Nat.zero_le _) hlt
  have hsubk : sub w 0 (j + 1) = w.take (j + 1) := by unfold sub; rw [List.drop_zero, Nat.sub_zero]
  rw [hsubk] at hwk
  obtain ⟨pk, ck, rfl⟩ := hwk.form
  repeat (first | refine cw_seq ?_ | refine cw_region ?_ | refine ow_nil ?_ | ((first | apply ow_cons | apply qw_cons); · simp only [push_cast, env, Nat.reduceEqDiff, reduceIte, Nat.reduceAdd, Nat.reduceMul, Nat.reduceLeDiff, reduceCtorEq, Nat.reduceSub, Int.reduceToNat, e8] <;> exact rfl) | ((first | apply ow_spec | apply qw_spec); · simp only [push_cast, env, Nat.reduceEqDiff, reduceIte, Nat.reduceAdd, Nat.reduceMul, Nat.reduceLeDiff, reduceCtorEq, Nat.reduceSub, Int.reduceToNat, e8] <;> exact rfl) | refine qw_nil ?_ | refine cw_block ?_ | refine cw_scope ?_ | refine cw_label ?_ | refine cw_skip ?_)
  refine ow_slice (v := .slice pk (w.take (j + 1)).length ck) (by simp only [push_cast, env, Nat.reduceEqDiff, reduceIte, Nat.reduceAdd, Nat.reduceMul, Nat.reduceLeDiff, reduceCtorEq, Nat.reduceSub, Int.reduceToNat] <;> exact rfl) rfl (hsl3 _ _ _ _ rfl (by simp only [push_cast, env, Nat.reduceEqDiff, reduceIte, Nat.reduceAdd, Nat.reduceMul, Nat.reduceLeDiff, reduceCtorEq, Nat.reduceSub, Int.reduceToNat] <;> exact rfl) (by simp only [push_cast, env, Nat.reduceEqDiff, reduceIte, Nat.reduceAdd, Nat.reduceMul, Nat.reduceLeDiff, reduceCtorEq, Nat.reduceSub, Int.reduceToNat] <;> exact rfl) (by simp only [push_cast, env, Nat.reduceEqDiff, reduceIte, Nat.reduceAdd, Nat.reduceMul, Nat.reduceLeDiff, reduceCtorEq, Nat.reduceSub, Int.reduceToNat] <;> exact rfl)) ?_
  have lk : (w.take (j + 1)).length = j + 1 := by rw [List.length_take]; omega
  repeat (first | refine cw_seq ?_ | refine cw_region ?_ | refine ow_nil ?_ | ((first | apply ow_cons | apply qw_cons); · simp only [push_cast, env, Nat.reduceEqDiff, reduceIte, Nat.reduceAdd, Nat.reduceMul, Nat.reduceLeDiff, reduceCtorEq, Nat.reduceSub, Int.reduceToNat] <;> exact rfl) | ((first | apply ow_spec | apply qw_spec); · simp only [push_cast, env, Nat.reduceEqDiff, reduceIte, Nat.reduceAdd, Nat.reduceMul, Nat.reduceLeDiff, reduceCtorEq, Nat.reduceSub, Int.reduceToNat] <;> exact rfl) | refine qw_nil ?_ | refine cw_block ?_ | refine cw_scope ?_ | refine cw_label ?_ | refine cw_skip ?_)
  refine ow_appB (h := h5) GB.nil (List.prefix_refl _) hwk (by rw [lk]; simp only [List.length_nil]; omega) (by simp only [push_cast, env, Nat.reduceEqDiff, reduceIte, Nat.reduceAdd, Nat.reduceMul, Nat.reduceLeDiff, reduceCtorEq, Nat.reduceSub, Int.reduceToNat] <;> exact rfl) rfl (by simp only [push_cast, env, Nat.reduceEqDiff, reduceIte, Nat.reduceAdd, Nat.reduceMul, Nat.reduceLeDiff, reduceCtorEq, Nat.reduceSub, Int.reduceToNat] <;> exact rfl) (by simp only [push_cast, env, Nat.reduceEqDiff, reduceIte, Nat.reduceAdd, Nat.reduceMul, Nat.reduceLeDiff, reduceCtorEq, Nat.reduceSub, Int.reduceToNat] <;> exact rfl) ?_
  intro y1 h6 hp6 hy1
  rw [List.nil_append] at hy1
  repeat (first | refine cw_seq ?_ | refine cw_region ?_ | refine ow_nil ?_ | ((first | apply ow_cons | apply qw_cons); · simp only [push_cast, env, Nat.reduceEqDiff, reduceIte, Nat.reduceAdd, Nat.reduceMul, Nat.reduceLeDiff, reduceCtorEq, Nat.reduceSub, Int.reduceToNat] <;> exact rfl) | ((first | apply ow_spec | apply qw_spec); · simp only [push_cast, env, Nat.reduceEqDiff, reduceIte, Nat.reduceAdd, Nat.reduceMul, Nat.reduceLeDiff, reduceCtorEq, Nat.reduceSub, Int.reduceToNat] <;> exact rfl) | refine qw_nil ?_ | refine cw_block ?_ | refine cw_scope ?_ | refine cw_label ?_ | refine cw_skip ?_)
  refine ow_appB (h := h5) hy1 hp6 ((hxR.mono hpp).mono hp6) (by rw [lk]; omega) (by simp only [push_cast, env, Nat.reduceEqDiff, reduceIte, Nat.reduceAdd, Nat.reduceMul, Nat.reduceLeDiff, reduceCtorEq, Nat.reduceSub, Int.reduceToNat] <;> exact rfl) rfl (by simp only [push_cast, env, Nat.reduceEqDiff, reduceIte, Nat.reduceAdd, Nat.reduceMul, Nat.reduceLeDiff, reduceCtorEq, Nat.reduceSub, Int.reduceToNat] <;> exact rfl) (by simp only [push_cast, env, Nat.reduceEqDiff, reduceIte, Nat.reduceAdd, Nat.reduceMul, Nat.reduceLeDiff, reduceCtorEq, Nat.reduceSub, Int.reduceToNat] <;> exact rfl) ?_
  intro y2 h7 hp7 hy2
  repeat (first | refine cw_seq ?_ | refine cw_region ?_ | refine ow_nil ?_ | ((first | apply ow_cons | apply qw_cons); · simp only [push_cast, env, Nat.reduceEqDiff, reduceIte, Nat.reduceAdd, Nat.reduceMul, Nat.reduceLeDiff, reduceCtorEq, Nat.reduceSub, Int.reduceToNat] <;> exact rfl) | ((first | apply ow_spec | apply qw_spec); · simp only [push_cast, env, Nat.reduceEqDiff, reduceIte, Nat.reduceAdd, Nat.reduceMul, Nat.reduceLeDiff, reduceCtorEq, Nat.reduceSub, Int.reduceToNat] <;> exact rfl) | refine qw_nil ?_ | refine cw_block ?_ | refine cw_scope ?_ | refine cw_label ?_ | refine cw_skip ?_)
  refine ow_call (fn := Try.f17) (by simp only [push_cast, env, Nat.reduceEqDiff, reduceIte, Nat.reduceAdd, Nat.reduceMul, Nat.reduceLeDiff, reduceCtorEq, Nat.reduceSub, Int.reduceToNat] <;> exact rfl) rfl (by simp only [push_cast, env, Nat.reduceEqDiff, reduceIte, Nat.reduceAdd, Nat.reduceMul, Nat.reduceLeDiff, reduceCtorEq, Nat.reduceSub, Int.reduceToNat] <;> exact rfl) (by simp only [push_cast, env, Nat.reduceEqDiff, reduceIte, Nat.reduceAdd, Nat.reduceMul, Nat.reduceLeDiff, reduceCtorEq, Nat.reduceSub, Int.reduceToNat] <;> exact rfl) Try.func17 (by kernel_rfl) (by kernel_rfl) ?_
  rw [List.append_nil]
  refine (last_fw (hr.mono (hpp.trans hp7)) hy2.rdb W).mono ?_
  rintro _ h8 ⟨k8, hp8⟩
  obtain ⟨k, m8, rfl, _, hk8⟩ := k8.p (fit_less hf0 (by rw [List.length_append, lk]; omega))
  have hk8j : k = ((j : Nat) : Int) := by
    refine hk8.eq (.inr ⟨j, by rw [List.length_append, lk]; omega, rfl, ?_, fun i h1 h2 hbi => ?_⟩)
    · rw [List.take_append_of_le_length (by rw [lk]; omega), List.take_take, Nat.min_eq_left (by omega)]
      exact hB
    · have := hbi.less R hm (j := j + 1) (by rw [List.length_take]; omega)
      rw [List.take_take, Nat.min_eq_left (by omega), List.take_append_of_le_length (by rw [lk]; omega), List.take_take, Nat.min_self] at this
      exact hN (j + 1) (by omega) (by omega) this
  subst hk8j
  obtain ⟨idw, offw, verw, ownw, cw', cellsw, hvw, hidw, hgw, hbw⟩ := ((hwR.mono (hpp.trans hp7)).mono hp8).at (i := j) hlt
  cases hvw
  have e9 := rng (k := j) (n := w.length) hlt
  have hnh : s.has w[j] = false := by
    rw [Bool.eq_false_iff]
    intro hh
    have := (hs w[j] hbw).1 hh
    have e : w.take j ++ [w[j]] = w.take (j + 1) := by rw [List.take_succ_eq_append_getElem hlt]
    rw [e] at this
    exact hN (j + 1) (by omega) (by omega) this
  repeat (first | refine cw_seq ?_ | refine cw_region ?_ | refine ow_nil ?_ | ((first | apply ow_cons | apply qw_cons); · simp only [push_cast, env, Nat.reduceEqDiff, reduceIte, Nat.reduceAdd, Nat.reduceMul, Nat.reduceLeDiff, reduceCtorEq, Nat.reduceSub, Int.reduceToNat] <;> exact rfl) | ((first | apply ow_spec | apply qw_spec); · simp only [push_cast, env, Nat.reduceEqDiff, reduceIte, Nat.reduceAdd, Nat.reduceMul, Nat.reduceLeDiff, reduceCtorEq, Nat.reduceSub, Int.reduceToNat] <;> exact rfl) | refine qw_nil ?_ | refine cw_block ?_ | refine cw_scope ?_ | refine cw_label ?_ | refine cw_skip ?_)
  refine cw_weakL [(1, .val (.slice (some ⟨idw, offw, some verw⟩) w.length cw)), (7, .val (i64 j)), (15, .box [u64 s.a, u64 s.b, u64 s.c, u64 s.d]), (20, .val (i64 j))] (by simp only [push_cast, SubL, fget, Nat.reduceEqDiff, reduceIte]) ?_
  show CW _ _ ⟨_, [], h8⟩ _
  apply cw_ord0 (L := [[], [0], [1], [1], [1, 2, 3], [1, 4], [5], [6], [6], [6], [6, 8, 9], [6, 10], [6, 7, 11], [6, 12], [6, 13], [14]]) (resL := [_, _, _, _, _, _, _, _, _, _, _, _, _, _, _, _]) (frF := [(6, .val (.bool true))])
  case hm => exact mixed
  case hc => kernel_rfl
  case hb => rfl
  case hS =>
    apply Steps0.cons; · refine one_call (fn := Try.f14) rfl (by simp only [push_cast, env, Nat.reduceEqDiff, reduceIte, Nat.reduceAdd, Nat.reduceMul, Nat.reduceLeDiff, reduceCtorEq, Nat.reduceSub, Int.reduceToNat] <;> exact rfl) rfl (by simp only [push_cast, env, Nat.reduceEqDiff, reduceIte, Nat.reduceAdd, Nat.reduceMul, Nat.reduceLeDiff, reduceCtorEq, Nat.reduceSub, Int.reduceToNat] <;> exact rfl) (by simp only [push_cast, env, Nat.reduceEqDiff, reduceIte, Nat.reduceAdd, Nat.reduceMul, Nat.reduceLeDiff, reduceCtorEq, Nat.reduceSub, Int.reduceToNat] <;> exact rfl) Try.func14 (by kernel_rfl) (by kernel_rfl) (alive7_fw)
    · rfl
    repeat (first | exact Steps0.nil _ | (apply Steps0.cons; (· first | (apply one_val; (· rfl); (· simp only [push_cast, env, Nat.reduceEqDiff, reduceIte, Nat.reduceAdd, Nat.reduceMul, Nat.reduceLeDiff, reduceCtorEq, Nat.reduceSub, Int.reduceToNat, hidw, hgw, e9, Nat.mul_one] <;> exact rfl); (· simp only [push_cast, env, Nat.reduceEqDiff, reduceIte, Nat.reduceAdd, Nat.reduceMul, Nat.reduceLeDiff, reduceCtorEq, Nat.reduceSub, Int.reduceToNat, hidw, hgw, e9, Nat.mul_one] <;> exact rfl)) | (apply one_eph; (· rfl); (· simp only [push_cast, env, Nat.reduceEqDiff, reduceIte, Nat.reduceAdd, Nat.reduceMul, Nat.reduceLeDiff, reduceCtorEq, Nat.reduceSub, Int.reduceToNat, hidw, hgw, e9, Nat.mul_one] <;> exact rfl); (· rfl); (· simp only [push_cast, env, Nat.reduceEqDiff, reduceIte, Nat.reduceAdd, Nat.reduceMul, Nat.reduceLeDiff, reduceCtorEq, Nat.reduceSub, Int.reduceToNat, hidw, hgw, e9, Nat.mul_one] <;> exact rfl); (· decide)) | (apply one_skip; (· rfl); (· simp only [push_cast, env, Nat.reduceEqDiff, reduceIte, Nat.reduceAdd, Nat.reduceMul, Nat.reduceLeDiff, reduceCtorEq, Nat.reduceSub, Int.reduceToNat, hidw, hgw, e9, Nat.mul_one] <;> exact rfl))); (· rfl)))
    apply Steps0.cons; · refine one_call (fn := Try.f33) rfl (by simp only [push_cast, env, Nat.reduceEqDiff, reduceIte, Nat.reduceAdd, Nat.reduceMul, Nat.reduceLeDiff, reduceCtorEq, Nat.reduceSub, Int.reduceToNat] <;> exact rfl) rfl (by simp only [push_cast, env, Nat.reduceEqDiff, reduceIte, Nat.reduceAdd, Nat.reduceMul, Nat.reduceLeDiff, reduceCtorEq, Nat.reduceSub, Int.reduceToNat] <;> exact rfl) (by simp only [push_cast, env, Nat.reduceEqDiff, reduceIte, Nat.reduceAdd, Nat.reduceMul, Nat.reduceLeDiff, reduceCtorEq, Nat.reduceSub, Int.reduceToNat] <;> exact rfl) Try.func33 (by kernel_rfl) (by kernel_rfl) (chas_fw hsw hbw)
    · rfl
    repeat (first | exact Steps0.nil _ | (apply Steps0.cons; (· first | (apply one_val; (· rfl); (· simp only [push_cast, env, Nat.reduceEqDiff, reduceIte, Nat.reduceAdd, Nat.reduceMul, Nat.reduceLeDiff, reduceCtorEq, Nat.reduceSub, Int.reduceToNat, hnh] <;> exact rfl); (· simp only [push_cast, env, Nat.reduceEqDiff, reduceIte, Nat.reduceAdd, Nat.reduceMul, Nat.reduceLeDiff, reduceCtorEq, Nat.reduceSub, Int.reduceToNat, hnh] <;> exact rfl)) | (apply one_eph; (· rfl); (· simp only [push_cast, env, Nat.reduceEqDiff, reduceIte, Nat.reduceAdd, Nat.reduceMul, Nat.reduceLeDiff, reduceCtorEq, Nat.reduceSub, Int.reduceToNat, hnh] <;> exact rfl); (· rfl); (· simp only [push_cast, env, Nat.reduceEqDiff, reduceIte, Nat.reduceAdd, Nat.reduceMul, Nat.reduceLeDiff, reduceCtorEq, Nat.reduceSub, Int.reduceToNat, hnh] <;> exact rfl); (· decide)) | (apply one_skip; (· rfl); (· simp only [push_cast, env, Nat.reduceEqDiff, reduceIte, Nat.reduceAdd, Nat.reduceMul, Nat.reduceLeDiff, reduceCtorEq, Nat.reduceSub, Int.reduceToNat, hnh] <;> exact rfl))); (· rfl)))
  case ht => rfl
  case hF => repeat (first | exact trivial | (refine ⟨.inl ⟨by decide, rfl⟩, ?_⟩) | (refine ⟨.inr ⟨rfl, by simp⟩, ?_⟩))
  show CW _ _ _ _
  repeat (first | refine cw_seq ?_ | refine cw_region ?_ | refine ow_nil ?_ | ((first | apply ow_cons | apply qw_cons); · simp only [push_cast, env, Nat.reduceEqDiff, reduceIte, Nat.reduceAdd, Nat.reduceMul, Nat.reduceLeDiff, reduceCtorEq, Nat.reduceSub, Int.reduceToNat] <;> exact rfl) | ((first | apply ow_spec | apply qw_spec); · simp only [push_cast, env, Nat.reduceEqDiff, reduceIte, Nat.reduceAdd, Nat.reduceMul, Nat.reduceLeDiff, reduceCtorEq, Nat.reduceSub, Int.reduceToNat] <;> exact rfl) | refine qw_nil ?_ | refine cw_block ?_ | refine cw_scope ?_ | refine cw_label ?_ | refine cw_skip ?_)
  refine cw_ret ?_
  exact ⟨_, (by simp only [push_cast, env, Nat.reduceEqDiff, reduceIte, Nat.reduceAdd, Nat.reduceMul, Nat.reduceLeDiff, reduceCtorEq, Nat.reduceSub, Int.reduceToNat] <;> exact rfl), rfl⟩
end Go.Proofs.Ytafncpgiibikcaa
