/- Several texts, one behind the other; each begins with a remark of its own. -/
import Derived.Test.YtafncpgiibikcaaZE6
import Derived.Test.YtafncpgiibikcaaZG5
/- Spans. -/
namespace Go.Proofs.Ytafncpgiibikcaa
set_option linter.unusedSimpArgs false
set_option linter.unusedVariables false
set_option maxRecDepth 20000
open Go.RowKit Am Ty

abbrev ptr0 (a : Nat) : Value := .pointer (some ⟨a, 0, some 0⟩)
def RdItems (h : Heap) (v : Value) (l : List Item) : Prop := SlR h v l.length (l.flatMap Item.cells) 57 24
/-- what the closure sees -/
structure SpC (h : Heap) (g : Gram) (nt : Int) (a b : Nat) : Prop where
  a : ∃ st p c, h[a]? = some (.arr [i64 g.nts, i64 st, .slice p g.rules.length c] 0 true 24) ∧ RdRules h (.slice p g.rules.length c) g.rules
  b : h[b]? = some (.arr [i64 nt] 0 true 3)
theorem SpC.mono {h h' : Heap} {g : Gram} {nt : Int} {a b : Nat} (s : SpC h g nt a b) (hp : h <+: h') : SpC h' g nt a b := by
  obtain ⟨⟨st, p, c, h1, h2⟩, h3⟩ := s
  exact ⟨⟨st, p, c, getElem?_of_prefix hp h1, h2.mono hp⟩, getElem?_of_prefix hp h3⟩
set_option maxHeartbeats 2000000 in
theorem spans1_fw {h : Heap} {g : Gram} {nt : Int} {a b : Nat} {x : Item} (hC : SpC h g nt a b) (hx : x.rule < g.rules.length) : FW env 42 [x.val, ptr0 a, ptr0 b] h fun r h' => r = .bool (accI g nt x) ∧ h' = h := by
  obtain ⟨⟨st, p, c, ha, hu⟩, hb⟩ := hC
  obtain ⟨id3, ver3, own3, c3, cells3, p3, n3, c4, hv3, hid3, hn3, hrd3, hu3⟩ := hu.at hx
  cases hv3
  subst hn3
  have g2 := rng hx
  have hry : g.rules[x.rule]? = some g.rules[x.rule] := List.getElem?_eq_getElem hx
  have hac : accI g nt x = (decide (g.rules[x.rule].lhs = nt) && decide ((x.frm : Int) = 0) && decide ((x.dot : Int) = (g.rules[x.rule].rhs.length : Int))) := by
    unfold accI
    rw [hry]
    simp only
    rw [Bool.and_assoc, show decide ((x.frm : Int) = 0) = decide (x.frm = 0) by rw [decide_eq_decide]; omega, show decide ((x.dot : Int) = (g.rules[x.rule].rhs.length : Int)) = decide (x.dot = g.rules[x.rule].rhs.length) by rw [decide_eq_decide]; omega]
  rw [hac]
  refine fw_enter (fn := Try.f42) Try.func42 rfl (by kernel_rfl) (by simp [Try.ntmps42]) ?_; simp only [push_cast]
  repeat (first | refine cw_seq ?_ | refine cw_region ?_ | refine ow_nil ?_ | ((first | apply ow_cons | apply qw_cons); · simp only [push_cast, env, Nat.reduceEqDiff, reduceIte, Nat.reduceAdd, Nat.reduceMul, Nat.reduceLeDiff, reduceCtorEq, Nat.reduceSub, Int.reduceToNat, ha, hb, hid3, hrd3, g2] <;> exact rfl) | ((first | apply ow_spec | apply qw_spec); · simp only [push_cast, env, Nat.reduceEqDiff, reduceIte, Nat.reduceAdd, Nat.reduceMul, Nat.reduceLeDiff, reduceCtorEq, Nat.reduceSub, Int.reduceToNat, ha, hb, hid3, hrd3, g2] <;> exact rfl) | refine qw_nil ?_ | refine cw_block ?_ | refine cw_scope ?_ | refine cw_label ?_ | refine cw_skip ?_)
  refine cw_ret ?_
  exact ⟨_, (by simp only [push_cast, env, Nat.reduceEqDiff, reduceIte, Nat.reduceAdd, Nat.reduceMul, Nat.reduceLeDiff, reduceCtorEq, Nat.reduceSub, Int.reduceToNat] <;> exact rfl), rfl, rfl⟩
set_option maxHeartbeats 2000000 in
theorem index_fw {h : Heap} {g : Gram} {nt : Int} {a b : Nat} {v : Value} {l : List Item} (hC : SpC h g nt a b) (hl : RdItems h v l) (hx : ∀ x ∈ l, x.rule < g.rules.length) :
    FW env 56 [v, .func (.func 42) #[] #[ptr0 a, ptr0 b]] h fun r h' => (∃ n : Int, r = i64 n ∧ (decide (0 ≤ n) = l.any (accI g nt))) ∧ h' = h := by
  obtain ⟨p, c, rfl⟩ := SlR.form hl
  have hle : l.length ≤ 140737488355328 := by have := hl.1; omega
  refine fw_enter (fn := Try.f56) Try.func56 rfl (by kernel_rfl) (by simp [Try.ntmps56]) ?_; simp only [push_cast]
  repeat (first | refine cw_seq ?_ | refine cw_region ?_ | refine ow_nil ?_ | ((first | apply ow_cons | apply qw_cons); · simp only [push_cast, env, Nat.reduceEqDiff, reduceIte, Nat.reduceAdd, Nat.reduceMul, Nat.reduceLeDiff, reduceCtorEq, Nat.reduceSub, Int.reduceToNat] <;> exact rfl) | ((first | apply ow_spec | apply qw_spec); · simp only [push_cast, env, Nat.reduceEqDiff, reduceIte, Nat.reduceAdd, Nat.reduceMul, Nat.reduceLeDiff, reduceCtorEq, Nat.reduceSub, Int.reduceToNat] <;> exact rfl) | refine qw_nil ?_ | refine cw_block ?_ | refine cw_scope ?_ | refine cw_label ?_ | refine cw_skip ?_)
  refine cw_for l.length (fun k => [(0, .val (.slice p l.length c)), (1, .val (.func (.func 42) #[] #[ptr0 a, ptr0 b])), (7, .val (i64 l.length)), (8, .val (i64 k))]) (fun _ => h) (fun k => ∀ x ∈ l.take k, accI g nt x = false) (by simp only [push_cast, SubL, fget, Nat.reduceEqDiff, reduceIte]) rfl (fun x hx => by simp at hx) ?_
  intro k hk hI
  by_cases hlt : k < l.length
  · have e1 := rng hlt
    have e2 := inc hlt (by omega)
    have e3 := lt_dec hlt
    obtain ⟨id, ver, own, c', hv, hid⟩ := SlR.at hl (by omega)
    cases hv
    have hrd := rdH_flatMap (f := Item.cells) (k := 3) (fun _ => rfl) l k l[k] (by simp [hlt])
    unfold Item.cells at hrd hid
    have hm : l[k] ∈ l := List.getElem_mem hlt
    generalize hy : l[k] = y at hrd hm
    repeat (first | refine cw_seq ?_ | refine cw_region ?_ | refine ow_nil ?_ | ((first | apply ow_cons | apply qw_cons); · simp only [push_cast, env, Nat.reduceEqDiff, reduceIte, Nat.reduceAdd, Nat.reduceMul, Nat.reduceLeDiff, reduceCtorEq, Nat.reduceSub, Int.reduceToNat, e3] <;> exact rfl) | ((first | apply ow_spec | apply qw_spec); · simp only [push_cast, env, Nat.reduceEqDiff, reduceIte, Nat.reduceAdd, Nat.reduceMul, Nat.reduceLeDiff, reduceCtorEq, Nat.reduceSub, Int.reduceToNat, e3] <;> exact rfl) | refine qw_nil ?_ | refine cw_block ?_ | refine cw_scope ?_ | refine cw_label ?_ | refine cw_skip ?_)
    refine cw_condT (by simp only [push_cast, env, Nat.reduceEqDiff, reduceIte, Nat.reduceAdd, Nat.reduceMul, Nat.reduceLeDiff, reduceCtorEq, Nat.reduceSub, Int.reduceToNat] <;> exact rfl) ?_
    repeat (first | refine cw_seq ?_ | refine cw_region ?_ | refine ow_nil ?_ | ((first | apply ow_cons | apply qw_cons); · simp only [push_cast, env, Nat.reduceEqDiff, reduceIte, Nat.reduceAdd, Nat.reduceMul, Nat.reduceLeDiff, reduceCtorEq, Nat.reduceSub, Int.reduceToNat, e1, hid, hrd] <;> exact rfl) | ((first | apply ow_spec | apply qw_spec); · simp only [push_cast, env, Nat.reduceEqDiff, reduceIte, Nat.reduceAdd, Nat.reduceMul, Nat.reduceLeDiff, reduceCtorEq, Nat.reduceSub, Int.reduceToNat, e1, hid, hrd] <;> exact rfl) | refine qw_nil ?_ | refine cw_block ?_ | refine cw_scope ?_ | refine cw_label ?_ | refine cw_skip ?_)
    refine ow_call (fn := Try.f42) (by simp only [push_cast, env, Nat.reduceEqDiff, reduceIte, Nat.reduceAdd, Nat.reduceMul, Nat.reduceLeDiff, reduceCtorEq, Nat.reduceSub, Int.reduceToNat] <;> exact rfl) rfl (by simp only [push_cast, env, Nat.reduceEqDiff, reduceIte, Nat.reduceAdd, Nat.reduceMul, Nat.reduceLeDiff, reduceCtorEq, Nat.reduceSub, Int.reduceToNat] <;> exact rfl) (by simp only [push_cast, env, Nat.reduceEqDiff, reduceIte, Nat.reduceAdd, Nat.reduceMul, Nat.reduceLeDiff, reduceCtorEq, Nat.reduceSub, Int.reduceToNat] <;> exact rfl) Try.func42 (by kernel_rfl) (by kernel_rfl) ?_
    refine (spans1_fw (x := y) hC (hx y hm)).mono ?_
    rintro _ h ⟨rfl, rfl⟩
    repeat (first | refine cw_seq ?_ | refine cw_region ?_ | refine ow_nil ?_ | ((first | apply ow_cons | apply qw_cons); · simp only [push_cast, env, Nat.reduceEqDiff, reduceIte, Nat.reduceAdd, Nat.reduceMul, Nat.reduceLeDiff, reduceCtorEq, Nat.reduceSub, Int.reduceToNat] <;> exact rfl) | ((first | apply ow_spec | apply qw_spec); · simp only [push_cast, env, Nat.reduceEqDiff, reduceIte, Nat.reduceAdd, Nat.reduceMul, Nat.reduceLeDiff, reduceCtorEq, Nat.reduceSub, Int.reduceToNat] <;> exact rfl) | refine qw_nil ?_ | refine cw_block ?_ | refine cw_scope ?_ | refine cw_label ?_ | refine cw_skip ?_)
    refine cw_cond (by simp only [push_cast, env, Nat.reduceEqDiff, reduceIte, Nat.reduceAdd, Nat.reduceMul, Nat.reduceLeDiff, reduceCtorEq, Nat.reduceSub, Int.reduceToNat] <;> exact rfl) (fun c1 => ?_) (fun c1 => ?_)
    · repeat (first | refine cw_seq ?_ | refine cw_region ?_ | refine ow_nil ?_ | ((first | apply ow_cons | apply qw_cons); · simp only [push_cast, env, Nat.reduceEqDiff, reduceIte, Nat.reduceAdd, Nat.reduceMul, Nat.reduceLeDiff, reduceCtorEq, Nat.reduceSub, Int.reduceToNat] <;> exact rfl) | ((first | apply ow_spec | apply qw_spec); · simp only [push_cast, env, Nat.reduceEqDiff, reduceIte, Nat.reduceAdd, Nat.reduceMul, Nat.reduceLeDiff, reduceCtorEq, Nat.reduceSub, Int.reduceToNat] <;> exact rfl) | refine qw_nil ?_ | refine cw_block ?_ | refine cw_scope ?_ | refine cw_label ?_ | refine cw_skip ?_)
      refine cw_ret ?_
      refine ⟨_, (by simp only [push_cast, env, Nat.reduceEqDiff, reduceIte, Nat.reduceAdd, Nat.reduceMul, Nat.reduceLeDiff, reduceCtorEq, Nat.reduceSub, Int.reduceToNat] <;> exact rfl), ⟨k, rfl, ?_⟩, rfl⟩
      rw [decide_eq_true (Int.natCast_nonneg k), eq_comm, List.any_eq_true]
      exact ⟨y, hm, c1⟩
    · repeat (first | refine cw_seq ?_ | refine cw_region ?_ | refine ow_nil ?_ | ((first | apply ow_cons | apply qw_cons); · simp only [push_cast, env, Nat.reduceEqDiff, reduceIte, Nat.reduceAdd, Nat.reduceMul, Nat.reduceLeDiff, reduceCtorEq, Nat.reduceSub, Int.reduceToNat, e2] <;> exact rfl) | ((first | apply ow_spec | apply qw_spec); · simp only [push_cast, env, Nat.reduceEqDiff, reduceIte, Nat.reduceAdd, Nat.reduceMul, Nat.reduceLeDiff, reduceCtorEq, Nat.reduceSub, Int.reduceToNat, e2] <;> exact rfl) | refine qw_nil ?_ | refine cw_block ?_ | refine cw_scope ?_ | refine cw_label ?_ | refine cw_skip ?_)
      refine ⟨hlt, (by simp only [push_cast, SubL, fget, Nat.reduceEqDiff, reduceIte]), rfl, fun x hx => ?_⟩
      rw [List.take_succ_eq_append_getElem hlt, List.mem_append, List.mem_singleton] at hx
      rcases hx with hx | rfl
      · exact hI x hx
      · rw [hy]; exact c1
  · have e3 := ge_dec hlt
    obtain rfl : k = l.length := by omega
    repeat (first | refine cw_seq ?_ | refine cw_region ?_ | refine ow_nil ?_ | ((first | apply ow_cons | apply qw_cons); · simp only [push_cast, env, Nat.reduceEqDiff, reduceIte, Nat.reduceAdd, Nat.reduceMul, Nat.reduceLeDiff, reduceCtorEq, Nat.reduceSub, Int.reduceToNat, e3] <;> exact rfl) | ((first | apply ow_spec | apply qw_spec); · simp only [push_cast, env, Nat.reduceEqDiff, reduceIte, Nat.reduceAdd, Nat.reduceMul, Nat.reduceLeDiff, reduceCtorEq, Nat.reduceSub, Int.reduceToNat, e3] <;> exact rfl) | refine qw_nil ?_ | refine cw_block ?_ | refine cw_scope ?_ | refine cw_label ?_ | refine cw_skip ?_)
    refine cw_condF (by simp only [push_cast, env, Nat.reduceEqDiff, reduceIte, Nat.reduceAdd, Nat.reduceMul, Nat.reduceLeDiff, reduceCtorEq, Nat.reduceSub, Int.reduceToNat] <;> exact rfl) ?_
    refine cw_exit ?_
    show CW _ _ _ _
    rw [List.take_length] at hI
    repeat (first | refine cw_seq ?_ | refine cw_region ?_ | refine ow_nil ?_ | ((first | apply ow_cons | apply qw_cons); · simp only [push_cast, env, Nat.reduceEqDiff, reduceIte, Nat.reduceAdd, Nat.reduceMul, Nat.reduceLeDiff, reduceCtorEq, Nat.reduceSub, Int.reduceToNat] <;> exact rfl) | ((first | apply ow_spec | apply qw_spec); · simp only [push_cast, env, Nat.reduceEqDiff, reduceIte, Nat.reduceAdd, Nat.reduceMul, Nat.reduceLeDiff, reduceCtorEq, Nat.reduceSub, Int.reduceToNat] <;> exact rfl) | refine qw_nil ?_ | refine cw_block ?_ | refine cw_scope ?_ | refine cw_label ?_ | refine cw_skip ?_)
    refine cw_ret ?_
    refine ⟨_, (by simp only [push_cast, env, Nat.reduceEqDiff, reduceIte, Nat.reduceAdd, Nat.reduceMul, Nat.reduceLeDiff, reduceCtorEq, Nat.reduceSub, Int.reduceToNat] <;> exact rfl), ⟨-1, rfl, ?_⟩, rfl⟩
    rw [decide_eq_false (by omega), eq_comm, List.any_eq_false]
    exact fun x hx => by rw [hI x hx]; simp
theorem contains_fw {h : Heap} {g : Gram} {nt : Int} {a b : Nat} {v : Value} {l : List Item} (hC : SpC h g nt a b) (hl : RdItems h v l) (hx : ∀ x ∈ l, x.rule < g.rules.length) :
    FW env 41 [v, .func (.func 42) #[] #[ptr0 a, ptr0 b]] h fun r h' => r = .bool (l.any (accI g nt)) ∧ h' = h := by
  obtain ⟨p, c, rfl⟩ := SlR.form hl
  refine fw_enter (fn := Try.f41) Try.func41 rfl (by kernel_rfl) (by simp [Try.ntmps41]) ?_; simp only [push_cast]
  repeat (first | refine cw_seq ?_ | refine cw_region ?_ | refine ow_nil ?_ | ((first | apply ow_cons | apply qw_cons); · simp only [push_cast, env, Nat.reduceEqDiff, reduceIte, Nat.reduceAdd, Nat.reduceMul, Nat.reduceLeDiff, reduceCtorEq, Nat.reduceSub, Int.reduceToNat] <;> exact rfl) | ((first | apply ow_spec | apply qw_spec); · simp only [push_cast, env, Nat.reduceEqDiff, reduceIte, Nat.reduceAdd, Nat.reduceMul, Nat.reduceLeDiff, reduceCtorEq, Nat.reduceSub, Int.reduceToNat] <;> exact rfl) | refine qw_nil ?_ | refine cw_block ?_ | refine cw_scope ?_ | refine cw_label ?_ | refine cw_skip ?_)
  refine ow_call (fn := Try.f56) (by simp only [push_cast, env, Nat.reduceEqDiff, reduceIte, Nat.reduceAdd, Nat.reduceMul, Nat.reduceLeDiff, reduceCtorEq, Nat.reduceSub, Int.reduceToNat] <;> exact rfl) rfl (by simp only [push_cast, env, Nat.reduceEqDiff, reduceIte, Nat.reduceAdd, Nat.reduceMul, Nat.reduceLeDiff, reduceCtorEq, Nat.reduceSub, Int.reduceToNat] <;> exact rfl) (by simp only [push_cast, env, Nat.reduceEqDiff, reduceIte, Nat.reduceAdd, Nat.reduceMul, Nat.reduceLeDiff, reduceCtorEq, Nat.reduceSub, Int.reduceToNat] <;> exact rfl) Try.func56 (by kernel_rfl) (by kernel_rfl) ?_
  rw [List.append_nil]
  refine (index_fw hC hl hx).mono ?_
  rintro _ h ⟨⟨n, rfl, hn⟩, rfl⟩
  repeat (first | refine cw_seq ?_ | refine cw_region ?_ | refine ow_nil ?_ | ((first | apply ow_cons | apply qw_cons); · simp only [push_cast, env, Nat.reduceEqDiff, reduceIte, Nat.reduceAdd, Nat.reduceMul, Nat.reduceLeDiff, reduceCtorEq, Nat.reduceSub, Int.reduceToNat, hn] <;> exact rfl) | ((first | apply ow_spec | apply qw_spec); · simp only [push_cast, env, Nat.reduceEqDiff, reduceIte, Nat.reduceAdd, Nat.reduceMul, Nat.reduceLeDiff, reduceCtorEq, Nat.reduceSub, Int.reduceToNat, hn] <;> exact rfl) | refine qw_nil ?_ | refine cw_block ?_ | refine cw_scope ?_ | refine cw_label ?_ | refine cw_skip ?_)
  refine cw_ret ?_
  exact ⟨_, (by simp only [push_cast, env, Nat.reduceEqDiff, reduceIte, Nat.reduceAdd, Nat.reduceMul, Nat.reduceLeDiff, reduceCtorEq, Nat.reduceSub, Int.reduceToNat] <;> exact rfl), rfl, rfl⟩
/-! ### runs -/
def runCells (l : List (Nat × Nat)) : List Value := l.flatMap fun p => [i64 p.1, i64 p.2]
open Classical in
noncomputable def ntB (R : List Rule) (A : Int) (w : List Nat) (i j : Nat) : Bool := decide (NtTx R A (sub w i j))
open Classical in
theorem ntB_iff {R : List Rule} {A : Int} {w : List Nat} {i j : Nat} : ntB R A w i j = true ↔ NtTx R A (sub w i j) := by
  unfold ntB
  exact decide_eq_true_iff
def spanRow (P : Nat → Nat → Bool) (lo k : Nat) : List (Nat × Nat) := ((List.range k).filter fun j => P lo (lo + j)).map fun j => (lo, lo + j)
def spanAll (P : Nat → Nat → Bool) (n k : Nat) : List (Nat × Nat) := (List.range k).flatMap fun lo => spanRow P lo (n + 1 - lo)
theorem spanRow_succ {P : Nat → Nat → Bool} {lo k : Nat} : spanRow P lo (k + 1) = spanRow P lo k ++ if P lo (lo + k) = true then [(lo, lo + k)] else [] := by
  unfold spanRow
  rw [List.range_succ, List.filter_append, List.map_append, List.filter_cons]
  split <;> simp
theorem spanAll_succ {P : Nat → Nat → Bool} {n k : Nat} : spanAll P n (k + 1) = spanAll P n k ++ spanRow P k (n + 1 - k) := by
  unfold spanAll
  rw [List.range_succ, List.flatMap_append]
  simp
theorem spanRow_len {P : Nat → Nat → Bool} {lo k : Nat} : (spanRow P lo k).length ≤ k := by
  unfold spanRow
  rw [List.length_map]
  exact Nat.le_trans (List.length_filter_le _ _) (by simp)
theorem spanAll_len {P : Nat → Nat → Bool} {n : Nat} : ∀ k, (spanAll P n k).length ≤ k * (n + 1)
  | 0 => by simp [spanAll]
  | k + 1 => by
    have h1 := spanAll_len (P := P) (n := n) k
    have h2 := spanRow_len (P := P) (lo := k) (k := n + 1 - k)
    rw [spanAll_succ, List.length_append, Nat.succ_mul]
    omega
theorem sub_drop {w : List Nat} {lo j : Nat} : sub (w.drop lo) 0 j = sub w lo (lo + j) := by
  unfold sub
  rw [List.drop_zero, show lo + j - lo = j - 0 by omega]
/-- but for runs all is as it was -/
def KeepR (h h' : Heap) : Prop := ∀ (i : Nat) (o : HObj), (∀ (cs : List Value) (v : Nat), o ≠ HObj.arr cs v true 50) → h[i]? = some o → h'[i]? = some o
theorem SlR.kept {h h' : Heap} {v : Value} {n b : Nat} {cells : List Value} {et : TypeId} (hs : SlR h v n cells et b) (k : KeepR h h') (he : et ≠ 50) : SlR h' v n cells et b := by
  refine ⟨hs.1, ?_⟩
  rcases hs.2 with h1 | ⟨id, ver, own, c, rfl, h2⟩
  · exact .inl h1
  · exact .inr ⟨id, ver, own, c, rfl, k _ _ (fun cs v e => he (by cases e; rfl)) h2⟩
def SpansR (g : Gram) (w : List Nat) (nt : Int) (h : Heap) (r : Value) (h' : Heap) : Prop := ∃ x e, r = .tuple #[x, i64 e] ∧
  ((fitE g w ≠ 0 ∧ x = nilS ∧ e = fitE g w) ∨ (fitE g w = 0 ∧ (nt < 0 ∨ g.nts ≤ nt) ∧ x = nilS ∧ e = 1) ∨
   (fitE g w = 0 ∧ 0 ≤ nt ∧ nt < g.nts ∧ e = 0 ∧ Grow h h' x (spanAll (ntB g.rules nt w) w.length (w.length + 1)).length (runCells (spanAll (ntB g.rules nt w) w.length (w.length + 1))) 50))
set_option maxHeartbeats 8000000 in
theorem spans_fw {h : Heap} {g : Gram} {v wv : Value} {w : List Nat} {nt : Int} (hr : RdGram h v g) (hwR : RdB h wv w) (W : WfG g) : FW env 19 [v, wv, i64 nt] h fun r h' => SpansR g w nt h r h' ∧ h <+: h' := by
  obtain ⟨u, rfl, hu⟩ := id hr
  obtain ⟨p, c, rfl⟩ := hu.form
  obtain ⟨pw, cw, rfl⟩ := hwR.form
  refine fw_enter (fn := Try.f19) Try.func19 rfl (by kernel_rfl) (by simp [Try.ntmps19]) ?_; simp only [push_cast]
  repeat (first | refine cw_seq ?_ | refine cw_region ?_ | refine ow_nil ?_ | refine qw_nil ?_ | refine cw_block ?_ | refine cw_scope ?_ | refine cw_label ?_ | refine cw_skip ?_)
  refine ow_boxH (by simp only [push_cast, env, Nat.reduceEqDiff, reduceIte, Nat.reduceAdd, Nat.reduceMul, Nat.reduceLeDiff, reduceCtorEq, Nat.reduceSub, Int.reduceToNat] <;> exact rfl) (by simp only [push_cast, env, Nat.reduceEqDiff, reduceIte, Nat.reduceAdd, Nat.reduceMul, Nat.reduceLeDiff, reduceCtorEq, Nat.reduceSub, Int.reduceToNat] <;> exact rfl) ?_
  refine ow_boxH (by simp only [push_cast, env, Nat.reduceEqDiff, reduceIte, Nat.reduceAdd, Nat.reduceMul, Nat.reduceLeDiff, reduceCtorEq, Nat.reduceSub, Int.reduceToNat] <;> exact rfl) (by simp only [push_cast, env, Nat.reduceEqDiff, reduceIte, Nat.reduceAdd, Nat.reduceMul, Nat.reduceLeDiff, reduceCtorEq, Nat.reduceSub, Int.reduceToNat] <;> exact rfl) ?_
  simp only [St.putO, St.put]
  simp only [List.length_append, List.length_cons, List.length_nil, Nat.zero_add, List.append_assoc, List.cons_append, List.nil_append]
  obtain ⟨H2, hH2⟩ : ∃ H2, H2 = h ++ [HObj.arr [i64 g.nts, i64 g.start, .slice p g.rules.length c] 0 true 24, HObj.arr [i64 nt] 0 true 3] := ⟨_, rfl⟩
  have q1 : H2[h.length]? = some (HObj.arr [i64 g.nts, i64 g.start, .slice p g.rules.length c] 0 true 24) := by rw [hH2]; simp
  have q2 : H2[h.length + 1]? = some (HObj.arr [i64 nt] 0 true 3) := by rw [hH2, List.getElem?_append_right (by omega)]; simp
  have hp2 : h <+: H2 := by rw [hH2]; exact List.prefix_append _ _
  rw [← hH2]
  clear hH2
  have hr1 := hr.mono hp2
  have hwR1 := hwR.mono hp2
  repeat (first | refine cw_seq ?_ | refine cw_region ?_ | refine ow_nil ?_ | ((first | apply ow_cons | apply qw_cons); · simp only [push_cast, env, Nat.reduceEqDiff, reduceIte, Nat.reduceAdd, Nat.reduceMul, Nat.reduceLeDiff, reduceCtorEq, Nat.reduceSub, Int.reduceToNat, q1, q2] <;> exact rfl) | ((first | apply ow_spec | apply qw_spec); · simp only [push_cast, env, Nat.reduceEqDiff, reduceIte, Nat.reduceAdd, Nat.reduceMul, Nat.reduceLeDiff, reduceCtorEq, Nat.reduceSub, Int.reduceToNat, q1, q2] <;> exact rfl) | refine qw_nil ?_ | refine cw_block ?_ | refine cw_scope ?_ | refine cw_label ?_ | refine cw_skip ?_)
  refine ow_call (fn := Try.f36) (by simp only [push_cast, env, Nat.reduceEqDiff, reduceIte, Nat.reduceAdd, Nat.reduceMul, Nat.reduceLeDiff, reduceCtorEq, Nat.reduceSub, Int.reduceToNat] <;> exact rfl) rfl (by simp only [push_cast, env, Nat.reduceEqDiff, reduceIte, Nat.reduceAdd, Nat.reduceMul, Nat.reduceLeDiff, reduceCtorEq, Nat.reduceSub, Int.reduceToNat] <;> exact rfl) (by simp only [push_cast, env, Nat.reduceEqDiff, reduceIte, Nat.reduceAdd, Nat.reduceMul, Nat.reduceLeDiff, reduceCtorEq, Nat.reduceSub, Int.reduceToNat] <;> exact rfl) Try.func36 (by kernel_rfl) (by kernel_rfl) ?_
  rw [List.append_nil]
  refine (fit_fw hr1 hwR1).mono ?_
  rintro _ H2 ⟨rfl, rfl⟩
  by_cases hf : ¬ fitE g w = 0
  · have df : decide (fitE g w = 0) = false := decide_eq_false hf
    repeat (first | refine cw_seq ?_ | refine cw_region ?_ | refine ow_nil ?_ | ((first | apply ow_cons | apply qw_cons); · simp only [push_cast, env, Nat.reduceEqDiff, reduceIte, Nat.reduceAdd, Nat.reduceMul, Nat.reduceLeDiff, reduceCtorEq, Nat.reduceSub, Int.reduceToNat, df] <;> exact rfl) | ((first | apply ow_spec | apply qw_spec); · simp only [push_cast, env, Nat.reduceEqDiff, reduceIte, Nat.reduceAdd, Nat.reduceMul, Nat.reduceLeDiff, reduceCtorEq, Nat.reduceSub, Int.reduceToNat, df] <;> exact rfl) | refine qw_nil ?_ | refine cw_block ?_ | refine cw_scope ?_ | refine cw_label ?_ | refine cw_skip ?_)
    refine cw_condT (by simp only [push_cast, env, Nat.reduceEqDiff, reduceIte, Nat.reduceAdd, Nat.reduceMul, Nat.reduceLeDiff, reduceCtorEq, Nat.reduceSub, Int.reduceToNat, df] <;> exact rfl) ?_
    repeat (first | refine cw_seq ?_ | refine cw_region ?_ | refine ow_nil ?_ | ((first | apply ow_cons | apply qw_cons); · simp only [push_cast, env, Nat.reduceEqDiff, reduceIte, Nat.reduceAdd, Nat.reduceMul, Nat.reduceLeDiff, reduceCtorEq, Nat.reduceSub, Int.reduceToNat] <;> exact rfl) | ((first | apply ow_spec | apply qw_spec); · simp only [push_cast, env, Nat.reduceEqDiff, reduceIte, Nat.reduceAdd, Nat.reduceMul, Nat.reduceLeDiff, reduceCtorEq, Nat.reduceSub, Int.reduceToNat] <;> exact rfl) | refine qw_nil ?_ | refine cw_block ?_ | refine cw_scope ?_ | refine cw_label ?_ | refine cw_skip ?_)
    refine cw_ret ?_
    exact ⟨_, (by simp only [push_cast, env, Nat.reduceEqDiff, reduceIte, Nat.reduceAdd, Nat.reduceMul, Nat.reduceLeDiff, reduceCtorEq, Nat.reduceSub, Int.reduceToNat] <;> exact rfl), ⟨nilS, fitE g w, rfl, .inl ⟨hf, rfl, rfl⟩⟩, hp2⟩
  replace hf : fitE g w = 0 := Classical.not_not.1 hf
  obtain ⟨hb, hw⟩ := fitE_ok.1 hf
  have R := rightS hb
  rw [hf]
  repeat (first | refine cw_seq ?_ | refine cw_region ?_ | refine ow_nil ?_ | ((first | apply ow_cons | apply qw_cons); · simp only [push_cast, env, Nat.reduceEqDiff, reduceIte, Nat.reduceAdd, Nat.reduceMul, Nat.reduceLeDiff, reduceCtorEq, Nat.reduceSub, Int.reduceToNat] <;> exact rfl) | ((first | apply ow_spec | apply qw_spec); · simp only [push_cast, env, Nat.reduceEqDiff, reduceIte, Nat.reduceAdd, Nat.reduceMul, Nat.reduceLeDiff, reduceCtorEq, Nat.reduceSub, Int.reduceToNat] <;> exact rfl) | refine qw_nil ?_ | refine cw_block ?_ | refine cw_scope ?_ | refine cw_label ?_ | refine cw_skip ?_)
  refine cw_condF (by simp only [push_cast, env, Nat.reduceEqDiff, reduceIte, Nat.reduceAdd, Nat.reduceMul, Nat.reduceLeDiff, reduceCtorEq, Nat.reduceSub, Int.reduceToNat] <;> exact rfl) ?_
  by_cases hn0 : nt < 0 ∨ g.nts ≤ nt
  · have d1 : (decide (nt < 0) || decide (g.nts ≤ nt)) = true := by simpa using hn0
    repeat (first | refine cw_seq ?_ | refine cw_region ?_ | refine ow_nil ?_ | ((first | apply ow_cons | apply qw_cons); · simp only [push_cast, env, Nat.reduceEqDiff, reduceIte, Nat.reduceAdd, Nat.reduceMul, Nat.reduceLeDiff, reduceCtorEq, Nat.reduceSub, Int.reduceToNat, q1, q2] <;> exact rfl) | ((first | apply ow_spec | apply qw_spec); · simp only [push_cast, env, Nat.reduceEqDiff, reduceIte, Nat.reduceAdd, Nat.reduceMul, Nat.reduceLeDiff, reduceCtorEq, Nat.reduceSub, Int.reduceToNat, q1, q2] <;> exact rfl) | refine qw_nil ?_ | refine cw_block ?_ | refine cw_scope ?_ | refine cw_label ?_ | refine cw_skip ?_)
    refine cw_condT (by simp only [push_cast, env, Nat.reduceEqDiff, reduceIte, Nat.reduceAdd, Nat.reduceMul, Nat.reduceLeDiff, reduceCtorEq, Nat.reduceSub, Int.reduceToNat, d1] <;> exact rfl) ?_
    repeat (first | refine cw_seq ?_ | refine cw_region ?_ | refine ow_nil ?_ | ((first | apply ow_cons | apply qw_cons); · simp only [push_cast, env, Nat.reduceEqDiff, reduceIte, Nat.reduceAdd, Nat.reduceMul, Nat.reduceLeDiff, reduceCtorEq, Nat.reduceSub, Int.reduceToNat] <;> exact rfl) | ((first | apply ow_spec | apply qw_spec); · simp only [push_cast, env, Nat.reduceEqDiff, reduceIte, Nat.reduceAdd, Nat.reduceMul, Nat.reduceLeDiff, reduceCtorEq, Nat.reduceSub, Int.reduceToNat] <;> exact rfl) | refine qw_nil ?_ | refine cw_block ?_ | refine cw_scope ?_ | refine cw_label ?_ | refine cw_skip ?_)
    refine cw_ret ?_
    exact ⟨_, (by simp only [push_cast, env, Nat.reduceEqDiff, reduceIte, Nat.reduceAdd, Nat.reduceMul, Nat.reduceLeDiff, reduceCtorEq, Nat.reduceSub, Int.reduceToNat] <;> exact rfl), ⟨nilS, 1, rfl, .inr (.inl ⟨hf, hn0, rfl, rfl⟩)⟩, hp2⟩
  have d1 : (decide (nt < 0) || decide (g.nts ≤ nt)) = false := by simpa using hn0
  repeat (first | refine cw_seq ?_ | refine cw_region ?_ | refine ow_nil ?_ | ((first | apply ow_cons | apply qw_cons); · simp only [push_cast, env, Nat.reduceEqDiff, reduceIte, Nat.reduceAdd, Nat.reduceMul, Nat.reduceLeDiff, reduceCtorEq, Nat.reduceSub, Int.reduceToNat, q1, q2] <;> exact rfl) | ((first | apply ow_spec | apply qw_spec); · simp only [push_cast, env, Nat.reduceEqDiff, reduceIte, Nat.reduceAdd, Nat.reduceMul, Nat.reduceLeDiff, reduceCtorEq, Nat.reduceSub, Int.reduceToNat, q1, q2] <;> exact rfl) | refine qw_nil ?_ | refine cw_block ?_ | refine cw_scope ?_ | refine cw_label ?_ | refine cw_skip ?_)
  refine cw_condF (by simp only [push_cast, env, Nat.reduceEqDiff, reduceIte, Nat.reduceAdd, Nat.reduceMul, Nat.reduceLeDiff, reduceCtorEq, Nat.reduceSub, Int.reduceToNat, d1] <;> exact rfl) ?_
  repeat (first | refine cw_seq ?_ | refine cw_region ?_ | refine ow_nil ?_ | ((first | apply ow_cons | apply qw_cons); · simp only [push_cast, env, Nat.reduceEqDiff, reduceIte, Nat.reduceAdd, Nat.reduceMul, Nat.reduceLeDiff, reduceCtorEq, Nat.reduceSub, Int.reduceToNat, q1, q2] <;> exact rfl) | ((first | apply ow_spec | apply qw_spec); · simp only [push_cast, env, Nat.reduceEqDiff, reduceIte, Nat.reduceAdd, Nat.reduceMul, Nat.reduceLeDiff, reduceCtorEq, Nat.reduceSub, Int.reduceToNat, q1, q2] <;> exact rfl) | refine qw_nil ?_ | refine cw_block ?_ | refine cw_scope ?_ | refine cw_label ?_ | refine cw_skip ?_)
  refine ow_stoH (cells' := [i64 g.nts, i64 nt, .slice p g.rules.length c]) (by simp only [push_cast, env, Nat.reduceEqDiff, reduceIte, Nat.reduceAdd, Nat.reduceMul, Nat.reduceLeDiff, reduceCtorEq, Nat.reduceSub, Int.reduceToNat] <;> exact rfl) rfl rfl (by simp only [push_cast, env, Nat.reduceEqDiff, reduceIte, Nat.reduceAdd, Nat.reduceMul, Nat.reduceLeDiff, reduceCtorEq, Nat.reduceSub, Int.reduceToNat] <;> exact rfl) (by simp only [push_cast, env, Nat.reduceEqDiff, reduceIte, Nat.reduceAdd, Nat.reduceMul, Nat.reduceLeDiff, reduceCtorEq, Nat.reduceSub, Int.reduceToNat] <;> exact rfl) q1 (by simp only [push_cast, env, Nat.reduceEqDiff, reduceIte, Nat.reduceAdd, Nat.reduceMul, Nat.reduceLeDiff, reduceCtorEq, Nat.reduceSub, Int.reduceToNat] <;> exact rfl) rfl rfl ?_
  have q3 := get_set_self (x := HObj.arr [i64 g.nts, i64 nt, .slice p g.rules.length c] 0 true 24) q1
  have q4 : (H2.set h.length (HObj.arr [i64 g.nts, i64 nt, .slice p g.rules.length c] 0 true 24))[h.length + 1]? = some (HObj.arr [i64 nt] 0 true 3) := by rw [get_set_ne (by omega)]; exact q2
  have hp3 : h <+: H2.set h.length (HObj.arr [i64 g.nts, i64 nt, .slice p g.rules.length c] 0 true 24) := pre_set hp2 (Nat.le_refl _)
  obtain ⟨H3, hH3⟩ : ∃ H3, H3 = H2.set h.length (HObj.arr [i64 g.nts, i64 nt, .slice p g.rules.length c] 0 true 24) := ⟨_, rfl⟩
  show OW _ _ _ ⟨_, _, H2.set h.length (HObj.arr [i64 g.nts, i64 nt, .slice p g.rules.length c] 0 true 24)⟩ _
  rw [← hH3] at q3 q4 hp3 ⊢
  clear q1 q2 hp2 hr1 hwR1 hH3
  repeat (first | refine cw_seq ?_ | refine cw_region ?_ | refine ow_nil ?_ | ((first | apply ow_cons | apply qw_cons); · simp only [push_cast, env, Nat.reduceEqDiff, reduceIte, Nat.reduceAdd, Nat.reduceMul, Nat.reduceLeDiff, reduceCtorEq, Nat.reduceSub, Int.reduceToNat] <;> exact rfl) | ((first | apply ow_spec | apply qw_spec); · simp only [push_cast, env, Nat.reduceEqDiff, reduceIte, Nat.reduceAdd, Nat.reduceMul, Nat.reduceLeDiff, reduceCtorEq, Nat.reduceSub, Int.reduceToNat] <;> exact rfl) | refine qw_nil ?_ | refine cw_block ?_ | refine cw_scope ?_ | refine cw_label ?_ | refine cw_skip ?_)
  refine cw_forG (w.length + 1) (fun lo (x : Heap × Value) => [(1, .val (.slice pw w.length cw)), (3, .val (ptr0 h.length)), (5, .val (ptr0 (h.length + 1))), (9, .val x.2), (10, .val (i64 lo))]) (fun _ x => x.1)
    (fun lo x => h <+: x.1 ∧ x.1[h.length]? = some (HObj.arr [i64 g.nts, i64 nt, .slice p g.rules.length c] 0 true 24) ∧ x.1[h.length + 1]? = some (HObj.arr [i64 nt] 0 true 3) ∧
      Grow h x.1 x.2 (spanAll (ntB g.rules nt w) w.length lo).length (runCells (spanAll (ntB g.rules nt w) w.length lo)) 50) (H3, nilS) (by simp only [push_cast, SubL, fget, Nat.reduceEqDiff, reduceIte]) rfl ⟨hp3, q3, q4, Grow.nil⟩ ?_
  clear hp3 q3 q4 H3
  rintro lo ⟨hk, out⟩ hlo ⟨hp, q3, q4, hG⟩
  simp only at hp q3 q4 hG ⊢
  by_cases hlt : lo < w.length + 1
  · have e3 : decide ((lo : Int) ≤ (w.length : Int)) = true := decide_eq_true (by omega)
    have e2 : IntKind.i64.wrap ((lo : Int) + 1) = ((lo : Int) + 1) := wrap64_id (by omega) (by omega)
    repeat (first | refine cw_seq ?_ | refine cw_region ?_ | refine ow_nil ?_ | ((first | apply ow_cons | apply qw_cons); · simp only [push_cast, env, Nat.reduceEqDiff, reduceIte, Nat.reduceAdd, Nat.reduceMul, Nat.reduceLeDiff, reduceCtorEq, Nat.reduceSub, Int.reduceToNat, e3] <;> exact rfl) | ((first | apply ow_spec | apply qw_spec); · simp only [push_cast, env, Nat.reduceEqDiff, reduceIte, Nat.reduceAdd, Nat.reduceMul, Nat.reduceLeDiff, reduceCtorEq, Nat.reduceSub, Int.reduceToNat, e3] <;> exact rfl) | refine qw_nil ?_ | refine cw_block ?_ | refine cw_scope ?_ | refine cw_label ?_ | refine cw_skip ?_)
    refine cw_condT (by simp only [push_cast, env, Nat.reduceEqDiff, reduceIte, Nat.reduceAdd, Nat.reduceMul, Nat.reduceLeDiff, reduceCtorEq, Nat.reduceSub, Int.reduceToNat] <;> exact rfl) ?_
    repeat (first | refine cw_seq ?_ | refine cw_region ?_ | refine ow_nil ?_ | ((first | apply ow_cons | apply qw_cons); · simp only [push_cast, env, Nat.reduceEqDiff, reduceIte, Nat.reduceAdd, Nat.reduceMul, Nat.reduceLeDiff, reduceCtorEq, Nat.reduceSub, Int.reduceToNat] <;> exact rfl) | ((first | apply ow_spec | apply qw_spec); · simp only [push_cast, env, Nat.reduceEqDiff, reduceIte, Nat.reduceAdd, Nat.reduceMul, Nat.reduceLeDiff, reduceCtorEq, Nat.reduceSub, Int.reduceToNat] <;> exact rfl) | refine qw_nil ?_ | refine cw_block ?_ | refine cw_scope ?_ | refine cw_label ?_ | refine cw_skip ?_)
    have hwk := hwR.mono hp
    obtain ⟨v', hsl, hw'⟩ := rdb_slice (lo := lo) (hi := w.length) hwk (by omega) (Nat.le_refl _)
    have hsube : sub w lo w.length = w.drop lo := by unfold sub; rw [List.take_of_length_le (by simp)]
    rw [hsube] at hw'
    obtain ⟨pv', cv', rfl⟩ := hw'.form
    have hrk : RdGram hk (.agg #[i64 g.nts, i64 nt, .slice p g.rules.length c]) ⟨g.nts, nt, g.rules⟩ := ⟨_, rfl, hu.mono hp⟩
    have Rk : RightS ⟨g.nts, nt, g.rules⟩ := ⟨R.n1, R.n2, by simp only; omega, by simp only; omega, R.rl, R.r⟩
    refine cw_regionD 4 mixed (by kernel_rfl) ?_
    repeat (first | refine cw_seq ?_ | refine cw_region ?_ | refine ow_nil ?_ | ((first | apply ow_cons | apply qw_cons); · simp only [push_cast, env, Nat.reduceEqDiff, reduceIte, Nat.reduceAdd, Nat.reduceMul, Nat.reduceLeDiff, reduceCtorEq, Nat.reduceSub, Int.reduceToNat, q3] <;> exact rfl) | ((first | apply ow_spec | apply qw_spec); · simp only [push_cast, env, Nat.reduceEqDiff, reduceIte, Nat.reduceAdd, Nat.reduceMul, Nat.reduceLeDiff, reduceCtorEq, Nat.reduceSub, Int.reduceToNat, q3] <;> exact rfl) | refine qw_nil ?_ | refine cw_block ?_ | refine cw_scope ?_ | refine cw_label ?_ | refine cw_skip ?_)
    refine qw_slice (v := .slice pv' (w.drop lo).length cv') (by simp only [push_cast, env, Nat.reduceEqDiff, reduceIte, Nat.reduceAdd, Nat.reduceMul, Nat.reduceLeDiff, reduceCtorEq, Nat.reduceSub, Int.reduceToNat] <;> exact rfl) rfl (hsl _ _ _ _ rfl (by simp only [push_cast, env, Nat.reduceEqDiff, reduceIte, Nat.reduceAdd, Nat.reduceMul, Nat.reduceLeDiff, reduceCtorEq, Nat.reduceSub, Int.reduceToNat] <;> exact rfl) (by simp only [push_cast, env, Nat.reduceEqDiff, reduceIte, Nat.reduceAdd, Nat.reduceMul, Nat.reduceLeDiff, reduceCtorEq, Nat.reduceSub, Int.reduceToNat] <;> exact rfl) (by simp only [push_cast, env, Nat.reduceEqDiff, reduceIte, Nat.reduceAdd, Nat.reduceMul, Nat.reduceLeDiff, reduceCtorEq, Nat.reduceSub, Int.reduceToNat] <;> exact rfl)) ?_
    repeat (first | refine cw_seq ?_ | refine cw_region ?_ | refine ow_nil ?_ | ((first | apply ow_cons | apply qw_cons); · simp only [push_cast, env, Nat.reduceEqDiff, reduceIte, Nat.reduceAdd, Nat.reduceMul, Nat.reduceLeDiff, reduceCtorEq, Nat.reduceSub, Int.reduceToNat] <;> exact rfl) | ((first | apply ow_spec | apply qw_spec); · simp only [push_cast, env, Nat.reduceEqDiff, reduceIte, Nat.reduceAdd, Nat.reduceMul, Nat.reduceLeDiff, reduceCtorEq, Nat.reduceSub, Int.reduceToNat] <;> exact rfl) | refine qw_nil ?_ | refine cw_block ?_ | refine cw_scope ?_ | refine cw_label ?_ | refine cw_skip ?_)
    refine ow_call (fn := Try.f37) (by simp only [push_cast, env, Nat.reduceEqDiff, reduceIte, Nat.reduceAdd, Nat.reduceMul, Nat.reduceLeDiff, reduceCtorEq, Nat.reduceSub, Int.reduceToNat] <;> exact rfl) rfl (by simp only [push_cast, env, Nat.reduceEqDiff, reduceIte, Nat.reduceAdd, Nat.reduceMul, Nat.reduceLeDiff, reduceCtorEq, Nat.reduceSub, Int.reduceToNat] <;> exact rfl) (by simp only [push_cast, env, Nat.reduceEqDiff, reduceIte, Nat.reduceAdd, Nat.reduceMul, Nat.reduceLeDiff, reduceCtorEq, Nat.reduceSub, Int.reduceToNat] <;> exact rfl) Try.func37 (by kernel_rfl) (by kernel_rfl) ?_
    rw [List.append_nil]
    refine (open_fw hrk hw' Rk W (by simp; omega)).mono ?_
    rintro _ h' ⟨hB, rv, F, G, rfl, rfl, K, C, hrv⟩
    obtain ⟨g', hg'⟩ : ∃ g' : Gram, g' = ⟨g.nts, nt, g.rules⟩ := ⟨_, rfl⟩
    rw [← hg'] at K C
    have hrl : g'.rules = g.rules := by rw [hg']
    have hst : g'.start = nt := by rw [hg']
    have hnt : g'.nts = g.nts := by rw [hg']
    have hC : SpC G.h g' nt h.length (h.length + 1) := ⟨⟨nt, p, c, by rw [hrl, hnt]; exact getElem?_of_prefix K.p q3, by rw [hrl]; exact (hu.mono hp).mono K.p⟩, getElem?_of_prefix K.p q4⟩
    have hpG := hp.trans K.p
    have hGG : Grow h G.h out (spanAll (ntB g.rules nt w) w.length lo).length (runCells (spanAll (ntB g.rules nt w) w.length lo)) 50 := hG.mono fun i o _ ho => getElem?_of_prefix K.p ho
    have q3' := getElem?_of_prefix K.p q3
    have q4' := getElem?_of_prefix K.p q4
    have hSl := C.n
    rw [List.length_drop] at hSl
    have hc := K.c
    have hs := K.s
    unfold chCells at hc
    have hall := spanAll_len (P := ntB g.rules nt w) (n := w.length) lo
    have hall2 : lo * (w.length + 1) ≤ 513 * 513 := Nat.mul_le_mul (by omega) (by omega)
    have hruns : ∀ x ∈ G.S, True := fun _ _ => trivial
    have hbnd : ∀ j, j < G.S.length → ∀ x ∈ gs G.S j, x.rule < g'.rules.length := fun j hj x hx => by
      obtain ⟨r, h1, _⟩ := ((C.m j x).1 hx).sound
      exact (List.getElem?_eq_some_iff.1 h1).1
    have hany : ∀ j, j < G.S.length → (gs G.S j).any (accI g' nt) = ntB g.rules nt w lo (lo + j) := fun j hj => by
      have h1 := acc_iff C (j := j) (by rw [List.length_drop]; omega)
      rw [sub_drop, hst, hrl] at h1
      rw [Bool.eq_iff_iff, List.any_eq_true, ntB_iff]
      exact h1
    repeat (first | refine cw_seq ?_ | refine cw_region ?_ | refine ow_nil ?_ | ((first | apply ow_cons | apply qw_cons); · simp only [push_cast, env, Nat.reduceEqDiff, reduceIte, Nat.reduceAdd, Nat.reduceMul, Nat.reduceLeDiff, reduceCtorEq, Nat.reduceSub, Int.reduceToNat, hc] <;> exact rfl) | ((first | apply ow_spec | apply qw_spec); · simp only [push_cast, env, Nat.reduceEqDiff, reduceIte, Nat.reduceAdd, Nat.reduceMul, Nat.reduceLeDiff, reduceCtorEq, Nat.reduceSub, Int.reduceToNat, hc] <;> exact rfl) | refine qw_nil ?_ | refine cw_block ?_ | refine cw_scope ?_ | refine cw_label ?_ | refine cw_skip ?_)
    refine cw_forG G.S.length (fun j (x : Heap × Value) => [(1, .val (.slice pw w.length cw)), (3, .val (ptr0 h.length)), (5, .val (ptr0 (h.length + 1))), (9, .val x.2), (10, .val (i64 lo)), (44, .val (.slice (some ⟨F.si, 0, some 0⟩) G.S.length G.S.length)), (45, .val (i64 G.S.length)), (46, .val (i64 j))]) (fun _ x => x.1)
      (fun j x => KeepR G.h x.1 ∧ h <+: x.1 ∧ Grow h x.1 x.2 (spanAll (ntB g.rules nt w) w.length lo ++ spanRow (ntB g.rules nt w) lo j).length (runCells (spanAll (ntB g.rules nt w) w.length lo ++ spanRow (ntB g.rules nt w) lo j)) 50) (G.h, out) (by simp only [push_cast, SubL, fget, Nat.reduceEqDiff, reduceIte]) rfl ⟨fun _ _ _ h => h, hpG, by rw [show spanRow (ntB g.rules nt w) lo 0 = [] from rfl, List.append_nil]; exact hGG⟩ ?_
    rintro j ⟨hj, out⟩ hjn ⟨kp, hpj, hGj⟩
    simp only at kp hpj hGj ⊢
    by_cases hlt2 : j < G.S.length
    · have f2 := inc hlt2 (by omega)
      have f3 := lt_dec hlt2
      have f1 := rng hlt2
      obtain ⟨u2, cu2, hu2, gu2⟩ := K.us_at hlt2
      have hsm := C.small (hg' ▸ Rk) (by simp; omega) (k := j) (by rw [List.length_drop]; omega)
      have hI : RdItems hj (.slice u2 (gs G.S j).length cu2) (gs G.S j) := SlR.kept (gu2.sl (b := 24) (by omega)) kp (by decide)
      have hCj : SpC hj g' nt h.length (h.length + 1) := ⟨⟨nt, p, c, by rw [hrl, hnt]; exact kp _ _ (fun cs v e => by cases e) q3', by rw [hrl]; exact hu.mono hpj⟩, kp _ _ (fun cs v e => by cases e) q4'⟩
      have hs2 := kp _ _ (fun cs v e => by cases e) hs
      have e5 : IntKind.i64.wrap ((lo : Int) + (j : Int)) = ((lo + j : Nat) : Int) := by rw [wrap64_id (by omega) (by omega)]; rfl
      repeat (first | refine cw_seq ?_ | refine cw_region ?_ | refine ow_nil ?_ | ((first | apply ow_cons | apply qw_cons); · simp only [push_cast, env, Nat.reduceEqDiff, reduceIte, Nat.reduceAdd, Nat.reduceMul, Nat.reduceLeDiff, reduceCtorEq, Nat.reduceSub, Int.reduceToNat, f3] <;> exact rfl) | ((first | apply ow_spec | apply qw_spec); · simp only [push_cast, env, Nat.reduceEqDiff, reduceIte, Nat.reduceAdd, Nat.reduceMul, Nat.reduceLeDiff, reduceCtorEq, Nat.reduceSub, Int.reduceToNat, f3] <;> exact rfl) | refine qw_nil ?_ | refine cw_block ?_ | refine cw_scope ?_ | refine cw_label ?_ | refine cw_skip ?_)
      refine cw_condT (by simp only [push_cast, env, Nat.reduceEqDiff, reduceIte, Nat.reduceAdd, Nat.reduceMul, Nat.reduceLeDiff, reduceCtorEq, Nat.reduceSub, Int.reduceToNat] <;> exact rfl) ?_
      repeat (first | refine cw_seq ?_ | refine cw_region ?_ | refine ow_nil ?_ | ((first | apply ow_cons | apply qw_cons); · simp only [push_cast, env, Nat.reduceEqDiff, reduceIte, Nat.reduceAdd, Nat.reduceMul, Nat.reduceLeDiff, reduceCtorEq, Nat.reduceSub, Int.reduceToNat, hs2, f1, hu2, Nat.mul_one] <;> exact rfl) | ((first | apply ow_spec | apply qw_spec); · simp only [push_cast, env, Nat.reduceEqDiff, reduceIte, Nat.reduceAdd, Nat.reduceMul, Nat.reduceLeDiff, reduceCtorEq, Nat.reduceSub, Int.reduceToNat, hs2, f1, hu2, Nat.mul_one] <;> exact rfl) | refine qw_nil ?_ | refine cw_block ?_ | refine cw_scope ?_ | refine cw_label ?_ | refine cw_skip ?_)
      refine ow_call (fn := Try.f41) (by simp only [push_cast, env, Nat.reduceEqDiff, reduceIte, Nat.reduceAdd, Nat.reduceMul, Nat.reduceLeDiff, reduceCtorEq, Nat.reduceSub, Int.reduceToNat] <;> exact rfl) rfl (by simp only [push_cast, env, Nat.reduceEqDiff, reduceIte, Nat.reduceAdd, Nat.reduceMul, Nat.reduceLeDiff, reduceCtorEq, Nat.reduceSub, Int.reduceToNat] <;> exact rfl) (by simp only [push_cast, env, Nat.reduceEqDiff, reduceIte, Nat.reduceAdd, Nat.reduceMul, Nat.reduceLeDiff, reduceCtorEq, Nat.reduceSub, Int.reduceToNat] <;> exact rfl) Try.func41 (by kernel_rfl) (by kernel_rfl) ?_
      rw [List.append_nil]
      refine (contains_fw hCj hI (hbnd j hlt2)).mono ?_
      rintro _ hj ⟨rfl, rfl⟩
      rw [hany j hlt2]
      have hrow := spanRow_succ (P := ntB g.rules nt w) (lo := lo) (k := j)
      have hrlen := spanRow_len (P := ntB g.rules nt w) (lo := lo) (k := j)
      cases hb2 : ntB g.rules nt w lo (lo + j) with
      | true =>
        rw [hb2, if_pos rfl] at hrow
        obtain ⟨po, co, rfl⟩ := hGj.form
        repeat (first | refine cw_seq ?_ | refine cw_region ?_ | refine ow_nil ?_ | ((first | apply ow_cons | apply qw_cons); · simp only [push_cast, env, Nat.reduceEqDiff, reduceIte, Nat.reduceAdd, Nat.reduceMul, Nat.reduceLeDiff, reduceCtorEq, Nat.reduceSub, Int.reduceToNat] <;> exact rfl) | ((first | apply ow_spec | apply qw_spec); · simp only [push_cast, env, Nat.reduceEqDiff, reduceIte, Nat.reduceAdd, Nat.reduceMul, Nat.reduceLeDiff, reduceCtorEq, Nat.reduceSub, Int.reduceToNat] <;> exact rfl) | refine qw_nil ?_ | refine cw_block ?_ | refine cw_scope ?_ | refine cw_label ?_ | refine cw_skip ?_)
        refine cw_condT (by simp only [push_cast, env, Nat.reduceEqDiff, reduceIte, Nat.reduceAdd, Nat.reduceMul, Nat.reduceLeDiff, reduceCtorEq, Nat.reduceSub, Int.reduceToNat] <;> exact rfl) ?_
        repeat (first | refine cw_seq ?_ | refine cw_region ?_ | refine ow_nil ?_ | ((first | apply ow_cons | apply qw_cons); · simp only [push_cast, env, Nat.reduceEqDiff, reduceIte, Nat.reduceAdd, Nat.reduceMul, Nat.reduceLeDiff, reduceCtorEq, Nat.reduceSub, Int.reduceToNat, e5] <;> exact rfl) | ((first | apply ow_spec | apply qw_spec); · simp only [push_cast, env, Nat.reduceEqDiff, reduceIte, Nat.reduceAdd, Nat.reduceMul, Nat.reduceLeDiff, reduceCtorEq, Nat.reduceSub, Int.reduceToNat, e5] <;> exact rfl) | refine qw_nil ?_ | refine cw_block ?_ | refine cw_scope ?_ | refine cw_label ?_ | refine cw_skip ?_)
        refine ow_push (t := 33) (by simp only [push_cast, env, Nat.reduceEqDiff, reduceIte, Nat.reduceAdd, Nat.reduceMul, Nat.reduceLeDiff, reduceCtorEq, Nat.reduceSub, Int.reduceToNat] <;> exact rfl) rfl (by kernel_rfl) ti50 (by decide) rfl (by simp only [push_cast, env, Nat.reduceEqDiff, reduceIte, Nat.reduceAdd, Nat.reduceMul, Nat.reduceLeDiff, reduceCtorEq, Nat.reduceSub, Int.reduceToNat] <;> exact rfl) rfl hGj hpj (by unfold runCells; exact flat_len (k := 2) (fun _ => rfl) _) rfl (by simp only [List.length_append]; omega) (by simp only [List.length_append]; omega) ?_
        intro p6 c6 h6 G6 hp6 hk6 hl6
        repeat (first | refine cw_seq ?_ | refine cw_region ?_ | refine ow_nil ?_ | ((first | apply ow_cons | apply qw_cons); · simp only [push_cast, env, Nat.reduceEqDiff, reduceIte, Nat.reduceAdd, Nat.reduceMul, Nat.reduceLeDiff, reduceCtorEq, Nat.reduceSub, Int.reduceToNat, f2] <;> exact rfl) | ((first | apply ow_spec | apply qw_spec); · simp only [push_cast, env, Nat.reduceEqDiff, reduceIte, Nat.reduceAdd, Nat.reduceMul, Nat.reduceLeDiff, reduceCtorEq, Nat.reduceSub, Int.reduceToNat, f2] <;> exact rfl) | refine qw_nil ?_ | refine cw_block ?_ | refine cw_scope ?_ | refine cw_label ?_ | refine cw_skip ?_)
        refine ⟨hlt2, (h6, .slice p6 ((spanAll (ntB g.rules nt w) w.length lo ++ spanRow (ntB g.rules nt w) lo j).length + 1) c6), (by simp only [push_cast, SubL, fget, Nat.reduceEqDiff, reduceIte]), rfl, fun i o ho hi => ?_, hp6, ?_⟩
        · refine hk6 i o ?_ (kp i o ho hi)
          cases hq : isAt (.slice po (spanAll (ntB g.rules nt w) w.length lo ++ spanRow (ntB g.rules nt w) lo j).length co) i with
          | false => rfl
          | true =>
            obtain ⟨ve, h5⟩ := hGj.obj hq
            rw [kp i o ho hi] at h5
            exact (ho _ _ (Option.some.inj h5)).elim
        · simp only
          rw [hrow, ← List.append_assoc, List.length_append (bs := [(lo, lo + j)])]
          have : runCells (spanAll (ntB g.rules nt w) w.length lo ++ spanRow (ntB g.rules nt w) lo j ++ [(lo, lo + j)]) = runCells (spanAll (ntB g.rules nt w) w.length lo ++ spanRow (ntB g.rules nt w) lo j) ++ [i64 lo, i64 ((lo + j : Nat) : Int)] := by
            unfold runCells
            rw [List.flatMap_append]
            rfl
          rw [this]
          exact G6
      | false =>
        rw [hb2, if_neg (by simp), List.append_nil] at hrow
        repeat (first | refine cw_seq ?_ | refine cw_region ?_ | refine ow_nil ?_ | ((first | apply ow_cons | apply qw_cons); · simp only [push_cast, env, Nat.reduceEqDiff, reduceIte, Nat.reduceAdd, Nat.reduceMul, Nat.reduceLeDiff, reduceCtorEq, Nat.reduceSub, Int.reduceToNat] <;> exact rfl) | ((first | apply ow_spec | apply qw_spec); · simp only [push_cast, env, Nat.reduceEqDiff, reduceIte, Nat.reduceAdd, Nat.reduceMul, Nat.reduceLeDiff, reduceCtorEq, Nat.reduceSub, Int.reduceToNat] <;> exact rfl) | refine qw_nil ?_ | refine cw_block ?_ | refine cw_scope ?_ | refine cw_label ?_ | refine cw_skip ?_)
        refine cw_condF (by simp only [push_cast, env, Nat.reduceEqDiff, reduceIte, Nat.reduceAdd, Nat.reduceMul, Nat.reduceLeDiff, reduceCtorEq, Nat.reduceSub, Int.reduceToNat] <;> exact rfl) ?_
        repeat (first | refine cw_seq ?_ | refine cw_region ?_ | refine ow_nil ?_ | ((first | apply ow_cons | apply qw_cons); · simp only [push_cast, env, Nat.reduceEqDiff, reduceIte, Nat.reduceAdd, Nat.reduceMul, Nat.reduceLeDiff, reduceCtorEq, Nat.reduceSub, Int.reduceToNat, f2] <;> exact rfl) | ((first | apply ow_spec | apply qw_spec); · simp only [push_cast, env, Nat.reduceEqDiff, reduceIte, Nat.reduceAdd, Nat.reduceMul, Nat.reduceLeDiff, reduceCtorEq, Nat.reduceSub, Int.reduceToNat, f2] <;> exact rfl) | refine qw_nil ?_ | refine cw_block ?_ | refine cw_scope ?_ | refine cw_label ?_ | refine cw_skip ?_)
        exact ⟨hlt2, (hj, out), (by simp only [push_cast, SubL, fget, Nat.reduceEqDiff, reduceIte]), rfl, kp, hpj, by simp only; rw [hrow]; exact hGj⟩
    · have e3e := ge_dec hlt2
      obtain rfl : j = G.S.length := by omega
      repeat (first | refine cw_seq ?_ | refine cw_region ?_ | refine ow_nil ?_ | ((first | apply ow_cons | apply qw_cons); · simp only [push_cast, env, Nat.reduceEqDiff, reduceIte, Nat.reduceAdd, Nat.reduceMul, Nat.reduceLeDiff, reduceCtorEq, Nat.reduceSub, Int.reduceToNat, e3e] <;> exact rfl) | ((first | apply ow_spec | apply qw_spec); · simp only [push_cast, env, Nat.reduceEqDiff, reduceIte, Nat.reduceAdd, Nat.reduceMul, Nat.reduceLeDiff, reduceCtorEq, Nat.reduceSub, Int.reduceToNat, e3e] <;> exact rfl) | refine qw_nil ?_ | refine cw_block ?_ | refine cw_scope ?_ | refine cw_label ?_ | refine cw_skip ?_)
      refine cw_condF (by simp only [push_cast, env, Nat.reduceEqDiff, reduceIte, Nat.reduceAdd, Nat.reduceMul, Nat.reduceLeDiff, reduceCtorEq, Nat.reduceSub, Int.reduceToNat] <;> exact rfl) ?_
      refine cw_exit ?_
      show CW _ _ _ _
      repeat (first | refine cw_seq ?_ | refine cw_region ?_ | refine ow_nil ?_ | ((first | apply ow_cons | apply qw_cons); · simp only [push_cast, env, Nat.reduceEqDiff, reduceIte, Nat.reduceAdd, Nat.reduceMul, Nat.reduceLeDiff, reduceCtorEq, Nat.reduceSub, Int.reduceToNat, e2] <;> exact rfl) | ((first | apply ow_spec | apply qw_spec); · simp only [push_cast, env, Nat.reduceEqDiff, reduceIte, Nat.reduceAdd, Nat.reduceMul, Nat.reduceLeDiff, reduceCtorEq, Nat.reduceSub, Int.reduceToNat, e2] <;> exact rfl) | refine qw_nil ?_ | refine cw_block ?_ | refine cw_scope ?_ | refine cw_label ?_ | refine cw_skip ?_)
      refine ⟨hlt, (hj, out), (by simp only [push_cast, SubL, fget, Nat.reduceEqDiff, reduceIte]), rfl, hpj, kp _ _ (fun cs v e => by cases e) q3', kp _ _ (fun cs v e => by cases e) q4', ?_⟩
      simp only
      rw [spanAll_succ, show w.length + 1 - lo = G.S.length by omega]
      exact hGj
  · have e3 : decide ((lo : Int) ≤ (w.length : Int)) = false := decide_eq_false (by omega)
    obtain rfl : lo = w.length + 1 := by omega
    have e3 : decide ((w.length : Int) + 1 ≤ (w.length : Int)) = false := decide_eq_false (by omega)
    repeat (first | refine cw_seq ?_ | refine cw_region ?_ | refine ow_nil ?_ | ((first | apply ow_cons | apply qw_cons); · simp only [push_cast, env, Nat.reduceEqDiff, reduceIte, Nat.reduceAdd, Nat.reduceMul, Nat.reduceLeDiff, reduceCtorEq, Nat.reduceSub, Int.reduceToNat, e3] <;> exact rfl) | ((first | apply ow_spec | apply qw_spec); · simp only [push_cast, env, Nat.reduceEqDiff, reduceIte, Nat.reduceAdd, Nat.reduceMul, Nat.reduceLeDiff, reduceCtorEq, Nat.reduceSub, Int.reduceToNat, e3] <;> exact rfl) | refine qw_nil ?_ | refine cw_block ?_ | refine cw_scope ?_ | refine cw_label ?_ | refine cw_skip ?_)
    refine cw_condF (by simp only [push_cast, env, Nat.reduceEqDiff, reduceIte, Nat.reduceAdd, Nat.reduceMul, Nat.reduceLeDiff, reduceCtorEq, Nat.reduceSub, Int.reduceToNat] <;> exact rfl) ?_
    refine cw_exit ?_
    show CW _ _ _ _
    repeat (first | refine cw_seq ?_ | refine cw_region ?_ | refine ow_nil ?_ | ((first | apply ow_cons | apply qw_cons); · simp only [push_cast, env, Nat.reduceEqDiff, reduceIte, Nat.reduceAdd, Nat.reduceMul, Nat.reduceLeDiff, reduceCtorEq, Nat.reduceSub, Int.reduceToNat] <;> exact rfl) | ((first | apply ow_spec | apply qw_spec); · simp only [push_cast, env, Nat.reduceEqDiff, reduceIte, Nat.reduceAdd, Nat.reduceMul, Nat.reduceLeDiff, reduceCtorEq, Nat.reduceSub, Int.reduceToNat] <;> exact rfl) | refine qw_nil ?_ | refine cw_block ?_ | refine cw_scope ?_ | refine cw_label ?_ | refine cw_skip ?_)
    refine cw_ret ?_
    exact ⟨_, (by simp only [push_cast, env, Nat.reduceEqDiff, reduceIte, Nat.reduceAdd, Nat.reduceMul, Nat.reduceLeDiff, reduceCtorEq, Nat.reduceSub, Int.reduceToNat] <;> exact rfl), ⟨out, 0, rfl, .inr (.inr ⟨hf, by omega, by omega, rfl, hG⟩)⟩, hp⟩
end Go.Proofs.Ytafncpgiibikcaa

/- The reference's Fit, Accepts, Spans; equal lists of runs; which work is too much. -/
namespace Go.Proofs.Ytafncpgiibikcaa
set_option linter.unusedSimpArgs false
set_option linter.unusedVariables false
set_option maxRecDepth 20000
open Go.RowKit Am Ty

/-- work that a statement takes -/
def Light (g : Gram) (w : List Nat) : Prop := g.nts.toNat * (w.length + 1) * (w.length + 1) ≤ 1000000
def heavy7 (g : Gram) (w : List Nat) : Bool := (decide (16 < w.length) && decide (w.length ≤ 512)) || decide (heavyP g 160)
theorem heavy7_fw {h : Heap} {g : Gram} {v wv : Value} {w : List Nat} (hr : RdGram h v g) (hw : RdB h wv w) (hn : -9223372036854775808 ≤ g.nts) : FW env 13 [v, wv] h fun r h' => r = .bool (heavy7 g w) ∧ h' = h := by
  obtain ⟨u, rfl, hu⟩ := id hr
  obtain ⟨p, c, rfl⟩ := hu.form
  obtain ⟨pw, cw, rfl⟩ := hw.form
  unfold heavy7
  refine fw_enter (fn := Try.f13) Try.func13 rfl (by kernel_rfl) (by simp [Try.ntmps13]) ?_; simp only [push_cast]
  by_cases h1 : 16 < w.length
  · have d1 : decide ((16 : Int) < (w.length : Int)) = true := decide_eq_true (by omega)
    rw [decide_eq_true h1]
    by_cases h2 : w.length ≤ 512
    · have d2 : decide ((w.length : Int) ≤ 512) = true := decide_eq_true (by omega)
      rw [decide_eq_true h2]
      repeat (first | refine cw_seq ?_ | refine cw_region ?_ | refine ow_nil ?_ | ((first | apply ow_cons | apply qw_cons); · simp only [push_cast, env, Nat.reduceEqDiff, reduceIte, Nat.reduceAdd, Nat.reduceMul, Nat.reduceLeDiff, reduceCtorEq, Nat.reduceSub, Int.reduceToNat, d1, d2] <;> exact rfl) | ((first | apply ow_spec | apply qw_spec); · simp only [push_cast, env, Nat.reduceEqDiff, reduceIte, Nat.reduceAdd, Nat.reduceMul, Nat.reduceLeDiff, reduceCtorEq, Nat.reduceSub, Int.reduceToNat, d1, d2] <;> exact rfl) | refine qw_nil ?_ | refine cw_block ?_ | refine cw_scope ?_ | refine cw_label ?_ | refine cw_skip ?_)
      refine cw_ret ?_
      exact ⟨_, (by simp only [push_cast, env, Nat.reduceEqDiff, reduceIte, Nat.reduceAdd, Nat.reduceMul, Nat.reduceLeDiff, reduceCtorEq, Nat.reduceSub, Int.reduceToNat] <;> exact rfl), rfl, rfl⟩
    · have d2 : decide ((w.length : Int) ≤ 512) = false := decide_eq_false (by omega)
      rw [decide_eq_false h2]
      repeat (first | refine cw_seq ?_ | refine cw_region ?_ | refine ow_nil ?_ | ((first | apply ow_cons | apply qw_cons); · simp only [push_cast, env, Nat.reduceEqDiff, reduceIte, Nat.reduceAdd, Nat.reduceMul, Nat.reduceLeDiff, reduceCtorEq, Nat.reduceSub, Int.reduceToNat, d1, d2] <;> exact rfl) | ((first | apply ow_spec | apply qw_spec); · simp only [push_cast, env, Nat.reduceEqDiff, reduceIte, Nat.reduceAdd, Nat.reduceMul, Nat.reduceLeDiff, reduceCtorEq, Nat.reduceSub, Int.reduceToNat, d1, d2] <;> exact rfl) | refine qw_nil ?_ | refine cw_block ?_ | refine cw_scope ?_ | refine cw_label ?_ | refine cw_skip ?_)
      refine ow_call (fn := Try.f34) (by simp only [push_cast, env, Nat.reduceEqDiff, reduceIte, Nat.reduceAdd, Nat.reduceMul, Nat.reduceLeDiff, reduceCtorEq, Nat.reduceSub, Int.reduceToNat] <;> exact rfl) rfl (by simp only [push_cast, env, Nat.reduceEqDiff, reduceIte, Nat.reduceAdd, Nat.reduceMul, Nat.reduceLeDiff, reduceCtorEq, Nat.reduceSub, Int.reduceToNat] <;> exact rfl) (by simp only [push_cast, env, Nat.reduceEqDiff, reduceIte, Nat.reduceAdd, Nat.reduceMul, Nat.reduceLeDiff, reduceCtorEq, Nat.reduceSub, Int.reduceToNat] <;> exact rfl) Try.func34 (by kernel_rfl) (by kernel_rfl) ?_
      rw [List.append_nil]
      refine (heavy_fw hr hn (by decide)).mono ?_
      rintro _ h ⟨rfl, rfl⟩
      repeat (first | refine cw_seq ?_ | refine cw_region ?_ | refine ow_nil ?_ | ((first | apply ow_cons | apply qw_cons); · simp only [push_cast, env, Nat.reduceEqDiff, reduceIte, Nat.reduceAdd, Nat.reduceMul, Nat.reduceLeDiff, reduceCtorEq, Nat.reduceSub, Int.reduceToNat] <;> exact rfl) | ((first | apply ow_spec | apply qw_spec); · simp only [push_cast, env, Nat.reduceEqDiff, reduceIte, Nat.reduceAdd, Nat.reduceMul, Nat.reduceLeDiff, reduceCtorEq, Nat.reduceSub, Int.reduceToNat] <;> exact rfl) | refine qw_nil ?_ | refine cw_block ?_ | refine cw_scope ?_ | refine cw_label ?_ | refine cw_skip ?_)
      refine cw_ret ?_
      exact ⟨_, (by simp only [push_cast, env, Nat.reduceEqDiff, reduceIte, Nat.reduceAdd, Nat.reduceMul, Nat.reduceLeDiff, reduceCtorEq, Nat.reduceSub, Int.reduceToNat] <;> exact rfl), rfl, rfl⟩
  · have d1 : decide ((16 : Int) < (w.length : Int)) = false := decide_eq_false (by omega)
    rw [decide_eq_false h1]
    repeat (first | refine cw_seq ?_ | refine cw_region ?_ | refine ow_nil ?_ | ((first | apply ow_cons | apply qw_cons); · simp only [push_cast, env, Nat.reduceEqDiff, reduceIte, Nat.reduceAdd, Nat.reduceMul, Nat.reduceLeDiff, reduceCtorEq, Nat.reduceSub, Int.reduceToNat, d1] <;> exact rfl) | ((first | apply ow_spec | apply qw_spec); · simp only [push_cast, env, Nat.reduceEqDiff, reduceIte, Nat.reduceAdd, Nat.reduceMul, Nat.reduceLeDiff, reduceCtorEq, Nat.reduceSub, Int.reduceToNat, d1] <;> exact rfl) | refine qw_nil ?_ | refine cw_block ?_ | refine cw_scope ?_ | refine cw_label ?_ | refine cw_skip ?_)
    refine ow_call (fn := Try.f34) (by simp only [push_cast, env, Nat.reduceEqDiff, reduceIte, Nat.reduceAdd, Nat.reduceMul, Nat.reduceLeDiff, reduceCtorEq, Nat.reduceSub, Int.reduceToNat] <;> exact rfl) rfl (by simp only [push_cast, env, Nat.reduceEqDiff, reduceIte, Nat.reduceAdd, Nat.reduceMul, Nat.reduceLeDiff, reduceCtorEq, Nat.reduceSub, Int.reduceToNat] <;> exact rfl) (by simp only [push_cast, env, Nat.reduceEqDiff, reduceIte, Nat.reduceAdd, Nat.reduceMul, Nat.reduceLeDiff, reduceCtorEq, Nat.reduceSub, Int.reduceToNat] <;> exact rfl) Try.func34 (by kernel_rfl) (by kernel_rfl) ?_
    rw [List.append_nil]
    refine (heavy_fw hr hn (by decide)).mono ?_
    rintro _ h ⟨rfl, rfl⟩
    repeat (first | refine cw_seq ?_ | refine cw_region ?_ | refine ow_nil ?_ | ((first | apply ow_cons | apply qw_cons); · simp only [push_cast, env, Nat.reduceEqDiff, reduceIte, Nat.reduceAdd, Nat.reduceMul, Nat.reduceLeDiff, reduceCtorEq, Nat.reduceSub, Int.reduceToNat] <;> exact rfl) | ((first | apply ow_spec | apply qw_spec); · simp only [push_cast, env, Nat.reduceEqDiff, reduceIte, Nat.reduceAdd, Nat.reduceMul, Nat.reduceLeDiff, reduceCtorEq, Nat.reduceSub, Int.reduceToNat] <;> exact rfl) | refine qw_nil ?_ | refine cw_block ?_ | refine cw_scope ?_ | refine cw_label ?_ | refine cw_skip ?_)
    refine cw_ret ?_
    exact ⟨_, (by simp only [push_cast, env, Nat.reduceEqDiff, reduceIte, Nat.reduceAdd, Nat.reduceMul, Nat.reduceLeDiff, reduceCtorEq, Nat.reduceSub, Int.reduceToNat] <;> exact rfl), rfl, rfl⟩
theorem light_of {g : Gram} {w : List Nat} (h : heavy7 g w = false) : fitE g w = 0 → Light g w := fun hf => by
  obtain ⟨_, hw⟩ := fitE_ok.1 hf
  unfold heavy7 at h
  simp only [Bool.or_eq_false_iff, Bool.and_eq_false_iff, decide_eq_false_iff_not] at h
  have h2 : ¬ heavyP g 160 := h.2
  unfold heavyP at h2
  have hn : g.nts.toNat ≤ 160 := by omega
  have hl : w.length + 1 ≤ 17 := by omega
  unfold Light
  have := Nat.mul_le_mul (Nat.mul_le_mul hn hl) hl
  omega
end Go.Proofs.Ytafncpgiibikcaa

/- Plain facts: the fixed calls of the laws of layer 7. -/
namespace Go.Proofs.Ytafncpgiibikcaa
set_option linter.unusedSimpArgs false
set_option linter.unusedVariables false

/-- no rule makes more -/
def closedB (g : Gram) (w : List Nat) (S : List (List Item)) : Bool :=
  ((List.range g.rules.length).all fun q => match g.rules[q]? with
    | some r => !decide (r.lhs = g.start) || decide ((⟨q, 0, 0⟩ : Item) ∈ gs S 0)
    | none => true) &&
  (List.range (w.length + 1)).all fun k => (gs S k).all fun x => match g.rules[x.rule]? with
    | none => true
    | some r => match r.rhs[x.dot]? with
      | some s => if s.nt < 0 then (match w[k]? with
          | some b => !s.set.has b || decide (adv x ∈ gs S (k + 1))
          | none => true) else (List.range g.rules.length).all fun q => match g.rules[q]? with
          | some r' => !decide (r'.lhs = s.nt) || decide ((⟨q, 0, k⟩ : Item) ∈ gs S k)
          | none => true
      | none => (gs S x.frm).all fun y => match g.rules[y.rule]? with
        | some r' => (match r'.rhs[y.dot]? with
          | some s => !decide (s.nt = r.lhs) || decide (adv y ∈ gs S k)
          | none => true)
        | none => true
theorem closedB_it {g : Gram} {w : List Nat} {S : List (List Item)} (h : closedB g w S = true) {j : Nat} {x : Item} (hx : It g w j x) : x ∈ gs S j := by
  unfold closedB at h
  rw [Bool.and_eq_true] at h
  obtain ⟨h1, h2⟩ := h
  rw [List.all_eq_true] at h1 h2
  have hj : ∀ {j : Nat} {x : Item}, It g w j x → j ∈ List.range (w.length + 1) := fun {j x} h => by
    obtain ⟨_, _, _, _, k⟩ := h.sound
    have := k.2.1
    exact List.mem_range.2 (by omega)
  induction hx with
  | init q r k1 k2 =>
    have := h1 q (List.mem_range.2 (List.getElem?_eq_some_iff.1 k1).1)
    rw [k1] at this
    simpa [k2] using this
  | pred j x r s q r' k1 k2 k3 k4 k5 k6 ih =>
    have := h2 j (hj k1)
    rw [List.all_eq_true] at this
    have := this x ih
    rw [k2] at this
    simp only [k3] at this
    rw [if_neg (by omega), List.all_eq_true] at this
    have := this q (List.mem_range.2 (List.getElem?_eq_some_iff.1 k5).1)
    rw [k5] at this
    simpa [k6] using this
  | scan j x r s b k1 k2 k3 k4 k5 k6 ih =>
    have := h2 j (hj k1)
    rw [List.all_eq_true] at this
    have := this x ih
    rw [k2] at this
    simp only [k3] at this
    rw [if_pos k4, k5] at this
    simp only [k6, Bool.not_true, Bool.false_or, decide_eq_true_eq] at this
    exact this
  | comp j x r y r' s k1 k2 k3 k4 k5 k6 k7 k8 ih1 ih2 =>
    have := h2 j (hj k1)
    rw [List.all_eq_true] at this
    have := this x ih1
    rw [k2] at this
    simp only [List.getElem?_eq_none (show r.rhs.length ≤ x.dot by omega)] at this
    rw [List.all_eq_true] at this
    have := this y ih2
    rw [k5] at this
    simp only [k6, k8, decide_true, Bool.not_true, Bool.false_or, decide_eq_true_eq] at this
    exact this

def symE : KSym := ⟨0, ⟨0, 0, 0, 0⟩⟩
def symP : KSym := ⟨-1, ⟨8796093022208, 0, 0, 0⟩⟩
def symD : KSym := ⟨-1, ⟨287948901175001088, 0, 0, 0⟩⟩
/-- E > E "+" E, E > digit -/
def sumG : Gram := ⟨1, 0, [⟨0, [symE, symP, symE]⟩, ⟨0, [symD]⟩]⟩
theorem sum_digit : NtTx sumG.rules 0 [49] := ⟨⟨0, [symD]⟩, by decide, rfl, .term symD [] 49 [] (by decide) (by decide +kernel) .nil⟩
theorem sum_sum : NtTx sumG.rules 0 [49, 43, 49] := by
  obtain ⟨r, h1, h2, h3⟩ := sum_digit
  exact ⟨⟨0, [symE, symP, symE]⟩, by decide, rfl, .non symE [symP, symE] r [49] [43, 49] (by decide) h1 h2 h3 (.term symP [symE] 43 [49] (by decide) (by decide +kernel) (by
    have := Tx.non symE [] r [49] [] (by decide) h1 h2 h3 .nil
    simpa using this))⟩
def sumY (a i j : Nat) : Bool := a == 0 && ((i == 0 && j == 1) || (i == 0 && j == 3) || (i == 2 && j == 3))
def closedT (R : List Rule) (w : List Nat) (yf : Nat → Nat → Nat → Bool) : Bool := R.all fun r => (List.range (w.length + 1)).all fun i => (List.range (w.length + 1)).all fun j => decide (j < i) || !endB yf w r.rhs i r.rhs.length j || yf r.lhs.toNat i j
theorem closedT_ok {R : List Rule} {w : List Nat} {yf : Nat → Nat → Nat → Bool} (h : closedT R w yf = true) : TClosed R w yf := fun r hr i j hij hj he => by
  unfold closedT at h
  rw [List.all_eq_true] at h
  have h1 := h r hr
  rw [List.all_eq_true] at h1
  have h2 := h1 i (List.mem_range.2 (by omega))
  rw [List.all_eq_true] at h2
  have h3 := h2 j (List.mem_range.2 (by omega))
  rw [he] at h3
  simp only [Bool.not_true, Bool.or_false, Bool.or_eq_true, decide_eq_true_eq] at h3
  rcases h3 with h3 | h3
  · omega
  · exact h3
theorem sum_spans (i j : Nat) (hij : i ≤ j) (hj : j ≤ 3) : NtTx sumG.rules 0 (sub [49, 43, 49] i j) ↔ sumY 0 i j = true := by
  constructor
  · exact closed_full (closedT_ok (by decide +kernel)) 0 i j hij hj
  · intro h
    unfold sumY at h
    simp only [beq_self_eq_true, Bool.true_and, Bool.or_eq_true, Bool.and_eq_true, beq_iff_eq] at h
    rcases h with (⟨rfl, rfl⟩ | ⟨rfl, rfl⟩) | ⟨rfl, rfl⟩
    · exact sum_digit
    · exact sum_sum
    · exact sum_digit
def sumS : List (List Item) := [[⟨0, 0, 0⟩, ⟨1, 0, 0⟩], [⟨1, 1, 0⟩, ⟨0, 1, 0⟩], [⟨0, 2, 0⟩, ⟨0, 0, 2⟩, ⟨1, 0, 2⟩], []]
theorem sum_last {S : List (List Item)} (C : ∀ k x, x ∈ gs S k ↔ It sumG [49, 43, 43] k x) : gs S 3 = [] ∧ gs S 2 ≠ [] := by
  have hc : closedB sumG [49, 43, 43] sumS = true := by decide +kernel
  constructor
  · refine List.eq_nil_iff_forall_not_mem.2 fun x hx => ?_
    have := closedB_it hc ((C 3 x).1 hx)
    simp [gs, sumS] at this
  · intro h
    have i1 : It sumG [49, 43, 43] 0 ⟨1, 0, 0⟩ := .init 1 _ rfl rfl
    have i2 : It sumG [49, 43, 43] 1 ⟨1, 1, 0⟩ := .scan 0 ⟨1, 0, 0⟩ _ symD 49 i1 rfl rfl (by decide) rfl (by decide +kernel)
    have i3 : It sumG [49, 43, 43] 0 ⟨0, 0, 0⟩ := .init 0 _ rfl rfl
    have i4 : It sumG [49, 43, 43] 1 ⟨0, 1, 0⟩ := .comp 1 ⟨1, 1, 0⟩ _ ⟨0, 0, 0⟩ _ symE i2 rfl rfl i3 rfl rfl (by decide) rfl
    have i5 : It sumG [49, 43, 43] 2 ⟨0, 2, 0⟩ := .scan 1 ⟨0, 1, 0⟩ _ symP 43 i4 rfl rfl (by decide) rfl (by decide +kernel)
    have := (C 2 _).2 i5
    rw [h] at this
    cases this
end Go.Proofs.Ytafncpgiibikcaa

/- The fixed calls of the laws of layer 7. -/
namespace Go.Proofs.Ytafncpgiibikcaa
set_option linter.unusedSimpArgs false
set_option linter.unusedVariables false
set_option maxRecDepth 20000
open Go.RowKit Am Ty

theorem rdsyms_fresh {h : Heap} {id : Nat} {l : List KSym} (hl : l.length ≤ 1000000) (hg : h[id]? = some (.arr (l.flatMap KSym.cells) 0 true 43)) : RdSyms h (.slice (some ⟨id, 0, some 0⟩) l.length l.length) l := ⟨by omega, .inr ⟨id, 0, true, _, rfl, hg⟩⟩
set_option maxHeartbeats 4000000 in
theorem sum_fw {h : Heap} : FW env 35 [] h fun r h' => RdGram h' r sumG ∧ h <+: h' := by
  refine fw_enter (fn := Try.f35) Try.func35 rfl (by kernel_rfl) (by simp [Try.ntmps35]) ?_; simp only [push_cast]
  repeat (first | refine cw_seq ?_ | refine cw_region ?_ | refine ow_nil ?_ | refine qw_nil ?_ | refine cw_block ?_ | refine cw_scope ?_ | refine cw_label ?_ | refine cw_skip ?_)
  iterate 1 (apply ow_cons; · simp only [push_cast, env, Nat.reduceEqDiff, reduceIte, Nat.reduceAdd, Nat.reduceMul, Nat.reduceLeDiff, reduceCtorEq, Nat.reduceSub, Int.reduceToNat] <;> exact rfl)
  repeat (first | refine cw_seq ?_ | refine cw_region ?_ | refine ow_nil ?_ | refine qw_nil ?_ | refine cw_block ?_ | refine cw_scope ?_ | refine cw_label ?_ | refine cw_skip ?_)
  iterate 8 (apply ow_cons; · simp only [push_cast, env, Nat.reduceEqDiff, reduceIte, Nat.reduceAdd, Nat.reduceMul, Nat.reduceLeDiff, reduceCtorEq, Nat.reduceSub, Int.reduceToNat] <;> exact rfl)
  repeat (first | refine cw_seq ?_ | refine cw_region ?_ | refine ow_nil ?_ | refine qw_nil ?_ | refine cw_block ?_ | refine cw_scope ?_ | refine cw_label ?_ | refine cw_skip ?_)
  iterate 3 (apply ow_cons; · simp only [push_cast, env, Nat.reduceEqDiff, reduceIte, Nat.reduceAdd, Nat.reduceMul, Nat.reduceLeDiff, reduceCtorEq, Nat.reduceSub, Int.reduceToNat] <;> exact rfl)
  repeat (first | refine cw_seq ?_ | refine cw_region ?_ | refine ow_nil ?_ | refine qw_nil ?_ | refine cw_block ?_ | refine cw_scope ?_ | refine cw_label ?_ | refine cw_skip ?_)
  iterate 3 (apply ow_cons; · simp only [push_cast, env, Nat.reduceEqDiff, reduceIte, Nat.reduceAdd, Nat.reduceMul, Nat.reduceLeDiff, reduceCtorEq, Nat.reduceSub, Int.reduceToNat] <;> exact rfl)
  refine ow_bslH (by simp only [push_cast, env, Nat.reduceEqDiff, reduceIte, Nat.reduceAdd, Nat.reduceMul, Nat.reduceLeDiff, reduceCtorEq, Nat.reduceSub, Int.reduceToNat] <;> exact rfl) (by simp only [push_cast, env, Nat.reduceEqDiff, reduceIte, Nat.reduceAdd, Nat.reduceMul, Nat.reduceLeDiff, reduceCtorEq, Nat.reduceSub, Int.reduceToNat] <;> exact rfl) ?_
  simp only [St.putO, St.put]
  iterate 2 (apply ow_cons; · simp only [push_cast, env, Nat.reduceEqDiff, reduceIte, Nat.reduceAdd, Nat.reduceMul, Nat.reduceLeDiff, reduceCtorEq, Nat.reduceSub, Int.reduceToNat] <;> exact rfl)
  refine ow_bslH (by simp only [push_cast, env, Nat.reduceEqDiff, reduceIte, Nat.reduceAdd, Nat.reduceMul, Nat.reduceLeDiff, reduceCtorEq, Nat.reduceSub, Int.reduceToNat] <;> exact rfl) (by simp only [push_cast, env, Nat.reduceEqDiff, reduceIte, Nat.reduceAdd, Nat.reduceMul, Nat.reduceLeDiff, reduceCtorEq, Nat.reduceSub, Int.reduceToNat] <;> exact rfl) ?_
  simp only [St.putO, St.put, List.length_append, List.length_cons, List.length_nil, Nat.zero_add, List.append_assoc, List.cons_append, List.nil_append]
  iterate 1 (apply ow_cons; · simp only [push_cast, env, Nat.reduceEqDiff, reduceIte, Nat.reduceAdd, Nat.reduceMul, Nat.reduceLeDiff, reduceCtorEq, Nat.reduceSub, Int.reduceToNat] <;> exact rfl)
  refine ow_bslH (by simp only [push_cast, env, Nat.reduceEqDiff, reduceIte, Nat.reduceAdd, Nat.reduceMul, Nat.reduceLeDiff, reduceCtorEq, Nat.reduceSub, Int.reduceToNat] <;> exact rfl) (by simp only [push_cast, env, Nat.reduceEqDiff, reduceIte, Nat.reduceAdd, Nat.reduceMul, Nat.reduceLeDiff, reduceCtorEq, Nat.reduceSub, Int.reduceToNat] <;> exact rfl) ?_
  simp only [St.putO, St.put, List.length_append, List.length_cons, List.length_nil, Nat.zero_add, List.append_assoc, List.cons_append, List.nil_append]
  obtain ⟨H, hH⟩ : ∃ H : Heap, H = h ++ [HObj.arr ([symE, symP, symE].flatMap KSym.cells) 0 true 43, HObj.arr ([symD].flatMap KSym.cells) 0 true 43, HObj.arr [i64 0, .slice (some ⟨h.length, 0, some 0⟩) 3 3, i64 0, .slice (some ⟨h.length + 1, 0, some 0⟩) 1 1] 0 true 46] := ⟨_, rfl⟩
  show OW _ _ _ ⟨_, _, h ++ [HObj.arr ([symE, symP, symE].flatMap KSym.cells) 0 true 43, HObj.arr ([symD].flatMap KSym.cells) 0 true 43, HObj.arr [i64 0, .slice (some ⟨h.length, 0, some 0⟩) 3 3, i64 0, .slice (some ⟨h.length + 1, 0, some 0⟩) 1 1] 0 true 46]⟩ _
  rw [← hH]
  have q0 : H[h.length]? = some (HObj.arr ([symE, symP, symE].flatMap KSym.cells) 0 true 43) := by rw [hH]; simp
  have q1 : H[h.length + 1]? = some (HObj.arr ([symD].flatMap KSym.cells) 0 true 43) := by rw [hH, List.getElem?_append_right (by omega)]; simp
  have q2 : H[h.length + 2]? = some (HObj.arr [i64 0, .slice (some ⟨h.length, 0, some 0⟩) 3 3, i64 0, .slice (some ⟨h.length + 1, 0, some 0⟩) 1 1] 0 true 46) := by rw [hH, List.getElem?_append_right (by omega)]; simp
  have hp : h <+: H := by rw [hH]; exact List.prefix_append _ _
  clear hH
  repeat (first | refine cw_seq ?_ | refine cw_region ?_ | refine ow_nil ?_ | ((first | apply ow_cons | apply qw_cons); · simp only [push_cast, env, Nat.reduceEqDiff, reduceIte, Nat.reduceAdd, Nat.reduceMul, Nat.reduceLeDiff, reduceCtorEq, Nat.reduceSub, Int.reduceToNat] <;> exact rfl) | ((first | apply ow_spec | apply qw_spec); · simp only [push_cast, env, Nat.reduceEqDiff, reduceIte, Nat.reduceAdd, Nat.reduceMul, Nat.reduceLeDiff, reduceCtorEq, Nat.reduceSub, Int.reduceToNat] <;> exact rfl) | refine qw_nil ?_ | refine cw_block ?_ | refine cw_scope ?_ | refine cw_label ?_ | refine cw_skip ?_)
  refine cw_ret ?_
  refine ⟨_, (by simp only [push_cast, env, Nat.reduceEqDiff, reduceIte, Nat.reduceAdd, Nat.reduceMul, Nat.reduceLeDiff, reduceCtorEq, Nat.reduceSub, Int.reduceToNat] <;> exact rfl), ⟨_, rfl, [.slice (some ⟨h.length, 0, some 0⟩) 3 3, .slice (some ⟨h.length + 1, 0, some 0⟩) 1 1], rfl, ⟨by decide, .inr ⟨h.length + 2, 0, true, 2, rfl, q2⟩⟩, fun i r u h1 h2 => ?_⟩, hp⟩
  match i, h1, h2 with
  | 0, h1, h2 => cases h1; cases h2; exact rdsyms_fresh (l := [symE, symP, symE]) (by decide) q0
  | 1, h1, h2 => cases h1; cases h2; exact rdsyms_fresh (l := [symD]) (by decide) q1
  | i + 2, h1, h2 => simp [sumG] at h1
theorem sum_wf : WfG sumG := by
  intro r hr s hs
  simp only [sumG, List.mem_cons, List.not_mem_nil, or_false] at hr
  rcases hr with rfl | rfl
  · simp only [List.mem_cons, List.not_mem_nil, or_false] at hs
    rcases hs with rfl | rfl | rfl
    · exact ⟨⟨by decide, by decide⟩, ⟨by decide, by decide⟩, ⟨by decide, by decide⟩, ⟨by decide, by decide⟩⟩
    · exact ⟨⟨by decide, by decide⟩, ⟨by decide, by decide⟩, ⟨by decide, by decide⟩, ⟨by decide, by decide⟩⟩
    · exact ⟨⟨by decide, by decide⟩, ⟨by decide, by decide⟩, ⟨by decide, by decide⟩, ⟨by decide, by decide⟩⟩
  · simp only [List.mem_cons, List.not_mem_nil, or_false] at hs
    subst hs
    exact ⟨⟨by decide, by decide⟩, ⟨by decide, by decide⟩, ⟨by decide, by decide⟩, ⟨by decide, by decide⟩⟩
theorem sum_fit (w : List Nat) (hw : w.length ≤ 512) : fitE sumG w = 0 := fitE_ok.2 ⟨by decide, hw⟩
theorem sum_good : goodD sumG 0 := .mk ⟨0, [symD]⟩ (by decide) (fun s hs _ => by
  simp only [List.mem_cons, List.not_mem_nil, or_false] at hs
  subst hs
  unfold goodT
  decide) (fun s hs h0 => by
  simp only [List.mem_cons, List.not_mem_nil, or_false] at hs
  subst hs
  exact absurd h0 (by decide))
theorem sum_trim {m : List Bool} (hm : Marks sumG.nts (goodD sumG) m) : trG sumG m = sumG := by
  have hl : m.length = 1 := by have := hm.1; simp only [sumG] at this; omega
  match m, hl with
  | [b], _ =>
    have := (hm.2 0 (by decide) (by decide)).2 sum_good
    cases b with
    | true => rfl
    | false => cases this
set_option maxHeartbeats 1000000 in
theorem chartbad_fw {h : Heap} {g : Gram} {v wv : Value} {w : List Nat} (hr : RdGram h v g) (hwR : RdB h wv w) (hf : fitE g w ≠ 0) : FW env 24 [v, wv] h fun r h' => r = .tuple #[nilS, i64 (fitE g w)] ∧ h' = h := by
  obtain ⟨u, rfl, hu⟩ := id hr
  obtain ⟨p, c, rfl⟩ := hu.form
  obtain ⟨pw, cw, rfl⟩ := hwR.form
  have df : decide (fitE g w = 0) = false := decide_eq_false hf
  refine fw_enter (fn := Try.f24) Try.func24 rfl (by kernel_rfl) (by simp [Try.ntmps24]) ?_; simp only [push_cast]
  repeat (first | refine cw_seq ?_ | refine cw_region ?_ | refine ow_nil ?_ | ((first | apply ow_cons | apply qw_cons); · simp only [push_cast, env, Nat.reduceEqDiff, reduceIte, Nat.reduceAdd, Nat.reduceMul, Nat.reduceLeDiff, reduceCtorEq, Nat.reduceSub, Int.reduceToNat] <;> exact rfl) | ((first | apply ow_spec | apply qw_spec); · simp only [push_cast, env, Nat.reduceEqDiff, reduceIte, Nat.reduceAdd, Nat.reduceMul, Nat.reduceLeDiff, reduceCtorEq, Nat.reduceSub, Int.reduceToNat] <;> exact rfl) | refine qw_nil ?_ | refine cw_block ?_ | refine cw_scope ?_ | refine cw_label ?_ | refine cw_skip ?_)
  refine ow_call (fn := Try.f36) (by simp only [push_cast, env, Nat.reduceEqDiff, reduceIte, Nat.reduceAdd, Nat.reduceMul, Nat.reduceLeDiff, reduceCtorEq, Nat.reduceSub, Int.reduceToNat] <;> exact rfl) rfl (by simp only [push_cast, env, Nat.reduceEqDiff, reduceIte, Nat.reduceAdd, Nat.reduceMul, Nat.reduceLeDiff, reduceCtorEq, Nat.reduceSub, Int.reduceToNat] <;> exact rfl) (by simp only [push_cast, env, Nat.reduceEqDiff, reduceIte, Nat.reduceAdd, Nat.reduceMul, Nat.reduceLeDiff, reduceCtorEq, Nat.reduceSub, Int.reduceToNat] <;> exact rfl) Try.func36 (by kernel_rfl) (by kernel_rfl) ?_
  rw [List.append_nil]
  refine (fit_fw hr hwR).mono ?_
  rintro _ h ⟨rfl, rfl⟩
  repeat (first | refine cw_seq ?_ | refine cw_region ?_ | refine ow_nil ?_ | ((first | apply ow_cons | apply qw_cons); · simp only [push_cast, env, Nat.reduceEqDiff, reduceIte, Nat.reduceAdd, Nat.reduceMul, Nat.reduceLeDiff, reduceCtorEq, Nat.reduceSub, Int.reduceToNat, df] <;> exact rfl) | ((first | apply ow_spec | apply qw_spec); · simp only [push_cast, env, Nat.reduceEqDiff, reduceIte, Nat.reduceAdd, Nat.reduceMul, Nat.reduceLeDiff, reduceCtorEq, Nat.reduceSub, Int.reduceToNat, df] <;> exact rfl) | refine qw_nil ?_ | refine cw_block ?_ | refine cw_scope ?_ | refine cw_label ?_ | refine cw_skip ?_)
  refine cw_condT (by simp only [push_cast, env, Nat.reduceEqDiff, reduceIte, Nat.reduceAdd, Nat.reduceMul, Nat.reduceLeDiff, reduceCtorEq, Nat.reduceSub, Int.reduceToNat, df] <;> exact rfl) ?_
  repeat (first | refine cw_seq ?_ | refine cw_region ?_ | refine ow_nil ?_ | ((first | apply ow_cons | apply qw_cons); · simp only [push_cast, env, Nat.reduceEqDiff, reduceIte, Nat.reduceAdd, Nat.reduceMul, Nat.reduceLeDiff, reduceCtorEq, Nat.reduceSub, Int.reduceToNat] <;> exact rfl) | ((first | apply ow_spec | apply qw_spec); · simp only [push_cast, env, Nat.reduceEqDiff, reduceIte, Nat.reduceAdd, Nat.reduceMul, Nat.reduceLeDiff, reduceCtorEq, Nat.reduceSub, Int.reduceToNat] <;> exact rfl) | refine qw_nil ?_ | refine cw_block ?_ | refine cw_scope ?_ | refine cw_label ?_ | refine cw_skip ?_)
  refine cw_ret ?_
  exact ⟨_, (by simp only [push_cast, env, Nat.reduceEqDiff, reduceIte, Nat.reduceAdd, Nat.reduceMul, Nat.reduceLeDiff, reduceCtorEq, Nat.reduceSub, Int.reduceToNat] <;> exact rfl), rfl, rfl⟩
theorem rdb_fresh {h : Heap} {id ver : Nat} {own : Bool} {w : List Nat} (hl : w.length ≤ 1000000) (hb : ∀ b ∈ w, b < 256) (hg : h[id]? = some (.arr (w.map fun n : Nat => u8 n) ver own 5)) : RdB h (.slice (some ⟨id, 0, some ver⟩) w.length w.length) w :=
  ⟨by omega, hb, .inr ⟨id, 0, ver, own, _, _, rfl, hg, fun i b hi => by rw [Nat.zero_add, List.getElem?_map, hi]; rfl⟩⟩
theorem und_bytes : env.P.underlying 25 = some (.slice 5) := by kernel_rfl
theorem und_u8 : env.P.underlying 5 = some (.int .u8) := by kernel_rfl
theorem spanAll_congr {P Q : Nat → Nat → Bool} {n : Nat} (hP : ∀ i j, i ≤ j → j ≤ n → P i j = Q i j) : ∀ k, k ≤ n + 1 → spanAll P n k = spanAll Q n k
  | 0, _ => rfl
  | k + 1, hk => by
    rw [spanAll_succ, spanAll_succ, spanAll_congr hP k (by omega)]
    congr 1
    unfold spanRow
    congr 1
    apply List.filter_congr
    intro j hj
    rw [List.mem_range] at hj
    exact hP k (k + j) (by omega) (by omega)
set_option maxHeartbeats 4000000 in
theorem alive7_run : FW env 14 [] [] fun r _ => r = .bool true := by
  refine fw_enter (fn := Try.f14) Try.func14 rfl (by kernel_rfl) (by simp [Try.ntmps14]) ?_; simp only [push_cast]
  repeat (first | refine cw_seq ?_ | refine cw_region ?_ | refine ow_nil ?_ | ((first | apply ow_cons | apply qw_cons); · simp only [push_cast, env, Nat.reduceEqDiff, reduceIte, Nat.reduceAdd, Nat.reduceMul, Nat.reduceLeDiff, reduceCtorEq, Nat.reduceSub, Int.reduceToNat] <;> exact rfl) | ((first | apply ow_spec | apply qw_spec); · simp only [push_cast, env, Nat.reduceEqDiff, reduceIte, Nat.reduceAdd, Nat.reduceMul, Nat.reduceLeDiff, reduceCtorEq, Nat.reduceSub, Int.reduceToNat] <;> exact rfl) | refine qw_nil ?_ | refine cw_block ?_ | refine cw_scope ?_ | refine cw_label ?_ | refine cw_skip ?_)
  refine ow_call (fn := Try.f35) (by simp only [push_cast, env, Nat.reduceEqDiff, reduceIte, Nat.reduceAdd, Nat.reduceMul, Nat.reduceLeDiff, reduceCtorEq, Nat.reduceSub, Int.reduceToNat] <;> exact rfl) rfl (by simp only [push_cast, env, Nat.reduceEqDiff, reduceIte, Nat.reduceAdd, Nat.reduceMul, Nat.reduceLeDiff, reduceCtorEq, Nat.reduceSub, Int.reduceToNat] <;> exact rfl) (by simp only [push_cast, env, Nat.reduceEqDiff, reduceIte, Nat.reduceAdd, Nat.reduceMul, Nat.reduceLeDiff, reduceCtorEq, Nat.reduceSub, Int.reduceToNat] <;> exact rfl) Try.func35 (by kernel_rfl) (by kernel_rfl) ?_
  refine sum_fw.mono ?_
  rintro v1 h1 ⟨hr1, hp1⟩
  obtain ⟨u1, rfl, hu1⟩ := id hr1
  obtain ⟨p1, c1, rfl⟩ := hu1.form
  refine ow_bslH (by simp only [push_cast, env, Nat.reduceEqDiff, reduceIte, Nat.reduceAdd, Nat.reduceMul, Nat.reduceLeDiff, reduceCtorEq, Nat.reduceSub, Int.reduceToNat] <;> exact rfl) (by simp only [push_cast, env, Nat.reduceEqDiff, reduceIte, Nat.reduceAdd, Nat.reduceMul, Nat.reduceLeDiff, reduceCtorEq, Nat.reduceSub, Int.reduceToNat] <;> exact rfl) ?_
  simp only [St.putO, St.put]
  refine ow_frz (cells := [u8 49, u8 43, u8 49]) (by simp only [push_cast, env, Nat.reduceEqDiff, reduceIte, Nat.reduceAdd, Nat.reduceMul, Nat.reduceLeDiff, reduceCtorEq, Nat.reduceSub, Int.reduceToNat] <;> exact rfl) rfl und_bytes und_u8 (by simp only [push_cast, env, Nat.reduceEqDiff, reduceIte, Nat.reduceAdd, Nat.reduceMul, Nat.reduceLeDiff, reduceCtorEq, Nat.reduceSub, Int.reduceToNat] <;> exact rfl) get_push (by decide) ?_
  simp only [St.putO, St.put]
  have hs1 : (h1 ++ [HObj.arr [u8 49, u8 43, u8 49] 0 true 5]).set h1.length (HObj.arr [u8 49, u8 43, u8 49] 0 false 5) = h1 ++ [HObj.arr [u8 49, u8 43, u8 49] 0 false 5] := by simp
  rw [hs1]
  have hb1 : RdB (h1 ++ [HObj.arr [u8 49, u8 43, u8 49] 0 false 5]) (.slice (some ⟨h1.length, 0, some 0⟩) 3 3) [49, 43, 49] := rdb_fresh (w := [49, 43, 49]) (by decide) (by decide) get_push
  have hg1 := hr1.mono (h' := h1 ++ [HObj.arr [u8 49, u8 43, u8 49] 0 false 5]) prefix_push
  repeat (first | refine cw_seq ?_ | refine cw_region ?_ | refine ow_nil ?_ | ((first | apply ow_cons | apply qw_cons); · simp only [push_cast, env, Nat.reduceEqDiff, reduceIte, Nat.reduceAdd, Nat.reduceMul, Nat.reduceLeDiff, reduceCtorEq, Nat.reduceSub, Int.reduceToNat] <;> exact rfl) | ((first | apply ow_spec | apply qw_spec); · simp only [push_cast, env, Nat.reduceEqDiff, reduceIte, Nat.reduceAdd, Nat.reduceMul, Nat.reduceLeDiff, reduceCtorEq, Nat.reduceSub, Int.reduceToNat] <;> exact rfl) | refine qw_nil ?_ | refine cw_block ?_ | refine cw_scope ?_ | refine cw_label ?_ | refine cw_skip ?_)
  refine ow_call (fn := Try.f15) (by simp only [push_cast, env, Nat.reduceEqDiff, reduceIte, Nat.reduceAdd, Nat.reduceMul, Nat.reduceLeDiff, reduceCtorEq, Nat.reduceSub, Int.reduceToNat] <;> exact rfl) rfl (by simp only [push_cast, env, Nat.reduceEqDiff, reduceIte, Nat.reduceAdd, Nat.reduceMul, Nat.reduceLeDiff, reduceCtorEq, Nat.reduceSub, Int.reduceToNat] <;> exact rfl) (by simp only [push_cast, env, Nat.reduceEqDiff, reduceIte, Nat.reduceAdd, Nat.reduceMul, Nat.reduceLeDiff, reduceCtorEq, Nat.reduceSub, Int.reduceToNat] <;> exact rfl) Try.func15 (by kernel_rfl) (by kernel_rfl) ?_
  rw [List.append_nil]
  refine (accepts_fw hg1 hb1 sum_wf).mono ?_
  rintro _ ha1 ⟨⟨b1, rfl, _, k1⟩, hpa1⟩
  have hb1t : b1 = true := (k1 (sum_fit _ (by decide))).2 sum_sum
  subst hb1t
  rw [sum_fit [49, 43, 49] (by decide)]
  clear hg1 hb1 hs1 hr1 hu1 k1
  repeat (first | refine cw_seq ?_ | refine cw_region ?_ | refine ow_nil ?_ | ((first | apply ow_cons | apply qw_cons); · simp only [push_cast, env, Nat.reduceEqDiff, reduceIte, Nat.reduceAdd, Nat.reduceMul, Nat.reduceLeDiff, reduceCtorEq, Nat.reduceSub, Int.reduceToNat] <;> exact rfl) | ((first | apply ow_spec | apply qw_spec); · simp only [push_cast, env, Nat.reduceEqDiff, reduceIte, Nat.reduceAdd, Nat.reduceMul, Nat.reduceLeDiff, reduceCtorEq, Nat.reduceSub, Int.reduceToNat] <;> exact rfl) | refine qw_nil ?_ | refine cw_block ?_ | refine cw_scope ?_ | refine cw_label ?_ | refine cw_skip ?_)
  refine ow_call (fn := Try.f35) (by simp only [push_cast, env, Nat.reduceEqDiff, reduceIte, Nat.reduceAdd, Nat.reduceMul, Nat.reduceLeDiff, reduceCtorEq, Nat.reduceSub, Int.reduceToNat] <;> exact rfl) rfl (by simp only [push_cast, env, Nat.reduceEqDiff, reduceIte, Nat.reduceAdd, Nat.reduceMul, Nat.reduceLeDiff, reduceCtorEq, Nat.reduceSub, Int.reduceToNat] <;> exact rfl) (by simp only [push_cast, env, Nat.reduceEqDiff, reduceIte, Nat.reduceAdd, Nat.reduceMul, Nat.reduceLeDiff, reduceCtorEq, Nat.reduceSub, Int.reduceToNat] <;> exact rfl) Try.func35 (by kernel_rfl) (by kernel_rfl) ?_
  refine sum_fw.mono ?_
  rintro v2 h2 ⟨hr2, hp2⟩
  obtain ⟨u2, rfl, hu2⟩ := id hr2
  obtain ⟨p2, c2, rfl⟩ := hu2.form
  refine ow_bslH (by simp only [push_cast, env, Nat.reduceEqDiff, reduceIte, Nat.reduceAdd, Nat.reduceMul, Nat.reduceLeDiff, reduceCtorEq, Nat.reduceSub, Int.reduceToNat] <;> exact rfl) (by simp only [push_cast, env, Nat.reduceEqDiff, reduceIte, Nat.reduceAdd, Nat.reduceMul, Nat.reduceLeDiff, reduceCtorEq, Nat.reduceSub, Int.reduceToNat] <;> exact rfl) ?_
  simp only [St.putO, St.put]
  refine ow_frz (cells := [u8 49, u8 43, u8 43]) (by simp only [push_cast, env, Nat.reduceEqDiff, reduceIte, Nat.reduceAdd, Nat.reduceMul, Nat.reduceLeDiff, reduceCtorEq, Nat.reduceSub, Int.reduceToNat] <;> exact rfl) rfl und_bytes und_u8 (by simp only [push_cast, env, Nat.reduceEqDiff, reduceIte, Nat.reduceAdd, Nat.reduceMul, Nat.reduceLeDiff, reduceCtorEq, Nat.reduceSub, Int.reduceToNat] <;> exact rfl) get_push (by decide) ?_
  simp only [St.putO, St.put]
  have hs2 : (h2 ++ [HObj.arr [u8 49, u8 43, u8 43] 0 true 5]).set h2.length (HObj.arr [u8 49, u8 43, u8 43] 0 false 5) = h2 ++ [HObj.arr [u8 49, u8 43, u8 43] 0 false 5] := by simp
  rw [hs2]
  have hb2 : RdB (h2 ++ [HObj.arr [u8 49, u8 43, u8 43] 0 false 5]) (.slice (some ⟨h2.length, 0, some 0⟩) 3 3) [49, 43, 43] := rdb_fresh (w := [49, 43, 43]) (by decide) (by decide) get_push
  have hg2 := hr2.mono (h' := h2 ++ [HObj.arr [u8 49, u8 43, u8 43] 0 false 5]) prefix_push
  repeat (first | refine cw_seq ?_ | refine cw_region ?_ | refine ow_nil ?_ | ((first | apply ow_cons | apply qw_cons); · simp only [push_cast, env, Nat.reduceEqDiff, reduceIte, Nat.reduceAdd, Nat.reduceMul, Nat.reduceLeDiff, reduceCtorEq, Nat.reduceSub, Int.reduceToNat] <;> exact rfl) | ((first | apply ow_spec | apply qw_spec); · simp only [push_cast, env, Nat.reduceEqDiff, reduceIte, Nat.reduceAdd, Nat.reduceMul, Nat.reduceLeDiff, reduceCtorEq, Nat.reduceSub, Int.reduceToNat] <;> exact rfl) | refine qw_nil ?_ | refine cw_block ?_ | refine cw_scope ?_ | refine cw_label ?_ | refine cw_skip ?_)
  refine ow_call (fn := Try.f17) (by simp only [push_cast, env, Nat.reduceEqDiff, reduceIte, Nat.reduceAdd, Nat.reduceMul, Nat.reduceLeDiff, reduceCtorEq, Nat.reduceSub, Int.reduceToNat] <;> exact rfl) rfl (by simp only [push_cast, env, Nat.reduceEqDiff, reduceIte, Nat.reduceAdd, Nat.reduceMul, Nat.reduceLeDiff, reduceCtorEq, Nat.reduceSub, Int.reduceToNat] <;> exact rfl) (by simp only [push_cast, env, Nat.reduceEqDiff, reduceIte, Nat.reduceAdd, Nat.reduceMul, Nat.reduceLeDiff, reduceCtorEq, Nat.reduceSub, Int.reduceToNat] <;> exact rfl) Try.func17 (by kernel_rfl) (by kernel_rfl) ?_
  rw [List.append_nil]
  refine (last_fw hg2 hb2 sum_wf).mono ?_
  rintro _ ha2 ⟨⟨n2, rfl, _, k2⟩, hpa2⟩
  have hn2 : n2 = 2 := by
    obtain ⟨m, S, hm, C, e⟩ := k2 (sum_fit _ (by decide))
    rw [sum_trim hm] at C
    obtain ⟨q1, q2⟩ := sum_last C.m
    rw [e]
    show lastK S 4 = 2
    unfold lastK
    rw [if_neg (by rw [q1]; decide)]
    unfold lastK
    rw [if_pos (List.length_pos_iff.2 q2)]
    rfl
  subst hn2
  rw [sum_fit [49, 43, 43] (by decide)]
  clear hg2 hb2 hs2 hr2 hu2 k2
  repeat (first | refine cw_seq ?_ | refine cw_region ?_ | refine ow_nil ?_ | ((first | apply ow_cons | apply qw_cons); · simp only [push_cast, env, Nat.reduceEqDiff, reduceIte, Nat.reduceAdd, Nat.reduceMul, Nat.reduceLeDiff, reduceCtorEq, Nat.reduceSub, Int.reduceToNat] <;> exact rfl) | ((first | apply ow_spec | apply qw_spec); · simp only [push_cast, env, Nat.reduceEqDiff, reduceIte, Nat.reduceAdd, Nat.reduceMul, Nat.reduceLeDiff, reduceCtorEq, Nat.reduceSub, Int.reduceToNat] <;> exact rfl) | refine qw_nil ?_ | refine cw_block ?_ | refine cw_scope ?_ | refine cw_label ?_ | refine cw_skip ?_)
  refine ow_call (fn := Try.f35) (by simp only [push_cast, env, Nat.reduceEqDiff, reduceIte, Nat.reduceAdd, Nat.reduceMul, Nat.reduceLeDiff, reduceCtorEq, Nat.reduceSub, Int.reduceToNat] <;> exact rfl) rfl (by simp only [push_cast, env, Nat.reduceEqDiff, reduceIte, Nat.reduceAdd, Nat.reduceMul, Nat.reduceLeDiff, reduceCtorEq, Nat.reduceSub, Int.reduceToNat] <;> exact rfl) (by simp only [push_cast, env, Nat.reduceEqDiff, reduceIte, Nat.reduceAdd, Nat.reduceMul, Nat.reduceLeDiff, reduceCtorEq, Nat.reduceSub, Int.reduceToNat] <;> exact rfl) Try.func35 (by kernel_rfl) (by kernel_rfl) ?_
  refine sum_fw.mono ?_
  rintro v3 h3 ⟨hr3, hp3⟩
  obtain ⟨u3, rfl, hu3⟩ := id hr3
  obtain ⟨p3, c3, rfl⟩ := hu3.form
  refine ow_bslH (by simp only [push_cast, env, Nat.reduceEqDiff, reduceIte, Nat.reduceAdd, Nat.reduceMul, Nat.reduceLeDiff, reduceCtorEq, Nat.reduceSub, Int.reduceToNat] <;> exact rfl) (by simp only [push_cast, env, Nat.reduceEqDiff, reduceIte, Nat.reduceAdd, Nat.reduceMul, Nat.reduceLeDiff, reduceCtorEq, Nat.reduceSub, Int.reduceToNat] <;> exact rfl) ?_
  simp only [St.putO, St.put]
  refine ow_frz (cells := [u8 49, u8 43, u8 49]) (by simp only [push_cast, env, Nat.reduceEqDiff, reduceIte, Nat.reduceAdd, Nat.reduceMul, Nat.reduceLeDiff, reduceCtorEq, Nat.reduceSub, Int.reduceToNat] <;> exact rfl) rfl und_bytes und_u8 (by simp only [push_cast, env, Nat.reduceEqDiff, reduceIte, Nat.reduceAdd, Nat.reduceMul, Nat.reduceLeDiff, reduceCtorEq, Nat.reduceSub, Int.reduceToNat] <;> exact rfl) get_push (by decide) ?_
  simp only [St.putO, St.put]
  have hs3 : (h3 ++ [HObj.arr [u8 49, u8 43, u8 49] 0 true 5]).set h3.length (HObj.arr [u8 49, u8 43, u8 49] 0 false 5) = h3 ++ [HObj.arr [u8 49, u8 43, u8 49] 0 false 5] := by simp
  rw [hs3]
  have hb3 : RdB (h3 ++ [HObj.arr [u8 49, u8 43, u8 49] 0 false 5]) (.slice (some ⟨h3.length, 0, some 0⟩) 3 3) [49, 43, 49] := rdb_fresh (w := [49, 43, 49]) (by decide) (by decide) get_push
  have hg3 := hr3.mono (h' := h3 ++ [HObj.arr [u8 49, u8 43, u8 49] 0 false 5]) prefix_push
  repeat (first | refine cw_seq ?_ | refine cw_region ?_ | refine ow_nil ?_ | ((first | apply ow_cons | apply qw_cons); · simp only [push_cast, env, Nat.reduceEqDiff, reduceIte, Nat.reduceAdd, Nat.reduceMul, Nat.reduceLeDiff, reduceCtorEq, Nat.reduceSub, Int.reduceToNat] <;> exact rfl) | ((first | apply ow_spec | apply qw_spec); · simp only [push_cast, env, Nat.reduceEqDiff, reduceIte, Nat.reduceAdd, Nat.reduceMul, Nat.reduceLeDiff, reduceCtorEq, Nat.reduceSub, Int.reduceToNat] <;> exact rfl) | refine qw_nil ?_ | refine cw_block ?_ | refine cw_scope ?_ | refine cw_label ?_ | refine cw_skip ?_)
  refine ow_call (fn := Try.f19) (by simp only [push_cast, env, Nat.reduceEqDiff, reduceIte, Nat.reduceAdd, Nat.reduceMul, Nat.reduceLeDiff, reduceCtorEq, Nat.reduceSub, Int.reduceToNat] <;> exact rfl) rfl (by simp only [push_cast, env, Nat.reduceEqDiff, reduceIte, Nat.reduceAdd, Nat.reduceMul, Nat.reduceLeDiff, reduceCtorEq, Nat.reduceSub, Int.reduceToNat] <;> exact rfl) (by simp only [push_cast, env, Nat.reduceEqDiff, reduceIte, Nat.reduceAdd, Nat.reduceMul, Nat.reduceLeDiff, reduceCtorEq, Nat.reduceSub, Int.reduceToNat] <;> exact rfl) Try.func19 (by kernel_rfl) (by kernel_rfl) ?_
  rw [List.append_nil]
  refine (spans_fw (nt := 0) hg3 hb3 sum_wf).mono ?_
  rintro _ ha3 ⟨k3, hpa3⟩
  have hf3 := sum_fit [49, 43, 49] (by decide)
  obtain ⟨x3, e3, rfl, ⟨q, _⟩ | ⟨_, q, _⟩ | ⟨_, _, _, rfl, hG3⟩⟩ := k3
  · exact (q hf3).elim
  · exact absurd q (by decide)
  have hl3 : spanAll (ntB sumG.rules 0 [49, 43, 49]) 3 4 = [(0, 1), (0, 3), (2, 3)] := by
    have hP : ∀ i j, i ≤ j → j ≤ 3 → ntB sumG.rules 0 [49, 43, 49] i j = sumY 0 i j := fun i j hij hj => by
      rw [Bool.eq_iff_iff, ntB_iff]
      exact sum_spans i j hij hj
    have e : spanAll (ntB sumG.rules 0 [49, 43, 49]) 3 4 = spanAll (sumY 0) 3 4 := spanAll_congr hP 4 (by omega)
    rw [e]
    decide
  rw [show ([49, 43, 49] : List Nat).length = 3 from rfl, hl3] at hG3
  obtain ⟨i3, v3, _, rfl, hg3'⟩ := hG3.mine (by decide)
  clear hg3 hb3 hs3 hr3 hu3
  repeat (first | refine cw_seq ?_ | refine cw_region ?_ | refine ow_nil ?_ | ((first | apply ow_cons | apply qw_cons); · simp only [push_cast, env, Nat.reduceEqDiff, reduceIte, Nat.reduceAdd, Nat.reduceMul, Nat.reduceLeDiff, reduceCtorEq, Nat.reduceSub, Int.reduceToNat] <;> exact rfl) | ((first | apply ow_spec | apply qw_spec); · simp only [push_cast, env, Nat.reduceEqDiff, reduceIte, Nat.reduceAdd, Nat.reduceMul, Nat.reduceLeDiff, reduceCtorEq, Nat.reduceSub, Int.reduceToNat] <;> exact rfl) | refine qw_nil ?_ | refine cw_block ?_ | refine cw_scope ?_ | refine cw_label ?_ | refine cw_skip ?_)
  refine ow_call (fn := Try.f24) (by simp only [push_cast, env, Nat.reduceEqDiff, reduceIte, Nat.reduceAdd, Nat.reduceMul, Nat.reduceLeDiff, reduceCtorEq, Nat.reduceSub, Int.reduceToNat] <;> exact rfl) rfl (by simp only [push_cast, env, Nat.reduceEqDiff, reduceIte, Nat.reduceAdd, Nat.reduceMul, Nat.reduceLeDiff, reduceCtorEq, Nat.reduceSub, Int.reduceToNat] <;> exact rfl) (by simp only [push_cast, env, Nat.reduceEqDiff, reduceIte, Nat.reduceAdd, Nat.reduceMul, Nat.reduceLeDiff, reduceCtorEq, Nat.reduceSub, Int.reduceToNat] <;> exact rfl) Try.func24 (by kernel_rfl) (by kernel_rfl) ?_
  rw [List.append_nil]
  have hf4 : fitE ⟨0, 0, []⟩ [] = 3 := by unfold fitE; rw [if_pos (by decide)]
  refine (chartbad_fw (g := ⟨0, 0, []⟩) (w := []) ⟨_, rfl, [], rfl, ⟨by decide, .inl ⟨.inl rfl, rfl, rfl⟩⟩, fun i r u h => by simp at h⟩ ⟨by decide, by decide, .inl ⟨.inl rfl, rfl⟩⟩ (by rw [hf4]; decide)).mono ?_
  rintro _ h4 ⟨rfl, rfl⟩
  rw [hf4]
  have hrun : rdH (runCells [(0, 1), (0, 3), (2, 3)]) 2 2 = some [i64 0, i64 3] := rfl
  repeat (first | refine cw_seq ?_ | refine cw_region ?_ | refine ow_nil ?_ | ((first | apply ow_cons | apply qw_cons); · simp only [push_cast, env, Nat.reduceEqDiff, reduceIte, Nat.reduceAdd, Nat.reduceMul, Nat.reduceLeDiff, reduceCtorEq, Nat.reduceSub, Int.reduceToNat, hg3', hrun, Int.reduceLE, Int.reduceLT, Int.reduceToNat, Nat.reduceMul, Int.reduceEq, List.length_cons, List.length_nil] <;> exact rfl) | ((first | apply ow_spec | apply qw_spec); · simp only [push_cast, env, Nat.reduceEqDiff, reduceIte, Nat.reduceAdd, Nat.reduceMul, Nat.reduceLeDiff, reduceCtorEq, Nat.reduceSub, Int.reduceToNat, hg3', hrun, Int.reduceLE, Int.reduceLT, Int.reduceToNat, Nat.reduceMul, Int.reduceEq, List.length_cons, List.length_nil] <;> exact rfl) | refine qw_nil ?_ | refine cw_block ?_ | refine cw_scope ?_ | refine cw_label ?_ | refine cw_skip ?_)
  refine cw_ret ?_
  exact ⟨_, (by simp only [push_cast, env, Nat.reduceEqDiff, reduceIte, Nat.reduceAdd, Nat.reduceMul, Nat.reduceLeDiff, reduceCtorEq, Nat.reduceSub, Int.reduceToNat] <;> exact rfl), rfl⟩
theorem alive7_fw {h : Heap} : FW env 14 [] h fun r h' => r = .bool true ∧ h' = h := by
  have k := alive7_run
  unfold FW at k ⊢
  obtain ⟨r, h', k1, rfl⟩ := k
  exact ⟨_, _, .fresh k1 (.pure1 rfl), rfl, rfl⟩
end Go.Proofs.Ytafncpgiibikcaa

/- Texts that a row reads. -/
namespace Go.Proofs.Ytafncpgiibikcaa
set_option linter.unusedSimpArgs false
set_option linter.unusedVariables false
set_option maxRecDepth 20000
open Go.ChangeShapes Go.WideShapes Go.ChangeAt Go.RowKit Am Ty

def textTs : List TypeId := [24, 3, 22, 46, 44, 43, 41, 39, 25, 5]
set_option maxRecDepth 100000 in
theorem textTs_ok : textTs.all (kindB Try.prog textTs) = true := by kernel_rfl
theorem rd_u8 {h : Heap} {n : Nat} {vs : List Value} (k : RdT Try.prog h n 5 vs) : ∃ b : Nat, vs = [u8 b] ∧ b < 256 := by
  cases n with
  | zero => exact k.elim
  | succ n =>
    unfold RdT at k
    rw [show Try.prog.underlying 5 = some (.int .u8) by kernel_rfl] at k
    obtain ⟨i, h1, h2⟩ := k
    simp only [Lit.wf, Bool.and_eq_true, decide_eq_true_eq] at h2
    have e1 : IntKind.u8.min = 0 := by decide
    have e2 : IntKind.u8.max = 255 := by decide
    refine ⟨i.toNat, ?_, by omega⟩
    rw [h1, show ((i.toNat : Nat) : Int) = i by omega]
theorem flat_u8 {f : Nat → Value} : ∀ w : List Nat, w.flatMap (fun n => [f n]) = w.map f
  | [] => rfl
  | b :: w => by rw [List.flatMap_cons, flat_u8 w]; rfl
theorem rd_bytes {h : Heap} {n : Nat} {vs : List Value} (k : RdT Try.prog h n 25 vs) : ∃ u w, vs = [u] ∧ RdB h u w := by
  cases n with
  | zero => exact k.elim
  | succ n =>
    unfold RdT at k
    rw [show Try.prog.underlying 25 = some (.slice 5) by kernel_rfl] at k
    rcases k with rfl | rfl | ⟨id, len, c, cells, rfl, hb, hid, he⟩
    · exact ⟨_, [], rfl, by decide, by decide, .inl ⟨.inl rfl, rfl⟩⟩
    · exact ⟨_, [], rfl, by decide, by decide, .inl ⟨.inr rfl, rfl⟩⟩
    · obtain ⟨w, rfl, rfl, hq⟩ := es_map (f := fun n : Nat => [u8 n]) (Q := fun n => n < 256) (fun vs h => rd_u8 h) he
      rw [show Try.prog.bytesOf 5 = 1 by kernel_rfl, Nat.mul_one] at hb
      rw [flat_u8] at hid
      exact ⟨_, w, rfl, Nat.le_trans hb (by decide), hq, .inr ⟨id, 0, 0, false, c, _, rfl, hid, fun i b hi => by rw [Nat.zero_add, List.getElem?_map, hi]; rfl⟩⟩
theorem rda_bytes {h : Heap} {a : Value} (k : RdA Try.prog h 25 a) : ∃ w : List Nat, RdB h a w := by
  obtain ⟨n, vs, k, ⟨h1, _⟩ | ⟨_, rfl⟩⟩ := k
  · have : isAggT Try.prog 25 = false := by kernel_rfl
    rw [this] at h1
    cases h1
  · obtain ⟨u, w, e, hw⟩ := rd_bytes k
    exact ⟨w, by rw [show a = u by simpa using e]; exact hw⟩
end Go.Proofs.Ytafncpgiibikcaa

/- EarleyBound, as the abstract machine runs it. -/
namespace Go.Proofs.Ytafncpgiibikcaa
set_option linter.unusedSimpArgs false
set_option linter.unusedVariables false
set_option maxRecDepth 20000
open Go.RowKit Am Ty

theorem size_gsize : ∀ l : List Rule, sizeOfG l = (gsize l : Int)
  | [] => rfl
  | r :: l => by
    have := size_gsize l
    unfold sizeOfG gsize at this ⊢
    simp only [List.map_cons, List.sum_cons]
    rw [this]
    omega
theorem ChartOK.le {g : Gram} {w : List Nat} {S : List (List Item)} (h : ChartOK g w S) (k : Nat) : (gs S k).length ≤ gsize g.rules * (k + 1) := by
  rw [← allItems_len (j := k) 0]
  refine nodup_le _ _ (h.nd k) fun x hx => ?_
  obtain ⟨r, h1, h2, h3, h4⟩ := ((h.m k x).1 hx).sound
  exact allItems_mem 0 _ x.rule r h1 (by omega) h2 h4.1
theorem itemSum_bound {g : Gram} {w : List Nat} {S : List (List Item)} (C : ChartOK g w S) (k : Nat) (hk : k ≤ S.length) : 2 * itemSum (S.take k) ≤ gsize g.rules * k * (k + 1) := by
  induction k with
  | zero => simp [itemSum]
  | succ k ih =>
    have h1 : k < S.length := by omega
    rw [List.take_succ_eq_append_getElem h1]
    have h2 := ih (by omega)
    have h3 := C.le k
    rw [← gs_getElem h1] at h3
    unfold itemSum at h2 ⊢
    simp only [List.map_append, List.sum_append, List.map_cons, List.map_nil, List.sum_cons, List.sum_nil]
    have e0 : gsize g.rules * (k + 1) * (k + 1) = gsize g.rules * k * (k + 1) + gsize g.rules * (k + 1) := Nat.add_mul (gsize g.rules * k) (gsize g.rules) (k + 1)
    have e1 : gsize g.rules * (k + 1) * (k + 1 + 1) = gsize g.rules * (k + 1) * (k + 1) + gsize g.rules * (k + 1) := Nat.mul_succ _ _
    omega
set_option maxHeartbeats 4000000 in
theorem earleybound_fw {h : Heap} {g : Gram} {v wv : Value} {w : List Nat} (hr : RdGram h v g) (hwR : RdB h wv w) (hn : -9223372036854775808 ≤ g.nts) (W : WfG g) : FW env 10 [v, wv] h fun r _ => r = .bool true := by
  obtain ⟨u, rfl, hu⟩ := id hr
  obtain ⟨p, c, rfl⟩ := hu.form
  obtain ⟨pw, cw, rfl⟩ := hwR.form
  refine fw_enter (fn := Try.f10) Try.func10 rfl (by kernel_rfl) (by simp [Try.ntmps10]) ?_; simp only [push_cast]
  repeat (first | refine cw_seq ?_ | refine cw_region ?_ | refine ow_nil ?_ | ((first | apply ow_cons | apply qw_cons); · simp only [push_cast, env, Nat.reduceEqDiff, reduceIte, Nat.reduceAdd, Nat.reduceMul, Nat.reduceLeDiff, reduceCtorEq, Nat.reduceSub, Int.reduceToNat] <;> exact rfl) | ((first | apply ow_spec | apply qw_spec); · simp only [push_cast, env, Nat.reduceEqDiff, reduceIte, Nat.reduceAdd, Nat.reduceMul, Nat.reduceLeDiff, reduceCtorEq, Nat.reduceSub, Int.reduceToNat] <;> exact rfl) | refine qw_nil ?_ | refine cw_block ?_ | refine cw_scope ?_ | refine cw_label ?_ | refine cw_skip ?_)
  refine ow_call (fn := Try.f13) (by simp only [push_cast, env, Nat.reduceEqDiff, reduceIte, Nat.reduceAdd, Nat.reduceMul, Nat.reduceLeDiff, reduceCtorEq, Nat.reduceSub, Int.reduceToNat] <;> exact rfl) rfl (by simp only [push_cast, env, Nat.reduceEqDiff, reduceIte, Nat.reduceAdd, Nat.reduceMul, Nat.reduceLeDiff, reduceCtorEq, Nat.reduceSub, Int.reduceToNat] <;> exact rfl) (by simp only [push_cast, env, Nat.reduceEqDiff, reduceIte, Nat.reduceAdd, Nat.reduceMul, Nat.reduceLeDiff, reduceCtorEq, Nat.reduceSub, Int.reduceToNat] <;> exact rfl) Try.func13 (by kernel_rfl) (by kernel_rfl) ?_
  rw [List.append_nil]
  refine (heavy7_fw hr hwR hn).mono ?_
  rintro _ h ⟨rfl, rfl⟩
  repeat (first | refine cw_seq ?_ | refine cw_region ?_ | refine ow_nil ?_ | ((first | apply ow_cons | apply qw_cons); · simp only [push_cast, env, Nat.reduceEqDiff, reduceIte, Nat.reduceAdd, Nat.reduceMul, Nat.reduceLeDiff, reduceCtorEq, Nat.reduceSub, Int.reduceToNat] <;> exact rfl) | ((first | apply ow_spec | apply qw_spec); · simp only [push_cast, env, Nat.reduceEqDiff, reduceIte, Nat.reduceAdd, Nat.reduceMul, Nat.reduceLeDiff, reduceCtorEq, Nat.reduceSub, Int.reduceToNat] <;> exact rfl) | refine qw_nil ?_ | refine cw_block ?_ | refine cw_scope ?_ | refine cw_label ?_ | refine cw_skip ?_)
  refine cw_cond (by simp only [push_cast, env, Nat.reduceEqDiff, reduceIte, Nat.reduceAdd, Nat.reduceMul, Nat.reduceLeDiff, reduceCtorEq, Nat.reduceSub, Int.reduceToNat] <;> exact rfl) (fun c1 => ?_) (fun c1 => ?_)
  · repeat (first | refine cw_seq ?_ | refine cw_region ?_ | refine ow_nil ?_ | ((first | apply ow_cons | apply qw_cons); · simp only [push_cast, env, Nat.reduceEqDiff, reduceIte, Nat.reduceAdd, Nat.reduceMul, Nat.reduceLeDiff, reduceCtorEq, Nat.reduceSub, Int.reduceToNat] <;> exact rfl) | ((first | apply ow_spec | apply qw_spec); · simp only [push_cast, env, Nat.reduceEqDiff, reduceIte, Nat.reduceAdd, Nat.reduceMul, Nat.reduceLeDiff, reduceCtorEq, Nat.reduceSub, Int.reduceToNat] <;> exact rfl) | refine qw_nil ?_ | refine cw_block ?_ | refine cw_scope ?_ | refine cw_label ?_ | refine cw_skip ?_)
    refine ow_call (fn := Try.f14) (by simp only [push_cast, env, Nat.reduceEqDiff, reduceIte, Nat.reduceAdd, Nat.reduceMul, Nat.reduceLeDiff, reduceCtorEq, Nat.reduceSub, Int.reduceToNat] <;> exact rfl) rfl (by simp only [push_cast, env, Nat.reduceEqDiff, reduceIte, Nat.reduceAdd, Nat.reduceMul, Nat.reduceLeDiff, reduceCtorEq, Nat.reduceSub, Int.reduceToNat] <;> exact rfl) (by simp only [push_cast, env, Nat.reduceEqDiff, reduceIte, Nat.reduceAdd, Nat.reduceMul, Nat.reduceLeDiff, reduceCtorEq, Nat.reduceSub, Int.reduceToNat] <;> exact rfl) Try.func14 (by kernel_rfl) (by kernel_rfl) ?_
    refine alive7_fw.mono ?_
    rintro _ h ⟨rfl, rfl⟩
    repeat (first | refine cw_seq ?_ | refine cw_region ?_ | refine ow_nil ?_ | ((first | apply ow_cons | apply qw_cons); · simp only [push_cast, env, Nat.reduceEqDiff, reduceIte, Nat.reduceAdd, Nat.reduceMul, Nat.reduceLeDiff, reduceCtorEq, Nat.reduceSub, Int.reduceToNat] <;> exact rfl) | ((first | apply ow_spec | apply qw_spec); · simp only [push_cast, env, Nat.reduceEqDiff, reduceIte, Nat.reduceAdd, Nat.reduceMul, Nat.reduceLeDiff, reduceCtorEq, Nat.reduceSub, Int.reduceToNat] <;> exact rfl) | refine qw_nil ?_ | refine cw_block ?_ | refine cw_scope ?_ | refine cw_label ?_ | refine cw_skip ?_)
    refine cw_ret ?_
    exact ⟨_, (by simp only [push_cast, env, Nat.reduceEqDiff, reduceIte, Nat.reduceAdd, Nat.reduceMul, Nat.reduceLeDiff, reduceCtorEq, Nat.reduceSub, Int.reduceToNat] <;> exact rfl), rfl⟩
  have hL := light_of c1
  repeat (first | refine cw_seq ?_ | refine cw_region ?_ | refine ow_nil ?_ | ((first | apply ow_cons | apply qw_cons); · simp only [push_cast, env, Nat.reduceEqDiff, reduceIte, Nat.reduceAdd, Nat.reduceMul, Nat.reduceLeDiff, reduceCtorEq, Nat.reduceSub, Int.reduceToNat] <;> exact rfl) | ((first | apply ow_spec | apply qw_spec); · simp only [push_cast, env, Nat.reduceEqDiff, reduceIte, Nat.reduceAdd, Nat.reduceMul, Nat.reduceLeDiff, reduceCtorEq, Nat.reduceSub, Int.reduceToNat] <;> exact rfl) | refine qw_nil ?_ | refine cw_block ?_ | refine cw_scope ?_ | refine cw_label ?_ | refine cw_skip ?_)
  refine ow_call (fn := Try.f27) (by simp only [push_cast, env, Nat.reduceEqDiff, reduceIte, Nat.reduceAdd, Nat.reduceMul, Nat.reduceLeDiff, reduceCtorEq, Nat.reduceSub, Int.reduceToNat] <;> exact rfl) rfl (by simp only [push_cast, env, Nat.reduceEqDiff, reduceIte, Nat.reduceAdd, Nat.reduceMul, Nat.reduceLeDiff, reduceCtorEq, Nat.reduceSub, Int.reduceToNat] <;> exact rfl) (by simp only [push_cast, env, Nat.reduceEqDiff, reduceIte, Nat.reduceAdd, Nat.reduceMul, Nat.reduceLeDiff, reduceCtorEq, Nat.reduceSub, Int.reduceToNat] <;> exact rfl) Try.func27 (by kernel_rfl) (by kernel_rfl) ?_
  rw [List.append_nil]
  refine (items_fw hr hwR W).mono ?_
  rintro _ h2 ⟨⟨n, rfl, a1, a2⟩, hp2⟩
  by_cases hf : ¬ fitE g w = 0
  · have df : decide (fitE g w = 0) = false := decide_eq_false hf
    obtain rfl := a1 hf
    repeat (first | refine cw_seq ?_ | refine cw_region ?_ | refine ow_nil ?_ | ((first | apply ow_cons | apply qw_cons); · simp only [push_cast, env, Nat.reduceEqDiff, reduceIte, Nat.reduceAdd, Nat.reduceMul, Nat.reduceLeDiff, reduceCtorEq, Nat.reduceSub, Int.reduceToNat, df] <;> exact rfl) | ((first | apply ow_spec | apply qw_spec); · simp only [push_cast, env, Nat.reduceEqDiff, reduceIte, Nat.reduceAdd, Nat.reduceMul, Nat.reduceLeDiff, reduceCtorEq, Nat.reduceSub, Int.reduceToNat, df] <;> exact rfl) | refine qw_nil ?_ | refine cw_block ?_ | refine cw_scope ?_ | refine cw_label ?_ | refine cw_skip ?_)
    refine cw_condT (by simp only [push_cast, env, Nat.reduceEqDiff, reduceIte, Nat.reduceAdd, Nat.reduceMul, Nat.reduceLeDiff, reduceCtorEq, Nat.reduceSub, Int.reduceToNat, df] <;> exact rfl) ?_
    repeat (first | refine cw_seq ?_ | refine cw_region ?_ | refine ow_nil ?_ | ((first | apply ow_cons | apply qw_cons); · simp only [push_cast, env, Nat.reduceEqDiff, reduceIte, Nat.reduceAdd, Nat.reduceMul, Nat.reduceLeDiff, reduceCtorEq, Nat.reduceSub, Int.reduceToNat] <;> exact rfl) | ((first | apply ow_spec | apply qw_spec); · simp only [push_cast, env, Nat.reduceEqDiff, reduceIte, Nat.reduceAdd, Nat.reduceMul, Nat.reduceLeDiff, reduceCtorEq, Nat.reduceSub, Int.reduceToNat] <;> exact rfl) | refine qw_nil ?_ | refine cw_block ?_ | refine cw_scope ?_ | refine cw_label ?_ | refine cw_skip ?_)
    refine ow_call (fn := Try.f14) (by simp only [push_cast, env, Nat.reduceEqDiff, reduceIte, Nat.reduceAdd, Nat.reduceMul, Nat.reduceLeDiff, reduceCtorEq, Nat.reduceSub, Int.reduceToNat] <;> exact rfl) rfl (by simp only [push_cast, env, Nat.reduceEqDiff, reduceIte, Nat.reduceAdd, Nat.reduceMul, Nat.reduceLeDiff, reduceCtorEq, Nat.reduceSub, Int.reduceToNat] <;> exact rfl) (by simp only [push_cast, env, Nat.reduceEqDiff, reduceIte, Nat.reduceAdd, Nat.reduceMul, Nat.reduceLeDiff, reduceCtorEq, Nat.reduceSub, Int.reduceToNat] <;> exact rfl) Try.func14 (by kernel_rfl) (by kernel_rfl) ?_
    refine alive7_fw.mono ?_
    rintro _ h3 ⟨rfl, rfl⟩
    repeat (first | refine cw_seq ?_ | refine cw_region ?_ | refine ow_nil ?_ | ((first | apply ow_cons | apply qw_cons); · simp only [push_cast, env, Nat.reduceEqDiff, reduceIte, Nat.reduceAdd, Nat.reduceMul, Nat.reduceLeDiff, reduceCtorEq, Nat.reduceSub, Int.reduceToNat] <;> exact rfl) | ((first | apply ow_spec | apply qw_spec); · simp only [push_cast, env, Nat.reduceEqDiff, reduceIte, Nat.reduceAdd, Nat.reduceMul, Nat.reduceLeDiff, reduceCtorEq, Nat.reduceSub, Int.reduceToNat] <;> exact rfl) | refine qw_nil ?_ | refine cw_block ?_ | refine cw_scope ?_ | refine cw_label ?_ | refine cw_skip ?_)
    refine cw_ret ?_
    exact ⟨_, (by simp only [push_cast, env, Nat.reduceEqDiff, reduceIte, Nat.reduceAdd, Nat.reduceMul, Nat.reduceLeDiff, reduceCtorEq, Nat.reduceSub, Int.reduceToNat] <;> exact rfl), rfl⟩
  have hf0 : fitE g w = 0 := by simpa using hf
  have df : decide (fitE g w = 0) = true := decide_eq_true hf0
  obtain ⟨S, C, rfl⟩ := a2 hf0
  obtain ⟨hR, hw⟩ := fitE_ok.1 hf0
  have R := rightS hR
  have hG := gsize_le R
  have hb := itemSum_bound C S.length (Nat.le_refl _)
  obtain ⟨n, hnS⟩ : ∃ n, itemSum S = n := ⟨_, rfl⟩
  rw [List.take_length, hnS, C.n] at hb
  rw [hnS]
  clear a1 a2
  obtain ⟨G, hGe⟩ : ∃ G, gsize g.rules = G := ⟨_, rfl⟩
  rw [hGe] at hb hG
  have hsz := size_gsize g.rules
  rw [hGe] at hsz
  have m1 : G * (w.length + 1) ≤ 663552 * 513 := Nat.mul_le_mul hG (by omega)
  have m2 : G * (w.length + 1) * (w.length + 2) ≤ 663552 * 513 * 514 := Nat.mul_le_mul m1 (by omega)
  have q1 : ((w.length : Int) + 1) = ((w.length + 1 : Nat) : Int) := by omega
  have q2 : ((w.length : Int) + 2) = ((w.length + 2 : Nat) : Int) := by omega
  have e1 : IntKind.i64.wrap ((w.length : Int) + 1) = ((w.length + 1 : Nat) : Int) := by rw [wrap64_id (by omega) (by omega)]; omega
  have e2 : IntKind.i64.wrap ((w.length : Int) + 2) = ((w.length + 2 : Nat) : Int) := by rw [wrap64_id (by omega) (by omega)]; omega
  obtain ⟨A, hA⟩ : ∃ A, A = w.length + 1 := ⟨_, rfl⟩
  obtain ⟨B, hB⟩ : ∃ B, B = w.length + 2 := ⟨_, rfl⟩
  have hb' : 2 * n ≤ G * A * B := by rw [hA, hB]; exact hb
  rw [← hA] at e1 m1 m2
  rw [← hB] at e2 m2
  obtain ⟨X, hX⟩ : ∃ X, X = G * A := ⟨_, rfl⟩
  obtain ⟨Y, hY⟩ : ∃ Y, Y = X * B := ⟨_, rfl⟩
  rw [← hX] at m1 m2 hb'
  rw [← hY] at m2 hb'
  have e3 : IntKind.i64.wrap ((G : Int) * (A : Int)) = (X : Int) := by rw [← Int.natCast_mul, ← hX, wrap64_id (by omega) (by omega)]
  have e4 : IntKind.i64.wrap ((X : Int) * (B : Int)) = (Y : Int) := by rw [← Int.natCast_mul, ← hY, wrap64_id (by omega) (by omega)]
  have e5 : IntKind.i64.wrap (Int.tdiv (Y : Int) 2) = ((Y / 2 : Nat) : Int) := by
    rw [show Int.tdiv (Y : Int) 2 = ((Y / 2 : Nat) : Int) from rfl, wrap64_id (by omega) (by omega)]
  have e6 : decide (0 ≤ (n : Int)) = true := decide_eq_true (by omega)
  obtain ⟨Z, hZ⟩ : ∃ Z, Z = Y / 2 := ⟨_, rfl⟩
  rw [← hZ] at e5
  have e7 : decide ((n : Int) ≤ (Z : Int)) = true := decide_eq_true (by omega)
  clear hb hA hB hX hY
  repeat (first | refine cw_seq ?_ | refine cw_region ?_ | refine ow_nil ?_ | ((first | apply ow_cons | apply qw_cons); · simp only [push_cast, env, Nat.reduceEqDiff, reduceIte, Nat.reduceAdd, Nat.reduceMul, Nat.reduceLeDiff, reduceCtorEq, Nat.reduceSub, Int.reduceToNat, df] <;> exact rfl) | ((first | apply ow_spec | apply qw_spec); · simp only [push_cast, env, Nat.reduceEqDiff, reduceIte, Nat.reduceAdd, Nat.reduceMul, Nat.reduceLeDiff, reduceCtorEq, Nat.reduceSub, Int.reduceToNat, df] <;> exact rfl) | refine qw_nil ?_ | refine cw_block ?_ | refine cw_scope ?_ | refine cw_label ?_ | refine cw_skip ?_)
  refine cw_condF (by simp only [push_cast, env, Nat.reduceEqDiff, reduceIte, Nat.reduceAdd, Nat.reduceMul, Nat.reduceLeDiff, reduceCtorEq, Nat.reduceSub, Int.reduceToNat, df] <;> exact rfl) ?_
  repeat (first | refine cw_seq ?_ | refine cw_region ?_ | refine ow_nil ?_ | ((first | apply ow_cons | apply qw_cons); · simp only [push_cast, env, Nat.reduceEqDiff, reduceIte, Nat.reduceAdd, Nat.reduceMul, Nat.reduceLeDiff, reduceCtorEq, Nat.reduceSub, Int.reduceToNat] <;> exact rfl) | ((first | apply ow_spec | apply qw_spec); · simp only [push_cast, env, Nat.reduceEqDiff, reduceIte, Nat.reduceAdd, Nat.reduceMul, Nat.reduceLeDiff, reduceCtorEq, Nat.reduceSub, Int.reduceToNat] <;> exact rfl) | refine qw_nil ?_ | refine cw_block ?_ | refine cw_scope ?_ | refine cw_label ?_ | refine cw_skip ?_)
  refine ow_call (fn := Try.f14) (by simp only [push_cast, env, Nat.reduceEqDiff, reduceIte, Nat.reduceAdd, Nat.reduceMul, Nat.reduceLeDiff, reduceCtorEq, Nat.reduceSub, Int.reduceToNat] <;> exact rfl) rfl (by simp only [push_cast, env, Nat.reduceEqDiff, reduceIte, Nat.reduceAdd, Nat.reduceMul, Nat.reduceLeDiff, reduceCtorEq, Nat.reduceSub, Int.reduceToNat] <;> exact rfl) (by simp only [push_cast, env, Nat.reduceEqDiff, reduceIte, Nat.reduceAdd, Nat.reduceMul, Nat.reduceLeDiff, reduceCtorEq, Nat.reduceSub, Int.reduceToNat] <;> exact rfl) Try.func14 (by kernel_rfl) (by kernel_rfl) ?_
  refine alive7_fw.mono ?_
  rintro _ h3 ⟨rfl, rfl⟩
  repeat (first | refine cw_seq ?_ | refine cw_region ?_ | refine ow_nil ?_ | ((first | apply ow_cons | apply qw_cons); · simp only [push_cast, env, Nat.reduceEqDiff, reduceIte, Nat.reduceAdd, Nat.reduceMul, Nat.reduceLeDiff, reduceCtorEq, Nat.reduceSub, Int.reduceToNat, e6] <;> exact rfl) | ((first | apply ow_spec | apply qw_spec); · simp only [push_cast, env, Nat.reduceEqDiff, reduceIte, Nat.reduceAdd, Nat.reduceMul, Nat.reduceLeDiff, reduceCtorEq, Nat.reduceSub, Int.reduceToNat, e6] <;> exact rfl) | refine qw_nil ?_ | refine cw_block ?_ | refine cw_scope ?_ | refine cw_label ?_ | refine cw_skip ?_)
  refine ow_call (fn := Try.f28) (by simp only [push_cast, env, Nat.reduceEqDiff, reduceIte, Nat.reduceAdd, Nat.reduceMul, Nat.reduceLeDiff, reduceCtorEq, Nat.reduceSub, Int.reduceToNat, e6] <;> exact rfl) rfl (by simp only [push_cast, env, Nat.reduceEqDiff, reduceIte, Nat.reduceAdd, Nat.reduceMul, Nat.reduceLeDiff, reduceCtorEq, Nat.reduceSub, Int.reduceToNat, e6] <;> exact rfl) (by simp only [push_cast, env, Nat.reduceEqDiff, reduceIte, Nat.reduceAdd, Nat.reduceMul, Nat.reduceLeDiff, reduceCtorEq, Nat.reduceSub, Int.reduceToNat, e6] <;> exact rfl) Try.func28 (by kernel_rfl) (by kernel_rfl) ?_
  rw [List.append_nil]
  refine (size_fw (hr.mono hp2) (by omega)).mono ?_
  rintro _ h4 ⟨rfl, rfl⟩
  rw [hsz]
  repeat (first | refine cw_seq ?_ | refine cw_region ?_ | refine ow_nil ?_ | ((first | apply ow_cons | apply qw_cons); · simp only [push_cast, env, Nat.reduceEqDiff, reduceIte, Nat.reduceAdd, Nat.reduceMul, Nat.reduceLeDiff, reduceCtorEq, Nat.reduceSub, Int.reduceToNat, e1, e2, e3, e4, e5, e7] <;> exact rfl) | ((first | apply ow_spec | apply qw_spec); · simp only [push_cast, env, Nat.reduceEqDiff, reduceIte, Nat.reduceAdd, Nat.reduceMul, Nat.reduceLeDiff, reduceCtorEq, Nat.reduceSub, Int.reduceToNat, e1, e2, e3, e4, e5, e7] <;> exact rfl) | refine qw_nil ?_ | refine cw_block ?_ | refine cw_scope ?_ | refine cw_label ?_ | refine cw_skip ?_)
  refine cw_ret ?_
  exact ⟨_, (by simp only [push_cast, env, Nat.reduceEqDiff, reduceIte, Nat.reduceAdd, Nat.reduceMul, Nat.reduceLeDiff, reduceCtorEq, Nat.reduceSub, Int.reduceToNat] <;> exact rfl), rfl⟩
end Go.Proofs.Ytafncpgiibikcaa
