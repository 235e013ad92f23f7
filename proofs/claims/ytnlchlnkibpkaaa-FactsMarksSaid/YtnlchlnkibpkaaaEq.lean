/- `==` of sets and of symbols, in the model. -/
import Derived.Test.YtnlchlnkibpkaaaD1
import Derived.DeepKeys
namespace Go.Proofs.Ytnlchlnkibpkaaa
set_option linter.unusedSimpArgs false
set_option linter.unusedVariables false
open Go.RowKit Am Ty
theorem und_set : Try.prog.underlying 45 = some (.array 4 43) := by kernel_rfl
theorem und_u64 : Try.prog.underlying 43 = some (.int .u64) := by kernel_rfl
theorem und_int : Try.prog.underlying 3 = some (.int .i64) := by kernel_rfl
theorem cells_u64 : Try.prog.cellsOf 43 = 1 := by kernel_rfl
theorem part_u64 {xs : Array Value} {off : Nat} {v : Value} {w : World} (h : xs[off]? = some v) : (part 43 xs off).run Try.prog w = .ok v w := run_part_plain w (by kernel_rfl) h
theorem part_int {xs : Array Value} {off : Nat} {v : Value} {w : World} (h : xs[off]? = some v) : (part 3 xs off).run Try.prog w = .ok v w := run_part_plain w (by kernel_rfl) h
theorem items_u64 (d : Nat) (xs ys : Array Value) (f g : Nat → Int) (w : World) : ∀ (is : List Nat), (∀ i ∈ is, xs[i]? = some (.int .u64 (f i)) ∧ ys[i]? = some (.int .u64 (g i))) →
    (Op.eqItems (d + 1) 43 1 xs ys is).run Try.prog w = .ok (is.all fun i => decide (f i = g i)) w
  | [], _ => by simp [Op.eqItems]
  | i :: is, h => by
    obtain ⟨h1, h2⟩ := h i List.mem_cons_self
    have ih := items_u64 d xs ys f g w is fun j hj => h j (List.mem_cons_of_mem _ hj)
    simp only [Op.eqItems, Sem.run_bind, Nat.mul_one, part_u64 h1, part_u64 h2, Result.andThen_ok, run_equalIn_int w d _ _ _ _ _ und_u64, List.all_cons]
    by_cases he : f i = g i
    · simp only [he, beq_self_eq_true, Bool.not_true, Bool.false_eq_true, if_false, decide_true, Bool.true_and]
      exact ih
    · simp [he]
theorem set_run (d : Nat) (a b c e a' b' c' e' : Int) (w : World) : (Op.equalIn (d + 2) 45 (.agg #[.int .u64 a, .int .u64 b, .int .u64 c, .int .u64 e]) (.agg #[.int .u64 a', .int .u64 b', .int .u64 c', .int .u64 e'])).run Try.prog w =
    .ok (decide (a = a') && (decide (b = b') && (decide (c = c') && decide (e = e')))) w := by
  obtain ⟨i, hi⟩ := info_of_underlying und_u64
  rw [run_equalIn_array w (d + 1) _ _ und_set hi, cells_u64]
  rw [items_u64 d _ _ (fun i => [a, b, c, e].getD i 0) (fun i => [a', b', c', e'].getD i 0) w]
  · simp only [show List.range 4 = [0, 1, 2, 3] from rfl, List.all_cons, List.all_nil, Bool.and_true, List.getD_cons_zero, List.getD_cons_succ]
  · intro i hi
    have : i = 0 ∨ i = 1 ∨ i = 2 ∨ i = 3 := by simp at hi; omega
    rcases this with rfl | rfl | rfl | rfl <;> exact ⟨rfl, rfl⟩
theorem part_set (a b c e n : Int) (w : World) : (part 45 #[.int .i64 n, .int .u64 a, .int .u64 b, .int .u64 c, .int .u64 e] 1).run Try.prog w = .ok (.agg #[.int .u64 a, .int .u64 b, .int .u64 c, .int .u64 e]) w := by
  obtain ⟨i, hi⟩ := info_of_underlying und_set
  have hs : (Try.prog.info? 45).map (·.size) = some 4 := by kernel_rfl
  rw [hi] at hs
  simp only [Option.map_some, Option.some.injEq] at hs
  simp [part, run_isAgg und_set, isAggD, run_sizeOf' hi, hs]
noncomputable def fld (i : Nat) : Option Field := (Try.prog.fieldsOf 56)[i]?
theorem sym_run (d : Nat) (n a b c e n' a' b' c' e' : Int) (w : World) : (Op.equalIn (d + 3) 56 (.agg #[.int .i64 n, .int .u64 a, .int .u64 b, .int .u64 c, .int .u64 e]) (.agg #[.int .i64 n', .int .u64 a', .int .u64 b', .int .u64 c', .int .u64 e'])).run Try.prog w =
    .ok (decide (n = n') && (decide (a = a') && (decide (b = b') && (decide (c = c') && decide (e = e'))))) w := by
  obtain ⟨f0, h0⟩ : ∃ f, fld 0 = some f := Option.isSome_iff_exists.1 (by kernel_rfl)
  obtain ⟨f1, h1⟩ : ∃ f, fld 1 = some f := Option.isSome_iff_exists.1 (by kernel_rfl)
  have hsz : (Try.prog.fieldsOf 56).size = 2 := by kernel_rfl
  have hl : (Try.prog.fieldsOf 56).toList = [f0, f1] := by
    apply List.ext_getElem?
    intro i
    match i with
    | 0 => simpa [fld] using h0
    | 1 => simpa [fld] using h1
    | i + 2 => simp [hsz]
  have t0 : (fld 0).map (fun f => (f.type, f.offset, f.name == "_")) = some (3, 0, false) := by kernel_rfl
  have t1 : (fld 1).map (fun f => (f.type, f.offset, f.name == "_")) = some (45, 1, false) := by kernel_rfl
  rw [h0] at t0
  rw [h1] at t1
  simp only [Option.map_some, Option.some.injEq, Prod.mk.injEq, beq_eq_false_iff_ne, ne_eq] at t0 t1
  obtain ⟨a1, a2, a3⟩ := t0
  obtain ⟨b1, b2, b3⟩ := t1
  rw [run_equalIn_struct w (d + 2) _ _ _ (by kernel_rfl) (by kernel_rfl), hl]
  simp only [Op.eqFields, a1, a2, a3, b1, b2, b3, ne_eq, not_false_eq_true, if_true, Sem.run_bind]
  rw [part_int (v := .int .i64 n) rfl]
  simp only [Result.andThen_ok]
  rw [part_int (v := .int .i64 n') rfl]
  simp only [Result.andThen_ok, run_equalIn_int w (d + 1) _ _ _ _ _ und_int]
  by_cases he : n = n'
  · simp only [he, beq_self_eq_true, Bool.not_true, Bool.false_eq_true, if_false, decide_true, Bool.true_and, Sem.run_bind, part_set, Result.andThen_ok, set_run]
    generalize (decide (a = a') && (decide (b = b') && (decide (c = c') && decide (e = e')))) = r
    cases r <;> simp
  · simp [he]
theorem list4 {l : List Value} (h : chkSet l = true) : ∃ a b c e, l = [.int .u64 a, .int .u64 b, .int .u64 c, .int .u64 e] := by
  unfold chkSet at h
  split at h
  · exact ⟨_, _, _, _, rfl⟩
  · cases h
theorem list5 {l : List Value} (h : chkSym l = true) : ∃ n a b c e, l = [.int .i64 n, .int .u64 a, .int .u64 b, .int .u64 c, .int .u64 e] := by
  unfold chkSym at h
  split at h
  · exact ⟨_, _, _, _, _, rfl⟩
  · cases h
theorem vrl_ints {μ : Mu} : ∀ {l l' : List Value}, (∀ v ∈ l, ∃ k a, v = .int k a) → VRL Try.prog μ l l' → l' = l
  | [], [], _, _ => rfl
  | v :: l, v' :: l', h, ⟨h1, h2⟩ => by
    obtain ⟨k, a, rfl⟩ := h v List.mem_cons_self
    rw [VR.int h1, vrl_ints (fun u hu => h u (List.mem_cons_of_mem _ hu)) h2]
  | [], _ :: _, _, h => h.elim
  | _ :: _, [], _, h => h.elim
theorem arr_of {xs : Array Value} {l : List Value} (h : xs.toList = l) : xs = l.toArray := by rw [← h]
theorem env_ok : EnvOK env := by
  intro t chk h
  simp only [env] at h
  split at h
  · rename_i ht
    subst ht
    cases h
    refine ⟨fun xs ys h1 h2 => ⟨by kernel_rfl, fun w => ?_⟩, ?_⟩
    · obtain ⟨a, b, c, e, hx⟩ := list4 h1
      obtain ⟨a', b', c', e', hy⟩ := list4 h2
      rw [hx, hy, arr_of hx, arr_of hy]
      rw [show (10000 : Nat) = 9998 + 2 from rfl]
      rw [env_P, set_run 9998]
      simp only [eqL, eq1, Bool.and_true]
    · intro l l' μ hv hc
      obtain ⟨a, b, c, e, rfl⟩ := list4 hc
      exact vrl_ints (by simp) hv
  · split at h
    · rename_i ht
      subst ht
      cases h
      refine ⟨fun xs ys h1 h2 => ⟨by kernel_rfl, fun w => ?_⟩, ?_⟩
      · obtain ⟨n, a, b, c, e, hx⟩ := list5 h1
        obtain ⟨n', a', b', c', e', hy⟩ := list5 h2
        rw [hx, hy, arr_of hx, arr_of hy]
        rw [show (10000 : Nat) = 9997 + 3 from rfl]
        rw [env_P, sym_run 9997]
        simp only [eqL, eq1, Bool.and_true]
      · intro l l' μ hv hc
        obtain ⟨n, a, b, c, e, rfl⟩ := list5 hc
        exact vrl_ints (by simp) hv
    · cases h
end Go.Proofs.Ytnlchlnkibpkaaa
