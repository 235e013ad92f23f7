/- FactsMore returns true for every input, and its arguments read as they did. No conditions. -/
import Derived.Test.YtnlchlnkibpkaaaZG5
import Derived.Test.YtnlchlnkibpkaaaZG11
namespace Go.Proofs.Ytnlchlnkibpkaaa
set_option linter.unusedSimpArgs false
set_option linter.unusedVariables false
open Go.ChangeShapes Go.WideShapes Go.ChangeAt Go.RowKit Am Ty
theorem rda_rule {h : Heap} {a : Value} (k : RdA Try.prog h 48 a) : ∃ r : Rule, RdRule h a r := by
  obtain ⟨n, vs, k, ⟨_, rfl⟩ | ⟨h1, _⟩⟩ := k
  · obtain ⟨p, rfl, h1, _⟩ := rd_rule k
    exact ⟨p.1, _, rfl, h1⟩
  · have : isAggT Try.prog 48 = true := by kernel_rfl
    rw [this] at h1
    cases h1
theorem rules_len {h : Heap} {n : Nat} {u : Value} (k : RdT Try.prog h n 22 [u]) {l : List Rule} (hl : RdRules h u l) : l.length * 32 ≤ 140737488351232 := by
  obtain ⟨p, c, rfl⟩ := hl.form
  cases n with
  | zero => exact k.elim
  | succ n =>
    unfold RdT at k
    rw [show Try.prog.underlying 22 = some (.slice 48) by kernel_rfl] at k
    rcases k with k | k | ⟨id, len, c, cells, k, hb, hid, he⟩
    · simp only [List.cons.injEq, Value.slice.injEq, and_true] at k
      omega
    · simp only [List.cons.injEq, Value.slice.injEq, and_true] at k
      omega
    · simp only [List.cons.injEq, Value.slice.injEq, and_true] at k
      rw [show Try.prog.bytesOf 48 = 32 by kernel_rfl] at hb
      rw [k.2.1]
      exact hb
theorem agg3 {a b c a' b' c' : Value} (e : Value.agg ([a] ++ ([b] ++ ([c] ++ []))).toArray = .agg #[a', b', c']) : c = c' := by
  have h : [a, b, c] = [a', b', c'] := congrArg Array.toList (Value.agg.inj e)
  exact (List.cons.inj (List.cons.inj (List.cons.inj h).2).2).1
theorem gram_len {h : Heap} {a : Value} (k : RdA Try.prog h 24 a) {g : Gram} (hg : RdGram h a g) : g.rules.length * 32 ≤ 140737488351232 := by
  obtain ⟨n, vs, k, ⟨_, rfl⟩ | ⟨h1, _⟩⟩ := k
  · cases n with
    | zero => exact k.elim
    | succ n =>
      obtain ⟨a, b, rfl, _, h1, c, d, rfl, _, h2, e, f, rfl, _, h3, rfl⟩ := rd_struct (l := [3, 3, 22]) (by kernel_rfl) (by kernel_rfl) k
      obtain ⟨i, rfl, _⟩ := rd_int h1
      obtain ⟨j, rfl, _⟩ := rd_int h2
      obtain ⟨u, l, rfl, _⟩ := rd_rules h3
      obtain ⟨u', e, hu⟩ := hg
      have e2 : u = u' := agg3 e
      subst e2
      exact rules_len h3 hu
  · have : isAggT Try.prog 24 = true := by kernel_rfl
    rw [this] at h1
    cases h1
theorem more_args {h : Heap} : ∀ {avs : List Value}, AllRd Try.prog h [24, 48] avs → FW env 10 avs h fun r _ => r = .bool true
  | [a, b], ⟨h1, h2, _⟩ => by
    obtain ⟨g, hg, w1, _, _⟩ := rda_gram h1
    obtain ⟨r, hr⟩ := rda_rule h2
    exact factsmore_fw hg hr (nts_wf w1) (gram_len h1 hg)
namespace L8
set_option maxRecDepth 100000 in
theorem lifted (os : Os) (started : os.Started) (H : Type) (enc : TypeId × Value → H) :
    ReturnsInHanded {} Try.checked os 10 .any (Rows.factsMoreSpec.pre6 enc Try.prog Try.f10 Rows.factsMoreRow.domain false) (Rows.factsMoreSpec.post enc Try.prog Try.f10 false true false false) := by
  refine returnsInHanded_of_change_sized (C := Try.checked) own started (by kernel_rfl) Try.func10
    (ChangeSpec.witness6 (enc := enc) (C := Try.checked) false ⟨#[], #[.agg #[.int .i64 0, .int .i64 0, .slice none 0 0], .agg #[.int .i64 0, .slice none 0 0]], []⟩ 8 (by kernel_rfl) (by kernel_rfl) (by kernel_rfl) (by kernel_rfl)) ?_
  intro W base args ds gs before hval0 hW hcnd hsz0 _
  have hsz : (DataW.weightsEach Try.prog (Try.f10.params.toList ++ Rows.factsMoreSpec.plain.varTypes Try.prog) (ds ++ gs)).all (· ≤ reachBytes) = true := hsz0
  have hval : ∀ (j : Nat) t v, Try.f10.params[j]? = some t → args[j]? = some v → Value.okWide Try.prog W .any base t v := hval0
  have hW' := hW
  obtain ⟨p, q, hA0, hV, rfl, hfz, hnd⟩ := hW
  have hA : DataW.TrodAll enc Try.prog W 0 (fun _ => true) true Try.f10.params.toList args.toList ds p := hA0
  have hpar : Try.f10.params.toList = [24, 48] := by rw [Try.params10]
  rw [hpar] at hA hsz
  obtain ⟨v0, vs0, d0, ds0, p0, q0, hargs, rfl, rfl, k0, r0⟩ := trodAll_cons hA
  obtain ⟨v1, vs1, d1, ds1, p1, q1, rfl, rfl, rfl, k1, r1⟩ := trodAll_cons r0
  obtain ⟨rfl, rfl, rfl⟩ := trodAll_nil r1
  obtain ⟨rfl, rfl⟩ := trodVars_none hV
  clear hA0 hval0 hsz0
  refine (calls_args (f := 10) (ts := gramTs) (tys := [24, 48]) gramTs_ok (by decide) (fun h avs k => more_args k) (fun j t v e1 e2 => hval j t v (by rw [← Array.getElem?_toList, hpar]; exact e1) (by rw [← Array.getElem?_toList]; exact e2)) hA ?_).mono fun e W' ⟨he, bel⟩ => ?_
  · intro i t d e1 e2
    have hlt : i < [24, 48].length := (List.getElem?_eq_some_iff.1 e1).1
    exact weights_each hsz i t d (by rw [List.getElem?_append_left hlt]; exact e1) (by rw [List.append_nil]; exact e2)
  subst he
  exact ⟨_, rfl, _, _, _, [], _, [], hW', trodAll_mk1 (shut_bool Try.underlying4 _), (by rw [hpar]; exact below_all' bel (by kernel_rfl) hA), rfl, bel.frame _, fun h => by cases h⟩
theorem over : Rows.factsMoreRow.holds Try.pinned (OpenSpec.ofChange Rows.factsMoreSpec) :=
  OpenClaim.holds_of_wide 10 Try.f10 rfl rfl rfl rfl rfl rfl rfl ⟨rfl, rfl, rfl, rfl, rfl⟩ rfl rfl rfl rfl rfl (by kernel_rfl) Try.func10 (by kernel_rfl)
    (of_decide_eq_true (by kernel_rfl)) (by unfold Func.isWrapper; first | (rw [if_pos (by decide +kernel)]; kernel_rfl) | (rw [if_neg (by decide +kernel)]; exact ⟨rfl, rfl⟩))
    (fun os started H enc _ => lifted os started H enc)
end L8
theorem factsMore_holds : Rows.FactsMoreSaid := L8.over
#print axioms factsMore_holds
end Go.Proofs.Ytnlchlnkibpkaaa
