/- Several texts, one behind the other; each begins with a remark of its own. -/
import Derived.Test.YtafncpgiibikcaaZG5
import Derived.Test.YtafncpgiibikcaaZG8
import Derived.Test.YtafncpgiibikcaaZTy
/- open: all sets of a right grammar and a text. -/
namespace Go.Proofs.Ytafncpgiibikcaa
set_option linter.unusedSimpArgs false
set_option linter.unusedVariables false
set_option maxRecDepth 20000
open Go.RowKit Am Ty

theorem one_mkP {all : Array Oper} {o : Oper} {s : St} {h : Heap} {x : Operand} {d : Nat} {t e : TypeId} {ti : TI} {z : Value} {n : Int} {N : Nat} {cs : List Value} (hh : s.h = h) (hw : wantedA all o s = some true) (hd : o.dst = some d) (ho : o.op = .makeSlice t x x) (hx : ev s x = some (i64 n)) (hN : n = N)
    (hu : env.P.underlying t = some (.slice e)) (ht : tinfo env.P e = some ti) (hz : ti.zero = some z) (hp : (pureV z && z.cells.toList.all one && decide (z.cells.size = ti.size) && decide (0 < ti.size)) = true) (hb : N * ti.bytes ≤ 140737488355328) (hN2 : N ≤ 140737488355328) (hcs : (List.replicate N z.cells.toList).flatten = cs) :
    One env all o s (.sl (.prv (.arr cs 0 true e) N)) h := by
  subst hN hcs hh
  refine .mkP hw hd ?_
  rw [ho]
  have h1 : (ti.bytes : Int) * (N : Int) ≤ 140737488355328 := by
    have : ((N * ti.bytes : Nat) : Int) ≤ 140737488355328 := by omega
    rw [Int.natCast_mul, Int.mul_comm] at this
    exact this
  have h2 : (N : Int) ≤ 140737488355328 := by omega
  unfold mkC
  simp only [hu, hx, ht, hz]
  rw [if_pos (by rw [hp, decide_eq_true trivial, decide_eq_true (Int.natCast_nonneg N), decide_eq_true h1, decide_eq_true h2]; rfl), Int.toNat_natCast]
/-- the rules of each nonterminal, of the first k -/
structure ByK (g : Gram) (k : Nat) (ls : List (List Int)) : Prop where
  n : (ls.length : Int) = g.nts
  m : ∀ a : Int, 0 ≤ a → a < g.nts → ∀ q : Int, q ∈ lget ls a ↔ ∃ (i : Nat) (r : Rule), i < k ∧ q = i ∧ g.rules[i]? = some r ∧ r.lhs = a
  l : ∀ l ∈ ls, l.length ≤ k
structure O1 (h : Heap) (g : Gram) (rv wv : Value) (N M k : Nat) (x : SG) : Prop where
  p : h <+: x.hk
  o : x.hk[h.length]? = some (.arr x.us 0 true 91)
  s : x.hk[h.length + 1]? = some (.arr (List.replicate M nilS) 0 true 55)
  c : x.hk[h.length + 2]? = some (.arr [i64 g.nts, i64 g.start, rv, wv, .slice (some ⟨h.length, 0, some 0⟩) N N, .slice (some ⟨h.length + 1, 0, some 0⟩) M M, nilS, .map none] 0 true 73)
  l : NL h x.hk h.length x.us x.ls
  n : x.us.length = N
  b : ByK g k x.ls
theorem ByK.step {g : Gram} {k : Nat} {ls : List (List Int)} (B : ByK g k ls) (R : RightS g) (hk : k < g.rules.length) : ByK g (k + 1) (ls.set g.rules[k].lhs.toNat (lget ls g.rules[k].lhs ++ [(k : Int)])) := by
  obtain ⟨l1, l2, _⟩ := R.r _ (List.getElem_mem hk)
  have hn := B.n
  refine ⟨by simpa using hn, fun a h0 h1 q => ?_, fun l hl => ?_⟩
  · rw [lget_set l1 (by omega) h0]
    split
    · rename_i e
      subst e
      rw [List.mem_append, List.mem_singleton, B.m _ h0 h1]
      constructor
      · rintro (⟨i, r, k1, k2, k3, k4⟩ | rfl)
        · exact ⟨i, r, by omega, k2, k3, k4⟩
        · exact ⟨k, g.rules[k], by omega, rfl, List.getElem?_eq_getElem hk, rfl⟩
      · rintro ⟨i, r, k1, k2, k3, k4⟩
        by_cases e : i = k
        · subst e
          exact .inr k2
        · exact .inl ⟨i, r, by omega, k2, k3, k4⟩
    · rename_i e
      rw [B.m _ h0 h1]
      constructor
      · rintro ⟨i, r, k1, k2, k3, k4⟩
        exact ⟨i, r, by omega, k2, k3, k4⟩
      · rintro ⟨i, r, k1, k2, k3, k4⟩
        by_cases e2 : i = k
        · subst e2
          rw [List.getElem?_eq_getElem hk] at k3
          cases k3
          exact (e k4).elim
        · exact ⟨i, r, by omega, k2, k3, k4⟩
  · rcases List.mem_or_eq_of_mem_set hl with h | rfl
    · have := B.l l h; omega
    · have hg := lget_get (ls := ls) l1 (by omega)
      have := B.l _ (List.mem_of_getElem? hg)
      simp only [List.length_append, List.length_singleton]
      omega
/-- while the maps are made -/
structure O2 (h hB : Heap) (g : Gram) (rv wv bv : Value) (M k : Nat) (x : Heap × List Nat × Value) : Prop where
  p : h <+: x.1
  kb : ∀ (i : Nat) (cs : List Value) (v : Nat) (o : Bool) (et : TypeId), et = 3 ∨ et = 91 → hB[i]? = some (.arr cs v o et) → x.1[i]? = some (.arr cs v o et)
  s : x.1[h.length + 1]? = some (.arr (List.replicate M nilS) 0 true 55)
  c : x.1[h.length + 2]? = some (.arr [i64 g.nts, i64 g.start, rv, wv, bv, .slice (some ⟨h.length + 1, 0, some 0⟩) M M, x.2.2, .map none] 0 true 73)
  n : x.2.1.length = k
  m : Grow h x.1 x.2.2 k (x.2.1.map fun i => Value.map (some i)) 92
  g : ∀ i ∈ x.2.1, x.1[i]? = some (.map []) ∧ h.length ≤ i
  d : ∀ (i j y : Nat), x.2.1[i]? = some y → x.2.1[j]? = some y → i = j
theorem CHR.newE {h0 hB : Heap} {g : Gram} {rv wv : Value} {F : Fix} {G : Gh} (K : CHR h0 hB g rv wv F G) : CHR h0 hB g rv wv { F with ie := G.h.length, ev := .map (some G.h.length) } ⟨(G.h ++ [HObj.map []]).set F.cp (.arr [i64 g.nts, i64 g.start, rv, wv, F.bv, .slice (some ⟨F.si, 0, some 0⟩) G.S.length G.S.length, .slice (some ⟨F.im, 0, some F.vm⟩) G.S.length G.S.length, .map (some G.h.length)] 0 true 73), G.us, G.S, []⟩ := by
  have hlt := lt_of_get K.c
  have keepA : ∀ (i : Nat) (cs : List Value) (v : Nat) (o : Bool) (et : TypeId) (X : HObj), et ≠ 73 → G.h[i]? = some (.arr cs v o et) → ((G.h ++ [HObj.map []]).set F.cp X)[i]? = some (.arr cs v o et) := fun i cs v o et X hne hi => by
    rw [get_set_ne (by
      rintro rfl
      rw [K.c] at hi
      simp only [Option.some.injEq, HObj.arr.injEq] at hi
      exact hne hi.2.2.2.symm)]
    exact get_of_push hi
  have keepM : ∀ (i : Nat) (es : List (Value × Value)) (X : HObj), G.h[i]? = some (.map es) → ((G.h ++ [HObj.map []]).set F.cp X)[i]? = some (.map es) := fun i es X hi => by
    rw [get_set_ne (by rintro rfl; rw [K.c] at hi; cases hi)]
    exact get_of_push hi
  have hms : ∀ i ∈ F.ms, i < G.h.length := fun i hi => by
    obtain ⟨j, hj⟩ := List.getElem?_of_mem hi
    have hjl : j < G.S.length := by rw [← K.mn]; exact (List.getElem?_eq_some_iff.1 hj).1
    exact lt_of_get (K.mg j i _ hj (gs_get hjl))
  refine ⟨pre_set (pre_push K.p) K.lo.1, get_set_self (get_of_push K.c), keepA _ _ _ _ _ _ (by decide) K.s, keepA _ _ _ _ _ _ (by decide) K.m, fun _ => ⟨?_, fun hi => ?_, K.p.length_le⟩, K.un, K.mn, fun j u l h1 h2 => ?_, K.ud, fun j i l h1 h2 => keepM _ _ _ (K.mg j i l h1 h2), K.md, fun i cs v o et he hi => keepA _ _ _ _ _ _ (by rcases he with rfl | rfl <;> decide) (K.kb i cs v o et he hi), K.lo⟩
  · simp only
    rw [get_set_ne (by omega)]
    exact push_get_self
  · have := hms _ hi
    simp only at this
    omega
  · refine (K.ug j u l h1 h2).mono fun i o hi ho => ?_
    obtain ⟨ver, h5⟩ := (K.ug j u l h1 h2).obj hi
    rw [ho] at h5
    cases h5
    exact keepA _ _ _ _ _ _ (by decide) ho
set_option maxHeartbeats 8000000 in
theorem open_fw {h : Heap} {g : Gram} {v wv : Value} {w : List Nat} (hr : RdGram h v g) (hwR : RdB h wv w) (R : RightS g) (W : WfG g) (hw : w.length ≤ 512) :
    FW env 37 [v, wv] h fun r h' => ∃ hB rv F G, r = .pointer (some ⟨F.cp, 0, some 0⟩) ∧ G.h = h' ∧ CHR h hB g rv wv F G ∧ ChartOK g w G.S ∧ RdRules h rv g.rules := by
  obtain ⟨u, rfl, hu⟩ := id hr
  obtain ⟨p, c, rfl⟩ := hu.form
  obtain ⟨pw, cw, rfl⟩ := hwR.form
  have hle := hu.le
  have n1 := R.n1
  have n2 := R.n2
  have hrl := R.rl
  obtain ⟨N, hN⟩ : ∃ N : Nat, g.nts = N := ⟨g.nts.toNat, by omega⟩
  obtain ⟨M, hM⟩ : ∃ M : Nat, M = w.length + 1 := ⟨_, rfl⟩
  have f0 : IntKind.i64.wrap ((w.length : Int) + 1) = (M : Int) := by rw [wrap64_id (by omega) (by omega)]; omega
  refine fw_enter (fn := Try.f37) Try.func37 rfl (by kernel_rfl) (by simp [Try.ntmps37]) ?_; simp only [push_cast]
  repeat (first | refine cw_seq ?_ | refine cw_region ?_ | refine ow_nil ?_ | ((first | apply ow_cons | apply qw_cons); · simp only [push_cast, env, Nat.reduceEqDiff, reduceIte, Nat.reduceAdd, Nat.reduceMul, Nat.reduceLeDiff, reduceCtorEq, Nat.reduceSub, Int.reduceToNat] <;> exact rfl) | ((first | apply ow_spec | apply qw_spec); · simp only [push_cast, env, Nat.reduceEqDiff, reduceIte, Nat.reduceAdd, Nat.reduceMul, Nat.reduceLeDiff, reduceCtorEq, Nat.reduceSub, Int.reduceToNat] <;> exact rfl) | refine qw_nil ?_ | refine cw_block ?_ | refine cw_scope ?_ | refine cw_label ?_ | refine cw_skip ?_)
  refine cw_weakL [(1, .val (.slice pw w.length cw)), (2, .box [i64 g.nts, i64 g.start, .slice p g.rules.length c])] (by simp only [push_cast, SubL, fget, Nat.reduceEqDiff, reduceIte]) ?_
  show CW _ _ ⟨_, [], h⟩ _
  apply cw_ordT (n := 9) (L := [[], [], [], [2], [2, 3], [], [5], [5, 6], [5, 6, 7], [0, 1, 2, 3, 4, 5, 6, 7, 8], [0, 1, 2, 3, 4, 5, 6, 7, 8, 9], [0, 1, 2, 3, 4, 5, 6, 7, 8, 9, 10]]) (act := []) (hs := []) (resL := [_, _, _, _, _, _, _, _, _]) (frP := [(2, .box [i64 g.nts, i64 g.start, .slice p g.rules.length c]), (12, .val (.agg #[i64 g.nts, i64 g.start, .slice p g.rules.length c])), (13, .val (.slice pw w.length cw)), (16, .prv (.arr (List.replicate N nilS) 0 true 91) N), (20, .prv (.arr (List.replicate M nilS) 0 true 55) M)])
  case hm => exact mixed
  case hc => kernel_rfl
  case hn => kernel_rfl
  case ha => rfl
  case hb => rfl
  case hS =>
    repeat (first | exact StepsA.nil _ | (apply StepsA.cons; (· rfl); (· (first | refine ⟨?_, trivial⟩ | refine ⟨?_, ?_, trivial⟩ | refine ⟨?_, ?_, ?_, trivial⟩ | refine ⟨?_, ?_, ?_, ?_, trivial⟩) <;> (first | (apply one_val; (· rfl); (· simp only [push_cast, env, Nat.reduceEqDiff, reduceIte, Nat.reduceAdd, Nat.reduceMul, Nat.reduceLeDiff, reduceCtorEq, Nat.reduceSub, Int.reduceToNat, f0] <;> exact rfl); (· simp only [push_cast, env, Nat.reduceEqDiff, reduceIte, Nat.reduceAdd, Nat.reduceMul, Nat.reduceLeDiff, reduceCtorEq, Nat.reduceSub, Int.reduceToNat, f0] <;> exact rfl)) | (apply one_eph; (· rfl); (· simp only [push_cast, env, Nat.reduceEqDiff, reduceIte, Nat.reduceAdd, Nat.reduceMul, Nat.reduceLeDiff, reduceCtorEq, Nat.reduceSub, Int.reduceToNat, f0] <;> exact rfl); (· rfl); (· simp only [push_cast, env, Nat.reduceEqDiff, reduceIte, Nat.reduceAdd, Nat.reduceMul, Nat.reduceLeDiff, reduceCtorEq, Nat.reduceSub, Int.reduceToNat, f0] <;> exact rfl); (· decide)) | (apply one_bsl; (· rfl); (· simp only [push_cast, env, Nat.reduceEqDiff, reduceIte, Nat.reduceAdd, Nat.reduceMul, Nat.reduceLeDiff, reduceCtorEq, Nat.reduceSub, Int.reduceToNat, f0] <;> exact rfl); (· rfl); (· simp only [push_cast, env, Nat.reduceEqDiff, reduceIte, Nat.reduceAdd, Nat.reduceMul, Nat.reduceLeDiff, reduceCtorEq, Nat.reduceSub, Int.reduceToNat, f0] <;> exact rfl)) | (apply one_box; (· rfl); (· simp only [push_cast, env, Nat.reduceEqDiff, reduceIte, Nat.reduceAdd, Nat.reduceMul, Nat.reduceLeDiff, reduceCtorEq, Nat.reduceSub, Int.reduceToNat, f0] <;> exact rfl); (· rfl); (· simp only [push_cast, env, Nat.reduceEqDiff, reduceIte, Nat.reduceAdd, Nat.reduceMul, Nat.reduceLeDiff, reduceCtorEq, Nat.reduceSub, Int.reduceToNat, f0] <;> exact rfl)) | (apply one_skip; (· rfl); (· simp only [push_cast, env, Nat.reduceEqDiff, reduceIte, Nat.reduceAdd, Nat.reduceMul, Nat.reduceLeDiff, reduceCtorEq, Nat.reduceSub, Int.reduceToNat, f0] <;> exact rfl)))); (· rfl)))
    apply StepsA.cons
    · rfl
    · refine ⟨?_, trivial⟩
      exact one_mkP (N := N) rfl (by simp only [push_cast, env, Nat.reduceEqDiff, reduceIte, Nat.reduceAdd, Nat.reduceMul, Nat.reduceLeDiff, reduceCtorEq, Nat.reduceSub, Int.reduceToNat] <;> exact rfl) rfl rfl (by simp only [push_cast, env, Nat.reduceEqDiff, reduceIte, Nat.reduceAdd, Nat.reduceMul, Nat.reduceLeDiff, reduceCtorEq, Nat.reduceSub, Int.reduceToNat] <;> exact rfl) hN (by kernel_rfl) ti91 rfl (by rfl) (by simp only; omega) (by omega) flat_rep1
    · rfl
    repeat (first | exact StepsA.nil _ | (apply StepsA.cons; (· rfl); (· (first | refine ⟨?_, trivial⟩ | refine ⟨?_, ?_, trivial⟩ | refine ⟨?_, ?_, ?_, trivial⟩ | refine ⟨?_, ?_, ?_, ?_, trivial⟩) <;> (first | (apply one_val; (· rfl); (· simp only [push_cast, env, Nat.reduceEqDiff, reduceIte, Nat.reduceAdd, Nat.reduceMul, Nat.reduceLeDiff, reduceCtorEq, Nat.reduceSub, Int.reduceToNat, f0] <;> exact rfl); (· simp only [push_cast, env, Nat.reduceEqDiff, reduceIte, Nat.reduceAdd, Nat.reduceMul, Nat.reduceLeDiff, reduceCtorEq, Nat.reduceSub, Int.reduceToNat, f0] <;> exact rfl)) | (apply one_eph; (· rfl); (· simp only [push_cast, env, Nat.reduceEqDiff, reduceIte, Nat.reduceAdd, Nat.reduceMul, Nat.reduceLeDiff, reduceCtorEq, Nat.reduceSub, Int.reduceToNat, f0] <;> exact rfl); (· rfl); (· simp only [push_cast, env, Nat.reduceEqDiff, reduceIte, Nat.reduceAdd, Nat.reduceMul, Nat.reduceLeDiff, reduceCtorEq, Nat.reduceSub, Int.reduceToNat, f0] <;> exact rfl); (· decide)) | (apply one_bsl; (· rfl); (· simp only [push_cast, env, Nat.reduceEqDiff, reduceIte, Nat.reduceAdd, Nat.reduceMul, Nat.reduceLeDiff, reduceCtorEq, Nat.reduceSub, Int.reduceToNat, f0] <;> exact rfl); (· rfl); (· simp only [push_cast, env, Nat.reduceEqDiff, reduceIte, Nat.reduceAdd, Nat.reduceMul, Nat.reduceLeDiff, reduceCtorEq, Nat.reduceSub, Int.reduceToNat, f0] <;> exact rfl)) | (apply one_box; (· rfl); (· simp only [push_cast, env, Nat.reduceEqDiff, reduceIte, Nat.reduceAdd, Nat.reduceMul, Nat.reduceLeDiff, reduceCtorEq, Nat.reduceSub, Int.reduceToNat, f0] <;> exact rfl); (· rfl); (· simp only [push_cast, env, Nat.reduceEqDiff, reduceIte, Nat.reduceAdd, Nat.reduceMul, Nat.reduceLeDiff, reduceCtorEq, Nat.reduceSub, Int.reduceToNat, f0] <;> exact rfl)) | (apply one_skip; (· rfl); (· simp only [push_cast, env, Nat.reduceEqDiff, reduceIte, Nat.reduceAdd, Nat.reduceMul, Nat.reduceLeDiff, reduceCtorEq, Nat.reduceSub, Int.reduceToNat, f0] <;> exact rfl)))); (· rfl)))
    apply StepsA.cons
    · rfl
    · refine ⟨?_, trivial⟩
      exact one_mkP (N := M) rfl (by simp only [push_cast, env, Nat.reduceEqDiff, reduceIte, Nat.reduceAdd, Nat.reduceMul, Nat.reduceLeDiff, reduceCtorEq, Nat.reduceSub, Int.reduceToNat] <;> exact rfl) rfl rfl (by simp only [push_cast, env, Nat.reduceEqDiff, reduceIte, Nat.reduceAdd, Nat.reduceMul, Nat.reduceLeDiff, reduceCtorEq, Nat.reduceSub, Int.reduceToNat] <;> exact rfl) rfl (by kernel_rfl) ti55 rfl (by rfl) (by simp only; omega) (by omega) flat_rep1
    · rfl
    repeat (first | exact StepsA.nil _ | (apply StepsA.cons; (· rfl); (· (first | refine ⟨?_, trivial⟩ | refine ⟨?_, ?_, trivial⟩ | refine ⟨?_, ?_, ?_, trivial⟩ | refine ⟨?_, ?_, ?_, ?_, trivial⟩) <;> (first | (apply one_val; (· rfl); (· simp only [push_cast, env, Nat.reduceEqDiff, reduceIte, Nat.reduceAdd, Nat.reduceMul, Nat.reduceLeDiff, reduceCtorEq, Nat.reduceSub, Int.reduceToNat] <;> exact rfl); (· simp only [push_cast, env, Nat.reduceEqDiff, reduceIte, Nat.reduceAdd, Nat.reduceMul, Nat.reduceLeDiff, reduceCtorEq, Nat.reduceSub, Int.reduceToNat] <;> exact rfl)) | (apply one_eph; (· rfl); (· simp only [push_cast, env, Nat.reduceEqDiff, reduceIte, Nat.reduceAdd, Nat.reduceMul, Nat.reduceLeDiff, reduceCtorEq, Nat.reduceSub, Int.reduceToNat] <;> exact rfl); (· rfl); (· simp only [push_cast, env, Nat.reduceEqDiff, reduceIte, Nat.reduceAdd, Nat.reduceMul, Nat.reduceLeDiff, reduceCtorEq, Nat.reduceSub, Int.reduceToNat] <;> exact rfl); (· decide)) | (apply one_bsl; (· rfl); (· simp only [push_cast, env, Nat.reduceEqDiff, reduceIte, Nat.reduceAdd, Nat.reduceMul, Nat.reduceLeDiff, reduceCtorEq, Nat.reduceSub, Int.reduceToNat] <;> exact rfl); (· rfl); (· simp only [push_cast, env, Nat.reduceEqDiff, reduceIte, Nat.reduceAdd, Nat.reduceMul, Nat.reduceLeDiff, reduceCtorEq, Nat.reduceSub, Int.reduceToNat] <;> exact rfl)) | (apply one_box; (· rfl); (· simp only [push_cast, env, Nat.reduceEqDiff, reduceIte, Nat.reduceAdd, Nat.reduceMul, Nat.reduceLeDiff, reduceCtorEq, Nat.reduceSub, Int.reduceToNat] <;> exact rfl); (· rfl); (· simp only [push_cast, env, Nat.reduceEqDiff, reduceIte, Nat.reduceAdd, Nat.reduceMul, Nat.reduceLeDiff, reduceCtorEq, Nat.reduceSub, Int.reduceToNat] <;> exact rfl)) | (apply one_skip; (· rfl); (· simp only [push_cast, env, Nat.reduceEqDiff, reduceIte, Nat.reduceAdd, Nat.reduceMul, Nat.reduceLeDiff, reduceCtorEq, Nat.reduceSub, Int.reduceToNat] <;> exact rfl)))); (· rfl)))
  case ht => rfl
  case hF => repeat (first | exact trivial | (refine ⟨.inl ⟨by decide, rfl⟩, ?_⟩) | (refine ⟨.inr ⟨rfl, by simp⟩, ?_⟩))
  refine ow_pub (d := 16) rfl ?_
  refine ow_pub (d := 20) rfl ?_
  iterate 1 (apply ow_cons; · simp only [push_cast, env, Nat.reduceEqDiff, reduceIte, Nat.reduceAdd, Nat.reduceMul, Nat.reduceLeDiff, reduceCtorEq, Nat.reduceSub, Int.reduceToNat, List.length_append, List.length_cons, List.length_nil, Nat.zero_add, List.append_assoc] <;> exact rfl)
  refine ow_boxH (by simp only [push_cast, env, Nat.reduceEqDiff, reduceIte, Nat.reduceAdd, Nat.reduceMul, Nat.reduceLeDiff, reduceCtorEq, Nat.reduceSub, Int.reduceToNat] <;> exact rfl) (by simp only [push_cast, env, Nat.reduceEqDiff, reduceIte, Nat.reduceAdd, Nat.reduceMul, Nat.reduceLeDiff, reduceCtorEq, Nat.reduceSub, Int.reduceToNat] <;> exact rfl) ?_
  simp only [List.length_append, List.length_cons, List.length_nil, Nat.zero_add, List.append_assoc, List.cons_append, List.nil_append]
  repeat (first | refine cw_seq ?_ | refine cw_region ?_ | refine ow_nil ?_ | ((first | apply ow_cons | apply qw_cons); · simp only [push_cast, env, Nat.reduceEqDiff, reduceIte, Nat.reduceAdd, Nat.reduceMul, Nat.reduceLeDiff, reduceCtorEq, Nat.reduceSub, Int.reduceToNat] <;> exact rfl) | ((first | apply ow_spec | apply qw_spec); · simp only [push_cast, env, Nat.reduceEqDiff, reduceIte, Nat.reduceAdd, Nat.reduceMul, Nat.reduceLeDiff, reduceCtorEq, Nat.reduceSub, Int.reduceToNat] <;> exact rfl) | refine qw_nil ?_ | refine cw_block ?_ | refine cw_scope ?_ | refine cw_label ?_ | refine cw_skip ?_)
  refine ⟨[(2, .box [i64 g.nts, i64 g.start, .slice p g.rules.length c]), (5, .val (.pointer (some ⟨h.length + 2, 0, some 0⟩)))], (by simp only [push_cast, SubL, fget, Nat.reduceEqDiff, reduceIte]), ?_⟩
  obtain ⟨H3, hH3⟩ : ∃ H3, H3 = h ++ [HObj.arr (List.replicate N nilS) 0 true 91, HObj.arr (List.replicate M nilS) 0 true 55, HObj.arr [i64 g.nts, i64 g.start, .slice p g.rules.length c, .slice pw w.length cw, .slice (some ⟨h.length, 0, some 0⟩) N N, .slice (some ⟨h.length + 1, 0, some 0⟩) M M, nilS, .map none] 0 true 73] := ⟨_, rfl⟩
  show CW _ _ ⟨_, [], h ++ [HObj.arr (List.replicate N nilS) 0 true 91, HObj.arr (List.replicate M nilS) 0 true 55, HObj.arr [i64 g.nts, i64 g.start, .slice p g.rules.length c, .slice pw w.length cw, .slice (some ⟨h.length, 0, some 0⟩) N N, .slice (some ⟨h.length + 1, 0, some 0⟩) M M, nilS, .map none] 0 true 73]⟩ _
  rw [← hH3]
  have i1 : O1 h g (.slice p g.rules.length c) (.slice pw w.length cw) N M 0 ⟨H3, List.replicate N nilS, List.replicate N []⟩ := by
    subst hH3
    refine ⟨List.prefix_append _ _, by simp, ?_, ?_, ⟨by simp, ?_, ?_, ?_⟩, by simp, ⟨by simp [hN], ?_, ?_⟩⟩
    · simp only; rw [List.getElem?_append_right (by omega)]; simp
    · simp only; rw [List.getElem?_append_right (by omega)]; simp
    · intro i u l h1 h2
      have hi : i < N := by have := (List.getElem?_eq_some_iff.1 h1).1; simpa using this
      rw [List.getElem?_replicate, if_pos hi] at h1 h2
      cases h1; cases h2
      exact Grow.nil
    · intro i j u w x _ h1 _ h3
      rw [List.getElem?_replicate] at h1
      split at h1 <;> cases h1
      simp [isAt] at h3
    · intro i u h1
      rw [List.getElem?_replicate] at h1
      split at h1 <;> cases h1
      rfl
    · intro a h0 h1 q
      rw [lget_rep]
      simp
    · intro l hl
      rw [List.mem_replicate] at hl
      rw [hl.2]
      simp
  clear hH3
  repeat (first | refine cw_seq ?_ | refine cw_region ?_ | refine ow_nil ?_ | ((first | apply ow_cons | apply qw_cons); · simp only [push_cast, env, Nat.reduceEqDiff, reduceIte, Nat.reduceAdd, Nat.reduceMul, Nat.reduceLeDiff, reduceCtorEq, Nat.reduceSub, Int.reduceToNat] <;> exact rfl) | ((first | apply ow_spec | apply qw_spec); · simp only [push_cast, env, Nat.reduceEqDiff, reduceIte, Nat.reduceAdd, Nat.reduceMul, Nat.reduceLeDiff, reduceCtorEq, Nat.reduceSub, Int.reduceToNat] <;> exact rfl) | refine qw_nil ?_ | refine cw_block ?_ | refine cw_scope ?_ | refine cw_label ?_ | refine cw_skip ?_)
  refine cw_forG g.rules.length (fun k (x : SG) => [(2, .box [i64 g.nts, i64 g.start, .slice p g.rules.length c]), (5, .val (.pointer (some ⟨h.length + 2, 0, some 0⟩))), (24, .val (.slice p g.rules.length c)), (25, .val (i64 g.rules.length)), (26, .val (i64 k))]) (fun _ x => x.hk)
    (fun k x => O1 h g (.slice p g.rules.length c) (.slice pw w.length cw) N M k x) _ (by simp only [push_cast, SubL, fget, Nat.reduceEqDiff, reduceIte]) rfl i1 ?_
  clear i1 H3
  rintro k ⟨hk, us, ls⟩ hkn I
  obtain ⟨hp, ho, hs, hc, hl, hn, hB⟩ := I
  simp only at hp ho hs hc hl hn hB ⊢
  by_cases hlt : k < g.rules.length
  · obtain ⟨id, ver, own, c', cells, p', n', c2, hv, hid, hn, hrd, hu'⟩ := hu.at hlt
    cases hv
    subst hn
    have e0 := rdH_get0 hrd (by omega)
    have e0' := rdH_get (j := 1) hrd (by omega)
    simp only [List.getElem?_cons_succ, List.getElem?_cons_zero] at e0 e0'
    have e1 := rng hlt
    have e2 := inc hlt hle
    have e3 := lt_dec hlt
    have hmem : g.rules[k] ∈ _ := List.getElem_mem hlt
    have hn2 := RdSyms.le hu'
    obtain ⟨a1, a2, a3, hS⟩ := R.r _ hmem
    have hid2 := getElem?_prefix hp hid
    repeat (first | refine cw_seq ?_ | refine cw_region ?_ | refine ow_nil ?_ | ((first | apply ow_cons | apply qw_cons); · simp only [push_cast, env, Nat.reduceEqDiff, reduceIte, Nat.reduceAdd, Nat.reduceMul, Nat.reduceLeDiff, reduceCtorEq, Nat.reduceSub, Int.reduceToNat, e1, hid2, hrd, e3] <;> exact rfl) | ((first | apply ow_spec | apply qw_spec); · simp only [push_cast, env, Nat.reduceEqDiff, reduceIte, Nat.reduceAdd, Nat.reduceMul, Nat.reduceLeDiff, reduceCtorEq, Nat.reduceSub, Int.reduceToNat, e1, hid2, hrd, e3] <;> exact rfl) | refine qw_nil ?_ | refine cw_block ?_ | refine cw_scope ?_ | refine cw_label ?_ | refine cw_skip ?_)
    refine cw_condT (by simp only [push_cast, env, Nat.reduceEqDiff, reduceIte, Nat.reduceAdd, Nat.reduceMul, Nat.reduceLeDiff, reduceCtorEq, Nat.reduceSub, Int.reduceToNat] <;> exact rfl) ?_
    repeat (first | refine cw_seq ?_ | refine cw_region ?_ | refine ow_nil ?_ | ((first | apply ow_cons | apply qw_cons); · simp only [push_cast, env, Nat.reduceEqDiff, reduceIte, Nat.reduceAdd, Nat.reduceMul, Nat.reduceLeDiff, reduceCtorEq, Nat.reduceSub, Int.reduceToNat, e1, hid2, hrd] <;> exact rfl) | ((first | apply ow_spec | apply qw_spec); · simp only [push_cast, env, Nat.reduceEqDiff, reduceIte, Nat.reduceAdd, Nat.reduceMul, Nat.reduceLeDiff, reduceCtorEq, Nat.reduceSub, Int.reduceToNat, e1, hid2, hrd] <;> exact rfl) | refine qw_nil ?_ | refine cw_block ?_ | refine cw_scope ?_ | refine cw_label ?_ | refine cw_skip ?_)
    refine cw_weakL [(2, .box [i64 g.nts, i64 g.start, .slice (some ⟨id, 0, some ver⟩) g.rules.length c]), (5, .val (.pointer (some ⟨h.length + 2, 0, some 0⟩))), (24, .val (.slice (some ⟨id, 0, some ver⟩) g.rules.length c)), (25, .val (i64 g.rules.length)), (26, .val (i64 k)), (6, .val (i64 k)), (7, .box [i64 g.rules[k].lhs, .slice p' g.rules[k].rhs.length c2])] (by simp only [push_cast, SubL, fget, Nat.reduceEqDiff, reduceIte]) ?_
    show CW _ _ ⟨_, [], hk⟩ _
    have hBn := hB.n
    have hA : g.rules[k].lhs.toNat < us.length := by omega
    obtain ⟨v, hv⟩ : ∃ v, us[g.rules[k].lhs.toNat]? = some v := ⟨_, List.getElem?_eq_getElem hA⟩
    have hlA := lget_get (ls := ls) a1 (by omega)
    have G := hl.g _ _ _ hv hlA
    obtain ⟨pv, cv, rfl⟩ := G.form
    have hlen := hB.l _ (List.mem_of_getElem? hlA)
    obtain ⟨p2, c2', h2, hone1, G2, hp2, hpr, hx2⟩ := push_one (b := (k : Int)) G hp (by omega)
    have kind : ∀ (i : Nat) (o : HObj), hk[i]? = some o → (∀ cs ve, o ≠ .arr cs ve true 3) → isAt (.slice pv (lget ls g.rules[k].lhs).length cv) i = false := fun i o hi hne => by
      cases hb : isAt (.slice pv (lget ls g.rules[k].lhs).length cv) i with
      | false => rfl
      | true =>
        obtain ⟨ve, h5⟩ := G.obj hb
        rw [hi] at h5
        exact (hne _ _ (Option.some.inj h5)).elim
    have ho2 : h2[h.length]? = some (.arr us 0 true 91) := hpr _ _ (hl.o _ _ hv) ho
    have hs2 := hpr _ _ (kind _ _ hs (fun cs ve h5 => by cases h5)) hs
    have hc2 := hpr _ _ (kind _ _ hc (fun cs ve h5 => by cases h5)) hc
    have r1 := rng0 (N := N) a1 (by omega)
    apply cw_ordA (L := [[], [0], [1], [2], [], [4], [], [6], [7], [8], [], [10], [9, 11], [12], [], [14], [13, 15], [3, 5], [0, 1, 2, 3, 4, 5, 6, 7, 8, 9, 10, 11, 12, 13, 14, 15, 16, 17]]) (act := [16, 18]) (hs := [h2, h2.set h.length (.arr (us.set g.rules[k].lhs.toNat (.slice p2 ((lget ls g.rules[k].lhs).length + 1) c2')) 0 true 91)]) (resL := [_, _, _, _, _, _, _, _, _, _, _, _, _, _, _, _, _, _, _]) (frF := [(2, .box [i64 g.nts, i64 g.start, .slice (some ⟨id, 0, some ver⟩) g.rules.length c]), (5, .val (.pointer (some ⟨h.length + 2, 0, some 0⟩))), (24, .val (.slice (some ⟨id, 0, some ver⟩) g.rules.length c)), (25, .val (i64 g.rules.length)), (26, .val (i64 k))])
    case hm => exact mixed
    case hc => kernel_rfl
    case ha => rfl
    case hb => rfl
    case hS =>
      repeat (first | exact StepsA.nil _ | (apply StepsA.cons; (· rfl); (· (first | refine ⟨?_, trivial⟩ | refine ⟨?_, ?_, trivial⟩ | refine ⟨?_, ?_, ?_, trivial⟩ | refine ⟨?_, ?_, ?_, ?_, trivial⟩) <;> (first | (apply one_val; (· rfl); (· simp only [push_cast, env, Nat.reduceEqDiff, reduceIte, Nat.reduceAdd, Nat.reduceMul, Nat.reduceLeDiff, reduceCtorEq, Nat.reduceSub, Int.reduceToNat, r1, ho, hc, ho2, hc2, hv, Nat.mul_one] <;> exact rfl); (· simp only [push_cast, env, Nat.reduceEqDiff, reduceIte, Nat.reduceAdd, Nat.reduceMul, Nat.reduceLeDiff, reduceCtorEq, Nat.reduceSub, Int.reduceToNat, r1, ho, hc, ho2, hc2, hv, Nat.mul_one] <;> exact rfl)) | (apply one_eph; (· rfl); (· simp only [push_cast, env, Nat.reduceEqDiff, reduceIte, Nat.reduceAdd, Nat.reduceMul, Nat.reduceLeDiff, reduceCtorEq, Nat.reduceSub, Int.reduceToNat, r1, ho, hc, ho2, hc2, hv, Nat.mul_one] <;> exact rfl); (· rfl); (· simp only [push_cast, env, Nat.reduceEqDiff, reduceIte, Nat.reduceAdd, Nat.reduceMul, Nat.reduceLeDiff, reduceCtorEq, Nat.reduceSub, Int.reduceToNat, r1, ho, hc, ho2, hc2, hv, Nat.mul_one] <;> exact rfl); (· decide)) | (apply one_bsl; (· rfl); (· simp only [push_cast, env, Nat.reduceEqDiff, reduceIte, Nat.reduceAdd, Nat.reduceMul, Nat.reduceLeDiff, reduceCtorEq, Nat.reduceSub, Int.reduceToNat, r1, ho, hc, ho2, hc2, hv, Nat.mul_one] <;> exact rfl); (· rfl); (· simp only [push_cast, env, Nat.reduceEqDiff, reduceIte, Nat.reduceAdd, Nat.reduceMul, Nat.reduceLeDiff, reduceCtorEq, Nat.reduceSub, Int.reduceToNat, r1, ho, hc, ho2, hc2, hv, Nat.mul_one] <;> exact rfl)) | (apply one_box; (· rfl); (· simp only [push_cast, env, Nat.reduceEqDiff, reduceIte, Nat.reduceAdd, Nat.reduceMul, Nat.reduceLeDiff, reduceCtorEq, Nat.reduceSub, Int.reduceToNat, r1, ho, hc, ho2, hc2, hv, Nat.mul_one] <;> exact rfl); (· rfl); (· simp only [push_cast, env, Nat.reduceEqDiff, reduceIte, Nat.reduceAdd, Nat.reduceMul, Nat.reduceLeDiff, reduceCtorEq, Nat.reduceSub, Int.reduceToNat, r1, ho, hc, ho2, hc2, hv, Nat.mul_one] <;> exact rfl)) | (apply one_skip; (· rfl); (· simp only [push_cast, env, Nat.reduceEqDiff, reduceIte, Nat.reduceAdd, Nat.reduceMul, Nat.reduceLeDiff, reduceCtorEq, Nat.reduceSub, Int.reduceToNat, r1, ho, hc, ho2, hc2, hv, Nat.mul_one] <;> exact rfl)))); (· rfl)))
      apply StepsA.cons
      · rfl
      · refine ⟨?_, trivial⟩
        exact hone1 _ _ _ _ _ rfl (by simp only [push_cast, env, Nat.reduceEqDiff, reduceIte, Nat.reduceAdd, Nat.reduceMul, Nat.reduceLeDiff, reduceCtorEq, Nat.reduceSub, Int.reduceToNat] <;> exact rfl) rfl (by simp only [push_cast, env, Nat.reduceEqDiff, reduceIte, Nat.reduceAdd, Nat.reduceMul, Nat.reduceLeDiff, reduceCtorEq, Nat.reduceSub, Int.reduceToNat] <;> exact rfl) (by simp only [push_cast, env, Nat.reduceEqDiff, reduceIte, Nat.reduceAdd, Nat.reduceMul, Nat.reduceLeDiff, reduceCtorEq, Nat.reduceSub, Int.reduceToNat] <;> exact rfl)
      · rfl
      repeat (first | exact StepsA.nil _ | (apply StepsA.cons; (· rfl); (· (first | refine ⟨?_, trivial⟩ | refine ⟨?_, ?_, trivial⟩ | refine ⟨?_, ?_, ?_, trivial⟩ | refine ⟨?_, ?_, ?_, ?_, trivial⟩) <;> (first | (apply one_val; (· rfl); (· simp only [push_cast, env, Nat.reduceEqDiff, reduceIte, Nat.reduceAdd, Nat.reduceMul, Nat.reduceLeDiff, reduceCtorEq, Nat.reduceSub, Int.reduceToNat, r1, Nat.mul_one] <;> exact rfl); (· simp only [push_cast, env, Nat.reduceEqDiff, reduceIte, Nat.reduceAdd, Nat.reduceMul, Nat.reduceLeDiff, reduceCtorEq, Nat.reduceSub, Int.reduceToNat, r1, Nat.mul_one] <;> exact rfl)) | (apply one_eph; (· rfl); (· simp only [push_cast, env, Nat.reduceEqDiff, reduceIte, Nat.reduceAdd, Nat.reduceMul, Nat.reduceLeDiff, reduceCtorEq, Nat.reduceSub, Int.reduceToNat, r1, Nat.mul_one] <;> exact rfl); (· rfl); (· simp only [push_cast, env, Nat.reduceEqDiff, reduceIte, Nat.reduceAdd, Nat.reduceMul, Nat.reduceLeDiff, reduceCtorEq, Nat.reduceSub, Int.reduceToNat, r1, Nat.mul_one] <;> exact rfl); (· decide)) | (apply one_bsl; (· rfl); (· simp only [push_cast, env, Nat.reduceEqDiff, reduceIte, Nat.reduceAdd, Nat.reduceMul, Nat.reduceLeDiff, reduceCtorEq, Nat.reduceSub, Int.reduceToNat, r1, Nat.mul_one] <;> exact rfl); (· rfl); (· simp only [push_cast, env, Nat.reduceEqDiff, reduceIte, Nat.reduceAdd, Nat.reduceMul, Nat.reduceLeDiff, reduceCtorEq, Nat.reduceSub, Int.reduceToNat, r1, Nat.mul_one] <;> exact rfl)) | (apply one_box; (· rfl); (· simp only [push_cast, env, Nat.reduceEqDiff, reduceIte, Nat.reduceAdd, Nat.reduceMul, Nat.reduceLeDiff, reduceCtorEq, Nat.reduceSub, Int.reduceToNat, r1, Nat.mul_one] <;> exact rfl); (· rfl); (· simp only [push_cast, env, Nat.reduceEqDiff, reduceIte, Nat.reduceAdd, Nat.reduceMul, Nat.reduceLeDiff, reduceCtorEq, Nat.reduceSub, Int.reduceToNat, r1, Nat.mul_one] <;> exact rfl)) | (apply one_skip; (· rfl); (· simp only [push_cast, env, Nat.reduceEqDiff, reduceIte, Nat.reduceAdd, Nat.reduceMul, Nat.reduceLeDiff, reduceCtorEq, Nat.reduceSub, Int.reduceToNat, r1, Nat.mul_one] <;> exact rfl)))); (· rfl)))
      apply StepsA.cons
      · rfl
      · refine ⟨?_, trivial⟩
        exact One.stoH (r := .sl .unk) (cells' := us.set g.rules[k].lhs.toNat (.slice p2 ((lget ls g.rules[k].lhs).length + 1) c2')) (by simp only [push_cast, env, Nat.reduceEqDiff, reduceIte, Nat.reduceAdd, Nat.reduceMul, Nat.reduceLeDiff, reduceCtorEq, Nat.reduceSub, Int.reduceToNat] <;> exact rfl) rfl (by simp only [push_cast, env, Nat.reduceEqDiff, reduceIte, Nat.reduceAdd, Nat.reduceMul, Nat.reduceLeDiff, reduceCtorEq, Nat.reduceSub, Int.reduceToNat] <;> exact rfl) (by simp only [push_cast, env, Nat.reduceEqDiff, reduceIte, Nat.reduceAdd, Nat.reduceMul, Nat.reduceLeDiff, reduceCtorEq, Nat.reduceSub, Int.reduceToNat] <;> exact rfl) ho2 (by simp only [push_cast, env, Nat.reduceEqDiff, reduceIte, Nat.reduceAdd, Nat.reduceMul, Nat.reduceLeDiff, reduceCtorEq, Nat.reduceSub, Int.reduceToNat] <;> exact rfl) rfl (wrV hA) rfl
      · rfl
      exact StepsA.nil _
    case ht => rfl
    case hF => repeat (first | exact trivial | (refine ⟨.inl ⟨by decide, rfl⟩, ?_⟩) | (refine ⟨.inr ⟨rfl, by simp⟩, ?_⟩))
    show CW _ _ _ _
    repeat (first | refine cw_seq ?_ | refine cw_region ?_ | refine ow_nil ?_ | ((first | apply ow_cons | apply qw_cons); · simp only [push_cast, env, Nat.reduceEqDiff, reduceIte, Nat.reduceAdd, Nat.reduceMul, Nat.reduceLeDiff, reduceCtorEq, Nat.reduceSub, Int.reduceToNat, e2] <;> exact rfl) | ((first | apply ow_spec | apply qw_spec); · simp only [push_cast, env, Nat.reduceEqDiff, reduceIte, Nat.reduceAdd, Nat.reduceMul, Nat.reduceLeDiff, reduceCtorEq, Nat.reduceSub, Int.reduceToNat, e2] <;> exact rfl) | refine qw_nil ?_ | refine cw_block ?_ | refine cw_scope ?_ | refine cw_label ?_ | refine cw_skip ?_)
    have hio : h.length < hk.length := lt_of_get ho
    refine ⟨hlt, ⟨h2.set h.length (.arr (us.set g.rules[k].lhs.toNat (.slice p2 ((lget ls g.rules[k].lhs).length + 1) c2')) 0 true 91), us.set g.rules[k].lhs.toNat (.slice p2 ((lget ls g.rules[k].lhs).length + 1) c2'), ls.set g.rules[k].lhs.toNat (lget ls g.rules[k].lhs ++ [(k : Int)])⟩, (by simp only [push_cast, SubL, fget, Nat.reduceEqDiff, reduceIte]), rfl, pre_set hp2 (Nat.le_refl _), get_set_self ho2, ?_, ?_, ?_, by simp [hn], hB.step R hlt⟩
    · simp only; rw [get_set_ne (by omega)]; exact hs2
    · simp only; rw [get_set_ne (by omega)]; exact hc2
    · exact hl.put hv hlA hio G2 hpr hx2
  · have e3 := ge_dec hlt
    obtain rfl : k = g.rules.length := by omega
    repeat (first | refine cw_seq ?_ | refine cw_region ?_ | refine ow_nil ?_ | ((first | apply ow_cons | apply qw_cons); · simp only [push_cast, env, Nat.reduceEqDiff, reduceIte, Nat.reduceAdd, Nat.reduceMul, Nat.reduceLeDiff, reduceCtorEq, Nat.reduceSub, Int.reduceToNat, e3] <;> exact rfl) | ((first | apply ow_spec | apply qw_spec); · simp only [push_cast, env, Nat.reduceEqDiff, reduceIte, Nat.reduceAdd, Nat.reduceMul, Nat.reduceLeDiff, reduceCtorEq, Nat.reduceSub, Int.reduceToNat, e3] <;> exact rfl) | refine qw_nil ?_ | refine cw_block ?_ | refine cw_scope ?_ | refine cw_label ?_ | refine cw_skip ?_)
    refine cw_condF (by simp only [push_cast, env, Nat.reduceEqDiff, reduceIte, Nat.reduceAdd, Nat.reduceMul, Nat.reduceLeDiff, reduceCtorEq, Nat.reduceSub, Int.reduceToNat] <;> exact rfl) ?_
    refine cw_exit ?_
    show CW _ _ _ _
    have B : ByR g ls := ⟨hB.n, fun a h0 h1 q => by
      rw [hB.m a h0 h1]
      constructor
      · rintro ⟨i, r, _, k2, k3, k4⟩
        exact ⟨i, r, k2, k3, k4⟩
      · rintro ⟨i, r, k2, k3, k4⟩
        exact ⟨i, r, (List.getElem?_eq_some_iff.1 k3).1, k2, k3, k4⟩, fun l hl => by have := hB.l l hl; omega⟩
    have hBn := hB.n
    have hll : RdLL hk (.slice (some ⟨h.length, 0, some 0⟩) N N) ls := ⟨h.length, 0, true, N, us, by rw [show ls.length = N by omega], ho, hl.n, fun i u l h1 h2 => by
      have := hB.l l (List.mem_of_getElem? h2)
      exact (hl.g i u l h1 h2).sl (by omega)⟩
    clear hl hB hn
    repeat (first | refine cw_seq ?_ | refine cw_region ?_ | refine ow_nil ?_ | ((first | apply ow_cons | apply qw_cons); · simp only [push_cast, env, Nat.reduceEqDiff, reduceIte, Nat.reduceAdd, Nat.reduceMul, Nat.reduceLeDiff, reduceCtorEq, Nat.reduceSub, Int.reduceToNat, hc] <;> exact rfl) | ((first | apply ow_spec | apply qw_spec); · simp only [push_cast, env, Nat.reduceEqDiff, reduceIte, Nat.reduceAdd, Nat.reduceMul, Nat.reduceLeDiff, reduceCtorEq, Nat.reduceSub, Int.reduceToNat, hc] <;> exact rfl) | refine qw_nil ?_ | refine cw_block ?_ | refine cw_scope ?_ | refine cw_label ?_ | refine cw_skip ?_)
    refine cw_forG M (fun k (x : Heap × List Nat × Value) => [(2, .box [i64 g.nts, i64 g.start, .slice p g.rules.length c]), (5, .val (.pointer (some ⟨h.length + 2, 0, some 0⟩))), (54, .val (i64 M)), (55, .val (i64 k))]) (fun _ x => x.1)
      (fun k x => O2 h hk g (.slice p g.rules.length c) (.slice pw w.length cw) (.slice (some ⟨h.length, 0, some 0⟩) N N) M k x) (hk, [], nilS) (by simp only [push_cast, SubL, fget, Nat.reduceEqDiff, reduceIte]) rfl ⟨hp, fun _ _ _ _ _ _ h => h, hs, hc, rfl, Grow.nil, fun i hi => (by cases hi), fun i j y h1 => (by simp at h1)⟩ ?_
    clear hc hs ho
    rintro k ⟨hm, ms, mv⟩ hkm I
    obtain ⟨mp, mkb, msi, mc, mn, mg, mm, md⟩ := I
    simp only at mp mkb msi mc mn mg mm md ⊢
    by_cases hlt2 : k < M
    · have f2 := inc hlt2 (by omega)
      have f3 := lt_dec hlt2
      obtain ⟨pm, cm, rfl⟩ := mg.form
      repeat (first | refine cw_seq ?_ | refine cw_region ?_ | refine ow_nil ?_ | ((first | apply ow_cons | apply qw_cons); · simp only [push_cast, env, Nat.reduceEqDiff, reduceIte, Nat.reduceAdd, Nat.reduceMul, Nat.reduceLeDiff, reduceCtorEq, Nat.reduceSub, Int.reduceToNat, f3] <;> exact rfl) | ((first | apply ow_spec | apply qw_spec); · simp only [push_cast, env, Nat.reduceEqDiff, reduceIte, Nat.reduceAdd, Nat.reduceMul, Nat.reduceLeDiff, reduceCtorEq, Nat.reduceSub, Int.reduceToNat, f3] <;> exact rfl) | refine qw_nil ?_ | refine cw_block ?_ | refine cw_scope ?_ | refine cw_label ?_ | refine cw_skip ?_)
      refine cw_condT (by simp only [push_cast, env, Nat.reduceEqDiff, reduceIte, Nat.reduceAdd, Nat.reduceMul, Nat.reduceLeDiff, reduceCtorEq, Nat.reduceSub, Int.reduceToNat] <;> exact rfl) ?_
      repeat (first | refine cw_seq ?_ | refine cw_region ?_ | refine ow_nil ?_ | ((first | apply ow_cons | apply qw_cons); · simp only [push_cast, env, Nat.reduceEqDiff, reduceIte, Nat.reduceAdd, Nat.reduceMul, Nat.reduceLeDiff, reduceCtorEq, Nat.reduceSub, Int.reduceToNat, mc] <;> exact rfl) | ((first | apply ow_spec | apply qw_spec); · simp only [push_cast, env, Nat.reduceEqDiff, reduceIte, Nat.reduceAdd, Nat.reduceMul, Nat.reduceLeDiff, reduceCtorEq, Nat.reduceSub, Int.reduceToNat, mc] <;> exact rfl) | refine qw_nil ?_ | refine cw_block ?_ | refine cw_scope ?_ | refine cw_label ?_ | refine cw_skip ?_)
      refine ow_map (kt := 57) (et := 3) (by simp only [push_cast, env, Nat.reduceEqDiff, reduceIte, Nat.reduceAdd, Nat.reduceMul, Nat.reduceLeDiff, reduceCtorEq, Nat.reduceSub, Int.reduceToNat] <;> exact rfl) rfl (by kernel_rfl) ?_
      repeat (first | refine cw_seq ?_ | refine cw_region ?_ | refine ow_nil ?_ | ((first | apply ow_cons | apply qw_cons); · simp only [push_cast, env, Nat.reduceEqDiff, reduceIte, Nat.reduceAdd, Nat.reduceMul, Nat.reduceLeDiff, reduceCtorEq, Nat.reduceSub, Int.reduceToNat] <;> exact rfl) | ((first | apply ow_spec | apply qw_spec); · simp only [push_cast, env, Nat.reduceEqDiff, reduceIte, Nat.reduceAdd, Nat.reduceMul, Nat.reduceLeDiff, reduceCtorEq, Nat.reduceSub, Int.reduceToNat] <;> exact rfl) | refine qw_nil ?_ | refine cw_block ?_ | refine cw_scope ?_ | refine cw_label ?_ | refine cw_skip ?_)
      have mg1 := mg.mono (h' := hm ++ [HObj.map []]) fun i o _ ho => get_of_push ho
      refine ow_push (t := 70) (by simp only [push_cast, env, Nat.reduceEqDiff, reduceIte, Nat.reduceAdd, Nat.reduceMul, Nat.reduceLeDiff, reduceCtorEq, Nat.reduceSub, Int.reduceToNat] <;> exact rfl) rfl (by kernel_rfl) ti92 (by decide) rfl (by simp only [push_cast, env, Nat.reduceEqDiff, reduceIte, Nat.reduceAdd, Nat.reduceMul, Nat.reduceLeDiff, reduceCtorEq, Nat.reduceSub, Int.reduceToNat] <;> exact rfl) rfl mg1 (pre_push mp) (by simp [mn]) rfl (by simp only; omega) (by omega) ?_
      intro p3 c3 h3 G3 hp3 hpr3 hl3
      have kind : ∀ (i : Nat) (o : HObj), hm[i]? = some o → (∀ cs ve, o ≠ .arr cs ve true 92) → h3[i]? = some o := fun i o hi hne => hpr3 i o (by
        cases hb : isAt (.slice pm k cm) i with
        | false => rfl
        | true =>
          obtain ⟨ve, h5⟩ := mg.obj hb
          rw [hi] at h5
          exact (hne _ _ (Option.some.inj h5)).elim) (get_of_push hi)
      have mc3 := kind _ _ mc (fun cs ve h5 => by cases h5)
      have ms3 := kind _ _ msi (fun cs ve h5 => by cases h5)
      have hnew : h3[hm.length]? = some (.map []) := hpr3 _ _ (by
        cases hb : isAt (.slice pm k cm) hm.length with
        | false => rfl
        | true => have := (mg.lt hb).2; omega) push_get_self
      have hcl := lt_of_get mc
      repeat (first | refine cw_seq ?_ | refine cw_region ?_ | refine ow_nil ?_ | ((first | apply ow_cons | apply qw_cons); · simp only [push_cast, env, Nat.reduceEqDiff, reduceIte, Nat.reduceAdd, Nat.reduceMul, Nat.reduceLeDiff, reduceCtorEq, Nat.reduceSub, Int.reduceToNat] <;> exact rfl) | ((first | apply ow_spec | apply qw_spec); · simp only [push_cast, env, Nat.reduceEqDiff, reduceIte, Nat.reduceAdd, Nat.reduceMul, Nat.reduceLeDiff, reduceCtorEq, Nat.reduceSub, Int.reduceToNat] <;> exact rfl) | refine qw_nil ?_ | refine cw_block ?_ | refine cw_scope ?_ | refine cw_label ?_ | refine cw_skip ?_)
      refine ow_stoH (cells' := [i64 g.nts, i64 g.start, .slice p g.rules.length c, .slice pw w.length cw, .slice (some ⟨h.length, 0, some 0⟩) N N, .slice (some ⟨h.length + 1, 0, some 0⟩) M M, .slice p3 (k + 1) c3, .map none]) (by simp only [push_cast, env, Nat.reduceEqDiff, reduceIte, Nat.reduceAdd, Nat.reduceMul, Nat.reduceLeDiff, reduceCtorEq, Nat.reduceSub, Int.reduceToNat] <;> exact rfl) rfl rfl (by simp only [push_cast, env, Nat.reduceEqDiff, reduceIte, Nat.reduceAdd, Nat.reduceMul, Nat.reduceLeDiff, reduceCtorEq, Nat.reduceSub, Int.reduceToNat] <;> exact rfl) (by simp only [push_cast, env, Nat.reduceEqDiff, reduceIte, Nat.reduceAdd, Nat.reduceMul, Nat.reduceLeDiff, reduceCtorEq, Nat.reduceSub, Int.reduceToNat] <;> exact rfl) mc3 (by simp only [push_cast, env, Nat.reduceEqDiff, reduceIte, Nat.reduceAdd, Nat.reduceMul, Nat.reduceLeDiff, reduceCtorEq, Nat.reduceSub, Int.reduceToNat] <;> exact rfl) rfl rfl ?_
      repeat (first | refine cw_seq ?_ | refine cw_region ?_ | refine ow_nil ?_ | ((first | apply ow_cons | apply qw_cons); · simp only [push_cast, env, Nat.reduceEqDiff, reduceIte, Nat.reduceAdd, Nat.reduceMul, Nat.reduceLeDiff, reduceCtorEq, Nat.reduceSub, Int.reduceToNat, f2] <;> exact rfl) | ((first | apply ow_spec | apply qw_spec); · simp only [push_cast, env, Nat.reduceEqDiff, reduceIte, Nat.reduceAdd, Nat.reduceMul, Nat.reduceLeDiff, reduceCtorEq, Nat.reduceSub, Int.reduceToNat, f2] <;> exact rfl) | refine qw_nil ?_ | refine cw_block ?_ | refine cw_scope ?_ | refine cw_label ?_ | refine cw_skip ?_)
      refine ⟨hlt2, (_, ms ++ [hm.length], .slice p3 (k + 1) c3), (by simp only [push_cast, SubL, fget, Nat.reduceEqDiff, reduceIte]), rfl, pre_set hp3 (by omega), fun i cs v o et he hi => ?_, ?_, get_set_self mc3, by simp [mn], ?_, fun i hi => ?_, fun i j y h1 h2 => ?_⟩
      · simp only
        rw [get_set_ne (by
          rintro rfl
          have := kind _ _ (mkb _ cs v o et he hi) (fun cs' ve h5 => by
            simp only [HObj.arr.injEq] at h5
            rcases he with rfl | rfl
            · exact absurd h5.2.2.2 (by decide)
            · exact absurd h5.2.2.2 (by decide))
          rw [mc3] at this
          simp only [Option.some.injEq, HObj.arr.injEq] at this
          rcases he with rfl | rfl
          · exact absurd this.2.2.2 (by decide)
          · exact absurd this.2.2.2 (by decide))]
        exact kind _ _ (mkb _ cs v o et he hi) (fun cs' ve h5 => by
          simp only [HObj.arr.injEq] at h5
          rcases he with rfl | rfl
          · exact absurd h5.2.2.2 (by decide)
          · exact absurd h5.2.2.2 (by decide))
      · simp only
        rw [get_set_ne (by omega)]
        exact ms3
      · simp only [List.map_append, List.map_cons, List.map_nil]
        refine G3.mono fun i o hi ho => ?_
        obtain ⟨ve, h5⟩ := G3.obj hi
        rw [get_set_ne (by
          rintro rfl
          rw [mc3] at h5
          simp only [Option.some.injEq, HObj.arr.injEq] at h5
          exact absurd h5.2.2.2 (by decide))]
        exact ho
      · simp only at hi ⊢
        rw [List.mem_append, List.mem_singleton] at hi
        rcases hi with hi | rfl
        · obtain ⟨q1, q2⟩ := mm i hi
          refine ⟨?_, q2⟩
          rw [get_set_ne (by rintro rfl; rw [mc] at q1; cases q1)]
          exact kind _ _ q1 (fun cs ve h5 => by cases h5)
        · exact ⟨by rw [get_set_ne (by omega)]; exact hnew, by omega⟩
      · simp only at h1 h2
        have hlow : ∀ (a : Nat) (z : Nat), ms[a]? = some z → z < hm.length := fun a z ha => lt_of_get (mm z (List.mem_of_getElem? ha)).1
        rcases get_snoc h1 with h1 | ⟨h1, h1'⟩ <;> rcases get_snoc h2 with h2 | ⟨h2, h2'⟩
        · exact md i j y h1 h2
        · have := hlow i y h1; omega
        · have := hlow j y h2; omega
        · omega
    · have e3b := ge_dec hlt2
      obtain rfl : k = M := by omega
      repeat (first | refine cw_seq ?_ | refine cw_region ?_ | refine ow_nil ?_ | ((first | apply ow_cons | apply qw_cons); · simp only [push_cast, env, Nat.reduceEqDiff, reduceIte, Nat.reduceAdd, Nat.reduceMul, Nat.reduceLeDiff, reduceCtorEq, Nat.reduceSub, Int.reduceToNat, e3b] <;> exact rfl) | ((first | apply ow_spec | apply qw_spec); · simp only [push_cast, env, Nat.reduceEqDiff, reduceIte, Nat.reduceAdd, Nat.reduceMul, Nat.reduceLeDiff, reduceCtorEq, Nat.reduceSub, Int.reduceToNat, e3b] <;> exact rfl) | refine qw_nil ?_ | refine cw_block ?_ | refine cw_scope ?_ | refine cw_label ?_ | refine cw_skip ?_)
      refine cw_condF (by simp only [push_cast, env, Nat.reduceEqDiff, reduceIte, Nat.reduceAdd, Nat.reduceMul, Nat.reduceLeDiff, reduceCtorEq, Nat.reduceSub, Int.reduceToNat] <;> exact rfl) ?_
      refine cw_exit ?_
      show CW _ _ _ _
      obtain ⟨im, vm, hml, hme, hmg⟩ := mg.mine (by omega)
      subst hme
      have hgs0 : ∀ i, gs (List.replicate k ([] : List Item)) i = [] := fun i => by
        unfold gs
        rw [List.getD_eq_getElem?_getD, List.getElem?_replicate]
        split <;> rfl
      have K0 : CHR h hk g (.slice p g.rules.length c) (.slice pw w.length cw) ⟨h.length + 2, h.length + 1, im, vm, ms, 0, .slice (some ⟨h.length, 0, some 0⟩) N N, .map none⟩ ⟨hm, List.replicate k nilS, List.replicate k [], []⟩ := by
        refine ⟨mp, ?_, msi, hmg, (fun e => by simp at e), by simp, by simp [mn], fun j u l h1 h2 => ?_, fun i j u v x _ h1 _ h3 => ?_, fun j i l h1 h2 => ?_, md, mkb, by simp only; omega, by simp only; omega, hml, fun i hi => (mm i hi).2⟩
        · unfold chCells
          simp only [List.length_replicate]
          exact mc
        · simp only at h1 h2
          rw [List.getElem?_replicate] at h1 h2
          split at h1
          · rename_i hjk
            rw [if_pos hjk] at h2
            cases h1; cases h2
            exact Grow.nil
          · cases h1
        · simp only at h1
          rw [List.getElem?_replicate] at h1
          split at h1 <;> cases h1
          simp [isAt] at h3
        · simp only at h1 h2 ⊢
          rw [List.getElem?_replicate] at h2
          split at h2 <;> cases h2
          exact (mm i (List.mem_of_getElem? h1)).1
      have C0 : CI g w (List.replicate k []) := ⟨by simp [hM], fun j x hx => by rw [hgs0] at hx; simp at hx, fun j => by rw [hgs0]; exact List.nodup_nil⟩
      clear mc msi mg hmg mm md mn mkb mp hgs0
      obtain ⟨F0, hF0⟩ : ∃ F0 : Fix, F0 = ⟨h.length + 2, h.length + 1, im, vm, ms, 0, .slice (some ⟨h.length, 0, some 0⟩) N N, .map none⟩ := ⟨_, rfl⟩
      rw [← hF0] at K0
      have hcp : F0.cp = h.length + 2 := by rw [hF0]
      have hbv : F0.bv = .slice (some ⟨h.length, 0, some 0⟩) N N := by rw [hF0]
      clear hF0
      obtain ⟨s1, s2⟩ := And.intro R.s1 R.s2
      obtain ⟨idb, verb, ownb, cb, usb, hbe, hidb, hbn, hbr⟩ := id hll
      cases hbe
      have hnl : g.start.toNat < ls.length := by omega
      have hli := lget_get (ls := ls) s1 (by omega)
      obtain ⟨ub, hub⟩ : ∃ ub, usb[g.start.toNat]? = some ub := ⟨_, List.getElem?_eq_getElem (by omega)⟩
      have hlr := hbr _ _ _ hub hli
      obtain ⟨pb, cbb, rfl⟩ := SlR.form hlr
      have hidb' := K0.kb _ _ _ _ _ (.inr rfl) hidb
      have q3 := rng0 (N := ls.length) s1 (by omega)
      have hll2 := B.l _ (List.mem_of_getElem? hli)
      have hc := K0.c
      unfold chCells at hc
      rw [hbv] at hc
      simp only [List.length_replicate] at hc hidb'
      generalize hL : lget ls g.start = L at hlr hll2 hub
      refine cw_weakL [(2, .box [i64 g.nts, i64 g.start, .slice p g.rules.length c]), (5, .val (.pointer (some ⟨F0.cp, 0, some 0⟩)))] (by simp only [push_cast, SubL, fget, Nat.reduceEqDiff, reduceIte, hcp]) ?_
      show CW _ _ ⟨_, [], hm⟩ _
      repeat (first | refine cw_seq ?_ | refine cw_region ?_ | refine ow_nil ?_ | refine qw_nil ?_ | refine cw_block ?_ | refine cw_scope ?_ | refine cw_label ?_ | refine cw_skip ?_)
      show CW _ _ _ _
      apply cw_ord0 (L := [[], [0], [1], [2], [], [4], [3, 5], [6], [7], []]) (resL := [_, _, _, _, _, _, _, _, _, _]) (frF := [(5, .val (.pointer (some ⟨F0.cp, 0, some 0⟩))), (75, .val (.slice pb L.length cbb)), (76, .val (i64 L.length)), (77, .val (i64 0))])
      case hm => exact mixed
      case hc => kernel_rfl
      case hb => rfl
      case hS => repeat (first | exact Steps0.nil _ | (apply Steps0.cons; (· first | (apply one_val; (· rfl); (· simp only [push_cast, env, Nat.reduceEqDiff, reduceIte, Nat.reduceAdd, Nat.reduceMul, Nat.reduceLeDiff, reduceCtorEq, Nat.reduceSub, Int.reduceToNat, hc, hidb', q3, hub, Nat.mul_one] <;> exact rfl); (· simp only [push_cast, env, Nat.reduceEqDiff, reduceIte, Nat.reduceAdd, Nat.reduceMul, Nat.reduceLeDiff, reduceCtorEq, Nat.reduceSub, Int.reduceToNat, hc, hidb', q3, hub, Nat.mul_one] <;> exact rfl)) | (apply one_eph; (· rfl); (· simp only [push_cast, env, Nat.reduceEqDiff, reduceIte, Nat.reduceAdd, Nat.reduceMul, Nat.reduceLeDiff, reduceCtorEq, Nat.reduceSub, Int.reduceToNat, hc, hidb', q3, hub, Nat.mul_one] <;> exact rfl); (· rfl); (· simp only [push_cast, env, Nat.reduceEqDiff, reduceIte, Nat.reduceAdd, Nat.reduceMul, Nat.reduceLeDiff, reduceCtorEq, Nat.reduceSub, Int.reduceToNat, hc, hidb', q3, hub, Nat.mul_one] <;> exact rfl); (· decide)) | (apply one_skip; (· rfl); (· simp only [push_cast, env, Nat.reduceEqDiff, reduceIte, Nat.reduceAdd, Nat.reduceMul, Nat.reduceLeDiff, reduceCtorEq, Nat.reduceSub, Int.reduceToNat, hc, hidb', q3, hub, Nat.mul_one] <;> exact rfl))); (· rfl)))
      case ht => rfl
      case hF => repeat (first | exact trivial | (refine ⟨.inl ⟨by decide, rfl⟩, ?_⟩) | (refine ⟨.inr ⟨rfl, by simp⟩, ?_⟩))
      show CW _ _ _ _
      clear hc
      have qok : ∀ q : Int, q ∈ L → ∃ (k : Nat) (r' : Rule), q = k ∧ g.rules[k]? = some r' ∧ r'.lhs = g.start := fun q hq => (B.m g.start s1 s2 q).1 (hL ▸ hq)
      repeat (first | refine cw_seq ?_ | refine cw_region ?_ | refine ow_nil ?_ | ((first | apply ow_cons | apply qw_cons); · simp only [push_cast, env, Nat.reduceEqDiff, reduceIte, Nat.reduceAdd, Nat.reduceMul, Nat.reduceLeDiff, reduceCtorEq, Nat.reduceSub, Int.reduceToNat] <;> exact rfl) | ((first | apply ow_spec | apply qw_spec); · simp only [push_cast, env, Nat.reduceEqDiff, reduceIte, Nat.reduceAdd, Nat.reduceMul, Nat.reduceLeDiff, reduceCtorEq, Nat.reduceSub, Int.reduceToNat] <;> exact rfl) | refine qw_nil ?_ | refine cw_block ?_ | refine cw_scope ?_ | refine cw_label ?_ | refine cw_skip ?_)
      refine cw_forG L.length (fun k (z : Gh) => [(5, .val (.pointer (some ⟨F0.cp, 0, some 0⟩))), (75, .val (.slice pb L.length cbb)), (76, .val (i64 L.length)), (77, .val (i64 k))]) (fun _ z => z.h)
        (fun i z => CHR h hk g (.slice p g.rules.length c) (.slice pw w.length cw) F0 z ∧ z.S.length = k ∧ CI g w z.S ∧ ∀ q : Nat, (q : Int) ∈ L.take i → (⟨q, 0, 0⟩ : Item) ∈ gs z.S 0) ⟨hm, List.replicate k nilS, List.replicate k [], []⟩ (by simp only [push_cast, SubL, fget, Nat.reduceEqDiff, reduceIte]) rfl ⟨K0, by simp, C0, fun q hq => by simp at hq⟩ ?_
      clear K0 C0 hidb'
      rintro i ⟨h1, us1, S1, E1⟩ hkn ⟨K, hSl, C1, hall⟩
      simp only at K hSl C1 hall ⊢
      have hjS1 : 0 < S1.length := by omega
      have hsm1 := C1.small R hw (k := 0) (by omega)
      by_cases hlt3 : i < L.length
      · obtain ⟨idl, verl, ownl, cl, cellsl, hvl, hidl, hgl⟩ := RdInts.at hlr hlt3
        cases hvl
        have hidl' := K.kb _ _ _ _ _ (.inl rfl) hidl
        have f1 := rng hlt3
        have f2 := inc hlt3 (by omega)
        have f3 := lt_dec hlt3
        obtain ⟨q, rq, hqe', hq2, hq3⟩ := qok L[i] (List.getElem_mem hlt3)
        rw [hqe'] at hgl
        have hIt : It g w 0 ⟨q, 0, 0⟩ := .init q rq hq2 hq3
        repeat (first | refine cw_seq ?_ | refine cw_region ?_ | refine ow_nil ?_ | ((first | apply ow_cons | apply qw_cons); · simp only [push_cast, env, Nat.reduceEqDiff, reduceIte, Nat.reduceAdd, Nat.reduceMul, Nat.reduceLeDiff, reduceCtorEq, Nat.reduceSub, Int.reduceToNat, f3] <;> exact rfl) | ((first | apply ow_spec | apply qw_spec); · simp only [push_cast, env, Nat.reduceEqDiff, reduceIte, Nat.reduceAdd, Nat.reduceMul, Nat.reduceLeDiff, reduceCtorEq, Nat.reduceSub, Int.reduceToNat, f3] <;> exact rfl) | refine qw_nil ?_ | refine cw_block ?_ | refine cw_scope ?_ | refine cw_label ?_ | refine cw_skip ?_)
        refine cw_condT (by simp only [push_cast, env, Nat.reduceEqDiff, reduceIte, Nat.reduceAdd, Nat.reduceMul, Nat.reduceLeDiff, reduceCtorEq, Nat.reduceSub, Int.reduceToNat] <;> exact rfl) ?_
        repeat (first | refine cw_seq ?_ | refine cw_region ?_ | refine ow_nil ?_ | ((first | apply ow_cons | apply qw_cons); · simp only [push_cast, env, Nat.reduceEqDiff, reduceIte, Nat.reduceAdd, Nat.reduceMul, Nat.reduceLeDiff, reduceCtorEq, Nat.reduceSub, Int.reduceToNat, hidl', f1, hgl, Nat.mul_one] <;> exact rfl) | ((first | apply ow_spec | apply qw_spec); · simp only [push_cast, env, Nat.reduceEqDiff, reduceIte, Nat.reduceAdd, Nat.reduceMul, Nat.reduceLeDiff, reduceCtorEq, Nat.reduceSub, Int.reduceToNat, hidl', f1, hgl, Nat.mul_one] <;> exact rfl) | refine qw_nil ?_ | refine cw_block ?_ | refine cw_scope ?_ | refine cw_label ?_ | refine cw_skip ?_)
        refine ow_call (fn := Try.f52) (by simp only [push_cast, env, Nat.reduceEqDiff, reduceIte, Nat.reduceAdd, Nat.reduceMul, Nat.reduceLeDiff, reduceCtorEq, Nat.reduceSub, Int.reduceToNat] <;> exact rfl) rfl (by simp only [push_cast, env, Nat.reduceEqDiff, reduceIte, Nat.reduceAdd, Nat.reduceMul, Nat.reduceLeDiff, reduceCtorEq, Nat.reduceSub, Int.reduceToNat] <;> exact rfl) (by simp only [push_cast, env, Nat.reduceEqDiff, reduceIte, Nat.reduceAdd, Nat.reduceMul, Nat.reduceLeDiff, reduceCtorEq, Nat.reduceSub, Int.reduceToNat] <;> exact rfl) Try.func52 (by kernel_rfl) (by kernel_rfl) ?_
        rw [List.append_nil]
        refine (add_fw (j := 0) (x := ⟨q, 0, 0⟩) K hjS1 (by simp only; omega)).mono ?_
        rintro _ h2 ⟨us2, K2⟩
        simp only at K2
        have X2 := addS_ext (x := ⟨q, 0, 0⟩) hjS1
        repeat (first | refine cw_seq ?_ | refine cw_region ?_ | refine ow_nil ?_ | ((first | apply ow_cons | apply qw_cons); · simp only [push_cast, env, Nat.reduceEqDiff, reduceIte, Nat.reduceAdd, Nat.reduceMul, Nat.reduceLeDiff, reduceCtorEq, Nat.reduceSub, Int.reduceToNat, f2] <;> exact rfl) | ((first | apply ow_spec | apply qw_spec); · simp only [push_cast, env, Nat.reduceEqDiff, reduceIte, Nat.reduceAdd, Nat.reduceMul, Nat.reduceLeDiff, reduceCtorEq, Nat.reduceSub, Int.reduceToNat, f2] <;> exact rfl) | refine qw_nil ?_ | refine cw_block ?_ | refine cw_scope ?_ | refine cw_label ?_ | refine cw_skip ?_)
        refine ⟨hlt3, ⟨h2, us2, _, E1⟩, (by simp only [push_cast, SubL, fget, Nat.reduceEqDiff, reduceIte]), rfl, K2, by simp only; rw [X2.n]; exact hSl, C1.add hIt (by omega), fun q' hq' => ?_⟩
        rw [List.take_succ_eq_append_getElem hlt3, List.mem_append, List.mem_singleton] at hq'
        rcases hq' with hq' | hq'
        · exact X2.mem (hall q' hq')
        · rw [hqe'] at hq'
          have : q' = q := by omega
          subst this
          exact addS_mem hjS1
      · have e3c := ge_dec hlt3
        obtain rfl : i = L.length := by omega
        repeat (first | refine cw_seq ?_ | refine cw_region ?_ | refine ow_nil ?_ | ((first | apply ow_cons | apply qw_cons); · simp only [push_cast, env, Nat.reduceEqDiff, reduceIte, Nat.reduceAdd, Nat.reduceMul, Nat.reduceLeDiff, reduceCtorEq, Nat.reduceSub, Int.reduceToNat, e3c] <;> exact rfl) | ((first | apply ow_spec | apply qw_spec); · simp only [push_cast, env, Nat.reduceEqDiff, reduceIte, Nat.reduceAdd, Nat.reduceMul, Nat.reduceLeDiff, reduceCtorEq, Nat.reduceSub, Int.reduceToNat, e3c] <;> exact rfl) | refine qw_nil ?_ | refine cw_block ?_ | refine cw_scope ?_ | refine cw_label ?_ | refine cw_skip ?_)
        refine cw_condF (by simp only [push_cast, env, Nat.reduceEqDiff, reduceIte, Nat.reduceAdd, Nat.reduceMul, Nat.reduceLeDiff, reduceCtorEq, Nat.reduceSub, Int.reduceToNat] <;> exact rfl) ?_
        refine cw_exit ?_
        show CW _ _ _ _
        rw [List.take_length] at hall
        have A0 : At g w S1 [] 0 0 := ⟨C1, fun q r h1 h2 => hall q (by rw [← hL]; exact (B.m g.start s1 s2 q).2 ⟨q, r, rfl, h1, h2⟩), fun i hi => absurd hi (Nat.not_lt_zero _), fun a ha => (by cases ha), fun x hx => (by simp at hx)⟩
        have hc := K.c
        unfold chCells at hc
        simp only at hc
        rw [hSl] at hc
        repeat (first | refine cw_seq ?_ | refine cw_region ?_ | refine ow_nil ?_ | ((first | apply ow_cons | apply qw_cons); · simp only [push_cast, env, Nat.reduceEqDiff, reduceIte, Nat.reduceAdd, Nat.reduceMul, Nat.reduceLeDiff, reduceCtorEq, Nat.reduceSub, Int.reduceToNat, hc] <;> exact rfl) | ((first | apply ow_spec | apply qw_spec); · simp only [push_cast, env, Nat.reduceEqDiff, reduceIte, Nat.reduceAdd, Nat.reduceMul, Nat.reduceLeDiff, reduceCtorEq, Nat.reduceSub, Int.reduceToNat, hc] <;> exact rfl) | refine qw_nil ?_ | refine cw_block ?_ | refine cw_scope ?_ | refine cw_label ?_ | refine cw_skip ?_)
        refine cw_forG k (fun j (z : Nat × Value × Gh) => [(5, .val (.pointer (some ⟨F0.cp, 0, some 0⟩))), (90, .val (i64 k)), (91, .val (i64 j))]) (fun _ z => z.2.2.h)
          (fun j z => CHR h hk g (.slice p g.rules.length c) (.slice pw w.length cw) { F0 with ie := z.1, ev := z.2.1 } z.2.2 ∧ At g w z.2.2.S [] j 0) (F0.ie, F0.ev, ⟨h1, us1, S1, E1⟩) (by simp only [push_cast, SubL, fget, Nat.reduceEqDiff, reduceIte]) rfl ⟨K, A0⟩ ?_
        clear K A0 hc hall C1 hSl hjS1 hsm1
        rintro j ⟨ie0, ev0, h1, us1, S1, E1⟩ hjk ⟨K, A⟩
        simp only at K A ⊢
        have hSl : S1.length = k := by have := A.ci.n; omega
        by_cases hlt4 : j < k
        · have f2 := inc hlt4 (by omega)
          have f3 := lt_dec hlt4
          have f1 := rng hlt4
          have hc := K.c
          unfold chCells at hc
          simp only at hc
          rw [hSl] at hc
          repeat (first | refine cw_seq ?_ | refine cw_region ?_ | refine ow_nil ?_ | ((first | apply ow_cons | apply qw_cons); · simp only [push_cast, env, Nat.reduceEqDiff, reduceIte, Nat.reduceAdd, Nat.reduceMul, Nat.reduceLeDiff, reduceCtorEq, Nat.reduceSub, Int.reduceToNat, f3] <;> exact rfl) | ((first | apply ow_spec | apply qw_spec); · simp only [push_cast, env, Nat.reduceEqDiff, reduceIte, Nat.reduceAdd, Nat.reduceMul, Nat.reduceLeDiff, reduceCtorEq, Nat.reduceSub, Int.reduceToNat, f3] <;> exact rfl) | refine qw_nil ?_ | refine cw_block ?_ | refine cw_scope ?_ | refine cw_label ?_ | refine cw_skip ?_)
          refine cw_condT (by simp only [push_cast, env, Nat.reduceEqDiff, reduceIte, Nat.reduceAdd, Nat.reduceMul, Nat.reduceLeDiff, reduceCtorEq, Nat.reduceSub, Int.reduceToNat] <;> exact rfl) ?_
          repeat (first | refine cw_seq ?_ | refine cw_region ?_ | refine ow_nil ?_ | ((first | apply ow_cons | apply qw_cons); · simp only [push_cast, env, Nat.reduceEqDiff, reduceIte, Nat.reduceAdd, Nat.reduceMul, Nat.reduceLeDiff, reduceCtorEq, Nat.reduceSub, Int.reduceToNat] <;> exact rfl) | ((first | apply ow_spec | apply qw_spec); · simp only [push_cast, env, Nat.reduceEqDiff, reduceIte, Nat.reduceAdd, Nat.reduceMul, Nat.reduceLeDiff, reduceCtorEq, Nat.reduceSub, Int.reduceToNat] <;> exact rfl) | refine qw_nil ?_ | refine cw_block ?_ | refine cw_scope ?_ | refine cw_label ?_ | refine cw_skip ?_)
          refine ow_map (kt := 3) (et := 3) (by simp only [push_cast, env, Nat.reduceEqDiff, reduceIte, Nat.reduceAdd, Nat.reduceMul, Nat.reduceLeDiff, reduceCtorEq, Nat.reduceSub, Int.reduceToNat] <;> exact rfl) rfl (by kernel_rfl) ?_
          repeat (first | refine cw_seq ?_ | refine cw_region ?_ | refine ow_nil ?_ | ((first | apply ow_cons | apply qw_cons); · simp only [push_cast, env, Nat.reduceEqDiff, reduceIte, Nat.reduceAdd, Nat.reduceMul, Nat.reduceLeDiff, reduceCtorEq, Nat.reduceSub, Int.reduceToNat] <;> exact rfl) | ((first | apply ow_spec | apply qw_spec); · simp only [push_cast, env, Nat.reduceEqDiff, reduceIte, Nat.reduceAdd, Nat.reduceMul, Nat.reduceLeDiff, reduceCtorEq, Nat.reduceSub, Int.reduceToNat] <;> exact rfl) | refine qw_nil ?_ | refine cw_block ?_ | refine cw_scope ?_ | refine cw_label ?_ | refine cw_skip ?_)
          refine ow_stoH (cells' := [i64 g.nts, i64 g.start, .slice p g.rules.length c, .slice pw w.length cw, F0.bv, .slice (some ⟨F0.si, 0, some 0⟩) k k, .slice (some ⟨F0.im, 0, some F0.vm⟩) k k, .map (some h1.length)]) (by simp only [push_cast, env, Nat.reduceEqDiff, reduceIte, Nat.reduceAdd, Nat.reduceMul, Nat.reduceLeDiff, reduceCtorEq, Nat.reduceSub, Int.reduceToNat] <;> exact rfl) rfl rfl (by simp only [push_cast, env, Nat.reduceEqDiff, reduceIte, Nat.reduceAdd, Nat.reduceMul, Nat.reduceLeDiff, reduceCtorEq, Nat.reduceSub, Int.reduceToNat] <;> exact rfl) (by simp only [push_cast, env, Nat.reduceEqDiff, reduceIte, Nat.reduceAdd, Nat.reduceMul, Nat.reduceLeDiff, reduceCtorEq, Nat.reduceSub, Int.reduceToNat] <;> exact rfl) (get_of_push hc) (by simp only [push_cast, env, Nat.reduceEqDiff, reduceIte, Nat.reduceAdd, Nat.reduceMul, Nat.reduceLeDiff, reduceCtorEq, Nat.reduceSub, Int.reduceToNat] <;> exact rfl) rfl rfl ?_
          have K1 := K.newE
          simp only at K1
          rw [hSl] at K1
          generalize hH1 : (h1 ++ [HObj.map []]).set F0.cp (.arr [i64 g.nts, i64 g.start, .slice p g.rules.length c, .slice pw w.length cw, F0.bv, .slice (some ⟨F0.si, 0, some 0⟩) k k, .slice (some ⟨F0.im, 0, some F0.vm⟩) k k, .map (some h1.length)] 0 true 73) = H1 at K1
          generalize h1.length = ie1 at K1
          repeat (first | refine cw_seq ?_ | refine cw_region ?_ | refine ow_nil ?_ | ((first | apply ow_cons | apply qw_cons); · simp only [push_cast, env, Nat.reduceEqDiff, reduceIte, Nat.reduceAdd, Nat.reduceMul, Nat.reduceLeDiff, reduceCtorEq, Nat.reduceSub, Int.reduceToNat] <;> exact rfl) | ((first | apply ow_spec | apply qw_spec); · simp only [push_cast, env, Nat.reduceEqDiff, reduceIte, Nat.reduceAdd, Nat.reduceMul, Nat.reduceLeDiff, reduceCtorEq, Nat.reduceSub, Int.reduceToNat] <;> exact rfl) | refine qw_nil ?_ | refine cw_block ?_ | refine cw_scope ?_ | refine cw_label ?_ | refine cw_skip ?_)
          refine cw_wh (fun x : Gh × Nat => 400000001 - x.2) (fun x => [(5, .val (.pointer (some ⟨F0.cp, 0, some 0⟩))), (10, .val (i64 j)), (11, .val (i64 x.2)), (90, .val (i64 k)), (91, .val (i64 j))]) (fun x => x.1.h)
            (fun x => CHR h hk g (.slice p g.rules.length c) (.slice pw w.length cw) { F0 with ie := ie1, ev := .map (some ie1) } x.1 ∧ At g w x.1.S x.1.E j x.2) (⟨H1, us1, S1, []⟩, 0) (by simp only [push_cast, SubL, fget, Nat.reduceEqDiff, reduceIte]) rfl ⟨K1, A⟩ ?_
          clear K1 K A hH1 hc
          rintro ⟨⟨h2, us2, S2, E2⟩, i2⟩ ⟨K, A⟩
          simp only at K A ⊢
          have hSl2 : S2.length = k := by have := A.ci.n; omega
          have hjS2 : j < S2.length := by omega
          have hsm2 := A.ci.small R hw (k := j) (by omega)
          have hc := K.c
          have hs := K.s
          unfold chCells at hc
          simp only at hc hs
          rw [hSl2] at hc
          obtain ⟨u2, cu2, hu2, gu2⟩ := K.us_at hjS2
          simp only at hu2 gu2
          repeat (first | refine cw_seq ?_ | refine cw_region ?_ | refine ow_nil ?_ | ((first | apply ow_cons | apply qw_cons); · simp only [push_cast, env, Nat.reduceEqDiff, reduceIte, Nat.reduceAdd, Nat.reduceMul, Nat.reduceLeDiff, reduceCtorEq, Nat.reduceSub, Int.reduceToNat, hc, hs, hu2, f1, Nat.mul_one] <;> exact rfl) | ((first | apply ow_spec | apply qw_spec); · simp only [push_cast, env, Nat.reduceEqDiff, reduceIte, Nat.reduceAdd, Nat.reduceMul, Nat.reduceLeDiff, reduceCtorEq, Nat.reduceSub, Int.reduceToNat, hc, hs, hu2, f1, Nat.mul_one] <;> exact rfl) | refine qw_nil ?_ | refine cw_block ?_ | refine cw_scope ?_ | refine cw_label ?_ | refine cw_skip ?_)
          by_cases hlt5 : i2 < (gs S2 j).length
          · have f6 := lt_dec hlt5
            have f7 := inc hlt5 (by omega)
            have f8 := rng hlt5
            obtain ⟨iu, vu, cu, hu3, hgu, hrdu⟩ := K.item_at hjS2 hlt5
            simp only at hu3 hgu hrdu
            generalize hy : (gs S2 j)[i2] = y at hrdu
            have hym : y ∈ gs S2 j := hy ▸ List.getElem_mem hlt5
            refine cw_condT (by simp only [push_cast, env, Nat.reduceEqDiff, reduceIte, Nat.reduceAdd, Nat.reduceMul, Nat.reduceLeDiff, reduceCtorEq, Nat.reduceSub, Int.reduceToNat, f6] <;> exact rfl) ?_
            repeat (first | refine cw_seq ?_ | refine cw_region ?_ | refine ow_nil ?_ | ((first | apply ow_cons | apply qw_cons); · simp only [push_cast, env, Nat.reduceEqDiff, reduceIte, Nat.reduceAdd, Nat.reduceMul, Nat.reduceLeDiff, reduceCtorEq, Nat.reduceSub, Int.reduceToNat, hc, hs, hu3, hgu, hrdu, f1, f8, Nat.mul_one] <;> exact rfl) | ((first | apply ow_spec | apply qw_spec); · simp only [push_cast, env, Nat.reduceEqDiff, reduceIte, Nat.reduceAdd, Nat.reduceMul, Nat.reduceLeDiff, reduceCtorEq, Nat.reduceSub, Int.reduceToNat, hc, hs, hu3, hgu, hrdu, f1, f8, Nat.mul_one] <;> exact rfl) | refine qw_nil ?_ | refine cw_block ?_ | refine cw_scope ?_ | refine cw_label ?_ | refine cw_skip ?_)
            refine ow_call (fn := Try.f53) (by simp only [push_cast, env, Nat.reduceEqDiff, reduceIte, Nat.reduceAdd, Nat.reduceMul, Nat.reduceLeDiff, reduceCtorEq, Nat.reduceSub, Int.reduceToNat] <;> exact rfl) rfl (by simp only [push_cast, env, Nat.reduceEqDiff, reduceIte, Nat.reduceAdd, Nat.reduceMul, Nat.reduceLeDiff, reduceCtorEq, Nat.reduceSub, Int.reduceToNat] <;> exact rfl) (by simp only [push_cast, env, Nat.reduceEqDiff, reduceIte, Nat.reduceAdd, Nat.reduceMul, Nat.reduceLeDiff, reduceCtorEq, Nat.reduceSub, Int.reduceToNat] <;> exact rfl) Try.func53 (by kernel_rfl) (by kernel_rfl) ?_
            rw [List.append_nil]
            refine (step_fw (x := y) K rfl (List.prefix_refl _) hu hwR (hbv ▸ hll) B R W hw A.ci (by omega) (A.ci.s j y hym) A.es).mono ?_
            rintro _ h3 ⟨us3, S3, E3, K3, P3⟩
            simp only at P3
            repeat (first | refine cw_seq ?_ | refine cw_region ?_ | refine ow_nil ?_ | ((first | apply ow_cons | apply qw_cons); · simp only [push_cast, env, Nat.reduceEqDiff, reduceIte, Nat.reduceAdd, Nat.reduceMul, Nat.reduceLeDiff, reduceCtorEq, Nat.reduceSub, Int.reduceToNat, f7] <;> exact rfl) | ((first | apply ow_spec | apply qw_spec); · simp only [push_cast, env, Nat.reduceEqDiff, reduceIte, Nat.reduceAdd, Nat.reduceMul, Nat.reduceLeDiff, reduceCtorEq, Nat.reduceSub, Int.reduceToNat, f7] <;> exact rfl) | refine qw_nil ?_ | refine cw_block ?_ | refine cw_scope ?_ | refine cw_label ?_ | refine cw_skip ?_)
            refine ⟨(⟨h3, us3, S3, E3⟩, i2 + 1), by simp only; omega, (by simp only [push_cast, SubL, fget, Nat.reduceEqDiff, reduceIte]), rfl, K3, A.step hlt5 (by rw [hy]; exact P3)⟩
          · have f6 := ge_dec hlt5
            refine cw_condF (by simp only [push_cast, env, Nat.reduceEqDiff, reduceIte, Nat.reduceAdd, Nat.reduceMul, Nat.reduceLeDiff, reduceCtorEq, Nat.reduceSub, Int.reduceToNat, f6] <;> exact rfl) ?_
            refine cw_exit ?_
            show CW _ _ _ _
            repeat (first | refine cw_seq ?_ | refine cw_region ?_ | refine ow_nil ?_ | ((first | apply ow_cons | apply qw_cons); · simp only [push_cast, env, Nat.reduceEqDiff, reduceIte, Nat.reduceAdd, Nat.reduceMul, Nat.reduceLeDiff, reduceCtorEq, Nat.reduceSub, Int.reduceToNat, f2] <;> exact rfl) | ((first | apply ow_spec | apply qw_spec); · simp only [push_cast, env, Nat.reduceEqDiff, reduceIte, Nat.reduceAdd, Nat.reduceMul, Nat.reduceLeDiff, reduceCtorEq, Nat.reduceSub, Int.reduceToNat, f2] <;> exact rfl) | refine qw_nil ?_ | refine cw_block ?_ | refine cw_scope ?_ | refine cw_label ?_ | refine cw_skip ?_)
            exact ⟨hlt4, (ie1, .map (some ie1), ⟨h2, us2, S2, E2⟩), (by simp only [push_cast, SubL, fget, Nat.reduceEqDiff, reduceIte]), rfl, K, A.next (by omega)⟩
        · have e3d := ge_dec hlt4
          obtain rfl : j = k := by omega
          repeat (first | refine cw_seq ?_ | refine cw_region ?_ | refine ow_nil ?_ | ((first | apply ow_cons | apply qw_cons); · simp only [push_cast, env, Nat.reduceEqDiff, reduceIte, Nat.reduceAdd, Nat.reduceMul, Nat.reduceLeDiff, reduceCtorEq, Nat.reduceSub, Int.reduceToNat, e3d] <;> exact rfl) | ((first | apply ow_spec | apply qw_spec); · simp only [push_cast, env, Nat.reduceEqDiff, reduceIte, Nat.reduceAdd, Nat.reduceMul, Nat.reduceLeDiff, reduceCtorEq, Nat.reduceSub, Int.reduceToNat, e3d] <;> exact rfl) | refine qw_nil ?_ | refine cw_block ?_ | refine cw_scope ?_ | refine cw_label ?_ | refine cw_skip ?_)
          refine cw_condF (by simp only [push_cast, env, Nat.reduceEqDiff, reduceIte, Nat.reduceAdd, Nat.reduceMul, Nat.reduceLeDiff, reduceCtorEq, Nat.reduceSub, Int.reduceToNat] <;> exact rfl) ?_
          refine cw_exit ?_
          show CW _ _ _ _
          repeat (first | refine cw_seq ?_ | refine cw_region ?_ | refine ow_nil ?_ | ((first | apply ow_cons | apply qw_cons); · simp only [push_cast, env, Nat.reduceEqDiff, reduceIte, Nat.reduceAdd, Nat.reduceMul, Nat.reduceLeDiff, reduceCtorEq, Nat.reduceSub, Int.reduceToNat] <;> exact rfl) | ((first | apply ow_spec | apply qw_spec); · simp only [push_cast, env, Nat.reduceEqDiff, reduceIte, Nat.reduceAdd, Nat.reduceMul, Nat.reduceLeDiff, reduceCtorEq, Nat.reduceSub, Int.reduceToNat] <;> exact rfl) | refine qw_nil ?_ | refine cw_block ?_ | refine cw_scope ?_ | refine cw_label ?_ | refine cw_skip ?_)
          refine cw_ret ?_
          refine ⟨_, (by simp only [push_cast, env, Nat.reduceEqDiff, reduceIte, Nat.reduceAdd, Nat.reduceMul, Nat.reduceLeDiff, reduceCtorEq, Nat.reduceSub, Int.reduceToNat] <;> exact rfl), hk, _, { F0 with ie := ie0, ev := ev0 }, ⟨h1, us1, S1, E1⟩, rfl, rfl, K, chart_ok A.ci A.ini (hM ▸ A.don), hu⟩
end Go.Proofs.Ytafncpgiibikcaa

/- fit, Accepts, Items. -/
namespace Go.Proofs.Ytafncpgiibikcaa
set_option linter.unusedSimpArgs false
set_option linter.unusedVariables false
set_option maxRecDepth 20000
open Go.RowKit Am Ty

def fitE (g : Gram) (w : List Nat) : Int := if badG g then 3 else if 512 < w.length then 2 else 0
theorem fitE_ok {g : Gram} {w : List Nat} : fitE g w = 0 ↔ ¬ badG g ∧ w.length ≤ 512 := by
  unfold fitE
  by_cases h : badG g
  · simp [h]
  · by_cases h2 : 512 < w.length
    · simp [h, h2]
    · simp [h, h2]; omega
theorem fit_fw {h : Heap} {g : Gram} {v wv : Value} {w : List Nat} (hr : RdGram h v g) (hw : RdB h wv w) : FW env 36 [v, wv] h fun r h' => r = i64 (fitE g w) ∧ h' = h := by
  obtain ⟨u, rfl, hu⟩ := id hr
  obtain ⟨p, c, rfl⟩ := hu.form
  obtain ⟨pw, cw, rfl⟩ := hw.form
  refine fw_enter (fn := Try.f36) Try.func36 rfl (by kernel_rfl) (by simp [Try.ntmps36]) ?_; simp only [push_cast]
  repeat (first | refine cw_seq ?_ | refine cw_region ?_ | refine ow_nil ?_ | ((first | apply ow_cons | apply qw_cons); · simp only [push_cast, env, Nat.reduceEqDiff, reduceIte, Nat.reduceAdd, Nat.reduceMul, Nat.reduceLeDiff, reduceCtorEq, Nat.reduceSub, Int.reduceToNat] <;> exact rfl) | ((first | apply ow_spec | apply qw_spec); · simp only [push_cast, env, Nat.reduceEqDiff, reduceIte, Nat.reduceAdd, Nat.reduceMul, Nat.reduceLeDiff, reduceCtorEq, Nat.reduceSub, Int.reduceToNat] <;> exact rfl) | refine qw_nil ?_ | refine cw_block ?_ | refine cw_scope ?_ | refine cw_label ?_ | refine cw_skip ?_)
  refine ow_call (fn := Try.f23) (by simp only [push_cast, env, Nat.reduceEqDiff, reduceIte, Nat.reduceAdd, Nat.reduceMul, Nat.reduceLeDiff, reduceCtorEq, Nat.reduceSub, Int.reduceToNat] <;> exact rfl) rfl (by simp only [push_cast, env, Nat.reduceEqDiff, reduceIte, Nat.reduceAdd, Nat.reduceMul, Nat.reduceLeDiff, reduceCtorEq, Nat.reduceSub, Int.reduceToNat] <;> exact rfl) (by simp only [push_cast, env, Nat.reduceEqDiff, reduceIte, Nat.reduceAdd, Nat.reduceMul, Nat.reduceLeDiff, reduceCtorEq, Nat.reduceSub, Int.reduceToNat] <;> exact rfl) Try.func23 (by kernel_rfl) (by kernel_rfl) ?_
  rw [List.append_nil]
  refine (right_fw hr).mono ?_
  rintro _ h ⟨rfl, rfl⟩
  unfold fitE
  by_cases hb : badG g
  · have e0 : rightG g = 3 := if_pos hb
    rw [e0, if_pos hb]
    repeat (first | refine cw_seq ?_ | refine cw_region ?_ | refine ow_nil ?_ | ((first | apply ow_cons | apply qw_cons); · simp only [push_cast, env, Nat.reduceEqDiff, reduceIte, Nat.reduceAdd, Nat.reduceMul, Nat.reduceLeDiff, reduceCtorEq, Nat.reduceSub, Int.reduceToNat] <;> exact rfl) | ((first | apply ow_spec | apply qw_spec); · simp only [push_cast, env, Nat.reduceEqDiff, reduceIte, Nat.reduceAdd, Nat.reduceMul, Nat.reduceLeDiff, reduceCtorEq, Nat.reduceSub, Int.reduceToNat] <;> exact rfl) | refine qw_nil ?_ | refine cw_block ?_ | refine cw_scope ?_ | refine cw_label ?_ | refine cw_skip ?_)
    refine cw_condT (by simp only [push_cast, env, Nat.reduceEqDiff, reduceIte, Nat.reduceAdd, Nat.reduceMul, Nat.reduceLeDiff, reduceCtorEq, Nat.reduceSub, Int.reduceToNat] <;> exact rfl) ?_
    repeat (first | refine cw_seq ?_ | refine cw_region ?_ | refine ow_nil ?_ | ((first | apply ow_cons | apply qw_cons); · simp only [push_cast, env, Nat.reduceEqDiff, reduceIte, Nat.reduceAdd, Nat.reduceMul, Nat.reduceLeDiff, reduceCtorEq, Nat.reduceSub, Int.reduceToNat] <;> exact rfl) | ((first | apply ow_spec | apply qw_spec); · simp only [push_cast, env, Nat.reduceEqDiff, reduceIte, Nat.reduceAdd, Nat.reduceMul, Nat.reduceLeDiff, reduceCtorEq, Nat.reduceSub, Int.reduceToNat] <;> exact rfl) | refine qw_nil ?_ | refine cw_block ?_ | refine cw_scope ?_ | refine cw_label ?_ | refine cw_skip ?_)
    refine cw_ret ?_
    exact ⟨_, (by simp only [push_cast, env, Nat.reduceEqDiff, reduceIte, Nat.reduceAdd, Nat.reduceMul, Nat.reduceLeDiff, reduceCtorEq, Nat.reduceSub, Int.reduceToNat] <;> exact rfl), rfl, rfl⟩
  have e0 : rightG g = 0 := if_neg hb
  rw [e0, if_neg hb]
  repeat (first | refine cw_seq ?_ | refine cw_region ?_ | refine ow_nil ?_ | ((first | apply ow_cons | apply qw_cons); · simp only [push_cast, env, Nat.reduceEqDiff, reduceIte, Nat.reduceAdd, Nat.reduceMul, Nat.reduceLeDiff, reduceCtorEq, Nat.reduceSub, Int.reduceToNat] <;> exact rfl) | ((first | apply ow_spec | apply qw_spec); · simp only [push_cast, env, Nat.reduceEqDiff, reduceIte, Nat.reduceAdd, Nat.reduceMul, Nat.reduceLeDiff, reduceCtorEq, Nat.reduceSub, Int.reduceToNat] <;> exact rfl) | refine qw_nil ?_ | refine cw_block ?_ | refine cw_scope ?_ | refine cw_label ?_ | refine cw_skip ?_)
  refine cw_condF (by simp only [push_cast, env, Nat.reduceEqDiff, reduceIte, Nat.reduceAdd, Nat.reduceMul, Nat.reduceLeDiff, reduceCtorEq, Nat.reduceSub, Int.reduceToNat] <;> exact rfl) ?_
  repeat (first | refine cw_seq ?_ | refine cw_region ?_ | refine ow_nil ?_ | ((first | apply ow_cons | apply qw_cons); · simp only [push_cast, env, Nat.reduceEqDiff, reduceIte, Nat.reduceAdd, Nat.reduceMul, Nat.reduceLeDiff, reduceCtorEq, Nat.reduceSub, Int.reduceToNat] <;> exact rfl) | ((first | apply ow_spec | apply qw_spec); · simp only [push_cast, env, Nat.reduceEqDiff, reduceIte, Nat.reduceAdd, Nat.reduceMul, Nat.reduceLeDiff, reduceCtorEq, Nat.reduceSub, Int.reduceToNat] <;> exact rfl) | refine qw_nil ?_ | refine cw_block ?_ | refine cw_scope ?_ | refine cw_label ?_ | refine cw_skip ?_)
  refine cw_cond (by simp only [push_cast, env, Nat.reduceEqDiff, reduceIte, Nat.reduceAdd, Nat.reduceMul, Nat.reduceLeDiff, reduceCtorEq, Nat.reduceSub, Int.reduceToNat] <;> exact rfl) (fun c1 => ?_) (fun c1 => ?_)
  · have c1' : 512 < w.length := by simp only [decide_eq_true_eq] at c1; omega
    rw [if_pos c1']
    repeat (first | refine cw_seq ?_ | refine cw_region ?_ | refine ow_nil ?_ | ((first | apply ow_cons | apply qw_cons); · simp only [push_cast, env, Nat.reduceEqDiff, reduceIte, Nat.reduceAdd, Nat.reduceMul, Nat.reduceLeDiff, reduceCtorEq, Nat.reduceSub, Int.reduceToNat] <;> exact rfl) | ((first | apply ow_spec | apply qw_spec); · simp only [push_cast, env, Nat.reduceEqDiff, reduceIte, Nat.reduceAdd, Nat.reduceMul, Nat.reduceLeDiff, reduceCtorEq, Nat.reduceSub, Int.reduceToNat] <;> exact rfl) | refine qw_nil ?_ | refine cw_block ?_ | refine cw_scope ?_ | refine cw_label ?_ | refine cw_skip ?_)
    refine cw_ret ?_
    exact ⟨_, (by simp only [push_cast, env, Nat.reduceEqDiff, reduceIte, Nat.reduceAdd, Nat.reduceMul, Nat.reduceLeDiff, reduceCtorEq, Nat.reduceSub, Int.reduceToNat] <;> exact rfl), rfl, rfl⟩
  · have c1' : ¬ 512 < w.length := by simp only [decide_eq_false_iff_not] at c1; omega
    rw [if_neg c1']
    repeat (first | refine cw_seq ?_ | refine cw_region ?_ | refine ow_nil ?_ | ((first | apply ow_cons | apply qw_cons); · simp only [push_cast, env, Nat.reduceEqDiff, reduceIte, Nat.reduceAdd, Nat.reduceMul, Nat.reduceLeDiff, reduceCtorEq, Nat.reduceSub, Int.reduceToNat] <;> exact rfl) | ((first | apply ow_spec | apply qw_spec); · simp only [push_cast, env, Nat.reduceEqDiff, reduceIte, Nat.reduceAdd, Nat.reduceMul, Nat.reduceLeDiff, reduceCtorEq, Nat.reduceSub, Int.reduceToNat] <;> exact rfl) | refine qw_nil ?_ | refine cw_block ?_ | refine cw_scope ?_ | refine cw_label ?_ | refine cw_skip ?_)
    refine cw_ret ?_
    exact ⟨_, (by simp only [push_cast, env, Nat.reduceEqDiff, reduceIte, Nat.reduceAdd, Nat.reduceMul, Nat.reduceLeDiff, reduceCtorEq, Nat.reduceSub, Int.reduceToNat] <;> exact rfl), rfl, rfl⟩
/-- an item of a nonterminal that spans from the beginning on -/
def accI (g : Gram) (A : Int) (x : Item) : Bool := match g.rules[x.rule]? with
  | some r => decide (r.lhs = A) && (decide (x.frm = 0) && decide (x.dot = r.rhs.length))
  | none => false
theorem acc_iff {g : Gram} {w : List Nat} {S : List (List Item)} (C : ChartOK g w S) {j : Nat} (hj : j ≤ w.length) : (∃ x ∈ gs S j, accI g g.start x = true) ↔ NtTx g.rules g.start (sub w 0 j) := by
  rw [← it_accept hj]
  constructor
  · rintro ⟨x, hx, ha⟩
    unfold accI at ha
    split at ha
    · rename_i r hr
      simp only [Bool.and_eq_true, decide_eq_true_eq] at ha
      exact ⟨x, r, (C.m j x).1 hx, hr, ha.1, ha.2.1, ha.2.2⟩
    · cases ha
  · rintro ⟨x, r, h1, h2, h3, h4, h5⟩
    refine ⟨x, (C.m j x).2 h1, ?_⟩
    unfold accI
    rw [h2]
    simp only [Bool.and_eq_true, decide_eq_true_eq]
    exact ⟨h3, h4, h5⟩
theorem ChartOK.small {g : Gram} {w : List Nat} {S : List (List Item)} (C : ChartOK g w S) (R : RightS g) (hw : w.length ≤ 512) {k : Nat} (hk : k ≤ w.length) : (gs S k).length ≤ 400000000 :=
  CI.small ⟨C.n, fun k x hx => (C.m k x).1 hx, C.nd⟩ R hw hk
def AccR (g : Gram) (w : List Nat) (r : Value) : Prop := ∃ b, r = .tuple #[.bool b, i64 (fitE g w)] ∧ (fitE g w ≠ 0 → b = false) ∧ (fitE g w = 0 → (b = true ↔ NtTx g.rules g.start w))
set_option maxHeartbeats 4000000 in
theorem accepts_fw {h : Heap} {g : Gram} {v wv : Value} {w : List Nat} (hr : RdGram h v g) (hwR : RdB h wv w) (W : WfG g) : FW env 15 [v, wv] h fun r h' => AccR g w r ∧ h <+: h' := by
  obtain ⟨u, rfl, hu⟩ := id hr
  obtain ⟨p, c, rfl⟩ := hu.form
  obtain ⟨pw, cw, rfl⟩ := hwR.form
  refine fw_enter (fn := Try.f15) Try.func15 rfl (by kernel_rfl) (by simp [Try.ntmps15]) ?_; simp only [push_cast]
  repeat (first | refine cw_seq ?_ | refine cw_region ?_ | refine ow_nil ?_ | ((first | apply ow_cons | apply qw_cons); · simp only [push_cast, env, Nat.reduceEqDiff, reduceIte, Nat.reduceAdd, Nat.reduceMul, Nat.reduceLeDiff, reduceCtorEq, Nat.reduceSub, Int.reduceToNat] <;> exact rfl) | ((first | apply ow_spec | apply qw_spec); · simp only [push_cast, env, Nat.reduceEqDiff, reduceIte, Nat.reduceAdd, Nat.reduceMul, Nat.reduceLeDiff, reduceCtorEq, Nat.reduceSub, Int.reduceToNat] <;> exact rfl) | refine qw_nil ?_ | refine cw_block ?_ | refine cw_scope ?_ | refine cw_label ?_ | refine cw_skip ?_)
  refine ow_call (fn := Try.f36) (by simp only [push_cast, env, Nat.reduceEqDiff, reduceIte, Nat.reduceAdd, Nat.reduceMul, Nat.reduceLeDiff, reduceCtorEq, Nat.reduceSub, Int.reduceToNat] <;> exact rfl) rfl (by simp only [push_cast, env, Nat.reduceEqDiff, reduceIte, Nat.reduceAdd, Nat.reduceMul, Nat.reduceLeDiff, reduceCtorEq, Nat.reduceSub, Int.reduceToNat] <;> exact rfl) (by simp only [push_cast, env, Nat.reduceEqDiff, reduceIte, Nat.reduceAdd, Nat.reduceMul, Nat.reduceLeDiff, reduceCtorEq, Nat.reduceSub, Int.reduceToNat] <;> exact rfl) Try.func36 (by kernel_rfl) (by kernel_rfl) ?_
  rw [List.append_nil]
  refine (fit_fw hr hwR).mono ?_
  rintro _ h ⟨rfl, rfl⟩
  by_cases hf : ¬ fitE g w = 0
  · have df : decide (fitE g w = 0) = false := decide_eq_false hf
    repeat (first | refine cw_seq ?_ | refine cw_region ?_ | refine ow_nil ?_ | ((first | apply ow_cons | apply qw_cons); · simp only [push_cast, env, Nat.reduceEqDiff, reduceIte, Nat.reduceAdd, Nat.reduceMul, Nat.reduceLeDiff, reduceCtorEq, Nat.reduceSub, Int.reduceToNat, df] <;> exact rfl) | ((first | apply ow_spec | apply qw_spec); · simp only [push_cast, env, Nat.reduceEqDiff, reduceIte, Nat.reduceAdd, Nat.reduceMul, Nat.reduceLeDiff, reduceCtorEq, Nat.reduceSub, Int.reduceToNat, df] <;> exact rfl) | refine qw_nil ?_ | refine cw_block ?_ | refine cw_scope ?_ | refine cw_label ?_ | refine cw_skip ?_)
    refine cw_condT (by simp only [push_cast, env, Nat.reduceEqDiff, reduceIte, Nat.reduceAdd, Nat.reduceMul, Nat.reduceLeDiff, reduceCtorEq, Nat.reduceSub, Int.reduceToNat, df] <;> exact rfl) ?_
    repeat (first | refine cw_seq ?_ | refine cw_region ?_ | refine ow_nil ?_ | ((first | apply ow_cons | apply qw_cons); · simp only [push_cast, env, Nat.reduceEqDiff, reduceIte, Nat.reduceAdd, Nat.reduceMul, Nat.reduceLeDiff, reduceCtorEq, Nat.reduceSub, Int.reduceToNat] <;> exact rfl) | ((first | apply ow_spec | apply qw_spec); · simp only [push_cast, env, Nat.reduceEqDiff, reduceIte, Nat.reduceAdd, Nat.reduceMul, Nat.reduceLeDiff, reduceCtorEq, Nat.reduceSub, Int.reduceToNat] <;> exact rfl) | refine qw_nil ?_ | refine cw_block ?_ | refine cw_scope ?_ | refine cw_label ?_ | refine cw_skip ?_)
    refine cw_ret ?_
    exact ⟨_, (by simp only [push_cast, env, Nat.reduceEqDiff, reduceIte, Nat.reduceAdd, Nat.reduceMul, Nat.reduceLeDiff, reduceCtorEq, Nat.reduceSub, Int.reduceToNat] <;> exact rfl), ⟨false, rfl, fun _ => rfl, fun h => absurd h hf⟩, List.prefix_refl _⟩
  replace hf : fitE g w = 0 := Classical.not_not.1 hf
  obtain ⟨hb, hw⟩ := fitE_ok.1 hf
  have R := rightS hb
  rw [hf]
  repeat (first | refine cw_seq ?_ | refine cw_region ?_ | refine ow_nil ?_ | ((first | apply ow_cons | apply qw_cons); · simp only [push_cast, env, Nat.reduceEqDiff, reduceIte, Nat.reduceAdd, Nat.reduceMul, Nat.reduceLeDiff, reduceCtorEq, Nat.reduceSub, Int.reduceToNat] <;> exact rfl) | ((first | apply ow_spec | apply qw_spec); · simp only [push_cast, env, Nat.reduceEqDiff, reduceIte, Nat.reduceAdd, Nat.reduceMul, Nat.reduceLeDiff, reduceCtorEq, Nat.reduceSub, Int.reduceToNat] <;> exact rfl) | refine qw_nil ?_ | refine cw_block ?_ | refine cw_scope ?_ | refine cw_label ?_ | refine cw_skip ?_)
  refine cw_condF (by simp only [push_cast, env, Nat.reduceEqDiff, reduceIte, Nat.reduceAdd, Nat.reduceMul, Nat.reduceLeDiff, reduceCtorEq, Nat.reduceSub, Int.reduceToNat] <;> exact rfl) ?_
  repeat (first | refine cw_seq ?_ | refine cw_region ?_ | refine ow_nil ?_ | ((first | apply ow_cons | apply qw_cons); · simp only [push_cast, env, Nat.reduceEqDiff, reduceIte, Nat.reduceAdd, Nat.reduceMul, Nat.reduceLeDiff, reduceCtorEq, Nat.reduceSub, Int.reduceToNat] <;> exact rfl) | ((first | apply ow_spec | apply qw_spec); · simp only [push_cast, env, Nat.reduceEqDiff, reduceIte, Nat.reduceAdd, Nat.reduceMul, Nat.reduceLeDiff, reduceCtorEq, Nat.reduceSub, Int.reduceToNat] <;> exact rfl) | refine qw_nil ?_ | refine cw_block ?_ | refine cw_scope ?_ | refine cw_label ?_ | refine cw_skip ?_)
  refine ow_call (fn := Try.f37) (by simp only [push_cast, env, Nat.reduceEqDiff, reduceIte, Nat.reduceAdd, Nat.reduceMul, Nat.reduceLeDiff, reduceCtorEq, Nat.reduceSub, Int.reduceToNat] <;> exact rfl) rfl (by simp only [push_cast, env, Nat.reduceEqDiff, reduceIte, Nat.reduceAdd, Nat.reduceMul, Nat.reduceLeDiff, reduceCtorEq, Nat.reduceSub, Int.reduceToNat] <;> exact rfl) (by simp only [push_cast, env, Nat.reduceEqDiff, reduceIte, Nat.reduceAdd, Nat.reduceMul, Nat.reduceLeDiff, reduceCtorEq, Nat.reduceSub, Int.reduceToNat] <;> exact rfl) Try.func37 (by kernel_rfl) (by kernel_rfl) ?_
  rw [List.append_nil]
  refine (open_fw hr hwR R W hw).mono ?_
  rintro _ h' ⟨hB, rv, F, G, rfl, rfl, K, C, hrv⟩
  have hSl := C.n
  have hnS : w.length < G.S.length := by omega
  have hc := K.c
  have hs := K.s
  unfold chCells at hc
  obtain ⟨u2, cu2, hu2, gu2⟩ := K.us_at hnS
  have f1 := rng hnS
  have hsm := C.small R hw (Nat.le_refl _)
  have hacc := acc_iff C (Nat.le_refl _)
  rw [sub_all] at hacc
  repeat (first | refine cw_seq ?_ | refine cw_region ?_ | refine ow_nil ?_ | ((first | apply ow_cons | apply qw_cons); · simp only [push_cast, env, Nat.reduceEqDiff, reduceIte, Nat.reduceAdd, Nat.reduceMul, Nat.reduceLeDiff, reduceCtorEq, Nat.reduceSub, Int.reduceToNat, hc, hs, hu2, f1, Nat.mul_one] <;> exact rfl) | ((first | apply ow_spec | apply qw_spec); · simp only [push_cast, env, Nat.reduceEqDiff, reduceIte, Nat.reduceAdd, Nat.reduceMul, Nat.reduceLeDiff, reduceCtorEq, Nat.reduceSub, Int.reduceToNat, hc, hs, hu2, f1, Nat.mul_one] <;> exact rfl) | refine qw_nil ?_ | refine cw_block ?_ | refine cw_scope ?_ | refine cw_label ?_ | refine cw_skip ?_)
  refine cw_for (gs G.S w.length).length (fun i => [(2, .box [i64 g.nts, i64 g.start, .slice p g.rules.length c]), (27, .val (.slice u2 (gs G.S w.length).length cu2)), (28, .val (i64 (gs G.S w.length).length)), (29, .val (i64 i))]) (fun _ => G.h)
    (fun i => ∀ x ∈ (gs G.S w.length).take i, accI g g.start x = false) (by simp only [push_cast, SubL, fget, Nat.reduceEqDiff, reduceIte]) rfl (fun x hx => by simp at hx) ?_
  intro i hi hI
  by_cases hlt : i < (gs G.S w.length).length
  · have e2 := inc hlt (by omega)
    have e3 := lt_dec hlt
    have f2 := rng hlt
    obtain ⟨iu, vu, cu, hu3, hgu, hrdu⟩ := K.item_at hnS hlt
    rw [hu2] at hu3
    cases hu3
    generalize hy : (gs G.S w.length)[i] = y at hrdu
    have hym : y ∈ gs G.S w.length := hy ▸ List.getElem_mem hlt
    obtain ⟨ry, hry, hyd, _, hysq⟩ := ((C.m _ _).1 hym).sound
    obtain ⟨hyl, hye⟩ := List.getElem?_eq_some_iff.1 hry
    obtain ⟨id3, ver3, own3, c3, cells3, p3, n3, c4, hv3, hid3, hn3, hrd3, hu3⟩ := hu.at hyl
    cases hv3
    subst hn3
    rw [hye] at hrd3
    have hid3' := getElem?_of_prefix K.p hid3
    have g2 := rng hyl
    have ha : accI g g.start y = (decide (ry.lhs = g.start) && (decide (y.frm = 0) && decide (y.dot = ry.rhs.length))) := by unfold accI; rw [hry]
    repeat (first | refine cw_seq ?_ | refine cw_region ?_ | refine ow_nil ?_ | ((first | apply ow_cons | apply qw_cons); · simp only [push_cast, env, Nat.reduceEqDiff, reduceIte, Nat.reduceAdd, Nat.reduceMul, Nat.reduceLeDiff, reduceCtorEq, Nat.reduceSub, Int.reduceToNat, e3] <;> exact rfl) | ((first | apply ow_spec | apply qw_spec); · simp only [push_cast, env, Nat.reduceEqDiff, reduceIte, Nat.reduceAdd, Nat.reduceMul, Nat.reduceLeDiff, reduceCtorEq, Nat.reduceSub, Int.reduceToNat, e3] <;> exact rfl) | refine qw_nil ?_ | refine cw_block ?_ | refine cw_scope ?_ | refine cw_label ?_ | refine cw_skip ?_)
    refine cw_condT (by simp only [push_cast, env, Nat.reduceEqDiff, reduceIte, Nat.reduceAdd, Nat.reduceMul, Nat.reduceLeDiff, reduceCtorEq, Nat.reduceSub, Int.reduceToNat] <;> exact rfl) ?_
    repeat (first | refine cw_seq ?_ | refine cw_region ?_ | refine ow_nil ?_ | ((first | apply ow_cons | apply qw_cons); · simp only [push_cast, env, Nat.reduceEqDiff, reduceIte, Nat.reduceAdd, Nat.reduceMul, Nat.reduceLeDiff, reduceCtorEq, Nat.reduceSub, Int.reduceToNat, hgu, hrdu, f2, hid3', hrd3, g2] <;> exact rfl) | ((first | apply ow_spec | apply qw_spec); · simp only [push_cast, env, Nat.reduceEqDiff, reduceIte, Nat.reduceAdd, Nat.reduceMul, Nat.reduceLeDiff, reduceCtorEq, Nat.reduceSub, Int.reduceToNat, hgu, hrdu, f2, hid3', hrd3, g2] <;> exact rfl) | refine qw_nil ?_ | refine cw_block ?_ | refine cw_scope ?_ | refine cw_label ?_ | refine cw_skip ?_)
    have hbe : (decide (ry.lhs = g.start) && decide ((y.frm : Int) = 0) && decide ((y.dot : Int) = (ry.rhs.length : Int))) = accI g g.start y := by
      rw [ha, Bool.and_assoc, show decide ((y.frm : Int) = 0) = decide (y.frm = 0) by rw [decide_eq_decide]; omega, show decide ((y.dot : Int) = (ry.rhs.length : Int)) = decide (y.dot = ry.rhs.length) by rw [decide_eq_decide]; omega]
    refine cw_cond (by simp only [push_cast, env, Nat.reduceEqDiff, reduceIte, Nat.reduceAdd, Nat.reduceMul, Nat.reduceLeDiff, reduceCtorEq, Nat.reduceSub, Int.reduceToNat] <;> exact rfl) (fun c1 => ?_) (fun c1 => ?_)
    · rw [hbe] at c1
      repeat (first | refine cw_seq ?_ | refine cw_region ?_ | refine ow_nil ?_ | ((first | apply ow_cons | apply qw_cons); · simp only [push_cast, env, Nat.reduceEqDiff, reduceIte, Nat.reduceAdd, Nat.reduceMul, Nat.reduceLeDiff, reduceCtorEq, Nat.reduceSub, Int.reduceToNat] <;> exact rfl) | ((first | apply ow_spec | apply qw_spec); · simp only [push_cast, env, Nat.reduceEqDiff, reduceIte, Nat.reduceAdd, Nat.reduceMul, Nat.reduceLeDiff, reduceCtorEq, Nat.reduceSub, Int.reduceToNat] <;> exact rfl) | refine qw_nil ?_ | refine cw_block ?_ | refine cw_scope ?_ | refine cw_label ?_ | refine cw_skip ?_)
      refine cw_ret ?_
      exact ⟨_, (by simp only [push_cast, env, Nat.reduceEqDiff, reduceIte, Nat.reduceAdd, Nat.reduceMul, Nat.reduceLeDiff, reduceCtorEq, Nat.reduceSub, Int.reduceToNat] <;> exact rfl), ⟨true, by rw [hf]; rfl, fun h => absurd hf h, fun _ => ⟨fun _ => hacc.1 ⟨y, hym, c1⟩, fun _ => rfl⟩⟩, K.p⟩
    · rw [hbe] at c1
      repeat (first | refine cw_seq ?_ | refine cw_region ?_ | refine ow_nil ?_ | ((first | apply ow_cons | apply qw_cons); · simp only [push_cast, env, Nat.reduceEqDiff, reduceIte, Nat.reduceAdd, Nat.reduceMul, Nat.reduceLeDiff, reduceCtorEq, Nat.reduceSub, Int.reduceToNat, e2] <;> exact rfl) | ((first | apply ow_spec | apply qw_spec); · simp only [push_cast, env, Nat.reduceEqDiff, reduceIte, Nat.reduceAdd, Nat.reduceMul, Nat.reduceLeDiff, reduceCtorEq, Nat.reduceSub, Int.reduceToNat, e2] <;> exact rfl) | refine qw_nil ?_ | refine cw_block ?_ | refine cw_scope ?_ | refine cw_label ?_ | refine cw_skip ?_)
      refine ⟨hlt, (by simp only [push_cast, SubL, fget, Nat.reduceEqDiff, reduceIte]), rfl, fun x hx => ?_⟩
      rw [List.take_succ_eq_append_getElem hlt, List.mem_append, List.mem_singleton] at hx
      rcases hx with hx | rfl
      · exact hI x hx
      · rw [hy]; exact c1
  · have e3 := ge_dec hlt
    obtain rfl : i = (gs G.S w.length).length := by omega
    repeat (first | refine cw_seq ?_ | refine cw_region ?_ | refine ow_nil ?_ | ((first | apply ow_cons | apply qw_cons); · simp only [push_cast, env, Nat.reduceEqDiff, reduceIte, Nat.reduceAdd, Nat.reduceMul, Nat.reduceLeDiff, reduceCtorEq, Nat.reduceSub, Int.reduceToNat, e3] <;> exact rfl) | ((first | apply ow_spec | apply qw_spec); · simp only [push_cast, env, Nat.reduceEqDiff, reduceIte, Nat.reduceAdd, Nat.reduceMul, Nat.reduceLeDiff, reduceCtorEq, Nat.reduceSub, Int.reduceToNat, e3] <;> exact rfl) | refine qw_nil ?_ | refine cw_block ?_ | refine cw_scope ?_ | refine cw_label ?_ | refine cw_skip ?_)
    refine cw_condF (by simp only [push_cast, env, Nat.reduceEqDiff, reduceIte, Nat.reduceAdd, Nat.reduceMul, Nat.reduceLeDiff, reduceCtorEq, Nat.reduceSub, Int.reduceToNat] <;> exact rfl) ?_
    refine cw_exit ?_
    show CW _ _ _ _
    rw [List.take_length] at hI
    repeat (first | refine cw_seq ?_ | refine cw_region ?_ | refine ow_nil ?_ | ((first | apply ow_cons | apply qw_cons); · simp only [push_cast, env, Nat.reduceEqDiff, reduceIte, Nat.reduceAdd, Nat.reduceMul, Nat.reduceLeDiff, reduceCtorEq, Nat.reduceSub, Int.reduceToNat] <;> exact rfl) | ((first | apply ow_spec | apply qw_spec); · simp only [push_cast, env, Nat.reduceEqDiff, reduceIte, Nat.reduceAdd, Nat.reduceMul, Nat.reduceLeDiff, reduceCtorEq, Nat.reduceSub, Int.reduceToNat] <;> exact rfl) | refine qw_nil ?_ | refine cw_block ?_ | refine cw_scope ?_ | refine cw_label ?_ | refine cw_skip ?_)
    refine cw_ret ?_
    refine ⟨_, (by simp only [push_cast, env, Nat.reduceEqDiff, reduceIte, Nat.reduceAdd, Nat.reduceMul, Nat.reduceLeDiff, reduceCtorEq, Nat.reduceSub, Int.reduceToNat] <;> exact rfl), ⟨false, by rw [hf]; rfl, fun _ => rfl, fun _ => ⟨fun h => (by cases h), fun h => ?_⟩⟩, K.p⟩
    obtain ⟨x, hx, ha⟩ := hacc.2 h
    rw [hI x hx] at ha
    cases ha
end Go.Proofs.Ytafncpgiibikcaa

/- trimmed: a grammar with its productive rules alone. -/
namespace Go.Proofs.Ytafncpgiibikcaa
set_option linter.unusedSimpArgs false
set_option linter.unusedVariables false
set_option maxRecDepth 20000
open Go.RowKit Am Ty

def trG (g : Gram) (m : List Bool) : Gram := ⟨g.nts, g.start, g.rules.filter (goodR m)⟩
def pickR (g : Gram) (i : Int) : Rule := (g.rules[i.toNat]?).getD ⟨0, []⟩
theorem trim_pick {g : Gram} {m : List Bool} : ∀ (k : Nat), k ≤ g.rules.length → (trimK g m k).map (pickR g) = (g.rules.take k).filter (goodR m)
  | 0, _ => by simp [trimK]
  | k + 1, h => by
    have hk : k < g.rules.length := by omega
    have ih := trim_pick (g := g) (m := m) k (by omega)
    rw [List.take_succ_eq_append_getElem hk, List.filter_append, ← ih]
    cases hb : goodR m g.rules[k] with
    | true =>
      rw [trimK_yes hk hb, List.map_append, List.filter_cons, hb]
      simp [pickR, hk]
    | false =>
      rw [trimK_no hk hb, List.filter_cons, hb]
      simp
theorem trimK_mem {g : Gram} {m : List Bool} {k : Nat} {i : Int} (h : i ∈ trimK g m k) : ∃ n : Nat, i = n ∧ n < k := by
  unfold trimK at h
  rw [List.mem_map] at h
  obtain ⟨n, hn, rfl⟩ := h
  exact ⟨n, rfl, List.mem_range.1 (List.mem_filter.1 hn).1⟩
theorem rd_at {h : Heap} {v : Value} {n b : Nat} {cells : List Value} {et : TypeId} (hs : SlR h v n cells et b) {j : Nat} (hj : isAtS v j = true) : j < h.length := by
  rcases hs.2 with ⟨h1 | h1, _, _⟩ | ⟨id, ver, own, c, rfl, h2⟩
  · subst h1; simp [isAtS] at hj
  · subst h1; simp [isAtS] at hj
  · simp only [isAtS, beq_iff_eq] at hj
    subst hj
    exact lt_of_get h2
theorem rightS_tr {g : Gram} {m : List Bool} (R : RightS g) : RightS (trG g m) :=
  ⟨R.n1, R.n2, R.s1, R.s2, Nat.le_trans (List.length_filter_le _ _) R.rl, fun r hr => R.r r (List.mem_filter.1 hr).1⟩
theorem wfG_tr {g : Gram} {m : List Bool} (W : WfG g) : WfG (trG g m) := fun r hr => W r (List.mem_filter.1 hr).1
set_option maxHeartbeats 4000000 in
theorem trimmed_fw {h : Heap} {g : Gram} {v : Value} (hr : RdGram h v g) (hb : ¬ badG g) : FW env 40 [v] h fun r h' => ∃ m, Marks g.nts (goodD g) m ∧ RdGram h' r (trG g m) ∧ h <+: h' := by
  obtain ⟨u, rfl, hu⟩ := id hr
  obtain ⟨p, c, rfl⟩ := hu.form
  have R := rightS hb
  have hrl := R.rl
  refine fw_enter (fn := Try.f40) Try.func40 rfl (by kernel_rfl) (by simp [Try.ntmps40]) ?_; simp only [push_cast]
  repeat (first | refine cw_seq ?_ | refine cw_region ?_ | refine ow_nil ?_ | ((first | apply ow_cons | apply qw_cons); · simp only [push_cast, env, Nat.reduceEqDiff, reduceIte, Nat.reduceAdd, Nat.reduceMul, Nat.reduceLeDiff, reduceCtorEq, Nat.reduceSub, Int.reduceToNat] <;> exact rfl) | ((first | apply ow_spec | apply qw_spec); · simp only [push_cast, env, Nat.reduceEqDiff, reduceIte, Nat.reduceAdd, Nat.reduceMul, Nat.reduceLeDiff, reduceCtorEq, Nat.reduceSub, Int.reduceToNat] <;> exact rfl) | refine qw_nil ?_ | refine cw_block ?_ | refine cw_scope ?_ | refine cw_label ?_ | refine cw_skip ?_)
  refine ow_call (fn := Try.f55) (by simp only [push_cast, env, Nat.reduceEqDiff, reduceIte, Nat.reduceAdd, Nat.reduceMul, Nat.reduceLeDiff, reduceCtorEq, Nat.reduceSub, Int.reduceToNat] <;> exact rfl) rfl (by simp only [push_cast, env, Nat.reduceEqDiff, reduceIte, Nat.reduceAdd, Nat.reduceMul, Nat.reduceLeDiff, reduceCtorEq, Nat.reduceSub, Int.reduceToNat] <;> exact rfl) (by simp only [push_cast, env, Nat.reduceEqDiff, reduceIte, Nat.reduceAdd, Nat.reduceMul, Nat.reduceLeDiff, reduceCtorEq, Nat.reduceSub, Int.reduceToNat] <;> exact rfl) Try.func55 (by kernel_rfl) (by kernel_rfl) ?_
  rw [List.append_nil]
  refine (trim_fw hr).mono ?_
  rintro _ h1 ⟨⟨x, rfl, hx⟩, hp1⟩
  rcases hx with ⟨hb', _⟩ | ⟨_, m, hm, hG⟩
  · exact (hb hb').elim
  have hKl := trimK_len (g := g) (m := m) (k := g.rules.length)
  have hpk := trim_pick (g := g) (m := m) g.rules.length (Nat.le_refl _)
  rw [List.take_length] at hpk
  have hmem := fun i => trimK_mem (g := g) (m := m) (k := g.rules.length) (i := i)
  generalize trimK g m g.rules.length = L at hG hKl hpk hmem
  obtain ⟨pl, cl, rfl⟩ := hG.form
  have hLr : RdInts h1 (.slice pl L.length cl) L := hG.sl (by omega)
  repeat (first | refine cw_seq ?_ | refine cw_region ?_ | refine ow_nil ?_ | ((first | apply ow_cons | apply qw_cons); · simp only [push_cast, env, Nat.reduceEqDiff, reduceIte, Nat.reduceAdd, Nat.reduceMul, Nat.reduceLeDiff, reduceCtorEq, Nat.reduceSub, Int.reduceToNat] <;> exact rfl) | ((first | apply ow_spec | apply qw_spec); · simp only [push_cast, env, Nat.reduceEqDiff, reduceIte, Nat.reduceAdd, Nat.reduceMul, Nat.reduceLeDiff, reduceCtorEq, Nat.reduceSub, Int.reduceToNat] <;> exact rfl) | refine qw_nil ?_ | refine cw_block ?_ | refine cw_scope ?_ | refine cw_label ?_ | refine cw_skip ?_)
  refine cw_forG L.length (fun k (x : Heap × Option Addr × Nat × List Value) => [(1, .box [i64 g.nts, i64 g.start, .slice p g.rules.length c]), (2, .box [i64 0, i64 0, nilS]), (5, .box [i64 g.nts, i64 g.start, .slice x.2.1 k x.2.2.1]), (18, .val (.slice pl L.length cl)), (19, .val (i64 L.length)), (20, .val (i64 k))]) (fun _ x => x.1)
    (fun k x => BR h1 x.1 (.slice x.2.1 k x.2.2.1) ((L.take k).map (pickR g)) x.2.2.2 ∧ ∀ y ∈ x.2.2.2, ∀ j, isAtS y j = true → j < h.length) (h1, none, 0, []) (by simp only [push_cast, SubL, fget, Nat.reduceEqDiff, reduceIte]) rfl ⟨BR.nil (List.prefix_refl _), fun y hy => by simp at hy⟩ ?_
  rintro k ⟨hk, q, cq, us⟩ hkn ⟨B, hU⟩
  simp only at B hU ⊢
  by_cases hlt : k < L.length
  · obtain ⟨idl, verl, ownl, cl2, cellsl, hvl, hidl, hgl⟩ := RdInts.at hLr hlt
    cases hvl
    have hidl' := getElem?_of_prefix B.p hidl
    have e1 := rng hlt
    have e2 := inc hlt (by omega)
    have e3 := lt_dec hlt
    obtain ⟨n, hn, hnl⟩ := hmem L[k] (List.getElem_mem hlt)
    rw [hn] at hgl
    obtain ⟨id3, ver3, own3, c3, cells3, p3, n3, c4, hv3, hid3, hn3, hrd3, hu3⟩ := hu.at hnl
    cases hv3
    subst hn3
    have hid3' := getElem?_of_prefix (hp1.trans B.p) hid3
    have g2 := rng hnl
    have hpr : pickR g L[k] = g.rules[n] := by unfold pickR; rw [hn]; simp [hnl]
    have hlk : ((L.take k).map (pickR g)).length = k := by rw [List.length_map, List.length_take]; omega
    have hpl : h.length ≤ hk.length := (hp1.trans B.p).length_le
    obtain ⟨p5, c5, h5, hone, B5, hk5, hx5⟩ := B.push (r := g.rules[n]) (v := .slice p3 g.rules[n].rhs.length c4) (hu3.mono (hp1.trans B.p)) (fun j hj hj2 => by
        cases hq : isAtS (.slice p3 g.rules[n].rhs.length c4) j with
        | false => rfl
        | true =>
          have h6 := rd_at hu3 hq
          have h7 := (B.g.lt hj2).1
          have := hp1.length_le
          omega) (by
        cases hq : isAtS (.slice p3 g.rules[n].rhs.length c4) hk.length with
        | false => rfl
        | true => have := rd_at hu3 hq; omega) (fun x hx => by
        cases hq : isAtS x hk.length with
        | false => rfl
        | true => have := hU x hx _ hq; omega) (by rw [hlk]; omega)
    rw [hlk] at hone B5
    repeat (first | refine cw_seq ?_ | refine cw_region ?_ | refine ow_nil ?_ | ((first | apply ow_cons | apply qw_cons); · simp only [push_cast, env, Nat.reduceEqDiff, reduceIte, Nat.reduceAdd, Nat.reduceMul, Nat.reduceLeDiff, reduceCtorEq, Nat.reduceSub, Int.reduceToNat, e3] <;> exact rfl) | ((first | apply ow_spec | apply qw_spec); · simp only [push_cast, env, Nat.reduceEqDiff, reduceIte, Nat.reduceAdd, Nat.reduceMul, Nat.reduceLeDiff, reduceCtorEq, Nat.reduceSub, Int.reduceToNat, e3] <;> exact rfl) | refine qw_nil ?_ | refine cw_block ?_ | refine cw_scope ?_ | refine cw_label ?_ | refine cw_skip ?_)
    refine cw_condT (by simp only [push_cast, env, Nat.reduceEqDiff, reduceIte, Nat.reduceAdd, Nat.reduceMul, Nat.reduceLeDiff, reduceCtorEq, Nat.reduceSub, Int.reduceToNat] <;> exact rfl) ?_
    repeat (first | refine cw_seq ?_ | refine cw_region ?_ | refine ow_nil ?_ | ((first | apply ow_cons | apply qw_cons); · simp only [push_cast, env, Nat.reduceEqDiff, reduceIte, Nat.reduceAdd, Nat.reduceMul, Nat.reduceLeDiff, reduceCtorEq, Nat.reduceSub, Int.reduceToNat, hidl', e1, hgl, Nat.mul_one] <;> exact rfl) | ((first | apply ow_spec | apply qw_spec); · simp only [push_cast, env, Nat.reduceEqDiff, reduceIte, Nat.reduceAdd, Nat.reduceMul, Nat.reduceLeDiff, reduceCtorEq, Nat.reduceSub, Int.reduceToNat, hidl', e1, hgl, Nat.mul_one] <;> exact rfl) | refine qw_nil ?_ | refine cw_block ?_ | refine cw_scope ?_ | refine cw_label ?_ | refine cw_skip ?_)
    refine cw_weakL [(1, .box [i64 g.nts, i64 g.start, .slice (some ⟨id3, 0, some ver3⟩) g.rules.length c]), (2, .box [i64 0, i64 0, nilS]), (5, .box [i64 g.nts, i64 g.start, .slice q k cq]), (7, .val (i64 n)), (18, .val (.slice (some ⟨idl, 0, some verl⟩) L.length cl)), (19, .val (i64 L.length)), (20, .val (i64 k))] (by simp only [push_cast, SubL, fget, Nat.reduceEqDiff, reduceIte]) ?_
    show CW _ _ ⟨_, [], hk⟩ _
    apply cw_ordT (n := 8) (L := [[], [0], [], [2], [], [2, 3, 4], [2, 3, 4, 5], [2, 3, 4, 5, 6], [0, 1, 2, 3, 4, 5, 6, 7], [0, 1, 2, 3, 4, 5, 6, 7, 8], [0, 1, 2, 3, 4, 5, 6, 7, 8, 9]]) (act := []) (hs := []) (resL := [_, _, _, _, _, _, _, _]) (frP := [(1, .box [i64 g.nts, i64 g.start, .slice (some ⟨id3, 0, some ver3⟩) g.rules.length c]), (2, .box [i64 0, i64 0, nilS]), (5, .box [i64 g.nts, i64 g.start, .slice q k cq]), (18, .val (.slice (some ⟨idl, 0, some verl⟩) L.length cl)), (19, .val (i64 L.length)), (20, .val (i64 k)), (25, .val (.slice q k cq)), (31, .bsl [i64 g.rules[n].lhs, .slice p3 g.rules[n].rhs.length c4] 1)])
    case hm => exact mixed
    case hc => kernel_rfl
    case hn => kernel_rfl
    case ha => rfl
    case hb => rfl
    case hS => repeat (first | exact StepsA.nil _ | (apply StepsA.cons; (· rfl); (· (first | refine ⟨?_, trivial⟩ | refine ⟨?_, ?_, trivial⟩ | refine ⟨?_, ?_, ?_, trivial⟩ | refine ⟨?_, ?_, ?_, ?_, trivial⟩) <;> (first | (apply one_val; (· rfl); (· simp only [push_cast, env, Nat.reduceEqDiff, reduceIte, Nat.reduceAdd, Nat.reduceMul, Nat.reduceLeDiff, reduceCtorEq, Nat.reduceSub, Int.reduceToNat, hid3', hrd3, g2] <;> exact rfl); (· simp only [push_cast, env, Nat.reduceEqDiff, reduceIte, Nat.reduceAdd, Nat.reduceMul, Nat.reduceLeDiff, reduceCtorEq, Nat.reduceSub, Int.reduceToNat, hid3', hrd3, g2] <;> exact rfl)) | (apply one_eph; (· rfl); (· simp only [push_cast, env, Nat.reduceEqDiff, reduceIte, Nat.reduceAdd, Nat.reduceMul, Nat.reduceLeDiff, reduceCtorEq, Nat.reduceSub, Int.reduceToNat, hid3', hrd3, g2] <;> exact rfl); (· rfl); (· simp only [push_cast, env, Nat.reduceEqDiff, reduceIte, Nat.reduceAdd, Nat.reduceMul, Nat.reduceLeDiff, reduceCtorEq, Nat.reduceSub, Int.reduceToNat, hid3', hrd3, g2] <;> exact rfl); (· decide)) | (apply one_bsl; (· rfl); (· simp only [push_cast, env, Nat.reduceEqDiff, reduceIte, Nat.reduceAdd, Nat.reduceMul, Nat.reduceLeDiff, reduceCtorEq, Nat.reduceSub, Int.reduceToNat, hid3', hrd3, g2] <;> exact rfl); (· rfl); (· simp only [push_cast, env, Nat.reduceEqDiff, reduceIte, Nat.reduceAdd, Nat.reduceMul, Nat.reduceLeDiff, reduceCtorEq, Nat.reduceSub, Int.reduceToNat, hid3', hrd3, g2] <;> exact rfl)) | (apply one_box; (· rfl); (· simp only [push_cast, env, Nat.reduceEqDiff, reduceIte, Nat.reduceAdd, Nat.reduceMul, Nat.reduceLeDiff, reduceCtorEq, Nat.reduceSub, Int.reduceToNat, hid3', hrd3, g2] <;> exact rfl); (· rfl); (· simp only [push_cast, env, Nat.reduceEqDiff, reduceIte, Nat.reduceAdd, Nat.reduceMul, Nat.reduceLeDiff, reduceCtorEq, Nat.reduceSub, Int.reduceToNat, hid3', hrd3, g2] <;> exact rfl)) | (apply one_skip; (· rfl); (· simp only [push_cast, env, Nat.reduceEqDiff, reduceIte, Nat.reduceAdd, Nat.reduceMul, Nat.reduceLeDiff, reduceCtorEq, Nat.reduceSub, Int.reduceToNat, hid3', hrd3, g2] <;> exact rfl)))); (· rfl)))
    case ht => rfl
    case hF => repeat (first | exact trivial | (refine ⟨.inl ⟨by decide, rfl⟩, ?_⟩) | (refine ⟨.inr ⟨rfl, by simp⟩, ?_⟩))
    refine owv (hone _ _ _ _ _ rfl (by simp only [push_cast, env, Nat.reduceEqDiff, reduceIte, Nat.reduceAdd, Nat.reduceMul, Nat.reduceLeDiff, reduceCtorEq, Nat.reduceSub, Int.reduceToNat] <;> exact rfl) rfl (by simp only [push_cast, env, Nat.reduceEqDiff, reduceIte, Nat.reduceAdd, Nat.reduceMul, Nat.reduceLeDiff, reduceCtorEq, Nat.reduceSub, Int.reduceToNat] <;> exact rfl) rfl) ?_
    repeat (first | refine cw_seq ?_ | refine cw_region ?_ | refine ow_nil ?_ | ((first | apply ow_cons | apply qw_cons); · simp only [push_cast, env, Nat.reduceEqDiff, reduceIte, Nat.reduceAdd, Nat.reduceMul, Nat.reduceLeDiff, reduceCtorEq, Nat.reduceSub, Int.reduceToNat] <;> exact rfl) | ((first | apply ow_spec | apply qw_spec); · simp only [push_cast, env, Nat.reduceEqDiff, reduceIte, Nat.reduceAdd, Nat.reduceMul, Nat.reduceLeDiff, reduceCtorEq, Nat.reduceSub, Int.reduceToNat] <;> exact rfl) | refine qw_nil ?_ | refine cw_block ?_ | refine cw_scope ?_ | refine cw_label ?_ | refine cw_skip ?_)
    refine ⟨[(1, .box [i64 g.nts, i64 g.start, .slice (some ⟨id3, 0, some ver3⟩) g.rules.length c]), (2, .box [i64 0, i64 0, nilS]), (5, .box [i64 g.nts, i64 g.start, .slice p5 (k + 1) c5]), (18, .val (.slice (some ⟨idl, 0, some verl⟩) L.length cl)), (19, .val (i64 L.length)), (20, .val (i64 k))], (by simp only [push_cast, SubL, fget, Nat.reduceEqDiff, reduceIte]), ?_⟩
    show CW _ _ ⟨_, [], h5⟩ _
    repeat (first | refine cw_seq ?_ | refine cw_region ?_ | refine ow_nil ?_ | ((first | apply ow_cons | apply qw_cons); · simp only [push_cast, env, Nat.reduceEqDiff, reduceIte, Nat.reduceAdd, Nat.reduceMul, Nat.reduceLeDiff, reduceCtorEq, Nat.reduceSub, Int.reduceToNat, e2] <;> exact rfl) | ((first | apply ow_spec | apply qw_spec); · simp only [push_cast, env, Nat.reduceEqDiff, reduceIte, Nat.reduceAdd, Nat.reduceMul, Nat.reduceLeDiff, reduceCtorEq, Nat.reduceSub, Int.reduceToNat, e2] <;> exact rfl) | refine qw_nil ?_ | refine cw_block ?_ | refine cw_scope ?_ | refine cw_label ?_ | refine cw_skip ?_)
    refine ⟨hlt, (h5, p5, c5, us ++ [.slice p3 g.rules[n].rhs.length c4]), (by simp only [push_cast, SubL, fget, Nat.reduceEqDiff, reduceIte]), rfl, ?_, fun y hy j hj => ?_⟩
    · simp only
      rw [List.take_succ_eq_append_getElem hlt, List.map_append, List.map_cons, List.map_nil, hpr]
      exact B5
    · simp only at hy
      rw [List.mem_append, List.mem_singleton] at hy
      rcases hy with hy | rfl
      · exact hU y hy j hj
      · exact rd_at hu3 hj
  · have e3 := ge_dec hlt
    obtain rfl : k = L.length := by omega
    repeat (first | refine cw_seq ?_ | refine cw_region ?_ | refine ow_nil ?_ | ((first | apply ow_cons | apply qw_cons); · simp only [push_cast, env, Nat.reduceEqDiff, reduceIte, Nat.reduceAdd, Nat.reduceMul, Nat.reduceLeDiff, reduceCtorEq, Nat.reduceSub, Int.reduceToNat, e3] <;> exact rfl) | ((first | apply ow_spec | apply qw_spec); · simp only [push_cast, env, Nat.reduceEqDiff, reduceIte, Nat.reduceAdd, Nat.reduceMul, Nat.reduceLeDiff, reduceCtorEq, Nat.reduceSub, Int.reduceToNat, e3] <;> exact rfl) | refine qw_nil ?_ | refine cw_block ?_ | refine cw_scope ?_ | refine cw_label ?_ | refine cw_skip ?_)
    refine cw_condF (by simp only [push_cast, env, Nat.reduceEqDiff, reduceIte, Nat.reduceAdd, Nat.reduceMul, Nat.reduceLeDiff, reduceCtorEq, Nat.reduceSub, Int.reduceToNat] <;> exact rfl) ?_
    refine cw_exit ?_
    show CW _ _ _ _
    rw [List.take_length, hpk] at B
    repeat (first | refine cw_seq ?_ | refine cw_region ?_ | refine ow_nil ?_ | ((first | apply ow_cons | apply qw_cons); · simp only [push_cast, env, Nat.reduceEqDiff, reduceIte, Nat.reduceAdd, Nat.reduceMul, Nat.reduceLeDiff, reduceCtorEq, Nat.reduceSub, Int.reduceToNat] <;> exact rfl) | ((first | apply ow_spec | apply qw_spec); · simp only [push_cast, env, Nat.reduceEqDiff, reduceIte, Nat.reduceAdd, Nat.reduceMul, Nat.reduceLeDiff, reduceCtorEq, Nat.reduceSub, Int.reduceToNat] <;> exact rfl) | refine qw_nil ?_ | refine cw_block ?_ | refine cw_scope ?_ | refine cw_label ?_ | refine cw_skip ?_)
    have hfl : (g.rules.filter (goodR m)).length = L.length := by rw [← hpk, List.length_map]
    have hrd := B.rd (by rw [hfl]; omega)
    refine cw_ret ?_
    exact ⟨_, (by simp only [push_cast, env, Nat.reduceEqDiff, reduceIte, Nat.reduceAdd, Nat.reduceMul, Nat.reduceLeDiff, reduceCtorEq, Nat.reduceSub, Int.reduceToNat] <;> exact rfl), m, hm, ⟨_, rfl, hrd⟩, hp1.trans B.p⟩
/-- the last set with items -/
def lastK (S : List (List Item)) : Nat → Int
  | 0 => -1
  | k + 1 => if 0 < (gs S k).length then (k : Int) else lastK S k
def LastR (g : Gram) (w : List Nat) (r : Value) : Prop := ∃ n, r = .tuple #[i64 n, i64 (fitE g w)] ∧ (fitE g w ≠ 0 → n = 0) ∧ (fitE g w = 0 → ∃ m S, Marks g.nts (goodD g) m ∧ ChartOK (trG g m) w S ∧ n = lastK S (w.length + 1))
set_option maxHeartbeats 4000000 in
theorem last_fw {h : Heap} {g : Gram} {v wv : Value} {w : List Nat} (hr : RdGram h v g) (hwR : RdB h wv w) (W : WfG g) : FW env 17 [v, wv] h fun r h' => LastR g w r ∧ h <+: h' := by
  obtain ⟨u, rfl, hu⟩ := id hr
  obtain ⟨p, c, rfl⟩ := hu.form
  obtain ⟨pw, cw, rfl⟩ := hwR.form
  refine fw_enter (fn := Try.f17) Try.func17 rfl (by kernel_rfl) (by simp [Try.ntmps17]) ?_; simp only [push_cast]
  repeat (first | refine cw_seq ?_ | refine cw_region ?_ | refine ow_nil ?_ | ((first | apply ow_cons | apply qw_cons); · simp only [push_cast, env, Nat.reduceEqDiff, reduceIte, Nat.reduceAdd, Nat.reduceMul, Nat.reduceLeDiff, reduceCtorEq, Nat.reduceSub, Int.reduceToNat] <;> exact rfl) | ((first | apply ow_spec | apply qw_spec); · simp only [push_cast, env, Nat.reduceEqDiff, reduceIte, Nat.reduceAdd, Nat.reduceMul, Nat.reduceLeDiff, reduceCtorEq, Nat.reduceSub, Int.reduceToNat] <;> exact rfl) | refine qw_nil ?_ | refine cw_block ?_ | refine cw_scope ?_ | refine cw_label ?_ | refine cw_skip ?_)
  refine ow_call (fn := Try.f36) (by simp only [push_cast, env, Nat.reduceEqDiff, reduceIte, Nat.reduceAdd, Nat.reduceMul, Nat.reduceLeDiff, reduceCtorEq, Nat.reduceSub, Int.reduceToNat] <;> exact rfl) rfl (by simp only [push_cast, env, Nat.reduceEqDiff, reduceIte, Nat.reduceAdd, Nat.reduceMul, Nat.reduceLeDiff, reduceCtorEq, Nat.reduceSub, Int.reduceToNat] <;> exact rfl) (by simp only [push_cast, env, Nat.reduceEqDiff, reduceIte, Nat.reduceAdd, Nat.reduceMul, Nat.reduceLeDiff, reduceCtorEq, Nat.reduceSub, Int.reduceToNat] <;> exact rfl) Try.func36 (by kernel_rfl) (by kernel_rfl) ?_
  rw [List.append_nil]
  refine (fit_fw hr hwR).mono ?_
  rintro _ h ⟨rfl, rfl⟩
  by_cases hf : ¬ fitE g w = 0
  · have df : decide (fitE g w = 0) = false := decide_eq_false hf
    repeat (first | refine cw_seq ?_ | refine cw_region ?_ | refine ow_nil ?_ | ((first | apply ow_cons | apply qw_cons); · simp only [push_cast, env, Nat.reduceEqDiff, reduceIte, Nat.reduceAdd, Nat.reduceMul, Nat.reduceLeDiff, reduceCtorEq, Nat.reduceSub, Int.reduceToNat, df] <;> exact rfl) | ((first | apply ow_spec | apply qw_spec); · simp only [push_cast, env, Nat.reduceEqDiff, reduceIte, Nat.reduceAdd, Nat.reduceMul, Nat.reduceLeDiff, reduceCtorEq, Nat.reduceSub, Int.reduceToNat, df] <;> exact rfl) | refine qw_nil ?_ | refine cw_block ?_ | refine cw_scope ?_ | refine cw_label ?_ | refine cw_skip ?_)
    refine cw_condT (by simp only [push_cast, env, Nat.reduceEqDiff, reduceIte, Nat.reduceAdd, Nat.reduceMul, Nat.reduceLeDiff, reduceCtorEq, Nat.reduceSub, Int.reduceToNat, df] <;> exact rfl) ?_
    repeat (first | refine cw_seq ?_ | refine cw_region ?_ | refine ow_nil ?_ | ((first | apply ow_cons | apply qw_cons); · simp only [push_cast, env, Nat.reduceEqDiff, reduceIte, Nat.reduceAdd, Nat.reduceMul, Nat.reduceLeDiff, reduceCtorEq, Nat.reduceSub, Int.reduceToNat] <;> exact rfl) | ((first | apply ow_spec | apply qw_spec); · simp only [push_cast, env, Nat.reduceEqDiff, reduceIte, Nat.reduceAdd, Nat.reduceMul, Nat.reduceLeDiff, reduceCtorEq, Nat.reduceSub, Int.reduceToNat] <;> exact rfl) | refine qw_nil ?_ | refine cw_block ?_ | refine cw_scope ?_ | refine cw_label ?_ | refine cw_skip ?_)
    refine cw_ret ?_
    exact ⟨_, (by simp only [push_cast, env, Nat.reduceEqDiff, reduceIte, Nat.reduceAdd, Nat.reduceMul, Nat.reduceLeDiff, reduceCtorEq, Nat.reduceSub, Int.reduceToNat] <;> exact rfl), ⟨0, rfl, fun _ => rfl, fun h => absurd h hf⟩, List.prefix_refl _⟩
  replace hf : fitE g w = 0 := Classical.not_not.1 hf
  obtain ⟨hb, hw⟩ := fitE_ok.1 hf
  have R := rightS hb
  rw [hf]
  repeat (first | refine cw_seq ?_ | refine cw_region ?_ | refine ow_nil ?_ | ((first | apply ow_cons | apply qw_cons); · simp only [push_cast, env, Nat.reduceEqDiff, reduceIte, Nat.reduceAdd, Nat.reduceMul, Nat.reduceLeDiff, reduceCtorEq, Nat.reduceSub, Int.reduceToNat] <;> exact rfl) | ((first | apply ow_spec | apply qw_spec); · simp only [push_cast, env, Nat.reduceEqDiff, reduceIte, Nat.reduceAdd, Nat.reduceMul, Nat.reduceLeDiff, reduceCtorEq, Nat.reduceSub, Int.reduceToNat] <;> exact rfl) | refine qw_nil ?_ | refine cw_block ?_ | refine cw_scope ?_ | refine cw_label ?_ | refine cw_skip ?_)
  refine cw_condF (by simp only [push_cast, env, Nat.reduceEqDiff, reduceIte, Nat.reduceAdd, Nat.reduceMul, Nat.reduceLeDiff, reduceCtorEq, Nat.reduceSub, Int.reduceToNat] <;> exact rfl) ?_
  repeat (first | refine cw_seq ?_ | refine cw_region ?_ | refine ow_nil ?_ | ((first | apply ow_cons | apply qw_cons); · simp only [push_cast, env, Nat.reduceEqDiff, reduceIte, Nat.reduceAdd, Nat.reduceMul, Nat.reduceLeDiff, reduceCtorEq, Nat.reduceSub, Int.reduceToNat] <;> exact rfl) | ((first | apply ow_spec | apply qw_spec); · simp only [push_cast, env, Nat.reduceEqDiff, reduceIte, Nat.reduceAdd, Nat.reduceMul, Nat.reduceLeDiff, reduceCtorEq, Nat.reduceSub, Int.reduceToNat] <;> exact rfl) | refine qw_nil ?_ | refine cw_block ?_ | refine cw_scope ?_ | refine cw_label ?_ | refine cw_skip ?_)
  refine ow_call (fn := Try.f40) (by simp only [push_cast, env, Nat.reduceEqDiff, reduceIte, Nat.reduceAdd, Nat.reduceMul, Nat.reduceLeDiff, reduceCtorEq, Nat.reduceSub, Int.reduceToNat] <;> exact rfl) rfl (by simp only [push_cast, env, Nat.reduceEqDiff, reduceIte, Nat.reduceAdd, Nat.reduceMul, Nat.reduceLeDiff, reduceCtorEq, Nat.reduceSub, Int.reduceToNat] <;> exact rfl) (by simp only [push_cast, env, Nat.reduceEqDiff, reduceIte, Nat.reduceAdd, Nat.reduceMul, Nat.reduceLeDiff, reduceCtorEq, Nat.reduceSub, Int.reduceToNat] <;> exact rfl) Try.func40 (by kernel_rfl) (by kernel_rfl) ?_
  rw [List.append_nil]
  refine (trimmed_fw hr hb).mono ?_
  rintro v1 h1 ⟨m, hm, hr1, hp1⟩
  repeat (first | refine cw_seq ?_ | refine cw_region ?_ | refine ow_nil ?_ | ((first | apply ow_cons | apply qw_cons); · simp only [push_cast, env, Nat.reduceEqDiff, reduceIte, Nat.reduceAdd, Nat.reduceMul, Nat.reduceLeDiff, reduceCtorEq, Nat.reduceSub, Int.reduceToNat] <;> exact rfl) | ((first | apply ow_spec | apply qw_spec); · simp only [push_cast, env, Nat.reduceEqDiff, reduceIte, Nat.reduceAdd, Nat.reduceMul, Nat.reduceLeDiff, reduceCtorEq, Nat.reduceSub, Int.reduceToNat] <;> exact rfl) | refine qw_nil ?_ | refine cw_block ?_ | refine cw_scope ?_ | refine cw_label ?_ | refine cw_skip ?_)
  refine ow_call (fn := Try.f37) (by simp only [push_cast, env, Nat.reduceEqDiff, reduceIte, Nat.reduceAdd, Nat.reduceMul, Nat.reduceLeDiff, reduceCtorEq, Nat.reduceSub, Int.reduceToNat] <;> exact rfl) rfl (by simp only [push_cast, env, Nat.reduceEqDiff, reduceIte, Nat.reduceAdd, Nat.reduceMul, Nat.reduceLeDiff, reduceCtorEq, Nat.reduceSub, Int.reduceToNat] <;> exact rfl) (by simp only [push_cast, env, Nat.reduceEqDiff, reduceIte, Nat.reduceAdd, Nat.reduceMul, Nat.reduceLeDiff, reduceCtorEq, Nat.reduceSub, Int.reduceToNat] <;> exact rfl) Try.func37 (by kernel_rfl) (by kernel_rfl) ?_
  rw [List.append_nil]
  refine (open_fw hr1 (hwR.mono hp1) (rightS_tr R) (wfG_tr W) hw).mono ?_
  rintro _ h' ⟨hB, rv, F, G, rfl, rfl, K, C, hrv⟩
  have hSl := C.n
  have hc := K.c
  have hs := K.s
  unfold chCells at hc
  repeat (first | refine cw_seq ?_ | refine cw_region ?_ | refine ow_nil ?_ | ((first | apply ow_cons | apply qw_cons); · simp only [push_cast, env, Nat.reduceEqDiff, reduceIte, Nat.reduceAdd, Nat.reduceMul, Nat.reduceLeDiff, reduceCtorEq, Nat.reduceSub, Int.reduceToNat, hc] <;> exact rfl) | ((first | apply ow_spec | apply qw_spec); · simp only [push_cast, env, Nat.reduceEqDiff, reduceIte, Nat.reduceAdd, Nat.reduceMul, Nat.reduceLeDiff, reduceCtorEq, Nat.reduceSub, Int.reduceToNat, hc] <;> exact rfl) | refine qw_nil ?_ | refine cw_block ?_ | refine cw_scope ?_ | refine cw_label ?_ | refine cw_skip ?_)
  refine cw_for G.S.length (fun i => [(7, .val (i64 (lastK G.S i))), (22, .val (.slice (some ⟨F.si, 0, some 0⟩) G.S.length G.S.length)), (23, .val (i64 G.S.length)), (24, .val (i64 i))]) (fun _ => G.h)
    (fun i => True) (by simp only [push_cast, SubL, fget, Nat.reduceEqDiff, reduceIte, lastK]) rfl trivial ?_
  intro i hi hI
  by_cases hlt : i < G.S.length
  · have e2 := inc hlt (by omega)
    have e3 := lt_dec hlt
    have f2 := rng hlt
    obtain ⟨u2, cu2, hu2, gu2⟩ := K.us_at hlt
    repeat (first | refine cw_seq ?_ | refine cw_region ?_ | refine ow_nil ?_ | ((first | apply ow_cons | apply qw_cons); · simp only [push_cast, env, Nat.reduceEqDiff, reduceIte, Nat.reduceAdd, Nat.reduceMul, Nat.reduceLeDiff, reduceCtorEq, Nat.reduceSub, Int.reduceToNat, e3] <;> exact rfl) | ((first | apply ow_spec | apply qw_spec); · simp only [push_cast, env, Nat.reduceEqDiff, reduceIte, Nat.reduceAdd, Nat.reduceMul, Nat.reduceLeDiff, reduceCtorEq, Nat.reduceSub, Int.reduceToNat, e3] <;> exact rfl) | refine qw_nil ?_ | refine cw_block ?_ | refine cw_scope ?_ | refine cw_label ?_ | refine cw_skip ?_)
    refine cw_condT (by simp only [push_cast, env, Nat.reduceEqDiff, reduceIte, Nat.reduceAdd, Nat.reduceMul, Nat.reduceLeDiff, reduceCtorEq, Nat.reduceSub, Int.reduceToNat] <;> exact rfl) ?_
    repeat (first | refine cw_seq ?_ | refine cw_region ?_ | refine ow_nil ?_ | ((first | apply ow_cons | apply qw_cons); · simp only [push_cast, env, Nat.reduceEqDiff, reduceIte, Nat.reduceAdd, Nat.reduceMul, Nat.reduceLeDiff, reduceCtorEq, Nat.reduceSub, Int.reduceToNat, hs, hu2, f2, Nat.mul_one] <;> exact rfl) | ((first | apply ow_spec | apply qw_spec); · simp only [push_cast, env, Nat.reduceEqDiff, reduceIte, Nat.reduceAdd, Nat.reduceMul, Nat.reduceLeDiff, reduceCtorEq, Nat.reduceSub, Int.reduceToNat, hs, hu2, f2, Nat.mul_one] <;> exact rfl) | refine qw_nil ?_ | refine cw_block ?_ | refine cw_scope ?_ | refine cw_label ?_ | refine cw_skip ?_)
    refine cw_cond (by simp only [push_cast, env, Nat.reduceEqDiff, reduceIte, Nat.reduceAdd, Nat.reduceMul, Nat.reduceLeDiff, reduceCtorEq, Nat.reduceSub, Int.reduceToNat] <;> exact rfl) (fun c1 => ?_) (fun c1 => ?_)
    · have c1' : 0 < (gs G.S i).length := by simp only [decide_eq_true_eq] at c1; omega
      repeat (first | refine cw_seq ?_ | refine cw_region ?_ | refine ow_nil ?_ | ((first | apply ow_cons | apply qw_cons); · simp only [push_cast, env, Nat.reduceEqDiff, reduceIte, Nat.reduceAdd, Nat.reduceMul, Nat.reduceLeDiff, reduceCtorEq, Nat.reduceSub, Int.reduceToNat, e2] <;> exact rfl) | ((first | apply ow_spec | apply qw_spec); · simp only [push_cast, env, Nat.reduceEqDiff, reduceIte, Nat.reduceAdd, Nat.reduceMul, Nat.reduceLeDiff, reduceCtorEq, Nat.reduceSub, Int.reduceToNat, e2] <;> exact rfl) | refine qw_nil ?_ | refine cw_block ?_ | refine cw_scope ?_ | refine cw_label ?_ | refine cw_skip ?_)
      exact ⟨hlt, (by simp only [push_cast, SubL, fget, Nat.reduceEqDiff, reduceIte, lastK, if_pos c1']), rfl, trivial⟩
    · have c1' : ¬ 0 < (gs G.S i).length := by simp only [decide_eq_false_iff_not] at c1; omega
      repeat (first | refine cw_seq ?_ | refine cw_region ?_ | refine ow_nil ?_ | ((first | apply ow_cons | apply qw_cons); · simp only [push_cast, env, Nat.reduceEqDiff, reduceIte, Nat.reduceAdd, Nat.reduceMul, Nat.reduceLeDiff, reduceCtorEq, Nat.reduceSub, Int.reduceToNat, e2] <;> exact rfl) | ((first | apply ow_spec | apply qw_spec); · simp only [push_cast, env, Nat.reduceEqDiff, reduceIte, Nat.reduceAdd, Nat.reduceMul, Nat.reduceLeDiff, reduceCtorEq, Nat.reduceSub, Int.reduceToNat, e2] <;> exact rfl) | refine qw_nil ?_ | refine cw_block ?_ | refine cw_scope ?_ | refine cw_label ?_ | refine cw_skip ?_)
      exact ⟨hlt, (by simp only [push_cast, SubL, fget, Nat.reduceEqDiff, reduceIte, lastK, if_neg c1']), rfl, trivial⟩
  · have e3 := ge_dec hlt
    obtain rfl : i = G.S.length := by omega
    repeat (first | refine cw_seq ?_ | refine cw_region ?_ | refine ow_nil ?_ | ((first | apply ow_cons | apply qw_cons); · simp only [push_cast, env, Nat.reduceEqDiff, reduceIte, Nat.reduceAdd, Nat.reduceMul, Nat.reduceLeDiff, reduceCtorEq, Nat.reduceSub, Int.reduceToNat, e3] <;> exact rfl) | ((first | apply ow_spec | apply qw_spec); · simp only [push_cast, env, Nat.reduceEqDiff, reduceIte, Nat.reduceAdd, Nat.reduceMul, Nat.reduceLeDiff, reduceCtorEq, Nat.reduceSub, Int.reduceToNat, e3] <;> exact rfl) | refine qw_nil ?_ | refine cw_block ?_ | refine cw_scope ?_ | refine cw_label ?_ | refine cw_skip ?_)
    refine cw_condF (by simp only [push_cast, env, Nat.reduceEqDiff, reduceIte, Nat.reduceAdd, Nat.reduceMul, Nat.reduceLeDiff, reduceCtorEq, Nat.reduceSub, Int.reduceToNat] <;> exact rfl) ?_
    refine cw_exit ?_
    show CW _ _ _ _
    repeat (first | refine cw_seq ?_ | refine cw_region ?_ | refine ow_nil ?_ | ((first | apply ow_cons | apply qw_cons); · simp only [push_cast, env, Nat.reduceEqDiff, reduceIte, Nat.reduceAdd, Nat.reduceMul, Nat.reduceLeDiff, reduceCtorEq, Nat.reduceSub, Int.reduceToNat] <;> exact rfl) | ((first | apply ow_spec | apply qw_spec); · simp only [push_cast, env, Nat.reduceEqDiff, reduceIte, Nat.reduceAdd, Nat.reduceMul, Nat.reduceLeDiff, reduceCtorEq, Nat.reduceSub, Int.reduceToNat] <;> exact rfl) | refine qw_nil ?_ | refine cw_block ?_ | refine cw_scope ?_ | refine cw_label ?_ | refine cw_skip ?_)
    refine cw_ret ?_
    exact ⟨_, (by simp only [push_cast, env, Nat.reduceEqDiff, reduceIte, Nat.reduceAdd, Nat.reduceMul, Nat.reduceLeDiff, reduceCtorEq, Nat.reduceSub, Int.reduceToNat] <;> exact rfl), ⟨lastK G.S G.S.length, by rw [hf]; rfl, fun h => absurd hf h, fun _ => ⟨m, G.S, hm, C, by rw [hSl]⟩⟩, hp1.trans K.p⟩
end Go.Proofs.Ytafncpgiibikcaa

/- First, of the reference. -/
namespace Go.Proofs.Ytafncpgiibikcaa
set_option linter.unusedSimpArgs false
set_option linter.unusedVariables false
open Go.RowKit Am Ty

/-! ### rounds in place -/
def hasL (b : Nat) (out : List BSet) : List Bool := out.map fun s => s.has b
theorem hasL_bit {b : Nat} {out : List BSet} {i : Int} (h0 : 0 ≤ i) (h1 : i < out.length) : bit (hasL b out) i = (sget out i).has b := by
  rw [bit_get h0 (by simp [hasL, h1]), sget_get h0 h1]
  simp [hasL]
def CompleteB (g : Gram) (D : Int → Prop) (b : Nat) (out : List BSet) : Prop := ∀ i : Int, 0 ≤ i → i < g.nts → Fst g.rules D b i → (sget out i).has b = true
structure FRounds (g : Gram) (D : Int → Prop) (k : Nat) (out : List BSet) : Prop where
  i : FInv g D out
  c : ∀ b, b < 256 → k ≤ (hasL b out).count true ∨ CompleteB g D b out
def OLe (n : Int) (a b : List BSet) : Prop := ∀ i : Int, 0 ≤ i → i < n → SLe (sget a i) (sget b i)
structure FRound (g : Gram) (D : Int → Prop) (out0 : List BSet) (k : Nat) (out : List BSet) : Prop where
  i : FInv g D out
  le : OLe g.nts out0 out
  d : ∀ r ∈ g.rules.take k, FClosed D out0 r (sget out r.lhs)
theorem FRounds.step {g : Gram} {D : Int → Prop} {k : Nat} {out out' : List BSet} (R : RightS g) (h : FRounds g D k out) (hr : FRound g D out g.rules.length out') : FRounds g D (k + 1) out' := by
  have hd := hr.d
  rw [List.take_length] at hd
  refine ⟨hr.i, fun b hb => ?_⟩
  have hl := h.i.n
  have hl' := hr.i.n
  by_cases hc : ∃ i : Int, 0 ≤ i ∧ i < g.nts ∧ (sget out i).has b = false ∧ (sget out' i).has b = true
  · rcases h.c b hb with h3 | h3
    · obtain ⟨i, h0, h1, h2, h4⟩ := hc
      have hle : ∀ (i : Nat) (h1 : i < (hasL b out).length) (h2 : i < (hasL b out').length), (hasL b out)[i] = true → (hasL b out')[i] = true :=
        BLe.get (n := g.nts) (fun i h0 h1 => by rw [hasL_bit h0 (by omega), hasL_bit h0 (by omega)]; exact hr.le i h0 h1 b hb) (by simp [hasL, hl]) (by simp [hasL, hl'])
      have e1 : (hasL b out).length = out.length := by simp [hasL]
      have e2 : (hasL b out').length = out'.length := by simp [hasL]
      have := cnt_lt (by omega) hle ⟨i.toNat, by omega, by omega, by rw [← bit_get h0 (by omega), hasL_bit h0 (by omega)]; exact h2, by rw [← bit_get h0 (by omega), hasL_bit h0 (by omega)]; exact h4⟩
      exact .inl (by omega)
    · obtain ⟨i, h0, h1, h2, h4⟩ := hc
      rw [h3 i h0 h1 (hr.i.s i h0 h1 b hb h4)] at h2
      cases h2
  · refine .inr fun i h0 h1 hf => ?_
    clear h0 h1
    induction hf with
    | mk r k hk hr1 hp hs hn ih =>
      refine hd r hr1 k hk hp b hb ?_
      obtain ⟨l1, l2, _, hS⟩ := R.r r hr1
      have hs2 := hS _ (List.getElem_mem hk)
      unfold symSet
      split
      · rename_i h0
        exact hs h0
      · rename_i h0
        have := ih (by omega)
        cases h5 : (sget out r.rhs[k].nt).has b with
        | true => rfl
        | false => exact (hc ⟨_, by omega, hs2.2.1, h5, this⟩).elim
theorem FRounds.fin {g : Gram} {D : Int → Prop} {k : Nat} {out : List BSet} (h : FRounds g D k out) (hk : g.nts ≤ k) : Firsts g D out := by
  have hl := h.i.n
  refine ⟨hl, fun i h0 h1 => ⟨h.i.wf i h0 h1, fun b hb => ⟨h.i.s i h0 h1 b hb, fun hf => ?_⟩⟩⟩
  rcases h.c b hb with hc | hc
  · have e1 : (hasL b out).length = out.length := by simp [hasL]
    have := cnt_full (m := hasL b out) (by omega)
    rw [← hasL_bit h0 (by omega), bit_get h0 (by omega)]
    exact this _ (List.getElem_mem _)
  · exact hc i h0 h1 hf
structure FMid (g : Gram) (D : Int → Prop) (out0 : List BSet) (r : Rule) (j : Nat) (a : Bool) (out : List BSet) : Prop where
  c : ∀ (k : Nat) (hk : k < r.rhs.length), k < j → (∀ x ∈ r.rhs.take k, NullS D x) → SLe (symSet out0 r.rhs[k]) (sget out r.lhs)
  t : a = true → ∀ x ∈ r.rhs.take j, NullS D x
  f : a = false → ∃ (k : Nat) (hk : k < r.rhs.length), k < j ∧ ¬ NullS D r.rhs[k]
theorem FMid.closed {g : Gram} {D : Int → Prop} {out0 : List BSet} {r : Rule} {j : Nat} {a : Bool} {out : List BSet} (h : FMid g D out0 r j a out) (hj : a = false ∨ j = r.rhs.length) : FClosed D out0 r (sget out r.lhs) := by
  intro k hk hx
  rcases Nat.lt_or_ge k j with h1 | h1
  · exact h.c k hk h1 hx
  · rcases hj with hj | hj
    · obtain ⟨k', hk', h2, h3⟩ := h.f hj
      refine (h3 (hx _ ?_)).elim
      rw [List.mem_take_iff_getElem]
      exact ⟨k', by omega, rfl⟩
    · omega
theorem rdH_sub {cells : List Value} {off : Nat} {a b c d e : Value} (h : rdH cells off 5 = some [a, b, c, d, e]) : rdH cells (off + 1) 4 = some [b, c, d, e] := by
  unfold rdH rdC at h ⊢
  split at h
  · rename_i hle
    rw [if_pos (by omega)]
    simp only [Option.some.injEq] at h ⊢
    have h2 : List.drop 1 (List.take 5 (List.drop off cells)) = [b, c, d, e] := by rw [h]; rfl
    rw [List.drop_take, List.drop_drop] at h2
    exact h2
  · cases h
end Go.Proofs.Ytafncpgiibikcaa

/- Next. -/
namespace Go.Proofs.Ytafncpgiibikcaa
set_option linter.unusedSimpArgs false
set_option linter.unusedVariables false
set_option maxRecDepth 20000
open Go.RowKit Am Ty

def NextB (g : Gram) (x : Item) (b : Nat) : Prop := ∃ r s, g.rules[x.rule]? = some r ∧ r.rhs[x.dot]? = some s ∧ s.nt < 0 ∧ s.set.has b = true
def NextR (g : Gram) (w : List Nat) (r : Value) : Prop := ∃ s : BSet, r = .tuple #[s.val, i64 (fitE g w)] ∧ SetWf s ∧ (fitE g w ≠ 0 → s = BSet.zero) ∧
  (fitE g w = 0 → ∃ m S, Marks g.nts (goodD g) m ∧ ChartOK (trG g m) w S ∧ ∀ b, b < 256 → (s.has b = true ↔ ∃ x ∈ gs S w.length, NextB (trG g m) x b))
set_option maxHeartbeats 4000000 in
theorem next_fw {h : Heap} {g : Gram} {v wv : Value} {w : List Nat} (hr : RdGram h v g) (hwR : RdB h wv w) (W : WfG g) : FW env 29 [v, wv] h fun r h' => NextR g w r ∧ h <+: h' := by
  obtain ⟨u, rfl, hu⟩ := id hr
  obtain ⟨p, c, rfl⟩ := hu.form
  obtain ⟨pw, cw, rfl⟩ := hwR.form
  refine fw_enter (fn := Try.f29) Try.func29 rfl (by kernel_rfl) (by simp [Try.ntmps29]) ?_; simp only [push_cast]
  repeat (first | refine cw_seq ?_ | refine cw_region ?_ | refine ow_nil ?_ | ((first | apply ow_cons | apply qw_cons); · simp only [push_cast, env, Nat.reduceEqDiff, reduceIte, Nat.reduceAdd, Nat.reduceMul, Nat.reduceLeDiff, reduceCtorEq, Nat.reduceSub, Int.reduceToNat] <;> exact rfl) | ((first | apply ow_spec | apply qw_spec); · simp only [push_cast, env, Nat.reduceEqDiff, reduceIte, Nat.reduceAdd, Nat.reduceMul, Nat.reduceLeDiff, reduceCtorEq, Nat.reduceSub, Int.reduceToNat] <;> exact rfl) | refine qw_nil ?_ | refine cw_block ?_ | refine cw_scope ?_ | refine cw_label ?_ | refine cw_skip ?_)
  refine ow_call (fn := Try.f36) (by simp only [push_cast, env, Nat.reduceEqDiff, reduceIte, Nat.reduceAdd, Nat.reduceMul, Nat.reduceLeDiff, reduceCtorEq, Nat.reduceSub, Int.reduceToNat] <;> exact rfl) rfl (by simp only [push_cast, env, Nat.reduceEqDiff, reduceIte, Nat.reduceAdd, Nat.reduceMul, Nat.reduceLeDiff, reduceCtorEq, Nat.reduceSub, Int.reduceToNat] <;> exact rfl) (by simp only [push_cast, env, Nat.reduceEqDiff, reduceIte, Nat.reduceAdd, Nat.reduceMul, Nat.reduceLeDiff, reduceCtorEq, Nat.reduceSub, Int.reduceToNat] <;> exact rfl) Try.func36 (by kernel_rfl) (by kernel_rfl) ?_
  rw [List.append_nil]
  refine (fit_fw hr hwR).mono ?_
  rintro _ h ⟨rfl, rfl⟩
  by_cases hf : ¬ fitE g w = 0
  · have df : decide (fitE g w = 0) = false := decide_eq_false hf
    repeat (first | refine cw_seq ?_ | refine cw_region ?_ | refine ow_nil ?_ | ((first | apply ow_cons | apply qw_cons); · simp only [push_cast, env, Nat.reduceEqDiff, reduceIte, Nat.reduceAdd, Nat.reduceMul, Nat.reduceLeDiff, reduceCtorEq, Nat.reduceSub, Int.reduceToNat, df] <;> exact rfl) | ((first | apply ow_spec | apply qw_spec); · simp only [push_cast, env, Nat.reduceEqDiff, reduceIte, Nat.reduceAdd, Nat.reduceMul, Nat.reduceLeDiff, reduceCtorEq, Nat.reduceSub, Int.reduceToNat, df] <;> exact rfl) | refine qw_nil ?_ | refine cw_block ?_ | refine cw_scope ?_ | refine cw_label ?_ | refine cw_skip ?_)
    refine cw_condT (by simp only [push_cast, env, Nat.reduceEqDiff, reduceIte, Nat.reduceAdd, Nat.reduceMul, Nat.reduceLeDiff, reduceCtorEq, Nat.reduceSub, Int.reduceToNat, df] <;> exact rfl) ?_
    repeat (first | refine cw_seq ?_ | refine cw_region ?_ | refine ow_nil ?_ | ((first | apply ow_cons | apply qw_cons); · simp only [push_cast, env, Nat.reduceEqDiff, reduceIte, Nat.reduceAdd, Nat.reduceMul, Nat.reduceLeDiff, reduceCtorEq, Nat.reduceSub, Int.reduceToNat] <;> exact rfl) | ((first | apply ow_spec | apply qw_spec); · simp only [push_cast, env, Nat.reduceEqDiff, reduceIte, Nat.reduceAdd, Nat.reduceMul, Nat.reduceLeDiff, reduceCtorEq, Nat.reduceSub, Int.reduceToNat] <;> exact rfl) | refine qw_nil ?_ | refine cw_block ?_ | refine cw_scope ?_ | refine cw_label ?_ | refine cw_skip ?_)
    refine cw_ret ?_
    exact ⟨_, (by simp only [push_cast, env, Nat.reduceEqDiff, reduceIte, Nat.reduceAdd, Nat.reduceMul, Nat.reduceLeDiff, reduceCtorEq, Nat.reduceSub, Int.reduceToNat] <;> exact rfl), ⟨BSet.zero, rfl, zero_wf, fun _ => rfl, fun h => absurd h hf⟩, List.prefix_refl _⟩
  replace hf : fitE g w = 0 := Classical.not_not.1 hf
  obtain ⟨hb, hw⟩ := fitE_ok.1 hf
  have R := rightS hb
  rw [hf]
  repeat (first | refine cw_seq ?_ | refine cw_region ?_ | refine ow_nil ?_ | ((first | apply ow_cons | apply qw_cons); · simp only [push_cast, env, Nat.reduceEqDiff, reduceIte, Nat.reduceAdd, Nat.reduceMul, Nat.reduceLeDiff, reduceCtorEq, Nat.reduceSub, Int.reduceToNat] <;> exact rfl) | ((first | apply ow_spec | apply qw_spec); · simp only [push_cast, env, Nat.reduceEqDiff, reduceIte, Nat.reduceAdd, Nat.reduceMul, Nat.reduceLeDiff, reduceCtorEq, Nat.reduceSub, Int.reduceToNat] <;> exact rfl) | refine qw_nil ?_ | refine cw_block ?_ | refine cw_scope ?_ | refine cw_label ?_ | refine cw_skip ?_)
  refine cw_condF (by simp only [push_cast, env, Nat.reduceEqDiff, reduceIte, Nat.reduceAdd, Nat.reduceMul, Nat.reduceLeDiff, reduceCtorEq, Nat.reduceSub, Int.reduceToNat] <;> exact rfl) ?_
  repeat (first | refine cw_seq ?_ | refine cw_region ?_ | refine ow_nil ?_ | ((first | apply ow_cons | apply qw_cons); · simp only [push_cast, env, Nat.reduceEqDiff, reduceIte, Nat.reduceAdd, Nat.reduceMul, Nat.reduceLeDiff, reduceCtorEq, Nat.reduceSub, Int.reduceToNat] <;> exact rfl) | ((first | apply ow_spec | apply qw_spec); · simp only [push_cast, env, Nat.reduceEqDiff, reduceIte, Nat.reduceAdd, Nat.reduceMul, Nat.reduceLeDiff, reduceCtorEq, Nat.reduceSub, Int.reduceToNat] <;> exact rfl) | refine qw_nil ?_ | refine cw_block ?_ | refine cw_scope ?_ | refine cw_label ?_ | refine cw_skip ?_)
  refine ow_call (fn := Try.f40) (by simp only [push_cast, env, Nat.reduceEqDiff, reduceIte, Nat.reduceAdd, Nat.reduceMul, Nat.reduceLeDiff, reduceCtorEq, Nat.reduceSub, Int.reduceToNat] <;> exact rfl) rfl (by simp only [push_cast, env, Nat.reduceEqDiff, reduceIte, Nat.reduceAdd, Nat.reduceMul, Nat.reduceLeDiff, reduceCtorEq, Nat.reduceSub, Int.reduceToNat] <;> exact rfl) (by simp only [push_cast, env, Nat.reduceEqDiff, reduceIte, Nat.reduceAdd, Nat.reduceMul, Nat.reduceLeDiff, reduceCtorEq, Nat.reduceSub, Int.reduceToNat] <;> exact rfl) Try.func40 (by kernel_rfl) (by kernel_rfl) ?_
  rw [List.append_nil]
  refine (trimmed_fw hr hb).mono ?_
  rintro v1 h1 ⟨m, hm, hr1, hp1⟩
  repeat (first | refine cw_seq ?_ | refine cw_region ?_ | refine ow_nil ?_ | ((first | apply ow_cons | apply qw_cons); · simp only [push_cast, env, Nat.reduceEqDiff, reduceIte, Nat.reduceAdd, Nat.reduceMul, Nat.reduceLeDiff, reduceCtorEq, Nat.reduceSub, Int.reduceToNat] <;> exact rfl) | ((first | apply ow_spec | apply qw_spec); · simp only [push_cast, env, Nat.reduceEqDiff, reduceIte, Nat.reduceAdd, Nat.reduceMul, Nat.reduceLeDiff, reduceCtorEq, Nat.reduceSub, Int.reduceToNat] <;> exact rfl) | refine qw_nil ?_ | refine cw_block ?_ | refine cw_scope ?_ | refine cw_label ?_ | refine cw_skip ?_)
  refine ow_call (fn := Try.f37) (by simp only [push_cast, env, Nat.reduceEqDiff, reduceIte, Nat.reduceAdd, Nat.reduceMul, Nat.reduceLeDiff, reduceCtorEq, Nat.reduceSub, Int.reduceToNat] <;> exact rfl) rfl (by simp only [push_cast, env, Nat.reduceEqDiff, reduceIte, Nat.reduceAdd, Nat.reduceMul, Nat.reduceLeDiff, reduceCtorEq, Nat.reduceSub, Int.reduceToNat] <;> exact rfl) (by simp only [push_cast, env, Nat.reduceEqDiff, reduceIte, Nat.reduceAdd, Nat.reduceMul, Nat.reduceLeDiff, reduceCtorEq, Nat.reduceSub, Int.reduceToNat] <;> exact rfl) Try.func37 (by kernel_rfl) (by kernel_rfl) ?_
  rw [List.append_nil]
  refine (open_fw hr1 (hwR.mono hp1) (rightS_tr R) (wfG_tr W) hw).mono ?_
  rintro _ h' ⟨hB, rv, F, G, rfl, rfl, K, C, hrv⟩
  have W1 := wfG_tr (m := m) W
  have R1 := rightS_tr (m := m) R
  generalize hg1 : trG g m = g1 at *
  have hSl := C.n
  have hnS : w.length < G.S.length := by omega
  obtain ⟨prv, crv, rfl⟩ := hrv.form
  have hc := K.c
  have hs := K.s
  unfold chCells at hc
  obtain ⟨u2, cu2, hu2, gu2⟩ := K.us_at hnS
  have f1 := rng hnS
  have hsm := C.small R1 hw (Nat.le_refl _)
  repeat (first | refine cw_seq ?_ | refine cw_region ?_ | refine ow_nil ?_ | ((first | apply ow_cons | apply qw_cons); · simp only [push_cast, env, Nat.reduceEqDiff, reduceIte, Nat.reduceAdd, Nat.reduceMul, Nat.reduceLeDiff, reduceCtorEq, Nat.reduceSub, Int.reduceToNat, hc, hs, hu2, f1, Nat.mul_one] <;> exact rfl) | ((first | apply ow_spec | apply qw_spec); · simp only [push_cast, env, Nat.reduceEqDiff, reduceIte, Nat.reduceAdd, Nat.reduceMul, Nat.reduceLeDiff, reduceCtorEq, Nat.reduceSub, Int.reduceToNat, hc, hs, hu2, f1, Nat.mul_one] <;> exact rfl) | refine qw_nil ?_ | refine cw_block ?_ | refine cw_scope ?_ | refine cw_label ?_ | refine cw_skip ?_)
  refine cw_forG (gs G.S w.length).length (fun i (s : BSet) => [(4, .box [u64 0, u64 0, u64 0, u64 0]), (7, .val (.pointer (some ⟨F.cp, 0, some 0⟩))), (8, .box [u64 s.a, u64 s.b, u64 s.c, u64 s.d]), (30, .val (.slice u2 (gs G.S w.length).length cu2)), (31, .val (i64 (gs G.S w.length).length)), (32, .val (i64 i))]) (fun _ _ => G.h)
    (fun i s => SetWf s ∧ ∀ b, b < 256 → (s.has b = true ↔ ∃ x ∈ (gs G.S w.length).take i, NextB g1 x b)) BSet.zero (by simp only [push_cast, SubL, fget, Nat.reduceEqDiff, reduceIte, BSet.zero]) rfl ⟨zero_wf, fun b _ => by rw [zero_has]; simp⟩ ?_
  rintro i s hi ⟨hsw, hI⟩
  by_cases hlt : i < (gs G.S w.length).length
  · have e2 := inc hlt (by omega)
    have e3 := lt_dec hlt
    have f2 := rng hlt
    obtain ⟨iu, vu, cu, hu3, hgu, hrdu⟩ := K.item_at hnS hlt
    rw [hu2] at hu3
    cases hu3
    generalize hy : (gs G.S w.length)[i] = y at hrdu
    have hym : y ∈ gs G.S w.length := hy ▸ List.getElem_mem hlt
    obtain ⟨ry, hry, hyd, _, hysq⟩ := ((C.m _ _).1 hym).sound
    obtain ⟨hyl, hye⟩ := List.getElem?_eq_some_iff.1 hry
    obtain ⟨id3, ver3, own3, c3, cells3, p3, n3, c4, hv3, hid3, hn3, hrd3, hu3⟩ := hrv.at hyl
    cases hv3
    subst hn3
    rw [hye] at hrd3 hu3
    have hid3' := getElem?_of_prefix K.p hid3
    have g2 := rng hyl
    have g1' := rdH_get (j := 1) hrd3 (by omega)
    simp only [List.getElem?_cons_succ, List.getElem?_cons_zero] at g1'
    repeat (first | refine cw_seq ?_ | refine cw_region ?_ | refine ow_nil ?_ | ((first | apply ow_cons | apply qw_cons); · simp only [push_cast, env, Nat.reduceEqDiff, reduceIte, Nat.reduceAdd, Nat.reduceMul, Nat.reduceLeDiff, reduceCtorEq, Nat.reduceSub, Int.reduceToNat, e3] <;> exact rfl) | ((first | apply ow_spec | apply qw_spec); · simp only [push_cast, env, Nat.reduceEqDiff, reduceIte, Nat.reduceAdd, Nat.reduceMul, Nat.reduceLeDiff, reduceCtorEq, Nat.reduceSub, Int.reduceToNat, e3] <;> exact rfl) | refine qw_nil ?_ | refine cw_block ?_ | refine cw_scope ?_ | refine cw_label ?_ | refine cw_skip ?_)
    refine cw_condT (by simp only [push_cast, env, Nat.reduceEqDiff, reduceIte, Nat.reduceAdd, Nat.reduceMul, Nat.reduceLeDiff, reduceCtorEq, Nat.reduceSub, Int.reduceToNat] <;> exact rfl) ?_
    repeat (first | refine cw_seq ?_ | refine cw_region ?_ | refine ow_nil ?_ | ((first | apply ow_cons | apply qw_cons); · simp only [push_cast, env, Nat.reduceEqDiff, reduceIte, Nat.reduceAdd, Nat.reduceMul, Nat.reduceLeDiff, reduceCtorEq, Nat.reduceSub, Int.reduceToNat, hgu, hrdu, f2] <;> exact rfl) | ((first | apply ow_spec | apply qw_spec); · simp only [push_cast, env, Nat.reduceEqDiff, reduceIte, Nat.reduceAdd, Nat.reduceMul, Nat.reduceLeDiff, reduceCtorEq, Nat.reduceSub, Int.reduceToNat, hgu, hrdu, f2] <;> exact rfl) | refine qw_nil ?_ | refine cw_block ?_ | refine cw_scope ?_ | refine cw_label ?_ | refine cw_skip ?_)
    refine cw_regionD 10 mixed (by kernel_rfl) ?_
    by_cases hdl : y.dot < ry.rhs.length
    · have d1 : decide ((y.dot : Int) < (ry.rhs.length : Int)) = true := lt_dec hdl
      obtain ⟨id4, ver4, own4, c5, cells4, hv4, hid4, hrd4⟩ := hu3.at hdl
      cases hv4
      have hid4' := getElem?_of_prefix K.p hid4
      have g4 := rdH_get0 hrd4 (by omega)
      simp only [List.getElem?_cons_zero] at g4
      have g5 := rng hdl
      have hsy : ry.rhs[y.dot]? = some ry.rhs[y.dot] := List.getElem?_eq_getElem hdl
      have hws := W1 _ (List.mem_of_getElem? hry) _ (List.mem_of_getElem? hsy)
      have g6 := rdH_sub hrd4
      repeat (first | refine cw_seq ?_ | refine cw_region ?_ | refine ow_nil ?_ | ((first | apply ow_cons | apply qw_cons); · simp only [push_cast, env, Nat.reduceEqDiff, reduceIte, Nat.reduceAdd, Nat.reduceMul, Nat.reduceLeDiff, reduceCtorEq, Nat.reduceSub, Int.reduceToNat, hc, hid3', g1', g2, d1, hid4', g4, g5, Nat.mul_one] <;> exact rfl) | ((first | apply ow_spec | apply qw_spec); · simp only [push_cast, env, Nat.reduceEqDiff, reduceIte, Nat.reduceAdd, Nat.reduceMul, Nat.reduceLeDiff, reduceCtorEq, Nat.reduceSub, Int.reduceToNat, hc, hid3', g1', g2, d1, hid4', g4, g5, Nat.mul_one] <;> exact rfl) | refine qw_nil ?_ | refine cw_block ?_ | refine cw_scope ?_ | refine cw_label ?_ | refine cw_skip ?_)
      refine cw_cond (by simp only [push_cast, env, Nat.reduceEqDiff, reduceIte, Nat.reduceAdd, Nat.reduceMul, Nat.reduceLeDiff, reduceCtorEq, Nat.reduceSub, Int.reduceToNat] <;> exact rfl) (fun c1 => ?_) (fun c1 => ?_)
      · have c1' : ry.rhs[y.dot].nt < 0 := by simpa using c1
        repeat (first | refine cw_seq ?_ | refine cw_region ?_ | refine ow_nil ?_ | ((first | apply ow_cons | apply qw_cons); · simp only [push_cast, env, Nat.reduceEqDiff, reduceIte, Nat.reduceAdd, Nat.reduceMul, Nat.reduceLeDiff, reduceCtorEq, Nat.reduceSub, Int.reduceToNat] <;> exact rfl) | ((first | apply ow_spec | apply qw_spec); · simp only [push_cast, env, Nat.reduceEqDiff, reduceIte, Nat.reduceAdd, Nat.reduceMul, Nat.reduceLeDiff, reduceCtorEq, Nat.reduceSub, Int.reduceToNat] <;> exact rfl) | refine qw_nil ?_ | refine cw_block ?_ | refine cw_scope ?_ | refine cw_label ?_ | refine cw_skip ?_)
        refine cw_regionD 7 mixed (by kernel_rfl) ?_
        repeat (first | refine cw_seq ?_ | refine cw_region ?_ | refine ow_nil ?_ | ((first | apply ow_cons | apply qw_cons); · simp only [push_cast, env, Nat.reduceEqDiff, reduceIte, Nat.reduceAdd, Nat.reduceMul, Nat.reduceLeDiff, reduceCtorEq, Nat.reduceSub, Int.reduceToNat, hid4', g4, g5, g6, Nat.mul_one] <;> exact rfl) | ((first | apply ow_spec | apply qw_spec); · simp only [push_cast, env, Nat.reduceEqDiff, reduceIte, Nat.reduceAdd, Nat.reduceMul, Nat.reduceLeDiff, reduceCtorEq, Nat.reduceSub, Int.reduceToNat, hid4', g4, g5, g6, Nat.mul_one] <;> exact rfl) | refine qw_nil ?_ | refine cw_block ?_ | refine cw_scope ?_ | refine cw_label ?_ | refine cw_skip ?_)
        refine ow_call (fn := Try.f48) (by simp only [push_cast, env, Nat.reduceEqDiff, reduceIte, Nat.reduceAdd, Nat.reduceMul, Nat.reduceLeDiff, reduceCtorEq, Nat.reduceSub, Int.reduceToNat] <;> exact rfl) rfl (by simp only [push_cast, env, Nat.reduceEqDiff, reduceIte, Nat.reduceAdd, Nat.reduceMul, Nat.reduceLeDiff, reduceCtorEq, Nat.reduceSub, Int.reduceToNat] <;> exact rfl) (by simp only [push_cast, env, Nat.reduceEqDiff, reduceIte, Nat.reduceAdd, Nat.reduceMul, Nat.reduceLeDiff, reduceCtorEq, Nat.reduceSub, Int.reduceToNat] <;> exact rfl) Try.func48 (by kernel_rfl) (by kernel_rfl) ?_
        rw [List.append_nil]
        refine (union_fw hsw hws).mono ?_
        rintro _ _ ⟨rfl, rfl⟩
        repeat (first | refine cw_seq ?_ | refine cw_region ?_ | refine ow_nil ?_ | ((first | apply ow_cons | apply qw_cons); · simp only [push_cast, env, Nat.reduceEqDiff, reduceIte, Nat.reduceAdd, Nat.reduceMul, Nat.reduceLeDiff, reduceCtorEq, Nat.reduceSub, Int.reduceToNat, e2] <;> exact rfl) | ((first | apply ow_spec | apply qw_spec); · simp only [push_cast, env, Nat.reduceEqDiff, reduceIte, Nat.reduceAdd, Nat.reduceMul, Nat.reduceLeDiff, reduceCtorEq, Nat.reduceSub, Int.reduceToNat, e2] <;> exact rfl) | refine qw_nil ?_ | refine cw_block ?_ | refine cw_scope ?_ | refine cw_label ?_ | refine cw_skip ?_)
        refine ⟨hlt, s.union ry.rhs[y.dot].set, (by simp only [push_cast, SubL, fget, Nat.reduceEqDiff, reduceIte, BSet.union]), rfl, union_wf hsw hws, fun b hb => ?_⟩
        rw [union_has, Bool.or_eq_true, hI b hb, List.take_succ_eq_append_getElem hlt, hy]
        constructor
        · rintro (⟨x, hx, hn⟩ | hn)
          · exact ⟨x, List.mem_append.2 (.inl hx), hn⟩
          · exact ⟨y, List.mem_append.2 (.inr (List.mem_singleton.2 rfl)), ry, _, hry, hsy, c1', hn⟩
        · rintro ⟨x, hx, hn⟩
          rw [List.mem_append, List.mem_singleton] at hx
          rcases hx with hx | rfl
          · exact .inl ⟨x, hx, hn⟩
          · obtain ⟨r', s', w1, w2, w3, w4⟩ := hn
            obtain rfl : ry = r' := Option.some.inj (hry.symm.trans w1)
            rw [hsy] at w2
            cases w2
            exact .inr w4
      · have c1' : ¬ ry.rhs[y.dot].nt < 0 := by simpa using c1
        have hno : ∀ s', ry.rhs[y.dot]? = some s' → s'.nt < 0 → False := fun s' h1 h2 => by rw [hsy] at h1; cases h1; exact c1' h2
        repeat (first | refine cw_seq ?_ | refine cw_region ?_ | refine ow_nil ?_ | ((first | apply ow_cons | apply qw_cons); · simp only [push_cast, env, Nat.reduceEqDiff, reduceIte, Nat.reduceAdd, Nat.reduceMul, Nat.reduceLeDiff, reduceCtorEq, Nat.reduceSub, Int.reduceToNat, e2] <;> exact rfl) | ((first | apply ow_spec | apply qw_spec); · simp only [push_cast, env, Nat.reduceEqDiff, reduceIte, Nat.reduceAdd, Nat.reduceMul, Nat.reduceLeDiff, reduceCtorEq, Nat.reduceSub, Int.reduceToNat, e2] <;> exact rfl) | refine qw_nil ?_ | refine cw_block ?_ | refine cw_scope ?_ | refine cw_label ?_ | refine cw_skip ?_)
        refine ⟨hlt, s, (by simp only [push_cast, SubL, fget, Nat.reduceEqDiff, reduceIte]), rfl, hsw, fun b hb => ?_⟩
        rw [hI b hb, List.take_succ_eq_append_getElem hlt, hy]
        constructor
        · rintro ⟨x, hx, hn⟩
          exact ⟨x, List.mem_append.2 (.inl hx), hn⟩
        · rintro ⟨x, hx, hn⟩
          rw [List.mem_append, List.mem_singleton] at hx
          rcases hx with hx | rfl
          · exact ⟨x, hx, hn⟩
          · obtain ⟨r', s', w1, w2, w3, w4⟩ := hn
            obtain rfl : ry = r' := Option.some.inj (hry.symm.trans w1)
            exact (hno s' w2 w3).elim
    · have d1 : decide ((y.dot : Int) < (ry.rhs.length : Int)) = false := ge_dec hdl
      repeat (first | refine cw_seq ?_ | refine cw_region ?_ | refine ow_nil ?_ | ((first | apply ow_cons | apply qw_cons); · simp only [push_cast, env, Nat.reduceEqDiff, reduceIte, Nat.reduceAdd, Nat.reduceMul, Nat.reduceLeDiff, reduceCtorEq, Nat.reduceSub, Int.reduceToNat, hc, hid3', g1', g2, d1, Nat.mul_one] <;> exact rfl) | ((first | apply ow_spec | apply qw_spec); · simp only [push_cast, env, Nat.reduceEqDiff, reduceIte, Nat.reduceAdd, Nat.reduceMul, Nat.reduceLeDiff, reduceCtorEq, Nat.reduceSub, Int.reduceToNat, hc, hid3', g1', g2, d1, Nat.mul_one] <;> exact rfl) | refine qw_nil ?_ | refine cw_block ?_ | refine cw_scope ?_ | refine cw_label ?_ | refine cw_skip ?_)
      refine cw_condF (by simp only [push_cast, env, Nat.reduceEqDiff, reduceIte, Nat.reduceAdd, Nat.reduceMul, Nat.reduceLeDiff, reduceCtorEq, Nat.reduceSub, Int.reduceToNat] <;> exact rfl) ?_
      have hno : ∀ s', ry.rhs[y.dot]? = some s' → s'.nt < 0 → False := fun s' h1 h2 => hdl (List.getElem?_eq_some_iff.1 h1).1
      repeat (first | refine cw_seq ?_ | refine cw_region ?_ | refine ow_nil ?_ | ((first | apply ow_cons | apply qw_cons); · simp only [push_cast, env, Nat.reduceEqDiff, reduceIte, Nat.reduceAdd, Nat.reduceMul, Nat.reduceLeDiff, reduceCtorEq, Nat.reduceSub, Int.reduceToNat, e2] <;> exact rfl) | ((first | apply ow_spec | apply qw_spec); · simp only [push_cast, env, Nat.reduceEqDiff, reduceIte, Nat.reduceAdd, Nat.reduceMul, Nat.reduceLeDiff, reduceCtorEq, Nat.reduceSub, Int.reduceToNat, e2] <;> exact rfl) | refine qw_nil ?_ | refine cw_block ?_ | refine cw_scope ?_ | refine cw_label ?_ | refine cw_skip ?_)
      refine ⟨hlt, s, (by simp only [push_cast, SubL, fget, Nat.reduceEqDiff, reduceIte]), rfl, hsw, fun b hb => ?_⟩
      rw [hI b hb, List.take_succ_eq_append_getElem hlt, hy]
      constructor
      · rintro ⟨x, hx, hn⟩
        exact ⟨x, List.mem_append.2 (.inl hx), hn⟩
      · rintro ⟨x, hx, hn⟩
        rw [List.mem_append, List.mem_singleton] at hx
        rcases hx with hx | rfl
        · exact ⟨x, hx, hn⟩
        · obtain ⟨r', s', w1, w2, w3, w4⟩ := hn
          obtain rfl : ry = r' := Option.some.inj (hry.symm.trans w1)
          exact (hno s' w2 w3).elim
  · have e3 := ge_dec hlt
    obtain rfl : i = (gs G.S w.length).length := by omega
    repeat (first | refine cw_seq ?_ | refine cw_region ?_ | refine ow_nil ?_ | ((first | apply ow_cons | apply qw_cons); · simp only [push_cast, env, Nat.reduceEqDiff, reduceIte, Nat.reduceAdd, Nat.reduceMul, Nat.reduceLeDiff, reduceCtorEq, Nat.reduceSub, Int.reduceToNat, e3] <;> exact rfl) | ((first | apply ow_spec | apply qw_spec); · simp only [push_cast, env, Nat.reduceEqDiff, reduceIte, Nat.reduceAdd, Nat.reduceMul, Nat.reduceLeDiff, reduceCtorEq, Nat.reduceSub, Int.reduceToNat, e3] <;> exact rfl) | refine qw_nil ?_ | refine cw_block ?_ | refine cw_scope ?_ | refine cw_label ?_ | refine cw_skip ?_)
    refine cw_condF (by simp only [push_cast, env, Nat.reduceEqDiff, reduceIte, Nat.reduceAdd, Nat.reduceMul, Nat.reduceLeDiff, reduceCtorEq, Nat.reduceSub, Int.reduceToNat] <;> exact rfl) ?_
    refine cw_exit ?_
    show CW _ _ _ _
    rw [List.take_length] at hI
    repeat (first | refine cw_seq ?_ | refine cw_region ?_ | refine ow_nil ?_ | ((first | apply ow_cons | apply qw_cons); · simp only [push_cast, env, Nat.reduceEqDiff, reduceIte, Nat.reduceAdd, Nat.reduceMul, Nat.reduceLeDiff, reduceCtorEq, Nat.reduceSub, Int.reduceToNat] <;> exact rfl) | ((first | apply ow_spec | apply qw_spec); · simp only [push_cast, env, Nat.reduceEqDiff, reduceIte, Nat.reduceAdd, Nat.reduceMul, Nat.reduceLeDiff, reduceCtorEq, Nat.reduceSub, Int.reduceToNat] <;> exact rfl) | refine qw_nil ?_ | refine cw_block ?_ | refine cw_scope ?_ | refine cw_label ?_ | refine cw_skip ?_)
    refine cw_ret ?_
    exact ⟨_, (by simp only [push_cast, env, Nat.reduceEqDiff, reduceIte, Nat.reduceAdd, Nat.reduceMul, Nat.reduceLeDiff, reduceCtorEq, Nat.reduceSub, Int.reduceToNat] <;> exact rfl), ⟨s, by rw [hf]; rfl, hsw, fun h => absurd hf h, fun _ => ⟨m, G.S, hm, hg1 ▸ C, fun b hb => hg1 ▸ hI b hb⟩⟩, hp1.trans K.p⟩
end Go.Proofs.Ytafncpgiibikcaa

/- Spans. -/
namespace Go.Proofs.Ytafncpgiibikcaa
set_option linter.unusedSimpArgs false
set_option linter.unusedVariables false
set_option maxRecDepth 20000
open Go.RowKit Am Ty

abbrev ptr0 (a : Nat) : Value := .pointer (some ⟨a, 0, some 0⟩)
def RdItems (h : Heap) (v : Value) (l : List Item) : Prop := SlR h v l.length (l.flatMap Item.cells) 57 24
/-- what the closure sees -/
structure SpC (h : Heap) (g : Gram) (nt : Int) (a b : Nat) : Prop where
  a : ∃ st p c, h[a]? = some (.arr [i64 g.nts, i64 st, .slice p g.rules.length c] 0 true 24) ∧ RdRules h (.slice p g.rules.length c) g.rules
  b : h[b]? = some (.arr [i64 nt] 0 true 3)
theorem SpC.mono {h h' : Heap} {g : Gram} {nt : Int} {a b : Nat} (s : SpC h g nt a b) (hp : h <+: h') : SpC h' g nt a b := by
  obtain ⟨⟨st, p, c, h1, h2⟩, h3⟩ := s
  exact ⟨⟨st, p, c, getElem?_of_prefix hp h1, h2.mono hp⟩, getElem?_of_prefix hp h3⟩
set_option maxHeartbeats 2000000 in
theorem spans1_fw {h : Heap} {g : Gram} {nt : Int} {a b : Nat} {x : Item} (hC : SpC h g nt a b) (hx : x.rule < g.rules.length) : FW env 42 [x.val, ptr0 a, ptr0 b] h fun r h' => r = .bool (accI g nt x) ∧ h' = h := by
  obtain ⟨⟨st, p, c, ha, hu⟩, hb⟩ := hC
  obtain ⟨id3, ver3, own3, c3, cells3, p3, n3, c4, hv3, hid3, hn3, hrd3, hu3⟩ := hu.at hx
  cases hv3
  subst hn3
  have g2 := rng hx
  have hry : g.rules[x.rule]? = some g.rules[x.rule] := List.getElem?_eq_getElem hx
  have hac : accI g nt x = (decide (g.rules[x.rule].lhs = nt) && decide ((x.frm : Int) = 0) && decide ((x.dot : Int) = (g.rules[x.rule].rhs.length : Int))) := by
    unfold accI
    rw [hry]
    simp only
    rw [Bool.and_assoc, show decide ((x.frm : Int) = 0) = decide (x.frm = 0) by rw [decide_eq_decide]; omega, show decide ((x.dot : Int) = (g.rules[x.rule].rhs.length : Int)) = decide (x.dot = g.rules[x.rule].rhs.length) by rw [decide_eq_decide]; omega]
  rw [hac]
  refine fw_enter (fn := Try.f42) Try.func42 rfl (by kernel_rfl) (by simp [Try.ntmps42]) ?_; simp only [push_cast]
  repeat (first | refine cw_seq ?_ | refine cw_region ?_ | refine ow_nil ?_ | ((first | apply ow_cons | apply qw_cons); · simp only [push_cast, env, Nat.reduceEqDiff, reduceIte, Nat.reduceAdd, Nat.reduceMul, Nat.reduceLeDiff, reduceCtorEq, Nat.reduceSub, Int.reduceToNat, ha, hb, hid3, hrd3, g2] <;> exact rfl) | ((first | apply ow_spec | apply qw_spec); · simp only [push_cast, env, Nat.reduceEqDiff, reduceIte, Nat.reduceAdd, Nat.reduceMul, Nat.reduceLeDiff, reduceCtorEq, Nat.reduceSub, Int.reduceToNat, ha, hb, hid3, hrd3, g2] <;> exact rfl) | refine qw_nil ?_ | refine cw_block ?_ | refine cw_scope ?_ | refine cw_label ?_ | refine cw_skip ?_)
  refine cw_ret ?_
  exact ⟨_, (by simp only [push_cast, env, Nat.reduceEqDiff, reduceIte, Nat.reduceAdd, Nat.reduceMul, Nat.reduceLeDiff, reduceCtorEq, Nat.reduceSub, Int.reduceToNat] <;> exact rfl), rfl, rfl⟩
set_option maxHeartbeats 2000000 in
theorem index_fw {h : Heap} {g : Gram} {nt : Int} {a b : Nat} {v : Value} {l : List Item} (hC : SpC h g nt a b) (hl : RdItems h v l) (hx : ∀ x ∈ l, x.rule < g.rules.length) :
    FW env 56 [v, .func (.func 42) #[] #[ptr0 a, ptr0 b]] h fun r h' => (∃ n : Int, r = i64 n ∧ (decide (0 ≤ n) = l.any (accI g nt))) ∧ h' = h := by
  obtain ⟨p, c, rfl⟩ := SlR.form hl
  have hle : l.length ≤ 140737488355328 := by have := hl.1; omega
  refine fw_enter (fn := Try.f56) Try.func56 rfl (by kernel_rfl) (by simp [Try.ntmps56]) ?_; simp only [push_cast]
  repeat (first | refine cw_seq ?_ | refine cw_region ?_ | refine ow_nil ?_ | ((first | apply ow_cons | apply qw_cons); · simp only [push_cast, env, Nat.reduceEqDiff, reduceIte, Nat.reduceAdd, Nat.reduceMul, Nat.reduceLeDiff, reduceCtorEq, Nat.reduceSub, Int.reduceToNat] <;> exact rfl) | ((first | apply ow_spec | apply qw_spec); · simp only [push_cast, env, Nat.reduceEqDiff, reduceIte, Nat.reduceAdd, Nat.reduceMul, Nat.reduceLeDiff, reduceCtorEq, Nat.reduceSub, Int.reduceToNat] <;> exact rfl) | refine qw_nil ?_ | refine cw_block ?_ | refine cw_scope ?_ | refine cw_label ?_ | refine cw_skip ?_)
  refine cw_for l.length (fun k => [(0, .val (.slice p l.length c)), (1, .val (.func (.func 42) #[] #[ptr0 a, ptr0 b])), (7, .val (i64 l.length)), (8, .val (i64 k))]) (fun _ => h) (fun k => ∀ x ∈ l.take k, accI g nt x = false) (by simp only [push_cast, SubL, fget, Nat.reduceEqDiff, reduceIte]) rfl (fun x hx => by simp at hx) ?_
  intro k hk hI
  by_cases hlt : k < l.length
  · have e1 := rng hlt
    have e2 := inc hlt (by omega)
    have e3 := lt_dec hlt
    obtain ⟨id, ver, own, c', hv, hid⟩ := SlR.at hl (by omega)
    cases hv
    have hrd := rdH_flatMap (f := Item.cells) (k := 3) (fun _ => rfl) l k l[k] (by simp [hlt])
    unfold Item.cells at hrd hid
    have hm : l[k] ∈ l := List.getElem_mem hlt
    generalize hy : l[k] = y at hrd hm
    repeat (first | refine cw_seq ?_ | refine cw_region ?_ | refine ow_nil ?_ | ((first | apply ow_cons | apply qw_cons); · simp only [push_cast, env, Nat.reduceEqDiff, reduceIte, Nat.reduceAdd, Nat.reduceMul, Nat.reduceLeDiff, reduceCtorEq, Nat.reduceSub, Int.reduceToNat, e3] <;> exact rfl) | ((first | apply ow_spec | apply qw_spec); · simp only [push_cast, env, Nat.reduceEqDiff, reduceIte, Nat.reduceAdd, Nat.reduceMul, Nat.reduceLeDiff, reduceCtorEq, Nat.reduceSub, Int.reduceToNat, e3] <;> exact rfl) | refine qw_nil ?_ | refine cw_block ?_ | refine cw_scope ?_ | refine cw_label ?_ | refine cw_skip ?_)
    refine cw_condT (by simp only [push_cast, env, Nat.reduceEqDiff, reduceIte, Nat.reduceAdd, Nat.reduceMul, Nat.reduceLeDiff, reduceCtorEq, Nat.reduceSub, Int.reduceToNat] <;> exact rfl) ?_
    repeat (first | refine cw_seq ?_ | refine cw_region ?_ | refine ow_nil ?_ | ((first | apply ow_cons | apply qw_cons); · simp only [push_cast, env, Nat.reduceEqDiff, reduceIte, Nat.reduceAdd, Nat.reduceMul, Nat.reduceLeDiff, reduceCtorEq, Nat.reduceSub, Int.reduceToNat, e1, hid, hrd] <;> exact rfl) | ((first | apply ow_spec | apply qw_spec); · simp only [push_cast, env, Nat.reduceEqDiff, reduceIte, Nat.reduceAdd, Nat.reduceMul, Nat.reduceLeDiff, reduceCtorEq, Nat.reduceSub, Int.reduceToNat, e1, hid, hrd] <;> exact rfl) | refine qw_nil ?_ | refine cw_block ?_ | refine cw_scope ?_ | refine cw_label ?_ | refine cw_skip ?_)
    refine ow_call (fn := Try.f42) (by simp only [push_cast, env, Nat.reduceEqDiff, reduceIte, Nat.reduceAdd, Nat.reduceMul, Nat.reduceLeDiff, reduceCtorEq, Nat.reduceSub, Int.reduceToNat] <;> exact rfl) rfl (by simp only [push_cast, env, Nat.reduceEqDiff, reduceIte, Nat.reduceAdd, Nat.reduceMul, Nat.reduceLeDiff, reduceCtorEq, Nat.reduceSub, Int.reduceToNat] <;> exact rfl) (by simp only [push_cast, env, Nat.reduceEqDiff, reduceIte, Nat.reduceAdd, Nat.reduceMul, Nat.reduceLeDiff, reduceCtorEq, Nat.reduceSub, Int.reduceToNat] <;> exact rfl) Try.func42 (by kernel_rfl) (by kernel_rfl) ?_
    refine (spans1_fw (x := y) hC (hx y hm)).mono ?_
    rintro _ h ⟨rfl, rfl⟩
    repeat (first | refine cw_seq ?_ | refine cw_region ?_ | refine ow_nil ?_ | ((first | apply ow_cons | apply qw_cons); · simp only [push_cast, env, Nat.reduceEqDiff, reduceIte, Nat.reduceAdd, Nat.reduceMul, Nat.reduceLeDiff, reduceCtorEq, Nat.reduceSub, Int.reduceToNat] <;> exact rfl) | ((first | apply ow_spec | apply qw_spec); · simp only [push_cast, env, Nat.reduceEqDiff, reduceIte, Nat.reduceAdd, Nat.reduceMul, Nat.reduceLeDiff, reduceCtorEq, Nat.reduceSub, Int.reduceToNat] <;> exact rfl) | refine qw_nil ?_ | refine cw_block ?_ | refine cw_scope ?_ | refine cw_label ?_ | refine cw_skip ?_)
    refine cw_cond (by simp only [push_cast, env, Nat.reduceEqDiff, reduceIte, Nat.reduceAdd, Nat.reduceMul, Nat.reduceLeDiff, reduceCtorEq, Nat.reduceSub, Int.reduceToNat] <;> exact rfl) (fun c1 => ?_) (fun c1 => ?_)
    · repeat (first | refine cw_seq ?_ | refine cw_region ?_ | refine ow_nil ?_ | ((first | apply ow_cons | apply qw_cons); · simp only [push_cast, env, Nat.reduceEqDiff, reduceIte, Nat.reduceAdd, Nat.reduceMul, Nat.reduceLeDiff, reduceCtorEq, Nat.reduceSub, Int.reduceToNat] <;> exact rfl) | ((first | apply ow_spec | apply qw_spec); · simp only [push_cast, env, Nat.reduceEqDiff, reduceIte, Nat.reduceAdd, Nat.reduceMul, Nat.reduceLeDiff, reduceCtorEq, Nat.reduceSub, Int.reduceToNat] <;> exact rfl) | refine qw_nil ?_ | refine cw_block ?_ | refine cw_scope ?_ | refine cw_label ?_ | refine cw_skip ?_)
      refine cw_ret ?_
      refine ⟨_, (by simp only [push_cast, env, Nat.reduceEqDiff, reduceIte, Nat.reduceAdd, Nat.reduceMul, Nat.reduceLeDiff, reduceCtorEq, Nat.reduceSub, Int.reduceToNat] <;> exact rfl), ⟨k, rfl, ?_⟩, rfl⟩
      rw [decide_eq_true (Int.natCast_nonneg k), eq_comm, List.any_eq_true]
      exact ⟨y, hm, c1⟩
    · repeat (first | refine cw_seq ?_ | refine cw_region ?_ | refine ow_nil ?_ | ((first | apply ow_cons | apply qw_cons); · simp only [push_cast, env, Nat.reduceEqDiff, reduceIte, Nat.reduceAdd, Nat.reduceMul, Nat.reduceLeDiff, reduceCtorEq, Nat.reduceSub, Int.reduceToNat, e2] <;> exact rfl) | ((first | apply ow_spec | apply qw_spec); · simp only [push_cast, env, Nat.reduceEqDiff, reduceIte, Nat.reduceAdd, Nat.reduceMul, Nat.reduceLeDiff, reduceCtorEq, Nat.reduceSub, Int.reduceToNat, e2] <;> exact rfl) | refine qw_nil ?_ | refine cw_block ?_ | refine cw_scope ?_ | refine cw_label ?_ | refine cw_skip ?_)
      refine ⟨hlt, (by simp only [push_cast, SubL, fget, Nat.reduceEqDiff, reduceIte]), rfl, fun x hx => ?_⟩
      rw [List.take_succ_eq_append_getElem hlt, List.mem_append, List.mem_singleton] at hx
      rcases hx with hx | rfl
      · exact hI x hx
      · rw [hy]; exact c1
  · have e3 := ge_dec hlt
    obtain rfl : k = l.length := by omega
    repeat (first | refine cw_seq ?_ | refine cw_region ?_ | refine ow_nil ?_ | ((first | apply ow_cons | apply qw_cons); · simp only [push_cast, env, Nat.reduceEqDiff, reduceIte, Nat.reduceAdd, Nat.reduceMul, Nat.reduceLeDiff, reduceCtorEq, Nat.reduceSub, Int.reduceToNat, e3] <;> exact rfl) | ((first | apply ow_spec | apply qw_spec); · simp only [push_cast, env, Nat.reduceEqDiff, reduceIte, Nat.reduceAdd, Nat.reduceMul, Nat.reduceLeDiff, reduceCtorEq, Nat.reduceSub, Int.reduceToNat, e3] <;> exact rfl) | refine qw_nil ?_ | refine cw_block ?_ | refine cw_scope ?_ | refine cw_label ?_ | refine cw_skip ?_)
    refine cw_condF (by simp only [push_cast, env, Nat.reduceEqDiff, reduceIte, Nat.reduceAdd, Nat.reduceMul, Nat.reduceLeDiff, reduceCtorEq, Nat.reduceSub, Int.reduceToNat] <;> exact rfl) ?_
    refine cw_exit ?_
    show CW _ _ _ _
    rw [List.take_length] at hI
    repeat (first | refine cw_seq ?_ | refine cw_region ?_ | refine ow_nil ?_ | ((first | apply ow_cons | apply qw_cons); · simp only [push_cast, env, Nat.reduceEqDiff, reduceIte, Nat.reduceAdd, Nat.reduceMul, Nat.reduceLeDiff, reduceCtorEq, Nat.reduceSub, Int.reduceToNat] <;> exact rfl) | ((first | apply ow_spec | apply qw_spec); · simp only [push_cast, env, Nat.reduceEqDiff, reduceIte, Nat.reduceAdd, Nat.reduceMul, Nat.reduceLeDiff, reduceCtorEq, Nat.reduceSub, Int.reduceToNat] <;> exact rfl) | refine qw_nil ?_ | refine cw_block ?_ | refine cw_scope ?_ | refine cw_label ?_ | refine cw_skip ?_)
    refine cw_ret ?_
    refine ⟨_, (by simp only [push_cast, env, Nat.reduceEqDiff, reduceIte, Nat.reduceAdd, Nat.reduceMul, Nat.reduceLeDiff, reduceCtorEq, Nat.reduceSub, Int.reduceToNat] <;> exact rfl), ⟨-1, rfl, ?_⟩, rfl⟩
    rw [decide_eq_false (by omega), eq_comm, List.any_eq_false]
    exact fun x hx => by rw [hI x hx]; simp
theorem contains_fw {h : Heap} {g : Gram} {nt : Int} {a b : Nat} {v : Value} {l : List Item} (hC : SpC h g nt a b) (hl : RdItems h v l) (hx : ∀ x ∈ l, x.rule < g.rules.length) :
    FW env 41 [v, .func (.func 42) #[] #[ptr0 a, ptr0 b]] h fun r h' => r = .bool (l.any (accI g nt)) ∧ h' = h := by
  obtain ⟨p, c, rfl⟩ := SlR.form hl
  refine fw_enter (fn := Try.f41) Try.func41 rfl (by kernel_rfl) (by simp [Try.ntmps41]) ?_; simp only [push_cast]
  repeat (first | refine cw_seq ?_ | refine cw_region ?_ | refine ow_nil ?_ | ((first | apply ow_cons | apply qw_cons); · simp only [push_cast, env, Nat.reduceEqDiff, reduceIte, Nat.reduceAdd, Nat.reduceMul, Nat.reduceLeDiff, reduceCtorEq, Nat.reduceSub, Int.reduceToNat] <;> exact rfl) | ((first | apply ow_spec | apply qw_spec); · simp only [push_cast, env, Nat.reduceEqDiff, reduceIte, Nat.reduceAdd, Nat.reduceMul, Nat.reduceLeDiff, reduceCtorEq, Nat.reduceSub, Int.reduceToNat] <;> exact rfl) | refine qw_nil ?_ | refine cw_block ?_ | refine cw_scope ?_ | refine cw_label ?_ | refine cw_skip ?_)
  refine ow_call (fn := Try.f56) (by simp only [push_cast, env, Nat.reduceEqDiff, reduceIte, Nat.reduceAdd, Nat.reduceMul, Nat.reduceLeDiff, reduceCtorEq, Nat.reduceSub, Int.reduceToNat] <;> exact rfl) rfl (by simp only [push_cast, env, Nat.reduceEqDiff, reduceIte, Nat.reduceAdd, Nat.reduceMul, Nat.reduceLeDiff, reduceCtorEq, Nat.reduceSub, Int.reduceToNat] <;> exact rfl) (by simp only [push_cast, env, Nat.reduceEqDiff, reduceIte, Nat.reduceAdd, Nat.reduceMul, Nat.reduceLeDiff, reduceCtorEq, Nat.reduceSub, Int.reduceToNat] <;> exact rfl) Try.func56 (by kernel_rfl) (by kernel_rfl) ?_
  rw [List.append_nil]
  refine (index_fw hC hl hx).mono ?_
  rintro _ h ⟨⟨n, rfl, hn⟩, rfl⟩
  repeat (first | refine cw_seq ?_ | refine cw_region ?_ | refine ow_nil ?_ | ((first | apply ow_cons | apply qw_cons); · simp only [push_cast, env, Nat.reduceEqDiff, reduceIte, Nat.reduceAdd, Nat.reduceMul, Nat.reduceLeDiff, reduceCtorEq, Nat.reduceSub, Int.reduceToNat, hn] <;> exact rfl) | ((first | apply ow_spec | apply qw_spec); · simp only [push_cast, env, Nat.reduceEqDiff, reduceIte, Nat.reduceAdd, Nat.reduceMul, Nat.reduceLeDiff, reduceCtorEq, Nat.reduceSub, Int.reduceToNat, hn] <;> exact rfl) | refine qw_nil ?_ | refine cw_block ?_ | refine cw_scope ?_ | refine cw_label ?_ | refine cw_skip ?_)
  refine cw_ret ?_
  exact ⟨_, (by simp only [push_cast, env, Nat.reduceEqDiff, reduceIte, Nat.reduceAdd, Nat.reduceMul, Nat.reduceLeDiff, reduceCtorEq, Nat.reduceSub, Int.reduceToNat] <;> exact rfl), rfl, rfl⟩
/-! ### runs -/
def runCells (l : List (Nat × Nat)) : List Value := l.flatMap fun p => [i64 p.1, i64 p.2]
open Classical in
noncomputable def ntB (R : List Rule) (A : Int) (w : List Nat) (i j : Nat) : Bool := decide (NtTx R A (sub w i j))
open Classical in
theorem ntB_iff {R : List Rule} {A : Int} {w : List Nat} {i j : Nat} : ntB R A w i j = true ↔ NtTx R A (sub w i j) := by
  unfold ntB
  exact decide_eq_true_iff
def spanRow (P : Nat → Nat → Bool) (lo k : Nat) : List (Nat × Nat) := ((List.range k).filter fun j => P lo (lo + j)).map fun j => (lo, lo + j)
def spanAll (P : Nat → Nat → Bool) (n k : Nat) : List (Nat × Nat) := (List.range k).flatMap fun lo => spanRow P lo (n + 1 - lo)
theorem spanRow_succ {P : Nat → Nat → Bool} {lo k : Nat} : spanRow P lo (k + 1) = spanRow P lo k ++ if P lo (lo + k) = true then [(lo, lo + k)] else [] := by
  unfold spanRow
  rw [List.range_succ, List.filter_append, List.map_append, List.filter_cons]
  split <;> simp
theorem spanAll_succ {P : Nat → Nat → Bool} {n k : Nat} : spanAll P n (k + 1) = spanAll P n k ++ spanRow P k (n + 1 - k) := by
  unfold spanAll
  rw [List.range_succ, List.flatMap_append]
  simp
theorem spanRow_len {P : Nat → Nat → Bool} {lo k : Nat} : (spanRow P lo k).length ≤ k := by
  unfold spanRow
  rw [List.length_map]
  exact Nat.le_trans (List.length_filter_le _ _) (by simp)
theorem spanAll_len {P : Nat → Nat → Bool} {n : Nat} : ∀ k, (spanAll P n k).length ≤ k * (n + 1)
  | 0 => by simp [spanAll]
  | k + 1 => by
    have h1 := spanAll_len (P := P) (n := n) k
    have h2 := spanRow_len (P := P) (lo := k) (k := n + 1 - k)
    rw [spanAll_succ, List.length_append, Nat.succ_mul]
    omega
theorem sub_drop {w : List Nat} {lo j : Nat} : sub (w.drop lo) 0 j = sub w lo (lo + j) := by
  unfold sub
  rw [List.drop_zero, show lo + j - lo = j - 0 by omega]
/-- but for runs all is as it was -/
def KeepR (h h' : Heap) : Prop := ∀ (i : Nat) (o : HObj), (∀ (cs : List Value) (v : Nat), o ≠ HObj.arr cs v true 50) → h[i]? = some o → h'[i]? = some o
theorem SlR.kept {h h' : Heap} {v : Value} {n b : Nat} {cells : List Value} {et : TypeId} (hs : SlR h v n cells et b) (k : KeepR h h') (he : et ≠ 50) : SlR h' v n cells et b := by
  refine ⟨hs.1, ?_⟩
  rcases hs.2 with h1 | ⟨id, ver, own, c, rfl, h2⟩
  · exact .inl h1
  · exact .inr ⟨id, ver, own, c, rfl, k _ _ (fun cs v e => he (by cases e; rfl)) h2⟩
def SpansR (g : Gram) (w : List Nat) (nt : Int) (h : Heap) (r : Value) (h' : Heap) : Prop := ∃ x e, r = .tuple #[x, i64 e] ∧
  ((fitE g w ≠ 0 ∧ x = nilS ∧ e = fitE g w) ∨ (fitE g w = 0 ∧ (nt < 0 ∨ g.nts ≤ nt) ∧ x = nilS ∧ e = 1) ∨
   (fitE g w = 0 ∧ 0 ≤ nt ∧ nt < g.nts ∧ e = 0 ∧ Grow h h' x (spanAll (ntB g.rules nt w) w.length (w.length + 1)).length (runCells (spanAll (ntB g.rules nt w) w.length (w.length + 1))) 50))
set_option maxHeartbeats 8000000 in
theorem spans_fw {h : Heap} {g : Gram} {v wv : Value} {w : List Nat} {nt : Int} (hr : RdGram h v g) (hwR : RdB h wv w) (W : WfG g) : FW env 19 [v, wv, i64 nt] h fun r h' => SpansR g w nt h r h' ∧ h <+: h' := by
  obtain ⟨u, rfl, hu⟩ := id hr
  obtain ⟨p, c, rfl⟩ := hu.form
  obtain ⟨pw, cw, rfl⟩ := hwR.form
  refine fw_enter (fn := Try.f19) Try.func19 rfl (by kernel_rfl) (by simp [Try.ntmps19]) ?_; simp only [push_cast]
  repeat (first | refine cw_seq ?_ | refine cw_region ?_ | refine ow_nil ?_ | refine qw_nil ?_ | refine cw_block ?_ | refine cw_scope ?_ | refine cw_label ?_ | refine cw_skip ?_)
  refine ow_boxH (by simp only [push_cast, env, Nat.reduceEqDiff, reduceIte, Nat.reduceAdd, Nat.reduceMul, Nat.reduceLeDiff, reduceCtorEq, Nat.reduceSub, Int.reduceToNat] <;> exact rfl) (by simp only [push_cast, env, Nat.reduceEqDiff, reduceIte, Nat.reduceAdd, Nat.reduceMul, Nat.reduceLeDiff, reduceCtorEq, Nat.reduceSub, Int.reduceToNat] <;> exact rfl) ?_
  refine ow_boxH (by simp only [push_cast, env, Nat.reduceEqDiff, reduceIte, Nat.reduceAdd, Nat.reduceMul, Nat.reduceLeDiff, reduceCtorEq, Nat.reduceSub, Int.reduceToNat] <;> exact rfl) (by simp only [push_cast, env, Nat.reduceEqDiff, reduceIte, Nat.reduceAdd, Nat.reduceMul, Nat.reduceLeDiff, reduceCtorEq, Nat.reduceSub, Int.reduceToNat] <;> exact rfl) ?_
  simp only [St.putO, St.put]
  simp only [List.length_append, List.length_cons, List.length_nil, Nat.zero_add, List.append_assoc, List.cons_append, List.nil_append]
  obtain ⟨H2, hH2⟩ : ∃ H2, H2 = h ++ [HObj.arr [i64 g.nts, i64 g.start, .slice p g.rules.length c] 0 true 24, HObj.arr [i64 nt] 0 true 3] := ⟨_, rfl⟩
  have q1 : H2[h.length]? = some (HObj.arr [i64 g.nts, i64 g.start, .slice p g.rules.length c] 0 true 24) := by rw [hH2]; simp
  have q2 : H2[h.length + 1]? = some (HObj.arr [i64 nt] 0 true 3) := by rw [hH2, List.getElem?_append_right (by omega)]; simp
  have hp2 : h <+: H2 := by rw [hH2]; exact List.prefix_append _ _
  rw [← hH2]
  clear hH2
  have hr1 := hr.mono hp2
  have hwR1 := hwR.mono hp2
  repeat (first | refine cw_seq ?_ | refine cw_region ?_ | refine ow_nil ?_ | ((first | apply ow_cons | apply qw_cons); · simp only [push_cast, env, Nat.reduceEqDiff, reduceIte, Nat.reduceAdd, Nat.reduceMul, Nat.reduceLeDiff, reduceCtorEq, Nat.reduceSub, Int.reduceToNat, q1, q2] <;> exact rfl) | ((first | apply ow_spec | apply qw_spec); · simp only [push_cast, env, Nat.reduceEqDiff, reduceIte, Nat.reduceAdd, Nat.reduceMul, Nat.reduceLeDiff, reduceCtorEq, Nat.reduceSub, Int.reduceToNat, q1, q2] <;> exact rfl) | refine qw_nil ?_ | refine cw_block ?_ | refine cw_scope ?_ | refine cw_label ?_ | refine cw_skip ?_)
  refine ow_call (fn := Try.f36) (by simp only [push_cast, env, Nat.reduceEqDiff, reduceIte, Nat.reduceAdd, Nat.reduceMul, Nat.reduceLeDiff, reduceCtorEq, Nat.reduceSub, Int.reduceToNat] <;> exact rfl) rfl (by simp only [push_cast, env, Nat.reduceEqDiff, reduceIte, Nat.reduceAdd, Nat.reduceMul, Nat.reduceLeDiff, reduceCtorEq, Nat.reduceSub, Int.reduceToNat] <;> exact rfl) (by simp only [push_cast, env, Nat.reduceEqDiff, reduceIte, Nat.reduceAdd, Nat.reduceMul, Nat.reduceLeDiff, reduceCtorEq, Nat.reduceSub, Int.reduceToNat] <;> exact rfl) Try.func36 (by kernel_rfl) (by kernel_rfl) ?_
  rw [List.append_nil]
  refine (fit_fw hr1 hwR1).mono ?_
  rintro _ H2 ⟨rfl, rfl⟩
  by_cases hf : ¬ fitE g w = 0
  · have df : decide (fitE g w = 0) = false := decide_eq_false hf
    repeat (first | refine cw_seq ?_ | refine cw_region ?_ | refine ow_nil ?_ | ((first | apply ow_cons | apply qw_cons); · simp only [push_cast, env, Nat.reduceEqDiff, reduceIte, Nat.reduceAdd, Nat.reduceMul, Nat.reduceLeDiff, reduceCtorEq, Nat.reduceSub, Int.reduceToNat, df] <;> exact rfl) | ((first | apply ow_spec | apply qw_spec); · simp only [push_cast, env, Nat.reduceEqDiff, reduceIte, Nat.reduceAdd, Nat.reduceMul, Nat.reduceLeDiff, reduceCtorEq, Nat.reduceSub, Int.reduceToNat, df] <;> exact rfl) | refine qw_nil ?_ | refine cw_block ?_ | refine cw_scope ?_ | refine cw_label ?_ | refine cw_skip ?_)
    refine cw_condT (by simp only [push_cast, env, Nat.reduceEqDiff, reduceIte, Nat.reduceAdd, Nat.reduceMul, Nat.reduceLeDiff, reduceCtorEq, Nat.reduceSub, Int.reduceToNat, df] <;> exact rfl) ?_
    repeat (first | refine cw_seq ?_ | refine cw_region ?_ | refine ow_nil ?_ | ((first | apply ow_cons | apply qw_cons); · simp only [push_cast, env, Nat.reduceEqDiff, reduceIte, Nat.reduceAdd, Nat.reduceMul, Nat.reduceLeDiff, reduceCtorEq, Nat.reduceSub, Int.reduceToNat] <;> exact rfl) | ((first | apply ow_spec | apply qw_spec); · simp only [push_cast, env, Nat.reduceEqDiff, reduceIte, Nat.reduceAdd, Nat.reduceMul, Nat.reduceLeDiff, reduceCtorEq, Nat.reduceSub, Int.reduceToNat] <;> exact rfl) | refine qw_nil ?_ | refine cw_block ?_ | refine cw_scope ?_ | refine cw_label ?_ | refine cw_skip ?_)
    refine cw_ret ?_
    exact ⟨_, (by simp only [push_cast, env, Nat.reduceEqDiff, reduceIte, Nat.reduceAdd, Nat.reduceMul, Nat.reduceLeDiff, reduceCtorEq, Nat.reduceSub, Int.reduceToNat] <;> exact rfl), ⟨nilS, fitE g w, rfl, .inl ⟨hf, rfl, rfl⟩⟩, hp2⟩
  replace hf : fitE g w = 0 := Classical.not_not.1 hf
  obtain ⟨hb, hw⟩ := fitE_ok.1 hf
  have R := rightS hb
  rw [hf]
  repeat (first | refine cw_seq ?_ | refine cw_region ?_ | refine ow_nil ?_ | ((first | apply ow_cons | apply qw_cons); · simp only [push_cast, env, Nat.reduceEqDiff, reduceIte, Nat.reduceAdd, Nat.reduceMul, Nat.reduceLeDiff, reduceCtorEq, Nat.reduceSub, Int.reduceToNat] <;> exact rfl) | ((first | apply ow_spec | apply qw_spec); · simp only [push_cast, env, Nat.reduceEqDiff, reduceIte, Nat.reduceAdd, Nat.reduceMul, Nat.reduceLeDiff, reduceCtorEq, Nat.reduceSub, Int.reduceToNat] <;> exact rfl) | refine qw_nil ?_ | refine cw_block ?_ | refine cw_scope ?_ | refine cw_label ?_ | refine cw_skip ?_)
  refine cw_condF (by simp only [push_cast, env, Nat.reduceEqDiff, reduceIte, Nat.reduceAdd, Nat.reduceMul, Nat.reduceLeDiff, reduceCtorEq, Nat.reduceSub, Int.reduceToNat] <;> exact rfl) ?_
  by_cases hn0 : nt < 0 ∨ g.nts ≤ nt
  · have d1 : (decide (nt < 0) || decide (g.nts ≤ nt)) = true := by simpa using hn0
    repeat (first | refine cw_seq ?_ | refine cw_region ?_ | refine ow_nil ?_ | ((first | apply ow_cons | apply qw_cons); · simp only [push_cast, env, Nat.reduceEqDiff, reduceIte, Nat.reduceAdd, Nat.reduceMul, Nat.reduceLeDiff, reduceCtorEq, Nat.reduceSub, Int.reduceToNat, q1, q2] <;> exact rfl) | ((first | apply ow_spec | apply qw_spec); · simp only [push_cast, env, Nat.reduceEqDiff, reduceIte, Nat.reduceAdd, Nat.reduceMul, Nat.reduceLeDiff, reduceCtorEq, Nat.reduceSub, Int.reduceToNat, q1, q2] <;> exact rfl) | refine qw_nil ?_ | refine cw_block ?_ | refine cw_scope ?_ | refine cw_label ?_ | refine cw_skip ?_)
    refine cw_condT (by simp only [push_cast, env, Nat.reduceEqDiff, reduceIte, Nat.reduceAdd, Nat.reduceMul, Nat.reduceLeDiff, reduceCtorEq, Nat.reduceSub, Int.reduceToNat, d1] <;> exact rfl) ?_
    repeat (first | refine cw_seq ?_ | refine cw_region ?_ | refine ow_nil ?_ | ((first | apply ow_cons | apply qw_cons); · simp only [push_cast, env, Nat.reduceEqDiff, reduceIte, Nat.reduceAdd, Nat.reduceMul, Nat.reduceLeDiff, reduceCtorEq, Nat.reduceSub, Int.reduceToNat] <;> exact rfl) | ((first | apply ow_spec | apply qw_spec); · simp only [push_cast, env, Nat.reduceEqDiff, reduceIte, Nat.reduceAdd, Nat.reduceMul, Nat.reduceLeDiff, reduceCtorEq, Nat.reduceSub, Int.reduceToNat] <;> exact rfl) | refine qw_nil ?_ | refine cw_block ?_ | refine cw_scope ?_ | refine cw_label ?_ | refine cw_skip ?_)
    refine cw_ret ?_
    exact ⟨_, (by simp only [push_cast, env, Nat.reduceEqDiff, reduceIte, Nat.reduceAdd, Nat.reduceMul, Nat.reduceLeDiff, reduceCtorEq, Nat.reduceSub, Int.reduceToNat] <;> exact rfl), ⟨nilS, 1, rfl, .inr (.inl ⟨hf, hn0, rfl, rfl⟩)⟩, hp2⟩
  have d1 : (decide (nt < 0) || decide (g.nts ≤ nt)) = false := by simpa using hn0
  repeat (first | refine cw_seq ?_ | refine cw_region ?_ | refine ow_nil ?_ | ((first | apply ow_cons | apply qw_cons); · simp only [push_cast, env, Nat.reduceEqDiff, reduceIte, Nat.reduceAdd, Nat.reduceMul, Nat.reduceLeDiff, reduceCtorEq, Nat.reduceSub, Int.reduceToNat, q1, q2] <;> exact rfl) | ((first | apply ow_spec | apply qw_spec); · simp only [push_cast, env, Nat.reduceEqDiff, reduceIte, Nat.reduceAdd, Nat.reduceMul, Nat.reduceLeDiff, reduceCtorEq, Nat.reduceSub, Int.reduceToNat, q1, q2] <;> exact rfl) | refine qw_nil ?_ | refine cw_block ?_ | refine cw_scope ?_ | refine cw_label ?_ | refine cw_skip ?_)
  refine cw_condF (by simp only [push_cast, env, Nat.reduceEqDiff, reduceIte, Nat.reduceAdd, Nat.reduceMul, Nat.reduceLeDiff, reduceCtorEq, Nat.reduceSub, Int.reduceToNat, d1] <;> exact rfl) ?_
  repeat (first | refine cw_seq ?_ | refine cw_region ?_ | refine ow_nil ?_ | ((first | apply ow_cons | apply qw_cons); · simp only [push_cast, env, Nat.reduceEqDiff, reduceIte, Nat.reduceAdd, Nat.reduceMul, Nat.reduceLeDiff, reduceCtorEq, Nat.reduceSub, Int.reduceToNat, q1, q2] <;> exact rfl) | ((first | apply ow_spec | apply qw_spec); · simp only [push_cast, env, Nat.reduceEqDiff, reduceIte, Nat.reduceAdd, Nat.reduceMul, Nat.reduceLeDiff, reduceCtorEq, Nat.reduceSub, Int.reduceToNat, q1, q2] <;> exact rfl) | refine qw_nil ?_ | refine cw_block ?_ | refine cw_scope ?_ | refine cw_label ?_ | refine cw_skip ?_)
  refine ow_stoH (cells' := [i64 g.nts, i64 nt, .slice p g.rules.length c]) (by simp only [push_cast, env, Nat.reduceEqDiff, reduceIte, Nat.reduceAdd, Nat.reduceMul, Nat.reduceLeDiff, reduceCtorEq, Nat.reduceSub, Int.reduceToNat] <;> exact rfl) rfl rfl (by simp only [push_cast, env, Nat.reduceEqDiff, reduceIte, Nat.reduceAdd, Nat.reduceMul, Nat.reduceLeDiff, reduceCtorEq, Nat.reduceSub, Int.reduceToNat] <;> exact rfl) (by simp only [push_cast, env, Nat.reduceEqDiff, reduceIte, Nat.reduceAdd, Nat.reduceMul, Nat.reduceLeDiff, reduceCtorEq, Nat.reduceSub, Int.reduceToNat] <;> exact rfl) q1 (by simp only [push_cast, env, Nat.reduceEqDiff, reduceIte, Nat.reduceAdd, Nat.reduceMul, Nat.reduceLeDiff, reduceCtorEq, Nat.reduceSub, Int.reduceToNat] <;> exact rfl) rfl rfl ?_
  have q3 := get_set_self (x := HObj.arr [i64 g.nts, i64 nt, .slice p g.rules.length c] 0 true 24) q1
  have q4 : (H2.set h.length (HObj.arr [i64 g.nts, i64 nt, .slice p g.rules.length c] 0 true 24))[h.length + 1]? = some (HObj.arr [i64 nt] 0 true 3) := by rw [get_set_ne (by omega)]; exact q2
  have hp3 : h <+: H2.set h.length (HObj.arr [i64 g.nts, i64 nt, .slice p g.rules.length c] 0 true 24) := pre_set hp2 (Nat.le_refl _)
  obtain ⟨H3, hH3⟩ : ∃ H3, H3 = H2.set h.length (HObj.arr [i64 g.nts, i64 nt, .slice p g.rules.length c] 0 true 24) := ⟨_, rfl⟩
  show OW _ _ _ ⟨_, _, H2.set h.length (HObj.arr [i64 g.nts, i64 nt, .slice p g.rules.length c] 0 true 24)⟩ _
  rw [← hH3] at q3 q4 hp3 ⊢
  clear q1 q2 hp2 hr1 hwR1 hH3
  repeat (first | refine cw_seq ?_ | refine cw_region ?_ | refine ow_nil ?_ | ((first | apply ow_cons | apply qw_cons); · simp only [push_cast, env, Nat.reduceEqDiff, reduceIte, Nat.reduceAdd, Nat.reduceMul, Nat.reduceLeDiff, reduceCtorEq, Nat.reduceSub, Int.reduceToNat] <;> exact rfl) | ((first | apply ow_spec | apply qw_spec); · simp only [push_cast, env, Nat.reduceEqDiff, reduceIte, Nat.reduceAdd, Nat.reduceMul, Nat.reduceLeDiff, reduceCtorEq, Nat.reduceSub, Int.reduceToNat] <;> exact rfl) | refine qw_nil ?_ | refine cw_block ?_ | refine cw_scope ?_ | refine cw_label ?_ | refine cw_skip ?_)
  refine cw_forG (w.length + 1) (fun lo (x : Heap × Value) => [(1, .val (.slice pw w.length cw)), (3, .val (ptr0 h.length)), (5, .val (ptr0 (h.length + 1))), (9, .val x.2), (10, .val (i64 lo))]) (fun _ x => x.1)
    (fun lo x => h <+: x.1 ∧ x.1[h.length]? = some (HObj.arr [i64 g.nts, i64 nt, .slice p g.rules.length c] 0 true 24) ∧ x.1[h.length + 1]? = some (HObj.arr [i64 nt] 0 true 3) ∧
      Grow h x.1 x.2 (spanAll (ntB g.rules nt w) w.length lo).length (runCells (spanAll (ntB g.rules nt w) w.length lo)) 50) (H3, nilS) (by simp only [push_cast, SubL, fget, Nat.reduceEqDiff, reduceIte]) rfl ⟨hp3, q3, q4, Grow.nil⟩ ?_
  clear hp3 q3 q4 H3
  rintro lo ⟨hk, out⟩ hlo ⟨hp, q3, q4, hG⟩
  simp only at hp q3 q4 hG ⊢
  by_cases hlt : lo < w.length + 1
  · have e3 : decide ((lo : Int) ≤ (w.length : Int)) = true := decide_eq_true (by omega)
    have e2 : IntKind.i64.wrap ((lo : Int) + 1) = ((lo : Int) + 1) := wrap64_id (by omega) (by omega)
    repeat (first | refine cw_seq ?_ | refine cw_region ?_ | refine ow_nil ?_ | ((first | apply ow_cons | apply qw_cons); · simp only [push_cast, env, Nat.reduceEqDiff, reduceIte, Nat.reduceAdd, Nat.reduceMul, Nat.reduceLeDiff, reduceCtorEq, Nat.reduceSub, Int.reduceToNat, e3] <;> exact rfl) | ((first | apply ow_spec | apply qw_spec); · simp only [push_cast, env, Nat.reduceEqDiff, reduceIte, Nat.reduceAdd, Nat.reduceMul, Nat.reduceLeDiff, reduceCtorEq, Nat.reduceSub, Int.reduceToNat, e3] <;> exact rfl) | refine qw_nil ?_ | refine cw_block ?_ | refine cw_scope ?_ | refine cw_label ?_ | refine cw_skip ?_)
    refine cw_condT (by simp only [push_cast, env, Nat.reduceEqDiff, reduceIte, Nat.reduceAdd, Nat.reduceMul, Nat.reduceLeDiff, reduceCtorEq, Nat.reduceSub, Int.reduceToNat] <;> exact rfl) ?_
    repeat (first | refine cw_seq ?_ | refine cw_region ?_ | refine ow_nil ?_ | ((first | apply ow_cons | apply qw_cons); · simp only [push_cast, env, Nat.reduceEqDiff, reduceIte, Nat.reduceAdd, Nat.reduceMul, Nat.reduceLeDiff, reduceCtorEq, Nat.reduceSub, Int.reduceToNat] <;> exact rfl) | ((first | apply ow_spec | apply qw_spec); · simp only [push_cast, env, Nat.reduceEqDiff, reduceIte, Nat.reduceAdd, Nat.reduceMul, Nat.reduceLeDiff, reduceCtorEq, Nat.reduceSub, Int.reduceToNat] <;> exact rfl) | refine qw_nil ?_ | refine cw_block ?_ | refine cw_scope ?_ | refine cw_label ?_ | refine cw_skip ?_)
    have hwk := hwR.mono hp
    obtain ⟨v', hsl, hw'⟩ := rdb_slice (lo := lo) (hi := w.length) hwk (by omega) (Nat.le_refl _)
    have hsube : sub w lo w.length = w.drop lo := by unfold sub; rw [List.take_of_length_le (by simp)]
    rw [hsube] at hw'
    obtain ⟨pv', cv', rfl⟩ := hw'.form
    have hrk : RdGram hk (.agg #[i64 g.nts, i64 nt, .slice p g.rules.length c]) ⟨g.nts, nt, g.rules⟩ := ⟨_, rfl, hu.mono hp⟩
    have Rk : RightS ⟨g.nts, nt, g.rules⟩ := ⟨R.n1, R.n2, by simp only; omega, by simp only; omega, R.rl, R.r⟩
    refine cw_regionD 4 mixed (by kernel_rfl) ?_
    repeat (first | refine cw_seq ?_ | refine cw_region ?_ | refine ow_nil ?_ | ((first | apply ow_cons | apply qw_cons); · simp only [push_cast, env, Nat.reduceEqDiff, reduceIte, Nat.reduceAdd, Nat.reduceMul, Nat.reduceLeDiff, reduceCtorEq, Nat.reduceSub, Int.reduceToNat, q3] <;> exact rfl) | ((first | apply ow_spec | apply qw_spec); · simp only [push_cast, env, Nat.reduceEqDiff, reduceIte, Nat.reduceAdd, Nat.reduceMul, Nat.reduceLeDiff, reduceCtorEq, Nat.reduceSub, Int.reduceToNat, q3] <;> exact rfl) | refine qw_nil ?_ | refine cw_block ?_ | refine cw_scope ?_ | refine cw_label ?_ | refine cw_skip ?_)
    refine qw_slice (v := .slice pv' (w.drop lo).length cv') (by simp only [push_cast, env, Nat.reduceEqDiff, reduceIte, Nat.reduceAdd, Nat.reduceMul, Nat.reduceLeDiff, reduceCtorEq, Nat.reduceSub, Int.reduceToNat] <;> exact rfl) rfl (hsl _ _ _ _ rfl (by simp only [push_cast, env, Nat.reduceEqDiff, reduceIte, Nat.reduceAdd, Nat.reduceMul, Nat.reduceLeDiff, reduceCtorEq, Nat.reduceSub, Int.reduceToNat] <;> exact rfl) (by simp only [push_cast, env, Nat.reduceEqDiff, reduceIte, Nat.reduceAdd, Nat.reduceMul, Nat.reduceLeDiff, reduceCtorEq, Nat.reduceSub, Int.reduceToNat] <;> exact rfl) (by simp only [push_cast, env, Nat.reduceEqDiff, reduceIte, Nat.reduceAdd, Nat.reduceMul, Nat.reduceLeDiff, reduceCtorEq, Nat.reduceSub, Int.reduceToNat] <;> exact rfl)) ?_
    repeat (first | refine cw_seq ?_ | refine cw_region ?_ | refine ow_nil ?_ | ((first | apply ow_cons | apply qw_cons); · simp only [push_cast, env, Nat.reduceEqDiff, reduceIte, Nat.reduceAdd, Nat.reduceMul, Nat.reduceLeDiff, reduceCtorEq, Nat.reduceSub, Int.reduceToNat] <;> exact rfl) | ((first | apply ow_spec | apply qw_spec); · simp only [push_cast, env, Nat.reduceEqDiff, reduceIte, Nat.reduceAdd, Nat.reduceMul, Nat.reduceLeDiff, reduceCtorEq, Nat.reduceSub, Int.reduceToNat] <;> exact rfl) | refine qw_nil ?_ | refine cw_block ?_ | refine cw_scope ?_ | refine cw_label ?_ | refine cw_skip ?_)
    refine ow_call (fn := Try.f37) (by simp only [push_cast, env, Nat.reduceEqDiff, reduceIte, Nat.reduceAdd, Nat.reduceMul, Nat.reduceLeDiff, reduceCtorEq, Nat.reduceSub, Int.reduceToNat] <;> exact rfl) rfl (by simp only [push_cast, env, Nat.reduceEqDiff, reduceIte, Nat.reduceAdd, Nat.reduceMul, Nat.reduceLeDiff, reduceCtorEq, Nat.reduceSub, Int.reduceToNat] <;> exact rfl) (by simp only [push_cast, env, Nat.reduceEqDiff, reduceIte, Nat.reduceAdd, Nat.reduceMul, Nat.reduceLeDiff, reduceCtorEq, Nat.reduceSub, Int.reduceToNat] <;> exact rfl) Try.func37 (by kernel_rfl) (by kernel_rfl) ?_
    rw [List.append_nil]
    refine (open_fw hrk hw' Rk W (by simp; omega)).mono ?_
    rintro _ h' ⟨hB, rv, F, G, rfl, rfl, K, C, hrv⟩
    obtain ⟨g', hg'⟩ : ∃ g' : Gram, g' = ⟨g.nts, nt, g.rules⟩ := ⟨_, rfl⟩
    rw [← hg'] at K C
    have hrl : g'.rules = g.rules := by rw [hg']
    have hst : g'.start = nt := by rw [hg']
    have hnt : g'.nts = g.nts := by rw [hg']
    have hC : SpC G.h g' nt h.length (h.length + 1) := ⟨⟨nt, p, c, by rw [hrl, hnt]; exact getElem?_of_prefix K.p q3, by rw [hrl]; exact (hu.mono hp).mono K.p⟩, getElem?_of_prefix K.p q4⟩
    have hpG := hp.trans K.p
    have hGG : Grow h G.h out (spanAll (ntB g.rules nt w) w.length lo).length (runCells (spanAll (ntB g.rules nt w) w.length lo)) 50 := hG.mono fun i o _ ho => getElem?_of_prefix K.p ho
    have q3' := getElem?_of_prefix K.p q3
    have q4' := getElem?_of_prefix K.p q4
    have hSl := C.n
    rw [List.length_drop] at hSl
    have hc := K.c
    have hs := K.s
    unfold chCells at hc
    have hall := spanAll_len (P := ntB g.rules nt w) (n := w.length) lo
    have hall2 : lo * (w.length + 1) ≤ 513 * 513 := Nat.mul_le_mul (by omega) (by omega)
    have hruns : ∀ x ∈ G.S, True := fun _ _ => trivial
    have hbnd : ∀ j, j < G.S.length → ∀ x ∈ gs G.S j, x.rule < g'.rules.length := fun j hj x hx => by
      obtain ⟨r, h1, _⟩ := ((C.m j x).1 hx).sound
      exact (List.getElem?_eq_some_iff.1 h1).1
    have hany : ∀ j, j < G.S.length → (gs G.S j).any (accI g' nt) = ntB g.rules nt w lo (lo + j) := fun j hj => by
      have h1 := acc_iff C (j := j) (by rw [List.length_drop]; omega)
      rw [sub_drop, hst, hrl] at h1
      rw [Bool.eq_iff_iff, List.any_eq_true, ntB_iff]
      exact h1
    repeat (first | refine cw_seq ?_ | refine cw_region ?_ | refine ow_nil ?_ | ((first | apply ow_cons | apply qw_cons); · simp only [push_cast, env, Nat.reduceEqDiff, reduceIte, Nat.reduceAdd, Nat.reduceMul, Nat.reduceLeDiff, reduceCtorEq, Nat.reduceSub, Int.reduceToNat, hc] <;> exact rfl) | ((first | apply ow_spec | apply qw_spec); · simp only [push_cast, env, Nat.reduceEqDiff, reduceIte, Nat.reduceAdd, Nat.reduceMul, Nat.reduceLeDiff, reduceCtorEq, Nat.reduceSub, Int.reduceToNat, hc] <;> exact rfl) | refine qw_nil ?_ | refine cw_block ?_ | refine cw_scope ?_ | refine cw_label ?_ | refine cw_skip ?_)
    refine cw_forG G.S.length (fun j (x : Heap × Value) => [(1, .val (.slice pw w.length cw)), (3, .val (ptr0 h.length)), (5, .val (ptr0 (h.length + 1))), (9, .val x.2), (10, .val (i64 lo)), (44, .val (.slice (some ⟨F.si, 0, some 0⟩) G.S.length G.S.length)), (45, .val (i64 G.S.length)), (46, .val (i64 j))]) (fun _ x => x.1)
      (fun j x => KeepR G.h x.1 ∧ h <+: x.1 ∧ Grow h x.1 x.2 (spanAll (ntB g.rules nt w) w.length lo ++ spanRow (ntB g.rules nt w) lo j).length (runCells (spanAll (ntB g.rules nt w) w.length lo ++ spanRow (ntB g.rules nt w) lo j)) 50) (G.h, out) (by simp only [push_cast, SubL, fget, Nat.reduceEqDiff, reduceIte]) rfl ⟨fun _ _ _ h => h, hpG, by rw [show spanRow (ntB g.rules nt w) lo 0 = [] from rfl, List.append_nil]; exact hGG⟩ ?_
    rintro j ⟨hj, out⟩ hjn ⟨kp, hpj, hGj⟩
    simp only at kp hpj hGj ⊢
    by_cases hlt2 : j < G.S.length
    · have f2 := inc hlt2 (by omega)
      have f3 := lt_dec hlt2
      have f1 := rng hlt2
      obtain ⟨u2, cu2, hu2, gu2⟩ := K.us_at hlt2
      have hsm := C.small (hg' ▸ Rk) (by simp; omega) (k := j) (by rw [List.length_drop]; omega)
      have hI : RdItems hj (.slice u2 (gs G.S j).length cu2) (gs G.S j) := SlR.kept (gu2.sl (b := 24) (by omega)) kp (by decide)
      have hCj : SpC hj g' nt h.length (h.length + 1) := ⟨⟨nt, p, c, by rw [hrl, hnt]; exact kp _ _ (fun cs v e => by cases e) q3', by rw [hrl]; exact hu.mono hpj⟩, kp _ _ (fun cs v e => by cases e) q4'⟩
      have hs2 := kp _ _ (fun cs v e => by cases e) hs
      have e5 : IntKind.i64.wrap ((lo : Int) + (j : Int)) = ((lo + j : Nat) : Int) := by rw [wrap64_id (by omega) (by omega)]; rfl
      repeat (first | refine cw_seq ?_ | refine cw_region ?_ | refine ow_nil ?_ | ((first | apply ow_cons | apply qw_cons); · simp only [push_cast, env, Nat.reduceEqDiff, reduceIte, Nat.reduceAdd, Nat.reduceMul, Nat.reduceLeDiff, reduceCtorEq, Nat.reduceSub, Int.reduceToNat, f3] <;> exact rfl) | ((first | apply ow_spec | apply qw_spec); · simp only [push_cast, env, Nat.reduceEqDiff, reduceIte, Nat.reduceAdd, Nat.reduceMul, Nat.reduceLeDiff, reduceCtorEq, Nat.reduceSub, Int.reduceToNat, f3] <;> exact rfl) | refine qw_nil ?_ | refine cw_block ?_ | refine cw_scope ?_ | refine cw_label ?_ | refine cw_skip ?_)
      refine cw_condT (by simp only [push_cast, env, Nat.reduceEqDiff, reduceIte, Nat.reduceAdd, Nat.reduceMul, Nat.reduceLeDiff, reduceCtorEq, Nat.reduceSub, Int.reduceToNat] <;> exact rfl) ?_
      repeat (first | refine cw_seq ?_ | refine cw_region ?_ | refine ow_nil ?_ | ((first | apply ow_cons | apply qw_cons); · simp only [push_cast, env, Nat.reduceEqDiff, reduceIte, Nat.reduceAdd, Nat.reduceMul, Nat.reduceLeDiff, reduceCtorEq, Nat.reduceSub, Int.reduceToNat, hs2, f1, hu2, Nat.mul_one] <;> exact rfl) | ((first | apply ow_spec | apply qw_spec); · simp only [push_cast, env, Nat.reduceEqDiff, reduceIte, Nat.reduceAdd, Nat.reduceMul, Nat.reduceLeDiff, reduceCtorEq, Nat.reduceSub, Int.reduceToNat, hs2, f1, hu2, Nat.mul_one] <;> exact rfl) | refine qw_nil ?_ | refine cw_block ?_ | refine cw_scope ?_ | refine cw_label ?_ | refine cw_skip ?_)
      refine ow_call (fn := Try.f41) (by simp only [push_cast, env, Nat.reduceEqDiff, reduceIte, Nat.reduceAdd, Nat.reduceMul, Nat.reduceLeDiff, reduceCtorEq, Nat.reduceSub, Int.reduceToNat] <;> exact rfl) rfl (by simp only [push_cast, env, Nat.reduceEqDiff, reduceIte, Nat.reduceAdd, Nat.reduceMul, Nat.reduceLeDiff, reduceCtorEq, Nat.reduceSub, Int.reduceToNat] <;> exact rfl) (by simp only [push_cast, env, Nat.reduceEqDiff, reduceIte, Nat.reduceAdd, Nat.reduceMul, Nat.reduceLeDiff, reduceCtorEq, Nat.reduceSub, Int.reduceToNat] <;> exact rfl) Try.func41 (by kernel_rfl) (by kernel_rfl) ?_
      rw [List.append_nil]
      refine (contains_fw hCj hI (hbnd j hlt2)).mono ?_
      rintro _ hj ⟨rfl, rfl⟩
      rw [hany j hlt2]
      have hrow := spanRow_succ (P := ntB g.rules nt w) (lo := lo) (k := j)
      have hrlen := spanRow_len (P := ntB g.rules nt w) (lo := lo) (k := j)
      cases hb2 : ntB g.rules nt w lo (lo + j) with
      | true =>
        rw [hb2, if_pos rfl] at hrow
        obtain ⟨po, co, rfl⟩ := hGj.form
        repeat (first | refine cw_seq ?_ | refine cw_region ?_ | refine ow_nil ?_ | ((first | apply ow_cons | apply qw_cons); · simp only [push_cast, env, Nat.reduceEqDiff, reduceIte, Nat.reduceAdd, Nat.reduceMul, Nat.reduceLeDiff, reduceCtorEq, Nat.reduceSub, Int.reduceToNat] <;> exact rfl) | ((first | apply ow_spec | apply qw_spec); · simp only [push_cast, env, Nat.reduceEqDiff, reduceIte, Nat.reduceAdd, Nat.reduceMul, Nat.reduceLeDiff, reduceCtorEq, Nat.reduceSub, Int.reduceToNat] <;> exact rfl) | refine qw_nil ?_ | refine cw_block ?_ | refine cw_scope ?_ | refine cw_label ?_ | refine cw_skip ?_)
        refine cw_condT (by simp only [push_cast, env, Nat.reduceEqDiff, reduceIte, Nat.reduceAdd, Nat.reduceMul, Nat.reduceLeDiff, reduceCtorEq, Nat.reduceSub, Int.reduceToNat] <;> exact rfl) ?_
        repeat (first | refine cw_seq ?_ | refine cw_region ?_ | refine ow_nil ?_ | ((first | apply ow_cons | apply qw_cons); · simp only [push_cast, env, Nat.reduceEqDiff, reduceIte, Nat.reduceAdd, Nat.reduceMul, Nat.reduceLeDiff, reduceCtorEq, Nat.reduceSub, Int.reduceToNat, e5] <;> exact rfl) | ((first | apply ow_spec | apply qw_spec); · simp only [push_cast, env, Nat.reduceEqDiff, reduceIte, Nat.reduceAdd, Nat.reduceMul, Nat.reduceLeDiff, reduceCtorEq, Nat.reduceSub, Int.reduceToNat, e5] <;> exact rfl) | refine qw_nil ?_ | refine cw_block ?_ | refine cw_scope ?_ | refine cw_label ?_ | refine cw_skip ?_)
        refine ow_push (t := 33) (by simp only [push_cast, env, Nat.reduceEqDiff, reduceIte, Nat.reduceAdd, Nat.reduceMul, Nat.reduceLeDiff, reduceCtorEq, Nat.reduceSub, Int.reduceToNat] <;> exact rfl) rfl (by kernel_rfl) ti50 (by decide) rfl (by simp only [push_cast, env, Nat.reduceEqDiff, reduceIte, Nat.reduceAdd, Nat.reduceMul, Nat.reduceLeDiff, reduceCtorEq, Nat.reduceSub, Int.reduceToNat] <;> exact rfl) rfl hGj hpj (by unfold runCells; exact flat_len (k := 2) (fun _ => rfl) _) rfl (by simp only [List.length_append]; omega) (by simp only [List.length_append]; omega) ?_
        intro p6 c6 h6 G6 hp6 hk6 hl6
        repeat (first | refine cw_seq ?_ | refine cw_region ?_ | refine ow_nil ?_ | ((first | apply ow_cons | apply qw_cons); · simp only [push_cast, env, Nat.reduceEqDiff, reduceIte, Nat.reduceAdd, Nat.reduceMul, Nat.reduceLeDiff, reduceCtorEq, Nat.reduceSub, Int.reduceToNat, f2] <;> exact rfl) | ((first | apply ow_spec | apply qw_spec); · simp only [push_cast, env, Nat.reduceEqDiff, reduceIte, Nat.reduceAdd, Nat.reduceMul, Nat.reduceLeDiff, reduceCtorEq, Nat.reduceSub, Int.reduceToNat, f2] <;> exact rfl) | refine qw_nil ?_ | refine cw_block ?_ | refine cw_scope ?_ | refine cw_label ?_ | refine cw_skip ?_)
        refine ⟨hlt2, (h6, .slice p6 ((spanAll (ntB g.rules nt w) w.length lo ++ spanRow (ntB g.rules nt w) lo j).length + 1) c6), (by simp only [push_cast, SubL, fget, Nat.reduceEqDiff, reduceIte]), rfl, fun i o ho hi => ?_, hp6, ?_⟩
        · refine hk6 i o ?_ (kp i o ho hi)
          cases hq : isAt (.slice po (spanAll (ntB g.rules nt w) w.length lo ++ spanRow (ntB g.rules nt w) lo j).length co) i with
          | false => rfl
          | true =>
            obtain ⟨ve, h5⟩ := hGj.obj hq
            rw [kp i o ho hi] at h5
            exact (ho _ _ (Option.some.inj h5)).elim
        · simp only
          rw [hrow, ← List.append_assoc, List.length_append (bs := [(lo, lo + j)])]
          have : runCells (spanAll (ntB g.rules nt w) w.length lo ++ spanRow (ntB g.rules nt w) lo j ++ [(lo, lo + j)]) = runCells (spanAll (ntB g.rules nt w) w.length lo ++ spanRow (ntB g.rules nt w) lo j) ++ [i64 lo, i64 ((lo + j : Nat) : Int)] := by
            unfold runCells
            rw [List.flatMap_append]
            rfl
          rw [this]
          exact G6
      | false =>
        rw [hb2, if_neg (by simp), List.append_nil] at hrow
        repeat (first | refine cw_seq ?_ | refine cw_region ?_ | refine ow_nil ?_ | ((first | apply ow_cons | apply qw_cons); · simp only [push_cast, env, Nat.reduceEqDiff, reduceIte, Nat.reduceAdd, Nat.reduceMul, Nat.reduceLeDiff, reduceCtorEq, Nat.reduceSub, Int.reduceToNat] <;> exact rfl) | ((first | apply ow_spec | apply qw_spec); · simp only [push_cast, env, Nat.reduceEqDiff, reduceIte, Nat.reduceAdd, Nat.reduceMul, Nat.reduceLeDiff, reduceCtorEq, Nat.reduceSub, Int.reduceToNat] <;> exact rfl) | refine qw_nil ?_ | refine cw_block ?_ | refine cw_scope ?_ | refine cw_label ?_ | refine cw_skip ?_)
        refine cw_condF (by simp only [push_cast, env, Nat.reduceEqDiff, reduceIte, Nat.reduceAdd, Nat.reduceMul, Nat.reduceLeDiff, reduceCtorEq, Nat.reduceSub, Int.reduceToNat] <;> exact rfl) ?_
        repeat (first | refine cw_seq ?_ | refine cw_region ?_ | refine ow_nil ?_ | ((first | apply ow_cons | apply qw_cons); · simp only [push_cast, env, Nat.reduceEqDiff, reduceIte, Nat.reduceAdd, Nat.reduceMul, Nat.reduceLeDiff, reduceCtorEq, Nat.reduceSub, Int.reduceToNat, f2] <;> exact rfl) | ((first | apply ow_spec | apply qw_spec); · simp only [push_cast, env, Nat.reduceEqDiff, reduceIte, Nat.reduceAdd, Nat.reduceMul, Nat.reduceLeDiff, reduceCtorEq, Nat.reduceSub, Int.reduceToNat, f2] <;> exact rfl) | refine qw_nil ?_ | refine cw_block ?_ | refine cw_scope ?_ | refine cw_label ?_ | refine cw_skip ?_)
        exact ⟨hlt2, (hj, out), (by simp only [push_cast, SubL, fget, Nat.reduceEqDiff, reduceIte]), rfl, kp, hpj, by simp only; rw [hrow]; exact hGj⟩
    · have e3e := ge_dec hlt2
      obtain rfl : j = G.S.length := by omega
      repeat (first | refine cw_seq ?_ | refine cw_region ?_ | refine ow_nil ?_ | ((first | apply ow_cons | apply qw_cons); · simp only [push_cast, env, Nat.reduceEqDiff, reduceIte, Nat.reduceAdd, Nat.reduceMul, Nat.reduceLeDiff, reduceCtorEq, Nat.reduceSub, Int.reduceToNat, e3e] <;> exact rfl) | ((first | apply ow_spec | apply qw_spec); · simp only [push_cast, env, Nat.reduceEqDiff, reduceIte, Nat.reduceAdd, Nat.reduceMul, Nat.reduceLeDiff, reduceCtorEq, Nat.reduceSub, Int.reduceToNat, e3e] <;> exact rfl) | refine qw_nil ?_ | refine cw_block ?_ | refine cw_scope ?_ | refine cw_label ?_ | refine cw_skip ?_)
      refine cw_condF (by simp only [push_cast, env, Nat.reduceEqDiff, reduceIte, Nat.reduceAdd, Nat.reduceMul, Nat.reduceLeDiff, reduceCtorEq, Nat.reduceSub, Int.reduceToNat] <;> exact rfl) ?_
      refine cw_exit ?_
      show CW _ _ _ _
      repeat (first | refine cw_seq ?_ | refine cw_region ?_ | refine ow_nil ?_ | ((first | apply ow_cons | apply qw_cons); · simp only [push_cast, env, Nat.reduceEqDiff, reduceIte, Nat.reduceAdd, Nat.reduceMul, Nat.reduceLeDiff, reduceCtorEq, Nat.reduceSub, Int.reduceToNat, e2] <;> exact rfl) | ((first | apply ow_spec | apply qw_spec); · simp only [push_cast, env, Nat.reduceEqDiff, reduceIte, Nat.reduceAdd, Nat.reduceMul, Nat.reduceLeDiff, reduceCtorEq, Nat.reduceSub, Int.reduceToNat, e2] <;> exact rfl) | refine qw_nil ?_ | refine cw_block ?_ | refine cw_scope ?_ | refine cw_label ?_ | refine cw_skip ?_)
      refine ⟨hlt, (hj, out), (by simp only [push_cast, SubL, fget, Nat.reduceEqDiff, reduceIte]), rfl, hpj, kp _ _ (fun cs v e => by cases e) q3', kp _ _ (fun cs v e => by cases e) q4', ?_⟩
      simp only
      rw [spanAll_succ, show w.length + 1 - lo = G.S.length by omega]
      exact hGj
  · have e3 : decide ((lo : Int) ≤ (w.length : Int)) = false := decide_eq_false (by omega)
    obtain rfl : lo = w.length + 1 := by omega
    have e3 : decide ((w.length : Int) + 1 ≤ (w.length : Int)) = false := decide_eq_false (by omega)
    repeat (first | refine cw_seq ?_ | refine cw_region ?_ | refine ow_nil ?_ | ((first | apply ow_cons | apply qw_cons); · simp only [push_cast, env, Nat.reduceEqDiff, reduceIte, Nat.reduceAdd, Nat.reduceMul, Nat.reduceLeDiff, reduceCtorEq, Nat.reduceSub, Int.reduceToNat, e3] <;> exact rfl) | ((first | apply ow_spec | apply qw_spec); · simp only [push_cast, env, Nat.reduceEqDiff, reduceIte, Nat.reduceAdd, Nat.reduceMul, Nat.reduceLeDiff, reduceCtorEq, Nat.reduceSub, Int.reduceToNat, e3] <;> exact rfl) | refine qw_nil ?_ | refine cw_block ?_ | refine cw_scope ?_ | refine cw_label ?_ | refine cw_skip ?_)
    refine cw_condF (by simp only [push_cast, env, Nat.reduceEqDiff, reduceIte, Nat.reduceAdd, Nat.reduceMul, Nat.reduceLeDiff, reduceCtorEq, Nat.reduceSub, Int.reduceToNat] <;> exact rfl) ?_
    refine cw_exit ?_
    show CW _ _ _ _
    repeat (first | refine cw_seq ?_ | refine cw_region ?_ | refine ow_nil ?_ | ((first | apply ow_cons | apply qw_cons); · simp only [push_cast, env, Nat.reduceEqDiff, reduceIte, Nat.reduceAdd, Nat.reduceMul, Nat.reduceLeDiff, reduceCtorEq, Nat.reduceSub, Int.reduceToNat] <;> exact rfl) | ((first | apply ow_spec | apply qw_spec); · simp only [push_cast, env, Nat.reduceEqDiff, reduceIte, Nat.reduceAdd, Nat.reduceMul, Nat.reduceLeDiff, reduceCtorEq, Nat.reduceSub, Int.reduceToNat] <;> exact rfl) | refine qw_nil ?_ | refine cw_block ?_ | refine cw_scope ?_ | refine cw_label ?_ | refine cw_skip ?_)
    refine cw_ret ?_
    exact ⟨_, (by simp only [push_cast, env, Nat.reduceEqDiff, reduceIte, Nat.reduceAdd, Nat.reduceMul, Nat.reduceLeDiff, reduceCtorEq, Nat.reduceSub, Int.reduceToNat] <;> exact rfl), ⟨out, 0, rfl, .inr (.inr ⟨hf, by omega, by omega, rfl, hG⟩)⟩, hp⟩
end Go.Proofs.Ytafncpgiibikcaa

/- The reference's Fit, Accepts, Spans; equal lists of runs; which work is too much. -/
namespace Go.Proofs.Ytafncpgiibikcaa
set_option linter.unusedSimpArgs false
set_option linter.unusedVariables false
set_option maxRecDepth 20000
open Go.RowKit Am Ty

def RdRuns (h : Heap) (v : Value) (l : List (Nat × Nat)) : Prop := SlR h v l.length (runCells l) 50 16
def heavy7 (g : Gram) (w : List Nat) : Bool := (decide (16 < w.length) && decide (w.length ≤ 512)) || decide (heavyP g 160)
theorem heavy7_fw {h : Heap} {g : Gram} {v wv : Value} {w : List Nat} (hr : RdGram h v g) (hw : RdB h wv w) (hn : -9223372036854775808 ≤ g.nts) : FW env 13 [v, wv] h fun r h' => r = .bool (heavy7 g w) ∧ h' = h := by
  obtain ⟨u, rfl, hu⟩ := id hr
  obtain ⟨p, c, rfl⟩ := hu.form
  obtain ⟨pw, cw, rfl⟩ := hw.form
  unfold heavy7
  refine fw_enter (fn := Try.f13) Try.func13 rfl (by kernel_rfl) (by simp [Try.ntmps13]) ?_; simp only [push_cast]
  by_cases h1 : 16 < w.length
  · have d1 : decide ((16 : Int) < (w.length : Int)) = true := decide_eq_true (by omega)
    rw [decide_eq_true h1]
    by_cases h2 : w.length ≤ 512
    · have d2 : decide ((w.length : Int) ≤ 512) = true := decide_eq_true (by omega)
      rw [decide_eq_true h2]
      repeat (first | refine cw_seq ?_ | refine cw_region ?_ | refine ow_nil ?_ | ((first | apply ow_cons | apply qw_cons); · simp only [push_cast, env, Nat.reduceEqDiff, reduceIte, Nat.reduceAdd, Nat.reduceMul, Nat.reduceLeDiff, reduceCtorEq, Nat.reduceSub, Int.reduceToNat, d1, d2] <;> exact rfl) | ((first | apply ow_spec | apply qw_spec); · simp only [push_cast, env, Nat.reduceEqDiff, reduceIte, Nat.reduceAdd, Nat.reduceMul, Nat.reduceLeDiff, reduceCtorEq, Nat.reduceSub, Int.reduceToNat, d1, d2] <;> exact rfl) | refine qw_nil ?_ | refine cw_block ?_ | refine cw_scope ?_ | refine cw_label ?_ | refine cw_skip ?_)
      refine cw_ret ?_
      exact ⟨_, (by simp only [push_cast, env, Nat.reduceEqDiff, reduceIte, Nat.reduceAdd, Nat.reduceMul, Nat.reduceLeDiff, reduceCtorEq, Nat.reduceSub, Int.reduceToNat] <;> exact rfl), rfl, rfl⟩
    · have d2 : decide ((w.length : Int) ≤ 512) = false := decide_eq_false (by omega)
      rw [decide_eq_false h2]
      repeat (first | refine cw_seq ?_ | refine cw_region ?_ | refine ow_nil ?_ | ((first | apply ow_cons | apply qw_cons); · simp only [push_cast, env, Nat.reduceEqDiff, reduceIte, Nat.reduceAdd, Nat.reduceMul, Nat.reduceLeDiff, reduceCtorEq, Nat.reduceSub, Int.reduceToNat, d1, d2] <;> exact rfl) | ((first | apply ow_spec | apply qw_spec); · simp only [push_cast, env, Nat.reduceEqDiff, reduceIte, Nat.reduceAdd, Nat.reduceMul, Nat.reduceLeDiff, reduceCtorEq, Nat.reduceSub, Int.reduceToNat, d1, d2] <;> exact rfl) | refine qw_nil ?_ | refine cw_block ?_ | refine cw_scope ?_ | refine cw_label ?_ | refine cw_skip ?_)
      refine ow_call (fn := Try.f34) (by simp only [push_cast, env, Nat.reduceEqDiff, reduceIte, Nat.reduceAdd, Nat.reduceMul, Nat.reduceLeDiff, reduceCtorEq, Nat.reduceSub, Int.reduceToNat] <;> exact rfl) rfl (by simp only [push_cast, env, Nat.reduceEqDiff, reduceIte, Nat.reduceAdd, Nat.reduceMul, Nat.reduceLeDiff, reduceCtorEq, Nat.reduceSub, Int.reduceToNat] <;> exact rfl) (by simp only [push_cast, env, Nat.reduceEqDiff, reduceIte, Nat.reduceAdd, Nat.reduceMul, Nat.reduceLeDiff, reduceCtorEq, Nat.reduceSub, Int.reduceToNat] <;> exact rfl) Try.func34 (by kernel_rfl) (by kernel_rfl) ?_
      rw [List.append_nil]
      refine (heavy_fw hr hn (by decide)).mono ?_
      rintro _ h ⟨rfl, rfl⟩
      repeat (first | refine cw_seq ?_ | refine cw_region ?_ | refine ow_nil ?_ | ((first | apply ow_cons | apply qw_cons); · simp only [push_cast, env, Nat.reduceEqDiff, reduceIte, Nat.reduceAdd, Nat.reduceMul, Nat.reduceLeDiff, reduceCtorEq, Nat.reduceSub, Int.reduceToNat] <;> exact rfl) | ((first | apply ow_spec | apply qw_spec); · simp only [push_cast, env, Nat.reduceEqDiff, reduceIte, Nat.reduceAdd, Nat.reduceMul, Nat.reduceLeDiff, reduceCtorEq, Nat.reduceSub, Int.reduceToNat] <;> exact rfl) | refine qw_nil ?_ | refine cw_block ?_ | refine cw_scope ?_ | refine cw_label ?_ | refine cw_skip ?_)
      refine cw_ret ?_
      exact ⟨_, (by simp only [push_cast, env, Nat.reduceEqDiff, reduceIte, Nat.reduceAdd, Nat.reduceMul, Nat.reduceLeDiff, reduceCtorEq, Nat.reduceSub, Int.reduceToNat] <;> exact rfl), rfl, rfl⟩
  · have d1 : decide ((16 : Int) < (w.length : Int)) = false := decide_eq_false (by omega)
    rw [decide_eq_false h1]
    repeat (first | refine cw_seq ?_ | refine cw_region ?_ | refine ow_nil ?_ | ((first | apply ow_cons | apply qw_cons); · simp only [push_cast, env, Nat.reduceEqDiff, reduceIte, Nat.reduceAdd, Nat.reduceMul, Nat.reduceLeDiff, reduceCtorEq, Nat.reduceSub, Int.reduceToNat, d1] <;> exact rfl) | ((first | apply ow_spec | apply qw_spec); · simp only [push_cast, env, Nat.reduceEqDiff, reduceIte, Nat.reduceAdd, Nat.reduceMul, Nat.reduceLeDiff, reduceCtorEq, Nat.reduceSub, Int.reduceToNat, d1] <;> exact rfl) | refine qw_nil ?_ | refine cw_block ?_ | refine cw_scope ?_ | refine cw_label ?_ | refine cw_skip ?_)
    refine ow_call (fn := Try.f34) (by simp only [push_cast, env, Nat.reduceEqDiff, reduceIte, Nat.reduceAdd, Nat.reduceMul, Nat.reduceLeDiff, reduceCtorEq, Nat.reduceSub, Int.reduceToNat] <;> exact rfl) rfl (by simp only [push_cast, env, Nat.reduceEqDiff, reduceIte, Nat.reduceAdd, Nat.reduceMul, Nat.reduceLeDiff, reduceCtorEq, Nat.reduceSub, Int.reduceToNat] <;> exact rfl) (by simp only [push_cast, env, Nat.reduceEqDiff, reduceIte, Nat.reduceAdd, Nat.reduceMul, Nat.reduceLeDiff, reduceCtorEq, Nat.reduceSub, Int.reduceToNat] <;> exact rfl) Try.func34 (by kernel_rfl) (by kernel_rfl) ?_
    rw [List.append_nil]
    refine (heavy_fw hr hn (by decide)).mono ?_
    rintro _ h ⟨rfl, rfl⟩
    repeat (first | refine cw_seq ?_ | refine cw_region ?_ | refine ow_nil ?_ | ((first | apply ow_cons | apply qw_cons); · simp only [push_cast, env, Nat.reduceEqDiff, reduceIte, Nat.reduceAdd, Nat.reduceMul, Nat.reduceLeDiff, reduceCtorEq, Nat.reduceSub, Int.reduceToNat] <;> exact rfl) | ((first | apply ow_spec | apply qw_spec); · simp only [push_cast, env, Nat.reduceEqDiff, reduceIte, Nat.reduceAdd, Nat.reduceMul, Nat.reduceLeDiff, reduceCtorEq, Nat.reduceSub, Int.reduceToNat] <;> exact rfl) | refine qw_nil ?_ | refine cw_block ?_ | refine cw_scope ?_ | refine cw_label ?_ | refine cw_skip ?_)
    refine cw_ret ?_
    exact ⟨_, (by simp only [push_cast, env, Nat.reduceEqDiff, reduceIte, Nat.reduceAdd, Nat.reduceMul, Nat.reduceLeDiff, reduceCtorEq, Nat.reduceSub, Int.reduceToNat] <;> exact rfl), rfl, rfl⟩
end Go.Proofs.Ytafncpgiibikcaa

/- Plain facts: the fixed calls of the laws of layer 7. -/
namespace Go.Proofs.Ytafncpgiibikcaa
set_option linter.unusedSimpArgs false
set_option linter.unusedVariables false

/-- no rule makes more -/
def closedB (g : Gram) (w : List Nat) (S : List (List Item)) : Bool :=
  ((List.range g.rules.length).all fun q => match g.rules[q]? with
    | some r => !decide (r.lhs = g.start) || decide ((⟨q, 0, 0⟩ : Item) ∈ gs S 0)
    | none => true) &&
  (List.range (w.length + 1)).all fun k => (gs S k).all fun x => match g.rules[x.rule]? with
    | none => true
    | some r => match r.rhs[x.dot]? with
      | some s => if s.nt < 0 then (match w[k]? with
          | some b => !s.set.has b || decide (adv x ∈ gs S (k + 1))
          | none => true) else (List.range g.rules.length).all fun q => match g.rules[q]? with
          | some r' => !decide (r'.lhs = s.nt) || decide ((⟨q, 0, k⟩ : Item) ∈ gs S k)
          | none => true
      | none => (gs S x.frm).all fun y => match g.rules[y.rule]? with
        | some r' => (match r'.rhs[y.dot]? with
          | some s => !decide (s.nt = r.lhs) || decide (adv y ∈ gs S k)
          | none => true)
        | none => true
theorem closedB_it {g : Gram} {w : List Nat} {S : List (List Item)} (h : closedB g w S = true) {j : Nat} {x : Item} (hx : It g w j x) : x ∈ gs S j := by
  unfold closedB at h
  rw [Bool.and_eq_true] at h
  obtain ⟨h1, h2⟩ := h
  rw [List.all_eq_true] at h1 h2
  have hj : ∀ {j : Nat} {x : Item}, It g w j x → j ∈ List.range (w.length + 1) := fun {j x} h => by
    obtain ⟨_, _, _, _, k⟩ := h.sound
    have := k.2.1
    exact List.mem_range.2 (by omega)
  induction hx with
  | init q r k1 k2 =>
    have := h1 q (List.mem_range.2 (List.getElem?_eq_some_iff.1 k1).1)
    rw [k1] at this
    simpa [k2] using this
  | pred j x r s q r' k1 k2 k3 k4 k5 k6 ih =>
    have := h2 j (hj k1)
    rw [List.all_eq_true] at this
    have := this x ih
    rw [k2] at this
    simp only [k3] at this
    rw [if_neg (by omega), List.all_eq_true] at this
    have := this q (List.mem_range.2 (List.getElem?_eq_some_iff.1 k5).1)
    rw [k5] at this
    simpa [k6] using this
  | scan j x r s b k1 k2 k3 k4 k5 k6 ih =>
    have := h2 j (hj k1)
    rw [List.all_eq_true] at this
    have := this x ih
    rw [k2] at this
    simp only [k3] at this
    rw [if_pos k4, k5] at this
    simp only [k6, Bool.not_true, Bool.false_or, decide_eq_true_eq] at this
    exact this
  | comp j x r y r' s k1 k2 k3 k4 k5 k6 k7 k8 ih1 ih2 =>
    have := h2 j (hj k1)
    rw [List.all_eq_true] at this
    have := this x ih1
    rw [k2] at this
    simp only [List.getElem?_eq_none (show r.rhs.length ≤ x.dot by omega)] at this
    rw [List.all_eq_true] at this
    have := this y ih2
    rw [k5] at this
    simp only [k6, k8, decide_true, Bool.not_true, Bool.false_or, decide_eq_true_eq] at this
    exact this

def symE : KSym := ⟨0, ⟨0, 0, 0, 0⟩⟩
def symP : KSym := ⟨-1, ⟨8796093022208, 0, 0, 0⟩⟩
def symD : KSym := ⟨-1, ⟨287948901175001088, 0, 0, 0⟩⟩
/-- E > E "+" E, E > digit -/
def sumG : Gram := ⟨1, 0, [⟨0, [symE, symP, symE]⟩, ⟨0, [symD]⟩]⟩
theorem sum_digit : NtTx sumG.rules 0 [49] := ⟨⟨0, [symD]⟩, by decide, rfl, .term symD [] 49 [] (by decide) (by decide +kernel) .nil⟩
theorem sum_sum : NtTx sumG.rules 0 [49, 43, 49] := by
  obtain ⟨r, h1, h2, h3⟩ := sum_digit
  exact ⟨⟨0, [symE, symP, symE]⟩, by decide, rfl, .non symE [symP, symE] r [49] [43, 49] (by decide) h1 h2 h3 (.term symP [symE] 43 [49] (by decide) (by decide +kernel) (by
    have := Tx.non symE [] r [49] [] (by decide) h1 h2 h3 .nil
    simpa using this))⟩
def sumY (a i j : Nat) : Bool := a == 0 && ((i == 0 && j == 1) || (i == 0 && j == 3) || (i == 2 && j == 3))
def closedT (R : List Rule) (w : List Nat) (yf : Nat → Nat → Nat → Bool) : Bool := R.all fun r => (List.range (w.length + 1)).all fun i => (List.range (w.length + 1)).all fun j => decide (j < i) || !endB yf w r.rhs i r.rhs.length j || yf r.lhs.toNat i j
theorem closedT_ok {R : List Rule} {w : List Nat} {yf : Nat → Nat → Nat → Bool} (h : closedT R w yf = true) : TClosed R w yf := fun r hr i j hij hj he => by
  unfold closedT at h
  rw [List.all_eq_true] at h
  have h1 := h r hr
  rw [List.all_eq_true] at h1
  have h2 := h1 i (List.mem_range.2 (by omega))
  rw [List.all_eq_true] at h2
  have h3 := h2 j (List.mem_range.2 (by omega))
  rw [he] at h3
  simp only [Bool.not_true, Bool.or_false, Bool.or_eq_true, decide_eq_true_eq] at h3
  rcases h3 with h3 | h3
  · omega
  · exact h3
theorem sum_spans (i j : Nat) (hij : i ≤ j) (hj : j ≤ 3) : NtTx sumG.rules 0 (sub [49, 43, 49] i j) ↔ sumY 0 i j = true := by
  constructor
  · exact closed_full (closedT_ok (by decide +kernel)) 0 i j hij hj
  · intro h
    unfold sumY at h
    simp only [beq_self_eq_true, Bool.true_and, Bool.or_eq_true, Bool.and_eq_true, beq_iff_eq] at h
    rcases h with (⟨rfl, rfl⟩ | ⟨rfl, rfl⟩) | ⟨rfl, rfl⟩
    · exact sum_digit
    · exact sum_sum
    · exact sum_digit
def sumS : List (List Item) := [[⟨0, 0, 0⟩, ⟨1, 0, 0⟩], [⟨1, 1, 0⟩, ⟨0, 1, 0⟩], [⟨0, 2, 0⟩, ⟨0, 0, 2⟩, ⟨1, 0, 2⟩], []]
theorem sum_last {S : List (List Item)} (C : ∀ k x, x ∈ gs S k ↔ It sumG [49, 43, 43] k x) : gs S 3 = [] ∧ gs S 2 ≠ [] := by
  have hc : closedB sumG [49, 43, 43] sumS = true := by decide +kernel
  constructor
  · refine List.eq_nil_iff_forall_not_mem.2 fun x hx => ?_
    have := closedB_it hc ((C 3 x).1 hx)
    simp [gs, sumS] at this
  · intro h
    have i1 : It sumG [49, 43, 43] 0 ⟨1, 0, 0⟩ := .init 1 _ rfl rfl
    have i2 : It sumG [49, 43, 43] 1 ⟨1, 1, 0⟩ := .scan 0 ⟨1, 0, 0⟩ _ symD 49 i1 rfl rfl (by decide) rfl (by decide +kernel)
    have i3 : It sumG [49, 43, 43] 0 ⟨0, 0, 0⟩ := .init 0 _ rfl rfl
    have i4 : It sumG [49, 43, 43] 1 ⟨0, 1, 0⟩ := .comp 1 ⟨1, 1, 0⟩ _ ⟨0, 0, 0⟩ _ symE i2 rfl rfl i3 rfl rfl (by decide) rfl
    have i5 : It sumG [49, 43, 43] 2 ⟨0, 2, 0⟩ := .scan 1 ⟨0, 1, 0⟩ _ symP 43 i4 rfl rfl (by decide) rfl (by decide +kernel)
    have := (C 2 _).2 i5
    rw [h] at this
    cases this
end Go.Proofs.Ytafncpgiibikcaa

/- The fixed calls of the laws of layer 7. -/
namespace Go.Proofs.Ytafncpgiibikcaa
set_option linter.unusedSimpArgs false
set_option linter.unusedVariables false
set_option maxRecDepth 20000
open Go.RowKit Am Ty

theorem rdsyms_fresh {h : Heap} {id : Nat} {l : List KSym} (hl : l.length ≤ 1000000) (hg : h[id]? = some (.arr (l.flatMap KSym.cells) 0 true 43)) : RdSyms h (.slice (some ⟨id, 0, some 0⟩) l.length l.length) l := ⟨by omega, .inr ⟨id, 0, true, _, rfl, hg⟩⟩
set_option maxHeartbeats 4000000 in
theorem sum_fw {h : Heap} : FW env 35 [] h fun r h' => RdGram h' r sumG ∧ h <+: h' := by
  refine fw_enter (fn := Try.f35) Try.func35 rfl (by kernel_rfl) (by simp [Try.ntmps35]) ?_; simp only [push_cast]
  repeat (first | refine cw_seq ?_ | refine cw_region ?_ | refine ow_nil ?_ | refine qw_nil ?_ | refine cw_block ?_ | refine cw_scope ?_ | refine cw_label ?_ | refine cw_skip ?_)
  iterate 1 (apply ow_cons; · simp only [push_cast, env, Nat.reduceEqDiff, reduceIte, Nat.reduceAdd, Nat.reduceMul, Nat.reduceLeDiff, reduceCtorEq, Nat.reduceSub, Int.reduceToNat] <;> exact rfl)
  repeat (first | refine cw_seq ?_ | refine cw_region ?_ | refine ow_nil ?_ | refine qw_nil ?_ | refine cw_block ?_ | refine cw_scope ?_ | refine cw_label ?_ | refine cw_skip ?_)
  iterate 8 (apply ow_cons; · simp only [push_cast, env, Nat.reduceEqDiff, reduceIte, Nat.reduceAdd, Nat.reduceMul, Nat.reduceLeDiff, reduceCtorEq, Nat.reduceSub, Int.reduceToNat] <;> exact rfl)
  repeat (first | refine cw_seq ?_ | refine cw_region ?_ | refine ow_nil ?_ | refine qw_nil ?_ | refine cw_block ?_ | refine cw_scope ?_ | refine cw_label ?_ | refine cw_skip ?_)
  iterate 3 (apply ow_cons; · simp only [push_cast, env, Nat.reduceEqDiff, reduceIte, Nat.reduceAdd, Nat.reduceMul, Nat.reduceLeDiff, reduceCtorEq, Nat.reduceSub, Int.reduceToNat] <;> exact rfl)
  repeat (first | refine cw_seq ?_ | refine cw_region ?_ | refine ow_nil ?_ | refine qw_nil ?_ | refine cw_block ?_ | refine cw_scope ?_ | refine cw_label ?_ | refine cw_skip ?_)
  iterate 3 (apply ow_cons; · simp only [push_cast, env, Nat.reduceEqDiff, reduceIte, Nat.reduceAdd, Nat.reduceMul, Nat.reduceLeDiff, reduceCtorEq, Nat.reduceSub, Int.reduceToNat] <;> exact rfl)
  refine ow_bslH (by simp only [push_cast, env, Nat.reduceEqDiff, reduceIte, Nat.reduceAdd, Nat.reduceMul, Nat.reduceLeDiff, reduceCtorEq, Nat.reduceSub, Int.reduceToNat] <;> exact rfl) (by simp only [push_cast, env, Nat.reduceEqDiff, reduceIte, Nat.reduceAdd, Nat.reduceMul, Nat.reduceLeDiff, reduceCtorEq, Nat.reduceSub, Int.reduceToNat] <;> exact rfl) ?_
  simp only [St.putO, St.put]
  iterate 2 (apply ow_cons; · simp only [push_cast, env, Nat.reduceEqDiff, reduceIte, Nat.reduceAdd, Nat.reduceMul, Nat.reduceLeDiff, reduceCtorEq, Nat.reduceSub, Int.reduceToNat] <;> exact rfl)
  refine ow_bslH (by simp only [push_cast, env, Nat.reduceEqDiff, reduceIte, Nat.reduceAdd, Nat.reduceMul, Nat.reduceLeDiff, reduceCtorEq, Nat.reduceSub, Int.reduceToNat] <;> exact rfl) (by simp only [push_cast, env, Nat.reduceEqDiff, reduceIte, Nat.reduceAdd, Nat.reduceMul, Nat.reduceLeDiff, reduceCtorEq, Nat.reduceSub, Int.reduceToNat] <;> exact rfl) ?_
  simp only [St.putO, St.put, List.length_append, List.length_cons, List.length_nil, Nat.zero_add, List.append_assoc, List.cons_append, List.nil_append]
  iterate 1 (apply ow_cons; · simp only [push_cast, env, Nat.reduceEqDiff, reduceIte, Nat.reduceAdd, Nat.reduceMul, Nat.reduceLeDiff, reduceCtorEq, Nat.reduceSub, Int.reduceToNat] <;> exact rfl)
  refine ow_bslH (by simp only [push_cast, env, Nat.reduceEqDiff, reduceIte, Nat.reduceAdd, Nat.reduceMul, Nat.reduceLeDiff, reduceCtorEq, Nat.reduceSub, Int.reduceToNat] <;> exact rfl) (by simp only [push_cast, env, Nat.reduceEqDiff, reduceIte, Nat.reduceAdd, Nat.reduceMul, Nat.reduceLeDiff, reduceCtorEq, Nat.reduceSub, Int.reduceToNat] <;> exact rfl) ?_
  simp only [St.putO, St.put, List.length_append, List.length_cons, List.length_nil, Nat.zero_add, List.append_assoc, List.cons_append, List.nil_append]
  obtain ⟨H, hH⟩ : ∃ H : Heap, H = h ++ [HObj.arr ([symE, symP, symE].flatMap KSym.cells) 0 true 43, HObj.arr ([symD].flatMap KSym.cells) 0 true 43, HObj.arr [i64 0, .slice (some ⟨h.length, 0, some 0⟩) 3 3, i64 0, .slice (some ⟨h.length + 1, 0, some 0⟩) 1 1] 0 true 46] := ⟨_, rfl⟩
  show OW _ _ _ ⟨_, _, h ++ [HObj.arr ([symE, symP, symE].flatMap KSym.cells) 0 true 43, HObj.arr ([symD].flatMap KSym.cells) 0 true 43, HObj.arr [i64 0, .slice (some ⟨h.length, 0, some 0⟩) 3 3, i64 0, .slice (some ⟨h.length + 1, 0, some 0⟩) 1 1] 0 true 46]⟩ _
  rw [← hH]
  have q0 : H[h.length]? = some (HObj.arr ([symE, symP, symE].flatMap KSym.cells) 0 true 43) := by rw [hH]; simp
  have q1 : H[h.length + 1]? = some (HObj.arr ([symD].flatMap KSym.cells) 0 true 43) := by rw [hH, List.getElem?_append_right (by omega)]; simp
  have q2 : H[h.length + 2]? = some (HObj.arr [i64 0, .slice (some ⟨h.length, 0, some 0⟩) 3 3, i64 0, .slice (some ⟨h.length + 1, 0, some 0⟩) 1 1] 0 true 46) := by rw [hH, List.getElem?_append_right (by omega)]; simp
  have hp : h <+: H := by rw [hH]; exact List.prefix_append _ _
  clear hH
  repeat (first | refine cw_seq ?_ | refine cw_region ?_ | refine ow_nil ?_ | ((first | apply ow_cons | apply qw_cons); · simp only [push_cast, env, Nat.reduceEqDiff, reduceIte, Nat.reduceAdd, Nat.reduceMul, Nat.reduceLeDiff, reduceCtorEq, Nat.reduceSub, Int.reduceToNat] <;> exact rfl) | ((first | apply ow_spec | apply qw_spec); · simp only [push_cast, env, Nat.reduceEqDiff, reduceIte, Nat.reduceAdd, Nat.reduceMul, Nat.reduceLeDiff, reduceCtorEq, Nat.reduceSub, Int.reduceToNat] <;> exact rfl) | refine qw_nil ?_ | refine cw_block ?_ | refine cw_scope ?_ | refine cw_label ?_ | refine cw_skip ?_)
  refine cw_ret ?_
  refine ⟨_, (by simp only [push_cast, env, Nat.reduceEqDiff, reduceIte, Nat.reduceAdd, Nat.reduceMul, Nat.reduceLeDiff, reduceCtorEq, Nat.reduceSub, Int.reduceToNat] <;> exact rfl), ⟨_, rfl, [.slice (some ⟨h.length, 0, some 0⟩) 3 3, .slice (some ⟨h.length + 1, 0, some 0⟩) 1 1], rfl, ⟨by decide, .inr ⟨h.length + 2, 0, true, 2, rfl, q2⟩⟩, fun i r u h1 h2 => ?_⟩, hp⟩
  match i, h1, h2 with
  | 0, h1, h2 => cases h1; cases h2; exact rdsyms_fresh (l := [symE, symP, symE]) (by decide) q0
  | 1, h1, h2 => cases h1; cases h2; exact rdsyms_fresh (l := [symD]) (by decide) q1
  | i + 2, h1, h2 => simp [sumG] at h1
theorem sum_wf : WfG sumG := by
  intro r hr s hs
  simp only [sumG, List.mem_cons, List.not_mem_nil, or_false] at hr
  rcases hr with rfl | rfl
  · simp only [List.mem_cons, List.not_mem_nil, or_false] at hs
    rcases hs with rfl | rfl | rfl
    · exact ⟨⟨by decide, by decide⟩, ⟨by decide, by decide⟩, ⟨by decide, by decide⟩, ⟨by decide, by decide⟩⟩
    · exact ⟨⟨by decide, by decide⟩, ⟨by decide, by decide⟩, ⟨by decide, by decide⟩, ⟨by decide, by decide⟩⟩
    · exact ⟨⟨by decide, by decide⟩, ⟨by decide, by decide⟩, ⟨by decide, by decide⟩, ⟨by decide, by decide⟩⟩
  · simp only [List.mem_cons, List.not_mem_nil, or_false] at hs
    subst hs
    exact ⟨⟨by decide, by decide⟩, ⟨by decide, by decide⟩, ⟨by decide, by decide⟩, ⟨by decide, by decide⟩⟩
theorem sum_fit (w : List Nat) (hw : w.length ≤ 512) : fitE sumG w = 0 := fitE_ok.2 ⟨by decide, hw⟩
theorem sum_good : goodD sumG 0 := .mk ⟨0, [symD]⟩ (by decide) (fun s hs _ => by
  simp only [List.mem_cons, List.not_mem_nil, or_false] at hs
  subst hs
  unfold goodT
  decide) (fun s hs h0 => by
  simp only [List.mem_cons, List.not_mem_nil, or_false] at hs
  subst hs
  exact absurd h0 (by decide))
theorem sum_trim {m : List Bool} (hm : Marks sumG.nts (goodD sumG) m) : trG sumG m = sumG := by
  have hl : m.length = 1 := by have := hm.1; simp only [sumG] at this; omega
  match m, hl with
  | [b], _ =>
    have := (hm.2 0 (by decide) (by decide)).2 sum_good
    cases b with
    | true => rfl
    | false => cases this
set_option maxHeartbeats 1000000 in
theorem chartbad_fw {h : Heap} {g : Gram} {v wv : Value} {w : List Nat} (hr : RdGram h v g) (hwR : RdB h wv w) (hf : fitE g w ≠ 0) : FW env 24 [v, wv] h fun r h' => r = .tuple #[nilS, i64 (fitE g w)] ∧ h' = h := by
  obtain ⟨u, rfl, hu⟩ := id hr
  obtain ⟨p, c, rfl⟩ := hu.form
  obtain ⟨pw, cw, rfl⟩ := hwR.form
  have df : decide (fitE g w = 0) = false := decide_eq_false hf
  refine fw_enter (fn := Try.f24) Try.func24 rfl (by kernel_rfl) (by simp [Try.ntmps24]) ?_; simp only [push_cast]
  repeat (first | refine cw_seq ?_ | refine cw_region ?_ | refine ow_nil ?_ | ((first | apply ow_cons | apply qw_cons); · simp only [push_cast, env, Nat.reduceEqDiff, reduceIte, Nat.reduceAdd, Nat.reduceMul, Nat.reduceLeDiff, reduceCtorEq, Nat.reduceSub, Int.reduceToNat] <;> exact rfl) | ((first | apply ow_spec | apply qw_spec); · simp only [push_cast, env, Nat.reduceEqDiff, reduceIte, Nat.reduceAdd, Nat.reduceMul, Nat.reduceLeDiff, reduceCtorEq, Nat.reduceSub, Int.reduceToNat] <;> exact rfl) | refine qw_nil ?_ | refine cw_block ?_ | refine cw_scope ?_ | refine cw_label ?_ | refine cw_skip ?_)
  refine ow_call (fn := Try.f36) (by simp only [push_cast, env, Nat.reduceEqDiff, reduceIte, Nat.reduceAdd, Nat.reduceMul, Nat.reduceLeDiff, reduceCtorEq, Nat.reduceSub, Int.reduceToNat] <;> exact rfl) rfl (by simp only [push_cast, env, Nat.reduceEqDiff, reduceIte, Nat.reduceAdd, Nat.reduceMul, Nat.reduceLeDiff, reduceCtorEq, Nat.reduceSub, Int.reduceToNat] <;> exact rfl) (by simp only [push_cast, env, Nat.reduceEqDiff, reduceIte, Nat.reduceAdd, Nat.reduceMul, Nat.reduceLeDiff, reduceCtorEq, Nat.reduceSub, Int.reduceToNat] <;> exact rfl) Try.func36 (by kernel_rfl) (by kernel_rfl) ?_
  rw [List.append_nil]
  refine (fit_fw hr hwR).mono ?_
  rintro _ h ⟨rfl, rfl⟩
  repeat (first | refine cw_seq ?_ | refine cw_region ?_ | refine ow_nil ?_ | ((first | apply ow_cons | apply qw_cons); · simp only [push_cast, env, Nat.reduceEqDiff, reduceIte, Nat.reduceAdd, Nat.reduceMul, Nat.reduceLeDiff, reduceCtorEq, Nat.reduceSub, Int.reduceToNat, df] <;> exact rfl) | ((first | apply ow_spec | apply qw_spec); · simp only [push_cast, env, Nat.reduceEqDiff, reduceIte, Nat.reduceAdd, Nat.reduceMul, Nat.reduceLeDiff, reduceCtorEq, Nat.reduceSub, Int.reduceToNat, df] <;> exact rfl) | refine qw_nil ?_ | refine cw_block ?_ | refine cw_scope ?_ | refine cw_label ?_ | refine cw_skip ?_)
  refine cw_condT (by simp only [push_cast, env, Nat.reduceEqDiff, reduceIte, Nat.reduceAdd, Nat.reduceMul, Nat.reduceLeDiff, reduceCtorEq, Nat.reduceSub, Int.reduceToNat, df] <;> exact rfl) ?_
  repeat (first | refine cw_seq ?_ | refine cw_region ?_ | refine ow_nil ?_ | ((first | apply ow_cons | apply qw_cons); · simp only [push_cast, env, Nat.reduceEqDiff, reduceIte, Nat.reduceAdd, Nat.reduceMul, Nat.reduceLeDiff, reduceCtorEq, Nat.reduceSub, Int.reduceToNat] <;> exact rfl) | ((first | apply ow_spec | apply qw_spec); · simp only [push_cast, env, Nat.reduceEqDiff, reduceIte, Nat.reduceAdd, Nat.reduceMul, Nat.reduceLeDiff, reduceCtorEq, Nat.reduceSub, Int.reduceToNat] <;> exact rfl) | refine qw_nil ?_ | refine cw_block ?_ | refine cw_scope ?_ | refine cw_label ?_ | refine cw_skip ?_)
  refine cw_ret ?_
  exact ⟨_, (by simp only [push_cast, env, Nat.reduceEqDiff, reduceIte, Nat.reduceAdd, Nat.reduceMul, Nat.reduceLeDiff, reduceCtorEq, Nat.reduceSub, Int.reduceToNat] <;> exact rfl), rfl, rfl⟩
theorem rdb_fresh {h : Heap} {id ver : Nat} {own : Bool} {w : List Nat} (hl : w.length ≤ 1000000) (hb : ∀ b ∈ w, b < 256) (hg : h[id]? = some (.arr (w.map fun n : Nat => u8 n) ver own 5)) : RdB h (.slice (some ⟨id, 0, some ver⟩) w.length w.length) w :=
  ⟨by omega, hb, .inr ⟨id, 0, ver, own, _, _, rfl, hg, fun i b hi => by rw [Nat.zero_add, List.getElem?_map, hi]; rfl⟩⟩
theorem und_bytes : env.P.underlying 25 = some (.slice 5) := by kernel_rfl
theorem und_u8 : env.P.underlying 5 = some (.int .u8) := by kernel_rfl
theorem spanAll_congr {P Q : Nat → Nat → Bool} {n : Nat} (hP : ∀ i j, i ≤ j → j ≤ n → P i j = Q i j) : ∀ k, k ≤ n + 1 → spanAll P n k = spanAll Q n k
  | 0, _ => rfl
  | k + 1, hk => by
    rw [spanAll_succ, spanAll_succ, spanAll_congr hP k (by omega)]
    congr 1
    unfold spanRow
    congr 1
    apply List.filter_congr
    intro j hj
    rw [List.mem_range] at hj
    exact hP k (k + j) (by omega) (by omega)
set_option maxHeartbeats 4000000 in
theorem alive7_run : FW env 14 [] [] fun r _ => r = .bool true := by
  refine fw_enter (fn := Try.f14) Try.func14 rfl (by kernel_rfl) (by simp [Try.ntmps14]) ?_; simp only [push_cast]
  repeat (first | refine cw_seq ?_ | refine cw_region ?_ | refine ow_nil ?_ | ((first | apply ow_cons | apply qw_cons); · simp only [push_cast, env, Nat.reduceEqDiff, reduceIte, Nat.reduceAdd, Nat.reduceMul, Nat.reduceLeDiff, reduceCtorEq, Nat.reduceSub, Int.reduceToNat] <;> exact rfl) | ((first | apply ow_spec | apply qw_spec); · simp only [push_cast, env, Nat.reduceEqDiff, reduceIte, Nat.reduceAdd, Nat.reduceMul, Nat.reduceLeDiff, reduceCtorEq, Nat.reduceSub, Int.reduceToNat] <;> exact rfl) | refine qw_nil ?_ | refine cw_block ?_ | refine cw_scope ?_ | refine cw_label ?_ | refine cw_skip ?_)
  refine ow_call (fn := Try.f35) (by simp only [push_cast, env, Nat.reduceEqDiff, reduceIte, Nat.reduceAdd, Nat.reduceMul, Nat.reduceLeDiff, reduceCtorEq, Nat.reduceSub, Int.reduceToNat] <;> exact rfl) rfl (by simp only [push_cast, env, Nat.reduceEqDiff, reduceIte, Nat.reduceAdd, Nat.reduceMul, Nat.reduceLeDiff, reduceCtorEq, Nat.reduceSub, Int.reduceToNat] <;> exact rfl) (by simp only [push_cast, env, Nat.reduceEqDiff, reduceIte, Nat.reduceAdd, Nat.reduceMul, Nat.reduceLeDiff, reduceCtorEq, Nat.reduceSub, Int.reduceToNat] <;> exact rfl) Try.func35 (by kernel_rfl) (by kernel_rfl) ?_
  refine sum_fw.mono ?_
  rintro v1 h1 ⟨hr1, hp1⟩
  obtain ⟨u1, rfl, hu1⟩ := id hr1
  obtain ⟨p1, c1, rfl⟩ := hu1.form
  refine ow_bslH (by simp only [push_cast, env, Nat.reduceEqDiff, reduceIte, Nat.reduceAdd, Nat.reduceMul, Nat.reduceLeDiff, reduceCtorEq, Nat.reduceSub, Int.reduceToNat] <;> exact rfl) (by simp only [push_cast, env, Nat.reduceEqDiff, reduceIte, Nat.reduceAdd, Nat.reduceMul, Nat.reduceLeDiff, reduceCtorEq, Nat.reduceSub, Int.reduceToNat] <;> exact rfl) ?_
  simp only [St.putO, St.put]
  refine ow_frz (cells := [u8 49, u8 43, u8 49]) (by simp only [push_cast, env, Nat.reduceEqDiff, reduceIte, Nat.reduceAdd, Nat.reduceMul, Nat.reduceLeDiff, reduceCtorEq, Nat.reduceSub, Int.reduceToNat] <;> exact rfl) rfl und_bytes und_u8 (by simp only [push_cast, env, Nat.reduceEqDiff, reduceIte, Nat.reduceAdd, Nat.reduceMul, Nat.reduceLeDiff, reduceCtorEq, Nat.reduceSub, Int.reduceToNat] <;> exact rfl) get_push (by decide) ?_
  simp only [St.putO, St.put]
  have hs1 : (h1 ++ [HObj.arr [u8 49, u8 43, u8 49] 0 true 5]).set h1.length (HObj.arr [u8 49, u8 43, u8 49] 0 false 5) = h1 ++ [HObj.arr [u8 49, u8 43, u8 49] 0 false 5] := by simp
  rw [hs1]
  have hb1 : RdB (h1 ++ [HObj.arr [u8 49, u8 43, u8 49] 0 false 5]) (.slice (some ⟨h1.length, 0, some 0⟩) 3 3) [49, 43, 49] := rdb_fresh (w := [49, 43, 49]) (by decide) (by decide) get_push
  have hg1 := hr1.mono (h' := h1 ++ [HObj.arr [u8 49, u8 43, u8 49] 0 false 5]) prefix_push
  repeat (first | refine cw_seq ?_ | refine cw_region ?_ | refine ow_nil ?_ | ((first | apply ow_cons | apply qw_cons); · simp only [push_cast, env, Nat.reduceEqDiff, reduceIte, Nat.reduceAdd, Nat.reduceMul, Nat.reduceLeDiff, reduceCtorEq, Nat.reduceSub, Int.reduceToNat] <;> exact rfl) | ((first | apply ow_spec | apply qw_spec); · simp only [push_cast, env, Nat.reduceEqDiff, reduceIte, Nat.reduceAdd, Nat.reduceMul, Nat.reduceLeDiff, reduceCtorEq, Nat.reduceSub, Int.reduceToNat] <;> exact rfl) | refine qw_nil ?_ | refine cw_block ?_ | refine cw_scope ?_ | refine cw_label ?_ | refine cw_skip ?_)
  refine ow_call (fn := Try.f15) (by simp only [push_cast, env, Nat.reduceEqDiff, reduceIte, Nat.reduceAdd, Nat.reduceMul, Nat.reduceLeDiff, reduceCtorEq, Nat.reduceSub, Int.reduceToNat] <;> exact rfl) rfl (by simp only [push_cast, env, Nat.reduceEqDiff, reduceIte, Nat.reduceAdd, Nat.reduceMul, Nat.reduceLeDiff, reduceCtorEq, Nat.reduceSub, Int.reduceToNat] <;> exact rfl) (by simp only [push_cast, env, Nat.reduceEqDiff, reduceIte, Nat.reduceAdd, Nat.reduceMul, Nat.reduceLeDiff, reduceCtorEq, Nat.reduceSub, Int.reduceToNat] <;> exact rfl) Try.func15 (by kernel_rfl) (by kernel_rfl) ?_
  rw [List.append_nil]
  refine (accepts_fw hg1 hb1 sum_wf).mono ?_
  rintro _ ha1 ⟨⟨b1, rfl, _, k1⟩, hpa1⟩
  have hb1t : b1 = true := (k1 (sum_fit _ (by decide))).2 sum_sum
  subst hb1t
  rw [sum_fit [49, 43, 49] (by decide)]
  clear hg1 hb1 hs1 hr1 hu1 k1
  repeat (first | refine cw_seq ?_ | refine cw_region ?_ | refine ow_nil ?_ | ((first | apply ow_cons | apply qw_cons); · simp only [push_cast, env, Nat.reduceEqDiff, reduceIte, Nat.reduceAdd, Nat.reduceMul, Nat.reduceLeDiff, reduceCtorEq, Nat.reduceSub, Int.reduceToNat] <;> exact rfl) | ((first | apply ow_spec | apply qw_spec); · simp only [push_cast, env, Nat.reduceEqDiff, reduceIte, Nat.reduceAdd, Nat.reduceMul, Nat.reduceLeDiff, reduceCtorEq, Nat.reduceSub, Int.reduceToNat] <;> exact rfl) | refine qw_nil ?_ | refine cw_block ?_ | refine cw_scope ?_ | refine cw_label ?_ | refine cw_skip ?_)
  refine ow_call (fn := Try.f35) (by simp only [push_cast, env, Nat.reduceEqDiff, reduceIte, Nat.reduceAdd, Nat.reduceMul, Nat.reduceLeDiff, reduceCtorEq, Nat.reduceSub, Int.reduceToNat] <;> exact rfl) rfl (by simp only [push_cast, env, Nat.reduceEqDiff, reduceIte, Nat.reduceAdd, Nat.reduceMul, Nat.reduceLeDiff, reduceCtorEq, Nat.reduceSub, Int.reduceToNat] <;> exact rfl) (by simp only [push_cast, env, Nat.reduceEqDiff, reduceIte, Nat.reduceAdd, Nat.reduceMul, Nat.reduceLeDiff, reduceCtorEq, Nat.reduceSub, Int.reduceToNat] <;> exact rfl) Try.func35 (by kernel_rfl) (by kernel_rfl) ?_
  refine sum_fw.mono ?_
  rintro v2 h2 ⟨hr2, hp2⟩
  obtain ⟨u2, rfl, hu2⟩ := id hr2
  obtain ⟨p2, c2, rfl⟩ := hu2.form
  refine ow_bslH (by simp only [push_cast, env, Nat.reduceEqDiff, reduceIte, Nat.reduceAdd, Nat.reduceMul, Nat.reduceLeDiff, reduceCtorEq, Nat.reduceSub, Int.reduceToNat] <;> exact rfl) (by simp only [push_cast, env, Nat.reduceEqDiff, reduceIte, Nat.reduceAdd, Nat.reduceMul, Nat.reduceLeDiff, reduceCtorEq, Nat.reduceSub, Int.reduceToNat] <;> exact rfl) ?_
  simp only [St.putO, St.put]
  refine ow_frz (cells := [u8 49, u8 43, u8 43]) (by simp only [push_cast, env, Nat.reduceEqDiff, reduceIte, Nat.reduceAdd, Nat.reduceMul, Nat.reduceLeDiff, reduceCtorEq, Nat.reduceSub, Int.reduceToNat] <;> exact rfl) rfl und_bytes und_u8 (by simp only [push_cast, env, Nat.reduceEqDiff, reduceIte, Nat.reduceAdd, Nat.reduceMul, Nat.reduceLeDiff, reduceCtorEq, Nat.reduceSub, Int.reduceToNat] <;> exact rfl) get_push (by decide) ?_
  simp only [St.putO, St.put]
  have hs2 : (h2 ++ [HObj.arr [u8 49, u8 43, u8 43] 0 true 5]).set h2.length (HObj.arr [u8 49, u8 43, u8 43] 0 false 5) = h2 ++ [HObj.arr [u8 49, u8 43, u8 43] 0 false 5] := by simp
  rw [hs2]
  have hb2 : RdB (h2 ++ [HObj.arr [u8 49, u8 43, u8 43] 0 false 5]) (.slice (some ⟨h2.length, 0, some 0⟩) 3 3) [49, 43, 43] := rdb_fresh (w := [49, 43, 43]) (by decide) (by decide) get_push
  have hg2 := hr2.mono (h' := h2 ++ [HObj.arr [u8 49, u8 43, u8 43] 0 false 5]) prefix_push
  repeat (first | refine cw_seq ?_ | refine cw_region ?_ | refine ow_nil ?_ | ((first | apply ow_cons | apply qw_cons); · simp only [push_cast, env, Nat.reduceEqDiff, reduceIte, Nat.reduceAdd, Nat.reduceMul, Nat.reduceLeDiff, reduceCtorEq, Nat.reduceSub, Int.reduceToNat] <;> exact rfl) | ((first | apply ow_spec | apply qw_spec); · simp only [push_cast, env, Nat.reduceEqDiff, reduceIte, Nat.reduceAdd, Nat.reduceMul, Nat.reduceLeDiff, reduceCtorEq, Nat.reduceSub, Int.reduceToNat] <;> exact rfl) | refine qw_nil ?_ | refine cw_block ?_ | refine cw_scope ?_ | refine cw_label ?_ | refine cw_skip ?_)
  refine ow_call (fn := Try.f17) (by simp only [push_cast, env, Nat.reduceEqDiff, reduceIte, Nat.reduceAdd, Nat.reduceMul, Nat.reduceLeDiff, reduceCtorEq, Nat.reduceSub, Int.reduceToNat] <;> exact rfl) rfl (by simp only [push_cast, env, Nat.reduceEqDiff, reduceIte, Nat.reduceAdd, Nat.reduceMul, Nat.reduceLeDiff, reduceCtorEq, Nat.reduceSub, Int.reduceToNat] <;> exact rfl) (by simp only [push_cast, env, Nat.reduceEqDiff, reduceIte, Nat.reduceAdd, Nat.reduceMul, Nat.reduceLeDiff, reduceCtorEq, Nat.reduceSub, Int.reduceToNat] <;> exact rfl) Try.func17 (by kernel_rfl) (by kernel_rfl) ?_
  rw [List.append_nil]
  refine (last_fw hg2 hb2 sum_wf).mono ?_
  rintro _ ha2 ⟨⟨n2, rfl, _, k2⟩, hpa2⟩
  have hn2 : n2 = 2 := by
    obtain ⟨m, S, hm, C, e⟩ := k2 (sum_fit _ (by decide))
    rw [sum_trim hm] at C
    obtain ⟨q1, q2⟩ := sum_last C.m
    rw [e]
    show lastK S 4 = 2
    unfold lastK
    rw [if_neg (by rw [q1]; decide)]
    unfold lastK
    rw [if_pos (List.length_pos_iff.2 q2)]
    rfl
  subst hn2
  rw [sum_fit [49, 43, 43] (by decide)]
  clear hg2 hb2 hs2 hr2 hu2 k2
  repeat (first | refine cw_seq ?_ | refine cw_region ?_ | refine ow_nil ?_ | ((first | apply ow_cons | apply qw_cons); · simp only [push_cast, env, Nat.reduceEqDiff, reduceIte, Nat.reduceAdd, Nat.reduceMul, Nat.reduceLeDiff, reduceCtorEq, Nat.reduceSub, Int.reduceToNat] <;> exact rfl) | ((first | apply ow_spec | apply qw_spec); · simp only [push_cast, env, Nat.reduceEqDiff, reduceIte, Nat.reduceAdd, Nat.reduceMul, Nat.reduceLeDiff, reduceCtorEq, Nat.reduceSub, Int.reduceToNat] <;> exact rfl) | refine qw_nil ?_ | refine cw_block ?_ | refine cw_scope ?_ | refine cw_label ?_ | refine cw_skip ?_)
  refine ow_call (fn := Try.f35) (by simp only [push_cast, env, Nat.reduceEqDiff, reduceIte, Nat.reduceAdd, Nat.reduceMul, Nat.reduceLeDiff, reduceCtorEq, Nat.reduceSub, Int.reduceToNat] <;> exact rfl) rfl (by simp only [push_cast, env, Nat.reduceEqDiff, reduceIte, Nat.reduceAdd, Nat.reduceMul, Nat.reduceLeDiff, reduceCtorEq, Nat.reduceSub, Int.reduceToNat] <;> exact rfl) (by simp only [push_cast, env, Nat.reduceEqDiff, reduceIte, Nat.reduceAdd, Nat.reduceMul, Nat.reduceLeDiff, reduceCtorEq, Nat.reduceSub, Int.reduceToNat] <;> exact rfl) Try.func35 (by kernel_rfl) (by kernel_rfl) ?_
  refine sum_fw.mono ?_
  rintro v3 h3 ⟨hr3, hp3⟩
  obtain ⟨u3, rfl, hu3⟩ := id hr3
  obtain ⟨p3, c3, rfl⟩ := hu3.form
  refine ow_bslH (by simp only [push_cast, env, Nat.reduceEqDiff, reduceIte, Nat.reduceAdd, Nat.reduceMul, Nat.reduceLeDiff, reduceCtorEq, Nat.reduceSub, Int.reduceToNat] <;> exact rfl) (by simp only [push_cast, env, Nat.reduceEqDiff, reduceIte, Nat.reduceAdd, Nat.reduceMul, Nat.reduceLeDiff, reduceCtorEq, Nat.reduceSub, Int.reduceToNat] <;> exact rfl) ?_
  simp only [St.putO, St.put]
  refine ow_frz (cells := [u8 49, u8 43, u8 49]) (by simp only [push_cast, env, Nat.reduceEqDiff, reduceIte, Nat.reduceAdd, Nat.reduceMul, Nat.reduceLeDiff, reduceCtorEq, Nat.reduceSub, Int.reduceToNat] <;> exact rfl) rfl und_bytes und_u8 (by simp only [push_cast, env, Nat.reduceEqDiff, reduceIte, Nat.reduceAdd, Nat.reduceMul, Nat.reduceLeDiff, reduceCtorEq, Nat.reduceSub, Int.reduceToNat] <;> exact rfl) get_push (by decide) ?_
  simp only [St.putO, St.put]
  have hs3 : (h3 ++ [HObj.arr [u8 49, u8 43, u8 49] 0 true 5]).set h3.length (HObj.arr [u8 49, u8 43, u8 49] 0 false 5) = h3 ++ [HObj.arr [u8 49, u8 43, u8 49] 0 false 5] := by simp
  rw [hs3]
  have hb3 : RdB (h3 ++ [HObj.arr [u8 49, u8 43, u8 49] 0 false 5]) (.slice (some ⟨h3.length, 0, some 0⟩) 3 3) [49, 43, 49] := rdb_fresh (w := [49, 43, 49]) (by decide) (by decide) get_push
  have hg3 := hr3.mono (h' := h3 ++ [HObj.arr [u8 49, u8 43, u8 49] 0 false 5]) prefix_push
  repeat (first | refine cw_seq ?_ | refine cw_region ?_ | refine ow_nil ?_ | ((first | apply ow_cons | apply qw_cons); · simp only [push_cast, env, Nat.reduceEqDiff, reduceIte, Nat.reduceAdd, Nat.reduceMul, Nat.reduceLeDiff, reduceCtorEq, Nat.reduceSub, Int.reduceToNat] <;> exact rfl) | ((first | apply ow_spec | apply qw_spec); · simp only [push_cast, env, Nat.reduceEqDiff, reduceIte, Nat.reduceAdd, Nat.reduceMul, Nat.reduceLeDiff, reduceCtorEq, Nat.reduceSub, Int.reduceToNat] <;> exact rfl) | refine qw_nil ?_ | refine cw_block ?_ | refine cw_scope ?_ | refine cw_label ?_ | refine cw_skip ?_)
  refine ow_call (fn := Try.f19) (by simp only [push_cast, env, Nat.reduceEqDiff, reduceIte, Nat.reduceAdd, Nat.reduceMul, Nat.reduceLeDiff, reduceCtorEq, Nat.reduceSub, Int.reduceToNat] <;> exact rfl) rfl (by simp only [push_cast, env, Nat.reduceEqDiff, reduceIte, Nat.reduceAdd, Nat.reduceMul, Nat.reduceLeDiff, reduceCtorEq, Nat.reduceSub, Int.reduceToNat] <;> exact rfl) (by simp only [push_cast, env, Nat.reduceEqDiff, reduceIte, Nat.reduceAdd, Nat.reduceMul, Nat.reduceLeDiff, reduceCtorEq, Nat.reduceSub, Int.reduceToNat] <;> exact rfl) Try.func19 (by kernel_rfl) (by kernel_rfl) ?_
  rw [List.append_nil]
  refine (spans_fw (nt := 0) hg3 hb3 sum_wf).mono ?_
  rintro _ ha3 ⟨k3, hpa3⟩
  have hf3 := sum_fit [49, 43, 49] (by decide)
  obtain ⟨x3, e3, rfl, ⟨q, _⟩ | ⟨_, q, _⟩ | ⟨_, _, _, rfl, hG3⟩⟩ := k3
  · exact (q hf3).elim
  · exact absurd q (by decide)
  have hl3 : spanAll (ntB sumG.rules 0 [49, 43, 49]) 3 4 = [(0, 1), (0, 3), (2, 3)] := by
    have hP : ∀ i j, i ≤ j → j ≤ 3 → ntB sumG.rules 0 [49, 43, 49] i j = sumY 0 i j := fun i j hij hj => by
      rw [Bool.eq_iff_iff, ntB_iff]
      exact sum_spans i j hij hj
    have e : spanAll (ntB sumG.rules 0 [49, 43, 49]) 3 4 = spanAll (sumY 0) 3 4 := spanAll_congr hP 4 (by omega)
    rw [e]
    decide
  rw [show ([49, 43, 49] : List Nat).length = 3 from rfl, hl3] at hG3
  obtain ⟨i3, v3, _, rfl, hg3'⟩ := hG3.mine (by decide)
  clear hg3 hb3 hs3 hr3 hu3
  repeat (first | refine cw_seq ?_ | refine cw_region ?_ | refine ow_nil ?_ | ((first | apply ow_cons | apply qw_cons); · simp only [push_cast, env, Nat.reduceEqDiff, reduceIte, Nat.reduceAdd, Nat.reduceMul, Nat.reduceLeDiff, reduceCtorEq, Nat.reduceSub, Int.reduceToNat] <;> exact rfl) | ((first | apply ow_spec | apply qw_spec); · simp only [push_cast, env, Nat.reduceEqDiff, reduceIte, Nat.reduceAdd, Nat.reduceMul, Nat.reduceLeDiff, reduceCtorEq, Nat.reduceSub, Int.reduceToNat] <;> exact rfl) | refine qw_nil ?_ | refine cw_block ?_ | refine cw_scope ?_ | refine cw_label ?_ | refine cw_skip ?_)
  refine ow_call (fn := Try.f24) (by simp only [push_cast, env, Nat.reduceEqDiff, reduceIte, Nat.reduceAdd, Nat.reduceMul, Nat.reduceLeDiff, reduceCtorEq, Nat.reduceSub, Int.reduceToNat] <;> exact rfl) rfl (by simp only [push_cast, env, Nat.reduceEqDiff, reduceIte, Nat.reduceAdd, Nat.reduceMul, Nat.reduceLeDiff, reduceCtorEq, Nat.reduceSub, Int.reduceToNat] <;> exact rfl) (by simp only [push_cast, env, Nat.reduceEqDiff, reduceIte, Nat.reduceAdd, Nat.reduceMul, Nat.reduceLeDiff, reduceCtorEq, Nat.reduceSub, Int.reduceToNat] <;> exact rfl) Try.func24 (by kernel_rfl) (by kernel_rfl) ?_
  rw [List.append_nil]
  have hf4 : fitE ⟨0, 0, []⟩ [] = 3 := by unfold fitE; rw [if_pos (by decide)]
  refine (chartbad_fw (g := ⟨0, 0, []⟩) (w := []) ⟨_, rfl, [], rfl, ⟨by decide, .inl ⟨.inl rfl, rfl, rfl⟩⟩, fun i r u h => by simp at h⟩ ⟨by decide, by decide, .inl ⟨.inl rfl, rfl⟩⟩ (by rw [hf4]; decide)).mono ?_
  rintro _ h4 ⟨rfl, rfl⟩
  rw [hf4]
  have hrun : rdH (runCells [(0, 1), (0, 3), (2, 3)]) 2 2 = some [i64 0, i64 3] := rfl
  repeat (first | refine cw_seq ?_ | refine cw_region ?_ | refine ow_nil ?_ | ((first | apply ow_cons | apply qw_cons); · simp only [push_cast, env, Nat.reduceEqDiff, reduceIte, Nat.reduceAdd, Nat.reduceMul, Nat.reduceLeDiff, reduceCtorEq, Nat.reduceSub, Int.reduceToNat, hg3', hrun, Int.reduceLE, Int.reduceLT, Int.reduceToNat, Nat.reduceMul, Int.reduceEq, List.length_cons, List.length_nil] <;> exact rfl) | ((first | apply ow_spec | apply qw_spec); · simp only [push_cast, env, Nat.reduceEqDiff, reduceIte, Nat.reduceAdd, Nat.reduceMul, Nat.reduceLeDiff, reduceCtorEq, Nat.reduceSub, Int.reduceToNat, hg3', hrun, Int.reduceLE, Int.reduceLT, Int.reduceToNat, Nat.reduceMul, Int.reduceEq, List.length_cons, List.length_nil] <;> exact rfl) | refine qw_nil ?_ | refine cw_block ?_ | refine cw_scope ?_ | refine cw_label ?_ | refine cw_skip ?_)
  refine cw_ret ?_
  exact ⟨_, (by simp only [push_cast, env, Nat.reduceEqDiff, reduceIte, Nat.reduceAdd, Nat.reduceMul, Nat.reduceLeDiff, reduceCtorEq, Nat.reduceSub, Int.reduceToNat] <;> exact rfl), rfl⟩
theorem alive7_fw {h : Heap} : FW env 14 [] h fun r h' => r = .bool true ∧ h' = h := by
  have k := alive7_run
  unfold FW at k ⊢
  obtain ⟨r, h', k1, rfl⟩ := k
  exact ⟨_, _, .fresh k1 (.pure1 rfl), rfl, rfl⟩
end Go.Proofs.Ytafncpgiibikcaa

/- Texts that are copied and that become strings. -/
namespace Go.Proofs.Ytafncpgiibikcaa
set_option linter.unusedSimpArgs false
set_option linter.unusedVariables false
set_option maxRecDepth 20000
open Go.RowKit Am Ty

theorem rd_point {cells : List Value} {off : Nat} {w : List Nat} (hw : 0 < w.length) (h : ∀ (i b : Nat), w[i]? = some b → cells[off + i]? = some (u8 b)) : rdH cells off w.length = some (w.map fun n : Nat => u8 n) := by
  have hl : off + w.length ≤ cells.length := by
    have := h (w.length - 1) w[w.length - 1] (List.getElem?_eq_getElem (by omega))
    have := (List.getElem?_eq_some_iff.1 this).1
    omega
  unfold rdH rdC
  rw [if_pos hl]
  congr 1
  apply List.ext_getElem?
  intro i
  rw [List.getElem?_map, List.getElem?_take]
  split
  · rename_i hi
    rw [List.getElem?_drop, h i w[i] (List.getElem?_eq_getElem hi), List.getElem?_eq_getElem hi]
    rfl
  · rename_i hi
    rw [List.getElem?_eq_none (by omega)]
    rfl
end Go.Proofs.Ytafncpgiibikcaa

/- Texts that a row reads. -/
namespace Go.Proofs.Ytafncpgiibikcaa
set_option linter.unusedSimpArgs false
set_option linter.unusedVariables false
set_option maxRecDepth 20000
open Go.ChangeShapes Go.WideShapes Go.ChangeAt Go.RowKit Am Ty

def textTs : List TypeId := [24, 3, 22, 46, 44, 43, 41, 39, 25, 5]
set_option maxRecDepth 100000 in
theorem textTs_ok : textTs.all (kindB Try.prog textTs) = true := by kernel_rfl
theorem rd_u8 {h : Heap} {n : Nat} {vs : List Value} (k : RdT Try.prog h n 5 vs) : ∃ b : Nat, vs = [u8 b] ∧ b < 256 := by
  cases n with
  | zero => exact k.elim
  | succ n =>
    unfold RdT at k
    rw [show Try.prog.underlying 5 = some (.int .u8) by kernel_rfl] at k
    obtain ⟨i, h1, h2⟩ := k
    simp only [Lit.wf, Bool.and_eq_true, decide_eq_true_eq] at h2
    have e1 : IntKind.u8.min = 0 := by decide
    have e2 : IntKind.u8.max = 255 := by decide
    refine ⟨i.toNat, ?_, by omega⟩
    rw [h1, show ((i.toNat : Nat) : Int) = i by omega]
theorem flat_u8 {f : Nat → Value} : ∀ w : List Nat, w.flatMap (fun n => [f n]) = w.map f
  | [] => rfl
  | b :: w => by rw [List.flatMap_cons, flat_u8 w]; rfl
theorem rd_bytes {h : Heap} {n : Nat} {vs : List Value} (k : RdT Try.prog h n 25 vs) : ∃ u w, vs = [u] ∧ RdB h u w := by
  cases n with
  | zero => exact k.elim
  | succ n =>
    unfold RdT at k
    rw [show Try.prog.underlying 25 = some (.slice 5) by kernel_rfl] at k
    rcases k with rfl | rfl | ⟨id, len, c, cells, rfl, hb, hid, he⟩
    · exact ⟨_, [], rfl, by decide, by decide, .inl ⟨.inl rfl, rfl⟩⟩
    · exact ⟨_, [], rfl, by decide, by decide, .inl ⟨.inr rfl, rfl⟩⟩
    · obtain ⟨w, rfl, rfl, hq⟩ := es_map (f := fun n : Nat => [u8 n]) (Q := fun n => n < 256) (fun vs h => rd_u8 h) he
      rw [show Try.prog.bytesOf 5 = 1 by kernel_rfl, Nat.mul_one] at hb
      rw [flat_u8] at hid
      exact ⟨_, w, rfl, Nat.le_trans hb (by decide), hq, .inr ⟨id, 0, 0, false, c, _, rfl, hid, fun i b hi => by rw [Nat.zero_add, List.getElem?_map, hi]; rfl⟩⟩
theorem rda_bytes {h : Heap} {a : Value} (k : RdA Try.prog h 25 a) : ∃ w : List Nat, RdB h a w := by
  obtain ⟨n, vs, k, ⟨h1, _⟩ | ⟨_, rfl⟩⟩ := k
  · have : isAggT Try.prog 25 = false := by kernel_rfl
    rw [this] at h1
    cases h1
  · obtain ⟨u, w, e, hw⟩ := rd_bytes k
    exact ⟨w, by rw [show a = u by simpa using e]; exact hw⟩
end Go.Proofs.Ytafncpgiibikcaa

/- EarleySpans, as the abstract machine runs it. -/
namespace Go.Proofs.Ytafncpgiibikcaa
set_option linter.unusedSimpArgs false
set_option linter.unusedVariables false
set_option maxRecDepth 20000
open Go.RowKit Am Ty

theorem spanAll_small {P : Nat → Nat → Bool} {n : Nat} (hn : n ≤ 512) : (spanAll P n (n + 1)).length ≤ 263169 := by
  have h1 := spanAll_len (P := P) (n := n) (n + 1)
  have h2 : (n + 1) * (n + 1) ≤ 513 * 513 := Nat.mul_le_mul (by omega) (by omega)
  omega
/-- what is told of spans, as two lists -/
theorem SpansR.runs {g : Gram} {w : List Nat} {nt : Int} {h h' : Heap} {r : Value} (k : SpansR g w nt h r h') : ∃ x e l, r = .tuple #[x, i64 e] ∧ RdRuns h' x l ∧
    ((fitE g w ≠ 0 ∧ l = [] ∧ e = fitE g w) ∨ (fitE g w = 0 ∧ (nt < 0 ∨ g.nts ≤ nt) ∧ l = [] ∧ e = 1) ∨ (fitE g w = 0 ∧ 0 ≤ nt ∧ nt < g.nts ∧ e = 0 ∧ l = spanAll (ntB g.rules nt w) w.length (w.length + 1))) := by
  obtain ⟨x, e, rfl, ⟨h1, rfl, rfl⟩ | ⟨h1, h2, rfl, rfl⟩ | ⟨h1, h2, h3, rfl, hG⟩⟩ := k
  · exact ⟨nilS, _, [], rfl, ⟨by simp, .inl ⟨.inl rfl, rfl, rfl⟩⟩, .inl ⟨h1, rfl, rfl⟩⟩
  · exact ⟨nilS, _, [], rfl, ⟨by simp, .inl ⟨.inl rfl, rfl, rfl⟩⟩, .inr (.inl ⟨h1, h2, rfl, rfl⟩)⟩
  · have := spanAll_small (P := ntB g.rules nt w) (fitE_ok.1 h1).2
    exact ⟨x, _, _, rfl, hG.sl (b := 16) (by omega), .inr (.inr ⟨h1, h2, h3, rfl, rfl⟩)⟩
end Go.Proofs.Ytafncpgiibikcaa

/- EarleyWhole, as the abstract machine runs it. -/
namespace Go.Proofs.Ytafncpgiibikcaa
set_option linter.unusedSimpArgs false
set_option linter.unusedVariables false
set_option maxRecDepth 20000
open Go.RowKit Am Ty

theorem one_callE {all : Array Oper} {o : Oper} {s : St} {c : Call} {f : FuncId} {cap args : List Value} {fn : Func} {v : Value} {h' : Heap} (hw : wantedA all o s = some true) (ho : o.op = .call c) (hc : calleeA s c.callee = some (f, cap)) (ha : evs s c.args.toList = some args)
    (hf : env.P.funcs[f]? = some fn) (hnm : (fn.name == "runtime.NumGoroutine") = false) (hb : fn.body.isNone = false) (k : Ev env (.call f (args ++ cap) s.h v h')) : One env all o s (.sl (.val v)) h' := .call hw ho hc ha hf hnm hb k
theorem one_slice {all : Array Oper} {o : Oper} {s : St} {v : Value} {h : Heap} {t : TypeId} {x : Operand} {ol oh : Option Operand} (hh : s.h = h) (hw : wantedA all o s = some true) (ho : o.op = .slice t x ol oh none) (hv : sliceV env s t x ol oh = some v) : One env all o s (.sl (.val v)) h :=
  one_val hh hw (by rw [ho]; exact hv)
end Go.Proofs.Ytafncpgiibikcaa

/- The abstract machine: a region whose operations go in any order, one of which stores into a box that the region makes. -/
namespace Go.Proofs.Ytafncpgiibikcaa.Am
set_option linter.unusedSimpArgs false
set_option linter.unusedVariables false
open Go.RowKit

section
variable {N : Env} {ops : Array Oper} {L : List (List Nat)} {act : List Nat} {s0 : St} {res res' : Nat → Res} {Hs : Nat → Heap} {a st d : Nat} {cs' : List Value} {v0 : Slot}
def SInv (N : Env) (ops : Array Oper) (act : List Nat) (s0 : St) (res res' : Nat → Res) (Hs : Nat → Heap) (st : Nat) (S : Array Bool) (t : St) : Prop :=
  (S.getD st false = false ∧ OInv N ops act s0 res Hs S t) ∨ (S.getD st false = true ∧ OInv N ops act s0 res' Hs S t)
structure StoC (N : Env) (ops : Array Oper) (L : List (List Nat)) (act : List Nat) (s0 : St) (res res' : Nat → Res) (a st d : Nat) (cs' : List Value) (v0 : Slot) : Prop where
  same : ∀ j, j ≠ a → res' j = res j
  da : dstAt ops a = some d
  ra0 : res a = .sl v0
  ra : res' a = .sl (.box cs')
  o : ∃ o, ops[st]? = some o ∧ o.dst = none
  anc : a ∈ ancs L st
  na : st ∉ act
  free : ∀ i, i ≠ st → a ∉ ancs L i
  sto : ∀ o h, ops[st]? = some o → ∃ V, View ops L s0 res st V ∧ V.h = h ∧ ∀ t, SubS V t → Ev N (.ops ops [o] t { t with fr := fput t.fr d (.box cs') })
theorem SInv.step (C : Cert ops L act) (Z : StoC N ops L act s0 res res' a st d cs' v0) (hT : ∀ j sl off, res j = .ep sl off → ∀ i, dstAt ops i ≠ some sl)
    (hstep : ∀ i o k, i ≠ st → ops[i]? = some o → k ≤ act.length → stageB L act i k = true → ∃ V, View ops L s0 res i V ∧ V.h = Hs k ∧ One N ops o V (res i) (Hs (if i ∈ act then k + 1 else k)))
    {S : Array Bool} {t : St} {i : Nat} {o : Oper} (I : SInv N ops act s0 res res' Hs st S t) (hi : i ∈ Region.ready .any ops S) (ho : ops[i]? = some o) :
    ∃ s', Ev N (.ops ops [o] t s') ∧ SInv N ops act s0 res res' Hs st (S.setIfInBounds i true) s' := by
  have hT' : ∀ j sl off, res' j = .ep sl off → ∀ i, dstAt ops i ≠ some sl := fun j sl off h => by
    by_cases hj : j = a
    · subst hj
      rw [Z.ra] at h
      cases h
    · rw [Z.same j hj] at h
      exact hT j sl off h
  obtain ⟨hun, oi, hoi, hall⟩ := mem_ready.1 hi
  obtain rfl : oi = o := Option.some.inj (hoi.symm.trans ho)
  have hlt : i < ops.size := (Array.getElem?_eq_some_iff.1 ho).1
  have hr : ∀ o, ops[i]? = some o → ∀ e ∈ o.after, Region.binds .any e = true → S.getD e.on false = true := fun o' ho' e he hb => by
    obtain rfl : oi = o' := Option.some.inj (ho.symm.trans ho')
    exact hall e he hb
  have hnot : S.getD i false = false := getD_both hun
  obtain ⟨ost, host, hdn⟩ := Z.o
  have hstd : dstAt ops st = none := by simp [dstAt, host, hdn]
  rcases I with ⟨h0, I⟩ | ⟨h0, I⟩
  · by_cases his : i = st
    · subst his
      have hltS : i < S.size := by rw [I.size]; exact hlt
      have hset : ∀ j, ((S.setIfInBounds i true).getD j false = true) ↔ (j = i ∨ S.getD j false = true) := fun j => getD_set_ite hltS
      obtain ⟨V, hV, hVh, hsto⟩ := Z.sto oi t.h ho
      have hsub := hV.sub C I hlt hr hVh
      have hain : S.getD a false = true := anc_in C I.size I.closed i a hlt hr Z.anc
      refine ⟨_, hsto t hsub, .inr ⟨(hset i).2 (.inl rfl), by simp [I.size], fun j o hj hl e he hb => ?_, ?_, fun x hx => ?_, fun j d' v hj hl hv => ?_, fun j d' sl off hj hl hv => ?_, I.tgt⟩⟩
      · rw [hset]
        rcases (hset j).1 hl with rfl | h
        · exact .inr (hr o hj e he hb)
        · exact .inr (I.closed j o hj h e he hb)
      · obtain ⟨k, hk, hh, hpre⟩ := I.pre
        refine ⟨k, hk, hh, fun j hj => ?_⟩
        rw [hset]
        constructor
        · rintro (h | h)
          · exact (Z.na (by rw [← h]; simp [hj])).elim
          · exact (hpre j hj).1 h
        · exact fun h => .inr ((hpre j hj).2 h)
      · have hxd : d ≠ x := fun e => hx a (e ▸ Z.da)
        simp only [fget_fput]
        rw [if_neg hxd]
        exact I.out x hx
      · have hji : j ≠ i := fun e => by rw [e, hstd] at hj; cases hj
        have hl' := ((hset j).1 hl).resolve_left hji
        by_cases hja : j = a
        · subst hja
          obtain rfl : d = d' := Option.some.inj (Z.da.symm.trans hj)
          rw [Z.ra] at hv
          cases hv
          simp only [fget_fput, if_true]
          exact ⟨trivial, (I.gotS j d v0 hj hl' Z.ra0).2⟩
        · have hdd : d ≠ d' := fun e => hja (C.dst j a d (e ▸ hj) Z.da)
          simp only [fget_fput]
          rw [if_neg hdd]
          rw [Z.same j hja] at hv
          exact I.gotS j d' v hj hl' hv
      · have hji : j ≠ i := fun e => by rw [e, hstd] at hj; cases hj
        have hja : j ≠ a := fun e => by rw [e, Z.ra] at hv; cases hv
        rw [Z.same j hja] at hv
        exact I.gotE j d' sl off hj (((hset j).1 hl).resolve_left hji) hv
    · obtain ⟨s', h1, h2⟩ := I.step C hT (fun o k => hstep i o k his) hi ho
      exact ⟨s', h1, .inl ⟨by rw [getD_set_ne false his]; exact h0, h2⟩⟩
  · have his : i ≠ st := fun e => by rw [e, h0] at hnot; cases hnot
    have hlst : st < ops.size := (Array.getElem?_eq_some_iff.1 host).1
    have hia : i ≠ a := fun e => by
      have := anc_in C I.size I.closed st a hlst (fun o' ho' e he hb => I.closed st o' ho' h0 e he hb) Z.anc
      rw [← e, hnot] at this
      cases this
    obtain ⟨s', h1, h2⟩ := I.step C hT' (fun o k h1 h2 h3 => by
      obtain ⟨V, hV, hVh, hone⟩ := hstep i o k his h1 h2 h3
      refine ⟨V, ⟨fun x => ?_, fun x p hp => ?_, hV.n⟩, hVh, by rw [Z.same i hia]; exact hone⟩
      · rcases hV.f x with h | h | ⟨j, h4, h5, h6⟩
        · exact .inl h
        · exact .inr (.inl h)
        · refine .inr (.inr ⟨j, h4, h5, ?_⟩)
          rw [Z.same j (fun e => Z.free i his (e ▸ h5))]
          exact h6
      · obtain ⟨j, sl, off, h4, h5, h6, h7⟩ := hV.e x p hp
        refine ⟨j, sl, off, h4, h5, ?_, h7⟩
        rw [Z.same j (fun e => Z.free i his (e ▸ h5))]
        exact h6) hi ho
    exact ⟨s', h1, .inr ⟨by rw [getD_set_ne false his]; exact h0, h2⟩⟩
theorem ev_orderS {id : Nat} {s : St} {frF : Fr} (hm : N.P.follows .mixedOrders = true) (C : Cert ops L act) (Z : StoC N ops L act s res res' a st d cs' v0) (hT : ∀ j sl off, res j = .ep sl off → ∀ i, dstAt ops i ≠ some sl)
    (hstep : ∀ i o k, i ≠ st → ops[i]? = some o → k ≤ act.length → stageB L act i k = true → ∃ V, View ops L s res i V ∧ V.h = Hs k ∧ One N ops o V (res i) (Hs (if i ∈ act then k + 1 else k)))
    (hact : ∀ a ∈ act, a < ops.size) (h0 : s.h = Hs 0) (hF : ∀ p ∈ frF, ((∀ j, dstAt ops j ≠ some p.1) ∧ fget s.fr p.1 = p.2) ∨ ∃ j, dstAt ops j = some p.1 ∧ res' j = .sl p.2) :
    Ev N (.code (.region id ops true) s .normal ⟨frF, [], Hs act.length⟩) := by
  classical
  refine .regionO (SInv N ops act s res res' Hs st) (fun S t i => match ops[i]? with
    | some o => if h : ∃ s', Ev N (.ops ops [o] t s') ∧ SInv N ops act s res res' Hs st (S.setIfInBounds i true) s' then h.choose else t
    | none => t) hm ?_ ?_ ?_ ?_ rfl
  · refine .inl ⟨getD_replicate_false _ _, by simp, fun j o _ hl => ?_, ⟨0, Nat.zero_le _, h0, fun j _ => ?_⟩, fun x _ => ⟨rfl, rfl⟩, fun j d v _ hl => ?_, fun j d sl off _ hl => ?_, fun q hq => by cases hq⟩
    · rw [getD_replicate_false] at hl
      cases hl
    · rw [getD_replicate_false]
      simp
    · rw [getD_replicate_false] at hl
      cases hl
    · rw [getD_replicate_false] at hl
      cases hl
  · intro S t i o I hi ho
    simp only [ho]
    have h := SInv.step C Z hT hstep I hi ho
    rw [dif_pos h]
    exact h.choose_spec.1
  · intro S t i o I hi ho
    simp only [ho]
    have h := SInv.step C Z hT hstep I hi ho
    rw [dif_pos h]
    exact h.choose_spec.2
  · intro S t I hr
    have hsz : S.size = ops.size := by
      rcases I with ⟨_, I⟩ | ⟨_, I⟩
      · exact I.size
      · exact I.size
    have hall : ∀ i, i < ops.size → S.getD i false = true := by
      intro i
      induction i using Nat.strongRecOn with
      | _ i ih =>
        intro hi
        cases hb : S.getD i false with
        | true => rfl
        | false =>
          have : i ∈ Region.ready .any ops S := mem_ready.2 ⟨getD_in (by rw [hsz]; exact hi) hb, ops[i], Array.getElem?_eq_getElem hi, fun e he hbi => by
            have hlow := C.low i _ (Array.getElem?_eq_getElem hi) e he hbi
            exact ih e.on hlow (by omega)⟩
          rw [hr] at this
          cases this
    obtain ⟨ost, host, _⟩ := Z.o
    have hst := hall st (Array.getElem?_eq_some_iff.1 host).1
    rcases I with ⟨h, _⟩ | ⟨_, I⟩
    · rw [hst] at h
      cases h
    refine ⟨fun p hp => ?_, ?_⟩
    · rcases hF p hp with ⟨h1, h2⟩ | ⟨j, h1, h2⟩
      · exact (I.out p.1 h1).1.trans h2
      · exact (I.gotS j p.1 p.2 h1 (hall j (dstAt_lt h1)) h2).1
    · obtain ⟨k, hk, hh, hpre⟩ := I.pre
      have : k = act.length := by
        rcases Nat.lt_or_ge k act.length with h | h
        · have := (hpre k h).1 (hall _ (hact _ (by simp [h])))
          omega
        · omega
      rw [hh, this]
def freeB (ops : Array Oper) (L : List (List Nat)) (a st : Nat) : Bool := (List.range L.length).all fun i => decide (i = st) || !(ancs L i).contains a
theorem freeB_ok (h : freeB ops L a st = true) {i : Nat} (hi : i ≠ st) : a ∉ ancs L i := fun hm => by
  unfold freeB at h
  rw [List.all_eq_true] at h
  have hl : i < L.length := by
    rcases Nat.lt_or_ge i L.length with h1 | h1
    · exact h1
    · unfold ancs at hm
      rw [List.getElem?_eq_none h1] at hm
      cases hm
  have := h i (List.mem_range.2 hl)
  simp only [Bool.or_eq_true, decide_eq_true_eq, Bool.not_eq_true', List.contains_eq_mem, decide_eq_false_iff_not] at this
  rcases this with h1 | h1
  · exact hi h1
  · exact h1 hm
/-- steps of all operations but one -/
theorem cw_ordS {id : Nat} {fr : Fr} {h : Heap} {Q : AX → St → Prop} (L : List (List Nat)) (act : List Nat) (hs : List Heap) (resL : List Res) (frF : Fr) (a st d : Nat) (cs' : List Value) {cs vs : List Value} {o : Oper} {ty : TypeId} {x y : Operand} {ti : TI} {off : Nat} {v : Value}
    (hm : N.P.follows .mixedOrders = true) (hc : ordB ops L act = true) (ha : act.all (fun a => decide (a < ops.size)) = true) (hb : apartB (dstsOf ops) fr = true) (hfree : freeB ops L a st = true) (hna : act.contains st = false) (hanc : (ancs L st).contains a = true)
    (ho : ops[st]? = some o) (hop : o.op = .store ty x y) (hod : o.dst = none) (hda : dstAt ops a = some d)
    (hS1 : StepsA N ops L act resL (h :: hs) fr 0 (ops.toList.take st)) (hS2 : StepsA N ops L act resL (h :: hs) fr (st + 1) (ops.toList.drop (st + 1))) (hra : resL[a]? = some (.sl (.box cs)))
    (hti : tinfo N.P ty = some ti) (hw : ∀ H, wantedA ops o (vw ops L resL fr H st) = some true) (hp : ∀ H, plc (vw ops L resL fr H st) x = some (d, off)) (hbx : ∀ H, fget (vw ops L resL fr H st).fr d = .box cs) (hv : ∀ H, ev (vw ops L resL fr H st) y = some v) (hvs : vcells ti.size v = some vs) (hwr : wrC cs off vs = some cs')
    (ht : tgtB ops resL = true) (hF : FinOK ops (resL.set a (.sl (.box cs'))) fr frF) (k : Q .normal ⟨frF, [], hpF (h :: hs) act.length⟩) : CW N (.region id ops true) ⟨fr, [], h⟩ Q := by
  have C := ordB_cert hc
  unfold CW
  have hvw : ∀ H i, vw ops L resL fr H i = viewOf ops L resL fr H i := fun H i => by unfold vw viewOf; rw [baseFr_id hb]
  have hS1' := StepsA.ok (fr := fr) (by rw [baseFr_id hb]; exact hS1)
  have hS2' := StepsA.ok (fr := fr) (by rw [baseFr_id hb]; exact hS2)
  have hal : a < resL.length := (List.getElem?_eq_some_iff.1 hra).1
  have hT : ∀ j sl off, resF resL j = .ep sl off → ∀ i, dstAt ops i ≠ some sl := by
    intro j sl off hr i hi
    unfold resF at hr
    cases hj : resL[j]? with
    | none => simp [hj] at hr
    | some r =>
      simp only [hj, Option.getD_some] at hr
      have := List.all_eq_true.1 ht r (List.mem_of_getElem? hj)
      rw [hr] at this
      simp only [Bool.not_eq_true', List.contains_eq_mem, decide_eq_false_iff_not] at this
      exact this (mem_dstsOf hi)
  refine ⟨_, _, ev_orderS (s := ⟨fr, [], h⟩) (res := resF resL) (res' := resF (resL.set a (.sl (.box cs')))) (Hs := hpF (h :: hs)) (a := a) (st := st) (d := d) (cs' := cs') (v0 := .box cs) hm C ?_ hT ?_ (fun a h => by simpa using List.all_eq_true.1 ha a h) rfl (fun p hp => hF.at hp), k⟩
  · refine ⟨fun j hj => ?_, hda, ?_, ?_, ⟨o, ho, hod⟩, List.contains_iff_mem.1 hanc, fun hh => (by rw [List.contains_iff_mem.2 hh] at hna; cases hna), fun i hi => freeB_ok hfree hi, fun o' H ho' => ?_⟩
    · unfold resF
      rw [List.getElem?_set_ne (fun e => hj e.symm)]
    · unfold resF
      rw [hra]
      rfl
    · unfold resF
      rw [List.getElem?_set_self hal]
      rfl
    · obtain rfl : o = o' := Option.some.inj (ho.symm.trans ho')
      refine ⟨viewOf ops L resL fr H st, view_ok (s0 := ⟨fr, [], h⟩) C, rfl, fun t hsub => ?_⟩
      rw [← hvw] at hsub
      exact .opSto (wantedA_mono hsub (hw H)) hop hti (plc_mono hsub (hp H)) (box_mono hsub (hbx H)) (ev_mono hsub (hv H)) hvs hwr hod (.nil _ _)
  · intro i o' k hne ho' hk hst
    refine ⟨viewOf ops L resL fr (hpF (h :: hs) k) i, view_ok (s0 := ⟨fr, [], h⟩) C, rfl, ?_⟩
    have hlt : i < ops.size := (Array.getElem?_eq_some_iff.1 ho').1
    rcases Nat.lt_or_ge i st with h1 | h1
    · exact (StepsOK.atT hS1' h1 ho').at (List.mem_range.2 (by omega)) hst
    · have := StepsOK.at (j := i - (st + 1)) hS2' (by rw [List.getElem?_drop, show st + 1 + (i - (st + 1)) = i by omega]; simpa using ho')
      rw [show st + 1 + (i - (st + 1)) = i by omega] at this
      exact this.at (List.mem_range.2 (by omega)) hst
end
end Go.Proofs.Ytafncpgiibikcaa.Am

/- Texts that are built. -/
namespace Go.Proofs.Ytafncpgiibikcaa
set_option linter.unusedSimpArgs false
set_option linter.unusedVariables false
set_option maxRecDepth 20000
open Go.RowKit Am Ty

def u8s (w : List Nat) : List Value := w.map fun n : Nat => u8 n
def GB (h hk : Heap) (v : Value) (w : List Nat) : Prop := Grow h hk v w.length (u8s w) 5 ∧ (∀ b ∈ w, b < 256) ∧ w.length ≤ 140737488355328
theorem GB.nil {h hk : Heap} : GB h hk nilS [] := ⟨Grow.nil, by simp, by simp⟩
theorem GB.rdb {h hk : Heap} {v : Value} {w : List Nat} (g : GB h hk v w) : RdB hk v w := by
  obtain ⟨g1, g2, g3⟩ := g
  refine ⟨g3, g2, ?_⟩
  rcases g1 with ⟨h1, h2, h3⟩ | ⟨id, ver, h1, h2, h3⟩
  · exact .inl ⟨.inl h3, List.eq_nil_of_length_eq_zero h1⟩
  · exact .inr ⟨id, 0, ver, true, _, _, h2, h3, fun i b hi => by rw [Nat.zero_add]; unfold u8s; rw [List.getElem?_map, hi]; rfl⟩
theorem GB.form {h hk : Heap} {v : Value} {w : List Nat} (g : GB h hk v w) : ∃ p c, v = .slice p w.length c := g.rdb.form
theorem ow_appB {all : Array Oper} {o : Oper} {r : List Oper} {s : St} {K : St → Prop} {x y : Operand} {vx v : Value} {a w : List Nat} {h : Heap} (hx : GB h s.h vx a) (hp : h <+: s.h) (hy : RdB s.h v w) (hl : a.length + w.length ≤ 140737488355328) (hw : wantedA all o s = some true) (ho : o.op = .call { callee := .builtin .append, args := #[x, y], argTypes := #[25, 25] }) (hxv : ev s x = some vx) (hyv : ev s y = some v)
    (k : ∀ v' h', h <+: h' → GB h h' v' (a ++ w) → OW env all r ({ s with h := h' }.putO o.dst (.val v')) K) : OW env all (o :: r) s K := by
  obtain ⟨p, c, rfl⟩ := hy.form
  obtain ⟨px, cx, rfl⟩ := hx.form
  rcases Nat.eq_zero_or_pos w.length with h0 | h0
  · rw [h0] at hyv
    have hw0 : w = [] := List.eq_nil_of_length_eq_zero h0
    refine ow_appZ (t := 25) hw ho und_bytes u8_size hxv hyv ?_
    have := k (.slice px a.length cx) s.h hp (by rw [hw0, List.append_nil]; exact hx)
    exact this
  · have hy0 := hy
    rcases hy0.2.2 with ⟨_, k2⟩ | ⟨id, off, ver, own, c', cells, k1, k2, k3⟩
    · subst k2; simp at h0
    · rw [k1] at hyv
      have hrd := rd_point h0 k3
      have hyt : ∃ tmp, y = .tmp tmp := by
        cases y with
        | tmp t => exact ⟨t, rfl⟩
        | const q =>
          simp only [ev] at hyv
          split at hyv
          · rename_i hp
            cases hyv
            simp [pureV, pure1] at hp
          · cases hyv
        | func f => simp [ev] at hyv
        | global g => simp [ev] at hyv
      obtain ⟨t, rfl⟩ := hyt
      have hf : fget s.fr t = .val (.slice (some ⟨id, off, some ver⟩) w.length c') := by
        simp only [ev] at hyv
        split at hyv
        · rename_i q hq
          cases hyv
          exact hq
        · cases hyv
      have hi : itemsC s s.h 1 (.tmp t) = some (u8s w, w.length) := by simp only [itemsC, hf, k2, if_true, Nat.mul_one, hrd, Option.map_some]; rfl
      have hmem : ∀ b ∈ a ++ w, b < 256 := fun b hb => by
        rcases List.mem_append.1 hb with hb | hb
        · exact hx.2.1 b hb
        · exact hy.2.1 b hb
      have hcat : u8s (a ++ w) = u8s a ++ u8s w := by unfold u8s; rw [List.map_append]
      have hla : (u8s a).length = a.length := by unfold u8s; simp
      rcases hx.1 with ⟨e1, e2, e3⟩ | ⟨idx, vex, e1, e2, e3⟩
      · have ha0 : a = [] := List.eq_nil_of_length_eq_zero e1
        rw [e3] at hxv
        refine ow_app0 (t := 25) (cs := u8s w) (m := w.length) hw ho und_bytes u8_size (by decide) rfl hxv hi h0 (by have := hy.1; simp only; omega) hy.1 ?_
        refine k _ _ (pre_push hp) ⟨?_, hmem, by rw [List.length_append]; omega⟩
        rw [ha0, List.nil_append]
        exact .inr ⟨s.h.length, 0, hp.length_le, rfl, get_push⟩
      · rw [e2] at hxv
        refine ow_app (t := 25) (cs := u8s w) (m := w.length) hw ho und_bytes u8_size (by decide) rfl hxv e3 (by simp only [hla]; omega) hi (by simp only; omega) hl ?_
        rw [List.take_of_length_le (by simp only [hla]; omega), ← hcat]
        refine k _ _ (pre_set hp e1) ⟨?_, hmem, by rw [List.length_append]; exact hl⟩
        rw [List.length_append]
        exact .inr ⟨idx, vex + 1, e1, rfl, get_set_self e3⟩
end Go.Proofs.Ytafncpgiibikcaa

/- Plain facts: beginnings of texts. -/
namespace Go.Proofs.Ytafncpgiibikcaa
set_option linter.unusedSimpArgs false
set_option linter.unusedVariables false

/-- a symbol that has a text -/
def GoodS (g : Gram) (s : KSym) : Prop := (s.nt < 0 → goodT s) ∧ (0 ≤ s.nt → goodD g s.nt)
/-- a nonterminal has a text that begins with the rest of w -/
inductive Bg (g : Gram) (w : List Nat) : Int → Nat → Prop
  | full (r : Rule) (d i : Nat) : r ∈ g.rules → d ≤ r.rhs.length → Sq g.rules w (r.rhs.take d) i w.length → (∀ s ∈ r.rhs.drop d, GoodS g s) → Bg g w r.lhs i
  | part (r : Rule) (d i k : Nat) (s : KSym) : r ∈ g.rules → r.rhs[d]? = some s → 0 ≤ s.nt → (∀ s ∈ r.rhs.drop (d + 1), GoodS g s) → Sq g.rules w (r.rhs.take d) i k → Bg g w s.nt k → Bg g w r.lhs i
theorem tx_good {g : Gram} {l : List KSym} {u : List Nat} (h : Tx g.rules l u) : ∀ s ∈ l, GoodS g s := by
  induction h with
  | nil => intro s hs; cases hs
  | term s l b u h1 h2 _ ih =>
    intro q hq
    rcases List.mem_cons.1 hq with rfl | hq
    · exact ⟨fun _ e => (by rw [e, zero_has] at h2; cases h2), fun h => by omega⟩
    · exact ih q hq
  | non s l r u v h1 h2 h3 h4 _ ih1 ih2 =>
    intro q hq
    rcases List.mem_cons.1 hq with rfl | hq
    · exact ⟨fun h => by omega, fun _ => by
        rw [← h3]
        exact .mk r h2 (fun s hs h0 => (ih1 s hs).1 h0) (fun s hs h0 => (ih1 s hs).2 h0)⟩
    · exact ih2 q hq
theorem sq_good {g : Gram} {w : List Nat} {l : List KSym} {i j : Nat} (h : Sq g.rules w l i j) : ∀ s ∈ l, GoodS g s := tx_good h.2.2
theorem good_of {g : Gram} {r : Rule} (hr : r ∈ g.rules) (h : ∀ s ∈ r.rhs, GoodS g s) : goodD g r.lhs := .mk r hr (fun s hs h0 => (h s hs).1 h0) (fun s hs h0 => (h s hs).2 h0)
theorem mem_cut {l : List KSym} {d : Nat} {s q : KSym} (hs : l[d]? = some s) (hq : q ∈ l) : q ∈ l.take d ∨ q = s ∨ q ∈ l.drop (d + 1) := by
  obtain ⟨h1, h2⟩ := List.getElem?_eq_some_iff.1 hs
  have : l = l.take d ++ (s :: l.drop (d + 1)) := by rw [← h2, ← List.drop_eq_getElem_cons h1, List.take_append_drop]
  rw [this, List.mem_append, List.mem_cons] at hq
  exact hq
theorem mem_cut2 {l : List KSym} {d : Nat} {q : KSym} (hq : q ∈ l) : q ∈ l.take d ∨ q ∈ l.drop d := by
  rw [← List.take_append_drop d l, List.mem_append] at hq
  exact hq
theorem Bg.good {g : Gram} {w : List Nat} {A : Int} {i : Nat} (h : Bg g w A i) : goodD g A := by
  induction h with
  | full r d i h1 h2 h3 h4 =>
    exact good_of h1 fun s hs => (mem_cut2 hs).elim (sq_good h3 s) (h4 s)
  | part r d i k s h1 h2 h3 h4 h5 _ ih =>
    refine good_of h1 fun q hq => ?_
    rcases mem_cut h2 hq with h | rfl | h
    · exact sq_good h5 q h
    · exact ⟨fun h => by omega, fun _ => ih⟩
    · exact h4 q h
section
variable {g : Gram} {m : List Bool} {w : List Nat}
theorem goodS_iff (R : RightS g) (hm : Marks g.nts (goodD g) m) {s : KSym} {r : Rule} (hr : r ∈ g.rules) (hs : s ∈ r.rhs) : goodP s m = true ↔ GoodS g s := by
  rw [goodP_ok]
  have h := (R.r r hr).2.2.2 s hs
  unfold GoodS
  constructor
  · rintro ⟨h1, h2⟩
    exact ⟨h1, fun h0 => (hm.2 s.nt h0 (by omega)).1 (h2 h0)⟩
  · rintro ⟨h1, h2⟩
    exact ⟨h1, fun h0 => (hm.2 s.nt h0 (by omega)).2 (h2 h0)⟩
theorem mem_tr (R : RightS g) (hm : Marks g.nts (goodD g) m) {r : Rule} : r ∈ (trG g m).rules ↔ r ∈ g.rules ∧ ∀ s ∈ r.rhs, GoodS g s := by
  unfold trG
  rw [List.mem_filter]
  constructor
  · rintro ⟨h1, h2⟩
    refine ⟨h1, fun s hs => (goodS_iff R hm h1 hs).1 ?_⟩
    unfold goodR at h2
    exact List.all_eq_true.1 h2 s hs
  · rintro ⟨h1, h2⟩
    refine ⟨h1, ?_⟩
    unfold goodR
    exact List.all_eq_true.2 fun s hs => (goodS_iff R hm h1 hs).2 (h2 s hs)
theorem tx_tr (R : RightS g) (hm : Marks g.nts (goodD g) m) {l : List KSym} {u : List Nat} (h : Tx g.rules l u) : Tx (trG g m).rules l u := by
  induction h with
  | nil => exact .nil
  | term s l b u h1 h2 _ ih => exact .term s l b u h1 h2 ih
  | non s l r u v h1 h2 h3 h4 h5 ih1 ih2 => exact .non s l r u v h1 ((mem_tr R hm).2 ⟨h2, tx_good h4⟩) h3 ih1 ih2
theorem tx_untr {l : List KSym} {u : List Nat} (h : Tx (trG g m).rules l u) : Tx g.rules l u := h.mono fun r hr => (List.mem_filter.1 hr).1
theorem sq_tr (R : RightS g) (hm : Marks g.nts (goodD g) m) {l : List KSym} {i j : Nat} : Sq (trG g m).rules w l i j ↔ Sq g.rules w l i j :=
  ⟨fun h => ⟨h.1, h.2.1, tx_untr h.2.2⟩, fun h => ⟨h.1, h.2.1, tx_tr R hm h.2.2⟩⟩
theorem wt_bg (R : RightS g) (hm : Marks g.nts (goodD g) m) {A : Int} {i : Nat} (h : Wt (trG g m) w A i) : Bg g w A i → Bg g w g.start 0 := by
  induction h with
  | start => exact id
  | step r d i j s h1 h2 h3 h4 h5 ih =>
    obtain ⟨k1, k2⟩ := (mem_tr R hm).1 h1
    exact fun hb => ih (.part r d i j s k1 h3 h4 (fun q hq => k2 q (List.mem_of_mem_drop hq)) ((sq_tr R hm).1 h5) hb)
theorem bg_it (R : RightS g) (hm : Marks g.nts (goodD g) m) {A : Int} {i : Nat} (h : Bg g w A i) : Wt (trG g m) w A i → ∃ x, It (trG g m) w w.length x := by
  induction h with
  | full r d i h1 h2 h3 h4 =>
    intro hw
    have hr : r ∈ (trG g m).rules := (mem_tr R hm).2 ⟨h1, fun s hs => (mem_cut2 hs).elim (sq_good h3 s) (h4 s)⟩
    obtain ⟨q, hq⟩ := List.getElem?_of_mem hr
    exact ⟨⟨q, d, i⟩, It.iff.2 ⟨r, hq, h2, hw, (sq_tr R hm).2 h3⟩⟩
  | part r d i k s h1 h2 h3 h4 h5 hb ih =>
    intro hw
    have hr : r ∈ (trG g m).rules := (mem_tr R hm).2 ⟨h1, fun q hq => by
      rcases mem_cut h2 hq with h | rfl | h
      · exact sq_good h5 q h
      · exact ⟨fun h => by omega, fun _ => hb.good⟩
      · exact h4 q h⟩
    exact ih (.step r d i k s hr hw h2 h3 ((sq_tr R hm).2 h5))
/-- there are items at the end just if Start has a text that begins so -/
theorem viable (R : RightS g) (hm : Marks g.nts (goodD g) m) : (∃ x, It (trG g m) w w.length x) ↔ Bg g w g.start 0 := by
  constructor
  · rintro ⟨x, hx⟩
    obtain ⟨r, h1, h2, h3, h4⟩ := hx.sound
    obtain ⟨k1, k2⟩ := (mem_tr R hm).1 (List.mem_of_getElem? h1)
    exact wt_bg R hm h3 (.full r x.dot x.frm k1 h2 ((sq_tr R hm).1 h4) fun q hq => k2 q (List.mem_of_mem_drop hq))
  · exact fun h => bg_it R hm h .start
end
theorem It.cut {g : Gram} {w : List Nat} {j : Nat} {x : Item} (h : It g w j x) : ∀ k, j ≤ k → It g (w.take k) j x := by
  induction h with
  | init q r h1 h2 => exact fun k _ => .init q r h1 h2
  | pred j x r s q r' h1 h2 h3 h4 h5 h6 ih => exact fun k hk => .pred j x r s q r' (ih k hk) h2 h3 h4 h5 h6
  | scan j x r s b h1 h2 h3 h4 h5 h6 ih => exact fun k hk => .scan j x r s b (ih k (by omega)) h2 h3 h4 (by rw [List.getElem?_take, if_pos (by omega)]; exact h5) h6
  | comp j x r y r' s h1 h2 h3 h4 h5 h6 h7 h8 ih1 ih2 =>
    intro k hk
    have hf : x.frm ≤ j := by obtain ⟨_, _, _, _, q⟩ := h1.sound; exact q.1
    exact .comp j x r y r' s (ih1 k hk) h2 h3 (ih2 k (by omega)) h5 h6 h7 h8
theorem It.uncut {g : Gram} {w : List Nat} {k j : Nat} {x : Item} (h : It g (w.take k) j x) : It g w j x := by
  induction h with
  | init q r h1 h2 => exact .init q r h1 h2
  | pred j x r s q r' h1 h2 h3 h4 h5 h6 ih => exact .pred j x r s q r' ih h2 h3 h4 h5 h6
  | scan j x r s b h1 h2 h3 h4 h5 h6 ih =>
    refine .scan j x r s b ih h2 h3 h4 ?_ h6
    rw [List.getElem?_take] at h5
    split at h5
    · exact h5
    · cases h5
  | comp j x r y r' s h1 h2 h3 h4 h5 h6 h7 h8 ih1 ih2 => exact .comp j x r y r' s ih1 h2 h3 ih2 h5 h6 h7 h8
theorem It.last {g : Gram} {w : List Nat} {j : Nat} {x : Item} (h : It g w j x) : ∀ k, j = k + 1 → ∃ y r s b, It g w k y ∧ g.rules[y.rule]? = some r ∧ r.rhs[y.dot]? = some s ∧ s.nt < 0 ∧ w[k]? = some b ∧ s.set.has b = true := by
  induction h with
  | init q r h1 h2 => intro k hk; omega
  | pred j x r s q r' h1 h2 h3 h4 h5 h6 ih => exact ih
  | scan j x r s b h1 h2 h3 h4 h5 h6 ih =>
    intro k hk
    obtain rfl : j = k := by omega
    exact ⟨x, r, s, b, h1, h2, h3, h4, h5, h6⟩
  | comp j x r y r' s h1 h2 h3 h4 h5 h6 h7 h8 ih1 ih2 => exact ih1
theorem set_viable {g : Gram} {m : List Bool} {w : List Nat} {S : List (List Item)} (R : RightS g) (hm : Marks g.nts (goodD g) m) (C : ChartOK (trG g m) w S) {j : Nat} (hj : j ≤ w.length) : 0 < (gs S j).length ↔ Bg g (w.take j) g.start 0 := by
  rw [← viable R hm, List.length_take, Nat.min_eq_left hj]
  constructor
  · intro h
    refine ⟨(gs S j)[0], ((C.m j _).1 (List.getElem_mem h)).cut j (Nat.le_refl _)⟩
  · rintro ⟨x, hx⟩
    exact List.length_pos_of_mem ((C.m j x).2 hx.uncut)
theorem next_viable {g : Gram} {m : List Bool} {w : List Nat} {S : List (List Item)} (R : RightS g) (hm : Marks g.nts (goodD g) m) (C : ChartOK (trG g m) w S) {b : Nat} : (∃ x ∈ gs S w.length, NextB (trG g m) x b) ↔ Bg g (w ++ [b]) g.start 0 := by
  rw [← viable R hm, List.length_append, List.length_singleton]
  have e : (w ++ [b]).take w.length = w := by rw [List.take_left' rfl]
  have hb : (w ++ [b])[w.length]? = some b := by simp
  constructor
  · rintro ⟨x, hx, r, s, h1, h2, h3, h4⟩
    have hx' : It (trG g m) ((w ++ [b]).take w.length) w.length x := by rw [e]; exact (C.m _ x).1 hx
    exact ⟨_, .scan w.length x r s b hx'.uncut h1 h2 h3 hb h4⟩
  · rintro ⟨x, hx⟩
    obtain ⟨y, r, s, c, h1, h2, h3, h4, h5, h6⟩ := hx.last w.length rfl
    rw [hb] at h5
    cases h5
    have := h1.cut w.length (Nat.le_refl _)
    rw [e] at this
    exact ⟨y, (C.m _ y).2 this, r, s, h2, h3, h4, h6⟩
/-- beginnings of beginnings -/
theorem Bg.less {g : Gram} {m : List Bool} {w : List Nat} {j : Nat} (R : RightS g) (hm : Marks g.nts (goodD g) m) (h : Bg g w g.start 0) (hj : j ≤ w.length) : Bg g (w.take j) g.start 0 := by
  obtain ⟨x, hx⟩ := (viable R hm).2 h
  have key : ∀ n k, k ≤ w.length → w.length - k = n → ∃ x, It (trG g m) w k x := by
    intro n
    induction n with
    | zero => intro k hk e; exact ⟨x, by rw [show k = w.length by omega]; exact hx⟩
    | succ n ih =>
      intro k hk e
      obtain ⟨y, hy⟩ := ih (k + 1) (by omega) (by omega)
      obtain ⟨z, _, _, _, hz, _⟩ := hy.last k rfl
      exact ⟨z, hz⟩
  obtain ⟨y, hy⟩ := key _ j hj rfl
  refine (viable R hm).1 ⟨y, ?_⟩
  rw [List.length_take, Nat.min_eq_left hj]
  exact hy.cut j (Nat.le_refl _)
end Go.Proofs.Ytafncpgiibikcaa
