/- Several texts, one behind the other; each begins with a remark of its own. -/
import Derived.Test.YtafncpgiibikcaaZG5
import Derived.Test.YtafncpgiibikcaaZG8
import Derived.Test.YtafncpgiibikcaaZTy
import Derived.Test.YtafncpgiibikcaaZFa
import Derived.Sort.Statements
import Derived.Sort.LotA
import Derived.Sort.LotC
namespace Go.Proofs.Ytafncpgiibikcaa
set_option linter.unusedSimpArgs false
set_option linter.unusedVariables false
set_option maxRecDepth 20000
open Go.RowKit Am Ty

theorem one_mkP {all : Array Oper} {o : Oper} {s : St} {h : Heap} {x : Operand} {d : Nat} {t e : TypeId} {ti : TI} {z : Value} {n : Int} {N : Nat} {cs : List Value} (hh : s.h = h) (hw : wantedA all o s = some true) (hd : o.dst = some d) (ho : o.op = .makeSlice t x x) (hx : ev s x = some (i64 n)) (hN : n = N)
    (hu : env.P.underlying t = some (.slice e)) (ht : tinfo env.P e = some ti) (hz : ti.zero = some z) (hp : (pureV z && z.cells.toList.all one && decide (z.cells.size = ti.size) && decide (0 < ti.size)) = true) (hb : N * ti.bytes ≤ 140737488355328) (hN2 : N ≤ 140737488355328) (hcs : (List.replicate N z.cells.toList).flatten = cs) :
    One env all o s (.sl (.prv (.arr cs 0 true e) N)) h := by
  subst hN hcs hh
  refine .mkP hw hd ?_
  rw [ho]
  have h1 : (ti.bytes : Int) * (N : Int) ≤ 140737488355328 := by
    have : ((N * ti.bytes : Nat) : Int) ≤ 140737488355328 := by omega
    rw [Int.natCast_mul, Int.mul_comm] at this
    exact this
  have h2 : (N : Int) ≤ 140737488355328 := by omega
  unfold mkC
  simp only [hu, hx, ht, hz]
  rw [if_pos (by rw [hp, decide_eq_true trivial, decide_eq_true (Int.natCast_nonneg N), decide_eq_true h1, decide_eq_true h2]; rfl), Int.toNat_natCast]
structure ByK (g : Gram) (k : Nat) (ls : List (List Int)) : Prop where
  n : (ls.length : Int) = g.nts
  m : ∀ a : Int, 0 ≤ a → a < g.nts → ∀ q : Int, q ∈ lget ls a ↔ ∃ (i : Nat) (r : Rule), i < k ∧ q = i ∧ g.rules[i]? = some r ∧ r.lhs = a
  l : ∀ l ∈ ls, l.length ≤ k
structure O1 (h : Heap) (g : Gram) (rv wv : Value) (N M k : Nat) (x : SG) : Prop where
  p : h <+: x.hk
  o : x.hk[h.length]? = some (.arr x.us 0 true 91)
  s : x.hk[h.length + 1]? = some (.arr (List.replicate M nilS) 0 true 55)
  c : x.hk[h.length + 2]? = some (.arr [i64 g.nts, i64 g.start, rv, wv, .slice (some ⟨h.length, 0, some 0⟩) N N, .slice (some ⟨h.length + 1, 0, some 0⟩) M M, nilS, .map none] 0 true 73)
  l : NL h x.hk h.length x.us x.ls
  n : x.us.length = N
  b : ByK g k x.ls
theorem ByK.step {g : Gram} {k : Nat} {ls : List (List Int)} (B : ByK g k ls) (R : RightS g) (hk : k < g.rules.length) : ByK g (k + 1) (ls.set g.rules[k].lhs.toNat (lget ls g.rules[k].lhs ++ [(k : Int)])) := by
  obtain ⟨l1, l2, _⟩ := R.r _ (List.getElem_mem hk)
  have hn := B.n
  refine ⟨by simpa using hn, fun a h0 h1 q => ?_, fun l hl => ?_⟩
  · rw [lget_set l1 (by omega) h0]
    split
    · rename_i e
      subst e
      rw [List.mem_append, List.mem_singleton, B.m _ h0 h1]
      constructor
      · rintro (⟨i, r, k1, k2, k3, k4⟩ | rfl)
        · exact ⟨i, r, by omega, k2, k3, k4⟩
        · exact ⟨k, g.rules[k], by omega, rfl, List.getElem?_eq_getElem hk, rfl⟩
      · rintro ⟨i, r, k1, k2, k3, k4⟩
        by_cases e : i = k
        · subst e
          exact .inr k2
        · exact .inl ⟨i, r, by omega, k2, k3, k4⟩
    · rename_i e
      rw [B.m _ h0 h1]
      constructor
      · rintro ⟨i, r, k1, k2, k3, k4⟩
        exact ⟨i, r, by omega, k2, k3, k4⟩
      · rintro ⟨i, r, k1, k2, k3, k4⟩
        by_cases e2 : i = k
        · subst e2
          rw [List.getElem?_eq_getElem hk] at k3
          cases k3
          exact (e k4).elim
        · exact ⟨i, r, by omega, k2, k3, k4⟩
  · rcases List.mem_or_eq_of_mem_set hl with h | rfl
    · have := B.l l h; omega
    · have hg := lget_get (ls := ls) l1 (by omega)
      have := B.l _ (List.mem_of_getElem? hg)
      simp only [List.length_append, List.length_singleton]
      omega
structure O2 (h hB : Heap) (g : Gram) (rv wv bv : Value) (M k : Nat) (x : Heap × List Nat × Value) : Prop where
  p : h <+: x.1
  kb : ∀ (i : Nat) (cs : List Value) (v : Nat) (o : Bool) (et : TypeId), et = 3 ∨ et = 91 → hB[i]? = some (.arr cs v o et) → x.1[i]? = some (.arr cs v o et)
  s : x.1[h.length + 1]? = some (.arr (List.replicate M nilS) 0 true 55)
  c : x.1[h.length + 2]? = some (.arr [i64 g.nts, i64 g.start, rv, wv, bv, .slice (some ⟨h.length + 1, 0, some 0⟩) M M, x.2.2, .map none] 0 true 73)
  n : x.2.1.length = k
  m : Grow h x.1 x.2.2 k (x.2.1.map fun i => Value.map (some i)) 92
  g : ∀ i ∈ x.2.1, x.1[i]? = some (.map []) ∧ h.length ≤ i
  d : ∀ (i j y : Nat), x.2.1[i]? = some y → x.2.1[j]? = some y → i = j
theorem CHR.newE {h0 hB : Heap} {g : Gram} {rv wv : Value} {F : Fix} {G : Gh} (K : CHR h0 hB g rv wv F G) : CHR h0 hB g rv wv { F with ie := G.h.length, ev := .map (some G.h.length) } ⟨(G.h ++ [HObj.map []]).set F.cp (.arr [i64 g.nts, i64 g.start, rv, wv, F.bv, .slice (some ⟨F.si, 0, some 0⟩) G.S.length G.S.length, .slice (some ⟨F.im, 0, some F.vm⟩) G.S.length G.S.length, .map (some G.h.length)] 0 true 73), G.us, G.S, []⟩ := by
  have hlt := lt_of_get K.c
  have keepA : ∀ (i : Nat) (cs : List Value) (v : Nat) (o : Bool) (et : TypeId) (X : HObj), et ≠ 73 → G.h[i]? = some (.arr cs v o et) → ((G.h ++ [HObj.map []]).set F.cp X)[i]? = some (.arr cs v o et) := fun i cs v o et X hne hi => by
    rw [get_set_ne (by
      rintro rfl
      rw [K.c] at hi
      simp only [Option.some.injEq, HObj.arr.injEq] at hi
      exact hne hi.2.2.2.symm)]
    exact get_of_push hi
  have keepM : ∀ (i : Nat) (es : List (Value × Value)) (X : HObj), G.h[i]? = some (.map es) → ((G.h ++ [HObj.map []]).set F.cp X)[i]? = some (.map es) := fun i es X hi => by
    rw [get_set_ne (by rintro rfl; rw [K.c] at hi; cases hi)]
    exact get_of_push hi
  have hms : ∀ i ∈ F.ms, i < G.h.length := fun i hi => by
    obtain ⟨j, hj⟩ := List.getElem?_of_mem hi
    have hjl : j < G.S.length := by rw [← K.mn]; exact (List.getElem?_eq_some_iff.1 hj).1
    exact lt_of_get (K.mg j i _ hj (gs_get hjl))
  refine ⟨pre_set (pre_push K.p) K.lo.1, get_set_self (get_of_push K.c), keepA _ _ _ _ _ _ (by decide) K.s, keepA _ _ _ _ _ _ (by decide) K.m, fun _ => ⟨?_, fun hi => ?_, K.p.length_le⟩, K.un, K.mn, fun j u l h1 h2 => ?_, K.ud, fun j i l h1 h2 => keepM _ _ _ (K.mg j i l h1 h2), K.md, fun i cs v o et he hi => keepA _ _ _ _ _ _ (by rcases he with rfl | rfl <;> decide) (K.kb i cs v o et he hi), K.lo⟩
  · simp only
    rw [get_set_ne (by omega)]
    exact push_get_self
  · have := hms _ hi
    simp only at this
    omega
  · refine (K.ug j u l h1 h2).mono fun i o hi ho => ?_
    obtain ⟨ver, h5⟩ := (K.ug j u l h1 h2).obj hi
    rw [ho] at h5
    cases h5
    exact keepA _ _ _ _ _ _ (by decide) ho
set_option maxHeartbeats 8000000 in
theorem open_fw {h : Heap} {g : Gram} {v wv : Value} {w : List Nat} (hr : RdGram h v g) (hwR : RdB h wv w) (R : RightS g) (W : WfG g) (hw : w.length ≤ 512) :
    FW env 37 [v, wv] h fun r h' => ∃ hB rv F G, r = .pointer (some ⟨F.cp, 0, some 0⟩) ∧ G.h = h' ∧ CHR h hB g rv wv F G ∧ ChartOK g w G.S ∧ RdRules h rv g.rules := by
  obtain ⟨u, rfl, hu⟩ := id hr
  obtain ⟨p, c, rfl⟩ := hu.form
  obtain ⟨pw, cw, rfl⟩ := hwR.form
  have hle := hu.le
  have n1 := R.n1
  have n2 := R.n2
  have hrl := R.rl
  obtain ⟨N, hN⟩ : ∃ N : Nat, g.nts = N := ⟨g.nts.toNat, by omega⟩
  obtain ⟨M, hM⟩ : ∃ M : Nat, M = w.length + 1 := ⟨_, rfl⟩
  have f0 : IntKind.i64.wrap ((w.length : Int) + 1) = (M : Int) := by rw [wrap64_id (by omega) (by omega)]; omega
  refine fw_enter (fn := Try.f37) Try.func37 rfl (by kernel_rfl) (by simp [Try.ntmps37]) ?_; simp only [push_cast]
  repeat (first | apply zs | apply zr | apply zn | ((first | apply zx | apply zy); · simp only [push_cast, env, Nat.reduceEqDiff, reduceIte, Nat.reduceAdd, Nat.reduceMul, Nat.reduceLeDiff, reduceCtorEq, Nat.reduceSub, Int.reduceToNat] <;> first | exact rfl | exact .inl rfl | exact .inr rfl) | apply zq | apply zb | apply zo | apply zk | apply zl)
  refine cw_weakL [(1, .val (.slice pw w.length cw)), (2, .box [i64 g.nts, i64 g.start, .slice p g.rules.length c])] (by simp only [push_cast, Nat.reduceEqDiff, reduceIte]) ?_
  show CW _ _ ⟨_, [], h⟩ _
  apply cw_ordT (n := 9) (L := [[], [], [], [2], [2, 3], [], [5], [5, 6], [5, 6, 7], [0, 1, 2, 3, 4, 5, 6, 7, 8], [0, 1, 2, 3, 4, 5, 6, 7, 8, 9], [0, 1, 2, 3, 4, 5, 6, 7, 8, 9, 10]]) (act := []) (hs := []) (resL := [_, _, _, _, _, _, _, _, _]) (frP := [(2, .box [i64 g.nts, i64 g.start, .slice p g.rules.length c]), (12, .val (.agg #[i64 g.nts, i64 g.start, .slice p g.rules.length c])), (13, .val (.slice pw w.length cw)), (16, .prv (.arr (List.replicate N nilS) 0 true 91) N), (20, .prv (.arr (List.replicate M nilS) 0 true 55) M)])
  case hm => exact mixed
  case hc => kernel_rfl
  case hn => kernel_rfl
  case ha => rfl
  case hb => rfl
  case hS =>
    repeat (first | exact StepsA.nil _ | (apply StepsA.cons; (· rfl); (· (first | refine ⟨?_, trivial⟩ | refine ⟨?_, ?_, trivial⟩ | refine ⟨?_, ?_, ?_, trivial⟩ | refine ⟨?_, ?_, ?_, ?_, trivial⟩) <;> (apply zz; simp only [push_cast, env, Nat.reduceEqDiff, reduceIte, Nat.reduceAdd, Nat.reduceMul, Nat.reduceLeDiff, reduceCtorEq, Nat.reduceSub, Int.reduceToNat, f0] <;> exact rfl)); (· rfl)))
    apply StepsA.cons
    · rfl
    · refine ⟨?_, trivial⟩
      exact one_mkP (N := N) rfl (by simp only [push_cast, env, Nat.reduceEqDiff, reduceIte] <;> exact rfl) rfl rfl (by simp only [push_cast, env, Nat.reduceEqDiff, reduceIte] <;> exact rfl) hN (by kernel_rfl) ti91 rfl (by rfl) (by simp only; omega) (by omega) flat_rep1
    · rfl
    repeat (first | exact StepsA.nil _ | (apply StepsA.cons; (· rfl); (· (first | refine ⟨?_, trivial⟩ | refine ⟨?_, ?_, trivial⟩ | refine ⟨?_, ?_, ?_, trivial⟩ | refine ⟨?_, ?_, ?_, ?_, trivial⟩) <;> (apply zz; simp only [push_cast, env, Nat.reduceEqDiff, reduceIte, Nat.reduceAdd, Nat.reduceMul, Nat.reduceLeDiff, reduceCtorEq, Nat.reduceSub, Int.reduceToNat, f0] <;> exact rfl)); (· rfl)))
    apply StepsA.cons
    · rfl
    · refine ⟨?_, trivial⟩
      exact one_mkP (N := M) rfl (by simp only [push_cast, env, Nat.reduceEqDiff, reduceIte] <;> exact rfl) rfl rfl (by simp only [push_cast, env, Nat.reduceEqDiff, reduceIte] <;> exact rfl) rfl (by kernel_rfl) ti55 rfl (by rfl) (by simp only; omega) (by omega) flat_rep1
    · rfl
    repeat (first | exact StepsA.nil _ | (apply StepsA.cons; (· rfl); (· (first | refine ⟨?_, trivial⟩ | refine ⟨?_, ?_, trivial⟩ | refine ⟨?_, ?_, ?_, trivial⟩ | refine ⟨?_, ?_, ?_, ?_, trivial⟩) <;> (apply zz; simp only [push_cast, env, Nat.reduceEqDiff, reduceIte, Nat.reduceAdd, Nat.reduceMul, Nat.reduceLeDiff, reduceCtorEq, Nat.reduceSub, Int.reduceToNat] <;> exact rfl)); (· rfl)))
  case ht => rfl
  case hF => repeat (first | exact trivial | (refine ⟨.inl ⟨by decide, rfl⟩, ?_⟩) | (refine ⟨.inr ⟨rfl, by simp⟩, ?_⟩))
  refine ow_pub (d := 16) rfl ?_
  refine ow_pub (d := 20) rfl ?_
  iterate 1 (apply ow_cons; · simp only [push_cast, env, Nat.reduceEqDiff, reduceIte, Nat.reduceAdd, Nat.reduceMul, Nat.reduceLeDiff, reduceCtorEq, Nat.reduceSub, Int.reduceToNat, List.length_append, List.length_cons, List.length_nil, Nat.zero_add, List.append_assoc] <;> exact rfl)
  refine ow_boxH (by simp only [push_cast, env, Nat.reduceEqDiff, reduceIte] <;> exact rfl) (by simp only [push_cast, env, Nat.reduceEqDiff, reduceIte] <;> exact rfl) ?_
  simp only [List.length_append, List.length_cons, List.length_nil, Nat.zero_add, List.append_assoc, List.cons_append, List.nil_append]
  repeat (first | apply zs | apply zr | apply zn | ((first | apply zx | apply zy); · simp only [push_cast, env, Nat.reduceEqDiff, reduceIte, Nat.reduceAdd, Nat.reduceMul, Nat.reduceLeDiff, reduceCtorEq, Nat.reduceSub, Int.reduceToNat] <;> first | exact rfl | exact .inl rfl | exact .inr rfl) | apply zq | apply zb | apply zo | apply zk | apply zl)
  refine ⟨[(2, .box [i64 g.nts, i64 g.start, .slice p g.rules.length c]), (5, .val (.pointer (some ⟨h.length + 2, 0, some 0⟩)))], (by simp only [push_cast, Nat.reduceEqDiff, reduceIte]), ?_⟩
  obtain ⟨H3, hH3⟩ : ∃ H3, H3 = h ++ [HObj.arr (List.replicate N nilS) 0 true 91, HObj.arr (List.replicate M nilS) 0 true 55, HObj.arr [i64 g.nts, i64 g.start, .slice p g.rules.length c, .slice pw w.length cw, .slice (some ⟨h.length, 0, some 0⟩) N N, .slice (some ⟨h.length + 1, 0, some 0⟩) M M, nilS, .map none] 0 true 73] := ⟨_, rfl⟩
  show CW _ _ ⟨_, [], h ++ [HObj.arr (List.replicate N nilS) 0 true 91, HObj.arr (List.replicate M nilS) 0 true 55, HObj.arr [i64 g.nts, i64 g.start, .slice p g.rules.length c, .slice pw w.length cw, .slice (some ⟨h.length, 0, some 0⟩) N N, .slice (some ⟨h.length + 1, 0, some 0⟩) M M, nilS, .map none] 0 true 73]⟩ _
  rw [← hH3]
  have i1 : O1 h g (.slice p g.rules.length c) (.slice pw w.length cw) N M 0 ⟨H3, List.replicate N nilS, List.replicate N []⟩ := by
    subst hH3
    refine ⟨List.prefix_append _ _, by simp, ?_, ?_, ⟨by simp, ?_, ?_, ?_⟩, by simp, ⟨by simp [hN], ?_, ?_⟩⟩
    · simp only; rw [List.getElem?_append_right (by omega)]; simp
    · simp only; rw [List.getElem?_append_right (by omega)]; simp
    · intro i u l h1 h2
      have hi : i < N := by have := (List.getElem?_eq_some_iff.1 h1).1; simpa using this
      rw [List.getElem?_replicate, if_pos hi] at h1 h2
      cases h1; cases h2
      exact Grow.nil
    · intro i j u w x _ h1 _ h3
      rw [List.getElem?_replicate] at h1
      split at h1 <;> cases h1
      simp [isAt] at h3
    · intro i u h1
      rw [List.getElem?_replicate] at h1
      split at h1 <;> cases h1
      rfl
    · intro a h0 h1 q
      rw [lget_rep]
      simp
    · intro l hl
      rw [List.mem_replicate] at hl
      rw [hl.2]
      simp
  clear hH3
  repeat (first | apply zs | apply zr | apply zn | ((first | apply zx | apply zy); · simp only [push_cast, env, Nat.reduceEqDiff, reduceIte, Nat.reduceAdd, Nat.reduceMul, Nat.reduceLeDiff, reduceCtorEq, Nat.reduceSub, Int.reduceToNat] <;> first | exact rfl | exact .inl rfl | exact .inr rfl) | apply zq | apply zb | apply zo | apply zk | apply zl)
  refine cw_forG g.rules.length (fun k (x : SG) => [(2, .box [i64 g.nts, i64 g.start, .slice p g.rules.length c]), (5, .val (.pointer (some ⟨h.length + 2, 0, some 0⟩))), (24, .val (.slice p g.rules.length c)), (25, .val (i64 g.rules.length)), (26, .val (i64 k))]) (fun _ x => x.hk)
    (fun k x => O1 h g (.slice p g.rules.length c) (.slice pw w.length cw) N M k x) _ (by simp only [push_cast, Nat.reduceEqDiff, reduceIte]) rfl i1 ?_
  clear i1 H3
  rintro k ⟨hk, us, ls⟩ hkn I
  obtain ⟨hp, ho, hs, hc, hl, hn, hB⟩ := I
  simp only at hp ho hs hc hl hn hB ⊢
  by_cases hlt : k < g.rules.length
  · obtain ⟨id, ver, own, c', cells, p', n', c2, hv, hid, hn, hrd, hu'⟩ := hu.at hlt
    cases hv
    subst hn
    have e0 := rdH_get0 hrd (by omega)
    have e0' := rdH_get (j := 1) hrd (by omega)
    simp only [List.getElem?_cons_succ, List.getElem?_cons_zero] at e0 e0'
    have e1 := rng hlt
    have e2 := inc hlt hle
    have e3 := lt_dec hlt
    have hmem : g.rules[k] ∈ _ := List.getElem_mem hlt
    have hn2 := RdSyms.le hu'
    obtain ⟨a1, a2, a3, hS⟩ := R.r _ hmem
    have hid2 := getElem?_prefix hp hid
    repeat (first | apply zs | apply zr | apply zn | ((first | apply zx | apply zy); · simp only [push_cast, env, Nat.reduceEqDiff, reduceIte, Nat.reduceAdd, Nat.reduceMul, Nat.reduceLeDiff, reduceCtorEq, Nat.reduceSub, Int.reduceToNat, e1, hid2, hrd, e3] <;> first | exact rfl | exact .inl rfl | exact .inr rfl) | apply zq | apply zb | apply zo | apply zk | apply zl)
    refine cw_condT rfl ?_
    repeat (first | apply zs | apply zr | apply zn | ((first | apply zx | apply zy); · simp only [push_cast, env, Nat.reduceEqDiff, reduceIte, Nat.reduceAdd, Nat.reduceMul, Nat.reduceLeDiff, reduceCtorEq, Nat.reduceSub, Int.reduceToNat, e1, hid2, hrd] <;> first | exact rfl | exact .inl rfl | exact .inr rfl) | apply zq | apply zb | apply zo | apply zk | apply zl)
    refine cw_weakL [(2, .box [i64 g.nts, i64 g.start, .slice (some ⟨id, 0, some ver⟩) g.rules.length c]), (5, .val (.pointer (some ⟨h.length + 2, 0, some 0⟩))), (24, .val (.slice (some ⟨id, 0, some ver⟩) g.rules.length c)), (25, .val (i64 g.rules.length)), (26, .val (i64 k)), (6, .val (i64 k)), (7, .box [i64 g.rules[k].lhs, .slice p' g.rules[k].rhs.length c2])] (by simp only [push_cast, Nat.reduceEqDiff, reduceIte]) ?_
    show CW _ _ ⟨_, [], hk⟩ _
    have hBn := hB.n
    have hA : g.rules[k].lhs.toNat < us.length := by omega
    obtain ⟨v, hv⟩ : ∃ v, us[g.rules[k].lhs.toNat]? = some v := ⟨_, List.getElem?_eq_getElem hA⟩
    have hlA := lget_get (ls := ls) a1 (by omega)
    have G := hl.g _ _ _ hv hlA
    obtain ⟨pv, cv, rfl⟩ := G.form
    have hlen := hB.l _ (List.mem_of_getElem? hlA)
    obtain ⟨p2, c2', h2, hone1, G2, hp2, hpr, hx2⟩ := push_one (b := (k : Int)) G hp (by omega)
    have kind : ∀ (i : Nat) (o : HObj), hk[i]? = some o → (∀ cs ve, o ≠ .arr cs ve true 3) → isAt (.slice pv (lget ls g.rules[k].lhs).length cv) i = false := fun i o hi hne => by
      cases hb : isAt (.slice pv (lget ls g.rules[k].lhs).length cv) i with
      | false => rfl
      | true =>
        obtain ⟨ve, h5⟩ := G.obj hb
        rw [hi] at h5
        exact (hne _ _ (Option.some.inj h5)).elim
    have ho2 : h2[h.length]? = some (.arr us 0 true 91) := hpr _ _ (hl.o _ _ hv) ho
    have hs2 := hpr _ _ (kind _ _ hs (fun cs ve h5 => by cases h5)) hs
    have hc2 := hpr _ _ (kind _ _ hc (fun cs ve h5 => by cases h5)) hc
    have r1 := rng0 (N := N) a1 (by omega)
    apply cw_ordA (L := [[], [0], [1], [2], [], [4], [], [6], [7], [8], [], [10], [9, 11], [12], [], [14], [13, 15], [3, 5], [0, 1, 2, 3, 4, 5, 6, 7, 8, 9, 10, 11, 12, 13, 14, 15, 16, 17]]) (act := [16, 18]) (hs := [h2, h2.set h.length (.arr (us.set g.rules[k].lhs.toNat (.slice p2 ((lget ls g.rules[k].lhs).length + 1) c2')) 0 true 91)]) (resL := [_, _, _, _, _, _, _, _, _, _, _, _, _, _, _, _, _, _, _]) (frF := [(2, .box [i64 g.nts, i64 g.start, .slice (some ⟨id, 0, some ver⟩) g.rules.length c]), (5, .val (.pointer (some ⟨h.length + 2, 0, some 0⟩))), (24, .val (.slice (some ⟨id, 0, some ver⟩) g.rules.length c)), (25, .val (i64 g.rules.length)), (26, .val (i64 k))])
    case hm => exact mixed
    case hc => kernel_rfl
    case ha => rfl
    case hb => rfl
    case hS =>
      repeat (first | exact StepsA.nil _ | (apply StepsA.cons; (· rfl); (· (first | refine ⟨?_, trivial⟩ | refine ⟨?_, ?_, trivial⟩ | refine ⟨?_, ?_, ?_, trivial⟩ | refine ⟨?_, ?_, ?_, ?_, trivial⟩) <;> (apply zz; simp only [push_cast, env, Nat.reduceEqDiff, reduceIte, Nat.reduceAdd, Nat.reduceMul, Nat.reduceLeDiff, reduceCtorEq, Nat.reduceSub, Int.reduceToNat, r1, ho, hc, ho2, hc2, hv, Nat.mul_one] <;> exact rfl)); (· rfl)))
      apply StepsA.cons
      · rfl
      · refine ⟨?_, trivial⟩
        exact hone1 _ _ _ _ _ rfl (by simp only [push_cast, env, Nat.reduceEqDiff, reduceIte] <;> exact rfl) rfl (by simp only [push_cast, env, Nat.reduceEqDiff, reduceIte] <;> exact rfl) (by simp only [push_cast, env, Nat.reduceEqDiff, reduceIte] <;> exact rfl)
      · rfl
      repeat (first | exact StepsA.nil _ | (apply StepsA.cons; (· rfl); (· (first | refine ⟨?_, trivial⟩ | refine ⟨?_, ?_, trivial⟩ | refine ⟨?_, ?_, ?_, trivial⟩ | refine ⟨?_, ?_, ?_, ?_, trivial⟩) <;> (apply zz; simp only [push_cast, env, Nat.reduceEqDiff, reduceIte, Nat.reduceAdd, Nat.reduceMul, Nat.reduceLeDiff, reduceCtorEq, Nat.reduceSub, Int.reduceToNat, r1, Nat.mul_one] <;> exact rfl)); (· rfl)))
      apply StepsA.cons
      · rfl
      · refine ⟨?_, trivial⟩
        exact One.stoH (r := .sl .unk) (cells' := us.set g.rules[k].lhs.toNat (.slice p2 ((lget ls g.rules[k].lhs).length + 1) c2')) (by simp only [push_cast, env, Nat.reduceEqDiff, reduceIte] <;> exact rfl) rfl (by simp only [push_cast, env, Nat.reduceEqDiff, reduceIte] <;> exact rfl) (by simp only [push_cast, env, Nat.reduceEqDiff, reduceIte] <;> exact rfl) ho2 (by simp only [push_cast, env, Nat.reduceEqDiff, reduceIte] <;> exact rfl) rfl (wrV hA) rfl
      · rfl
      exact StepsA.nil _
    case ht => rfl
    case hF => repeat (first | exact trivial | (refine ⟨.inl ⟨by decide, rfl⟩, ?_⟩) | (refine ⟨.inr ⟨rfl, by simp⟩, ?_⟩))
    show CW _ _ _ _
    repeat (first | apply zs | apply zr | apply zn | ((first | apply zx | apply zy); · simp only [push_cast, env, Nat.reduceEqDiff, reduceIte, Nat.reduceAdd, Nat.reduceMul, Nat.reduceLeDiff, reduceCtorEq, Nat.reduceSub, Int.reduceToNat, e2] <;> first | exact rfl | exact .inl rfl | exact .inr rfl) | apply zq | apply zb | apply zo | apply zk | apply zl)
    have hio : h.length < hk.length := lt_of_get ho
    refine ⟨hlt, ⟨h2.set h.length (.arr (us.set g.rules[k].lhs.toNat (.slice p2 ((lget ls g.rules[k].lhs).length + 1) c2')) 0 true 91), us.set g.rules[k].lhs.toNat (.slice p2 ((lget ls g.rules[k].lhs).length + 1) c2'), ls.set g.rules[k].lhs.toNat (lget ls g.rules[k].lhs ++ [(k : Int)])⟩, (by simp only [push_cast, Nat.reduceEqDiff, reduceIte]), rfl, pre_set hp2 (Nat.le_refl _), get_set_self ho2, ?_, ?_, ?_, by simp [hn], hB.step R hlt⟩
    · simp only; rw [get_set_ne (by omega)]; exact hs2
    · simp only; rw [get_set_ne (by omega)]; exact hc2
    · exact hl.put hv hlA hio G2 hpr hx2
  · have e3 := ge_dec hlt
    obtain rfl : k = g.rules.length := by omega
    repeat (first | apply zs | apply zr | apply zn | ((first | apply zx | apply zy); · simp only [push_cast, env, Nat.reduceEqDiff, reduceIte, Nat.reduceAdd, Nat.reduceMul, Nat.reduceLeDiff, reduceCtorEq, Nat.reduceSub, Int.reduceToNat, e3] <;> first | exact rfl | exact .inl rfl | exact .inr rfl) | apply zq | apply zb | apply zo | apply zk | apply zl)
    refine cw_condF rfl ?_
    refine cw_exit ?_
    show CW _ _ _ _
    have B : ByR g ls := ⟨hB.n, fun a h0 h1 q => by
      rw [hB.m a h0 h1]
      constructor
      · rintro ⟨i, r, _, k2, k3, k4⟩
        exact ⟨i, r, k2, k3, k4⟩
      · rintro ⟨i, r, k2, k3, k4⟩
        exact ⟨i, r, (List.getElem?_eq_some_iff.1 k3).1, k2, k3, k4⟩, fun l hl => by have := hB.l l hl; omega⟩
    have hBn := hB.n
    have hll : RdLL hk (.slice (some ⟨h.length, 0, some 0⟩) N N) ls := ⟨h.length, 0, true, N, us, by rw [show ls.length = N by omega], ho, hl.n, fun i u l h1 h2 => by
      have := hB.l l (List.mem_of_getElem? h2)
      exact (hl.g i u l h1 h2).sl (by omega)⟩
    clear hl hB hn
    repeat (first | apply zs | apply zr | apply zn | ((first | apply zx | apply zy); · simp only [push_cast, env, Nat.reduceEqDiff, reduceIte, Nat.reduceAdd, Nat.reduceMul, Nat.reduceLeDiff, reduceCtorEq, Nat.reduceSub, Int.reduceToNat, hc] <;> first | exact rfl | exact .inl rfl | exact .inr rfl) | apply zq | apply zb | apply zo | apply zk | apply zl)
    refine cw_forG M (fun k (x : Heap × List Nat × Value) => [(2, .box [i64 g.nts, i64 g.start, .slice p g.rules.length c]), (5, .val (.pointer (some ⟨h.length + 2, 0, some 0⟩))), (54, .val (i64 M)), (55, .val (i64 k))]) (fun _ x => x.1)
      (fun k x => O2 h hk g (.slice p g.rules.length c) (.slice pw w.length cw) (.slice (some ⟨h.length, 0, some 0⟩) N N) M k x) (hk, [], nilS) (by simp only [push_cast, Nat.reduceEqDiff, reduceIte]) rfl ⟨hp, fun _ _ _ _ _ _ h => h, hs, hc, rfl, Grow.nil, fun i hi => (by cases hi), fun i j y h1 => (by simp at h1)⟩ ?_
    clear hc hs ho
    rintro k ⟨hm, ms, mv⟩ hkm I
    obtain ⟨mp, mkb, msi, mc, mn, mg, mm, md⟩ := I
    simp only at mp mkb msi mc mn mg mm md ⊢
    by_cases hlt2 : k < M
    · have f2 := inc hlt2 (by omega)
      have f3 := lt_dec hlt2
      obtain ⟨pm, cm, rfl⟩ := mg.form
      repeat (first | apply zs | apply zr | apply zn | ((first | apply zx | apply zy); · simp only [push_cast, env, Nat.reduceEqDiff, reduceIte, Nat.reduceAdd, Nat.reduceMul, Nat.reduceLeDiff, reduceCtorEq, Nat.reduceSub, Int.reduceToNat, f3] <;> first | exact rfl | exact .inl rfl | exact .inr rfl) | apply zq | apply zb | apply zo | apply zk | apply zl)
      refine cw_condT rfl ?_
      repeat (first | apply zs | apply zr | apply zn | ((first | apply zx | apply zy); · simp only [push_cast, env, Nat.reduceEqDiff, reduceIte, Nat.reduceAdd, Nat.reduceMul, Nat.reduceLeDiff, reduceCtorEq, Nat.reduceSub, Int.reduceToNat, mc] <;> first | exact rfl | exact .inl rfl | exact .inr rfl) | apply zq | apply zb | apply zo | apply zk | apply zl)
      refine ow_map (kt := 57) (et := 3) (by simp only [push_cast, env, Nat.reduceEqDiff, reduceIte] <;> exact rfl) rfl (by kernel_rfl) ?_
      repeat (first | apply zs | apply zr | apply zn | ((first | apply zx | apply zy); · simp only [push_cast, env, Nat.reduceEqDiff, reduceIte, Nat.reduceAdd, Nat.reduceMul, Nat.reduceLeDiff, reduceCtorEq, Nat.reduceSub, Int.reduceToNat] <;> first | exact rfl | exact .inl rfl | exact .inr rfl) | apply zq | apply zb | apply zo | apply zk | apply zl)
      have mg1 := mg.mono (h' := hm ++ [HObj.map []]) fun i o _ ho => get_of_push ho
      refine ow_push (t := 70) (by simp only [push_cast, env, Nat.reduceEqDiff, reduceIte] <;> exact rfl) rfl (by kernel_rfl) ti92 (by decide) rfl (by simp only [push_cast, env, Nat.reduceEqDiff, reduceIte] <;> exact rfl) rfl mg1 (pre_push mp) (by simp [mn]) rfl (by simp only; omega) (by omega) ?_
      intro p3 c3 h3 G3 hp3 hpr3 hl3
      have kind : ∀ (i : Nat) (o : HObj), hm[i]? = some o → (∀ cs ve, o ≠ .arr cs ve true 92) → h3[i]? = some o := fun i o hi hne => hpr3 i o (by
        cases hb : isAt (.slice pm k cm) i with
        | false => rfl
        | true =>
          obtain ⟨ve, h5⟩ := mg.obj hb
          rw [hi] at h5
          exact (hne _ _ (Option.some.inj h5)).elim) (get_of_push hi)
      have mc3 := kind _ _ mc (fun cs ve h5 => by cases h5)
      have ms3 := kind _ _ msi (fun cs ve h5 => by cases h5)
      have hnew : h3[hm.length]? = some (.map []) := hpr3 _ _ (by
        cases hb : isAt (.slice pm k cm) hm.length with
        | false => rfl
        | true => have := (mg.lt hb).2; omega) push_get_self
      have hcl := lt_of_get mc
      repeat (first | apply zs | apply zr | apply zn | ((first | apply zx | apply zy); · simp only [push_cast, env, Nat.reduceEqDiff, reduceIte, Nat.reduceAdd, Nat.reduceMul, Nat.reduceLeDiff, reduceCtorEq, Nat.reduceSub, Int.reduceToNat] <;> first | exact rfl | exact .inl rfl | exact .inr rfl) | apply zq | apply zb | apply zo | apply zk | apply zl)
      refine ow_stoH (cells' := [i64 g.nts, i64 g.start, .slice p g.rules.length c, .slice pw w.length cw, .slice (some ⟨h.length, 0, some 0⟩) N N, .slice (some ⟨h.length + 1, 0, some 0⟩) M M, .slice p3 (k + 1) c3, .map none]) (by simp only [push_cast, env, Nat.reduceEqDiff, reduceIte] <;> exact rfl) rfl rfl (by simp only [push_cast, env, Nat.reduceEqDiff, reduceIte] <;> exact rfl) (by simp only [push_cast, env, Nat.reduceEqDiff, reduceIte] <;> exact rfl) mc3 (by simp only [push_cast, env, Nat.reduceEqDiff, reduceIte] <;> exact rfl) rfl rfl ?_
      repeat (first | apply zs | apply zr | apply zn | ((first | apply zx | apply zy); · simp only [push_cast, env, Nat.reduceEqDiff, reduceIte, Nat.reduceAdd, Nat.reduceMul, Nat.reduceLeDiff, reduceCtorEq, Nat.reduceSub, Int.reduceToNat, f2] <;> first | exact rfl | exact .inl rfl | exact .inr rfl) | apply zq | apply zb | apply zo | apply zk | apply zl)
      refine ⟨hlt2, (_, ms ++ [hm.length], .slice p3 (k + 1) c3), (by simp only [push_cast, Nat.reduceEqDiff, reduceIte]), rfl, pre_set hp3 (by omega), fun i cs v o et he hi => ?_, ?_, get_set_self mc3, by simp [mn], ?_, fun i hi => ?_, fun i j y h1 h2 => ?_⟩
      · simp only
        rw [get_set_ne (by
          rintro rfl
          have := kind _ _ (mkb _ cs v o et he hi) (fun cs' ve h5 => by
            simp only [HObj.arr.injEq] at h5
            rcases he with rfl | rfl
            · exact absurd h5.2.2.2 (by decide)
            · exact absurd h5.2.2.2 (by decide))
          rw [mc3] at this
          simp only [Option.some.injEq, HObj.arr.injEq] at this
          rcases he with rfl | rfl
          · exact absurd this.2.2.2 (by decide)
          · exact absurd this.2.2.2 (by decide))]
        exact kind _ _ (mkb _ cs v o et he hi) (fun cs' ve h5 => by
          simp only [HObj.arr.injEq] at h5
          rcases he with rfl | rfl
          · exact absurd h5.2.2.2 (by decide)
          · exact absurd h5.2.2.2 (by decide))
      · simp only
        rw [get_set_ne (by omega)]
        exact ms3
      · simp only [List.map_append, List.map_cons, List.map_nil]
        refine G3.mono fun i o hi ho => ?_
        obtain ⟨ve, h5⟩ := G3.obj hi
        rw [get_set_ne (by
          rintro rfl
          rw [mc3] at h5
          simp only [Option.some.injEq, HObj.arr.injEq] at h5
          exact absurd h5.2.2.2 (by decide))]
        exact ho
      · simp only at hi ⊢
        rw [List.mem_append, List.mem_singleton] at hi
        rcases hi with hi | rfl
        · obtain ⟨q1, q2⟩ := mm i hi
          refine ⟨?_, q2⟩
          rw [get_set_ne (by rintro rfl; rw [mc] at q1; cases q1)]
          exact kind _ _ q1 (fun cs ve h5 => by cases h5)
        · exact ⟨by rw [get_set_ne (by omega)]; exact hnew, by omega⟩
      · simp only at h1 h2
        have hlow : ∀ (a : Nat) (z : Nat), ms[a]? = some z → z < hm.length := fun a z ha => lt_of_get (mm z (List.mem_of_getElem? ha)).1
        rcases get_snoc h1 with h1 | ⟨h1, h1'⟩ <;> rcases get_snoc h2 with h2 | ⟨h2, h2'⟩
        · exact md i j y h1 h2
        · have := hlow i y h1; omega
        · have := hlow j y h2; omega
        · omega
    · have e3b := ge_dec hlt2
      obtain rfl : k = M := by omega
      repeat (first | apply zs | apply zr | apply zn | ((first | apply zx | apply zy); · simp only [push_cast, env, Nat.reduceEqDiff, reduceIte, Nat.reduceAdd, Nat.reduceMul, Nat.reduceLeDiff, reduceCtorEq, Nat.reduceSub, Int.reduceToNat, e3b] <;> first | exact rfl | exact .inl rfl | exact .inr rfl) | apply zq | apply zb | apply zo | apply zk | apply zl)
      refine cw_condF rfl ?_
      refine cw_exit ?_
      show CW _ _ _ _
      obtain ⟨im, vm, hml, hme, hmg⟩ := mg.mine (by omega)
      subst hme
      have hgs0 : ∀ i, gs (List.replicate k ([] : List Item)) i = [] := fun i => by
        unfold gs
        rw [List.getD_eq_getElem?_getD, List.getElem?_replicate]
        split <;> rfl
      have K0 : CHR h hk g (.slice p g.rules.length c) (.slice pw w.length cw) ⟨h.length + 2, h.length + 1, im, vm, ms, 0, .slice (some ⟨h.length, 0, some 0⟩) N N, .map none⟩ ⟨hm, List.replicate k nilS, List.replicate k [], []⟩ := by
        refine ⟨mp, ?_, msi, hmg, (fun e => by simp at e), by simp, by simp [mn], fun j u l h1 h2 => ?_, fun i j u v x _ h1 _ h3 => ?_, fun j i l h1 h2 => ?_, md, mkb, by simp only; omega, by simp only; omega, hml, fun i hi => (mm i hi).2⟩
        · unfold chCells
          simp only [List.length_replicate]
          exact mc
        · simp only at h1 h2
          rw [List.getElem?_replicate] at h1 h2
          split at h1
          · rename_i hjk
            rw [if_pos hjk] at h2
            cases h1; cases h2
            exact Grow.nil
          · cases h1
        · simp only at h1
          rw [List.getElem?_replicate] at h1
          split at h1 <;> cases h1
          simp [isAt] at h3
        · simp only at h1 h2 ⊢
          rw [List.getElem?_replicate] at h2
          split at h2 <;> cases h2
          exact (mm i (List.mem_of_getElem? h1)).1
      have C0 : CI g w (List.replicate k []) := ⟨by simp [hM], fun j x hx => by rw [hgs0] at hx; simp at hx, fun j => by rw [hgs0]; exact List.nodup_nil⟩
      clear mc msi mg hmg mm md mn mkb mp hgs0
      obtain ⟨F0, hF0⟩ : ∃ F0 : Fix, F0 = ⟨h.length + 2, h.length + 1, im, vm, ms, 0, .slice (some ⟨h.length, 0, some 0⟩) N N, .map none⟩ := ⟨_, rfl⟩
      rw [← hF0] at K0
      have hcp : F0.cp = h.length + 2 := by rw [hF0]
      have hbv : F0.bv = .slice (some ⟨h.length, 0, some 0⟩) N N := by rw [hF0]
      clear hF0
      obtain ⟨s1, s2⟩ := And.intro R.s1 R.s2
      obtain ⟨idb, verb, ownb, cb, usb, hbe, hidb, hbn, hbr⟩ := id hll
      cases hbe
      have hnl : g.start.toNat < ls.length := by omega
      have hli := lget_get (ls := ls) s1 (by omega)
      obtain ⟨ub, hub⟩ : ∃ ub, usb[g.start.toNat]? = some ub := ⟨_, List.getElem?_eq_getElem (by omega)⟩
      have hlr := hbr _ _ _ hub hli
      obtain ⟨pb, cbb, rfl⟩ := SlR.form hlr
      have hidb' := K0.kb _ _ _ _ _ (.inr rfl) hidb
      have q3 := rng0 (N := ls.length) s1 (by omega)
      have hll2 := B.l _ (List.mem_of_getElem? hli)
      have hc := K0.c
      unfold chCells at hc
      rw [hbv] at hc
      simp only [List.length_replicate] at hc hidb'
      generalize hL : lget ls g.start = L at hlr hll2 hub
      refine cw_weakL [(2, .box [i64 g.nts, i64 g.start, .slice p g.rules.length c]), (5, .val (.pointer (some ⟨F0.cp, 0, some 0⟩)))] (by simp only [push_cast, Nat.reduceEqDiff, reduceIte, hcp]) ?_
      show CW _ _ ⟨_, [], hm⟩ _
      repeat (first | apply zs | apply zr | apply zn | apply zq | apply zb | apply zo | apply zk | apply zl)
      show CW _ _ _ _
      apply cw_ord0 (L := [[], [0], [1], [2], [], [4], [3, 5], [6], [7], []]) (resL := [_, _, _, _, _, _, _, _, _, _]) (frF := [(5, .val (.pointer (some ⟨F0.cp, 0, some 0⟩))), (75, .val (.slice pb L.length cbb)), (76, .val (i64 L.length)), (77, .val (i64 0))])
      case hm => exact mixed
      case hc => kernel_rfl
      case hb => rfl
      case hS => repeat (first | exact Steps0.nil _ | (apply Steps0.cons; (· apply zz; simp only [push_cast, env, Nat.reduceEqDiff, reduceIte, Nat.reduceAdd, Nat.reduceMul, Nat.reduceLeDiff, reduceCtorEq, Nat.reduceSub, Int.reduceToNat, hc, hidb', q3, hub, Nat.mul_one] <;> exact rfl); (· rfl)))
      case ht => rfl
      case hF => repeat (first | exact trivial | (refine ⟨.inl ⟨by decide, rfl⟩, ?_⟩) | (refine ⟨.inr ⟨rfl, by simp⟩, ?_⟩))
      show CW _ _ _ _
      clear hc
      have qok : ∀ q : Int, q ∈ L → ∃ (k : Nat) (r' : Rule), q = k ∧ g.rules[k]? = some r' ∧ r'.lhs = g.start := fun q hq => (B.m g.start s1 s2 q).1 (hL ▸ hq)
      repeat (first | apply zs | apply zr | apply zn | ((first | apply zx | apply zy); · simp only [push_cast, env, Nat.reduceEqDiff, reduceIte, Nat.reduceAdd, Nat.reduceMul, Nat.reduceLeDiff, reduceCtorEq, Nat.reduceSub, Int.reduceToNat] <;> first | exact rfl | exact .inl rfl | exact .inr rfl) | apply zq | apply zb | apply zo | apply zk | apply zl)
      refine cw_forG L.length (fun k (z : Gh) => [(5, .val (.pointer (some ⟨F0.cp, 0, some 0⟩))), (75, .val (.slice pb L.length cbb)), (76, .val (i64 L.length)), (77, .val (i64 k))]) (fun _ z => z.h)
        (fun i z => CHR h hk g (.slice p g.rules.length c) (.slice pw w.length cw) F0 z ∧ z.S.length = k ∧ CI g w z.S ∧ ∀ q : Nat, (q : Int) ∈ L.take i → (⟨q, 0, 0⟩ : Item) ∈ gs z.S 0) ⟨hm, List.replicate k nilS, List.replicate k [], []⟩ (by simp only [push_cast, Nat.reduceEqDiff, reduceIte]) rfl ⟨K0, by simp, C0, fun q hq => by simp at hq⟩ ?_
      clear K0 C0 hidb'
      rintro i ⟨h1, us1, S1, E1⟩ hkn ⟨K, hSl, C1, hall⟩
      simp only at K hSl C1 hall ⊢
      have hjS1 : 0 < S1.length := by omega
      have hsm1 := C1.small R hw (k := 0) (by omega)
      by_cases hlt3 : i < L.length
      · obtain ⟨idl, verl, ownl, cl, cellsl, hvl, hidl, hgl⟩ := RdInts.at hlr hlt3
        cases hvl
        have hidl' := K.kb _ _ _ _ _ (.inl rfl) hidl
        have f1 := rng hlt3
        have f2 := inc hlt3 (by omega)
        have f3 := lt_dec hlt3
        obtain ⟨q, rq, hqe', hq2, hq3⟩ := qok L[i] (List.getElem_mem hlt3)
        rw [hqe'] at hgl
        have hIt : It g w 0 ⟨q, 0, 0⟩ := .init q rq hq2 hq3
        repeat (first | apply zs | apply zr | apply zn | ((first | apply zx | apply zy); · simp only [push_cast, env, Nat.reduceEqDiff, reduceIte, Nat.reduceAdd, Nat.reduceMul, Nat.reduceLeDiff, reduceCtorEq, Nat.reduceSub, Int.reduceToNat, f3] <;> first | exact rfl | exact .inl rfl | exact .inr rfl) | apply zq | apply zb | apply zo | apply zk | apply zl)
        refine cw_condT rfl ?_
        repeat (first | apply zs | apply zr | apply zn | ((first | apply zx | apply zy); · simp only [push_cast, env, Nat.reduceEqDiff, reduceIte, Nat.reduceAdd, Nat.reduceMul, Nat.reduceLeDiff, reduceCtorEq, Nat.reduceSub, Int.reduceToNat, hidl', f1, hgl, Nat.mul_one] <;> first | exact rfl | exact .inl rfl | exact .inr rfl) | apply zq | apply zb | apply zo | apply zk | apply zl)
        refine zc (fn := Try.f52) (by simp only [push_cast, env, Nat.reduceEqDiff, reduceIte] <;> exact rfl) Try.func52 (by kernel_rfl) (by kernel_rfl) ?_
        rw [List.append_nil]
        refine (add_fw (j := 0) (x := ⟨q, 0, 0⟩) K hjS1 (by simp only; omega)).mono ?_
        rintro _ h2 ⟨us2, K2⟩
        simp only at K2
        have X2 := addS_ext (x := ⟨q, 0, 0⟩) hjS1
        repeat (first | apply zs | apply zr | apply zn | ((first | apply zx | apply zy); · simp only [push_cast, env, Nat.reduceEqDiff, reduceIte, Nat.reduceAdd, Nat.reduceMul, Nat.reduceLeDiff, reduceCtorEq, Nat.reduceSub, Int.reduceToNat, f2] <;> first | exact rfl | exact .inl rfl | exact .inr rfl) | apply zq | apply zb | apply zo | apply zk | apply zl)
        refine ⟨hlt3, ⟨h2, us2, _, E1⟩, (by simp only [push_cast, Nat.reduceEqDiff, reduceIte]), rfl, K2, by simp only; rw [X2.n]; exact hSl, C1.add hIt (by omega), fun q' hq' => ?_⟩
        rw [List.take_succ_eq_append_getElem hlt3, List.mem_append, List.mem_singleton] at hq'
        rcases hq' with hq' | hq'
        · exact X2.mem (hall q' hq')
        · rw [hqe'] at hq'
          have : q' = q := by omega
          subst this
          exact addS_mem hjS1
      · have e3c := ge_dec hlt3
        obtain rfl : i = L.length := by omega
        repeat (first | apply zs | apply zr | apply zn | ((first | apply zx | apply zy); · simp only [push_cast, env, Nat.reduceEqDiff, reduceIte, Nat.reduceAdd, Nat.reduceMul, Nat.reduceLeDiff, reduceCtorEq, Nat.reduceSub, Int.reduceToNat, e3c] <;> first | exact rfl | exact .inl rfl | exact .inr rfl) | apply zq | apply zb | apply zo | apply zk | apply zl)
        refine cw_condF rfl ?_
        refine cw_exit ?_
        show CW _ _ _ _
        rw [List.take_length] at hall
        have A0 : At g w S1 [] 0 0 := ⟨C1, fun q r h1 h2 => hall q (by rw [← hL]; exact (B.m g.start s1 s2 q).2 ⟨q, r, rfl, h1, h2⟩), fun i hi => absurd hi (Nat.not_lt_zero _), fun a ha => (by cases ha), fun x hx => (by simp at hx)⟩
        have hc := K.c
        unfold chCells at hc
        simp only at hc
        rw [hSl] at hc
        repeat (first | apply zs | apply zr | apply zn | ((first | apply zx | apply zy); · simp only [push_cast, env, Nat.reduceEqDiff, reduceIte, Nat.reduceAdd, Nat.reduceMul, Nat.reduceLeDiff, reduceCtorEq, Nat.reduceSub, Int.reduceToNat, hc] <;> first | exact rfl | exact .inl rfl | exact .inr rfl) | apply zq | apply zb | apply zo | apply zk | apply zl)
        refine cw_forG k (fun j (z : Nat × Value × Gh) => [(5, .val (.pointer (some ⟨F0.cp, 0, some 0⟩))), (90, .val (i64 k)), (91, .val (i64 j))]) (fun _ z => z.2.2.h)
          (fun j z => CHR h hk g (.slice p g.rules.length c) (.slice pw w.length cw) { F0 with ie := z.1, ev := z.2.1 } z.2.2 ∧ At g w z.2.2.S [] j 0) (F0.ie, F0.ev, ⟨h1, us1, S1, E1⟩) (by simp only [push_cast, Nat.reduceEqDiff, reduceIte]) rfl ⟨K, A0⟩ ?_
        clear K A0 hc hall C1 hSl hjS1 hsm1
        rintro j ⟨ie0, ev0, h1, us1, S1, E1⟩ hjk ⟨K, A⟩
        simp only at K A ⊢
        have hSl : S1.length = k := by have := A.ci.n; omega
        by_cases hlt4 : j < k
        · have f2 := inc hlt4 (by omega)
          have f3 := lt_dec hlt4
          have f1 := rng hlt4
          have hc := K.c
          unfold chCells at hc
          simp only at hc
          rw [hSl] at hc
          repeat (first | apply zs | apply zr | apply zn | ((first | apply zx | apply zy); · simp only [push_cast, env, Nat.reduceEqDiff, reduceIte, Nat.reduceAdd, Nat.reduceMul, Nat.reduceLeDiff, reduceCtorEq, Nat.reduceSub, Int.reduceToNat, f3] <;> first | exact rfl | exact .inl rfl | exact .inr rfl) | apply zq | apply zb | apply zo | apply zk | apply zl)
          refine cw_condT rfl ?_
          repeat (first | apply zs | apply zr | apply zn | ((first | apply zx | apply zy); · simp only [push_cast, env, Nat.reduceEqDiff, reduceIte, Nat.reduceAdd, Nat.reduceMul, Nat.reduceLeDiff, reduceCtorEq, Nat.reduceSub, Int.reduceToNat] <;> first | exact rfl | exact .inl rfl | exact .inr rfl) | apply zq | apply zb | apply zo | apply zk | apply zl)
          refine ow_map (kt := 3) (et := 3) (by simp only [push_cast, env, Nat.reduceEqDiff, reduceIte] <;> exact rfl) rfl (by kernel_rfl) ?_
          repeat (first | apply zs | apply zr | apply zn | ((first | apply zx | apply zy); · simp only [push_cast, env, Nat.reduceEqDiff, reduceIte, Nat.reduceAdd, Nat.reduceMul, Nat.reduceLeDiff, reduceCtorEq, Nat.reduceSub, Int.reduceToNat] <;> first | exact rfl | exact .inl rfl | exact .inr rfl) | apply zq | apply zb | apply zo | apply zk | apply zl)
          refine ow_stoH (cells' := [i64 g.nts, i64 g.start, .slice p g.rules.length c, .slice pw w.length cw, F0.bv, .slice (some ⟨F0.si, 0, some 0⟩) k k, .slice (some ⟨F0.im, 0, some F0.vm⟩) k k, .map (some h1.length)]) (by simp only [push_cast, env, Nat.reduceEqDiff, reduceIte] <;> exact rfl) rfl rfl (by simp only [push_cast, env, Nat.reduceEqDiff, reduceIte] <;> exact rfl) (by simp only [push_cast, env, Nat.reduceEqDiff, reduceIte] <;> exact rfl) (get_of_push hc) (by simp only [push_cast, env, Nat.reduceEqDiff, reduceIte] <;> exact rfl) rfl rfl ?_
          have K1 := K.newE
          simp only at K1
          rw [hSl] at K1
          generalize hH1 : (h1 ++ [HObj.map []]).set F0.cp (.arr [i64 g.nts, i64 g.start, .slice p g.rules.length c, .slice pw w.length cw, F0.bv, .slice (some ⟨F0.si, 0, some 0⟩) k k, .slice (some ⟨F0.im, 0, some F0.vm⟩) k k, .map (some h1.length)] 0 true 73) = H1 at K1
          generalize h1.length = ie1 at K1
          repeat (first | apply zs | apply zr | apply zn | ((first | apply zx | apply zy); · simp only [push_cast, env, Nat.reduceEqDiff, reduceIte, Nat.reduceAdd, Nat.reduceMul, Nat.reduceLeDiff, reduceCtorEq, Nat.reduceSub, Int.reduceToNat] <;> first | exact rfl | exact .inl rfl | exact .inr rfl) | apply zq | apply zb | apply zo | apply zk | apply zl)
          refine cw_wh (fun x : Gh × Nat => 400000001 - x.2) (fun x => [(5, .val (.pointer (some ⟨F0.cp, 0, some 0⟩))), (10, .val (i64 j)), (11, .val (i64 x.2)), (90, .val (i64 k)), (91, .val (i64 j))]) (fun x => x.1.h)
            (fun x => CHR h hk g (.slice p g.rules.length c) (.slice pw w.length cw) { F0 with ie := ie1, ev := .map (some ie1) } x.1 ∧ At g w x.1.S x.1.E j x.2) (⟨H1, us1, S1, []⟩, 0) (by simp only [push_cast, Nat.reduceEqDiff, reduceIte]) rfl ⟨K1, A⟩ ?_
          clear K1 K A hH1 hc
          rintro ⟨⟨h2, us2, S2, E2⟩, i2⟩ ⟨K, A⟩
          simp only at K A ⊢
          have hSl2 : S2.length = k := by have := A.ci.n; omega
          have hjS2 : j < S2.length := by omega
          have hsm2 := A.ci.small R hw (k := j) (by omega)
          have hc := K.c
          have hs := K.s
          unfold chCells at hc
          simp only at hc hs
          rw [hSl2] at hc
          obtain ⟨u2, cu2, hu2, gu2⟩ := K.us_at hjS2
          simp only at hu2 gu2
          repeat (first | apply zs | apply zr | apply zn | ((first | apply zx | apply zy); · simp only [push_cast, env, Nat.reduceEqDiff, reduceIte, Nat.reduceAdd, Nat.reduceMul, Nat.reduceLeDiff, reduceCtorEq, Nat.reduceSub, Int.reduceToNat, hc, hs, hu2, f1, Nat.mul_one] <;> first | exact rfl | exact .inl rfl | exact .inr rfl) | apply zq | apply zb | apply zo | apply zk | apply zl)
          by_cases hlt5 : i2 < (gs S2 j).length
          · have f6 := lt_dec hlt5
            have f7 := inc hlt5 (by omega)
            have f8 := rng hlt5
            obtain ⟨iu, vu, cu, hu3, hgu, hrdu⟩ := K.item_at hjS2 hlt5
            simp only at hu3 hgu hrdu
            generalize hy : (gs S2 j)[i2] = y at hrdu
            have hym : y ∈ gs S2 j := hy ▸ List.getElem_mem hlt5
            refine cw_condT (by simp only [push_cast, env, Nat.reduceEqDiff, reduceIte, f6] <;> exact rfl) ?_
            repeat (first | apply zs | apply zr | apply zn | ((first | apply zx | apply zy); · simp only [push_cast, env, Nat.reduceEqDiff, reduceIte, Nat.reduceAdd, Nat.reduceMul, Nat.reduceLeDiff, reduceCtorEq, Nat.reduceSub, Int.reduceToNat, hc, hs, hu3, hgu, hrdu, f1, f8, Nat.mul_one] <;> first | exact rfl | exact .inl rfl | exact .inr rfl) | apply zq | apply zb | apply zo | apply zk | apply zl)
            refine zc (fn := Try.f53) (by simp only [push_cast, env, Nat.reduceEqDiff, reduceIte] <;> exact rfl) Try.func53 (by kernel_rfl) (by kernel_rfl) ?_
            rw [List.append_nil]
            refine (step_fw (x := y) K rfl (List.prefix_refl _) hu hwR (hbv ▸ hll) B R W hw A.ci (by omega) (A.ci.s j y hym) A.es).mono ?_
            rintro _ h3 ⟨us3, S3, E3, K3, P3⟩
            simp only at P3
            repeat (first | apply zs | apply zr | apply zn | ((first | apply zx | apply zy); · simp only [push_cast, env, Nat.reduceEqDiff, reduceIte, Nat.reduceAdd, Nat.reduceMul, Nat.reduceLeDiff, reduceCtorEq, Nat.reduceSub, Int.reduceToNat, f7] <;> first | exact rfl | exact .inl rfl | exact .inr rfl) | apply zq | apply zb | apply zo | apply zk | apply zl)
            refine ⟨(⟨h3, us3, S3, E3⟩, i2 + 1), by simp only; omega, (by simp only [push_cast, Nat.reduceEqDiff, reduceIte]), rfl, K3, A.step hlt5 (by rw [hy]; exact P3)⟩
          · have f6 := ge_dec hlt5
            refine cw_condF (by simp only [push_cast, env, Nat.reduceEqDiff, reduceIte, f6] <;> exact rfl) ?_
            refine cw_exit ?_
            show CW _ _ _ _
            repeat (first | apply zs | apply zr | apply zn | ((first | apply zx | apply zy); · simp only [push_cast, env, Nat.reduceEqDiff, reduceIte, Nat.reduceAdd, Nat.reduceMul, Nat.reduceLeDiff, reduceCtorEq, Nat.reduceSub, Int.reduceToNat, f2] <;> first | exact rfl | exact .inl rfl | exact .inr rfl) | apply zq | apply zb | apply zo | apply zk | apply zl)
            exact ⟨hlt4, (ie1, .map (some ie1), ⟨h2, us2, S2, E2⟩), (by simp only [push_cast, Nat.reduceEqDiff, reduceIte]), rfl, K, A.next (by omega)⟩
        · have e3d := ge_dec hlt4
          obtain rfl : j = k := by omega
          repeat (first | apply zs | apply zr | apply zn | ((first | apply zx | apply zy); · simp only [push_cast, env, Nat.reduceEqDiff, reduceIte, Nat.reduceAdd, Nat.reduceMul, Nat.reduceLeDiff, reduceCtorEq, Nat.reduceSub, Int.reduceToNat, e3d] <;> first | exact rfl | exact .inl rfl | exact .inr rfl) | apply zq | apply zb | apply zo | apply zk | apply zl)
          refine cw_condF rfl ?_
          refine cw_exit ?_
          show CW _ _ _ _
          repeat (first | apply zs | apply zr | apply zn | ((first | apply zx | apply zy); · simp only [push_cast, env, Nat.reduceEqDiff, reduceIte, Nat.reduceAdd, Nat.reduceMul, Nat.reduceLeDiff, reduceCtorEq, Nat.reduceSub, Int.reduceToNat] <;> first | exact rfl | exact .inl rfl | exact .inr rfl) | apply zq | apply zb | apply zo | apply zk | apply zl)
          refine cw_ret ?_
          refine ⟨_, (by simp only [push_cast, env, Nat.reduceEqDiff, reduceIte] <;> exact rfl), hk, _, { F0 with ie := ie0, ev := ev0 }, ⟨h1, us1, S1, E1⟩, rfl, rfl, K, chart_ok A.ci A.ini (hM ▸ A.don), hu⟩
end Go.Proofs.Ytafncpgiibikcaa

namespace Go.Proofs.Ytafncpgiibikcaa
set_option linter.unusedSimpArgs false
set_option linter.unusedVariables false
set_option maxRecDepth 20000
open Go.RowKit Am Ty

def fitE (g : Gram) (w : List Nat) : Int := if badG g then 3 else if 512 < w.length then 2 else 0
theorem fitE_ok {g : Gram} {w : List Nat} : fitE g w = 0 ↔ ¬ badG g ∧ w.length ≤ 512 := by
  unfold fitE
  by_cases h : badG g
  · simp [h]
  · by_cases h2 : 512 < w.length
    · simp [h, h2]
    · simp [h, h2]; omega
theorem fit_fw {h : Heap} {g : Gram} {v wv : Value} {w : List Nat} (hr : RdGram h v g) (hw : RdB h wv w) : FW env 36 [v, wv] h fun r h' => r = i64 (fitE g w) ∧ h' = h := by
  obtain ⟨u, rfl, hu⟩ := id hr
  obtain ⟨p, c, rfl⟩ := hu.form
  obtain ⟨pw, cw, rfl⟩ := hw.form
  refine fw_enter (fn := Try.f36) Try.func36 rfl (by kernel_rfl) (by simp [Try.ntmps36]) ?_; simp only [push_cast]
  repeat (first | apply zs | apply zr | apply zn | ((first | apply zx | apply zy); · simp only [push_cast, env, Nat.reduceEqDiff, reduceIte, Nat.reduceAdd, Nat.reduceMul, Nat.reduceLeDiff, reduceCtorEq, Nat.reduceSub, Int.reduceToNat] <;> first | exact rfl | exact .inl rfl | exact .inr rfl) | apply zq | apply zb | apply zo | apply zk | apply zl)
  refine zc (fn := Try.f23) (by simp only [push_cast, env, Nat.reduceEqDiff, reduceIte] <;> exact rfl) Try.func23 (by kernel_rfl) (by kernel_rfl) ?_
  rw [List.append_nil]
  refine (right_fw hr).mono ?_
  rintro _ h ⟨rfl, rfl⟩
  unfold fitE
  by_cases hb : badG g
  · have e0 : rightG g = 3 := if_pos hb
    rw [e0, if_pos hb]
    repeat (first | apply zs | apply zr | apply zn | ((first | apply zx | apply zy); · simp only [push_cast, env, Nat.reduceEqDiff, reduceIte, Nat.reduceAdd, Nat.reduceMul, Nat.reduceLeDiff, reduceCtorEq, Nat.reduceSub, Int.reduceToNat] <;> first | exact rfl | exact .inl rfl | exact .inr rfl) | apply zq | apply zb | apply zo | apply zk | apply zl)
    refine cw_condT rfl ?_
    repeat (first | apply zs | apply zr | apply zn | ((first | apply zx | apply zy); · simp only [push_cast, env, Nat.reduceEqDiff, reduceIte, Nat.reduceAdd, Nat.reduceMul, Nat.reduceLeDiff, reduceCtorEq, Nat.reduceSub, Int.reduceToNat] <;> first | exact rfl | exact .inl rfl | exact .inr rfl) | apply zq | apply zb | apply zo | apply zk | apply zl)
    refine cw_ret ?_
    exact ⟨_, (by simp only [push_cast, env, Nat.reduceEqDiff, reduceIte] <;> exact rfl), rfl, rfl⟩
  have e0 : rightG g = 0 := if_neg hb
  rw [e0, if_neg hb]
  repeat (first | apply zs | apply zr | apply zn | ((first | apply zx | apply zy); · simp only [push_cast, env, Nat.reduceEqDiff, reduceIte, Nat.reduceAdd, Nat.reduceMul, Nat.reduceLeDiff, reduceCtorEq, Nat.reduceSub, Int.reduceToNat] <;> first | exact rfl | exact .inl rfl | exact .inr rfl) | apply zq | apply zb | apply zo | apply zk | apply zl)
  refine cw_condF rfl ?_
  repeat (first | apply zs | apply zr | apply zn | ((first | apply zx | apply zy); · simp only [push_cast, env, Nat.reduceEqDiff, reduceIte, Nat.reduceAdd, Nat.reduceMul, Nat.reduceLeDiff, reduceCtorEq, Nat.reduceSub, Int.reduceToNat] <;> first | exact rfl | exact .inl rfl | exact .inr rfl) | apply zq | apply zb | apply zo | apply zk | apply zl)
  refine cw_cond (by simp only [push_cast, env, Nat.reduceEqDiff, reduceIte] <;> exact rfl) (fun c1 => ?_) (fun c1 => ?_)
  · have c1' : 512 < w.length := by simp only [decide_eq_true_eq] at c1; omega
    rw [if_pos c1']
    repeat (first | apply zs | apply zr | apply zn | ((first | apply zx | apply zy); · simp only [push_cast, env, Nat.reduceEqDiff, reduceIte, Nat.reduceAdd, Nat.reduceMul, Nat.reduceLeDiff, reduceCtorEq, Nat.reduceSub, Int.reduceToNat] <;> first | exact rfl | exact .inl rfl | exact .inr rfl) | apply zq | apply zb | apply zo | apply zk | apply zl)
    refine cw_ret ?_
    exact ⟨_, (by simp only [push_cast, env, Nat.reduceEqDiff, reduceIte] <;> exact rfl), rfl, rfl⟩
  · have c1' : ¬ 512 < w.length := by simp only [decide_eq_false_iff_not] at c1; omega
    rw [if_neg c1']
    repeat (first | apply zs | apply zr | apply zn | ((first | apply zx | apply zy); · simp only [push_cast, env, Nat.reduceEqDiff, reduceIte, Nat.reduceAdd, Nat.reduceMul, Nat.reduceLeDiff, reduceCtorEq, Nat.reduceSub, Int.reduceToNat] <;> first | exact rfl | exact .inl rfl | exact .inr rfl) | apply zq | apply zb | apply zo | apply zk | apply zl)
    refine cw_ret ?_
    exact ⟨_, (by simp only [push_cast, env, Nat.reduceEqDiff, reduceIte] <;> exact rfl), rfl, rfl⟩
def accI (g : Gram) (A : Int) (x : Item) : Bool := match g.rules[x.rule]? with
  | some r => decide (r.lhs = A) && (decide (x.frm = 0) && decide (x.dot = r.rhs.length))
  | none => false
theorem acc_iff {g : Gram} {w : List Nat} {S : List (List Item)} (C : ChartOK g w S) {j : Nat} (hj : j ≤ w.length) : (∃ x ∈ gs S j, accI g g.start x = true) ↔ NtTx g.rules g.start (sub w 0 j) := by
  rw [← it_accept hj]
  constructor
  · rintro ⟨x, hx, ha⟩
    unfold accI at ha
    split at ha
    · rename_i r hr
      simp only [Bool.and_eq_true, decide_eq_true_eq] at ha
      exact ⟨x, r, (C.m j x).1 hx, hr, ha.1, ha.2.1, ha.2.2⟩
    · cases ha
  · rintro ⟨x, r, h1, h2, h3, h4, h5⟩
    refine ⟨x, (C.m j x).2 h1, ?_⟩
    unfold accI
    rw [h2]
    simp only [Bool.and_eq_true, decide_eq_true_eq]
    exact ⟨h3, h4, h5⟩
theorem ChartOK.small {g : Gram} {w : List Nat} {S : List (List Item)} (C : ChartOK g w S) (R : RightS g) (hw : w.length ≤ 512) {k : Nat} (hk : k ≤ w.length) : (gs S k).length ≤ 400000000 :=
  CI.small ⟨C.n, fun k x hx => (C.m k x).1 hx, C.nd⟩ R hw hk
def AccR (g : Gram) (w : List Nat) (r : Value) : Prop := ∃ b, r = .tuple #[.bool b, i64 (fitE g w)] ∧ (fitE g w ≠ 0 → b = false) ∧ (fitE g w = 0 → (b = true ↔ NtTx g.rules g.start w))
set_option maxHeartbeats 4000000 in
theorem accepts_fw {h : Heap} {g : Gram} {v wv : Value} {w : List Nat} (hr : RdGram h v g) (hwR : RdB h wv w) (W : WfG g) : FW env 15 [v, wv] h fun r h' => AccR g w r ∧ h <+: h' := by
  obtain ⟨u, rfl, hu⟩ := id hr
  obtain ⟨p, c, rfl⟩ := hu.form
  obtain ⟨pw, cw, rfl⟩ := hwR.form
  refine fw_enter (fn := Try.f15) Try.func15 rfl (by kernel_rfl) (by simp [Try.ntmps15]) ?_; simp only [push_cast]
  repeat (first | apply zs | apply zr | apply zn | ((first | apply zx | apply zy); · simp only [push_cast, env, Nat.reduceEqDiff, reduceIte, Nat.reduceAdd, Nat.reduceMul, Nat.reduceLeDiff, reduceCtorEq, Nat.reduceSub, Int.reduceToNat] <;> first | exact rfl | exact .inl rfl | exact .inr rfl) | apply zq | apply zb | apply zo | apply zk | apply zl)
  refine zc (fn := Try.f36) (by simp only [push_cast, env, Nat.reduceEqDiff, reduceIte] <;> exact rfl) Try.func36 (by kernel_rfl) (by kernel_rfl) ?_
  rw [List.append_nil]
  refine (fit_fw hr hwR).mono ?_
  rintro _ h ⟨rfl, rfl⟩
  by_cases hf : ¬ fitE g w = 0
  · have df : decide (fitE g w = 0) = false := decide_eq_false hf
    repeat (first | apply zs | apply zr | apply zn | ((first | apply zx | apply zy); · simp only [push_cast, env, Nat.reduceEqDiff, reduceIte, Nat.reduceAdd, Nat.reduceMul, Nat.reduceLeDiff, reduceCtorEq, Nat.reduceSub, Int.reduceToNat, df] <;> first | exact rfl | exact .inl rfl | exact .inr rfl) | apply zq | apply zb | apply zo | apply zk | apply zl)
    refine cw_condT (by simp only [push_cast, env, Nat.reduceEqDiff, reduceIte, df] <;> exact rfl) ?_
    repeat (first | apply zs | apply zr | apply zn | ((first | apply zx | apply zy); · simp only [push_cast, env, Nat.reduceEqDiff, reduceIte, Nat.reduceAdd, Nat.reduceMul, Nat.reduceLeDiff, reduceCtorEq, Nat.reduceSub, Int.reduceToNat] <;> first | exact rfl | exact .inl rfl | exact .inr rfl) | apply zq | apply zb | apply zo | apply zk | apply zl)
    refine cw_ret ?_
    exact ⟨_, (by simp only [push_cast, env, Nat.reduceEqDiff, reduceIte] <;> exact rfl), ⟨false, rfl, fun _ => rfl, fun h => absurd h hf⟩, List.prefix_refl _⟩
  replace hf : fitE g w = 0 := Classical.not_not.1 hf
  obtain ⟨hb, hw⟩ := fitE_ok.1 hf
  have R := rightS hb
  rw [hf]
  repeat (first | apply zs | apply zr | apply zn | ((first | apply zx | apply zy); · simp only [push_cast, env, Nat.reduceEqDiff, reduceIte, Nat.reduceAdd, Nat.reduceMul, Nat.reduceLeDiff, reduceCtorEq, Nat.reduceSub, Int.reduceToNat] <;> first | exact rfl | exact .inl rfl | exact .inr rfl) | apply zq | apply zb | apply zo | apply zk | apply zl)
  refine cw_condF rfl ?_
  repeat (first | apply zs | apply zr | apply zn | ((first | apply zx | apply zy); · simp only [push_cast, env, Nat.reduceEqDiff, reduceIte, Nat.reduceAdd, Nat.reduceMul, Nat.reduceLeDiff, reduceCtorEq, Nat.reduceSub, Int.reduceToNat] <;> first | exact rfl | exact .inl rfl | exact .inr rfl) | apply zq | apply zb | apply zo | apply zk | apply zl)
  refine zc (fn := Try.f37) (by simp only [push_cast, env, Nat.reduceEqDiff, reduceIte] <;> exact rfl) Try.func37 (by kernel_rfl) (by kernel_rfl) ?_
  rw [List.append_nil]
  refine (open_fw hr hwR R W hw).mono ?_
  rintro _ h' ⟨hB, rv, F, G, rfl, rfl, K, C, hrv⟩
  have hSl := C.n
  have hnS : w.length < G.S.length := by omega
  have hc := K.c
  have hs := K.s
  unfold chCells at hc
  obtain ⟨u2, cu2, hu2, gu2⟩ := K.us_at hnS
  have f1 := rng hnS
  have hsm := C.small R hw (Nat.le_refl _)
  have hacc := acc_iff C (Nat.le_refl _)
  rw [sub_all] at hacc
  repeat (first | apply zs | apply zr | apply zn | ((first | apply zx | apply zy); · simp only [push_cast, env, Nat.reduceEqDiff, reduceIte, Nat.reduceAdd, Nat.reduceMul, Nat.reduceLeDiff, reduceCtorEq, Nat.reduceSub, Int.reduceToNat, hc, hs, hu2, f1, Nat.mul_one] <;> first | exact rfl | exact .inl rfl | exact .inr rfl) | apply zq | apply zb | apply zo | apply zk | apply zl)
  refine cw_for (gs G.S w.length).length (fun i => [(2, .box [i64 g.nts, i64 g.start, .slice p g.rules.length c]), (27, .val (.slice u2 (gs G.S w.length).length cu2)), (28, .val (i64 (gs G.S w.length).length)), (29, .val (i64 i))]) (fun _ => G.h)
    (fun i => ∀ x ∈ (gs G.S w.length).take i, accI g g.start x = false) (by simp only [push_cast, Nat.reduceEqDiff, reduceIte]) rfl (fun x hx => by simp at hx) ?_
  intro i hi hI
  by_cases hlt : i < (gs G.S w.length).length
  · have e2 := inc hlt (by omega)
    have e3 := lt_dec hlt
    have f2 := rng hlt
    obtain ⟨iu, vu, cu, hu3, hgu, hrdu⟩ := K.item_at hnS hlt
    rw [hu2] at hu3
    cases hu3
    generalize hy : (gs G.S w.length)[i] = y at hrdu
    have hym : y ∈ gs G.S w.length := hy ▸ List.getElem_mem hlt
    obtain ⟨ry, hry, hyd, _, hysq⟩ := ((C.m _ _).1 hym).sound
    obtain ⟨hyl, hye⟩ := List.getElem?_eq_some_iff.1 hry
    obtain ⟨id3, ver3, own3, c3, cells3, p3, n3, c4, hv3, hid3, hn3, hrd3, hu3⟩ := hu.at hyl
    cases hv3
    subst hn3
    rw [hye] at hrd3
    have hid3' := getElem?_of_prefix K.p hid3
    have g2 := rng hyl
    have ha : accI g g.start y = (decide (ry.lhs = g.start) && (decide (y.frm = 0) && decide (y.dot = ry.rhs.length))) := by unfold accI; rw [hry]
    repeat (first | apply zs | apply zr | apply zn | ((first | apply zx | apply zy); · simp only [push_cast, env, Nat.reduceEqDiff, reduceIte, Nat.reduceAdd, Nat.reduceMul, Nat.reduceLeDiff, reduceCtorEq, Nat.reduceSub, Int.reduceToNat, e3] <;> first | exact rfl | exact .inl rfl | exact .inr rfl) | apply zq | apply zb | apply zo | apply zk | apply zl)
    refine cw_condT rfl ?_
    repeat (first | apply zs | apply zr | apply zn | ((first | apply zx | apply zy); · simp only [push_cast, env, Nat.reduceEqDiff, reduceIte, Nat.reduceAdd, Nat.reduceMul, Nat.reduceLeDiff, reduceCtorEq, Nat.reduceSub, Int.reduceToNat, hgu, hrdu, f2, hid3', hrd3, g2] <;> first | exact rfl | exact .inl rfl | exact .inr rfl) | apply zq | apply zb | apply zo | apply zk | apply zl)
    have hbe : (decide (ry.lhs = g.start) && decide ((y.frm : Int) = 0) && decide ((y.dot : Int) = (ry.rhs.length : Int))) = accI g g.start y := by
      rw [ha, Bool.and_assoc, show decide ((y.frm : Int) = 0) = decide (y.frm = 0) by rw [decide_eq_decide]; omega, show decide ((y.dot : Int) = (ry.rhs.length : Int)) = decide (y.dot = ry.rhs.length) by rw [decide_eq_decide]; omega]
    refine cw_cond (by simp only [push_cast, env, Nat.reduceEqDiff, reduceIte] <;> exact rfl) (fun c1 => ?_) (fun c1 => ?_)
    · rw [hbe] at c1
      repeat (first | apply zs | apply zr | apply zn | ((first | apply zx | apply zy); · simp only [push_cast, env, Nat.reduceEqDiff, reduceIte, Nat.reduceAdd, Nat.reduceMul, Nat.reduceLeDiff, reduceCtorEq, Nat.reduceSub, Int.reduceToNat] <;> first | exact rfl | exact .inl rfl | exact .inr rfl) | apply zq | apply zb | apply zo | apply zk | apply zl)
      refine cw_ret ?_
      exact ⟨_, (by simp only [push_cast, env, Nat.reduceEqDiff, reduceIte] <;> exact rfl), ⟨true, by rw [hf]; rfl, fun h => absurd hf h, fun _ => ⟨fun _ => hacc.1 ⟨y, hym, c1⟩, fun _ => rfl⟩⟩, K.p⟩
    · rw [hbe] at c1
      repeat (first | apply zs | apply zr | apply zn | ((first | apply zx | apply zy); · simp only [push_cast, env, Nat.reduceEqDiff, reduceIte, Nat.reduceAdd, Nat.reduceMul, Nat.reduceLeDiff, reduceCtorEq, Nat.reduceSub, Int.reduceToNat, e2] <;> first | exact rfl | exact .inl rfl | exact .inr rfl) | apply zq | apply zb | apply zo | apply zk | apply zl)
      refine ⟨hlt, (by simp only [push_cast, Nat.reduceEqDiff, reduceIte]), rfl, fun x hx => ?_⟩
      rw [List.take_succ_eq_append_getElem hlt, List.mem_append, List.mem_singleton] at hx
      rcases hx with hx | rfl
      · exact hI x hx
      · rw [hy]; exact c1
  · have e3 := ge_dec hlt
    obtain rfl : i = (gs G.S w.length).length := by omega
    repeat (first | apply zs | apply zr | apply zn | ((first | apply zx | apply zy); · simp only [push_cast, env, Nat.reduceEqDiff, reduceIte, Nat.reduceAdd, Nat.reduceMul, Nat.reduceLeDiff, reduceCtorEq, Nat.reduceSub, Int.reduceToNat, e3] <;> first | exact rfl | exact .inl rfl | exact .inr rfl) | apply zq | apply zb | apply zo | apply zk | apply zl)
    refine cw_condF rfl ?_
    refine cw_exit ?_
    show CW _ _ _ _
    rw [List.take_length] at hI
    repeat (first | apply zs | apply zr | apply zn | ((first | apply zx | apply zy); · simp only [push_cast, env, Nat.reduceEqDiff, reduceIte, Nat.reduceAdd, Nat.reduceMul, Nat.reduceLeDiff, reduceCtorEq, Nat.reduceSub, Int.reduceToNat] <;> first | exact rfl | exact .inl rfl | exact .inr rfl) | apply zq | apply zb | apply zo | apply zk | apply zl)
    refine cw_ret ?_
    refine ⟨_, (by simp only [push_cast, env, Nat.reduceEqDiff, reduceIte] <;> exact rfl), ⟨false, by rw [hf]; rfl, fun _ => rfl, fun _ => ⟨fun h => (by cases h), fun h => ?_⟩⟩, K.p⟩
    obtain ⟨x, hx, ha⟩ := hacc.2 h
    rw [hI x hx] at ha
    cases ha
def itemSum (S : List (List Item)) : Nat := (S.map List.length).sum
def ItemsR (g : Gram) (w : List Nat) (r : Value) : Prop := ∃ n, r = .tuple #[i64 n, i64 (fitE g w)] ∧ (fitE g w ≠ 0 → n = 0) ∧ (fitE g w = 0 → ∃ S, ChartOK g w S ∧ n = itemSum S)
theorem itemSum_le {g : Gram} {w : List Nat} {S : List (List Item)} (C : ChartOK g w S) (R : RightS g) (hw : w.length ≤ 512) (k : Nat) (hk : k ≤ S.length) : itemSum (S.take k) ≤ k * 400000000 := by
  induction k with
  | zero => simp [itemSum]
  | succ k ih =>
    have h1 : k < S.length := by omega
    rw [List.take_succ_eq_append_getElem h1]
    have h2 := ih (by omega)
    have h3 := C.small R hw (k := k) (by have := C.n; omega)
    rw [← gs_getElem h1] at h3
    unfold itemSum at h2 ⊢
    simp only [List.map_append, List.sum_append, List.map_cons, List.map_nil, List.sum_cons, List.sum_nil]
    omega
set_option maxHeartbeats 4000000 in
theorem items_fw {h : Heap} {g : Gram} {v wv : Value} {w : List Nat} (hr : RdGram h v g) (hwR : RdB h wv w) (W : WfG g) : FW env 27 [v, wv] h fun r h' => ItemsR g w r ∧ h <+: h' := by
  obtain ⟨u, rfl, hu⟩ := id hr
  obtain ⟨p, c, rfl⟩ := hu.form
  obtain ⟨pw, cw, rfl⟩ := hwR.form
  refine fw_enter (fn := Try.f27) Try.func27 rfl (by kernel_rfl) (by simp [Try.ntmps27]) ?_; simp only [push_cast]
  repeat (first | apply zs | apply zr | apply zn | ((first | apply zx | apply zy); · simp only [push_cast, env, Nat.reduceEqDiff, reduceIte, Nat.reduceAdd, Nat.reduceMul, Nat.reduceLeDiff, reduceCtorEq, Nat.reduceSub, Int.reduceToNat] <;> first | exact rfl | exact .inl rfl | exact .inr rfl) | apply zq | apply zb | apply zo | apply zk | apply zl)
  refine zc (fn := Try.f36) (by simp only [push_cast, env, Nat.reduceEqDiff, reduceIte] <;> exact rfl) Try.func36 (by kernel_rfl) (by kernel_rfl) ?_
  rw [List.append_nil]
  refine (fit_fw hr hwR).mono ?_
  rintro _ h ⟨rfl, rfl⟩
  by_cases hf : ¬ fitE g w = 0
  · have df : decide (fitE g w = 0) = false := decide_eq_false hf
    repeat (first | apply zs | apply zr | apply zn | ((first | apply zx | apply zy); · simp only [push_cast, env, Nat.reduceEqDiff, reduceIte, Nat.reduceAdd, Nat.reduceMul, Nat.reduceLeDiff, reduceCtorEq, Nat.reduceSub, Int.reduceToNat, df] <;> first | exact rfl | exact .inl rfl | exact .inr rfl) | apply zq | apply zb | apply zo | apply zk | apply zl)
    refine cw_condT (by simp only [push_cast, env, Nat.reduceEqDiff, reduceIte, df] <;> exact rfl) ?_
    repeat (first | apply zs | apply zr | apply zn | ((first | apply zx | apply zy); · simp only [push_cast, env, Nat.reduceEqDiff, reduceIte, Nat.reduceAdd, Nat.reduceMul, Nat.reduceLeDiff, reduceCtorEq, Nat.reduceSub, Int.reduceToNat] <;> first | exact rfl | exact .inl rfl | exact .inr rfl) | apply zq | apply zb | apply zo | apply zk | apply zl)
    refine cw_ret ?_
    exact ⟨_, (by simp only [push_cast, env, Nat.reduceEqDiff, reduceIte] <;> exact rfl), ⟨0, rfl, fun _ => rfl, fun h => absurd h hf⟩, List.prefix_refl _⟩
  replace hf : fitE g w = 0 := Classical.not_not.1 hf
  obtain ⟨hb, hw⟩ := fitE_ok.1 hf
  have R := rightS hb
  rw [hf]
  repeat (first | apply zs | apply zr | apply zn | ((first | apply zx | apply zy); · simp only [push_cast, env, Nat.reduceEqDiff, reduceIte, Nat.reduceAdd, Nat.reduceMul, Nat.reduceLeDiff, reduceCtorEq, Nat.reduceSub, Int.reduceToNat] <;> first | exact rfl | exact .inl rfl | exact .inr rfl) | apply zq | apply zb | apply zo | apply zk | apply zl)
  refine cw_condF rfl ?_
  repeat (first | apply zs | apply zr | apply zn | ((first | apply zx | apply zy); · simp only [push_cast, env, Nat.reduceEqDiff, reduceIte, Nat.reduceAdd, Nat.reduceMul, Nat.reduceLeDiff, reduceCtorEq, Nat.reduceSub, Int.reduceToNat] <;> first | exact rfl | exact .inl rfl | exact .inr rfl) | apply zq | apply zb | apply zo | apply zk | apply zl)
  refine zc (fn := Try.f37) (by simp only [push_cast, env, Nat.reduceEqDiff, reduceIte] <;> exact rfl) Try.func37 (by kernel_rfl) (by kernel_rfl) ?_
  rw [List.append_nil]
  refine (open_fw hr hwR R W hw).mono ?_
  rintro _ h' ⟨hB, rv, F, G, rfl, rfl, K, C, hrv⟩
  have hSl := C.n
  have hc := K.c
  have hs := K.s
  unfold chCells at hc
  repeat (first | apply zs | apply zr | apply zn | ((first | apply zx | apply zy); · simp only [push_cast, env, Nat.reduceEqDiff, reduceIte, Nat.reduceAdd, Nat.reduceMul, Nat.reduceLeDiff, reduceCtorEq, Nat.reduceSub, Int.reduceToNat, hc] <;> first | exact rfl | exact .inl rfl | exact .inr rfl) | apply zq | apply zb | apply zo | apply zk | apply zl)
  refine cw_for G.S.length (fun i => [(7, .val (i64 (itemSum (G.S.take i)))), (21, .val (.slice (some ⟨F.si, 0, some 0⟩) G.S.length G.S.length)), (22, .val (i64 G.S.length)), (23, .val (i64 i))]) (fun _ => G.h)
    (fun i => True) (by simp only [push_cast, Nat.reduceEqDiff, reduceIte, itemSum, List.take_zero, List.map_nil, List.sum_nil]) rfl trivial ?_
  intro i hi hI
  by_cases hlt : i < G.S.length
  · have e2 := inc hlt (by omega)
    have e3 := lt_dec hlt
    have f2 := rng hlt
    obtain ⟨u2, cu2, hu2, gu2⟩ := K.us_at hlt
    have hb1 := itemSum_le C R hw i (by omega)
    have hb2 := C.small R hw (k := i) (by omega)
    have hi3 : i * 400000000 ≤ 513 * 400000000 := Nat.mul_le_mul_right _ (by omega)
    have hsum : itemSum (G.S.take (i + 1)) = itemSum (G.S.take i) + (gs G.S i).length := by
      rw [List.take_succ_eq_append_getElem hlt]
      unfold itemSum
      simp only [List.map_append, List.sum_append, List.map_cons, List.map_nil, List.sum_cons, List.sum_nil, gs_getElem hlt, Nat.add_zero]
    have e4 : IntKind.i64.wrap ((itemSum (G.S.take i) : Int) + ((gs G.S i).length : Int)) = (itemSum (G.S.take (i + 1)) : Int) := by rw [hsum, wrap64_id (by omega) (by omega)]; omega
    repeat (first | apply zs | apply zr | apply zn | ((first | apply zx | apply zy); · simp only [push_cast, env, Nat.reduceEqDiff, reduceIte, Nat.reduceAdd, Nat.reduceMul, Nat.reduceLeDiff, reduceCtorEq, Nat.reduceSub, Int.reduceToNat, e3] <;> first | exact rfl | exact .inl rfl | exact .inr rfl) | apply zq | apply zb | apply zo | apply zk | apply zl)
    refine cw_condT rfl ?_
    repeat (first | apply zs | apply zr | apply zn | ((first | apply zx | apply zy); · simp only [push_cast, env, Nat.reduceEqDiff, reduceIte, Nat.reduceAdd, Nat.reduceMul, Nat.reduceLeDiff, reduceCtorEq, Nat.reduceSub, Int.reduceToNat, hs, hu2, f2, Nat.mul_one, e4, e2] <;> first | exact rfl | exact .inl rfl | exact .inr rfl) | apply zq | apply zb | apply zo | apply zk | apply zl)
    exact ⟨hlt, (by simp only [push_cast, Nat.reduceEqDiff, reduceIte]), rfl, trivial⟩
  · have e3 := ge_dec hlt
    obtain rfl : i = G.S.length := by omega
    repeat (first | apply zs | apply zr | apply zn | ((first | apply zx | apply zy); · simp only [push_cast, env, Nat.reduceEqDiff, reduceIte, Nat.reduceAdd, Nat.reduceMul, Nat.reduceLeDiff, reduceCtorEq, Nat.reduceSub, Int.reduceToNat, e3] <;> first | exact rfl | exact .inl rfl | exact .inr rfl) | apply zq | apply zb | apply zo | apply zk | apply zl)
    refine cw_condF rfl ?_
    refine cw_exit ?_
    show CW _ _ _ _
    rw [List.take_length]
    repeat (first | apply zs | apply zr | apply zn | ((first | apply zx | apply zy); · simp only [push_cast, env, Nat.reduceEqDiff, reduceIte, Nat.reduceAdd, Nat.reduceMul, Nat.reduceLeDiff, reduceCtorEq, Nat.reduceSub, Int.reduceToNat] <;> first | exact rfl | exact .inl rfl | exact .inr rfl) | apply zq | apply zb | apply zo | apply zk | apply zl)
    refine cw_ret ?_
    exact ⟨_, (by simp only [push_cast, env, Nat.reduceEqDiff, reduceIte] <;> exact rfl), ⟨itemSum G.S, by rw [hf]; rfl, fun h => absurd hf h, fun _ => ⟨G.S, C, rfl⟩⟩, K.p⟩
end Go.Proofs.Ytafncpgiibikcaa

namespace Go.Proofs.Ytafncpgiibikcaa
set_option linter.unusedSimpArgs false
set_option linter.unusedVariables false
set_option maxRecDepth 20000
open Go.RowKit Am Ty

def trG (g : Gram) (m : List Bool) : Gram := ⟨g.nts, g.start, g.rules.filter (goodR m)⟩
def pickR (g : Gram) (i : Int) : Rule := (g.rules[i.toNat]?).getD ⟨0, []⟩
theorem trim_pick {g : Gram} {m : List Bool} : ∀ (k : Nat), k ≤ g.rules.length → (trimK g m k).map (pickR g) = (g.rules.take k).filter (goodR m)
  | 0, _ => by simp [trimK]
  | k + 1, h => by
    have hk : k < g.rules.length := by omega
    have ih := trim_pick (g := g) (m := m) k (by omega)
    rw [List.take_succ_eq_append_getElem hk, List.filter_append, ← ih]
    cases hb : goodR m g.rules[k] with
    | true =>
      rw [trimK_yes hk hb, List.map_append, List.filter_cons, hb]
      simp [pickR, hk]
    | false =>
      rw [trimK_no hk hb, List.filter_cons, hb]
      simp
theorem trimK_mem {g : Gram} {m : List Bool} {k : Nat} {i : Int} (h : i ∈ trimK g m k) : ∃ n : Nat, i = n ∧ n < k := by
  unfold trimK at h
  rw [List.mem_map] at h
  obtain ⟨n, hn, rfl⟩ := h
  exact ⟨n, rfl, List.mem_range.1 (List.mem_filter.1 hn).1⟩
theorem rd_at {h : Heap} {v : Value} {n b : Nat} {cells : List Value} {et : TypeId} (hs : SlR h v n cells et b) {j : Nat} (hj : isAtS v j = true) : j < h.length := by
  rcases hs.2 with ⟨h1 | h1, _, _⟩ | ⟨id, ver, own, c, rfl, h2⟩
  · subst h1; simp [isAtS] at hj
  · subst h1; simp [isAtS] at hj
  · simp only [isAtS, beq_iff_eq] at hj
    subst hj
    exact lt_of_get h2
theorem rightS_tr {g : Gram} {m : List Bool} (R : RightS g) : RightS (trG g m) :=
  ⟨R.n1, R.n2, R.s1, R.s2, Nat.le_trans (List.length_filter_le _ _) R.rl, fun r hr => R.r r (List.mem_filter.1 hr).1⟩
theorem wfG_tr {g : Gram} {m : List Bool} (W : WfG g) : WfG (trG g m) := fun r hr => W r (List.mem_filter.1 hr).1
set_option maxHeartbeats 4000000 in
theorem trimmed_fw {h : Heap} {g : Gram} {v : Value} (hr : RdGram h v g) (hb : ¬ badG g) : FW env 40 [v] h fun r h' => ∃ m, Marks g.nts (goodD g) m ∧ RdGram h' r (trG g m) ∧ h <+: h' := by
  obtain ⟨u, rfl, hu⟩ := id hr
  obtain ⟨p, c, rfl⟩ := hu.form
  have R := rightS hb
  have hrl := R.rl
  refine fw_enter (fn := Try.f40) Try.func40 rfl (by kernel_rfl) (by simp [Try.ntmps40]) ?_; simp only [push_cast]
  repeat (first | apply zs | apply zr | apply zn | ((first | apply zx | apply zy); · simp only [push_cast, env, Nat.reduceEqDiff, reduceIte, Nat.reduceAdd, Nat.reduceMul, Nat.reduceLeDiff, reduceCtorEq, Nat.reduceSub, Int.reduceToNat] <;> first | exact rfl | exact .inl rfl | exact .inr rfl) | apply zq | apply zb | apply zo | apply zk | apply zl)
  refine zc (fn := Try.f55) (by simp only [push_cast, env, Nat.reduceEqDiff, reduceIte] <;> exact rfl) Try.func55 (by kernel_rfl) (by kernel_rfl) ?_
  rw [List.append_nil]
  refine (trim_fw hr).mono ?_
  rintro _ h1 ⟨⟨x, rfl, hx⟩, hp1⟩
  rcases hx with ⟨hb', _⟩ | ⟨_, m, hm, hG⟩
  · exact (hb hb').elim
  have hKl := trimK_len (g := g) (m := m) (k := g.rules.length)
  have hpk := trim_pick (g := g) (m := m) g.rules.length (Nat.le_refl _)
  rw [List.take_length] at hpk
  have hmem := fun i => trimK_mem (g := g) (m := m) (k := g.rules.length) (i := i)
  generalize trimK g m g.rules.length = L at hG hKl hpk hmem
  obtain ⟨pl, cl, rfl⟩ := hG.form
  have hLr : RdInts h1 (.slice pl L.length cl) L := hG.sl (by omega)
  repeat (first | apply zs | apply zr | apply zn | ((first | apply zx | apply zy); · simp only [push_cast, env, Nat.reduceEqDiff, reduceIte, Nat.reduceAdd, Nat.reduceMul, Nat.reduceLeDiff, reduceCtorEq, Nat.reduceSub, Int.reduceToNat] <;> first | exact rfl | exact .inl rfl | exact .inr rfl) | apply zq | apply zb | apply zo | apply zk | apply zl)
  refine cw_forG L.length (fun k (x : Heap × Option Addr × Nat × List Value) => [(1, .box [i64 g.nts, i64 g.start, .slice p g.rules.length c]), (2, .box [i64 0, i64 0, nilS]), (5, .box [i64 g.nts, i64 g.start, .slice x.2.1 k x.2.2.1]), (18, .val (.slice pl L.length cl)), (19, .val (i64 L.length)), (20, .val (i64 k))]) (fun _ x => x.1)
    (fun k x => BR h1 x.1 (.slice x.2.1 k x.2.2.1) ((L.take k).map (pickR g)) x.2.2.2 ∧ ∀ y ∈ x.2.2.2, ∀ j, isAtS y j = true → j < h.length) (h1, none, 0, []) (by simp only [push_cast, Nat.reduceEqDiff, reduceIte]) rfl ⟨BR.nil (List.prefix_refl _), fun y hy => by simp at hy⟩ ?_
  rintro k ⟨hk, q, cq, us⟩ hkn ⟨B, hU⟩
  simp only at B hU ⊢
  by_cases hlt : k < L.length
  · obtain ⟨idl, verl, ownl, cl2, cellsl, hvl, hidl, hgl⟩ := RdInts.at hLr hlt
    cases hvl
    have hidl' := getElem?_of_prefix B.p hidl
    have e1 := rng hlt
    have e2 := inc hlt (by omega)
    have e3 := lt_dec hlt
    obtain ⟨n, hn, hnl⟩ := hmem L[k] (List.getElem_mem hlt)
    rw [hn] at hgl
    obtain ⟨id3, ver3, own3, c3, cells3, p3, n3, c4, hv3, hid3, hn3, hrd3, hu3⟩ := hu.at hnl
    cases hv3
    subst hn3
    have hid3' := getElem?_of_prefix (hp1.trans B.p) hid3
    have g2 := rng hnl
    have hpr : pickR g L[k] = g.rules[n] := by unfold pickR; rw [hn]; simp [hnl]
    have hlk : ((L.take k).map (pickR g)).length = k := by rw [List.length_map, List.length_take]; omega
    have hpl : h.length ≤ hk.length := (hp1.trans B.p).length_le
    obtain ⟨p5, c5, h5, hone, B5, hk5, hx5⟩ := B.push (r := g.rules[n]) (v := .slice p3 g.rules[n].rhs.length c4) (hu3.mono (hp1.trans B.p)) (fun j hj hj2 => by
        cases hq : isAtS (.slice p3 g.rules[n].rhs.length c4) j with
        | false => rfl
        | true =>
          have h6 := rd_at hu3 hq
          have h7 := (B.g.lt hj2).1
          have := hp1.length_le
          omega) (by
        cases hq : isAtS (.slice p3 g.rules[n].rhs.length c4) hk.length with
        | false => rfl
        | true => have := rd_at hu3 hq; omega) (fun x hx => by
        cases hq : isAtS x hk.length with
        | false => rfl
        | true => have := hU x hx _ hq; omega) (by rw [hlk]; omega)
    rw [hlk] at hone B5
    repeat (first | apply zs | apply zr | apply zn | ((first | apply zx | apply zy); · simp only [push_cast, env, Nat.reduceEqDiff, reduceIte, Nat.reduceAdd, Nat.reduceMul, Nat.reduceLeDiff, reduceCtorEq, Nat.reduceSub, Int.reduceToNat, e3] <;> first | exact rfl | exact .inl rfl | exact .inr rfl) | apply zq | apply zb | apply zo | apply zk | apply zl)
    refine cw_condT rfl ?_
    repeat (first | apply zs | apply zr | apply zn | ((first | apply zx | apply zy); · simp only [push_cast, env, Nat.reduceEqDiff, reduceIte, Nat.reduceAdd, Nat.reduceMul, Nat.reduceLeDiff, reduceCtorEq, Nat.reduceSub, Int.reduceToNat, hidl', e1, hgl, Nat.mul_one] <;> first | exact rfl | exact .inl rfl | exact .inr rfl) | apply zq | apply zb | apply zo | apply zk | apply zl)
    refine cw_weakL [(1, .box [i64 g.nts, i64 g.start, .slice (some ⟨id3, 0, some ver3⟩) g.rules.length c]), (2, .box [i64 0, i64 0, nilS]), (5, .box [i64 g.nts, i64 g.start, .slice q k cq]), (7, .val (i64 n)), (18, .val (.slice (some ⟨idl, 0, some verl⟩) L.length cl)), (19, .val (i64 L.length)), (20, .val (i64 k))] (by simp only [push_cast, Nat.reduceEqDiff, reduceIte]) ?_
    show CW _ _ ⟨_, [], hk⟩ _
    apply cw_ordT (n := 8) (L := [[], [0], [], [2], [], [2, 3, 4], [2, 3, 4, 5], [2, 3, 4, 5, 6], [0, 1, 2, 3, 4, 5, 6, 7], [0, 1, 2, 3, 4, 5, 6, 7, 8], [0, 1, 2, 3, 4, 5, 6, 7, 8, 9]]) (act := []) (hs := []) (resL := [_, _, _, _, _, _, _, _]) (frP := [(1, .box [i64 g.nts, i64 g.start, .slice (some ⟨id3, 0, some ver3⟩) g.rules.length c]), (2, .box [i64 0, i64 0, nilS]), (5, .box [i64 g.nts, i64 g.start, .slice q k cq]), (18, .val (.slice (some ⟨idl, 0, some verl⟩) L.length cl)), (19, .val (i64 L.length)), (20, .val (i64 k)), (25, .val (.slice q k cq)), (31, .bsl [i64 g.rules[n].lhs, .slice p3 g.rules[n].rhs.length c4] 1)])
    case hm => exact mixed
    case hc => kernel_rfl
    case hn => kernel_rfl
    case ha => rfl
    case hb => rfl
    case hS => repeat (first | exact StepsA.nil _ | (apply StepsA.cons; (· rfl); (· (first | refine ⟨?_, trivial⟩ | refine ⟨?_, ?_, trivial⟩ | refine ⟨?_, ?_, ?_, trivial⟩ | refine ⟨?_, ?_, ?_, ?_, trivial⟩) <;> (apply zz; simp only [push_cast, env, Nat.reduceEqDiff, reduceIte, Nat.reduceAdd, Nat.reduceMul, Nat.reduceLeDiff, reduceCtorEq, Nat.reduceSub, Int.reduceToNat, hid3', hrd3, g2] <;> exact rfl)); (· rfl)))
    case ht => rfl
    case hF => repeat (first | exact trivial | (refine ⟨.inl ⟨by decide, rfl⟩, ?_⟩) | (refine ⟨.inr ⟨rfl, by simp⟩, ?_⟩))
    refine owv (hone _ _ _ _ _ rfl (by simp only [push_cast, env, Nat.reduceEqDiff, reduceIte] <;> exact rfl) rfl (by simp only [push_cast, env, Nat.reduceEqDiff, reduceIte] <;> exact rfl) rfl) ?_
    repeat (first | apply zs | apply zr | apply zn | ((first | apply zx | apply zy); · simp only [push_cast, env, Nat.reduceEqDiff, reduceIte, Nat.reduceAdd, Nat.reduceMul, Nat.reduceLeDiff, reduceCtorEq, Nat.reduceSub, Int.reduceToNat] <;> first | exact rfl | exact .inl rfl | exact .inr rfl) | apply zq | apply zb | apply zo | apply zk | apply zl)
    refine ⟨[(1, .box [i64 g.nts, i64 g.start, .slice (some ⟨id3, 0, some ver3⟩) g.rules.length c]), (2, .box [i64 0, i64 0, nilS]), (5, .box [i64 g.nts, i64 g.start, .slice p5 (k + 1) c5]), (18, .val (.slice (some ⟨idl, 0, some verl⟩) L.length cl)), (19, .val (i64 L.length)), (20, .val (i64 k))], (by simp only [push_cast, Nat.reduceEqDiff, reduceIte]), ?_⟩
    show CW _ _ ⟨_, [], h5⟩ _
    repeat (first | apply zs | apply zr | apply zn | ((first | apply zx | apply zy); · simp only [push_cast, env, Nat.reduceEqDiff, reduceIte, Nat.reduceAdd, Nat.reduceMul, Nat.reduceLeDiff, reduceCtorEq, Nat.reduceSub, Int.reduceToNat, e2] <;> first | exact rfl | exact .inl rfl | exact .inr rfl) | apply zq | apply zb | apply zo | apply zk | apply zl)
    refine ⟨hlt, (h5, p5, c5, us ++ [.slice p3 g.rules[n].rhs.length c4]), (by simp only [push_cast, Nat.reduceEqDiff, reduceIte]), rfl, ?_, fun y hy j hj => ?_⟩
    · simp only
      rw [List.take_succ_eq_append_getElem hlt, List.map_append, List.map_cons, List.map_nil, hpr]
      exact B5
    · simp only at hy
      rw [List.mem_append, List.mem_singleton] at hy
      rcases hy with hy | rfl
      · exact hU y hy j hj
      · exact rd_at hu3 hj
  · have e3 := ge_dec hlt
    obtain rfl : k = L.length := by omega
    repeat (first | apply zs | apply zr | apply zn | ((first | apply zx | apply zy); · simp only [push_cast, env, Nat.reduceEqDiff, reduceIte, Nat.reduceAdd, Nat.reduceMul, Nat.reduceLeDiff, reduceCtorEq, Nat.reduceSub, Int.reduceToNat, e3] <;> first | exact rfl | exact .inl rfl | exact .inr rfl) | apply zq | apply zb | apply zo | apply zk | apply zl)
    refine cw_condF rfl ?_
    refine cw_exit ?_
    show CW _ _ _ _
    rw [List.take_length, hpk] at B
    repeat (first | apply zs | apply zr | apply zn | ((first | apply zx | apply zy); · simp only [push_cast, env, Nat.reduceEqDiff, reduceIte, Nat.reduceAdd, Nat.reduceMul, Nat.reduceLeDiff, reduceCtorEq, Nat.reduceSub, Int.reduceToNat] <;> first | exact rfl | exact .inl rfl | exact .inr rfl) | apply zq | apply zb | apply zo | apply zk | apply zl)
    have hfl : (g.rules.filter (goodR m)).length = L.length := by rw [← hpk, List.length_map]
    have hrd := B.rd (by rw [hfl]; omega)
    refine cw_ret ?_
    exact ⟨_, (by simp only [push_cast, env, Nat.reduceEqDiff, reduceIte] <;> exact rfl), m, hm, ⟨_, rfl, hrd⟩, hp1.trans B.p⟩
def lastK (S : List (List Item)) : Nat → Int
  | 0 => -1
  | k + 1 => if 0 < (gs S k).length then (k : Int) else lastK S k
def LastR (g : Gram) (w : List Nat) (r : Value) : Prop := ∃ n, r = .tuple #[i64 n, i64 (fitE g w)] ∧ (fitE g w ≠ 0 → n = 0) ∧ (fitE g w = 0 → ∃ m S, Marks g.nts (goodD g) m ∧ ChartOK (trG g m) w S ∧ n = lastK S (w.length + 1))
set_option maxHeartbeats 4000000 in
theorem last_fw {h : Heap} {g : Gram} {v wv : Value} {w : List Nat} (hr : RdGram h v g) (hwR : RdB h wv w) (W : WfG g) : FW env 17 [v, wv] h fun r h' => LastR g w r ∧ h <+: h' := by
  obtain ⟨u, rfl, hu⟩ := id hr
  obtain ⟨p, c, rfl⟩ := hu.form
  obtain ⟨pw, cw, rfl⟩ := hwR.form
  refine fw_enter (fn := Try.f17) Try.func17 rfl (by kernel_rfl) (by simp [Try.ntmps17]) ?_; simp only [push_cast]
  repeat (first | apply zs | apply zr | apply zn | ((first | apply zx | apply zy); · simp only [push_cast, env, Nat.reduceEqDiff, reduceIte, Nat.reduceAdd, Nat.reduceMul, Nat.reduceLeDiff, reduceCtorEq, Nat.reduceSub, Int.reduceToNat] <;> first | exact rfl | exact .inl rfl | exact .inr rfl) | apply zq | apply zb | apply zo | apply zk | apply zl)
  refine zc (fn := Try.f36) (by simp only [push_cast, env, Nat.reduceEqDiff, reduceIte] <;> exact rfl) Try.func36 (by kernel_rfl) (by kernel_rfl) ?_
  rw [List.append_nil]
  refine (fit_fw hr hwR).mono ?_
  rintro _ h ⟨rfl, rfl⟩
  by_cases hf : ¬ fitE g w = 0
  · have df : decide (fitE g w = 0) = false := decide_eq_false hf
    repeat (first | apply zs | apply zr | apply zn | ((first | apply zx | apply zy); · simp only [push_cast, env, Nat.reduceEqDiff, reduceIte, Nat.reduceAdd, Nat.reduceMul, Nat.reduceLeDiff, reduceCtorEq, Nat.reduceSub, Int.reduceToNat, df] <;> first | exact rfl | exact .inl rfl | exact .inr rfl) | apply zq | apply zb | apply zo | apply zk | apply zl)
    refine cw_condT (by simp only [push_cast, env, Nat.reduceEqDiff, reduceIte, df] <;> exact rfl) ?_
    repeat (first | apply zs | apply zr | apply zn | ((first | apply zx | apply zy); · simp only [push_cast, env, Nat.reduceEqDiff, reduceIte, Nat.reduceAdd, Nat.reduceMul, Nat.reduceLeDiff, reduceCtorEq, Nat.reduceSub, Int.reduceToNat] <;> first | exact rfl | exact .inl rfl | exact .inr rfl) | apply zq | apply zb | apply zo | apply zk | apply zl)
    refine cw_ret ?_
    exact ⟨_, (by simp only [push_cast, env, Nat.reduceEqDiff, reduceIte] <;> exact rfl), ⟨0, rfl, fun _ => rfl, fun h => absurd h hf⟩, List.prefix_refl _⟩
  replace hf : fitE g w = 0 := Classical.not_not.1 hf
  obtain ⟨hb, hw⟩ := fitE_ok.1 hf
  have R := rightS hb
  rw [hf]
  repeat (first | apply zs | apply zr | apply zn | ((first | apply zx | apply zy); · simp only [push_cast, env, Nat.reduceEqDiff, reduceIte, Nat.reduceAdd, Nat.reduceMul, Nat.reduceLeDiff, reduceCtorEq, Nat.reduceSub, Int.reduceToNat] <;> first | exact rfl | exact .inl rfl | exact .inr rfl) | apply zq | apply zb | apply zo | apply zk | apply zl)
  refine cw_condF rfl ?_
  repeat (first | apply zs | apply zr | apply zn | ((first | apply zx | apply zy); · simp only [push_cast, env, Nat.reduceEqDiff, reduceIte, Nat.reduceAdd, Nat.reduceMul, Nat.reduceLeDiff, reduceCtorEq, Nat.reduceSub, Int.reduceToNat] <;> first | exact rfl | exact .inl rfl | exact .inr rfl) | apply zq | apply zb | apply zo | apply zk | apply zl)
  refine zc (fn := Try.f40) (by simp only [push_cast, env, Nat.reduceEqDiff, reduceIte] <;> exact rfl) Try.func40 (by kernel_rfl) (by kernel_rfl) ?_
  rw [List.append_nil]
  refine (trimmed_fw hr hb).mono ?_
  rintro v1 h1 ⟨m, hm, hr1, hp1⟩
  repeat (first | apply zs | apply zr | apply zn | ((first | apply zx | apply zy); · simp only [push_cast, env, Nat.reduceEqDiff, reduceIte, Nat.reduceAdd, Nat.reduceMul, Nat.reduceLeDiff, reduceCtorEq, Nat.reduceSub, Int.reduceToNat] <;> first | exact rfl | exact .inl rfl | exact .inr rfl) | apply zq | apply zb | apply zo | apply zk | apply zl)
  refine zc (fn := Try.f37) (by simp only [push_cast, env, Nat.reduceEqDiff, reduceIte] <;> exact rfl) Try.func37 (by kernel_rfl) (by kernel_rfl) ?_
  rw [List.append_nil]
  refine (open_fw hr1 (hwR.mono hp1) (rightS_tr R) (wfG_tr W) hw).mono ?_
  rintro _ h' ⟨hB, rv, F, G, rfl, rfl, K, C, hrv⟩
  have hSl := C.n
  have hc := K.c
  have hs := K.s
  unfold chCells at hc
  repeat (first | apply zs | apply zr | apply zn | ((first | apply zx | apply zy); · simp only [push_cast, env, Nat.reduceEqDiff, reduceIte, Nat.reduceAdd, Nat.reduceMul, Nat.reduceLeDiff, reduceCtorEq, Nat.reduceSub, Int.reduceToNat, hc] <;> first | exact rfl | exact .inl rfl | exact .inr rfl) | apply zq | apply zb | apply zo | apply zk | apply zl)
  refine cw_for G.S.length (fun i => [(7, .val (i64 (lastK G.S i))), (22, .val (.slice (some ⟨F.si, 0, some 0⟩) G.S.length G.S.length)), (23, .val (i64 G.S.length)), (24, .val (i64 i))]) (fun _ => G.h)
    (fun i => True) (by simp only [push_cast, Nat.reduceEqDiff, reduceIte, lastK]) rfl trivial ?_
  intro i hi hI
  by_cases hlt : i < G.S.length
  · have e2 := inc hlt (by omega)
    have e3 := lt_dec hlt
    have f2 := rng hlt
    obtain ⟨u2, cu2, hu2, gu2⟩ := K.us_at hlt
    repeat (first | apply zs | apply zr | apply zn | ((first | apply zx | apply zy); · simp only [push_cast, env, Nat.reduceEqDiff, reduceIte, Nat.reduceAdd, Nat.reduceMul, Nat.reduceLeDiff, reduceCtorEq, Nat.reduceSub, Int.reduceToNat, e3] <;> first | exact rfl | exact .inl rfl | exact .inr rfl) | apply zq | apply zb | apply zo | apply zk | apply zl)
    refine cw_condT rfl ?_
    repeat (first | apply zs | apply zr | apply zn | ((first | apply zx | apply zy); · simp only [push_cast, env, Nat.reduceEqDiff, reduceIte, Nat.reduceAdd, Nat.reduceMul, Nat.reduceLeDiff, reduceCtorEq, Nat.reduceSub, Int.reduceToNat, hs, hu2, f2, Nat.mul_one] <;> first | exact rfl | exact .inl rfl | exact .inr rfl) | apply zq | apply zb | apply zo | apply zk | apply zl)
    refine cw_cond (by simp only [push_cast, env, Nat.reduceEqDiff, reduceIte] <;> exact rfl) (fun c1 => ?_) (fun c1 => ?_)
    · have c1' : 0 < (gs G.S i).length := by simp only [decide_eq_true_eq] at c1; omega
      repeat (first | apply zs | apply zr | apply zn | ((first | apply zx | apply zy); · simp only [push_cast, env, Nat.reduceEqDiff, reduceIte, Nat.reduceAdd, Nat.reduceMul, Nat.reduceLeDiff, reduceCtorEq, Nat.reduceSub, Int.reduceToNat, e2] <;> first | exact rfl | exact .inl rfl | exact .inr rfl) | apply zq | apply zb | apply zo | apply zk | apply zl)
      exact ⟨hlt, (by simp only [push_cast, Nat.reduceEqDiff, reduceIte, lastK, if_pos c1']), rfl, trivial⟩
    · have c1' : ¬ 0 < (gs G.S i).length := by simp only [decide_eq_false_iff_not] at c1; omega
      repeat (first | apply zs | apply zr | apply zn | ((first | apply zx | apply zy); · simp only [push_cast, env, Nat.reduceEqDiff, reduceIte, Nat.reduceAdd, Nat.reduceMul, Nat.reduceLeDiff, reduceCtorEq, Nat.reduceSub, Int.reduceToNat, e2] <;> first | exact rfl | exact .inl rfl | exact .inr rfl) | apply zq | apply zb | apply zo | apply zk | apply zl)
      exact ⟨hlt, (by simp only [push_cast, Nat.reduceEqDiff, reduceIte, lastK, if_neg c1']), rfl, trivial⟩
  · have e3 := ge_dec hlt
    obtain rfl : i = G.S.length := by omega
    repeat (first | apply zs | apply zr | apply zn | ((first | apply zx | apply zy); · simp only [push_cast, env, Nat.reduceEqDiff, reduceIte, Nat.reduceAdd, Nat.reduceMul, Nat.reduceLeDiff, reduceCtorEq, Nat.reduceSub, Int.reduceToNat, e3] <;> first | exact rfl | exact .inl rfl | exact .inr rfl) | apply zq | apply zb | apply zo | apply zk | apply zl)
    refine cw_condF rfl ?_
    refine cw_exit ?_
    show CW _ _ _ _
    repeat (first | apply zs | apply zr | apply zn | ((first | apply zx | apply zy); · simp only [push_cast, env, Nat.reduceEqDiff, reduceIte, Nat.reduceAdd, Nat.reduceMul, Nat.reduceLeDiff, reduceCtorEq, Nat.reduceSub, Int.reduceToNat] <;> first | exact rfl | exact .inl rfl | exact .inr rfl) | apply zq | apply zb | apply zo | apply zk | apply zl)
    refine cw_ret ?_
    exact ⟨_, (by simp only [push_cast, env, Nat.reduceEqDiff, reduceIte] <;> exact rfl), ⟨lastK G.S G.S.length, by rw [hf]; rfl, fun h => absurd hf h, fun _ => ⟨m, G.S, hm, C, by rw [hSl]⟩⟩, hp1.trans K.p⟩
end Go.Proofs.Ytafncpgiibikcaa

namespace Go.Proofs.Ytafncpgiibikcaa
set_option linter.unusedSimpArgs false
set_option linter.unusedVariables false
open Go.RowKit Am Ty

def hasL (b : Nat) (out : List BSet) : List Bool := out.map fun s => s.has b
theorem hasL_bit {b : Nat} {out : List BSet} {i : Int} (h0 : 0 ≤ i) (h1 : i < out.length) : bit (hasL b out) i = (sget out i).has b := by
  rw [bit_get h0 (by simp [hasL, h1]), sget_get h0 h1]
  simp [hasL]
def CompleteB (g : Gram) (D : Int → Prop) (b : Nat) (out : List BSet) : Prop := ∀ i : Int, 0 ≤ i → i < g.nts → Fst g.rules D b i → (sget out i).has b = true
structure FRounds (g : Gram) (D : Int → Prop) (k : Nat) (out : List BSet) : Prop where
  i : FInv g D out
  c : ∀ b, b < 256 → k ≤ (hasL b out).count true ∨ CompleteB g D b out
def OLe (n : Int) (a b : List BSet) : Prop := ∀ i : Int, 0 ≤ i → i < n → SLe (sget a i) (sget b i)
structure FRound (g : Gram) (D : Int → Prop) (out0 : List BSet) (k : Nat) (out : List BSet) : Prop where
  i : FInv g D out
  le : OLe g.nts out0 out
  d : ∀ r ∈ g.rules.take k, FClosed D out0 r (sget out r.lhs)
theorem FRounds.step {g : Gram} {D : Int → Prop} {k : Nat} {out out' : List BSet} (R : RightS g) (h : FRounds g D k out) (hr : FRound g D out g.rules.length out') : FRounds g D (k + 1) out' := by
  have hd := hr.d
  rw [List.take_length] at hd
  refine ⟨hr.i, fun b hb => ?_⟩
  have hl := h.i.n
  have hl' := hr.i.n
  by_cases hc : ∃ i : Int, 0 ≤ i ∧ i < g.nts ∧ (sget out i).has b = false ∧ (sget out' i).has b = true
  · rcases h.c b hb with h3 | h3
    · obtain ⟨i, h0, h1, h2, h4⟩ := hc
      have hle : ∀ (i : Nat) (h1 : i < (hasL b out).length) (h2 : i < (hasL b out').length), (hasL b out)[i] = true → (hasL b out')[i] = true :=
        BLe.get (n := g.nts) (fun i h0 h1 => by rw [hasL_bit h0 (by omega), hasL_bit h0 (by omega)]; exact hr.le i h0 h1 b hb) (by simp [hasL, hl]) (by simp [hasL, hl'])
      have e1 : (hasL b out).length = out.length := by simp [hasL]
      have e2 : (hasL b out').length = out'.length := by simp [hasL]
      have := cnt_lt (by omega) hle ⟨i.toNat, by omega, by omega, by rw [← bit_get h0 (by omega), hasL_bit h0 (by omega)]; exact h2, by rw [← bit_get h0 (by omega), hasL_bit h0 (by omega)]; exact h4⟩
      exact .inl (by omega)
    · obtain ⟨i, h0, h1, h2, h4⟩ := hc
      rw [h3 i h0 h1 (hr.i.s i h0 h1 b hb h4)] at h2
      cases h2
  · refine .inr fun i h0 h1 hf => ?_
    clear h0 h1
    induction hf with
    | mk r k hk hr1 hp hs hn ih =>
      refine hd r hr1 k hk hp b hb ?_
      obtain ⟨l1, l2, _, hS⟩ := R.r r hr1
      have hs2 := hS _ (List.getElem_mem hk)
      unfold symSet
      split
      · rename_i h0
        exact hs h0
      · rename_i h0
        have := ih (by omega)
        cases h5 : (sget out r.rhs[k].nt).has b with
        | true => rfl
        | false => exact (hc ⟨_, by omega, hs2.2.1, h5, this⟩).elim
theorem FRounds.fin {g : Gram} {D : Int → Prop} {k : Nat} {out : List BSet} (h : FRounds g D k out) (hk : g.nts ≤ k) : Firsts g D out := by
  have hl := h.i.n
  refine ⟨hl, fun i h0 h1 => ⟨h.i.wf i h0 h1, fun b hb => ⟨h.i.s i h0 h1 b hb, fun hf => ?_⟩⟩⟩
  rcases h.c b hb with hc | hc
  · have e1 : (hasL b out).length = out.length := by simp [hasL]
    have := cnt_full (m := hasL b out) (by omega)
    rw [← hasL_bit h0 (by omega), bit_get h0 (by omega)]
    exact this _ (List.getElem_mem _)
  · exact hc i h0 h1 hf
structure FMid (g : Gram) (D : Int → Prop) (out0 : List BSet) (r : Rule) (j : Nat) (a : Bool) (out : List BSet) : Prop where
  c : ∀ (k : Nat) (hk : k < r.rhs.length), k < j → (∀ x ∈ r.rhs.take k, NullS D x) → SLe (symSet out0 r.rhs[k]) (sget out r.lhs)
  t : a = true → ∀ x ∈ r.rhs.take j, NullS D x
  f : a = false → ∃ (k : Nat) (hk : k < r.rhs.length), k < j ∧ ¬ NullS D r.rhs[k]
theorem FMid.closed {g : Gram} {D : Int → Prop} {out0 : List BSet} {r : Rule} {j : Nat} {a : Bool} {out : List BSet} (h : FMid g D out0 r j a out) (hj : a = false ∨ j = r.rhs.length) : FClosed D out0 r (sget out r.lhs) := by
  intro k hk hx
  rcases Nat.lt_or_ge k j with h1 | h1
  · exact h.c k hk h1 hx
  · rcases hj with hj | hj
    · obtain ⟨k', hk', h2, h3⟩ := h.f hj
      refine (h3 (hx _ ?_)).elim
      rw [List.mem_take_iff_getElem]
      exact ⟨k', by omega, rfl⟩
    · omega
end Go.Proofs.Ytafncpgiibikcaa

namespace Go.Proofs.Ytafncpgiibikcaa
set_option linter.unusedSimpArgs false
set_option linter.unusedVariables false
set_option maxRecDepth 20000
open Go.RowKit Am Ty

abbrev ptr0 (a : Nat) : Value := .pointer (some ⟨a, 0, some 0⟩)
def RdItems (h : Heap) (v : Value) (l : List Item) : Prop := SlR h v l.length (l.flatMap Item.cells) 57 24
structure SpC (h : Heap) (g : Gram) (nt : Int) (a b : Nat) : Prop where
  a : ∃ st p c, h[a]? = some (.arr [i64 g.nts, i64 st, .slice p g.rules.length c] 0 true 24) ∧ RdRules h (.slice p g.rules.length c) g.rules
  b : h[b]? = some (.arr [i64 nt] 0 true 3)
theorem SpC.mono {h h' : Heap} {g : Gram} {nt : Int} {a b : Nat} (s : SpC h g nt a b) (hp : h <+: h') : SpC h' g nt a b := by
  obtain ⟨⟨st, p, c, h1, h2⟩, h3⟩ := s
  exact ⟨⟨st, p, c, getElem?_of_prefix hp h1, h2.mono hp⟩, getElem?_of_prefix hp h3⟩
set_option maxHeartbeats 2000000 in
theorem spans1_fw {h : Heap} {g : Gram} {nt : Int} {a b : Nat} {x : Item} (hC : SpC h g nt a b) (hx : x.rule < g.rules.length) : FW env 42 [x.val, ptr0 a, ptr0 b] h fun r h' => r = .bool (accI g nt x) ∧ h' = h := by
  obtain ⟨⟨st, p, c, ha, hu⟩, hb⟩ := hC
  obtain ⟨id3, ver3, own3, c3, cells3, p3, n3, c4, hv3, hid3, hn3, hrd3, hu3⟩ := hu.at hx
  cases hv3
  subst hn3
  have g2 := rng hx
  have hry : g.rules[x.rule]? = some g.rules[x.rule] := List.getElem?_eq_getElem hx
  have hac : accI g nt x = (decide (g.rules[x.rule].lhs = nt) && decide ((x.frm : Int) = 0) && decide ((x.dot : Int) = (g.rules[x.rule].rhs.length : Int))) := by
    unfold accI
    rw [hry]
    simp only
    rw [Bool.and_assoc, show decide ((x.frm : Int) = 0) = decide (x.frm = 0) by rw [decide_eq_decide]; omega, show decide ((x.dot : Int) = (g.rules[x.rule].rhs.length : Int)) = decide (x.dot = g.rules[x.rule].rhs.length) by rw [decide_eq_decide]; omega]
  rw [hac]
  refine fw_enter (fn := Try.f42) Try.func42 rfl (by kernel_rfl) (by simp [Try.ntmps42]) ?_; simp only [push_cast]
  repeat (first | apply zs | apply zr | apply zn | ((first | apply zx | apply zy); · simp only [push_cast, env, Nat.reduceEqDiff, reduceIte, Nat.reduceAdd, Nat.reduceMul, Nat.reduceLeDiff, reduceCtorEq, Nat.reduceSub, Int.reduceToNat, ha, hb, hid3, hrd3, g2] <;> first | exact rfl | exact .inl rfl | exact .inr rfl) | apply zq | apply zb | apply zo | apply zk | apply zl)
  refine cw_ret ?_
  exact ⟨_, (by simp only [push_cast, env, Nat.reduceEqDiff, reduceIte] <;> exact rfl), rfl, rfl⟩
set_option maxHeartbeats 2000000 in
theorem index_fw {h : Heap} {g : Gram} {nt : Int} {a b : Nat} {v : Value} {l : List Item} (hC : SpC h g nt a b) (hl : RdItems h v l) (hx : ∀ x ∈ l, x.rule < g.rules.length) :
    FW env 56 [v, .func (.func 42) #[] #[ptr0 a, ptr0 b]] h fun r h' => (∃ n : Int, r = i64 n ∧ (decide (0 ≤ n) = l.any (accI g nt))) ∧ h' = h := by
  obtain ⟨p, c, rfl⟩ := SlR.form hl
  have hle : l.length ≤ 140737488355328 := by have := hl.1; omega
  refine fw_enter (fn := Try.f56) Try.func56 rfl (by kernel_rfl) (by simp [Try.ntmps56]) ?_; simp only [push_cast]
  repeat (first | apply zs | apply zr | apply zn | ((first | apply zx | apply zy); · simp only [push_cast, env, Nat.reduceEqDiff, reduceIte, Nat.reduceAdd, Nat.reduceMul, Nat.reduceLeDiff, reduceCtorEq, Nat.reduceSub, Int.reduceToNat] <;> first | exact rfl | exact .inl rfl | exact .inr rfl) | apply zq | apply zb | apply zo | apply zk | apply zl)
  refine cw_for l.length (fun k => [(0, .val (.slice p l.length c)), (1, .val (.func (.func 42) #[] #[ptr0 a, ptr0 b])), (7, .val (i64 l.length)), (8, .val (i64 k))]) (fun _ => h) (fun k => ∀ x ∈ l.take k, accI g nt x = false) (by simp only [push_cast, Nat.reduceEqDiff, reduceIte]) rfl (fun x hx => by simp at hx) ?_
  intro k hk hI
  by_cases hlt : k < l.length
  · have e1 := rng hlt
    have e2 := inc hlt (by omega)
    have e3 := lt_dec hlt
    obtain ⟨id, ver, own, c', hv, hid⟩ := SlR.at hl (by omega)
    cases hv
    have hrd := rdH_flatMap (f := Item.cells) (k := 3) (fun _ => rfl) l k l[k] (by simp [hlt])
    unfold Item.cells at hrd hid
    have hm : l[k] ∈ l := List.getElem_mem hlt
    generalize hy : l[k] = y at hrd hm
    repeat (first | apply zs | apply zr | apply zn | ((first | apply zx | apply zy); · simp only [push_cast, env, Nat.reduceEqDiff, reduceIte, Nat.reduceAdd, Nat.reduceMul, Nat.reduceLeDiff, reduceCtorEq, Nat.reduceSub, Int.reduceToNat, e3] <;> first | exact rfl | exact .inl rfl | exact .inr rfl) | apply zq | apply zb | apply zo | apply zk | apply zl)
    refine cw_condT rfl ?_
    repeat (first | apply zs | apply zr | apply zn | ((first | apply zx | apply zy); · simp only [push_cast, env, Nat.reduceEqDiff, reduceIte, Nat.reduceAdd, Nat.reduceMul, Nat.reduceLeDiff, reduceCtorEq, Nat.reduceSub, Int.reduceToNat, e1, hid, hrd] <;> first | exact rfl | exact .inl rfl | exact .inr rfl) | apply zq | apply zb | apply zo | apply zk | apply zl)
    refine zc (fn := Try.f42) (by simp only [push_cast, env, Nat.reduceEqDiff, reduceIte] <;> exact rfl) Try.func42 (by kernel_rfl) (by kernel_rfl) ?_
    refine (spans1_fw (x := y) hC (hx y hm)).mono ?_
    rintro _ h ⟨rfl, rfl⟩
    repeat (first | apply zs | apply zr | apply zn | ((first | apply zx | apply zy); · simp only [push_cast, env, Nat.reduceEqDiff, reduceIte, Nat.reduceAdd, Nat.reduceMul, Nat.reduceLeDiff, reduceCtorEq, Nat.reduceSub, Int.reduceToNat] <;> first | exact rfl | exact .inl rfl | exact .inr rfl) | apply zq | apply zb | apply zo | apply zk | apply zl)
    refine cw_cond (by simp only [push_cast, env, Nat.reduceEqDiff, reduceIte] <;> exact rfl) (fun c1 => ?_) (fun c1 => ?_)
    · repeat (first | apply zs | apply zr | apply zn | ((first | apply zx | apply zy); · simp only [push_cast, env, Nat.reduceEqDiff, reduceIte, Nat.reduceAdd, Nat.reduceMul, Nat.reduceLeDiff, reduceCtorEq, Nat.reduceSub, Int.reduceToNat] <;> first | exact rfl | exact .inl rfl | exact .inr rfl) | apply zq | apply zb | apply zo | apply zk | apply zl)
      refine cw_ret ?_
      refine ⟨_, (by simp only [push_cast, env, Nat.reduceEqDiff, reduceIte] <;> exact rfl), ⟨k, rfl, ?_⟩, rfl⟩
      rw [decide_eq_true (Int.natCast_nonneg k), eq_comm, List.any_eq_true]
      exact ⟨y, hm, c1⟩
    · repeat (first | apply zs | apply zr | apply zn | ((first | apply zx | apply zy); · simp only [push_cast, env, Nat.reduceEqDiff, reduceIte, Nat.reduceAdd, Nat.reduceMul, Nat.reduceLeDiff, reduceCtorEq, Nat.reduceSub, Int.reduceToNat, e2] <;> first | exact rfl | exact .inl rfl | exact .inr rfl) | apply zq | apply zb | apply zo | apply zk | apply zl)
      refine ⟨hlt, (by simp only [push_cast, Nat.reduceEqDiff, reduceIte]), rfl, fun x hx => ?_⟩
      rw [List.take_succ_eq_append_getElem hlt, List.mem_append, List.mem_singleton] at hx
      rcases hx with hx | rfl
      · exact hI x hx
      · rw [hy]; exact c1
  · have e3 := ge_dec hlt
    obtain rfl : k = l.length := by omega
    repeat (first | apply zs | apply zr | apply zn | ((first | apply zx | apply zy); · simp only [push_cast, env, Nat.reduceEqDiff, reduceIte, Nat.reduceAdd, Nat.reduceMul, Nat.reduceLeDiff, reduceCtorEq, Nat.reduceSub, Int.reduceToNat, e3] <;> first | exact rfl | exact .inl rfl | exact .inr rfl) | apply zq | apply zb | apply zo | apply zk | apply zl)
    refine cw_condF rfl ?_
    refine cw_exit ?_
    show CW _ _ _ _
    rw [List.take_length] at hI
    repeat (first | apply zs | apply zr | apply zn | ((first | apply zx | apply zy); · simp only [push_cast, env, Nat.reduceEqDiff, reduceIte, Nat.reduceAdd, Nat.reduceMul, Nat.reduceLeDiff, reduceCtorEq, Nat.reduceSub, Int.reduceToNat] <;> first | exact rfl | exact .inl rfl | exact .inr rfl) | apply zq | apply zb | apply zo | apply zk | apply zl)
    refine cw_ret ?_
    refine ⟨_, (by simp only [push_cast, env, Nat.reduceEqDiff, reduceIte] <;> exact rfl), ⟨-1, rfl, ?_⟩, rfl⟩
    rw [decide_eq_false (by omega), eq_comm, List.any_eq_false]
    exact fun x hx => by rw [hI x hx]; simp
theorem contains_fw {h : Heap} {g : Gram} {nt : Int} {a b : Nat} {v : Value} {l : List Item} (hC : SpC h g nt a b) (hl : RdItems h v l) (hx : ∀ x ∈ l, x.rule < g.rules.length) :
    FW env 41 [v, .func (.func 42) #[] #[ptr0 a, ptr0 b]] h fun r h' => r = .bool (l.any (accI g nt)) ∧ h' = h := by
  obtain ⟨p, c, rfl⟩ := SlR.form hl
  refine fw_enter (fn := Try.f41) Try.func41 rfl (by kernel_rfl) (by simp [Try.ntmps41]) ?_; simp only [push_cast]
  repeat (first | apply zs | apply zr | apply zn | ((first | apply zx | apply zy); · simp only [push_cast, env, Nat.reduceEqDiff, reduceIte, Nat.reduceAdd, Nat.reduceMul, Nat.reduceLeDiff, reduceCtorEq, Nat.reduceSub, Int.reduceToNat] <;> first | exact rfl | exact .inl rfl | exact .inr rfl) | apply zq | apply zb | apply zo | apply zk | apply zl)
  refine zc (fn := Try.f56) (by simp only [push_cast, env, Nat.reduceEqDiff, reduceIte] <;> exact rfl) Try.func56 (by kernel_rfl) (by kernel_rfl) ?_
  rw [List.append_nil]
  refine (index_fw hC hl hx).mono ?_
  rintro _ h ⟨⟨n, rfl, hn⟩, rfl⟩
  repeat (first | apply zs | apply zr | apply zn | ((first | apply zx | apply zy); · simp only [push_cast, env, Nat.reduceEqDiff, reduceIte, Nat.reduceAdd, Nat.reduceMul, Nat.reduceLeDiff, reduceCtorEq, Nat.reduceSub, Int.reduceToNat, hn] <;> first | exact rfl | exact .inl rfl | exact .inr rfl) | apply zq | apply zb | apply zo | apply zk | apply zl)
  refine cw_ret ?_
  exact ⟨_, (by simp only [push_cast, env, Nat.reduceEqDiff, reduceIte] <;> exact rfl), rfl, rfl⟩
def runCells (l : List (Nat × Nat)) : List Value := l.flatMap fun p => [i64 p.1, i64 p.2]
open Classical in
noncomputable def ntB (R : List Rule) (A : Int) (w : List Nat) (i j : Nat) : Bool := decide (NtTx R A (sub w i j))
open Classical in
theorem ntB_iff {R : List Rule} {A : Int} {w : List Nat} {i j : Nat} : ntB R A w i j = true ↔ NtTx R A (sub w i j) := by
  unfold ntB
  exact decide_eq_true_iff
def spanRow (P : Nat → Nat → Bool) (lo k : Nat) : List (Nat × Nat) := ((List.range k).filter fun j => P lo (lo + j)).map fun j => (lo, lo + j)
def spanAll (P : Nat → Nat → Bool) (n k : Nat) : List (Nat × Nat) := (List.range k).flatMap fun lo => spanRow P lo (n + 1 - lo)
theorem spanRow_succ {P : Nat → Nat → Bool} {lo k : Nat} : spanRow P lo (k + 1) = spanRow P lo k ++ if P lo (lo + k) = true then [(lo, lo + k)] else [] := by
  unfold spanRow
  rw [List.range_succ, List.filter_append, List.map_append, List.filter_cons]
  split <;> simp
theorem spanAll_succ {P : Nat → Nat → Bool} {n k : Nat} : spanAll P n (k + 1) = spanAll P n k ++ spanRow P k (n + 1 - k) := by
  unfold spanAll
  rw [List.range_succ, List.flatMap_append]
  simp
theorem spanRow_len {P : Nat → Nat → Bool} {lo k : Nat} : (spanRow P lo k).length ≤ k := by
  unfold spanRow
  rw [List.length_map]
  exact Nat.le_trans (List.length_filter_le _ _) (by simp)
theorem spanAll_len {P : Nat → Nat → Bool} {n : Nat} : ∀ k, (spanAll P n k).length ≤ k * (n + 1)
  | 0 => by simp [spanAll]
  | k + 1 => by
    have h1 := spanAll_len (P := P) (n := n) k
    have h2 := spanRow_len (P := P) (lo := k) (k := n + 1 - k)
    rw [spanAll_succ, List.length_append, Nat.succ_mul]
    omega
theorem sub_drop {w : List Nat} {lo j : Nat} : sub (w.drop lo) 0 j = sub w lo (lo + j) := by
  unfold sub
  rw [List.drop_zero, show lo + j - lo = j - 0 by omega]
def KeepR (h h' : Heap) : Prop := ∀ (i : Nat) (o : HObj), (∀ (cs : List Value) (v : Nat), o ≠ HObj.arr cs v true 50) → h[i]? = some o → h'[i]? = some o
theorem SlR.kept {h h' : Heap} {v : Value} {n b : Nat} {cells : List Value} {et : TypeId} (hs : SlR h v n cells et b) (k : KeepR h h') (he : et ≠ 50) : SlR h' v n cells et b := by
  refine ⟨hs.1, ?_⟩
  rcases hs.2 with h1 | ⟨id, ver, own, c, rfl, h2⟩
  · exact .inl h1
  · exact .inr ⟨id, ver, own, c, rfl, k _ _ (fun cs v e => he (by cases e; rfl)) h2⟩
def SpansR (g : Gram) (w : List Nat) (nt : Int) (h : Heap) (r : Value) (h' : Heap) : Prop := ∃ x e, r = .tuple #[x, i64 e] ∧
  ((fitE g w ≠ 0 ∧ x = nilS ∧ e = fitE g w) ∨ (fitE g w = 0 ∧ (nt < 0 ∨ g.nts ≤ nt) ∧ x = nilS ∧ e = 1) ∨
   (fitE g w = 0 ∧ 0 ≤ nt ∧ nt < g.nts ∧ e = 0 ∧ Grow h h' x (spanAll (ntB g.rules nt w) w.length (w.length + 1)).length (runCells (spanAll (ntB g.rules nt w) w.length (w.length + 1))) 50))
set_option maxHeartbeats 8000000 in
theorem spans_fw {h : Heap} {g : Gram} {v wv : Value} {w : List Nat} {nt : Int} (hr : RdGram h v g) (hwR : RdB h wv w) (W : WfG g) : FW env 19 [v, wv, i64 nt] h fun r h' => SpansR g w nt h r h' ∧ h <+: h' := by
  obtain ⟨u, rfl, hu⟩ := id hr
  obtain ⟨p, c, rfl⟩ := hu.form
  obtain ⟨pw, cw, rfl⟩ := hwR.form
  refine fw_enter (fn := Try.f19) Try.func19 rfl (by kernel_rfl) (by simp [Try.ntmps19]) ?_; simp only [push_cast]
  repeat (first | apply zs | apply zr | apply zn | apply zq | apply zb | apply zo | apply zk | apply zl)
  refine ow_boxH (by simp only [push_cast, env, Nat.reduceEqDiff, reduceIte] <;> exact rfl) (by simp only [push_cast, env, Nat.reduceEqDiff, reduceIte] <;> exact rfl) ?_
  refine ow_boxH (by simp only [push_cast, env, Nat.reduceEqDiff, reduceIte] <;> exact rfl) (by simp only [push_cast, env, Nat.reduceEqDiff, reduceIte] <;> exact rfl) ?_
  simp only [St.putO, St.put]
  simp only [List.length_append, List.length_cons, List.length_nil, Nat.zero_add, List.append_assoc, List.cons_append, List.nil_append]
  obtain ⟨H2, hH2⟩ : ∃ H2, H2 = h ++ [HObj.arr [i64 g.nts, i64 g.start, .slice p g.rules.length c] 0 true 24, HObj.arr [i64 nt] 0 true 3] := ⟨_, rfl⟩
  have q1 : H2[h.length]? = some (HObj.arr [i64 g.nts, i64 g.start, .slice p g.rules.length c] 0 true 24) := by rw [hH2]; simp
  have q2 : H2[h.length + 1]? = some (HObj.arr [i64 nt] 0 true 3) := by rw [hH2, List.getElem?_append_right (by omega)]; simp
  have hp2 : h <+: H2 := by rw [hH2]; exact List.prefix_append _ _
  rw [← hH2]
  clear hH2
  have hr1 := hr.mono hp2
  have hwR1 := hwR.mono hp2
  repeat (first | apply zs | apply zr | apply zn | ((first | apply zx | apply zy); · simp only [push_cast, env, Nat.reduceEqDiff, reduceIte, Nat.reduceAdd, Nat.reduceMul, Nat.reduceLeDiff, reduceCtorEq, Nat.reduceSub, Int.reduceToNat, q1, q2] <;> first | exact rfl | exact .inl rfl | exact .inr rfl) | apply zq | apply zb | apply zo | apply zk | apply zl)
  refine zc (fn := Try.f36) (by simp only [push_cast, env, Nat.reduceEqDiff, reduceIte] <;> exact rfl) Try.func36 (by kernel_rfl) (by kernel_rfl) ?_
  rw [List.append_nil]
  refine (fit_fw hr1 hwR1).mono ?_
  rintro _ H2 ⟨rfl, rfl⟩
  by_cases hf : ¬ fitE g w = 0
  · have df : decide (fitE g w = 0) = false := decide_eq_false hf
    repeat (first | apply zs | apply zr | apply zn | ((first | apply zx | apply zy); · simp only [push_cast, env, Nat.reduceEqDiff, reduceIte, Nat.reduceAdd, Nat.reduceMul, Nat.reduceLeDiff, reduceCtorEq, Nat.reduceSub, Int.reduceToNat, df] <;> first | exact rfl | exact .inl rfl | exact .inr rfl) | apply zq | apply zb | apply zo | apply zk | apply zl)
    refine cw_condT (by simp only [push_cast, env, Nat.reduceEqDiff, reduceIte, df] <;> exact rfl) ?_
    repeat (first | apply zs | apply zr | apply zn | ((first | apply zx | apply zy); · simp only [push_cast, env, Nat.reduceEqDiff, reduceIte, Nat.reduceAdd, Nat.reduceMul, Nat.reduceLeDiff, reduceCtorEq, Nat.reduceSub, Int.reduceToNat] <;> first | exact rfl | exact .inl rfl | exact .inr rfl) | apply zq | apply zb | apply zo | apply zk | apply zl)
    refine cw_ret ?_
    exact ⟨_, (by simp only [push_cast, env, Nat.reduceEqDiff, reduceIte] <;> exact rfl), ⟨nilS, fitE g w, rfl, .inl ⟨hf, rfl, rfl⟩⟩, hp2⟩
  replace hf : fitE g w = 0 := Classical.not_not.1 hf
  obtain ⟨hb, hw⟩ := fitE_ok.1 hf
  have R := rightS hb
  rw [hf]
  repeat (first | apply zs | apply zr | apply zn | ((first | apply zx | apply zy); · simp only [push_cast, env, Nat.reduceEqDiff, reduceIte, Nat.reduceAdd, Nat.reduceMul, Nat.reduceLeDiff, reduceCtorEq, Nat.reduceSub, Int.reduceToNat] <;> first | exact rfl | exact .inl rfl | exact .inr rfl) | apply zq | apply zb | apply zo | apply zk | apply zl)
  refine cw_condF rfl ?_
  by_cases hn0 : nt < 0 ∨ g.nts ≤ nt
  · have d1 : (decide (nt < 0) || decide (g.nts ≤ nt)) = true := by simpa using hn0
    repeat (first | apply zs | apply zr | apply zn | ((first | apply zx | apply zy); · simp only [push_cast, env, Nat.reduceEqDiff, reduceIte, Nat.reduceAdd, Nat.reduceMul, Nat.reduceLeDiff, reduceCtorEq, Nat.reduceSub, Int.reduceToNat, q1, q2] <;> first | exact rfl | exact .inl rfl | exact .inr rfl) | apply zq | apply zb | apply zo | apply zk | apply zl)
    refine cw_condT (by simp only [push_cast, env, Nat.reduceEqDiff, reduceIte, d1] <;> exact rfl) ?_
    repeat (first | apply zs | apply zr | apply zn | ((first | apply zx | apply zy); · simp only [push_cast, env, Nat.reduceEqDiff, reduceIte, Nat.reduceAdd, Nat.reduceMul, Nat.reduceLeDiff, reduceCtorEq, Nat.reduceSub, Int.reduceToNat] <;> first | exact rfl | exact .inl rfl | exact .inr rfl) | apply zq | apply zb | apply zo | apply zk | apply zl)
    refine cw_ret ?_
    exact ⟨_, (by simp only [push_cast, env, Nat.reduceEqDiff, reduceIte] <;> exact rfl), ⟨nilS, 1, rfl, .inr (.inl ⟨hf, hn0, rfl, rfl⟩)⟩, hp2⟩
  have d1 : (decide (nt < 0) || decide (g.nts ≤ nt)) = false := by simpa using hn0
  repeat (first | apply zs | apply zr | apply zn | ((first | apply zx | apply zy); · simp only [push_cast, env, Nat.reduceEqDiff, reduceIte, Nat.reduceAdd, Nat.reduceMul, Nat.reduceLeDiff, reduceCtorEq, Nat.reduceSub, Int.reduceToNat, q1, q2] <;> first | exact rfl | exact .inl rfl | exact .inr rfl) | apply zq | apply zb | apply zo | apply zk | apply zl)
  refine cw_condF (by simp only [push_cast, env, Nat.reduceEqDiff, reduceIte, d1] <;> exact rfl) ?_
  repeat (first | apply zs | apply zr | apply zn | ((first | apply zx | apply zy); · simp only [push_cast, env, Nat.reduceEqDiff, reduceIte, Nat.reduceAdd, Nat.reduceMul, Nat.reduceLeDiff, reduceCtorEq, Nat.reduceSub, Int.reduceToNat, q1, q2] <;> first | exact rfl | exact .inl rfl | exact .inr rfl) | apply zq | apply zb | apply zo | apply zk | apply zl)
  refine ow_stoH (cells' := [i64 g.nts, i64 nt, .slice p g.rules.length c]) (by simp only [push_cast, env, Nat.reduceEqDiff, reduceIte] <;> exact rfl) rfl rfl (by simp only [push_cast, env, Nat.reduceEqDiff, reduceIte] <;> exact rfl) (by simp only [push_cast, env, Nat.reduceEqDiff, reduceIte] <;> exact rfl) q1 (by simp only [push_cast, env, Nat.reduceEqDiff, reduceIte] <;> exact rfl) rfl rfl ?_
  have q3 := get_set_self (x := HObj.arr [i64 g.nts, i64 nt, .slice p g.rules.length c] 0 true 24) q1
  have q4 : (H2.set h.length (HObj.arr [i64 g.nts, i64 nt, .slice p g.rules.length c] 0 true 24))[h.length + 1]? = some (HObj.arr [i64 nt] 0 true 3) := by rw [get_set_ne (by omega)]; exact q2
  have hp3 : h <+: H2.set h.length (HObj.arr [i64 g.nts, i64 nt, .slice p g.rules.length c] 0 true 24) := pre_set hp2 (Nat.le_refl _)
  obtain ⟨H3, hH3⟩ : ∃ H3, H3 = H2.set h.length (HObj.arr [i64 g.nts, i64 nt, .slice p g.rules.length c] 0 true 24) := ⟨_, rfl⟩
  show OW _ _ _ ⟨_, _, H2.set h.length (HObj.arr [i64 g.nts, i64 nt, .slice p g.rules.length c] 0 true 24)⟩ _
  rw [← hH3] at q3 q4 hp3 ⊢
  clear q1 q2 hp2 hr1 hwR1 hH3
  repeat (first | apply zs | apply zr | apply zn | ((first | apply zx | apply zy); · simp only [push_cast, env, Nat.reduceEqDiff, reduceIte, Nat.reduceAdd, Nat.reduceMul, Nat.reduceLeDiff, reduceCtorEq, Nat.reduceSub, Int.reduceToNat] <;> first | exact rfl | exact .inl rfl | exact .inr rfl) | apply zq | apply zb | apply zo | apply zk | apply zl)
  refine cw_forG (w.length + 1) (fun lo (x : Heap × Value) => [(1, .val (.slice pw w.length cw)), (3, .val (ptr0 h.length)), (5, .val (ptr0 (h.length + 1))), (9, .val x.2), (10, .val (i64 lo))]) (fun _ x => x.1)
    (fun lo x => h <+: x.1 ∧ x.1[h.length]? = some (HObj.arr [i64 g.nts, i64 nt, .slice p g.rules.length c] 0 true 24) ∧ x.1[h.length + 1]? = some (HObj.arr [i64 nt] 0 true 3) ∧
      Grow h x.1 x.2 (spanAll (ntB g.rules nt w) w.length lo).length (runCells (spanAll (ntB g.rules nt w) w.length lo)) 50) (H3, nilS) (by simp only [push_cast, Nat.reduceEqDiff, reduceIte]) rfl ⟨hp3, q3, q4, Grow.nil⟩ ?_
  clear hp3 q3 q4 H3
  rintro lo ⟨hk, out⟩ hlo ⟨hp, q3, q4, hG⟩
  simp only at hp q3 q4 hG ⊢
  by_cases hlt : lo < w.length + 1
  · have e3 : decide ((lo : Int) ≤ (w.length : Int)) = true := decide_eq_true (by omega)
    have e2 : IntKind.i64.wrap ((lo : Int) + 1) = ((lo : Int) + 1) := wrap64_id (by omega) (by omega)
    repeat (first | apply zs | apply zr | apply zn | ((first | apply zx | apply zy); · simp only [push_cast, env, Nat.reduceEqDiff, reduceIte, Nat.reduceAdd, Nat.reduceMul, Nat.reduceLeDiff, reduceCtorEq, Nat.reduceSub, Int.reduceToNat, e3] <;> first | exact rfl | exact .inl rfl | exact .inr rfl) | apply zq | apply zb | apply zo | apply zk | apply zl)
    refine cw_condT rfl ?_
    repeat (first | apply zs | apply zr | apply zn | ((first | apply zx | apply zy); · simp only [push_cast, env, Nat.reduceEqDiff, reduceIte, Nat.reduceAdd, Nat.reduceMul, Nat.reduceLeDiff, reduceCtorEq, Nat.reduceSub, Int.reduceToNat] <;> first | exact rfl | exact .inl rfl | exact .inr rfl) | apply zq | apply zb | apply zo | apply zk | apply zl)
    have hwk := hwR.mono hp
    obtain ⟨v', hsl, hw'⟩ := rdb_slice (lo := lo) (hi := w.length) hwk (by omega) (Nat.le_refl _)
    have hsube : sub w lo w.length = w.drop lo := by unfold sub; rw [List.take_of_length_le (by simp)]
    rw [hsube] at hw'
    obtain ⟨pv', cv', rfl⟩ := hw'.form
    have hrk : RdGram hk (.agg #[i64 g.nts, i64 nt, .slice p g.rules.length c]) ⟨g.nts, nt, g.rules⟩ := ⟨_, rfl, hu.mono hp⟩
    have Rk : RightS ⟨g.nts, nt, g.rules⟩ := ⟨R.n1, R.n2, by simp only; omega, by simp only; omega, R.rl, R.r⟩
    refine cw_regionD 4 mixed (by kernel_rfl) ?_
    repeat (first | apply zs | apply zr | apply zn | ((first | apply zx | apply zy); · simp only [push_cast, env, Nat.reduceEqDiff, reduceIte, Nat.reduceAdd, Nat.reduceMul, Nat.reduceLeDiff, reduceCtorEq, Nat.reduceSub, Int.reduceToNat, q3] <;> first | exact rfl | exact .inl rfl | exact .inr rfl) | apply zq | apply zb | apply zo | apply zk | apply zl)
    refine qw_slice (v := .slice pv' (w.drop lo).length cv') (by simp only [push_cast, env, Nat.reduceEqDiff, reduceIte] <;> exact rfl) rfl (hsl _ _ _ _ rfl (by simp only [push_cast, env, Nat.reduceEqDiff, reduceIte] <;> exact rfl) (by simp only [push_cast, env, Nat.reduceEqDiff, reduceIte] <;> exact rfl) (by simp only [push_cast, env, Nat.reduceEqDiff, reduceIte] <;> exact rfl)) ?_
    repeat (first | apply zs | apply zr | apply zn | ((first | apply zx | apply zy); · simp only [push_cast, env, Nat.reduceEqDiff, reduceIte, Nat.reduceAdd, Nat.reduceMul, Nat.reduceLeDiff, reduceCtorEq, Nat.reduceSub, Int.reduceToNat] <;> first | exact rfl | exact .inl rfl | exact .inr rfl) | apply zq | apply zb | apply zo | apply zk | apply zl)
    refine zc (fn := Try.f37) (by simp only [push_cast, env, Nat.reduceEqDiff, reduceIte] <;> exact rfl) Try.func37 (by kernel_rfl) (by kernel_rfl) ?_
    rw [List.append_nil]
    refine (open_fw hrk hw' Rk W (by simp; omega)).mono ?_
    rintro _ h' ⟨hB, rv, F, G, rfl, rfl, K, C, hrv⟩
    obtain ⟨g', hg'⟩ : ∃ g' : Gram, g' = ⟨g.nts, nt, g.rules⟩ := ⟨_, rfl⟩
    rw [← hg'] at K C
    have hrl : g'.rules = g.rules := by rw [hg']
    have hst : g'.start = nt := by rw [hg']
    have hnt : g'.nts = g.nts := by rw [hg']
    have hC : SpC G.h g' nt h.length (h.length + 1) := ⟨⟨nt, p, c, by rw [hrl, hnt]; exact getElem?_of_prefix K.p q3, by rw [hrl]; exact (hu.mono hp).mono K.p⟩, getElem?_of_prefix K.p q4⟩
    have hpG := hp.trans K.p
    have hGG : Grow h G.h out (spanAll (ntB g.rules nt w) w.length lo).length (runCells (spanAll (ntB g.rules nt w) w.length lo)) 50 := hG.mono fun i o _ ho => getElem?_of_prefix K.p ho
    have q3' := getElem?_of_prefix K.p q3
    have q4' := getElem?_of_prefix K.p q4
    have hSl := C.n
    rw [List.length_drop] at hSl
    have hc := K.c
    have hs := K.s
    unfold chCells at hc
    have hall := spanAll_len (P := ntB g.rules nt w) (n := w.length) lo
    have hall2 : lo * (w.length + 1) ≤ 513 * 513 := Nat.mul_le_mul (by omega) (by omega)
    have hruns : ∀ x ∈ G.S, True := fun _ _ => trivial
    have hbnd : ∀ j, j < G.S.length → ∀ x ∈ gs G.S j, x.rule < g'.rules.length := fun j hj x hx => by
      obtain ⟨r, h1, _⟩ := ((C.m j x).1 hx).sound
      exact (List.getElem?_eq_some_iff.1 h1).1
    have hany : ∀ j, j < G.S.length → (gs G.S j).any (accI g' nt) = ntB g.rules nt w lo (lo + j) := fun j hj => by
      have h1 := acc_iff C (j := j) (by rw [List.length_drop]; omega)
      rw [sub_drop, hst, hrl] at h1
      rw [Bool.eq_iff_iff, List.any_eq_true, ntB_iff]
      exact h1
    repeat (first | apply zs | apply zr | apply zn | ((first | apply zx | apply zy); · simp only [push_cast, env, Nat.reduceEqDiff, reduceIte, Nat.reduceAdd, Nat.reduceMul, Nat.reduceLeDiff, reduceCtorEq, Nat.reduceSub, Int.reduceToNat, hc] <;> first | exact rfl | exact .inl rfl | exact .inr rfl) | apply zq | apply zb | apply zo | apply zk | apply zl)
    refine cw_forG G.S.length (fun j (x : Heap × Value) => [(1, .val (.slice pw w.length cw)), (3, .val (ptr0 h.length)), (5, .val (ptr0 (h.length + 1))), (9, .val x.2), (10, .val (i64 lo)), (44, .val (.slice (some ⟨F.si, 0, some 0⟩) G.S.length G.S.length)), (45, .val (i64 G.S.length)), (46, .val (i64 j))]) (fun _ x => x.1)
      (fun j x => KeepR G.h x.1 ∧ h <+: x.1 ∧ Grow h x.1 x.2 (spanAll (ntB g.rules nt w) w.length lo ++ spanRow (ntB g.rules nt w) lo j).length (runCells (spanAll (ntB g.rules nt w) w.length lo ++ spanRow (ntB g.rules nt w) lo j)) 50) (G.h, out) (by simp only [push_cast, Nat.reduceEqDiff, reduceIte]) rfl ⟨fun _ _ _ h => h, hpG, by rw [show spanRow (ntB g.rules nt w) lo 0 = [] from rfl, List.append_nil]; exact hGG⟩ ?_
    rintro j ⟨hj, out⟩ hjn ⟨kp, hpj, hGj⟩
    simp only at kp hpj hGj ⊢
    by_cases hlt2 : j < G.S.length
    · have f2 := inc hlt2 (by omega)
      have f3 := lt_dec hlt2
      have f1 := rng hlt2
      obtain ⟨u2, cu2, hu2, gu2⟩ := K.us_at hlt2
      have hsm := C.small (hg' ▸ Rk) (by simp; omega) (k := j) (by rw [List.length_drop]; omega)
      have hI : RdItems hj (.slice u2 (gs G.S j).length cu2) (gs G.S j) := SlR.kept (gu2.sl (b := 24) (by omega)) kp (by decide)
      have hCj : SpC hj g' nt h.length (h.length + 1) := ⟨⟨nt, p, c, by rw [hrl, hnt]; exact kp _ _ (fun cs v e => by cases e) q3', by rw [hrl]; exact hu.mono hpj⟩, kp _ _ (fun cs v e => by cases e) q4'⟩
      have hs2 := kp _ _ (fun cs v e => by cases e) hs
      have e5 : IntKind.i64.wrap ((lo : Int) + (j : Int)) = ((lo + j : Nat) : Int) := by rw [wrap64_id (by omega) (by omega)]; rfl
      repeat (first | apply zs | apply zr | apply zn | ((first | apply zx | apply zy); · simp only [push_cast, env, Nat.reduceEqDiff, reduceIte, Nat.reduceAdd, Nat.reduceMul, Nat.reduceLeDiff, reduceCtorEq, Nat.reduceSub, Int.reduceToNat, f3] <;> first | exact rfl | exact .inl rfl | exact .inr rfl) | apply zq | apply zb | apply zo | apply zk | apply zl)
      refine cw_condT rfl ?_
      repeat (first | apply zs | apply zr | apply zn | ((first | apply zx | apply zy); · simp only [push_cast, env, Nat.reduceEqDiff, reduceIte, Nat.reduceAdd, Nat.reduceMul, Nat.reduceLeDiff, reduceCtorEq, Nat.reduceSub, Int.reduceToNat, hs2, f1, hu2, Nat.mul_one] <;> first | exact rfl | exact .inl rfl | exact .inr rfl) | apply zq | apply zb | apply zo | apply zk | apply zl)
      refine zc (fn := Try.f41) (by simp only [push_cast, env, Nat.reduceEqDiff, reduceIte] <;> exact rfl) Try.func41 (by kernel_rfl) (by kernel_rfl) ?_
      rw [List.append_nil]
      refine (contains_fw hCj hI (hbnd j hlt2)).mono ?_
      rintro _ hj ⟨rfl, rfl⟩
      rw [hany j hlt2]
      have hrow := spanRow_succ (P := ntB g.rules nt w) (lo := lo) (k := j)
      have hrlen := spanRow_len (P := ntB g.rules nt w) (lo := lo) (k := j)
      cases hb2 : ntB g.rules nt w lo (lo + j) with
      | true =>
        rw [hb2, if_pos rfl] at hrow
        obtain ⟨po, co, rfl⟩ := hGj.form
        repeat (first | apply zs | apply zr | apply zn | ((first | apply zx | apply zy); · simp only [push_cast, env, Nat.reduceEqDiff, reduceIte, Nat.reduceAdd, Nat.reduceMul, Nat.reduceLeDiff, reduceCtorEq, Nat.reduceSub, Int.reduceToNat] <;> first | exact rfl | exact .inl rfl | exact .inr rfl) | apply zq | apply zb | apply zo | apply zk | apply zl)
        refine cw_condT rfl ?_
        repeat (first | apply zs | apply zr | apply zn | ((first | apply zx | apply zy); · simp only [push_cast, env, Nat.reduceEqDiff, reduceIte, Nat.reduceAdd, Nat.reduceMul, Nat.reduceLeDiff, reduceCtorEq, Nat.reduceSub, Int.reduceToNat, e5] <;> first | exact rfl | exact .inl rfl | exact .inr rfl) | apply zq | apply zb | apply zo | apply zk | apply zl)
        refine ow_push (t := 33) (by simp only [push_cast, env, Nat.reduceEqDiff, reduceIte] <;> exact rfl) rfl (by kernel_rfl) ti50 (by decide) rfl (by simp only [push_cast, env, Nat.reduceEqDiff, reduceIte] <;> exact rfl) rfl hGj hpj (by unfold runCells; exact flat_len (k := 2) (fun _ => rfl) _) rfl (by simp only [List.length_append]; omega) (by simp only [List.length_append]; omega) ?_
        intro p6 c6 h6 G6 hp6 hk6 hl6
        repeat (first | apply zs | apply zr | apply zn | ((first | apply zx | apply zy); · simp only [push_cast, env, Nat.reduceEqDiff, reduceIte, Nat.reduceAdd, Nat.reduceMul, Nat.reduceLeDiff, reduceCtorEq, Nat.reduceSub, Int.reduceToNat, f2] <;> first | exact rfl | exact .inl rfl | exact .inr rfl) | apply zq | apply zb | apply zo | apply zk | apply zl)
        refine ⟨hlt2, (h6, .slice p6 ((spanAll (ntB g.rules nt w) w.length lo ++ spanRow (ntB g.rules nt w) lo j).length + 1) c6), (by simp only [push_cast, Nat.reduceEqDiff, reduceIte]), rfl, fun i o ho hi => ?_, hp6, ?_⟩
        · refine hk6 i o ?_ (kp i o ho hi)
          cases hq : isAt (.slice po (spanAll (ntB g.rules nt w) w.length lo ++ spanRow (ntB g.rules nt w) lo j).length co) i with
          | false => rfl
          | true =>
            obtain ⟨ve, h5⟩ := hGj.obj hq
            rw [kp i o ho hi] at h5
            exact (ho _ _ (Option.some.inj h5)).elim
        · simp only
          rw [hrow, ← List.append_assoc, List.length_append (bs := [(lo, lo + j)])]
          have : runCells (spanAll (ntB g.rules nt w) w.length lo ++ spanRow (ntB g.rules nt w) lo j ++ [(lo, lo + j)]) = runCells (spanAll (ntB g.rules nt w) w.length lo ++ spanRow (ntB g.rules nt w) lo j) ++ [i64 lo, i64 ((lo + j : Nat) : Int)] := by
            unfold runCells
            rw [List.flatMap_append]
            rfl
          rw [this]
          exact G6
      | false =>
        rw [hb2, if_neg (by simp), List.append_nil] at hrow
        repeat (first | apply zs | apply zr | apply zn | ((first | apply zx | apply zy); · simp only [push_cast, env, Nat.reduceEqDiff, reduceIte, Nat.reduceAdd, Nat.reduceMul, Nat.reduceLeDiff, reduceCtorEq, Nat.reduceSub, Int.reduceToNat] <;> first | exact rfl | exact .inl rfl | exact .inr rfl) | apply zq | apply zb | apply zo | apply zk | apply zl)
        refine cw_condF rfl ?_
        repeat (first | apply zs | apply zr | apply zn | ((first | apply zx | apply zy); · simp only [push_cast, env, Nat.reduceEqDiff, reduceIte, Nat.reduceAdd, Nat.reduceMul, Nat.reduceLeDiff, reduceCtorEq, Nat.reduceSub, Int.reduceToNat, f2] <;> first | exact rfl | exact .inl rfl | exact .inr rfl) | apply zq | apply zb | apply zo | apply zk | apply zl)
        exact ⟨hlt2, (hj, out), (by simp only [push_cast, Nat.reduceEqDiff, reduceIte]), rfl, kp, hpj, by simp only; rw [hrow]; exact hGj⟩
    · have e3e := ge_dec hlt2
      obtain rfl : j = G.S.length := by omega
      repeat (first | apply zs | apply zr | apply zn | ((first | apply zx | apply zy); · simp only [push_cast, env, Nat.reduceEqDiff, reduceIte, Nat.reduceAdd, Nat.reduceMul, Nat.reduceLeDiff, reduceCtorEq, Nat.reduceSub, Int.reduceToNat, e3e] <;> first | exact rfl | exact .inl rfl | exact .inr rfl) | apply zq | apply zb | apply zo | apply zk | apply zl)
      refine cw_condF rfl ?_
      refine cw_exit ?_
      show CW _ _ _ _
      repeat (first | apply zs | apply zr | apply zn | ((first | apply zx | apply zy); · simp only [push_cast, env, Nat.reduceEqDiff, reduceIte, Nat.reduceAdd, Nat.reduceMul, Nat.reduceLeDiff, reduceCtorEq, Nat.reduceSub, Int.reduceToNat, e2] <;> first | exact rfl | exact .inl rfl | exact .inr rfl) | apply zq | apply zb | apply zo | apply zk | apply zl)
      refine ⟨hlt, (hj, out), (by simp only [push_cast, Nat.reduceEqDiff, reduceIte]), rfl, hpj, kp _ _ (fun cs v e => by cases e) q3', kp _ _ (fun cs v e => by cases e) q4', ?_⟩
      simp only
      rw [spanAll_succ, show w.length + 1 - lo = G.S.length by omega]
      exact hGj
  · have e3 : decide ((lo : Int) ≤ (w.length : Int)) = false := decide_eq_false (by omega)
    obtain rfl : lo = w.length + 1 := by omega
    have e3 : decide ((w.length : Int) + 1 ≤ (w.length : Int)) = false := decide_eq_false (by omega)
    repeat (first | apply zs | apply zr | apply zn | ((first | apply zx | apply zy); · simp only [push_cast, env, Nat.reduceEqDiff, reduceIte, Nat.reduceAdd, Nat.reduceMul, Nat.reduceLeDiff, reduceCtorEq, Nat.reduceSub, Int.reduceToNat, e3] <;> first | exact rfl | exact .inl rfl | exact .inr rfl) | apply zq | apply zb | apply zo | apply zk | apply zl)
    refine cw_condF rfl ?_
    refine cw_exit ?_
    show CW _ _ _ _
    repeat (first | apply zs | apply zr | apply zn | ((first | apply zx | apply zy); · simp only [push_cast, env, Nat.reduceEqDiff, reduceIte, Nat.reduceAdd, Nat.reduceMul, Nat.reduceLeDiff, reduceCtorEq, Nat.reduceSub, Int.reduceToNat] <;> first | exact rfl | exact .inl rfl | exact .inr rfl) | apply zq | apply zb | apply zo | apply zk | apply zl)
    refine cw_ret ?_
    exact ⟨_, (by simp only [push_cast, env, Nat.reduceEqDiff, reduceIte] <;> exact rfl), ⟨out, 0, rfl, .inr (.inr ⟨hf, by omega, by omega, rfl, hG⟩)⟩, hp⟩
end Go.Proofs.Ytafncpgiibikcaa

namespace Go.Proofs.Ytafncpgiibikcaa
set_option linter.unusedSimpArgs false
set_option linter.unusedVariables false
set_option maxRecDepth 20000
open Go.RowKit Am Ty

theorem rfit_fw {h : Heap} {g : Gram} {v wv : Value} {w : List Nat} (hr : RdGram h v g) (hw : RdB h wv w) : FW env 30 [v, wv] h fun r h' => r = i64 (fitE g w) ∧ h' = h := by
  obtain ⟨u, rfl, hu⟩ := id hr
  obtain ⟨p, c, rfl⟩ := hu.form
  obtain ⟨pw, cw, rfl⟩ := hw.form
  refine fw_enter (fn := Try.f30) Try.func30 rfl (by kernel_rfl) (by simp [Try.ntmps30]) ?_; simp only [push_cast]
  repeat (first | apply zs | apply zr | apply zn | ((first | apply zx | apply zy); · simp only [push_cast, env, Nat.reduceEqDiff, reduceIte, Nat.reduceAdd, Nat.reduceMul, Nat.reduceLeDiff, reduceCtorEq, Nat.reduceSub, Int.reduceToNat] <;> first | exact rfl | exact .inl rfl | exact .inr rfl) | apply zq | apply zb | apply zo | apply zk | apply zl)
  refine zc (fn := Try.f49) (by simp only [push_cast, env, Nat.reduceEqDiff, reduceIte] <;> exact rfl) Try.func49 (by kernel_rfl) (by kernel_rfl) ?_
  rw [List.append_nil]
  refine (refright_fw hr).mono ?_
  rintro _ h ⟨rfl, rfl⟩
  unfold fitE
  by_cases hb : badG g
  · have e0 : rightG g = 3 := if_pos hb
    rw [e0, if_pos hb]
    repeat (first | apply zs | apply zr | apply zn | ((first | apply zx | apply zy); · simp only [push_cast, env, Nat.reduceEqDiff, reduceIte, Nat.reduceAdd, Nat.reduceMul, Nat.reduceLeDiff, reduceCtorEq, Nat.reduceSub, Int.reduceToNat] <;> first | exact rfl | exact .inl rfl | exact .inr rfl) | apply zq | apply zb | apply zo | apply zk | apply zl)
    refine cw_condF rfl ?_
    repeat (first | apply zs | apply zr | apply zn | ((first | apply zx | apply zy); · simp only [push_cast, env, Nat.reduceEqDiff, reduceIte, Nat.reduceAdd, Nat.reduceMul, Nat.reduceLeDiff, reduceCtorEq, Nat.reduceSub, Int.reduceToNat] <;> first | exact rfl | exact .inl rfl | exact .inr rfl) | apply zq | apply zb | apply zo | apply zk | apply zl)
    refine cw_ret ?_
    exact ⟨_, (by simp only [push_cast, env, Nat.reduceEqDiff, reduceIte] <;> exact rfl), rfl, rfl⟩
  have e0 : rightG g = 0 := if_neg hb
  rw [e0, if_neg hb]
  repeat (first | apply zs | apply zr | apply zn | ((first | apply zx | apply zy); · simp only [push_cast, env, Nat.reduceEqDiff, reduceIte, Nat.reduceAdd, Nat.reduceMul, Nat.reduceLeDiff, reduceCtorEq, Nat.reduceSub, Int.reduceToNat] <;> first | exact rfl | exact .inl rfl | exact .inr rfl) | apply zq | apply zb | apply zo | apply zk | apply zl)
  refine cw_cond (by simp only [push_cast, env, Nat.reduceEqDiff, reduceIte] <;> exact rfl) (fun c1 => ?_) (fun c1 => ?_)
  · have c1' : 512 < w.length := by simp only [decide_eq_true_eq] at c1; omega
    rw [if_pos c1']
    repeat (first | apply zs | apply zr | apply zn | ((first | apply zx | apply zy); · simp only [push_cast, env, Nat.reduceEqDiff, reduceIte, Nat.reduceAdd, Nat.reduceMul, Nat.reduceLeDiff, reduceCtorEq, Nat.reduceSub, Int.reduceToNat] <;> first | exact rfl | exact .inl rfl | exact .inr rfl) | apply zq | apply zb | apply zo | apply zk | apply zl)
    refine cw_ret ?_
    exact ⟨_, (by simp only [push_cast, env, Nat.reduceEqDiff, reduceIte] <;> exact rfl), rfl, rfl⟩
  · have c1' : ¬ 512 < w.length := by simp only [decide_eq_false_iff_not] at c1; omega
    rw [if_neg c1']
    repeat (first | apply zs | apply zr | apply zn | ((first | apply zx | apply zy); · simp only [push_cast, env, Nat.reduceEqDiff, reduceIte, Nat.reduceAdd, Nat.reduceMul, Nat.reduceLeDiff, reduceCtorEq, Nat.reduceSub, Int.reduceToNat] <;> first | exact rfl | exact .inl rfl | exact .inr rfl) | apply zq | apply zb | apply zo | apply zk | apply zl)
    refine cw_ret ?_
    exact ⟨_, (by simp only [push_cast, env, Nat.reduceEqDiff, reduceIte] <;> exact rfl), rfl, rfl⟩
def Light (g : Gram) (w : List Nat) : Prop := g.nts.toNat * (w.length + 1) * (w.length + 1) ≤ 1000000
def heavy7 (g : Gram) (w : List Nat) : Bool := (decide (16 < w.length) && decide (w.length ≤ 512)) || decide (heavyP g 160)
theorem heavy7_fw {h : Heap} {g : Gram} {v wv : Value} {w : List Nat} (hr : RdGram h v g) (hw : RdB h wv w) (hn : -9223372036854775808 ≤ g.nts) : FW env 13 [v, wv] h fun r h' => r = .bool (heavy7 g w) ∧ h' = h := by
  obtain ⟨u, rfl, hu⟩ := id hr
  obtain ⟨p, c, rfl⟩ := hu.form
  obtain ⟨pw, cw, rfl⟩ := hw.form
  unfold heavy7
  refine fw_enter (fn := Try.f13) Try.func13 rfl (by kernel_rfl) (by simp [Try.ntmps13]) ?_; simp only [push_cast]
  by_cases h1 : 16 < w.length
  · have d1 : decide ((16 : Int) < (w.length : Int)) = true := decide_eq_true (by omega)
    rw [decide_eq_true h1]
    by_cases h2 : w.length ≤ 512
    · have d2 : decide ((w.length : Int) ≤ 512) = true := decide_eq_true (by omega)
      rw [decide_eq_true h2]
      repeat (first | apply zs | apply zr | apply zn | ((first | apply zx | apply zy); · simp only [push_cast, env, Nat.reduceEqDiff, reduceIte, Nat.reduceAdd, Nat.reduceMul, Nat.reduceLeDiff, reduceCtorEq, Nat.reduceSub, Int.reduceToNat, d1, d2] <;> first | exact rfl | exact .inl rfl | exact .inr rfl) | apply zq | apply zb | apply zo | apply zk | apply zl)
      refine cw_ret ?_
      exact ⟨_, (by simp only [push_cast, env, Nat.reduceEqDiff, reduceIte] <;> exact rfl), rfl, rfl⟩
    · have d2 : decide ((w.length : Int) ≤ 512) = false := decide_eq_false (by omega)
      rw [decide_eq_false h2]
      repeat (first | apply zs | apply zr | apply zn | ((first | apply zx | apply zy); · simp only [push_cast, env, Nat.reduceEqDiff, reduceIte, Nat.reduceAdd, Nat.reduceMul, Nat.reduceLeDiff, reduceCtorEq, Nat.reduceSub, Int.reduceToNat, d1, d2] <;> first | exact rfl | exact .inl rfl | exact .inr rfl) | apply zq | apply zb | apply zo | apply zk | apply zl)
      refine zc (fn := Try.f34) (by simp only [push_cast, env, Nat.reduceEqDiff, reduceIte] <;> exact rfl) Try.func34 (by kernel_rfl) (by kernel_rfl) ?_
      rw [List.append_nil]
      refine (heavy_fw hr hn (by decide)).mono ?_
      rintro _ h ⟨rfl, rfl⟩
      repeat (first | apply zs | apply zr | apply zn | ((first | apply zx | apply zy); · simp only [push_cast, env, Nat.reduceEqDiff, reduceIte, Nat.reduceAdd, Nat.reduceMul, Nat.reduceLeDiff, reduceCtorEq, Nat.reduceSub, Int.reduceToNat] <;> first | exact rfl | exact .inl rfl | exact .inr rfl) | apply zq | apply zb | apply zo | apply zk | apply zl)
      refine cw_ret ?_
      exact ⟨_, (by simp only [push_cast, env, Nat.reduceEqDiff, reduceIte] <;> exact rfl), rfl, rfl⟩
  · have d1 : decide ((16 : Int) < (w.length : Int)) = false := decide_eq_false (by omega)
    rw [decide_eq_false h1]
    repeat (first | apply zs | apply zr | apply zn | ((first | apply zx | apply zy); · simp only [push_cast, env, Nat.reduceEqDiff, reduceIte, Nat.reduceAdd, Nat.reduceMul, Nat.reduceLeDiff, reduceCtorEq, Nat.reduceSub, Int.reduceToNat, d1] <;> first | exact rfl | exact .inl rfl | exact .inr rfl) | apply zq | apply zb | apply zo | apply zk | apply zl)
    refine zc (fn := Try.f34) (by simp only [push_cast, env, Nat.reduceEqDiff, reduceIte] <;> exact rfl) Try.func34 (by kernel_rfl) (by kernel_rfl) ?_
    rw [List.append_nil]
    refine (heavy_fw hr hn (by decide)).mono ?_
    rintro _ h ⟨rfl, rfl⟩
    repeat (first | apply zs | apply zr | apply zn | ((first | apply zx | apply zy); · simp only [push_cast, env, Nat.reduceEqDiff, reduceIte, Nat.reduceAdd, Nat.reduceMul, Nat.reduceLeDiff, reduceCtorEq, Nat.reduceSub, Int.reduceToNat] <;> first | exact rfl | exact .inl rfl | exact .inr rfl) | apply zq | apply zb | apply zo | apply zk | apply zl)
    refine cw_ret ?_
    exact ⟨_, (by simp only [push_cast, env, Nat.reduceEqDiff, reduceIte] <;> exact rfl), rfl, rfl⟩
theorem light_of {g : Gram} {w : List Nat} (h : heavy7 g w = false) : fitE g w = 0 → Light g w := fun hf => by
  obtain ⟨_, hw⟩ := fitE_ok.1 hf
  unfold heavy7 at h
  simp only [Bool.or_eq_false_iff, Bool.and_eq_false_iff, decide_eq_false_iff_not] at h
  have h2 : ¬ heavyP g 160 := h.2
  unfold heavyP at h2
  have hn : g.nts.toNat ≤ 160 := by omega
  have hl : w.length + 1 ≤ 17 := by omega
  unfold Light
  have := Nat.mul_le_mul (Nat.mul_le_mul hn hl) hl
  omega
end Go.Proofs.Ytafncpgiibikcaa

namespace Go.Proofs.Ytafncpgiibikcaa
set_option linter.unusedSimpArgs false
set_option linter.unusedVariables false

def closedB (g : Gram) (w : List Nat) (S : List (List Item)) : Bool :=
  ((List.range g.rules.length).all fun q => match g.rules[q]? with
    | some r => !decide (r.lhs = g.start) || decide ((⟨q, 0, 0⟩ : Item) ∈ gs S 0)
    | none => true) &&
  (List.range (w.length + 1)).all fun k => (gs S k).all fun x => match g.rules[x.rule]? with
    | none => true
    | some r => match r.rhs[x.dot]? with
      | some s => if s.nt < 0 then (match w[k]? with
          | some b => !s.set.has b || decide (adv x ∈ gs S (k + 1))
          | none => true) else (List.range g.rules.length).all fun q => match g.rules[q]? with
          | some r' => !decide (r'.lhs = s.nt) || decide ((⟨q, 0, k⟩ : Item) ∈ gs S k)
          | none => true
      | none => (gs S x.frm).all fun y => match g.rules[y.rule]? with
        | some r' => (match r'.rhs[y.dot]? with
          | some s => !decide (s.nt = r.lhs) || decide (adv y ∈ gs S k)
          | none => true)
        | none => true
theorem closedB_it {g : Gram} {w : List Nat} {S : List (List Item)} (h : closedB g w S = true) {j : Nat} {x : Item} (hx : It g w j x) : x ∈ gs S j := by
  unfold closedB at h
  rw [Bool.and_eq_true] at h
  obtain ⟨h1, h2⟩ := h
  rw [List.all_eq_true] at h1 h2
  have hj : ∀ {j : Nat} {x : Item}, It g w j x → j ∈ List.range (w.length + 1) := fun {j x} h => by
    obtain ⟨_, _, _, _, k⟩ := h.sound
    have := k.2.1
    exact List.mem_range.2 (by omega)
  induction hx with
  | init q r k1 k2 =>
    have := h1 q (List.mem_range.2 (List.getElem?_eq_some_iff.1 k1).1)
    rw [k1] at this
    simpa [k2] using this
  | pred j x r s q r' k1 k2 k3 k4 k5 k6 ih =>
    have := h2 j (hj k1)
    rw [List.all_eq_true] at this
    have := this x ih
    rw [k2] at this
    simp only [k3] at this
    rw [if_neg (by omega), List.all_eq_true] at this
    have := this q (List.mem_range.2 (List.getElem?_eq_some_iff.1 k5).1)
    rw [k5] at this
    simpa [k6] using this
  | scan j x r s b k1 k2 k3 k4 k5 k6 ih =>
    have := h2 j (hj k1)
    rw [List.all_eq_true] at this
    have := this x ih
    rw [k2] at this
    simp only [k3] at this
    rw [if_pos k4, k5] at this
    simp only [k6, Bool.not_true, Bool.false_or, decide_eq_true_eq] at this
    exact this
  | comp j x r y r' s k1 k2 k3 k4 k5 k6 k7 k8 ih1 ih2 =>
    have := h2 j (hj k1)
    rw [List.all_eq_true] at this
    have := this x ih1
    rw [k2] at this
    simp only [List.getElem?_eq_none (show r.rhs.length ≤ x.dot by omega)] at this
    rw [List.all_eq_true] at this
    have := this y ih2
    rw [k5] at this
    simp only [k6, k8, decide_true, Bool.not_true, Bool.false_or, decide_eq_true_eq] at this
    exact this

def symE : KSym := ⟨0, ⟨0, 0, 0, 0⟩⟩
def symP : KSym := ⟨-1, ⟨8796093022208, 0, 0, 0⟩⟩
def symD : KSym := ⟨-1, ⟨287948901175001088, 0, 0, 0⟩⟩
def sumG : Gram := ⟨1, 0, [⟨0, [symE, symP, symE]⟩, ⟨0, [symD]⟩]⟩
theorem sum_digit : NtTx sumG.rules 0 [49] := ⟨⟨0, [symD]⟩, by decide, rfl, .term symD [] 49 [] (by decide) (by decide +kernel) .nil⟩
theorem sum_sum : NtTx sumG.rules 0 [49, 43, 49] := by
  obtain ⟨r, h1, h2, h3⟩ := sum_digit
  exact ⟨⟨0, [symE, symP, symE]⟩, by decide, rfl, .non symE [symP, symE] r [49] [43, 49] (by decide) h1 h2 h3 (.term symP [symE] 43 [49] (by decide) (by decide +kernel) (by
    have := Tx.non symE [] r [49] [] (by decide) h1 h2 h3 .nil
    simpa using this))⟩
def sumY (a i j : Nat) : Bool := a == 0 && ((i == 0 && j == 1) || (i == 0 && j == 3) || (i == 2 && j == 3))
def closedT (R : List Rule) (w : List Nat) (yf : Nat → Nat → Nat → Bool) : Bool := R.all fun r => (List.range (w.length + 1)).all fun i => (List.range (w.length + 1)).all fun j => decide (j < i) || !endB yf w r.rhs i r.rhs.length j || yf r.lhs.toNat i j
theorem closedT_ok {R : List Rule} {w : List Nat} {yf : Nat → Nat → Nat → Bool} (h : closedT R w yf = true) : TClosed R w yf := fun r hr i j hij hj he => by
  unfold closedT at h
  rw [List.all_eq_true] at h
  have h1 := h r hr
  rw [List.all_eq_true] at h1
  have h2 := h1 i (List.mem_range.2 (by omega))
  rw [List.all_eq_true] at h2
  have h3 := h2 j (List.mem_range.2 (by omega))
  rw [he] at h3
  simp only [Bool.not_true, Bool.or_false, Bool.or_eq_true, decide_eq_true_eq] at h3
  rcases h3 with h3 | h3
  · omega
  · exact h3
theorem sum_spans (i j : Nat) (hij : i ≤ j) (hj : j ≤ 3) : NtTx sumG.rules 0 (sub [49, 43, 49] i j) ↔ sumY 0 i j = true := by
  constructor
  · exact closed_full (closedT_ok (by decide +kernel)) 0 i j hij hj
  · intro h
    unfold sumY at h
    simp only [beq_self_eq_true, Bool.true_and, Bool.or_eq_true, Bool.and_eq_true, beq_iff_eq] at h
    rcases h with (⟨rfl, rfl⟩ | ⟨rfl, rfl⟩) | ⟨rfl, rfl⟩
    · exact sum_digit
    · exact sum_sum
    · exact sum_digit
def sumS : List (List Item) := [[⟨0, 0, 0⟩, ⟨1, 0, 0⟩], [⟨1, 1, 0⟩, ⟨0, 1, 0⟩], [⟨0, 2, 0⟩, ⟨0, 0, 2⟩, ⟨1, 0, 2⟩], []]
theorem sum_last {S : List (List Item)} (C : ∀ k x, x ∈ gs S k ↔ It sumG [49, 43, 43] k x) : gs S 3 = [] ∧ gs S 2 ≠ [] := by
  have hc : closedB sumG [49, 43, 43] sumS = true := by decide +kernel
  constructor
  · refine List.eq_nil_iff_forall_not_mem.2 fun x hx => ?_
    have := closedB_it hc ((C 3 x).1 hx)
    simp [gs, sumS] at this
  · intro h
    have i1 : It sumG [49, 43, 43] 0 ⟨1, 0, 0⟩ := .init 1 _ rfl rfl
    have i2 : It sumG [49, 43, 43] 1 ⟨1, 1, 0⟩ := .scan 0 ⟨1, 0, 0⟩ _ symD 49 i1 rfl rfl (by decide) rfl (by decide +kernel)
    have i3 : It sumG [49, 43, 43] 0 ⟨0, 0, 0⟩ := .init 0 _ rfl rfl
    have i4 : It sumG [49, 43, 43] 1 ⟨0, 1, 0⟩ := .comp 1 ⟨1, 1, 0⟩ _ ⟨0, 0, 0⟩ _ symE i2 rfl rfl i3 rfl rfl (by decide) rfl
    have i5 : It sumG [49, 43, 43] 2 ⟨0, 2, 0⟩ := .scan 1 ⟨0, 1, 0⟩ _ symP 43 i4 rfl rfl (by decide) rfl (by decide +kernel)
    have := (C 2 _).2 i5
    rw [h] at this
    cases this
end Go.Proofs.Ytafncpgiibikcaa

namespace Go.Proofs.Ytafncpgiibikcaa
set_option linter.unusedSimpArgs false
set_option linter.unusedVariables false
set_option maxRecDepth 20000
open Go.RowKit Am Ty

theorem rdsyms_fresh {h : Heap} {id : Nat} {l : List KSym} (hl : l.length ≤ 1000000) (hg : h[id]? = some (.arr (l.flatMap KSym.cells) 0 true 43)) : RdSyms h (.slice (some ⟨id, 0, some 0⟩) l.length l.length) l := ⟨by omega, .inr ⟨id, 0, true, _, rfl, hg⟩⟩
set_option maxHeartbeats 4000000 in
theorem sum_fw {h : Heap} : FW env 35 [] h fun r h' => RdGram h' r sumG ∧ h <+: h' := by
  refine fw_enter (fn := Try.f35) Try.func35 rfl (by kernel_rfl) (by simp [Try.ntmps35]) ?_; simp only [push_cast]
  repeat (first | apply zs | apply zr | apply zn | apply zq | apply zb | apply zo | apply zk | apply zl)
  iterate 1 (apply ow_cons; · simp only [push_cast, env, Nat.reduceEqDiff, reduceIte, Nat.reduceAdd, Nat.reduceMul, Nat.reduceLeDiff, reduceCtorEq, Nat.reduceSub, Int.reduceToNat] <;> exact rfl)
  repeat (first | apply zs | apply zr | apply zn | apply zq | apply zb | apply zo | apply zk | apply zl)
  iterate 8 (apply ow_cons; · simp only [push_cast, env, Nat.reduceEqDiff, reduceIte, Nat.reduceAdd, Nat.reduceMul, Nat.reduceLeDiff, reduceCtorEq, Nat.reduceSub, Int.reduceToNat] <;> exact rfl)
  repeat (first | apply zs | apply zr | apply zn | apply zq | apply zb | apply zo | apply zk | apply zl)
  iterate 3 (apply ow_cons; · simp only [push_cast, env, Nat.reduceEqDiff, reduceIte, Nat.reduceAdd, Nat.reduceMul, Nat.reduceLeDiff, reduceCtorEq, Nat.reduceSub, Int.reduceToNat] <;> exact rfl)
  repeat (first | apply zs | apply zr | apply zn | apply zq | apply zb | apply zo | apply zk | apply zl)
  iterate 3 (apply ow_cons; · simp only [push_cast, env, Nat.reduceEqDiff, reduceIte, Nat.reduceAdd, Nat.reduceMul, Nat.reduceLeDiff, reduceCtorEq, Nat.reduceSub, Int.reduceToNat] <;> exact rfl)
  refine ow_bslH (by simp only [push_cast, env, Nat.reduceEqDiff, reduceIte, Nat.reduceAdd, Nat.reduceMul, Nat.reduceLeDiff, reduceCtorEq, Nat.reduceSub, Int.reduceToNat] <;> exact rfl) (by simp only [push_cast, env, Nat.reduceEqDiff, reduceIte, Nat.reduceAdd, Nat.reduceMul, Nat.reduceLeDiff, reduceCtorEq, Nat.reduceSub, Int.reduceToNat] <;> exact rfl) ?_
  simp only [St.putO, St.put]
  iterate 2 (apply ow_cons; · simp only [push_cast, env, Nat.reduceEqDiff, reduceIte, Nat.reduceAdd, Nat.reduceMul, Nat.reduceLeDiff, reduceCtorEq, Nat.reduceSub, Int.reduceToNat] <;> exact rfl)
  refine ow_bslH (by simp only [push_cast, env, Nat.reduceEqDiff, reduceIte, Nat.reduceAdd, Nat.reduceMul, Nat.reduceLeDiff, reduceCtorEq, Nat.reduceSub, Int.reduceToNat] <;> exact rfl) (by simp only [push_cast, env, Nat.reduceEqDiff, reduceIte, Nat.reduceAdd, Nat.reduceMul, Nat.reduceLeDiff, reduceCtorEq, Nat.reduceSub, Int.reduceToNat] <;> exact rfl) ?_
  simp only [St.putO, St.put, List.length_append, List.length_cons, List.length_nil, Nat.zero_add, List.append_assoc, List.cons_append, List.nil_append]
  iterate 1 (apply ow_cons; · simp only [push_cast, env, Nat.reduceEqDiff, reduceIte, Nat.reduceAdd, Nat.reduceMul, Nat.reduceLeDiff, reduceCtorEq, Nat.reduceSub, Int.reduceToNat] <;> exact rfl)
  refine ow_bslH (by simp only [push_cast, env, Nat.reduceEqDiff, reduceIte, Nat.reduceAdd, Nat.reduceMul, Nat.reduceLeDiff, reduceCtorEq, Nat.reduceSub, Int.reduceToNat] <;> exact rfl) (by simp only [push_cast, env, Nat.reduceEqDiff, reduceIte, Nat.reduceAdd, Nat.reduceMul, Nat.reduceLeDiff, reduceCtorEq, Nat.reduceSub, Int.reduceToNat] <;> exact rfl) ?_
  simp only [St.putO, St.put, List.length_append, List.length_cons, List.length_nil, Nat.zero_add, List.append_assoc, List.cons_append, List.nil_append]
  obtain ⟨H, hH⟩ : ∃ H : Heap, H = h ++ [HObj.arr ([symE, symP, symE].flatMap KSym.cells) 0 true 43, HObj.arr ([symD].flatMap KSym.cells) 0 true 43, HObj.arr [i64 0, .slice (some ⟨h.length, 0, some 0⟩) 3 3, i64 0, .slice (some ⟨h.length + 1, 0, some 0⟩) 1 1] 0 true 46] := ⟨_, rfl⟩
  show OW _ _ _ ⟨_, _, h ++ [HObj.arr ([symE, symP, symE].flatMap KSym.cells) 0 true 43, HObj.arr ([symD].flatMap KSym.cells) 0 true 43, HObj.arr [i64 0, .slice (some ⟨h.length, 0, some 0⟩) 3 3, i64 0, .slice (some ⟨h.length + 1, 0, some 0⟩) 1 1] 0 true 46]⟩ _
  rw [← hH]
  have q0 : H[h.length]? = some (HObj.arr ([symE, symP, symE].flatMap KSym.cells) 0 true 43) := by rw [hH]; simp
  have q1 : H[h.length + 1]? = some (HObj.arr ([symD].flatMap KSym.cells) 0 true 43) := by rw [hH, List.getElem?_append_right (by omega)]; simp
  have q2 : H[h.length + 2]? = some (HObj.arr [i64 0, .slice (some ⟨h.length, 0, some 0⟩) 3 3, i64 0, .slice (some ⟨h.length + 1, 0, some 0⟩) 1 1] 0 true 46) := by rw [hH, List.getElem?_append_right (by omega)]; simp
  have hp : h <+: H := by rw [hH]; exact List.prefix_append _ _
  clear hH
  repeat (first | apply zs | apply zr | apply zn | ((first | apply zx | apply zy); · simp only [push_cast, env, Nat.reduceEqDiff, reduceIte, Nat.reduceAdd, Nat.reduceMul, Nat.reduceLeDiff, reduceCtorEq, Nat.reduceSub, Int.reduceToNat] <;> first | exact rfl | exact .inl rfl | exact .inr rfl) | apply zq | apply zb | apply zo | apply zk | apply zl)
  refine cw_ret ?_
  refine ⟨_, (by simp only [push_cast, env, Nat.reduceEqDiff, reduceIte, Nat.reduceAdd, Nat.reduceMul, Nat.reduceLeDiff, reduceCtorEq, Nat.reduceSub, Int.reduceToNat] <;> exact rfl), ⟨_, rfl, [.slice (some ⟨h.length, 0, some 0⟩) 3 3, .slice (some ⟨h.length + 1, 0, some 0⟩) 1 1], rfl, ⟨by decide, .inr ⟨h.length + 2, 0, true, 2, rfl, q2⟩⟩, fun i r u h1 h2 => ?_⟩, hp⟩
  match i, h1, h2 with
  | 0, h1, h2 => cases h1; cases h2; exact rdsyms_fresh (l := [symE, symP, symE]) (by decide) q0
  | 1, h1, h2 => cases h1; cases h2; exact rdsyms_fresh (l := [symD]) (by decide) q1
  | i + 2, h1, h2 => simp [sumG] at h1
theorem sum_wf : WfG sumG := by
  intro r hr s hs
  simp only [sumG, List.mem_cons, List.not_mem_nil, or_false] at hr
  rcases hr with rfl | rfl
  · simp only [List.mem_cons, List.not_mem_nil, or_false] at hs
    rcases hs with rfl | rfl | rfl
    · exact ⟨⟨by decide, by decide⟩, ⟨by decide, by decide⟩, ⟨by decide, by decide⟩, ⟨by decide, by decide⟩⟩
    · exact ⟨⟨by decide, by decide⟩, ⟨by decide, by decide⟩, ⟨by decide, by decide⟩, ⟨by decide, by decide⟩⟩
    · exact ⟨⟨by decide, by decide⟩, ⟨by decide, by decide⟩, ⟨by decide, by decide⟩, ⟨by decide, by decide⟩⟩
  · simp only [List.mem_cons, List.not_mem_nil, or_false] at hs
    subst hs
    exact ⟨⟨by decide, by decide⟩, ⟨by decide, by decide⟩, ⟨by decide, by decide⟩, ⟨by decide, by decide⟩⟩
theorem sum_fit (w : List Nat) (hw : w.length ≤ 512) : fitE sumG w = 0 := fitE_ok.2 ⟨by decide, hw⟩
theorem sum_good : goodD sumG 0 := .mk ⟨0, [symD]⟩ (by decide) (fun s hs _ => by
  simp only [List.mem_cons, List.not_mem_nil, or_false] at hs
  subst hs
  unfold goodT
  decide) (fun s hs h0 => by
  simp only [List.mem_cons, List.not_mem_nil, or_false] at hs
  subst hs
  exact absurd h0 (by decide))
theorem sum_trim {m : List Bool} (hm : Marks sumG.nts (goodD sumG) m) : trG sumG m = sumG := by
  have hl : m.length = 1 := by have := hm.1; simp only [sumG] at this; omega
  match m, hl with
  | [b], _ =>
    have := (hm.2 0 (by decide) (by decide)).2 sum_good
    cases b with
    | true => rfl
    | false => cases this
set_option maxHeartbeats 1000000 in
theorem chartbad_fw {h : Heap} {g : Gram} {v wv : Value} {w : List Nat} (hr : RdGram h v g) (hwR : RdB h wv w) (hf : fitE g w ≠ 0) : FW env 24 [v, wv] h fun r h' => r = .tuple #[nilS, i64 (fitE g w)] ∧ h' = h := by
  obtain ⟨u, rfl, hu⟩ := id hr
  obtain ⟨p, c, rfl⟩ := hu.form
  obtain ⟨pw, cw, rfl⟩ := hwR.form
  have df : decide (fitE g w = 0) = false := decide_eq_false hf
  refine fw_enter (fn := Try.f24) Try.func24 rfl (by kernel_rfl) (by simp [Try.ntmps24]) ?_; simp only [push_cast]
  repeat (first | apply zs | apply zr | apply zn | ((first | apply zx | apply zy); · simp only [push_cast, env, Nat.reduceEqDiff, reduceIte, Nat.reduceAdd, Nat.reduceMul, Nat.reduceLeDiff, reduceCtorEq, Nat.reduceSub, Int.reduceToNat] <;> first | exact rfl | exact .inl rfl | exact .inr rfl) | apply zq | apply zb | apply zo | apply zk | apply zl)
  refine zc (fn := Try.f36) (by simp only [push_cast, env, Nat.reduceEqDiff, reduceIte] <;> exact rfl) Try.func36 (by kernel_rfl) (by kernel_rfl) ?_
  rw [List.append_nil]
  refine (fit_fw hr hwR).mono ?_
  rintro _ h ⟨rfl, rfl⟩
  repeat (first | apply zs | apply zr | apply zn | ((first | apply zx | apply zy); · simp only [push_cast, env, Nat.reduceEqDiff, reduceIte, Nat.reduceAdd, Nat.reduceMul, Nat.reduceLeDiff, reduceCtorEq, Nat.reduceSub, Int.reduceToNat, df] <;> first | exact rfl | exact .inl rfl | exact .inr rfl) | apply zq | apply zb | apply zo | apply zk | apply zl)
  refine cw_condT (by simp only [push_cast, env, Nat.reduceEqDiff, reduceIte, Nat.reduceAdd, Nat.reduceMul, Nat.reduceLeDiff, reduceCtorEq, Nat.reduceSub, Int.reduceToNat, df] <;> exact rfl) ?_
  repeat (first | apply zs | apply zr | apply zn | ((first | apply zx | apply zy); · simp only [push_cast, env, Nat.reduceEqDiff, reduceIte, Nat.reduceAdd, Nat.reduceMul, Nat.reduceLeDiff, reduceCtorEq, Nat.reduceSub, Int.reduceToNat] <;> first | exact rfl | exact .inl rfl | exact .inr rfl) | apply zq | apply zb | apply zo | apply zk | apply zl)
  refine cw_ret ?_
  exact ⟨_, (by simp only [push_cast, env, Nat.reduceEqDiff, reduceIte, Nat.reduceAdd, Nat.reduceMul, Nat.reduceLeDiff, reduceCtorEq, Nat.reduceSub, Int.reduceToNat] <;> exact rfl), rfl, rfl⟩
theorem rdb_fresh {h : Heap} {id ver : Nat} {own : Bool} {w : List Nat} (hl : w.length ≤ 1000000) (hb : ∀ b ∈ w, b < 256) (hg : h[id]? = some (.arr (w.map fun n : Nat => u8 n) ver own 5)) : RdB h (.slice (some ⟨id, 0, some ver⟩) w.length w.length) w :=
  ⟨by omega, hb, .inr ⟨id, 0, ver, own, _, _, rfl, hg, fun i b hi => by rw [Nat.zero_add, List.getElem?_map, hi]; rfl⟩⟩
theorem und_bytes : env.P.underlying 25 = some (.slice 5) := by kernel_rfl
theorem und_u8 : env.P.underlying 5 = some (.int .u8) := by kernel_rfl
theorem spanAll_congr {P Q : Nat → Nat → Bool} {n : Nat} (hP : ∀ i j, i ≤ j → j ≤ n → P i j = Q i j) : ∀ k, k ≤ n + 1 → spanAll P n k = spanAll Q n k
  | 0, _ => rfl
  | k + 1, hk => by
    rw [spanAll_succ, spanAll_succ, spanAll_congr hP k (by omega)]
    congr 1
    unfold spanRow
    congr 1
    apply List.filter_congr
    intro j hj
    rw [List.mem_range] at hj
    exact hP k (k + j) (by omega) (by omega)
set_option maxHeartbeats 4000000 in
theorem alive7_run : FW env 14 [] [] fun r _ => r = .bool true := by
  refine fw_enter (fn := Try.f14) Try.func14 rfl (by kernel_rfl) (by simp [Try.ntmps14]) ?_; simp only [push_cast]
  repeat (first | apply zs | apply zr | apply zn | ((first | apply zx | apply zy); · simp only [push_cast, env, Nat.reduceEqDiff, reduceIte, Nat.reduceAdd, Nat.reduceMul, Nat.reduceLeDiff, reduceCtorEq, Nat.reduceSub, Int.reduceToNat] <;> first | exact rfl | exact .inl rfl | exact .inr rfl) | apply zq | apply zb | apply zo | apply zk | apply zl)
  refine zc (fn := Try.f35) (by simp only [push_cast, env, Nat.reduceEqDiff, reduceIte] <;> exact rfl) Try.func35 (by kernel_rfl) (by kernel_rfl) ?_
  refine sum_fw.mono ?_
  rintro v1 h1 ⟨hr1, hp1⟩
  obtain ⟨u1, rfl, hu1⟩ := id hr1
  obtain ⟨p1, c1, rfl⟩ := hu1.form
  refine ow_bslH (by simp only [push_cast, env, Nat.reduceEqDiff, reduceIte, Nat.reduceAdd, Nat.reduceMul, Nat.reduceLeDiff, reduceCtorEq, Nat.reduceSub, Int.reduceToNat] <;> exact rfl) (by simp only [push_cast, env, Nat.reduceEqDiff, reduceIte, Nat.reduceAdd, Nat.reduceMul, Nat.reduceLeDiff, reduceCtorEq, Nat.reduceSub, Int.reduceToNat] <;> exact rfl) ?_
  simp only [St.putO, St.put]
  refine ow_frz (cells := [u8 49, u8 43, u8 49]) (by simp only [push_cast, env, Nat.reduceEqDiff, reduceIte, Nat.reduceAdd, Nat.reduceMul, Nat.reduceLeDiff, reduceCtorEq, Nat.reduceSub, Int.reduceToNat] <;> exact rfl) rfl und_bytes und_u8 (by simp only [push_cast, env, Nat.reduceEqDiff, reduceIte, Nat.reduceAdd, Nat.reduceMul, Nat.reduceLeDiff, reduceCtorEq, Nat.reduceSub, Int.reduceToNat] <;> exact rfl) get_push (by decide) ?_
  simp only [St.putO, St.put]
  have hs1 : (h1 ++ [HObj.arr [u8 49, u8 43, u8 49] 0 true 5]).set h1.length (HObj.arr [u8 49, u8 43, u8 49] 0 false 5) = h1 ++ [HObj.arr [u8 49, u8 43, u8 49] 0 false 5] := by simp
  rw [hs1]
  have hb1 : RdB (h1 ++ [HObj.arr [u8 49, u8 43, u8 49] 0 false 5]) (.slice (some ⟨h1.length, 0, some 0⟩) 3 3) [49, 43, 49] := rdb_fresh (w := [49, 43, 49]) (by decide) (by decide) get_push
  have hg1 := hr1.mono (h' := h1 ++ [HObj.arr [u8 49, u8 43, u8 49] 0 false 5]) prefix_push
  repeat (first | apply zs | apply zr | apply zn | ((first | apply zx | apply zy); · simp only [push_cast, env, Nat.reduceEqDiff, reduceIte, Nat.reduceAdd, Nat.reduceMul, Nat.reduceLeDiff, reduceCtorEq, Nat.reduceSub, Int.reduceToNat] <;> first | exact rfl | exact .inl rfl | exact .inr rfl) | apply zq | apply zb | apply zo | apply zk | apply zl)
  refine zc (fn := Try.f15) (by simp only [push_cast, env, Nat.reduceEqDiff, reduceIte] <;> exact rfl) Try.func15 (by kernel_rfl) (by kernel_rfl) ?_
  rw [List.append_nil]
  refine (accepts_fw hg1 hb1 sum_wf).mono ?_
  rintro _ ha1 ⟨⟨b1, rfl, _, k1⟩, hpa1⟩
  have hb1t : b1 = true := (k1 (sum_fit _ (by decide))).2 sum_sum
  subst hb1t
  rw [sum_fit [49, 43, 49] (by decide)]
  clear hg1 hb1 hs1 hr1 hu1 k1
  repeat (first | apply zs | apply zr | apply zn | ((first | apply zx | apply zy); · simp only [push_cast, env, Nat.reduceEqDiff, reduceIte, Nat.reduceAdd, Nat.reduceMul, Nat.reduceLeDiff, reduceCtorEq, Nat.reduceSub, Int.reduceToNat] <;> first | exact rfl | exact .inl rfl | exact .inr rfl) | apply zq | apply zb | apply zo | apply zk | apply zl)
  refine zc (fn := Try.f35) (by simp only [push_cast, env, Nat.reduceEqDiff, reduceIte] <;> exact rfl) Try.func35 (by kernel_rfl) (by kernel_rfl) ?_
  refine sum_fw.mono ?_
  rintro v2 h2 ⟨hr2, hp2⟩
  obtain ⟨u2, rfl, hu2⟩ := id hr2
  obtain ⟨p2, c2, rfl⟩ := hu2.form
  refine ow_bslH (by simp only [push_cast, env, Nat.reduceEqDiff, reduceIte, Nat.reduceAdd, Nat.reduceMul, Nat.reduceLeDiff, reduceCtorEq, Nat.reduceSub, Int.reduceToNat] <;> exact rfl) (by simp only [push_cast, env, Nat.reduceEqDiff, reduceIte, Nat.reduceAdd, Nat.reduceMul, Nat.reduceLeDiff, reduceCtorEq, Nat.reduceSub, Int.reduceToNat] <;> exact rfl) ?_
  simp only [St.putO, St.put]
  refine ow_frz (cells := [u8 49, u8 43, u8 43]) (by simp only [push_cast, env, Nat.reduceEqDiff, reduceIte, Nat.reduceAdd, Nat.reduceMul, Nat.reduceLeDiff, reduceCtorEq, Nat.reduceSub, Int.reduceToNat] <;> exact rfl) rfl und_bytes und_u8 (by simp only [push_cast, env, Nat.reduceEqDiff, reduceIte, Nat.reduceAdd, Nat.reduceMul, Nat.reduceLeDiff, reduceCtorEq, Nat.reduceSub, Int.reduceToNat] <;> exact rfl) get_push (by decide) ?_
  simp only [St.putO, St.put]
  have hs2 : (h2 ++ [HObj.arr [u8 49, u8 43, u8 43] 0 true 5]).set h2.length (HObj.arr [u8 49, u8 43, u8 43] 0 false 5) = h2 ++ [HObj.arr [u8 49, u8 43, u8 43] 0 false 5] := by simp
  rw [hs2]
  have hb2 : RdB (h2 ++ [HObj.arr [u8 49, u8 43, u8 43] 0 false 5]) (.slice (some ⟨h2.length, 0, some 0⟩) 3 3) [49, 43, 43] := rdb_fresh (w := [49, 43, 43]) (by decide) (by decide) get_push
  have hg2 := hr2.mono (h' := h2 ++ [HObj.arr [u8 49, u8 43, u8 43] 0 false 5]) prefix_push
  repeat (first | apply zs | apply zr | apply zn | ((first | apply zx | apply zy); · simp only [push_cast, env, Nat.reduceEqDiff, reduceIte, Nat.reduceAdd, Nat.reduceMul, Nat.reduceLeDiff, reduceCtorEq, Nat.reduceSub, Int.reduceToNat] <;> first | exact rfl | exact .inl rfl | exact .inr rfl) | apply zq | apply zb | apply zo | apply zk | apply zl)
  refine zc (fn := Try.f17) (by simp only [push_cast, env, Nat.reduceEqDiff, reduceIte] <;> exact rfl) Try.func17 (by kernel_rfl) (by kernel_rfl) ?_
  rw [List.append_nil]
  refine (last_fw hg2 hb2 sum_wf).mono ?_
  rintro _ ha2 ⟨⟨n2, rfl, _, k2⟩, hpa2⟩
  have hn2 : n2 = 2 := by
    obtain ⟨m, S, hm, C, e⟩ := k2 (sum_fit _ (by decide))
    rw [sum_trim hm] at C
    obtain ⟨q1, q2⟩ := sum_last C.m
    rw [e]
    show lastK S 4 = 2
    unfold lastK
    rw [if_neg (by rw [q1]; decide)]
    unfold lastK
    rw [if_pos (List.length_pos_iff.2 q2)]
    rfl
  subst hn2
  rw [sum_fit [49, 43, 43] (by decide)]
  clear hg2 hb2 hs2 hr2 hu2 k2
  repeat (first | apply zs | apply zr | apply zn | ((first | apply zx | apply zy); · simp only [push_cast, env, Nat.reduceEqDiff, reduceIte, Nat.reduceAdd, Nat.reduceMul, Nat.reduceLeDiff, reduceCtorEq, Nat.reduceSub, Int.reduceToNat] <;> first | exact rfl | exact .inl rfl | exact .inr rfl) | apply zq | apply zb | apply zo | apply zk | apply zl)
  refine zc (fn := Try.f35) (by simp only [push_cast, env, Nat.reduceEqDiff, reduceIte] <;> exact rfl) Try.func35 (by kernel_rfl) (by kernel_rfl) ?_
  refine sum_fw.mono ?_
  rintro v3 h3 ⟨hr3, hp3⟩
  obtain ⟨u3, rfl, hu3⟩ := id hr3
  obtain ⟨p3, c3, rfl⟩ := hu3.form
  refine ow_bslH (by simp only [push_cast, env, Nat.reduceEqDiff, reduceIte, Nat.reduceAdd, Nat.reduceMul, Nat.reduceLeDiff, reduceCtorEq, Nat.reduceSub, Int.reduceToNat] <;> exact rfl) (by simp only [push_cast, env, Nat.reduceEqDiff, reduceIte, Nat.reduceAdd, Nat.reduceMul, Nat.reduceLeDiff, reduceCtorEq, Nat.reduceSub, Int.reduceToNat] <;> exact rfl) ?_
  simp only [St.putO, St.put]
  refine ow_frz (cells := [u8 49, u8 43, u8 49]) (by simp only [push_cast, env, Nat.reduceEqDiff, reduceIte, Nat.reduceAdd, Nat.reduceMul, Nat.reduceLeDiff, reduceCtorEq, Nat.reduceSub, Int.reduceToNat] <;> exact rfl) rfl und_bytes und_u8 (by simp only [push_cast, env, Nat.reduceEqDiff, reduceIte, Nat.reduceAdd, Nat.reduceMul, Nat.reduceLeDiff, reduceCtorEq, Nat.reduceSub, Int.reduceToNat] <;> exact rfl) get_push (by decide) ?_
  simp only [St.putO, St.put]
  have hs3 : (h3 ++ [HObj.arr [u8 49, u8 43, u8 49] 0 true 5]).set h3.length (HObj.arr [u8 49, u8 43, u8 49] 0 false 5) = h3 ++ [HObj.arr [u8 49, u8 43, u8 49] 0 false 5] := by simp
  rw [hs3]
  have hb3 : RdB (h3 ++ [HObj.arr [u8 49, u8 43, u8 49] 0 false 5]) (.slice (some ⟨h3.length, 0, some 0⟩) 3 3) [49, 43, 49] := rdb_fresh (w := [49, 43, 49]) (by decide) (by decide) get_push
  have hg3 := hr3.mono (h' := h3 ++ [HObj.arr [u8 49, u8 43, u8 49] 0 false 5]) prefix_push
  repeat (first | apply zs | apply zr | apply zn | ((first | apply zx | apply zy); · simp only [push_cast, env, Nat.reduceEqDiff, reduceIte, Nat.reduceAdd, Nat.reduceMul, Nat.reduceLeDiff, reduceCtorEq, Nat.reduceSub, Int.reduceToNat] <;> first | exact rfl | exact .inl rfl | exact .inr rfl) | apply zq | apply zb | apply zo | apply zk | apply zl)
  refine zc (fn := Try.f19) (by simp only [push_cast, env, Nat.reduceEqDiff, reduceIte] <;> exact rfl) Try.func19 (by kernel_rfl) (by kernel_rfl) ?_
  rw [List.append_nil]
  refine (spans_fw (nt := 0) hg3 hb3 sum_wf).mono ?_
  rintro _ ha3 ⟨k3, hpa3⟩
  have hf3 := sum_fit [49, 43, 49] (by decide)
  obtain ⟨x3, e3, rfl, ⟨q, _⟩ | ⟨_, q, _⟩ | ⟨_, _, _, rfl, hG3⟩⟩ := k3
  · exact (q hf3).elim
  · exact absurd q (by decide)
  have hl3 : spanAll (ntB sumG.rules 0 [49, 43, 49]) 3 4 = [(0, 1), (0, 3), (2, 3)] := by
    have hP : ∀ i j, i ≤ j → j ≤ 3 → ntB sumG.rules 0 [49, 43, 49] i j = sumY 0 i j := fun i j hij hj => by
      rw [Bool.eq_iff_iff, ntB_iff]
      exact sum_spans i j hij hj
    have e : spanAll (ntB sumG.rules 0 [49, 43, 49]) 3 4 = spanAll (sumY 0) 3 4 := spanAll_congr hP 4 (by omega)
    rw [e]
    decide
  rw [show ([49, 43, 49] : List Nat).length = 3 from rfl, hl3] at hG3
  obtain ⟨i3, v3, _, rfl, hg3'⟩ := hG3.mine (by decide)
  clear hg3 hb3 hs3 hr3 hu3
  repeat (first | apply zs | apply zr | apply zn | ((first | apply zx | apply zy); · simp only [push_cast, env, Nat.reduceEqDiff, reduceIte, Nat.reduceAdd, Nat.reduceMul, Nat.reduceLeDiff, reduceCtorEq, Nat.reduceSub, Int.reduceToNat] <;> first | exact rfl | exact .inl rfl | exact .inr rfl) | apply zq | apply zb | apply zo | apply zk | apply zl)
  refine zc (fn := Try.f24) (by simp only [push_cast, env, Nat.reduceEqDiff, reduceIte] <;> exact rfl) Try.func24 (by kernel_rfl) (by kernel_rfl) ?_
  rw [List.append_nil]
  have hf4 : fitE ⟨0, 0, []⟩ [] = 3 := by unfold fitE; rw [if_pos (by decide)]
  refine (chartbad_fw (g := ⟨0, 0, []⟩) (w := []) ⟨_, rfl, [], rfl, ⟨by decide, .inl ⟨.inl rfl, rfl, rfl⟩⟩, fun i r u h => by simp at h⟩ ⟨by decide, by decide, .inl ⟨.inl rfl, rfl⟩⟩ (by rw [hf4]; decide)).mono ?_
  rintro _ h4 ⟨rfl, rfl⟩
  rw [hf4]
  have hrun : rdH (runCells [(0, 1), (0, 3), (2, 3)]) 2 2 = some [i64 0, i64 3] := rfl
  repeat (first | apply zs | apply zr | apply zn | ((first | apply zx | apply zy); · simp only [push_cast, env, Nat.reduceEqDiff, reduceIte, Nat.reduceAdd, Nat.reduceMul, Nat.reduceLeDiff, reduceCtorEq, Nat.reduceSub, Int.reduceToNat, hg3', hrun, Int.reduceLE, Int.reduceLT, Int.reduceToNat, Nat.reduceMul, Int.reduceEq, List.length_cons, List.length_nil] <;> first | exact rfl | exact .inl rfl | exact .inr rfl) | apply zq | apply zb | apply zo | apply zk | apply zl)
  refine cw_ret ?_
  exact ⟨_, (by simp only [push_cast, env, Nat.reduceEqDiff, reduceIte, Nat.reduceAdd, Nat.reduceMul, Nat.reduceLeDiff, reduceCtorEq, Nat.reduceSub, Int.reduceToNat] <;> exact rfl), rfl⟩
theorem alive7_fw {h : Heap} : FW env 14 [] h fun r h' => r = .bool true ∧ h' = h := by
  have k := alive7_run
  unfold FW at k ⊢
  obtain ⟨r, h', k1, rfl⟩ := k
  exact ⟨_, _, .fresh k1 (.pure1 rfl), rfl, rfl⟩
end Go.Proofs.Ytafncpgiibikcaa

namespace Go.Proofs.Ytafncpgiibikcaa
set_option linter.unusedSimpArgs false
set_option linter.unusedVariables false
set_option maxRecDepth 20000
open Go.ChangeShapes Go.WideShapes Go.ChangeAt Go.RowKit Am Ty

def textTs : List TypeId := [24, 3, 22, 46, 44, 43, 41, 39, 25, 5]
set_option maxRecDepth 100000 in
theorem textTs_ok : textTs.all (kindB Try.prog textTs) = true := by kernel_rfl
theorem rd_u8 {h : Heap} {n : Nat} {vs : List Value} (k : RdT Try.prog h n 5 vs) : ∃ b : Nat, vs = [u8 b] ∧ b < 256 := by
  cases n with
  | zero => exact k.elim
  | succ n =>
    unfold RdT at k
    rw [show Try.prog.underlying 5 = some (.int .u8) by kernel_rfl] at k
    obtain ⟨i, h1, h2⟩ := k
    simp only [Lit.wf, Bool.and_eq_true, decide_eq_true_eq] at h2
    have e1 : IntKind.u8.min = 0 := by decide
    have e2 : IntKind.u8.max = 255 := by decide
    refine ⟨i.toNat, ?_, by omega⟩
    rw [h1, show ((i.toNat : Nat) : Int) = i by omega]
theorem flat_u8 {f : Nat → Value} : ∀ w : List Nat, w.flatMap (fun n => [f n]) = w.map f
  | [] => rfl
  | b :: w => by rw [List.flatMap_cons, flat_u8 w]; rfl
theorem rd_bytes {h : Heap} {n : Nat} {vs : List Value} (k : RdT Try.prog h n 25 vs) : ∃ u w, vs = [u] ∧ RdB h u w := by
  cases n with
  | zero => exact k.elim
  | succ n =>
    unfold RdT at k
    rw [show Try.prog.underlying 25 = some (.slice 5) by kernel_rfl] at k
    rcases k with rfl | rfl | ⟨id, len, c, cells, rfl, hb, hid, he⟩
    · exact ⟨_, [], rfl, by decide, by decide, .inl ⟨.inl rfl, rfl⟩⟩
    · exact ⟨_, [], rfl, by decide, by decide, .inl ⟨.inr rfl, rfl⟩⟩
    · obtain ⟨w, rfl, rfl, hq⟩ := es_map (f := fun n : Nat => [u8 n]) (Q := fun n => n < 256) (fun vs h => rd_u8 h) he
      rw [show Try.prog.bytesOf 5 = 1 by kernel_rfl, Nat.mul_one] at hb
      rw [flat_u8] at hid
      exact ⟨_, w, rfl, Nat.le_trans hb (by decide), hq, .inr ⟨id, 0, 0, false, c, _, rfl, hid, fun i b hi => by rw [Nat.zero_add, List.getElem?_map, hi]; rfl⟩⟩
theorem rda_bytes {h : Heap} {a : Value} (k : RdA Try.prog h 25 a) : ∃ w : List Nat, RdB h a w := by
  obtain ⟨n, vs, k, ⟨h1, _⟩ | ⟨_, rfl⟩⟩ := k
  · have : isAggT Try.prog 25 = false := by kernel_rfl
    rw [this] at h1
    cases h1
  · obtain ⟨u, w, e, hw⟩ := rd_bytes k
    exact ⟨w, by rw [show a = u by simpa using e]; exact hw⟩
end Go.Proofs.Ytafncpgiibikcaa

namespace Go.Proofs.Ytafncpgiibikcaa
set_option linter.unusedSimpArgs false
set_option linter.unusedVariables false
set_option maxRecDepth 20000
open Go.RowKit Am Ty

theorem size_gsize : ∀ l : List Rule, sizeOfG l = (gsize l : Int)
  | [] => rfl
  | r :: l => by
    have := size_gsize l
    unfold sizeOfG gsize at this ⊢
    simp only [List.map_cons, List.sum_cons]
    rw [this]
    omega
theorem ChartOK.le {g : Gram} {w : List Nat} {S : List (List Item)} (h : ChartOK g w S) (k : Nat) : (gs S k).length ≤ gsize g.rules * (k + 1) := by
  rw [← allItems_len (j := k) 0]
  refine nodup_le _ _ (h.nd k) fun x hx => ?_
  obtain ⟨r, h1, h2, h3, h4⟩ := ((h.m k x).1 hx).sound
  exact allItems_mem 0 _ x.rule r h1 (by omega) h2 h4.1
end Go.Proofs.Ytafncpgiibikcaa

namespace Go.Proofs.Ytafncpgiibikcaa
set_option linter.unusedSimpArgs false
set_option linter.unusedVariables false
set_option maxRecDepth 20000
open Go.RowKit Am Ty

def cmpI (x y : Item) : Int := if x.rule ≠ y.rule then (x.rule : Int) - y.rule else if x.dot ≠ y.dot then (x.dot : Int) - y.dot else (x.frm : Int) - y.frm
def ltI (x y : Item) : Bool := decide (cmpI x y < 0)
def ItB (x : Item) : Prop := x.rule ≤ 1000000 ∧ x.dot ≤ 1000000 ∧ x.frm ≤ 1000000
theorem ltI_iff {x y : Item} : ltI x y = true ↔ x.rule < y.rule ∨ x.rule = y.rule ∧ (x.dot < y.dot ∨ x.dot = y.dot ∧ x.frm < y.frm) := by
  unfold ltI cmpI
  rw [decide_eq_true_eq]
  by_cases h1 : x.rule = y.rule
  · rw [if_neg (by omega)]
    by_cases h2 : x.dot = y.dot
    · rw [if_neg (by omega)]
      omega
    · rw [if_pos h2]
      omega
  · rw [if_pos h1]
    omega
theorem ltI_not {x y : Item} : ltI x y = false ↔ ¬ (x.rule < y.rule ∨ x.rule = y.rule ∧ (x.dot < y.dot ∨ x.dot = y.dot ∧ x.frm < y.frm)) := by
  rw [← ltI_iff, Bool.not_eq_true]
theorem ltI_swo : Go.Sort.SWO ltI := by
  refine ⟨fun x => ?_, fun x y z h1 h2 => ?_, fun x y z h1 h2 => ?_⟩
  · rw [ltI_not]; omega
  · rw [ltI_iff] at *; omega
  · rw [ltI_not] at *; omega
theorem ltI_eq {x y : Item} (h1 : ltI x y = false) (h2 : ltI y x = false) : x = y := by
  rw [ltI_not] at h1 h2
  cases x; cases y
  simp only [Item.mk.injEq]
  simp only at h1 h2
  omega
set_option maxHeartbeats 1000000 in
theorem less7_fw {h : Heap} {x y : Item} (hx : ItB x) (hy : ItB y) : FW env 44 [x.val, y.val] h fun r h' => r = i64 (cmpI x y) ∧ h' = h := by
  obtain ⟨x1, x2, x3⟩ := hx
  obtain ⟨y1, y2, y3⟩ := hy
  have e1 : IntKind.i64.wrap ((x.rule : Int) - y.rule) = (x.rule : Int) - y.rule := wrap64_id (by omega) (by omega)
  have e2 : IntKind.i64.wrap ((x.dot : Int) - y.dot) = (x.dot : Int) - y.dot := wrap64_id (by omega) (by omega)
  have e3 : IntKind.i64.wrap ((x.frm : Int) - y.frm) = (x.frm : Int) - y.frm := wrap64_id (by omega) (by omega)
  refine fw_enter (fn := Try.f44) Try.func44 rfl (by kernel_rfl) (by simp [Try.ntmps44]) ?_; simp only [push_cast]
  by_cases h1 : x.rule = y.rule
  · have d1 : decide ((x.rule : Int) = (y.rule : Int)) = true := decide_eq_true (by omega)
    repeat (first | apply zs | apply zr | apply zn | ((first | apply zx | apply zy); · simp only [push_cast, env, Nat.reduceEqDiff, reduceIte, Nat.reduceAdd, Nat.reduceMul, Nat.reduceLeDiff, reduceCtorEq, Nat.reduceSub, Int.reduceToNat, d1] <;> first | exact rfl | exact .inl rfl | exact .inr rfl) | apply zq | apply zb | apply zo | apply zk | apply zl)
    refine cw_condF rfl ?_
    by_cases h2 : x.dot = y.dot
    · have d2 : decide ((x.dot : Int) = (y.dot : Int)) = true := decide_eq_true (by omega)
      repeat (first | apply zs | apply zr | apply zn | ((first | apply zx | apply zy); · simp only [push_cast, env, Nat.reduceEqDiff, reduceIte, Nat.reduceAdd, Nat.reduceMul, Nat.reduceLeDiff, reduceCtorEq, Nat.reduceSub, Int.reduceToNat, d2] <;> first | exact rfl | exact .inl rfl | exact .inr rfl) | apply zq | apply zb | apply zo | apply zk | apply zl)
      refine cw_condF rfl ?_
      repeat (first | apply zs | apply zr | apply zn | ((first | apply zx | apply zy); · simp only [push_cast, env, Nat.reduceEqDiff, reduceIte, Nat.reduceAdd, Nat.reduceMul, Nat.reduceLeDiff, reduceCtorEq, Nat.reduceSub, Int.reduceToNat, e3] <;> first | exact rfl | exact .inl rfl | exact .inr rfl) | apply zq | apply zb | apply zo | apply zk | apply zl)
      refine cw_ret ?_
      exact ⟨_, (by simp only [push_cast, env, Nat.reduceEqDiff, reduceIte] <;> exact rfl), by unfold cmpI; rw [if_neg (by omega), if_neg (by omega)]; rfl, rfl⟩
    · have d2 : decide ((x.dot : Int) = (y.dot : Int)) = false := decide_eq_false (by omega)
      repeat (first | apply zs | apply zr | apply zn | ((first | apply zx | apply zy); · simp only [push_cast, env, Nat.reduceEqDiff, reduceIte, Nat.reduceAdd, Nat.reduceMul, Nat.reduceLeDiff, reduceCtorEq, Nat.reduceSub, Int.reduceToNat, d2] <;> first | exact rfl | exact .inl rfl | exact .inr rfl) | apply zq | apply zb | apply zo | apply zk | apply zl)
      refine cw_condT rfl ?_
      repeat (first | apply zs | apply zr | apply zn | ((first | apply zx | apply zy); · simp only [push_cast, env, Nat.reduceEqDiff, reduceIte, Nat.reduceAdd, Nat.reduceMul, Nat.reduceLeDiff, reduceCtorEq, Nat.reduceSub, Int.reduceToNat, e2] <;> first | exact rfl | exact .inl rfl | exact .inr rfl) | apply zq | apply zb | apply zo | apply zk | apply zl)
      refine cw_ret ?_
      exact ⟨_, (by simp only [push_cast, env, Nat.reduceEqDiff, reduceIte] <;> exact rfl), by unfold cmpI; rw [if_neg (by omega), if_pos h2]; rfl, rfl⟩
  · have d1 : decide ((x.rule : Int) = (y.rule : Int)) = false := decide_eq_false (by omega)
    repeat (first | apply zs | apply zr | apply zn | ((first | apply zx | apply zy); · simp only [push_cast, env, Nat.reduceEqDiff, reduceIte, Nat.reduceAdd, Nat.reduceMul, Nat.reduceLeDiff, reduceCtorEq, Nat.reduceSub, Int.reduceToNat, d1] <;> first | exact rfl | exact .inl rfl | exact .inr rfl) | apply zq | apply zb | apply zo | apply zk | apply zl)
    refine cw_condT rfl ?_
    repeat (first | apply zs | apply zr | apply zn | ((first | apply zx | apply zy); · simp only [push_cast, env, Nat.reduceEqDiff, reduceIte, Nat.reduceAdd, Nat.reduceMul, Nat.reduceLeDiff, reduceCtorEq, Nat.reduceSub, Int.reduceToNat, e1] <;> first | exact rfl | exact .inl rfl | exact .inr rfl) | apply zq | apply zb | apply zo | apply zk | apply zl)
    refine cw_ret ?_
    exact ⟨_, (by simp only [push_cast, env, Nat.reduceEqDiff, reduceIte] <;> exact rfl), by unfold cmpI; rw [if_pos h1]; rfl, rfl⟩
end Go.Proofs.Ytafncpgiibikcaa

namespace Go.Proofs.Ytafncpgiibikcaa
set_option linter.unusedSimpArgs false
set_option linter.unusedVariables false
set_option maxRecDepth 20000
open Go.RowKit Am Ty

instance : Inhabited Item := ⟨⟨0, 0, 0⟩⟩
abbrev lessV : Value := .func (.func 44) #[] #[]
def IC (d : Array Item) : List Value := d.toList.flatMap Item.cells
structure DA (h : Heap) (id ver : Nat) (d : Array Item) : Prop where
  g : h[id]? = some (.arr (IC d) ver true 57)
  n : d.size ≤ 1000000
  b : ∀ i, i < d.size → ItB d[i]!
theorem ic_get {d : Array Item} {i : Nat} (hi : i < d.size) : rdH (IC d) (i * 3) 3 = some [i64 d[i]!.rule, i64 d[i]!.dot, i64 d[i]!.frm] := by
  have h1 : d.toList[i]? = some d[i]! := by simp [hi]
  exact rdH_flatMap (f := Item.cells) (k := 3) (fun _ => rfl) d.toList i d[i]! h1
theorem ic_set {d : Array Item} {i : Nat} {x : Item} (hi : i < d.size) : wrC (IC d) (i * 3) [i64 x.rule, i64 x.dot, i64 x.frm] = some (IC (d.setIfInBounds i x)) := by
  have := wr_flat (f := Item.cells) (k := 3) (fun _ => rfl) (l := d.toList) (i := i) (x := x) (by simpa using hi)
  unfold IC
  rw [Array.toList_setIfInBounds]
  exact this
theorem swp_size {d : Array Item} {i j : Nat} : (Go.Sort.swp d i j).size = d.size := by unfold Go.Sort.swp; simp
theorem swp_b {d : Array Item} {i j : Nat} (hi : i < d.size) (hj : j < d.size) (h : ∀ k, k < d.size → ItB d[k]!) : ∀ k, k < (Go.Sort.swp d i j).size → ItB (Go.Sort.swp d i j)[k]! := fun k hk => by
  rw [swp_size] at hk
  unfold Go.Sort.swp
  rw [getElem!_pos _ _ (by simpa using hk)]
  simp only [Array.getElem_setIfInBounds, Array.size_setIfInBounds, hk]
  split
  · exact h i hi
  · split
    · exact h j hj
    · rw [← getElem!_pos d k hk]; exact h k hk
theorem DA.swp {h : Heap} {id ver : Nat} {d : Array Item} (D : DA h id ver d) {i j : Nat} (hi : i < d.size) (hj : j < d.size) : DA (h.set id (.arr (IC (Go.Sort.swp d i j)) ver true 57)) id ver (Go.Sort.swp d i j) :=
  ⟨get_set_self D.g, by rw [swp_size]; exact D.n, swp_b hi hj D.b⟩
theorem set_same {h : Heap} {i : Nat} {x : HObj} (g : h[i]? = some x) : h.set i x = h := by
  obtain ⟨h1, h2⟩ := List.getElem?_eq_some_iff.1 g
  rw [← h2]
  exact List.set_getElem_self h1
theorem set_set_heap {h : Heap} {i : Nat} {x y : HObj} : (h.set i x).set i y = h.set i y := List.set_set ..
set_option maxHeartbeats 8000000 in
theorem insertion_fw {h : Heap} {id ver c a b : Nat} {d : Array Item} (D : DA h id ver d) (hab : a ≤ b) (hb : b ≤ d.size) :
    FW env 65 [.slice (some ⟨id, 0, some ver⟩) d.size c, i64 a, i64 b, lessV] h fun r h' => r = .tuple #[] ∧ h' = h.set id (.arr (IC (Go.Sort.insertionSort ltI d a b)) ver true 57) ∧ DA h' id ver (Go.Sort.insertionSort ltI d a b) ∧ (Go.Sort.insertionSort ltI d a b).size = d.size := by
  have hn := D.n
  have e1 : IntKind.i64.wrap ((a : Int) + 1) = ((a + 1 : Nat) : Int) := by rw [wrap64_id (by omega) (by omega)]; omega
  refine fw_enter (fn := Try.f65) Try.func65 rfl (by kernel_rfl) (by simp [Try.ntmps65]) ?_; simp only [push_cast]
  repeat (first | apply zs | apply zr | apply zn | ((first | apply zx | apply zy); · simp only [push_cast, env, Nat.reduceEqDiff, reduceIte, Nat.reduceAdd, Nat.reduceMul, Nat.reduceLeDiff, reduceCtorEq, Nat.reduceSub, Int.reduceToNat, e1] <;> first | exact rfl | exact .inl rfl | exact .inr rfl) | apply zq | apply zb | apply zo | apply zk | apply zl)
  refine cw_wh (fun x : Nat × Array Item × Heap => d.size + 2 - x.1) (fun x => [(0, .val (.slice (some ⟨id, 0, some ver⟩) d.size c)), (1, .val (i64 a)), (2, .val (i64 b)), (3, .val lessV), (8, .val (i64 x.1))]) (fun x => x.2.2)
    (fun x => a < x.1 ∧ (x.1 ≤ b ∨ x.1 = a + 1) ∧ x.2.1.size = d.size ∧ x.2.2 = h.set id (.arr (IC x.2.1) ver true 57) ∧ DA x.2.2 id ver x.2.1 ∧ Go.Sort.insOuter ltI a b x.1 x.2.1 = Go.Sort.insertionSort ltI d a b) (a + 1, d, h) (by simp only [push_cast, Nat.reduceEqDiff, reduceIte]) rfl ⟨by simp only; omega, .inr rfl, rfl, (set_same D.g).symm, D, rfl⟩ ?_
  rintro ⟨i, dc, hc⟩ ⟨h1, h2, h3, h4, D1, h5⟩
  simp only at h1 h2 h3 h4 D1 h5 ⊢
  have e2 : IntKind.i64.wrap ((i : Int) + 1) = (i : Int) + 1 := wrap64_id (by omega) (by omega)
  by_cases hlt : i < b
  · have e3 := lt_dec hlt
    have hstep : Go.Sort.insOuter ltI a b i dc = Go.Sort.insOuter ltI a b (i + 1) (Go.Sort.insInner ltI a i dc) := by rw [Go.Sort.insOuter, if_pos hlt]
    repeat (first | apply zs | apply zr | apply zn | ((first | apply zx | apply zy); · simp only [push_cast, env, Nat.reduceEqDiff, reduceIte, Nat.reduceAdd, Nat.reduceMul, Nat.reduceLeDiff, reduceCtorEq, Nat.reduceSub, Int.reduceToNat, e3] <;> first | exact rfl | exact .inl rfl | exact .inr rfl) | apply zq | apply zb | apply zo | apply zk | apply zl)
    refine cw_condT rfl ?_
    repeat (first | apply zs | apply zr | apply zn | ((first | apply zx | apply zy); · simp only [push_cast, env, Nat.reduceEqDiff, reduceIte, Nat.reduceAdd, Nat.reduceMul, Nat.reduceLeDiff, reduceCtorEq, Nat.reduceSub, Int.reduceToNat] <;> first | exact rfl | exact .inl rfl | exact .inr rfl) | apply zq | apply zb | apply zo | apply zk | apply zl)
    refine cw_wh (fun y : Nat × Array Item × Heap => y.1) (fun y => [(0, .val (.slice (some ⟨id, 0, some ver⟩) d.size c)), (1, .val (i64 a)), (2, .val (i64 b)), (3, .val lessV), (8, .val (i64 i)), (9, .val (i64 y.1))]) (fun y => y.2.2)
      (fun y => y.1 ≤ i ∧ a ≤ y.1 ∧ y.2.1.size = d.size ∧ y.2.2 = h.set id (.arr (IC y.2.1) ver true 57) ∧ DA y.2.2 id ver y.2.1 ∧ Go.Sort.insInner ltI a y.1 y.2.1 = Go.Sort.insInner ltI a i dc) (i, dc, hc) (by simp only [push_cast, Nat.reduceEqDiff, reduceIte]) rfl ⟨by simp only; omega, by simp only; omega, h3, h4, D1, rfl⟩ ?_
    rintro ⟨j, dj, hj⟩ ⟨k1, k2, k3, k4, D2, k5⟩
    simp only at k1 k2 k3 k4 D2 k5 ⊢
    have hg := D2.g
    by_cases hja : a < j
    · obtain ⟨q, rfl⟩ : ∃ q, j = q + 1 := ⟨j - 1, by omega⟩
      have d4 : decide ((a : Int) < ((q + 1 : Nat) : Int)) = true := decide_eq_true (by omega)
      have e5 : IntKind.i64.wrap (((q + 1 : Nat) : Int) - 1) = (q : Int) := by rw [wrap64_id (by omega) (by omega)]; omega
      have hq1 : q + 1 < dj.size := by omega
      have hq0 : q < dj.size := by omega
      have g1 := ic_get hq1
      have g0 := ic_get hq0
      have b1 := D2.b _ hq1
      have b0 := D2.b _ hq0
      have r1 := rng (k := q + 1) (n := d.size) (by omega)
      have r0 := rng (k := q) (n := d.size) (by omega)
      have hun : Go.Sort.insInner ltI a (q + 1) dj = if (decide (q + 1 > a) && ltI dj[q + 1]! dj[q]!) = true then Go.Sort.insInner ltI a q (Go.Sort.swp dj (q + 1) q) else dj := rfl
      obtain ⟨J, hJ⟩ : ∃ J, J = q + 1 := ⟨_, rfl⟩
      rw [← hJ] at d4 e5 g1 b1 r1 hun k5 k1 k2 hq1 ⊢
      repeat (first | apply zs | apply zr | apply zn | ((first | apply zx | apply zy); · simp only [push_cast, env, Nat.reduceEqDiff, reduceIte, Nat.reduceAdd, Nat.reduceMul, Nat.reduceLeDiff, reduceCtorEq, Nat.reduceSub, Int.reduceToNat] <;> first | exact rfl | exact .inl rfl | exact .inr rfl) | apply zq | apply zb | apply zo | apply zk | apply zl)
      cases hl : ltI dj[J]! dj[q]! with
      | false =>
        have d7 : decide (cmpI dj[J]! dj[q]! < 0) = false := hl
        have hend : dj = Go.Sort.insInner ltI a i dc := by rw [← k5, hun, hl]; simp
        apply cw_ord0 (L := [[], [], [0, 1], [2], [3], [3], [3], [3, 5, 6], [3, 7], [3], [3], [3, 10], [3, 9, 11], [3, 12], [3, 4, 8, 13], [3, 14], [3, 15]]) (resL := [_, _, _, _, _, _, _, _, _, _, _, _, _, _, _, _, _]) (frF := [(0, .val (.slice (some ⟨id, 0, some ver⟩) d.size c)), (1, .val (i64 a)), (2, .val (i64 b)), (3, .val lessV), (8, .val (i64 i)), (9, .val (i64 J)), (34, .val (.bool false))])
        case hm => exact mixed
        case hc => kernel_rfl
        case hb => rfl
        case hS =>
          repeat (first | exact Steps0.nil _ | (apply Steps0.cons; (· apply zz; simp only [push_cast, env, Nat.reduceEqDiff, reduceIte, Nat.reduceAdd, Nat.reduceMul, Nat.reduceLeDiff, reduceCtorEq, Nat.reduceSub, Int.reduceToNat, d4, hg, g1, g0, e5, r1, r0, Nat.mul_one] <;> exact rfl); (· rfl)))
          apply Steps0.cons
          · exact one_call (fn := Try.f44) (args := [dj[J]!.val, dj[q]!.val]) (cap := []) rfl (by simp only [push_cast, env, Nat.reduceEqDiff, reduceIte, d4] <;> exact rfl) rfl (by simp only [push_cast, env, Nat.reduceEqDiff, reduceIte] <;> exact rfl) (by simp only [push_cast, env, Nat.reduceEqDiff, reduceIte] <;> exact rfl) Try.func44 (by kernel_rfl) (by kernel_rfl) (less7_fw b1 b0)
          · rfl
          repeat (first | exact Steps0.nil _ | (apply Steps0.cons; (· apply zz; simp only [push_cast, env, Nat.reduceEqDiff, reduceIte, Nat.reduceAdd, Nat.reduceMul, Nat.reduceLeDiff, reduceCtorEq, Nat.reduceSub, Int.reduceToNat, d7, d4] <;> exact rfl); (· rfl)))
        case ht => rfl
        case hF => repeat (first | exact trivial | (refine ⟨.inl ⟨by decide, rfl⟩, ?_⟩) | (refine ⟨.inr ⟨rfl, by simp⟩, ?_⟩))
        show CW _ _ _ _
        repeat (first | apply zs | apply zr | apply zn | ((first | apply zx | apply zy); · simp only [push_cast, env, Nat.reduceEqDiff, reduceIte, Nat.reduceAdd, Nat.reduceMul, Nat.reduceLeDiff, reduceCtorEq, Nat.reduceSub, Int.reduceToNat] <;> first | exact rfl | exact .inl rfl | exact .inr rfl) | apply zq | apply zb | apply zo | apply zk | apply zl)
        refine cw_condF rfl ?_
        refine cw_exit ?_
        show CW _ _ _ _
        repeat (first | apply zs | apply zr | apply zn | ((first | apply zx | apply zy); · simp only [push_cast, env, Nat.reduceEqDiff, reduceIte, Nat.reduceAdd, Nat.reduceMul, Nat.reduceLeDiff, reduceCtorEq, Nat.reduceSub, Int.reduceToNat, e2] <;> first | exact rfl | exact .inl rfl | exact .inr rfl) | apply zq | apply zb | apply zo | apply zk | apply zl)
        exact ⟨(i + 1, dj, hj), by simp only; omega, (by simp only [push_cast, Nat.reduceEqDiff, reduceIte]), rfl, by simp only; omega, by simp only; omega, k3, k4, D2, by simp only; rw [hend, ← hstep]; exact h5⟩
      | true =>
        have d7 : decide (cmpI dj[J]! dj[q]! < 0) = true := hl
        have hnx : Go.Sort.insInner ltI a q (Go.Sort.swp dj J q) = Go.Sort.insInner ltI a i dc := by rw [← k5, hun, hl]; simp [hja]; omega
        apply cw_ord0 (L := [[], [], [0, 1], [2], [3], [3], [3], [3, 5, 6], [3, 7], [3], [3], [3, 10], [3, 9, 11], [3, 12], [3, 4, 8, 13], [3, 14], [3, 15]]) (resL := [_, _, _, _, _, _, _, _, _, _, _, _, _, _, _, _, _]) (frF := [(0, .val (.slice (some ⟨id, 0, some ver⟩) d.size c)), (1, .val (i64 a)), (2, .val (i64 b)), (3, .val lessV), (8, .val (i64 i)), (9, .val (i64 J)), (34, .val (.bool true))])
        case hm => exact mixed
        case hc => kernel_rfl
        case hb => rfl
        case hS =>
          repeat (first | exact Steps0.nil _ | (apply Steps0.cons; (· apply zz; simp only [push_cast, env, Nat.reduceEqDiff, reduceIte, Nat.reduceAdd, Nat.reduceMul, Nat.reduceLeDiff, reduceCtorEq, Nat.reduceSub, Int.reduceToNat, d4, hg, g1, g0, e5, r1, r0, Nat.mul_one] <;> exact rfl); (· rfl)))
          apply Steps0.cons
          · exact one_call (fn := Try.f44) (args := [dj[J]!.val, dj[q]!.val]) (cap := []) rfl (by simp only [push_cast, env, Nat.reduceEqDiff, reduceIte, d4] <;> exact rfl) rfl (by simp only [push_cast, env, Nat.reduceEqDiff, reduceIte] <;> exact rfl) (by simp only [push_cast, env, Nat.reduceEqDiff, reduceIte] <;> exact rfl) Try.func44 (by kernel_rfl) (by kernel_rfl) (less7_fw b1 b0)
          · rfl
          repeat (first | exact Steps0.nil _ | (apply Steps0.cons; (· apply zz; simp only [push_cast, env, Nat.reduceEqDiff, reduceIte, Nat.reduceAdd, Nat.reduceMul, Nat.reduceLeDiff, reduceCtorEq, Nat.reduceSub, Int.reduceToNat, d7, d4] <;> exact rfl); (· rfl)))
        case ht => rfl
        case hF => repeat (first | exact trivial | (refine ⟨.inl ⟨by decide, rfl⟩, ?_⟩) | (refine ⟨.inr ⟨rfl, by simp⟩, ?_⟩))
        show CW _ _ _ _
        repeat (first | apply zs | apply zr | apply zn | ((first | apply zx | apply zy); · simp only [push_cast, env, Nat.reduceEqDiff, reduceIte, Nat.reduceAdd, Nat.reduceMul, Nat.reduceLeDiff, reduceCtorEq, Nat.reduceSub, Int.reduceToNat] <;> first | exact rfl | exact .inl rfl | exact .inr rfl) | apply zq | apply zb | apply zo | apply zk | apply zl)
        refine cw_condT rfl ?_
        repeat (first | apply zs | apply zr | apply zn | ((first | apply zx | apply zy); · simp only [push_cast, env, Nat.reduceEqDiff, reduceIte, Nat.reduceAdd, Nat.reduceMul, Nat.reduceLeDiff, reduceCtorEq, Nat.reduceSub, Int.reduceToNat] <;> first | exact rfl | exact .inl rfl | exact .inr rfl) | apply zq | apply zb | apply zo | apply zk | apply zl)
        refine cw_weakL [(0, .val (.slice (some ⟨id, 0, some ver⟩) d.size c)), (1, .val (i64 a)), (2, .val (i64 b)), (3, .val lessV), (8, .val (i64 i)), (9, .val (i64 J))] (by simp only [push_cast, Nat.reduceEqDiff, reduceIte]) ?_
        show CW _ _ ⟨_, [], hj⟩ _
        apply cw_ordA (L := [[], [], [], [], [3], [], [], [6], [5, 6, 7], [5, 6, 7, 8], [], [], [10, 11], [10, 11, 12], [0, 1], [0, 1, 5, 6, 7, 8, 9, 10, 11, 12, 13, 14], [2, 3, 4], [0, 1, 2, 3, 4, 5, 6, 7, 8, 9, 10, 11, 12, 13, 14, 15, 16]]) (act := [15, 17]) (hs := [hj.set id (.arr (IC (dj.setIfInBounds J dj[q]!)) ver true 57), hj.set id (.arr (IC (Go.Sort.swp dj J q)) ver true 57)]) (resL := [_, _, _, _, _, _, _, _, _, _, _, _, _, _, _, _, _, _]) (frF := [(0, .val (.slice (some ⟨id, 0, some ver⟩) d.size c)), (1, .val (i64 a)), (2, .val (i64 b)), (3, .val lessV), (8, .val (i64 i)), (9, .val (i64 J))])
        case hm => exact mixed
        case hc => kernel_rfl
        case ha => rfl
        case hb => rfl
        case hS =>
          repeat (first | exact StepsA.nil _ | (apply StepsA.cons; (· rfl); (· (first | refine ⟨?_, trivial⟩ | refine ⟨?_, ?_, trivial⟩ | refine ⟨?_, ?_, ?_, trivial⟩ | refine ⟨?_, ?_, ?_, ?_, trivial⟩) <;> (apply zz; simp only [push_cast, env, Nat.reduceEqDiff, reduceIte, Nat.reduceAdd, Nat.reduceMul, Nat.reduceLeDiff, reduceCtorEq, Nat.reduceSub, Int.reduceToNat, hg, g1, g0, e5, r1, r0, Nat.mul_one] <;> exact rfl)); (· rfl)))
          apply StepsA.cons
          · rfl
          · refine ⟨?_, trivial⟩
            exact one_sto (r := .sl .unk) rfl (by simp only [push_cast, env, Nat.reduceEqDiff, reduceIte] <;> exact rfl) rfl (by simp only [push_cast, env, Nat.reduceEqDiff, reduceIte] <;> exact rfl) (by simp only [push_cast, env, Nat.reduceEqDiff, reduceIte] <;> exact rfl) hg (by simp only [push_cast, env, Nat.reduceEqDiff, reduceIte] <;> exact rfl) rfl (ic_set hq1) rfl rfl
          · rfl
          repeat (first | exact StepsA.nil _ | (apply StepsA.cons; (· rfl); (· (first | refine ⟨?_, trivial⟩ | refine ⟨?_, ?_, trivial⟩ | refine ⟨?_, ?_, ?_, trivial⟩ | refine ⟨?_, ?_, ?_, ?_, trivial⟩) <;> (apply zz; simp only [push_cast, env, Nat.reduceEqDiff, reduceIte, Nat.reduceAdd, Nat.reduceMul, Nat.reduceLeDiff, reduceCtorEq, Nat.reduceSub, Int.reduceToNat, e5, r1, r0, Nat.mul_one] <;> exact rfl)); (· rfl)))
          apply StepsA.cons
          · rfl
          · refine ⟨?_, trivial⟩
            exact one_sto (r := .sl .unk) rfl (by simp only [push_cast, env, Nat.reduceEqDiff, reduceIte] <;> exact rfl) rfl (by simp only [push_cast, env, Nat.reduceEqDiff, reduceIte] <;> exact rfl) (by simp only [push_cast, env, Nat.reduceEqDiff, reduceIte] <;> exact rfl) (get_set_self hg) (by simp only [push_cast, env, Nat.reduceEqDiff, reduceIte] <;> exact rfl) rfl (ic_set (d := dj.setIfInBounds J dj[q]!) (i := q) (x := dj[J]!) (by simpa using hq0)) rfl set_set_heap.symm
          · rfl
          exact StepsA.nil _
        case ht => rfl
        case hF => repeat (first | exact trivial | (refine ⟨.inl ⟨by decide, rfl⟩, ?_⟩) | (refine ⟨.inr ⟨rfl, by simp⟩, ?_⟩))
        show CW _ _ _ _
        repeat (first | apply zs | apply zr | apply zn | ((first | apply zx | apply zy); · simp only [push_cast, env, Nat.reduceEqDiff, reduceIte, Nat.reduceAdd, Nat.reduceMul, Nat.reduceLeDiff, reduceCtorEq, Nat.reduceSub, Int.reduceToNat, e5] <;> first | exact rfl | exact .inl rfl | exact .inr rfl) | apply zq | apply zb | apply zo | apply zk | apply zl)
        exact ⟨(q, Go.Sort.swp dj J q, _), by simp only; omega, (by simp only [push_cast, Nat.reduceEqDiff, reduceIte]), rfl, by simp only; omega, by simp only; omega, by simp only; rw [swp_size]; exact k3, by simp only; rw [k4, set_set_heap], D2.swp hq1 hq0, hnx⟩
    · have d4 : decide ((a : Int) < (j : Int)) = false := decide_eq_false (by omega)
      obtain rfl : j = a := by omega
      have hend : dj = Go.Sort.insInner ltI j i dc := by
        rw [← k5]
        cases j with
        | zero => rfl
        | succ q => simp [Go.Sort.insInner]
      repeat (first | apply zs | apply zr | apply zn | ((first | apply zx | apply zy); · simp only [push_cast, env, Nat.reduceEqDiff, reduceIte, Nat.reduceAdd, Nat.reduceMul, Nat.reduceLeDiff, reduceCtorEq, Nat.reduceSub, Int.reduceToNat] <;> first | exact rfl | exact .inl rfl | exact .inr rfl) | apply zq | apply zb | apply zo | apply zk | apply zl)
      apply cw_ord0 (L := [[], [], [0, 1], [2], [3], [3], [3], [3, 5, 6], [3, 7], [3], [3], [3, 10], [3, 9, 11], [3, 12], [3, 4, 8, 13], [3, 14], [3, 15]]) (resL := [_, _, _, _, _, _, _, _, _, _, _, _, _, _, _, _, _]) (frF := [(0, .val (.slice (some ⟨id, 0, some ver⟩) d.size c)), (1, .val (i64 j)), (2, .val (i64 b)), (3, .val lessV), (8, .val (i64 i)), (9, .val (i64 j)), (34, .val (.bool false))])
      case hm => exact mixed
      case hc => kernel_rfl
      case hb => rfl
      case hS => repeat (first | exact Steps0.nil _ | (apply Steps0.cons; (· apply zz; simp only [push_cast, env, Nat.reduceEqDiff, reduceIte, Nat.reduceAdd, Nat.reduceMul, Nat.reduceLeDiff, reduceCtorEq, Nat.reduceSub, Int.reduceToNat, d4] <;> exact rfl); (· rfl)))
      case ht => rfl
      case hF => repeat (first | exact trivial | (refine ⟨.inl ⟨by decide, rfl⟩, ?_⟩) | (refine ⟨.inr ⟨rfl, by simp⟩, ?_⟩))
      show CW _ _ _ _
      repeat (first | apply zs | apply zr | apply zn | ((first | apply zx | apply zy); · simp only [push_cast, env, Nat.reduceEqDiff, reduceIte, Nat.reduceAdd, Nat.reduceMul, Nat.reduceLeDiff, reduceCtorEq, Nat.reduceSub, Int.reduceToNat] <;> first | exact rfl | exact .inl rfl | exact .inr rfl) | apply zq | apply zb | apply zo | apply zk | apply zl)
      refine cw_condF rfl ?_
      refine cw_exit ?_
      show CW _ _ _ _
      repeat (first | apply zs | apply zr | apply zn | ((first | apply zx | apply zy); · simp only [push_cast, env, Nat.reduceEqDiff, reduceIte, Nat.reduceAdd, Nat.reduceMul, Nat.reduceLeDiff, reduceCtorEq, Nat.reduceSub, Int.reduceToNat, e2] <;> first | exact rfl | exact .inl rfl | exact .inr rfl) | apply zq | apply zb | apply zo | apply zk | apply zl)
      exact ⟨(i + 1, dj, hj), by simp only; omega, (by simp only [push_cast, Nat.reduceEqDiff, reduceIte]), rfl, by simp only; omega, by simp only; omega, k3, k4, D2, by simp only; rw [hend, ← hstep]; exact h5⟩
  · have e3 : decide ((i : Int) < (b : Int)) = false := decide_eq_false (by omega)
    have hend : Go.Sort.insertionSort ltI d a b = dc := by rw [← h5, Go.Sort.insOuter, if_neg hlt]
    repeat (first | apply zs | apply zr | apply zn | ((first | apply zx | apply zy); · simp only [push_cast, env, Nat.reduceEqDiff, reduceIte, Nat.reduceAdd, Nat.reduceMul, Nat.reduceLeDiff, reduceCtorEq, Nat.reduceSub, Int.reduceToNat, e3] <;> first | exact rfl | exact .inl rfl | exact .inr rfl) | apply zq | apply zb | apply zo | apply zk | apply zl)
    refine cw_condF rfl ?_
    refine cw_exit ?_
    refine ⟨_, (by simp only [push_cast, env, Nat.reduceEqDiff, reduceIte] <;> exact rfl), rfl, ?_⟩
    simp only [hend]
    exact ⟨h4, D1, h3⟩
end Go.Proofs.Ytafncpgiibikcaa

namespace Go.Proofs.Ytafncpgiibikcaa
set_option linter.unusedSimpArgs false
set_option linter.unusedVariables false
set_option maxRecDepth 20000
open Go.RowKit Am Ty

set_option maxHeartbeats 8000000 in
theorem reverse_fw {h : Heap} {id ver c a b : Nat} {d : Array Item} {fv : Value} (D : DA h id ver d) (hab : a < b) (hb : b ≤ d.size) :
    FW env 69 [.slice (some ⟨id, 0, some ver⟩) d.size c, i64 a, i64 b, fv] h fun r h' => r = .tuple #[] ∧ h' = h.set id (.arr (IC (Go.Sort.reverseRange d a b)) ver true 57) ∧ DA h' id ver (Go.Sort.reverseRange d a b) ∧ (Go.Sort.reverseRange d a b).size = d.size := by
  have hn := D.n
  have e1 : IntKind.i64.wrap ((b : Int) - 1) = ((b - 1 : Nat) : Int) := by rw [wrap64_id (by omega) (by omega)]; omega
  obtain ⟨B, hB⟩ : ∃ B, B = b - 1 := ⟨_, rfl⟩
  rw [← hB] at e1
  refine fw_enter (fn := Try.f69) Try.func69 rfl (by kernel_rfl) (by simp [Try.ntmps69]) ?_; simp only [push_cast]
  repeat (first | apply zs | apply zr | apply zn | ((first | apply zx | apply zy); · simp only [push_cast, env, Nat.reduceEqDiff, reduceIte, Nat.reduceAdd, Nat.reduceMul, Nat.reduceLeDiff, reduceCtorEq, Nat.reduceSub, Int.reduceToNat, e1] <;> first | exact rfl | exact .inl rfl | exact .inr rfl) | apply zq | apply zb | apply zo | apply zk | apply zl)
  refine cw_wh (fun x : Nat × Nat × Array Item × Heap => x.2.1 + 1 - x.1) (fun x => [(0, .val (.slice (some ⟨id, 0, some ver⟩) d.size c)), (8, .val (i64 x.1)), (9, .val (i64 x.2.1))]) (fun x => x.2.2.2)
    (fun x => x.2.1 < d.size ∧ x.2.2.1.size = d.size ∧ x.2.2.2 = h.set id (.arr (IC x.2.2.1) ver true 57) ∧ DA x.2.2.2 id ver x.2.2.1 ∧ Go.Sort.reverseLoop x.1 x.2.1 x.2.2.1 = Go.Sort.reverseRange d a b) (a, B, d, h) (by simp only [push_cast, Nat.reduceEqDiff, reduceIte]) rfl ⟨by simp only; omega, rfl, (set_same D.g).symm, D, by simp only; rw [hB]; rfl⟩ ?_
  rintro ⟨i, j, dc, hc⟩ ⟨h1, h3, h4, D1, h5⟩
  simp only at h1 h3 h4 D1 h5 ⊢
  by_cases hlt : i < j
  · have e3 := lt_dec hlt
    have hg := D1.g
    have hi1 : i < dc.size := by omega
    have hj1 : j < dc.size := by omega
    have g1 := ic_get hi1
    have g0 := ic_get hj1
    have r1 := rng (k := i) (n := d.size) (by omega)
    have r0 := rng (k := j) (n := d.size) (by omega)
    have e4 : IntKind.i64.wrap ((i : Int) + 1) = (i : Int) + 1 := wrap64_id (by omega) (by omega)
    have e5 : IntKind.i64.wrap ((j : Int) - 1) = ((j - 1 : Nat) : Int) := by rw [wrap64_id (by omega) (by omega)]; omega
    have hst : Go.Sort.reverseLoop i j dc = Go.Sort.reverseLoop (i + 1) (j - 1) (Go.Sort.swp dc i j) := by rw [Go.Sort.reverseLoop, if_pos hlt]
    obtain ⟨q, hq⟩ : ∃ q, q = j - 1 := ⟨_, rfl⟩
    rw [← hq] at e5 hst
    repeat (first | apply zs | apply zr | apply zn | ((first | apply zx | apply zy); · simp only [push_cast, env, Nat.reduceEqDiff, reduceIte, Nat.reduceAdd, Nat.reduceMul, Nat.reduceLeDiff, reduceCtorEq, Nat.reduceSub, Int.reduceToNat, e3] <;> first | exact rfl | exact .inl rfl | exact .inr rfl) | apply zq | apply zb | apply zo | apply zk | apply zl)
    refine cw_condT rfl ?_
    repeat (first | apply zs | apply zr | apply zn | ((first | apply zx | apply zy); · simp only [push_cast, env, Nat.reduceEqDiff, reduceIte, Nat.reduceAdd, Nat.reduceMul, Nat.reduceLeDiff, reduceCtorEq, Nat.reduceSub, Int.reduceToNat] <;> first | exact rfl | exact .inl rfl | exact .inr rfl) | apply zq | apply zb | apply zo | apply zk | apply zl)
    refine cw_weakL [(0, .val (.slice (some ⟨id, 0, some ver⟩) d.size c)), (8, .val (i64 i)), (9, .val (i64 j))] (by simp only [push_cast, Nat.reduceEqDiff, reduceIte]) ?_
    show CW _ _ ⟨_, [], hc⟩ _
    apply cw_ordA (L := [[], [], [], [], [], [], [4, 5], [4, 5, 6], [], [], [8, 9], [8, 9, 10], [0, 1], [0, 1, 4, 5, 6, 7, 8, 9, 10, 11, 12], [2, 3], [0, 1, 2, 3, 4, 5, 6, 7, 8, 9, 10, 11, 12, 13, 14]]) (act := [13, 15]) (hs := [hc.set id (.arr (IC (dc.setIfInBounds i dc[j]!)) ver true 57), hc.set id (.arr (IC (Go.Sort.swp dc i j)) ver true 57)]) (resL := [_, _, _, _, _, _, _, _, _, _, _, _, _, _, _, _]) (frF := [(0, .val (.slice (some ⟨id, 0, some ver⟩) d.size c)), (8, .val (i64 i)), (9, .val (i64 j))])
    case hm => exact mixed
    case hc => kernel_rfl
    case ha => rfl
    case hb => rfl
    case hS =>
      repeat (first | exact StepsA.nil _ | (apply StepsA.cons; (· rfl); (· (first | refine ⟨?_, trivial⟩ | refine ⟨?_, ?_, trivial⟩ | refine ⟨?_, ?_, ?_, trivial⟩ | refine ⟨?_, ?_, ?_, ?_, trivial⟩) <;> (apply zz; simp only [push_cast, env, Nat.reduceEqDiff, reduceIte, Nat.reduceAdd, Nat.reduceMul, Nat.reduceLeDiff, reduceCtorEq, Nat.reduceSub, Int.reduceToNat, hg, g1, g0, r1, r0, Nat.mul_one] <;> exact rfl)); (· rfl)))
      apply StepsA.cons
      · rfl
      · refine ⟨?_, trivial⟩
        exact one_sto (r := .sl .unk) rfl (by simp only [push_cast, env, Nat.reduceEqDiff, reduceIte] <;> exact rfl) rfl (by simp only [push_cast, env, Nat.reduceEqDiff, reduceIte] <;> exact rfl) (by simp only [push_cast, env, Nat.reduceEqDiff, reduceIte] <;> exact rfl) hg (by simp only [push_cast, env, Nat.reduceEqDiff, reduceIte] <;> exact rfl) rfl (ic_set (d := dc) (i := i) (x := dc[j]!) hi1) rfl rfl
      · rfl
      repeat (first | exact StepsA.nil _ | (apply StepsA.cons; (· rfl); (· (first | refine ⟨?_, trivial⟩ | refine ⟨?_, ?_, trivial⟩ | refine ⟨?_, ?_, ?_, trivial⟩ | refine ⟨?_, ?_, ?_, ?_, trivial⟩) <;> (apply zz; simp only [push_cast, env, Nat.reduceEqDiff, reduceIte, Nat.reduceAdd, Nat.reduceMul, Nat.reduceLeDiff, reduceCtorEq, Nat.reduceSub, Int.reduceToNat, hg, g1, g0, r1, r0, Nat.mul_one] <;> exact rfl)); (· rfl)))
      apply StepsA.cons
      · rfl
      · refine ⟨?_, trivial⟩
        exact one_sto (r := .sl .unk) rfl (by simp only [push_cast, env, Nat.reduceEqDiff, reduceIte] <;> exact rfl) rfl (by simp only [push_cast, env, Nat.reduceEqDiff, reduceIte] <;> exact rfl) (by simp only [push_cast, env, Nat.reduceEqDiff, reduceIte] <;> exact rfl) (get_set_self hg) (by simp only [push_cast, env, Nat.reduceEqDiff, reduceIte] <;> exact rfl) rfl (ic_set (d := dc.setIfInBounds i dc[j]!) (i := j) (x := dc[i]!) (by simpa using hj1)) rfl set_set_heap.symm
      · rfl
      exact StepsA.nil _
    case ht => rfl
    case hF => repeat (first | exact trivial | (refine ⟨.inl ⟨by decide, rfl⟩, ?_⟩) | (refine ⟨.inr ⟨rfl, by simp⟩, ?_⟩))
    show CW _ _ _ _
    repeat (first | apply zs | apply zr | apply zn | ((first | apply zx | apply zy); · simp only [push_cast, env, Nat.reduceEqDiff, reduceIte, Nat.reduceAdd, Nat.reduceMul, Nat.reduceLeDiff, reduceCtorEq, Nat.reduceSub, Int.reduceToNat, e4, e5] <;> first | exact rfl | exact .inl rfl | exact .inr rfl) | apply zq | apply zb | apply zo | apply zk | apply zl)
    exact ⟨(i + 1, q, Go.Sort.swp dc i j, _), by simp only; omega, (by simp only [push_cast, Nat.reduceEqDiff, reduceIte]), rfl, by simp only; omega, by simp only; rw [swp_size]; exact h3, by simp only; rw [h4, set_set_heap], D1.swp hi1 hj1, by simp only; rw [← hst]; exact h5⟩
  · have e3 : decide ((i : Int) < (j : Int)) = false := decide_eq_false (by omega)
    have hend : Go.Sort.reverseRange d a b = dc := by rw [← h5, Go.Sort.reverseLoop, if_neg hlt]
    repeat (first | apply zs | apply zr | apply zn | ((first | apply zx | apply zy); · simp only [push_cast, env, Nat.reduceEqDiff, reduceIte, Nat.reduceAdd, Nat.reduceMul, Nat.reduceLeDiff, reduceCtorEq, Nat.reduceSub, Int.reduceToNat, e3] <;> first | exact rfl | exact .inl rfl | exact .inr rfl) | apply zq | apply zb | apply zo | apply zk | apply zl)
    refine cw_condF rfl ?_
    refine cw_exit ?_
    refine ⟨_, (by simp only [push_cast, env, Nat.reduceEqDiff, reduceIte] <;> exact rfl), rfl, ?_⟩
    simp only [hend]
    exact ⟨h4, D1, h3⟩
end Go.Proofs.Ytafncpgiibikcaa

namespace Go.Proofs.Ytafncpgiibikcaa
set_option linter.unusedSimpArgs false
set_option linter.unusedVariables false
set_option maxRecDepth 20000
open Go.RowKit Am Ty

set_option maxHeartbeats 8000000 in
theorem sift_fw {h : Heap} {id ver c root0 hi first : Nat} {d : Array Item} (D : DA h id ver d) (hb : first + hi ≤ d.size) (hroot : root0 ≤ hi) :
    FW env 78 [.slice (some ⟨id, 0, some ver⟩) d.size c, i64 root0, i64 hi, i64 first, lessV] h fun r h' => r = .tuple #[] ∧ h' = h.set id (.arr (IC (Go.Sort.siftDown ltI hi first root0 d)) ver true 57) ∧ DA h' id ver (Go.Sort.siftDown ltI hi first root0 d) ∧ (Go.Sort.siftDown ltI hi first root0 d).size = d.size := by
  have hn := D.n
  refine fw_enter (fn := Try.f78) Try.func78 rfl (by kernel_rfl) (by simp [Try.ntmps78]) ?_; simp only [push_cast]
  repeat (first | apply zs | apply zr | apply zn | ((first | apply zx | apply zy); · simp only [push_cast, env, Nat.reduceEqDiff, reduceIte, Nat.reduceAdd, Nat.reduceMul, Nat.reduceLeDiff, reduceCtorEq, Nat.reduceSub, Int.reduceToNat] <;> first | exact rfl | exact .inl rfl | exact .inr rfl) | apply zq | apply zb | apply zo | apply zk | apply zl)
  refine cw_wh (fun x : Nat × Array Item × Heap => 2 * hi + 2 - x.1) (fun x => [(0, .val (.slice (some ⟨id, 0, some ver⟩) d.size c)), (2, .val (i64 hi)), (3, .val (i64 first)), (4, .val lessV), (10, .val (i64 x.1))]) (fun x => x.2.2)
    (fun x => x.1 ≤ hi ∧ x.2.1.size = d.size ∧ x.2.2 = h.set id (.arr (IC x.2.1) ver true 57) ∧ DA x.2.2 id ver x.2.1 ∧ Go.Sort.siftDown ltI hi first x.1 x.2.1 = Go.Sort.siftDown ltI hi first root0 d) (root0, d, h) (by simp only [push_cast, Nat.reduceEqDiff, reduceIte]) rfl ⟨hroot, rfl, (set_same D.g).symm, D, rfl⟩ ?_
  rintro ⟨root, dc, hc⟩ ⟨h1, h3, h4, D1, h5⟩
  simp only at h1 h3 h4 D1 h5 ⊢
  have e1 : IntKind.i64.wrap (2 * (root : Int)) = 2 * (root : Int) := wrap64_id (by omega) (by omega)
  have e1' : IntKind.i64.wrap (2 * (root : Int) + 1) = ((2 * root + 1 : Nat) : Int) := by rw [wrap64_id (by omega) (by omega)]; omega
  obtain ⟨K, hK⟩ : ∃ K, K = 2 * root + 1 := ⟨_, rfl⟩
  rw [← hK] at e1'
  have hg := D1.g
  by_cases hlt : hi ≤ K
  · have d1 : decide ((hi : Int) ≤ (K : Int)) = true := decide_eq_true (by omega)
    have hend : Go.Sort.siftDown ltI hi first root0 d = dc := by rw [← h5, Go.Sort.siftDown, dif_pos (by omega)]
    repeat (first | apply zs | apply zr | apply zn | ((first | apply zx | apply zy); · simp only [push_cast, env, Nat.reduceEqDiff, reduceIte, Nat.reduceAdd, Nat.reduceMul, Nat.reduceLeDiff, reduceCtorEq, Nat.reduceSub, Int.reduceToNat, e1, e1', d1] <;> first | exact rfl | exact .inl rfl | exact .inr rfl) | apply zq | apply zb | apply zo | apply zk | apply zl)
    refine cw_condT rfl ?_
    refine cw_exit ?_
    refine ⟨_, (by simp only [push_cast, env, Nat.reduceEqDiff, reduceIte] <;> exact rfl), rfl, ?_⟩
    simp only [hend]
    exact ⟨h4, D1, h3⟩
  have d1 : decide ((hi : Int) ≤ (K : Int)) = false := decide_eq_false (by omega)
  have hr1 : first + root < dc.size := by omega
  have g2 := ic_get hr1
  have b2 := D1.b _ hr1
  have rr2 := rng (k := first + root) (n := d.size) (by omega)
  have e2r : IntKind.i64.wrap ((first : Int) + (root : Int)) = ((first + root : Nat) : Int) := by rw [wrap64_id (by omega) (by omega)]; omega
  obtain ⟨r2, hr2⟩ : ∃ r2, r2 = first + root := ⟨_, rfl⟩
  rw [← hr2] at g2 b2 rr2 e2r hr1
  have e3 : IntKind.i64.wrap ((K : Int) + 1) = ((K + 1 : Nat) : Int) := by rw [wrap64_id (by omega) (by omega)]; omega
  repeat (first | apply zs | apply zr | apply zn | ((first | apply zx | apply zy); · simp only [push_cast, env, Nat.reduceEqDiff, reduceIte, Nat.reduceAdd, Nat.reduceMul, Nat.reduceLeDiff, reduceCtorEq, Nat.reduceSub, Int.reduceToNat, e1, e1', d1] <;> first | exact rfl | exact .inl rfl | exact .inr rfl) | apply zq | apply zb | apply zo | apply zk | apply zl)
  refine cw_condF rfl ?_
  repeat (first | apply zs | apply zr | apply zn | ((first | apply zx | apply zy); · simp only [push_cast, env, Nat.reduceEqDiff, reduceIte, Nat.reduceAdd, Nat.reduceMul, Nat.reduceLeDiff, reduceCtorEq, Nat.reduceSub, Int.reduceToNat] <;> first | exact rfl | exact .inl rfl | exact .inr rfl) | apply zq | apply zb | apply zo | apply zk | apply zl)
  refine cw_weakL [(0, .val (.slice (some ⟨id, 0, some ver⟩) d.size c)), (2, .val (i64 hi)), (3, .val (i64 first)), (4, .val lessV), (10, .val (i64 root)), (11, .val (i64 K))] (by simp only [push_cast, Nat.reduceEqDiff, reduceIte]) ?_
  show CW _ _ ⟨_, [], hc⟩ _
  repeat refine cw_seq ?_
  refine CW.mono (Q := fun e s' => e = .normal ∧ s'.h = hc ∧ ∃ (β : Bool) (C : Nat), C = (if β = true then K + 1 else K) ∧ C < hi ∧ (Go.Sort.siftDown ltI hi first root dc = if (!ltI dc[r2]! dc[first + C]!) = true then dc else Go.Sort.siftDown ltI hi first C (Go.Sort.swp dc r2 (first + C))) ∧ SubL [(0, .val (.slice (some ⟨id, 0, some ver⟩) d.size c)), (2, .val (i64 hi)), (3, .val (i64 first)), (4, .val lessV), (10, .val (i64 root)), (11, .val (i64 K)), (40, .val (.bool β))] s'.fr) ?_ ?_
  · by_cases hk2 : K + 1 < hi
    · have d3 : decide (((K + 1 : Nat) : Int) < (hi : Int)) = true := decide_eq_true (by omega)
      have hk1 : first + K < dc.size := by omega
      have hk3 : first + K + 1 < dc.size := by omega
      have gk := ic_get hk1
      have gk1 := ic_get hk3
      have bk := D1.b _ hk1
      have bk1 := D1.b _ hk3
      have rk := rng (k := first + K) (n := d.size) (by omega)
      have rk1 := rng (k := first + K + 1) (n := d.size) (by omega)
      have ek : IntKind.i64.wrap ((first : Int) + (K : Int)) = ((first + K : Nat) : Int) := by rw [wrap64_id (by omega) (by omega)]; omega
      have ek1 : IntKind.i64.wrap (((first + K : Nat) : Int) + 1) = ((first + K + 1 : Nat) : Int) := by rw [wrap64_id (by omega) (by omega)]; omega
      have hS : Go.Sort.siftDown ltI hi first root dc = if (ltI dc[first + K]! dc[first + K + 1]!) = true then (if (!ltI dc[r2]! dc[first + (K + 1)]!) = true then dc else Go.Sort.siftDown ltI hi first (K + 1) (Go.Sort.swp dc r2 (first + (K + 1)))) else (if (!ltI dc[r2]! dc[first + K]!) = true then dc else Go.Sort.siftDown ltI hi first K (Go.Sort.swp dc r2 (first + K))) := by
        rw [Go.Sort.siftDown, dif_neg (by omega), hr2, hK]
        simp [show 2 * root + 1 + 1 < hi by omega, show 2 * root + 2 < hi by omega]
      obtain ⟨k1, hk1e⟩ : ∃ k1, k1 = first + K := ⟨_, rfl⟩
      obtain ⟨k2, hk2e⟩ : ∃ k2, k2 = first + K + 1 := ⟨_, rfl⟩
      obtain ⟨K1, hK1⟩ : ∃ K1, K1 = K + 1 := ⟨_, rfl⟩
      rw [← hk2e] at gk1 bk1 rk1 ek1 hS
      rw [← hk1e] at gk bk rk ek ek1 hS
      rw [← hK1] at d3 e3 hS
      cases hl1 : ltI dc[k1]! dc[k2]! with
      | true =>
        have d7 : decide (cmpI dc[k1]! dc[k2]! < 0) = true := hl1
        have hrun : Go.Sort.siftDown ltI hi first root dc = if (!ltI dc[r2]! dc[first + K1]!) = true then dc else Go.Sort.siftDown ltI hi first K1 (Go.Sort.swp dc r2 (first + K1)) := by rw [hS, hl1]; rfl
        apply cw_ord0 (L := [[], [0], [], [1, 2], [3], [4], [4], [4], [4], [4, 7, 8], [4, 6, 9], [4, 10], [4], [4], [4], [4, 13, 14], [4, 15], [4, 12, 16], [4, 17], [4, 5, 11, 18], [4, 19], [4, 20]]) (resL := [_, _, _, _, _, _, _, _, _, _, _, _, _, _, _, _, _, _, _, _, _, _]) (frF := [(0, .val (.slice (some ⟨id, 0, some ver⟩) d.size c)), (2, .val (i64 hi)), (3, .val (i64 first)), (4, .val lessV), (10, .val (i64 root)), (11, .val (i64 K)), (40, .val (.bool true))])
        case hm => exact mixed
        case hc => kernel_rfl
        case hb => rfl
        case hS =>
          repeat (first | exact Steps0.nil _ | (apply Steps0.cons; (· apply zz; simp only [push_cast, env, Nat.reduceEqDiff, reduceIte, Nat.reduceAdd, Nat.reduceMul, Nat.reduceLeDiff, reduceCtorEq, Nat.reduceSub, Int.reduceToNat, e3, d3, hg, gk, gk1, ek, ek1, rk, rk1, Nat.mul_one] <;> exact rfl); (· rfl)))
          apply Steps0.cons
          · exact one_call (fn := Try.f44) (args := [dc[k1]!.val, dc[k2]!.val]) (cap := []) rfl (by simp only [push_cast, env, Nat.reduceEqDiff, reduceIte, d3] <;> exact rfl) rfl (by simp only [push_cast, env, Nat.reduceEqDiff, reduceIte] <;> exact rfl) (by simp only [push_cast, env, Nat.reduceEqDiff, reduceIte] <;> exact rfl) Try.func44 (by kernel_rfl) (by kernel_rfl) (less7_fw bk bk1)
          · rfl
          repeat (first | exact Steps0.nil _ | (apply Steps0.cons; (· apply zz; simp only [push_cast, env, Nat.reduceEqDiff, reduceIte, Nat.reduceAdd, Nat.reduceMul, Nat.reduceLeDiff, reduceCtorEq, Nat.reduceSub, Int.reduceToNat, d7, d3] <;> exact rfl); (· rfl)))
        case ht => rfl
        case hF => repeat (first | exact trivial | (refine ⟨.inl ⟨by decide, rfl⟩, ?_⟩) | (refine ⟨.inr ⟨rfl, by simp⟩, ?_⟩))
        exact ⟨rfl, rfl, true, K1, by rw [if_pos rfl]; exact hK1, by omega, hrun, (by simp only [push_cast, Nat.reduceEqDiff, reduceIte])⟩
      | false =>
        have d7 : decide (cmpI dc[k1]! dc[k2]! < 0) = false := hl1
        have hrun : Go.Sort.siftDown ltI hi first root dc = if (!ltI dc[r2]! dc[first + K]!) = true then dc else Go.Sort.siftDown ltI hi first K (Go.Sort.swp dc r2 (first + K)) := by rw [hS, hl1, ← hk1e]; rfl
        apply cw_ord0 (L := [[], [0], [], [1, 2], [3], [4], [4], [4], [4], [4, 7, 8], [4, 6, 9], [4, 10], [4], [4], [4], [4, 13, 14], [4, 15], [4, 12, 16], [4, 17], [4, 5, 11, 18], [4, 19], [4, 20]]) (resL := [_, _, _, _, _, _, _, _, _, _, _, _, _, _, _, _, _, _, _, _, _, _]) (frF := [(0, .val (.slice (some ⟨id, 0, some ver⟩) d.size c)), (2, .val (i64 hi)), (3, .val (i64 first)), (4, .val lessV), (10, .val (i64 root)), (11, .val (i64 K)), (40, .val (.bool false))])
        case hm => exact mixed
        case hc => kernel_rfl
        case hb => rfl
        case hS =>
          repeat (first | exact Steps0.nil _ | (apply Steps0.cons; (· apply zz; simp only [push_cast, env, Nat.reduceEqDiff, reduceIte, Nat.reduceAdd, Nat.reduceMul, Nat.reduceLeDiff, reduceCtorEq, Nat.reduceSub, Int.reduceToNat, e3, d3, hg, gk, gk1, ek, ek1, rk, rk1, Nat.mul_one] <;> exact rfl); (· rfl)))
          apply Steps0.cons
          · exact one_call (fn := Try.f44) (args := [dc[k1]!.val, dc[k2]!.val]) (cap := []) rfl (by simp only [push_cast, env, Nat.reduceEqDiff, reduceIte, d3] <;> exact rfl) rfl (by simp only [push_cast, env, Nat.reduceEqDiff, reduceIte] <;> exact rfl) (by simp only [push_cast, env, Nat.reduceEqDiff, reduceIte] <;> exact rfl) Try.func44 (by kernel_rfl) (by kernel_rfl) (less7_fw bk bk1)
          · rfl
          repeat (first | exact Steps0.nil _ | (apply Steps0.cons; (· apply zz; simp only [push_cast, env, Nat.reduceEqDiff, reduceIte, Nat.reduceAdd, Nat.reduceMul, Nat.reduceLeDiff, reduceCtorEq, Nat.reduceSub, Int.reduceToNat, d7, d3] <;> exact rfl); (· rfl)))
        case ht => rfl
        case hF => repeat (first | exact trivial | (refine ⟨.inl ⟨by decide, rfl⟩, ?_⟩) | (refine ⟨.inr ⟨rfl, by simp⟩, ?_⟩))
        exact ⟨rfl, rfl, false, K, rfl, by omega, hrun, (by simp only [push_cast, Nat.reduceEqDiff, reduceIte])⟩
    · have d3 : decide (((K + 1 : Nat) : Int) < (hi : Int)) = false := decide_eq_false (by omega)
      have hrun : Go.Sort.siftDown ltI hi first root dc = if (!ltI dc[r2]! dc[first + K]!) = true then dc else Go.Sort.siftDown ltI hi first K (Go.Sort.swp dc r2 (first + K)) := by
        rw [Go.Sort.siftDown, dif_neg (by omega), hr2, hK]
        simp [show ¬ 2 * root + 1 + 1 < hi by omega]
      obtain ⟨K1, hK1⟩ : ∃ K1, K1 = K + 1 := ⟨_, rfl⟩
      rw [← hK1] at d3 e3
      apply cw_ord0 (L := [[], [0], [], [1, 2], [3], [4], [4], [4], [4], [4, 7, 8], [4, 6, 9], [4, 10], [4], [4], [4], [4, 13, 14], [4, 15], [4, 12, 16], [4, 17], [4, 5, 11, 18], [4, 19], [4, 20]]) (resL := [_, _, _, _, _, _, _, _, _, _, _, _, _, _, _, _, _, _, _, _, _, _]) (frF := [(0, .val (.slice (some ⟨id, 0, some ver⟩) d.size c)), (2, .val (i64 hi)), (3, .val (i64 first)), (4, .val lessV), (10, .val (i64 root)), (11, .val (i64 K)), (40, .val (.bool false))])
      case hm => exact mixed
      case hc => kernel_rfl
      case hb => rfl
      case hS => repeat (first | exact Steps0.nil _ | (apply Steps0.cons; (· apply zz; simp only [push_cast, env, Nat.reduceEqDiff, reduceIte, Nat.reduceAdd, Nat.reduceMul, Nat.reduceLeDiff, reduceCtorEq, Nat.reduceSub, Int.reduceToNat, e3, d3] <;> exact rfl); (· rfl)))
      case ht => rfl
      case hF => repeat (first | exact trivial | (refine ⟨.inl ⟨by decide, rfl⟩, ?_⟩) | (refine ⟨.inr ⟨rfl, by simp⟩, ?_⟩))
      exact ⟨rfl, rfl, false, K, rfl, by omega, hrun, (by simp only [push_cast, Nat.reduceEqDiff, reduceIte])⟩
  rintro e s' ⟨rfl, hh, β, C, hCe, hCh, hrun, hf⟩
  have hCK : K ≤ C := by rw [hCe]; split <;> omega
  show CW _ _ _ _
  refine cw_weakL _ hf ?_
  rw [hh]
  clear hf hh
  refine CW.mono (Q := fun e s' => e = .normal ∧ s'.h = hc ∧ SubL [(0, .val (.slice (some ⟨id, 0, some ver⟩) d.size c)), (2, .val (i64 hi)), (3, .val (i64 first)), (4, .val lessV), (10, .val (i64 root)), (11, .val (i64 C))] s'.fr) ?_ ?_
  · cases β with
    | true =>
      rw [if_pos rfl] at hCe
      rw [← hCe] at e3
      refine cw_condT rfl ?_
      repeat (first | apply zs | apply zr | apply zn | ((first | apply zx | apply zy); · simp only [push_cast, env, Nat.reduceEqDiff, reduceIte, Nat.reduceAdd, Nat.reduceMul, Nat.reduceLeDiff, reduceCtorEq, Nat.reduceSub, Int.reduceToNat, e3] <;> first | exact rfl | exact .inl rfl | exact .inr rfl) | apply zq | apply zb | apply zo | apply zk | apply zl)
      exact ⟨rfl, rfl, (by simp only [push_cast, Nat.reduceEqDiff, reduceIte])⟩
    | false =>
      have hCe' : C = K := hCe
      subst hCe'
      refine cw_condF rfl ?_
      repeat (first | apply zs | apply zr | apply zn | ((first | apply zx | apply zy); · simp only [push_cast, env, Nat.reduceEqDiff, reduceIte, Nat.reduceAdd, Nat.reduceMul, Nat.reduceLeDiff, reduceCtorEq, Nat.reduceSub, Int.reduceToNat] <;> first | exact rfl | exact .inl rfl | exact .inr rfl) | apply zq | apply zb | apply zo | apply zk | apply zl)
      exact ⟨rfl, rfl, (by simp only [push_cast, Nat.reduceEqDiff, reduceIte])⟩
  rintro e s' ⟨rfl, hh, hf⟩
  show CW _ _ _ _
  refine cw_weakL _ hf ?_
  rw [hh]
  clear hf hh
  have hC1 : first + C < dc.size := by omega
  have gC := ic_get hC1
  have bC := D1.b _ hC1
  have rC := rng (k := first + C) (n := d.size) (by omega)
  have eC : IntKind.i64.wrap ((first : Int) + (C : Int)) = ((first + C : Nat) : Int) := by rw [wrap64_id (by omega) (by omega)]; omega
  obtain ⟨c2, hc2⟩ : ∃ c2, c2 = first + C := ⟨_, rfl⟩
  rw [← hc2] at gC bC rC eC hC1 hrun
  repeat (first | apply zs | apply zr | apply zn | ((first | apply zx | apply zy); · simp only [push_cast, env, Nat.reduceEqDiff, reduceIte, Nat.reduceAdd, Nat.reduceMul, Nat.reduceLeDiff, reduceCtorEq, Nat.reduceSub, Int.reduceToNat] <;> first | exact rfl | exact .inl rfl | exact .inr rfl) | apply zq | apply zb | apply zo | apply zk | apply zl)
  refine cw_weakL [(0, .val (.slice (some ⟨id, 0, some ver⟩) d.size c)), (2, .val (i64 hi)), (3, .val (i64 first)), (4, .val lessV), (10, .val (i64 root)), (11, .val (i64 C))] (by simp only [push_cast, Nat.reduceEqDiff, reduceIte]) ?_
  show CW _ _ ⟨_, [], hc⟩ _
  cases hl2 : ltI dc[r2]! dc[c2]! with
  | false =>
    have d8 : decide (cmpI dc[r2]! dc[c2]! < 0) = false := hl2
    have hend : Go.Sort.siftDown ltI hi first root0 d = dc := by rw [← h5, hrun, hl2]; rfl
    apply cw_ord0 (L := [[], [], [], [], [2, 3], [1, 4], [5], [], [], [], [8, 9], [7, 10], [11], [0, 6, 12], [13], [14]]) (resL := [_, _, _, _, _, _, _, _, _, _, _, _, _, _, _, _]) (frF := [(58, .val (.bool true))])
    case hm => exact mixed
    case hc => kernel_rfl
    case hb => rfl
    case hS =>
      repeat (first | exact Steps0.nil _ | (apply Steps0.cons; (· apply zz; simp only [push_cast, env, Nat.reduceEqDiff, reduceIte, Nat.reduceAdd, Nat.reduceMul, Nat.reduceLeDiff, reduceCtorEq, Nat.reduceSub, Int.reduceToNat, hg, g2, gC, e2r, eC, rr2, rC, Nat.mul_one] <;> exact rfl); (· rfl)))
      apply Steps0.cons
      · exact one_call (fn := Try.f44) (args := [dc[r2]!.val, dc[c2]!.val]) (cap := []) rfl (by simp only [push_cast, env, Nat.reduceEqDiff, reduceIte] <;> exact rfl) rfl (by simp only [push_cast, env, Nat.reduceEqDiff, reduceIte] <;> exact rfl) (by simp only [push_cast, env, Nat.reduceEqDiff, reduceIte] <;> exact rfl) Try.func44 (by kernel_rfl) (by kernel_rfl) (less7_fw b2 bC)
      · rfl
      repeat (first | exact Steps0.nil _ | (apply Steps0.cons; (· apply zz; simp only [push_cast, env, Nat.reduceEqDiff, reduceIte, Nat.reduceAdd, Nat.reduceMul, Nat.reduceLeDiff, reduceCtorEq, Nat.reduceSub, Int.reduceToNat, d8] <;> exact rfl); (· rfl)))
    case ht => rfl
    case hF => repeat (first | exact trivial | (refine ⟨.inl ⟨by decide, rfl⟩, ?_⟩) | (refine ⟨.inr ⟨rfl, by simp⟩, ?_⟩))
    show CW _ _ _ _
    repeat (first | apply zs | apply zr | apply zn | ((first | apply zx | apply zy); · simp only [push_cast, env, Nat.reduceEqDiff, reduceIte, Nat.reduceAdd, Nat.reduceMul, Nat.reduceLeDiff, reduceCtorEq, Nat.reduceSub, Int.reduceToNat] <;> first | exact rfl | exact .inl rfl | exact .inr rfl) | apply zq | apply zb | apply zo | apply zk | apply zl)
    refine cw_condT rfl ?_
    repeat (first | apply zs | apply zr | apply zn | ((first | apply zx | apply zy); · simp only [push_cast, env, Nat.reduceEqDiff, reduceIte, Nat.reduceAdd, Nat.reduceMul, Nat.reduceLeDiff, reduceCtorEq, Nat.reduceSub, Int.reduceToNat] <;> first | exact rfl | exact .inl rfl | exact .inr rfl) | apply zq | apply zb | apply zo | apply zk | apply zl)
    refine cw_ret ?_
    refine ⟨_, (by simp only [push_cast, env, Nat.reduceEqDiff, reduceIte] <;> exact rfl), rfl, ?_⟩
    simp only [hend]
    exact ⟨h4, D1, h3⟩
  | true =>
    have d8 : decide (cmpI dc[r2]! dc[c2]! < 0) = true := hl2
    have hnx : Go.Sort.siftDown ltI hi first C (Go.Sort.swp dc r2 c2) = Go.Sort.siftDown ltI hi first root0 d := by rw [← h5, hrun, hl2]; rfl
    apply cw_ord0 (L := [[], [], [], [], [2, 3], [1, 4], [5], [], [], [], [8, 9], [7, 10], [11], [0, 6, 12], [13], [14]]) (resL := [_, _, _, _, _, _, _, _, _, _, _, _, _, _, _, _]) (frF := [(0, .val (.slice (some ⟨id, 0, some ver⟩) d.size c)), (2, .val (i64 hi)), (3, .val (i64 first)), (4, .val lessV), (10, .val (i64 root)), (11, .val (i64 C)), (58, .val (.bool false))])
    case hm => exact mixed
    case hc => kernel_rfl
    case hb => rfl
    case hS =>
      repeat (first | exact Steps0.nil _ | (apply Steps0.cons; (· apply zz; simp only [push_cast, env, Nat.reduceEqDiff, reduceIte, Nat.reduceAdd, Nat.reduceMul, Nat.reduceLeDiff, reduceCtorEq, Nat.reduceSub, Int.reduceToNat, hg, g2, gC, e2r, eC, rr2, rC, Nat.mul_one] <;> exact rfl); (· rfl)))
      apply Steps0.cons
      · exact one_call (fn := Try.f44) (args := [dc[r2]!.val, dc[c2]!.val]) (cap := []) rfl (by simp only [push_cast, env, Nat.reduceEqDiff, reduceIte] <;> exact rfl) rfl (by simp only [push_cast, env, Nat.reduceEqDiff, reduceIte] <;> exact rfl) (by simp only [push_cast, env, Nat.reduceEqDiff, reduceIte] <;> exact rfl) Try.func44 (by kernel_rfl) (by kernel_rfl) (less7_fw b2 bC)
      · rfl
      repeat (first | exact Steps0.nil _ | (apply Steps0.cons; (· apply zz; simp only [push_cast, env, Nat.reduceEqDiff, reduceIte, Nat.reduceAdd, Nat.reduceMul, Nat.reduceLeDiff, reduceCtorEq, Nat.reduceSub, Int.reduceToNat, d8] <;> exact rfl); (· rfl)))
    case ht => rfl
    case hF => repeat (first | exact trivial | (refine ⟨.inl ⟨by decide, rfl⟩, ?_⟩) | (refine ⟨.inr ⟨rfl, by simp⟩, ?_⟩))
    show CW _ _ _ _
    repeat (first | apply zs | apply zr | apply zn | ((first | apply zx | apply zy); · simp only [push_cast, env, Nat.reduceEqDiff, reduceIte, Nat.reduceAdd, Nat.reduceMul, Nat.reduceLeDiff, reduceCtorEq, Nat.reduceSub, Int.reduceToNat] <;> first | exact rfl | exact .inl rfl | exact .inr rfl) | apply zq | apply zb | apply zo | apply zk | apply zl)
    refine cw_condF rfl ?_
    repeat (first | apply zs | apply zr | apply zn | ((first | apply zx | apply zy); · simp only [push_cast, env, Nat.reduceEqDiff, reduceIte, Nat.reduceAdd, Nat.reduceMul, Nat.reduceLeDiff, reduceCtorEq, Nat.reduceSub, Int.reduceToNat] <;> first | exact rfl | exact .inl rfl | exact .inr rfl) | apply zq | apply zb | apply zo | apply zk | apply zl)
    refine cw_weakL [(0, .val (.slice (some ⟨id, 0, some ver⟩) d.size c)), (2, .val (i64 hi)), (3, .val (i64 first)), (4, .val lessV), (10, .val (i64 root)), (11, .val (i64 C))] (by simp only [push_cast, Nat.reduceEqDiff, reduceIte]) ?_
    show CW _ _ ⟨_, [], hc⟩ _
    apply cw_ordA (L := [[], [], [], [1, 2], [], [], [], [5, 6], [], [], [], [9, 10], [8, 9, 10, 11], [8, 9, 10, 11, 12], [], [], [], [15, 16], [14, 15, 16, 17], [14, 15, 16, 17, 18], [0, 1, 2, 3], [0, 1, 2, 3, 8, 9, 10, 11, 12, 13, 14, 15, 16, 17, 18, 19, 20], [4, 5, 6, 7], [0, 1, 2, 3, 4, 5, 6, 7, 8, 9, 10, 11, 12, 13, 14, 15, 16, 17, 18, 19, 20, 21, 22]]) (act := [21, 23]) (hs := [hc.set id (.arr (IC (dc.setIfInBounds r2 dc[c2]!)) ver true 57), hc.set id (.arr (IC (Go.Sort.swp dc r2 c2)) ver true 57)]) (resL := [_, _, _, _, _, _, _, _, _, _, _, _, _, _, _, _, _, _, _, _, _, _, _, _]) (frF := [(0, .val (.slice (some ⟨id, 0, some ver⟩) d.size c)), (2, .val (i64 hi)), (3, .val (i64 first)), (4, .val lessV), (11, .val (i64 C))])
    case hm => exact mixed
    case hc => kernel_rfl
    case ha => rfl
    case hb => rfl
    case hS =>
      repeat (first | exact StepsA.nil _ | (apply StepsA.cons; (· rfl); (· (first | refine ⟨?_, trivial⟩ | refine ⟨?_, ?_, trivial⟩ | refine ⟨?_, ?_, ?_, trivial⟩ | refine ⟨?_, ?_, ?_, ?_, trivial⟩) <;> (apply zz; simp only [push_cast, env, Nat.reduceEqDiff, reduceIte, Nat.reduceAdd, Nat.reduceMul, Nat.reduceLeDiff, reduceCtorEq, Nat.reduceSub, Int.reduceToNat, hg, g2, gC, e2r, eC, rr2, rC, Nat.mul_one] <;> exact rfl)); (· rfl)))
      apply StepsA.cons
      · rfl
      · refine ⟨?_, trivial⟩
        exact one_sto (r := .sl .unk) rfl (by simp only [push_cast, env, Nat.reduceEqDiff, reduceIte] <;> exact rfl) rfl (by simp only [push_cast, env, Nat.reduceEqDiff, reduceIte] <;> exact rfl) (by simp only [push_cast, env, Nat.reduceEqDiff, reduceIte] <;> exact rfl) hg (by simp only [push_cast, env, Nat.reduceEqDiff, reduceIte] <;> exact rfl) rfl (ic_set (d := dc) (i := r2) (x := dc[c2]!) hr1) rfl rfl
      · rfl
      repeat (first | exact StepsA.nil _ | (apply StepsA.cons; (· rfl); (· (first | refine ⟨?_, trivial⟩ | refine ⟨?_, ?_, trivial⟩ | refine ⟨?_, ?_, ?_, trivial⟩ | refine ⟨?_, ?_, ?_, ?_, trivial⟩) <;> (apply zz; simp only [push_cast, env, Nat.reduceEqDiff, reduceIte, Nat.reduceAdd, Nat.reduceMul, Nat.reduceLeDiff, reduceCtorEq, Nat.reduceSub, Int.reduceToNat, hg, g2, gC, e2r, eC, rr2, rC, Nat.mul_one] <;> exact rfl)); (· rfl)))
      apply StepsA.cons
      · rfl
      · refine ⟨?_, trivial⟩
        exact one_sto (r := .sl .unk) rfl (by simp only [push_cast, env, Nat.reduceEqDiff, reduceIte] <;> exact rfl) rfl (by simp only [push_cast, env, Nat.reduceEqDiff, reduceIte] <;> exact rfl) (by simp only [push_cast, env, Nat.reduceEqDiff, reduceIte] <;> exact rfl) (get_set_self hg) (by simp only [push_cast, env, Nat.reduceEqDiff, reduceIte] <;> exact rfl) rfl (ic_set (d := dc.setIfInBounds r2 dc[c2]!) (i := c2) (x := dc[r2]!) (by simpa using hC1)) rfl set_set_heap.symm
      · rfl
      exact StepsA.nil _
    case ht => rfl
    case hF => repeat (first | exact trivial | (refine ⟨.inl ⟨by decide, rfl⟩, ?_⟩) | (refine ⟨.inr ⟨rfl, by simp⟩, ?_⟩))
    show CW _ _ _ _
    repeat (first | apply zs | apply zr | apply zn | ((first | apply zx | apply zy); · simp only [push_cast, env, Nat.reduceEqDiff, reduceIte, Nat.reduceAdd, Nat.reduceMul, Nat.reduceLeDiff, reduceCtorEq, Nat.reduceSub, Int.reduceToNat] <;> first | exact rfl | exact .inl rfl | exact .inr rfl) | apply zq | apply zb | apply zo | apply zk | apply zl)
    exact ⟨(C, Go.Sort.swp dc r2 c2, _), by simp only; omega, (by simp only [push_cast, Nat.reduceEqDiff, reduceIte]), rfl, by simp only; omega, by simp only; rw [swp_size]; exact h3, by simp only; rw [h4, set_set_heap], D1.swp hr1 hC1, hnx⟩
end Go.Proofs.Ytafncpgiibikcaa

namespace Go.Proofs.Ytafncpgiibikcaa
set_option linter.unusedSimpArgs false
set_option linter.unusedVariables false
set_option maxRecDepth 20000
open Go.RowKit Am Ty

theorem tdiv2 (n : Nat) : Int.tdiv ((n : Int) - 1) 2 = (((n - 1) / 2 : Nat) : Int) := by
  cases n with
  | zero => rfl
  | succ n => rw [show ((n + 1 : Nat) : Int) - 1 = (n : Int) by omega]; rfl
set_option maxHeartbeats 8000000 in
theorem heap_fw {h : Heap} {id ver c a b : Nat} {d : Array Item} (D : DA h id ver d) (hab : a ≤ b) (hb : b ≤ d.size) :
    FW env 66 [.slice (some ⟨id, 0, some ver⟩) d.size c, i64 a, i64 b, lessV] h fun r h' => r = .tuple #[] ∧ h' = h.set id (.arr (IC (Go.Sort.heapSort ltI d a b)) ver true 57) ∧ DA h' id ver (Go.Sort.heapSort ltI d a b) ∧ (Go.Sort.heapSort ltI d a b).size = d.size := by
  have hn := D.n
  obtain ⟨H, hH⟩ : ∃ H, H = b - a := ⟨_, rfl⟩
  have e1 : IntKind.i64.wrap ((b : Int) - (a : Int)) = (H : Int) := by rw [wrap64_id (by omega) (by omega)]; omega
  have e2 : IntKind.i64.wrap ((H : Int) - 1) = (H : Int) - 1 := wrap64_id (by omega) (by omega)
  have e3 : IntKind.i64.wrap (Int.tdiv ((H : Int) - 1) 2) = (((H - 1) / 2 : Nat) : Int) := by rw [tdiv2, wrap64_id (by omega) (by omega)]
  obtain ⟨K0, hK0⟩ : ∃ K0, K0 = (H - 1) / 2 + 1 := ⟨_, rfl⟩
  have e3' : IntKind.i64.wrap (Int.tdiv ((H : Int) - 1) 2) = (K0 : Int) - 1 := by rw [e3, hK0]; omega
  refine fw_enter (fn := Try.f66) Try.func66 rfl (by kernel_rfl) (by simp [Try.ntmps66]) ?_; simp only [push_cast]
  repeat (first | apply zs | apply zr | apply zn | ((first | apply zx | apply zy); · simp only [push_cast, env, Nat.reduceEqDiff, reduceIte, Nat.reduceAdd, Nat.reduceMul, Nat.reduceLeDiff, reduceCtorEq, Nat.reduceSub, Int.reduceToNat, e1, e2, e3'] <;> first | exact rfl | exact .inl rfl | exact .inr rfl) | apply zq | apply zb | apply zo | apply zk | apply zl)
  refine cw_wh (fun x : Nat × Array Item × Heap => x.1) (fun x => [(0, .val (.slice (some ⟨id, 0, some ver⟩) d.size c)), (3, .val lessV), (8, .val (i64 a)), (9, .val (i64 0)), (10, .val (i64 H)), (11, .val (i64 ((x.1 : Int) - 1)))]) (fun x => x.2.2)
    (fun x => x.1 ≤ K0 ∧ x.2.1.size = d.size ∧ x.2.2 = h.set id (.arr (IC x.2.1) ver true 57) ∧ DA x.2.2 id ver x.2.1 ∧ Go.Sort.heapBuild ltI H a x.1 x.2.1 = Go.Sort.heapBuild ltI H a K0 d) (K0, d, h) (by simp only [push_cast, Nat.reduceEqDiff, reduceIte]) rfl ⟨Nat.le_refl _, rfl, (set_same D.g).symm, D, rfl⟩ ?_
  rintro ⟨k, dc, hc⟩ ⟨h1, h3, h4, D1, h5⟩
  simp only at h1 h3 h4 D1 h5 ⊢
  by_cases hk : 0 < k
  · obtain ⟨q, rfl⟩ : ∃ q, k = q + 1 := ⟨k - 1, by omega⟩
    rw [show ((q + 1 : Nat) : Int) - 1 = (q : Int) by omega]
    have d1 : decide (0 ≤ (q : Int)) = true := decide_eq_true (by omega)
    have e4 : IntKind.i64.wrap ((q : Int) - 1) = (q : Int) - 1 := wrap64_id (by omega) (by omega)
    repeat (first | apply zs | apply zr | apply zn | ((first | apply zx | apply zy); · simp only [push_cast, env, Nat.reduceEqDiff, reduceIte, Nat.reduceAdd, Nat.reduceMul, Nat.reduceLeDiff, reduceCtorEq, Nat.reduceSub, Int.reduceToNat, d1] <;> first | exact rfl | exact .inl rfl | exact .inr rfl) | apply zq | apply zb | apply zo | apply zk | apply zl)
    refine cw_condT rfl ?_
    repeat (first | apply zs | apply zr | apply zn | ((first | apply zx | apply zy); · simp only [push_cast, env, Nat.reduceEqDiff, reduceIte, Nat.reduceAdd, Nat.reduceMul, Nat.reduceLeDiff, reduceCtorEq, Nat.reduceSub, Int.reduceToNat] <;> first | exact rfl | exact .inl rfl | exact .inr rfl) | apply zq | apply zb | apply zo | apply zk | apply zl)
    refine zc (fn := Try.f78) (by simp only [push_cast, env, Nat.reduceEqDiff, reduceIte] <;> exact rfl) Try.func78 (by kernel_rfl) (by kernel_rfl) ?_
    rw [List.append_nil, ← h3]
    refine (sift_fw (c := c) (root0 := q) (hi := H) (first := a) D1 (by omega) (by omega)).mono ?_
    rintro _ h6 ⟨rfl, k1, k2, k3⟩
    rw [h3]
    repeat (first | apply zs | apply zr | apply zn | ((first | apply zx | apply zy); · simp only [push_cast, env, Nat.reduceEqDiff, reduceIte, Nat.reduceAdd, Nat.reduceMul, Nat.reduceLeDiff, reduceCtorEq, Nat.reduceSub, Int.reduceToNat, e4] <;> first | exact rfl | exact .inl rfl | exact .inr rfl) | apply zq | apply zb | apply zo | apply zk | apply zl)
    exact ⟨(q, _, h6), by simp only; omega, (by simp only [push_cast, Nat.reduceEqDiff, reduceIte]), rfl, by simp only; omega, k3.trans h3, by simp only; rw [k1, h4, set_set_heap], k2, h5⟩
  · obtain rfl : k = 0 := by omega
    have hbu : dc = Go.Sort.heapBuild ltI H a K0 d := h5
    have d1 : decide (0 ≤ ((0 : Nat) : Int) - 1) = false := rfl
    rw [show ((0 : Nat) : Int) - 1 = -1 from rfl]
    have d1' : decide (0 ≤ (-1 : Int)) = false := rfl
    repeat (first | apply zs | apply zr | apply zn | ((first | apply zx | apply zy); · simp only [push_cast, env, Nat.reduceEqDiff, reduceIte, Nat.reduceAdd, Nat.reduceMul, Nat.reduceLeDiff, reduceCtorEq, Nat.reduceSub, Int.reduceToNat, d1'] <;> first | exact rfl | exact .inl rfl | exact .inr rfl) | apply zq | apply zb | apply zo | apply zk | apply zl)
    refine cw_condF rfl ?_
    refine cw_exit ?_
    show CW _ _ _ _
    repeat (first | apply zs | apply zr | apply zn | ((first | apply zx | apply zy); · simp only [push_cast, env, Nat.reduceEqDiff, reduceIte, Nat.reduceAdd, Nat.reduceMul, Nat.reduceLeDiff, reduceCtorEq, Nat.reduceSub, Int.reduceToNat, e2] <;> first | exact rfl | exact .inl rfl | exact .inr rfl) | apply zq | apply zb | apply zo | apply zk | apply zl)
    refine cw_wh (fun x : Nat × Array Item × Heap => x.1) (fun x => [(0, .val (.slice (some ⟨id, 0, some ver⟩) d.size c)), (3, .val lessV), (8, .val (i64 a)), (9, .val (i64 0)), (10, .val (i64 H)), (12, .val (i64 ((x.1 : Int) - 1)))]) (fun x => x.2.2)
      (fun x => x.1 ≤ H ∧ x.2.1.size = d.size ∧ x.2.2 = h.set id (.arr (IC x.2.1) ver true 57) ∧ DA x.2.2 id ver x.2.1 ∧ Go.Sort.heapPop ltI a x.1 x.2.1 = Go.Sort.heapSort ltI d a b) (H, dc, hc) (by simp only [push_cast, Nat.reduceEqDiff, reduceIte]) rfl ⟨Nat.le_refl _, h3, h4, D1, by simp only; rw [hbu]; unfold Go.Sort.heapSort; rw [← hH, hK0]⟩ ?_
    clear h1 h3 h4 D1 h5 hbu hk hc dc
    rintro ⟨k, dc, hc⟩ ⟨h1, h3, h4, D1, h5⟩
    simp only at h1 h3 h4 D1 h5 ⊢
    by_cases hk : 0 < k
    · obtain ⟨q, rfl⟩ : ∃ q, k = q + 1 := ⟨k - 1, by omega⟩
      rw [show ((q + 1 : Nat) : Int) - 1 = (q : Int) by omega]
      have d1 : decide (0 ≤ (q : Int)) = true := decide_eq_true (by omega)
      have e4 : IntKind.i64.wrap ((q : Int) - 1) = (q : Int) - 1 := wrap64_id (by omega) (by omega)
      have hun : Go.Sort.heapPop ltI a (q + 1) dc = Go.Sort.heapPop ltI a q (Go.Sort.siftDown ltI q a 0 (Go.Sort.swp dc a (a + q))) := rfl
      have hg := D1.g
      have hi1 : a < dc.size := by omega
      have hj1 : a + q < dc.size := by omega
      have g1 := ic_get hi1
      have g0 := ic_get hj1
      have r1 := rng (k := a) (n := d.size) (by omega)
      have r0 := rng (k := a + q) (n := d.size) (by omega)
      have e5 : IntKind.i64.wrap ((a : Int) + (q : Int)) = ((a + q : Nat) : Int) := by rw [wrap64_id (by omega) (by omega)]; omega
      obtain ⟨J, hJ⟩ : ∃ J, J = a + q := ⟨_, rfl⟩
      rw [← hJ] at e5 g0 r0 hj1 hun
      repeat (first | apply zs | apply zr | apply zn | ((first | apply zx | apply zy); · simp only [push_cast, env, Nat.reduceEqDiff, reduceIte, Nat.reduceAdd, Nat.reduceMul, Nat.reduceLeDiff, reduceCtorEq, Nat.reduceSub, Int.reduceToNat, d1] <;> first | exact rfl | exact .inl rfl | exact .inr rfl) | apply zq | apply zb | apply zo | apply zk | apply zl)
      refine cw_condT rfl ?_
      repeat (first | apply zs | apply zr | apply zn | ((first | apply zx | apply zy); · simp only [push_cast, env, Nat.reduceEqDiff, reduceIte, Nat.reduceAdd, Nat.reduceMul, Nat.reduceLeDiff, reduceCtorEq, Nat.reduceSub, Int.reduceToNat] <;> first | exact rfl | exact .inl rfl | exact .inr rfl) | apply zq | apply zb | apply zo | apply zk | apply zl)
      refine cw_weakL [(0, .val (.slice (some ⟨id, 0, some ver⟩) d.size c)), (3, .val lessV), (8, .val (i64 a)), (9, .val (i64 0)), (10, .val (i64 H)), (12, .val (i64 q))] (by simp only [push_cast, Nat.reduceEqDiff, reduceIte]) ?_
      show CW _ _ ⟨_, [], hc⟩ _
      apply cw_ordA (L := [[], [], [], [], [], [3, 4], [], [], [], [7, 8], [6, 7, 8, 9], [6, 7, 8, 9, 10], [], [], [12, 13], [12, 13, 14], [0, 1], [0, 1, 6, 7, 8, 9, 10, 11, 12, 13, 14, 15, 16], [2, 3, 4, 5], [0, 1, 2, 3, 4, 5, 6, 7, 8, 9, 10, 11, 12, 13, 14, 15, 16, 17, 18]]) (act := [17, 19]) (hs := [hc.set id (.arr (IC (dc.setIfInBounds a dc[J]!)) ver true 57), hc.set id (.arr (IC (Go.Sort.swp dc a J)) ver true 57)]) (resL := [_, _, _, _, _, _, _, _, _, _, _, _, _, _, _, _, _, _, _, _]) (frF := [(0, .val (.slice (some ⟨id, 0, some ver⟩) d.size c)), (3, .val lessV), (8, .val (i64 a)), (9, .val (i64 0)), (10, .val (i64 H)), (12, .val (i64 q))])
      case hm => exact mixed
      case hc => kernel_rfl
      case ha => rfl
      case hb => rfl
      case hS =>
        repeat (first | exact StepsA.nil _ | (apply StepsA.cons; (· rfl); (· (first | refine ⟨?_, trivial⟩ | refine ⟨?_, ?_, trivial⟩ | refine ⟨?_, ?_, ?_, trivial⟩ | refine ⟨?_, ?_, ?_, ?_, trivial⟩) <;> (apply zz; simp only [push_cast, env, Nat.reduceEqDiff, reduceIte, Nat.reduceAdd, Nat.reduceMul, Nat.reduceLeDiff, reduceCtorEq, Nat.reduceSub, Int.reduceToNat, hg, g1, g0, r1, r0, e5, Nat.mul_one] <;> exact rfl)); (· rfl)))
        apply StepsA.cons
        · rfl
        · refine ⟨?_, trivial⟩
          exact one_sto (r := .sl .unk) rfl (by simp only [push_cast, env, Nat.reduceEqDiff, reduceIte] <;> exact rfl) rfl (by simp only [push_cast, env, Nat.reduceEqDiff, reduceIte] <;> exact rfl) (by simp only [push_cast, env, Nat.reduceEqDiff, reduceIte] <;> exact rfl) hg (by simp only [push_cast, env, Nat.reduceEqDiff, reduceIte] <;> exact rfl) rfl (ic_set (d := dc) (i := a) (x := dc[J]!) hi1) rfl rfl
        · rfl
        repeat (first | exact StepsA.nil _ | (apply StepsA.cons; (· rfl); (· (first | refine ⟨?_, trivial⟩ | refine ⟨?_, ?_, trivial⟩ | refine ⟨?_, ?_, ?_, trivial⟩ | refine ⟨?_, ?_, ?_, ?_, trivial⟩) <;> (apply zz; simp only [push_cast, env, Nat.reduceEqDiff, reduceIte, Nat.reduceAdd, Nat.reduceMul, Nat.reduceLeDiff, reduceCtorEq, Nat.reduceSub, Int.reduceToNat, hg, g1, g0, r1, r0, e5, Nat.mul_one] <;> exact rfl)); (· rfl)))
        apply StepsA.cons
        · rfl
        · refine ⟨?_, trivial⟩
          exact one_sto (r := .sl .unk) rfl (by simp only [push_cast, env, Nat.reduceEqDiff, reduceIte] <;> exact rfl) rfl (by simp only [push_cast, env, Nat.reduceEqDiff, reduceIte] <;> exact rfl) (by simp only [push_cast, env, Nat.reduceEqDiff, reduceIte] <;> exact rfl) (get_set_self hg) (by simp only [push_cast, env, Nat.reduceEqDiff, reduceIte] <;> exact rfl) rfl (ic_set (d := dc.setIfInBounds a dc[J]!) (i := J) (x := dc[a]!) (by simpa using hj1)) rfl set_set_heap.symm
        · rfl
        exact StepsA.nil _
      case ht => rfl
      case hF => repeat (first | exact trivial | (refine ⟨.inl ⟨by decide, rfl⟩, ?_⟩) | (refine ⟨.inr ⟨rfl, by simp⟩, ?_⟩))
      show CW _ _ _ _
      repeat (first | apply zs | apply zr | apply zn | ((first | apply zx | apply zy); · simp only [push_cast, env, Nat.reduceEqDiff, reduceIte, Nat.reduceAdd, Nat.reduceMul, Nat.reduceLeDiff, reduceCtorEq, Nat.reduceSub, Int.reduceToNat] <;> first | exact rfl | exact .inl rfl | exact .inr rfl) | apply zq | apply zb | apply zo | apply zk | apply zl)
      refine zc (fn := Try.f78) (by simp only [push_cast, env, Nat.reduceEqDiff, reduceIte] <;> exact rfl) Try.func78 (by kernel_rfl) (by kernel_rfl) ?_
      have hsz : d.size = (Go.Sort.swp dc a J).size := by rw [swp_size, h3]
      rw [List.append_nil, hsz]
      refine (sift_fw (c := c) (root0 := 0) (hi := q) (first := a) (D1.swp hi1 hj1) (by rw [← hsz]; omega) (by omega)).mono ?_
      rintro _ h6 ⟨rfl, k1, k2, k3⟩
      rw [← hsz]
      repeat (first | apply zs | apply zr | apply zn | ((first | apply zx | apply zy); · simp only [push_cast, env, Nat.reduceEqDiff, reduceIte, Nat.reduceAdd, Nat.reduceMul, Nat.reduceLeDiff, reduceCtorEq, Nat.reduceSub, Int.reduceToNat, e4] <;> first | exact rfl | exact .inl rfl | exact .inr rfl) | apply zq | apply zb | apply zo | apply zk | apply zl)
      exact ⟨(q, _, h6), by simp only; omega, (by simp only [push_cast, Nat.reduceEqDiff, reduceIte]), rfl, by simp only; omega, k3.trans hsz.symm, by simp only; rw [k1, h4, set_set_heap, set_set_heap], k2, by simp only; rw [← hun]; exact h5⟩
    · obtain rfl : k = 0 := by omega
      have hend : Go.Sort.heapSort ltI d a b = dc := h5.symm
      rw [show ((0 : Nat) : Int) - 1 = -1 from rfl]
      have d1' : decide (0 ≤ (-1 : Int)) = false := rfl
      repeat (first | apply zs | apply zr | apply zn | ((first | apply zx | apply zy); · simp only [push_cast, env, Nat.reduceEqDiff, reduceIte, Nat.reduceAdd, Nat.reduceMul, Nat.reduceLeDiff, reduceCtorEq, Nat.reduceSub, Int.reduceToNat, d1'] <;> first | exact rfl | exact .inl rfl | exact .inr rfl) | apply zq | apply zb | apply zo | apply zk | apply zl)
      refine cw_condF rfl ?_
      refine cw_exit ?_
      refine ⟨_, (by simp only [push_cast, env, Nat.reduceEqDiff, reduceIte] <;> exact rfl), rfl, ?_⟩
      simp only [hend]
      exact ⟨h4, D1, h3⟩
end Go.Proofs.Ytafncpgiibikcaa

namespace Go.Proofs.Ytafncpgiibikcaa
set_option linter.unusedSimpArgs false
set_option linter.unusedVariables false
set_option maxRecDepth 20000
open Go.RowKit Am Ty

def upE (dc : Array Item) (a : Nat) (x : Item) : Bool := !ltI dc[a]! x
def dnE (dc : Array Item) (a : Nat) (x : Item) : Bool := ltI dc[a]! x
theorem scanUp_step {p : Item → Bool} {d : Array Item} {j i : Nat} (h : i ≤ j) (hp : p d[i]! = true) : Go.Sort.scanUp p d j i = Go.Sort.scanUp p d j (i + 1) := by
  rw [Go.Sort.scanUp, if_pos (by simp [h, hp])]
theorem scanUp_stop {p : Item → Bool} {d : Array Item} {j i : Nat} (h : ¬ (i ≤ j ∧ p d[i]! = true)) : Go.Sort.scanUp p d j i = i := by
  rw [Go.Sort.scanUp, if_neg (by simpa using h)]
theorem scanDown_step {p : Item → Bool} {d : Array Item} {i j : Nat} (h : i ≤ j + 1) (hp : p d[j + 1]! = true) : Go.Sort.scanDown p d i (j + 1) = Go.Sort.scanDown p d i j := by
  rw [Go.Sort.scanDown, if_pos (by simp [h, hp])]
theorem scanDown_stop {p : Item → Bool} {d : Array Item} {i j : Nat} (h : ¬ (i ≤ j ∧ p d[j]! = true)) : Go.Sort.scanDown p d i j = j := by
  cases j with
  | zero => rfl
  | succ j => rw [Go.Sort.scanDown, if_neg (by simpa using h)]
theorem partEq_step {d : Array Item} {a i j i2 j2 : Nat} (h1 : Go.Sort.scanUp (upE d a) d j i = i2) (h2 : Go.Sort.scanDown (dnE d a) d i2 j = j2) (hij : i ≤ j + 2) : Go.Sort.partEqLoop ltI a i j d = if i2 > j2 then (i2, d) else Go.Sort.partEqLoop ltI a (i2 + 1) (j2 - 1) (Go.Sort.swp d i2 j2) := by
  have g1 := Go.Sort.scanUp_ge (upE d a) d j i
  have g2 := Go.Sort.scanDown_le (dnE d a) d i2 j
  rw [h1] at g1
  rw [h2] at g2
  have h1' : Go.Sort.scanUp (fun x => !ltI d[a]! x) d j i = i2 := h1
  have h2' : Go.Sort.scanDown (fun x => ltI d[a]! x) d i2 j = j2 := h2
  rw [Go.Sort.partEqLoop]
  simp only [h1', h2']
  by_cases h : i2 > j2
  · rw [if_pos h, if_pos h]
  · rw [if_neg h, if_neg h, dif_pos (by omega)]
end Go.Proofs.Ytafncpgiibikcaa

namespace Go.Proofs.Ytafncpgiibikcaa
set_option linter.unusedSimpArgs false
set_option linter.unusedVariables false
set_option maxRecDepth 20000
open Go.RowKit Am Ty

set_option maxHeartbeats 8000000 in
theorem parteq_fw {h : Heap} {id ver c a b pv : Nat} {d : Array Item} (D : DA h id ver d) (ha : a ≤ pv) (hpb : pv < b) (hb : b ≤ d.size) :
    FW env 71 [.slice (some ⟨id, 0, some ver⟩) d.size c, i64 a, i64 b, i64 pv, lessV] h fun r h' => r = i64 (Go.Sort.partitionEqual ltI d a b pv).1 ∧ h' = h.set id (.arr (IC (Go.Sort.partitionEqual ltI d a b pv).2) ver true 57) ∧ DA h' id ver (Go.Sort.partitionEqual ltI d a b pv).2 ∧ (Go.Sort.partitionEqual ltI d a b pv).2.size = d.size := by
  have hn := D.n
  refine fw_enter (fn := Try.f71) Try.func71 rfl (by kernel_rfl) (by simp [Try.ntmps71]) ?_; simp only [push_cast]
  repeat (first | apply zs | apply zr | apply zn | ((first | apply zx | apply zy); · simp only [push_cast, env, Nat.reduceEqDiff, reduceIte, Nat.reduceAdd, Nat.reduceMul, Nat.reduceLeDiff, reduceCtorEq, Nat.reduceSub, Int.reduceToNat] <;> first | exact rfl | exact .inl rfl | exact .inr rfl) | apply zq | apply zb | apply zo | apply zk | apply zl)
  have hg := D.g
  have hi1 : a < d.size := by omega
  have hj1 : pv < d.size := by omega
  have g1 := ic_get hi1
  have g0 := ic_get hj1
  have r1 := rng (k := a) (n := d.size) (by omega)
  have r0 := rng (k := pv) (n := d.size) (by omega)
  refine cw_weakL [(0, .val (.slice (some ⟨id, 0, some ver⟩) d.size c)), (1, .val (i64 a)), (2, .val (i64 b)), (3, .val (i64 pv)), (4, .val lessV)] (by simp only [push_cast, Nat.reduceEqDiff, reduceIte]) ?_
  show CW _ _ ⟨_, [], h⟩ _
  apply cw_ordA (L := [[], [], [], [], [], [], [4, 5], [4, 5, 6], [], [], [8, 9], [8, 9, 10], [0, 1], [0, 1, 4, 5, 6, 7, 8, 9, 10, 11, 12], [2, 3], [0, 1, 2, 3, 4, 5, 6, 7, 8, 9, 10, 11, 12, 13, 14]]) (act := [13, 15]) (hs := [h.set id (.arr (IC (d.setIfInBounds a d[pv]!)) ver true 57), h.set id (.arr (IC (Go.Sort.swp d a pv)) ver true 57)]) (resL := [_, _, _, _, _, _, _, _, _, _, _, _, _, _, _, _]) (frF := [(0, .val (.slice (some ⟨id, 0, some ver⟩) d.size c)), (1, .val (i64 a)), (2, .val (i64 b)), (4, .val lessV)])
  case hm => exact mixed
  case hc => kernel_rfl
  case ha => rfl
  case hb => rfl
  case hS =>
    repeat (first | exact StepsA.nil _ | (apply StepsA.cons; (· rfl); (· (first | refine ⟨?_, trivial⟩ | refine ⟨?_, ?_, trivial⟩ | refine ⟨?_, ?_, ?_, trivial⟩ | refine ⟨?_, ?_, ?_, ?_, trivial⟩) <;> (apply zz; simp only [push_cast, env, Nat.reduceEqDiff, reduceIte, Nat.reduceAdd, Nat.reduceMul, Nat.reduceLeDiff, reduceCtorEq, Nat.reduceSub, Int.reduceToNat, hg, g1, g0, r1, r0, Nat.mul_one] <;> exact rfl)); (· rfl)))
    apply StepsA.cons
    · rfl
    · refine ⟨?_, trivial⟩
      exact one_sto (r := .sl .unk) rfl (by simp only [push_cast, env, Nat.reduceEqDiff, reduceIte] <;> exact rfl) rfl (by simp only [push_cast, env, Nat.reduceEqDiff, reduceIte] <;> exact rfl) (by simp only [push_cast, env, Nat.reduceEqDiff, reduceIte] <;> exact rfl) hg (by simp only [push_cast, env, Nat.reduceEqDiff, reduceIte] <;> exact rfl) rfl (ic_set (d := d) (i := a) (x := d[pv]!) hi1) rfl rfl
    · rfl
    repeat (first | exact StepsA.nil _ | (apply StepsA.cons; (· rfl); (· (first | refine ⟨?_, trivial⟩ | refine ⟨?_, ?_, trivial⟩ | refine ⟨?_, ?_, ?_, trivial⟩ | refine ⟨?_, ?_, ?_, ?_, trivial⟩) <;> (apply zz; simp only [push_cast, env, Nat.reduceEqDiff, reduceIte, Nat.reduceAdd, Nat.reduceMul, Nat.reduceLeDiff, reduceCtorEq, Nat.reduceSub, Int.reduceToNat, hg, g1, g0, r1, r0, Nat.mul_one] <;> exact rfl)); (· rfl)))
    apply StepsA.cons
    · rfl
    · refine ⟨?_, trivial⟩
      exact one_sto (r := .sl .unk) rfl (by simp only [push_cast, env, Nat.reduceEqDiff, reduceIte] <;> exact rfl) rfl (by simp only [push_cast, env, Nat.reduceEqDiff, reduceIte] <;> exact rfl) (by simp only [push_cast, env, Nat.reduceEqDiff, reduceIte] <;> exact rfl) (get_set_self hg) (by simp only [push_cast, env, Nat.reduceEqDiff, reduceIte] <;> exact rfl) rfl (ic_set (d := d.setIfInBounds a d[pv]!) (i := pv) (x := d[a]!) (by simpa using hj1)) rfl set_set_heap.symm
    · rfl
    exact StepsA.nil _
  case ht => rfl
  case hF => repeat (first | exact trivial | (refine ⟨.inl ⟨by decide, rfl⟩, ?_⟩) | (refine ⟨.inr ⟨rfl, by simp⟩, ?_⟩))
  show CW _ _ _ _
  have e1 : IntKind.i64.wrap ((a : Int) + 1) = ((a + 1 : Nat) : Int) := by rw [wrap64_id (by omega) (by omega)]; omega
  have e2 : IntKind.i64.wrap ((b : Int) - 1) = ((b - 1 : Nat) : Int) := by rw [wrap64_id (by omega) (by omega)]; omega
  obtain ⟨i0, hi0⟩ : ∃ i0, i0 = a + 1 := ⟨_, rfl⟩
  obtain ⟨j0, hj0⟩ : ∃ j0, j0 = b - 1 := ⟨_, rfl⟩
  rw [← hi0] at e1
  rw [← hj0] at e2
  have D0 := D.swp hi1 hj1
  repeat (first | apply zs | apply zr | apply zn | ((first | apply zx | apply zy); · simp only [push_cast, env, Nat.reduceEqDiff, reduceIte, Nat.reduceAdd, Nat.reduceMul, Nat.reduceLeDiff, reduceCtorEq, Nat.reduceSub, Int.reduceToNat, e1, e2] <;> first | exact rfl | exact .inl rfl | exact .inr rfl) | apply zq | apply zb | apply zo | apply zk | apply zl)
  refine cw_wh (fun x : Nat × Nat × Array Item × Heap => x.2.1 + 3 - x.1) (fun x => [(0, .val (.slice (some ⟨id, 0, some ver⟩) d.size c)), (1, .val (i64 a)), (4, .val lessV), (11, .val (i64 x.1)), (12, .val (i64 x.2.1))]) (fun x => x.2.2.2)
    (fun x => a < x.1 ∧ x.1 ≤ x.2.1 + 2 ∧ x.2.1 < d.size ∧ x.2.2.1.size = d.size ∧ x.2.2.2 = h.set id (.arr (IC x.2.2.1) ver true 57) ∧ DA x.2.2.2 id ver x.2.2.1 ∧ Go.Sort.partEqLoop ltI a x.1 x.2.1 x.2.2.1 = Go.Sort.partitionEqual ltI d a b pv) (i0, j0, Go.Sort.swp d a pv, _) (by simp only [push_cast, Nat.reduceEqDiff, reduceIte]) rfl ⟨by simp only; omega, by simp only; omega, by simp only; omega, swp_size, rfl, D0, by simp only; rw [hi0, hj0]; rfl⟩ ?_
  clear hg g1 g0 D0
  rintro ⟨i, j, dc, hc⟩ ⟨h1, h2, h2', h3, h4, D1, h5⟩
  simp only at h1 h2 h2' h3 h4 D1 h5 ⊢
  have hg := D1.g
  have hac : a < dc.size := by omega
  have ga := ic_get hac
  have ba := D1.b _ hac
  have ra := rng (k := a) (n := d.size) (by omega)
  obtain ⟨i2, hi2⟩ : ∃ i2, Go.Sort.scanUp (upE dc a) dc j i = i2 := ⟨_, rfl⟩
  repeat (first | apply zs | apply zr | apply zn | ((first | apply zx | apply zy); · simp only [push_cast, env, Nat.reduceEqDiff, reduceIte, Nat.reduceAdd, Nat.reduceMul, Nat.reduceLeDiff, reduceCtorEq, Nat.reduceSub, Int.reduceToNat] <;> first | exact rfl | exact .inl rfl | exact .inr rfl) | apply zq | apply zb | apply zo | apply zk | apply zl)
  refine CW.mono (Q := fun e s' => e = .exit 2 ∧ s'.h = hc ∧ i ≤ i2 ∧ i2 ≤ j + 2 ∧ SubL [(0, .val (.slice (some ⟨id, 0, some ver⟩) d.size c)), (1, .val (i64 a)), (4, .val lessV), (11, .val (i64 i2)), (12, .val (i64 j))] s'.fr) ?_ ?_
  · refine cw_wh (fun k : Nat => j + 1 - k) (fun k => [(0, .val (.slice (some ⟨id, 0, some ver⟩) d.size c)), (1, .val (i64 a)), (4, .val lessV), (11, .val (i64 k)), (12, .val (i64 j))]) (fun _ => hc)
      (fun k => i ≤ k ∧ k ≤ j + 2 ∧ Go.Sort.scanUp (upE dc a) dc j k = i2) i (by simp only [push_cast, Nat.reduceEqDiff, reduceIte]) rfl ⟨Nat.le_refl _, h2, hi2⟩ ?_
    rintro k ⟨k1, k2, k3⟩
    by_cases hkj : k ≤ j
    · have d4 : decide ((k : Int) ≤ (j : Int)) = true := decide_eq_true (by omega)
      have hk1 : k < dc.size := by omega
      have gk := ic_get hk1
      have bk := D1.b _ hk1
      have rk := rng (k := k) (n := d.size) (by omega)
      have e4 : IntKind.i64.wrap ((k : Int) + 1) = (k : Int) + 1 := wrap64_id (by omega) (by omega)
      cases hl : ltI dc[a]! dc[k]! with
      | false =>
        have d7 : decide (cmpI dc[a]! dc[k]! < 0) = false := hl
        repeat (first | apply zs | apply zr | apply zn | ((first | apply zx | apply zy); · simp only [push_cast, env, Nat.reduceEqDiff, reduceIte, Nat.reduceAdd, Nat.reduceMul, Nat.reduceLeDiff, reduceCtorEq, Nat.reduceSub, Int.reduceToNat] <;> first | exact rfl | exact .inl rfl | exact .inr rfl) | apply zq | apply zb | apply zo | apply zk | apply zl)
        apply cw_ord0 (L := [[], [], [0, 1], [2], [3], [3], [3], [3, 5, 6], [3, 7], [3], [3], [3, 9, 10], [3, 11], [3, 4, 8, 12], [3, 13], [3, 14], [3, 15]]) (resL := [_, _, _, _, _, _, _, _, _, _, _, _, _, _, _, _, _]) (frF := [(0, .val (.slice (some ⟨id, 0, some ver⟩) d.size c)), (1, .val (i64 a)), (4, .val lessV), (11, .val (i64 k)), (12, .val (i64 j)), (47, .val (.bool true))])
        case hm => exact mixed
        case hc => kernel_rfl
        case hb => rfl
        case hS =>
          repeat (first | exact Steps0.nil _ | (apply Steps0.cons; (· apply zz; simp only [push_cast, env, Nat.reduceEqDiff, reduceIte, Nat.reduceAdd, Nat.reduceMul, Nat.reduceLeDiff, reduceCtorEq, Nat.reduceSub, Int.reduceToNat, d4, hg, ga, gk, ra, rk, Nat.mul_one] <;> exact rfl); (· rfl)))
          apply Steps0.cons
          · exact one_call (fn := Try.f44) (args := [dc[a]!.val, dc[k]!.val]) (cap := []) rfl (by simp only [push_cast, env, Nat.reduceEqDiff, reduceIte, d4] <;> exact rfl) rfl (by simp only [push_cast, env, Nat.reduceEqDiff, reduceIte] <;> exact rfl) (by simp only [push_cast, env, Nat.reduceEqDiff, reduceIte] <;> exact rfl) Try.func44 (by kernel_rfl) (by kernel_rfl) (less7_fw ba bk)
          · rfl
          repeat (first | exact Steps0.nil _ | (apply Steps0.cons; (· apply zz; simp only [push_cast, env, Nat.reduceEqDiff, reduceIte, Nat.reduceAdd, Nat.reduceMul, Nat.reduceLeDiff, reduceCtorEq, Nat.reduceSub, Int.reduceToNat, d7, d4] <;> exact rfl); (· rfl)))
        case ht => rfl
        case hF => repeat (first | exact trivial | (refine ⟨.inl ⟨by decide, rfl⟩, ?_⟩) | (refine ⟨.inr ⟨rfl, by simp⟩, ?_⟩))
        show CW _ _ _ _
        repeat (first | apply zs | apply zr | apply zn | ((first | apply zx | apply zy); · simp only [push_cast, env, Nat.reduceEqDiff, reduceIte, Nat.reduceAdd, Nat.reduceMul, Nat.reduceLeDiff, reduceCtorEq, Nat.reduceSub, Int.reduceToNat] <;> first | exact rfl | exact .inl rfl | exact .inr rfl) | apply zq | apply zb | apply zo | apply zk | apply zl)
        refine cw_condT rfl ?_
        repeat (first | apply zs | apply zr | apply zn | ((first | apply zx | apply zy); · simp only [push_cast, env, Nat.reduceEqDiff, reduceIte, Nat.reduceAdd, Nat.reduceMul, Nat.reduceLeDiff, reduceCtorEq, Nat.reduceSub, Int.reduceToNat, e4] <;> first | exact rfl | exact .inl rfl | exact .inr rfl) | apply zq | apply zb | apply zo | apply zk | apply zl)
        exact ⟨k + 1, by dsimp only; omega, (by simp only [push_cast, Nat.reduceEqDiff, reduceIte]), rfl, by omega, by omega, by rw [← k3]; exact (scanUp_step hkj (by unfold upE; rw [hl]; rfl)).symm⟩
      | true =>
        have d7 : decide (cmpI dc[a]! dc[k]! < 0) = true := hl
        have hst : i2 = k := by rw [← k3]; exact scanUp_stop (by unfold upE; rw [hl]; simp)
        subst hst
        repeat (first | apply zs | apply zr | apply zn | ((first | apply zx | apply zy); · simp only [push_cast, env, Nat.reduceEqDiff, reduceIte, Nat.reduceAdd, Nat.reduceMul, Nat.reduceLeDiff, reduceCtorEq, Nat.reduceSub, Int.reduceToNat] <;> first | exact rfl | exact .inl rfl | exact .inr rfl) | apply zq | apply zb | apply zo | apply zk | apply zl)
        apply cw_ord0 (L := [[], [], [0, 1], [2], [3], [3], [3], [3, 5, 6], [3, 7], [3], [3], [3, 9, 10], [3, 11], [3, 4, 8, 12], [3, 13], [3, 14], [3, 15]]) (resL := [_, _, _, _, _, _, _, _, _, _, _, _, _, _, _, _, _]) (frF := [(0, .val (.slice (some ⟨id, 0, some ver⟩) d.size c)), (1, .val (i64 a)), (4, .val lessV), (11, .val (i64 i2)), (12, .val (i64 j)), (47, .val (.bool false))])
        case hm => exact mixed
        case hc => kernel_rfl
        case hb => rfl
        case hS =>
          repeat (first | exact Steps0.nil _ | (apply Steps0.cons; (· apply zz; simp only [push_cast, env, Nat.reduceEqDiff, reduceIte, Nat.reduceAdd, Nat.reduceMul, Nat.reduceLeDiff, reduceCtorEq, Nat.reduceSub, Int.reduceToNat, d4, hg, ga, gk, ra, rk, Nat.mul_one] <;> exact rfl); (· rfl)))
          apply Steps0.cons
          · exact one_call (fn := Try.f44) (args := [dc[a]!.val, dc[i2]!.val]) (cap := []) rfl (by simp only [push_cast, env, Nat.reduceEqDiff, reduceIte, d4] <;> exact rfl) rfl (by simp only [push_cast, env, Nat.reduceEqDiff, reduceIte] <;> exact rfl) (by simp only [push_cast, env, Nat.reduceEqDiff, reduceIte] <;> exact rfl) Try.func44 (by kernel_rfl) (by kernel_rfl) (less7_fw ba bk)
          · rfl
          repeat (first | exact Steps0.nil _ | (apply Steps0.cons; (· apply zz; simp only [push_cast, env, Nat.reduceEqDiff, reduceIte, Nat.reduceAdd, Nat.reduceMul, Nat.reduceLeDiff, reduceCtorEq, Nat.reduceSub, Int.reduceToNat, d7, d4] <;> exact rfl); (· rfl)))
        case ht => rfl
        case hF => repeat (first | exact trivial | (refine ⟨.inl ⟨by decide, rfl⟩, ?_⟩) | (refine ⟨.inr ⟨rfl, by simp⟩, ?_⟩))
        show CW _ _ _ _
        repeat (first | apply zs | apply zr | apply zn | ((first | apply zx | apply zy); · simp only [push_cast, env, Nat.reduceEqDiff, reduceIte, Nat.reduceAdd, Nat.reduceMul, Nat.reduceLeDiff, reduceCtorEq, Nat.reduceSub, Int.reduceToNat] <;> first | exact rfl | exact .inl rfl | exact .inr rfl) | apply zq | apply zb | apply zo | apply zk | apply zl)
        refine cw_condF rfl ?_
        refine cw_exit ?_
        exact ⟨rfl, rfl, k1, k2, (by simp only [push_cast, Nat.reduceEqDiff, reduceIte])⟩
    · have d4 : decide ((k : Int) ≤ (j : Int)) = false := decide_eq_false (by omega)
      have hst : i2 = k := by rw [← k3]; exact scanUp_stop (by omega)
      subst hst
      repeat (first | apply zs | apply zr | apply zn | ((first | apply zx | apply zy); · simp only [push_cast, env, Nat.reduceEqDiff, reduceIte, Nat.reduceAdd, Nat.reduceMul, Nat.reduceLeDiff, reduceCtorEq, Nat.reduceSub, Int.reduceToNat] <;> first | exact rfl | exact .inl rfl | exact .inr rfl) | apply zq | apply zb | apply zo | apply zk | apply zl)
      apply cw_ord0 (L := [[], [], [0, 1], [2], [3], [3], [3], [3, 5, 6], [3, 7], [3], [3], [3, 9, 10], [3, 11], [3, 4, 8, 12], [3, 13], [3, 14], [3, 15]]) (resL := [_, _, _, _, _, _, _, _, _, _, _, _, _, _, _, _, _]) (frF := [(0, .val (.slice (some ⟨id, 0, some ver⟩) d.size c)), (1, .val (i64 a)), (4, .val lessV), (11, .val (i64 i2)), (12, .val (i64 j)), (47, .val (.bool false))])
      case hm => exact mixed
      case hc => kernel_rfl
      case hb => rfl
      case hS => repeat (first | exact Steps0.nil _ | (apply Steps0.cons; (· apply zz; simp only [push_cast, env, Nat.reduceEqDiff, reduceIte, Nat.reduceAdd, Nat.reduceMul, Nat.reduceLeDiff, reduceCtorEq, Nat.reduceSub, Int.reduceToNat, d4] <;> exact rfl); (· rfl)))
      case ht => rfl
      case hF => repeat (first | exact trivial | (refine ⟨.inl ⟨by decide, rfl⟩, ?_⟩) | (refine ⟨.inr ⟨rfl, by simp⟩, ?_⟩))
      show CW _ _ _ _
      repeat (first | apply zs | apply zr | apply zn | ((first | apply zx | apply zy); · simp only [push_cast, env, Nat.reduceEqDiff, reduceIte, Nat.reduceAdd, Nat.reduceMul, Nat.reduceLeDiff, reduceCtorEq, Nat.reduceSub, Int.reduceToNat] <;> first | exact rfl | exact .inl rfl | exact .inr rfl) | apply zq | apply zb | apply zo | apply zk | apply zl)
      refine cw_condF rfl ?_
      refine cw_exit ?_
      exact ⟨rfl, rfl, k1, k2, (by simp only [push_cast, Nat.reduceEqDiff, reduceIte])⟩
  rintro e s' ⟨rfl, hh, hii, hij2, hf⟩
  show CW _ _ _ _
  refine cw_weakL _ hf ?_
  rw [hh]
  obtain ⟨j2, hj2⟩ : ∃ j2, Go.Sort.scanDown (dnE dc a) dc i2 j = j2 := ⟨_, rfl⟩
  have hstep := partEq_step hi2 hj2 h2
  repeat (first | apply zs | apply zr | apply zn | ((first | apply zx | apply zy); · simp only [push_cast, env, Nat.reduceEqDiff, reduceIte, Nat.reduceAdd, Nat.reduceMul, Nat.reduceLeDiff, reduceCtorEq, Nat.reduceSub, Int.reduceToNat] <;> first | exact rfl | exact .inl rfl | exact .inr rfl) | apply zq | apply zb | apply zo | apply zk | apply zl)
  refine CW.mono (Q := fun e s' => e = .exit 4 ∧ s'.h = hc ∧ j2 ≤ j ∧ i2 ≤ j2 + 2 ∧ SubL [(0, .val (.slice (some ⟨id, 0, some ver⟩) d.size c)), (1, .val (i64 a)), (4, .val lessV), (11, .val (i64 i2)), (12, .val (i64 j2))] s'.fr) ?_ ?_
  · refine cw_wh (fun k : Nat => k) (fun k => [(0, .val (.slice (some ⟨id, 0, some ver⟩) d.size c)), (1, .val (i64 a)), (4, .val lessV), (11, .val (i64 i2)), (12, .val (i64 k))]) (fun _ => hc)
      (fun k => k ≤ j ∧ i2 ≤ k + 2 ∧ Go.Sort.scanDown (dnE dc a) dc i2 k = j2) j (by simp only [push_cast, Nat.reduceEqDiff, reduceIte]) rfl ⟨Nat.le_refl _, hij2, hj2⟩ ?_
    rintro k ⟨k1, k2, k3⟩
    by_cases hkj : i2 ≤ k
    · have d4 : decide ((i2 : Int) ≤ (k : Int)) = true := decide_eq_true (by omega)
      have hk1 : k < dc.size := by omega
      have gk := ic_get hk1
      have bk := D1.b _ hk1
      have rk := rng (k := k) (n := d.size) (by omega)
      obtain ⟨q, hq⟩ : ∃ q, k = q + 1 := ⟨k - 1, by omega⟩
      have e4 : IntKind.i64.wrap ((k : Int) - 1) = (q : Int) := by rw [wrap64_id (by omega) (by omega)]; omega
      cases hl : ltI dc[a]! dc[k]! with
      | true =>
        have d7 : decide (cmpI dc[a]! dc[k]! < 0) = true := hl
        repeat (first | apply zs | apply zr | apply zn | ((first | apply zx | apply zy); · simp only [push_cast, env, Nat.reduceEqDiff, reduceIte, Nat.reduceAdd, Nat.reduceMul, Nat.reduceLeDiff, reduceCtorEq, Nat.reduceSub, Int.reduceToNat] <;> first | exact rfl | exact .inl rfl | exact .inr rfl) | apply zq | apply zb | apply zo | apply zk | apply zl)
        apply cw_ord0 (L := [[], [], [0, 1], [2], [3], [3], [3], [3, 5, 6], [3, 7], [3], [3], [3, 9, 10], [3, 11], [3, 4, 8, 12], [3, 13], [3, 14]]) (resL := [_, _, _, _, _, _, _, _, _, _, _, _, _, _, _, _]) (frF := [(0, .val (.slice (some ⟨id, 0, some ver⟩) d.size c)), (1, .val (i64 a)), (4, .val lessV), (11, .val (i64 i2)), (12, .val (i64 k)), (65, .val (.bool true))])
        case hm => exact mixed
        case hc => kernel_rfl
        case hb => rfl
        case hS =>
          repeat (first | exact Steps0.nil _ | (apply Steps0.cons; (· apply zz; simp only [push_cast, env, Nat.reduceEqDiff, reduceIte, Nat.reduceAdd, Nat.reduceMul, Nat.reduceLeDiff, reduceCtorEq, Nat.reduceSub, Int.reduceToNat, d4, hg, ga, gk, ra, rk, Nat.mul_one] <;> exact rfl); (· rfl)))
          apply Steps0.cons
          · exact one_call (fn := Try.f44) (args := [dc[a]!.val, dc[k]!.val]) (cap := []) rfl (by simp only [push_cast, env, Nat.reduceEqDiff, reduceIte, d4] <;> exact rfl) rfl (by simp only [push_cast, env, Nat.reduceEqDiff, reduceIte] <;> exact rfl) (by simp only [push_cast, env, Nat.reduceEqDiff, reduceIte] <;> exact rfl) Try.func44 (by kernel_rfl) (by kernel_rfl) (less7_fw ba bk)
          · rfl
          repeat (first | exact Steps0.nil _ | (apply Steps0.cons; (· apply zz; simp only [push_cast, env, Nat.reduceEqDiff, reduceIte, Nat.reduceAdd, Nat.reduceMul, Nat.reduceLeDiff, reduceCtorEq, Nat.reduceSub, Int.reduceToNat, d7, d4] <;> exact rfl); (· rfl)))
        case ht => rfl
        case hF => repeat (first | exact trivial | (refine ⟨.inl ⟨by decide, rfl⟩, ?_⟩) | (refine ⟨.inr ⟨rfl, by simp⟩, ?_⟩))
        show CW _ _ _ _
        repeat (first | apply zs | apply zr | apply zn | ((first | apply zx | apply zy); · simp only [push_cast, env, Nat.reduceEqDiff, reduceIte, Nat.reduceAdd, Nat.reduceMul, Nat.reduceLeDiff, reduceCtorEq, Nat.reduceSub, Int.reduceToNat] <;> first | exact rfl | exact .inl rfl | exact .inr rfl) | apply zq | apply zb | apply zo | apply zk | apply zl)
        refine cw_condT rfl ?_
        repeat (first | apply zs | apply zr | apply zn | ((first | apply zx | apply zy); · simp only [push_cast, env, Nat.reduceEqDiff, reduceIte, Nat.reduceAdd, Nat.reduceMul, Nat.reduceLeDiff, reduceCtorEq, Nat.reduceSub, Int.reduceToNat, e4] <;> first | exact rfl | exact .inl rfl | exact .inr rfl) | apply zq | apply zb | apply zo | apply zk | apply zl)
        refine ⟨q, by dsimp only; omega, (by simp only [push_cast, Nat.reduceEqDiff, reduceIte]), rfl, by omega, by omega, ?_⟩
        rw [← k3, hq]
        refine (scanDown_step (by omega) ?_).symm
        rw [← hq]
        exact hl
      | false =>
        have d7 : decide (cmpI dc[a]! dc[k]! < 0) = false := hl
        have hst : j2 = k := by rw [← k3]; exact scanDown_stop (by unfold dnE; rw [hl]; simp)
        subst hst
        repeat (first | apply zs | apply zr | apply zn | ((first | apply zx | apply zy); · simp only [push_cast, env, Nat.reduceEqDiff, reduceIte, Nat.reduceAdd, Nat.reduceMul, Nat.reduceLeDiff, reduceCtorEq, Nat.reduceSub, Int.reduceToNat] <;> first | exact rfl | exact .inl rfl | exact .inr rfl) | apply zq | apply zb | apply zo | apply zk | apply zl)
        apply cw_ord0 (L := [[], [], [0, 1], [2], [3], [3], [3], [3, 5, 6], [3, 7], [3], [3], [3, 9, 10], [3, 11], [3, 4, 8, 12], [3, 13], [3, 14]]) (resL := [_, _, _, _, _, _, _, _, _, _, _, _, _, _, _, _]) (frF := [(0, .val (.slice (some ⟨id, 0, some ver⟩) d.size c)), (1, .val (i64 a)), (4, .val lessV), (11, .val (i64 i2)), (12, .val (i64 j2)), (65, .val (.bool false))])
        case hm => exact mixed
        case hc => kernel_rfl
        case hb => rfl
        case hS =>
          repeat (first | exact Steps0.nil _ | (apply Steps0.cons; (· apply zz; simp only [push_cast, env, Nat.reduceEqDiff, reduceIte, Nat.reduceAdd, Nat.reduceMul, Nat.reduceLeDiff, reduceCtorEq, Nat.reduceSub, Int.reduceToNat, d4, hg, ga, gk, ra, rk, Nat.mul_one] <;> exact rfl); (· rfl)))
          apply Steps0.cons
          · exact one_call (fn := Try.f44) (args := [dc[a]!.val, dc[j2]!.val]) (cap := []) rfl (by simp only [push_cast, env, Nat.reduceEqDiff, reduceIte, d4] <;> exact rfl) rfl (by simp only [push_cast, env, Nat.reduceEqDiff, reduceIte] <;> exact rfl) (by simp only [push_cast, env, Nat.reduceEqDiff, reduceIte] <;> exact rfl) Try.func44 (by kernel_rfl) (by kernel_rfl) (less7_fw ba bk)
          · rfl
          repeat (first | exact Steps0.nil _ | (apply Steps0.cons; (· apply zz; simp only [push_cast, env, Nat.reduceEqDiff, reduceIte, Nat.reduceAdd, Nat.reduceMul, Nat.reduceLeDiff, reduceCtorEq, Nat.reduceSub, Int.reduceToNat, d7, d4] <;> exact rfl); (· rfl)))
        case ht => rfl
        case hF => repeat (first | exact trivial | (refine ⟨.inl ⟨by decide, rfl⟩, ?_⟩) | (refine ⟨.inr ⟨rfl, by simp⟩, ?_⟩))
        show CW _ _ _ _
        repeat (first | apply zs | apply zr | apply zn | ((first | apply zx | apply zy); · simp only [push_cast, env, Nat.reduceEqDiff, reduceIte, Nat.reduceAdd, Nat.reduceMul, Nat.reduceLeDiff, reduceCtorEq, Nat.reduceSub, Int.reduceToNat] <;> first | exact rfl | exact .inl rfl | exact .inr rfl) | apply zq | apply zb | apply zo | apply zk | apply zl)
        refine cw_condF rfl ?_
        refine cw_exit ?_
        exact ⟨rfl, rfl, k1, k2, (by simp only [push_cast, Nat.reduceEqDiff, reduceIte])⟩
    · have d4 : decide ((i2 : Int) ≤ (k : Int)) = false := decide_eq_false (by omega)
      have hst : j2 = k := by rw [← k3]; exact scanDown_stop (by omega)
      subst hst
      repeat (first | apply zs | apply zr | apply zn | ((first | apply zx | apply zy); · simp only [push_cast, env, Nat.reduceEqDiff, reduceIte, Nat.reduceAdd, Nat.reduceMul, Nat.reduceLeDiff, reduceCtorEq, Nat.reduceSub, Int.reduceToNat] <;> first | exact rfl | exact .inl rfl | exact .inr rfl) | apply zq | apply zb | apply zo | apply zk | apply zl)
      apply cw_ord0 (L := [[], [], [0, 1], [2], [3], [3], [3], [3, 5, 6], [3, 7], [3], [3], [3, 9, 10], [3, 11], [3, 4, 8, 12], [3, 13], [3, 14]]) (resL := [_, _, _, _, _, _, _, _, _, _, _, _, _, _, _, _]) (frF := [(0, .val (.slice (some ⟨id, 0, some ver⟩) d.size c)), (1, .val (i64 a)), (4, .val lessV), (11, .val (i64 i2)), (12, .val (i64 j2)), (65, .val (.bool false))])
      case hm => exact mixed
      case hc => kernel_rfl
      case hb => rfl
      case hS => repeat (first | exact Steps0.nil _ | (apply Steps0.cons; (· apply zz; simp only [push_cast, env, Nat.reduceEqDiff, reduceIte, Nat.reduceAdd, Nat.reduceMul, Nat.reduceLeDiff, reduceCtorEq, Nat.reduceSub, Int.reduceToNat, d4] <;> exact rfl); (· rfl)))
      case ht => rfl
      case hF => repeat (first | exact trivial | (refine ⟨.inl ⟨by decide, rfl⟩, ?_⟩) | (refine ⟨.inr ⟨rfl, by simp⟩, ?_⟩))
      show CW _ _ _ _
      repeat (first | apply zs | apply zr | apply zn | ((first | apply zx | apply zy); · simp only [push_cast, env, Nat.reduceEqDiff, reduceIte, Nat.reduceAdd, Nat.reduceMul, Nat.reduceLeDiff, reduceCtorEq, Nat.reduceSub, Int.reduceToNat] <;> first | exact rfl | exact .inl rfl | exact .inr rfl) | apply zq | apply zb | apply zo | apply zk | apply zl)
      refine cw_condF rfl ?_
      refine cw_exit ?_
      exact ⟨rfl, rfl, k1, k2, (by simp only [push_cast, Nat.reduceEqDiff, reduceIte])⟩
  rintro e s' ⟨rfl, hh, hjj, hij3, hf⟩
  show CW _ _ _ _
  refine cw_weakL _ hf ?_
  rw [hh]
  by_cases hgt : j2 < i2
  · have d5 : decide ((j2 : Int) < (i2 : Int)) = true := decide_eq_true (by omega)
    rw [if_pos hgt, h5] at hstep
    repeat (first | apply zs | apply zr | apply zn | ((first | apply zx | apply zy); · simp only [push_cast, env, Nat.reduceEqDiff, reduceIte, Nat.reduceAdd, Nat.reduceMul, Nat.reduceLeDiff, reduceCtorEq, Nat.reduceSub, Int.reduceToNat, d5] <;> first | exact rfl | exact .inl rfl | exact .inr rfl) | apply zq | apply zb | apply zo | apply zk | apply zl)
    refine cw_condT rfl ?_
    refine cw_exit ?_
    show CW _ _ _ _
    repeat (first | apply zs | apply zr | apply zn | ((first | apply zx | apply zy); · simp only [push_cast, env, Nat.reduceEqDiff, reduceIte, Nat.reduceAdd, Nat.reduceMul, Nat.reduceLeDiff, reduceCtorEq, Nat.reduceSub, Int.reduceToNat] <;> first | exact rfl | exact .inl rfl | exact .inr rfl) | apply zq | apply zb | apply zo | apply zk | apply zl)
    refine cw_ret ?_
    refine ⟨_, (by simp only [push_cast, env, Nat.reduceEqDiff, reduceIte] <;> exact rfl), by rw [hstep]; rfl, ?_⟩
    simp only [hstep]
    exact ⟨h4, D1, h3⟩
  · have d5 : decide ((j2 : Int) < (i2 : Int)) = false := decide_eq_false (by omega)
    rw [if_neg hgt, h5] at hstep
    have hx1 : i2 < dc.size := by omega
    have hy1 : j2 < dc.size := by omega
    have gx := ic_get hx1
    have gy := ic_get hy1
    have rx := rng (k := i2) (n := d.size) (by omega)
    have ry := rng (k := j2) (n := d.size) (by omega)
    have e6 : IntKind.i64.wrap ((i2 : Int) + 1) = (i2 : Int) + 1 := wrap64_id (by omega) (by omega)
    obtain ⟨q, hq⟩ : ∃ q, q = j2 - 1 := ⟨_, rfl⟩
    have e7 : IntKind.i64.wrap ((j2 : Int) - 1) = (q : Int) := by rw [wrap64_id (by omega) (by omega)]; omega
    rw [← hq] at hstep
    repeat (first | apply zs | apply zr | apply zn | ((first | apply zx | apply zy); · simp only [push_cast, env, Nat.reduceEqDiff, reduceIte, Nat.reduceAdd, Nat.reduceMul, Nat.reduceLeDiff, reduceCtorEq, Nat.reduceSub, Int.reduceToNat, d5] <;> first | exact rfl | exact .inl rfl | exact .inr rfl) | apply zq | apply zb | apply zo | apply zk | apply zl)
    refine cw_condF rfl ?_
    repeat (first | apply zs | apply zr | apply zn | ((first | apply zx | apply zy); · simp only [push_cast, env, Nat.reduceEqDiff, reduceIte, Nat.reduceAdd, Nat.reduceMul, Nat.reduceLeDiff, reduceCtorEq, Nat.reduceSub, Int.reduceToNat] <;> first | exact rfl | exact .inl rfl | exact .inr rfl) | apply zq | apply zb | apply zo | apply zk | apply zl)
    refine cw_weakL [(0, .val (.slice (some ⟨id, 0, some ver⟩) d.size c)), (1, .val (i64 a)), (4, .val lessV), (11, .val (i64 i2)), (12, .val (i64 j2))] (by simp only [push_cast, Nat.reduceEqDiff, reduceIte]) ?_
    show CW _ _ ⟨_, [], hc⟩ _
    apply cw_ordA (L := [[], [], [], [], [], [], [4, 5], [4, 5, 6], [], [], [8, 9], [8, 9, 10], [0, 1], [0, 1, 4, 5, 6, 7, 8, 9, 10, 11, 12], [2, 3], [0, 1, 2, 3, 4, 5, 6, 7, 8, 9, 10, 11, 12, 13, 14]]) (act := [13, 15]) (hs := [hc.set id (.arr (IC (dc.setIfInBounds i2 dc[j2]!)) ver true 57), hc.set id (.arr (IC (Go.Sort.swp dc i2 j2)) ver true 57)]) (resL := [_, _, _, _, _, _, _, _, _, _, _, _, _, _, _, _]) (frF := [(0, .val (.slice (some ⟨id, 0, some ver⟩) d.size c)), (1, .val (i64 a)), (4, .val lessV), (11, .val (i64 i2)), (12, .val (i64 j2))])
    case hm => exact mixed
    case hc => kernel_rfl
    case ha => rfl
    case hb => rfl
    case hS =>
      repeat (first | exact StepsA.nil _ | (apply StepsA.cons; (· rfl); (· (first | refine ⟨?_, trivial⟩ | refine ⟨?_, ?_, trivial⟩ | refine ⟨?_, ?_, ?_, trivial⟩ | refine ⟨?_, ?_, ?_, ?_, trivial⟩) <;> (apply zz; simp only [push_cast, env, Nat.reduceEqDiff, reduceIte, Nat.reduceAdd, Nat.reduceMul, Nat.reduceLeDiff, reduceCtorEq, Nat.reduceSub, Int.reduceToNat, hg, gx, gy, rx, ry, Nat.mul_one] <;> exact rfl)); (· rfl)))
      apply StepsA.cons
      · rfl
      · refine ⟨?_, trivial⟩
        exact one_sto (r := .sl .unk) rfl (by simp only [push_cast, env, Nat.reduceEqDiff, reduceIte] <;> exact rfl) rfl (by simp only [push_cast, env, Nat.reduceEqDiff, reduceIte] <;> exact rfl) (by simp only [push_cast, env, Nat.reduceEqDiff, reduceIte] <;> exact rfl) hg (by simp only [push_cast, env, Nat.reduceEqDiff, reduceIte] <;> exact rfl) rfl (ic_set (d := dc) (i := i2) (x := dc[j2]!) hx1) rfl rfl
      · rfl
      repeat (first | exact StepsA.nil _ | (apply StepsA.cons; (· rfl); (· (first | refine ⟨?_, trivial⟩ | refine ⟨?_, ?_, trivial⟩ | refine ⟨?_, ?_, ?_, trivial⟩ | refine ⟨?_, ?_, ?_, ?_, trivial⟩) <;> (apply zz; simp only [push_cast, env, Nat.reduceEqDiff, reduceIte, Nat.reduceAdd, Nat.reduceMul, Nat.reduceLeDiff, reduceCtorEq, Nat.reduceSub, Int.reduceToNat, hg, gx, gy, rx, ry, Nat.mul_one] <;> exact rfl)); (· rfl)))
      apply StepsA.cons
      · rfl
      · refine ⟨?_, trivial⟩
        exact one_sto (r := .sl .unk) rfl (by simp only [push_cast, env, Nat.reduceEqDiff, reduceIte] <;> exact rfl) rfl (by simp only [push_cast, env, Nat.reduceEqDiff, reduceIte] <;> exact rfl) (by simp only [push_cast, env, Nat.reduceEqDiff, reduceIte] <;> exact rfl) (get_set_self hg) (by simp only [push_cast, env, Nat.reduceEqDiff, reduceIte] <;> exact rfl) rfl (ic_set (d := dc.setIfInBounds i2 dc[j2]!) (i := j2) (x := dc[i2]!) (by simpa using hy1)) rfl set_set_heap.symm
      · rfl
      exact StepsA.nil _
    case ht => rfl
    case hF => repeat (first | exact trivial | (refine ⟨.inl ⟨by decide, rfl⟩, ?_⟩) | (refine ⟨.inr ⟨rfl, by simp⟩, ?_⟩))
    show CW _ _ _ _
    repeat (first | apply zs | apply zr | apply zn | ((first | apply zx | apply zy); · simp only [push_cast, env, Nat.reduceEqDiff, reduceIte, Nat.reduceAdd, Nat.reduceMul, Nat.reduceLeDiff, reduceCtorEq, Nat.reduceSub, Int.reduceToNat, e6, e7] <;> first | exact rfl | exact .inl rfl | exact .inr rfl) | apply zq | apply zb | apply zo | apply zk | apply zl)
    exact ⟨(i2 + 1, q, Go.Sort.swp dc i2 j2, _), by simp only; omega, (by simp only [push_cast, Nat.reduceEqDiff, reduceIte]), rfl, by simp only; omega, by simp only; omega, by simp only; omega, by simp only; rw [swp_size]; exact h3, by simp only; rw [h4, set_set_heap], D1.swp hx1 hy1, hstep.symm⟩
end Go.Proofs.Ytafncpgiibikcaa
