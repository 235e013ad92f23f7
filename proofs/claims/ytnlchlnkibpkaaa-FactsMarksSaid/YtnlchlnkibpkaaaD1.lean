/- Grammars as data, and how they lie in the abstract machine's heap; loops that count; slices that are appended to. -/
import Derived.Test.YtnlchlnkibpkaaaTy
namespace Go.Proofs.Ytnlchlnkibpkaaa
set_option linter.unusedSimpArgs false
set_option linter.unusedVariables false
open Go.RowKit Am Ty

structure BSet where
  a : Int
  b : Int
  c : Int
  d : Int
  deriving DecidableEq
structure KSym where
  nt : Int
  set : BSet
  deriving DecidableEq
structure Rule where
  lhs : Int
  rhs : List KSym
  deriving DecidableEq
structure Gram where
  nts : Int
  start : Int
  rules : List Rule
  deriving DecidableEq

def chkSet : List Value → Bool
  | [.int .u64 _, .int .u64 _, .int .u64 _, .int .u64 _] => true
  | _ => false
def chkSym : List Value → Bool
  | [.int .i64 _, .int .u64 _, .int .u64 _, .int .u64 _, .int .u64 _] => true
  | _ => false
noncomputable def env : Env := ⟨Try.prog, fun t => if t = 45 then some chkSet else if t = 56 then some chkSym else none⟩
@[push_cast] theorem env_P : env.P = Try.prog := rfl
@[push_cast] theorem env_eqs : env.eqs 45 = some chkSet := rfl
@[push_cast] theorem env_eqs2 : env.eqs 56 = some chkSym := rfl

abbrev i64 (n : Int) : Value := .int .i64 n
abbrev u64 (n : Int) : Value := .int .u64 n
def BSet.cells (s : BSet) : List Value := [.int .u64 s.a, .int .u64 s.b, .int .u64 s.c, .int .u64 s.d]
def KSym.cells (s : KSym) : List Value := [.int .i64 s.nt, .int .u64 s.set.a, .int .u64 s.set.b, .int .u64 s.set.c, .int .u64 s.set.d]

/-- a slice that is read: n elements whose cells are these -/
def SlR (h : Heap) (v : Value) (n : Nat) (cells : List Value) (et : TypeId) (b : Nat) : Prop :=
  n * b ≤ 140737488355328 ∧ (((v = .slice none 0 0 ∨ v = .slice (some ⟨0, 0, none⟩) 0 0) ∧ n = 0 ∧ cells = []) ∨ ∃ id ver own c, v = .slice (some ⟨id, 0, some ver⟩) n c ∧ h[id]? = some (.arr cells ver own et))
section
variable {h h' : Heap} {v : Value} {n b : Nat} {cells : List Value} {et : TypeId}
theorem SlR.at (hs : SlR h v n cells et b) (hn : 0 < n) : ∃ id ver own c, v = .slice (some ⟨id, 0, some ver⟩) n c ∧ h[id]? = some (.arr cells ver own et) := by
  rcases hs.2 with ⟨_, h0, _⟩ | hs
  · omega
  · exact hs
theorem SlR.form (hs : SlR h v n cells et b) : ∃ p c, v = .slice p n c := by
  rcases hs.2 with ⟨rfl | rfl, rfl, _⟩ | ⟨_, _, _, c, rfl, _⟩
  · exact ⟨_, _, rfl⟩
  · exact ⟨_, _, rfl⟩
  · exact ⟨_, c, rfl⟩
theorem getElem?_of_prefix {α : Type} {l l' : List α} (hp : l <+: l') {i : Nat} {x : α} (hx : l[i]? = some x) : l'[i]? = some x := by
  obtain ⟨t, rfl⟩ := hp
  have : i < l.length := (List.getElem?_eq_some_iff.1 hx).1
  rw [List.getElem?_append_left this]
  exact hx
theorem SlR.mono (hs : SlR h v n cells et b) (hp : h <+: h') : SlR h' v n cells et b := by
  refine ⟨hs.1, ?_⟩
  rcases hs.2 with hs | ⟨id, ver, own, c, h1, h2⟩
  · exact .inl hs
  · exact .inr ⟨id, ver, own, c, h1, getElem?_of_prefix hp h2⟩
end
/-- lists of numbers, bools, sets, symbols, rules -/
def RdInts (h : Heap) (v : Value) (l : List Int) : Prop := SlR h v l.length (l.map i64) 3 8
def RdBools (h : Heap) (v : Value) (l : List Bool) : Prop := SlR h v l.length (l.map .bool) 4 1
def RdSets (h : Heap) (v : Value) (l : List BSet) : Prop := SlR h v l.length (l.flatMap BSet.cells) 45 32
def RdSyms (h : Heap) (v : Value) (l : List KSym) : Prop := SlR h v l.length (l.flatMap KSym.cells) 56 40
def RdRules (h : Heap) (v : Value) (l : List Rule) : Prop :=
  ∃ us : List Value, us.length = l.length ∧ SlR h v l.length ((l.zip us).flatMap fun p => [i64 p.1.lhs, p.2]) 48 32 ∧ ∀ (i : Nat) (r : Rule) (u : Value), l[i]? = some r → us[i]? = some u → RdSyms h u r.rhs
def RdGram (h : Heap) (v : Value) (g : Gram) : Prop := ∃ u, v = .agg #[i64 g.nts, i64 g.start, u] ∧ RdRules h u g.rules

/-! ### cells of lists of elements of one size -/
theorem rdH_flatMap {α : Type} {f : α → List Value} {k : Nat} (hf : ∀ x, (f x).length = k) : ∀ (l : List α) (i : Nat) (x : α), l[i]? = some x → rdH (l.flatMap f) (i * k) k = some (f x)
  | [], i, x, h => by simp at h
  | y :: l, 0, x, h => by
    simp only [List.getElem?_cons_zero, Option.some.injEq] at h
    subst h
    simp only [rdH, rdC, List.flatMap_cons, Nat.zero_mul, Nat.zero_add, List.drop_zero, List.length_append, hf]
    rw [if_pos (by omega), List.take_left' (hf y)]
  | y :: l, i + 1, x, h => by
    have ih := rdH_flatMap hf l i x (by simpa using h)
    simp only [rdH, rdC, List.flatMap_cons, List.length_append, hf] at ih ⊢
    rw [Nat.succ_mul]
    split at ih
    · rename_i hle
      rw [if_pos (by omega)]
      rw [show i * k + k = (f y).length + i * k from by rw [hf]; omega, List.drop_length_add_append]
      exact ih
    · cases ih
theorem RdInts.get {h : Heap} {v : Value} {l : List Int} {i : Nat} (hi : i < l.length) : (l.map i64)[i]? = some (i64 l[i]) := by simp [hi]
theorem RdBools.get {l : List Bool} {i : Nat} (hi : i < l.length) : (l.map Value.bool)[i]? = some (.bool l[i]) := by simp [hi]
theorem syms_get {l : List KSym} {i : Nat} (hi : i < l.length) : rdH (l.flatMap KSym.cells) (i * 5) 5 = some l[i].cells := rdH_flatMap (f := KSym.cells) (fun _ => rfl) l i l[i] (by simp [hi])
theorem sets_get {l : List BSet} {i : Nat} (hi : i < l.length) : rdH (l.flatMap BSet.cells) (i * 4) 4 = some l[i].cells := rdH_flatMap (f := BSet.cells) (fun _ => rfl) l i l[i] (by simp [hi])
theorem rules_get {l : List Rule} {us : List Value} (hl : us.length = l.length) {i : Nat} (hi : i < l.length) :
    rdH ((l.zip us).flatMap fun p => [i64 p.1.lhs, p.2]) (i * 2) 2 = some [i64 l[i].lhs, us[i]'(hl ▸ hi)] := by
  refine rdH_flatMap (f := fun p : Rule × Value => [i64 p.1.lhs, p.2]) (fun _ => rfl) (l.zip us) i (l[i], us[i]'(hl ▸ hi)) ?_
  simp [List.getElem?_zip_eq_some, hi, hl ▸ hi]
/-- a rule of a grammar that is read: what an element's load yields -/
theorem RdRules.at {h : Heap} {v : Value} {l : List Rule} (hr : RdRules h v l) {i : Nat} (hi : i < l.length) :
    ∃ id ver own c cells p n c', v = .slice (some ⟨id, 0, some ver⟩) l.length c ∧ h[id]? = some (.arr cells ver own 48) ∧ n = l[i].rhs.length ∧
      rdH cells (i * 2) 2 = some [i64 l[i].lhs, .slice p n c'] ∧ RdSyms h (.slice p n c') l[i].rhs := by
  obtain ⟨us, hl, hs, hu⟩ := hr
  obtain ⟨id, ver, own, c, rfl, hid⟩ := hs.at (by omega)
  have hi' : i < us.length := hl ▸ hi
  have hS := hu i l[i] us[i] (by simp [hi]) (by simp [hi'])
  obtain ⟨p, c', hp⟩ := hS.form
  refine ⟨id, ver, own, c, _, p, l[i].rhs.length, c', rfl, hid, rfl, ?_, ?_⟩
  · rw [← hp]
    exact rules_get hl hi
  · rw [← hp]
    exact hS
theorem RdRules.form {h : Heap} {v : Value} {l : List Rule} (hr : RdRules h v l) : ∃ p c, v = .slice p l.length c := by
  obtain ⟨_, _, hs, _⟩ := hr
  exact hs.form
theorem RdRules.le {h : Heap} {v : Value} {l : List Rule} (hr : RdRules h v l) : l.length ≤ 140737488355328 := by
  obtain ⟨_, _, hs, _⟩ := hr
  have := hs.1
  omega
theorem RdSyms.le {h : Heap} {v : Value} {l : List KSym} (hr : RdSyms h v l) : l.length ≤ 140737488355328 := by
  have := hr.1
  omega
theorem RdRules.mono {h h' : Heap} {v : Value} {l : List Rule} (hr : RdRules h v l) (hp : h <+: h') : RdRules h' v l := by
  obtain ⟨us, hl, hs, hu⟩ := hr
  exact ⟨us, hl, hs.mono hp, fun i r u h1 h2 => (hu i r u h1 h2).mono hp⟩
theorem RdGram.mono {h h' : Heap} {v : Value} {g : Gram} (hr : RdGram h v g) (hp : h <+: h') : RdGram h' v g := by
  obtain ⟨u, rfl, hu⟩ := hr
  exact ⟨u, rfl, hu.mono hp⟩
/-- a symbol of a rule that is read -/
theorem RdSyms.at {h : Heap} {v : Value} {l : List KSym} (hr : RdSyms h v l) {i : Nat} (hi : i < l.length) :
    ∃ id ver own c cells, v = .slice (some ⟨id, 0, some ver⟩) l.length c ∧ h[id]? = some (.arr cells ver own 56) ∧ rdH cells (i * 5) 5 = some [i64 l[i].nt, u64 l[i].set.a, u64 l[i].set.b, u64 l[i].set.c, u64 l[i].set.d] := by
  obtain ⟨id, ver, own, c, rfl, hid⟩ := SlR.at hr (by omega)
  exact ⟨id, ver, own, c, _, rfl, hid, syms_get hi⟩
theorem RdInts.at {h : Heap} {v : Value} {l : List Int} (hr : RdInts h v l) {i : Nat} (hi : i < l.length) :
    ∃ id ver own c cells, v = .slice (some ⟨id, 0, some ver⟩) l.length c ∧ h[id]? = some (.arr cells ver own 3) ∧ cells[i]? = some (i64 l[i]) := by
  obtain ⟨id, ver, own, c, rfl, hid⟩ := SlR.at hr (by omega)
  exact ⟨id, ver, own, c, _, rfl, hid, by simp [hi]⟩
theorem RdBools.at {h : Heap} {v : Value} {l : List Bool} (hr : RdBools h v l) {i : Nat} (hi : i < l.length) :
    ∃ id ver own c cells, v = .slice (some ⟨id, 0, some ver⟩) l.length c ∧ h[id]? = some (.arr cells ver own 4) ∧ cells[i]? = some (.bool l[i]) := by
  obtain ⟨id, ver, own, c, rfl, hid⟩ := SlR.at hr (by omega)
  exact ⟨id, ver, own, c, _, rfl, hid, by simp [hi]⟩
theorem RdSets.at {h : Heap} {v : Value} {l : List BSet} (hr : RdSets h v l) {i : Nat} (hi : i < l.length) :
    ∃ id ver own c cells, v = .slice (some ⟨id, 0, some ver⟩) l.length c ∧ h[id]? = some (.arr cells ver own 45) ∧ rdH cells (i * 4) 4 = some [u64 l[i].a, u64 l[i].b, u64 l[i].c, u64 l[i].d] := by
  obtain ⟨id, ver, own, c, rfl, hid⟩ := SlR.at hr (by omega)
  exact ⟨id, ver, own, c, _, rfl, hid, sets_get hi⟩

/-! ### a loop that counts -/
def forK (n k : Nat) (F : Nat → Fr) (H : Nat → Heap) (I : Nat → Prop) (Q : AX → St → Prop) : AX → St → Prop
  | .normal, s => k < n ∧ SubL (F (k + 1)) s.fr ∧ s.h = H (k + 1) ∧ I (k + 1)
  | e, s => Q e s
theorem cw_for {N : Env} {c : Code} {s : St} {Q : AX → St → Prop} (n : Nat) (F : Nat → Fr) (H : Nat → Heap) (I : Nat → Prop) (h0 : SubL (F 0) s.fr) (hh : s.h = H 0) (hI : I 0)
    (hs : ∀ k, k ≤ n → I k → CW N c ⟨F k, [], H k⟩ (forK n k F H I Q)) : CW N (.loop c) s Q := by
  refine cw_loop (fun m s => ∃ k, m = n - k ∧ k ≤ n ∧ SubL (F k) s.fr ∧ s.h = H k ∧ I k) n ⟨0, rfl, Nat.zero_le _, h0, hh, hI⟩ ?_
  rintro m s ⟨k, rfl, hk, hf, hh, hI⟩
  refine cw_weakL _ hf ?_
  rw [hh]
  refine (hs k hk hI).mono fun e s' hq => ?_
  cases e with
  | normal =>
    obtain ⟨h1, h2, h3, h4⟩ := hq
    exact ⟨n - (k + 1), by omega, k + 1, rfl, by omega, h2, h3, h4⟩
  | exit id => exact hq
  | ret => exact hq
theorem lt_dec {k n : Nat} (h : k < n) : decide ((k : Int) < (n : Int)) = true := by simp [h]
theorem ge_dec {k n : Nat} (h : ¬ k < n) : decide ((k : Int) < (n : Int)) = false := by simp; omega
theorem rng {k n : Nat} (h : k < n) : (0 ≤ (k : Int) ∧ (k : Int) < (n : Int)) = True := by simp; omega
theorem inc {k : Nat} {n : Nat} (h : k < n) (hn : n ≤ 140737488355328) : IntKind.i64.wrap ((k : Int) + 1) = (k : Int) + 1 := wrap64_id (by omega) (by omega)
end Go.Proofs.Ytnlchlnkibpkaaa
