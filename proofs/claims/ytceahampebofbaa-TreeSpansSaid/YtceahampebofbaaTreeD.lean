/- What functions of this program do, on plain values: a part of the proofs of this seat's laws; each theorem bears its own conditions. -/
import Derived.Test.YtceahampebofbaaTreeC
set_option linter.unusedVariables false
set_option linter.unusedSimpArgs false
set_option maxRecDepth 1000000
namespace Go.Proofs.Ytceahampebofbaa.Moi.Tree
open Go Go.RowKit Go.Proofs.Ytceahampebofbaa.Moi
attribute [-wf_preprocess] ite_eq_dite forIn_eq_forIn'

/-! ### Places by names -/
def fnd (l : List Nd) (s : ByteArray) : Option Nat := l.findIdx? fun p => decide (p.1 = s)
def plF : Nat → List Nd → List (Value × AV)
  | _, [] => []
  | k, p :: l => (.string p.1, iv k) :: plF (k + 1) l
def pl (l : List Nd) : List (Value × AV) := plF 0 l
theorem fnd_cons {p : Nd} {l : List Nd} {s : ByteArray} : fnd (p :: l) s = if p.1 = s then some 0 else (fnd l s).map (· + 1) := by
  unfold fnd
  rw [List.findIdx?_cons]
  by_cases h : p.1 = s <;> simp [h]
theorem amGet_pl {s : ByteArray} : ∀ {l : List Nd} {k : Nat}, amGet (.string s) (plF k l) = (fnd l s).map fun i => iv ((k + i : Nat) : Int)
  | [], _ => rfl
  | p :: l, k => by
    rw [plF, amGet, fnd_cons, amGet_pl]
    by_cases h : p.1 = s
    · rw [if_pos h, if_pos (by simp [keyEq, h])]; rfl
    · rw [if_neg h, if_neg (by simp only [keyEq, decide_eq_true_eq]; exact fun e => h e.symm)]
      cases fnd l s with
      | none => rfl
      | some i =>
        simp only [Option.map_some]
        rw [show k + 1 + i = k + (i + 1) by omega]
theorem amPut_pl {s : ByteArray} {x : AV} : ∀ {l : List Nd} {k : Nat}, fnd l s = none → amPut (.string s) x (plF k l) = plF k l ++ [(.string s, x)]
  | [], _, _ => rfl
  | p :: l, k, h => by
    rw [fnd_cons] at h
    by_cases e : p.1 = s
    · rw [if_pos e] at h; cases h
    · rw [if_neg e] at h
      rw [plF, amPut, if_neg (by simp only [keyEq, decide_eq_true_eq]; exact fun h => e h.symm), amPut_pl (by simpa using h)]
      rfl
theorem plF_snoc {p : Nd} : ∀ {l : List Nd} {k : Nat}, plF k (l ++ [p]) = plF k l ++ [(.string p.1, iv ((k + l.length : Nat) : Int))]
  | [], _ => rfl
  | q :: l, k => by
    rw [List.cons_append, plF, plF_snoc, plF, List.length_cons, show k + 1 + l.length = k + (l.length + 1) by omega]; rfl
theorem keys_pl : ∀ {l : List Nd} {k : Nat}, keysOk none (plF k l)
  | [], _ => fun e he => by simp [plF] at he
  | p :: l, k => fun e he => by
    rcases List.mem_cons.1 he with rfl | he
    · rfl
    · exact keys_pl e he
theorem fnd_lt {l : List Nd} {s : ByteArray} {i : Nat} (h : fnd l s = some i) : i < l.length ∧ (∃ p, l[i]? = some p ∧ p.1 = s) ∧ ∀ (j : Nat) p, j < i → l[j]? = some p → p.1 ≠ s := by
  unfold fnd at h
  rw [List.findIdx?_eq_some_iff_getElem] at h
  obtain ⟨h1, h2, h3⟩ := h
  refine ⟨h1, ⟨_, List.getElem?_eq_getElem h1, by simpa using h2⟩, fun j p hj hp => ?_⟩
  obtain ⟨hl, rfl⟩ := List.getElem?_eq_some_iff.1 hp
  simpa using h3 j hj
theorem fnd_none {l : List Nd} {s : ByteArray} (h : fnd l s = none) : ∀ p ∈ l, p.1 ≠ s := by
  unfold fnd at h
  rw [List.findIdx?_eq_none_iff] at h
  exact fun p hp => by simpa using h p hp
theorem fnd_first {l : List Nd} {s : ByteArray} {i : Nat} {p : Nd} (h1 : l[i]? = some p) (h2 : p.1 = s) (h3 : ∀ (j : Nat) q, j < i → l[j]? = some q → q.1 ≠ s) : fnd l s = some i := by
  cases h : fnd l s with
  | none => exact absurd h2 (fnd_none h p (List.mem_of_getElem? h1))
  | some k =>
    obtain ⟨a, ⟨q, b1, b2⟩, c⟩ := fnd_lt h
    rcases Nat.lt_trichotomy k i with e | e | e
    · exact absurd b2 (h3 k q e b1)
    · rw [e]
    · exact absurd h2 (c i p e h1)
def fndI (l : List Nd) (s : ByteArray) : Int := match fnd l s with
  | some i => (i : Int)
  | none => -1

/-! ### What is wrong of a member -/
def chk (L : List Nd) (step i : Nat) : Nat := match step with
  | 0 => if nmB (nameA L i) = true then 0 else 3
  | 1 => if (fnd (L.take i) (nameA L i)).isSome then 4 else 0
  | 2 => if upA L i < -1 ∨ (L.length : Int) ≤ upA L i then 17 else 0
  | 3 => if lpF L i L.length (upA L i) = true then 15 else 0
  | _ => if 6 ≤ (ab L i).length - 1 then 16 else 0
section
variable {L : List Nd} {m m' : Heap} {T : Nat} {Q E : AV → Heap → Prop} {p : Nd} {i : Nat} {y : AV}
theorem chk0 : chk L 0 i = if nmB (nameA L i) = true then 0 else 3 := rfl
theorem chk1 : chk L 1 i = if (fnd (L.take i) (nameA L i)).isSome then 4 else 0 := rfl
theorem chk2 : chk L 2 i = if upA L i < -1 ∨ (L.length : Int) ≤ upA L i then 17 else 0 := rfl
theorem chk3 : chk L 3 i = if lpF L i L.length (upA L i) = true then 15 else 0 := rfl
theorem chk4 : chk L 4 i = if 6 ≤ (ab L i).length - 1 then 16 else 0 := rfl
theorem nameA_at (h : L[i]? = some p) : nameA L i = p.1 := by unfold nameA; rw [at_nat, h]; rfl
theorem named_s (h : Nds L m T) (hp : L[i]? = some p) (k : Q (iv (chk L 0 i)) m) : ACall Try.prog 45 [.ptr T 0, iv i] m Q E := by
  have hlt := (List.getElem?_eq_some_iff.1 hp).1
  obtain ⟨N, cN, fs, r, h1, h2, _⟩ := h
  have c1 : (i : Int) < (L.length : Int) := by omega
  rw [chk0, nameA_at hp] at k
  refine acall_fn mixed Try.func45 Try.call45 e45 r45 (Nat.le_of_ble_eq_true rfl) ?_
  simp only [n45, h1, h2, c1, Int.natCast_nonneg, nc_drop hp, wf_preprocess, ↓reduceIte, Nat.reduceEqDiff, reduceCtorEq, Nat.reduceAdd, Nat.reduceMul, Nat.reduceLeDiff, Nat.reduceLT, Nat.reduceSub, Int.reduceToNat, Int.reduceNeg, Int.reduceAdd, Int.reduceSub, Int.reduceMul, Int.reduceEq, Int.reduceLT, Int.reduceLE, Int.reduceNe, forall_const, forall_eq', forall_eq, List.forall_mem_cons, List.not_mem_nil]
  refine call_i (tName_s ?_)
  cases hb : nmB p.1
  · rw [hb] at k
    simp only [wf_preprocess, ↓reduceIte, Nat.reduceEqDiff, reduceCtorEq, Nat.reduceAdd, Nat.reduceMul, Nat.reduceLeDiff, Nat.reduceLT, Nat.reduceSub, Int.reduceToNat, Int.reduceNeg, Int.reduceAdd, Int.reduceSub, Int.reduceMul, Int.reduceEq, Int.reduceLT, Int.reduceLE, Int.reduceNe, forall_const, forall_eq', forall_eq, List.forall_mem_cons, List.not_mem_nil]
    exact k
  · rw [hb] at k
    simp only [wf_preprocess, ↓reduceIte, Nat.reduceEqDiff, reduceCtorEq, Nat.reduceAdd, Nat.reduceMul, Nat.reduceLeDiff, Nat.reduceLT, Nat.reduceSub, Int.reduceToNat, Int.reduceNeg, Int.reduceAdd, Int.reduceSub, Int.reduceMul, Int.reduceEq, Int.reduceLT, Int.reduceLE, Int.reduceNe, forall_const, forall_eq', forall_eq, List.forall_mem_cons, List.not_mem_nil]
    exact k
theorem ranged_s (h : Nds L m T) (hp : L[i]? = some p) (k : Q (iv (chk L 2 i)) m) : ACall Try.prog 47 [.ptr T 0, iv i] m Q E := by
  have hlt := (List.getElem?_eq_some_iff.1 hp).1
  obtain ⟨N, cN, fs, r, h1, h2, _⟩ := h
  have c1 : (i : Int) < (L.length : Int) := by omega
  rw [chk2, upA_at hp] at k
  refine acall_fn mixed Try.func47 Try.call47 e47 r47 (Nat.le_of_ble_eq_true rfl) ?_
  by_cases c2 : p.2 < -1
  · rw [if_pos (.inl c2)] at k
    simp only [n47, h1, h2, c1, c2, Int.natCast_nonneg, nc_drop1 hp, wf_preprocess, ↓reduceIte, Nat.reduceEqDiff, reduceCtorEq, Nat.reduceAdd, Nat.reduceMul, Nat.reduceLeDiff, Nat.reduceLT, Nat.reduceSub, Int.reduceToNat, Int.reduceNeg, Int.reduceAdd, Int.reduceSub, Int.reduceMul, Int.reduceEq, Int.reduceLT, Int.reduceLE, Int.reduceNe, forall_const, forall_eq', forall_eq, List.forall_mem_cons, List.not_mem_nil]
    exact k
  · by_cases c3 : (L.length : Int) ≤ p.2
    · rw [if_pos (.inr c3)] at k
      simp only [n47, h1, h2, c1, c2, c3, Int.natCast_nonneg, nc_drop1 hp, wf_preprocess, ↓reduceIte, Nat.reduceEqDiff, reduceCtorEq, Nat.reduceAdd, Nat.reduceMul, Nat.reduceLeDiff, Nat.reduceLT, Nat.reduceSub, Int.reduceToNat, Int.reduceNeg, Int.reduceAdd, Int.reduceSub, Int.reduceMul, Int.reduceEq, Int.reduceLT, Int.reduceLE, Int.reduceNe, forall_const, forall_eq', forall_eq, List.forall_mem_cons, List.not_mem_nil]
      exact k
    · rw [if_neg (by omega)] at k
      simp only [n47, h1, h2, c1, c2, c3, Int.natCast_nonneg, nc_drop1 hp, wf_preprocess, ↓reduceIte, Nat.reduceEqDiff, reduceCtorEq, Nat.reduceAdd, Nat.reduceMul, Nat.reduceLeDiff, Nat.reduceLT, Nat.reduceSub, Int.reduceToNat, Int.reduceNeg, Int.reduceAdd, Int.reduceSub, Int.reduceMul, Int.reduceEq, Int.reduceLT, Int.reduceLE, Int.reduceNe, forall_const, forall_eq', forall_eq, List.forall_mem_cons, List.not_mem_nil]
      exact k
theorem looped_s (h : Nds L m T) (hr : ∀ q ∈ L, -1 ≤ q.2 ∧ q.2 < L.length) (hp : L[i]? = some p) (hl : L.length ≤ 1000) (k : Q (iv (chk L 3 i)) m) : ACall Try.prog 48 [.ptr T 0, iv i] m Q E := by
  have hlt := (List.getElem?_eq_some_iff.1 hp).1
  obtain ⟨N, cN, fs, r, h1, h2, _⟩ := h
  have c1 : (i : Int) < (L.length : Int) := by omega
  rw [chk3, upA_at hp] at k
  refine acall_fn mixed Try.func48 Try.call48 e48 r48 (Nat.le_of_ble_eq_true rfl) ?_
  simp only [n48, h1, h2, c1, Int.natCast_nonneg, nc_drop1 hp, wf_preprocess, ↓reduceIte, Nat.reduceEqDiff, reduceCtorEq, Nat.reduceAdd, Nat.reduceMul, Nat.reduceLeDiff, Nat.reduceLT, Nat.reduceSub, Int.reduceToNat, Int.reduceNeg, Int.reduceAdd, Int.reduceSub, Int.reduceMul, Int.reduceEq, Int.reduceLT, Int.reduceLE, Int.reduceNe, forall_const, forall_eq', forall_eq, List.forall_mem_cons, List.not_mem_nil]
  have hup := hr p (List.mem_of_getElem? hp)
  refine loop_i (fun kk ρ m' => ∃ (j : Nat) (c : Int), kk = L.length - j ∧ j ≤ L.length ∧ c < L.length ∧ lpF L i L.length p.2 = lpF L i (L.length - j) c ∧ ρ 0 = .ptr T 0 ∧ ρ 1 = iv i ∧ ρ 5 = iv c ∧ ρ 18 = iv L.length ∧ ρ 19 = iv j ∧ m' = m) L.length ⟨0, p.2, rfl, by omega, by omega, rfl, ?_⟩ ?_
  · simp only [wf_preprocess, ↓reduceIte, Nat.reduceEqDiff, reduceCtorEq, Nat.reduceAdd, Nat.reduceMul, Nat.reduceLeDiff, Nat.reduceLT, Nat.reduceSub, Int.reduceToNat, Int.reduceNeg, Int.reduceAdd, Int.reduceSub, Int.reduceMul, Int.reduceEq, Int.reduceLT, Int.reduceLE, Int.reduceNe, forall_const, forall_eq', forall_eq, List.forall_mem_cons, List.not_mem_nil]
  rintro kk ρ m' ⟨j, c, rfl, hj, hcl, he, g0, g1, g5, g18, g19, rfl⟩
  by_cases hjn : (j : Int) < (L.length : Int)
  · obtain ⟨r', hr'⟩ : ∃ r', L.length - j = r' + 1 := ⟨L.length - j - 1, by omega⟩
    rw [hr', lpF] at he
    by_cases c2 : c < 0
    · rw [if_pos c2] at he
      rw [he] at k
      simp only [g0, g1, g5, g18, g19, hjn, c2, wf_preprocess, ↓reduceIte, Nat.reduceEqDiff, reduceCtorEq, Nat.reduceAdd, Nat.reduceMul, Nat.reduceLeDiff, Nat.reduceLT, Nat.reduceSub, Int.reduceToNat, Int.reduceNeg, Int.reduceAdd, Int.reduceSub, Int.reduceMul, Int.reduceEq, Int.reduceLT, Int.reduceLE, Int.reduceNe, forall_const, forall_eq', forall_eq, List.forall_mem_cons, List.not_mem_nil]
      exact k
    · rw [if_neg c2] at he
      by_cases c3 : c = (i : Int)
      · rw [if_pos c3] at he
        rw [he] at k
        subst c3
        simp only [g0, g1, g5, g18, g19, hjn, c2, Int.natCast_nonneg, wf_preprocess, ↓reduceIte, Nat.reduceEqDiff, reduceCtorEq, Nat.reduceAdd, Nat.reduceMul, Nat.reduceLeDiff, Nat.reduceLT, Nat.reduceSub, Int.reduceToNat, Int.reduceNeg, Int.reduceAdd, Int.reduceSub, Int.reduceMul, Int.reduceEq, Int.reduceLT, Int.reduceLE, Int.reduceNe, forall_const, forall_eq', forall_eq, List.forall_mem_cons, List.not_mem_nil]
        exact k
      · rw [if_neg c3] at he
        obtain ⟨u, rfl⟩ := Int.eq_ofNat_of_zero_le (show 0 ≤ c by omega)
        obtain ⟨q, hq⟩ : ∃ q, L[u]? = some q := ⟨_, List.getElem?_eq_getElem (by omega)⟩
        have hqr := hr q (List.mem_of_getElem? hq)
        have w1 : IntKind.i64.wrap ((j : Int) + 1) = ((j + 1 : Nat) : Int) := wrap64 (by omega) (by omega)
        have hcl' : (u : Int) < (L.length : Int) := hcl
        rw [at_nat, hq] at he
        simp only [g0, g1, g5, g18, g19, hjn, c2, c3, h1, h2, hcl', w1, Int.natCast_nonneg, nc_drop1 hq, wf_preprocess, ↓reduceIte, Nat.reduceEqDiff, reduceCtorEq, Nat.reduceAdd, Nat.reduceMul, Nat.reduceLeDiff, Nat.reduceLT, Nat.reduceSub, Int.reduceToNat, Int.reduceNeg, Int.reduceAdd, Int.reduceSub, Int.reduceMul, Int.reduceEq, Int.reduceLT, Int.reduceLE, Int.reduceNe, forall_const, forall_eq', forall_eq, List.forall_mem_cons, List.not_mem_nil]
        refine ⟨L.length - (j + 1), by omega, j + 1, q.2, rfl, by omega, by omega, ?_, rfl, rfl⟩
        rw [he, show L.length - (j + 1) = r' by omega]
        rfl
  · have : L.length - j = 0 := by omega
    rw [this] at he
    rw [he] at k
    simp only [g0, g1, g5, g18, g19, hjn, wf_preprocess, ↓reduceIte, Nat.reduceEqDiff, reduceCtorEq, Nat.reduceAdd, Nat.reduceMul, Nat.reduceLeDiff, Nat.reduceLT, Nat.reduceSub, Int.reduceToNat, Int.reduceNeg, Int.reduceAdd, Int.reduceSub, Int.reduceMul, Int.reduceEq, Int.reduceLT, Int.reduceLE, Int.reduceNe, forall_const, forall_eq', forall_eq, List.forall_mem_cons, List.not_mem_nil]
    exact k
theorem deep_s (h : Nds L m T) (hf : FinL L) (hl : L.length ≤ 1000) (k : ∀ m', Ext [] m m' → Q (iv (chk L 4 i)) m') : ACall Try.prog 49 [.ptr T 0, iv i] m Q E := by
  refine acall_fn mixed Try.func49 Try.call49 e49 r49 (Nat.le_of_ble_eq_true rfl) ?_
  simp only [n49, wf_preprocess, ↓reduceIte, Nat.reduceEqDiff, reduceCtorEq, Nat.reduceAdd, Nat.reduceMul, Nat.reduceLeDiff, Nat.reduceLT, Nat.reduceSub, Int.reduceToNat, Int.reduceNeg, Int.reduceAdd, Int.reduceSub, Int.reduceMul, Int.reduceEq, Int.reduceLT, Int.reduceLE, Int.reduceNe, forall_const, forall_eq', forall_eq, List.forall_mem_cons, List.not_mem_nil]
  refine call_i (Depth_s h hf hl fun m' he => ?_)
  have k := k m' he
  rw [chk4] at k
  by_cases c : 6 ≤ (ab L i).length - 1
  · have c' : (6 : Int) ≤ (((ab L i).length - 1 : Nat) : Int) := by omega
    rw [if_pos c] at k
    simp only [c', wf_preprocess, ↓reduceIte, Nat.reduceEqDiff, reduceCtorEq, Nat.reduceAdd, Nat.reduceMul, Nat.reduceLeDiff, Nat.reduceLT, Nat.reduceSub, Int.reduceToNat, Int.reduceNeg, Int.reduceAdd, Int.reduceSub, Int.reduceMul, Int.reduceEq, Int.reduceLT, Int.reduceLE, Int.reduceNe, forall_const, forall_eq', forall_eq, List.forall_mem_cons, List.not_mem_nil]
    exact k
  · have c' : ¬ (6 : Int) ≤ (((ab L i).length - 1 : Nat) : Int) := by omega
    rw [if_neg c] at k
    simp only [c', wf_preprocess, ↓reduceIte, Nat.reduceEqDiff, reduceCtorEq, Nat.reduceAdd, Nat.reduceMul, Nat.reduceLeDiff, Nat.reduceLT, Nat.reduceSub, Int.reduceToNat, Int.reduceNeg, Int.reduceAdd, Int.reduceSub, Int.reduceMul, Int.reduceEq, Int.reduceLT, Int.reduceLE, Int.reduceNe, forall_const, forall_eq', forall_eq, List.forall_mem_cons, List.not_mem_nil]
    exact k
/-- The fields of a tree, as New has made them. -/
def Flds (L : List Nd) (m : Heap) (T M : Nat) (es : List (Value × AV)) : Prop := ∃ N cN fs r, get T m = some (.cells (.mref N 0 L.length cN :: .mapp M :: fs)) ∧ get N m = some (.cells (nc L ++ r)) ∧ get M m = some (.amap es) ∧ T ≠ N
theorem Flds.nds {M : Nat} {es : List (Value × AV)} (h : Flds L m T M es) : Nds L m T := by
  obtain ⟨N, cN, fs, r, h1, h2, h3, h4⟩ := h
  exact ⟨N, cN, _, r, h1, h2, h4⟩
theorem Flds.ext {M : Nat} {es : List (Value × AV)} (h : Flds L m T M es) (he : Ext [] m m') : Flds L m' T M es := by
  obtain ⟨N, cN, fs, r, h1, h2, h3, h4⟩ := h
  exact ⟨N, cN, fs, r, he _ _ h1 (by simp), he _ _ h2 (by simp), he _ _ h3 (by simp), h4⟩
theorem Flds.set {M : Nat} {es es2 : List (Value × AV)} (h : Flds L m T M es) : Flds L (put M (.amap es2) m) T M es2 := by
  obtain ⟨N, cN, fs, r, h1, h2, h3, h4⟩ := h
  have e1 : T ≠ M := fun e => by rw [e, h3] at h1; cases h1
  have e2 : N ≠ M := fun e => by rw [e, h3] at h2; cases h2
  exact ⟨N, cN, fs, r, by rw [get_put_ne e1]; exact h1, by rw [get_put_ne e2]; exact h2, get_put h3, h4⟩
theorem once_s {M : Nat} (h : Flds L m T M (pl (L.take i))) (hp : L[i]? = some p) (hl : L.length ≤ 1000) (k1 : chk L 1 i ≠ 0 → Q (iv (chk L 1 i)) m) (k0 : chk L 1 i = 0 → Q (iv 0) (put M (.amap (pl (L.take (i + 1)))) m)) : ACall Try.prog 46 [.ptr T 0, iv i] m Q E := by
  have hlt := (List.getElem?_eq_some_iff.1 hp).1
  have hF := h
  obtain ⟨N, cN, fs, r, h1, h2, h3, _⟩ := h
  have c1 : (i : Int) < (L.length : Int) := by omega
  rw [chk1, nameA_at hp] at k1 k0
  have hko : keysOk none (pl (L.take i)) := keys_pl
  have hg : amGet (.string p.1) (pl (L.take i)) = (fnd (L.take i) p.1).map fun i => iv ((0 + i : Nat) : Int) := amGet_pl
  refine acall_fn mixed Try.func46 Try.call46 e46 r46 (Nat.le_of_ble_eq_true rfl) ?_
  simp only [n46, h1, h2, h3, c1, hko, hg, Int.natCast_nonneg, nc_drop hp, wf_preprocess, ↓reduceIte, Nat.reduceEqDiff, reduceCtorEq, Nat.reduceAdd, Nat.reduceMul, Nat.reduceLeDiff, Nat.reduceLT, Nat.reduceSub, Int.reduceToNat, Int.reduceNeg, Int.reduceAdd, Int.reduceSub, Int.reduceMul, Int.reduceEq, Int.reduceLT, Int.reduceLE, Int.reduceNe, forall_const, forall_eq', forall_eq, List.forall_mem_cons, List.not_mem_nil]
  cases hf : fnd (L.take i) p.1 with
  | some j =>
    rw [hf] at k1
    have := k1 (by simp)
    simp only [Option.map_some, Option.isSome_some, hf, wf_preprocess, ↓reduceIte, Nat.reduceEqDiff, reduceCtorEq, Nat.reduceAdd, Nat.reduceMul, Nat.reduceLeDiff, Nat.reduceLT, Nat.reduceSub, Int.reduceToNat, Int.reduceNeg, Int.reduceAdd, Int.reduceSub, Int.reduceMul, Int.reduceEq, Int.reduceLT, Int.reduceLE, Int.reduceNe, forall_const, forall_eq', forall_eq, List.forall_mem_cons, List.not_mem_nil]
    exact this
  | none =>
    rw [hf] at k0
    have := k0 (by simp)
    have hput : amPut (.string p.1) (iv i) (pl (L.take i)) = pl (L.take (i + 1)) := by
      unfold pl
      rw [amPut_pl hf, List.take_add_one, hp]
      simp only [Option.toList_some]
      rw [plF_snoc, List.length_take, Nat.zero_add, show min i L.length = i by omega]
    simp only [Option.map_none, Option.isSome_none, hf, h1, h2, h3, c1, hko, hput, Int.natCast_nonneg, nc_drop hp, wf_preprocess, ↓reduceIte, Nat.reduceEqDiff, reduceCtorEq, Nat.reduceAdd, Nat.reduceMul, Nat.reduceLeDiff, Nat.reduceLT, Nat.reduceSub, Int.reduceToNat, Int.reduceNeg, Int.reduceAdd, Int.reduceSub, Int.reduceMul, Int.reduceEq, Int.reduceLT, Int.reduceLE, Int.reduceNe, forall_const, forall_eq', forall_eq, List.forall_mem_cons, List.not_mem_nil]
    exact this
theorem Find_s {M : Nat} {s : ByteArray} (h : Flds L m T M (pl L)) (k : Q (iv (fndI L s)) m) : ACall Try.prog 11 [.ptr T 0, .sc (.string s)] m Q E := by
  obtain ⟨N, cN, fs, r, h1, h2, h3, _⟩ := h
  have hko : keysOk none (pl L) := keys_pl
  have hg : amGet (.string s) (pl L) = (fnd L s).map fun i => iv ((0 + i : Nat) : Int) := amGet_pl
  unfold fndI at k
  refine acall_fn mixed Try.func11 Try.call11 e11 r11 (Nat.le_of_ble_eq_true rfl) ?_
  simp only [n11, h1, h2, h3, hko, hg, wf_preprocess, ↓reduceIte, Nat.reduceEqDiff, reduceCtorEq, Nat.reduceAdd, Nat.reduceMul, Nat.reduceLeDiff, Nat.reduceLT, Nat.reduceSub, Int.reduceToNat, Int.reduceNeg, Int.reduceAdd, Int.reduceSub, Int.reduceMul, Int.reduceEq, Int.reduceLT, Int.reduceLE, Int.reduceNe, forall_const, forall_eq', forall_eq, List.forall_mem_cons, List.not_mem_nil]
  cases hf : fnd L s with
  | some j =>
    rw [hf] at k
    simp only [Option.map_some, Option.isSome_some, hf, wf_preprocess, ↓reduceIte, Nat.reduceEqDiff, reduceCtorEq, Nat.reduceAdd, Nat.reduceMul, Nat.reduceLeDiff, Nat.reduceLT, Nat.reduceSub, Int.reduceToNat, Int.reduceNeg, Int.reduceAdd, Int.reduceSub, Int.reduceMul, Int.reduceEq, Int.reduceLT, Int.reduceLE, Int.reduceNe, forall_const, forall_eq', forall_eq, List.forall_mem_cons, List.not_mem_nil]
    exact k
  | none =>
    rw [hf] at k
    simp only [Option.map_none, Option.isSome_none, hf, wf_preprocess, ↓reduceIte, Nat.reduceEqDiff, reduceCtorEq, Nat.reduceAdd, Nat.reduceMul, Nat.reduceLeDiff, Nat.reduceLT, Nat.reduceSub, Int.reduceToNat, Int.reduceNeg, Int.reduceAdd, Int.reduceSub, Int.reduceMul, Int.reduceEq, Int.reduceLT, Int.reduceLE, Int.reduceNe, forall_const, forall_eq', forall_eq, List.forall_mem_cons, List.not_mem_nil]
    exact k
theorem rFind_s {s : ByteArray} (h : Nds L m T) (hl : L.length ≤ 1000) (k : Q (iv (fndI L s)) m) : ACall Try.prog 12 [.ptr T 0, .sc (.string s)] m Q E := by
  obtain ⟨N, cN, fs, r, h1, h2, _⟩ := h
  unfold fndI at k
  refine acall_fn mixed Try.func12 Try.call12 e12 r12 (Nat.le_of_ble_eq_true rfl) ?_
  simp only [n12, wf_preprocess, ↓reduceIte, Nat.reduceEqDiff, reduceCtorEq, Nat.reduceAdd, Nat.reduceMul, Nat.reduceLeDiff, Nat.reduceLT, Nat.reduceSub, Int.reduceToNat, Int.reduceNeg, Int.reduceAdd, Int.reduceSub, Int.reduceMul, Int.reduceEq, Int.reduceLT, Int.reduceLE, Int.reduceNe, forall_const, forall_eq', forall_eq, List.forall_mem_cons, List.not_mem_nil]
  refine loop_i (fun kk ρ m' => ∃ (j : Nat), kk = L.length - j ∧ j ≤ L.length ∧ ρ 0 = .ptr T 0 ∧ ρ 1 = .sc (.string s) ∧ ρ 5 = iv j ∧ (∀ (u : Nat) q, u < j → L[u]? = some q → q.1 ≠ s) ∧ m' = m) L.length ⟨0, rfl, by omega, ?_⟩ ?_
  · simp only [wf_preprocess, ↓reduceIte, Nat.reduceEqDiff, reduceCtorEq, Nat.reduceAdd, Nat.reduceMul, Nat.reduceLeDiff, Nat.reduceLT, Nat.reduceSub, Int.reduceToNat, Int.reduceNeg, Int.reduceAdd, Int.reduceSub, Int.reduceMul, Int.reduceEq, Int.reduceLT, Int.reduceLE, Int.reduceNe, forall_const, forall_eq', forall_eq, List.forall_mem_cons, List.not_mem_nil]
    exact fun u q hu => by omega
  rintro kk ρ m' ⟨j, rfl, hj, g0, g1, g5, hn, rfl⟩
  by_cases hjn : (j : Int) < (L.length : Int)
  · obtain ⟨q, hq⟩ : ∃ q, L[j]? = some q := ⟨_, List.getElem?_eq_getElem (by omega)⟩
    have w1 : IntKind.i64.wrap ((j : Int) + 1) = ((j + 1 : Nat) : Int) := wrap64 (by omega) (by omega)
    by_cases c : q.1 = s
    · rw [fnd_first hq c hn] at k
      simp only [g0, g1, g5, h1, h2, hjn, c, Int.natCast_nonneg, nc_drop hq, wf_preprocess, ↓reduceIte, Nat.reduceEqDiff, reduceCtorEq, Nat.reduceAdd, Nat.reduceMul, Nat.reduceLeDiff, Nat.reduceLT, Nat.reduceSub, Int.reduceToNat, Int.reduceNeg, Int.reduceAdd, Int.reduceSub, Int.reduceMul, Int.reduceEq, Int.reduceLT, Int.reduceLE, Int.reduceNe, forall_const, forall_eq', forall_eq, List.forall_mem_cons, List.not_mem_nil]
      exact k
    · simp only [g0, g1, g5, h1, h2, hjn, c, w1, Int.natCast_nonneg, nc_drop hq, wf_preprocess, ↓reduceIte, Nat.reduceEqDiff, reduceCtorEq, Nat.reduceAdd, Nat.reduceMul, Nat.reduceLeDiff, Nat.reduceLT, Nat.reduceSub, Int.reduceToNat, Int.reduceNeg, Int.reduceAdd, Int.reduceSub, Int.reduceMul, Int.reduceEq, Int.reduceLT, Int.reduceLE, Int.reduceNe, forall_const, forall_eq', forall_eq, List.forall_mem_cons, List.not_mem_nil]
      refine ⟨L.length - (j + 1), by omega, j + 1, rfl, by omega, rfl, fun u q2 hu h2 => ?_⟩
      by_cases e : u = j
      · subst e; rw [hq] at h2; cases h2; exact c
      · exact hn u q2 (by omega) h2
  · have : fnd L s = none := by
      cases hf : fnd L s with
      | none => rfl
      | some u =>
        obtain ⟨a, ⟨q, b1, b2⟩, c⟩ := fnd_lt hf
        exact absurd b2 (hn u q (by omega) b1)
    rw [this] at k
    simp only [g0, g1, g5, h1, h2, hjn, wf_preprocess, ↓reduceIte, Nat.reduceEqDiff, reduceCtorEq, Nat.reduceAdd, Nat.reduceMul, Nat.reduceLeDiff, Nat.reduceLT, Nat.reduceSub, Int.reduceToNat, Int.reduceNeg, Int.reduceAdd, Int.reduceSub, Int.reduceMul, Int.reduceEq, Int.reduceLT, Int.reduceLE, Int.reduceNe, forall_const, forall_eq', forall_eq, List.forall_mem_cons, List.not_mem_nil]
    exact k
/-- The members are handed in. -/
def Inp (y : AV) (L : List Nd) : Prop := ∃ o, y = .lst (L.map fun p => .agg (nv p)) o ∧ (o = .nil → L = [])
theorem CloneN_s (h : Inp y L) (h0 : L ≠ []) (hl : L.length ≤ 1000) (k : ∀ N cN r m', get N m' = some (.cells (nc L ++ r)) → Ext [] m m' → N ∉ keys m → Q (.mref N 0 L.length cN) m') : ACall Try.prog 36 [y] m Q E := by
  obtain ⟨o, rfl, ho⟩ := h
  have hel : L.map (fun p => AV.agg (nv p)) = els (some 2) (L.map nv) := by simp [els, mk1, Function.comp_def]
  have hok : rowsOk (some 2) (L.map nv) := fun c hc => by
    obtain ⟨p, _, rfl⟩ := List.mem_map.1 hc
    exact ⟨rfl, rfl⟩
  refine acall_fn mixed Try.func36 Try.call36 e36 r36 (Nat.le_of_ble_eq_true rfl) ?_
  simp only [n36, wf_preprocess, ↓reduceIte, Nat.reduceEqDiff, reduceCtorEq, Nat.reduceAdd, Nat.reduceMul, Nat.reduceLeDiff, Nat.reduceLT, Nat.reduceSub, Int.reduceToNat, Int.reduceNeg, Int.reduceAdd, Int.reduceSub, Int.reduceMul, Int.reduceEq, Int.reduceLT, Int.reduceLE, Int.reduceNe, forall_const, forall_eq', forall_eq, List.forall_mem_cons, List.not_mem_nil]
  refine nil_g (.inl ⟨_, _, rfl, fun e => by rw [ho e]; rfl⟩) (fun ⟨o', e⟩ => ?_) ?_
  · have : L = [] := by
      cases L with
      | nil => rfl
      | cons a l => simp at e
    exact absurd this h0
  · simp only [wf_preprocess, ↓reduceIte, Nat.reduceEqDiff, reduceCtorEq, Nat.reduceAdd, Nat.reduceMul, Nat.reduceLeDiff, Nat.reduceLT, Nat.reduceSub, Int.reduceToNat, Int.reduceNeg, Int.reduceAdd, Int.reduceSub, Int.reduceMul, Int.reduceEq, Int.reduceLT, Int.reduceLE, Int.reduceNe, forall_const, forall_eq', forall_eq, List.forall_mem_cons, List.not_mem_nil]
    refine app_bufG (k := some 2) (css := []) (c2 := L.map nv) BufG.full (fun c hc => by simp at hc) (by show some _ = _; rw [hel]) hok (by simp; omega) (by rw [maxLen_e]; simp; omega) fun v' m' h1 h2 h3 => ?_
    rcases h1 with ⟨e, _⟩ | ⟨id, cap, rest, rfl, a1, a2, a3, a4, a5⟩
    · exact absurd (List.map_eq_nil_iff.1 (show L.map nv = [] from e)) h0
    · rw [List.nil_append] at a5
      simp only [List.nil_append, List.length_map, wf_preprocess, ↓reduceIte, Nat.reduceEqDiff, reduceCtorEq, Nat.reduceAdd, Nat.reduceMul, Nat.reduceLeDiff, Nat.reduceLT, Nat.reduceSub, Int.reduceToNat, Int.reduceNeg, Int.reduceAdd, Int.reduceSub, Int.reduceMul, Int.reduceEq, Int.reduceLT, Int.reduceLE, Int.reduceNe, forall_const, forall_eq', forall_eq, List.forall_mem_cons, List.not_mem_nil]
      refine k id cap rest m' ?_ (by simpa [refs] using h2) ?_
      · rw [a5]; rfl
      · rcases h3 with h3 | h3
        · cases h3
        · exact h3 id (by simp [refs])
end
end Go.Proofs.Ytceahampebofbaa.Moi.Tree
