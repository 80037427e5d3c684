/- What functions of this program do, on plain values: a part of the proofs of this seat's laws; each theorem bears its own conditions. -/
import Derived.Test.YtceahampebofbaaTreeE
set_option linter.unusedVariables false
set_option linter.unusedSimpArgs false
set_option maxRecDepth 1000000
namespace Go.Proofs.Ytceahampebofbaa.Moi.Tree
open Go Go.RowKit Go.Proofs.Ytceahampebofbaa.Moi
attribute [-wf_preprocess] ite_eq_dite forIn_eq_forIn'

/-! ### The first that can not be -/
/-- At which step, and which member, and why; nothing: all can be. -/
structure BadAt (L : List Nd) (s i : Nat) : Prop where
  s4 : s ≤ 4
  lt : i < L.length
  bad : chk L s i ≠ 0
  before : ∀ s', s' < s → ∀ j, j < L.length → chk L s' j = 0
  first : ∀ j, j < i → chk L s j = 0
def AllOk (L : List Nd) : Prop := ∀ s, s ≤ 4 → ∀ j, j < L.length → chk L s j = 0
theorem bad_same {L : List Nd} {s i s' i' : Nat} (h : BadAt L s i) (h' : BadAt L s' i') : s = s' ∧ i = i' := by
  have e : s = s' := by
    rcases Nat.lt_trichotomy s s' with e | e | e
    · exact absurd (h'.before s e i h.lt) h.bad
    · exact e
    · exact absurd (h.before s' e i' h'.lt) h'.bad
  subst e
  refine ⟨rfl, ?_⟩
  rcases Nat.lt_trichotomy i i' with e | e | e
  · exact absurd (h'.first i e) h.bad
  · exact e
  · exact absurd (h.first i' e) h'.bad
theorem bad_not {L : List Nd} {s i : Nat} (h : BadAt L s i) (h' : AllOk L) : False := h.bad (h' s h.s4 i h.lt)
section
variable {L : List Nd} {m m' m0 : Heap} {T N cN M K S : Nat} {r : List AV} {es es2 : List (Value × AV)} {y : AV} {ρ : Regs} {Q E : AV → Heap → Prop} {Kn Kr : Cont} {Kx : Nat → Cont} {C : NCode} {s i : Nat}
theorem rng_of (h : ∀ j, j < L.length → chk L 2 j = 0) : ∀ p ∈ L, -1 ≤ p.2 ∧ p.2 < L.length := by
  intro p hp
  obtain ⟨j, hj⟩ := List.getElem?_of_mem hp
  have := h j (List.getElem?_eq_some_iff.1 hj).1
  rw [chk2, upA_at hj] at this
  split at this
  · cases this
  · omega
theorem fin_of (h : ∀ j, j < L.length → chk L 3 j = 0) : FinL L := fun i => ab_ends fun x hx => by
  have := h x hx
  rw [chk3] at this
  split at this
  · cases this
  · rename_i c
    cases hb : lpF L (x : Int) L.length (upA L x) with
    | false => rfl
    | true => exact absurd hb c
theorem ok_of (h0 : L ≠ []) (hl : L.length ≤ 32) (h : AllOk L) : Ok L := by
  have hf := fin_of fun j hj => h 3 (by decide) j hj
  refine ⟨List.length_pos_iff.2 h0, hl, rng_of fun j hj => h 2 (by decide) j hj, hf, fun i => ?_⟩
  cases ha : at? L i with
  | none => rw [ab_none ha]; simp
  | some p =>
    obtain ⟨g0, g1, g2⟩ := at_some ha
    have := h 4 (by decide) i.toNat (by omega)
    rw [chk4, Int.toNat_of_nonneg g0] at this
    split at this
    · cases this
    · omega
def esAt (L : List Nd) (s i : Nat) : List (Value × AV) := if s = 0 then [] else if s = 1 then pl (L.take i) else pl L
theorem es_next : esAt L s L.length = esAt L (s + 1) 0 := by
  unfold esAt
  by_cases c0 : s = 0
  · subst c0; rfl
  · by_cases c1 : s = 1
    · subst c1
      rw [if_neg (by decide), if_pos rfl, if_neg (by decide), if_neg (by decide), List.take_length]
    · rw [if_neg c0, if_neg c1, if_neg (by omega), if_neg (by omega)]
theorem es_keep (h : s ≠ 1) {j : Nat} : esAt L s i = esAt L s j := by
  unfold esAt
  by_cases c0 : s = 0
  · rw [if_pos c0, if_pos c0]
  · rw [if_neg c0, if_neg h, if_neg c0, if_neg h]
theorem wrong_s (h : St L m0 m T N cN M K S r (esAt L s i)) (hl : L.length ≤ 32) (hs : s ≤ 4) (hi : i < L.length) (hb : ∀ s', s' < s → ∀ j, j < L.length → chk L s' j = 0)
    (k1 : chk L s i ≠ 0 → ∀ m', Ext [] m0 m' → Q (iv (chk L s i)) m') (k0 : chk L s i = 0 → ∀ m', St L m0 m' T N cN M K S r (esAt L s (i + 1)) → Q (iv 0) m') : ACall Try.prog 37 [.ptr T 0, iv s, iv i] m Q E := by
  obtain ⟨p, hp⟩ : ∃ p, L[i]? = some p := ⟨_, List.getElem?_eq_getElem hi⟩
  have hN := h.flds.nds
  have both : s ≠ 1 → ∀ m', Ext [] m m' → Q (iv (chk L s i)) m' := fun h1 m' he => by
    by_cases c : chk L s i = 0
    · have := k0 c m' (by rw [es_keep h1 (j := i)]; exact h.after he)
      rw [c]
      exact this
    · exact k1 c m' (h.ext.trans he)
  refine acall_fn mixed Try.func37 Try.call37 e37 r37 (Nat.le_of_ble_eq_true rfl) ?_
  have e1 : ((1 : Nat) : Int) = 1 := rfl
  have e2 : ((2 : Nat) : Int) = 2 := rfl
  have e3 : ((3 : Nat) : Int) = 3 := rfl
  have e4 : ((4 : Nat) : Int) = 4 := rfl
  have hcase : s = 0 ∨ s = 1 ∨ s = 2 ∨ s = 3 ∨ s = 4 := by omega
  rcases hcase with rfl | rfl | rfl | rfl | rfl
  · simp only [n37, e1, e2, e3, e4, wf_preprocess, ↓reduceIte, Nat.reduceEqDiff, reduceCtorEq, Nat.reduceAdd, Nat.reduceMul, Nat.reduceLeDiff, Nat.reduceLT, Nat.reduceSub, Int.reduceToNat, Int.reduceNeg, Int.reduceAdd, Int.reduceSub, Int.reduceMul, Int.reduceEq, Int.reduceLT, Int.reduceLE, Int.reduceNe, forall_const, forall_eq', forall_eq, List.forall_mem_cons, List.not_mem_nil]
    refine call_i (named_s hN hp ?_)
    simp only [wf_preprocess, ↓reduceIte, Nat.reduceEqDiff, reduceCtorEq, Nat.reduceAdd, Nat.reduceMul, Nat.reduceLeDiff, Nat.reduceLT, Nat.reduceSub, Int.reduceToNat, Int.reduceNeg, Int.reduceAdd, Int.reduceSub, Int.reduceMul, Int.reduceEq, Int.reduceLT, Int.reduceLE, Int.reduceNe, forall_const, forall_eq', forall_eq, List.forall_mem_cons, List.not_mem_nil]
    exact both (by decide) m .rfl'
  · simp only [n37, e1, e2, e3, e4, wf_preprocess, ↓reduceIte, Nat.reduceEqDiff, reduceCtorEq, Nat.reduceAdd, Nat.reduceMul, Nat.reduceLeDiff, Nat.reduceLT, Nat.reduceSub, Int.reduceToNat, Int.reduceNeg, Int.reduceAdd, Int.reduceSub, Int.reduceMul, Int.reduceEq, Int.reduceLT, Int.reduceLE, Int.reduceNe, forall_const, forall_eq', forall_eq, List.forall_mem_cons, List.not_mem_nil]
    refine call_i (once_s h.flds hp (by omega) (fun c => ?_) fun c => ?_)
    · simp only [wf_preprocess, ↓reduceIte, Nat.reduceEqDiff, reduceCtorEq, Nat.reduceAdd, Nat.reduceMul, Nat.reduceLeDiff, Nat.reduceLT, Nat.reduceSub, Int.reduceToNat, Int.reduceNeg, Int.reduceAdd, Int.reduceSub, Int.reduceMul, Int.reduceEq, Int.reduceLT, Int.reduceLE, Int.reduceNe, forall_const, forall_eq', forall_eq, List.forall_mem_cons, List.not_mem_nil]
      exact k1 c m h.ext
    · simp only [wf_preprocess, ↓reduceIte, Nat.reduceEqDiff, reduceCtorEq, Nat.reduceAdd, Nat.reduceMul, Nat.reduceLeDiff, Nat.reduceLT, Nat.reduceSub, Int.reduceToNat, Int.reduceNeg, Int.reduceAdd, Int.reduceSub, Int.reduceMul, Int.reduceEq, Int.reduceLT, Int.reduceLE, Int.reduceNe, forall_const, forall_eq', forall_eq, List.forall_mem_cons, List.not_mem_nil]
      exact k0 c _ h.set
  · simp only [n37, e1, e2, e3, e4, wf_preprocess, ↓reduceIte, Nat.reduceEqDiff, reduceCtorEq, Nat.reduceAdd, Nat.reduceMul, Nat.reduceLeDiff, Nat.reduceLT, Nat.reduceSub, Int.reduceToNat, Int.reduceNeg, Int.reduceAdd, Int.reduceSub, Int.reduceMul, Int.reduceEq, Int.reduceLT, Int.reduceLE, Int.reduceNe, forall_const, forall_eq', forall_eq, List.forall_mem_cons, List.not_mem_nil]
    refine call_i (ranged_s hN hp ?_)
    simp only [wf_preprocess, ↓reduceIte, Nat.reduceEqDiff, reduceCtorEq, Nat.reduceAdd, Nat.reduceMul, Nat.reduceLeDiff, Nat.reduceLT, Nat.reduceSub, Int.reduceToNat, Int.reduceNeg, Int.reduceAdd, Int.reduceSub, Int.reduceMul, Int.reduceEq, Int.reduceLT, Int.reduceLE, Int.reduceNe, forall_const, forall_eq', forall_eq, List.forall_mem_cons, List.not_mem_nil]
    exact both (by decide) m .rfl'
  · simp only [n37, e1, e2, e3, e4, wf_preprocess, ↓reduceIte, Nat.reduceEqDiff, reduceCtorEq, Nat.reduceAdd, Nat.reduceMul, Nat.reduceLeDiff, Nat.reduceLT, Nat.reduceSub, Int.reduceToNat, Int.reduceNeg, Int.reduceAdd, Int.reduceSub, Int.reduceMul, Int.reduceEq, Int.reduceLT, Int.reduceLE, Int.reduceNe, forall_const, forall_eq', forall_eq, List.forall_mem_cons, List.not_mem_nil]
    refine call_i (looped_s hN (rng_of (hb 2 (by decide))) hp (by omega) ?_)
    simp only [wf_preprocess, ↓reduceIte, Nat.reduceEqDiff, reduceCtorEq, Nat.reduceAdd, Nat.reduceMul, Nat.reduceLeDiff, Nat.reduceLT, Nat.reduceSub, Int.reduceToNat, Int.reduceNeg, Int.reduceAdd, Int.reduceSub, Int.reduceMul, Int.reduceEq, Int.reduceLT, Int.reduceLE, Int.reduceNe, forall_const, forall_eq', forall_eq, List.forall_mem_cons, List.not_mem_nil]
    exact both (by decide) m .rfl'
  · simp only [n37, e1, e2, e3, e4, wf_preprocess, ↓reduceIte, Nat.reduceEqDiff, reduceCtorEq, Nat.reduceAdd, Nat.reduceMul, Nat.reduceLeDiff, Nat.reduceLT, Nat.reduceSub, Int.reduceToNat, Int.reduceNeg, Int.reduceAdd, Int.reduceSub, Int.reduceMul, Int.reduceEq, Int.reduceLT, Int.reduceLE, Int.reduceNe, forall_const, forall_eq', forall_eq, List.forall_mem_cons, List.not_mem_nil]
    refine call_i (deep_s hN (fin_of (hb 3 (by decide))) (by omega) fun m' he => ?_)
    simp only [wf_preprocess, ↓reduceIte, Nat.reduceEqDiff, reduceCtorEq, Nat.reduceAdd, Nat.reduceMul, Nat.reduceLeDiff, Nat.reduceLT, Nat.reduceSub, Int.reduceToNat, Int.reduceNeg, Int.reduceAdd, Int.reduceSub, Int.reduceMul, Int.reduceEq, Int.reduceLT, Int.reduceLE, Int.reduceNe, forall_const, forall_eq', forall_eq, List.forall_mem_cons, List.not_mem_nil]
    exact both (by decide) m' he
theorem new_c (hL : LenIs y L.length) (h : St L m0 m T N cN M K S r []) (hl : L.length ≤ 32) (g0 : ρ 0 = y) (g5 : ρ 5 = .ptr T 0)
    (kr : ∀ ρ' m' s i, BadAt L s i → Ext [] m0 m' → ρ' 2 = .sc (.pointer none) → ρ' 3 = iv i → ρ' 4 = iv (chk L s i) → Kr ρ' m')
    (k : ∀ ρ' m', AllOk L → St L m0 m' T N cN M K S r (pl L) → ρ' 0 = y → ρ' 5 = .ptr T 0 → vc Try.prog E C Kn Kx Kr ρ' m') : vc Try.prog E (d8c C) Kn Kx Kr ρ m := by
  simp only [d8c, wf_preprocess, ↓reduceIte, Nat.reduceEqDiff, reduceCtorEq, Nat.reduceAdd, Nat.reduceMul, Nat.reduceLeDiff, Nat.reduceLT, Nat.reduceSub, Int.reduceToNat, Int.reduceNeg, Int.reduceAdd, Int.reduceSub, Int.reduceMul, Int.reduceEq, Int.reduceLT, Int.reduceLE, Int.reduceNe, forall_const, forall_eq', forall_eq, List.forall_mem_cons, List.not_mem_nil]
  refine loop_i (fun kk ρ m' => ∃ (s : Nat), kk = 5 - s ∧ s ≤ 5 ∧ (∀ s', s' < s → ∀ j, j < L.length → chk L s' j = 0) ∧ St L m0 m' T N cN M K S r (esAt L s 0) ∧ ρ 0 = y ∧ ρ 5 = .ptr T 0 ∧ ρ 30 = iv s) 5 ⟨0, rfl, by omega, ?_⟩ ?_
  · simp only [g0, g5, wf_preprocess, ↓reduceIte, Nat.reduceEqDiff, reduceCtorEq, Nat.reduceAdd, Nat.reduceMul, Nat.reduceLeDiff, Nat.reduceLT, Nat.reduceSub, Int.reduceToNat, Int.reduceNeg, Int.reduceAdd, Int.reduceSub, Int.reduceMul, Int.reduceEq, Int.reduceLT, Int.reduceLE, Int.reduceNe, forall_const, forall_eq', forall_eq, List.forall_mem_cons, List.not_mem_nil]
    exact ⟨fun s' hs => by omega, h⟩
  rintro kk ρ m1 ⟨s, rfl, hs, hb, hSt, k0, k5, k30⟩
  by_cases hs5 : s < 5
  · have c1 : (s : Int) < 5 := by omega
    simp only [k0, k5, k30, c1, onLst_len hL, wf_preprocess, ↓reduceIte, Nat.reduceEqDiff, reduceCtorEq, Nat.reduceAdd, Nat.reduceMul, Nat.reduceLeDiff, Nat.reduceLT, Nat.reduceSub, Int.reduceToNat, Int.reduceNeg, Int.reduceAdd, Int.reduceSub, Int.reduceMul, Int.reduceEq, Int.reduceLT, Int.reduceLE, Int.reduceNe, forall_const, forall_eq', forall_eq, List.forall_mem_cons, List.not_mem_nil]
    refine loop_i (fun kk ρ' m' => ∃ (i : Nat), kk = L.length - i ∧ i ≤ L.length ∧ (∀ j, j < i → chk L s j = 0) ∧ St L m0 m' T N cN M K S r (esAt L s i) ∧ ρ' 0 = y ∧ ρ' 5 = .ptr T 0 ∧ ρ' 30 = iv s ∧ ρ' 6 = iv s ∧ ρ' 34 = iv L.length ∧ ρ' 35 = iv i) L.length ⟨0, rfl, by omega, ?_⟩ ?_
    · simp only [k0, k5, k30, wf_preprocess, ↓reduceIte, Nat.reduceEqDiff, reduceCtorEq, Nat.reduceAdd, Nat.reduceMul, Nat.reduceLeDiff, Nat.reduceLT, Nat.reduceSub, Int.reduceToNat, Int.reduceNeg, Int.reduceAdd, Int.reduceSub, Int.reduceMul, Int.reduceEq, Int.reduceLT, Int.reduceLE, Int.reduceNe, forall_const, forall_eq', forall_eq, List.forall_mem_cons, List.not_mem_nil]
      exact ⟨fun j hj => by omega, hSt⟩
    rintro kk ρ' m2 ⟨i, rfl, hi, hf, hSt2, j0, j5, j30, j6, j34, j35⟩
    by_cases hin : (i : Int) < (L.length : Int)
    · have w1 : IntKind.i64.wrap ((i : Int) + 1) = ((i + 1 : Nat) : Int) := wrap64 (by omega) (by omega)
      simp only [j0, j5, j30, j6, j34, j35, hin, wf_preprocess, ↓reduceIte, Nat.reduceEqDiff, reduceCtorEq, Nat.reduceAdd, Nat.reduceMul, Nat.reduceLeDiff, Nat.reduceLT, Nat.reduceSub, Int.reduceToNat, Int.reduceNeg, Int.reduceAdd, Int.reduceSub, Int.reduceMul, Int.reduceEq, Int.reduceLT, Int.reduceLE, Int.reduceNe, forall_const, forall_eq', forall_eq, List.forall_mem_cons, List.not_mem_nil]
      refine call_i (wrong_s hSt2 hl (by omega) (by omega) hb (fun c m3 he => ?_) fun c m3 hSt3 => ?_)
      · have c' : ¬ ((chk L s i : Nat) : Int) = 0 := by omega
        simp only [j0, j5, j30, j6, j34, j35, c', wf_preprocess, ↓reduceIte, Nat.reduceEqDiff, reduceCtorEq, Nat.reduceAdd, Nat.reduceMul, Nat.reduceLeDiff, Nat.reduceLT, Nat.reduceSub, Int.reduceToNat, Int.reduceNeg, Int.reduceAdd, Int.reduceSub, Int.reduceMul, Int.reduceEq, Int.reduceLT, Int.reduceLE, Int.reduceNe, forall_const, forall_eq', forall_eq, List.forall_mem_cons, List.not_mem_nil]
        refine kr _ m3 s i ⟨by omega, by omega, c, hb, hf⟩ he ?_ ?_ ?_ <;> simp only [wf_preprocess, ↓reduceIte, Nat.reduceEqDiff, reduceCtorEq, Nat.reduceAdd, Nat.reduceMul, Nat.reduceLeDiff, Nat.reduceLT, Nat.reduceSub, Int.reduceToNat, Int.reduceNeg, Int.reduceAdd, Int.reduceSub, Int.reduceMul, Int.reduceEq, Int.reduceLT, Int.reduceLE, Int.reduceNe, forall_const, forall_eq', forall_eq, List.forall_mem_cons, List.not_mem_nil]
      · simp only [j0, j5, j30, j6, j34, j35, w1, wf_preprocess, ↓reduceIte, Nat.reduceEqDiff, reduceCtorEq, Nat.reduceAdd, Nat.reduceMul, Nat.reduceLeDiff, Nat.reduceLT, Nat.reduceSub, Int.reduceToNat, Int.reduceNeg, Int.reduceAdd, Int.reduceSub, Int.reduceMul, Int.reduceEq, Int.reduceLT, Int.reduceLE, Int.reduceNe, forall_const, forall_eq', forall_eq, List.forall_mem_cons, List.not_mem_nil]
        refine ⟨L.length - (i + 1), by omega, i + 1, rfl, by omega, fun j hj => ?_, hSt3, rfl⟩
        by_cases e : j = i
        · subst e; exact c
        · exact hf j (by omega)
    · obtain rfl : i = L.length := by omega
      have w1 : IntKind.i64.wrap ((s : Int) + 1) = ((s + 1 : Nat) : Int) := wrap64 (by omega) (by omega)
      rw [es_next] at hSt2
      simp only [j0, j5, j30, j6, j34, j35, hin, w1, wf_preprocess, ↓reduceIte, Nat.reduceEqDiff, reduceCtorEq, Nat.reduceAdd, Nat.reduceMul, Nat.reduceLeDiff, Nat.reduceLT, Nat.reduceSub, Int.reduceToNat, Int.reduceNeg, Int.reduceAdd, Int.reduceSub, Int.reduceMul, Int.reduceEq, Int.reduceLT, Int.reduceLE, Int.reduceNe, forall_const, forall_eq', forall_eq, List.forall_mem_cons, List.not_mem_nil]
      refine ⟨5 - (s + 1), by omega, s + 1, rfl, by omega, fun s' hs' => ?_, hSt2, rfl⟩
      by_cases e : s' = s
      · subst e; exact hf
      · exact hb s' (by omega)
  · obtain rfl : s = 5 := by omega
    have c1 : ¬ ((5 : Nat) : Int) < 5 := by omega
    simp only [k0, k5, k30, c1, wf_preprocess, ↓reduceIte, Nat.reduceEqDiff, reduceCtorEq, Nat.reduceAdd, Nat.reduceMul, Nat.reduceLeDiff, Nat.reduceLT, Nat.reduceSub, Int.reduceToNat, Int.reduceNeg, Int.reduceAdd, Int.reduceSub, Int.reduceMul, Int.reduceEq, Int.reduceLT, Int.reduceLE, Int.reduceNe, forall_const, forall_eq', forall_eq, List.forall_mem_cons, List.not_mem_nil]
    refine k _ m1 (fun s' hs' => hb s' (by omega)) hSt ?_ ?_ <;> simp only [k0, k5, wf_preprocess, ↓reduceIte, Nat.reduceEqDiff, reduceCtorEq, Nat.reduceAdd, Nat.reduceMul, Nat.reduceLeDiff, Nat.reduceLT, Nat.reduceSub, Int.reduceToNat, Int.reduceNeg, Int.reduceAdd, Int.reduceSub, Int.reduceMul, Int.reduceEq, Int.reduceLT, Int.reduceLE, Int.reduceNe, forall_const, forall_eq', forall_eq, List.forall_mem_cons, List.not_mem_nil]
end
end Go.Proofs.Ytceahampebofbaa.Moi.Tree
