/- What functions of this program do, on plain values: a part of the proofs of this seat's laws; each theorem bears its own conditions. -/
import Derived.Test.YtidmcijapbeaaaaNumA
set_option linter.unusedVariables false
set_option linter.unusedSimpArgs false
set_option maxRecDepth 1000000
namespace Go.Proofs.Ytidmcijapbeaaaa.Moi.Num
open Go Go.RowKit Go.Proofs.Ytidmcijapbeaaaa.Moi
attribute [-wf_preprocess] ite_eq_dite forIn_eq_forIn'

section
variable {a b n v far : Int} {ok below : Bool} {m : Heap} {l : List Int} {o : Own} {Q E : AV → Heap → Prop}
theorem isU_U : isU (U a) := by unfold isU U; omega
theorem isI_W : isI (W a) := by unfold isI W; omega

theorem W_add : W (W a + b) = W (a + b) := by unfold W; omega
theorem W_add' : W (a + W b) = W (a + b) := by unfold W; omega
theorem W_sub : W (W a - b) = W (a - b) := by unfold W; omega
theorem W_W : W (W a) = W a := by unfold W; omega
theorem U_add : U (U a + U b) = U (a + b) := by unfold U; omega
theorem U_addr : U (U a + b) = U (a + b) := by unfold U; omega
theorem U_subr : U (U a - b) = U (a - b) := by unfold U; omega
theorem div_add : (v + n) / 18446744073709551616 = v / 18446744073709551616 + n / 18446744073709551616 + (U v + U n) / 18446744073709551616 := by unfold U; omega
theorem div_sub (h : isU far) : (v - far) / 18446744073709551616 = v / 18446744073709551616 - if U v < U (v - far) then 1 else 0 := by unfold isU at h; unfold U; split <;> omega
theorem carry : (U v + U n) / 18446744073709551616 = if U (v + n) < U v then 1 else 0 := by unfold U; split <;> omega
theorem div_small (h : isI n) : n / 18446744073709551616 = if n < 0 then -1 else 0 := by unfold isI at h; split <;> omega
theorem sh_small (h : isI n) : n / 9223372036854775808 = if n < 0 then -1 else 0 := by unfold isI at h; split <;> omega

/-- A wide number with one more: as it is reckoned by both. -/
theorem rMore1_s (hn : isI n) (k : Q (wd (v + n)) m) : ACall Try.prog 28 [wd v, iv n] m Q E := by
  refine pureR ?_ k
  refine acall_fnc mixed Try.func28 Try.call28 e28 r28 (Nat.le_of_ble_eq_true rfl) ?_
  simp only [n28, wc, wf_preprocess, ↓reduceIte, Nat.reduceEqDiff, reduceCtorEq, Nat.reduceAdd, Nat.reduceMul, Nat.reduceLeDiff, Nat.reduceLT, Nat.reduceSub, Int.reduceToNat, Int.reduceNeg, Int.reduceAdd, Int.reduceSub, Int.reduceMul, Int.reduceEq, Int.reduceLT, Int.reduceLE, Int.reduceNe, forall_const, forall_eq', forall_eq, List.forall_mem_cons, List.not_mem_nil]
  refine fresh_i fun i hi => ?_
  simp only [wf_preprocess, ↓reduceIte, Nat.reduceEqDiff, reduceCtorEq, Nat.reduceAdd, Nat.reduceMul, Nat.reduceLeDiff, Nat.reduceLT, Nat.reduceSub, Int.reduceToNat, Int.reduceNeg, Int.reduceAdd, Int.reduceSub, Int.reduceMul, Int.reduceEq, Int.reduceLT, Int.reduceLE, Int.reduceNe, forall_const, forall_eq', forall_eq, List.forall_mem_cons, List.not_mem_nil]
  refine fresh_i fun j hj => ?_
  have e1 : ¬ i = j := fun h => hj (by simp [keys, h])
  have e2 : ¬ j = i := fun h => e1 h.symm
  have hq := div_add (v := v) (n := n)
  rw [carry, div_small hn] at hq
  by_cases h1 : U (v + n) < U v <;> by_cases h2 : n < 0
  all_goals
    simp only [h1, h2, if_true, if_false] at hq
    simp only [wu, wi, wc, U_add, e1, e2, h1, h2, W_add, W_sub, W_W, wf_preprocess, ↓reduceIte, Nat.reduceEqDiff, reduceCtorEq, Nat.reduceAdd, Nat.reduceMul, Nat.reduceLeDiff, Nat.reduceLT, Nat.reduceSub, Int.reduceToNat, Int.reduceNeg, Int.reduceAdd, Int.reduceSub, Int.reduceMul, Int.reduceEq, Int.reduceLT, Int.reduceLE, Int.reduceNe, forall_const, forall_eq', forall_eq, List.forall_mem_cons, List.not_mem_nil]
    simp only [wd, wc, hq]
    try (congr 5; omega)

def sumL (l : List Int) : Int := l.sum
theorem sum_snoc {i : Nat} {x : Int} (h : l[i]? = some x) : sumL (l.take (i + 1)) = sumL (l.take i) + x := by
  rw [sumL, List.take_add_one, h, List.sum_append, sumL]; simp

theorem rMore_s (hl : l.length ≤ 17592186044416) (hr : ∀ n ∈ l, isI n) (k : Q (wd (v + sumL l)) m) : ACall Try.prog 9 [wd v, .lst (kl .i64 l) o] m Q E := by
  refine pureR ?_ k
  refine acall_fnc mixed Try.func9 Try.call9 e9 r9 (Nat.le_of_ble_eq_true rfl) ?_
  simp only [n9, wc, wf_preprocess, ↓reduceIte, Nat.reduceEqDiff, reduceCtorEq, Nat.reduceAdd, Nat.reduceMul, Nat.reduceLeDiff, Nat.reduceLT, Nat.reduceSub, Int.reduceToNat, Int.reduceNeg, Int.reduceAdd, Int.reduceSub, Int.reduceMul, Int.reduceEq, Int.reduceLT, Int.reduceLE, Int.reduceNe, forall_const, forall_eq', forall_eq, List.forall_mem_cons, List.not_mem_nil]
  refine fresh_i fun i hi => ?_
  simp only [wf_preprocess, ↓reduceIte, Nat.reduceEqDiff, reduceCtorEq, Nat.reduceAdd, Nat.reduceMul, Nat.reduceLeDiff, Nat.reduceLT, Nat.reduceSub, Int.reduceToNat, Int.reduceNeg, Int.reduceAdd, Int.reduceSub, Int.reduceMul, Int.reduceEq, Int.reduceLT, Int.reduceLE, Int.reduceNe, forall_const, forall_eq', forall_eq, List.forall_mem_cons, List.not_mem_nil]
  refine fresh_i fun j hj => ?_
  have e1 : ¬ i = j := fun h => hj (by simp [keys, h])
  have e2 : ¬ j = i := fun h => e1 h.symm
  simp only [e1, e2, wf_preprocess, ↓reduceIte, Nat.reduceEqDiff, reduceCtorEq, Nat.reduceAdd, Nat.reduceMul, Nat.reduceLeDiff, Nat.reduceLT, Nat.reduceSub, Int.reduceToNat, Int.reduceNeg, Int.reduceAdd, Int.reduceSub, Int.reduceMul, Int.reduceEq, Int.reduceLT, Int.reduceLE, Int.reduceNe, forall_const, forall_eq', forall_eq, List.forall_mem_cons, List.not_mem_nil]
  refine loop_i (fun kk ρ m' => ∃ (t : Nat), kk = l.length - t ∧ t ≤ l.length ∧ ρ 1 = .lst (kl .i64 l) o ∧ ρ 2 = .ptr i 0 ∧ ρ 4 = .ptr j 0 ∧ ρ 5 = iv t ∧ m' = [(j, .cells [iv 0, u64v 0]), (i, .cells (wc (v + sumL (l.take t))))]) l.length ⟨0, rfl, by omega, ?_⟩ ?_
  · simp only [wf_preprocess, ↓reduceIte, Nat.reduceEqDiff, reduceCtorEq, Nat.reduceAdd, Nat.reduceMul, Nat.reduceLeDiff, Nat.reduceLT, Nat.reduceSub, Int.reduceToNat, Int.reduceNeg, Int.reduceAdd, Int.reduceSub, Int.reduceMul, Int.reduceEq, Int.reduceLT, Int.reduceLE, Int.reduceNe, forall_const, forall_eq', forall_eq, List.forall_mem_cons, List.not_mem_nil]
    simp [sumL, wc]
  rintro kk ρ m' ⟨t, rfl, ht, g1, g2, g4, g5, rfl⟩
  by_cases hlt : (t : Int) < (l.length : Int)
  · obtain ⟨x, hx⟩ : ∃ x, l[t]? = some x := ⟨_, List.getElem?_eq_getElem (by omega)⟩
    have w1 : IntKind.i64.wrap ((t : Int) + 1) = ((t + 1 : Nat) : Int) := wrap64 (by omega) (by omega)
    have hxb := hr x (List.mem_of_getElem? hx)
    simp only [g1, g2, g4, g5, hlt, List.length_map, Int.natCast_nonneg, kl_get hx, e1, e2, wc, wf_preprocess, ↓reduceIte, Nat.reduceEqDiff, reduceCtorEq, Nat.reduceAdd, Nat.reduceMul, Nat.reduceLeDiff, Nat.reduceLT, Nat.reduceSub, Int.reduceToNat, Int.reduceNeg, Int.reduceAdd, Int.reduceSub, Int.reduceMul, Int.reduceEq, Int.reduceLT, Int.reduceLE, Int.reduceNe, forall_const, forall_eq', forall_eq, List.forall_mem_cons, List.not_mem_nil]
    refine call_i (rMore1_s (v := v + sumL (l.take t)) hxb ?_)
    simp only [g1, g2, g4, g5, e1, e2, w1, wc, wf_preprocess, ↓reduceIte, Nat.reduceEqDiff, reduceCtorEq, Nat.reduceAdd, Nat.reduceMul, Nat.reduceLeDiff, Nat.reduceLT, Nat.reduceSub, Int.reduceToNat, Int.reduceNeg, Int.reduceAdd, Int.reduceSub, Int.reduceMul, Int.reduceEq, Int.reduceLT, Int.reduceLE, Int.reduceNe, forall_const, forall_eq', forall_eq, List.forall_mem_cons, List.not_mem_nil]
    exact ⟨l.length - (t + 1), by omega, t + 1, rfl, by omega, rfl, by rw [sum_snoc hx, Int.add_assoc]⟩
  · have : t = l.length := by omega
    subst this
    simp only [g1, g2, g4, g5, hlt, List.length_map, e1, e2, wc, List.take_length, wf_preprocess, ↓reduceIte, Nat.reduceEqDiff, reduceCtorEq, Nat.reduceAdd, Nat.reduceMul, Nat.reduceLeDiff, Nat.reduceLT, Nat.reduceSub, Int.reduceToNat, Int.reduceNeg, Int.reduceAdd, Int.reduceSub, Int.reduceMul, Int.reduceEq, Int.reduceLT, Int.reduceLE, Int.reduceNe, forall_const, forall_eq', forall_eq, List.forall_mem_cons, List.not_mem_nil]
    try rfl

theorem More_s (hl : l.length ≤ 17592186044416) (hr : ∀ n ∈ l, isI n) (k : Q (wd (v + sumL l)) m) : ACall Try.prog 8 [wd v, .lst (kl .i64 l) o] m Q E := by
  refine pureR ?_ k
  refine acall_fnc mixed Try.func8 Try.call8 e8 r8 (Nat.le_of_ble_eq_true rfl) ?_
  simp only [n8, wc, wf_preprocess, ↓reduceIte, Nat.reduceEqDiff, reduceCtorEq, Nat.reduceAdd, Nat.reduceMul, Nat.reduceLeDiff, Nat.reduceLT, Nat.reduceSub, Int.reduceToNat, Int.reduceNeg, Int.reduceAdd, Int.reduceSub, Int.reduceMul, Int.reduceEq, Int.reduceLT, Int.reduceLE, Int.reduceNe, forall_const, forall_eq', forall_eq, List.forall_mem_cons, List.not_mem_nil]
  refine fresh_i fun i hi => ?_
  simp only [wf_preprocess, ↓reduceIte, Nat.reduceEqDiff, reduceCtorEq, Nat.reduceAdd, Nat.reduceMul, Nat.reduceLeDiff, Nat.reduceLT, Nat.reduceSub, Int.reduceToNat, Int.reduceNeg, Int.reduceAdd, Int.reduceSub, Int.reduceMul, Int.reduceEq, Int.reduceLT, Int.reduceLE, Int.reduceNe, forall_const, forall_eq', forall_eq, List.forall_mem_cons, List.not_mem_nil]
  refine fresh_i fun j hj => ?_
  have e1 : ¬ i = j := fun h => hj (by simp [keys, h])
  have e2 : ¬ j = i := fun h => e1 h.symm
  simp only [e1, e2, List.length_map, wf_preprocess, ↓reduceIte, Nat.reduceEqDiff, reduceCtorEq, Nat.reduceAdd, Nat.reduceMul, Nat.reduceLeDiff, Nat.reduceLT, Nat.reduceSub, Int.reduceToNat, Int.reduceNeg, Int.reduceAdd, Int.reduceSub, Int.reduceMul, Int.reduceEq, Int.reduceLT, Int.reduceLE, Int.reduceNe, forall_const, forall_eq', forall_eq, List.forall_mem_cons, List.not_mem_nil]
  refine loop_i (fun kk ρ m' => ∃ (t : Nat), kk = l.length - t ∧ t ≤ l.length ∧ ρ 9 = .lst (kl .i64 l) o ∧ ρ 10 = iv l.length ∧ ρ 2 = .ptr i 0 ∧ ρ 4 = .ptr j 0 ∧ ρ 11 = iv t ∧ m' = [(j, .cells [iv 0, u64v 0]), (i, .cells (wc (v + sumL (l.take t))))]) l.length ⟨0, rfl, by omega, ?_⟩ ?_
  · simp only [wf_preprocess, ↓reduceIte, Nat.reduceEqDiff, reduceCtorEq, Nat.reduceAdd, Nat.reduceMul, Nat.reduceLeDiff, Nat.reduceLT, Nat.reduceSub, Int.reduceToNat, Int.reduceNeg, Int.reduceAdd, Int.reduceSub, Int.reduceMul, Int.reduceEq, Int.reduceLT, Int.reduceLE, Int.reduceNe, forall_const, forall_eq', forall_eq, List.forall_mem_cons, List.not_mem_nil]
    simp [sumL, wc]
  rintro kk ρ m' ⟨t, rfl, ht, g9, g10, g2, g4, g11, rfl⟩
  by_cases hlt : (t : Int) < (l.length : Int)
  · obtain ⟨x, hx⟩ : ∃ x, l[t]? = some x := ⟨_, List.getElem?_eq_getElem (by omega)⟩
    have w1 : IntKind.i64.wrap ((t : Int) + 1) = ((t + 1 : Nat) : Int) := wrap64 (by omega) (by omega)
    have hxb := hr x (List.mem_of_getElem? hx)
    simp only [g9, g10, g2, g4, g11, hlt, Int.natCast_nonneg, kl_get hx, e1, e2, wc, wu, wf_preprocess, ↓reduceIte, Nat.reduceEqDiff, reduceCtorEq, Nat.reduceAdd, Nat.reduceMul, Nat.reduceLeDiff, Nat.reduceLT, Nat.reduceSub, Int.reduceToNat, Int.reduceNeg, Int.reduceAdd, Int.reduceSub, Int.reduceMul, Int.reduceEq, Int.reduceLT, Int.reduceLE, Int.reduceNe, forall_const, forall_eq', forall_eq, List.forall_mem_cons, List.not_mem_nil]
    refine call_i (Add64_s isU_U isU_U ?_)
    have hs : W (W (W ((v + sumL (l.take t)) / 18446744073709551616) + x / 9223372036854775808) + W ((U (v + sumL (l.take t)) + U x) / 18446744073709551616)) = W ((v + sumL (l.take (t + 1))) / 18446744073709551616) ∧ U (U (v + sumL (l.take t)) + U x) = U (v + sumL (l.take (t + 1))) := by
      rw [sum_snoc hx, ← Int.add_assoc]
      generalize v + sumL (l.take t) = s
      refine ⟨?_, U_add⟩
      rw [W_add', W_add, Int.add_assoc, W_add, div_add (v := s) (n := x), sh_small hxb, div_small hxb, Int.add_assoc]
    simp only [g9, g10, g2, g4, g11, e1, e2, w1, wc, wu, wi, sh63, hs.1, hs.2, wf_preprocess, ↓reduceIte, Nat.reduceEqDiff, reduceCtorEq, Nat.reduceAdd, Nat.reduceMul, Nat.reduceLeDiff, Nat.reduceLT, Nat.reduceSub, Int.reduceToNat, Int.reduceNeg, Int.reduceAdd, Int.reduceSub, Int.reduceMul, Int.reduceEq, Int.reduceLT, Int.reduceLE, Int.reduceNe, forall_const, forall_eq', forall_eq, List.forall_mem_cons, List.not_mem_nil]
    exact ⟨l.length - (t + 1), by omega, t + 1, rfl, by omega, rfl, rfl⟩
  · have : t = l.length := by omega
    subst this
    simp only [g9, g10, g2, g4, g11, hlt, e1, e2, wc, List.take_length, wf_preprocess, ↓reduceIte, Nat.reduceEqDiff, reduceCtorEq, Nat.reduceAdd, Nat.reduceMul, Nat.reduceLeDiff, Nat.reduceLT, Nat.reduceSub, Int.reduceToNat, Int.reduceNeg, Int.reduceAdd, Int.reduceSub, Int.reduceMul, Int.reduceEq, Int.reduceLT, Int.reduceLE, Int.reduceNe, forall_const, forall_eq', forall_eq, List.forall_mem_cons, List.not_mem_nil]
    try rfl

/-- A wide number in 64 bits. -/
def fitsR (v : Int) : AV := fitR (decide (W (v / 18446744073709551616) = W v / 9223372036854775808)) (W v)
theorem Fits_s (k : Q (fitsR v) m) : ACall Try.prog 10 [wd v] m Q E := by
  refine pureR ?_ k
  refine acall_fn mixed Try.func10 Try.call10 e10 r10 (Nat.le_of_ble_eq_true rfl) ?_
  simp only [n10, wc, wf_preprocess, ↓reduceIte, Nat.reduceEqDiff, reduceCtorEq, Nat.reduceAdd, Nat.reduceMul, Nat.reduceLeDiff, Nat.reduceLT, Nat.reduceSub, Int.reduceToNat, Int.reduceNeg, Int.reduceAdd, Int.reduceSub, Int.reduceMul, Int.reduceEq, Int.reduceLT, Int.reduceLE, Int.reduceNe, forall_const, forall_eq', forall_eq, List.forall_mem_cons, List.not_mem_nil]
  refine fresh_i fun i hi => ?_
  have hw : W (U v) = W v := by unfold W U; omega
  simp only [wi, wc, sh63, hw, wf_preprocess, ↓reduceIte, Nat.reduceEqDiff, reduceCtorEq, Nat.reduceAdd, Nat.reduceMul, Nat.reduceLeDiff, Nat.reduceLT, Nat.reduceSub, Int.reduceToNat, Int.reduceNeg, Int.reduceAdd, Int.reduceSub, Int.reduceMul, Int.reduceEq, Int.reduceLT, Int.reduceLE, Int.reduceNe, forall_const, forall_eq', forall_eq, List.forall_mem_cons, List.not_mem_nil]
  refine call_i (fit_s ?_)
  simp only [fitR, fitsR, wf_preprocess, ↓reduceIte, Nat.reduceEqDiff, reduceCtorEq, Nat.reduceAdd, Nat.reduceMul, Nat.reduceLeDiff, Nat.reduceLT, Nat.reduceSub, Int.reduceToNat, Int.reduceNeg, Int.reduceAdd, Int.reduceSub, Int.reduceMul, Int.reduceEq, Int.reduceLT, Int.reduceLE, Int.reduceNe, forall_const, forall_eq', forall_eq, List.forall_mem_cons, List.not_mem_nil]
theorem rFits_s (k : Q (fitsR v) m) : ACall Try.prog 11 [wd v] m Q E := by
  refine pureR ?_ k
  refine acall_fn mixed Try.func11 Try.call11 e11 r11 (Nat.le_of_ble_eq_true rfl) ?_
  simp only [n11, wc, wf_preprocess, ↓reduceIte, Nat.reduceEqDiff, reduceCtorEq, Nat.reduceAdd, Nat.reduceMul, Nat.reduceLeDiff, Nat.reduceLT, Nat.reduceSub, Int.reduceToNat, Int.reduceNeg, Int.reduceAdd, Int.reduceSub, Int.reduceMul, Int.reduceEq, Int.reduceLT, Int.reduceLE, Int.reduceNe, forall_const, forall_eq', forall_eq, List.forall_mem_cons, List.not_mem_nil]
  refine fresh_i fun i hi => ?_
  have hw : W (U v) = W v := by unfold W U; omega
  have hb := isI_W (a := v)
  have hc := isI_W (a := v / 18446744073709551616)
  have hwc : wc v = [iv (W (v / 18446744073709551616)), u64v (U v)] := rfl
  unfold fitsR
  generalize W (v / 18446744073709551616) = h at *
  generalize W v = n at *
  have hd : h = n / 9223372036854775808 ↔ (h = 0 ∧ 0 ≤ n ∨ h = -1 ∧ n < 0) := by unfold isI at hb hc; omega
  rw [show decide (h = n / 9223372036854775808) = decide (h = 0 ∧ 0 ≤ n ∨ h = -1 ∧ n < 0) from decide_eq_decide.2 hd]
  by_cases h1 : h = 0 <;> by_cases h2 : h = -1 <;> by_cases h3 : n < 0
  all_goals
    have h4 : (0 ≤ n) = ¬ n < 0 := by simp
    simp only [wi, hwc, hw, h1, h2, h3, h4, fitR, wf_preprocess, ↓reduceIte, Nat.reduceEqDiff, reduceCtorEq, Nat.reduceAdd, Nat.reduceMul, Nat.reduceLeDiff, Nat.reduceLT, Nat.reduceSub, Int.reduceToNat, Int.reduceNeg, Int.reduceAdd, Int.reduceSub, Int.reduceMul, Int.reduceEq, Int.reduceLT, Int.reduceLE, Int.reduceNe, forall_const, forall_eq', forall_eq, List.forall_mem_cons, List.not_mem_nil]
    try simp
theorem fits_clamp (h : -170141183460469231731687303715884105728 ≤ v ∧ v < 170141183460469231731687303715884105728) : fitsR v = clampR v := by
  refine fit_clamp ?_ fun h => W_id h
  simp only [decide_eq_true_eq]
  simp only [W, isI]
  omega

theorem zero_wd : AV.agg [iv 0, u64v 0] = wd 0 := rfl
theorem Sum_s (hl : l.length ≤ 17592186044416) (hr : ∀ n ∈ l, isI n) (k : Q (fitsR (sumL l)) m) : ACall Try.prog 12 [.lst (kl .i64 l) o] m Q E := by
  refine pureR ?_ k
  refine acall_fn mixed Try.func12 Try.call12 e12 r12 (Nat.le_of_ble_eq_true rfl) ?_
  simp only [n12, wf_preprocess, ↓reduceIte, Nat.reduceEqDiff, reduceCtorEq, Nat.reduceAdd, Nat.reduceMul, Nat.reduceLeDiff, Nat.reduceLT, Nat.reduceSub, Int.reduceToNat, Int.reduceNeg, Int.reduceAdd, Int.reduceSub, Int.reduceMul, Int.reduceEq, Int.reduceLT, Int.reduceLE, Int.reduceNe, forall_const, forall_eq', forall_eq, List.forall_mem_cons, List.not_mem_nil]
  refine call_i (More_s (v := 0) hl hr ?_)
  simp only [wf_preprocess, ↓reduceIte, Nat.reduceEqDiff, reduceCtorEq, Nat.reduceAdd, Nat.reduceMul, Nat.reduceLeDiff, Nat.reduceLT, Nat.reduceSub, Int.reduceToNat, Int.reduceNeg, Int.reduceAdd, Int.reduceSub, Int.reduceMul, Int.reduceEq, Int.reduceLT, Int.reduceLE, Int.reduceNe, forall_const, forall_eq', forall_eq, List.forall_mem_cons, List.not_mem_nil]
  refine call_i (Fits_s ?_)
  simp only [fitsR, fitR, wf_preprocess, ↓reduceIte, Nat.reduceEqDiff, reduceCtorEq, Nat.reduceAdd, Nat.reduceMul, Nat.reduceLeDiff, Nat.reduceLT, Nat.reduceSub, Int.reduceToNat, Int.reduceNeg, Int.reduceAdd, Int.reduceSub, Int.reduceMul, Int.reduceEq, Int.reduceLT, Int.reduceLE, Int.reduceNe, forall_const, forall_eq', forall_eq, List.forall_mem_cons, List.not_mem_nil]
theorem rSum_s (hl : l.length ≤ 17592186044416) (hr : ∀ n ∈ l, isI n) (k : Q (fitsR (sumL l)) m) : ACall Try.prog 13 [.lst (kl .i64 l) o] m Q E := by
  refine pureR ?_ k
  refine acall_fn mixed Try.func13 Try.call13 e13 r13 (Nat.le_of_ble_eq_true rfl) ?_
  simp only [n13, wf_preprocess, ↓reduceIte, Nat.reduceEqDiff, reduceCtorEq, Nat.reduceAdd, Nat.reduceMul, Nat.reduceLeDiff, Nat.reduceLT, Nat.reduceSub, Int.reduceToNat, Int.reduceNeg, Int.reduceAdd, Int.reduceSub, Int.reduceMul, Int.reduceEq, Int.reduceLT, Int.reduceLE, Int.reduceNe, forall_const, forall_eq', forall_eq, List.forall_mem_cons, List.not_mem_nil]
  refine call_i (rMore_s (v := 0) hl hr ?_)
  simp only [wf_preprocess, ↓reduceIte, Nat.reduceEqDiff, reduceCtorEq, Nat.reduceAdd, Nat.reduceMul, Nat.reduceLeDiff, Nat.reduceLT, Nat.reduceSub, Int.reduceToNat, Int.reduceNeg, Int.reduceAdd, Int.reduceSub, Int.reduceMul, Int.reduceEq, Int.reduceLT, Int.reduceLE, Int.reduceNe, forall_const, forall_eq', forall_eq, List.forall_mem_cons, List.not_mem_nil]
  refine call_i (rFits_s ?_)
  simp only [fitsR, fitR, wf_preprocess, ↓reduceIte, Nat.reduceEqDiff, reduceCtorEq, Nat.reduceAdd, Nat.reduceMul, Nat.reduceLeDiff, Nat.reduceLT, Nat.reduceSub, Int.reduceToNat, Int.reduceNeg, Int.reduceAdd, Int.reduceSub, Int.reduceMul, Int.reduceEq, Int.reduceLT, Int.reduceLE, Int.reduceNe, forall_const, forall_eq', forall_eq, List.forall_mem_cons, List.not_mem_nil]

theorem rAdd_s (ha : isI a) (hb : isI b) (k : Q (clampR (a + b)) m) : ACall Try.prog 18 [iv a, iv b] m Q E := by
  refine pureR ?_ k
  refine acall_fn mixed Try.func18 Try.call18 e18 r18 (Nat.le_of_ble_eq_true rfl) ?_
  simp only [n18, wf_preprocess, ↓reduceIte, Nat.reduceEqDiff, reduceCtorEq, Nat.reduceAdd, Nat.reduceMul, Nat.reduceLeDiff, Nat.reduceLT, Nat.reduceSub, Int.reduceToNat, Int.reduceNeg, Int.reduceAdd, Int.reduceSub, Int.reduceMul, Int.reduceEq, Int.reduceLT, Int.reduceLE, Int.reduceNe, forall_const, forall_eq', forall_eq, List.forall_mem_cons, List.not_mem_nil]
  refine call_i (rSum_s (l := [a, b]) (by simp) (by simp [ha, hb]) ?_)
  have e : fitsR (sumL [a, b]) = clampR (a + b) := by
    rw [show sumL [a, b] = a + b by simp [sumL]]
    exact fits_clamp (by unfold isI at ha hb; omega)
  simp only [e, clampR, fitR, wf_preprocess, ↓reduceIte, Nat.reduceEqDiff, reduceCtorEq, Nat.reduceAdd, Nat.reduceMul, Nat.reduceLeDiff, Nat.reduceLT, Nat.reduceSub, Int.reduceToNat, Int.reduceNeg, Int.reduceAdd, Int.reduceSub, Int.reduceMul, Int.reduceEq, Int.reduceLT, Int.reduceLE, Int.reduceNe, forall_const, forall_eq', forall_eq, List.forall_mem_cons, List.not_mem_nil]
theorem rOff_s (ha : isI a) (hf : isU far) (k : Q (clampR (offV a far below)) m) : ACall Try.prog 26 [iv a, u64v far, bo below] m Q E := by
  refine pureR ?_ k
  refine acall_fn mixed Try.func26 Try.call26 e26 r26 (Nat.le_of_ble_eq_true rfl) ?_
  simp only [n26, wf_preprocess, ↓reduceIte, Nat.reduceEqDiff, reduceCtorEq, Nat.reduceAdd, Nat.reduceMul, Nat.reduceLeDiff, Nat.reduceLT, Nat.reduceSub, Int.reduceToNat, Int.reduceNeg, Int.reduceAdd, Int.reduceSub, Int.reduceMul, Int.reduceEq, Int.reduceLT, Int.reduceLE, Int.reduceNe, forall_const, forall_eq', forall_eq, List.forall_mem_cons, List.not_mem_nil]
  refine call_i (rMore1_s (v := 0) ha ?_)
  simp only [Int.zero_add, wc, wf_preprocess, ↓reduceIte, Nat.reduceEqDiff, reduceCtorEq, Nat.reduceAdd, Nat.reduceMul, Nat.reduceLeDiff, Nat.reduceLT, Nat.reduceSub, Int.reduceToNat, Int.reduceNeg, Int.reduceAdd, Int.reduceSub, Int.reduceMul, Int.reduceEq, Int.reduceLT, Int.reduceLE, Int.reduceNe, forall_const, forall_eq', forall_eq, List.forall_mem_cons, List.not_mem_nil]
  refine fresh_i fun i hi => ?_
  have hf0 : far / 18446744073709551616 = 0 := by unfold isU at hf; omega
  have hUf : U far = far := U_id hf
  cases below
  · have hq := div_add (v := a) (n := far)
    rw [carry, hf0] at hq
    by_cases h : U (a + far) < U a
    all_goals
      simp only [h, if_true, if_false, Int.add_zero] at hq
      simp only [wu, wi, wc, U_addr, h, W_add, W_W, wf_preprocess, ↓reduceIte, Nat.reduceEqDiff, reduceCtorEq, Nat.reduceAdd, Nat.reduceMul, Nat.reduceLeDiff, Nat.reduceLT, Nat.reduceSub, Int.reduceToNat, Int.reduceNeg, Int.reduceAdd, Int.reduceSub, Int.reduceMul, Int.reduceEq, Int.reduceLT, Int.reduceLE, Int.reduceNe, forall_const, forall_eq', forall_eq, List.forall_mem_cons, List.not_mem_nil]
      refine call_i ?_
      first | rw [← hq] | skip
      refine rFits_s (v := a + far) ?_
      rw [fits_clamp (by unfold isI isU at *; omega)]
      simp only [offV, clampR, fitR, wf_preprocess, ↓reduceIte, Nat.reduceEqDiff, reduceCtorEq, Nat.reduceAdd, Nat.reduceMul, Nat.reduceLeDiff, Nat.reduceLT, Nat.reduceSub, Int.reduceToNat, Int.reduceNeg, Int.reduceAdd, Int.reduceSub, Int.reduceMul, Int.reduceEq, Int.reduceLT, Int.reduceLE, Int.reduceNe, forall_const, forall_eq', forall_eq, List.forall_mem_cons, List.not_mem_nil]
      try rfl
  · have hq := div_sub (v := a) hf
    by_cases h : U a < U (a - far)
    all_goals
      simp only [h, if_true, if_false, Int.sub_zero] at hq
      simp only [wu, wi, wc, U_subr, h, W_sub, W_W, wf_preprocess, ↓reduceIte, Nat.reduceEqDiff, reduceCtorEq, Nat.reduceAdd, Nat.reduceMul, Nat.reduceLeDiff, Nat.reduceLT, Nat.reduceSub, Int.reduceToNat, Int.reduceNeg, Int.reduceAdd, Int.reduceSub, Int.reduceMul, Int.reduceEq, Int.reduceLT, Int.reduceLE, Int.reduceNe, forall_const, forall_eq', forall_eq, List.forall_mem_cons, List.not_mem_nil]
      refine call_i ?_
      first | rw [← hq] | skip
      refine rFits_s (v := a - far) ?_
      rw [fits_clamp (by unfold isI isU at *; omega)]
      simp only [offV, clampR, fitR, wf_preprocess, ↓reduceIte, Nat.reduceEqDiff, reduceCtorEq, Nat.reduceAdd, Nat.reduceMul, Nat.reduceLeDiff, Nat.reduceLT, Nat.reduceSub, Int.reduceToNat, Int.reduceNeg, Int.reduceAdd, Int.reduceSub, Int.reduceMul, Int.reduceEq, Int.reduceLT, Int.reduceLE, Int.reduceNe, forall_const, forall_eq', forall_eq, List.forall_mem_cons, List.not_mem_nil]
      try rfl
theorem isU_diff (ha : isI a) (hb : isI b) : isU (if a < b then b - a else a - b) := by unfold isI isU at *; split <;> omega
theorem rSub_s (ha : isI a) (hb : isI b) (k : Q (clampR (a - b)) m) : ACall Try.prog 20 [iv a, iv b] m Q E := by
  refine pureR ?_ k
  refine acall_fn mixed Try.func20 Try.call20 e20 r20 (Nat.le_of_ble_eq_true rfl) ?_
  simp only [n20, wf_preprocess, ↓reduceIte, Nat.reduceEqDiff, reduceCtorEq, Nat.reduceAdd, Nat.reduceMul, Nat.reduceLeDiff, Nat.reduceLT, Nat.reduceSub, Int.reduceToNat, Int.reduceNeg, Int.reduceAdd, Int.reduceSub, Int.reduceMul, Int.reduceEq, Int.reduceLT, Int.reduceLE, Int.reduceNe, forall_const, forall_eq', forall_eq, List.forall_mem_cons, List.not_mem_nil]
  refine call_i (rDiff_s ha hb ?_)
  simp only [diffR, wf_preprocess, ↓reduceIte, Nat.reduceEqDiff, reduceCtorEq, Nat.reduceAdd, Nat.reduceMul, Nat.reduceLeDiff, Nat.reduceLT, Nat.reduceSub, Int.reduceToNat, Int.reduceNeg, Int.reduceAdd, Int.reduceSub, Int.reduceMul, Int.reduceEq, Int.reduceLT, Int.reduceLE, Int.reduceNe, forall_const, forall_eq', forall_eq, List.forall_mem_cons, List.not_mem_nil]
  refine call_i (rOff_s (by unfold isI; omega) (isU_diff ha hb) ?_)
  have e : offV 0 (if a < b then b - a else a - b) (decide (a < b)) = a - b := by
    unfold offV
    by_cases h : a < b
    · simp only [h, decide_true, if_true]; omega
    · simp only [h, decide_false, if_false]; simp
  simp only [e, clampR, fitR, wf_preprocess, ↓reduceIte, Nat.reduceEqDiff, reduceCtorEq, Nat.reduceAdd, Nat.reduceMul, Nat.reduceLeDiff, Nat.reduceLT, Nat.reduceSub, Int.reduceToNat, Int.reduceNeg, Int.reduceAdd, Int.reduceSub, Int.reduceMul, Int.reduceEq, Int.reduceLT, Int.reduceLE, Int.reduceNe, forall_const, forall_eq', forall_eq, List.forall_mem_cons, List.not_mem_nil]
theorem rNeg_s (ha : isI a) (k : Q (clampR (0 - a)) m) : ACall Try.prog 22 [iv a] m Q E := by
  refine pureR ?_ k
  refine acall_fn mixed Try.func22 Try.call22 e22 r22 (Nat.le_of_ble_eq_true rfl) ?_
  simp only [n22, wf_preprocess, ↓reduceIte, Nat.reduceEqDiff, reduceCtorEq, Nat.reduceAdd, Nat.reduceMul, Nat.reduceLeDiff, Nat.reduceLT, Nat.reduceSub, Int.reduceToNat, Int.reduceNeg, Int.reduceAdd, Int.reduceSub, Int.reduceMul, Int.reduceEq, Int.reduceLT, Int.reduceLE, Int.reduceNe, forall_const, forall_eq', forall_eq, List.forall_mem_cons, List.not_mem_nil]
  refine call_i (rSub_s (by unfold isI; omega) ha ?_)
  simp only [clampR, fitR, wf_preprocess, ↓reduceIte, Nat.reduceEqDiff, reduceCtorEq, Nat.reduceAdd, Nat.reduceMul, Nat.reduceLeDiff, Nat.reduceLT, Nat.reduceSub, Int.reduceToNat, Int.reduceNeg, Int.reduceAdd, Int.reduceSub, Int.reduceMul, Int.reduceEq, Int.reduceLT, Int.reduceLE, Int.reduceNe, forall_const, forall_eq', forall_eq, List.forall_mem_cons, List.not_mem_nil]
end
end Go.Proofs.Ytidmcijapbeaaaa.Moi.Num
