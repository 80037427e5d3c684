/- What functions of this program do, on plain values: a part of the proofs of this seat's laws; each theorem bears its own conditions. -/
import Derived.Test.YtidmcijapbeaaaaNumD
set_option linter.unusedVariables false
set_option linter.unusedSimpArgs false
set_option maxRecDepth 1000000
namespace Go.Proofs.Ytidmcijapbeaaaa.Moi.Num
open Go Go.RowKit Go.Proofs.Ytidmcijapbeaaaa.Moi
attribute [-wf_preprocess] ite_eq_dite forIn_eq_forIn'

theorem rev_step {l : List Int} {j : Nat} {x : Int} (h : l[j]? = some x) : (l.drop j).reverse = (l.drop (j + 1)).reverse ++ [x] := by
  obtain ⟨hj, e⟩ := List.getElem?_eq_some_iff.1 h
  rw [List.drop_eq_getElem_cons hj, List.reverse_cons, e]
theorem sum_rev (l : List Int) : sumL l.reverse = sumL l := by
  unfold sumL
  induction l with
  | nil => rfl
  | cons x l ih => rw [List.reverse_cons, List.sum_append, ih, List.sum_cons]; simp [Int.add_comm]

section
variable {v : Int} {cs : List AV} {m : Heap} {Q E : AV → Heap → Prop}
theorem Fits_e (e : AV.agg cs = wd v) (k : Q (fitsR v) m) : ACall Try.prog 10 [.agg cs] m Q E := by rw [e]; exact Fits_s k
theorem rFits_e (e : AV.agg cs = wd v) (k : Q (fitsR v) m) : ACall Try.prog 11 [.agg cs] m Q E := by rw [e]; exact rFits_s k
end

theorem law_sums (xs : List AV) (h : ArgShape Try.prog (fun _ => True) Try.f3.params.toList xs) : ACall Try.prog 3 xs [] (fun x _ => x = bo true) (fun _ _ => False) := by
  rw [Try.params3] at h
  obtain ⟨hi, ys, rfl, hh, h⟩ := arg_int Try.underlying2 h
  obtain ⟨lo, ys, rfl, hlo, h⟩ := arg_int Try.underlying22 h
  obtain ⟨l, o, zs, h2, ho, hl, _, hw, h3⟩ := arg_ints Try.underlying23 Try.underlying2 (by kernel_rfl) h
  subst h2
  obtain rfl : zs = [] := ArgShape.nil' h3
  have hh := wfI hh
  have hlo := wfU hlo
  have hr : ∀ n ∈ l, isI n := fun n hn => wfI (hw n hn)
  have hrr : ∀ n ∈ l.reverse, isI n := fun n hn => hr n (List.mem_reverse.1 hn)
  clear h h3 hw
  have hwd := wd_of hh hlo
  refine acall_fn mixed Try.func3 Try.call3 e3 r3 (Nat.le_of_ble_eq_true rfl) ?_
  simp only [n3, List.length_map, wf_preprocess, ↓reduceIte, Nat.reduceEqDiff, reduceCtorEq, Nat.reduceAdd, Nat.reduceMul, Nat.reduceLeDiff, Nat.reduceLT, Nat.reduceSub, Int.reduceToNat, Int.reduceNeg, Int.reduceAdd, Int.reduceSub, Int.reduceMul, Int.reduceEq, Int.reduceLT, Int.reduceLE, Int.reduceNe, forall_const, forall_eq', forall_eq, List.forall_mem_cons, List.not_mem_nil]
  by_cases c1 : (2000 : Int) < (l.length : Int)
  · simp only [c1, wf_preprocess, ↓reduceIte, Nat.reduceEqDiff, reduceCtorEq, Nat.reduceAdd, Nat.reduceMul, Nat.reduceLeDiff, Nat.reduceLT, Nat.reduceSub, Int.reduceToNat, Int.reduceNeg, Int.reduceAdd, Int.reduceSub, Int.reduceMul, Int.reduceEq, Int.reduceLT, Int.reduceLE, Int.reduceNe, forall_const, forall_eq', forall_eq, List.forall_mem_cons, List.not_mem_nil]
    refine call_i (known_s ?_)
    simp only [wf_preprocess, ↓reduceIte, Nat.reduceEqDiff, reduceCtorEq, Nat.reduceAdd, Nat.reduceMul, Nat.reduceLeDiff, Nat.reduceLT, Nat.reduceSub, Int.reduceToNat, Int.reduceNeg, Int.reduceAdd, Int.reduceSub, Int.reduceMul, Int.reduceEq, Int.reduceLT, Int.reduceLE, Int.reduceNe, forall_const, forall_eq', forall_eq, List.forall_mem_cons, List.not_mem_nil]
  simp only [c1, hwd, wf_preprocess, ↓reduceIte, Nat.reduceEqDiff, reduceCtorEq, Nat.reduceAdd, Nat.reduceMul, Nat.reduceLeDiff, Nat.reduceLT, Nat.reduceSub, Int.reduceToNat, Int.reduceNeg, Int.reduceAdd, Int.reduceSub, Int.reduceMul, Int.reduceEq, Int.reduceLT, Int.reduceLE, Int.reduceNe, forall_const, forall_eq', forall_eq, List.forall_mem_cons, List.not_mem_nil]
  generalize hi * 18446744073709551616 + lo = v at hwd
  refine call_i (More_s (by omega) hr ?_)
  simp only [wc, wf_preprocess, ↓reduceIte, Nat.reduceEqDiff, reduceCtorEq, Nat.reduceAdd, Nat.reduceMul, Nat.reduceLeDiff, Nat.reduceLT, Nat.reduceSub, Int.reduceToNat, Int.reduceNeg, Int.reduceAdd, Int.reduceSub, Int.reduceMul, Int.reduceEq, Int.reduceLT, Int.reduceLE, Int.reduceNe, forall_const, forall_eq', forall_eq, List.forall_mem_cons, List.not_mem_nil]
  refine fresh_i fun i _ => ?_
  simp only [hwd, wc, wf_preprocess, ↓reduceIte, Nat.reduceEqDiff, reduceCtorEq, Nat.reduceAdd, Nat.reduceMul, Nat.reduceLeDiff, Nat.reduceLT, Nat.reduceSub, Int.reduceToNat, Int.reduceNeg, Int.reduceAdd, Int.reduceSub, Int.reduceMul, Int.reduceEq, Int.reduceLT, Int.reduceLE, Int.reduceNe, forall_const, forall_eq', forall_eq, List.forall_mem_cons, List.not_mem_nil]
  refine call_i (rMore_s (by omega) hr ?_)
  simp only [wc, wf_preprocess, ↓reduceIte, Nat.reduceEqDiff, reduceCtorEq, Nat.reduceAdd, Nat.reduceMul, Nat.reduceLeDiff, Nat.reduceLT, Nat.reduceSub, Int.reduceToNat, Int.reduceNeg, Int.reduceAdd, Int.reduceSub, Int.reduceMul, Int.reduceEq, Int.reduceLT, Int.reduceLE, Int.reduceNe, forall_const, forall_eq', forall_eq, List.forall_mem_cons, List.not_mem_nil]
  refine fresh_i fun j hj => ?_
  have e1 : ¬ i = j := fun h => hj (by simp [keys, h])
  have e2 : ¬ j = i := fun h => e1 h.symm
  obtain ⟨p1, q1, f1⟩ := fits_two (v + sumL l)
  obtain ⟨p2, q2, f2⟩ := fits_two (sumL l)
  have hwc : AV.agg [iv (W ((v + sumL l) / 18446744073709551616)), u64v (U (v + sumL l))] = wd (v + sumL l) := rfl
  simp only [e1, e2, wc, wf_preprocess, ↓reduceIte, Nat.reduceEqDiff, reduceCtorEq, Nat.reduceAdd, Nat.reduceMul, Nat.reduceLeDiff, Nat.reduceLT, Nat.reduceSub, Int.reduceToNat, Int.reduceNeg, Int.reduceAdd, Int.reduceSub, Int.reduceMul, Int.reduceEq, Int.reduceLT, Int.reduceLE, Int.reduceNe, forall_const, forall_eq', forall_eq, List.forall_mem_cons, List.not_mem_nil]
  refine call_i (Fits_e hwc ?_)
  simp only [f1, e1, e2, wc, wf_preprocess, ↓reduceIte, Nat.reduceEqDiff, reduceCtorEq, Nat.reduceAdd, Nat.reduceMul, Nat.reduceLeDiff, Nat.reduceLT, Nat.reduceSub, Int.reduceToNat, Int.reduceNeg, Int.reduceAdd, Int.reduceSub, Int.reduceMul, Int.reduceEq, Int.reduceLT, Int.reduceLE, Int.reduceNe, forall_const, forall_eq', forall_eq, List.forall_mem_cons, List.not_mem_nil]
  refine call_i (rFits_e hwc ?_)
  simp only [f1, wf_preprocess, ↓reduceIte, Nat.reduceEqDiff, reduceCtorEq, Nat.reduceAdd, Nat.reduceMul, Nat.reduceLeDiff, Nat.reduceLT, Nat.reduceSub, Int.reduceToNat, Int.reduceNeg, Int.reduceAdd, Int.reduceSub, Int.reduceMul, Int.reduceEq, Int.reduceLT, Int.reduceLE, Int.reduceNe, forall_const, forall_eq', forall_eq, List.forall_mem_cons, List.not_mem_nil]
  refine call_i (Sum_s (by omega) hr ?_)
  simp only [f2, wf_preprocess, ↓reduceIte, Nat.reduceEqDiff, reduceCtorEq, Nat.reduceAdd, Nat.reduceMul, Nat.reduceLeDiff, Nat.reduceLT, Nat.reduceSub, Int.reduceToNat, Int.reduceNeg, Int.reduceAdd, Int.reduceSub, Int.reduceMul, Int.reduceEq, Int.reduceLT, Int.reduceLE, Int.reduceNe, forall_const, forall_eq', forall_eq, List.forall_mem_cons, List.not_mem_nil]
  refine call_i (rSum_s (by omega) hr ?_)
  simp only [f2, List.length_map, wf_preprocess, ↓reduceIte, Nat.reduceEqDiff, reduceCtorEq, Nat.reduceAdd, Nat.reduceMul, Nat.reduceLeDiff, Nat.reduceLT, Nat.reduceSub, Int.reduceToNat, Int.reduceNeg, Int.reduceAdd, Int.reduceSub, Int.reduceMul, Int.reduceEq, Int.reduceLT, Int.reduceLE, Int.reduceNe, forall_const, forall_eq', forall_eq, List.forall_mem_cons, List.not_mem_nil]
  generalize hR : [(j, AObj.cells [iv (W ((v + sumL l) / 18446744073709551616)), u64v (U (v + sumL l))]), (i, AObj.cells [iv (W ((v + sumL l) / 18446744073709551616)), u64v (U (v + sumL l))])] = r
  refine loop_i (fun t ρ m' => ∃ (ob : Own) (m1 : Heap), t ≤ l.length ∧ ρ 2 = .lst (kl .i64 l) o ∧ ρ 7 = .ptr i 0 ∧ ρ 8 = .ptr j 0 ∧ ρ 9 = iv p1 ∧ ρ 10 = iv q1 ∧ ρ 11 = iv p1 ∧ ρ 12 = iv q1 ∧ ρ 13 = iv p2 ∧ ρ 14 = iv q2 ∧ ρ 15 = iv p2 ∧ ρ 16 = iv q2 ∧ ρ 18 = iv t ∧
    ρ 17 = .lst (kl .i64 (l.drop t).reverse) ob ∧ App (kl .i64 (l.drop t).reverse) ob m1 ∧ (∀ x ∈ keys m1, x ∉ keys r) ∧ m' = m1 ++ r) l.length ⟨.nil, [], by omega, ?_⟩ ?_
  · simp only [List.drop_length, List.reverse_nil, wf_preprocess, ↓reduceIte, Nat.reduceEqDiff, reduceCtorEq, Nat.reduceAdd, Nat.reduceMul, Nat.reduceLeDiff, Nat.reduceLT, Nat.reduceSub, Int.reduceToNat, Int.reduceNeg, Int.reduceAdd, Int.reduceSub, Int.reduceMul, Int.reduceEq, Int.reduceLT, Int.reduceLE, Int.reduceNe, forall_const, forall_eq', forall_eq, List.forall_mem_cons, List.not_mem_nil]
    simp [App.nil, keys]
  rintro t ρ m' ⟨ob, m1, ht, g2, g7, g8, g9, g10, g11, g12, g13, g14, g15, g16, g18, g17, ha, hd, rfl⟩
  by_cases hlt : 0 < (t : Int)
  · obtain ⟨s, rfl⟩ : ∃ s, t = s + 1 := ⟨t - 1, by omega⟩
    obtain ⟨x, hx⟩ : ∃ x, l[s]? = some x := ⟨_, List.getElem?_eq_getElem (by omega)⟩
    have w1 : IntKind.i64.wrap (((s + 1 : Nat) : Int) - 1) = (s : Int) := by rw [wrap64] <;> omega
    simp only [g2, g7, g8, g9, g10, g11, g12, g13, g14, g15, g16, g17, g18, hlt, w1, Int.natCast_nonneg, kl_get hx, wf_preprocess, ↓reduceIte, Nat.reduceEqDiff, reduceCtorEq, Nat.reduceAdd, Nat.reduceMul, Nat.reduceLeDiff, Nat.reduceLT, Nat.reduceSub, Int.reduceToNat, Int.reduceNeg, Int.reduceAdd, Int.reduceSub, Int.reduceMul, Int.reduceEq, Int.reduceLT, Int.reduceLE, Int.reduceNe, forall_const, forall_eq', forall_eq, List.forall_mem_cons, List.not_mem_nil]
    refine app_g (k := none) (ys := [iv x]) ha rfl (sized_ints [x]) (sized_ints _) (by simp; omega) (by simp [maxLen_e]; omega) hd fun o' m1' ha' hd' => ?_
    have e : kl .i64 (l.drop (s + 1)).reverse ++ [iv x] = kl .i64 (l.drop s).reverse := by rw [rev_step hx, kl_app]; rfl
    rw [e] at ha' ⊢
    simp only [g2, g7, g8, g9, g10, g11, g12, g13, g14, g15, g16, g18, w1, wf_preprocess, ↓reduceIte, Nat.reduceEqDiff, reduceCtorEq, Nat.reduceAdd, Nat.reduceMul, Nat.reduceLeDiff, Nat.reduceLT, Nat.reduceSub, Int.reduceToNat, Int.reduceNeg, Int.reduceAdd, Int.reduceSub, Int.reduceMul, Int.reduceEq, Int.reduceLT, Int.reduceLE, Int.reduceNe, forall_const, forall_eq', forall_eq, List.forall_mem_cons, List.not_mem_nil]
    exact ⟨s, by omega, o', m1', by omega, rfl, rfl, ha', hd', rfl⟩
  · have : t = 0 := by omega
    subst this
    rw [List.drop_zero] at g17 ha
    have ki : i ∉ keys m1 := fun hk => hd i hk (by rw [← hR]; simp [keys])
    have kj : j ∉ keys m1 := fun hk => hd j hk (by rw [← hR]; simp [keys])
    simp only [g2, g7, g8, g9, g10, g11, g12, g13, g14, g15, g16, g17, g18, hlt, wf_preprocess, ↓reduceIte, Nat.reduceEqDiff, reduceCtorEq, Nat.reduceAdd, Nat.reduceMul, Nat.reduceLeDiff, Nat.reduceLT, Nat.reduceSub, Int.reduceToNat, Int.reduceNeg, Int.reduceAdd, Int.reduceSub, Int.reduceMul, Int.reduceEq, Int.reduceLT, Int.reduceLE, Int.reduceNe, forall_const, forall_eq', forall_eq, List.forall_mem_cons, List.not_mem_nil]
    refine call_i (Sum_s (by simp; omega) hrr ?_)
    rw [sum_rev]
    subst hR
    simp only [f2, g2, g7, g8, g9, g10, g11, g12, g13, g14, g15, g16, e1, e2, get_skip ki, get_skip kj, wf_preprocess, ↓reduceIte, Nat.reduceEqDiff, reduceCtorEq, Nat.reduceAdd, Nat.reduceMul, Nat.reduceLeDiff, Nat.reduceLT, Nat.reduceSub, Int.reduceToNat, Int.reduceNeg, Int.reduceAdd, Int.reduceSub, Int.reduceMul, Int.reduceEq, Int.reduceLT, Int.reduceLE, Int.reduceNe, forall_const, forall_eq', forall_eq, List.forall_mem_cons, List.not_mem_nil]
    refine call_i (known_s ?_)
    simp only [wf_preprocess, ↓reduceIte, Nat.reduceEqDiff, reduceCtorEq, Nat.reduceAdd, Nat.reduceMul, Nat.reduceLeDiff, Nat.reduceLT, Nat.reduceSub, Int.reduceToNat, Int.reduceNeg, Int.reduceAdd, Int.reduceSub, Int.reduceMul, Int.reduceEq, Int.reduceLT, Int.reduceLE, Int.reduceNe, forall_const, forall_eq', forall_eq, List.forall_mem_cons, List.not_mem_nil]
end Go.Proofs.Ytidmcijapbeaaaa.Moi.Num
