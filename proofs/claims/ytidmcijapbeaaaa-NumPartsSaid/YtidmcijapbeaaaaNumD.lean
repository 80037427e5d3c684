/- What functions of this program do, on plain values: a part of the proofs of this seat's laws; each theorem bears its own conditions. -/
import Derived.Test.YtidmcijapbeaaaaNumC
set_option linter.unusedVariables false
set_option linter.unusedSimpArgs false
set_option maxRecDepth 1000000
namespace Go.Proofs.Ytidmcijapbeaaaa.Moi.Num
open Go Go.RowKit Go.Proofs.Ytidmcijapbeaaaa.Moi
attribute [-wf_preprocess] ite_eq_dite forIn_eq_forIn'

theorem clamp_two (v : Int) : ∃ p q, clampR v = .tup [iv p, iv q] := ⟨_, _, rfl⟩
theorem fits_two (v : Int) : ∃ p q, fitsR v = .tup [iv p, iv q] := ⟨_, _, rfl⟩
theorem wfI {n : Int} (h : (Lit.int .i64 n).wf = true) : isI n := wf64 h
theorem wfU {n : Int} (h : (Lit.int .u64 n).wf = true) : isU n := by
  simp [Lit.wf] at h
  unfold isU
  simp [IntKind.min, IntKind.max, IntKind.signed, IntKind.bits] at h
  omega

theorem law_adds (xs : List AV) (h : ArgShape Try.prog (fun _ => True) Try.f5.params.toList xs) : ACall Try.prog 5 xs [] (fun x _ => x = bo true) (fun _ _ => False) := by
  rw [Try.params5] at h
  obtain ⟨a, ys, rfl, ha, h⟩ := arg_int Try.underlying2 h
  obtain ⟨b, ys, rfl, hb, h⟩ := arg_int Try.underlying2 h
  rw [h.nil']
  have ha := wfI ha
  have hb := wfI hb
  obtain ⟨p1, q1, e1⟩ := clamp_two (a + b)
  obtain ⟨p2, q2, e2⟩ := clamp_two (a - b)
  obtain ⟨p3, q3, e3⟩ := clamp_two (0 - a)
  refine acall_fn mixed Try.func5 Try.call5 e5 r5 (Nat.le_of_ble_eq_true rfl) ?_
  simp only [n5, wf_preprocess, ↓reduceIte, Nat.reduceEqDiff, reduceCtorEq, Nat.reduceAdd, Nat.reduceMul, Nat.reduceLeDiff, Nat.reduceLT, Nat.reduceSub, Int.reduceToNat, Int.reduceNeg, Int.reduceAdd, Int.reduceSub, Int.reduceMul, Int.reduceEq, Int.reduceLT, Int.reduceLE, Int.reduceNe, forall_const, forall_eq', forall_eq, List.forall_mem_cons, List.not_mem_nil]
  refine call_i (Add_s ha hb ?_)
  simp only [e1, wf_preprocess, ↓reduceIte, Nat.reduceEqDiff, reduceCtorEq, Nat.reduceAdd, Nat.reduceMul, Nat.reduceLeDiff, Nat.reduceLT, Nat.reduceSub, Int.reduceToNat, Int.reduceNeg, Int.reduceAdd, Int.reduceSub, Int.reduceMul, Int.reduceEq, Int.reduceLT, Int.reduceLE, Int.reduceNe, forall_const, forall_eq', forall_eq, List.forall_mem_cons, List.not_mem_nil]
  refine call_i (rAdd_s ha hb ?_)
  simp only [e1, wf_preprocess, ↓reduceIte, Nat.reduceEqDiff, reduceCtorEq, Nat.reduceAdd, Nat.reduceMul, Nat.reduceLeDiff, Nat.reduceLT, Nat.reduceSub, Int.reduceToNat, Int.reduceNeg, Int.reduceAdd, Int.reduceSub, Int.reduceMul, Int.reduceEq, Int.reduceLT, Int.reduceLE, Int.reduceNe, forall_const, forall_eq', forall_eq, List.forall_mem_cons, List.not_mem_nil]
  refine call_i (Sub_s ha hb ?_)
  simp only [e2, wf_preprocess, ↓reduceIte, Nat.reduceEqDiff, reduceCtorEq, Nat.reduceAdd, Nat.reduceMul, Nat.reduceLeDiff, Nat.reduceLT, Nat.reduceSub, Int.reduceToNat, Int.reduceNeg, Int.reduceAdd, Int.reduceSub, Int.reduceMul, Int.reduceEq, Int.reduceLT, Int.reduceLE, Int.reduceNe, forall_const, forall_eq', forall_eq, List.forall_mem_cons, List.not_mem_nil]
  refine call_i (rSub_s ha hb ?_)
  simp only [e2, wf_preprocess, ↓reduceIte, Nat.reduceEqDiff, reduceCtorEq, Nat.reduceAdd, Nat.reduceMul, Nat.reduceLeDiff, Nat.reduceLT, Nat.reduceSub, Int.reduceToNat, Int.reduceNeg, Int.reduceAdd, Int.reduceSub, Int.reduceMul, Int.reduceEq, Int.reduceLT, Int.reduceLE, Int.reduceNe, forall_const, forall_eq', forall_eq, List.forall_mem_cons, List.not_mem_nil]
  refine call_i (Neg_s ha ?_)
  simp only [e3, wf_preprocess, ↓reduceIte, Nat.reduceEqDiff, reduceCtorEq, Nat.reduceAdd, Nat.reduceMul, Nat.reduceLeDiff, Nat.reduceLT, Nat.reduceSub, Int.reduceToNat, Int.reduceNeg, Int.reduceAdd, Int.reduceSub, Int.reduceMul, Int.reduceEq, Int.reduceLT, Int.reduceLE, Int.reduceNe, forall_const, forall_eq', forall_eq, List.forall_mem_cons, List.not_mem_nil]
  refine call_i (rNeg_s ha ?_)
  simp only [e3, wf_preprocess, ↓reduceIte, Nat.reduceEqDiff, reduceCtorEq, Nat.reduceAdd, Nat.reduceMul, Nat.reduceLeDiff, Nat.reduceLT, Nat.reduceSub, Int.reduceToNat, Int.reduceNeg, Int.reduceAdd, Int.reduceSub, Int.reduceMul, Int.reduceEq, Int.reduceLT, Int.reduceLE, Int.reduceNe, forall_const, forall_eq', forall_eq, List.forall_mem_cons, List.not_mem_nil]
  refine call_i (known_s ?_)
  simp only [wf_preprocess, ↓reduceIte, Nat.reduceEqDiff, reduceCtorEq, Nat.reduceAdd, Nat.reduceMul, Nat.reduceLeDiff, Nat.reduceLT, Nat.reduceSub, Int.reduceToNat, Int.reduceNeg, Int.reduceAdd, Int.reduceSub, Int.reduceMul, Int.reduceEq, Int.reduceLT, Int.reduceLE, Int.reduceNe, forall_const, forall_eq', forall_eq, List.forall_mem_cons, List.not_mem_nil]

theorem law_diffs (xs : List AV) (h : ArgShape Try.prog (fun _ => True) Try.f6.params.toList xs) : ACall Try.prog 6 xs [] (fun x _ => x = bo true) (fun _ _ => False) := by
  rw [Try.params6] at h
  obtain ⟨a, ys, rfl, ha, h⟩ := arg_int Try.underlying2 h
  obtain ⟨b, ys, rfl, hb, h⟩ := arg_int Try.underlying2 h
  obtain ⟨far, ys, rfl, hf, h⟩ := arg_int Try.underlying22 h
  obtain ⟨below, zs, h2, h3⟩ := arg_bool Try.underlying4 h
  subst h2
  obtain rfl : zs = [] := ArgShape.nil' h3
  have ha := wfI ha
  have hb := wfI hb
  have hf := wfU hf
  obtain ⟨p1, q1, e1⟩ := clamp_two (offV a far below)
  have e2 : offV b (if a < b then b - a else a - b) (decide (a < b)) = a := by
    unfold offV
    by_cases h : a < b
    · simp only [h, decide_true, if_true]; omega
    · simp only [h, decide_false, if_false]; simp; omega
  have e3 : clampR a = .tup [iv a, iv 0] := by
    unfold clampR; rw [decide_eq_true ha]; rfl
  have hd := isU_diff ha hb
  refine acall_fn mixed Try.func6 Try.call6 e6 r6 (Nat.le_of_ble_eq_true rfl) ?_
  simp only [n6, wf_preprocess, ↓reduceIte, Nat.reduceEqDiff, reduceCtorEq, Nat.reduceAdd, Nat.reduceMul, Nat.reduceLeDiff, Nat.reduceLT, Nat.reduceSub, Int.reduceToNat, Int.reduceNeg, Int.reduceAdd, Int.reduceSub, Int.reduceMul, Int.reduceEq, Int.reduceLT, Int.reduceLE, Int.reduceNe, forall_const, forall_eq', forall_eq, List.forall_mem_cons, List.not_mem_nil]
  refine call_i (Diff_s ha hb ?_)
  simp only [diffR, wf_preprocess, ↓reduceIte, Nat.reduceEqDiff, reduceCtorEq, Nat.reduceAdd, Nat.reduceMul, Nat.reduceLeDiff, Nat.reduceLT, Nat.reduceSub, Int.reduceToNat, Int.reduceNeg, Int.reduceAdd, Int.reduceSub, Int.reduceMul, Int.reduceEq, Int.reduceLT, Int.reduceLE, Int.reduceNe, forall_const, forall_eq', forall_eq, List.forall_mem_cons, List.not_mem_nil]
  refine call_i (rDiff_s ha hb ?_)
  simp only [diffR, wf_preprocess, ↓reduceIte, Nat.reduceEqDiff, reduceCtorEq, Nat.reduceAdd, Nat.reduceMul, Nat.reduceLeDiff, Nat.reduceLT, Nat.reduceSub, Int.reduceToNat, Int.reduceNeg, Int.reduceAdd, Int.reduceSub, Int.reduceMul, Int.reduceEq, Int.reduceLT, Int.reduceLE, Int.reduceNe, forall_const, forall_eq', forall_eq, List.forall_mem_cons, List.not_mem_nil]
  refine call_i (Off_s ha hf ?_)
  simp only [e1, wf_preprocess, ↓reduceIte, Nat.reduceEqDiff, reduceCtorEq, Nat.reduceAdd, Nat.reduceMul, Nat.reduceLeDiff, Nat.reduceLT, Nat.reduceSub, Int.reduceToNat, Int.reduceNeg, Int.reduceAdd, Int.reduceSub, Int.reduceMul, Int.reduceEq, Int.reduceLT, Int.reduceLE, Int.reduceNe, forall_const, forall_eq', forall_eq, List.forall_mem_cons, List.not_mem_nil]
  refine call_i (rOff_s ha hf ?_)
  simp only [e1, wf_preprocess, ↓reduceIte, Nat.reduceEqDiff, reduceCtorEq, Nat.reduceAdd, Nat.reduceMul, Nat.reduceLeDiff, Nat.reduceLT, Nat.reduceSub, Int.reduceToNat, Int.reduceNeg, Int.reduceAdd, Int.reduceSub, Int.reduceMul, Int.reduceEq, Int.reduceLT, Int.reduceLE, Int.reduceNe, forall_const, forall_eq', forall_eq, List.forall_mem_cons, List.not_mem_nil]
  refine call_i (Off_s hb hd ?_)
  simp only [e2, e3, wf_preprocess, ↓reduceIte, Nat.reduceEqDiff, reduceCtorEq, Nat.reduceAdd, Nat.reduceMul, Nat.reduceLeDiff, Nat.reduceLT, Nat.reduceSub, Int.reduceToNat, Int.reduceNeg, Int.reduceAdd, Int.reduceSub, Int.reduceMul, Int.reduceEq, Int.reduceLT, Int.reduceLE, Int.reduceNe, forall_const, forall_eq', forall_eq, List.forall_mem_cons, List.not_mem_nil]
  refine call_i (known_s ?_)
  simp only [wf_preprocess, ↓reduceIte, Nat.reduceEqDiff, reduceCtorEq, Nat.reduceAdd, Nat.reduceMul, Nat.reduceLeDiff, Nat.reduceLT, Nat.reduceSub, Int.reduceToNat, Int.reduceNeg, Int.reduceAdd, Int.reduceSub, Int.reduceMul, Int.reduceEq, Int.reduceLT, Int.reduceLE, Int.reduceNe, forall_const, forall_eq', forall_eq, List.forall_mem_cons, List.not_mem_nil]
end Go.Proofs.Ytidmcijapbeaaaa.Moi.Num
