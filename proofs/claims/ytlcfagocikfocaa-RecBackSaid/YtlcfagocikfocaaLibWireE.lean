/- What functions of this program do, on plain values: a part of the proofs of this seat's laws; each theorem bears its own conditions. -/
import Derived.Test.YtlcfagocikfocaaLibWireD
set_option linter.unusedVariables false
set_option linter.unusedSimpArgs false
set_option maxRecDepth 1000000
namespace Go.Proofs.Ytlcfagocikfocaa.Moi.Wire
open Go Go.RowKit Go.Proofs.Ytlcfagocikfocaa.Moi
attribute [-wf_preprocess] ite_eq_dite forIn_eq_forIn'
theorem fail_nil {e : Int} {m : Heap} {Q E : AV → Heap → Prop} (h : ∀ x, Q x m) : ACall Try.prog 33 [.sc (.pointer none), iv e] m Q E := by
  refine acall_fn mixed Try.func33 Try.call33 e33 r33 (Nat.le_of_ble_eq_true rfl) ?_
  simp only [n33, wf_preprocess, ↓reduceIte, Nat.reduceEqDiff, reduceCtorEq, Nat.reduceAdd, Nat.reduceMul, Nat.reduceLeDiff, Nat.reduceLT, Nat.reduceSub, Int.reduceToNat, Int.reduceNeg, Int.reduceAdd, Int.reduceSub, Int.reduceMul, Int.reduceEq, Int.reduceLT, Int.reduceLE, Int.reduceNe, forall_const, forall_eq', forall_eq, List.forall_mem_cons, List.not_mem_nil]
  refine call_i (why_nil ?_)
  simp only [wf_preprocess, ↓reduceIte, Nat.reduceEqDiff, reduceCtorEq, Nat.reduceAdd, Nat.reduceMul, Nat.reduceLeDiff, Nat.reduceLT, Nat.reduceSub, Int.reduceToNat, Int.reduceNeg, Int.reduceAdd, Int.reduceSub, Int.reduceMul, Int.reduceEq, Int.reduceLT, Int.reduceLE, Int.reduceNe, forall_const, forall_eq', forall_eq, List.forall_mem_cons, List.not_mem_nil]
  exact h _
theorem num_nil {m : Heap} {Q E : AV → Heap → Prop} (h : Q (iv 0) m) : ACall Try.prog 25 [.sc (.pointer none)] m Q E := by
  refine acall_fn mixed Try.func25 Try.call25 e25 r25 (Nat.le_of_ble_eq_true rfl) ?_
  simp only [n25, wf_preprocess, ↓reduceIte, Nat.reduceEqDiff, reduceCtorEq, Nat.reduceAdd, Nat.reduceMul, Nat.reduceLeDiff, Nat.reduceLT, Nat.reduceSub, Int.reduceToNat, Int.reduceNeg, Int.reduceAdd, Int.reduceSub, Int.reduceMul, Int.reduceEq, Int.reduceLT, Int.reduceLE, Int.reduceNe, forall_const, forall_eq', forall_eq, List.forall_mem_cons, List.not_mem_nil]
  refine call_i (why_nil ?_)
  simp only [wf_preprocess, ↓reduceIte, Nat.reduceEqDiff, reduceCtorEq, Nat.reduceAdd, Nat.reduceMul, Nat.reduceLeDiff, Nat.reduceLT, Nat.reduceSub, Int.reduceToNat, Int.reduceNeg, Int.reduceAdd, Int.reduceSub, Int.reduceMul, Int.reduceEq, Int.reduceLT, Int.reduceLE, Int.reduceNe, forall_const, forall_eq', forall_eq, List.forall_mem_cons, List.not_mem_nil]
  exact h
theorem left_nil {m : Heap} {Q E : AV → Heap → Prop} (h : Q (iv 0) m) : ACall Try.prog 24 [.sc (.pointer none)] m Q E := by
  refine acall_fn mixed Try.func24 Try.call24 e24 r24 (Nat.le_of_ble_eq_true rfl) ?_
  simp only [n24, wf_preprocess, ↓reduceIte, Nat.reduceEqDiff, reduceCtorEq, Nat.reduceAdd, Nat.reduceMul, Nat.reduceLeDiff, Nat.reduceLT, Nat.reduceSub, Int.reduceToNat, Int.reduceNeg, Int.reduceAdd, Int.reduceSub, Int.reduceMul, Int.reduceEq, Int.reduceLT, Int.reduceLE, Int.reduceNe, forall_const, forall_eq', forall_eq, List.forall_mem_cons, List.not_mem_nil]
  exact h


end Go.Proofs.Ytlcfagocikfocaa.Moi.Wire
