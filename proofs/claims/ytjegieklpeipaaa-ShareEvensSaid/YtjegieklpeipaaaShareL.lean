/- What functions of this program do, on plain values: a part of the proofs of this seat's laws; each theorem bears its own conditions. -/
import Derived.Test.YtjegieklpeipaaaShareK
set_option linter.unusedVariables false
set_option linter.unusedSimpArgs false
set_option maxRecDepth 1000000
namespace Go.Proofs.Ytjegieklpeipaaa.Moi.Share
open Go Go.RowKit Go.Proofs.Ytjegieklpeipaaa.Moi Go.Proofs.Ytjegieklpeipaaa.Moi.Num
attribute [-wf_preprocess] ite_eq_dite forIn_eq_forIn'

section
variable {Q E : AV → Heap → Prop} {m : Heap} {a n cap : Nat} {l : List Cl}
theorem n_stable : n24 = d24a d24b := by kernel_rfl
theorem stable_s (hm : At a l m) (hu : Up l) (hn : l.length = n) (hn2 : n ≤ 1000000) (k : ∀ S, S.Perm l → Srt S → Q (.tup []) (wr a S m)) : ACall Try.prog 24 [.mref a 0 n cap, iv n, .clos 19 []] m Q E := by
  refine acall_fn mixed Try.func24 Try.call24 e24 r24 (Nat.le_of_ble_eq_true rfl) ?_
  rw [n_stable]
  refine st_a hm hu hn hn2 rfl rfl rfl fun ρ' bl t h1 h2 h3 h4 h5 h6 => ?_
  exact st_b (ρ := argRegs [.mref a 0 n cap, iv n, .clos 19 []]) (cap := cap) hm hu hn hn2 rfl rfl rfl ⟨bl, t, by decide, h1, h2, h3, h4, h5, h6, rfl⟩ fun ρ2 S p s => k S p s
theorem sort_s (hm : At a l m) (hu : Up l) (hn : l.length = n) (hn2 : n ≤ 1000000) (k : ∀ S, S.Perm l → Srt S → Q (.tup []) (wr a S m)) : ACall Try.prog 18 [.mref a 0 n cap, .clos 19 []] m Q E := by
  refine acall_fn mixed Try.func18 Try.call18 e18 r18 (Nat.le_of_ble_eq_true rfl) ?_
  simp only [n18, wf_preprocess, ↓reduceIte, Nat.reduceEqDiff, reduceCtorEq, Nat.reduceAdd, Nat.reduceMul, Nat.reduceLeDiff, Nat.reduceLT, Nat.reduceSub, Int.reduceToNat, Int.reduceNeg, Int.reduceAdd, Int.reduceSub, Int.reduceMul, Int.reduceEq, Int.reduceLT, Int.reduceLE, Int.reduceNe, forall_const, forall_eq', forall_eq, List.forall_mem_cons, List.not_mem_nil]
  refine call_i (stable_s hm hu hn hn2 fun S p s => ?_)
  simp only [wf_preprocess, ↓reduceIte, Nat.reduceEqDiff, reduceCtorEq, Nat.reduceAdd, Nat.reduceMul, Nat.reduceLeDiff, Nat.reduceLT, Nat.reduceSub, Int.reduceToNat, Int.reduceNeg, Int.reduceAdd, Int.reduceSub, Int.reduceMul, Int.reduceEq, Int.reduceLT, Int.reduceLE, Int.reduceNe, forall_const, forall_eq', forall_eq, List.forall_mem_cons, List.not_mem_nil]
  exact k S p s
end
end Go.Proofs.Ytjegieklpeipaaa.Moi.Share
