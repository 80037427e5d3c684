/- What functions of this program do, on plain values: a part of the proofs of this seat's laws; each theorem bears its own conditions. -/
import Derived.Test.YtjegieklpeipaaaShareP
set_option linter.unusedVariables false
set_option linter.unusedSimpArgs false
set_option maxRecDepth 1000000
namespace Go.Proofs.Ytjegieklpeipaaa.Moi.Share
open Go Go.RowKit Go.Proofs.Ytjegieklpeipaaa.Moi Go.Proofs.Ytjegieklpeipaaa.Moi.Num
attribute [-wf_preprocess] ite_eq_dite forIn_eq_forIn'

/-! ### The parts of the small form of Split by the book, as it was printed -/
def d11a (T : NCode) : NCode :=
  .seq (.ops [
    ⟨(some 4), none, .op (.move (.k (.lst [] .nil))), []⟩,
    ⟨(some 5), none, .op (.move (.k (i64 0))), []⟩])
  (.seq (.seq (.ops [
    ⟨(some 18), none, .op (.move (.r 1)), []⟩,
    ⟨(some 19), none, .op (.lenL (.r 18)), []⟩,
    ⟨(some 20), none, .op (.bin .eql .other (.r 19) (.k (i64 0))), []⟩])
  (.cond (.r 20)
  (.seq (.ops [
    ⟨(some 4), none, .op (.move (.k (.lst [] .nil))), []⟩,
    ⟨(some 5), none, .op (.move (.k (i64 13))), []⟩])
  (.ret))
  (.skip)))
  (.seq (.seq (.ops [
    ⟨(some 21), none, .op (.move (.r 1)), []⟩,
    ⟨(some 22), none, .op (.lenL (.r 21)), []⟩,
    ⟨(some 23), none, .op (.bin .gtr .other (.r 22) (.k (i64 1024))), []⟩])
  (.cond (.r 23)
  (.seq (.ops [
    ⟨(some 4), none, .op (.move (.k (.lst [] .nil))), []⟩,
    ⟨(some 5), none, .op (.move (.k (i64 5))), []⟩])
  (.ret))
  (.skip)))
  (.seq (.ops [
    ⟨(some 6), none, .op (.move (.k (.sc (.int .u64 0)))), []⟩])
  (.seq (.seq (.ops [
    ⟨(some 7), none, .op (.move (.k (i64 0))), []⟩])
  (.block 0 (.loop (.seq (.seq (.ops [
    ⟨(some 24), none, .op (.move (.r 7)), []⟩,
    ⟨(some 25), none, .op (.move (.r 1)), []⟩,
    ⟨(some 26), none, .op (.lenL (.r 25)), []⟩,
    ⟨(some 27), none, .op (.bin .lss .other (.r 24) (.r 26)), []⟩])
  (.cond (.r 27)
  (.skip)
  (.exit 0)))
  (.seq (.block 1 (.seq (.seq (.ops [
    ⟨(some 30), none, .op (.move (.r 6)), []⟩,
    ⟨(some 31), none, .op (.move (.r 1)), []⟩,
    ⟨(some 32), none, .op (.move (.r 7)), []⟩,
    ⟨(some 33), none, .op (.idxAddr 1 (.r 31) (.r 32)), []⟩,
    ⟨(some 34), none, .op (.load none (.r 33)), []⟩,
    ⟨(some 35), none, .op (.bin .add .other (.r 30) (.r 34)), []⟩,
    ⟨(some 36), none, .op (.move (.r 6)), []⟩,
    ⟨(some 37), none, .op (.bin .lss .other (.r 35) (.r 36)), []⟩])
  (.cond (.r 37)
  (.seq (.ops [
    ⟨(some 4), none, .op (.move (.k (.lst [] .nil))), []⟩,
    ⟨(some 5), none, .op (.move (.k (i64 8))), []⟩])
  (.ret))
  (.skip)))
  (.ops [
    ⟨(some 38), none, .op (.move (.r 6)), []⟩,
    ⟨(some 39), none, .op (.move (.r 1)), []⟩,
    ⟨(some 40), none, .op (.move (.r 7)), []⟩,
    ⟨(some 41), none, .op (.idxAddr 1 (.r 39) (.r 40)), []⟩,
    ⟨(some 42), none, .op (.load none (.r 41)), []⟩,
    ⟨(some 43), none, .op (.bin .add .other (.r 38) (.r 42)), []⟩,
    ⟨(some 6), none, .op (.move (.r 43)), []⟩])))
  (.ops [
    ⟨(some 28), none, .op (.move (.r 7)), []⟩,
    ⟨(some 29), none, .op (.bin .add .other (.r 28) (.k (i64 1))), []⟩,
    ⟨(some 7), none, .op (.move (.r 29)), []⟩]))))))
  (.seq (.seq (.ops [
    ⟨(some 44), none, .op (.move (.r 6)), []⟩,
    ⟨(some 45), none, .op (.bin .eql .other (.r 44) (.k (.sc (.int .u64 0)))), []⟩])
  (.cond (.r 45)
  (.seq (.ops [
    ⟨(some 4), none, .op (.move (.k (.lst [] .nil))), []⟩,
    ⟨(some 5), none, .op (.move (.k (i64 9))), []⟩])
  (.ret))
  (.skip)))
  (T))))))

def d11b (T : NCode) : NCode :=
  .seq (.ops [
    ⟨(some 8), none, .op (.move (.k (.lst [] .nil))), []⟩])
  (.seq (.ops [
    ⟨(some 9), none, .op (.move (.k (.lst [] .nil))), []⟩])
  (.seq (.ops [
    ⟨(some 46), none, .op (.move (.r 0)), []⟩,
    ⟨(some 10), none, .op (.move (.r 46)), []⟩])
  (.seq (.seq (.ops [
    ⟨(some 11), none, .op (.move (.k (i64 0))), []⟩])
  (.block 2 (.loop (.seq (.seq (.ops [
    ⟨(some 47), none, .op (.move (.r 11)), []⟩,
    ⟨(some 48), none, .op (.move (.r 1)), []⟩,
    ⟨(some 49), none, .op (.lenL (.r 48)), []⟩,
    ⟨(some 50), none, .op (.bin .lss .other (.r 47) (.r 49)), []⟩])
  (.cond (.r 50)
  (.skip)
  (.exit 2)))
  (.seq (.block 3 (.seq (.ops [
    ⟨(some 54), none, .op (.move (.r 0)), []⟩,
    ⟨(some 55), none, .op (.move (.r 1)), []⟩,
    ⟨(some 56), none, .op (.move (.r 11)), []⟩,
    ⟨(some 57), none, .op (.idxAddr 1 (.r 55) (.r 56)), []⟩,
    ⟨(some 58), none, .op (.load none (.r 57)), []⟩,
    ⟨(some 59), none, .op (.move (.r 6)), []⟩,
    ⟨(some 60), none, .call (.k (.clos 20 [])) [(.r 54), (.r 58), (.r 59)], []⟩,
    ⟨(some 53), none, .op (.move (.r 60)), []⟩,
    ⟨(some 61), none, .op (.extract 0 (.r 53)), []⟩,
    ⟨(some 62), none, .op (.extract 1 (.r 53)), []⟩,
    ⟨(some 63), none, .op (.extract 2 (.r 53)), []⟩,
    ⟨(some 12), none, .op (.move (.r 61)), []⟩,
    ⟨(some 13), none, .op (.move (.r 62)), []⟩,
    ⟨(some 14), none, .op (.move (.r 63)), []⟩])
  (.seq (.ops [
    ⟨(some 64), none, .op (.move (.r 8)), []⟩,
    ⟨(some 65), none, .op (.move (.r 12)), []⟩,
    ⟨(some 66), none, .op (.buildSlice none [(.sc (.int .u64 0))] 1 [(0, (.r 65))]), []⟩,
    ⟨(some 67), none, .op (.append true none 8 [(.sc (.int .u64 0))] (.r 64) (.r 66)), []⟩,
    ⟨(some 8), none, .op (.move (.r 67)), []⟩])
  (.seq (.ops [
    ⟨(some 68), none, .op (.move (.r 9)), []⟩,
    ⟨(some 69), none, .op (.move (.r 13)), []⟩,
    ⟨(some 70), none, .op (.buildSlice none [(.sc (.int .u64 0))] 1 [(0, (.r 69))]), []⟩,
    ⟨(some 71), none, .op (.append true none 8 [(.sc (.int .u64 0))] (.r 68) (.r 70)), []⟩,
    ⟨(some 9), none, .op (.move (.r 71)), []⟩])
  (.ops [
    ⟨(some 72), none, .op (.move (.r 10)), []⟩,
    ⟨(some 73), none, .op (.move (.r 12)), []⟩,
    ⟨(some 74), none, .op (.bin .sub .other (.r 72) (.r 73)), []⟩,
    ⟨(some 10), none, .op (.move (.r 74)), []⟩])))))
  (.ops [
    ⟨(some 51), none, .op (.move (.r 11)), []⟩,
    ⟨(some 52), none, .op (.bin .add .other (.r 51) (.k (i64 1))), []⟩,
    ⟨(some 11), none, .op (.move (.r 52)), []⟩]))))))
  (T))))

def d11c : NCode :=
  .seq (.seq (.ops [
    ⟨(some 15), none, .op (.move (.k (i64 0))), []⟩])
  (.block 4 (.loop (.seq (.seq (.ops [
    ⟨(some 75), none, .op (.move (.r 15)), []⟩,
    ⟨(some 76), none, .op (.move (.r 1)), []⟩,
    ⟨(some 77), none, .op (.lenL (.r 76)), []⟩,
    ⟨(some 78), none, .op (.bin .lss .other (.r 75) (.r 77)), []⟩,
    ⟨(some 79), none, .op (.move (.r 78)), []⟩,
    ⟨(some 80), (some (79, true)), .op (.move (.r 10)), []⟩,
    ⟨(some 81), (some (79, true)), .op (.bin .gtr .other (.r 80) (.k (.sc (.int .u64 0)))), []⟩,
    ⟨(some 82), none, .op (.pick (.r 79) (.r 81) (.k (bo false))), []⟩])
  (.cond (.r 82)
  (.skip)
  (.exit 4)))
  (.seq (.block 5 (.seq (.ops [
    ⟨(some 16), none, .op (.move (.k (i64 0))), []⟩])
  (.seq (.seq (.ops [
    ⟨(some 17), none, .op (.move (.k (i64 1))), []⟩])
  (.block 6 (.loop (.seq (.seq (.ops [
    ⟨(some 85), none, .op (.move (.r 17)), []⟩,
    ⟨(some 86), none, .op (.move (.r 9)), []⟩,
    ⟨(some 87), none, .op (.lenL (.r 86)), []⟩,
    ⟨(some 88), none, .op (.bin .lss .other (.r 85) (.r 87)), []⟩])
  (.cond (.r 88)
  (.skip)
  (.exit 6)))
  (.seq (.block 7 (.seq (.ops [
    ⟨(some 91), none, .op (.move (.r 9)), []⟩,
    ⟨(some 92), none, .op (.move (.r 17)), []⟩,
    ⟨(some 93), none, .op (.idxAddr 1 (.r 91) (.r 92)), []⟩,
    ⟨(some 94), none, .op (.load none (.r 93)), []⟩,
    ⟨(some 95), none, .op (.move (.r 9)), []⟩,
    ⟨(some 96), none, .op (.move (.r 16)), []⟩,
    ⟨(some 97), none, .op (.idxAddr 1 (.r 95) (.r 96)), []⟩,
    ⟨(some 98), none, .op (.load none (.r 97)), []⟩,
    ⟨(some 99), none, .op (.bin .gtr .other (.r 94) (.r 98)), []⟩])
  (.cond (.r 99)
  (.ops [
    ⟨(some 100), none, .op (.move (.r 17)), []⟩,
    ⟨(some 16), none, .op (.move (.r 100)), []⟩])
  (.skip))))
  (.ops [
    ⟨(some 89), none, .op (.move (.r 17)), []⟩,
    ⟨(some 90), none, .op (.bin .add .other (.r 89) (.k (i64 1))), []⟩,
    ⟨(some 17), none, .op (.move (.r 90)), []⟩]))))))
  (.seq (.ops [
    ⟨(some 101), none, .op (.move (.r 8)), []⟩,
    ⟨(some 102), none, .op (.move (.r 16)), []⟩,
    ⟨(some 103), none, .op (.move (.r 8)), []⟩,
    ⟨(some 104), none, .op (.move (.r 16)), []⟩,
    ⟨(some 105), none, .op (.idxAddr 1 (.r 103) (.r 104)), []⟩,
    ⟨(some 106), none, .op (.load none (.r 105)), []⟩,
    ⟨(some 107), none, .op (.bin .add .other (.r 106) (.k (.sc (.int .u64 1)))), []⟩,
    ⟨(some 108), none, .op (.idxAddr 1 (.r 101) (.r 102)), []⟩,
    ⟨none, none, .op (.store 1 (.r 108) (.r 107)), []⟩])
  (.seq (.ops [
    ⟨(some 109), none, .op (.move (.r 9)), []⟩,
    ⟨(some 110), none, .op (.move (.r 16)), []⟩,
    ⟨(some 111), none, .op (.idxAddr 1 (.r 109) (.r 110)), []⟩,
    ⟨none, none, .op (.store 1 (.r 111) (.k (.sc (.int .u64 0)))), []⟩])
  (.ops [
    ⟨(some 112), none, .op (.move (.r 10)), []⟩,
    ⟨(some 113), none, .op (.bin .sub .other (.r 112) (.k (.sc (.int .u64 1)))), []⟩,
    ⟨(some 10), none, .op (.move (.r 113)), []⟩]))))))
  (.ops [
    ⟨(some 83), none, .op (.move (.r 15)), []⟩,
    ⟨(some 84), none, .op (.bin .add .other (.r 83) (.k (i64 1))), []⟩,
    ⟨(some 15), none, .op (.move (.r 84)), []⟩]))))))
  (.seq (.ops [
    ⟨(some 114), none, .op (.move (.r 8)), []⟩,
    ⟨(some 4), none, .op (.move (.r 114)), []⟩,
    ⟨(some 5), none, .op (.move (.k (i64 0))), []⟩])
  (.ret))

theorem n_rSplit : n11 = d11a (d11b d11c) := by kernel_rfl

section
variable {E Qp : AV → Heap → Prop} {m M : Heap} {ρ : Regs} {Kn Kr : Cont} {Kx : Nat → Cont} {T : NCode} {a n p l cp cl rest : Nat} {y : AV} {w R Q : List Nat} {rp rl : List AV}
/-- The sum. -/
theorem rs_a (hw : El y m w) (hu : isW w) (hl : w.length ≤ 17592186044416) (g0 : ρ 0 = un a) (g1 : ρ 1 = y)
    (kr : ∀ ρ' e, errOf w = e → e ≠ 0 → ρ' 4 = .lst [] .nil → ρ' 5 = iv e → Kr ρ' m)
    (k : ∀ ρ', w ≠ [] → ¬ 1024 < w.length → w.sum < 18446744073709551616 → 0 < w.sum → ρ' 0 = un a → ρ' 1 = y → ρ' 6 = un w.sum → vc Try.prog E T Kn Kx Kr ρ' m) : vc Try.prog E (d11a T) Kn Kx Kr ρ m := by
  by_cases c0 : w = []
  · have c0' : (w.length : Int) = 0 := by rw [c0]; rfl
    simp only [d11a, g0, g1, onLst_len hw.lenIs, c0', wf_preprocess, ↓reduceIte, Nat.reduceEqDiff, reduceCtorEq, Nat.reduceAdd, Nat.reduceMul, Nat.reduceLeDiff, Nat.reduceLT, Nat.reduceSub, Int.reduceToNat, Int.reduceNeg, Int.reduceAdd, Int.reduceSub, Int.reduceMul, Int.reduceEq, Int.reduceLT, Int.reduceLE, Int.reduceNe, forall_const, forall_eq', forall_eq, List.forall_mem_cons, List.not_mem_nil]
    refine kr _ 13 (err_13 c0) (by decide) ?_ ?_ <;> (simp only [wf_preprocess, ↓reduceIte, Nat.reduceEqDiff, reduceCtorEq, Nat.reduceAdd, Nat.reduceMul, Nat.reduceLeDiff, Nat.reduceLT, Nat.reduceSub, Int.reduceToNat, Int.reduceNeg, Int.reduceAdd, Int.reduceSub, Int.reduceMul, Int.reduceEq, Int.reduceLT, Int.reduceLE, Int.reduceNe, forall_const, forall_eq', forall_eq, List.forall_mem_cons, List.not_mem_nil]; try rfl)
  have c0' : ¬ (w.length : Int) = 0 := by
    have : w.length ≠ 0 := fun e => c0 (List.length_eq_zero_iff.1 e)
    omega
  by_cases c1 : 1024 < w.length
  · have c1' : (1024 : Int) < (w.length : Int) := by omega
    simp only [d11a, g0, g1, onLst_len hw.lenIs, c0', c1', wf_preprocess, ↓reduceIte, Nat.reduceEqDiff, reduceCtorEq, Nat.reduceAdd, Nat.reduceMul, Nat.reduceLeDiff, Nat.reduceLT, Nat.reduceSub, Int.reduceToNat, Int.reduceNeg, Int.reduceAdd, Int.reduceSub, Int.reduceMul, Int.reduceEq, Int.reduceLT, Int.reduceLE, Int.reduceNe, forall_const, forall_eq', forall_eq, List.forall_mem_cons, List.not_mem_nil]
    refine kr _ 5 (err_5 c0 c1) (by decide) ?_ ?_ <;> (simp only [wf_preprocess, ↓reduceIte, Nat.reduceEqDiff, reduceCtorEq, Nat.reduceAdd, Nat.reduceMul, Nat.reduceLeDiff, Nat.reduceLT, Nat.reduceSub, Int.reduceToNat, Int.reduceNeg, Int.reduceAdd, Int.reduceSub, Int.reduceMul, Int.reduceEq, Int.reduceLT, Int.reduceLE, Int.reduceNe, forall_const, forall_eq', forall_eq, List.forall_mem_cons, List.not_mem_nil]; try rfl)
  have c1' : ¬ (1024 : Int) < (w.length : Int) := by omega
  simp only [d11a, g0, g1, onLst_len hw.lenIs, c0', c1', wf_preprocess, ↓reduceIte, Nat.reduceEqDiff, reduceCtorEq, Nat.reduceAdd, Nat.reduceMul, Nat.reduceLeDiff, Nat.reduceLT, Nat.reduceSub, Int.reduceToNat, Int.reduceNeg, Int.reduceAdd, Int.reduceSub, Int.reduceMul, Int.reduceEq, Int.reduceLT, Int.reduceLE, Int.reduceNe, forall_const, forall_eq', forall_eq, List.forall_mem_cons, List.not_mem_nil]
  refine loop_i (fun kk ρ m' => ∃ (i : Nat), kk = w.length - i ∧ i ≤ w.length ∧ ρ 0 = un a ∧ ρ 1 = y ∧ ρ 7 = iv i ∧ (w.take i).sum < 18446744073709551616 ∧ ρ 6 = un (w.take i).sum ∧ m' = m) w.length ⟨0, rfl, by omega, ?_⟩ ?_
  · simp only [g0, g1, wf_preprocess, ↓reduceIte, Nat.reduceEqDiff, reduceCtorEq, Nat.reduceAdd, Nat.reduceMul, Nat.reduceLeDiff, Nat.reduceLT, Nat.reduceSub, Int.reduceToNat, Int.reduceNeg, Int.reduceAdd, Int.reduceSub, Int.reduceMul, Int.reduceEq, Int.reduceLT, Int.reduceLE, Int.reduceNe, forall_const, forall_eq', forall_eq, List.forall_mem_cons, List.not_mem_nil]
    simp
  rintro kk ρ m' ⟨i, rfl, hi, h0, h1, h7, hs, h6, rfl⟩
  by_cases hlt : (i : Int) < (w.length : Int)
  · obtain ⟨x, hx⟩ : ∃ x, w[i]? = some x := ⟨_, List.getElem?_eq_getElem (by omega)⟩
    have hxu := hu x (List.mem_of_getElem? hx)
    have w1 : IntKind.i64.wrap ((i : Int) + 1) = ((i + 1 : Nat) : Int) := wrap64 (by omega) (by omega)
    have e2 := sum_take_get hx
    simp only [h0, h1, h7, h6, hlt, onLst_len hw.lenIs, Int.natCast_nonneg, wf_preprocess, ↓reduceIte, Nat.reduceEqDiff, reduceCtorEq, Nat.reduceAdd, Nat.reduceMul, Nat.reduceLeDiff, Nat.reduceLT, Nat.reduceSub, Int.reduceToNat, Int.reduceNeg, Int.reduceAdd, Int.reduceSub, Int.reduceMul, Int.reduceEq, Int.reduceLT, Int.reduceLE, Int.reduceNe, forall_const, forall_eq', forall_eq, List.forall_mem_cons, List.not_mem_nil]
    refine El.idx (n := (i : Int)) hw (by omega) (by simpa using hx) fun a1 r1 ha1 => ?_
    by_cases c2 : 18446744073709551616 ≤ (w.take i).sum + x
    · simp only [h0, h1, h7, h6, ha1, wu, ov_s hs hxu, c2, wf_preprocess, ↓reduceIte, Nat.reduceEqDiff, reduceCtorEq, Nat.reduceAdd, Nat.reduceMul, Nat.reduceLeDiff, Nat.reduceLT, Nat.reduceSub, Int.reduceToNat, Int.reduceNeg, Int.reduceAdd, Int.reduceSub, Int.reduceMul, Int.reduceEq, Int.reduceLT, Int.reduceLE, Int.reduceNe, forall_const, forall_eq', forall_eq, List.forall_mem_cons, List.not_mem_nil]
      refine kr _ 8 (err_8 c0 c1 ?_) (by decide) ?_ ?_
      · have := sum_take_le (l := w) (i := i + 1)
        omega
      · simp only [wf_preprocess, ↓reduceIte, Nat.reduceEqDiff, reduceCtorEq, Nat.reduceAdd, Nat.reduceMul, Nat.reduceLeDiff, Nat.reduceLT, Nat.reduceSub, Int.reduceToNat, Int.reduceNeg, Int.reduceAdd, Int.reduceSub, Int.reduceMul, Int.reduceEq, Int.reduceLT, Int.reduceLE, Int.reduceNe, forall_const, forall_eq', forall_eq, List.forall_mem_cons, List.not_mem_nil]
      · simp only [wf_preprocess, ↓reduceIte, Nat.reduceEqDiff, reduceCtorEq, Nat.reduceAdd, Nat.reduceMul, Nat.reduceLeDiff, Nat.reduceLT, Nat.reduceSub, Int.reduceToNat, Int.reduceNeg, Int.reduceAdd, Int.reduceSub, Int.reduceMul, Int.reduceEq, Int.reduceLT, Int.reduceLE, Int.reduceNe, forall_const, forall_eq', forall_eq, List.forall_mem_cons, List.not_mem_nil]; rfl
    · have e3 : U (((w.take i).sum : Int) + (x : Int)) = (((w.take (i + 1)).sum : Nat) : Int) := U_nat (by omega) (by omega)
      have e4 := ov_s hs hxu
      rw [e3] at e4
      simp only [h0, h1, h7, h6, ha1, wu, e3, e4, c2, Int.natCast_nonneg, wf_preprocess, ↓reduceIte, Nat.reduceEqDiff, reduceCtorEq, Nat.reduceAdd, Nat.reduceMul, Nat.reduceLeDiff, Nat.reduceLT, Nat.reduceSub, Int.reduceToNat, Int.reduceNeg, Int.reduceAdd, Int.reduceSub, Int.reduceMul, Int.reduceEq, Int.reduceLT, Int.reduceLE, Int.reduceNe, forall_const, forall_eq', forall_eq, List.forall_mem_cons, List.not_mem_nil]
      refine El.idx (n := (i : Int)) hw (by omega) (by simpa using hx) fun a2 r2 ha2 => ?_
      simp only [h0, h1, h7, h6, ha2, wu, e3, w1, wf_preprocess, ↓reduceIte, Nat.reduceEqDiff, reduceCtorEq, Nat.reduceAdd, Nat.reduceMul, Nat.reduceLeDiff, Nat.reduceLT, Nat.reduceSub, Int.reduceToNat, Int.reduceNeg, Int.reduceAdd, Int.reduceSub, Int.reduceMul, Int.reduceEq, Int.reduceLT, Int.reduceLE, Int.reduceNe, forall_const, forall_eq', forall_eq, List.forall_mem_cons, List.not_mem_nil]
      exact ⟨w.length - (i + 1), by omega, i + 1, rfl, by omega, rfl, by omega, rfl⟩
  · have e : w.take i = w := List.take_of_length_le (by omega)
    rw [e] at h6 hs
    by_cases c3 : w.sum = 0
    · have c3' : (w.sum : Int) = 0 := by omega
      simp only [h0, h1, h7, h6, hlt, c3', onLst_len hw.lenIs, wf_preprocess, ↓reduceIte, Nat.reduceEqDiff, reduceCtorEq, Nat.reduceAdd, Nat.reduceMul, Nat.reduceLeDiff, Nat.reduceLT, Nat.reduceSub, Int.reduceToNat, Int.reduceNeg, Int.reduceAdd, Int.reduceSub, Int.reduceMul, Int.reduceEq, Int.reduceLT, Int.reduceLE, Int.reduceNe, forall_const, forall_eq', forall_eq, List.forall_mem_cons, List.not_mem_nil]
      refine kr _ 9 (err_9 c0 c1 c3) (by decide) ?_ ?_ <;> (simp only [wf_preprocess, ↓reduceIte, Nat.reduceEqDiff, reduceCtorEq, Nat.reduceAdd, Nat.reduceMul, Nat.reduceLeDiff, Nat.reduceLT, Nat.reduceSub, Int.reduceToNat, Int.reduceNeg, Int.reduceAdd, Int.reduceSub, Int.reduceMul, Int.reduceEq, Int.reduceLT, Int.reduceLE, Int.reduceNe, forall_const, forall_eq', forall_eq, List.forall_mem_cons, List.not_mem_nil]; try rfl)
    · have c3' : ¬ (w.sum : Int) = 0 := by omega
      simp only [h0, h1, h7, h6, hlt, c3', onLst_len hw.lenIs, wf_preprocess, ↓reduceIte, Nat.reduceEqDiff, reduceCtorEq, Nat.reduceAdd, Nat.reduceMul, Nat.reduceLeDiff, Nat.reduceLT, Nat.reduceSub, Int.reduceToNat, Int.reduceNeg, Int.reduceAdd, Int.reduceSub, Int.reduceMul, Int.reduceEq, Int.reduceLT, Int.reduceLE, Int.reduceNe, forall_const, forall_eq', forall_eq, List.forall_mem_cons, List.not_mem_nil]
      refine k _ c0 c1 hs (by omega) ?_ ?_ ?_ <;> simp only [h0, h1, h6, wf_preprocess, ↓reduceIte, Nat.reduceEqDiff, reduceCtorEq, Nat.reduceAdd, Nat.reduceMul, Nat.reduceLeDiff, Nat.reduceLT, Nat.reduceSub, Int.reduceToNat, Int.reduceNeg, Int.reduceAdd, Int.reduceSub, Int.reduceMul, Int.reduceEq, Int.reduceLT, Int.reduceLE, Int.reduceNe, forall_const, forall_eq', forall_eq, List.forall_mem_cons, List.not_mem_nil]

/-- Quotas, and what is left. -/
structure Two (m m' : Heap) (vP vL : AV) (P L : List Nat) : Prop where
  ext : Ext [] m m'
  bp : BufI .u64 (ul P) vP m'
  bl : BufI .u64 (ul L) vL m'
  np : ∀ i ∈ refs vP, i ∉ keys m
  nl : ∀ i ∈ refs vL, i ∉ keys m
  sep : ∀ i ∈ refs vL, i ∉ refs vP
theorem rs_b (hw : El y m w) (hu : isW w) (ha : a < 18446744073709551616) (hl : ¬ 1024 < w.length) (hs : w.sum < 18446744073709551616) (hz : 0 < w.sum) (g0 : ρ 0 = un a) (g1 : ρ 1 = y) (g6 : ρ 6 = un w.sum)
    (k : ∀ ρ' m' vP vL, Two m m' vP vL (quo a w.sum w) (rems a w.sum w) → ρ' 1 = y → ρ' 8 = vP → ρ' 9 = vL → ρ' 10 = un (a - (quo a w.sum w).sum) → vc Try.prog E T Kn Kx Kr ρ' m') : vc Try.prog E (d11b T) Kn Kx Kr ρ m := by
  simp only [d11b, g0, g1, wf_preprocess, ↓reduceIte, Nat.reduceEqDiff, reduceCtorEq, Nat.reduceAdd, Nat.reduceMul, Nat.reduceLeDiff, Nat.reduceLT, Nat.reduceSub, Int.reduceToNat, Int.reduceNeg, Int.reduceAdd, Int.reduceSub, Int.reduceMul, Int.reduceEq, Int.reduceLT, Int.reduceLE, Int.reduceNe, forall_const, forall_eq', forall_eq, List.forall_mem_cons, List.not_mem_nil]
  refine loop_i (fun kk ρ m' => ∃ (i : Nat) (vP vL : AV), kk = w.length - i ∧ i ≤ w.length ∧ ρ 0 = un a ∧ ρ 1 = y ∧ ρ 6 = un w.sum ∧ ρ 8 = vP ∧ ρ 9 = vL ∧ ρ 10 = u64v (U ((a : Int) - ((quo a w.sum (w.take i)).sum : Int))) ∧ ρ 11 = iv i ∧ Two m m' vP vL ((quo a w.sum w).take i) ((rems a w.sum w).take i)) w.length
    ⟨0, .lst [] .nil, .lst [] .nil, rfl, by omega, ?_⟩ ?_
  · simp only [g0, g1, g6, wf_preprocess, ↓reduceIte, Nat.reduceEqDiff, reduceCtorEq, Nat.reduceAdd, Nat.reduceMul, Nat.reduceLeDiff, Nat.reduceLT, Nat.reduceSub, Int.reduceToNat, Int.reduceNeg, Int.reduceAdd, Int.reduceSub, Int.reduceMul, Int.reduceEq, Int.reduceLT, Int.reduceLE, Int.reduceNe, forall_const, forall_eq', forall_eq, List.forall_mem_cons, List.not_mem_nil]
    refine ⟨?_, .rfl', BufI.nil, BufI.nil, by simp [refs], by simp [refs], by simp [refs]⟩
    show un a = u64v (U ((a : Int) - ((0 : Nat) : Int)))
    rw [rest_end (by omega) ha]; rfl
  rintro kk ρ m' ⟨i, vP, vL, rfl, hi, h0, h1, h6, h8, h9, h10, h11, hT⟩
  have hwE := hw.ext hT.ext (by simp)
  by_cases hlt : (i : Int) < (w.length : Int)
  · obtain ⟨x, hx⟩ : ∃ x, w[i]? = some x := ⟨_, List.getElem?_eq_getElem (by omega)⟩
    have hxu := hu x (List.mem_of_getElem? hx)
    have hxs := le_sum hx
    have w1 : IntKind.i64.wrap ((i : Int) + 1) = ((i + 1 : Nat) : Int) := wrap64 (by omega) (by omega)
    have gR := rems_get (a := a) (S := w.sum) hx
    have gQ := quo_get (a := a) (S := w.sum) hx
    have tR : (rems a w.sum w).take i ++ [a * x % w.sum] = (rems a w.sum w).take (i + 1) := by rw [List.take_add_one, gR]; rfl
    have tQ : (quo a w.sum w).take i ++ [a * x / w.sum] = (quo a w.sum w).take (i + 1) := by rw [List.take_add_one, gQ]; rfl
    have eS := rest_step (a := a) (show (quo a w.sum (w.take i)).sum + a * x / w.sum = (quo a w.sum (w.take (i + 1))).sum by rw [quo_take, quo_take, sum_take_get gQ])
    simp only [h0, h1, h6, h8, h9, h10, h11, hlt, onLst_len hw.lenIs, Int.natCast_nonneg, wf_preprocess, ↓reduceIte, Nat.reduceEqDiff, reduceCtorEq, Nat.reduceAdd, Nat.reduceMul, Nat.reduceLeDiff, Nat.reduceLT, Nat.reduceSub, Int.reduceToNat, Int.reduceNeg, Int.reduceAdd, Int.reduceSub, Int.reduceMul, Int.reduceEq, Int.reduceLT, Int.reduceLE, Int.reduceNe, forall_const, forall_eq', forall_eq, List.forall_mem_cons, List.not_mem_nil]
    refine El.idx (n := (i : Int)) hwE (by omega) (by simpa using hx) fun a1 r1 ha1 => ?_
    simp only [h0, h1, h6, h8, h9, h10, h11, ha1, hlt, Int.natCast_nonneg, wf_preprocess, ↓reduceIte, Nat.reduceEqDiff, reduceCtorEq, Nat.reduceAdd, Nat.reduceMul, Nat.reduceLeDiff, Nat.reduceLT, Nat.reduceSub, Int.reduceToNat, Int.reduceNeg, Int.reduceAdd, Int.reduceSub, Int.reduceMul, Int.reduceEq, Int.reduceLT, Int.reduceLE, Int.reduceNe, forall_const, forall_eq', forall_eq, List.forall_mem_cons, List.not_mem_nil]
    refine call_i (rMulDiv_s ha hxu hs ?_)
    rw [mulDiv_v ha hxs hz]
    simp only [h0, h1, h6, h8, h9, h10, h11, hlt, Int.natCast_nonneg, wf_preprocess, ↓reduceIte, Nat.reduceEqDiff, reduceCtorEq, Nat.reduceAdd, Nat.reduceMul, Nat.reduceLeDiff, Nat.reduceLT, Nat.reduceSub, Int.reduceToNat, Int.reduceNeg, Int.reduceAdd, Int.reduceSub, Int.reduceMul, Int.reduceEq, Int.reduceLT, Int.reduceLE, Int.reduceNe, forall_const, forall_eq', forall_eq, List.forall_mem_cons, List.not_mem_nil]
    have l1 : (ul ((quo a w.sum w).take i)).length ≤ 1024 := by rw [ul_len, List.length_take]; omega
    have l2 : (ul ((rems a w.sum w).take i)).length ≤ 1024 := by rw [ul_len, List.length_take]; omega
    refine app_bufI (l2 := ul [a * x / w.sum]) hT.bp rfl (by simp only [ul_len, List.length_singleton] at l1 ⊢; omega) (by rw [maxLen_e]; simp only [ul_len, List.length_singleton] at l1 ⊢; omega) fun vP' m2 hb1 hx1 hn1 => ?_
    rw [← ul_app, tQ] at hb1
    have hbl := hT.bl.ext hx1 hT.sep
    simp only [h0, h1, h6, h8, h9, h10, h11, hlt, Int.natCast_nonneg, wf_preprocess, ↓reduceIte, Nat.reduceEqDiff, reduceCtorEq, Nat.reduceAdd, Nat.reduceMul, Nat.reduceLeDiff, Nat.reduceLT, Nat.reduceSub, Int.reduceToNat, Int.reduceNeg, Int.reduceAdd, Int.reduceSub, Int.reduceMul, Int.reduceEq, Int.reduceLT, Int.reduceLE, Int.reduceNe, forall_const, forall_eq', forall_eq, List.forall_mem_cons, List.not_mem_nil]
    refine app_bufI (l2 := ul [a * x % w.sum]) hbl rfl (by simp only [ul_len, List.length_singleton] at l2 ⊢; omega) (by rw [maxLen_e]; simp only [ul_len, List.length_singleton] at l2 ⊢; omega) fun vL' m3 hb2 hx2 hn2 => ?_
    rw [← ul_app, tR] at hb2
    simp only [h0, h1, h6, h8, h9, h10, h11, wu, eS, w1, wf_preprocess, ↓reduceIte, Nat.reduceEqDiff, reduceCtorEq, Nat.reduceAdd, Nat.reduceMul, Nat.reduceLeDiff, Nat.reduceLT, Nat.reduceSub, Int.reduceToNat, Int.reduceNeg, Int.reduceAdd, Int.reduceSub, Int.reduceMul, Int.reduceEq, Int.reduceLT, Int.reduceLE, Int.reduceNe, forall_const, forall_eq', forall_eq, List.forall_mem_cons, List.not_mem_nil]
    have hm2 : Ext [] m m2 := hT.ext.fresh hx1 fun i hi => .inr (hT.np i hi)
    have hm3 : Ext [] m m3 := hm2.fresh hx2 fun i hi => .inr (hT.nl i hi)
    have np' : ∀ i ∈ refs vP', i ∉ keys m := by
      rcases hn1 with rfl | hn1
      · exact hT.np
      · exact fun i hi hk => hn1 i hi (by
          cases hg : get i m with
          | none => exact absurd hk (not_keys hg)
          | some ob => exact mem_keys (hT.ext i ob hg (by simp)))
    have nl' : ∀ i ∈ refs vL', i ∉ keys m := by
      rcases hn2 with rfl | hn2
      · exact hT.nl
      · exact fun i hi hk => hn2 i hi (by
          cases hg : get i m with
          | none => exact absurd hk (not_keys hg)
          | some ob => exact mem_keys (hm2 i ob hg (by simp)))
    have sp1 : ∀ i ∈ refs vL, i ∉ refs vP' := by
      rcases hn1 with rfl | hn1
      · exact hT.sep
      · exact fun i hi hk => hn1 i hk (hT.bl.inK i hi)
    have sp2 : ∀ i ∈ refs vL', i ∉ refs vP' := by
      rcases hn2 with rfl | hn2
      · exact sp1
      · exact fun i hi hk => hn2 i hi (hb1.inK i hk)
    refine ⟨w.length - (i + 1), by omega, i + 1, vP', vL', rfl, by omega, rfl, rfl, rfl, rfl, hm3, ?_, ?_, np', nl', sp2⟩
    · exact hb1.ext hx2 fun i hi hk => sp1 i hk hi
    · exact hb2
  · obtain rfl : i = w.length := by omega
    have e1 : (quo a w.sum w).take w.length = quo a w.sum w := List.take_of_length_le (by rw [quo_len]; omega)
    have e2 : (rems a w.sum w).take w.length = rems a w.sum w := List.take_of_length_le (by rw [rems_len]; omega)
    rw [e1, e2] at hT
    rw [List.take_length, rest_end (quo_le hz) ha] at h10
    simp only [h0, h1, h6, h8, h9, h10, h11, hlt, onLst_len hw.lenIs, wf_preprocess, ↓reduceIte, Nat.reduceEqDiff, reduceCtorEq, Nat.reduceAdd, Nat.reduceMul, Nat.reduceLeDiff, Nat.reduceLT, Nat.reduceSub, Int.reduceToNat, Int.reduceNeg, Int.reduceAdd, Int.reduceSub, Int.reduceMul, Int.reduceEq, Int.reduceLT, Int.reduceLE, Int.reduceNe, forall_const, forall_eq', forall_eq, List.forall_mem_cons, List.not_mem_nil]
    refine k _ _ vP vL hT ?_ ?_ ?_ ?_ <;> simp only [h1, h8, h9, h10, wf_preprocess, ↓reduceIte, Nat.reduceEqDiff, reduceCtorEq, Nat.reduceAdd, Nat.reduceMul, Nat.reduceLeDiff, Nat.reduceLT, Nat.reduceSub, Int.reduceToNat, Int.reduceNeg, Int.reduceAdd, Int.reduceSub, Int.reduceMul, Int.reduceEq, Int.reduceLT, Int.reduceLE, Int.reduceNe, forall_const, forall_eq', forall_eq, List.forall_mem_cons, List.not_mem_nil]
end
end Go.Proofs.Ytjegieklpeipaaa.Moi.Share

namespace Go.Proofs.Ytjegieklpeipaaa.Moi.Share
open Go Go.RowKit Go.Proofs.Ytjegieklpeipaaa.Moi Go.Proofs.Ytjegieklpeipaaa.Moi.Num

section
variable {E Qp : AV → Heap → Prop} {m M : Heap} {ρ : Regs} {Kn Kr : Cont} {Kx : Nat → Cont} {T : NCode} {a n p l cp cl rest : Nat} {y : AV} {w R Q : List Nat} {rp rl : List AV}
theorem uk_drop {b : List Nat} {r : List AV} {i x : Nat} (h : b[i]? = some x) : (uk b ++ r).drop i = un x :: (uk b ++ r).drop (i + 1) := kl_drop (ul_get h)
theorem uk_spl {b : List Nat} {r : List AV} {i x : Nat} (h : i < b.length) : splice i [un x] (uk b ++ r) = uk (b.set i x) ++ r := by
  rw [splice_one _ _ _ (by rw [List.length_append, uk_len]; omega), List.set_append_left _ _ (by rw [uk_len]; omega), uk_set]
/-- One after another to the largest that is left. -/
theorem rs_c (hpl : p ≠ l) (hgp : get p M = some (.cells (uk Q ++ rp))) (hgl : get l M = some (.cells (uk R ++ rl))) (hy : LenIs y n) (hR : R.length = n) (hQ : Q.length = n) (hn : n ≤ 1024) (hr : rest ≤ nz R) (hu : ∀ (i q : Nat), Q[i]? = some q → q + rest < 18446744073709551616)
    (g1 : ρ 1 = y) (g8 : ρ 8 = .mref p 0 n cp) (g9 : ρ 9 = .mref l 0 n cl) (g10 : ρ 10 = un rest)
    (kr : ∀ ρ' M', get p M' = some (.cells (uk (bump R Q rest) ++ rp)) → Ext [p, l] M M' → ρ' 4 = .mref p 0 n cp → ρ' 5 = iv 0 → Kr ρ' M') : vc Try.prog E d11c Kn Kx Kr ρ M := by
  have hlp : l ≠ p := fun e => hpl e.symm
  have hnz : nz R ≤ n := by rw [← hR]; exact nz_len
  simp only [d11c, g1, g8, g9, g10, wf_preprocess, ↓reduceIte, Nat.reduceEqDiff, reduceCtorEq, Nat.reduceAdd, Nat.reduceMul, Nat.reduceLeDiff, Nat.reduceLT, Nat.reduceSub, Int.reduceToNat, Int.reduceNeg, Int.reduceAdd, Int.reduceSub, Int.reduceMul, Int.reduceEq, Int.reduceLT, Int.reduceLE, Int.reduceNe, forall_const, forall_eq', forall_eq, List.forall_mem_cons, List.not_mem_nil]
  refine loop_i (fun kk ρ m' => ∃ (k : Nat), kk = rest - k ∧ k ≤ rest ∧ ρ 1 = y ∧ ρ 8 = .mref p 0 n cp ∧ ρ 9 = .mref l 0 n cl ∧ ρ 10 = un (rest - k : Nat) ∧ ρ 15 = iv k ∧
    get p m' = some (.cells (uk (bump R Q k) ++ rp)) ∧ get l m' = some (.cells (uk (zap R k) ++ rl)) ∧ Ext [p, l] M m') rest ⟨0, rfl, by omega, ?_⟩ ?_
  · rw [bump_zero, zap_zero]
    simp only [g1, g8, g9, g10, Nat.sub_zero, wf_preprocess, ↓reduceIte, Nat.reduceEqDiff, reduceCtorEq, Nat.reduceAdd, Nat.reduceMul, Nat.reduceLeDiff, Nat.reduceLT, Nat.reduceSub, Int.reduceToNat, Int.reduceNeg, Int.reduceAdd, Int.reduceSub, Int.reduceMul, Int.reduceEq, Int.reduceLT, Int.reduceLE, Int.reduceNe, forall_const, forall_eq', forall_eq, List.forall_mem_cons, List.not_mem_nil]
    exact ⟨hgp, hgl, .rfl'⟩
  rintro kk ρ m' ⟨k, rfl, hk, h1, h8, h9, h10, h15, hp', hl', hE⟩
  by_cases hlt : k < rest
  · have c1 : (0 : Int) < ((rest - k : Nat) : Int) := by omega
    have c2 : (k : Int) < (n : Int) := by omega
    have lZ : (zap R k).length = n := by rw [zap_len]; exact hR
    have lB : (bump R Q k).length = n := by rw [bump_len]; exact hQ
    simp only [h1, h8, h9, h10, h15, c1, c2, onLst_len hy, wf_preprocess, ↓reduceIte, Nat.reduceEqDiff, reduceCtorEq, Nat.reduceAdd, Nat.reduceMul, Nat.reduceLeDiff, Nat.reduceLT, Nat.reduceSub, Int.reduceToNat, Int.reduceNeg, Int.reduceAdd, Int.reduceSub, Int.reduceMul, Int.reduceEq, Int.reduceLT, Int.reduceLE, Int.reduceNe, forall_const, forall_eq', forall_eq, List.forall_mem_cons, List.not_mem_nil]
    refine loop_i (fun kk ρ' m2 => ∃ (i b : Nat), kk = n - i ∧ 1 ≤ i ∧ i ≤ n ∧ b < i ∧ (∀ (j x z : Nat), j < b → (zap R k)[j]? = some x → (zap R k)[b]? = some z → x < z) ∧ (∀ (j x z : Nat), j < i → (zap R k)[j]? = some x → (zap R k)[b]? = some z → x ≤ z) ∧
      ρ' 1 = y ∧ ρ' 8 = .mref p 0 n cp ∧ ρ' 9 = .mref l 0 n cl ∧ ρ' 10 = un (rest - k : Nat) ∧ ρ' 15 = iv k ∧ ρ' 16 = iv b ∧ ρ' 17 = iv i ∧ m2 = m') (n - 1) ⟨1, 0, rfl, by omega, by omega, by omega, ?_⟩ ?_
    · simp only [h1, h8, h9, h10, h15, wf_preprocess, ↓reduceIte, Nat.reduceEqDiff, reduceCtorEq, Nat.reduceAdd, Nat.reduceMul, Nat.reduceLeDiff, Nat.reduceLT, Nat.reduceSub, Int.reduceToNat, Int.reduceNeg, Int.reduceAdd, Int.reduceSub, Int.reduceMul, Int.reduceEq, Int.reduceLT, Int.reduceLE, Int.reduceNe, forall_const, forall_eq', forall_eq, List.forall_mem_cons, List.not_mem_nil]
      refine ⟨fun j x z h => by omega, fun j x z h e1 e2 => ?_, rfl⟩
      obtain rfl : j = 0 := by omega
      rw [e1] at e2
      cases e2
      omega
    rintro kk ρ' m2 ⟨i, b, rfl, hi1, hi, hb, hmx, hle, k1, k8, k9, k10, k15, k16, k17, rfl⟩
    obtain ⟨zb, hzb⟩ : ∃ x, (zap R k)[b]? = some x := ⟨_, List.getElem?_eq_getElem (by omega)⟩
    have d3 : (b : Int) < (n : Int) := by omega
    have fb := uk_drop (r := rl) hzb
    by_cases hin : i < n
    · have d1 : (i : Int) < (n : Int) := by omega
      obtain ⟨zi, hzi⟩ : ∃ x, (zap R k)[i]? = some x := ⟨_, List.getElem?_eq_getElem (by omega)⟩
      have fi := uk_drop (r := rl) hzi
      have w1 : IntKind.i64.wrap ((i : Int) + 1) = ((i + 1 : Nat) : Int) := wrap64 (by omega) (by omega)
      by_cases hc : zb < zi
      · have hc' : (zb : Int) < (zi : Int) := by omega
        simp only [k1, k8, k9, k10, k15, k16, k17, d1, d3, hl', fb, fi, hc', w1, Int.natCast_nonneg, wf_preprocess, ↓reduceIte, Nat.reduceEqDiff, reduceCtorEq, Nat.reduceAdd, Nat.reduceMul, Nat.reduceLeDiff, Nat.reduceLT, Nat.reduceSub, Int.reduceToNat, Int.reduceNeg, Int.reduceAdd, Int.reduceSub, Int.reduceMul, Int.reduceEq, Int.reduceLT, Int.reduceLE, Int.reduceNe, forall_const, forall_eq', forall_eq, List.forall_mem_cons, List.not_mem_nil]
        refine ⟨n - (i + 1), by omega, i + 1, i, rfl, by omega, by omega, by omega, fun j x z h e1 e2 => ?_, fun j x z h e1 e2 => ?_, ?_⟩
        · rw [hzi] at e2; cases e2
          have := hle j x zb (by omega) e1 hzb
          omega
        · rw [hzi] at e2; cases e2
          by_cases e : j = i
          · subst e; rw [hzi] at e1; cases e1; omega
          · have := hle j x zb (by omega) e1 hzb
            omega
        · simp only [wf_preprocess, ↓reduceIte, Nat.reduceEqDiff, reduceCtorEq, Nat.reduceAdd, Nat.reduceMul, Nat.reduceLeDiff, Nat.reduceLT, Nat.reduceSub, Int.reduceToNat, Int.reduceNeg, Int.reduceAdd, Int.reduceSub, Int.reduceMul, Int.reduceEq, Int.reduceLT, Int.reduceLE, Int.reduceNe, forall_const, forall_eq', forall_eq, List.forall_mem_cons, List.not_mem_nil, and_self]
      · have hc' : ¬ (zb : Int) < (zi : Int) := by omega
        simp only [k1, k8, k9, k10, k15, k16, k17, d1, d3, hl', fb, fi, hc', w1, Int.natCast_nonneg, wf_preprocess, ↓reduceIte, Nat.reduceEqDiff, reduceCtorEq, Nat.reduceAdd, Nat.reduceMul, Nat.reduceLeDiff, Nat.reduceLT, Nat.reduceSub, Int.reduceToNat, Int.reduceNeg, Int.reduceAdd, Int.reduceSub, Int.reduceMul, Int.reduceEq, Int.reduceLT, Int.reduceLE, Int.reduceNe, forall_const, forall_eq', forall_eq, List.forall_mem_cons, List.not_mem_nil]
        refine ⟨n - (i + 1), by omega, i + 1, b, rfl, by omega, by omega, by omega, hmx, fun j x z h e1 e2 => ?_, ?_⟩
        · by_cases e : j = i
          · subst e; rw [hzi] at e1; cases e1; rw [hzb] at e2; cases e2; omega
          · exact hle j x z (by omega) e1 e2
        · simp only [wf_preprocess, ↓reduceIte, Nat.reduceEqDiff, reduceCtorEq, Nat.reduceAdd, Nat.reduceMul, Nat.reduceLeDiff, Nat.reduceLT, Nat.reduceSub, Int.reduceToNat, Int.reduceNeg, Int.reduceAdd, Int.reduceSub, Int.reduceMul, Int.reduceEq, Int.reduceLT, Int.reduceLE, Int.reduceNe, forall_const, forall_eq', forall_eq, List.forall_mem_cons, List.not_mem_nil, and_self]
    · obtain rfl : i = n := by omega
      have d1 : ¬ (i : Int) < (i : Int) := by omega
      have hrk : rk R b = k := pick (by omega) (by omega) hmx fun j x z e1 e2 => hle j x z (by
        have := (List.getElem?_eq_some_iff.1 e1).1
        omega) e1 e2
      obtain ⟨q, hq⟩ : ∃ x, Q[b]? = some x := ⟨_, List.getElem?_eq_getElem (by omega)⟩
      have hqu := hu b q hq
      obtain ⟨b1, b2⟩ := bump_step hq hrk (by omega)
      have b3 := zap_step hrk (by omega)
      have w1 : IntKind.i64.wrap ((k : Int) + 1) = ((k + 1 : Nat) : Int) := wrap64 (by omega) (by omega)
      have e1 : U ((q : Int) + 1) = ((q + 1 : Nat) : Int) := U_nat (by omega) (by omega)
      have e2 : U (((rest - k : Nat) : Int) - 1) = ((rest - (k + 1) : Nat) : Int) := U_nat (by omega) (by omega)
      have fp := uk_drop (r := rp) b1
      have s1 := uk_spl (r := rp) (x := q + 1) (show b < (bump R Q k).length by omega)
      have s2 := uk_spl (r := rl) (x := 0) (show b < (zap R k).length by omega)
      rw [b2] at s1
      rw [b3] at s2
      have s2 : splice b [.sc (.int .u64 0)] (uk (zap R k) ++ rl) = uk (zap R (k + 1)) ++ rl := s2
      have f1 : (b + 1 ≤ (uk (bump R Q k) ++ rp).length) = True := by rw [List.length_append, uk_len]; apply eq_true; omega
      have f2 : (b + 1 ≤ (uk (zap R k) ++ rl).length) = True := by rw [List.length_append, uk_len]; apply eq_true; omega
      have gp2 : get l (put p (.cells (uk (bump R Q (k + 1)) ++ rp)) m2) = some (.cells (uk (zap R k) ++ rl)) := by rw [get_put_ne hlp]; exact hl'
      simp only [k1, k8, k9, k10, k15, k16, k17, d1, d3, hp', hl', fp, f1, f2, s1, s2, gp2, wu, e1, e2, w1, Int.natCast_nonneg, wf_preprocess, ↓reduceIte, Nat.reduceEqDiff, reduceCtorEq, Nat.reduceAdd, Nat.reduceMul, Nat.reduceLeDiff, Nat.reduceLT, Nat.reduceSub, Int.reduceToNat, Int.reduceNeg, Int.reduceAdd, Int.reduceSub, Int.reduceMul, Int.reduceEq, Int.reduceLT, Int.reduceLE, Int.reduceNe, forall_const, forall_eq', forall_eq, List.forall_mem_cons, List.not_mem_nil]
      refine ⟨rest - (k + 1), by omega, k + 1, rfl, by omega, rfl, rfl, ?_, ?_, ?_⟩
      · rw [get_put_ne hpl, get_put hp']
      · rw [get_put gp2]
      · exact (hE.trans (.put (by simp))).trans (.put (by simp))
  · obtain rfl : k = rest := by omega
    have c1 : ¬ (0 : Int) < ((k - k : Nat) : Int) := by omega
    by_cases c2 : (k : Int) < (n : Int)
    · simp only [h1, h8, h9, h10, h15, c1, c2, onLst_len hy, wf_preprocess, ↓reduceIte, Nat.reduceEqDiff, reduceCtorEq, Nat.reduceAdd, Nat.reduceMul, Nat.reduceLeDiff, Nat.reduceLT, Nat.reduceSub, Int.reduceToNat, Int.reduceNeg, Int.reduceAdd, Int.reduceSub, Int.reduceMul, Int.reduceEq, Int.reduceLT, Int.reduceLE, Int.reduceNe, forall_const, forall_eq', forall_eq, List.forall_mem_cons, List.not_mem_nil]
      refine kr _ m' hp' hE ?_ ?_ <;> simp only [h8, wf_preprocess, ↓reduceIte, Nat.reduceEqDiff, reduceCtorEq, Nat.reduceAdd, Nat.reduceMul, Nat.reduceLeDiff, Nat.reduceLT, Nat.reduceSub, Int.reduceToNat, Int.reduceNeg, Int.reduceAdd, Int.reduceSub, Int.reduceMul, Int.reduceEq, Int.reduceLT, Int.reduceLE, Int.reduceNe, forall_const, forall_eq', forall_eq, List.forall_mem_cons, List.not_mem_nil]
    · simp only [h1, h8, h9, h10, h15, c1, c2, onLst_len hy, wf_preprocess, ↓reduceIte, Nat.reduceEqDiff, reduceCtorEq, Nat.reduceAdd, Nat.reduceMul, Nat.reduceLeDiff, Nat.reduceLT, Nat.reduceSub, Int.reduceToNat, Int.reduceNeg, Int.reduceAdd, Int.reduceSub, Int.reduceMul, Int.reduceEq, Int.reduceLT, Int.reduceLE, Int.reduceNe, forall_const, forall_eq', forall_eq, List.forall_mem_cons, List.not_mem_nil]
      refine kr _ m' hp' hE ?_ ?_ <;> simp only [h8, wf_preprocess, ↓reduceIte, Nat.reduceEqDiff, reduceCtorEq, Nat.reduceAdd, Nat.reduceMul, Nat.reduceLeDiff, Nat.reduceLT, Nat.reduceSub, Int.reduceToNat, Int.reduceNeg, Int.reduceAdd, Int.reduceSub, Int.reduceMul, Int.reduceEq, Int.reduceLT, Int.reduceLE, Int.reduceNe, forall_const, forall_eq', forall_eq, List.forall_mem_cons, List.not_mem_nil]

theorem rSplit_s (hw : El y m w) (hu : isW w) (ha : a < 18446744073709551616) (hl : w.length ≤ 17592186044416)
    (k : ∀ v m', BufI .u64 (ul (resP a w)) v m' → Ext [] m m' → (∀ i ∈ refs v, i ∉ keys m) → Qp (.tup [v, iv (errOf w)]) m') : ACall Try.prog 11 [un a, y] m Qp E := by
  have bad : ∀ {e : Nat}, errOf w = e → e ≠ 0 → resP a w = [] := fun h1 h2 => by unfold resP; rw [if_neg (by omega)]
  refine acall_fn mixed Try.func11 Try.call11 e11 r11 (Nat.le_of_ble_eq_true rfl) ?_
  rw [n_rSplit]
  refine rs_a hw hu hl (a := a) ?_ ?_ (fun ρ' e h1 h2 h4 h5 => ?_) (fun ρ' c0 c1 hs hz g0 g1 g6 => ?_)
  · simp only [wf_preprocess, ↓reduceIte, Nat.reduceEqDiff, reduceCtorEq, Nat.reduceAdd, Nat.reduceMul, Nat.reduceLeDiff, Nat.reduceLT, Nat.reduceSub, Int.reduceToNat, Int.reduceNeg, Int.reduceAdd, Int.reduceSub, Int.reduceMul, Int.reduceEq, Int.reduceLT, Int.reduceLE, Int.reduceNe, forall_const, forall_eq', forall_eq, List.forall_mem_cons, List.not_mem_nil]
  · simp only [wf_preprocess, ↓reduceIte, Nat.reduceEqDiff, reduceCtorEq, Nat.reduceAdd, Nat.reduceMul, Nat.reduceLeDiff, Nat.reduceLT, Nat.reduceSub, Int.reduceToNat, Int.reduceNeg, Int.reduceAdd, Int.reduceSub, Int.reduceMul, Int.reduceEq, Int.reduceLT, Int.reduceLE, Int.reduceNe, forall_const, forall_eq', forall_eq, List.forall_mem_cons, List.not_mem_nil]
  · have := k (.lst [] .nil) m (by rw [bad h1 h2]; exact BufI.nil) .rfl' (by simp [refs])
    rw [h1] at this
    simp only [h4, h5, wf_preprocess, ↓reduceIte, Nat.reduceEqDiff, reduceCtorEq, Nat.reduceAdd, Nat.reduceMul, Nat.reduceLeDiff, Nat.reduceLT, Nat.reduceSub, Int.reduceToNat, Int.reduceNeg, Int.reduceAdd, Int.reduceSub, Int.reduceMul, Int.reduceEq, Int.reduceLT, Int.reduceLE, Int.reduceNe, forall_const, forall_eq', forall_eq, List.forall_mem_cons, List.not_mem_nil]
    exact this
  refine rs_b hw hu ha c1 hs hz g0 g1 g6 fun ρ2 m2 vP vL hT h1 h8 h9 h10 => ?_
  have hq0 : (quo a w.sum w) ≠ [] := fun e => c0 (List.length_eq_zero_iff.1 (by have := congrArg List.length e; rwa [quo_len] at this))
  have hr0 : (rems a w.sum w) ≠ [] := fun e => c0 (List.length_eq_zero_iff.1 (by have := congrArg List.length e; rwa [rems_len] at this))
  have nil : ∀ {x : List Nat}, x ≠ [] → ul x ≠ [] := fun h e => h (List.map_eq_nil_iff.1 e)
  obtain ⟨p, cp, rp, hvP, hp1, hp2, hp3, hp4, hp5⟩ := hT.bp.ref (nil hq0)
  obtain ⟨l, cl, rl, hvL, hl1, hl2, hl3, hl4, hl5⟩ := hT.bl.ref (nil hr0)
  have hpl : p ≠ l := fun e => hT.sep l (by rw [hvL]; simp [refs]) (by rw [hvP]; simp [refs, e])
  rw [ul_len, quo_len] at hvP hp1 hp3
  rw [ul_len, rems_len] at hvL
  rw [hvP] at h8
  rw [hvL] at h9
  refine rs_c hpl hp5 hl5 (hw.ext hT.ext (by simp)).lenIs rems_len quo_len (by omega) (rest_nz hz) (fun i q hq => ?_) h1 h8 h9 h10 fun ρ3 M' hg hE h4 h5 => ?_
  · have hi := (List.getElem?_eq_some_iff.1 hq).1
    rw [quo_len] at hi
    have hx := List.getElem?_eq_getElem hi
    have := quo_rest (a := a) hz hx
    rw [quo_get hx] at hq
    have hq' := Option.some.inj hq
    omega
  · have h1 := err_0 c0 c1 hs hz
    have hP : resP a w = parts a w := by unfold resP; rw [if_pos h1]
    have hlen : (ul (parts a w)).length = w.length := by rw [ul_len, parts_len]
    have np : ∀ i ∈ refs (.mref p 0 w.length cp), i ∉ keys m := by rw [← hvP]; exact hT.np
    have nl : ∀ i ∈ refs (.mref l 0 w.length cl), i ∉ keys m := by rw [← hvL]; exact hT.nl
    have := k (.mref p 0 w.length cp) M' (by
      rw [hP]
      have := BufI.mk (k := .u64) (l := ul (parts a w)) (id := p) (cap := cp) (rest := rp) (m := M') (by omega) hp2 (by omega) hp4 hg
      rw [hlen] at this
      exact this) (hT.ext.fresh hE fun i hi => .inr (by
        rcases List.mem_cons.1 hi with rfl | hi
        · exact np _ (by simp [refs])
        · simp only [List.mem_singleton] at hi
          subst hi
          exact nl _ (by simp [refs]))) np
    rw [h1] at this
    simp only [h4, h5, wf_preprocess, ↓reduceIte, Nat.reduceEqDiff, reduceCtorEq, Nat.reduceAdd, Nat.reduceMul, Nat.reduceLeDiff, Nat.reduceLT, Nat.reduceSub, Int.reduceToNat, Int.reduceNeg, Int.reduceAdd, Int.reduceSub, Int.reduceMul, Int.reduceEq, Int.reduceLT, Int.reduceLE, Int.reduceNe, forall_const, forall_eq', forall_eq, List.forall_mem_cons, List.not_mem_nil]
    exact this
end
end Go.Proofs.Ytjegieklpeipaaa.Moi.Share
