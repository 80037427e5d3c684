/- What functions of this program do, on plain values: a part of the proofs of this seat's laws; each theorem bears its own conditions. -/
import Derived.Test.YtjegieklpeipaaaShareO
set_option linter.unusedVariables false
set_option linter.unusedSimpArgs false
set_option maxRecDepth 1000000
namespace Go.Proofs.Ytjegieklpeipaaa.Moi.Share
open Go Go.RowKit Go.Proofs.Ytjegieklpeipaaa.Moi Go.Proofs.Ytjegieklpeipaaa.Moi.Num
attribute [-wf_preprocess] ite_eq_dite forIn_eq_forIn'

/-! ### The parts of Split's small form, as it was printed -/
def d10a (T : NCode) : NCode :=
  .seq (.ops [
    ⟨(some 4), none, .op (.move (.k (.lst [] .nil))), []⟩,
    ⟨(some 5), none, .op (.move (.k (i64 0))), []⟩])
  (.seq (.block 0 (.seq (.ops [
    ⟨(some 19), none, .op (.move (.r 1)), []⟩,
    ⟨(some 20), none, .op (.lenL (.r 19)), []⟩,
    ⟨(some 21), none, .op (.bin .eql .other (.r 20) (.k (i64 0))), []⟩,
    ⟨(some 18), none, .op (.move (.r 21)), []⟩])
  (.cond (.r 18)
  (.seq (.ops [
    ⟨(some 4), none, .op (.move (.k (.lst [] .nil))), []⟩,
    ⟨(some 5), none, .op (.move (.k (i64 13))), []⟩])
  (.ret))
  (.seq (.ops [
    ⟨(some 23), none, .op (.move (.r 1)), []⟩,
    ⟨(some 24), none, .op (.lenL (.r 23)), []⟩,
    ⟨(some 25), none, .op (.bin .gtr .other (.r 24) (.k (i64 1024))), []⟩,
    ⟨(some 22), none, .op (.move (.r 25)), []⟩])
  (.cond (.r 22)
  (.seq (.ops [
    ⟨(some 4), none, .op (.move (.k (.lst [] .nil))), []⟩,
    ⟨(some 5), none, .op (.move (.k (i64 5))), []⟩])
  (.ret))
  (.skip))))))
  (.seq (.ops [
    ⟨(some 6), none, .op (.move (.k (.sc (.int .u64 0)))), []⟩])
  (.seq (.seq (.ops [
    ⟨(some 26), none, .op (.move (.r 1)), []⟩,
    ⟨(some 27), none, .op (.lenL (.r 26)), []⟩,
    ⟨(some 28), none, .op (.move (.k (i64 0))), []⟩])
  (.block 1 (.loop (.seq (.ops [
    ⟨(some 29), none, .op (.bin .lss .other (.r 28) (.r 27)), []⟩])
  (.seq (.cond (.r 29)
  (.skip)
  (.exit 1))
  (.seq (.block 2 (.seq (.ops [
    ⟨(some 30), none, .op (.idxAddr 1 (.r 26) (.r 28)), []⟩,
    ⟨(some 31), none, .op (.load none (.r 30)), []⟩,
    ⟨(some 8), none, .op (.move (.r 31)), []⟩])
  (.seq (.ops [
    ⟨(some 32), none, .op (.move (.r 6)), []⟩,
    ⟨(some 33), none, .op (.move (.r 8)), []⟩,
    ⟨(some 34), none, .op (.bin .add .other (.r 32) (.r 33)), []⟩,
    ⟨(some 6), none, .op (.move (.r 34)), []⟩])
  (.seq (.ops [
    ⟨(some 35), none, .op (.move (.r 6)), []⟩,
    ⟨(some 36), none, .op (.move (.r 8)), []⟩,
    ⟨(some 37), none, .op (.bin .lss .other (.r 35) (.r 36)), []⟩])
  (.cond (.r 37)
  (.seq (.ops [
    ⟨(some 4), none, .op (.move (.k (.lst [] .nil))), []⟩,
    ⟨(some 5), none, .op (.move (.k (i64 8))), []⟩])
  (.ret))
  (.skip))))))
  (.ops [
    ⟨(some 38), none, .op (.bin .add .other (.r 28) (.k (i64 1))), []⟩,
    ⟨(some 28), none, .op (.move (.r 38)), []⟩])))))))
  (T))))

def d10b (T : NCode) : NCode :=
  .seq (.ops [
    ⟨(some 39), none, .op (.move (.r 1)), []⟩,
    ⟨(some 40), none, .op (.lenL (.r 39)), []⟩,
    ⟨(some 41), none, .op (.mkSlice 1 8 [(.sc (.int .u64 0))] (.r 40) (.r 40)), []⟩,
    ⟨(some 9), none, .op (.move (.r 41)), []⟩])
  (.seq (.ops [
    ⟨(some 42), none, .op (.move (.r 1)), []⟩,
    ⟨(some 43), none, .op (.lenL (.r 42)), []⟩,
    ⟨(some 44), none, .op (.mkSlice 2 16 [(i64 0), (.sc (.int .u64 0))] (.r 43) (.r 43)), []⟩,
    ⟨(some 10), none, .op (.move (.r 44)), []⟩])
  (.seq (.ops [
    ⟨(some 45), none, .op (.move (.r 0)), []⟩,
    ⟨(some 11), none, .op (.move (.r 45)), []⟩])
  (.seq (.seq (.ops [
    ⟨(some 46), none, .op (.move (.r 1)), []⟩,
    ⟨(some 47), none, .op (.lenL (.r 46)), []⟩,
    ⟨(some 48), none, .op (.move (.k (i64 0))), []⟩])
  (.block 3 (.loop (.seq (.ops [
    ⟨(some 49), none, .op (.bin .lss .other (.r 48) (.r 47)), []⟩])
  (.seq (.cond (.r 49)
  (.skip)
  (.exit 3))
  (.seq (.block 4 (.seq (.ops [
    ⟨(some 50), none, .op (.move (.r 48)), []⟩,
    ⟨(some 51), none, .op (.idxAddr 1 (.r 46) (.r 48)), []⟩,
    ⟨(some 52), none, .op (.load none (.r 51)), []⟩,
    ⟨(some 12), none, .op (.move (.r 50)), []⟩,
    ⟨(some 13), none, .op (.move (.r 52)), []⟩])
  (.seq (.ops [
    ⟨(some 54), none, .op (.move (.r 0)), []⟩,
    ⟨(some 55), none, .op (.move (.r 13)), []⟩,
    ⟨(some 56), none, .op (.move (.r 6)), []⟩,
    ⟨(some 57), none, .call (.k (.clos 17 [])) [(.r 54), (.r 55), (.r 56)], []⟩,
    ⟨(some 53), none, .op (.move (.r 57)), []⟩,
    ⟨(some 58), none, .op (.extract 0 (.r 53)), []⟩,
    ⟨(some 59), none, .op (.extract 1 (.r 53)), []⟩,
    ⟨(some 60), none, .op (.extract 2 (.r 53)), []⟩,
    ⟨(some 14), none, .op (.move (.r 58)), []⟩,
    ⟨(some 15), none, .op (.move (.r 59)), []⟩,
    ⟨(some 16), none, .op (.move (.r 60)), []⟩])
  (.seq (.seq (.ops [
    ⟨(some 61), none, .op (.move (.r 16)), []⟩,
    ⟨(some 62), none, .op (.bin .neq .other (.r 61) (.k (i64 0))), []⟩])
  (.cond (.r 62)
  (.seq (.ops [
    ⟨(some 63), none, .op (.move (.r 16)), []⟩,
    ⟨(some 4), none, .op (.move (.k (.lst [] .nil))), []⟩,
    ⟨(some 5), none, .op (.move (.r 63)), []⟩])
  (.ret))
  (.skip)))
  (.seq (.ops [
    ⟨(some 64), none, .op (.move (.r 9)), []⟩,
    ⟨(some 65), none, .op (.move (.r 12)), []⟩,
    ⟨(some 66), none, .op (.move (.r 10)), []⟩,
    ⟨(some 67), none, .op (.move (.r 12)), []⟩,
    ⟨(some 68), none, .op (.move (.r 14)), []⟩,
    ⟨(some 69), none, .op (.move (.r 12)), []⟩,
    ⟨(some 70), none, .op (.move (.r 15)), []⟩,
    ⟨(some 71), none, .op (.build [(i64 0), (.sc (.int .u64 0))] [(0, 1, (.r 69)), (1, 1, (.r 70))]), []⟩,
    ⟨(some 72), none, .op (.idxAddr 1 (.r 64) (.r 65)), []⟩,
    ⟨none, none, .op (.store 1 (.r 72) (.r 68)), []⟩,
    ⟨(some 73), none, .op (.idxAddr 2 (.r 66) (.r 67)), []⟩,
    ⟨none, none, .op (.store 2 (.r 73) (.r 71)), []⟩])
  (.ops [
    ⟨(some 74), none, .op (.move (.r 11)), []⟩,
    ⟨(some 75), none, .op (.move (.r 14)), []⟩,
    ⟨(some 76), none, .op (.bin .sub .other (.r 74) (.r 75)), []⟩,
    ⟨(some 11), none, .op (.move (.r 76)), []⟩]))))))
  (.ops [
    ⟨(some 77), none, .op (.bin .add .other (.r 48) (.k (i64 1))), []⟩,
    ⟨(some 48), none, .op (.move (.r 77)), []⟩])))))))
  (T))))

def d10c : NCode :=
  .seq (.ops [
    ⟨(some 78), none, .op (.move (.r 10)), []⟩,
    ⟨(some 79), none, .call (.k (.clos 18 [])) [(.r 78), (.k (.clos 19 []))], []⟩])
  (.seq (.seq (.ops [
    ⟨(some 17), none, .op (.move (.k (i64 0))), []⟩])
  (.block 5 (.loop (.seq (.seq (.ops [
    ⟨(some 80), none, .op (.move (.r 11)), []⟩,
    ⟨(some 81), none, .op (.bin .gtr .other (.r 80) (.k (.sc (.int .u64 0)))), []⟩,
    ⟨(some 82), none, .op (.move (.r 81)), []⟩,
    ⟨(some 83), (some (82, true)), .op (.move (.r 17)), []⟩,
    ⟨(some 84), (some (82, true)), .op (.move (.r 10)), []⟩,
    ⟨(some 85), (some (82, true)), .op (.lenL (.r 84)), []⟩,
    ⟨(some 86), (some (82, true)), .op (.bin .lss .other (.r 83) (.r 85)), []⟩,
    ⟨(some 87), none, .op (.pick (.r 82) (.r 86) (.k (bo false))), []⟩])
  (.cond (.r 87)
  (.skip)
  (.exit 5)))
  (.seq (.block 6 (.seq (.ops [
    ⟨(some 90), none, .op (.move (.r 9)), []⟩,
    ⟨(some 91), none, .op (.move (.r 10)), []⟩,
    ⟨(some 92), none, .op (.move (.r 17)), []⟩,
    ⟨(some 93), none, .op (.idxAddr 2 (.r 91) (.r 92)), []⟩,
    ⟨(some 94), none, .op (.fieldAddr 0 (.r 93)), []⟩,
    ⟨(some 95), none, .op (.load none (.r 94)), []⟩,
    ⟨(some 96), none, .op (.idxAddr 1 (.r 90) (.r 95)), []⟩,
    ⟨(some 97), none, .op (.load none (.r 96)), []⟩,
    ⟨(some 98), none, .op (.bin .add .other (.r 97) (.k (.sc (.int .u64 1)))), []⟩,
    ⟨(some 99), none, .op (.idxAddr 1 (.r 90) (.r 95)), []⟩,
    ⟨none, none, .op (.store 1 (.r 99) (.r 98)), []⟩])
  (.ops [
    ⟨(some 100), none, .op (.move (.r 11)), []⟩,
    ⟨(some 101), none, .op (.bin .sub .other (.r 100) (.k (.sc (.int .u64 1)))), []⟩,
    ⟨(some 11), none, .op (.move (.r 101)), []⟩])))
  (.ops [
    ⟨(some 88), none, .op (.move (.r 17)), []⟩,
    ⟨(some 89), none, .op (.bin .add .other (.r 88) (.k (i64 1))), []⟩,
    ⟨(some 17), none, .op (.move (.r 89)), []⟩]))))))
  (.seq (.ops [
    ⟨(some 102), none, .op (.move (.r 9)), []⟩,
    ⟨(some 4), none, .op (.move (.r 102)), []⟩,
    ⟨(some 5), none, .op (.move (.k (i64 0))), []⟩])
  (.ret)))

theorem n_Split : n10 = d10a (d10b d10c) := by kernel_rfl
def isW (w : List Nat) : Prop := ∀ x ∈ w, x < 18446744073709551616
theorem ov_x {s x : Nat} (hs : s < 18446744073709551616) (hx : x < 18446744073709551616) : (U ((s : Int) + (x : Int)) < (x : Int)) = (18446744073709551616 ≤ s + x) := by apply propext; unfold U; omega
theorem ov_s {s x : Nat} (hs : s < 18446744073709551616) (hx : x < 18446744073709551616) : (U ((s : Int) + (x : Int)) < (s : Int)) = (18446744073709551616 ≤ s + x) := by apply propext; unfold U; omega
theorem err_13 {w : List Nat} (h : w = []) : errOf w = 13 := by unfold errOf; rw [if_pos h]
theorem err_5 {w : List Nat} (h : w ≠ []) (h1 : 1024 < w.length) : errOf w = 5 := by unfold errOf; rw [if_neg h, if_pos h1]
theorem err_8 {w : List Nat} (h : w ≠ []) (h1 : ¬ 1024 < w.length) (h2 : 18446744073709551616 ≤ w.sum) : errOf w = 8 := by unfold errOf; rw [if_neg h, if_neg h1, if_pos h2]
theorem err_9 {w : List Nat} (h : w ≠ []) (h1 : ¬ 1024 < w.length) (h2 : w.sum = 0) : errOf w = 9 := by unfold errOf; rw [if_neg h, if_neg h1, if_neg (by omega), if_pos h2]
theorem err_0 {w : List Nat} (h : w ≠ []) (h1 : ¬ 1024 < w.length) (h2 : w.sum < 18446744073709551616) (h3 : 0 < w.sum) : errOf w = 0 := by unfold errOf; rw [if_neg h, if_neg h1, if_neg (by omega), if_neg (by omega)]

section
variable {E : AV → Heap → Prop} {m : Heap} {ρ : Regs} {Kn Kr : Cont} {Kx : Nat → Cont} {T : NCode} {a : Nat} {y : AV} {w : List Nat}
/-- The sum. -/
theorem sp_a (hw : El y m w) (hu : isW w) (hl : w.length ≤ 17592186044416) (g0 : ρ 0 = un a) (g1 : ρ 1 = y)
    (kr : ∀ ρ' e, errOf w = e → e ≠ 0 → ρ' 4 = .lst [] .nil → ρ' 5 = iv e → Kr ρ' m)
    (k : ∀ ρ', w ≠ [] → ¬ 1024 < w.length → w.sum < 18446744073709551616 → ρ' 0 = un a → ρ' 1 = y → ρ' 6 = un w.sum → vc Try.prog E T Kn Kx Kr ρ' m) : vc Try.prog E (d10a T) Kn Kx Kr ρ m := by
  by_cases c0 : w = []
  · have c0' : (w.length : Int) = 0 := by rw [c0]; rfl
    simp only [d10a, g0, g1, onLst_len hw.lenIs, c0', wf_preprocess, ↓reduceIte, Nat.reduceEqDiff, reduceCtorEq, Nat.reduceAdd, Nat.reduceMul, Nat.reduceLeDiff, Nat.reduceLT, Nat.reduceSub, Int.reduceToNat, Int.reduceNeg, Int.reduceAdd, Int.reduceSub, Int.reduceMul, Int.reduceEq, Int.reduceLT, Int.reduceLE, Int.reduceNe, forall_const, forall_eq', forall_eq, List.forall_mem_cons, List.not_mem_nil]
    refine kr _ 13 (err_13 c0) (by decide) ?_ ?_ <;> (simp only [wf_preprocess, ↓reduceIte, Nat.reduceEqDiff, reduceCtorEq, Nat.reduceAdd, Nat.reduceMul, Nat.reduceLeDiff, Nat.reduceLT, Nat.reduceSub, Int.reduceToNat, Int.reduceNeg, Int.reduceAdd, Int.reduceSub, Int.reduceMul, Int.reduceEq, Int.reduceLT, Int.reduceLE, Int.reduceNe, forall_const, forall_eq', forall_eq, List.forall_mem_cons, List.not_mem_nil]; try rfl)
  have c0' : ¬ (w.length : Int) = 0 := by
    have : w.length ≠ 0 := fun e => c0 (List.length_eq_zero_iff.1 e)
    omega
  by_cases c1 : 1024 < w.length
  · have c1' : (1024 : Int) < (w.length : Int) := by omega
    simp only [d10a, g0, g1, onLst_len hw.lenIs, c0', c1', wf_preprocess, ↓reduceIte, Nat.reduceEqDiff, reduceCtorEq, Nat.reduceAdd, Nat.reduceMul, Nat.reduceLeDiff, Nat.reduceLT, Nat.reduceSub, Int.reduceToNat, Int.reduceNeg, Int.reduceAdd, Int.reduceSub, Int.reduceMul, Int.reduceEq, Int.reduceLT, Int.reduceLE, Int.reduceNe, forall_const, forall_eq', forall_eq, List.forall_mem_cons, List.not_mem_nil]
    refine kr _ 5 (err_5 c0 c1) (by decide) ?_ ?_ <;> (simp only [wf_preprocess, ↓reduceIte, Nat.reduceEqDiff, reduceCtorEq, Nat.reduceAdd, Nat.reduceMul, Nat.reduceLeDiff, Nat.reduceLT, Nat.reduceSub, Int.reduceToNat, Int.reduceNeg, Int.reduceAdd, Int.reduceSub, Int.reduceMul, Int.reduceEq, Int.reduceLT, Int.reduceLE, Int.reduceNe, forall_const, forall_eq', forall_eq, List.forall_mem_cons, List.not_mem_nil]; try rfl)
  have c1' : ¬ (1024 : Int) < (w.length : Int) := by omega
  simp only [d10a, g0, g1, onLst_len hw.lenIs, c0', c1', wf_preprocess, ↓reduceIte, Nat.reduceEqDiff, reduceCtorEq, Nat.reduceAdd, Nat.reduceMul, Nat.reduceLeDiff, Nat.reduceLT, Nat.reduceSub, Int.reduceToNat, Int.reduceNeg, Int.reduceAdd, Int.reduceSub, Int.reduceMul, Int.reduceEq, Int.reduceLT, Int.reduceLE, Int.reduceNe, forall_const, forall_eq', forall_eq, List.forall_mem_cons, List.not_mem_nil]
  refine loop_i (fun kk ρ m' => ∃ (i : Nat), kk = w.length - i ∧ i ≤ w.length ∧ ρ 0 = un a ∧ ρ 1 = y ∧ ρ 26 = y ∧ ρ 27 = iv w.length ∧ ρ 28 = iv i ∧ (w.take i).sum < 18446744073709551616 ∧ ρ 6 = un (w.take i).sum ∧ m' = m) w.length ⟨0, rfl, by omega, ?_⟩ ?_
  · simp only [g0, g1, wf_preprocess, ↓reduceIte, Nat.reduceEqDiff, reduceCtorEq, Nat.reduceAdd, Nat.reduceMul, Nat.reduceLeDiff, Nat.reduceLT, Nat.reduceSub, Int.reduceToNat, Int.reduceNeg, Int.reduceAdd, Int.reduceSub, Int.reduceMul, Int.reduceEq, Int.reduceLT, Int.reduceLE, Int.reduceNe, forall_const, forall_eq', forall_eq, List.forall_mem_cons, List.not_mem_nil]
    simp
  rintro kk ρ m' ⟨i, rfl, hi, h0, h1, h26, h27, h28, hs, h6, rfl⟩
  by_cases hlt : (i : Int) < (w.length : Int)
  · obtain ⟨x, hx⟩ : ∃ x, w[i]? = some x := ⟨_, List.getElem?_eq_getElem (by omega)⟩
    have hxu := hu x (List.mem_of_getElem? hx)
    have w1 : IntKind.i64.wrap ((i : Int) + 1) = ((i + 1 : Nat) : Int) := wrap64 (by omega) (by omega)
    have e2 := sum_take_get hx
    simp only [h0, h1, h26, h27, h28, h6, hlt, Int.natCast_nonneg, wf_preprocess, ↓reduceIte, Nat.reduceEqDiff, reduceCtorEq, Nat.reduceAdd, Nat.reduceMul, Nat.reduceLeDiff, Nat.reduceLT, Nat.reduceSub, Int.reduceToNat, Int.reduceNeg, Int.reduceAdd, Int.reduceSub, Int.reduceMul, Int.reduceEq, Int.reduceLT, Int.reduceLE, Int.reduceNe, forall_const, forall_eq', forall_eq, List.forall_mem_cons, List.not_mem_nil]
    refine El.idx (n := (i : Int)) hw (by omega) (by simpa using hx) fun a1 r1 ha1 => ?_
    by_cases c2 : 18446744073709551616 ≤ (w.take i).sum + x
    · simp only [h0, h1, h26, h27, h28, h6, ha1, wu, ov_x hs hxu, c2, wf_preprocess, ↓reduceIte, Nat.reduceEqDiff, reduceCtorEq, Nat.reduceAdd, Nat.reduceMul, Nat.reduceLeDiff, Nat.reduceLT, Nat.reduceSub, Int.reduceToNat, Int.reduceNeg, Int.reduceAdd, Int.reduceSub, Int.reduceMul, Int.reduceEq, Int.reduceLT, Int.reduceLE, Int.reduceNe, forall_const, forall_eq', forall_eq, List.forall_mem_cons, List.not_mem_nil]
      refine kr _ 8 (err_8 c0 c1 ?_) (by decide) ?_ ?_
      · have := sum_take_le (l := w) (i := i + 1)
        omega
      · simp only [wf_preprocess, ↓reduceIte, Nat.reduceEqDiff, reduceCtorEq, Nat.reduceAdd, Nat.reduceMul, Nat.reduceLeDiff, Nat.reduceLT, Nat.reduceSub, Int.reduceToNat, Int.reduceNeg, Int.reduceAdd, Int.reduceSub, Int.reduceMul, Int.reduceEq, Int.reduceLT, Int.reduceLE, Int.reduceNe, forall_const, forall_eq', forall_eq, List.forall_mem_cons, List.not_mem_nil]
      · simp only [wf_preprocess, ↓reduceIte, Nat.reduceEqDiff, reduceCtorEq, Nat.reduceAdd, Nat.reduceMul, Nat.reduceLeDiff, Nat.reduceLT, Nat.reduceSub, Int.reduceToNat, Int.reduceNeg, Int.reduceAdd, Int.reduceSub, Int.reduceMul, Int.reduceEq, Int.reduceLT, Int.reduceLE, Int.reduceNe, forall_const, forall_eq', forall_eq, List.forall_mem_cons, List.not_mem_nil]; rfl
    · have e3 : U (((w.take i).sum : Int) + (x : Int)) = (((w.take (i + 1)).sum : Nat) : Int) := U_nat (by omega) (by omega)
      have e4 := ov_x hs hxu
      rw [e3] at e4
      simp only [h0, h1, h26, h27, h28, h6, ha1, wu, e3, e4, c2, w1, wf_preprocess, ↓reduceIte, Nat.reduceEqDiff, reduceCtorEq, Nat.reduceAdd, Nat.reduceMul, Nat.reduceLeDiff, Nat.reduceLT, Nat.reduceSub, Int.reduceToNat, Int.reduceNeg, Int.reduceAdd, Int.reduceSub, Int.reduceMul, Int.reduceEq, Int.reduceLT, Int.reduceLE, Int.reduceNe, forall_const, forall_eq', forall_eq, List.forall_mem_cons, List.not_mem_nil]
      exact ⟨w.length - (i + 1), by omega, i + 1, rfl, by omega, rfl, by omega, rfl⟩
  · have e : w.take i = w := List.take_of_length_le (by omega)
    rw [e] at h6 hs
    simp only [h0, h1, h26, h27, h28, h6, hlt, wf_preprocess, ↓reduceIte, Nat.reduceEqDiff, reduceCtorEq, Nat.reduceAdd, Nat.reduceMul, Nat.reduceLeDiff, Nat.reduceLT, Nat.reduceSub, Int.reduceToNat, Int.reduceNeg, Int.reduceAdd, Int.reduceSub, Int.reduceMul, Int.reduceEq, Int.reduceLT, Int.reduceLE, Int.reduceNe, forall_const, forall_eq', forall_eq, List.forall_mem_cons, List.not_mem_nil]
    refine k _ c0 c1 hs ?_ ?_ ?_ <;> simp only [h0, h1, h6, wf_preprocess, ↓reduceIte, Nat.reduceEqDiff, reduceCtorEq, Nat.reduceAdd, Nat.reduceMul, Nat.reduceLeDiff, Nat.reduceLT, Nat.reduceSub, Int.reduceToNat, Int.reduceNeg, Int.reduceAdd, Int.reduceSub, Int.reduceMul, Int.reduceEq, Int.reduceLT, Int.reduceLE, Int.reduceNe, forall_const, forall_eq', forall_eq, List.forall_mem_cons, List.not_mem_nil]

/-! ### Quotas -/
theorem mul_hi {a x S : Nat} (ha : a < 18446744073709551616) (hx : x ≤ S) (hS : 0 < S) : ¬ S ≤ a * x / 18446744073709551616 := by
  intro h
  have h1 := (Nat.le_div_iff_mul_le (by decide)).1 h
  have h2 : a * x ≤ a * S := Nat.mul_le_mul_left a hx
  have h3 : a * S < 18446744073709551616 * S := Nat.mul_lt_mul_of_pos_right ha hS
  rw [Nat.mul_comm S] at h1
  omega
theorem mulDiv_z {a x : Nat} : mulDivR a x 0 = .tup [un 0, un 0, iv 9] := by unfold mulDivR; rw [if_pos rfl]
theorem mulDiv_v {a x S : Nat} (ha : a < 18446744073709551616) (hx : x ≤ S) (hS : 0 < S) : mulDivR a x S = .tup [un (a * x / S), un (a * x % S), iv 0] := by unfold mulDivR; rw [if_neg (by omega), if_neg (mul_hi ha hx hS)]
theorem take_z {α : Type} {i : Nat} {l r : List α} {x y : α} (h : l[i]? = some x) : (l.take i ++ y :: r).set i x = l.take (i + 1) ++ r := by
  have hi := (List.getElem?_eq_some_iff.1 h).1
  have hl : (l.take i).length = i := by rw [List.length_take]; omega
  rw [List.set_append_right _ _ (by omega), hl, Nat.sub_self, List.set_cons_zero, List.take_add_one, h]
  simp
theorem cls_take {R : List Nat} {i : Nat} : cls (R.take i) = (cls R).take i := by
  apply List.ext_getElem?
  intro j
  simp only [cls, List.getElem?_mapIdx, List.getElem?_take]
  split <;> simp
theorem rep_pc (n : Nat) : (List.replicate n [iv 0, u64v 0]).flatten = pc (List.replicate n (0, 0)) := by
  induction n with
  | zero => rfl
  | succ n ih => rw [List.replicate_succ, List.flatten_cons, ih]; rfl
theorem rep_uk (n : Nat) : (List.replicate n [u64v 0]).flatten = uk (List.replicate n 0) := by
  induction n with
  | zero => rfl
  | succ n ih => rw [List.replicate_succ, List.flatten_cons, ih]; rfl
theorem quo_take {i S : Nat} : quo a S (w.take i) = (quo a S w).take i := List.map_take
def hp2 (c p : Nat) (C : List Cl) (P : List Nat) (m : Heap) : Heap := (c, .cells (pc C)) :: (p, .cells (uk P)) :: m
theorem hp2_ext {c p : Nat} {C : List Cl} {P : List Nat} (hp : p ∉ keys m) (hc : c ∉ keys m) : Ext [] m (hp2 c p C P m) := fun i ob h _ => by
  unfold hp2
  rw [get_old (new_ne h hc), get_old (new_ne h hp)]
  exact h
theorem rest_step {i x s : Nat} (e : s + x = i) : U (U ((a : Int) - (s : Int)) - (x : Int)) = U ((a : Int) - (i : Int)) := by rw [U_subr]; congr 1; omega
theorem rest_end {s : Nat} (h : s ≤ a) (ha : a < 18446744073709551616) : U ((a : Int) - (s : Int)) = ((a - s : Nat) : Int) := by unfold U; omega

theorem sp_b (hw : El y m w) (hu : isW w) (ha : a < 18446744073709551616) (hn : w ≠ []) (hl : ¬ 1024 < w.length) (hs : w.sum < 18446744073709551616) (g0 : ρ 0 = un a) (g1 : ρ 1 = y) (g6 : ρ 6 = un w.sum)
    (kr : ∀ ρ' m', w.sum = 0 → Ext [] m m' → ρ' 4 = .lst [] .nil → ρ' 5 = iv 9 → Kr ρ' m')
    (k : ∀ ρ' c p, 0 < w.sum → p ∉ keys m → c ∉ keys m → c ≠ p → ρ' 9 = .mref p 0 w.length w.length → ρ' 10 = .mref c 0 w.length w.length → ρ' 11 = un (a - (quo a w.sum w).sum) → vc Try.prog E T Kn Kx Kr ρ' (hp2 c p (cls (rems a w.sum w)) (quo a w.sum w) m)) : vc Try.prog E (d10b T) Kn Kx Kr ρ m := by
  have z0 : (w.length : Int) * ((8 : Nat) : Int) ≤ 140737488355328 := by omega
  have z1 : (w.length : Int) * ((16 : Nat) : Int) ≤ 140737488355328 := by omega
  have z2 : (w.length : Int) ≤ (maxLen : Int) := by rw [maxLen_e]; omega
  simp only [d10b, g0, g1, onLst_len hw.lenIs, z0, z1, z2, Int.natCast_nonneg, Int.le_refl, wf_preprocess, ↓reduceIte, Nat.reduceEqDiff, reduceCtorEq, Nat.reduceAdd, Nat.reduceMul, Nat.reduceLeDiff, Nat.reduceLT, Nat.reduceSub, Int.reduceToNat, Int.reduceNeg, Int.reduceAdd, Int.reduceSub, Int.reduceMul, Int.reduceEq, Int.reduceLT, Int.reduceLE, Int.reduceNe, forall_const, forall_eq', forall_eq, List.forall_mem_cons, List.not_mem_nil]
  refine fresh_i fun p hp => ?_
  simp only [g0, g1, onLst_len hw.lenIs, z0, z1, z2, Int.natCast_nonneg, Int.le_refl, wf_preprocess, ↓reduceIte, Nat.reduceEqDiff, reduceCtorEq, Nat.reduceAdd, Nat.reduceMul, Nat.reduceLeDiff, Nat.reduceLT, Nat.reduceSub, Int.reduceToNat, Int.reduceNeg, Int.reduceAdd, Int.reduceSub, Int.reduceMul, Int.reduceEq, Int.reduceLT, Int.reduceLE, Int.reduceNe, forall_const, forall_eq', forall_eq, List.forall_mem_cons, List.not_mem_nil]
  refine fresh_i fun c hc => ?_
  have hcp : ¬ c = p := fun e => hc (by simp [keys, e])
  have hpc : ¬ p = c := fun e => hcp e.symm
  have hcm : c ∉ keys m := fun e => hc (by simp only [keys_e, List.mem_cons]; exact .inr e)
  simp only [g0, g1, onLst_len hw.lenIs, wf_preprocess, ↓reduceIte, Nat.reduceEqDiff, reduceCtorEq, Nat.reduceAdd, Nat.reduceMul, Nat.reduceLeDiff, Nat.reduceLT, Nat.reduceSub, Int.reduceToNat, Int.reduceNeg, Int.reduceAdd, Int.reduceSub, Int.reduceMul, Int.reduceEq, Int.reduceLT, Int.reduceLE, Int.reduceNe, forall_const, forall_eq', forall_eq, List.forall_mem_cons, List.not_mem_nil]
  generalize hn' : w.length = n at *
  refine loop_i (fun kk ρ m' => ∃ (i : Nat), kk = n - i ∧ i ≤ n ∧ ρ 0 = un a ∧ ρ 1 = y ∧ ρ 6 = un w.sum ∧ ρ 9 = .mref p 0 n n ∧ ρ 10 = .mref c 0 n n ∧ ρ 11 = u64v (U ((a : Int) - ((quo a w.sum (w.take i)).sum : Int))) ∧ ρ 46 = y ∧ ρ 47 = iv n ∧ ρ 48 = iv i ∧ (0 < w.sum ∨ i = 0) ∧
    m' = hp2 c p ((cls (rems a w.sum w)).take i ++ List.replicate (n - i) (0, 0)) ((quo a w.sum w).take i ++ List.replicate (n - i) 0) m) n ⟨0, rfl, by omega, ?_⟩ ?_
  · simp only [g0, g1, g6, Int.toNat_natCast, wf_preprocess, ↓reduceIte, Nat.reduceEqDiff, reduceCtorEq, Nat.reduceAdd, Nat.reduceMul, Nat.reduceLeDiff, Nat.reduceLT, Nat.reduceSub, Int.reduceToNat, Int.reduceNeg, Int.reduceAdd, Int.reduceSub, Int.reduceMul, Int.reduceEq, Int.reduceLT, Int.reduceLE, Int.reduceNe, forall_const, forall_eq', forall_eq, List.forall_mem_cons, List.not_mem_nil]
    refine ⟨?_, .inr trivial, ?_⟩
    · show un a = u64v (U ((a : Int) - ((0 : Nat) : Int)))
      rw [rest_end (by omega) ha]; rfl
    · unfold hp2
      rw [← rep_pc, ← rep_uk]
      try rfl
  rintro kk ρ m' ⟨i, rfl, hi, h0, h1, h6, h9, h10, h11, h46, h47, h48, hS, rfl⟩
  have hE : ∀ C P, Ext [] m (hp2 c p C P m) := fun C P => hp2_ext hp hcm
  have hwE : ∀ C P, El y (hp2 c p C P m) w := fun C P => hw.ext (hE C P) (by simp)
  have lR : (cls (rems a w.sum w)).length = n := by rw [cls_len, rems_len]; exact hn'
  have lQ : (quo a w.sum w).length = n := by rw [quo_len]; exact hn'
  by_cases hlt : (i : Int) < (n : Int)
  · obtain ⟨x, hx⟩ : ∃ x, w[i]? = some x := ⟨_, List.getElem?_eq_getElem (by omega)⟩
    have hxu := hu x (List.mem_of_getElem? hx)
    have hxs := le_sum hx
    have w1 : IntKind.i64.wrap ((i : Int) + 1) = ((i + 1 : Nat) : Int) := wrap64 (by omega) (by omega)
    have rN : List.replicate (n - i) ((0 : Int), (0 : Int)) = (0, 0) :: List.replicate (n - (i + 1)) (0, 0) := by rw [show n - i = (n - (i + 1)) + 1 by omega]; rfl
    have rQ : List.replicate (n - i) (0 : Nat) = 0 :: List.replicate (n - (i + 1)) 0 := by rw [show n - i = (n - (i + 1)) + 1 by omega]; rfl
    have gR := cls_get (rems_get (a := a) (S := w.sum) hx)
    have gQ := quo_get (a := a) (S := w.sum) hx
    have sR := take_z (r := List.replicate (n - (i + 1)) ((0 : Int), (0 : Int))) (y := (0, 0)) gR
    have sQ := take_z (r := List.replicate (n - (i + 1)) (0 : Nat)) (y := 0) gQ
    have eS := rest_step (a := a) (show (quo a w.sum (w.take i)).sum + a * x / w.sum = (quo a w.sum (w.take (i + 1))).sum by rw [quo_take, quo_take, sum_take_get gQ])
    rw [rN, rQ]
    generalize hC : (cls (rems a w.sum w)).take i ++ (0, 0) :: List.replicate (n - (i + 1)) (0, 0) = C at *
    generalize hP : (quo a w.sum w).take i ++ 0 :: List.replicate (n - (i + 1)) 0 = P at *
    simp only [h0, h1, h6, h9, h10, h11, h46, h47, h48, hlt, Int.natCast_nonneg, wf_preprocess, ↓reduceIte, Nat.reduceEqDiff, reduceCtorEq, Nat.reduceAdd, Nat.reduceMul, Nat.reduceLeDiff, Nat.reduceLT, Nat.reduceSub, Int.reduceToNat, Int.reduceNeg, Int.reduceAdd, Int.reduceSub, Int.reduceMul, Int.reduceEq, Int.reduceLT, Int.reduceLE, Int.reduceNe, forall_const, forall_eq', forall_eq, List.forall_mem_cons, List.not_mem_nil]
    refine El.idx (n := (i : Int)) (hwE C P) (by omega) (by simpa using hx) fun a1 r1 ha1 => ?_
    simp only [h0, h1, h6, h9, h10, h11, h46, h47, h48, ha1, hlt, Int.natCast_nonneg, wf_preprocess, ↓reduceIte, Nat.reduceEqDiff, reduceCtorEq, Nat.reduceAdd, Nat.reduceMul, Nat.reduceLeDiff, Nat.reduceLT, Nat.reduceSub, Int.reduceToNat, Int.reduceNeg, Int.reduceAdd, Int.reduceSub, Int.reduceMul, Int.reduceEq, Int.reduceLT, Int.reduceLE, Int.reduceNe, forall_const, forall_eq', forall_eq, List.forall_mem_cons, List.not_mem_nil]
    refine call_i (MulDiv_s ha hxu hs ?_)
    by_cases hz : w.sum = 0
    · rw [hz, mulDiv_z]
      simp only [h0, h1, h6, h9, h10, h11, h46, h47, h48, ha1, hlt, Int.natCast_nonneg, wf_preprocess, ↓reduceIte, Nat.reduceEqDiff, reduceCtorEq, Nat.reduceAdd, Nat.reduceMul, Nat.reduceLeDiff, Nat.reduceLT, Nat.reduceSub, Int.reduceToNat, Int.reduceNeg, Int.reduceAdd, Int.reduceSub, Int.reduceMul, Int.reduceEq, Int.reduceLT, Int.reduceLE, Int.reduceNe, forall_const, forall_eq', forall_eq, List.forall_mem_cons, List.not_mem_nil]
      refine kr _ _ hz (hE _ _) ?_ ?_ <;> simp only [wf_preprocess, ↓reduceIte, Nat.reduceEqDiff, reduceCtorEq, Nat.reduceAdd, Nat.reduceMul, Nat.reduceLeDiff, Nat.reduceLT, Nat.reduceSub, Int.reduceToNat, Int.reduceNeg, Int.reduceAdd, Int.reduceSub, Int.reduceMul, Int.reduceEq, Int.reduceLT, Int.reduceLE, Int.reduceNe, forall_const, forall_eq', forall_eq, List.forall_mem_cons, List.not_mem_nil]
    have hz' : 0 < w.sum := by omega
    rw [mulDiv_v ha hxs hz']
    have lC : C.length = n := by rw [← hC]; simp; omega
    have lP : P.length = n := by rw [← hP]; simp; omega
    have f3 : (i * 2 + 2 ≤ (pc C).length) = True := by rw [pc_len]; apply eq_true; omega
    have f1 : (i + 1 ≤ P.length) = True := by apply eq_true; omega
    have f2 : splice i [un (a * x / w.sum)] (uk P) = uk (P.set i (a * x / w.sum)) := by rw [splice_one _ _ _ (by rw [uk_len]; omega), uk_set]
    simp only [h0, h1, h6, h9, h10, h11, h46, h47, h48, ha1, hlt, wu, Int.natCast_nonneg, hp2, hcp, hpc, f1, f2, f3, uk_len, ul_len, eS, w1, pc_set, sQ, sR, wf_preprocess, ↓reduceIte, Nat.reduceEqDiff, reduceCtorEq, Nat.reduceAdd, Nat.reduceMul, Nat.reduceLeDiff, Nat.reduceLT, Nat.reduceSub, Int.reduceToNat, Int.reduceNeg, Int.reduceAdd, Int.reduceSub, Int.reduceMul, Int.reduceEq, Int.reduceLT, Int.reduceLE, Int.reduceNe, forall_const, forall_eq', forall_eq, List.forall_mem_cons, List.not_mem_nil]
    exact ⟨n - (i + 1), by omega, i + 1, rfl, by omega, rfl, rfl, .inl hz', by rw [← sR, ← pc_set]⟩
  · obtain rfl : i = n := by omega
    have hz' : 0 < w.sum := by
      rcases hS with h | h
      · exact h
      · exact absurd (List.length_eq_zero_iff.1 (by rw [hn', h])) hn
    simp only [h0, h1, h6, h9, h10, h11, h46, h47, h48, hlt, wf_preprocess, ↓reduceIte, Nat.reduceEqDiff, reduceCtorEq, Nat.reduceAdd, Nat.reduceMul, Nat.reduceLeDiff, Nat.reduceLT, Nat.reduceSub, Int.reduceToNat, Int.reduceNeg, Int.reduceAdd, Int.reduceSub, Int.reduceMul, Int.reduceEq, Int.reduceLT, Int.reduceLE, Int.reduceNe, forall_const, forall_eq', forall_eq, List.forall_mem_cons, List.not_mem_nil]
    have e1 : (cls (rems a w.sum w)).take i ++ List.replicate (i - i) (0, 0) = cls (rems a w.sum w) := by rw [List.take_of_length_le (by omega), Nat.sub_self]; simp
    have e2 : (quo a w.sum w).take i ++ List.replicate (i - i) 0 = quo a w.sum w := by rw [List.take_of_length_le (by omega), Nat.sub_self]; simp
    have e3 : w.take i = w := List.take_of_length_le (by omega)
    simp only [Nat.sub_self, List.replicate_zero, List.append_nil] at e1 e2
    rw [e1, e2]
    rw [e3, rest_end (quo_le hz') ha] at h11
    refine k _ c p hz' hp hcm hcp ?_ ?_ ?_ <;> simp only [h9, h10, h11, wf_preprocess, ↓reduceIte, Nat.reduceEqDiff, reduceCtorEq, Nat.reduceAdd, Nat.reduceMul, Nat.reduceLeDiff, Nat.reduceLT, Nat.reduceSub, Int.reduceToNat, Int.reduceNeg, Int.reduceAdd, Int.reduceSub, Int.reduceMul, Int.reduceEq, Int.reduceLT, Int.reduceLE, Int.reduceNe, forall_const, forall_eq', forall_eq, List.forall_mem_cons, List.not_mem_nil]
end
end Go.Proofs.Ytjegieklpeipaaa.Moi.Share

namespace Go.Proofs.Ytjegieklpeipaaa.Moi.Share
open Go Go.RowKit Go.Proofs.Ytjegieklpeipaaa.Moi Go.Proofs.Ytjegieklpeipaaa.Moi.Num

section
variable {E Qp : AV → Heap → Prop} {m : Heap} {ρ : Regs} {Kn Kr : Cont} {Kx : Nat → Cont} {T : NCode} {a n c p rest : Nat} {y : AV} {w R Q : List Nat}
theorem in_pc {p : Cl} {l : List Cl} {i : Nat} (h : l[i]? = some p) : (2 ≤ (List.drop (i * 2) (pc l)).length) = True ∧ (List.drop (i * 2) (pc l))[0]? = some (iv p.1) := by
  refine ⟨(pc_facts h).1, ?_⟩
  rw [pc_drop h]; rfl

/-- One more for the first ones. -/
theorem sp_c (hcp : c ≠ p) (hR : R.length = n) (hQ : Q.length = n) (hn : n ≤ 1024) (hr : rest ≤ n) (hu : ∀ (i q : Nat), Q[i]? = some q → q + rest < 18446744073709551616)
    (g9 : ρ 9 = .mref p 0 n n) (g10 : ρ 10 = .mref c 0 n n) (g11 : ρ 11 = un rest)
    (kr : ∀ ρ' S, ρ' 4 = .mref p 0 n n → ρ' 5 = iv 0 → Kr ρ' (hp2 c p S (bump R Q rest) m)) : vc Try.prog E d10c Kn Kx Kr ρ (hp2 c p (cls R) Q m) := by
  have hpc : ¬ p = c := fun e => hcp e.symm
  have hat : At c (cls R) (hp2 c p (cls R) Q m) := by simp only [At, hp2, get_e, if_true]
  simp only [d10c, g9, g10, g11, wf_preprocess, ↓reduceIte, Nat.reduceEqDiff, reduceCtorEq, Nat.reduceAdd, Nat.reduceMul, Nat.reduceLeDiff, Nat.reduceLT, Nat.reduceSub, Int.reduceToNat, Int.reduceNeg, Int.reduceAdd, Int.reduceSub, Int.reduceMul, Int.reduceEq, Int.reduceLT, Int.reduceLE, Int.reduceNe, forall_const, forall_eq', forall_eq, List.forall_mem_cons, List.not_mem_nil]
  refine call_i (sort_s hat cls_up (by rw [cls_len]; exact hR) (by omega) fun S hp hs => ?_)
  have ew : wr c S (hp2 c p (cls R) Q m) = hp2 c p S Q m := by simp only [wr, hp2, put_e, if_true]
  rw [ew]
  simp only [g9, g10, g11, wf_preprocess, ↓reduceIte, Nat.reduceEqDiff, reduceCtorEq, Nat.reduceAdd, Nat.reduceMul, Nat.reduceLeDiff, Nat.reduceLT, Nat.reduceSub, Int.reduceToNat, Int.reduceNeg, Int.reduceAdd, Int.reduceSub, Int.reduceMul, Int.reduceEq, Int.reduceLT, Int.reduceLE, Int.reduceNe, forall_const, forall_eq', forall_eq, List.forall_mem_cons, List.not_mem_nil]
  refine loop_i (fun kk ρ m' => ∃ (k : Nat), kk = rest - k ∧ k ≤ rest ∧ ρ 9 = .mref p 0 n n ∧ ρ 10 = .mref c 0 n n ∧ ρ 11 = un (rest - k : Nat) ∧ ρ 17 = iv k ∧ m' = hp2 c p S (bump R Q k) m) rest ⟨0, rfl, by omega, ?_⟩ ?_
  · rw [bump_zero]
    simp only [g9, g10, g11, Nat.sub_zero, wf_preprocess, ↓reduceIte, Nat.reduceEqDiff, reduceCtorEq, Nat.reduceAdd, Nat.reduceMul, Nat.reduceLeDiff, Nat.reduceLT, Nat.reduceSub, Int.reduceToNat, Int.reduceNeg, Int.reduceAdd, Int.reduceSub, Int.reduceMul, Int.reduceEq, Int.reduceLT, Int.reduceLE, Int.reduceNe, forall_const, forall_eq', forall_eq, List.forall_mem_cons, List.not_mem_nil]
  rintro kk ρ m' ⟨k, rfl, hk, h9, h10, h11, h17, rfl⟩
  have hSl : S.length = n := by rw [hp.length_eq, cls_len]; exact hR
  by_cases hlt : k < rest
  · have c1 : (0 : Int) < ((rest - k : Nat) : Int) := by omega
    have c2 : (k : Int) < (n : Int) := by omega
    obtain ⟨q0, hq0⟩ : ∃ x, S[k]? = some x := ⟨_, List.getElem?_eq_getElem (by omega)⟩
    obtain ⟨i, hi⟩ := List.getElem?_of_mem (hp.mem_iff.1 (List.mem_of_getElem? hq0))
    obtain ⟨r, hr1, rfl⟩ := cls_get' hi
    have hi' := (List.getElem?_eq_some_iff.1 hr1).1
    have hri := (rk_of hp hs hq0).1
    obtain ⟨q, hq⟩ : ∃ x, Q[i]? = some x := ⟨_, List.getElem?_eq_getElem (by omega)⟩
    have hqu := hu i q hq
    obtain ⟨b1, b2⟩ := bump_step hq hri (by omega)
    have c3 : (i : Int) < (n : Int) := by omega
    have w1 : IntKind.i64.wrap ((k : Int) + 1) = ((k + 1 : Nat) : Int) := wrap64 (by omega) (by omega)
    have e1 : U ((q : Int) + 1) = ((q + 1 : Nat) : Int) := U_nat (by omega) (by omega)
    have e2 : U (((rest - k : Nat) : Int) - 1) = ((rest - (k + 1) : Nat) : Int) := U_nat (by omega) (by omega)
    have lB : (bump R Q k).length = n := by rw [bump_len]; exact hQ
    have f1 : (i + 1 ≤ (bump R Q k).length) = True := by apply eq_true; omega
    have f2 : splice i [un (q + 1 : Nat)] (uk (bump R Q k)) = uk (bump R Q (k + 1)) := by rw [splice_one _ _ _ (by rw [uk_len]; omega), uk_set, b2]
    have f3 : (uk (bump R Q k)).drop i = un q :: (uk (bump R Q k)).drop (i + 1) := by
      have := kl_drop (k := .u64) (r := []) (ul_get b1)
      simpa using this
    obtain ⟨f4, f5⟩ := in_pc hq0
    simp only [h9, h10, h11, h17, c1, c2, c3, hp2, hcp, hpc, wu, w1, e1, e2, f1, f2, f3, f4, f5, uk_len, ul_len, Int.natCast_nonneg, wf_preprocess, ↓reduceIte, Nat.reduceEqDiff, reduceCtorEq, Nat.reduceAdd, Nat.reduceMul, Nat.reduceLeDiff, Nat.reduceLT, Nat.reduceSub, Int.reduceToNat, Int.reduceNeg, Int.reduceAdd, Int.reduceSub, Int.reduceMul, Int.reduceEq, Int.reduceLT, Int.reduceLE, Int.reduceNe, forall_const, forall_eq', forall_eq, List.forall_mem_cons, List.not_mem_nil]
    exact ⟨rest - (k + 1), by omega, k + 1, rfl, by omega, rfl, rfl, rfl⟩
  · obtain rfl : k = rest := by omega
    have c1 : ¬ (0 : Int) < ((k - k : Nat) : Int) := by omega
    simp only [h9, h10, h11, h17, c1, wf_preprocess, ↓reduceIte, Nat.reduceEqDiff, reduceCtorEq, Nat.reduceAdd, Nat.reduceMul, Nat.reduceLeDiff, Nat.reduceLT, Nat.reduceSub, Int.reduceToNat, Int.reduceNeg, Int.reduceAdd, Int.reduceSub, Int.reduceMul, Int.reduceEq, Int.reduceLT, Int.reduceLE, Int.reduceNe, forall_const, forall_eq', forall_eq, List.forall_mem_cons, List.not_mem_nil]
    refine kr _ S ?_ ?_ <;> simp only [h9, wf_preprocess, ↓reduceIte, Nat.reduceEqDiff, reduceCtorEq, Nat.reduceAdd, Nat.reduceMul, Nat.reduceLeDiff, Nat.reduceLT, Nat.reduceSub, Int.reduceToNat, Int.reduceNeg, Int.reduceAdd, Int.reduceSub, Int.reduceMul, Int.reduceEq, Int.reduceLT, Int.reduceLE, Int.reduceNe, forall_const, forall_eq', forall_eq, List.forall_mem_cons, List.not_mem_nil]

theorem Split_s (hw : El y m w) (hu : isW w) (ha : a < 18446744073709551616) (hl : w.length ≤ 17592186044416)
    (k : ∀ v m', BufI .u64 (ul (resP a w)) v m' → Ext [] m m' → (∀ i ∈ refs v, i ∉ keys m) → Qp (.tup [v, iv (errOf w)]) m') : ACall Try.prog 10 [un a, y] m Qp E := by
  have bad : ∀ {e : Nat}, errOf w = e → e ≠ 0 → resP a w = [] := fun h1 h2 => by unfold resP; rw [if_neg (by omega)]
  refine acall_fn mixed Try.func10 Try.call10 e10 r10 (Nat.le_of_ble_eq_true rfl) ?_
  rw [n_Split]
  refine sp_a hw hu hl (a := a) ?_ ?_ (fun ρ' e h1 h2 h4 h5 => ?_) (fun ρ' c0 c1 hs g0 g1 g6 => ?_)
  · simp only [wf_preprocess, ↓reduceIte, Nat.reduceEqDiff, reduceCtorEq, Nat.reduceAdd, Nat.reduceMul, Nat.reduceLeDiff, Nat.reduceLT, Nat.reduceSub, Int.reduceToNat, Int.reduceNeg, Int.reduceAdd, Int.reduceSub, Int.reduceMul, Int.reduceEq, Int.reduceLT, Int.reduceLE, Int.reduceNe, forall_const, forall_eq', forall_eq, List.forall_mem_cons, List.not_mem_nil]
  · simp only [wf_preprocess, ↓reduceIte, Nat.reduceEqDiff, reduceCtorEq, Nat.reduceAdd, Nat.reduceMul, Nat.reduceLeDiff, Nat.reduceLT, Nat.reduceSub, Int.reduceToNat, Int.reduceNeg, Int.reduceAdd, Int.reduceSub, Int.reduceMul, Int.reduceEq, Int.reduceLT, Int.reduceLE, Int.reduceNe, forall_const, forall_eq', forall_eq, List.forall_mem_cons, List.not_mem_nil]
  · have := k (.lst [] .nil) m (by rw [bad h1 h2]; exact BufI.nil) .rfl' (by simp [refs])
    rw [h1] at this
    simp only [h4, h5, wf_preprocess, ↓reduceIte, Nat.reduceEqDiff, reduceCtorEq, Nat.reduceAdd, Nat.reduceMul, Nat.reduceLeDiff, Nat.reduceLT, Nat.reduceSub, Int.reduceToNat, Int.reduceNeg, Int.reduceAdd, Int.reduceSub, Int.reduceMul, Int.reduceEq, Int.reduceLT, Int.reduceLE, Int.reduceNe, forall_const, forall_eq', forall_eq, List.forall_mem_cons, List.not_mem_nil]
    exact this
  refine sp_b hw hu ha c0 c1 hs g0 g1 g6 (fun ρ2 m2 hz hE h4 h5 => ?_) (fun ρ2 c p hz hp hc hcp g9 g10 g11 => ?_)
  · have h1 := err_9 c0 c1 hz
    have := k (.lst [] .nil) m2 (by rw [bad h1 (by decide)]; exact BufI.nil) hE (by simp [refs])
    rw [h1] at this
    simp only [h4, h5, wf_preprocess, ↓reduceIte, Nat.reduceEqDiff, reduceCtorEq, Nat.reduceAdd, Nat.reduceMul, Nat.reduceLeDiff, Nat.reduceLT, Nat.reduceSub, Int.reduceToNat, Int.reduceNeg, Int.reduceAdd, Int.reduceSub, Int.reduceMul, Int.reduceEq, Int.reduceLT, Int.reduceLE, Int.reduceNe, forall_const, forall_eq', forall_eq, List.forall_mem_cons, List.not_mem_nil]
    exact this
  refine sp_c hcp (by rw [rems_len]) (by rw [quo_len]) (by omega) (rest_len hz) (fun i q hq => ?_) g9 g10 g11 fun ρ3 S h4 h5 => ?_
  · have hi := (List.getElem?_eq_some_iff.1 hq).1
    rw [quo_len] at hi
    have hx := List.getElem?_eq_getElem hi
    have := quo_rest (a := a) hz hx
    rw [quo_get hx] at hq
    have hq' := Option.some.inj hq
    omega
  · have h1 := err_0 c0 c1 hs hz
    have hP : resP a w = parts a w := by unfold resP; rw [if_pos h1]
    have hlen : (ul (parts a w)).length = w.length := by rw [ul_len, parts_len]
    have := k (.mref p 0 w.length w.length) (hp2 c p S (parts a w) m) (by
      rw [hP]
      have := BufI.mk (k := .u64) (l := ul (parts a w)) (id := p) (cap := w.length) (rest := []) (m := hp2 c p S (parts a w) m) (by omega) (by rw [maxLen_e]; omega) (by rw [hlen]; simp) rfl (by
        unfold hp2
        rw [get_old hcp, get_new, List.append_nil])
      rw [hlen] at this
      exact this) (hp2_ext hp hc) (fun i hi => by simp only [refs, List.mem_singleton] at hi; subst hi; exact hp)
    rw [h1] at this
    simp only [h4, h5, wf_preprocess, ↓reduceIte, Nat.reduceEqDiff, reduceCtorEq, Nat.reduceAdd, Nat.reduceMul, Nat.reduceLeDiff, Nat.reduceLT, Nat.reduceSub, Int.reduceToNat, Int.reduceNeg, Int.reduceAdd, Int.reduceSub, Int.reduceMul, Int.reduceEq, Int.reduceLT, Int.reduceLE, Int.reduceNe, forall_const, forall_eq', forall_eq, List.forall_mem_cons, List.not_mem_nil]
    exact this
end
end Go.Proofs.Ytjegieklpeipaaa.Moi.Share
