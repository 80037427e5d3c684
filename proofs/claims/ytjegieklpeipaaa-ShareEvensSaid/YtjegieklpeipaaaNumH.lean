/- What functions of this program do, on plain values: a part of the proofs of this seat's laws; each theorem bears its own conditions. -/
import Derived.Test.YtjegieklpeipaaaNumG
set_option linter.unusedVariables false
set_option linter.unusedSimpArgs false
set_option maxRecDepth 1000000
namespace Go.Proofs.Ytjegieklpeipaaa.Moi.Num
open Go Go.RowKit Go.Proofs.Ytjegieklpeipaaa.Moi
attribute [-wf_preprocess] ite_eq_dite forIn_eq_forIn'

/-! ### The parts of Div64's small form, as it was printed -/
def d31a (T : NCode) : NCode :=
  .seq (.ops [
    ⟨(some 6), none, .op (.move (.k (.sc (.int .u64 0)))), []⟩,
    ⟨(some 7), none, .op (.move (.k (.sc (.int .u64 0)))), []⟩])
  (.seq (.seq (.ops [
    ⟨(some 19), none, .op (.move (.r 2)), []⟩,
    ⟨(some 20), none, .op (.bin .eql .other (.r 19) (.k (.sc (.int .u64 0)))), []⟩])
  (.cond (.r 20)
  (.ops [
    ⟨(some 21), none, .op (.load none .no), []⟩,
    ⟨none, none, .panic (.r 21), []⟩])
  (.skip)))
  (.seq (.seq (.ops [
    ⟨(some 22), none, .op (.move (.r 2)), []⟩,
    ⟨(some 23), none, .op (.move (.r 0)), []⟩,
    ⟨(some 24), none, .op (.bin .leq .other (.r 22) (.r 23)), []⟩])
  (.cond (.r 24)
  (.ops [
    ⟨(some 25), none, .op (.load none .no), []⟩,
    ⟨none, none, .panic (.r 25), []⟩])
  (.skip)))
  (.seq (.seq (.ops [
    ⟨(some 26), none, .op (.move (.r 0)), []⟩,
    ⟨(some 27), none, .op (.bin .eql .other (.r 26) (.k (.sc (.int .u64 0)))), []⟩])
  (.cond (.r 27)
  (.seq (.ops [
    ⟨(some 28), none, .op (.move (.r 1)), []⟩,
    ⟨(some 29), none, .op (.move (.r 2)), []⟩,
    ⟨(some 30), none, .op (.bin .quo .other (.r 28) (.r 29)), []⟩,
    ⟨(some 31), none, .op (.move (.r 1)), []⟩,
    ⟨(some 32), none, .op (.move (.r 2)), []⟩,
    ⟨(some 33), none, .op (.bin .rem .other (.r 31) (.r 32)), []⟩,
    ⟨(some 6), none, .op (.move (.r 30)), []⟩,
    ⟨(some 7), none, .op (.move (.r 33)), []⟩])
  (.ret))
  (.skip)))
  (.seq (.ops [
    ⟨(some 34), none, .op (.move (.r 2)), []⟩,
    ⟨(some 35), none, .call (.k (.clos 25 [])) [(.r 34)], []⟩,
    ⟨(some 36), none, .op (.conv .u64 (.r 35)), []⟩,
    ⟨(some 8), none, .op (.move (.r 36)), []⟩])
  (.seq (.ops [
    ⟨(some 37), none, .op (.move (.r 2)), []⟩,
    ⟨(some 38), none, .op (.move (.r 8)), []⟩,
    ⟨(some 39), none, .op (.bin .shl .other (.r 37) (.r 38)), []⟩,
    ⟨(some 2), none, .op (.move (.r 39)), []⟩])
  (.seq (.ops [
    ⟨(some 40), none, .op (.move (.r 2)), []⟩,
    ⟨(some 41), none, .op (.bin .shr .other (.r 40) (.k (.sc (.int .u64 32)))), []⟩,
    ⟨(some 9), none, .op (.move (.r 41)), []⟩])
  (.seq (.ops [
    ⟨(some 42), none, .op (.move (.r 2)), []⟩,
    ⟨(some 43), none, .op (.bin .and .other (.r 42) (.k (.sc (.int .u64 4294967295)))), []⟩,
    ⟨(some 10), none, .op (.move (.r 43)), []⟩])
  (.seq (.ops [
    ⟨(some 44), none, .op (.move (.r 0)), []⟩,
    ⟨(some 45), none, .op (.move (.r 8)), []⟩,
    ⟨(some 46), none, .op (.bin .shl .other (.r 44) (.r 45)), []⟩,
    ⟨(some 47), none, .op (.move (.r 1)), []⟩,
    ⟨(some 48), none, .op (.move (.r 8)), []⟩,
    ⟨(some 49), none, .op (.bin .sub .other (.k (.sc (.int .u64 64))) (.r 48)), []⟩,
    ⟨(some 50), none, .op (.bin .shr .other (.r 47) (.r 49)), []⟩,
    ⟨(some 51), none, .op (.bin .or .other (.r 46) (.r 50)), []⟩,
    ⟨(some 11), none, .op (.move (.r 51)), []⟩])
  (.seq (.ops [
    ⟨(some 52), none, .op (.move (.r 1)), []⟩,
    ⟨(some 53), none, .op (.move (.r 8)), []⟩,
    ⟨(some 54), none, .op (.bin .shl .other (.r 52) (.r 53)), []⟩,
    ⟨(some 12), none, .op (.move (.r 54)), []⟩])
  (.seq (.ops [
    ⟨(some 55), none, .op (.move (.r 12)), []⟩,
    ⟨(some 56), none, .op (.bin .shr .other (.r 55) (.k (.sc (.int .u64 32)))), []⟩,
    ⟨(some 13), none, .op (.move (.r 56)), []⟩])
  (.seq (.ops [
    ⟨(some 57), none, .op (.move (.r 12)), []⟩,
    ⟨(some 58), none, .op (.bin .and .other (.r 57) (.k (.sc (.int .u64 4294967295)))), []⟩,
    ⟨(some 14), none, .op (.move (.r 58)), []⟩])
  (T))))))))))))

def d31b (T : NCode) : NCode :=
  .seq (.ops [
    ⟨(some 59), none, .op (.move (.r 11)), []⟩,
    ⟨(some 60), none, .op (.move (.r 9)), []⟩,
    ⟨(some 61), none, .op (.bin .quo .other (.r 59) (.r 60)), []⟩,
    ⟨(some 15), none, .op (.move (.r 61)), []⟩])
  (.seq (.ops [
    ⟨(some 62), none, .op (.move (.r 11)), []⟩,
    ⟨(some 63), none, .op (.move (.r 15)), []⟩,
    ⟨(some 64), none, .op (.move (.r 9)), []⟩,
    ⟨(some 65), none, .op (.bin .mul .other (.r 63) (.r 64)), []⟩,
    ⟨(some 66), none, .op (.bin .sub .other (.r 62) (.r 65)), []⟩,
    ⟨(some 16), none, .op (.move (.r 66)), []⟩])
  (.seq (.block 0 (.loop (.seq (.seq (.ops [
    ⟨(some 67), none, .op (.move (.r 15)), []⟩,
    ⟨(some 68), none, .op (.bin .geq .other (.r 67) (.k (.sc (.int .u64 4294967296)))), []⟩,
    ⟨(some 69), none, .op (.move (.r 68)), []⟩,
    ⟨(some 70), (some (69, false)), .op (.move (.r 15)), []⟩,
    ⟨(some 71), (some (69, false)), .op (.move (.r 10)), []⟩,
    ⟨(some 72), (some (69, false)), .op (.bin .mul .other (.r 70) (.r 71)), []⟩,
    ⟨(some 73), (some (69, false)), .op (.move (.r 16)), []⟩,
    ⟨(some 74), (some (69, false)), .op (.bin .mul .other (.k (.sc (.int .u64 4294967296))) (.r 73)), []⟩,
    ⟨(some 75), (some (69, false)), .op (.move (.r 13)), []⟩,
    ⟨(some 76), (some (69, false)), .op (.bin .add .other (.r 74) (.r 75)), []⟩,
    ⟨(some 77), (some (69, false)), .op (.bin .gtr .other (.r 72) (.r 76)), []⟩,
    ⟨(some 78), none, .op (.pick (.r 69) (.k (bo true)) (.r 77)), []⟩])
  (.cond (.r 78)
  (.skip)
  (.exit 0)))
  (.block 1 (.seq (.ops [
    ⟨(some 79), none, .op (.move (.r 15)), []⟩,
    ⟨(some 80), none, .op (.bin .sub .other (.r 79) (.k (.sc (.int .u64 1)))), []⟩,
    ⟨(some 15), none, .op (.move (.r 80)), []⟩])
  (.seq (.ops [
    ⟨(some 81), none, .op (.move (.r 16)), []⟩,
    ⟨(some 82), none, .op (.move (.r 9)), []⟩,
    ⟨(some 83), none, .op (.bin .add .other (.r 81) (.r 82)), []⟩,
    ⟨(some 16), none, .op (.move (.r 83)), []⟩])
  (.seq (.ops [
    ⟨(some 84), none, .op (.move (.r 16)), []⟩,
    ⟨(some 85), none, .op (.bin .geq .other (.r 84) (.k (.sc (.int .u64 4294967296)))), []⟩])
  (.cond (.r 85)
  (.exit 0)
  (.skip)))))))))
  (T)))

def d31c (T : NCode) : NCode :=
  .seq (.ops [
    ⟨(some 86), none, .op (.move (.r 11)), []⟩,
    ⟨(some 87), none, .op (.bin .mul .other (.r 86) (.k (.sc (.int .u64 4294967296)))), []⟩,
    ⟨(some 88), none, .op (.move (.r 13)), []⟩,
    ⟨(some 89), none, .op (.bin .add .other (.r 87) (.r 88)), []⟩,
    ⟨(some 90), none, .op (.move (.r 15)), []⟩,
    ⟨(some 91), none, .op (.move (.r 2)), []⟩,
    ⟨(some 92), none, .op (.bin .mul .other (.r 90) (.r 91)), []⟩,
    ⟨(some 93), none, .op (.bin .sub .other (.r 89) (.r 92)), []⟩,
    ⟨(some 17), none, .op (.move (.r 93)), []⟩])
  (.seq (.ops [
    ⟨(some 94), none, .op (.move (.r 17)), []⟩,
    ⟨(some 95), none, .op (.move (.r 9)), []⟩,
    ⟨(some 96), none, .op (.bin .quo .other (.r 94) (.r 95)), []⟩,
    ⟨(some 18), none, .op (.move (.r 96)), []⟩])
  (.seq (.ops [
    ⟨(some 97), none, .op (.move (.r 17)), []⟩,
    ⟨(some 98), none, .op (.move (.r 18)), []⟩,
    ⟨(some 99), none, .op (.move (.r 9)), []⟩,
    ⟨(some 100), none, .op (.bin .mul .other (.r 98) (.r 99)), []⟩,
    ⟨(some 101), none, .op (.bin .sub .other (.r 97) (.r 100)), []⟩,
    ⟨(some 16), none, .op (.move (.r 101)), []⟩])
  (.seq (.block 2 (.loop (.seq (.seq (.ops [
    ⟨(some 102), none, .op (.move (.r 18)), []⟩,
    ⟨(some 103), none, .op (.bin .geq .other (.r 102) (.k (.sc (.int .u64 4294967296)))), []⟩,
    ⟨(some 104), none, .op (.move (.r 103)), []⟩,
    ⟨(some 105), (some (104, false)), .op (.move (.r 18)), []⟩,
    ⟨(some 106), (some (104, false)), .op (.move (.r 10)), []⟩,
    ⟨(some 107), (some (104, false)), .op (.bin .mul .other (.r 105) (.r 106)), []⟩,
    ⟨(some 108), (some (104, false)), .op (.move (.r 16)), []⟩,
    ⟨(some 109), (some (104, false)), .op (.bin .mul .other (.k (.sc (.int .u64 4294967296))) (.r 108)), []⟩,
    ⟨(some 110), (some (104, false)), .op (.move (.r 14)), []⟩,
    ⟨(some 111), (some (104, false)), .op (.bin .add .other (.r 109) (.r 110)), []⟩,
    ⟨(some 112), (some (104, false)), .op (.bin .gtr .other (.r 107) (.r 111)), []⟩,
    ⟨(some 113), none, .op (.pick (.r 104) (.k (bo true)) (.r 112)), []⟩])
  (.cond (.r 113)
  (.skip)
  (.exit 2)))
  (.block 3 (.seq (.ops [
    ⟨(some 114), none, .op (.move (.r 18)), []⟩,
    ⟨(some 115), none, .op (.bin .sub .other (.r 114) (.k (.sc (.int .u64 1)))), []⟩,
    ⟨(some 18), none, .op (.move (.r 115)), []⟩])
  (.seq (.ops [
    ⟨(some 116), none, .op (.move (.r 16)), []⟩,
    ⟨(some 117), none, .op (.move (.r 9)), []⟩,
    ⟨(some 118), none, .op (.bin .add .other (.r 116) (.r 117)), []⟩,
    ⟨(some 16), none, .op (.move (.r 118)), []⟩])
  (.seq (.ops [
    ⟨(some 119), none, .op (.move (.r 16)), []⟩,
    ⟨(some 120), none, .op (.bin .geq .other (.r 119) (.k (.sc (.int .u64 4294967296)))), []⟩])
  (.cond (.r 120)
  (.exit 2)
  (.skip)))))))))
  (T))))

def d31d : NCode :=
  .seq (.ops [
    ⟨(some 121), none, .op (.move (.r 15)), []⟩,
    ⟨(some 122), none, .op (.bin .mul .other (.r 121) (.k (.sc (.int .u64 4294967296)))), []⟩,
    ⟨(some 123), none, .op (.move (.r 18)), []⟩,
    ⟨(some 124), none, .op (.bin .add .other (.r 122) (.r 123)), []⟩,
    ⟨(some 125), none, .op (.move (.r 17)), []⟩,
    ⟨(some 126), none, .op (.bin .mul .other (.r 125) (.k (.sc (.int .u64 4294967296)))), []⟩,
    ⟨(some 127), none, .op (.move (.r 14)), []⟩,
    ⟨(some 128), none, .op (.bin .add .other (.r 126) (.r 127)), []⟩,
    ⟨(some 129), none, .op (.move (.r 18)), []⟩,
    ⟨(some 130), none, .op (.move (.r 2)), []⟩,
    ⟨(some 131), none, .op (.bin .mul .other (.r 129) (.r 130)), []⟩,
    ⟨(some 132), none, .op (.bin .sub .other (.r 128) (.r 131)), []⟩,
    ⟨(some 133), none, .op (.move (.r 8)), []⟩,
    ⟨(some 134), none, .op (.bin .shr .other (.r 132) (.r 133)), []⟩,
    ⟨(some 6), none, .op (.move (.r 124)), []⟩,
    ⟨(some 7), none, .op (.move (.r 134)), []⟩])
  (.ret)



/-! ### A digit of a quotient -/
structure Dg (Y y1 y0 u d : Nat) : Prop where
  hY : Y = y1 * 4294967296 + y0
  l1 : 2147483648 ≤ y1
  h1 : y1 < 4294967296
  h0 : y0 < 4294967296
  hu : u < Y
  hd : d < 4294967296

section
variable {Y y1 y0 u d q r : Nat}
theorem Dg.mul (h : Dg Y y1 y0 u d) (q : Nat) : q * Y = q * y1 * 4294967296 + q * y0 := by rw [h.hY, Nat.mul_add, Nat.mul_assoc]
theorem Dg.pos (h : Dg Y y1 y0 u d) : 0 < Y := by have := h.hY; have := h.l1; omega
/-- The digit is no more than q; q and r come of u. -/
def Dg.at (Y y1 u d q r : Nat) : Prop := q * y1 + r = u ∧ (u * 4294967296 + d) / Y ≤ q
theorem Dg.start (h : Dg Y y1 y0 u d) : Dg.at Y y1 u d (u / y1) (u % y1) := by
  refine ⟨by rw [Nat.mul_comm]; exact Nat.div_add_mod u y1, ?_⟩
  rw [Nat.le_div_iff_mul_le (by have := h.l1; omega)]
  have := Nat.div_mul_le_self (u * 4294967296 + d) Y
  rw [h.mul] at this
  have := h.hd
  omega
theorem Dg.lt (h : Dg Y y1 y0 u d) : (u * 4294967296 + d) / Y < 4294967296 := by
  rw [Nat.div_lt_iff_lt_mul h.pos]
  have := h.hu; have := h.hd
  omega
theorem Dg.stop (h : Dg Y y1 y0 u d) (k : Dg.at Y y1 u d q r) (h2 : q * y0 ≤ 4294967296 * r + d) : q = (u * 4294967296 + d) / Y := by
  refine Nat.le_antisymm ?_ k.2
  rw [Nat.le_div_iff_mul_le h.pos, h.mul]
  have := k.1
  omega
theorem Dg.go (h : Dg Y y1 y0 u d) (k : Dg.at Y y1 u d q r) (h2 : 4294967296 ≤ q ∨ 4294967296 * r + d < q * y0) : 1 ≤ q ∧ Dg.at Y y1 u d (q - 1) (r + y1) := by
  have hlt : (u * 4294967296 + d) / Y < q := by
    rcases h2 with h2 | h2
    · exact Nat.lt_of_lt_of_le h.lt h2
    · rw [Nat.div_lt_iff_lt_mul h.pos, h.mul]
      have := k.1
      omega
  have hq1 : 1 ≤ q := Nat.lt_of_le_of_lt (Nat.zero_le _) hlt
  refine ⟨hq1, ?_, Nat.le_sub_one_of_lt hlt⟩
  have e : (q - 1) * y1 + y1 = q * y1 := by
    rw [← Nat.succ_mul, Nat.succ_eq_add_one, show q - 1 + 1 = q by omega]
  have := k.1
  omega
theorem Dg.brk (h : Dg Y y1 y0 u d) (k : Dg.at Y y1 u d q r) (h2 : 4294967296 ≤ r) : q = (u * 4294967296 + d) / Y := by
  refine Nat.le_antisymm ?_ k.2
  rw [Nat.le_div_iff_mul_le h.pos, h.mul]
  have k1 := k.1
  have hu := h.hu
  have hY := h.hY
  have h0 := h.h0
  have hq : q < 4294967296 := by
    refine Nat.lt_of_mul_lt_mul_right (a := y1) ?_
    rw [Nat.mul_comm 4294967296]
    omega
  have hz : q * y0 ≤ 4294967295 * 4294967295 := Nat.mul_le_mul (by omega) (by omega)
  omega
theorem Dg.rem (h : Dg Y y1 y0 u d) (hY : Y < 18446744073709551616) : U (U (U ((u : Int) * 4294967296) + (d : Int)) - U (((u * 4294967296 + d) / Y : Nat) * (Y : Int))) = (((u * 4294967296 + d) % Y : Nat) : Int) := by
  have e := Nat.div_add_mod (u * 4294967296 + d) Y
  have hl := Nat.mod_lt (u * 4294967296 + d) h.pos
  rw [← Int.natCast_mul, Nat.mul_comm _ Y]
  generalize Y * ((u * 4294967296 + d) / Y) = z at *
  generalize (u * 4294967296 + d) % Y = w at *
  unfold U
  omega
theorem quo_n {a b : Nat} (h : a < 18446744073709551616) : U ((a : Int).tdiv b) = ((a / b : Nat) : Int) := by
  refine U_nat (Nat.lt_of_le_of_lt (Nat.div_le_self a b) h) ?_
  rw [Int.ofNat_tdiv]
theorem mul_n {a b : Nat} (h : a * b < 18446744073709551616) : U ((a : Int) * b) = ((a * b : Nat) : Int) := by
  rw [← Int.natCast_mul]; exact U_nat h rfl
end

section
variable {E : AV → Heap → Prop} {m : Heap} {ρ : Regs} {Kn Kr : Cont} {Kx : Nat → Cont} {Y y1 y0 u d : Nat} {T : NCode}
theorem dv_b (h : Dg Y y1 y0 u d) (hY : Y < 18446744073709551616) (g2 : ρ 2 = un Y) (g9 : ρ 9 = un y1) (g10 : ρ 10 = un y0) (g11 : ρ 11 = un u) (g13 : ρ 13 = un d)
    (k : ∀ ρ', ρ' 2 = ρ 2 → ρ' 8 = ρ 8 → ρ' 9 = ρ 9 → ρ' 10 = ρ 10 → ρ' 11 = ρ 11 → ρ' 12 = ρ 12 → ρ' 13 = ρ 13 → ρ' 14 = ρ 14 → ρ' 15 = un ((u * 4294967296 + d) / Y) → vc Try.prog E T Kn Kx Kr ρ' m) : vc Try.prog E (d31b T) Kn Kx Kr ρ m := by
  have hn1 : ¬ ((y1 : Nat) : Int) = 0 := by have := h.l1; omega
  have hu : u < 18446744073709551616 := Nat.lt_trans h.hu hY
  have hl1 := h.l1
  have hh0 := h.h0
  have hh1 := h.h1
  have hhd := h.hd
  have hm := Nat.div_mul_le_self u y1
  have hr := Nat.div_add_mod u y1
  have hm2 := Nat.mod_lt u (show 0 < y1 by omega)
  have e1 : U ((u : Int) - ((u / y1 * y1 : Nat) : Int)) = ((u % y1 : Nat) : Int) := by
    rw [Nat.mul_comm] at hm ⊢
    generalize y1 * (u / y1) = z at *
    exact U_nat (by omega) (by omega)
  simp only [d31b, g2, g9, g10, g11, g13, hn1, wu, quo_n hu, mul_n (Nat.lt_of_le_of_lt hm hu), e1, wf_preprocess, ↓reduceIte, Nat.reduceEqDiff, reduceCtorEq, Nat.reduceAdd, Nat.reduceMul, Nat.reduceLeDiff, Nat.reduceLT, Nat.reduceSub, Int.reduceToNat, Int.reduceNeg, Int.reduceAdd, Int.reduceSub, Int.reduceMul, Int.reduceEq, Int.reduceLT, Int.reduceLE, Int.reduceNe, forall_const, forall_eq', forall_eq, List.forall_mem_cons, List.not_mem_nil]
  refine loop_i (fun q ρ' m' => ∃ r : Nat, Dg.at Y y1 u d q r ∧ r < 4294967296 ∧ q < 18446744073709551616 ∧ ρ' 15 = un q ∧ ρ' 16 = un r ∧ ρ' 2 = ρ 2 ∧ ρ' 8 = ρ 8 ∧ ρ' 9 = ρ 9 ∧ ρ' 10 = ρ 10 ∧ ρ' 11 = ρ 11 ∧ ρ' 12 = ρ 12 ∧ ρ' 13 = ρ 13 ∧ ρ' 14 = ρ 14 ∧ m' = m) (u / y1)
    ⟨u % y1, h.start, by omega, Nat.lt_of_le_of_lt (Nat.div_le_self ..) hu, by simp only [wf_preprocess, ↓reduceIte, Nat.reduceEqDiff, reduceCtorEq, Nat.reduceAdd, Nat.reduceMul, Nat.reduceLeDiff, Nat.reduceLT, Nat.reduceSub, Int.reduceToNat, Int.reduceNeg, Int.reduceAdd, Int.reduceSub, Int.reduceMul, Int.reduceEq, Int.reduceLT, Int.reduceLE, Int.reduceNe, forall_const, forall_eq', forall_eq, List.forall_mem_cons, List.not_mem_nil]⟩ ?_
  rintro q ρ' m' ⟨r, hat, hr, hq, k15, k16, k2, k8, k9, k10, k11, k12, k13, k14, rfl⟩
  rw [g2] at k2; rw [g9] at k9; rw [g10] at k10; rw [g11] at k11; rw [g13] at k13
  have fin : ∀ ρ2 : Regs, ρ2 2 = ρ' 2 → ρ2 8 = ρ' 8 → ρ2 9 = ρ' 9 → ρ2 10 = ρ' 10 → ρ2 11 = ρ' 11 → ρ2 12 = ρ' 12 → ρ2 13 = ρ' 13 → ρ2 14 = ρ' 14 → ρ2 15 = un ((u * 4294967296 + d) / Y) → vc Try.prog E T Kn Kx Kr ρ2 m' := fun ρ2 a2 a8 a9 a10 a11 a12 a13 a14 a15 =>
    k ρ2 (by rw [a2, k2, g2]) (by rw [a8, k8]) (by rw [a9, k9, g9]) (by rw [a10, k10, g10]) (by rw [a11, k11, g11]) (by rw [a12, k12]) (by rw [a13, k13, g13]) (by rw [a14, k14]) a15
  have b0 : ((4294967296 : Int) ≤ (q : Int)) = (4294967296 ≤ q) := le32
  have e3 : U (4294967296 * (r : Int)) = ((4294967296 * r : Nat) : Int) := U_nat (by omega) (by omega)
  have e4 : U (((4294967296 * r : Nat) : Int) + (d : Int)) = ((4294967296 * r + d : Nat) : Int) := U_nat (by omega) (by omega)
  have body : (4294967296 ≤ q ∨ 4294967296 * r + d < q * y0) → 1 ≤ q ∧ Dg.at Y y1 u d (q - 1) (r + y1) ∧ U ((q : Int) - 1) = ((q - 1 : Nat) : Int) ∧ U ((r : Int) + (y1 : Int)) = ((r + y1 : Nat) : Int) := fun hh => by
    obtain ⟨z1, z2⟩ := h.go hat hh
    exact ⟨z1, z2, U_nat (by omega) (by omega), U_nat (by omega) (by omega)⟩
  by_cases c1 : 4294967296 ≤ q
  · obtain ⟨z1, z2, z3, z4⟩ := body (.inl c1)
    by_cases c2 : 4294967296 ≤ r + y1
    · have := h.brk z2 c2
      simp only [k15, k16, k2, k9, k10, k11, k13, b0, c1, c2, wu, z3, z4, le32, wf_preprocess, ↓reduceIte, Nat.reduceEqDiff, reduceCtorEq, Nat.reduceAdd, Nat.reduceMul, Nat.reduceLeDiff, Nat.reduceLT, Nat.reduceSub, Int.reduceToNat, Int.reduceNeg, Int.reduceAdd, Int.reduceSub, Int.reduceMul, Int.reduceEq, Int.reduceLT, Int.reduceLE, Int.reduceNe, forall_const, forall_eq', forall_eq, List.forall_mem_cons, List.not_mem_nil]
      refine fin _ ?_ ?_ ?_ ?_ ?_ ?_ ?_ ?_ ?_ <;> simp only [k15, k16, k2, k9, k10, k11, k13, this, wf_preprocess, ↓reduceIte, Nat.reduceEqDiff, reduceCtorEq, Nat.reduceAdd, Nat.reduceMul, Nat.reduceLeDiff, Nat.reduceLT, Nat.reduceSub, Int.reduceToNat, Int.reduceNeg, Int.reduceAdd, Int.reduceSub, Int.reduceMul, Int.reduceEq, Int.reduceLT, Int.reduceLE, Int.reduceNe, forall_const, forall_eq', forall_eq, List.forall_mem_cons, List.not_mem_nil]
    · simp only [k15, k16, k2, k9, k10, k11, k13, b0, c1, c2, wu, z3, z4, le32, wf_preprocess, ↓reduceIte, Nat.reduceEqDiff, reduceCtorEq, Nat.reduceAdd, Nat.reduceMul, Nat.reduceLeDiff, Nat.reduceLT, Nat.reduceSub, Int.reduceToNat, Int.reduceNeg, Int.reduceAdd, Int.reduceSub, Int.reduceMul, Int.reduceEq, Int.reduceLT, Int.reduceLE, Int.reduceNe, forall_const, forall_eq', forall_eq, List.forall_mem_cons, List.not_mem_nil]
      exact ⟨q - 1, by omega, r + y1, z2, by omega, by omega, by simp [wf_preprocess, ↓reduceIte, Nat.reduceEqDiff, reduceCtorEq, Nat.reduceAdd, Nat.reduceMul, Nat.reduceLeDiff, Nat.reduceLT, Nat.reduceSub, Int.reduceToNat, Int.reduceNeg, Int.reduceAdd, Int.reduceSub, Int.reduceMul, Int.reduceEq, Int.reduceLT, Int.reduceLE, Int.reduceNe, forall_const, forall_eq', forall_eq, List.forall_mem_cons, List.not_mem_nil, *]⟩
  · have hz : q * y0 < 18446744073709551616 := Nat.lt_of_le_of_lt (Nat.mul_le_mul (show q ≤ 4294967295 by omega) (show y0 ≤ 4294967295 by omega)) (by omega)
    have b1 : (((4294967296 * r + d : Nat) : Int) < ((q * y0 : Nat) : Int)) = (4294967296 * r + d < q * y0) := by apply propext; omega
    by_cases c3 : 4294967296 * r + d < q * y0
    · obtain ⟨z1, z2, z3, z4⟩ := body (.inr c3)
      by_cases c2 : 4294967296 ≤ r + y1
      · have := h.brk z2 c2
        simp only [k15, k16, k2, k9, k10, k11, k13, b0, c1, c2, c3, wu, z3, z4, le32, mul_n hz, e3, e4, b1, wf_preprocess, ↓reduceIte, Nat.reduceEqDiff, reduceCtorEq, Nat.reduceAdd, Nat.reduceMul, Nat.reduceLeDiff, Nat.reduceLT, Nat.reduceSub, Int.reduceToNat, Int.reduceNeg, Int.reduceAdd, Int.reduceSub, Int.reduceMul, Int.reduceEq, Int.reduceLT, Int.reduceLE, Int.reduceNe, forall_const, forall_eq', forall_eq, List.forall_mem_cons, List.not_mem_nil]
        refine fin _ ?_ ?_ ?_ ?_ ?_ ?_ ?_ ?_ ?_ <;> simp only [k15, k16, k2, k9, k10, k11, k13, this, wf_preprocess, ↓reduceIte, Nat.reduceEqDiff, reduceCtorEq, Nat.reduceAdd, Nat.reduceMul, Nat.reduceLeDiff, Nat.reduceLT, Nat.reduceSub, Int.reduceToNat, Int.reduceNeg, Int.reduceAdd, Int.reduceSub, Int.reduceMul, Int.reduceEq, Int.reduceLT, Int.reduceLE, Int.reduceNe, forall_const, forall_eq', forall_eq, List.forall_mem_cons, List.not_mem_nil]
      · simp only [k15, k16, k2, k9, k10, k11, k13, b0, c1, c2, c3, wu, z3, z4, le32, mul_n hz, e3, e4, b1, wf_preprocess, ↓reduceIte, Nat.reduceEqDiff, reduceCtorEq, Nat.reduceAdd, Nat.reduceMul, Nat.reduceLeDiff, Nat.reduceLT, Nat.reduceSub, Int.reduceToNat, Int.reduceNeg, Int.reduceAdd, Int.reduceSub, Int.reduceMul, Int.reduceEq, Int.reduceLT, Int.reduceLE, Int.reduceNe, forall_const, forall_eq', forall_eq, List.forall_mem_cons, List.not_mem_nil]
        exact ⟨q - 1, by omega, r + y1, z2, by omega, by omega, by simp [wf_preprocess, ↓reduceIte, Nat.reduceEqDiff, reduceCtorEq, Nat.reduceAdd, Nat.reduceMul, Nat.reduceLeDiff, Nat.reduceLT, Nat.reduceSub, Int.reduceToNat, Int.reduceNeg, Int.reduceAdd, Int.reduceSub, Int.reduceMul, Int.reduceEq, Int.reduceLT, Int.reduceLE, Int.reduceNe, forall_const, forall_eq', forall_eq, List.forall_mem_cons, List.not_mem_nil, *]⟩
    · have := h.stop hat (by omega)
      simp only [k15, k16, k2, k9, k10, k11, k13, b0, c1, c3, wu, le32, mul_n hz, e3, e4, b1, wf_preprocess, ↓reduceIte, Nat.reduceEqDiff, reduceCtorEq, Nat.reduceAdd, Nat.reduceMul, Nat.reduceLeDiff, Nat.reduceLT, Nat.reduceSub, Int.reduceToNat, Int.reduceNeg, Int.reduceAdd, Int.reduceSub, Int.reduceMul, Int.reduceEq, Int.reduceLT, Int.reduceLE, Int.reduceNe, forall_const, forall_eq', forall_eq, List.forall_mem_cons, List.not_mem_nil]
      refine fin _ ?_ ?_ ?_ ?_ ?_ ?_ ?_ ?_ ?_ <;> simp only [k15, k16, k2, k9, k10, k11, k13, ← this, wf_preprocess, ↓reduceIte, Nat.reduceEqDiff, reduceCtorEq, Nat.reduceAdd, Nat.reduceMul, Nat.reduceLeDiff, Nat.reduceLT, Nat.reduceSub, Int.reduceToNat, Int.reduceNeg, Int.reduceAdd, Int.reduceSub, Int.reduceMul, Int.reduceEq, Int.reduceLT, Int.reduceLE, Int.reduceNe, forall_const, forall_eq', forall_eq, List.forall_mem_cons, List.not_mem_nil]
end
end Go.Proofs.Ytjegieklpeipaaa.Moi.Num
