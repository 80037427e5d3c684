/- What functions of this program do, on plain values: a part of the proofs of this seat's laws; each theorem bears its own conditions. -/
import Derived.Test.YtjegieklpeipaaaNumC
set_option linter.unusedVariables false
set_option linter.unusedSimpArgs false
set_option maxRecDepth 1000000
namespace Go.Proofs.Ytjegieklpeipaaa.Moi.Num
open Go Go.RowKit Go.Proofs.Ytjegieklpeipaaa.Moi
attribute [-wf_preprocess] ite_eq_dite forIn_eq_forIn'

/-! ### Bits -/
theorem shl1n {h : Nat} : U ((h : Int) * 2 ^ min 1 IntKind.u64.bits) = ((2 * (h % 9223372036854775808) : Nat) : Int) := by
  rw [show (2 : Int) ^ min 1 IntKind.u64.bits = 2 from rfl]; unfold U; omega
theorem shr63n {h : Nat} : (h : Int).fdiv (2 ^ min 63 IntKind.u64.bits) = ((h / 9223372036854775808 : Nat) : Int) := by
  rw [show (2 : Int) ^ min 63 IntKind.u64.bits = 9223372036854775808 from rfl, Int.fdiv_eq_ediv_of_nonneg _ (by omega)]; omega
theorem ofn {x : Nat} (h : x < 18446744073709551616) : (BitVec.ofInt 64 (x : Int)).toNat = x := by
  rw [BitVec.toNat_ofInt]; omega
theorem orn {x b : Nat} (hb : b < 2) (hx : 2 * x < 18446744073709551616) : U (((BitVec.ofInt IntKind.u64.bits ((2 * x : Nat) : Int) ||| BitVec.ofInt IntKind.u64.bits (b : Int)).toNat : Nat) : Int) = ((2 * x + b : Nat) : Int) := by
  have e := Nat.two_pow_add_eq_or_of_lt (i := 1) (show b < 2 ^ 1 by omega) x
  rw [bits64, BitVec.toNat_or, ofn hx, ofn (by omega), ← show 2 ^ 1 * x + b = 2 * x ||| b from e]
  exact U_nat (by omega) (by omega)
theorem or1 {x : Nat} (hx : 2 * x < 18446744073709551616) : U (((BitVec.ofInt IntKind.u64.bits ((2 * x : Nat) : Int) ||| BitVec.ofInt IntKind.u64.bits 1).toNat : Nat) : Int) = ((2 * x + 1 : Nat) : Int) := orn (b := 1) (by omega) hx
theorem and1 {x : Nat} (hx : x < 18446744073709551616) : U (((BitVec.ofInt IntKind.u64.bits (x : Int) &&& BitVec.ofInt IntKind.u64.bits 1).toNat : Nat) : Int) = ((x % 2 : Nat) : Int) := by
  rw [bits64, BitVec.toNat_and, ofn hx, show (BitVec.ofInt 64 1).toNat = 2 ^ 1 - 1 from rfl, Nat.and_two_pow_sub_one_eq_mod]
  exact U_nat (by omega) (by omega)
theorem shrn {b i : Nat} (hi : i < 64) : (b : Int).fdiv (2 ^ min (U (i : Int)).toNat IntKind.u64.bits) = ((b / 2 ^ i : Nat) : Int) := by
  rw [U_nat (n := i) (by omega) rfl, bits64, show min (i : Int).toNat 64 = i by omega, Int.fdiv_eq_ediv_of_nonneg _ (Int.pow_nonneg (by omega)), Int.natCast_ediv, Int.natCast_pow]
  rfl
theorem half {b i : Nat} : b / 2 ^ i = 2 * (b / 2 ^ (i + 1)) + b / 2 ^ i % 2 := by
  rw [Nat.pow_succ, ← Nat.div_div_eq_div_mul]; omega

section
variable {Q E : AV → Heap → Prop} {m : Heap}
abbrev un (n : Nat) : AV := u64v (n : Int)
theorem Times_step {a b i : Nat} (ha : a < 18446744073709551616) (hb : b < 18446744073709551616) : a * (b / 2 ^ i) = 2 * (a * (b / 2 ^ (i + 1))) + b / 2 ^ i % 2 * a ∧ a * (b / 2 ^ i) < 18446744073709551616 * 18446744073709551616 := by
  refine ⟨?_, Nat.mul_lt_mul'' ha (Nat.lt_of_le_of_lt (Nat.div_le_self ..) hb)⟩
  rw [half (b := b) (i := i), Nat.mul_add, Nat.mul_left_comm, Nat.mul_comm a (b / 2 ^ i % 2)]
  congr 2
  omega
theorem rTimes_s {a b : Nat} (ha : a < 18446744073709551616) (hb : b < 18446744073709551616) (k : Q (.tup [un (a * b / 18446744073709551616), un (a * b % 18446744073709551616)]) m) : ACall Try.prog 13 [un a, un b] m Q E := by
  refine pureR ?_ k
  refine acall_fn mixed Try.func13 Try.call13 e13 r13 (Nat.le_of_ble_eq_true rfl) ?_
  simp only [n13, wf_preprocess, ↓reduceIte, Nat.reduceEqDiff, reduceCtorEq, Nat.reduceAdd, Nat.reduceMul, Nat.reduceLeDiff, Nat.reduceLT, Nat.reduceSub, Int.reduceToNat, Int.reduceNeg, Int.reduceAdd, Int.reduceSub, Int.reduceMul, Int.reduceEq, Int.reduceLT, Int.reduceLE, Int.reduceNe, forall_const, forall_eq', forall_eq, List.forall_mem_cons, List.not_mem_nil]
  refine loop_i (fun j ρ m' => j ≤ 64 ∧ ρ 0 = un a ∧ ρ 1 = un b ∧ ρ 8 = iv ((j : Int) - 1) ∧ ρ 6 = un (a * (b / 2 ^ j) / 18446744073709551616) ∧ ρ 7 = un (a * (b / 2 ^ j) % 18446744073709551616)) 64 ?_ ?_
  · have : b / 2 ^ 64 = 0 := Nat.div_eq_of_lt hb
    simp only [this, Nat.mul_zero, wf_preprocess, ↓reduceIte, Nat.reduceEqDiff, reduceCtorEq, Nat.reduceAdd, Nat.reduceMul, Nat.reduceLeDiff, Nat.reduceLT, Nat.reduceSub, Int.reduceToNat, Int.reduceNeg, Int.reduceAdd, Int.reduceSub, Int.reduceMul, Int.reduceEq, Int.reduceLT, Int.reduceLE, Int.reduceNe, forall_const, forall_eq', forall_eq, List.forall_mem_cons, List.not_mem_nil]
    simp
  rintro j ρ m' ⟨hj, g0, g1, g8, g6, g7⟩
  rcases j with _ | i
  · have c : ¬ (0 : Int) ≤ ((0 : Nat) : Int) - 1 := by omega
    simp only [g0, g1, g6, g7, g8, c, Nat.pow_zero, Nat.div_one, wf_preprocess, ↓reduceIte, Nat.reduceEqDiff, reduceCtorEq, Nat.reduceAdd, Nat.reduceMul, Nat.reduceLeDiff, Nat.reduceLT, Nat.reduceSub, Int.reduceToNat, Int.reduceNeg, Int.reduceAdd, Int.reduceSub, Int.reduceMul, Int.reduceEq, Int.reduceLT, Int.reduceLE, Int.reduceNe, forall_const, forall_eq', forall_eq, List.forall_mem_cons, List.not_mem_nil]
  · have e8 : (((i + 1 : Nat) : Int) - 1) = (i : Int) := by omega
    rw [e8] at g8
    have w1 : IntKind.i64.wrap ((i : Int) - 1) = (i : Int) - 1 := by rw [wrap64] <;> omega
    have w2 : (0 : Int) ≤ U (i : Int) := by unfold U; omega
    have w3 : ¬ U (i : Int) < 0 := by omega
    obtain ⟨s1, s2⟩ := Times_step (i := i) ha hb
    have hbi : b / 2 ^ i < 18446744073709551616 := Nat.lt_of_le_of_lt (Nat.div_le_self ..) hb
    have ho := orn (x := a * (b / 2 ^ (i + 1)) / 18446744073709551616 % 9223372036854775808) (b := a * (b / 2 ^ (i + 1)) % 18446744073709551616 / 9223372036854775808) (by omega) (by omega)
    have ht : b / 2 ^ i % 2 = 0 ∨ b / 2 ^ i % 2 = 1 := by omega
    have hc : (((b / 2 ^ i % 2 : Nat) : Int) = 1) = (b / 2 ^ i % 2 = 1) := by apply propext; omega
    generalize a * (b / 2 ^ (i + 1)) = w at *
    generalize hv : a * (b / 2 ^ i) = v at *
    have hone : ((1 : Nat) : Int) = 1 := rfl
    by_cases ht1 : b / 2 ^ i % 2 = 1
    · have hcarry : (U (((2 * (w % 18446744073709551616 % 9223372036854775808) : Nat) : Int) + (a : Int)) < ((2 * (w % 18446744073709551616 % 9223372036854775808) : Nat) : Int)) = (18446744073709551616 ≤ 2 * (w % 18446744073709551616 % 9223372036854775808) + a) := by
        apply propext; unfold U; omega
      rw [ht1, Nat.one_mul] at s1
      by_cases h2 : 18446744073709551616 ≤ 2 * (w % 18446744073709551616 % 9223372036854775808) + a
      all_goals
        simp only [g0, g1, g6, g7, g8, Int.natCast_nonneg, w1, w2, w3, wu, wi, shl1n, shr63n, shrn (show i < 64 by omega), and1 hbi, ho, hc, ht1, hone, hcarry, h2, wf_preprocess, ↓reduceIte, Nat.reduceEqDiff, reduceCtorEq, Nat.reduceAdd, Nat.reduceMul, Nat.reduceLeDiff, Nat.reduceLT, Nat.reduceSub, Int.reduceToNat, Int.reduceNeg, Int.reduceAdd, Int.reduceSub, Int.reduceMul, Int.reduceEq, Int.reduceLT, Int.reduceLE, Int.reduceNe, forall_const, forall_eq', forall_eq, List.forall_mem_cons, List.not_mem_nil]
        refine ⟨i, by omega, by omega, rfl, by rw [hv]; congr 2; first | omega | (unfold U; omega), by rw [hv]; congr 2; first | omega | (unfold U; omega)⟩
    · rw [show b / 2 ^ i % 2 = 0 by omega, Nat.zero_mul] at s1
      simp only [g0, g1, g6, g7, g8, Int.natCast_nonneg, w1, w2, w3, wu, wi, shl1n, shr63n, shrn (show i < 64 by omega), and1 hbi, ho, hc, ht1, wf_preprocess, ↓reduceIte, Nat.reduceEqDiff, reduceCtorEq, Nat.reduceAdd, Nat.reduceMul, Nat.reduceLeDiff, Nat.reduceLT, Nat.reduceSub, Int.reduceToNat, Int.reduceNeg, Int.reduceAdd, Int.reduceSub, Int.reduceMul, Int.reduceEq, Int.reduceLT, Int.reduceLE, Int.reduceNe, forall_const, forall_eq', forall_eq, List.forall_mem_cons, List.not_mem_nil]
      refine ⟨i, by omega, by omega, rfl, by rw [hv]; congr 2; omega, by rw [hv]; congr 2; omega⟩

theorem div_step {N c t : Nat} (hc : 0 < c) (ht : t < 2) : (2 * N + t) / c = 2 * (N / c) + (if c ≤ 2 * (N % c) + t then 1 else 0) ∧ (2 * N + t) % c = 2 * (N % c) + t - (if c ≤ 2 * (N % c) + t then c else 0) := by
  have h1 := Nat.div_add_mod N c
  have h2 := Nat.mod_lt N hc
  generalize N / c = q at *
  generalize N % c = r at *
  subst h1
  have e : c * (2 * q) = 2 * (c * q) := Nat.mul_left_comm ..
  refine (Nat.div_mod_unique hc).2 ?_
  split
  · rw [Nat.mul_add, e]; omega
  · rw [Nat.add_zero, e]; omega
def numN (hi lo j : Nat) : Nat := hi * 2 ^ (64 - j) + lo / 2 ^ j
theorem numN_step {hi lo i : Nat} (hi' : i < 64) : numN hi lo i = 2 * numN hi lo (i + 1) + lo / 2 ^ i % 2 := by
  unfold numN
  rw [show 64 - i = (64 - (i + 1)) + 1 by omega, Nat.pow_succ, ← Nat.mul_assoc]
  have := half (b := lo) (i := i)
  omega
theorem numN_lt {hi lo j c : Nat} (hc : hi < c) (hl : lo < 18446744073709551616) (hj : j ≤ 64) : numN hi lo j / c < 2 ^ (64 - j) := by
  have h0 : lo / 2 ^ j < 2 ^ (64 - j) := by
    rw [Nat.div_lt_iff_lt_mul (Nat.two_pow_pos j), ← Nat.pow_add, show 64 - j + j = 64 by omega]
    exact hl
  rw [Nat.div_lt_iff_lt_mul (by omega), Nat.mul_comm]
  unfold numN
  calc hi * 2 ^ (64 - j) + lo / 2 ^ j < hi * 2 ^ (64 - j) + 2 ^ (64 - j) := by omega
    _ = (hi + 1) * 2 ^ (64 - j) := (Nat.succ_mul ..).symm
    _ ≤ c * 2 ^ (64 - j) := Nat.mul_le_mul_right _ hc

/-- One times another one, by a third one. -/
def mulDivR (a b c : Nat) : AV := if c = 0 then .tup [un 0, un 0, iv 9] else if c ≤ a * b / 18446744073709551616 then .tup [un 0, un 0, iv 8] else .tup [un (a * b / c), un (a * b % c), iv 0]

theorem rMulDiv_s {a b c : Nat} (ha : a < 18446744073709551616) (hb : b < 18446744073709551616) (hc : c < 18446744073709551616) (k : Q (mulDivR a b c) m) : ACall Try.prog 20 [un a, un b, un c] m Q E := by
  refine pureR ?_ k
  refine acall_fn mixed Try.func20 Try.call20 e20 r20 (Nat.le_of_ble_eq_true rfl) ?_
  unfold mulDivR
  have hc0 : (((c : Nat) : Int) = 0) = (c = 0) := by apply propext; omega
  by_cases c0 : c = 0
  · subst c0
    simp only [n20, wf_preprocess, ↓reduceIte, Nat.reduceEqDiff, reduceCtorEq, Nat.reduceAdd, Nat.reduceMul, Nat.reduceLeDiff, Nat.reduceLT, Nat.reduceSub, Int.reduceToNat, Int.reduceNeg, Int.reduceAdd, Int.reduceSub, Int.reduceMul, Int.reduceEq, Int.reduceLT, Int.reduceLE, Int.reduceNe, forall_const, forall_eq', forall_eq, List.forall_mem_cons, List.not_mem_nil]
    try rfl
  simp only [n20, hc0, c0, wf_preprocess, ↓reduceIte, Nat.reduceEqDiff, reduceCtorEq, Nat.reduceAdd, Nat.reduceMul, Nat.reduceLeDiff, Nat.reduceLT, Nat.reduceSub, Int.reduceToNat, Int.reduceNeg, Int.reduceAdd, Int.reduceSub, Int.reduceMul, Int.reduceEq, Int.reduceLT, Int.reduceLE, Int.reduceNe, forall_const, forall_eq', forall_eq, List.forall_mem_cons, List.not_mem_nil]
  refine call_i (rTimes_s ha hb ?_)
  have hv : a * b / 18446744073709551616 * 18446744073709551616 + a * b % 18446744073709551616 = a * b := by omega
  have hl : a * b % 18446744073709551616 < 18446744073709551616 := by omega
  have hle : (((c : Nat) : Int) ≤ ((a * b / 18446744073709551616 : Nat) : Int)) = (c ≤ a * b / 18446744073709551616) := by apply propext; omega
  generalize a * b / 18446744073709551616 = hi at *
  generalize a * b % 18446744073709551616 = lo at *
  by_cases c1 : c ≤ hi
  · simp only [hle, c1, wf_preprocess, ↓reduceIte, Nat.reduceEqDiff, reduceCtorEq, Nat.reduceAdd, Nat.reduceMul, Nat.reduceLeDiff, Nat.reduceLT, Nat.reduceSub, Int.reduceToNat, Int.reduceNeg, Int.reduceAdd, Int.reduceSub, Int.reduceMul, Int.reduceEq, Int.reduceLT, Int.reduceLE, Int.reduceNe, forall_const, forall_eq', forall_eq, List.forall_mem_cons, List.not_mem_nil]
    rfl
  simp only [hle, c1, wf_preprocess, ↓reduceIte, Nat.reduceEqDiff, reduceCtorEq, Nat.reduceAdd, Nat.reduceMul, Nat.reduceLeDiff, Nat.reduceLT, Nat.reduceSub, Int.reduceToNat, Int.reduceNeg, Int.reduceAdd, Int.reduceSub, Int.reduceMul, Int.reduceEq, Int.reduceLT, Int.reduceLE, Int.reduceNe, forall_const, forall_eq', forall_eq, List.forall_mem_cons, List.not_mem_nil]
  rw [← hv]
  refine loop_i (fun j ρ m' => j ≤ 64 ∧ ρ 2 = un c ∧ ρ 10 = un lo ∧ ρ 13 = iv ((j : Int) - 1) ∧ ρ 11 = un (numN hi lo j / c) ∧ ρ 12 = un (numN hi lo j % c)) 64 ?_ ?_
  · have e0 : numN hi lo 64 = hi := by
      unfold numN
      rw [Nat.div_eq_of_lt (show lo < 2 ^ 64 from hl)]; simp
    rw [e0, Nat.div_eq_of_lt (show hi < c by omega), Nat.mod_eq_of_lt (show hi < c by omega)]
    simp only [wf_preprocess, ↓reduceIte, Nat.reduceEqDiff, reduceCtorEq, Nat.reduceAdd, Nat.reduceMul, Nat.reduceLeDiff, Nat.reduceLT, Nat.reduceSub, Int.reduceToNat, Int.reduceNeg, Int.reduceAdd, Int.reduceSub, Int.reduceMul, Int.reduceEq, Int.reduceLT, Int.reduceLE, Int.reduceNe, forall_const, forall_eq', forall_eq, List.forall_mem_cons, List.not_mem_nil]
    simp
  rintro j ρ m' ⟨hj, g2, g10, g13, g11, g12⟩
  rcases j with _ | i
  · have cc : ¬ (0 : Int) ≤ ((0 : Nat) : Int) - 1 := by omega
    have e0 : numN hi lo 0 = hi * 18446744073709551616 + lo := by unfold numN; simp
    simp only [g2, g10, g11, g12, g13, cc, e0, c1, wf_preprocess, ↓reduceIte, Nat.reduceEqDiff, reduceCtorEq, Nat.reduceAdd, Nat.reduceMul, Nat.reduceLeDiff, Nat.reduceLT, Nat.reduceSub, Int.reduceToNat, Int.reduceNeg, Int.reduceAdd, Int.reduceSub, Int.reduceMul, Int.reduceEq, Int.reduceLT, Int.reduceLE, Int.reduceNe, forall_const, forall_eq', forall_eq, List.forall_mem_cons, List.not_mem_nil]
    try rfl
  · have e13 : (((i + 1 : Nat) : Int) - 1) = (i : Int) := by omega
    rw [e13] at g13
    have w1 : IntKind.i64.wrap ((i : Int) - 1) = (i : Int) - 1 := by rw [wrap64] <;> omega
    have w2 : (0 : Int) ≤ U (i : Int) := by unfold U; omega
    have w3 : ¬ U (i : Int) < 0 := by omega
    have hlo2 : lo / 2 ^ i < 18446744073709551616 := Nat.lt_of_le_of_lt (Nat.div_le_self ..) hl
    have hq := numN_lt (j := i + 1) (show hi < c by omega) hl hj
    have hq2 : 2 ^ (64 - (i + 1)) ≤ 2 ^ 63 := Nat.pow_le_pow_right (by omega) (by omega)
    have hr := Nat.mod_lt (numN hi lo (i + 1)) (show 0 < c by omega)
    have ht : lo / 2 ^ i % 2 < 2 := Nat.mod_lt _ (by omega)
    obtain ⟨d1, d2⟩ := div_step (N := numN hi lo (i + 1)) (show 0 < c by omega) ht
    rw [← numN_step (by omega)] at d1 d2
    generalize numN hi lo (i + 1) / c = q at *
    generalize numN hi lo (i + 1) % c = r at *
    have hq3 : q < 9223372036854775808 := Nat.lt_of_lt_of_le hq hq2
    have ho := orn (x := r % 9223372036854775808) (b := lo / 2 ^ i % 2) ht (by omega)
    have ho1 := or1 (x := q % 9223372036854775808) (by omega)
    have htop : (((r / 9223372036854775808 : Nat) : Int) = 1) = (9223372036854775808 ≤ r) := by apply propext; omega
    have hge : ((c : Int) ≤ ((2 * (r % 9223372036854775808) + lo / 2 ^ i % 2 : Nat) : Int)) = (c ≤ 2 * (r % 9223372036854775808) + lo / 2 ^ i % 2) := by apply propext; omega
    have hand := and1 hlo2
    generalize lo / 2 ^ i % 2 = t at *
    by_cases t1 : 9223372036854775808 ≤ r <;> by_cases t2 : c ≤ 2 * (r % 9223372036854775808) + t
    all_goals
      simp only [g2, g10, g11, g12, g13, Int.natCast_nonneg, w1, w2, w3, wu, wi, shl1n, shr63n, shrn (show i < 64 by omega), hand, ho, ho1, htop, hge, t1, t2, wf_preprocess, ↓reduceIte, Nat.reduceEqDiff, reduceCtorEq, Nat.reduceAdd, Nat.reduceMul, Nat.reduceLeDiff, Nat.reduceLT, Nat.reduceSub, Int.reduceToNat, Int.reduceNeg, Int.reduceAdd, Int.reduceSub, Int.reduceMul, Int.reduceEq, Int.reduceLT, Int.reduceLE, Int.reduceNe, forall_const, forall_eq', forall_eq, List.forall_mem_cons, List.not_mem_nil]
      refine ⟨i, by omega, by omega, rfl, ?_, ?_⟩
      · rw [d1]; congr 2; split <;> omega
      · rw [d2]; congr 2; split <;> first | omega | (unfold U; omega)
end
end Go.Proofs.Ytjegieklpeipaaa.Moi.Num
