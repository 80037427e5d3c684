/- What functions of this program do, on plain values: a part of the proofs of this seat's laws; each theorem bears its own conditions. -/
import Derived.Test.YtjegieklpeipaaaNumB
import Derived.Lib.Mul64
set_option linter.unusedVariables false
set_option linter.unusedSimpArgs false
set_option maxRecDepth 1000000
namespace Go.Proofs.Ytjegieklpeipaaa.Moi.Num
open Go Go.RowKit Go.Proofs.Ytjegieklpeipaaa.Moi
attribute [-wf_preprocess] ite_eq_dite forIn_eq_forIn'

section
variable {a b n v far : Int} {ok below : Bool} {m : Heap} {l : List Int} {o : Own} {Q E : AV → Heap → Prop}
theorem U_nat {n : Nat} (h : n < 18446744073709551616) (e : a = (n : Int)) : U a = n := by rw [e, U_id]; unfold isU; omega
theorem U_add2 : U (a + U b) = U (a + b) := by unfold U; omega
theorem bits64 : IntKind.u64.bits = 64 := rfl
theorem lo32 (h : isU a) : U (((BitVec.ofInt IntKind.u64.bits a &&& BitVec.ofInt IntKind.u64.bits 4294967295).toNat : Nat) : Int) = a % 4294967296 := by
  have h2 : (BitVec.ofInt 64 a).toNat = a.toNat := by
    rw [BitVec.toNat_ofInt]; unfold isU at h; omega
  rw [bits64, BitVec.toNat_and, h2, show (BitVec.ofInt 64 4294967295).toNat = 2 ^ 32 - 1 from rfl, Nat.and_two_pow_sub_one_eq_mod]
  unfold isU at h; unfold U; omega
theorem hi32 : a.fdiv (2 ^ min 32 IntKind.u64.bits) = a / 4294967296 := by
  rw [show (2 : Int) ^ min 32 IntKind.u64.bits = 4294967296 from rfl, Int.fdiv_eq_ediv_of_nonneg _ (by omega)]

theorem Mul64_s {x y : Nat} (hx : x < 18446744073709551616) (hy : y < 18446744073709551616) (k : Q (.tup [u64v ((x * y / 18446744073709551616 : Nat) : Int), u64v ((x * y % 18446744073709551616 : Nat) : Int)]) m) : ACall Try.prog 22 [u64v x, u64v y] m Q E := by
  refine pureR ?_ k
  refine acall_fn mixed Try.func22 Try.call22 e22 r22 (Nat.le_of_ble_eq_true rfl) ?_
  obtain ⟨k1, k2, k3, k4⟩ := Go.Lib.mul64_hi x y hx hy
  have hux : isU (x : Int) := by unfold isU; omega
  have huy : isU (y : Int) := by unfold isU; omega
  have b1 : U (((x : Int) % 4294967296) * ((y : Int) % 4294967296)) = (((x % 4294967296) * (y % 4294967296) : Nat) : Int) :=
    U_nat k1 (by simp only [Int.natCast_add, Int.natCast_mul, Int.natCast_ediv, Int.natCast_emod]; rfl)
  have b2 : U (U ((x : Int) / 4294967296 * ((y : Int) % 4294967296)) + (((x % 4294967296) * (y % 4294967296) : Nat) : Int) / 4294967296) = (((x / 4294967296) * (y % 4294967296) + (x % 4294967296) * (y % 4294967296) / 4294967296 : Nat) : Int) := by
    rw [U_addr]
    exact U_nat k2 (by simp only [Int.natCast_add, Int.natCast_mul, Int.natCast_ediv, Int.natCast_emod]; rfl)
  simp only [n22, wu, lo32 hux, lo32 huy, hi32, b1, b2, wf_preprocess, ↓reduceIte, Nat.reduceEqDiff, reduceCtorEq, Nat.reduceAdd, Nat.reduceMul, Nat.reduceLeDiff, Nat.reduceLT, Nat.reduceSub, Int.reduceToNat, Int.reduceNeg, Int.reduceAdd, Int.reduceSub, Int.reduceMul, Int.reduceEq, Int.reduceLT, Int.reduceLE, Int.reduceNe, forall_const, forall_eq', forall_eq, List.forall_mem_cons, List.not_mem_nil]
  generalize hT : (x / 4294967296) * (y % 4294967296) + (x % 4294967296) * (y % 4294967296) / 4294967296 = t at *
  have hut : isU (t : Int) := by unfold isU; omega
  simp only [lo32 hut, hi32, wf_preprocess, ↓reduceIte, Nat.reduceEqDiff, reduceCtorEq, Nat.reduceAdd, Nat.reduceMul, Nat.reduceLeDiff, Nat.reduceLT, Nat.reduceSub, Int.reduceToNat, Int.reduceNeg, Int.reduceAdd, Int.reduceSub, Int.reduceMul, Int.reduceEq, Int.reduceLT, Int.reduceLE, Int.reduceNe, forall_const, forall_eq', forall_eq, List.forall_mem_cons, List.not_mem_nil]
  have b3 : U ((t : Int) % 4294967296 + U ((x : Int) % 4294967296 * ((y : Int) / 4294967296))) = ((t % 4294967296 + (x % 4294967296) * (y / 4294967296) : Nat) : Int) := by
    rw [U_add2]
    exact U_nat k3 (by simp only [Int.natCast_add, Int.natCast_mul, Int.natCast_ediv, Int.natCast_emod]; rfl)
  rw [b3]
  have b4 : U (U (U ((x : Int) / 4294967296 * ((y : Int) / 4294967296)) + (t : Int) / 4294967296) + ((t % 4294967296 + (x % 4294967296) * (y / 4294967296) : Nat) : Int) / 4294967296) = ((x * y / 18446744073709551616 : Nat) : Int) := by
    have : x * y / 18446744073709551616 < 18446744073709551616 := by
      rw [Nat.div_lt_iff_lt_mul (by omega)]
      exact Nat.mul_lt_mul'' hx hy
    rw [U_addr, Int.add_assoc, U_addr, ← Int.add_assoc]
    refine U_nat this ?_
    rw [← k4]
    simp only [Int.natCast_add, Int.natCast_mul, Int.natCast_ediv, Int.natCast_emod]; rfl
  rw [b4]
  have b5 : U ((x : Int) * (y : Int)) = ((x * y % 18446744073709551616 : Nat) : Int) := by
    rw [← Int.natCast_mul]
    generalize x * y = z
    unfold U; omega
  rw [b5]

/-- A number of 64 bits, by another one. -/
theorem Div64_0 {x c : Nat} (hx : x < 18446744073709551616) (hc : 0 < c) (hc2 : c < 18446744073709551616) (k : Q (.tup [u64v ((x / c : Nat) : Int), u64v ((x % c : Nat) : Int)]) m) : ACall Try.prog 23 [u64v 0, u64v x, u64v c] m Q E := by
  refine pureR ?_ k
  refine acall_fn mixed Try.func23 Try.call23 e23 r23 (Nat.le_of_ble_eq_true rfl) ?_
  have h1 : ¬ (c : Int) = 0 := by omega
  have h2 : ¬ (c : Int) ≤ 0 := by omega
  have h3 : U ((x : Int).tdiv c) = ((x / c : Nat) : Int) := by
    refine U_nat (Nat.lt_of_le_of_lt (Nat.div_le_self x c) hx) ?_
    rw [Int.ofNat_tdiv]
  have h4 : (x : Int).tmod c = ((x % c : Nat) : Int) := by rw [← Int.ofNat_tmod]
  simp only [n23, wu, h1, h2, h3, h4, wf_preprocess, ↓reduceIte, Nat.reduceEqDiff, reduceCtorEq, Nat.reduceAdd, Nat.reduceMul, Nat.reduceLeDiff, Nat.reduceLT, Nat.reduceSub, Int.reduceToNat, Int.reduceNeg, Int.reduceAdd, Int.reduceSub, Int.reduceMul, Int.reduceEq, Int.reduceLT, Int.reduceLE, Int.reduceNe, forall_const, forall_eq', forall_eq, List.forall_mem_cons, List.not_mem_nil]

theorem MulDiv_k (k : Q (.tup [u64v 14, u64v 2, iv 0]) m) : ACall Try.prog 17 [u64v 10, u64v 10, u64v 7] m Q E := by
  refine pureR ?_ k
  refine acall_fn mixed Try.func17 Try.call17 e17 r17 (Nat.le_of_ble_eq_true rfl) ?_
  simp only [n17, wf_preprocess, ↓reduceIte, Nat.reduceEqDiff, reduceCtorEq, Nat.reduceAdd, Nat.reduceMul, Nat.reduceLeDiff, Nat.reduceLT, Nat.reduceSub, Int.reduceToNat, Int.reduceNeg, Int.reduceAdd, Int.reduceSub, Int.reduceMul, Int.reduceEq, Int.reduceLT, Int.reduceLE, Int.reduceNe, forall_const, forall_eq', forall_eq, List.forall_mem_cons, List.not_mem_nil]
  refine call_i (Mul64_s (x := 10) (y := 10) (by omega) (by omega) ?_)
  simp only [show ((10 * 10 / 18446744073709551616 : Nat) : Int) = 0 from rfl, show ((10 * 10 % 18446744073709551616 : Nat) : Int) = 100 from rfl, wf_preprocess, ↓reduceIte, Nat.reduceEqDiff, reduceCtorEq, Nat.reduceAdd, Nat.reduceMul, Nat.reduceLeDiff, Nat.reduceLT, Nat.reduceSub, Int.reduceToNat, Int.reduceNeg, Int.reduceAdd, Int.reduceSub, Int.reduceMul, Int.reduceEq, Int.reduceLT, Int.reduceLE, Int.reduceNe, forall_const, forall_eq', forall_eq, List.forall_mem_cons, List.not_mem_nil]
  refine call_i (Div64_0 (x := 100) (c := 7) (by omega) (by omega) (by omega) ?_)
  simp only [show ((100 / 7 : Nat) : Int) = 14 from rfl, show ((100 % 7 : Nat) : Int) = 2 from rfl, wf_preprocess, ↓reduceIte, Nat.reduceEqDiff, reduceCtorEq, Nat.reduceAdd, Nat.reduceMul, Nat.reduceLeDiff, Nat.reduceLT, Nat.reduceSub, Int.reduceToNat, Int.reduceNeg, Int.reduceAdd, Int.reduceSub, Int.reduceMul, Int.reduceEq, Int.reduceLT, Int.reduceLE, Int.reduceNe, forall_const, forall_eq', forall_eq, List.forall_mem_cons, List.not_mem_nil]

end
end Go.Proofs.Ytjegieklpeipaaa.Moi.Num
