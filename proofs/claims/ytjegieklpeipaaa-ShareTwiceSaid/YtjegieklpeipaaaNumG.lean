/- What functions of this program do, on plain values: a part of the proofs of this seat's laws; each theorem bears its own conditions. -/
import Derived.Test.YtjegieklpeipaaaNumF
set_option linter.unusedVariables false
set_option linter.unusedSimpArgs false
set_option maxRecDepth 1000000
namespace Go.Proofs.Ytjegieklpeipaaa.Moi.Num
open Go Go.RowKit Go.Proofs.Ytjegieklpeipaaa.Moi
attribute [-wf_preprocess] ite_eq_dite forIn_eq_forIn'

/-! ### How long a number is -/
def tab : ByteArray := ⟨#[0, 1, 2, 2, 3, 3, 3, 3, 4, 4, 4, 4, 4, 4, 4, 4, 5, 5, 5, 5, 5, 5, 5, 5, 5, 5, 5, 5, 5, 5, 5, 5, 6, 6, 6, 6, 6, 6, 6, 6, 6, 6, 6, 6, 6, 6, 6, 6, 6, 6, 6, 6, 6, 6, 6, 6, 6, 6, 6, 6, 6, 6, 6, 6, 7, 7, 7, 7, 7, 7, 7, 7, 7, 7, 7, 7, 7, 7, 7, 7, 7, 7, 7, 7, 7, 7, 7, 7, 7, 7, 7, 7, 7, 7, 7, 7, 7, 7, 7, 7, 7, 7, 7, 7, 7, 7, 7, 7, 7, 7, 7, 7, 7, 7, 7, 7, 7, 7, 7, 7, 7, 7, 7, 7, 7, 7, 7, 7, 8, 8, 8, 8, 8, 8, 8, 8, 8, 8, 8, 8, 8, 8, 8, 8, 8, 8, 8, 8, 8, 8, 8, 8, 8, 8, 8, 8, 8, 8, 8, 8, 8, 8, 8, 8, 8, 8, 8, 8, 8, 8, 8, 8, 8, 8, 8, 8, 8, 8, 8, 8, 8, 8, 8, 8, 8, 8, 8, 8, 8, 8, 8, 8, 8, 8, 8, 8, 8, 8, 8, 8, 8, 8, 8, 8, 8, 8, 8, 8, 8, 8, 8, 8, 8, 8, 8, 8, 8, 8, 8, 8, 8, 8, 8, 8, 8, 8, 8, 8, 8, 8, 8, 8, 8, 8, 8, 8, 8, 8, 8, 8, 8, 8, 8, 8, 8, 8, 8, 8, 8, 8, 8, 8, 8, 8, 8, 8]⟩
theorem tab_all : ((List.range 256).all fun i => i == 0 || (match tab.data[i]? with | some c => decide (0 < c.toNat ∧ c.toNat ≤ 8 ∧ 2 ^ (c.toNat - 1) ≤ i ∧ i < 2 ^ c.toNat) | none => false)) = true := by decide +kernel
theorem tab_get {i : Nat} (h0 : 0 < i) (h : i < 256) : ∃ c, tab.data[i]? = some c ∧ 0 < c.toNat ∧ c.toNat ≤ 8 ∧ 2 ^ (c.toNat - 1) ≤ i ∧ i < 2 ^ c.toNat := by
  have := List.all_eq_true.1 tab_all i (List.mem_range.2 h)
  rw [show (i == 0) = false by simp; omega, Bool.false_or] at this
  split at this
  · rename_i c hc
    exact ⟨c, hc, by simpa using this⟩
  · cases this
theorem len_shift {x S c : Nat} (hc : 0 < c) (h1 : 2 ^ (c - 1) ≤ x / 2 ^ S) (h2 : x / 2 ^ S < 2 ^ c) : x.log2 + 1 = S + c := by
  rw [Nat.le_div_iff_mul_le (Nat.two_pow_pos S), ← Nat.pow_add] at h1
  rw [Nat.div_lt_iff_lt_mul (Nat.two_pow_pos S), ← Nat.pow_add] at h2
  have hx : x ≠ 0 := by have := Nat.two_pow_pos (c - 1 + S); omega
  have := (Nat.log2_eq_iff hx (k := S + c - 1)).2 ⟨by rw [show S + c - 1 = c - 1 + S by omega]; exact h1, by rw [show S + c - 1 + 1 = c + S by omega]; exact h2⟩
  omega
theorem le_n {a : Nat} {k : Nat} : ((k : Int) ≤ (a : Int)) = (k ≤ a) := propext Int.ofNat_le
theorem le32 {a : Nat} : ((4294967296 : Int) ≤ (a : Int)) = (4294967296 ≤ a) := by apply propext; omega
theorem le16 {a : Nat} : ((65536 : Int) ≤ (a : Int)) = (65536 ≤ a) := by apply propext; omega
theorem le8 {a : Nat} : ((256 : Int) ≤ (a : Int)) = (256 ≤ a) := by apply propext; omega
theorem sr32 {a : Nat} : (a : Int).fdiv (2 ^ min 32 IntKind.u64.bits) = ((a / 4294967296 : Nat) : Int) := by
  rw [show (2 : Int) ^ min 32 IntKind.u64.bits = 4294967296 from rfl, Int.fdiv_eq_ediv_of_nonneg _ (by omega)]; omega
theorem sr16 {a : Nat} : (a : Int).fdiv (2 ^ min 16 IntKind.u64.bits) = ((a / 65536 : Nat) : Int) := by
  rw [show (2 : Int) ^ min 16 IntKind.u64.bits = 65536 from rfl, Int.fdiv_eq_ediv_of_nonneg _ (by omega)]; omega
theorem sr8 {a : Nat} : (a : Int).fdiv (2 ^ min 8 IntKind.u64.bits) = ((a / 256 : Nat) : Int) := by
  rw [show (2 : Int) ^ min 8 IntKind.u64.bits = 256 from rfl, Int.fdiv_eq_ediv_of_nonneg _ (by omega)]; omega
theorem wrap8 {a : Nat} (h : a < 256) : IntKind.u8.wrap (a : Int) = a := by simp [IntKind.wrap, IntKind.signed, IntKind.bits]; omega

section
variable {Q E : AV → Heap → Prop} {m : Heap}
theorem Len64_s {x : Nat} (h0 : 0 < x) (hx : x < 18446744073709551616) (k : Q (iv ((x.log2 + 1 : Nat) : Int)) m) : ACall Try.prog 28 [un x] m Q E := by
  refine pureR ?_ k
  refine acall_fn mixed Try.func28 Try.call28 e28 r28 (Nat.le_of_ble_eq_true rfl) ?_
  by_cases c0 : 4294967296 ≤ x
  · by_cases c1 : 65536 ≤ x / 4294967296
    · by_cases c2 : 256 ≤ x / 4294967296 / 65536
      · have hy0 : 0 < x / 4294967296 / 65536 / 256 := by omega
        have hy1 : x / 4294967296 / 65536 / 256 < 256 := by omega
        obtain ⟨c, t1, t2, t3, t4, t5⟩ := tab_get hy0 hy1
        have hn : x.log2 + 1 = 56 + c.toNat := len_shift (x := x) (S := 56) (c := c.toNat) t2 (by rw [show x / 2 ^ 56 = x / 4294967296 / 65536 / 256 by omega]; exact t4) (by rw [show x / 2 ^ 56 = x / 4294967296 / 65536 / 256 by omega]; exact t5)
        have w1 : IntKind.i64.wrap (c.toNat : Int) = (c.toNat : Int) := by rw [wrap64] <;> omega
        have w2 : IntKind.i64.wrap (56 + (c.toNat : Int)) = ((x.log2 + 1 : Nat) : Int) := by rw [wrap64, hn] <;> omega
        have w3 : IntKind.i64.wrap (c.toNat : Int) = ((x.log2 + 1 : Nat) : Int) ∨ 56 ≠ 0 := by first | exact .inr (by omega) | (left; rw [wrap64, hn] <;> omega)
        simp only [n28, c0, c1, c2, le32, le16, le8, sr32, sr16, sr8, wrap8 hy1, Int.natCast_nonneg, show IntKind.i64.wrap (32 + 16) = 48 from rfl, show IntKind.i64.wrap (32 + 8) = 40 from rfl, show IntKind.i64.wrap (16 + 8) = 24 from rfl, show IntKind.i64.wrap (48 + 8) = 56 from rfl, show IntKind.i64.wrap (0 + 16) = 16 from rfl, show IntKind.i64.wrap (0 + 8) = 8 from rfl, show IntKind.i64.wrap 16 = 16 from rfl, show IntKind.i64.wrap 8 = 8 from rfl, show IntKind.i64.wrap 48 = 48 from rfl, show IntKind.i64.wrap 40 = 40 from rfl, show IntKind.i64.wrap 24 = 24 from rfl, show IntKind.i64.wrap 56 = 56 from rfl, wf_preprocess, ↓reduceIte, Nat.reduceEqDiff, reduceCtorEq, Nat.reduceAdd, Nat.reduceMul, Nat.reduceLeDiff, Nat.reduceLT, Nat.reduceSub, Int.reduceToNat, Int.reduceNeg, Int.reduceAdd, Int.reduceSub, Int.reduceMul, Int.reduceEq, Int.reduceLT, Int.reduceLE, Int.reduceNe, forall_const, forall_eq', forall_eq, List.forall_mem_cons, List.not_mem_nil]
        refine withS_i t1 ?_
        simp only [w1, w2, wf_preprocess, ↓reduceIte, Nat.reduceEqDiff, reduceCtorEq, Nat.reduceAdd, Nat.reduceMul, Nat.reduceLeDiff, Nat.reduceLT, Nat.reduceSub, Int.reduceToNat, Int.reduceNeg, Int.reduceAdd, Int.reduceSub, Int.reduceMul, Int.reduceEq, Int.reduceLT, Int.reduceLE, Int.reduceNe, forall_const, forall_eq', forall_eq, List.forall_mem_cons, List.not_mem_nil]
      · have hy0 : 0 < x / 4294967296 / 65536 := by omega
        have hy1 : x / 4294967296 / 65536 < 256 := by omega
        obtain ⟨c, t1, t2, t3, t4, t5⟩ := tab_get hy0 hy1
        have hn : x.log2 + 1 = 48 + c.toNat := len_shift (x := x) (S := 48) (c := c.toNat) t2 (by rw [show x / 2 ^ 48 = x / 4294967296 / 65536 by omega]; exact t4) (by rw [show x / 2 ^ 48 = x / 4294967296 / 65536 by omega]; exact t5)
        have w1 : IntKind.i64.wrap (c.toNat : Int) = (c.toNat : Int) := by rw [wrap64] <;> omega
        have w2 : IntKind.i64.wrap (48 + (c.toNat : Int)) = ((x.log2 + 1 : Nat) : Int) := by rw [wrap64, hn] <;> omega
        have w3 : IntKind.i64.wrap (c.toNat : Int) = ((x.log2 + 1 : Nat) : Int) ∨ 48 ≠ 0 := by first | exact .inr (by omega) | (left; rw [wrap64, hn] <;> omega)
        simp only [n28, c0, c1, c2, le32, le16, le8, sr32, sr16, sr8, wrap8 hy1, Int.natCast_nonneg, show IntKind.i64.wrap (32 + 16) = 48 from rfl, show IntKind.i64.wrap (32 + 8) = 40 from rfl, show IntKind.i64.wrap (16 + 8) = 24 from rfl, show IntKind.i64.wrap (48 + 8) = 56 from rfl, show IntKind.i64.wrap (0 + 16) = 16 from rfl, show IntKind.i64.wrap (0 + 8) = 8 from rfl, show IntKind.i64.wrap 16 = 16 from rfl, show IntKind.i64.wrap 8 = 8 from rfl, show IntKind.i64.wrap 48 = 48 from rfl, show IntKind.i64.wrap 40 = 40 from rfl, show IntKind.i64.wrap 24 = 24 from rfl, show IntKind.i64.wrap 56 = 56 from rfl, wf_preprocess, ↓reduceIte, Nat.reduceEqDiff, reduceCtorEq, Nat.reduceAdd, Nat.reduceMul, Nat.reduceLeDiff, Nat.reduceLT, Nat.reduceSub, Int.reduceToNat, Int.reduceNeg, Int.reduceAdd, Int.reduceSub, Int.reduceMul, Int.reduceEq, Int.reduceLT, Int.reduceLE, Int.reduceNe, forall_const, forall_eq', forall_eq, List.forall_mem_cons, List.not_mem_nil]
        refine withS_i t1 ?_
        simp only [w1, w2, wf_preprocess, ↓reduceIte, Nat.reduceEqDiff, reduceCtorEq, Nat.reduceAdd, Nat.reduceMul, Nat.reduceLeDiff, Nat.reduceLT, Nat.reduceSub, Int.reduceToNat, Int.reduceNeg, Int.reduceAdd, Int.reduceSub, Int.reduceMul, Int.reduceEq, Int.reduceLT, Int.reduceLE, Int.reduceNe, forall_const, forall_eq', forall_eq, List.forall_mem_cons, List.not_mem_nil]
    · by_cases c2 : 256 ≤ x / 4294967296
      · have hy0 : 0 < x / 4294967296 / 256 := by omega
        have hy1 : x / 4294967296 / 256 < 256 := by omega
        obtain ⟨c, t1, t2, t3, t4, t5⟩ := tab_get hy0 hy1
        have hn : x.log2 + 1 = 40 + c.toNat := len_shift (x := x) (S := 40) (c := c.toNat) t2 (by rw [show x / 2 ^ 40 = x / 4294967296 / 256 by omega]; exact t4) (by rw [show x / 2 ^ 40 = x / 4294967296 / 256 by omega]; exact t5)
        have w1 : IntKind.i64.wrap (c.toNat : Int) = (c.toNat : Int) := by rw [wrap64] <;> omega
        have w2 : IntKind.i64.wrap (40 + (c.toNat : Int)) = ((x.log2 + 1 : Nat) : Int) := by rw [wrap64, hn] <;> omega
        have w3 : IntKind.i64.wrap (c.toNat : Int) = ((x.log2 + 1 : Nat) : Int) ∨ 40 ≠ 0 := by first | exact .inr (by omega) | (left; rw [wrap64, hn] <;> omega)
        simp only [n28, c0, c1, c2, le32, le16, le8, sr32, sr16, sr8, wrap8 hy1, Int.natCast_nonneg, show IntKind.i64.wrap (32 + 16) = 48 from rfl, show IntKind.i64.wrap (32 + 8) = 40 from rfl, show IntKind.i64.wrap (16 + 8) = 24 from rfl, show IntKind.i64.wrap (48 + 8) = 56 from rfl, show IntKind.i64.wrap (0 + 16) = 16 from rfl, show IntKind.i64.wrap (0 + 8) = 8 from rfl, show IntKind.i64.wrap 16 = 16 from rfl, show IntKind.i64.wrap 8 = 8 from rfl, show IntKind.i64.wrap 48 = 48 from rfl, show IntKind.i64.wrap 40 = 40 from rfl, show IntKind.i64.wrap 24 = 24 from rfl, show IntKind.i64.wrap 56 = 56 from rfl, wf_preprocess, ↓reduceIte, Nat.reduceEqDiff, reduceCtorEq, Nat.reduceAdd, Nat.reduceMul, Nat.reduceLeDiff, Nat.reduceLT, Nat.reduceSub, Int.reduceToNat, Int.reduceNeg, Int.reduceAdd, Int.reduceSub, Int.reduceMul, Int.reduceEq, Int.reduceLT, Int.reduceLE, Int.reduceNe, forall_const, forall_eq', forall_eq, List.forall_mem_cons, List.not_mem_nil]
        refine withS_i t1 ?_
        simp only [w1, w2, wf_preprocess, ↓reduceIte, Nat.reduceEqDiff, reduceCtorEq, Nat.reduceAdd, Nat.reduceMul, Nat.reduceLeDiff, Nat.reduceLT, Nat.reduceSub, Int.reduceToNat, Int.reduceNeg, Int.reduceAdd, Int.reduceSub, Int.reduceMul, Int.reduceEq, Int.reduceLT, Int.reduceLE, Int.reduceNe, forall_const, forall_eq', forall_eq, List.forall_mem_cons, List.not_mem_nil]
      · have hy0 : 0 < x / 4294967296 := by omega
        have hy1 : x / 4294967296 < 256 := by omega
        obtain ⟨c, t1, t2, t3, t4, t5⟩ := tab_get hy0 hy1
        have hn : x.log2 + 1 = 32 + c.toNat := len_shift (x := x) (S := 32) (c := c.toNat) t2 (by rw [show x / 2 ^ 32 = x / 4294967296 by omega]; exact t4) (by rw [show x / 2 ^ 32 = x / 4294967296 by omega]; exact t5)
        have w1 : IntKind.i64.wrap (c.toNat : Int) = (c.toNat : Int) := by rw [wrap64] <;> omega
        have w2 : IntKind.i64.wrap (32 + (c.toNat : Int)) = ((x.log2 + 1 : Nat) : Int) := by rw [wrap64, hn] <;> omega
        have w3 : IntKind.i64.wrap (c.toNat : Int) = ((x.log2 + 1 : Nat) : Int) ∨ 32 ≠ 0 := by first | exact .inr (by omega) | (left; rw [wrap64, hn] <;> omega)
        simp only [n28, c0, c1, c2, le32, le16, le8, sr32, sr16, sr8, wrap8 hy1, Int.natCast_nonneg, show IntKind.i64.wrap (32 + 16) = 48 from rfl, show IntKind.i64.wrap (32 + 8) = 40 from rfl, show IntKind.i64.wrap (16 + 8) = 24 from rfl, show IntKind.i64.wrap (48 + 8) = 56 from rfl, show IntKind.i64.wrap (0 + 16) = 16 from rfl, show IntKind.i64.wrap (0 + 8) = 8 from rfl, show IntKind.i64.wrap 16 = 16 from rfl, show IntKind.i64.wrap 8 = 8 from rfl, show IntKind.i64.wrap 48 = 48 from rfl, show IntKind.i64.wrap 40 = 40 from rfl, show IntKind.i64.wrap 24 = 24 from rfl, show IntKind.i64.wrap 56 = 56 from rfl, wf_preprocess, ↓reduceIte, Nat.reduceEqDiff, reduceCtorEq, Nat.reduceAdd, Nat.reduceMul, Nat.reduceLeDiff, Nat.reduceLT, Nat.reduceSub, Int.reduceToNat, Int.reduceNeg, Int.reduceAdd, Int.reduceSub, Int.reduceMul, Int.reduceEq, Int.reduceLT, Int.reduceLE, Int.reduceNe, forall_const, forall_eq', forall_eq, List.forall_mem_cons, List.not_mem_nil]
        refine withS_i t1 ?_
        simp only [w1, w2, wf_preprocess, ↓reduceIte, Nat.reduceEqDiff, reduceCtorEq, Nat.reduceAdd, Nat.reduceMul, Nat.reduceLeDiff, Nat.reduceLT, Nat.reduceSub, Int.reduceToNat, Int.reduceNeg, Int.reduceAdd, Int.reduceSub, Int.reduceMul, Int.reduceEq, Int.reduceLT, Int.reduceLE, Int.reduceNe, forall_const, forall_eq', forall_eq, List.forall_mem_cons, List.not_mem_nil]
  · by_cases c1 : 65536 ≤ x
    · by_cases c2 : 256 ≤ x / 65536
      · have hy0 : 0 < x / 65536 / 256 := by omega
        have hy1 : x / 65536 / 256 < 256 := by omega
        obtain ⟨c, t1, t2, t3, t4, t5⟩ := tab_get hy0 hy1
        have hn : x.log2 + 1 = 24 + c.toNat := len_shift (x := x) (S := 24) (c := c.toNat) t2 (by rw [show x / 2 ^ 24 = x / 65536 / 256 by omega]; exact t4) (by rw [show x / 2 ^ 24 = x / 65536 / 256 by omega]; exact t5)
        have w1 : IntKind.i64.wrap (c.toNat : Int) = (c.toNat : Int) := by rw [wrap64] <;> omega
        have w2 : IntKind.i64.wrap (24 + (c.toNat : Int)) = ((x.log2 + 1 : Nat) : Int) := by rw [wrap64, hn] <;> omega
        have w3 : IntKind.i64.wrap (c.toNat : Int) = ((x.log2 + 1 : Nat) : Int) ∨ 24 ≠ 0 := by first | exact .inr (by omega) | (left; rw [wrap64, hn] <;> omega)
        simp only [n28, c0, c1, c2, le32, le16, le8, sr32, sr16, sr8, wrap8 hy1, Int.natCast_nonneg, show IntKind.i64.wrap (32 + 16) = 48 from rfl, show IntKind.i64.wrap (32 + 8) = 40 from rfl, show IntKind.i64.wrap (16 + 8) = 24 from rfl, show IntKind.i64.wrap (48 + 8) = 56 from rfl, show IntKind.i64.wrap (0 + 16) = 16 from rfl, show IntKind.i64.wrap (0 + 8) = 8 from rfl, show IntKind.i64.wrap 16 = 16 from rfl, show IntKind.i64.wrap 8 = 8 from rfl, show IntKind.i64.wrap 48 = 48 from rfl, show IntKind.i64.wrap 40 = 40 from rfl, show IntKind.i64.wrap 24 = 24 from rfl, show IntKind.i64.wrap 56 = 56 from rfl, wf_preprocess, ↓reduceIte, Nat.reduceEqDiff, reduceCtorEq, Nat.reduceAdd, Nat.reduceMul, Nat.reduceLeDiff, Nat.reduceLT, Nat.reduceSub, Int.reduceToNat, Int.reduceNeg, Int.reduceAdd, Int.reduceSub, Int.reduceMul, Int.reduceEq, Int.reduceLT, Int.reduceLE, Int.reduceNe, forall_const, forall_eq', forall_eq, List.forall_mem_cons, List.not_mem_nil]
        refine withS_i t1 ?_
        simp only [w1, w2, wf_preprocess, ↓reduceIte, Nat.reduceEqDiff, reduceCtorEq, Nat.reduceAdd, Nat.reduceMul, Nat.reduceLeDiff, Nat.reduceLT, Nat.reduceSub, Int.reduceToNat, Int.reduceNeg, Int.reduceAdd, Int.reduceSub, Int.reduceMul, Int.reduceEq, Int.reduceLT, Int.reduceLE, Int.reduceNe, forall_const, forall_eq', forall_eq, List.forall_mem_cons, List.not_mem_nil]
      · have hy0 : 0 < x / 65536 := by omega
        have hy1 : x / 65536 < 256 := by omega
        obtain ⟨c, t1, t2, t3, t4, t5⟩ := tab_get hy0 hy1
        have hn : x.log2 + 1 = 16 + c.toNat := len_shift (x := x) (S := 16) (c := c.toNat) t2 (by rw [show x / 2 ^ 16 = x / 65536 by omega]; exact t4) (by rw [show x / 2 ^ 16 = x / 65536 by omega]; exact t5)
        have w1 : IntKind.i64.wrap (c.toNat : Int) = (c.toNat : Int) := by rw [wrap64] <;> omega
        have w2 : IntKind.i64.wrap (16 + (c.toNat : Int)) = ((x.log2 + 1 : Nat) : Int) := by rw [wrap64, hn] <;> omega
        have w3 : IntKind.i64.wrap (c.toNat : Int) = ((x.log2 + 1 : Nat) : Int) ∨ 16 ≠ 0 := by first | exact .inr (by omega) | (left; rw [wrap64, hn] <;> omega)
        simp only [n28, c0, c1, c2, le32, le16, le8, sr32, sr16, sr8, wrap8 hy1, Int.natCast_nonneg, show IntKind.i64.wrap (32 + 16) = 48 from rfl, show IntKind.i64.wrap (32 + 8) = 40 from rfl, show IntKind.i64.wrap (16 + 8) = 24 from rfl, show IntKind.i64.wrap (48 + 8) = 56 from rfl, show IntKind.i64.wrap (0 + 16) = 16 from rfl, show IntKind.i64.wrap (0 + 8) = 8 from rfl, show IntKind.i64.wrap 16 = 16 from rfl, show IntKind.i64.wrap 8 = 8 from rfl, show IntKind.i64.wrap 48 = 48 from rfl, show IntKind.i64.wrap 40 = 40 from rfl, show IntKind.i64.wrap 24 = 24 from rfl, show IntKind.i64.wrap 56 = 56 from rfl, wf_preprocess, ↓reduceIte, Nat.reduceEqDiff, reduceCtorEq, Nat.reduceAdd, Nat.reduceMul, Nat.reduceLeDiff, Nat.reduceLT, Nat.reduceSub, Int.reduceToNat, Int.reduceNeg, Int.reduceAdd, Int.reduceSub, Int.reduceMul, Int.reduceEq, Int.reduceLT, Int.reduceLE, Int.reduceNe, forall_const, forall_eq', forall_eq, List.forall_mem_cons, List.not_mem_nil]
        refine withS_i t1 ?_
        simp only [w1, w2, wf_preprocess, ↓reduceIte, Nat.reduceEqDiff, reduceCtorEq, Nat.reduceAdd, Nat.reduceMul, Nat.reduceLeDiff, Nat.reduceLT, Nat.reduceSub, Int.reduceToNat, Int.reduceNeg, Int.reduceAdd, Int.reduceSub, Int.reduceMul, Int.reduceEq, Int.reduceLT, Int.reduceLE, Int.reduceNe, forall_const, forall_eq', forall_eq, List.forall_mem_cons, List.not_mem_nil]
    · by_cases c2 : 256 ≤ x
      · have hy0 : 0 < x / 256 := by omega
        have hy1 : x / 256 < 256 := by omega
        obtain ⟨c, t1, t2, t3, t4, t5⟩ := tab_get hy0 hy1
        have hn : x.log2 + 1 = 8 + c.toNat := len_shift (x := x) (S := 8) (c := c.toNat) t2 (by rw [show x / 2 ^ 8 = x / 256 by omega]; exact t4) (by rw [show x / 2 ^ 8 = x / 256 by omega]; exact t5)
        have w1 : IntKind.i64.wrap (c.toNat : Int) = (c.toNat : Int) := by rw [wrap64] <;> omega
        have w2 : IntKind.i64.wrap (8 + (c.toNat : Int)) = ((x.log2 + 1 : Nat) : Int) := by rw [wrap64, hn] <;> omega
        have w3 : IntKind.i64.wrap (c.toNat : Int) = ((x.log2 + 1 : Nat) : Int) ∨ 8 ≠ 0 := by first | exact .inr (by omega) | (left; rw [wrap64, hn] <;> omega)
        simp only [n28, c0, c1, c2, le32, le16, le8, sr32, sr16, sr8, wrap8 hy1, Int.natCast_nonneg, show IntKind.i64.wrap (32 + 16) = 48 from rfl, show IntKind.i64.wrap (32 + 8) = 40 from rfl, show IntKind.i64.wrap (16 + 8) = 24 from rfl, show IntKind.i64.wrap (48 + 8) = 56 from rfl, show IntKind.i64.wrap (0 + 16) = 16 from rfl, show IntKind.i64.wrap (0 + 8) = 8 from rfl, show IntKind.i64.wrap 16 = 16 from rfl, show IntKind.i64.wrap 8 = 8 from rfl, show IntKind.i64.wrap 48 = 48 from rfl, show IntKind.i64.wrap 40 = 40 from rfl, show IntKind.i64.wrap 24 = 24 from rfl, show IntKind.i64.wrap 56 = 56 from rfl, wf_preprocess, ↓reduceIte, Nat.reduceEqDiff, reduceCtorEq, Nat.reduceAdd, Nat.reduceMul, Nat.reduceLeDiff, Nat.reduceLT, Nat.reduceSub, Int.reduceToNat, Int.reduceNeg, Int.reduceAdd, Int.reduceSub, Int.reduceMul, Int.reduceEq, Int.reduceLT, Int.reduceLE, Int.reduceNe, forall_const, forall_eq', forall_eq, List.forall_mem_cons, List.not_mem_nil]
        refine withS_i t1 ?_
        simp only [w1, w2, wf_preprocess, ↓reduceIte, Nat.reduceEqDiff, reduceCtorEq, Nat.reduceAdd, Nat.reduceMul, Nat.reduceLeDiff, Nat.reduceLT, Nat.reduceSub, Int.reduceToNat, Int.reduceNeg, Int.reduceAdd, Int.reduceSub, Int.reduceMul, Int.reduceEq, Int.reduceLT, Int.reduceLE, Int.reduceNe, forall_const, forall_eq', forall_eq, List.forall_mem_cons, List.not_mem_nil]
      · have hy0 : 0 < x := by omega
        have hy1 : x < 256 := by omega
        obtain ⟨c, t1, t2, t3, t4, t5⟩ := tab_get hy0 hy1
        have hn : x.log2 + 1 = 0 + c.toNat := len_shift (x := x) (S := 0) (c := c.toNat) t2 (by rw [show x / 2 ^ 0 = x by omega]; exact t4) (by rw [show x / 2 ^ 0 = x by omega]; exact t5)
        have w1 : IntKind.i64.wrap (c.toNat : Int) = (c.toNat : Int) := by rw [wrap64] <;> omega
        have w2 : IntKind.i64.wrap (0 + (c.toNat : Int)) = ((x.log2 + 1 : Nat) : Int) := by rw [wrap64, hn] <;> omega
        have w3 : IntKind.i64.wrap (c.toNat : Int) = ((x.log2 + 1 : Nat) : Int) ∨ 0 ≠ 0 := by first | exact .inr (by omega) | (left; rw [wrap64, hn] <;> omega)
        simp only [n28, c0, c1, c2, le32, le16, le8, sr32, sr16, sr8, wrap8 hy1, Int.natCast_nonneg, show IntKind.i64.wrap (32 + 16) = 48 from rfl, show IntKind.i64.wrap (32 + 8) = 40 from rfl, show IntKind.i64.wrap (16 + 8) = 24 from rfl, show IntKind.i64.wrap (48 + 8) = 56 from rfl, show IntKind.i64.wrap (0 + 16) = 16 from rfl, show IntKind.i64.wrap (0 + 8) = 8 from rfl, show IntKind.i64.wrap 16 = 16 from rfl, show IntKind.i64.wrap 8 = 8 from rfl, show IntKind.i64.wrap 48 = 48 from rfl, show IntKind.i64.wrap 40 = 40 from rfl, show IntKind.i64.wrap 24 = 24 from rfl, show IntKind.i64.wrap 56 = 56 from rfl, wf_preprocess, ↓reduceIte, Nat.reduceEqDiff, reduceCtorEq, Nat.reduceAdd, Nat.reduceMul, Nat.reduceLeDiff, Nat.reduceLT, Nat.reduceSub, Int.reduceToNat, Int.reduceNeg, Int.reduceAdd, Int.reduceSub, Int.reduceMul, Int.reduceEq, Int.reduceLT, Int.reduceLE, Int.reduceNe, forall_const, forall_eq', forall_eq, List.forall_mem_cons, List.not_mem_nil]
        refine withS_i t1 ?_
        simp only [w1, w3.resolve_right (by omega), hn, Int.zero_add, wf_preprocess, ↓reduceIte, Nat.reduceEqDiff, reduceCtorEq, Nat.reduceAdd, Nat.reduceMul, Nat.reduceLeDiff, Nat.reduceLT, Nat.reduceSub, Int.reduceToNat, Int.reduceNeg, Int.reduceAdd, Int.reduceSub, Int.reduceMul, Int.reduceEq, Int.reduceLT, Int.reduceLE, Int.reduceNe, forall_const, forall_eq', forall_eq, List.forall_mem_cons, List.not_mem_nil]
        try (congr 2; omega)

theorem LZ_s {x : Nat} (h0 : 0 < x) (hx : x < 18446744073709551616) (k : Q (iv ((63 - x.log2 : Nat) : Int)) m) : ACall Try.prog 25 [un x] m Q E := by
  refine pureR ?_ k
  refine acall_fn mixed Try.func25 Try.call25 e25 r25 (Nat.le_of_ble_eq_true rfl) ?_
  simp only [n25, wf_preprocess, ↓reduceIte, Nat.reduceEqDiff, reduceCtorEq, Nat.reduceAdd, Nat.reduceMul, Nat.reduceLeDiff, Nat.reduceLT, Nat.reduceSub, Int.reduceToNat, Int.reduceNeg, Int.reduceAdd, Int.reduceSub, Int.reduceMul, Int.reduceEq, Int.reduceLT, Int.reduceLE, Int.reduceNe, forall_const, forall_eq', forall_eq, List.forall_mem_cons, List.not_mem_nil]
  refine call_i (Len64_s h0 hx ?_)
  have hl : x.log2 < 64 := (Nat.log2_lt (by omega)).2 hx
  have e : IntKind.i64.wrap (64 - ((x.log2 + 1 : Nat) : Int)) = ((63 - x.log2 : Nat) : Int) := by rw [wrap64] <;> omega
  simp only [e, wf_preprocess, ↓reduceIte, Nat.reduceEqDiff, reduceCtorEq, Nat.reduceAdd, Nat.reduceMul, Nat.reduceLeDiff, Nat.reduceLT, Nat.reduceSub, Int.reduceToNat, Int.reduceNeg, Int.reduceAdd, Int.reduceSub, Int.reduceMul, Int.reduceEq, Int.reduceLT, Int.reduceLE, Int.reduceNe, forall_const, forall_eq', forall_eq, List.forall_mem_cons, List.not_mem_nil]
end
end Go.Proofs.Ytjegieklpeipaaa.Moi.Num
