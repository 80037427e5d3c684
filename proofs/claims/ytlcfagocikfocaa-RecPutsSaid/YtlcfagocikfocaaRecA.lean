/- What functions of this program do, on plain values: a part of the proofs of this seat's laws; each theorem bears its own conditions. -/
import Derived.Test.YtlcfagocikfocaaLibWireJ
set_option linter.unusedVariables false
set_option linter.unusedSimpArgs false
set_option maxRecDepth 1000000
namespace Go.Proofs.Ytlcfagocikfocaa.Moi.Rec
open Go Go.RowKit Go.Proofs.Ytlcfagocikfocaa.Moi
attribute [-wf_preprocess] ite_eq_dite forIn_eq_forIn'

/-! ### Sums of bytes -/
abbrev u32v (c : BitVec 32) : AV := .sc (.int .u32 (c.toNat : Int))
def poly : BitVec 32 := 0xedb88320#32
def stp (c : BitVec 32) : BitVec 32 := (c >>> 1) ^^^ (if c.toNat % 2 = 1 then poly else 0#32)
def stps : Nat → BitVec 32 → BitVec 32
  | 0, c => c
  | n + 1, c => stp (stps n c)
def crcB (c : BitVec 32) (x : Int) : BitVec 32 := stps 8 (c ^^^ BitVec.ofNat 32 x.toNat)
def crcS (l : List Int) : BitVec 32 := l.foldl crcB (BitVec.allOnes 32)
def crc (l : List Int) : BitVec 32 := ~~~ crcS l
def sumB (s : Nat) : List Int := [((s % 256 : Nat) : Int), ((s / 256 % 256 : Nat) : Int), ((s / 65536 % 256 : Nat) : Int), ((s / 16777216 % 256 : Nat) : Int)]
theorem crcS_snoc {l : List Int} {i : Nat} {x : Int} (h : l[i]? = some x) : crcS (l.take (i + 1)) = crcB (crcS (l.take i)) x := by
  rw [List.take_add_one, h, crcS, List.foldl_append]; rfl
theorem sum_byte (s : Nat) : byteL (sumB s) := by
  intro c hc
  simp only [sumB, List.mem_cons, List.not_mem_nil, or_false] at hc
  omega

theorem bits32 : IntKind.u32.bits = 32 := rfl
theorem wrap_u32 {a : Int} : IntKind.u32.wrap a = a % 4294967296 := by simp [IntKind.wrap, IntKind.signed, IntKind.bits]
theorem wrap_n {a : BitVec 32} : IntKind.u32.wrap (a.toNat : Int) = (a.toNat : Int) := by rw [wrap_u32]; have := a.isLt; omega
theorem of_n {a : BitVec 32} : BitVec.ofInt 32 (a.toNat : Int) = a := by
  apply BitVec.eq_of_toNat_eq
  rw [BitVec.toNat_ofInt]
  have := a.isLt
  omega
theorem u32_xor {a b : BitVec 32} : IntKind.u32.wrap (((BitVec.ofInt IntKind.u32.bits (a.toNat : Int) ^^^ BitVec.ofInt IntKind.u32.bits (b.toNat : Int)).toNat : Nat) : Int) = ((a ^^^ b).toNat : Int) := by
  rw [bits32, of_n, of_n, wrap_n]
theorem u32_xorc {a : BitVec 32} {n : Int} (h0 : 0 ≤ n) (h : n < 4294967296) : IntKind.u32.wrap (((BitVec.ofInt IntKind.u32.bits (a.toNat : Int) ^^^ BitVec.ofInt IntKind.u32.bits n).toNat : Nat) : Int) = ((a ^^^ BitVec.ofNat 32 n.toNat).toNat : Int) := by
  have : n = ((BitVec.ofNat 32 n.toNat).toNat : Int) := by rw [BitVec.toNat_ofNat]; omega
  rw [this, u32_xor]
  congr 3
  rw [← this]
theorem u32_and1 {a : BitVec 32} : IntKind.u32.wrap (((BitVec.ofInt IntKind.u32.bits (a.toNat : Int) &&& BitVec.ofInt IntKind.u32.bits 1).toNat : Nat) : Int) = ((a.toNat % 2 : Nat) : Int) := by
  rw [bits32, of_n, show BitVec.ofInt 32 1 = 1#32 from rfl, wrap_n, BitVec.toNat_and]
  simp [Nat.and_one_is_mod]
theorem u32_shr {a : BitVec 32} : (a.toNat : Int).fdiv ((2 : Int) ^ min 1 IntKind.u32.bits) = ((a >>> 1).toNat : Int) := by
  rw [show (2 : Int) ^ min 1 IntKind.u32.bits = 2 from rfl, Int.fdiv_eq_ediv_of_nonneg _ (by omega), BitVec.toNat_ushiftRight, Nat.shiftRight_eq_div_pow]
  omega
/-- What the program turns a sum into. -/
theorem u32_mask (n : Nat) (h : n < 2) : IntKind.u32.wrap (((BitVec.ofInt IntKind.u32.bits 3988292384 &&& BitVec.ofInt IntKind.u32.bits (IntKind.u32.wrap (0 - (n : Int)))).toNat : Nat) : Int) = ((if n = 1 then poly else 0#32).toNat : Int) := by
  have : n = 0 ∨ n = 1 := by omega
  rcases this with rfl | rfl <;> rfl
theorem u32_not {a : BitVec 32} : IntKind.u32.wrap (((BitVec.ofInt IntKind.u32.bits (if IntKind.u32.signed = true then -1 else IntKind.u32.max) ^^^ BitVec.ofInt IntKind.u32.bits (a.toNat : Int)).toNat : Nat) : Int) = ((~~~ a).toNat : Int) := by
  rw [bits32, of_n, show BitVec.ofInt 32 (if IntKind.u32.signed = true then -1 else IntKind.u32.max) = BitVec.allOnes 32 from rfl, BitVec.xor_comm, BitVec.xor_allOnes, wrap_n]
theorem ones : ((BitVec.allOnes 32).toNat : Int) = 4294967295 := rfl

section
variable {S : List Nat} {y : AV} {m : Heap} {l : List Int} {Q E : AV → Heap → Prop}
theorem Sum_s (hv : Els S y m l) (hl : l.length ≤ 1000000) (k : Q (u32v (crc l)) m) : ACall Try.prog 11 [y] m Q E := by
  refine acall_fn mixed Try.func11 Try.call11 e11 r11 (Nat.le_of_ble_eq_true rfl) ?_
  simp only [n11, onLst_len hv.lenIs, wf_preprocess, ↓reduceIte, Nat.reduceEqDiff, reduceCtorEq, Nat.reduceAdd, Nat.reduceMul, Nat.reduceLeDiff, Nat.reduceLT, Nat.reduceSub, Int.reduceToNat, Int.reduceNeg, Int.reduceAdd, Int.reduceSub, Int.reduceMul, Int.reduceEq, Int.reduceLT, Int.reduceLE, Int.reduceNe, forall_const, forall_eq', forall_eq, List.forall_mem_cons, List.not_mem_nil]
  refine loop_i (fun kk ρ m' => ∃ (i : Nat), kk = l.length - i ∧ i ≤ l.length ∧ ρ 3 = u32v (crcS (l.take i)) ∧ ρ 6 = y ∧ ρ 7 = iv l.length ∧ ρ 8 = iv i ∧ m' = m) l.length ⟨0, rfl, by omega, ?_⟩ ?_
  · simp only [wf_preprocess, ↓reduceIte, Nat.reduceEqDiff, reduceCtorEq, Nat.reduceAdd, Nat.reduceMul, Nat.reduceLeDiff, Nat.reduceLT, Nat.reduceSub, Int.reduceToNat, Int.reduceNeg, Int.reduceAdd, Int.reduceSub, Int.reduceMul, Int.reduceEq, Int.reduceLT, Int.reduceLE, Int.reduceNe, forall_const, forall_eq', forall_eq, List.forall_mem_cons, List.not_mem_nil]
    rfl
  rintro kk ρ m' ⟨i, rfl, hi, g3, g6, g7, g8, rfl⟩
  by_cases hlt : (i : Int) < (l.length : Int)
  · obtain ⟨x, hx⟩ : ∃ x, l[i]? = some x := ⟨_, List.getElem?_eq_getElem (by omega)⟩
    have hxb := hv.2 x (List.mem_of_getElem? hx)
    have w1 : IntKind.i64.wrap ((i : Int) + 1) = ((i + 1 : Nat) : Int) := wrap64 (by omega) (by omega)
    simp only [g3, g6, g7, g8, hlt, Int.natCast_nonneg, wf_preprocess, ↓reduceIte, Nat.reduceEqDiff, reduceCtorEq, Nat.reduceAdd, Nat.reduceMul, Nat.reduceLeDiff, Nat.reduceLT, Nat.reduceSub, Int.reduceToNat, Int.reduceNeg, Int.reduceAdd, Int.reduceSub, Int.reduceMul, Int.reduceEq, Int.reduceLT, Int.reduceLE, Int.reduceNe, forall_const, forall_eq', forall_eq, List.forall_mem_cons, List.not_mem_nil]
    refine idx_i (n := (i : Int)) hv (by omega) (by simpa using hx) fun a r ha => ?_
    have wx : IntKind.u32.wrap x = x := by rw [wrap_u32]; omega
    simp only [g3, g6, g7, g8, ha, wx, u32_xorc hxb.1 (show x < 4294967296 by omega), wf_preprocess, ↓reduceIte, Nat.reduceEqDiff, reduceCtorEq, Nat.reduceAdd, Nat.reduceMul, Nat.reduceLeDiff, Nat.reduceLT, Nat.reduceSub, Int.reduceToNat, Int.reduceNeg, Int.reduceAdd, Int.reduceSub, Int.reduceMul, Int.reduceEq, Int.reduceLT, Int.reduceLE, Int.reduceNe, forall_const, forall_eq', forall_eq, List.forall_mem_cons, List.not_mem_nil]
    refine loop_i (fun kk ρ m2 => ∃ (j : Nat), kk = 8 - j ∧ j ≤ 8 ∧ ρ 3 = u32v (stps j (crcS (l.take i) ^^^ BitVec.ofNat 32 x.toNat)) ∧ ρ 6 = y ∧ ρ 7 = iv l.length ∧ ρ 8 = iv i ∧ ρ 16 = iv j ∧ m2 = m') 8 ⟨0, rfl, by omega, ?_⟩ ?_
    · simp only [g3, g6, g7, g8, wf_preprocess, ↓reduceIte, Nat.reduceEqDiff, reduceCtorEq, Nat.reduceAdd, Nat.reduceMul, Nat.reduceLeDiff, Nat.reduceLT, Nat.reduceSub, Int.reduceToNat, Int.reduceNeg, Int.reduceAdd, Int.reduceSub, Int.reduceMul, Int.reduceEq, Int.reduceLT, Int.reduceLE, Int.reduceNe, forall_const, forall_eq', forall_eq, List.forall_mem_cons, List.not_mem_nil]
      rfl
    rintro kk ρ m2 ⟨j, rfl, hj, g3, g6, g7, g8, g16, rfl⟩
    by_cases hj8 : (j : Int) < 8
    · have wj : IntKind.i64.wrap ((j : Int) + 1) = ((j + 1 : Nat) : Int) := wrap64 (by omega) (by omega)
      generalize hc : stps j (crcS (l.take i) ^^^ BitVec.ofNat 32 x.toNat) = c at g3
      have hm := u32_mask (c.toNat % 2) (by omega)
      simp only [g3, g6, g7, g8, g16, hj8, u32_shr, u32_and1, hm, u32_xor, wj, wf_preprocess, ↓reduceIte, Nat.reduceEqDiff, reduceCtorEq, Nat.reduceAdd, Nat.reduceMul, Nat.reduceLeDiff, Nat.reduceLT, Nat.reduceSub, Int.reduceToNat, Int.reduceNeg, Int.reduceAdd, Int.reduceSub, Int.reduceMul, Int.reduceEq, Int.reduceLT, Int.reduceLE, Int.reduceNe, forall_const, forall_eq', forall_eq, List.forall_mem_cons, List.not_mem_nil]
      exact ⟨8 - (j + 1), by omega, j + 1, rfl, by omega, by rw [stps, hc]; rfl, rfl⟩
    · have : j = 8 := by omega
      subst this
      simp only [g3, g6, g7, g8, g16, hj8, w1, wf_preprocess, ↓reduceIte, Nat.reduceEqDiff, reduceCtorEq, Nat.reduceAdd, Nat.reduceMul, Nat.reduceLeDiff, Nat.reduceLT, Nat.reduceSub, Int.reduceToNat, Int.reduceNeg, Int.reduceAdd, Int.reduceSub, Int.reduceMul, Int.reduceEq, Int.reduceLT, Int.reduceLE, Int.reduceNe, forall_const, forall_eq', forall_eq, List.forall_mem_cons, List.not_mem_nil]
      exact ⟨l.length - (i + 1), by omega, i + 1, rfl, by omega, by rw [crcS_snoc hx]; rfl, rfl⟩
  · have hie : i = l.length := by omega
    subst hie
    rw [List.take_length] at g3
    simp only [g3, g6, g7, g8, hlt, u32_not, wf_preprocess, ↓reduceIte, Nat.reduceEqDiff, reduceCtorEq, Nat.reduceAdd, Nat.reduceMul, Nat.reduceLeDiff, Nat.reduceLT, Nat.reduceSub, Int.reduceToNat, Int.reduceNeg, Int.reduceAdd, Int.reduceSub, Int.reduceMul, Int.reduceEq, Int.reduceLT, Int.reduceLE, Int.reduceNe, forall_const, forall_eq', forall_eq, List.forall_mem_cons, List.not_mem_nil]
    exact k
end
end Go.Proofs.Ytlcfagocikfocaa.Moi.Rec
