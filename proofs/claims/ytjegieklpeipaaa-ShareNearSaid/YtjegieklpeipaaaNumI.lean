/- What functions of this program do, on plain values: a part of the proofs of this seat's laws; each theorem bears its own conditions. -/
import Derived.Test.YtjegieklpeipaaaNumH
set_option linter.unusedVariables false
set_option linter.unusedSimpArgs false
set_option maxRecDepth 1000000
namespace Go.Proofs.Ytjegieklpeipaaa.Moi.Num
open Go Go.RowKit Go.Proofs.Ytjegieklpeipaaa.Moi
attribute [-wf_preprocess] ite_eq_dite forIn_eq_forIn'

section
variable {E : AV → Heap → Prop} {m : Heap} {ρ : Regs} {Kn Kr : Cont} {Kx : Nat → Cont} {Y y1 y0 u d v d0 : Nat} {T : NCode}
theorem dv_c (hh : Dg Y y1 y0 u d) (hv : v = (u * 4294967296 + d) % Y) (h : Dg Y y1 y0 v d0) (hY : Y < 18446744073709551616) (g2 : ρ 2 = un Y) (g9 : ρ 9 = un y1) (g10 : ρ 10 = un y0) (g11 : ρ 11 = un u) (g13 : ρ 13 = un d) (g14 : ρ 14 = un d0) (g15 : ρ 15 = un ((u * 4294967296 + d) / Y))
    (k : ∀ ρ', ρ' 2 = ρ 2 → ρ' 8 = ρ 8 → ρ' 14 = ρ 14 → ρ' 15 = ρ 15 → ρ' 17 = un v → ρ' 18 = un ((v * 4294967296 + d0) / Y) → vc Try.prog E T Kn Kx Kr ρ' m) : vc Try.prog E (d31c T) Kn Kx Kr ρ m := by
  have hn1 : ¬ ((y1 : Nat) : Int) = 0 := by have := h.l1; omega
  have hu : v < 18446744073709551616 := Nat.lt_trans h.hu hY
  have hl1 := h.l1
  have hh0 := h.h0
  have hh1 := h.h1
  have hhd := h.hd
  have hm := Nat.div_mul_le_self v y1
  have hr := Nat.div_add_mod v y1
  have hm2 := Nat.mod_lt v (show 0 < y1 by omega)
  have e1 : U ((v : Int) - ((v / y1 * y1 : Nat) : Int)) = ((v % y1 : Nat) : Int) := by
    rw [Nat.mul_comm] at hm ⊢
    generalize y1 * (v / y1) = z at *
    exact U_nat (by omega) (by omega)
  have er := hh.rem hY
  rw [← hv] at er
  simp only [d31c, g2, g9, g10, g11, g13, g14, g15, hn1, wu, er, quo_n hu, mul_n (Nat.lt_of_le_of_lt hm hu), e1, wf_preprocess, ↓reduceIte, Nat.reduceEqDiff, reduceCtorEq, Nat.reduceAdd, Nat.reduceMul, Nat.reduceLeDiff, Nat.reduceLT, Nat.reduceSub, Int.reduceToNat, Int.reduceNeg, Int.reduceAdd, Int.reduceSub, Int.reduceMul, Int.reduceEq, Int.reduceLT, Int.reduceLE, Int.reduceNe, forall_const, forall_eq', forall_eq, List.forall_mem_cons, List.not_mem_nil]
  refine loop_i (fun q ρ' m' => ∃ r : Nat, Dg.at Y y1 v d0 q r ∧ r < 4294967296 ∧ q < 18446744073709551616 ∧ ρ' 18 = un q ∧ ρ' 16 = un r ∧ ρ' 2 = ρ 2 ∧ ρ' 8 = ρ 8 ∧ ρ' 9 = ρ 9 ∧ ρ' 10 = ρ 10 ∧ ρ' 14 = ρ 14 ∧ ρ' 15 = ρ 15 ∧ ρ' 17 = un v ∧ m' = m) (v / y1)
    ⟨v % y1, h.start, by omega, Nat.lt_of_le_of_lt (Nat.div_le_self ..) hu, by simp only [g2, g9, g10, g14, g15, wf_preprocess, ↓reduceIte, Nat.reduceEqDiff, reduceCtorEq, Nat.reduceAdd, Nat.reduceMul, Nat.reduceLeDiff, Nat.reduceLT, Nat.reduceSub, Int.reduceToNat, Int.reduceNeg, Int.reduceAdd, Int.reduceSub, Int.reduceMul, Int.reduceEq, Int.reduceLT, Int.reduceLE, Int.reduceNe, forall_const, forall_eq', forall_eq, List.forall_mem_cons, List.not_mem_nil]⟩ ?_
  rintro q ρ' m' ⟨r, hat, hr, hq, k18, k16, k2, k8, k9, k10, k14, k15, k17, rfl⟩
  rw [g2] at k2; rw [g9] at k9; rw [g10] at k10; rw [g14] at k14; rw [g15] at k15
  have fin : ∀ ρ2 : Regs, ρ2 2 = ρ' 2 → ρ2 8 = ρ' 8 → ρ2 14 = ρ' 14 → ρ2 15 = ρ' 15 → ρ2 17 = ρ' 17 → ρ2 18 = un ((v * 4294967296 + d0) / Y) → vc Try.prog E T Kn Kx Kr ρ2 m' := fun ρ2 a2 a8 a14 a15 a17 a18 =>
    k ρ2 (by rw [a2, k2, g2]) (by rw [a8, k8]) (by rw [a14, k14, g14]) (by rw [a15, k15, g15]) (by rw [a17, k17]) a18
  have b0 : ((4294967296 : Int) ≤ (q : Int)) = (4294967296 ≤ q) := le32
  have e3 : U (4294967296 * (r : Int)) = ((4294967296 * r : Nat) : Int) := U_nat (by omega) (by omega)
  have e4 : U (((4294967296 * r : Nat) : Int) + (d0 : Int)) = ((4294967296 * r + d0 : Nat) : Int) := U_nat (by omega) (by omega)
  have body : (4294967296 ≤ q ∨ 4294967296 * r + d0 < q * y0) → 1 ≤ q ∧ Dg.at Y y1 v d0 (q - 1) (r + y1) ∧ U ((q : Int) - 1) = ((q - 1 : Nat) : Int) ∧ U ((r : Int) + (y1 : Int)) = ((r + y1 : Nat) : Int) := fun hh => by
    obtain ⟨z1, z2⟩ := h.go hat hh
    exact ⟨z1, z2, U_nat (by omega) (by omega), U_nat (by omega) (by omega)⟩
  by_cases c1 : 4294967296 ≤ q
  · obtain ⟨z1, z2, z3, z4⟩ := body (.inl c1)
    by_cases c2 : 4294967296 ≤ r + y1
    · have := h.brk z2 c2
      simp only [k18, k16, k2, k9, k10, k14, b0, c1, c2, wu, z3, z4, le32, wf_preprocess, ↓reduceIte, Nat.reduceEqDiff, reduceCtorEq, Nat.reduceAdd, Nat.reduceMul, Nat.reduceLeDiff, Nat.reduceLT, Nat.reduceSub, Int.reduceToNat, Int.reduceNeg, Int.reduceAdd, Int.reduceSub, Int.reduceMul, Int.reduceEq, Int.reduceLT, Int.reduceLE, Int.reduceNe, forall_const, forall_eq', forall_eq, List.forall_mem_cons, List.not_mem_nil]
      refine fin _ ?_ ?_ ?_ ?_ ?_ ?_ <;> simp only [k18, k16, k2, k9, k10, k14, k15, k17, this, wf_preprocess, ↓reduceIte, Nat.reduceEqDiff, reduceCtorEq, Nat.reduceAdd, Nat.reduceMul, Nat.reduceLeDiff, Nat.reduceLT, Nat.reduceSub, Int.reduceToNat, Int.reduceNeg, Int.reduceAdd, Int.reduceSub, Int.reduceMul, Int.reduceEq, Int.reduceLT, Int.reduceLE, Int.reduceNe, forall_const, forall_eq', forall_eq, List.forall_mem_cons, List.not_mem_nil]
    · simp only [k18, k16, k2, k9, k10, k14, b0, c1, c2, wu, z3, z4, le32, wf_preprocess, ↓reduceIte, Nat.reduceEqDiff, reduceCtorEq, Nat.reduceAdd, Nat.reduceMul, Nat.reduceLeDiff, Nat.reduceLT, Nat.reduceSub, Int.reduceToNat, Int.reduceNeg, Int.reduceAdd, Int.reduceSub, Int.reduceMul, Int.reduceEq, Int.reduceLT, Int.reduceLE, Int.reduceNe, forall_const, forall_eq', forall_eq, List.forall_mem_cons, List.not_mem_nil]
      exact ⟨q - 1, by omega, r + y1, z2, by omega, by omega, by simp [wf_preprocess, ↓reduceIte, Nat.reduceEqDiff, reduceCtorEq, Nat.reduceAdd, Nat.reduceMul, Nat.reduceLeDiff, Nat.reduceLT, Nat.reduceSub, Int.reduceToNat, Int.reduceNeg, Int.reduceAdd, Int.reduceSub, Int.reduceMul, Int.reduceEq, Int.reduceLT, Int.reduceLE, Int.reduceNe, forall_const, forall_eq', forall_eq, List.forall_mem_cons, List.not_mem_nil, *]⟩
  · have hz : q * y0 < 18446744073709551616 := Nat.lt_of_le_of_lt (Nat.mul_le_mul (show q ≤ 4294967295 by omega) (show y0 ≤ 4294967295 by omega)) (by omega)
    have b1 : (((4294967296 * r + d0 : Nat) : Int) < ((q * y0 : Nat) : Int)) = (4294967296 * r + d0 < q * y0) := by apply propext; omega
    by_cases c3 : 4294967296 * r + d0 < q * y0
    · obtain ⟨z1, z2, z3, z4⟩ := body (.inr c3)
      by_cases c2 : 4294967296 ≤ r + y1
      · have := h.brk z2 c2
        simp only [k18, k16, k2, k9, k10, k14, b0, c1, c2, c3, wu, z3, z4, le32, mul_n hz, e3, e4, b1, wf_preprocess, ↓reduceIte, Nat.reduceEqDiff, reduceCtorEq, Nat.reduceAdd, Nat.reduceMul, Nat.reduceLeDiff, Nat.reduceLT, Nat.reduceSub, Int.reduceToNat, Int.reduceNeg, Int.reduceAdd, Int.reduceSub, Int.reduceMul, Int.reduceEq, Int.reduceLT, Int.reduceLE, Int.reduceNe, forall_const, forall_eq', forall_eq, List.forall_mem_cons, List.not_mem_nil]
        refine fin _ ?_ ?_ ?_ ?_ ?_ ?_ <;> simp only [k18, k16, k2, k9, k10, k14, k15, k17, this, wf_preprocess, ↓reduceIte, Nat.reduceEqDiff, reduceCtorEq, Nat.reduceAdd, Nat.reduceMul, Nat.reduceLeDiff, Nat.reduceLT, Nat.reduceSub, Int.reduceToNat, Int.reduceNeg, Int.reduceAdd, Int.reduceSub, Int.reduceMul, Int.reduceEq, Int.reduceLT, Int.reduceLE, Int.reduceNe, forall_const, forall_eq', forall_eq, List.forall_mem_cons, List.not_mem_nil]
      · simp only [k18, k16, k2, k9, k10, k14, b0, c1, c2, c3, wu, z3, z4, le32, mul_n hz, e3, e4, b1, wf_preprocess, ↓reduceIte, Nat.reduceEqDiff, reduceCtorEq, Nat.reduceAdd, Nat.reduceMul, Nat.reduceLeDiff, Nat.reduceLT, Nat.reduceSub, Int.reduceToNat, Int.reduceNeg, Int.reduceAdd, Int.reduceSub, Int.reduceMul, Int.reduceEq, Int.reduceLT, Int.reduceLE, Int.reduceNe, forall_const, forall_eq', forall_eq, List.forall_mem_cons, List.not_mem_nil]
        exact ⟨q - 1, by omega, r + y1, z2, by omega, by omega, by simp [wf_preprocess, ↓reduceIte, Nat.reduceEqDiff, reduceCtorEq, Nat.reduceAdd, Nat.reduceMul, Nat.reduceLeDiff, Nat.reduceLT, Nat.reduceSub, Int.reduceToNat, Int.reduceNeg, Int.reduceAdd, Int.reduceSub, Int.reduceMul, Int.reduceEq, Int.reduceLT, Int.reduceLE, Int.reduceNe, forall_const, forall_eq', forall_eq, List.forall_mem_cons, List.not_mem_nil, *]⟩
    · have := h.stop hat (by omega)
      simp only [k18, k16, k2, k9, k10, k14, b0, c1, c3, wu, le32, mul_n hz, e3, e4, b1, wf_preprocess, ↓reduceIte, Nat.reduceEqDiff, reduceCtorEq, Nat.reduceAdd, Nat.reduceMul, Nat.reduceLeDiff, Nat.reduceLT, Nat.reduceSub, Int.reduceToNat, Int.reduceNeg, Int.reduceAdd, Int.reduceSub, Int.reduceMul, Int.reduceEq, Int.reduceLT, Int.reduceLE, Int.reduceNe, forall_const, forall_eq', forall_eq, List.forall_mem_cons, List.not_mem_nil]
      refine fin _ ?_ ?_ ?_ ?_ ?_ ?_ <;> simp only [k18, k16, k2, k9, k10, k14, k15, k17, ← this, wf_preprocess, ↓reduceIte, Nat.reduceEqDiff, reduceCtorEq, Nat.reduceAdd, Nat.reduceMul, Nat.reduceLeDiff, Nat.reduceLT, Nat.reduceSub, Int.reduceToNat, Int.reduceNeg, Int.reduceAdd, Int.reduceSub, Int.reduceMul, Int.reduceEq, Int.reduceLT, Int.reduceLE, Int.reduceNe, forall_const, forall_eq', forall_eq, List.forall_mem_cons, List.not_mem_nil]

/-! ### A number of 128 bits, by one of 64 -/
theorem shl_n {a s : Nat} (hs : s < 64) : U ((a : Int) * 2 ^ min s IntKind.u64.bits) = ((a * 2 ^ s % 18446744073709551616 : Nat) : Int) := by
  rw [bits64, show min s 64 = s by omega, show ((2 : Int) ^ s) = ((2 ^ s : Nat) : Int) by rw [Int.natCast_pow]; rfl, ← Int.natCast_mul]
  unfold U; omega
theorem shr_n {a s : Nat} (hs : s ≤ 64) : (a : Int).fdiv (2 ^ min s IntKind.u64.bits) = ((a / 2 ^ s : Nat) : Int) := by
  rw [bits64, show min s 64 = s by omega, Int.fdiv_eq_ediv_of_nonneg _ (Int.pow_nonneg (by omega)), Int.natCast_ediv, Int.natCast_pow]
  rfl
theorem lo32n {a : Nat} (h : a < 18446744073709551616) : U (((BitVec.ofInt IntKind.u64.bits (a : Int) &&& BitVec.ofInt IntKind.u64.bits 4294967295).toNat : Nat) : Int) = ((a % 4294967296 : Nat) : Int) := by
  rw [lo32 (by unfold isU; omega)]; omega
theorem or_n {a b s : Nat} (ha : a * 2 ^ s + b < 18446744073709551616) (hb : b < 2 ^ s) : U (((BitVec.ofInt IntKind.u64.bits ((a * 2 ^ s : Nat) : Int) ||| BitVec.ofInt IntKind.u64.bits (b : Int)).toNat : Nat) : Int) = ((a * 2 ^ s + b : Nat) : Int) := by
  have e := Nat.two_pow_add_eq_or_of_lt hb a
  rw [bits64, BitVec.toNat_or, ofn (by omega), ofn (by omega), Nat.mul_comm a, ← e]
  rw [Nat.mul_comm] at ha
  exact U_nat ha rfl

structure Nrm (hi lo y s : Nat) : Prop where
  s64 : s < 64
  y1 : 9223372036854775808 ≤ y * 2 ^ s
  y2 : y * 2 ^ s < 18446744073709551616
  u : hi * 2 ^ s + lo / 2 ^ (64 - s) < y * 2 ^ s
  b : lo / 2 ^ (64 - s) < 2 ^ s
  e : (hi * 18446744073709551616 + lo) * 2 ^ s = (hi * 2 ^ s + lo / 2 ^ (64 - s)) * 18446744073709551616 + lo * 2 ^ s % 18446744073709551616
theorem nrm {hi lo y : Nat} (hh : hi < y) (hy : y < 18446744073709551616) (hl : lo < 18446744073709551616) : Nrm hi lo y (63 - y.log2) := by
  have h64 : y.log2 < 64 := (Nat.log2_lt (by omega)).2 hy
  have l1 := Nat.log2_self_le (n := y) (by omega)
  have l2 := Nat.lt_log2_self (n := y)
  generalize hs : 63 - y.log2 = s
  have hb : lo / 2 ^ (64 - s) < 2 ^ s := by
    rw [Nat.div_lt_iff_lt_mul (Nat.two_pow_pos _), ← Nat.pow_add, show s + (64 - s) = 64 by omega]
    exact hl
  have hu : hi * 2 ^ s + lo / 2 ^ (64 - s) < y * 2 ^ s :=
    calc hi * 2 ^ s + lo / 2 ^ (64 - s) < hi * 2 ^ s + 2 ^ s := by omega
      _ = (hi + 1) * 2 ^ s := (Nat.succ_mul ..).symm
      _ ≤ y * 2 ^ s := Nat.mul_le_mul_right _ hh
  refine ⟨by omega, ?_, ?_, hu, hb, ?_⟩
  · have := Nat.mul_le_mul_right (2 ^ s) l1
    rw [← Nat.pow_add, show y.log2 + s = 63 by omega] at this
    exact this
  · have := Nat.mul_lt_mul_of_pos_right l2 (Nat.two_pow_pos s)
    rw [← Nat.pow_add, show y.log2 + 1 + s = 64 by omega] at this
    exact this
  · have e : lo * 2 ^ s / 18446744073709551616 = lo / 2 ^ (64 - s) := by
      rw [show 18446744073709551616 = 2 ^ (64 - s) * 2 ^ s by rw [← Nat.pow_add, show 64 - s + s = 64 by omega], Nat.mul_div_mul_right _ _ (Nat.two_pow_pos s)]
    have := Nat.div_add_mod (lo * 2 ^ s) 18446744073709551616
    rw [e] at this
    rw [Nat.add_mul, Nat.add_mul, Nat.mul_right_comm]
    omega

theorem fin_q {V y s Y u w q1 r1 : Nat} (hy : 0 < y) (hY : Y = y * 2 ^ s) (e : V * 2 ^ s = u * 18446744073709551616 + w) (h1 : q1 = (u * 4294967296 + w / 4294967296) / Y) (h2 : r1 = (u * 4294967296 + w / 4294967296) % Y) :
    q1 * 4294967296 + (r1 * 4294967296 + w % 4294967296) / Y = V / y ∧ (r1 * 4294967296 + w % 4294967296) % Y / 2 ^ s = V % y := by
  have hp : 0 < 2 ^ s := Nat.two_pow_pos s
  have hYp : 0 < Y := by rw [hY]; exact Nat.mul_pos hy hp
  have d := Nat.div_add_mod (u * 4294967296 + w / 4294967296) Y
  rw [← h1, ← h2] at d
  have t : V * 2 ^ s = Y * (q1 * 4294967296) + (r1 * 4294967296 + w % 4294967296) := by
    rw [e, ← Nat.mul_assoc]
    omega
  have a1 : V * 2 ^ s / Y = V / y := by rw [hY]; exact Nat.mul_div_mul_right _ _ hp
  have a2 : V * 2 ^ s % Y = V % y * 2 ^ s := by rw [hY, Nat.mul_mod_mul_right]
  rw [t, Nat.mul_add_div hYp] at a1
  rw [t, Nat.mul_add_mod] at a2
  exact ⟨a1, by rw [a2, Nat.mul_div_cancel _ hp]⟩
end

section
variable {E : AV → Heap → Prop} {m : Heap} {ρ : Regs} {Kn : Cont} {Kx : Nat → Cont} {V y s Y u w : Nat}
theorem dv_t (hs : s < 64) (hy : 0 < y) (y1 : 9223372036854775808 ≤ y * 2 ^ s) (ey : y * 2 ^ s < 18446744073709551616) (eu : u < y * 2 ^ s) (hw : w < 18446744073709551616) (hV : V * 2 ^ s = u * 18446744073709551616 + w) (hq64 : V / y < 18446744073709551616)
    (a2 : ρ 2 = un (y * 2 ^ s)) (a8 : ρ 8 = un s) (a9 : ρ 9 = un (y * 2 ^ s / 4294967296)) (a10 : ρ 10 = un (y * 2 ^ s % 4294967296)) (a11 : ρ 11 = un u) (a13 : ρ 13 = un (w / 4294967296)) (a14 : ρ 14 = un (w % 4294967296)) :
    vc Try.prog E (d31b (d31c d31d)) Kn Kx (fun ρ _ => resAV [6, 7] ρ = .tup [un (V / y), un (V % y)]) ρ m := by
  generalize hYe : y * 2 ^ s = Y at y1 ey eu a2 a9 a10
  have G1 : Dg Y (Y / 4294967296) (Y % 4294967296) u (w / 4294967296) := ⟨by omega, by omega, by omega, by omega, eu, by omega⟩
  have hr := Nat.mod_lt (u * 4294967296 + w / 4294967296) G1.pos
  have G2 : Dg Y (Y / 4294967296) (Y % 4294967296) ((u * 4294967296 + w / 4294967296) % Y) (w % 4294967296) := ⟨by omega, by omega, by omega, by omega, hr, by omega⟩
  obtain ⟨f1, f2⟩ := fin_q (V := V) hy hYe.symm hV rfl rfl
  have n1 : ¬ (s : Int) < 0 := by omega
  refine dv_b G1 ey a2 a9 a10 a11 a13 fun ρ1 b2 b8 b9 b10 b11 b12 b13 b14 b15 => ?_
  refine dv_c G1 rfl G2 ey (b2.trans a2) (b9.trans a9) (b10.trans a10) (b11.trans a11) (b13.trans a13) (b14.trans a14) b15 fun ρ2 c2 c8 c14 c15 c17 c18 => ?_
  have d2 := (c2.trans b2).trans a2
  have d8 := (c8.trans b8).trans a8
  have d14 := (c14.trans b14).trans a14
  have d15 := c15.trans b15
  have l1 := G1.lt
  have l2 := G2.lt
  have er := G2.rem ey
  have eq : U (U ((((u * 4294967296 + w / 4294967296) / Y : Nat) : Int) * 4294967296) + ((((u * 4294967296 + w / 4294967296) % Y * 4294967296 + w % 4294967296) / Y : Nat) : Int)) = ((V / y : Nat) : Int) := by
    rw [U_addr]
    refine U_nat hq64 ?_
    rw [← f1, Int.natCast_add, Int.natCast_mul]
    rfl
  simp only [d31d, d2, d8, d14, d15, c17, c18, wu, n1, shr_n (show s ≤ 64 by omega), eq, er, f2, wf_preprocess, ↓reduceIte, Nat.reduceEqDiff, reduceCtorEq, Nat.reduceAdd, Nat.reduceMul, Nat.reduceLeDiff, Nat.reduceLT, Nat.reduceSub, Int.reduceToNat, Int.reduceNeg, Int.reduceAdd, Int.reduceSub, Int.reduceMul, Int.reduceEq, Int.reduceLT, Int.reduceLE, Int.reduceNe, forall_const, forall_eq', forall_eq, List.forall_mem_cons, List.not_mem_nil]
end

section
variable {Q E : AV → Heap → Prop} {m : Heap}
theorem n31_parts : n23 = d31a (d31b (d31c d31d)) := by kernel_rfl
set_option maxHeartbeats 2000000 in
theorem Div64_s {hi lo y : Nat} (hh : hi < y) (hy : y < 18446744073709551616) (hl : lo < 18446744073709551616) (k : Q (.tup [un ((hi * 18446744073709551616 + lo) / y), un ((hi * 18446744073709551616 + lo) % y)]) m) : ACall Try.prog 23 [un hi, un lo, un y] m Q E := by
  by_cases h0 : hi = 0
  · subst h0
    rw [Nat.zero_mul, Nat.zero_add] at k
    exact Div64_0 hl hh hy k
  refine pureR ?_ k
  refine acall_fn mixed Try.func23 Try.call23 e23 r23 (Nat.le_of_ble_eq_true rfl) ?_
  rw [n31_parts]
  have c1 : ¬ (y : Int) = 0 := by omega
  have c2 : ¬ (y : Int) ≤ (hi : Int) := by omega
  have c3 : ¬ (hi : Int) = 0 := by omega
  simp only [d31a, c1, c2, c3, wf_preprocess, ↓reduceIte, Nat.reduceEqDiff, reduceCtorEq, Nat.reduceAdd, Nat.reduceMul, Nat.reduceLeDiff, Nat.reduceLT, Nat.reduceSub, Int.reduceToNat, Int.reduceNeg, Int.reduceAdd, Int.reduceSub, Int.reduceMul, Int.reduceEq, Int.reduceLT, Int.reduceLE, Int.reduceNe, forall_const, forall_eq', forall_eq, List.forall_mem_cons, List.not_mem_nil]
  refine call_i (LZ_s (by omega) hy ?_)
  have N := nrm hh hy hl
  generalize 63 - y.log2 = s at N
  have hs := N.s64
  have us : U (s : Int) = (s : Int) := U_nat (by omega) rfl
  have us2 : U (64 - (s : Int)) = ((64 - s : Nat) : Int) := U_nat (by omega) (by omega)
  have n1 : ¬ (s : Int) < 0 := by omega
  have n2 : ¬ ((64 - s : Nat) : Int) < 0 := by omega
  have ey := N.y2
  have eu := N.u
  have hu64 : hi * 2 ^ s + lo / 2 ^ (64 - s) < 18446744073709551616 := Nat.lt_trans eu ey
  have my : y * 2 ^ s % 18446744073709551616 = y * 2 ^ s := Nat.mod_eq_of_lt ey
  have mh : hi * 2 ^ s % 18446744073709551616 = hi * 2 ^ s := Nat.mod_eq_of_lt (Nat.lt_of_le_of_lt (Nat.le_add_right ..) hu64)
  have hor := or_n hu64 N.b
  have hw : lo * 2 ^ s % 18446744073709551616 < 18446744073709551616 := Nat.mod_lt _ (by omega)
  have hVlt : hi * 18446744073709551616 + lo < y * 18446744073709551616 := by omega
  have hq64 : (hi * 18446744073709551616 + lo) / y < 18446744073709551616 := by
    rw [Nat.div_lt_iff_lt_mul (by omega)]; omega
  simp only [wu, us, us2, n1, n2, shl_n hs, shr_n (show 64 - s ≤ 64 by omega), my, mh, hor, sr32, lo32n ey, lo32n hw, wf_preprocess, ↓reduceIte, Nat.reduceEqDiff, reduceCtorEq, Nat.reduceAdd, Nat.reduceMul, Nat.reduceLeDiff, Nat.reduceLT, Nat.reduceSub, Int.reduceToNat, Int.reduceNeg, Int.reduceAdd, Int.reduceSub, Int.reduceMul, Int.reduceEq, Int.reduceLT, Int.reduceLE, Int.reduceNe, forall_const, forall_eq', forall_eq, List.forall_mem_cons, List.not_mem_nil]
  refine dv_t (V := hi * 18446744073709551616 + lo) (u := hi * 2 ^ s + lo / 2 ^ (64 - s)) (w := lo * 2 ^ s % 18446744073709551616) hs (by omega) N.y1 ey eu hw N.e hq64 ?_ ?_ ?_ ?_ ?_ ?_ ?_
  all_goals simp only [wf_preprocess, ↓reduceIte, Nat.reduceEqDiff, reduceCtorEq, Nat.reduceAdd, Nat.reduceMul, Nat.reduceLeDiff, Nat.reduceLT, Nat.reduceSub, Int.reduceToNat, Int.reduceNeg, Int.reduceAdd, Int.reduceSub, Int.reduceMul, Int.reduceEq, Int.reduceLT, Int.reduceLE, Int.reduceNe, forall_const, forall_eq', forall_eq, List.forall_mem_cons, List.not_mem_nil]

/-- One times another one, by a third one: what the code makes of it. -/
theorem MulDiv_s {a b c : Nat} (ha : a < 18446744073709551616) (hb : b < 18446744073709551616) (hc : c < 18446744073709551616) (k : Q (mulDivR a b c) m) : ACall Try.prog 17 [un a, un b, un c] m Q E := by
  refine pureR ?_ k
  refine acall_fn mixed Try.func17 Try.call17 e17 r17 (Nat.le_of_ble_eq_true rfl) ?_
  simp only [n17, wf_preprocess, ↓reduceIte, Nat.reduceEqDiff, reduceCtorEq, Nat.reduceAdd, Nat.reduceMul, Nat.reduceLeDiff, Nat.reduceLT, Nat.reduceSub, Int.reduceToNat, Int.reduceNeg, Int.reduceAdd, Int.reduceSub, Int.reduceMul, Int.reduceEq, Int.reduceLT, Int.reduceLE, Int.reduceNe, forall_const, forall_eq', forall_eq, List.forall_mem_cons, List.not_mem_nil]
  refine call_i (Mul64_s ha hb ?_)
  unfold mulDivR
  have hc0 : (((c : Nat) : Int) = 0) = (c = 0) := by apply propext; omega
  have hv : a * b / 18446744073709551616 * 18446744073709551616 + a * b % 18446744073709551616 = a * b := by omega
  have hl : a * b % 18446744073709551616 < 18446744073709551616 := by omega
  have hle : (((c : Nat) : Int) ≤ ((a * b / 18446744073709551616 : Nat) : Int)) = (c ≤ a * b / 18446744073709551616) := by apply propext; omega
  generalize a * b / 18446744073709551616 = hi at *
  generalize a * b % 18446744073709551616 = lo at *
  by_cases c0 : c = 0
  · simp only [hc0, c0, wf_preprocess, ↓reduceIte, Nat.reduceEqDiff, reduceCtorEq, Nat.reduceAdd, Nat.reduceMul, Nat.reduceLeDiff, Nat.reduceLT, Nat.reduceSub, Int.reduceToNat, Int.reduceNeg, Int.reduceAdd, Int.reduceSub, Int.reduceMul, Int.reduceEq, Int.reduceLT, Int.reduceLE, Int.reduceNe, forall_const, forall_eq', forall_eq, List.forall_mem_cons, List.not_mem_nil]
    try rfl
  by_cases c1 : c ≤ hi
  · simp only [hc0, c0, hle, c1, wf_preprocess, ↓reduceIte, Nat.reduceEqDiff, reduceCtorEq, Nat.reduceAdd, Nat.reduceMul, Nat.reduceLeDiff, Nat.reduceLT, Nat.reduceSub, Int.reduceToNat, Int.reduceNeg, Int.reduceAdd, Int.reduceSub, Int.reduceMul, Int.reduceEq, Int.reduceLT, Int.reduceLE, Int.reduceNe, forall_const, forall_eq', forall_eq, List.forall_mem_cons, List.not_mem_nil]
    try rfl
  simp only [hc0, c0, hle, c1, wf_preprocess, ↓reduceIte, Nat.reduceEqDiff, reduceCtorEq, Nat.reduceAdd, Nat.reduceMul, Nat.reduceLeDiff, Nat.reduceLT, Nat.reduceSub, Int.reduceToNat, Int.reduceNeg, Int.reduceAdd, Int.reduceSub, Int.reduceMul, Int.reduceEq, Int.reduceLT, Int.reduceLE, Int.reduceNe, forall_const, forall_eq', forall_eq, List.forall_mem_cons, List.not_mem_nil]
  refine call_i (Div64_s (by omega) hc hl ?_)
  rw [hv]
  simp only [c0, c1, wf_preprocess, ↓reduceIte, Nat.reduceEqDiff, reduceCtorEq, Nat.reduceAdd, Nat.reduceMul, Nat.reduceLeDiff, Nat.reduceLT, Nat.reduceSub, Int.reduceToNat, Int.reduceNeg, Int.reduceAdd, Int.reduceSub, Int.reduceMul, Int.reduceEq, Int.reduceLT, Int.reduceLE, Int.reduceNe, forall_const, forall_eq', forall_eq, List.forall_mem_cons, List.not_mem_nil]
  try rfl
end
end Go.Proofs.Ytjegieklpeipaaa.Moi.Num
