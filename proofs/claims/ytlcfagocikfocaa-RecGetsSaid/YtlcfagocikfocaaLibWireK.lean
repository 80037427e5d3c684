/- What functions of this program do, on plain values: a part of the proofs of this seat's laws; each theorem bears its own conditions. -/
import Derived.Test.YtlcfagocikfocaaLibWireJ
set_option linter.unusedVariables false
set_option linter.unusedSimpArgs false
set_option maxRecDepth 1000000
namespace Go.Proofs.Ytlcfagocikfocaa.Moi.Wire
open Go Go.RowKit Go.Proofs.Ytlcfagocikfocaa.Moi
attribute [-wf_preprocess] ite_eq_dite forIn_eq_forIn'

theorem or_add' {u d i : Nat} (hu : u < 2 ^ (7 * i)) (h1 : d * 2 ^ (7 * i) < 2 ^ 64) (h2 : u + d * 2 ^ (7 * i) < 2 ^ 64) :
    IntKind.u64.wrap ((BitVec.ofInt IntKind.u64.bits (u : Int) ||| BitVec.ofInt IntKind.u64.bits ((d * 2 ^ (7 * i) : Nat) : Int)).toNat) = ((u + d * 2 ^ (7 * i) : Nat) : Int) := or_add hu h1 h2

theorem rnum_s {S : List Nat} {q : Nat} {y : AV} {l : List Int} {m : Heap} {Q E : AV → Heap → Prop} (hg : get q m = some (.cells [y, iv 0])) (hv : Els S y m l) (hq : q ∈ S) (hl : l.length ≤ 140737488355328)
    (h : match scan l 0 0 with | .inl e => Q (iv 0) (put q (.cells [y, iv e]) m) | .inr (u, n) => ∀ y', Els S y' m (l.drop n) → Q (iv (unzig u)) (put q (.cells [y', iv 0]) m)) : ACall Try.prog 29 [.ptr q 0] m Q E := by
  refine acall_fn mixed Try.func29 Try.call29 e29 r29 (Nat.le_of_ble_eq_true rfl) ?_
  simp only [n29, hg, wf_preprocess, ↓reduceIte, Nat.reduceEqDiff, reduceCtorEq, Nat.reduceAdd, Nat.reduceMul, Nat.reduceLeDiff, Nat.reduceLT, Nat.reduceSub, Int.reduceToNat, Int.reduceNeg, Int.reduceAdd, Int.reduceSub, Int.reduceMul, Int.reduceEq, Int.reduceLT, Int.reduceLE, Int.reduceNe, forall_const, forall_eq', forall_eq, List.forall_mem_cons, List.not_mem_nil]
  refine loop_i (fun k ρ m' => ∃ (i u : Nat), k = l.length - i ∧ i ≤ l.length ∧ ρ 0 = .ptr q 0 ∧ ρ 3 = .sc (.int .u64 u) ∧ ρ 4 = iv i ∧ u < 2 ^ (7 * i) ∧ u < 2 ^ 64 ∧ scan (l.drop i) i u = scan l 0 0 ∧ m' = m) l.length ⟨0, 0, by simp [wf_preprocess, ↓reduceIte, Nat.reduceEqDiff, reduceCtorEq, Nat.reduceAdd, Nat.reduceMul, Nat.reduceLeDiff, Nat.reduceLT, Nat.reduceSub, Int.reduceToNat, Int.reduceNeg, Int.reduceAdd, Int.reduceSub, Int.reduceMul, Int.reduceEq, Int.reduceLT, Int.reduceLE, Int.reduceNe, forall_const, forall_eq', forall_eq, List.forall_mem_cons, List.not_mem_nil]⟩ ?_
  rintro k ρ m' ⟨i, u, rfl, hi, h0, h3, h4, hu, hu2, hs, rfl⟩
  have hput : ∀ ob, get q (put q ob m') = some ob := fun ob => get_put hg
  by_cases hlt : (i : Int) < (l.length : Int)
  case neg =>
    have hie : i = l.length := by omega
    subst hie
    rw [List.drop_length, scan] at hs
    rw [← hs] at h
    simp only [h0, h3, h4, hg, hlt, onLst_len hv.lenIs, wf_preprocess, ↓reduceIte, Nat.reduceEqDiff, reduceCtorEq, Nat.reduceAdd, Nat.reduceMul, Nat.reduceLeDiff, Nat.reduceLT, Nat.reduceSub, Int.reduceToNat, Int.reduceNeg, Int.reduceAdd, Int.reduceSub, Int.reduceMul, Int.reduceEq, Int.reduceLT, Int.reduceLE, Int.reduceNe, forall_const, forall_eq', forall_eq, List.forall_mem_cons, List.not_mem_nil]
    exact h
  obtain ⟨c, hc⟩ : ∃ c, l[i]? = some c := ⟨_, List.getElem?_eq_getElem (by omega)⟩
  have hcb := hv.2 c (List.mem_of_getElem? hc)
  have hdr : l.drop i = c :: l.drop (i + 1) := by
    obtain ⟨hi', rfl⟩ := List.getElem?_eq_some_iff.1 hc
    exact List.drop_eq_getElem_cons hi'
  rw [hdr, scan] at hs
  have wc : IntKind.u64.wrap c = c := by rw [wrap_u64]; omega
  simp only [h0, h3, h4, hg, hlt, onLst_len hv.lenIs, Int.natCast_nonneg, wf_preprocess, ↓reduceIte, Nat.reduceEqDiff, reduceCtorEq, Nat.reduceAdd, Nat.reduceMul, Nat.reduceLeDiff, Nat.reduceLT, Nat.reduceSub, Int.reduceToNat, Int.reduceNeg, Int.reduceAdd, Int.reduceSub, Int.reduceMul, Int.reduceEq, Int.reduceLT, Int.reduceLE, Int.reduceNe, forall_const, forall_eq', forall_eq, List.forall_mem_cons, List.not_mem_nil]
  refine idx_i (n := (i : Int)) hv (by omega) (by simpa using hc) fun a r ha => ?_
  by_cases hbad : 9 < i ∨ (i = 9 ∧ 1 < c) ∨ (0 < i ∧ c = 0)
  · rw [if_pos hbad] at hs
    rw [← hs] at h
    by_cases c1 : (9 : Int) < (i : Int)
    · simp only [h0, h3, h4, hg, ha, wc, eq_true c1, hput, wf_preprocess, ↓reduceIte, Nat.reduceEqDiff, reduceCtorEq, Nat.reduceAdd, Nat.reduceMul, Nat.reduceLeDiff, Nat.reduceLT, Nat.reduceSub, Int.reduceToNat, Int.reduceNeg, Int.reduceAdd, Int.reduceSub, Int.reduceMul, Int.reduceEq, Int.reduceLT, Int.reduceLE, Int.reduceNe, forall_const, forall_eq', forall_eq, List.forall_mem_cons, List.not_mem_nil]
      exact h
    by_cases c2 : (i : Int) = 9
    · by_cases c3 : (1 : Int) < c
      · simp only [h0, h3, h4, hg, ha, wc, eq_false c1, eq_true c2, eq_true c3, hput, wf_preprocess, ↓reduceIte, Nat.reduceEqDiff, reduceCtorEq, Nat.reduceAdd, Nat.reduceMul, Nat.reduceLeDiff, Nat.reduceLT, Nat.reduceSub, Int.reduceToNat, Int.reduceNeg, Int.reduceAdd, Int.reduceSub, Int.reduceMul, Int.reduceEq, Int.reduceLT, Int.reduceLE, Int.reduceNe, forall_const, forall_eq', forall_eq, List.forall_mem_cons, List.not_mem_nil]
        exact h
      · have c4 : (0 : Int) < (i : Int) := by omega
        have c5 : c = 0 := by omega
        simp only [h0, h3, h4, hg, ha, wc, eq_false c1, eq_true c2, eq_false c3, eq_true c4, eq_true c5, hput, wf_preprocess, ↓reduceIte, Nat.reduceEqDiff, reduceCtorEq, Nat.reduceAdd, Nat.reduceMul, Nat.reduceLeDiff, Nat.reduceLT, Nat.reduceSub, Int.reduceToNat, Int.reduceNeg, Int.reduceAdd, Int.reduceSub, Int.reduceMul, Int.reduceEq, Int.reduceLT, Int.reduceLE, Int.reduceNe, forall_const, forall_eq', forall_eq, List.forall_mem_cons, List.not_mem_nil]
        exact h
    · have c4 : (0 : Int) < (i : Int) := by omega
      have c5 : c = 0 := by omega
      simp only [h0, h3, h4, hg, ha, wc, eq_false c1, eq_false c2, eq_true c4, eq_true c5, hput, wf_preprocess, ↓reduceIte, Nat.reduceEqDiff, reduceCtorEq, Nat.reduceAdd, Nat.reduceMul, Nat.reduceLeDiff, Nat.reduceLT, Nat.reduceSub, Int.reduceToNat, Int.reduceNeg, Int.reduceAdd, Int.reduceSub, Int.reduceMul, Int.reduceEq, Int.reduceLT, Int.reduceLE, Int.reduceNe, forall_const, forall_eq', forall_eq, List.forall_mem_cons, List.not_mem_nil]
      exact h
  rw [if_neg hbad] at hs
  have hi9 : i ≤ 9 := by omega
  have w7 : IntKind.i64.wrap (7 * (i : Int)) = ((7 * i : Nat) : Int) := by rw [wrap64 (by omega) (by omega)]; omega
  have w7u : IntKind.u64.wrap ((7 * i : Nat) : Int) = ((7 * i : Nat) : Int) := by rw [wrap_u64]; omega
  have p7 : (2 : Nat) ^ (7 * i) ≤ 2 ^ 63 := Nat.pow_le_pow_right (by omega) (by omega)
  obtain ⟨d, hd, hd2⟩ : ∃ d : Nat, (c % 128) = (d : Int) ∧ d < 128 := ⟨(c % 128).toNat, by omega, by omega⟩
  have hdt : (c % 128).toNat = d := by omega
  have hrem : c.tmod 128 = (d : Int) := by rw [Int.tmod_eq_emod_of_nonneg hcb.1, hd]
  have hmul : d * 2 ^ (7 * i) < 2 ^ 64 ∧ u + d * 2 ^ (7 * i) < 2 ^ 64 := by
    by_cases h9 : i = 9
    · have : d ≤ 1 := by omega
      have : d * 2 ^ (7 * i) ≤ 1 * 2 ^ (7 * i) := Nat.mul_le_mul_right _ this
      subst h9
      omega
    · have e : (2 : Nat) ^ (7 * i) ≤ 2 ^ 56 := Nat.pow_le_pow_right (by omega) (by omega)
      have : d * 2 ^ (7 * i) ≤ 127 * 2 ^ 56 := Nat.mul_le_mul (by omega) e
      omega
  have hneg : ¬ ((7 * i : Nat) : Int) < 0 := by omega
  have s1 : IntKind.u64.wrap ((d : Int) * 2 ^ min (7 * i) IntKind.u64.bits) = ((d * 2 ^ (7 * i) : Nat) : Int) := by
    rw [show min (7 * i) IntKind.u64.bits = 7 * i from Nat.min_eq_left (by show 7 * i ≤ 64; omega), wrap_u64]
    have e2 : (d : Int) * 2 ^ (7 * i) = ((d * 2 ^ (7 * i) : Nat) : Int) := by push_cast; rfl
    rw [e2]
    omega
  have o1 := or_add' hu hmul.1 hmul.2
  have w1 : IntKind.i64.wrap ((i : Int) + 1) = ((i + 1 : Nat) : Int) := wrap64 (by omega) (by omega)
  rw [hdt] at hs
  have hun : u + d * 2 ^ (7 * i) < 2 ^ (7 * (i + 1)) ∨ ¬ i ≤ 8 := by
    by_cases h8 : i ≤ 8
    · left
      rw [show 7 * (i + 1) = 7 * i + 7 by omega, Nat.pow_add]
      have : d * 2 ^ (7 * i) ≤ 127 * 2 ^ (7 * i) := Nat.mul_le_mul_right _ (by omega)
      omega
    · exact .inr h8
  generalize hV : u + d * 2 ^ (7 * i) = V at *
  have hVs := hmul.2
  have c1 : ¬ (9 : Int) < (i : Int) := by omega
  have hcase : (i = 0) ∨ (0 < i ∧ i < 9 ∧ c ≠ 0) ∨ (i = 9 ∧ ¬ 1 < c ∧ c ≠ 0) := by omega
  by_cases c128 : c < 128
  · rw [if_pos c128] at hs
    rw [← hs] at h
    have hp : (2 : Int) ^ min 1 IntKind.u64.bits = 2 := rfl
    have hsh : (V : Int).fdiv 2 = ((V / 2 : Nat) : Int) := by rw [Int.fdiv_eq_ediv_of_nonneg _ (by omega)]; omega
    have hr2 : (V : Int).tmod 2 = ((V % 2 : Nat) : Int) := by rw [Int.tmod_eq_emod_of_nonneg (by omega)]; omega
    have hnot := not_u64 (a := ((V / 2 : Nat) : Int)) (by omega) (by omega)
    have hi64a : ∀ z : Int, -9223372036854775808 ≤ z → z ≤ 9223372036854775807 → IntKind.i64.wrap z = z := fun z a b => wrap64 a b
    have hwn : IntKind.i64.wrap (18446744073709551615 - ((V / 2 : Nat) : Int)) = -((V / 2 : Nat) : Int) - 1 := by
      have e : IntKind.i64.wrap (18446744073709551615 - ((V / 2 : Nat) : Int)) = if (18446744073709551615 - ((V / 2 : Nat) : Int)) % 18446744073709551616 ≥ 9223372036854775808 then (18446744073709551615 - ((V / 2 : Nat) : Int)) % 18446744073709551616 - 18446744073709551616 else (18446744073709551615 - ((V / 2 : Nat) : Int)) % 18446744073709551616 := by
        show (if (true && decide ((18446744073709551615 - ((V / 2 : Nat) : Int)) % 18446744073709551616 ≥ 9223372036854775808)) = true then _ else _) = _
        simp only [Bool.true_and, decide_eq_true_eq]
        rfl
      rw [e]
      split <;> omega
    have hwp : IntKind.i64.wrap ((V / 2 : Nat) : Int) = ((V / 2 : Nat) : Int) := wrap64 (by omega) (by omega)
    rcases hcase with q0 | ⟨q0, q1, q2⟩ | ⟨q0, q1, q2⟩
    case' inl =>
      have e9 : ¬ (i : Int) = 9 := by omega
      have e0 : ¬ (0 : Int) < (i : Int) := by omega
      simp only [h0, h3, h4, hg, ha, wc, eq_false c1, eq_false e9, eq_false e0, hrem, w7, w7u, hneg, s1, o1, w1, eq_true c128, wf_preprocess, ↓reduceIte, Nat.reduceEqDiff, reduceCtorEq, Nat.reduceAdd, Nat.reduceMul, Nat.reduceLeDiff, Nat.reduceLT, Nat.reduceSub, Int.reduceToNat, Int.reduceNeg, Int.reduceAdd, Int.reduceSub, Int.reduceMul, Int.reduceEq, Int.reduceLT, Int.reduceLE, Int.reduceNe, forall_const, forall_eq', forall_eq, List.forall_mem_cons, List.not_mem_nil]
    case' inr.inl =>
      have e9 : ¬ (i : Int) = 9 := by omega
      have e0 : (0 : Int) < (i : Int) := by omega
      simp only [h0, h3, h4, hg, ha, wc, eq_false c1, eq_false e9, eq_true e0, eq_false q2, hrem, w7, w7u, hneg, s1, o1, w1, eq_true c128, wf_preprocess, ↓reduceIte, Nat.reduceEqDiff, reduceCtorEq, Nat.reduceAdd, Nat.reduceMul, Nat.reduceLeDiff, Nat.reduceLT, Nat.reduceSub, Int.reduceToNat, Int.reduceNeg, Int.reduceAdd, Int.reduceSub, Int.reduceMul, Int.reduceEq, Int.reduceLT, Int.reduceLE, Int.reduceNe, forall_const, forall_eq', forall_eq, List.forall_mem_cons, List.not_mem_nil]
    case' inr.inr =>
      have e9 : (i : Int) = 9 := by omega
      have e0 : (0 : Int) < (i : Int) := by omega
      simp only [h0, h3, h4, hg, ha, wc, eq_false c1, eq_true e9, eq_true e0, eq_false q1, eq_false q2, hrem, w7, w7u, hneg, s1, o1, w1, eq_true c128, wf_preprocess, ↓reduceIte, Nat.reduceEqDiff, reduceCtorEq, Nat.reduceAdd, Nat.reduceMul, Nat.reduceLeDiff, Nat.reduceLT, Nat.reduceSub, Int.reduceToNat, Int.reduceNeg, Int.reduceAdd, Int.reduceSub, Int.reduceMul, Int.reduceEq, Int.reduceLT, Int.reduceLE, Int.reduceNe, forall_const, forall_eq', forall_eq, List.forall_mem_cons, List.not_mem_nil]
    all_goals
      refine slice_i (L := ((i + 1 : Nat) : Int)) (H := l.length) hv (fun K k => ?_) (fun K k => k) (by omega) (by omega) (by omega) fun y' hy' => ?_
      · rw [bndOr_some]
        simp only [wf_preprocess, ↓reduceIte, Nat.reduceEqDiff, reduceCtorEq, Nat.reduceAdd, Nat.reduceMul, Nat.reduceLeDiff, Nat.reduceLT, Nat.reduceSub, Int.reduceToNat, Int.reduceNeg, Int.reduceAdd, Int.reduceSub, Int.reduceMul, Int.reduceEq, Int.reduceLT, Int.reduceLE, Int.reduceNe, forall_const, forall_eq', forall_eq, List.forall_mem_cons, List.not_mem_nil]
        exact k
      rw [show ((i + 1 : Nat) : Int).toNat = i + 1 by omega, show ((l.length : Int).toNat - (i + 1)) = l.length - (i + 1) by omega, List.take_of_length_le (by rw [List.length_drop]; omega)] at hy'
      have hk := h y' hy'
      rcases Els.form hy' with ⟨es, o, rfl⟩ | ⟨a, b, c, d, rfl⟩
      all_goals
        unfold unzig at hk
        by_cases hodd : V % 2 = 0
        · rw [if_pos hodd] at hk
          have hodd' : ¬ ((V % 2 : Nat) : Int) = 1 := by omega
          simp only [h0, h3, h4, hg, hp, hsh, hr2, hodd', hwp, wf_preprocess, ↓reduceIte, Nat.reduceEqDiff, reduceCtorEq, Nat.reduceAdd, Nat.reduceMul, Nat.reduceLeDiff, Nat.reduceLT, Nat.reduceSub, Int.reduceToNat, Int.reduceNeg, Int.reduceAdd, Int.reduceSub, Int.reduceMul, Int.reduceEq, Int.reduceLT, Int.reduceLE, Int.reduceNe, forall_const, forall_eq', forall_eq, List.forall_mem_cons, List.not_mem_nil]
          exact hk
        · rw [if_neg hodd] at hk
          have hodd' : ((V % 2 : Nat) : Int) = 1 := by omega
          simp only [h0, h3, h4, hg, hp, hsh, hr2, hodd', hnot, hwn, wf_preprocess, ↓reduceIte, Nat.reduceEqDiff, reduceCtorEq, Nat.reduceAdd, Nat.reduceMul, Nat.reduceLeDiff, Nat.reduceLT, Nat.reduceSub, Int.reduceToNat, Int.reduceNeg, Int.reduceAdd, Int.reduceSub, Int.reduceMul, Int.reduceEq, Int.reduceLT, Int.reduceLE, Int.reduceNe, forall_const, forall_eq', forall_eq, List.forall_mem_cons, List.not_mem_nil]
          exact hk
  · rw [if_neg c128] at hs
    have i8 : i ≤ 8 ∨ i = 9 := by omega
    rcases hcase with q0 | ⟨q0, q1, q2⟩ | ⟨q0, q1, q2⟩
    case' inl =>
      have e9 : ¬ (i : Int) = 9 := by omega
      have e0 : ¬ (0 : Int) < (i : Int) := by omega
      simp only [h0, h3, h4, hg, ha, wc, eq_false c1, eq_false e9, eq_false e0, hrem, w7, w7u, hneg, s1, o1, w1, eq_false c128, wf_preprocess, ↓reduceIte, Nat.reduceEqDiff, reduceCtorEq, Nat.reduceAdd, Nat.reduceMul, Nat.reduceLeDiff, Nat.reduceLT, Nat.reduceSub, Int.reduceToNat, Int.reduceNeg, Int.reduceAdd, Int.reduceSub, Int.reduceMul, Int.reduceEq, Int.reduceLT, Int.reduceLE, Int.reduceNe, forall_const, forall_eq', forall_eq, List.forall_mem_cons, List.not_mem_nil]
    case' inr.inl =>
      have e9 : ¬ (i : Int) = 9 := by omega
      have e0 : (0 : Int) < (i : Int) := by omega
      simp only [h0, h3, h4, hg, ha, wc, eq_false c1, eq_false e9, eq_true e0, eq_false q2, hrem, w7, w7u, hneg, s1, o1, w1, eq_false c128, wf_preprocess, ↓reduceIte, Nat.reduceEqDiff, reduceCtorEq, Nat.reduceAdd, Nat.reduceMul, Nat.reduceLeDiff, Nat.reduceLT, Nat.reduceSub, Int.reduceToNat, Int.reduceNeg, Int.reduceAdd, Int.reduceSub, Int.reduceMul, Int.reduceEq, Int.reduceLT, Int.reduceLE, Int.reduceNe, forall_const, forall_eq', forall_eq, List.forall_mem_cons, List.not_mem_nil]
    case' inr.inr => exfalso; omega
    all_goals exact ⟨l.length - (i + 1), by omega, i + 1, V, rfl, by omega, rfl, rfl, by omega, hVs, hs⟩
end Go.Proofs.Ytlcfagocikfocaa.Moi.Wire
