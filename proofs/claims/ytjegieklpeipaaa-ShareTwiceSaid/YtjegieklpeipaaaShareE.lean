/- What functions of this program do, on plain values: a part of the proofs of this seat's laws; each theorem bears its own conditions. -/
import Derived.Test.YtjegieklpeipaaaShareD
set_option linter.unusedVariables false
set_option linter.unusedSimpArgs false
set_option maxRecDepth 1000000
namespace Go.Proofs.Ytjegieklpeipaaa.Moi.Share
open Go Go.RowKit Go.Proofs.Ytjegieklpeipaaa.Moi Go.Proofs.Ytjegieklpeipaaa.Moi.Num
attribute [-wf_preprocess] ite_eq_dite forIn_eq_forIn'

section
variable {E : AV → Heap → Prop} {m : Heap} {ρ : Regs} {Kn Kr : Cont} {Kx : Nat → Cont} {T : NCode} {a n cap c d : Nat} {L P X Y Z : List Cl} {x y : Cl}
theorem ar2 {p t u v H w z n s : Nat} (hH : H = u + (v + 1)) (hA : u = H / 2) (hl : s = t + (H + w)) (hn : p + (s + (1 + z)) = n) (hn2 : n ≤ 17592186044416) :
    p + t + u < n ∧ p + t + (p + t + H) ≤ 35184372088832 ∧ p + t + (p + t + H) < 18446744073709551616 ∧ (p + t + (p + t + H)) / 2 = p + t + u ∧ p + t < p + t + H ∧ p + (t + (u + 1)) = p + t + u + 1 ∧ p + t + u + 1 + v = p + t + H ∧ v < H ∧ u < H ∧ p + s < n ∧ p + t + u ≤ 35184372088832 := by
  refine ⟨?_, ?_, ?_, ?_, ?_, ?_, ?_, ?_, ?_, ?_, ?_⟩ <;> omega

/-- Many before one. -/
theorem sm_b1 (hm : At a (P ++ (X ++ (y :: Z))) m) (sx : Srt X) (hxy : ∀ x ∈ X, x.1 < y.1) (hn : P.length + (X.length + (1 + Z.length)) = n) (hn2 : n ≤ 17592186044416)
    (g0 : ρ 0 = .mref a 0 n cap) (g1 : ρ 1 = iv P.length) (g2 : ρ 2 = iv ((P.length + X.length : Nat) : Int)) (g3 : ρ 3 = iv ((P.length + X.length + 1 : Nat) : Int)) (g4 : ρ 4 = .clos 19 [])
    (k : ∀ ρ' S, S.Perm (X ++ [y]) → Srt S → Kr ρ' (wr a (P ++ (S ++ Z)) m)) : vc Try.prog E (d27b T) Kn Kx Kr ρ m := by
  have w1 : IntKind.i64.wrap (((P.length + X.length + 1 : Nat) : Int) - ((P.length + X.length : Nat) : Int)) = 1 := by rw [wrap64] <;> omega
  simp only [d27b, g0, g1, g2, g3, g4, w1, wf_preprocess, ↓reduceIte, Nat.reduceEqDiff, reduceCtorEq, Nat.reduceAdd, Nat.reduceMul, Nat.reduceLeDiff, Nat.reduceLT, Nat.reduceSub, Int.reduceToNat, Int.reduceNeg, Int.reduceAdd, Int.reduceSub, Int.reduceMul, Int.reduceEq, Int.reduceLT, Int.reduceLE, Int.reduceNe, forall_const, forall_eq', forall_eq, List.forall_mem_cons, List.not_mem_nil]
  refine loop_i (fun kk ρ' m' => ∃ (X1 X2 X3 : List Cl), kk = X2.length ∧ X = X1 ++ (X2 ++ X3) ∧ (∀ u ∈ X1, lt u y) ∧ (∀ u ∈ X3, lt y u) ∧ ρ' 0 = .mref a 0 n cap ∧ ρ' 2 = iv ((P.length + X.length : Nat) : Int) ∧ ρ' 4 = .clos 19 [] ∧ ρ' 14 = iv ((P.length + X1.length : Nat) : Int) ∧ ρ' 15 = iv ((P.length + X1.length + X2.length : Nat) : Int) ∧ m' = m) X.length
    ⟨[], X, [], rfl, by simp, by simp, by simp, ?_⟩ ?_
  · simp only [g0, g1, g2, g3, g4, List.length_nil, Nat.add_zero, wf_preprocess, ↓reduceIte, Nat.reduceEqDiff, reduceCtorEq, Nat.reduceAdd, Nat.reduceMul, Nat.reduceLeDiff, Nat.reduceLT, Nat.reduceSub, Int.reduceToNat, Int.reduceNeg, Int.reduceAdd, Int.reduceSub, Int.reduceMul, Int.reduceEq, Int.reduceLT, Int.reduceLE, Int.reduceNe, forall_const, forall_eq', forall_eq, List.forall_mem_cons, List.not_mem_nil]
  rintro kk ρ' m' ⟨X1, X2, X3, rfl, hX, h1, h3, k0, k2, k4, k14, k15, rfl⟩
  have hXl := congrArg List.length hX
  simp only [List.length_append] at hXl
  by_cases he : X2 = []
  · subst he
    simp only [List.length_nil, List.nil_append, Nat.add_zero, Nat.zero_add] at k15 hX hXl
    have c1 := lt_no (i := P.length + X1.length) (j := P.length + X1.length) (Nat.lt_irrefl _)
    simp only [k0, k2, k4, k14, k15, c1, wf_preprocess, ↓reduceIte, Nat.reduceEqDiff, reduceCtorEq, Nat.reduceAdd, Nat.reduceMul, Nat.reduceLeDiff, Nat.reduceLT, Nat.reduceSub, Int.reduceToNat, Int.reduceNeg, Int.reduceAdd, Int.reduceSub, Int.reduceMul, Int.reduceEq, Int.reduceLT, Int.reduceLE, Int.reduceNe, forall_const, forall_eq', forall_eq, List.forall_mem_cons, List.not_mem_nil]
    refine loop_i (fun kk ρ2 m2 => ∃ (A B : List Cl), kk = A.length ∧ X3 = A ++ B ∧ ρ2 0 = .mref a 0 n cap ∧ ρ2 14 = iv ((P.length + X1.length : Nat) : Int) ∧ ρ2 17 = iv ((P.length + X1.length + A.length : Nat) : Int) ∧ m2 = wr a (P ++ (X1 ++ (A ++ y :: (B ++ Z)))) m') X3.length
      ⟨X3, [], rfl, by simp, ?_⟩ ?_
    · have e : P.length + X.length = P.length + X1.length + X3.length := by rw [hXl, Nat.add_assoc]
      simp only [k0, k2, k4, k14, k15, e, List.length_nil, Nat.add_zero, List.nil_append, wf_preprocess, ↓reduceIte, Nat.reduceEqDiff, reduceCtorEq, Nat.reduceAdd, Nat.reduceMul, Nat.reduceLeDiff, Nat.reduceLT, Nat.reduceSub, Int.reduceToNat, Int.reduceNeg, Int.reduceAdd, Int.reduceSub, Int.reduceMul, Int.reduceEq, Int.reduceLT, Int.reduceLE, Int.reduceNe, forall_const, forall_eq', forall_eq, List.forall_mem_cons, List.not_mem_nil]
      rw [show X1 ++ (X3 ++ y :: Z) = X ++ (y :: Z) by rw [hX]; simp]
      exact hm.same.symm
    rintro kk ρ2 m2 ⟨A, B, rfl, hAB, l0, l14, l17, rfl⟩
    by_cases hnil : A = []
    · subst hnil
      rw [List.nil_append] at hAB
      subst hAB
      have := fun ρ2 => k ρ2 (X1 ++ y :: X3) (by
        rw [hX]
        refine List.perm_middle.trans ?_
        exact (List.perm_append_singleton y _).symm) (by
        rw [hX] at sx
        obtain ⟨s1, s2, s3⟩ := srt_app.1 sx
        refine srt_app.2 ⟨s1, srt_cons.2 ⟨h3, s2⟩, fun u hu v hv => ?_⟩
        rcases List.mem_cons.1 hv with rfl | hv
        · exact h1 u hu
        · exact s3 u hu v hv)
      simp only [List.length_nil, Nat.add_zero] at l17
      simp only [l0, l14, l17, c1, List.nil_append, wf_preprocess, ↓reduceIte, Nat.reduceEqDiff, reduceCtorEq, Nat.reduceAdd, Nat.reduceMul, Nat.reduceLeDiff, Nat.reduceLT, Nat.reduceSub, Int.reduceToNat, Int.reduceNeg, Int.reduceAdd, Int.reduceSub, Int.reduceMul, Int.reduceEq, Int.reduceLT, Int.reduceLE, Int.reduceNe, forall_const, forall_eq', forall_eq, List.forall_mem_cons, List.not_mem_nil]
      simpa using this _
    · obtain ⟨A', z, rfl⟩ : ∃ A' z, A = A' ++ [z] := by
        obtain ⟨l', b, h⟩ := (List.eq_nil_or_concat A).resolve_left hnil
        exact ⟨l', b, by simpa using h⟩
      have hABl := congrArg List.length hAB
      have hl1 : (A' ++ [z]).length = A'.length + 1 := by simp
      rw [List.length_append, hl1] at hABl
      rw [hl1] at l17
      have q1 : P.length + X1.length + (A'.length + 1) = P.length + X1.length + A'.length + 1 := by rw [Nat.add_assoc, Nat.add_assoc, Nat.add_assoc]
      rw [q1] at l17
      have q2 : P.length + X1.length + A'.length + 1 < n := by omega
      have c2 := lt_n (i := P.length + X1.length) (j := P.length + X1.length + A'.length + 1) (by omega)
      have w3 : IntKind.i64.wrap (((P.length + X1.length + A'.length + 1 : Nat) : Int) - 1) = ((P.length + X1.length + A'.length : Nat) : Int) := by rw [wi]; exact wsub1 rfl (by omega)
      have b1 := lt_n q2
      have b2 := lt_n (i := P.length + X1.length + A'.length) (j := n) (by omega)
      have hat : At a (P ++ (X1 ++ (A' ++ [z] ++ y :: (B ++ Z)))) (wr a (P ++ (X1 ++ (A' ++ [z] ++ y :: (B ++ Z)))) m') := hm.put
      have eL : P ++ (X1 ++ (A' ++ [z] ++ y :: (B ++ Z))) = (P ++ X1 ++ A') ++ z :: y :: (B ++ Z) := by simp
      obtain ⟨t1, t2, t3, t4, _, _⟩ := two_facts eL (i := P.length + X1.length + A'.length) (by simp [Nat.add_assoc])
      obtain ⟨f1, f2, f3⟩ := pc_facts t1
      obtain ⟨f4, f5, f6⟩ := pc_facts t2
      obtain ⟨f7, f8, f9⟩ := pc_facts t3
      unfold At at hat
      generalize P ++ (X1 ++ (A' ++ [z] ++ y :: (B ++ Z))) = L at *
      have gp := get_put (ob := .cells (pc (L.set (P.length + X1.length + A'.length + 1) z))) hat
      simp only [l0, l14, l17, c2, w3, b1, b2, hat, Int.natCast_nonneg, f1, f2, f3, f4, f5, f6, f7, f8, f9, pc_set, gp, put_put, t4, wf_preprocess, ↓reduceIte, Nat.reduceEqDiff, reduceCtorEq, Nat.reduceAdd, Nat.reduceMul, Nat.reduceLeDiff, Nat.reduceLT, Nat.reduceSub, Int.reduceToNat, Int.reduceNeg, Int.reduceAdd, Int.reduceSub, Int.reduceMul, Int.reduceEq, Int.reduceLT, Int.reduceLE, Int.reduceNe, forall_const, forall_eq', forall_eq, List.forall_mem_cons, List.not_mem_nil]
      refine ⟨A'.length, by simp, A', z :: B, rfl, by simp [hAB], ?_⟩
      simp [wr, put_put]
  · obtain ⟨A, x, B, rfl, hA⟩ := mid_split (List.length_pos_iff.2 he)
    obtain ⟨H, hh⟩ : ∃ H, H = (A ++ x :: B).length := ⟨_, rfl⟩
    have hH : H = A.length + (B.length + 1) := by rw [hh, List.length_append, List.length_cons]
    rw [← hh] at hA k15 hXl ⊢
    obtain ⟨q1, q2, q2', w3, q3, q4, q5, q6, q7, q8, q9⟩ := ar2 (p := P.length) (t := X1.length) (u := A.length) (v := B.length) hH hA hXl hn hn2
    have c1 := lt_n q3
    have w2 := wadd q2
    have u2 := U_small q2'
    have w4 := Wn q9
    have w5 := wadd1 q9
    have b1 := lt_n q1
    have b2 := lt_n q8
    have t1 : (P ++ (X ++ (y :: Z)))[P.length + X.length]? = some y := by
      rw [← List.append_assoc]; exact mid_get (by simp)
    have t2 : (P ++ (X ++ (y :: Z)))[P.length + X1.length + A.length]? = some x := by
      rw [hX, show P ++ (X1 ++ (A ++ x :: B ++ X3) ++ y :: Z) = (P ++ (X1 ++ A)) ++ x :: (B ++ X3 ++ y :: Z) by simp]
      exact mid_get (by simp [Nat.add_assoc])
    obtain ⟨f1, f2, f3⟩ := pc_facts t1
    obtain ⟨f4, f5, f6⟩ := pc_facts t2
    have hat := hm
    unfold At at hat
    generalize P ++ (X ++ (y :: Z)) = L at hat t1 t2 f1 f2 f3 f4 f5 f6
    have hyx : x.1 < y.1 := hxy x (by rw [hX]; simp)
    have sx2 := sx
    have hX' := hX
    rw [hX] at sx2
    obtain ⟨s1, s2, s3⟩ := srt_app.1 sx2
    obtain ⟨s4, s5, s6⟩ := srt_app.1 s2
    obtain ⟨s7, s8, s9⟩ := srt_app.1 s4
    obtain ⟨s10, s11⟩ := srt_cons.1 s8
    simp only [k0, k2, k4, k14, k15, c1, wi, wu, w2, u2, shr1, w3, w4, b1, b2, hat, Int.natCast_nonneg, f1, f2, f3, f4, f5, f6, wf_preprocess, ↓reduceIte, Nat.reduceEqDiff, reduceCtorEq, Nat.reduceAdd, Nat.reduceMul, Nat.reduceLeDiff, Nat.reduceLT, Nat.reduceSub, Int.reduceToNat, Int.reduceNeg, Int.reduceAdd, Int.reduceSub, Int.reduceMul, Int.reduceEq, Int.reduceLT, Int.reduceLE, Int.reduceNe, forall_const, forall_eq', forall_eq, List.forall_mem_cons, List.not_mem_nil]
    refine call_i (cmp_s ?_)
    by_cases hc : x.2 < y.2
    · have hl : lt y x := (lt_back hyx).2 hc
      simp only [k0, k2, k4, k14, k15, cmp_neg, hc, wf_preprocess, ↓reduceIte, Nat.reduceEqDiff, reduceCtorEq, Nat.reduceAdd, Nat.reduceMul, Nat.reduceLeDiff, Nat.reduceLT, Nat.reduceSub, Int.reduceToNat, Int.reduceNeg, Int.reduceAdd, Int.reduceSub, Int.reduceMul, Int.reduceEq, Int.reduceLT, Int.reduceLE, Int.reduceNe, forall_const, forall_eq', forall_eq, List.forall_mem_cons, List.not_mem_nil]
      refine ⟨A.length, q7, X1, A, x :: (B ++ X3), rfl, by rw [hX']; simp, h1, ?_, ?_⟩
      · intro u hu
        simp only [List.mem_cons, List.mem_append] at hu
        rcases hu with rfl | hu | hu
        · exact hl
        · exact lt_trans' hl (s10 u hu)
        · exact h3 u hu
      · simp
    · have hl : lt x y := (lt_of hyx).2 hc
      simp only [k0, k2, k4, k14, k15, cmp_neg, hc, wi, w5, wf_preprocess, ↓reduceIte, Nat.reduceEqDiff, reduceCtorEq, Nat.reduceAdd, Nat.reduceMul, Nat.reduceLeDiff, Nat.reduceLT, Nat.reduceSub, Int.reduceToNat, Int.reduceNeg, Int.reduceAdd, Int.reduceSub, Int.reduceMul, Int.reduceEq, Int.reduceLT, Int.reduceLE, Int.reduceNe, forall_const, forall_eq', forall_eq, List.forall_mem_cons, List.not_mem_nil]
      refine ⟨B.length, q6, X1 ++ (A ++ [x]), B, X3, rfl, by rw [hX']; simp, ?_, h3, ?_⟩
      · intro u hu
        simp only [List.mem_append, List.mem_singleton] at hu
        rcases hu with hu | hu | rfl
        · exact h1 u hu
        · exact lt_trans' (s9 u hu x (by simp)) hl
        · exact hl
      · simp only [List.length_append, List.length_singleton, q4, q5, and_self]
end
end Go.Proofs.Ytjegieklpeipaaa.Moi.Share
