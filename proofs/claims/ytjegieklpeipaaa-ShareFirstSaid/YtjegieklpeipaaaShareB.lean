/- What functions of this program do, on plain values: a part of the proofs of this seat's laws; each theorem bears its own conditions. -/
import Derived.Test.YtjegieklpeipaaaShareA
set_option linter.unusedVariables false
set_option linter.unusedSimpArgs false
set_option maxRecDepth 1000000
namespace Go.Proofs.Ytjegieklpeipaaa.Moi.Share
open Go Go.RowKit Go.Proofs.Ytjegieklpeipaaa.Moi Go.Proofs.Ytjegieklpeipaaa.Moi.Num
attribute [-wf_preprocess] ite_eq_dite forIn_eq_forIn'

section
variable {Q E : AV → Heap → Prop} {m : Heap} {a n cap : Nat} {F : AV} {l P A B C Z X Y : List Cl} {i j : Nat} {p q : Cl}
theorem swapR_e {L : List Cl} {x y c : Nat} (e : L = P ++ (A ++ (B ++ (C ++ Z)))) (ex : x = P.length) (ey : y = P.length + A.length + B.length) (ec : c = A.length) (hm : At a L m) (hl : A.length = C.length) (hn : L.length = n) (hn2 : n ≤ 17592186044416)
    (k : Q (.tup []) (wr a (P ++ (C ++ (B ++ (A ++ Z)))) m)) : ACall Try.prog 30 [.mref a 0 n cap, iv x, iv y, iv c, F] m Q E := by
  subst e ex ey ec
  exact swapR_s hm hl hn hn2 k

theorem rot_s {c d : Nat} (hm : At a (P ++ (X ++ (Y ++ Z))) m) (hx : 0 < X.length) (hy : 0 < Y.length) (hn : (P ++ (X ++ (Y ++ Z))).length = n) (hn2 : n ≤ 17592186044416) (ec : c = P.length + X.length) (ed : d = P.length + X.length + Y.length)
    (k : Q (.tup []) (wr a (P ++ (Y ++ (X ++ Z))) m)) : ACall Try.prog 29 [.mref a 0 n cap, iv P.length, iv c, iv d, F] m Q E := by
  subst ec ed
  refine acall_fn mixed Try.func29 Try.call29 e29 r29 (Nat.le_of_ble_eq_true rfl) ?_
  simp only [List.length_append] at hn
  have w1 : IntKind.i64.wrap (((P.length + X.length : Nat) : Int) - (P.length : Int)) = (X.length : Int) := by rw [wrap64] <;> omega
  have w2 : IntKind.i64.wrap (((P.length + X.length + Y.length : Nat) : Int) - ((P.length + X.length : Nat) : Int)) = (Y.length : Int) := by rw [wrap64] <;> omega
  simp only [n29, w1, w2, wf_preprocess, ↓reduceIte, Nat.reduceEqDiff, reduceCtorEq, Nat.reduceAdd, Nat.reduceMul, Nat.reduceLeDiff, Nat.reduceLT, Nat.reduceSub, Int.reduceToNat, Int.reduceNeg, Int.reduceAdd, Int.reduceSub, Int.reduceMul, Int.reduceEq, Int.reduceLT, Int.reduceLE, Int.reduceNe, forall_const, forall_eq', forall_eq, List.forall_mem_cons, List.not_mem_nil]
  generalize hM : P.length + X.length = M at *
  generalize hT : P ++ (Y ++ (X ++ Z)) = T at *
  refine loop_i (fun kk ρ m' => ∃ (P' X' Y' Z' : List Cl), kk = X'.length + Y'.length ∧ P'.length + X'.length = M ∧ 0 < X'.length ∧ 0 < Y'.length ∧ P'.length + (X'.length + (Y'.length + Z'.length)) = n ∧ P' ++ (Y' ++ (X' ++ Z')) = T ∧ ρ 0 = .mref a 0 n cap ∧ ρ 2 = iv M ∧ ρ 4 = F ∧ ρ 10 = iv X'.length ∧ ρ 11 = iv Y'.length ∧ m' = wr a (P' ++ (X' ++ (Y' ++ Z'))) m) (X.length + Y.length)
    ⟨P, X, Y, Z, rfl, hM, hx, hy, hn, hT, ?_⟩ ?_
  · simp only [wf_preprocess, ↓reduceIte, Nat.reduceEqDiff, reduceCtorEq, Nat.reduceAdd, Nat.reduceMul, Nat.reduceLeDiff, Nat.reduceLT, Nat.reduceSub, Int.reduceToNat, Int.reduceNeg, Int.reduceAdd, Int.reduceSub, Int.reduceMul, Int.reduceEq, Int.reduceLT, Int.reduceLE, Int.reduceNe, forall_const, forall_eq', forall_eq, List.forall_mem_cons, List.not_mem_nil]
    exact hm.same.symm
  rintro kk ρ m' ⟨P', X', Y', Z', rfl, hM', hx', hy', hn', hT', g0, g2, g4, g10, g11, rfl⟩
  have w3 : IntKind.i64.wrap ((M : Int) - (X'.length : Int)) = (P'.length : Int) := by rw [wrap64] <;> omega
  have hat : At a (P' ++ (X' ++ (Y' ++ Z'))) (wr a (P' ++ (X' ++ (Y' ++ Z'))) m) := hm.put
  by_cases he : X'.length = Y'.length
  · have c1 : ((X'.length : Int) = (Y'.length : Int)) = True := by apply eq_true; omega
    simp only [g0, g2, g4, g10, g11, c1, w3, wf_preprocess, ↓reduceIte, Nat.reduceEqDiff, reduceCtorEq, Nat.reduceAdd, Nat.reduceMul, Nat.reduceLeDiff, Nat.reduceLT, Nat.reduceSub, Int.reduceToNat, Int.reduceNeg, Int.reduceAdd, Int.reduceSub, Int.reduceMul, Int.reduceEq, Int.reduceLT, Int.reduceLE, Int.reduceNe, forall_const, forall_eq', forall_eq, List.forall_mem_cons, List.not_mem_nil]
    refine call_i (swapR_e (P := P') (A := X') (B := []) (C := Y') (Z := Z') (by simp) rfl (by simp; omega) rfl hat he (by simp; omega) hn2 ?_)
    simp only [wr_wr, List.nil_append, hT', wf_preprocess, ↓reduceIte, Nat.reduceEqDiff, reduceCtorEq, Nat.reduceAdd, Nat.reduceMul, Nat.reduceLeDiff, Nat.reduceLT, Nat.reduceSub, Int.reduceToNat, Int.reduceNeg, Int.reduceAdd, Int.reduceSub, Int.reduceMul, Int.reduceEq, Int.reduceLT, Int.reduceLE, Int.reduceNe, forall_const, forall_eq', forall_eq, List.forall_mem_cons, List.not_mem_nil]
    exact k
  · have c1 : ((X'.length : Int) = (Y'.length : Int)) = False := by apply eq_false; omega
    by_cases hgt : Y'.length < X'.length
    · have c2 : ((Y'.length : Int) < (X'.length : Int)) = True := by apply eq_true; omega
      have hX : X' = X'.take Y'.length ++ X'.drop Y'.length := (List.take_append_drop ..).symm
      have hX1 : (X'.take Y'.length).length = Y'.length := by rw [List.length_take]; omega
      have hX2 : (X'.drop Y'.length).length = X'.length - Y'.length := List.length_drop ..
      generalize X'.take Y'.length = X1 at *
      generalize X'.drop Y'.length = X2 at *
      have hXl : X'.length = X1.length + X2.length := by omega
      have w4 : IntKind.i64.wrap ((X'.length : Int) - (Y'.length : Int)) = (X2.length : Int) := by rw [wrap64] <;> omega
      simp only [g0, g2, g4, g10, g11, c1, c2, w3, wf_preprocess, ↓reduceIte, Nat.reduceEqDiff, reduceCtorEq, Nat.reduceAdd, Nat.reduceMul, Nat.reduceLeDiff, Nat.reduceLT, Nat.reduceSub, Int.reduceToNat, Int.reduceNeg, Int.reduceAdd, Int.reduceSub, Int.reduceMul, Int.reduceEq, Int.reduceLT, Int.reduceLE, Int.reduceNe, forall_const, forall_eq', forall_eq, List.forall_mem_cons, List.not_mem_nil]
      refine call_i (swapR_e (P := P') (A := X1) (B := X2) (C := Y') (Z := Z') (by rw [hX]; simp) rfl (by omega) (by omega) hat (by omega) (by simp; omega) hn2 ?_)
      simp only [g0, g2, g4, g10, g11, w4, wr_wr, wf_preprocess, ↓reduceIte, Nat.reduceEqDiff, reduceCtorEq, Nat.reduceAdd, Nat.reduceMul, Nat.reduceLeDiff, Nat.reduceLT, Nat.reduceSub, Int.reduceToNat, Int.reduceNeg, Int.reduceAdd, Int.reduceSub, Int.reduceMul, Int.reduceEq, Int.reduceLT, Int.reduceLE, Int.reduceNe, forall_const, forall_eq', forall_eq, List.forall_mem_cons, List.not_mem_nil]
      refine ⟨X2.length + X1.length, by omega, P' ++ Y', X2, X1, Z', rfl, by simp; omega, by omega, by omega, by simp; omega, ?_, by simp [hX1]⟩
      rw [← hT', hX]; simp
    · have c2 : ((Y'.length : Int) < (X'.length : Int)) = False := by apply eq_false; omega
      have hY : Y' = Y'.take (Y'.length - X'.length) ++ Y'.drop (Y'.length - X'.length) := (List.take_append_drop ..).symm
      have hY1 : (Y'.take (Y'.length - X'.length)).length = Y'.length - X'.length := by rw [List.length_take]; omega
      have hY2 : (Y'.drop (Y'.length - X'.length)).length = X'.length := by rw [List.length_drop]; omega
      generalize Y'.take (Y'.length - X'.length) = Y1 at *
      generalize Y'.drop (Y'.length - X'.length) = Y2 at *
      have w4 : IntKind.i64.wrap ((M : Int) + (Y'.length : Int)) = ((M + Y'.length : Nat) : Int) := by rw [wrap64] <;> omega
      have w5 : IntKind.i64.wrap (((M + Y'.length : Nat) : Int) - (X'.length : Int)) = ((M + Y1.length : Nat) : Int) := by rw [wrap64] <;> omega
      have w6 : IntKind.i64.wrap ((Y'.length : Int) - (X'.length : Int)) = (Y1.length : Int) := by rw [wrap64] <;> omega
      simp only [g0, g2, g4, g10, g11, c1, c2, w3, w4, w5, wf_preprocess, ↓reduceIte, Nat.reduceEqDiff, reduceCtorEq, Nat.reduceAdd, Nat.reduceMul, Nat.reduceLeDiff, Nat.reduceLT, Nat.reduceSub, Int.reduceToNat, Int.reduceNeg, Int.reduceAdd, Int.reduceSub, Int.reduceMul, Int.reduceEq, Int.reduceLT, Int.reduceLE, Int.reduceNe, forall_const, forall_eq', forall_eq, List.forall_mem_cons, List.not_mem_nil]
      refine call_i (swapR_e (P := P') (A := X') (B := Y1) (C := Y2) (Z := Z') (by rw [hY]; simp) rfl (by omega) rfl hat (by omega) (by simp; omega) hn2 ?_)
      simp only [g0, g2, g4, g10, g11, w6, wr_wr, wf_preprocess, ↓reduceIte, Nat.reduceEqDiff, reduceCtorEq, Nat.reduceAdd, Nat.reduceMul, Nat.reduceLeDiff, Nat.reduceLT, Nat.reduceSub, Int.reduceToNat, Int.reduceNeg, Int.reduceAdd, Int.reduceSub, Int.reduceMul, Int.reduceEq, Int.reduceLT, Int.reduceLE, Int.reduceNe, forall_const, forall_eq', forall_eq, List.forall_mem_cons, List.not_mem_nil]
      refine ⟨Y2.length + Y1.length, by omega, P', Y2, Y1, X' ++ Z', rfl, by omega, by omega, by omega, by simp; omega, ?_, by simp [hY2]⟩
      rw [← hT', hY]; simp
end
end Go.Proofs.Ytjegieklpeipaaa.Moi.Share
