/- What functions of this program do, on plain values: a part of the proofs of this seat's laws; each theorem bears its own conditions. -/
import Derived.Test.YtjegieklpeipaaaShareB
set_option linter.unusedVariables false
set_option linter.unusedSimpArgs false
set_option maxRecDepth 1000000
namespace Go.Proofs.Ytjegieklpeipaaa.Moi.Share
open Go Go.RowKit Go.Proofs.Ytjegieklpeipaaa.Moi Go.Proofs.Ytjegieklpeipaaa.Moi.Num
attribute [-wf_preprocess] ite_eq_dite forIn_eq_forIn'

/-! ### The order -/
def lt (p q : Cl) : Prop := q.2 < p.2 ∨ (p.2 = q.2 ∧ p.1 < q.1)
instance (p q : Cl) : Decidable (lt p q) := inferInstanceAs (Decidable (_ ∨ _))
theorem lt_trans' {p q r : Cl} (h : lt p q) (k : lt q r) : lt p r := by unfold lt at *; omega
theorem lt_not {p q : Cl} (h : lt p q) : ¬ lt q p := by unfold lt at *; omega
theorem lt_of {p q : Cl} (h : p.1 < q.1) : lt p q ↔ ¬ p.2 < q.2 := by unfold lt; omega
theorem lt_back {p q : Cl} (h : p.1 < q.1) : lt q p ↔ p.2 < q.2 := by unfold lt; omega
theorem cmp_neg {p q : Cl} : (cmpV p q < 0) = (q.2 < p.2) := by
  apply propext; unfold cmpV; split <;> (try split) <;> omega
abbrev Srt (l : List Cl) : Prop := l.Pairwise lt
abbrev Up (l : List Cl) : Prop := l.Pairwise fun p q => p.1 < q.1

section
variable {Q E : AV → Heap → Prop} {m : Heap} {a n cap : Nat} {L l P A B C Z X Y : List Cl} {i j : Nat} {p q x y z : Cl}
theorem two_facts (e : L = A ++ z :: y :: B) (hi : i = A.length) :
    L[i]? = some z ∧ L[i + 1]? = some y ∧ (L.set (i + 1) z)[i]? = some z ∧ (L.set (i + 1) z).set i y = A ++ y :: z :: B ∧ (L.set i y)[i + 1]? = some y ∧ (L.set i y).set (i + 1) z = A ++ y :: z :: B := by
  subst e hi
  have e1 : A ++ z :: y :: B = (A ++ [z]) ++ y :: B := by simp
  have h1 : (A ++ z :: y :: B).set (A.length + 1) z = A ++ z :: z :: B := by rw [e1, mid_set (by simp)]; simp
  have h2 : (A ++ z :: y :: B).set A.length y = A ++ y :: y :: B := mid_set rfl
  refine ⟨mid_get rfl, by rw [e1]; exact mid_get (by simp), by rw [h1]; exact mid_get rfl, by rw [h1]; exact mid_set rfl, ?_, ?_⟩
  · rw [h2, show A ++ y :: y :: B = (A ++ [y]) ++ y :: B by simp]; exact mid_get (by simp)
  · rw [h2, show A ++ y :: y :: B = (A ++ [y]) ++ y :: B by simp, mid_set (by simp)]; simp

theorem ins_s {c : Nat} (hm : At a (P ++ (X ++ Z)) m) (hu : Up X) (hn : (P ++ (X ++ Z)).length = n) (hn2 : n ≤ 17592186044416) (ec : c = P.length + X.length)
    (k : ∀ S, S.Perm X → Srt S → Q (.tup []) (wr a (P ++ (S ++ Z)) m)) : ACall Try.prog 26 [.mref a 0 n cap, iv P.length, iv c, .clos 19 []] m Q E := by
  subst ec
  refine acall_fn mixed Try.func26 Try.call26 e26 r26 (Nat.le_of_ble_eq_true rfl) ?_
  simp only [List.length_append] at hn
  have w0 : IntKind.i64.wrap ((P.length : Int) + 1) = ((P.length + 1 : Nat) : Int) := wrap64 (by omega) (by omega)
  simp only [n26, w0, wf_preprocess, ↓reduceIte, Nat.reduceEqDiff, reduceCtorEq, Nat.reduceAdd, Nat.reduceMul, Nat.reduceLeDiff, Nat.reduceLT, Nat.reduceSub, Int.reduceToNat, Int.reduceNeg, Int.reduceAdd, Int.reduceSub, Int.reduceMul, Int.reduceEq, Int.reduceLT, Int.reduceLE, Int.reduceNe, forall_const, forall_eq', forall_eq, List.forall_mem_cons, List.not_mem_nil]
  rcases X with _ | ⟨x, R⟩
  · refine loop_i (fun kk ρ m' => ρ 2 = iv P.length ∧ ρ 8 = iv ((P.length + 1 : Nat) : Int) ∧ m' = m) 0 ?_ ?_
    · simp only [List.length_nil, Nat.add_zero, wf_preprocess, ↓reduceIte, Nat.reduceEqDiff, reduceCtorEq, Nat.reduceAdd, Nat.reduceMul, Nat.reduceLeDiff, Nat.reduceLT, Nat.reduceSub, Int.reduceToNat, Int.reduceNeg, Int.reduceAdd, Int.reduceSub, Int.reduceMul, Int.reduceEq, Int.reduceLT, Int.reduceLE, Int.reduceNe, forall_const, forall_eq', forall_eq, List.forall_mem_cons, List.not_mem_nil]
    rintro kk ρ m' ⟨g2, g8, rfl⟩
    have c1 : ¬ ((P.length + 1 : Nat) : Int) < (P.length : Int) := by omega
    have := k [] (.refl _) .nil
    rw [hm.same] at this
    simp only [g2, g8, c1, wf_preprocess, ↓reduceIte, Nat.reduceEqDiff, reduceCtorEq, Nat.reduceAdd, Nat.reduceMul, Nat.reduceLeDiff, Nat.reduceLT, Nat.reduceSub, Int.reduceToNat, Int.reduceNeg, Int.reduceAdd, Int.reduceSub, Int.reduceMul, Int.reduceEq, Int.reduceLT, Int.reduceLE, Int.reduceNe, forall_const, forall_eq', forall_eq, List.forall_mem_cons, List.not_mem_nil]
    exact this
  generalize hXe : x :: R = X at *
  refine loop_i (fun kk ρ m' => ∃ (S pre R : List Cl), kk = R.length ∧ X = pre ++ R ∧ S.Perm pre ∧ Srt S ∧ 0 < S.length ∧ ρ 0 = .mref a 0 n cap ∧ ρ 1 = iv P.length ∧ ρ 2 = iv ((P.length + X.length : Nat) : Int) ∧ ρ 3 = .clos 19 [] ∧ ρ 8 = iv ((P.length + S.length : Nat) : Int) ∧ m' = wr a (P ++ (S ++ (R ++ Z))) m) R.length
    ⟨[x], [x], R, rfl, hXe.symm, .refl _, List.pairwise_singleton _ _, by simp, ?_⟩ ?_
  · simp only [List.length_singleton, wf_preprocess, ↓reduceIte, Nat.reduceEqDiff, reduceCtorEq, Nat.reduceAdd, Nat.reduceMul, Nat.reduceLeDiff, Nat.reduceLT, Nat.reduceSub, Int.reduceToNat, Int.reduceNeg, Int.reduceAdd, Int.reduceSub, Int.reduceMul, Int.reduceEq, Int.reduceLT, Int.reduceLE, Int.reduceNe, forall_const, forall_eq', forall_eq, List.forall_mem_cons, List.not_mem_nil]
    rw [show x :: (R ++ Z) = X ++ Z by rw [← hXe]; simp]
    exact hm.same.symm
  clear hXe R x
  rintro kk ρ m' ⟨S, pre, R, rfl, hX, hp, hs, hs0, g0, g1, g2, g3, g8, rfl⟩
  have hXl : X.length = S.length + R.length := by rw [hX, List.length_append, hp.length_eq]
  rcases R with _ | ⟨y, R⟩
  · have c1 : ¬ ((P.length + S.length : Nat) : Int) < ((P.length + X.length : Nat) : Int) := by simp at hXl; omega
    rw [List.append_nil] at hX
    subst hX
    simp only [g0, g1, g2, g3, g8, c1, List.nil_append, wf_preprocess, ↓reduceIte, Nat.reduceEqDiff, reduceCtorEq, Nat.reduceAdd, Nat.reduceMul, Nat.reduceLeDiff, Nat.reduceLT, Nat.reduceSub, Int.reduceToNat, Int.reduceNeg, Int.reduceAdd, Int.reduceSub, Int.reduceMul, Int.reduceEq, Int.reduceLT, Int.reduceLE, Int.reduceNe, forall_const, forall_eq', forall_eq, List.forall_mem_cons, List.not_mem_nil]
    exact k S hp hs
  simp only [List.length_cons] at hXl
  have c1 : ((P.length + S.length : Nat) : Int) < ((P.length + X.length : Nat) : Int) := by omega
  have w1 : IntKind.i64.wrap (((P.length + S.length : Nat) : Int) + 1) = ((P.length + (S.length + 1) : Nat) : Int) := by rw [wrap64] <;> omega
  have hy : ∀ z ∈ S, z.1 < y.1 := fun z hz => by
    rw [hX] at hu
    exact (List.pairwise_append.1 hu).2.2 z (hp.mem_iff.1 hz) y (by simp)
  simp only [g0, g1, g2, g3, g8, c1, wf_preprocess, ↓reduceIte, Nat.reduceEqDiff, reduceCtorEq, Nat.reduceAdd, Nat.reduceMul, Nat.reduceLeDiff, Nat.reduceLT, Nat.reduceSub, Int.reduceToNat, Int.reduceNeg, Int.reduceAdd, Int.reduceSub, Int.reduceMul, Int.reduceEq, Int.reduceLT, Int.reduceLE, Int.reduceNe, forall_const, forall_eq', forall_eq, List.forall_mem_cons, List.not_mem_nil]
  refine loop_i (fun kk ρ' m' => ∃ (S1 S2 : List Cl), kk = S1.length ∧ S = S1 ++ S2 ∧ (∀ z ∈ S2, lt y z) ∧ ρ' 0 = .mref a 0 n cap ∧ ρ' 1 = iv P.length ∧ ρ' 2 = iv ((P.length + X.length : Nat) : Int) ∧ ρ' 3 = .clos 19 [] ∧ ρ' 8 = iv ((P.length + S.length : Nat) : Int) ∧ ρ' 9 = iv ((P.length + S1.length : Nat) : Int) ∧ m' = wr a (P ++ (S1 ++ (y :: S2 ++ (R ++ Z)))) m) S.length
    ⟨S, [], rfl, by simp, by simp, ?_⟩ ?_
  · simp only [g0, g1, g2, g3, g8, wf_preprocess, ↓reduceIte, Nat.reduceEqDiff, reduceCtorEq, Nat.reduceAdd, Nat.reduceMul, Nat.reduceLeDiff, Nat.reduceLT, Nat.reduceSub, Int.reduceToNat, Int.reduceNeg, Int.reduceAdd, Int.reduceSub, Int.reduceMul, Int.reduceEq, Int.reduceLT, Int.reduceLE, Int.reduceNe, forall_const, forall_eq', forall_eq, List.forall_mem_cons, List.not_mem_nil]
    try simp
  rintro kk ρ' m' ⟨S1, S2, rfl, hS, hlt, k0, k1, k2, k3, k8, k9, rfl⟩
  have hSl := congrArg List.length hS
  rw [List.length_append] at hSl
  have done : Srt S1 → (∀ z ∈ S1, lt z y) → ∃ k', k' < (y :: R).length ∧ ∃ (S' pre R' : List Cl), k' = R'.length ∧ X = pre ++ R' ∧ S'.Perm pre ∧ Srt S' ∧ 0 < S'.length ∧ ((P.length + (S.length + 1) : Nat) : Int) = ((P.length + S'.length : Nat) : Int) ∧ P ++ (S1 ++ (y :: S2 ++ (R ++ Z))) = P ++ (S' ++ (R' ++ Z)) := fun h1 h2 => by
    refine ⟨R.length, by simp, S1 ++ y :: S2, pre ++ [y], R, rfl, by rw [hX]; simp, ?_, ?_, by simp; omega, by simp; omega, by simp⟩
    · refine List.perm_middle.trans ?_
      rw [← hS]
      exact (hp.cons y).trans (List.perm_append_singleton y pre).symm
    · rw [hS] at hs
      obtain ⟨s1, s2, s3⟩ := List.pairwise_append.1 hs
      refine List.pairwise_append.2 ⟨s1, List.pairwise_cons.2 ⟨hlt, s2⟩, fun z hz w hw => ?_⟩
      rcases List.mem_cons.1 hw with rfl | hw
      · exact h2 z hz
      · exact s3 z hz w hw
  have hs1 : Srt S1 := by rw [hS] at hs; exact (List.pairwise_append.1 hs).1
  by_cases hnil : S1 = []
  · subst hnil
    have c2 : ¬ (P.length : Int) < (P.length : Int) := by omega
    obtain ⟨k', hk', S', pre', R', e1, e2, e3, e4, e5, e6, e7⟩ := done hs1 (by simp)
    simp only [k0, k1, k2, k3, k8, k9, c2, w1, wf_preprocess, ↓reduceIte, Nat.reduceEqDiff, reduceCtorEq, Nat.reduceAdd, Nat.reduceMul, Nat.reduceLeDiff, Nat.reduceLT, Nat.reduceSub, Int.reduceToNat, Int.reduceNeg, Int.reduceAdd, Int.reduceSub, Int.reduceMul, Int.reduceEq, Int.reduceLT, Int.reduceLE, Int.reduceNe, forall_const, forall_eq', forall_eq, List.forall_mem_cons, List.not_mem_nil]
    have e8 := congrArg (fun l => wr a l m) e7
    try simp only [List.nil_append, List.cons_append] at e8
    exact ⟨k', hk', S', pre', R', e1, e2, e3, e4, e5, by first | exact ⟨by rw [e6], e8⟩ | exact e8 | simp only [e6, e8, and_self]⟩
  · obtain ⟨S1', z, rfl⟩ : ∃ S1' z, S1 = S1' ++ [z] := by
      obtain ⟨l', b, h⟩ := (List.eq_nil_or_concat S1).resolve_left hnil
      exact ⟨l', b, by simpa using h⟩
    have c2 : (P.length : Int) < ((P.length + S1'.length + 1 : Nat) : Int) := by omega
    have hl1 : (S1' ++ [z]).length = S1'.length + 1 := by simp
    have w2 : IntKind.i64.wrap (((P.length + S1'.length + 1 : Nat) : Int) - 1) = ((P.length + S1'.length : Nat) : Int) := by rw [wrap64] <;> omega
    have hat : At a (P ++ (S1' ++ [z] ++ (y :: S2 ++ (R ++ Z)))) (wr a (P ++ (S1' ++ [z] ++ (y :: S2 ++ (R ++ Z)))) m) := hm.put
    have eL : P ++ (S1' ++ [z] ++ (y :: S2 ++ (R ++ Z))) = (P ++ S1') ++ z :: y :: (S2 ++ (R ++ Z)) := by simp
    obtain ⟨t1, t2, t3, t4, _, _⟩ := two_facts eL (i := P.length + S1'.length) (by simp)
    have el : P.length + (S1' ++ [z]).length = P.length + S1'.length + 1 := by simp; omega
    have b1 : ((P.length + S1'.length + 1 : Nat) : Int) < (n : Int) := by simp at hSl; omega
    have b2 : ((P.length + S1'.length : Nat) : Int) < (n : Int) := by omega
    have hzy : z.1 < y.1 := hy z (by rw [hS]; simp)
    rw [el] at k9
    obtain ⟨f1, f2, f3⟩ := pc_facts t1
    obtain ⟨f4, f5, f6⟩ := pc_facts t2
    obtain ⟨f7, f8, f9⟩ := pc_facts t3
    unfold At at hat
    generalize P ++ (S1' ++ [z] ++ (y :: S2 ++ (R ++ Z))) = L at *
    simp only [k0, k1, k2, k3, k8, k9, c2, w2, b1, b2, hat, Int.natCast_nonneg, f1, f2, f3, f4, f5, f6, wf_preprocess, ↓reduceIte, Nat.reduceEqDiff, reduceCtorEq, Nat.reduceAdd, Nat.reduceMul, Nat.reduceLeDiff, Nat.reduceLT, Nat.reduceSub, Int.reduceToNat, Int.reduceNeg, Int.reduceAdd, Int.reduceSub, Int.reduceMul, Int.reduceEq, Int.reduceLT, Int.reduceLE, Int.reduceNe, forall_const, forall_eq', forall_eq, List.forall_mem_cons, List.not_mem_nil]
    refine call_i (cmp_s ?_)
    by_cases hc : z.2 < y.2
    · have gp := get_put (ob := .cells (pc (L.set (P.length + S1'.length + 1) z))) hat
      simp only [k0, k1, k2, k3, k8, k9, c2, w2, b1, b2, hat, Int.natCast_nonneg, f1, f2, f3, f4, f5, f6, f7, f8, f9, cmp_neg, hc, pc_set, gp, put_put, t4, wf_preprocess, ↓reduceIte, Nat.reduceEqDiff, reduceCtorEq, Nat.reduceAdd, Nat.reduceMul, Nat.reduceLeDiff, Nat.reduceLT, Nat.reduceSub, Int.reduceToNat, Int.reduceNeg, Int.reduceAdd, Int.reduceSub, Int.reduceMul, Int.reduceEq, Int.reduceLT, Int.reduceLE, Int.reduceNe, forall_const, forall_eq', forall_eq, List.forall_mem_cons, List.not_mem_nil]
      refine ⟨S1'.length, by simp, S1', z :: S2, rfl, by simp [hS], ?_, ?_⟩
      · intro w hw
        rcases List.mem_cons.1 hw with rfl | hw
        · exact (lt_back hzy).2 hc
        · exact hlt w hw
      · simp [wr, put_put]
    · have hzl : lt z y := (lt_of hzy).2 (by omega)
      obtain ⟨k', hk', S', pre', R', e1, e2, e3, e4, e5, e6, e7⟩ := done hs1 (fun w hw => by
        rcases List.mem_append.1 hw with hw | hw
        · exact lt_trans' ((List.pairwise_append.1 hs1).2.2 w hw z (by simp)) hzl
        · simp at hw; rw [hw]; exact hzl)
      simp only [k0, k1, k2, k3, k8, k9, c2, cmp_neg, hc, w1, wf_preprocess, ↓reduceIte, Nat.reduceEqDiff, reduceCtorEq, Nat.reduceAdd, Nat.reduceMul, Nat.reduceLeDiff, Nat.reduceLT, Nat.reduceSub, Int.reduceToNat, Int.reduceNeg, Int.reduceAdd, Int.reduceSub, Int.reduceMul, Int.reduceEq, Int.reduceLT, Int.reduceLE, Int.reduceNe, forall_const, forall_eq', forall_eq, List.forall_mem_cons, List.not_mem_nil]
      have e8 := congrArg (fun l => wr a l m) e7
      try simp only [List.nil_append, List.cons_append] at e8
      exact ⟨k', hk', S', pre', R', e1, e2, e3, e4, e5, by first | exact ⟨by rw [e6], e8⟩ | exact e8 | simp only [e6, e8, and_self]⟩
end
end Go.Proofs.Ytjegieklpeipaaa.Moi.Share
