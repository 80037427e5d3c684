/- What functions of this program do, on plain values: a part of the proofs of this seat's laws; each theorem bears its own conditions. -/
import Derived.Test.YtjegieklpeipaaaShareF
set_option linter.unusedVariables false
set_option linter.unusedSimpArgs false
set_option maxRecDepth 1000000
namespace Go.Proofs.Ytjegieklpeipaaa.Moi.Share
open Go Go.RowKit Go.Proofs.Ytjegieklpeipaaa.Moi Go.Proofs.Ytjegieklpeipaaa.Moi.Num
attribute [-wf_preprocess] ite_eq_dite forIn_eq_forIn'

/-- What a merge of lists of so many does. -/
def SymOk (N : Nat) : Prop := ∀ (a n cap b0 c d : Nat) (P X Y Z : List Cl) (m : Heap) (Q E : AV → Heap → Prop), X.length + Y.length ≤ N → At a (P ++ (X ++ (Y ++ Z))) m → 0 < X.length → 0 < Y.length → Srt X → Srt Y → (∀ x ∈ X, ∀ y ∈ Y, x.1 < y.1) →
  P.length + (X.length + (Y.length + Z.length)) = n → n ≤ 17592186044416 → b0 = P.length → c = P.length + X.length → d = P.length + X.length + Y.length →
  (∀ S, S.Perm (X ++ Y) → Srt S → Q (.tup []) (wr a (P ++ (S ++ Z)) m)) → ACall Try.prog 27 [.mref a 0 n cap, iv b0, iv c, iv d, .clos 19 []] m Q E

section
variable {E : AV → Heap → Prop} {m : Heap} {ρ : Regs} {Kn Kr : Cont} {Kx : Nat → Cont} {T : NCode} {a n cap e0 N : Nat} {P L1 L2 R1 R2 S1 Z V : List Cl} {x y : Cl}
theorem rot_e {Q : AV → Heap → Prop} {F : AV} {L X Y : List Cl} {b0 c d : Nat} (e : L = P ++ (X ++ (Y ++ Z))) (hm : At a L m) (hx : 0 < X.length) (hy : 0 < Y.length) (hn : L.length = n) (hn2 : n ≤ 17592186044416) (eb : b0 = P.length) (ec : c = P.length + X.length) (ed : d = P.length + X.length + Y.length)
    (k : Q (.tup []) (wr a (P ++ (Y ++ (X ++ Z))) m)) : ACall Try.prog 29 [.mref a 0 n cap, iv b0, iv c, iv d, F] m Q E := by
  subst e eb
  exact rot_s hm hx hy hn hn2 ec ed k

theorem sm_e (hm : At a (P ++ (L1 ++ (L2 ++ (R1 ++ (R2 ++ Z))))) m) (hn : P.length + (L1.length + (L2.length + (R1.length + (R2.length + Z.length)))) = n) (hn2 : n ≤ 17592186044416) {M : Nat} (hM : M = (P.length + L1.length) + (P.length + L1.length + L2.length + R1.length)) (hM2 : M ≤ 35184372088832)
    (g0 : ρ 0 = .mref a 0 n cap) (g2 : ρ 2 = iv ((P.length + L1.length + L2.length : Nat) : Int)) (g19 : ρ 19 = iv M) (g20 : ρ 20 = iv ((P.length + L1.length : Nat) : Int))
    (k : ∀ ρ', (∀ i, i < 5 → ρ' i = ρ i) → ρ' 18 = ρ 18 → ρ' 20 = ρ 20 → ρ' 24 = iv ((P.length + L1.length + L2.length + R1.length : Nat) : Int) → vc Try.prog E T Kn Kx Kr ρ' (wr a (P ++ (L1 ++ (R1 ++ (L2 ++ (R2 ++ Z))))) m)) : vc Try.prog E (d27e T) Kn Kx Kr ρ m := by
  have w1 := wsub hM hM2
  by_cases h1 : L2 = []
  · subst h1
    have c1 := lt_no (i := P.length + L1.length) (j := P.length + L1.length) (Nat.lt_irrefl _)
    have hw := hm.same
    simp only [List.length_nil, Nat.add_zero, List.nil_append] at *
    rw [hw] at k
    simp only [d27e, g0, g2, g19, g20, wi, w1, c1, wf_preprocess, ↓reduceIte, Nat.reduceEqDiff, reduceCtorEq, Nat.reduceAdd, Nat.reduceMul, Nat.reduceLeDiff, Nat.reduceLT, Nat.reduceSub, Int.reduceToNat, Int.reduceNeg, Int.reduceAdd, Int.reduceSub, Int.reduceMul, Int.reduceEq, Int.reduceLT, Int.reduceLE, Int.reduceNe, forall_const, forall_eq', forall_eq, List.forall_mem_cons, List.not_mem_nil]
    refine k _ (fun i hi => ?_) ?_ ?_ ?_
    · rcases i with _ | _ | _ | _ | _ | i <;> first | (simp only [g0, g2, g19, g20, wf_preprocess, ↓reduceIte, Nat.reduceEqDiff, reduceCtorEq, Nat.reduceAdd, Nat.reduceMul, Nat.reduceLeDiff, Nat.reduceLT, Nat.reduceSub, Int.reduceToNat, Int.reduceNeg, Int.reduceAdd, Int.reduceSub, Int.reduceMul, Int.reduceEq, Int.reduceLT, Int.reduceLE, Int.reduceNe, forall_const, forall_eq', forall_eq, List.forall_mem_cons, List.not_mem_nil]; done) | exact (five hi).elim
    all_goals simp only [g19, g20, wf_preprocess, ↓reduceIte, Nat.reduceEqDiff, reduceCtorEq, Nat.reduceAdd, Nat.reduceMul, Nat.reduceLeDiff, Nat.reduceLT, Nat.reduceSub, Int.reduceToNat, Int.reduceNeg, Int.reduceAdd, Int.reduceSub, Int.reduceMul, Int.reduceEq, Int.reduceLT, Int.reduceLE, Int.reduceNe, forall_const, forall_eq', forall_eq, List.forall_mem_cons, List.not_mem_nil]
  · have hl2 : 0 < L2.length := List.length_pos_iff.2 h1
    have c1 := lt_n (i := P.length + L1.length) (j := P.length + L1.length + L2.length) (Nat.lt_add_of_pos_right hl2)
    by_cases h2 : R1 = []
    · subst h2
      have c2 := lt_no (i := P.length + L1.length + L2.length) (j := P.length + L1.length + L2.length) (Nat.lt_irrefl _)
      have hw := hm.same
      simp only [List.length_nil, Nat.add_zero, List.nil_append] at *
      rw [hw] at k
      simp only [d27e, g0, g2, g19, g20, wi, w1, c1, c2, wf_preprocess, ↓reduceIte, Nat.reduceEqDiff, reduceCtorEq, Nat.reduceAdd, Nat.reduceMul, Nat.reduceLeDiff, Nat.reduceLT, Nat.reduceSub, Int.reduceToNat, Int.reduceNeg, Int.reduceAdd, Int.reduceSub, Int.reduceMul, Int.reduceEq, Int.reduceLT, Int.reduceLE, Int.reduceNe, forall_const, forall_eq', forall_eq, List.forall_mem_cons, List.not_mem_nil]
      refine k _ (fun i hi => ?_) ?_ ?_ ?_
      · rcases i with _ | _ | _ | _ | _ | i <;> first | (simp only [g0, g2, g19, g20, wf_preprocess, ↓reduceIte, Nat.reduceEqDiff, reduceCtorEq, Nat.reduceAdd, Nat.reduceMul, Nat.reduceLeDiff, Nat.reduceLT, Nat.reduceSub, Int.reduceToNat, Int.reduceNeg, Int.reduceAdd, Int.reduceSub, Int.reduceMul, Int.reduceEq, Int.reduceLT, Int.reduceLE, Int.reduceNe, forall_const, forall_eq', forall_eq, List.forall_mem_cons, List.not_mem_nil]; done) | exact (five hi).elim
      all_goals simp only [g19, g20, wf_preprocess, ↓reduceIte, Nat.reduceEqDiff, reduceCtorEq, Nat.reduceAdd, Nat.reduceMul, Nat.reduceLeDiff, Nat.reduceLT, Nat.reduceSub, Int.reduceToNat, Int.reduceNeg, Int.reduceAdd, Int.reduceSub, Int.reduceMul, Int.reduceEq, Int.reduceLT, Int.reduceLE, Int.reduceNe, forall_const, forall_eq', forall_eq, List.forall_mem_cons, List.not_mem_nil]
    · have hr1 : 0 < R1.length := List.length_pos_iff.2 h2
      have c2 := lt_n (i := P.length + L1.length + L2.length) (j := P.length + L1.length + L2.length + R1.length) (Nat.lt_add_of_pos_right hr1)
      simp only [d27e, g0, g2, g19, g20, wi, w1, c1, c2, wf_preprocess, ↓reduceIte, Nat.reduceEqDiff, reduceCtorEq, Nat.reduceAdd, Nat.reduceMul, Nat.reduceLeDiff, Nat.reduceLT, Nat.reduceSub, Int.reduceToNat, Int.reduceNeg, Int.reduceAdd, Int.reduceSub, Int.reduceMul, Int.reduceEq, Int.reduceLT, Int.reduceLE, Int.reduceNe, forall_const, forall_eq', forall_eq, List.forall_mem_cons, List.not_mem_nil]
      refine call_i (rot_e (P := P ++ L1) (X := L2) (Y := R1) (Z := R2 ++ Z) (by simp) hm hl2 hr1 (by simp only [List.length_append]; exact hn) hn2 (by simp) (by simp) (by simp) ?_)
      simp only [wf_preprocess, ↓reduceIte, Nat.reduceEqDiff, reduceCtorEq, Nat.reduceAdd, Nat.reduceMul, Nat.reduceLeDiff, Nat.reduceLT, Nat.reduceSub, Int.reduceToNat, Int.reduceNeg, Int.reduceAdd, Int.reduceSub, Int.reduceMul, Int.reduceEq, Int.reduceLT, Int.reduceLE, Int.reduceNe, forall_const, forall_eq', forall_eq, List.forall_mem_cons, List.not_mem_nil]
      rw [List.append_assoc]
      refine k _ (fun i hi => ?_) ?_ ?_ ?_
      · rcases i with _ | _ | _ | _ | _ | i <;> first | (simp only [g0, g2, g19, g20, wf_preprocess, ↓reduceIte, Nat.reduceEqDiff, reduceCtorEq, Nat.reduceAdd, Nat.reduceMul, Nat.reduceLeDiff, Nat.reduceLT, Nat.reduceSub, Int.reduceToNat, Int.reduceNeg, Int.reduceAdd, Int.reduceSub, Int.reduceMul, Int.reduceEq, Int.reduceLT, Int.reduceLE, Int.reduceNe, forall_const, forall_eq', forall_eq, List.forall_mem_cons, List.not_mem_nil]; done) | exact (five hi).elim
      all_goals simp only [g19, g20, wf_preprocess, ↓reduceIte, Nat.reduceEqDiff, reduceCtorEq, Nat.reduceAdd, Nat.reduceMul, Nat.reduceLeDiff, Nat.reduceLT, Nat.reduceSub, Int.reduceToNat, Int.reduceNeg, Int.reduceAdd, Int.reduceSub, Int.reduceMul, Int.reduceEq, Int.reduceLT, Int.reduceLE, Int.reduceNe, forall_const, forall_eq', forall_eq, List.forall_mem_cons, List.not_mem_nil]

theorem sm_f (ih : SymOk N) (hN : L1.length + R1.length ≤ N) (hm : At a (P ++ (L1 ++ (R1 ++ V))) m) (s1 : Srt L1) (s2 : Srt R1) (hxy : ∀ x ∈ L1, ∀ y ∈ R1, x.1 < y.1) (hn : P.length + (L1.length + (R1.length + V.length)) = n) (hn2 : n ≤ 17592186044416)
    (g0 : ρ 0 = .mref a 0 n cap) (g1 : ρ 1 = iv P.length) (g4 : ρ 4 = .clos 19 []) (g18 : ρ 18 = iv ((P.length + L1.length + R1.length : Nat) : Int)) (g20 : ρ 20 = iv ((P.length + L1.length : Nat) : Int))
    (k : ∀ ρ' S, (∀ i, i < 5 → ρ' i = ρ i) → ρ' 18 = ρ 18 → ρ' 24 = ρ 24 → S.Perm (L1 ++ R1) → Srt S → vc Try.prog E T Kn Kx Kr ρ' (wr a (P ++ (S ++ V)) m)) : vc Try.prog E (d27f T) Kn Kx Kr ρ m := by
  by_cases h1 : L1 = []
  · subst h1
    have c1 := lt_no (i := P.length) (j := P.length) (Nat.lt_irrefl _)
    have hw := hm.same
    simp only [List.length_nil, Nat.add_zero, List.nil_append] at *
    have k := fun ρ' h1 h2 h3 => k ρ' R1 h1 h2 h3 (.refl _) s2
    rw [hw] at k
    simp only [d27f, g0, g1, g4, g18, g20, c1, wf_preprocess, ↓reduceIte, Nat.reduceEqDiff, reduceCtorEq, Nat.reduceAdd, Nat.reduceMul, Nat.reduceLeDiff, Nat.reduceLT, Nat.reduceSub, Int.reduceToNat, Int.reduceNeg, Int.reduceAdd, Int.reduceSub, Int.reduceMul, Int.reduceEq, Int.reduceLT, Int.reduceLE, Int.reduceNe, forall_const, forall_eq', forall_eq, List.forall_mem_cons, List.not_mem_nil]
    refine k _ (fun i hi => ?_) ?_ ?_
    · rcases i with _ | _ | _ | _ | _ | i <;> first | (simp only [g0, g1, g4, wf_preprocess, ↓reduceIte, Nat.reduceEqDiff, reduceCtorEq, Nat.reduceAdd, Nat.reduceMul, Nat.reduceLeDiff, Nat.reduceLT, Nat.reduceSub, Int.reduceToNat, Int.reduceNeg, Int.reduceAdd, Int.reduceSub, Int.reduceMul, Int.reduceEq, Int.reduceLT, Int.reduceLE, Int.reduceNe, forall_const, forall_eq', forall_eq, List.forall_mem_cons, List.not_mem_nil]; done) | exact (five hi).elim
    all_goals simp only [g18, g20, wf_preprocess, ↓reduceIte, Nat.reduceEqDiff, reduceCtorEq, Nat.reduceAdd, Nat.reduceMul, Nat.reduceLeDiff, Nat.reduceLT, Nat.reduceSub, Int.reduceToNat, Int.reduceNeg, Int.reduceAdd, Int.reduceSub, Int.reduceMul, Int.reduceEq, Int.reduceLT, Int.reduceLE, Int.reduceNe, forall_const, forall_eq', forall_eq, List.forall_mem_cons, List.not_mem_nil]
  · have hl1 : 0 < L1.length := List.length_pos_iff.2 h1
    have c1 := lt_n (i := P.length) (j := P.length + L1.length) (Nat.lt_add_of_pos_right hl1)
    by_cases h2 : R1 = []
    · subst h2
      have c2 := lt_no (i := P.length + L1.length) (j := P.length + L1.length) (Nat.lt_irrefl _)
      have hw := hm.same
      simp only [List.length_nil, Nat.add_zero, List.nil_append, List.append_nil] at *
      have k := fun ρ' h1 h2 h3 => k ρ' L1 h1 h2 h3 (.refl _) s1
      rw [hw] at k
      simp only [d27f, g0, g1, g4, g18, g20, c1, c2, wf_preprocess, ↓reduceIte, Nat.reduceEqDiff, reduceCtorEq, Nat.reduceAdd, Nat.reduceMul, Nat.reduceLeDiff, Nat.reduceLT, Nat.reduceSub, Int.reduceToNat, Int.reduceNeg, Int.reduceAdd, Int.reduceSub, Int.reduceMul, Int.reduceEq, Int.reduceLT, Int.reduceLE, Int.reduceNe, forall_const, forall_eq', forall_eq, List.forall_mem_cons, List.not_mem_nil]
      refine k _ (fun i hi => ?_) ?_ ?_
      · rcases i with _ | _ | _ | _ | _ | i <;> first | (simp only [g0, g1, g4, wf_preprocess, ↓reduceIte, Nat.reduceEqDiff, reduceCtorEq, Nat.reduceAdd, Nat.reduceMul, Nat.reduceLeDiff, Nat.reduceLT, Nat.reduceSub, Int.reduceToNat, Int.reduceNeg, Int.reduceAdd, Int.reduceSub, Int.reduceMul, Int.reduceEq, Int.reduceLT, Int.reduceLE, Int.reduceNe, forall_const, forall_eq', forall_eq, List.forall_mem_cons, List.not_mem_nil]; done) | exact (five hi).elim
      all_goals simp only [g18, g20, wf_preprocess, ↓reduceIte, Nat.reduceEqDiff, reduceCtorEq, Nat.reduceAdd, Nat.reduceMul, Nat.reduceLeDiff, Nat.reduceLT, Nat.reduceSub, Int.reduceToNat, Int.reduceNeg, Int.reduceAdd, Int.reduceSub, Int.reduceMul, Int.reduceEq, Int.reduceLT, Int.reduceLE, Int.reduceNe, forall_const, forall_eq', forall_eq, List.forall_mem_cons, List.not_mem_nil]
    · have hr1 : 0 < R1.length := List.length_pos_iff.2 h2
      have c2 := lt_n (i := P.length + L1.length) (j := P.length + L1.length + R1.length) (Nat.lt_add_of_pos_right hr1)
      simp only [d27f, g0, g1, g4, g18, g20, c1, c2, wf_preprocess, ↓reduceIte, Nat.reduceEqDiff, reduceCtorEq, Nat.reduceAdd, Nat.reduceMul, Nat.reduceLeDiff, Nat.reduceLT, Nat.reduceSub, Int.reduceToNat, Int.reduceNeg, Int.reduceAdd, Int.reduceSub, Int.reduceMul, Int.reduceEq, Int.reduceLT, Int.reduceLE, Int.reduceNe, forall_const, forall_eq', forall_eq, List.forall_mem_cons, List.not_mem_nil]
      refine call_i (ih a n cap _ _ _ P L1 R1 V m _ _ hN hm hl1 hr1 s1 s2 hxy hn hn2 rfl rfl rfl fun S p1 p2 => ?_)
      simp only [wf_preprocess, ↓reduceIte, Nat.reduceEqDiff, reduceCtorEq, Nat.reduceAdd, Nat.reduceMul, Nat.reduceLeDiff, Nat.reduceLT, Nat.reduceSub, Int.reduceToNat, Int.reduceNeg, Int.reduceAdd, Int.reduceSub, Int.reduceMul, Int.reduceEq, Int.reduceLT, Int.reduceLE, Int.reduceNe, forall_const, forall_eq', forall_eq, List.forall_mem_cons, List.not_mem_nil]
      refine k _ S (fun i hi => ?_) ?_ ?_ p1 p2
      · rcases i with _ | _ | _ | _ | _ | i <;> first | (simp only [g0, g1, g4, wf_preprocess, ↓reduceIte, Nat.reduceEqDiff, reduceCtorEq, Nat.reduceAdd, Nat.reduceMul, Nat.reduceLeDiff, Nat.reduceLT, Nat.reduceSub, Int.reduceToNat, Int.reduceNeg, Int.reduceAdd, Int.reduceSub, Int.reduceMul, Int.reduceEq, Int.reduceLT, Int.reduceLE, Int.reduceNe, forall_const, forall_eq', forall_eq, List.forall_mem_cons, List.not_mem_nil]; done) | exact (five hi).elim
      all_goals simp only [g18, g20, wf_preprocess, ↓reduceIte, Nat.reduceEqDiff, reduceCtorEq, Nat.reduceAdd, Nat.reduceMul, Nat.reduceLeDiff, Nat.reduceLT, Nat.reduceSub, Int.reduceToNat, Int.reduceNeg, Int.reduceAdd, Int.reduceSub, Int.reduceMul, Int.reduceEq, Int.reduceLT, Int.reduceLE, Int.reduceNe, forall_const, forall_eq', forall_eq, List.forall_mem_cons, List.not_mem_nil]

theorem sm_g (ih : SymOk N) (hN : L2.length + R2.length ≤ N) (hm : At a (P ++ (L2 ++ (R2 ++ Z))) m) (s1 : Srt L2) (s2 : Srt R2) (hxy : ∀ x ∈ L2, ∀ y ∈ R2, x.1 < y.1) (hn : P.length + (L2.length + (R2.length + Z.length)) = n) (hn2 : n ≤ 17592186044416)
    (g0 : ρ 0 = .mref a 0 n cap) (g3 : ρ 3 = iv ((P.length + L2.length + R2.length : Nat) : Int)) (g4 : ρ 4 = .clos 19 []) (g18 : ρ 18 = iv P.length) (g24 : ρ 24 = iv ((P.length + L2.length : Nat) : Int))
    (k : ∀ ρ' S, S.Perm (L2 ++ R2) → Srt S → Kn ρ' (wr a (P ++ (S ++ Z)) m)) : vc Try.prog E d27g Kn Kx Kr ρ m := by
  by_cases h1 : L2 = []
  · subst h1
    have c1 := lt_no (i := P.length) (j := P.length) (Nat.lt_irrefl _)
    have hw := hm.same
    simp only [List.length_nil, Nat.add_zero, List.nil_append] at *
    have k := fun ρ' => k ρ' R2 (.refl _) s2
    rw [hw] at k
    simp only [d27g, g0, g3, g4, g18, g24, c1, wf_preprocess, ↓reduceIte, Nat.reduceEqDiff, reduceCtorEq, Nat.reduceAdd, Nat.reduceMul, Nat.reduceLeDiff, Nat.reduceLT, Nat.reduceSub, Int.reduceToNat, Int.reduceNeg, Int.reduceAdd, Int.reduceSub, Int.reduceMul, Int.reduceEq, Int.reduceLT, Int.reduceLE, Int.reduceNe, forall_const, forall_eq', forall_eq, List.forall_mem_cons, List.not_mem_nil]
    exact k _
  · have hl1 : 0 < L2.length := List.length_pos_iff.2 h1
    have c1 := lt_n (i := P.length) (j := P.length + L2.length) (Nat.lt_add_of_pos_right hl1)
    by_cases h2 : R2 = []
    · subst h2
      have c2 := lt_no (i := P.length + L2.length) (j := P.length + L2.length) (Nat.lt_irrefl _)
      have hw := hm.same
      simp only [List.length_nil, Nat.add_zero, List.nil_append, List.append_nil] at *
      have k := fun ρ' => k ρ' L2 (.refl _) s1
      rw [hw] at k
      simp only [d27g, g0, g3, g4, g18, g24, c1, c2, wf_preprocess, ↓reduceIte, Nat.reduceEqDiff, reduceCtorEq, Nat.reduceAdd, Nat.reduceMul, Nat.reduceLeDiff, Nat.reduceLT, Nat.reduceSub, Int.reduceToNat, Int.reduceNeg, Int.reduceAdd, Int.reduceSub, Int.reduceMul, Int.reduceEq, Int.reduceLT, Int.reduceLE, Int.reduceNe, forall_const, forall_eq', forall_eq, List.forall_mem_cons, List.not_mem_nil]
      exact k _
    · have hr1 : 0 < R2.length := List.length_pos_iff.2 h2
      have c2 := lt_n (i := P.length + L2.length) (j := P.length + L2.length + R2.length) (Nat.lt_add_of_pos_right hr1)
      simp only [d27g, g0, g3, g4, g18, g24, c1, c2, wf_preprocess, ↓reduceIte, Nat.reduceEqDiff, reduceCtorEq, Nat.reduceAdd, Nat.reduceMul, Nat.reduceLeDiff, Nat.reduceLT, Nat.reduceSub, Int.reduceToNat, Int.reduceNeg, Int.reduceAdd, Int.reduceSub, Int.reduceMul, Int.reduceEq, Int.reduceLT, Int.reduceLE, Int.reduceNe, forall_const, forall_eq', forall_eq, List.forall_mem_cons, List.not_mem_nil]
      refine call_i (ih a n cap _ _ _ P L2 R2 Z m _ _ hN hm hl1 hr1 s1 s2 hxy hn hn2 rfl rfl rfl fun S p1 p2 => ?_)
      simp only [wf_preprocess, ↓reduceIte, Nat.reduceEqDiff, reduceCtorEq, Nat.reduceAdd, Nat.reduceMul, Nat.reduceLeDiff, Nat.reduceLT, Nat.reduceSub, Int.reduceToNat, Int.reduceNeg, Int.reduceAdd, Int.reduceSub, Int.reduceMul, Int.reduceEq, Int.reduceLT, Int.reduceLE, Int.reduceNe, forall_const, forall_eq', forall_eq, List.forall_mem_cons, List.not_mem_nil]
      exact k _ S p1 p2
end
end Go.Proofs.Ytjegieklpeipaaa.Moi.Share
