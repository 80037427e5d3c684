/- What functions of this program do, on plain values: a part of the proofs of this seat's laws; each theorem bears its own conditions. -/
import Derived.Test.YtjegieklpeipaaaShareJ
set_option linter.unusedVariables false
set_option linter.unusedSimpArgs false
set_option maxRecDepth 1000000
namespace Go.Proofs.Ytjegieklpeipaaa.Moi.Share
open Go Go.RowKit Go.Proofs.Ytjegieklpeipaaa.Moi Go.Proofs.Ytjegieklpeipaaa.Moi.Num
attribute [-wf_preprocess] ite_eq_dite forIn_eq_forIn'

section
variable {E : AV → Heap → Prop} {m : Heap} {ρ : Regs} {Kn Kr : Cont} {Kx : Nat → Cont} {T : NCode} {a n cap : Nat} {l : List Cl}
theorem sym_e {Q : AV → Heap → Prop} {L P X Y Z : List Cl} {b0 c d : Nat} (e : L = P ++ (X ++ (Y ++ Z))) (hm : At a L m) (hx : 0 < X.length) (hy : 0 < Y.length) (sx : Srt X) (sy : Srt Y) (hxy : ∀ x ∈ X, ∀ y ∈ Y, x.1 < y.1) (hn : L.length = n) (hn2 : n ≤ 17592186044416)
    (eb : b0 = P.length) (ec : c = P.length + X.length) (ed : d = P.length + X.length + Y.length) (k : ∀ S, S.Perm (X ++ Y) → Srt S → Q (.tup []) (wr a (P ++ (S ++ Z)) m)) : ACall Try.prog 27 [.mref a 0 n cap, iv b0, iv c, iv d, .clos 19 []] m Q E := by
  subst e
  exact sym_ok (X.length + Y.length) a n cap b0 c d P X Y Z m Q E (Nat.le_refl _) hm hx hy sx sy hxy (by rw [← hn]; simp only [List.length_append]) hn2 eb ec ed k

/-- What the state is between the rounds. -/
def St (a n cap : Nat) (l : List Cl) (m : Heap) (B : Nat) (ρ0 ρ' : Regs) (m' : Heap) : Prop := ∃ (bl : List Bl) (t : Bl), 0 < B ∧ full B bl ∧ good t ∧ t.1.length < B ∧ fl2 bl ++ t.2 = l ∧ (∀ i, i < 3 → ρ' i = ρ0 i) ∧ ρ' 6 = iv B ∧ m' = wr a (fl1 bl ++ t.1) m

theorem st_b (hm : At a l m) (hu : Up l) (hn : l.length = n) (hn2 : n ≤ 1000000) (g0 : ρ 0 = .mref a 0 n cap) (g1 : ρ 1 = iv n) (g2 : ρ 2 = .clos 19 []) {ρ0 : Regs} {m0 : Heap} (h0 : St a n cap l m 20 ρ ρ0 m0)
    (k : ∀ ρ' S, S.Perm l → Srt S → Kn ρ' (wr a S m)) : vc Try.prog E d24b Kn Kx Kr ρ0 m0 := by
  simp only [d24b, wf_preprocess, ↓reduceIte, Nat.reduceEqDiff, reduceCtorEq, Nat.reduceAdd, Nat.reduceMul, Nat.reduceLeDiff, Nat.reduceLT, Nat.reduceSub, Int.reduceToNat, Int.reduceNeg, Int.reduceAdd, Int.reduceSub, Int.reduceMul, Int.reduceEq, Int.reduceLT, Int.reduceLE, Int.reduceNe, forall_const, forall_eq', forall_eq, List.forall_mem_cons, List.not_mem_nil]
  refine loop_i (fun kk ρ' m' => ∃ B, kk = 4000000 - B ∧ (B < 2 * n ∨ B = 20) ∧ St a n cap l m B ρ ρ' m') (4000000 - 20) ⟨20, rfl, .inr rfl, h0⟩ ?_
  rintro kk ρ' m' ⟨B, rfl, hB, bl, t, hB0, hf, hg, ht, hl, k5, k6, rfl⟩
  have k0 := (k5 0 (by decide)).trans g0
  have k1 := (k5 1 (by decide)).trans g1
  have k2 := (k5 2 (by decide)).trans g2
  have hp := (fl_perm fun x hx => (hf x hx).2).length_eq
  have hlen : (fl1 bl).length + t.1.length = n := by rw [hp, hg.1.length_eq, ← hn, ← hl, List.length_append]
  have hbl := full_len hf
  by_cases hc : B < n
  · have c1 : (B : Int) < (n : Int) := by omega
    have w1 : IntKind.i64.wrap (2 * (B : Int)) = ((2 * B : Nat) : Int) := by rw [wrap64] <;> omega
    have w2 : IntKind.i64.wrap ((B : Int) * 2) = ((2 * B : Nat) : Int) := by rw [wrap64] <;> omega
    simp only [k0, k1, k2, k6, c1, w1, wf_preprocess, ↓reduceIte, Nat.reduceEqDiff, reduceCtorEq, Nat.reduceAdd, Nat.reduceMul, Nat.reduceLeDiff, Nat.reduceLT, Nat.reduceSub, Int.reduceToNat, Int.reduceNeg, Int.reduceAdd, Int.reduceSub, Int.reduceMul, Int.reduceEq, Int.reduceLT, Int.reduceLE, Int.reduceNe, forall_const, forall_eq', forall_eq, List.forall_mem_cons, List.not_mem_nil]
    refine loop_i (fun kk ρ2 m2 => ∃ (dn rest : List Bl), kk = rest.length ∧ full (2 * B) dn ∧ full B rest ∧ fl2 dn ++ (fl2 rest ++ t.2) = l ∧ (∀ i, i < 3 → ρ2 i = ρ i) ∧ ρ2 6 = iv B ∧ ρ2 7 = iv (fl1 dn).length ∧ ρ2 8 = iv (((fl1 dn).length + 2 * B : Nat) : Int) ∧ m2 = wr a (fl1 dn ++ (fl1 rest ++ t.1)) m) bl.length
      ⟨[], bl, rfl, (fun x hx => by simp at hx), hf, hl, fun i hi => ?_, ?_⟩ ?_
    · have := k5 i hi
      rcases i with _ | _ | _ | i <;> first | (simp only [k0, k1, k2, g0, g1, g2, wf_preprocess, ↓reduceIte, Nat.reduceEqDiff, reduceCtorEq, Nat.reduceAdd, Nat.reduceMul, Nat.reduceLeDiff, Nat.reduceLT, Nat.reduceSub, Int.reduceToNat, Int.reduceNeg, Int.reduceAdd, Int.reduceSub, Int.reduceMul, Int.reduceEq, Int.reduceLT, Int.reduceLE, Int.reduceNe, forall_const, forall_eq', forall_eq, List.forall_mem_cons, List.not_mem_nil]; done) | omega
    · simp [k6, fl1, wf_preprocess, ↓reduceIte, Nat.reduceEqDiff, reduceCtorEq, Nat.reduceAdd, Nat.reduceMul, Nat.reduceLeDiff, Nat.reduceLT, Nat.reduceSub, Int.reduceToNat, Int.reduceNeg, Int.reduceAdd, Int.reduceSub, Int.reduceMul, Int.reduceEq, Int.reduceLT, Int.reduceLE, Int.reduceNe, forall_const, forall_eq', forall_eq, List.forall_mem_cons, List.not_mem_nil]
    rintro kk ρ2 m2 ⟨dn, rest, rfl, hd, hf2, hl2, j5, j6, j7, j8, rfl⟩
    have j0 := (j5 0 (by decide)).trans g0
    have j1 := (j5 1 (by decide)).trans g1
    have j2 := (j5 2 (by decide)).trans g2
    have hlen2 : (fl1 dn).length + ((fl1 rest).length + t.1.length) = n := by
      rw [(fl_perm fun x hx => (hd x hx).2).length_eq, (fl_perm fun x hx => (hf2 x hx).2).length_eq, hg.1.length_eq, ← hn, ← hl2, List.length_append, List.length_append]
    have hat : At a (fl1 dn ++ (fl1 rest ++ t.1)) (wr a (fl1 dn ++ (fl1 rest ++ t.1)) m) := hm.put
    have hLn : (fl1 dn ++ (fl1 rest ++ t.1)).length = n := by rw [List.length_append, List.length_append]; exact hlen2
    have hup : Up (fl2 rest ++ t.2) := by rw [← hl2] at hu; exact (List.pairwise_append.1 hu).2.1
    have fin : ∀ (ρ3 : Regs) (x : Bl), good x → x.1.length < 2 * B → fl2 dn ++ x.2 = l → (∀ i, i < 3 → ρ3 i = ρ i) → ρ3 6 = iv ((2 * B : Nat) : Int) →
        ∃ k', k' < 4000000 - B ∧ ∃ B', k' = 4000000 - B' ∧ (B' < 2 * n ∨ B' = 20) ∧ St a n cap l m B' ρ ρ3 (wr a (fl1 dn ++ x.1) m) := fun ρ3 x h1 h2 h3 h4 h5 =>
      ⟨4000000 - 2 * B, by omega, 2 * B, rfl, by omega, dn, x, by omega, hd, h1, h2, h3, h4, h5, rfl⟩
    rcases rest with _ | ⟨x, _ | ⟨y, rest⟩⟩
    · have e0 : fl1 [] = ([] : List Cl) := rfl
      have c2 : ¬ (((fl1 dn).length + 2 * B : Nat) : Int) ≤ (n : Int) := by simp [e0] at hlen2; omega
      have w3 : IntKind.i64.wrap (((fl1 dn).length : Int) + (B : Int)) = (((fl1 dn).length + B : Nat) : Int) := by simp [e0] at hlen2; rw [wrap64] <;> omega
      have c3 : ¬ (((fl1 dn).length + B : Nat) : Int) < (n : Int) := by simp [e0] at hlen2; omega
      simp only [j0, j1, j2, j6, j7, j8, c2, c3, w2, w3, wf_preprocess, ↓reduceIte, Nat.reduceEqDiff, reduceCtorEq, Nat.reduceAdd, Nat.reduceMul, Nat.reduceLeDiff, Nat.reduceLT, Nat.reduceSub, Int.reduceToNat, Int.reduceNeg, Int.reduceAdd, Int.reduceSub, Int.reduceMul, Int.reduceEq, Int.reduceLT, Int.reduceLE, Int.reduceNe, forall_const, forall_eq', forall_eq, List.forall_mem_cons, List.not_mem_nil]
      refine fin _ t hg (by omega) hl2 (fun i hi => ?_) ?_
      · rcases i with _ | _ | _ | i <;> first | (simp only [j0, j1, j2, g0, g1, g2, wf_preprocess, ↓reduceIte, Nat.reduceEqDiff, reduceCtorEq, Nat.reduceAdd, Nat.reduceMul, Nat.reduceLeDiff, Nat.reduceLT, Nat.reduceSub, Int.reduceToNat, Int.reduceNeg, Int.reduceAdd, Int.reduceSub, Int.reduceMul, Int.reduceEq, Int.reduceLT, Int.reduceLE, Int.reduceNe, forall_const, forall_eq', forall_eq, List.forall_mem_cons, List.not_mem_nil]; done) | omega
      · simp only [wf_preprocess, ↓reduceIte, Nat.reduceEqDiff, reduceCtorEq, Nat.reduceAdd, Nat.reduceMul, Nat.reduceLeDiff, Nat.reduceLT, Nat.reduceSub, Int.reduceToNat, Int.reduceNeg, Int.reduceAdd, Int.reduceSub, Int.reduceMul, Int.reduceEq, Int.reduceLT, Int.reduceLE, Int.reduceNe, forall_const, forall_eq', forall_eq, List.forall_mem_cons, List.not_mem_nil]
    · have hxx := hf2 x (by simp)
      have e1 : fl1 [x] = x.1 := by simp [fl1]
      have e2 : fl2 [x] = x.2 := by simp [fl2]
      rw [e1] at hlen2 hat hLn
      rw [e2] at hl2 hup
      have c2 : ¬ (((fl1 dn).length + 2 * B : Nat) : Int) ≤ (n : Int) := by have := hxx.1; omega
      have w3 : IntKind.i64.wrap (((fl1 dn).length : Int) + (B : Int)) = (((fl1 dn).length + B : Nat) : Int) := by have := hxx.1; rw [wrap64] <;> omega
      by_cases ht0 : t.1 = []
      · have ht2 : t.2 = [] := List.length_eq_zero_iff.1 (by rw [← hg.1.length_eq, ht0]; rfl)
        have c3 : ¬ (((fl1 dn).length + B : Nat) : Int) < (n : Int) := by have := hxx.1; rw [ht0] at hlen2; simp at hlen2; omega
        simp only [j0, j1, j2, j6, j7, j8, c2, c3, w2, w3, e1, ht0, List.append_nil, wf_preprocess, ↓reduceIte, Nat.reduceEqDiff, reduceCtorEq, Nat.reduceAdd, Nat.reduceMul, Nat.reduceLeDiff, Nat.reduceLT, Nat.reduceSub, Int.reduceToNat, Int.reduceNeg, Int.reduceAdd, Int.reduceSub, Int.reduceMul, Int.reduceEq, Int.reduceLT, Int.reduceLE, Int.reduceNe, forall_const, forall_eq', forall_eq, List.forall_mem_cons, List.not_mem_nil]
        refine fin _ x hxx.2 (by have := hxx.1; omega) (by rw [ht2, List.append_nil] at hl2; exact hl2) (fun i hi => ?_) ?_
        · rcases i with _ | _ | _ | i <;> first | (simp only [j0, j1, j2, g0, g1, g2, wf_preprocess, ↓reduceIte, Nat.reduceEqDiff, reduceCtorEq, Nat.reduceAdd, Nat.reduceMul, Nat.reduceLeDiff, Nat.reduceLT, Nat.reduceSub, Int.reduceToNat, Int.reduceNeg, Int.reduceAdd, Int.reduceSub, Int.reduceMul, Int.reduceEq, Int.reduceLT, Int.reduceLE, Int.reduceNe, forall_const, forall_eq', forall_eq, List.forall_mem_cons, List.not_mem_nil]; done) | omega
        · simp only [wf_preprocess, ↓reduceIte, Nat.reduceEqDiff, reduceCtorEq, Nat.reduceAdd, Nat.reduceMul, Nat.reduceLeDiff, Nat.reduceLT, Nat.reduceSub, Int.reduceToNat, Int.reduceNeg, Int.reduceAdd, Int.reduceSub, Int.reduceMul, Int.reduceEq, Int.reduceLT, Int.reduceLE, Int.reduceNe, forall_const, forall_eq', forall_eq, List.forall_mem_cons, List.not_mem_nil]
      · have htl : 0 < t.1.length := List.length_pos_iff.2 ht0
        have c3 : (((fl1 dn).length + B : Nat) : Int) < (n : Int) := by have := hxx.1; omega
        simp only [j0, j1, j2, j6, j7, j8, c2, c3, w2, w3, e1, wf_preprocess, ↓reduceIte, Nat.reduceEqDiff, reduceCtorEq, Nat.reduceAdd, Nat.reduceMul, Nat.reduceLeDiff, Nat.reduceLT, Nat.reduceSub, Int.reduceToNat, Int.reduceNeg, Int.reduceAdd, Int.reduceSub, Int.reduceMul, Int.reduceEq, Int.reduceLT, Int.reduceLE, Int.reduceNe, forall_const, forall_eq', forall_eq, List.forall_mem_cons, List.not_mem_nil]
        refine call_i (sym_e (P := fl1 dn) (X := x.1) (Y := t.1) (Z := []) (by rw [List.append_nil]) hat (by rw [hxx.1]; exact hB0) htl hxx.2.2 hg.2 (good_apart hxx.2 hg (fun u hu v hv => (List.pairwise_append.1 hup).2.2 u hu v hv)) hLn (by omega) rfl (by rw [hxx.1]) (by omega) fun S p q => ?_)
        simp only [j0, j1, j2, j6, j7, j8, w2, wr_wr, List.append_nil, wf_preprocess, ↓reduceIte, Nat.reduceEqDiff, reduceCtorEq, Nat.reduceAdd, Nat.reduceMul, Nat.reduceLeDiff, Nat.reduceLT, Nat.reduceSub, Int.reduceToNat, Int.reduceNeg, Int.reduceAdd, Int.reduceSub, Int.reduceMul, Int.reduceEq, Int.reduceLT, Int.reduceLE, Int.reduceNe, forall_const, forall_eq', forall_eq, List.forall_mem_cons, List.not_mem_nil]
        refine fin _ (S, x.2 ++ t.2) (good_join hxx.2 hg p q) (by have := p.length_eq; rw [List.length_append] at this; have := hxx.1; show S.length < _; omega) hl2 (fun i hi => ?_) ?_
        · rcases i with _ | _ | _ | i <;> first | (simp only [j0, j1, j2, g0, g1, g2, wf_preprocess, ↓reduceIte, Nat.reduceEqDiff, reduceCtorEq, Nat.reduceAdd, Nat.reduceMul, Nat.reduceLeDiff, Nat.reduceLT, Nat.reduceSub, Int.reduceToNat, Int.reduceNeg, Int.reduceAdd, Int.reduceSub, Int.reduceMul, Int.reduceEq, Int.reduceLT, Int.reduceLE, Int.reduceNe, forall_const, forall_eq', forall_eq, List.forall_mem_cons, List.not_mem_nil]; done) | omega
        · simp only [wf_preprocess, ↓reduceIte, Nat.reduceEqDiff, reduceCtorEq, Nat.reduceAdd, Nat.reduceMul, Nat.reduceLeDiff, Nat.reduceLT, Nat.reduceSub, Int.reduceToNat, Int.reduceNeg, Int.reduceAdd, Int.reduceSub, Int.reduceMul, Int.reduceEq, Int.reduceLT, Int.reduceLE, Int.reduceNe, forall_const, forall_eq', forall_eq, List.forall_mem_cons, List.not_mem_nil]
    · have hxx := hf2 x (by simp)
      have hyy := hf2 y (by simp)
      have e1 : fl1 (x :: y :: rest) = x.1 ++ (y.1 ++ fl1 rest) := by simp [fl1]
      have e2 : fl2 (x :: y :: rest) = x.2 ++ (y.2 ++ fl2 rest) := by simp [fl2]
      rw [e1] at hlen2 hat hLn
      rw [e2] at hl2 hup
      simp only [List.length_append] at hlen2
      have hup2 : ∀ u ∈ x.2, ∀ v ∈ y.2, u.1 < v.1 := fun u hu v hv => (List.pairwise_append.1 (show Up (x.2 ++ (y.2 ++ fl2 rest ++ t.2)) by simpa using hup)).2.2 u hu v (by simp [hv])
      have c2 : (((fl1 dn).length + 2 * B : Nat) : Int) ≤ (n : Int) := by have := hxx.1; have := hyy.1; omega
      have w3 : IntKind.i64.wrap (((fl1 dn).length : Int) + (B : Int)) = (((fl1 dn).length + B : Nat) : Int) := by have := hxx.1; rw [wrap64] <;> omega
      have w4 : IntKind.i64.wrap ((((fl1 dn).length + 2 * B : Nat) : Int) + ((2 * B : Nat) : Int)) = (((fl1 dn).length + 2 * B + 2 * B : Nat) : Int) := by rw [wrap64] <;> omega
      simp only [j0, j1, j2, j6, j7, j8, c2, w1, w3, e1, wf_preprocess, ↓reduceIte, Nat.reduceEqDiff, reduceCtorEq, Nat.reduceAdd, Nat.reduceMul, Nat.reduceLeDiff, Nat.reduceLT, Nat.reduceSub, Int.reduceToNat, Int.reduceNeg, Int.reduceAdd, Int.reduceSub, Int.reduceMul, Int.reduceEq, Int.reduceLT, Int.reduceLE, Int.reduceNe, forall_const, forall_eq', forall_eq, List.forall_mem_cons, List.not_mem_nil]
      refine call_i (sym_e (P := fl1 dn) (X := x.1) (Y := y.1) (Z := fl1 rest ++ t.1) (by simp) hat (by rw [hxx.1]; exact hB0) (by rw [hyy.1]; exact hB0) hxx.2.2 hyy.2.2 (good_apart hxx.2 hyy.2 hup2) hLn (by omega) rfl (by rw [hxx.1]) (by rw [hxx.1, hyy.1]; omega) fun S p q => ?_)
      have hS : S.length = 2 * B := by have := p.length_eq; rw [List.length_append, hxx.1, hyy.1] at this; omega
      simp only [j0, j1, j2, j6, j7, j8, w1, w4, wr_wr, wf_preprocess, ↓reduceIte, Nat.reduceEqDiff, reduceCtorEq, Nat.reduceAdd, Nat.reduceMul, Nat.reduceLeDiff, Nat.reduceLT, Nat.reduceSub, Int.reduceToNat, Int.reduceNeg, Int.reduceAdd, Int.reduceSub, Int.reduceMul, Int.reduceEq, Int.reduceLT, Int.reduceLE, Int.reduceNe, forall_const, forall_eq', forall_eq, List.forall_mem_cons, List.not_mem_nil]
      refine ⟨rest.length, by first | (simp only [List.length_cons]; omega) | omega, dn ++ [(S, x.2 ++ y.2)], rest, rfl, full_snoc hd hS (good_join hxx.2 hyy.2 p q), fun z hz => hf2 z (by simp [hz]), by rw [fl2_snoc, ← hl2]; simp, fun i hi => ?_, ?_⟩
      · rcases i with _ | _ | _ | i <;> first | (simp only [j0, j1, j2, g0, g1, g2, wf_preprocess, ↓reduceIte, Nat.reduceEqDiff, reduceCtorEq, Nat.reduceAdd, Nat.reduceMul, Nat.reduceLeDiff, Nat.reduceLT, Nat.reduceSub, Int.reduceToNat, Int.reduceNeg, Int.reduceAdd, Int.reduceSub, Int.reduceMul, Int.reduceEq, Int.reduceLT, Int.reduceLE, Int.reduceNe, forall_const, forall_eq', forall_eq, List.forall_mem_cons, List.not_mem_nil]; done) | omega
      · rw [fl1_snoc, List.length_append, hS, List.append_assoc]
        exact ⟨rfl, rfl, rfl⟩
  · have c1 : ¬ (B : Int) < (n : Int) := by omega
    simp only [k0, k1, k2, k6, c1, wf_preprocess, ↓reduceIte, Nat.reduceEqDiff, reduceCtorEq, Nat.reduceAdd, Nat.reduceMul, Nat.reduceLeDiff, Nat.reduceLT, Nat.reduceSub, Int.reduceToNat, Int.reduceNeg, Int.reduceAdd, Int.reduceSub, Int.reduceMul, Int.reduceEq, Int.reduceLT, Int.reduceLE, Int.reduceNe, forall_const, forall_eq', forall_eq, List.forall_mem_cons, List.not_mem_nil]
    rcases bl with _ | ⟨x, bl⟩
    · have := k ρ' t.1 (by rw [← hl]; exact hg.1) hg.2
      simpa [fl1] using k _ t.1 (by rw [← hl]; exact hg.1) hg.2
    · have hxx := hf x (by simp)
      rw [fl1_cons, List.length_append, hxx.1] at hlen
      have hb : bl = [] := by
        rcases bl with _ | ⟨y, bl⟩
        · rfl
        · have := (hf y (by simp)).1
          rw [fl1_cons, List.length_append] at hlen
          omega
      subst hb
      have ht0 : t.1 = [] := List.length_eq_zero_iff.1 (by omega)
      have ht2 : t.2 = [] := List.length_eq_zero_iff.1 (by rw [← hg.1.length_eq, ht0]; rfl)
      have e2 : x.2 = l := by rw [← hl, ht2]; simp [fl2]
      simpa [fl1, ht0] using k _ x.1 (by rw [← e2]; exact hxx.2.1) hxx.2.2
end
end Go.Proofs.Ytjegieklpeipaaa.Moi.Share
