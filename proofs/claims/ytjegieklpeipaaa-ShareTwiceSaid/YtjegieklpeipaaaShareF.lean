/- What functions of this program do, on plain values: a part of the proofs of this seat's laws; each theorem bears its own conditions. -/
import Derived.Test.YtjegieklpeipaaaShareE
set_option linter.unusedVariables false
set_option linter.unusedSimpArgs false
set_option maxRecDepth 1000000
namespace Go.Proofs.Ytjegieklpeipaaa.Moi.Share
open Go Go.RowKit Go.Proofs.Ytjegieklpeipaaa.Moi Go.Proofs.Ytjegieklpeipaaa.Moi.Num
attribute [-wf_preprocess] ite_eq_dite forIn_eq_forIn'

section
variable {E : AV → Heap → Prop} {m : Heap} {ρ : Regs} {Kn Kr : Cont} {Kx : Nat → Cont} {T : NCode} {a n cap c d : Nat} {L P X Y Z : List Cl} {x y : Cl}
theorem srt_idx {l : List Cl} (h : Srt l) {i j : Nat} {u v : Cl} (hi : l[i]? = some u) (hj : l[j]? = some v) (hij : i < j) : lt u v := by
  obtain ⟨h1, rfl⟩ := List.getElem?_eq_some_iff.1 hi
  obtain ⟨h2, rfl⟩ := List.getElem?_eq_some_iff.1 hj
  exact List.pairwise_iff_getElem.1 h i j h1 h2 hij

/-- Where the search begins and ends. -/
def lo0 (s t : Nat) : Nat := if (s + t) / 2 < s then (s + t) / 2 - t else 0
def hi0 (s t : Nat) : Nat := if (s + t) / 2 < s then (s + t) / 2 else s
def Tt (X Y : List Cl) (h i : Nat) : Prop := ∀ x y, X[i]? = some x → Y[h - 1 - i]? = some y → lt x y
def Ft (X Y : List Cl) (h i : Nat) : Prop := ∀ x y, X[i]? = some x → Y[h - 1 - i]? = some y → lt y x

theorem ar3 {p s t n z h : Nat} (hs : 0 < s) (ht : 0 < t) (hn : p + (s + (t + z)) = n) (hn2 : n ≤ 17592186044416) (hh : h = (s + t) / 2) :
    (p + (p + s + t)) / 2 = p + h ∧ p + (p + s + t) ≤ 35184372088832 ∧ p + (p + s + t) < 18446744073709551616 ∧ p + h ≤ 35184372088832 ∧ p + h + (p + s) ≤ 35184372088832 ∧ (¬ p + h < p + s → lo0 s t = 0 ∧ hi0 s t = s) ∧
    (p + h < p + s → p + h + (p + s) = (p + s + t) + (p + lo0 s t) ∧ hi0 s t = h) ∧ p + h + (p + s) = (p + h + (p + s) - 1) + 1 ∧ lo0 s t ≤ hi0 s t := by
  unfold lo0 hi0
  refine ⟨?_, ?_, ?_, ?_, ?_, ?_, ?_, ?_, ?_⟩ <;> subst hh
  all_goals first | omega | (intro hc; constructor <;> (try split) <;> omega) | (split <;> omega)

theorem sm_c (hs : 0 < X.length) (ht : 0 < Y.length) (hn : P.length + (X.length + (Y.length + Z.length)) = n) (hn2 : n ≤ 17592186044416) {h : Nat} (hh : h = (X.length + Y.length) / 2)
    (g1 : ρ 1 = iv P.length) (g2 : ρ 2 = iv ((P.length + X.length : Nat) : Int)) (g3 : ρ 3 = iv ((P.length + X.length + Y.length : Nat) : Int))
    (k : ∀ ρ', (∀ i, i < 5 → ρ' i = ρ i) → ρ' 18 = iv ((P.length + h : Nat) : Int) → ρ' 19 = iv ((P.length + h + (P.length + X.length) : Nat) : Int) → ρ' 20 = iv ((P.length + lo0 X.length Y.length : Nat) : Int) → ρ' 21 = iv ((P.length + hi0 X.length Y.length : Nat) : Int) →
      ρ' 22 = iv ((P.length + h + (P.length + X.length) - 1 : Nat) : Int) → vc Try.prog E T Kn Kx Kr ρ' m) : vc Try.prog E (d27c T) Kn Kx Kr ρ m := by
  obtain ⟨q1, q2, q3, q4, q5, q6, q7, q8, q9⟩ := ar3 hs ht hn hn2 hh
  have w1 := wadd q2
  have u1 := U_small q3
  have w2 := Wn q4
  have w3 := wadd q5
  have w4 := wsub1 q8 q5
  by_cases hc : P.length + h < P.length + X.length
  · obtain ⟨r1, r2⟩ := q7 hc
    have c1 := lt_n hc
    have w5 := wsub r1 q5
    simp only [d27c, g1, g2, g3, wi, wu, w1, u1, shr1, q1, w2, w3, c1, w5, w4, wf_preprocess, ↓reduceIte, Nat.reduceEqDiff, reduceCtorEq, Nat.reduceAdd, Nat.reduceMul, Nat.reduceLeDiff, Nat.reduceLT, Nat.reduceSub, Int.reduceToNat, Int.reduceNeg, Int.reduceAdd, Int.reduceSub, Int.reduceMul, Int.reduceEq, Int.reduceLT, Int.reduceLE, Int.reduceNe, forall_const, forall_eq', forall_eq, List.forall_mem_cons, List.not_mem_nil]
    refine k _ (fun i hi => ?_) ?_ ?_ ?_ ?_ ?_
    · rcases i with _ | _ | _ | _ | _ | i <;> first | (simp only [g1, g2, g3, wf_preprocess, ↓reduceIte, Nat.reduceEqDiff, reduceCtorEq, Nat.reduceAdd, Nat.reduceMul, Nat.reduceLeDiff, Nat.reduceLT, Nat.reduceSub, Int.reduceToNat, Int.reduceNeg, Int.reduceAdd, Int.reduceSub, Int.reduceMul, Int.reduceEq, Int.reduceLT, Int.reduceLE, Int.reduceNe, forall_const, forall_eq', forall_eq, List.forall_mem_cons, List.not_mem_nil]; done) | omega
    all_goals simp only [r2, wf_preprocess, ↓reduceIte, Nat.reduceEqDiff, reduceCtorEq, Nat.reduceAdd, Nat.reduceMul, Nat.reduceLeDiff, Nat.reduceLT, Nat.reduceSub, Int.reduceToNat, Int.reduceNeg, Int.reduceAdd, Int.reduceSub, Int.reduceMul, Int.reduceEq, Int.reduceLT, Int.reduceLE, Int.reduceNe, forall_const, forall_eq', forall_eq, List.forall_mem_cons, List.not_mem_nil]
  · obtain ⟨r1, r2⟩ := q6 hc
    have c1 := lt_no hc
    simp only [d27c, g1, g2, g3, wi, wu, w1, u1, shr1, q1, w2, w3, c1, w4, wf_preprocess, ↓reduceIte, Nat.reduceEqDiff, reduceCtorEq, Nat.reduceAdd, Nat.reduceMul, Nat.reduceLeDiff, Nat.reduceLT, Nat.reduceSub, Int.reduceToNat, Int.reduceNeg, Int.reduceAdd, Int.reduceSub, Int.reduceMul, Int.reduceEq, Int.reduceLT, Int.reduceLE, Int.reduceNe, forall_const, forall_eq', forall_eq, List.forall_mem_cons, List.not_mem_nil]
    refine k _ (fun i hi => ?_) ?_ ?_ ?_ ?_ ?_
    · rcases i with _ | _ | _ | _ | _ | i <;> first | (simp only [g1, g2, g3, wf_preprocess, ↓reduceIte, Nat.reduceEqDiff, reduceCtorEq, Nat.reduceAdd, Nat.reduceMul, Nat.reduceLeDiff, Nat.reduceLT, Nat.reduceSub, Int.reduceToNat, Int.reduceNeg, Int.reduceAdd, Int.reduceSub, Int.reduceMul, Int.reduceEq, Int.reduceLT, Int.reduceLE, Int.reduceNe, forall_const, forall_eq', forall_eq, List.forall_mem_cons, List.not_mem_nil]; done) | omega
    all_goals simp only [r1, r2, Nat.add_zero, wf_preprocess, ↓reduceIte, Nat.reduceEqDiff, reduceCtorEq, Nat.reduceAdd, Nat.reduceMul, Nat.reduceLeDiff, Nat.reduceLT, Nat.reduceSub, Int.reduceToNat, Int.reduceNeg, Int.reduceAdd, Int.reduceSub, Int.reduceMul, Int.reduceEq, Int.reduceLT, Int.reduceLE, Int.reduceNe, forall_const, forall_eq', forall_eq, List.forall_mem_cons, List.not_mem_nil]

theorem ar4 {p s t n z h lo hi k : Nat} (hs : 0 < s) (ht : 0 < t) (hn : p + (s + (t + z)) = n) (hn2 : n ≤ 17592186044416) (hh : h = (s + t) / 2) (h1 : lo0 s t ≤ lo) (h2 : lo < hi) (h3 : hi ≤ hi0 s t) (hk : k = (lo + hi) / 2) :
    p + lo + (p + hi) ≤ 35184372088832 ∧ p + lo + (p + hi) < 18446744073709551616 ∧ (p + lo + (p + hi)) / 2 = p + k ∧ p + k ≤ 35184372088832 ∧ p + h + (p + s) - 1 = (p + k) + (p + s + (h - 1 - k)) ∧ p + h + (p + s) - 1 ≤ 35184372088832 ∧
    k < s ∧ h - 1 - k < t ∧ p + k < n ∧ p + s + (h - 1 - k) < n ∧ lo ≤ k ∧ k < hi ∧ hi ≤ h ∧ p + lo < p + hi := by
  unfold lo0 at h1
  unfold hi0 at h3
  refine ⟨?_, ?_, ?_, ?_, ?_, ?_, ?_, ?_, ?_, ?_, ?_, ?_, ?_, ?_⟩ <;> subst hh hk <;> split at h1 <;> split at h3 <;> omega

theorem five {i : Nat} (h : i + 1 + 1 + 1 + 1 + 1 < 5) : False := by omega
theorem ar5 {lo c hi z : Nat} (h1 : lo ≤ c) (h2 : c < hi) (h3 : z ≤ lo) : c - lo < hi - lo ∧ hi - (c + 1) < hi - lo ∧ z ≤ c + 1 ∧ c + 1 ≤ hi := by omega
theorem ar6 {h i c : Nat} (h1 : c < i) (h2 : i < h) : h - 1 - i < h - 1 - c := by omega
theorem hi0_le {s t h : Nat} (hh : h = (s + t) / 2) : hi0 s t ≤ h := by unfold hi0; subst hh; split <;> omega
theorem ne_lt {i c : Nat} (h1 : i < c + 1) (h2 : ¬ i = c) : i < c := by omega
/-- The search. -/
theorem sm_d (hm : At a (P ++ (X ++ (Y ++ Z))) m) (sx : Srt X) (sy : Srt Y) (hxy : ∀ x ∈ X, ∀ y ∈ Y, x.1 < y.1) (hs : 0 < X.length) (ht : 0 < Y.length) (hn : P.length + (X.length + (Y.length + Z.length)) = n) (hn2 : n ≤ 17592186044416) {h : Nat} (hh : h = (X.length + Y.length) / 2)
    (g0 : ρ 0 = .mref a 0 n cap) (g4 : ρ 4 = .clos 19 []) (g20 : ρ 20 = iv ((P.length + lo0 X.length Y.length : Nat) : Int)) (g21 : ρ 21 = iv ((P.length + hi0 X.length Y.length : Nat) : Int)) (g22 : ρ 22 = iv ((P.length + h + (P.length + X.length) - 1 : Nat) : Int))
    (k : ∀ ρ' i, (∀ i, i < 5 → ρ' i = ρ i) → ρ' 18 = ρ 18 → ρ' 19 = ρ 19 → ρ' 20 = iv ((P.length + i : Nat) : Int) → lo0 X.length Y.length ≤ i → i ≤ hi0 X.length Y.length → (∀ c, lo0 X.length Y.length ≤ c → c < i → Tt X Y h c) → (∀ c, i ≤ c → c < hi0 X.length Y.length → Ft X Y h c) →
      vc Try.prog E T Kn Kx Kr ρ' m) : vc Try.prog E (d27d T) Kn Kx Kr ρ m := by
  have q9 := (ar3 hs ht hn hn2 hh).2.2.2.2.2.2.2.2
  simp only [d27d, wf_preprocess, ↓reduceIte, Nat.reduceEqDiff, reduceCtorEq, Nat.reduceAdd, Nat.reduceMul, Nat.reduceLeDiff, Nat.reduceLT, Nat.reduceSub, Int.reduceToNat, Int.reduceNeg, Int.reduceAdd, Int.reduceSub, Int.reduceMul, Int.reduceEq, Int.reduceLT, Int.reduceLE, Int.reduceNe, forall_const, forall_eq', forall_eq, List.forall_mem_cons, List.not_mem_nil]
  refine loop_i (fun kk ρ' m' => ∃ lo hi : Nat, kk = hi - lo ∧ lo0 X.length Y.length ≤ lo ∧ lo ≤ hi ∧ hi ≤ hi0 X.length Y.length ∧ (∀ c, lo0 X.length Y.length ≤ c → c < lo → Tt X Y h c) ∧ (∀ c, hi ≤ c → c < hi0 X.length Y.length → Ft X Y h c) ∧ (∀ i, i < 5 → ρ' i = ρ i) ∧ ρ' 18 = ρ 18 ∧ ρ' 19 = ρ 19 ∧ ρ' 20 = iv ((P.length + lo : Nat) : Int) ∧ ρ' 21 = iv ((P.length + hi : Nat) : Int) ∧ ρ' 22 = ρ 22 ∧ m' = m) (hi0 X.length Y.length - lo0 X.length Y.length)
    ⟨lo0 X.length Y.length, hi0 X.length Y.length, rfl, Nat.le_refl _, q9, Nat.le_refl _, (fun c h1 h2 => absurd h1 (Nat.not_le.2 h2)), (fun c h1 h2 => absurd h1 (Nat.not_le.2 h2)), fun _ _ => rfl, rfl, rfl, g20, g21, rfl, rfl⟩ ?_
  rintro kk ρ' m' ⟨lo, hi, rfl, b1, b2, b3, ht1, hf1, k5, k18, k19, k20, k21, k22, rfl⟩
  have k0 := (k5 0 (by decide)).trans g0
  have k4 := (k5 4 (by decide)).trans g4
  rw [g22] at k22
  by_cases he : lo < hi
  · obtain ⟨c, hc⟩ : ∃ c, c = (lo + hi) / 2 := ⟨_, rfl⟩
    obtain ⟨q1, q2, q3, q4, q5, q6, q7, q8, q10, q11, q12, q13, q14, q15⟩ := ar4 hs ht hn hn2 hh b1 he b3 hc
    obtain ⟨e1, e2, e3, e4⟩ := ar5 q12 q13 b1
    obtain ⟨x, hx⟩ : ∃ x, X[c]? = some x := ⟨_, List.getElem?_eq_getElem q7⟩
    obtain ⟨y, hy⟩ : ∃ y, Y[h - 1 - c]? = some y := ⟨_, List.getElem?_eq_getElem q8⟩
    have t1 : (P ++ (X ++ (Y ++ Z)))[P.length + c]? = some x := by
      rw [List.getElem?_append_right (Nat.le_add_right ..), Nat.add_sub_cancel_left, List.getElem?_append_left q7, hx]
    have t2 : (P ++ (X ++ (Y ++ Z)))[P.length + X.length + (h - 1 - c)]? = some y := by
      rw [List.getElem?_append_right (by rw [Nat.add_assoc]; exact Nat.le_add_right ..), Nat.add_assoc, Nat.add_sub_cancel_left, List.getElem?_append_right (Nat.le_add_right ..), Nat.add_sub_cancel_left, List.getElem?_append_left q8, hy]
    obtain ⟨f1, f2, f3⟩ := pc_facts t1
    obtain ⟨f4, f5, f6⟩ := pc_facts t2
    have hat := hm
    unfold At at hat
    generalize P ++ (X ++ (Y ++ Z)) = L at hat t1 t2 f1 f2 f3 f4 f5 f6
    have hyx : x.1 < y.1 := hxy x (List.mem_of_getElem? hx) y (List.mem_of_getElem? hy)
    have c1 := lt_n q15
    have w2 := wadd q1
    have u2 := U_small q2
    have w4 := Wn q4
    have w5 := wadd1 q4
    have w6 := wsub q5 q6
    have d1 := lt_n q10
    have d2 := lt_n q11
    simp only [k0, k4, k20, k21, k22, c1, wi, wu, w2, u2, shr1, q3, w4, w6, d1, d2, hat, Int.natCast_nonneg, f1, f2, f3, f4, f5, f6, wf_preprocess, ↓reduceIte, Nat.reduceEqDiff, reduceCtorEq, Nat.reduceAdd, Nat.reduceMul, Nat.reduceLeDiff, Nat.reduceLT, Nat.reduceSub, Int.reduceToNat, Int.reduceNeg, Int.reduceAdd, Int.reduceSub, Int.reduceMul, Int.reduceEq, Int.reduceLT, Int.reduceLE, Int.reduceNe, forall_const, forall_eq', forall_eq, List.forall_mem_cons, List.not_mem_nil]
    refine call_i (cmp_s ?_)
    by_cases hcm : x.2 < y.2
    · have hl : lt y x := (lt_back hyx).2 hcm
      simp only [k0, k4, k20, k21, k22, cmp_neg, hcm, wf_preprocess, ↓reduceIte, Nat.reduceEqDiff, reduceCtorEq, Nat.reduceAdd, Nat.reduceMul, Nat.reduceLeDiff, Nat.reduceLT, Nat.reduceSub, Int.reduceToNat, Int.reduceNeg, Int.reduceAdd, Int.reduceSub, Int.reduceMul, Int.reduceEq, Int.reduceLT, Int.reduceLE, Int.reduceNe, forall_const, forall_eq', forall_eq, List.forall_mem_cons, List.not_mem_nil]
      refine ⟨c - lo, e1, lo, c, rfl, b1, q12, Nat.le_trans (Nat.le_of_lt q13) b3, ht1, fun i h1 h2 u v hu hv => ?_, fun i hi => ?_, k18, k19, rfl, rfl, g22.symm⟩
      · by_cases e : i = c
        · subst e; rw [hx] at hu; rw [hy] at hv; cases hu; cases hv; exact hl
        · have hci : c < i := Nat.lt_of_le_of_ne h1 (Ne.symm e)
          have hil : i < h := Nat.lt_of_lt_of_le h2 (hi0_le hh)
          have := srt_idx sx hx hu hci
          have := srt_idx sy hv hy (ar6 hci hil)
          exact lt_trans' (lt_trans' this hl) (by assumption)
      · have := k5 i hi
        rcases i with _ | _ | _ | _ | _ | i <;> first | (simp only [this, k0, k4, wf_preprocess, ↓reduceIte, Nat.reduceEqDiff, reduceCtorEq, Nat.reduceAdd, Nat.reduceMul, Nat.reduceLeDiff, Nat.reduceLT, Nat.reduceSub, Int.reduceToNat, Int.reduceNeg, Int.reduceAdd, Int.reduceSub, Int.reduceMul, Int.reduceEq, Int.reduceLT, Int.reduceLE, Int.reduceNe, forall_const, forall_eq', forall_eq, List.forall_mem_cons, List.not_mem_nil]; done) | exact (five hi).elim
    · have hl : lt x y := (lt_of hyx).2 hcm
      simp only [k0, k4, k20, k21, k22, cmp_neg, hcm, wi, w5, wf_preprocess, ↓reduceIte, Nat.reduceEqDiff, reduceCtorEq, Nat.reduceAdd, Nat.reduceMul, Nat.reduceLeDiff, Nat.reduceLT, Nat.reduceSub, Int.reduceToNat, Int.reduceNeg, Int.reduceAdd, Int.reduceSub, Int.reduceMul, Int.reduceEq, Int.reduceLT, Int.reduceLE, Int.reduceNe, forall_const, forall_eq', forall_eq, List.forall_mem_cons, List.not_mem_nil]
      refine ⟨hi - (c + 1), e2, c + 1, hi, rfl, e3, e4, b3, fun i h1 h2 u v hu hv => ?_, hf1, fun i hi => ?_, k18, k19, rfl, rfl, g22.symm⟩
      · by_cases e : i = c
        · subst e; rw [hx] at hu; rw [hy] at hv; cases hu; cases hv; exact hl
        · have hci : i < c := ne_lt h2 e
          have h5 := srt_idx sx hu hx hci
          have h6 := srt_idx sy hy hv (ar6 hci (Nat.lt_of_lt_of_le q13 q14))
          exact lt_trans' (lt_trans' h5 hl) h6
      · have := k5 i hi
        rcases i with _ | _ | _ | _ | _ | i <;> first | (simp only [this, k0, k4, wf_preprocess, ↓reduceIte, Nat.reduceEqDiff, reduceCtorEq, Nat.reduceAdd, Nat.reduceMul, Nat.reduceLeDiff, Nat.reduceLT, Nat.reduceSub, Int.reduceToNat, Int.reduceNeg, Int.reduceAdd, Int.reduceSub, Int.reduceMul, Int.reduceEq, Int.reduceLT, Int.reduceLE, Int.reduceNe, forall_const, forall_eq', forall_eq, List.forall_mem_cons, List.not_mem_nil]; done) | exact (five hi).elim
  · obtain rfl : lo = hi := Nat.le_antisymm b2 (Nat.not_lt.1 he)
    have c1 := lt_no (i := P.length + lo) (j := P.length + lo) (Nat.lt_irrefl _)
    simp only [k20, k21, c1, wf_preprocess, ↓reduceIte, Nat.reduceEqDiff, reduceCtorEq, Nat.reduceAdd, Nat.reduceMul, Nat.reduceLeDiff, Nat.reduceLT, Nat.reduceSub, Int.reduceToNat, Int.reduceNeg, Int.reduceAdd, Int.reduceSub, Int.reduceMul, Int.reduceEq, Int.reduceLT, Int.reduceLE, Int.reduceNe, forall_const, forall_eq', forall_eq, List.forall_mem_cons, List.not_mem_nil]
    refine k _ lo (fun i hi => ?_) ?_ ?_ ?_ b1 b3 ht1 hf1
    · have := k5 i hi
      rcases i with _ | _ | _ | _ | _ | i <;> first | (simp only [this, k0, k4, wf_preprocess, ↓reduceIte, Nat.reduceEqDiff, reduceCtorEq, Nat.reduceAdd, Nat.reduceMul, Nat.reduceLeDiff, Nat.reduceLT, Nat.reduceSub, Int.reduceToNat, Int.reduceNeg, Int.reduceAdd, Int.reduceSub, Int.reduceMul, Int.reduceEq, Int.reduceLT, Int.reduceLE, Int.reduceNe, forall_const, forall_eq', forall_eq, List.forall_mem_cons, List.not_mem_nil]; done) | exact (five hi).elim
    all_goals simp only [k18, k19, k20, wf_preprocess, ↓reduceIte, Nat.reduceEqDiff, reduceCtorEq, Nat.reduceAdd, Nat.reduceMul, Nat.reduceLeDiff, Nat.reduceLT, Nat.reduceSub, Int.reduceToNat, Int.reduceNeg, Int.reduceAdd, Int.reduceSub, Int.reduceMul, Int.reduceEq, Int.reduceLT, Int.reduceLE, Int.reduceNe, forall_const, forall_eq', forall_eq, List.forall_mem_cons, List.not_mem_nil]
end
end Go.Proofs.Ytjegieklpeipaaa.Moi.Share
