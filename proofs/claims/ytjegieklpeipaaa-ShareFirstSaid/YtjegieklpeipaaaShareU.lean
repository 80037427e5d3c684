/- What functions of this program do, on plain values: a part of the proofs of this seat's laws; each theorem bears its own conditions. -/
import Derived.Test.YtjegieklpeipaaaShareT
set_option linter.unusedVariables false
set_option linter.unusedSimpArgs false
set_option maxRecDepth 1000000
namespace Go.Proofs.Ytjegieklpeipaaa.Moi.Share
open Go Go.RowKit Go.Proofs.Ytjegieklpeipaaa.Moi Go.Proofs.Ytjegieklpeipaaa.Moi.Num
attribute [-wf_preprocess] ite_eq_dite forIn_eq_forIn'

theorem wfU' {n : Int} (h : (Lit.int .u64 n).wf = true) : isU n := by
  simp [Lit.wf] at h
  unfold isU
  simp [IntKind.min, IntKind.max, IntKind.signed, IntKind.bits] at h
  omega
theorem wfI' {n : Int} (h : (Lit.int .i64 n).wf = true) : isI n := wf64 h
theorem to_ul : ∀ {l : List Int}, (∀ n ∈ l, isU n) → ∃ w : List Nat, l = ul w ∧ isW w
  | [], _ => ⟨[], rfl, by simp [isW]⟩
  | x :: l, h => by
    obtain ⟨w, rfl, hw⟩ := to_ul (l := l) fun n hn => h n (by simp [hn])
    have hx := h x (by simp)
    obtain ⟨y, rfl⟩ := Int.eq_ofNat_of_zero_le hx.1
    refine ⟨y :: w, rfl, fun z hz => ?_⟩
    rcases List.mem_cons.1 hz with rfl | hz
    · have := hx.2; omega
    · exact hw z hz
theorem arg_w {ts : List TypeId} {xs : List AV} (h : ArgShape Try.prog (fun _ => True) (23 :: ts) xs) : ∃ (w : List Nat) (y : AV) (ys : List AV), xs = y :: ys ∧ (∀ m, El y m w) ∧ isW w ∧ ArgShape Try.prog (fun _ => True) ts ys := by
  obtain ⟨l, o, zs, h2, ho, hl, _, hw, h3⟩ := arg_ints Try.underlying23 Try.underlying22 (by kernel_rfl) h
  obtain ⟨w, rfl, hu⟩ := to_ul fun n hn => wfU' (hw n hn)
  exact ⟨w, _, zs, h2, fun m => El.lst fun e => by
    have := ho e
    exact List.map_eq_nil_iff.1 this, hu, h3⟩
theorem arg_n {ts : List TypeId} {xs : List AV} (h : ArgShape Try.prog (fun _ => True) (22 :: ts) xs) : ∃ (a : Nat) (ys : List AV), xs = un a :: ys ∧ a < 18446744073709551616 ∧ ArgShape Try.prog (fun _ => True) ts ys := by
  obtain ⟨a', ys, h2, ha, h⟩ := arg_int Try.underlying22 h
  have ha := wfU' ha
  obtain ⟨a, rfl⟩ := Int.eq_ofNat_of_zero_le ha.1
  exact ⟨a, ys, h2, by have := ha.2; omega, h⟩
theorem arg_i {ts : List TypeId} {xs : List AV} (h : ArgShape Try.prog (fun _ => True) (3 :: ts) xs) : ∃ (n : Int) (ys : List AV), xs = iv n :: ys ∧ isI n ∧ ArgShape Try.prog (fun _ => True) ts ys := by
  obtain ⟨n, ys, h2, ha, h⟩ := arg_int Try.underlying3 h
  exact ⟨n, ys, h2, wfI' ha, h⟩
theorem res_len {a : Nat} {w : List Nat} : (resP a w).length ≤ 1024 := by
  unfold resP
  split
  · rename_i h
    have := (err_ok h).2.1
    rw [parts_len]; omega
  · simp

theorem law_splits (xs : List AV) (h : ArgShape Try.prog (fun _ => True) Try.f3.params.toList xs) : ACall Try.prog 3 xs [] (fun x _ => x = bo true) (fun _ _ => False) := by
  rw [Try.params3] at h
  obtain ⟨a, ys, rfl, ha, h⟩ := arg_n h
  obtain ⟨w, y, zs, h2, hw, hu, h3⟩ := arg_w h
  subst h2
  obtain rfl : zs = [] := ArgShape.nil' h3
  clear h h3
  have hL := (hw []).lenIs
  refine acall_fn mixed Try.func3 Try.call3 e3 r3 (Nat.le_of_ble_eq_true rfl) ?_
  by_cases c1 : (1100 : Int) < (w.length : Int)
  · simp only [n3, onLst_len hL, c1, wf_preprocess, ↓reduceIte, Nat.reduceEqDiff, reduceCtorEq, Nat.reduceAdd, Nat.reduceMul, Nat.reduceLeDiff, Nat.reduceLT, Nat.reduceSub, Int.reduceToNat, Int.reduceNeg, Int.reduceAdd, Int.reduceSub, Int.reduceMul, Int.reduceEq, Int.reduceLT, Int.reduceLE, Int.reduceNe, forall_const, forall_eq', forall_eq, List.forall_mem_cons, List.not_mem_nil]
    refine call_i (known_s ?_)
    simp only [wf_preprocess, ↓reduceIte, Nat.reduceEqDiff, reduceCtorEq, Nat.reduceAdd, Nat.reduceMul, Nat.reduceLeDiff, Nat.reduceLT, Nat.reduceSub, Int.reduceToNat, Int.reduceNeg, Int.reduceAdd, Int.reduceSub, Int.reduceMul, Int.reduceEq, Int.reduceLT, Int.reduceLE, Int.reduceNe, forall_const, forall_eq', forall_eq, List.forall_mem_cons, List.not_mem_nil]
  simp only [n3, onLst_len hL, c1, wf_preprocess, ↓reduceIte, Nat.reduceEqDiff, reduceCtorEq, Nat.reduceAdd, Nat.reduceMul, Nat.reduceLeDiff, Nat.reduceLT, Nat.reduceSub, Int.reduceToNat, Int.reduceNeg, Int.reduceAdd, Int.reduceSub, Int.reduceMul, Int.reduceEq, Int.reduceLT, Int.reduceLE, Int.reduceNe, forall_const, forall_eq', forall_eq, List.forall_mem_cons, List.not_mem_nil]
  refine call_i (Split_s (hw _) hu ha (by omega) fun v m1 h1 h2 h3 => ?_)
  simp only [wf_preprocess, ↓reduceIte, Nat.reduceEqDiff, reduceCtorEq, Nat.reduceAdd, Nat.reduceMul, Nat.reduceLeDiff, Nat.reduceLT, Nat.reduceSub, Int.reduceToNat, Int.reduceNeg, Int.reduceAdd, Int.reduceSub, Int.reduceMul, Int.reduceEq, Int.reduceLT, Int.reduceLE, Int.reduceNe, forall_const, forall_eq', forall_eq, List.forall_mem_cons, List.not_mem_nil]
  refine call_i (rSplit_s (hw _) hu ha (by omega) fun v2 m2 h4 h5 h6 => ?_)
  simp only [wf_preprocess, ↓reduceIte, Nat.reduceEqDiff, reduceCtorEq, Nat.reduceAdd, Nat.reduceMul, Nat.reduceLeDiff, Nat.reduceLT, Nat.reduceSub, Int.reduceToNat, Int.reduceNeg, Int.reduceAdd, Int.reduceSub, Int.reduceMul, Int.reduceEq, Int.reduceLT, Int.reduceLE, Int.reduceNe, forall_const, forall_eq', forall_eq, List.forall_mem_cons, List.not_mem_nil]
  refine call_i (Same_s ((BufI.elU h1).ext h5 (by simp)) (BufI.elU h4) (by have := res_len (a := a) (w := w); omega) ?_)
  simp only [wf_preprocess, ↓reduceIte, Nat.reduceEqDiff, reduceCtorEq, Nat.reduceAdd, Nat.reduceMul, Nat.reduceLeDiff, Nat.reduceLT, Nat.reduceSub, Int.reduceToNat, Int.reduceNeg, Int.reduceAdd, Int.reduceSub, Int.reduceMul, Int.reduceEq, Int.reduceLT, Int.reduceLE, Int.reduceNe, forall_const, forall_eq', forall_eq, List.forall_mem_cons, List.not_mem_nil]
  refine call_i (known_s ?_)
  simp only [wf_preprocess, ↓reduceIte, Nat.reduceEqDiff, reduceCtorEq, Nat.reduceAdd, Nat.reduceMul, Nat.reduceLeDiff, Nat.reduceLT, Nat.reduceSub, Int.reduceToNat, Int.reduceNeg, Int.reduceAdd, Int.reduceSub, Int.reduceMul, Int.reduceEq, Int.reduceLT, Int.reduceLE, Int.reduceNe, forall_const, forall_eq', forall_eq, List.forall_mem_cons, List.not_mem_nil]
theorem law_whole (xs : List AV) (h : ArgShape Try.prog (fun _ => True) Try.f4.params.toList xs) : ACall Try.prog 4 xs [] (fun x _ => x = bo true) (fun _ _ => False) := by
  rw [Try.params4] at h
  obtain ⟨a, ys, rfl, ha, h⟩ := arg_n h
  obtain ⟨w, y, zs, h2, hw, hu, h3⟩ := arg_w h
  subst h2
  obtain rfl : zs = [] := ArgShape.nil' h3
  clear h h3
  have hL := (hw []).lenIs
  refine acall_fn mixed Try.func4 Try.call4 e4 r4 (Nat.le_of_ble_eq_true rfl) ?_
  by_cases c1 : (1100 : Int) < (w.length : Int)
  · simp only [n4, onLst_len hL, c1, wf_preprocess, ↓reduceIte, Nat.reduceEqDiff, reduceCtorEq, Nat.reduceAdd, Nat.reduceMul, Nat.reduceLeDiff, Nat.reduceLT, Nat.reduceSub, Int.reduceToNat, Int.reduceNeg, Int.reduceAdd, Int.reduceSub, Int.reduceMul, Int.reduceEq, Int.reduceLT, Int.reduceLE, Int.reduceNe, forall_const, forall_eq', forall_eq, List.forall_mem_cons, List.not_mem_nil]
    refine call_i (known_s ?_)
    simp only [wf_preprocess, ↓reduceIte, Nat.reduceEqDiff, reduceCtorEq, Nat.reduceAdd, Nat.reduceMul, Nat.reduceLeDiff, Nat.reduceLT, Nat.reduceSub, Int.reduceToNat, Int.reduceNeg, Int.reduceAdd, Int.reduceSub, Int.reduceMul, Int.reduceEq, Int.reduceLT, Int.reduceLE, Int.reduceNe, forall_const, forall_eq', forall_eq, List.forall_mem_cons, List.not_mem_nil]
  simp only [n4, onLst_len hL, c1, wf_preprocess, ↓reduceIte, Nat.reduceEqDiff, reduceCtorEq, Nat.reduceAdd, Nat.reduceMul, Nat.reduceLeDiff, Nat.reduceLT, Nat.reduceSub, Int.reduceToNat, Int.reduceNeg, Int.reduceAdd, Int.reduceSub, Int.reduceMul, Int.reduceEq, Int.reduceLT, Int.reduceLE, Int.reduceNe, forall_const, forall_eq', forall_eq, List.forall_mem_cons, List.not_mem_nil]
  refine call_i (Split_s (hw _) hu ha (by omega) fun v m1 h1 h2 h3 => ?_)
  have hv := BufI.elU h1
  by_cases c2 : errOf w = 0
  case neg =>
    have c2' : ¬ (errOf w : Int) = 0 := by omega
    have e : resP a w = [] := by unfold resP; rw [if_neg c2]
    rw [e] at hv
    have hLv := hv.lenIs
    have e0 : (([] : List Nat).length : Int) = 0 := rfl
    simp only [onLst_len hLv, c2', e0, wf_preprocess, ↓reduceIte, Nat.reduceEqDiff, reduceCtorEq, Nat.reduceAdd, Nat.reduceMul, Nat.reduceLeDiff, Nat.reduceLT, Nat.reduceSub, Int.reduceToNat, Int.reduceNeg, Int.reduceAdd, Int.reduceSub, Int.reduceMul, Int.reduceEq, Int.reduceLT, Int.reduceLE, Int.reduceNe, forall_const, forall_eq', forall_eq, List.forall_mem_cons, List.not_mem_nil]
    refine call_i (known_s ?_)
    simp only [wf_preprocess, ↓reduceIte, Nat.reduceEqDiff, reduceCtorEq, Nat.reduceAdd, Nat.reduceMul, Nat.reduceLeDiff, Nat.reduceLT, Nat.reduceSub, Int.reduceToNat, Int.reduceNeg, Int.reduceAdd, Int.reduceSub, Int.reduceMul, Int.reduceEq, Int.reduceLT, Int.reduceLE, Int.reduceNe, forall_const, forall_eq', forall_eq, List.forall_mem_cons, List.not_mem_nil]
  have c2' : (errOf w : Int) = 0 := by omega
  have e : resP a w = parts a w := by unfold resP; rw [if_pos c2]
  rw [e] at hv
  obtain ⟨w0, wl, ws, wp⟩ := err_ok c2
  have hPs := parts_sum (a := a) wp
  have hPl := parts_len (a := a) (w := w)
  have hz := fun i h => parts_zero (a := a) (i := i) wp h
  generalize parts a w = P at *
  have hLv := hv.lenIs
  rw [hPl] at hLv
  simp only [onLst_len hL, onLst_len hLv, c2', wf_preprocess, ↓reduceIte, Nat.reduceEqDiff, reduceCtorEq, Nat.reduceAdd, Nat.reduceMul, Nat.reduceLeDiff, Nat.reduceLT, Nat.reduceSub, Int.reduceToNat, Int.reduceNeg, Int.reduceAdd, Int.reduceSub, Int.reduceMul, Int.reduceEq, Int.reduceLT, Int.reduceLE, Int.reduceNe, forall_const, forall_eq', forall_eq, List.forall_mem_cons, List.not_mem_nil]
  refine loop_i (fun kk ρ m' => ∃ (i : Nat), kk = w.length - i ∧ i ≤ w.length ∧ ρ 0 = un a ∧ ρ 1 = y ∧ ρ 5 = v ∧ ρ 7 = un (P.take i).sum ∧ ρ 8 = iv i ∧ m' = m1) w.length ⟨0, rfl, by omega, ?_⟩ ?_
  · simp only [wf_preprocess, ↓reduceIte, Nat.reduceEqDiff, reduceCtorEq, Nat.reduceAdd, Nat.reduceMul, Nat.reduceLeDiff, Nat.reduceLT, Nat.reduceSub, Int.reduceToNat, Int.reduceNeg, Int.reduceAdd, Int.reduceSub, Int.reduceMul, Int.reduceEq, Int.reduceLT, Int.reduceLE, Int.reduceNe, forall_const, forall_eq', forall_eq, List.forall_mem_cons, List.not_mem_nil]
    rfl
  rintro kk ρ m' ⟨i, rfl, hi, g0, g1, g5, g7, g8, rfl⟩
  by_cases hlt : (i : Int) < (w.length : Int)
  · obtain ⟨x, hx⟩ : ∃ x, w[i]? = some x := ⟨_, List.getElem?_eq_getElem (by omega)⟩
    obtain ⟨z, hzi⟩ : ∃ x, P[i]? = some x := ⟨_, List.getElem?_eq_getElem (by omega)⟩
    have w1 : IntKind.i64.wrap ((i : Int) + 1) = ((i + 1 : Nat) : Int) := wrap64 (by omega) (by omega)
    have e2 := sum_take_get hzi
    have e3 := sum_take_le (l := P) (i := i + 1)
    have e4 := ov_s (s := (P.take i).sum) (x := z) (by omega) (by omega)
    have e5 : U (((P.take i).sum : Int) + (z : Int)) = (((P.take (i + 1)).sum : Nat) : Int) := U_nat (by omega) (by omega)
    rw [e5] at e4
    have c4 : ¬ 18446744073709551616 ≤ (P.take i).sum + z := by omega
    simp only [g0, g1, g5, g7, g8, hlt, onLst_len hL, onLst_len hLv, Int.natCast_nonneg, wf_preprocess, ↓reduceIte, Nat.reduceEqDiff, reduceCtorEq, Nat.reduceAdd, Nat.reduceMul, Nat.reduceLeDiff, Nat.reduceLT, Nat.reduceSub, Int.reduceToNat, Int.reduceNeg, Int.reduceAdd, Int.reduceSub, Int.reduceMul, Int.reduceEq, Int.reduceLT, Int.reduceLE, Int.reduceNe, forall_const, forall_eq', forall_eq, List.forall_mem_cons, List.not_mem_nil]
    refine El.idx (n := (i : Int)) hv (by omega) (by simpa using hzi) fun a1 r1 ha1 => ?_
    simp only [g0, g1, g5, g7, g8, ha1, wu, e4, e5, c4, Int.natCast_nonneg, wf_preprocess, ↓reduceIte, Nat.reduceEqDiff, reduceCtorEq, Nat.reduceAdd, Nat.reduceMul, Nat.reduceLeDiff, Nat.reduceLT, Nat.reduceSub, Int.reduceToNat, Int.reduceNeg, Int.reduceAdd, Int.reduceSub, Int.reduceMul, Int.reduceEq, Int.reduceLT, Int.reduceLE, Int.reduceNe, forall_const, forall_eq', forall_eq, List.forall_mem_cons, List.not_mem_nil]
    refine El.idx (n := (i : Int)) (hw m') (by omega) (by simpa using hx) fun a2 r2 ha2 => ?_
    by_cases cx : x = 0
    · subst cx
      rw [hz i hx] at hzi
      cases hzi
      simp only [g0, g1, g5, g7, g8, ha2, wu, Int.natCast_nonneg, Int.natCast_zero, wf_preprocess, ↓reduceIte, Nat.reduceEqDiff, reduceCtorEq, Nat.reduceAdd, Nat.reduceMul, Nat.reduceLeDiff, Nat.reduceLT, Nat.reduceSub, Int.reduceToNat, Int.reduceNeg, Int.reduceAdd, Int.reduceSub, Int.reduceMul, Int.reduceEq, Int.reduceLT, Int.reduceLE, Int.reduceNe, forall_const, forall_eq', forall_eq, List.forall_mem_cons, List.not_mem_nil]
      refine El.idx (n := (i : Int)) hv (by omega) (by simpa using hz i hx) fun a3 r3 ha3 => ?_
      simp only [g0, g1, g5, g7, g8, ha3, wu, Int.natCast_nonneg, Int.natCast_zero, wf_preprocess, ↓reduceIte, Nat.reduceEqDiff, reduceCtorEq, Nat.reduceAdd, Nat.reduceMul, Nat.reduceLeDiff, Nat.reduceLT, Nat.reduceSub, Int.reduceToNat, Int.reduceNeg, Int.reduceAdd, Int.reduceSub, Int.reduceMul, Int.reduceEq, Int.reduceLT, Int.reduceLE, Int.reduceNe, forall_const, forall_eq', forall_eq, List.forall_mem_cons, List.not_mem_nil]
      refine El.idx (n := (i : Int)) hv (by omega) (by simpa using hz i hx) fun a4 r4 ha4 => ?_
      simp only [Int.natCast_zero, Int.add_zero] at e5
      simp only [g0, g1, g5, g7, g8, ha4, wu, e5, w1, Int.natCast_nonneg, Int.natCast_zero, wf_preprocess, ↓reduceIte, Nat.reduceEqDiff, reduceCtorEq, Nat.reduceAdd, Nat.reduceMul, Nat.reduceLeDiff, Nat.reduceLT, Nat.reduceSub, Int.reduceToNat, Int.reduceNeg, Int.reduceAdd, Int.reduceSub, Int.reduceMul, Int.reduceEq, Int.reduceLT, Int.reduceLE, Int.reduceNe, forall_const, forall_eq', forall_eq, List.forall_mem_cons, List.not_mem_nil]
      exact ⟨w.length - (i + 1), by omega, i + 1, rfl, by omega, rfl, rfl⟩
    · have cx' : ¬ (x : Int) = 0 := by omega
      simp only [g0, g1, g5, g7, g8, ha2, wu, cx', Int.natCast_nonneg, wf_preprocess, ↓reduceIte, Nat.reduceEqDiff, reduceCtorEq, Nat.reduceAdd, Nat.reduceMul, Nat.reduceLeDiff, Nat.reduceLT, Nat.reduceSub, Int.reduceToNat, Int.reduceNeg, Int.reduceAdd, Int.reduceSub, Int.reduceMul, Int.reduceEq, Int.reduceLT, Int.reduceLE, Int.reduceNe, forall_const, forall_eq', forall_eq, List.forall_mem_cons, List.not_mem_nil]
      refine El.idx (n := (i : Int)) hv (by omega) (by simpa using hzi) fun a4 r4 ha4 => ?_
      simp only [g0, g1, g5, g7, g8, ha4, wu, e5, w1, Int.natCast_nonneg, wf_preprocess, ↓reduceIte, Nat.reduceEqDiff, reduceCtorEq, Nat.reduceAdd, Nat.reduceMul, Nat.reduceLeDiff, Nat.reduceLT, Nat.reduceSub, Int.reduceToNat, Int.reduceNeg, Int.reduceAdd, Int.reduceSub, Int.reduceMul, Int.reduceEq, Int.reduceLT, Int.reduceLE, Int.reduceNe, forall_const, forall_eq', forall_eq, List.forall_mem_cons, List.not_mem_nil]
      exact ⟨w.length - (i + 1), by omega, i + 1, rfl, by omega, rfl, rfl⟩
  · have e : P.take i = P := List.take_of_length_le (by omega)
    rw [e, hPs] at g7
    simp only [g0, g1, g5, g7, g8, hlt, onLst_len hL, onLst_len hLv, wf_preprocess, ↓reduceIte, Nat.reduceEqDiff, reduceCtorEq, Nat.reduceAdd, Nat.reduceMul, Nat.reduceLeDiff, Nat.reduceLT, Nat.reduceSub, Int.reduceToNat, Int.reduceNeg, Int.reduceAdd, Int.reduceSub, Int.reduceMul, Int.reduceEq, Int.reduceLT, Int.reduceLE, Int.reduceNe, forall_const, forall_eq', forall_eq, List.forall_mem_cons, List.not_mem_nil]
    refine call_i (known_s ?_)
    simp only [wf_preprocess, ↓reduceIte, Nat.reduceEqDiff, reduceCtorEq, Nat.reduceAdd, Nat.reduceMul, Nat.reduceLeDiff, Nat.reduceLT, Nat.reduceSub, Int.reduceToNat, Int.reduceNeg, Int.reduceAdd, Int.reduceSub, Int.reduceMul, Int.reduceEq, Int.reduceLT, Int.reduceLE, Int.reduceNe, forall_const, forall_eq', forall_eq, List.forall_mem_cons, List.not_mem_nil]

theorem law_first (xs : List AV) (h : ArgShape Try.prog (fun _ => True) Try.f6.params.toList xs) : ACall Try.prog 6 xs [] (fun x _ => x = bo true) (fun _ _ => False) := by
  rw [Try.params6] at h
  obtain ⟨a, ys, rfl, ha, h⟩ := arg_n h
  obtain ⟨w, y, ys, rfl, hw, hu, h⟩ := arg_w h
  obtain ⟨i, ys, rfl, hi, h⟩ := arg_i h
  obtain ⟨k, zs, h2, hk, h3⟩ := arg_i h
  subst h2
  obtain rfl : zs = [] := ArgShape.nil' h3
  clear h h3
  have hL := (hw []).lenIs
  refine acall_fn mixed Try.func6 Try.call6 e6 r6 (Nat.le_of_ble_eq_true rfl) ?_
  by_cases c1 : (1100 : Int) < (w.length : Int)
  · simp only [n6, onLst_len hL, c1, wf_preprocess, ↓reduceIte, Nat.reduceEqDiff, reduceCtorEq, Nat.reduceAdd, Nat.reduceMul, Nat.reduceLeDiff, Nat.reduceLT, Nat.reduceSub, Int.reduceToNat, Int.reduceNeg, Int.reduceAdd, Int.reduceSub, Int.reduceMul, Int.reduceEq, Int.reduceLT, Int.reduceLE, Int.reduceNe, forall_const, forall_eq', forall_eq, List.forall_mem_cons, List.not_mem_nil]
    refine call_i (known_s ?_)
    simp only [wf_preprocess, ↓reduceIte, Nat.reduceEqDiff, reduceCtorEq, Nat.reduceAdd, Nat.reduceMul, Nat.reduceLeDiff, Nat.reduceLT, Nat.reduceSub, Int.reduceToNat, Int.reduceNeg, Int.reduceAdd, Int.reduceSub, Int.reduceMul, Int.reduceEq, Int.reduceLT, Int.reduceLE, Int.reduceNe, forall_const, forall_eq', forall_eq, List.forall_mem_cons, List.not_mem_nil]
  by_cases c2 : i < 0
  · simp only [n6, onLst_len hL, c1, c2, wf_preprocess, ↓reduceIte, Nat.reduceEqDiff, reduceCtorEq, Nat.reduceAdd, Nat.reduceMul, Nat.reduceLeDiff, Nat.reduceLT, Nat.reduceSub, Int.reduceToNat, Int.reduceNeg, Int.reduceAdd, Int.reduceSub, Int.reduceMul, Int.reduceEq, Int.reduceLT, Int.reduceLE, Int.reduceNe, forall_const, forall_eq', forall_eq, List.forall_mem_cons, List.not_mem_nil]
    refine call_i (known_s ?_)
    simp only [wf_preprocess, ↓reduceIte, Nat.reduceEqDiff, reduceCtorEq, Nat.reduceAdd, Nat.reduceMul, Nat.reduceLeDiff, Nat.reduceLT, Nat.reduceSub, Int.reduceToNat, Int.reduceNeg, Int.reduceAdd, Int.reduceSub, Int.reduceMul, Int.reduceEq, Int.reduceLT, Int.reduceLE, Int.reduceNe, forall_const, forall_eq', forall_eq, List.forall_mem_cons, List.not_mem_nil]
  by_cases c3 : k ≤ i
  · simp only [n6, onLst_len hL, c1, c2, c3, wf_preprocess, ↓reduceIte, Nat.reduceEqDiff, reduceCtorEq, Nat.reduceAdd, Nat.reduceMul, Nat.reduceLeDiff, Nat.reduceLT, Nat.reduceSub, Int.reduceToNat, Int.reduceNeg, Int.reduceAdd, Int.reduceSub, Int.reduceMul, Int.reduceEq, Int.reduceLT, Int.reduceLE, Int.reduceNe, forall_const, forall_eq', forall_eq, List.forall_mem_cons, List.not_mem_nil]
    refine call_i (known_s ?_)
    simp only [wf_preprocess, ↓reduceIte, Nat.reduceEqDiff, reduceCtorEq, Nat.reduceAdd, Nat.reduceMul, Nat.reduceLeDiff, Nat.reduceLT, Nat.reduceSub, Int.reduceToNat, Int.reduceNeg, Int.reduceAdd, Int.reduceSub, Int.reduceMul, Int.reduceEq, Int.reduceLT, Int.reduceLE, Int.reduceNe, forall_const, forall_eq', forall_eq, List.forall_mem_cons, List.not_mem_nil]
  by_cases c4 : (w.length : Int) ≤ k
  · simp only [n6, onLst_len hL, c1, c2, c3, c4, wf_preprocess, ↓reduceIte, Nat.reduceEqDiff, reduceCtorEq, Nat.reduceAdd, Nat.reduceMul, Nat.reduceLeDiff, Nat.reduceLT, Nat.reduceSub, Int.reduceToNat, Int.reduceNeg, Int.reduceAdd, Int.reduceSub, Int.reduceMul, Int.reduceEq, Int.reduceLT, Int.reduceLE, Int.reduceNe, forall_const, forall_eq', forall_eq, List.forall_mem_cons, List.not_mem_nil]
    refine call_i (known_s ?_)
    simp only [wf_preprocess, ↓reduceIte, Nat.reduceEqDiff, reduceCtorEq, Nat.reduceAdd, Nat.reduceMul, Nat.reduceLeDiff, Nat.reduceLT, Nat.reduceSub, Int.reduceToNat, Int.reduceNeg, Int.reduceAdd, Int.reduceSub, Int.reduceMul, Int.reduceEq, Int.reduceLT, Int.reduceLE, Int.reduceNe, forall_const, forall_eq', forall_eq, List.forall_mem_cons, List.not_mem_nil]
  obtain ⟨i, rfl⟩ := Int.eq_ofNat_of_zero_le (show 0 ≤ i by omega)
  obtain ⟨k, rfl⟩ := Int.eq_ofNat_of_zero_le (show 0 ≤ k by omega)
  obtain ⟨x, hx⟩ : ∃ x, w[i]? = some x := ⟨_, List.getElem?_eq_getElem (by omega)⟩
  obtain ⟨x2, hx2⟩ : ∃ x, w[k]? = some x := ⟨_, List.getElem?_eq_getElem (by omega)⟩
  simp only [n6, onLst_len hL, c1, c2, c3, c4, Int.natCast_nonneg, wf_preprocess, ↓reduceIte, Nat.reduceEqDiff, reduceCtorEq, Nat.reduceAdd, Nat.reduceMul, Nat.reduceLeDiff, Nat.reduceLT, Nat.reduceSub, Int.reduceToNat, Int.reduceNeg, Int.reduceAdd, Int.reduceSub, Int.reduceMul, Int.reduceEq, Int.reduceLT, Int.reduceLE, Int.reduceNe, forall_const, forall_eq', forall_eq, List.forall_mem_cons, List.not_mem_nil]
  refine El.idx (n := (i : Int)) (hw []) (by omega) (by simpa using hx) fun a1 r1 ha1 => ?_
  simp only [ha1, Int.natCast_nonneg, wf_preprocess, ↓reduceIte, Nat.reduceEqDiff, reduceCtorEq, Nat.reduceAdd, Nat.reduceMul, Nat.reduceLeDiff, Nat.reduceLT, Nat.reduceSub, Int.reduceToNat, Int.reduceNeg, Int.reduceAdd, Int.reduceSub, Int.reduceMul, Int.reduceEq, Int.reduceLT, Int.reduceLE, Int.reduceNe, forall_const, forall_eq', forall_eq, List.forall_mem_cons, List.not_mem_nil]
  refine El.idx (n := (k : Int)) (hw []) (by omega) (by simpa using hx2) fun a2 r2 ha2 => ?_
  by_cases c5 : x = x2
  case neg =>
    have c5' : ¬ (x : Int) = (x2 : Int) := by omega
    simp only [ha2, c5', wf_preprocess, ↓reduceIte, Nat.reduceEqDiff, reduceCtorEq, Nat.reduceAdd, Nat.reduceMul, Nat.reduceLeDiff, Nat.reduceLT, Nat.reduceSub, Int.reduceToNat, Int.reduceNeg, Int.reduceAdd, Int.reduceSub, Int.reduceMul, Int.reduceEq, Int.reduceLT, Int.reduceLE, Int.reduceNe, forall_const, forall_eq', forall_eq, List.forall_mem_cons, List.not_mem_nil]
    refine call_i (known_s ?_)
    simp only [wf_preprocess, ↓reduceIte, Nat.reduceEqDiff, reduceCtorEq, Nat.reduceAdd, Nat.reduceMul, Nat.reduceLeDiff, Nat.reduceLT, Nat.reduceSub, Int.reduceToNat, Int.reduceNeg, Int.reduceAdd, Int.reduceSub, Int.reduceMul, Int.reduceEq, Int.reduceLT, Int.reduceLE, Int.reduceNe, forall_const, forall_eq', forall_eq, List.forall_mem_cons, List.not_mem_nil]
  subst c5
  simp only [ha2, onLst_len hL, Int.natCast_nonneg, wf_preprocess, ↓reduceIte, Nat.reduceEqDiff, reduceCtorEq, Nat.reduceAdd, Nat.reduceMul, Nat.reduceLeDiff, Nat.reduceLT, Nat.reduceSub, Int.reduceToNat, Int.reduceNeg, Int.reduceAdd, Int.reduceSub, Int.reduceMul, Int.reduceEq, Int.reduceLT, Int.reduceLE, Int.reduceNe, forall_const, forall_eq', forall_eq, List.forall_mem_cons, List.not_mem_nil]
  refine call_i (Split_s (hw _) hu ha (by omega) fun v m1 h1 h2 h3 => ?_)
  have hv := BufI.elU h1
  by_cases c6 : errOf w = 0
  case neg =>
    have c6' : ¬ (errOf w : Int) = 0 := by omega
    simp only [c6', wf_preprocess, ↓reduceIte, Nat.reduceEqDiff, reduceCtorEq, Nat.reduceAdd, Nat.reduceMul, Nat.reduceLeDiff, Nat.reduceLT, Nat.reduceSub, Int.reduceToNat, Int.reduceNeg, Int.reduceAdd, Int.reduceSub, Int.reduceMul, Int.reduceEq, Int.reduceLT, Int.reduceLE, Int.reduceNe, forall_const, forall_eq', forall_eq, List.forall_mem_cons, List.not_mem_nil]
    refine call_i (known_s ?_)
    simp only [wf_preprocess, ↓reduceIte, Nat.reduceEqDiff, reduceCtorEq, Nat.reduceAdd, Nat.reduceMul, Nat.reduceLeDiff, Nat.reduceLT, Nat.reduceSub, Int.reduceToNat, Int.reduceNeg, Int.reduceAdd, Int.reduceSub, Int.reduceMul, Int.reduceEq, Int.reduceLT, Int.reduceLE, Int.reduceNe, forall_const, forall_eq', forall_eq, List.forall_mem_cons, List.not_mem_nil]
  have c6' : (errOf w : Int) = 0 := by omega
  have e : resP a w = parts a w := by unfold resP; rw [if_pos c6]
  rw [e] at hv
  have hPl := parts_len (a := a) (w := w)
  obtain ⟨p, q, hp, hq, h7, h8⟩ := parts_first (a := a) hx hx2 (by omega)
  obtain ⟨_, _, _, wp⟩ := err_ok c6
  have hPs := parts_sum (a := a) wp
  have hpu := le_sum hp
  generalize parts a w = P at *
  have hLv := hv.lenIs
  rw [hPl] at hLv
  have e1 : (q : Int) ≤ (p : Int) := by omega
  have e2 : U ((p : Int) - (q : Int)) = ((p - q : Nat) : Int) := U_nat (by omega) (by omega)
  have e3 : ((p - q : Nat) : Int) ≤ 1 := by omega
  simp only [onLst_len hL, onLst_len hLv, c6', Int.natCast_nonneg, wf_preprocess, ↓reduceIte, Nat.reduceEqDiff, reduceCtorEq, Nat.reduceAdd, Nat.reduceMul, Nat.reduceLeDiff, Nat.reduceLT, Nat.reduceSub, Int.reduceToNat, Int.reduceNeg, Int.reduceAdd, Int.reduceSub, Int.reduceMul, Int.reduceEq, Int.reduceLT, Int.reduceLE, Int.reduceNe, forall_const, forall_eq', forall_eq, List.forall_mem_cons, List.not_mem_nil]
  refine El.idx (n := (i : Int)) hv (by omega) (by simpa using hp) fun a3 r3 ha3 => ?_
  simp only [ha3, Int.natCast_nonneg, wf_preprocess, ↓reduceIte, Nat.reduceEqDiff, reduceCtorEq, Nat.reduceAdd, Nat.reduceMul, Nat.reduceLeDiff, Nat.reduceLT, Nat.reduceSub, Int.reduceToNat, Int.reduceNeg, Int.reduceAdd, Int.reduceSub, Int.reduceMul, Int.reduceEq, Int.reduceLT, Int.reduceLE, Int.reduceNe, forall_const, forall_eq', forall_eq, List.forall_mem_cons, List.not_mem_nil]
  refine El.idx (n := (k : Int)) hv (by omega) (by simpa using hq) fun a4 r4 ha4 => ?_
  simp only [ha4, e1, Int.natCast_nonneg, wf_preprocess, ↓reduceIte, Nat.reduceEqDiff, reduceCtorEq, Nat.reduceAdd, Nat.reduceMul, Nat.reduceLeDiff, Nat.reduceLT, Nat.reduceSub, Int.reduceToNat, Int.reduceNeg, Int.reduceAdd, Int.reduceSub, Int.reduceMul, Int.reduceEq, Int.reduceLT, Int.reduceLE, Int.reduceNe, forall_const, forall_eq', forall_eq, List.forall_mem_cons, List.not_mem_nil]
  refine El.idx (n := (i : Int)) hv (by omega) (by simpa using hp) fun a3 r3 ha3 => ?_
  simp only [ha3, Int.natCast_nonneg, wf_preprocess, ↓reduceIte, Nat.reduceEqDiff, reduceCtorEq, Nat.reduceAdd, Nat.reduceMul, Nat.reduceLeDiff, Nat.reduceLT, Nat.reduceSub, Int.reduceToNat, Int.reduceNeg, Int.reduceAdd, Int.reduceSub, Int.reduceMul, Int.reduceEq, Int.reduceLT, Int.reduceLE, Int.reduceNe, forall_const, forall_eq', forall_eq, List.forall_mem_cons, List.not_mem_nil]
  refine El.idx (n := (k : Int)) hv (by omega) (by simpa using hq) fun a4 r4 ha4 => ?_
  simp only [ha4, wu, e2, e3, Int.natCast_nonneg, wf_preprocess, ↓reduceIte, Nat.reduceEqDiff, reduceCtorEq, Nat.reduceAdd, Nat.reduceMul, Nat.reduceLeDiff, Nat.reduceLT, Nat.reduceSub, Int.reduceToNat, Int.reduceNeg, Int.reduceAdd, Int.reduceSub, Int.reduceMul, Int.reduceEq, Int.reduceLT, Int.reduceLE, Int.reduceNe, forall_const, forall_eq', forall_eq, List.forall_mem_cons, List.not_mem_nil]
  refine call_i (known_s ?_)
  simp only [wf_preprocess, ↓reduceIte, Nat.reduceEqDiff, reduceCtorEq, Nat.reduceAdd, Nat.reduceMul, Nat.reduceLeDiff, Nat.reduceLT, Nat.reduceSub, Int.reduceToNat, Int.reduceNeg, Int.reduceAdd, Int.reduceSub, Int.reduceMul, Int.reduceEq, Int.reduceLT, Int.reduceLE, Int.reduceNe, forall_const, forall_eq', forall_eq, List.forall_mem_cons, List.not_mem_nil]
end Go.Proofs.Ytjegieklpeipaaa.Moi.Share

namespace Go.Proofs.Ytjegieklpeipaaa.Moi.Share
open Go Go.RowKit Go.Proofs.Ytjegieklpeipaaa.Moi Go.Proofs.Ytjegieklpeipaaa.Moi.Num

theorem sum_up : ∀ {l : List Nat} {i : Nat}, (l.take i).sum ≤ l.sum := sum_take_le
/-- Two numbers of 128 bits that are not far apart. -/
inductive Far (ah al bh bl S : Nat) : Prop
  | n1 (h1 : ah = bh) (h2 : ¬ al < bl) (h3 : al - bl < S)
  | n2 (h1 : ah = bh + 1) (h2 : al < bl) (h3 : al + 18446744073709551616 - bl < S)
  | s1 (h1 : bh = ah + 1) (h2 : bl < al) (h3 : bl + 18446744073709551616 - al < S)
  | s2 (h1 : ah = bh) (h2 : al < bl) (h3 : bl - al < S)
theorem far {A B S : Nat} (hS : S < 18446744073709551616) (h1 : A < B + S) (h2 : B < A + S) :
    Far (A / 18446744073709551616) (A % 18446744073709551616) (B / 18446744073709551616) (B % 18446744073709551616) S := by
  have a1 := Nat.div_add_mod A 18446744073709551616
  have b1 := Nat.div_add_mod B 18446744073709551616
  have a2 := Nat.mod_lt A (show 0 < 18446744073709551616 by decide)
  have b2 := Nat.mod_lt B (show 0 < 18446744073709551616 by decide)
  generalize A / 18446744073709551616 = ah at *
  generalize B / 18446744073709551616 = bh at *
  generalize A % 18446744073709551616 = al at *
  generalize B % 18446744073709551616 = bl at *
  subst a1 b1
  by_cases c : ah = bh
  · subst c
    by_cases d : al < bl
    · exact .s2 rfl d (by omega)
    · exact .n1 rfl d (by omega)
  · by_cases d : ah < bh
    · exact .s1 (by omega) (by omega) (by omega)
    · exact .n2 (by omega) (by omega) (by omega)
theorem law_near (xs : List AV) (h : ArgShape Try.prog (fun _ => True) Try.f5.params.toList xs) : ACall Try.prog 5 xs [] (fun x _ => x = bo true) (fun _ _ => False) := by
  rw [Try.params5] at h
  obtain ⟨a, ys, rfl, ha, h⟩ := arg_n h
  obtain ⟨w, y, zs, h2, hw, hu, h3⟩ := arg_w h
  subst h2
  obtain rfl : zs = [] := ArgShape.nil' h3
  clear h h3
  have hL := (hw []).lenIs
  refine acall_fn mixed Try.func5 Try.call5 e5 r5 (Nat.le_of_ble_eq_true rfl) ?_
  by_cases c1 : (1100 : Int) < (w.length : Int)
  · simp only [n5, onLst_len hL, c1, wf_preprocess, ↓reduceIte, Nat.reduceEqDiff, reduceCtorEq, Nat.reduceAdd, Nat.reduceMul, Nat.reduceLeDiff, Nat.reduceLT, Nat.reduceSub, Int.reduceToNat, Int.reduceNeg, Int.reduceAdd, Int.reduceSub, Int.reduceMul, Int.reduceEq, Int.reduceLT, Int.reduceLE, Int.reduceNe, forall_const, forall_eq', forall_eq, List.forall_mem_cons, List.not_mem_nil]
    refine call_i (known_s ?_)
    simp only [wf_preprocess, ↓reduceIte, Nat.reduceEqDiff, reduceCtorEq, Nat.reduceAdd, Nat.reduceMul, Nat.reduceLeDiff, Nat.reduceLT, Nat.reduceSub, Int.reduceToNat, Int.reduceNeg, Int.reduceAdd, Int.reduceSub, Int.reduceMul, Int.reduceEq, Int.reduceLT, Int.reduceLE, Int.reduceNe, forall_const, forall_eq', forall_eq, List.forall_mem_cons, List.not_mem_nil]
  simp only [n5, onLst_len hL, c1, wf_preprocess, ↓reduceIte, Nat.reduceEqDiff, reduceCtorEq, Nat.reduceAdd, Nat.reduceMul, Nat.reduceLeDiff, Nat.reduceLT, Nat.reduceSub, Int.reduceToNat, Int.reduceNeg, Int.reduceAdd, Int.reduceSub, Int.reduceMul, Int.reduceEq, Int.reduceLT, Int.reduceLE, Int.reduceNe, forall_const, forall_eq', forall_eq, List.forall_mem_cons, List.not_mem_nil]
  refine call_i (Split_s (hw _) hu ha (by omega) fun v m1 h1 h2 h3 => ?_)
  have hv := BufI.elU h1
  by_cases c2 : errOf w = 0
  case neg =>
    have c2' : ¬ (errOf w : Int) = 0 := by omega
    simp only [c2', wf_preprocess, ↓reduceIte, Nat.reduceEqDiff, reduceCtorEq, Nat.reduceAdd, Nat.reduceMul, Nat.reduceLeDiff, Nat.reduceLT, Nat.reduceSub, Int.reduceToNat, Int.reduceNeg, Int.reduceAdd, Int.reduceSub, Int.reduceMul, Int.reduceEq, Int.reduceLT, Int.reduceLE, Int.reduceNe, forall_const, forall_eq', forall_eq, List.forall_mem_cons, List.not_mem_nil]
    refine call_i (known_s ?_)
    simp only [wf_preprocess, ↓reduceIte, Nat.reduceEqDiff, reduceCtorEq, Nat.reduceAdd, Nat.reduceMul, Nat.reduceLeDiff, Nat.reduceLT, Nat.reduceSub, Int.reduceToNat, Int.reduceNeg, Int.reduceAdd, Int.reduceSub, Int.reduceMul, Int.reduceEq, Int.reduceLT, Int.reduceLE, Int.reduceNe, forall_const, forall_eq', forall_eq, List.forall_mem_cons, List.not_mem_nil]
  have c2' : (errOf w : Int) = 0 := by omega
  have e : resP a w = parts a w := by unfold resP; rw [if_pos c2]
  rw [e] at hv
  obtain ⟨w0, wl, ws, wp⟩ := err_ok c2
  have hPs := parts_sum (a := a) wp
  have hPl := parts_len (a := a) (w := w)
  have hz := fun i x y h => parts_near (a := a) (i := i) (x := x) (y := y) wp h
  generalize parts a w = P at *
  have hLv := hv.lenIs
  rw [hPl] at hLv
  simp only [onLst_len hL, onLst_len hLv, c2', wf_preprocess, ↓reduceIte, Nat.reduceEqDiff, reduceCtorEq, Nat.reduceAdd, Nat.reduceMul, Nat.reduceLeDiff, Nat.reduceLT, Nat.reduceSub, Int.reduceToNat, Int.reduceNeg, Int.reduceAdd, Int.reduceSub, Int.reduceMul, Int.reduceEq, Int.reduceLT, Int.reduceLE, Int.reduceNe, forall_const, forall_eq', forall_eq, List.forall_mem_cons, List.not_mem_nil]
  refine loop_i (fun kk ρ m' => ∃ (i : Nat), kk = w.length - i ∧ i ≤ w.length ∧ ρ 0 = un a ∧ ρ 1 = y ∧ ρ 5 = v ∧ ρ 7 = un (w.take i).sum ∧ ρ 8 = iv i ∧ m' = m1) w.length ⟨0, rfl, by omega, ?_⟩ ?_
  · simp only [wf_preprocess, ↓reduceIte, Nat.reduceEqDiff, reduceCtorEq, Nat.reduceAdd, Nat.reduceMul, Nat.reduceLeDiff, Nat.reduceLT, Nat.reduceSub, Int.reduceToNat, Int.reduceNeg, Int.reduceAdd, Int.reduceSub, Int.reduceMul, Int.reduceEq, Int.reduceLT, Int.reduceLE, Int.reduceNe, forall_const, forall_eq', forall_eq, List.forall_mem_cons, List.not_mem_nil]
    rfl
  rintro kk ρ m' ⟨i, rfl, hi, g0, g1, g5, g7, g8, rfl⟩
  by_cases hlt : (i : Int) < (w.length : Int)
  · obtain ⟨x, hx⟩ : ∃ x, w[i]? = some x := ⟨_, List.getElem?_eq_getElem (by omega)⟩
    have w1 : IntKind.i64.wrap ((i : Int) + 1) = ((i + 1 : Nat) : Int) := wrap64 (by omega) (by omega)
    have e2 := sum_take_get hx
    have e3 := sum_take_le (l := w) (i := i + 1)
    have e5 : U (((w.take i).sum : Int) + (x : Int)) = (((w.take (i + 1)).sum : Nat) : Int) := U_nat (by omega) (by omega)
    simp only [g0, g1, g5, g7, g8, hlt, onLst_len hL, onLst_len hLv, Int.natCast_nonneg, wf_preprocess, ↓reduceIte, Nat.reduceEqDiff, reduceCtorEq, Nat.reduceAdd, Nat.reduceMul, Nat.reduceLeDiff, Nat.reduceLT, Nat.reduceSub, Int.reduceToNat, Int.reduceNeg, Int.reduceAdd, Int.reduceSub, Int.reduceMul, Int.reduceEq, Int.reduceLT, Int.reduceLE, Int.reduceNe, forall_const, forall_eq', forall_eq, List.forall_mem_cons, List.not_mem_nil]
    refine El.idx (n := (i : Int)) (hw m') (by omega) (by simpa using hx) fun a1 r1 ha1 => ?_
    simp only [g0, g1, g5, g7, g8, ha1, wu, e5, w1, Int.natCast_nonneg, wf_preprocess, ↓reduceIte, Nat.reduceEqDiff, reduceCtorEq, Nat.reduceAdd, Nat.reduceMul, Nat.reduceLeDiff, Nat.reduceLT, Nat.reduceSub, Int.reduceToNat, Int.reduceNeg, Int.reduceAdd, Int.reduceSub, Int.reduceMul, Int.reduceEq, Int.reduceLT, Int.reduceLE, Int.reduceNe, forall_const, forall_eq', forall_eq, List.forall_mem_cons, List.not_mem_nil]
    exact ⟨w.length - (i + 1), by omega, i + 1, rfl, by omega, rfl, rfl⟩
  have e : w.take i = w := List.take_of_length_le (by omega)
  rw [e] at g7
  simp only [g0, g1, g5, g7, g8, hlt, onLst_len hL, onLst_len hLv, wf_preprocess, ↓reduceIte, Nat.reduceEqDiff, reduceCtorEq, Nat.reduceAdd, Nat.reduceMul, Nat.reduceLeDiff, Nat.reduceLT, Nat.reduceSub, Int.reduceToNat, Int.reduceNeg, Int.reduceAdd, Int.reduceSub, Int.reduceMul, Int.reduceEq, Int.reduceLT, Int.reduceLE, Int.reduceNe, forall_const, forall_eq', forall_eq, List.forall_mem_cons, List.not_mem_nil]
  clear g8 hlt hi e
  generalize hS : w.sum = S at *
  refine loop_i (fun kk ρ' m2 => ∃ (i : Nat), kk = w.length - i ∧ i ≤ w.length ∧ ρ' 0 = un a ∧ ρ' 1 = y ∧ ρ' 5 = v ∧ ρ' 7 = un S ∧ ρ' 9 = iv i ∧ m2 = m') w.length ⟨0, rfl, by omega, ?_⟩ ?_
  · simp only [g0, g1, g5, g7, wf_preprocess, ↓reduceIte, Nat.reduceEqDiff, reduceCtorEq, Nat.reduceAdd, Nat.reduceMul, Nat.reduceLeDiff, Nat.reduceLT, Nat.reduceSub, Int.reduceToNat, Int.reduceNeg, Int.reduceAdd, Int.reduceSub, Int.reduceMul, Int.reduceEq, Int.reduceLT, Int.reduceLE, Int.reduceNe, forall_const, forall_eq', forall_eq, List.forall_mem_cons, List.not_mem_nil]
  clear g0 g1 g5 g7
  rintro kk ρ m2 ⟨i, rfl, hi, g0, g1, g5, g7, g9, rfl⟩
  by_cases hlt : (i : Int) < (w.length : Int)
  case neg =>
    simp only [g0, g1, g5, g7, g9, hlt, onLst_len hL, onLst_len hLv, wf_preprocess, ↓reduceIte, Nat.reduceEqDiff, reduceCtorEq, Nat.reduceAdd, Nat.reduceMul, Nat.reduceLeDiff, Nat.reduceLT, Nat.reduceSub, Int.reduceToNat, Int.reduceNeg, Int.reduceAdd, Int.reduceSub, Int.reduceMul, Int.reduceEq, Int.reduceLT, Int.reduceLE, Int.reduceNe, forall_const, forall_eq', forall_eq, List.forall_mem_cons, List.not_mem_nil]
    refine call_i (known_s ?_)
    simp only [wf_preprocess, ↓reduceIte, Nat.reduceEqDiff, reduceCtorEq, Nat.reduceAdd, Nat.reduceMul, Nat.reduceLeDiff, Nat.reduceLT, Nat.reduceSub, Int.reduceToNat, Int.reduceNeg, Int.reduceAdd, Int.reduceSub, Int.reduceMul, Int.reduceEq, Int.reduceLT, Int.reduceLE, Int.reduceNe, forall_const, forall_eq', forall_eq, List.forall_mem_cons, List.not_mem_nil]
  obtain ⟨x, hx⟩ : ∃ x, w[i]? = some x := ⟨_, List.getElem?_eq_getElem (by omega)⟩
  obtain ⟨z, hzi⟩ : ∃ x, P[i]? = some x := ⟨_, List.getElem?_eq_getElem (by omega)⟩
  have hxu := hu x (List.mem_of_getElem? hx)
  have hzu := le_sum hzi
  have w1 : IntKind.i64.wrap ((i : Int) + 1) = ((i + 1 : Nat) : Int) := wrap64 (by omega) (by omega)
  obtain ⟨n1, n2⟩ := hz i x z hx hzi
  have hF := far ws n1 n2
  clear hz n1 n2
  simp only [g0, g1, g5, g7, g9, hlt, onLst_len hL, onLst_len hLv, Int.natCast_nonneg, wf_preprocess, ↓reduceIte, Nat.reduceEqDiff, reduceCtorEq, Nat.reduceAdd, Nat.reduceMul, Nat.reduceLeDiff, Nat.reduceLT, Nat.reduceSub, Int.reduceToNat, Int.reduceNeg, Int.reduceAdd, Int.reduceSub, Int.reduceMul, Int.reduceEq, Int.reduceLT, Int.reduceLE, Int.reduceNe, forall_const, forall_eq', forall_eq, List.forall_mem_cons, List.not_mem_nil]
  refine El.idx (n := (i : Int)) hv (by omega) (by simpa using hzi) fun a1 r1 ha1 => ?_
  simp only [g0, g1, g5, g7, g9, ha1, Int.natCast_nonneg, wf_preprocess, ↓reduceIte, Nat.reduceEqDiff, reduceCtorEq, Nat.reduceAdd, Nat.reduceMul, Nat.reduceLeDiff, Nat.reduceLT, Nat.reduceSub, Int.reduceToNat, Int.reduceNeg, Int.reduceAdd, Int.reduceSub, Int.reduceMul, Int.reduceEq, Int.reduceLT, Int.reduceLE, Int.reduceNe, forall_const, forall_eq', forall_eq, List.forall_mem_cons, List.not_mem_nil]
  refine call_i (rTimes_s (by omega) ws ?_)
  simp only [g0, g1, g5, g7, g9, ha1, Int.natCast_nonneg, wf_preprocess, ↓reduceIte, Nat.reduceEqDiff, reduceCtorEq, Nat.reduceAdd, Nat.reduceMul, Nat.reduceLeDiff, Nat.reduceLT, Nat.reduceSub, Int.reduceToNat, Int.reduceNeg, Int.reduceAdd, Int.reduceSub, Int.reduceMul, Int.reduceEq, Int.reduceLT, Int.reduceLE, Int.reduceNe, forall_const, forall_eq', forall_eq, List.forall_mem_cons, List.not_mem_nil]
  refine El.idx (n := (i : Int)) (hw m2) (by omega) (by simpa using hx) fun a2 r2 ha2 => ?_
  simp only [g0, g1, g5, g7, g9, ha2, Int.natCast_nonneg, wf_preprocess, ↓reduceIte, Nat.reduceEqDiff, reduceCtorEq, Nat.reduceAdd, Nat.reduceMul, Nat.reduceLeDiff, Nat.reduceLT, Nat.reduceSub, Int.reduceToNat, Int.reduceNeg, Int.reduceAdd, Int.reduceSub, Int.reduceMul, Int.reduceEq, Int.reduceLT, Int.reduceLE, Int.reduceNe, forall_const, forall_eq', forall_eq, List.forall_mem_cons, List.not_mem_nil]
  refine call_i (rTimes_s ha hxu ?_)
  have m1' := Nat.mod_lt (z * S) (show 0 < 18446744073709551616 by decide)
  have m2' := Nat.mod_lt (a * x) (show 0 < 18446744073709551616 by decide)
  have m3' : z * S / 18446744073709551616 < 18446744073709551616 := by
    rw [Nat.div_lt_iff_lt_mul (by decide)]
    exact Nat.mul_lt_mul_of_lt_of_le (by omega) (by omega) (by omega)
  have m4' : a * x / 18446744073709551616 < 18446744073709551616 := by
    rw [Nat.div_lt_iff_lt_mul (by decide)]
    exact Nat.mul_lt_mul_of_lt_of_le (by omega) (by omega) (by omega)
  generalize z * S / 18446744073709551616 = ah at *
  generalize a * x / 18446744073709551616 = bh at *
  generalize z * S % 18446744073709551616 = al at *
  generalize a * x % 18446744073709551616 = bl at *
  have fin : ∃ k', k' < w.length - i ∧ ∃ i', k' = w.length - i' ∧ i' ≤ w.length ∧ iv ((i + 1 : Nat) : Int) = iv i' := ⟨w.length - (i + 1), by omega, i + 1, rfl, by omega, rfl⟩
  have u0 : U ((ah : Int) - (ah : Int)) = 0 := by rw [Int.sub_self]; rfl
  cases hF with
  | n1 q1 q2 q3 =>
    subst q1
    have d0 : ¬ (al : Int) < (bl : Int) := by omega
    have d1 : U ((al : Int) - (bl : Int)) = ((al - bl : Nat) : Int) := U_nat (by omega) (by omega)
    have d2 : ¬ (al : Int) < ((al - bl : Nat) : Int) := by omega
    have d3 : ¬ (S : Int) ≤ ((al - bl : Nat) : Int) := by omega
    simp only [g0, g1, g5, g7, g9, wu, w1, d0, d1, d2, d3, u0, Int.lt_irrefl, wf_preprocess, ↓reduceIte, Nat.reduceEqDiff, reduceCtorEq, Nat.reduceAdd, Nat.reduceMul, Nat.reduceLeDiff, Nat.reduceLT, Nat.reduceSub, Int.reduceToNat, Int.reduceNeg, Int.reduceAdd, Int.reduceSub, Int.reduceMul, Int.reduceEq, Int.reduceLT, Int.reduceLE, Int.reduceNe, forall_const, forall_eq', forall_eq, List.forall_mem_cons, List.not_mem_nil]
    exact fin
  | n2 q1 q2 q3 =>
    have d0 : ¬ (ah : Int) < (bh : Int) := by omega
    have d00 : ¬ (ah : Int) = (bh : Int) := by omega
    have d1 : U ((al : Int) - (bl : Int)) = ((al + 18446744073709551616 - bl : Nat) : Int) := by unfold U; omega
    have d2 : (al : Int) < ((al + 18446744073709551616 - bl : Nat) : Int) := by omega
    have d3 : ¬ (S : Int) ≤ ((al + 18446744073709551616 - bl : Nat) : Int) := by omega
    have d4 : U ((ah : Int) - (bh : Int)) = 1 := by unfold U; omega
    have d5 : U 0 = 0 := rfl
    simp only [g0, g1, g5, g7, g9, wu, w1, d0, d00, d1, d2, d3, d4, d5, wf_preprocess, ↓reduceIte, Nat.reduceEqDiff, reduceCtorEq, Nat.reduceAdd, Nat.reduceMul, Nat.reduceLeDiff, Nat.reduceLT, Nat.reduceSub, Int.reduceToNat, Int.reduceNeg, Int.reduceAdd, Int.reduceSub, Int.reduceMul, Int.reduceEq, Int.reduceLT, Int.reduceLE, Int.reduceNe, forall_const, forall_eq', forall_eq, List.forall_mem_cons, List.not_mem_nil]
    exact fin
  | s1 q1 q2 q3 =>
    have d0 : (ah : Int) < (bh : Int) := by omega
    have d1 : U ((bl : Int) - (al : Int)) = ((bl + 18446744073709551616 - al : Nat) : Int) := by unfold U; omega
    have d2 : (bl : Int) < ((bl + 18446744073709551616 - al : Nat) : Int) := by omega
    have d3 : ¬ (S : Int) ≤ ((bl + 18446744073709551616 - al : Nat) : Int) := by omega
    have d4 : U ((bh : Int) - (ah : Int)) = 1 := by unfold U; omega
    have d5 : U 0 = 0 := rfl
    simp only [g0, g1, g5, g7, g9, wu, w1, d0, d1, d2, d3, d4, d5, wf_preprocess, ↓reduceIte, Nat.reduceEqDiff, reduceCtorEq, Nat.reduceAdd, Nat.reduceMul, Nat.reduceLeDiff, Nat.reduceLT, Nat.reduceSub, Int.reduceToNat, Int.reduceNeg, Int.reduceAdd, Int.reduceSub, Int.reduceMul, Int.reduceEq, Int.reduceLT, Int.reduceLE, Int.reduceNe, forall_const, forall_eq', forall_eq, List.forall_mem_cons, List.not_mem_nil]
    exact fin
  | s2 q1 q2 q3 =>
    subst q1
    have d0 : (al : Int) < (bl : Int) := by omega
    have d1 : U ((bl : Int) - (al : Int)) = ((bl - al : Nat) : Int) := U_nat (by omega) (by omega)
    have d2 : ¬ (bl : Int) < ((bl - al : Nat) : Int) := by omega
    have d3 : ¬ (S : Int) ≤ ((bl - al : Nat) : Int) := by omega
    simp only [g0, g1, g5, g7, g9, wu, w1, d0, d1, d2, d3, u0, Int.lt_irrefl, wf_preprocess, ↓reduceIte, Nat.reduceEqDiff, reduceCtorEq, Nat.reduceAdd, Nat.reduceMul, Nat.reduceLeDiff, Nat.reduceLT, Nat.reduceSub, Int.reduceToNat, Int.reduceNeg, Int.reduceAdd, Int.reduceSub, Int.reduceMul, Int.reduceEq, Int.reduceLT, Int.reduceLE, Int.reduceNe, forall_const, forall_eq', forall_eq, List.forall_mem_cons, List.not_mem_nil]
    exact fin

theorem law_twice (xs : List AV) (h : ArgShape Try.prog (fun _ => True) Try.f7.params.toList xs) : ACall Try.prog 7 xs [] (fun x _ => x = bo true) (fun _ _ => False) := by
  rw [Try.params7] at h
  obtain ⟨a, ys, rfl, ha, h⟩ := arg_n h
  obtain ⟨w, y, zs, h2, hw, hu, h3⟩ := arg_w h
  subst h2
  obtain rfl : zs = [] := ArgShape.nil' h3
  clear h h3
  have hL := (hw []).lenIs
  refine acall_fn mixed Try.func7 Try.call7 e7 r7 (Nat.le_of_ble_eq_true rfl) ?_
  by_cases c1 : (1100 : Int) < (w.length : Int)
  · simp only [n7, onLst_len hL, c1, wf_preprocess, ↓reduceIte, Nat.reduceEqDiff, reduceCtorEq, Nat.reduceAdd, Nat.reduceMul, Nat.reduceLeDiff, Nat.reduceLT, Nat.reduceSub, Int.reduceToNat, Int.reduceNeg, Int.reduceAdd, Int.reduceSub, Int.reduceMul, Int.reduceEq, Int.reduceLT, Int.reduceLE, Int.reduceNe, forall_const, forall_eq', forall_eq, List.forall_mem_cons, List.not_mem_nil]
    refine call_i (known_s ?_)
    simp only [wf_preprocess, ↓reduceIte, Nat.reduceEqDiff, reduceCtorEq, Nat.reduceAdd, Nat.reduceMul, Nat.reduceLeDiff, Nat.reduceLT, Nat.reduceSub, Int.reduceToNat, Int.reduceNeg, Int.reduceAdd, Int.reduceSub, Int.reduceMul, Int.reduceEq, Int.reduceLT, Int.reduceLE, Int.reduceNe, forall_const, forall_eq', forall_eq, List.forall_mem_cons, List.not_mem_nil]
  simp only [n7, onLst_len hL, c1, wf_preprocess, ↓reduceIte, Nat.reduceEqDiff, reduceCtorEq, Nat.reduceAdd, Nat.reduceMul, Nat.reduceLeDiff, Nat.reduceLT, Nat.reduceSub, Int.reduceToNat, Int.reduceNeg, Int.reduceAdd, Int.reduceSub, Int.reduceMul, Int.reduceEq, Int.reduceLT, Int.reduceLE, Int.reduceNe, forall_const, forall_eq', forall_eq, List.forall_mem_cons, List.not_mem_nil]
  refine loop_i (fun kk ρ m' => ∃ (i : Nat) (v : AV), kk = w.length - i ∧ i ≤ w.length ∧ ρ 0 = un a ∧ ρ 1 = y ∧ ρ 5 = v ∧ ρ 6 = iv i ∧ (∀ x ∈ w.take i, x < 9007199254740992) ∧ BufI .u64 (ul ((w.take i).map (2 * ·))) v m') w.length ⟨0, .lst [] .nil, rfl, by omega, ?_⟩ ?_
  · simp only [wf_preprocess, ↓reduceIte, Nat.reduceEqDiff, reduceCtorEq, Nat.reduceAdd, Nat.reduceMul, Nat.reduceLeDiff, Nat.reduceLT, Nat.reduceSub, Int.reduceToNat, Int.reduceNeg, Int.reduceAdd, Int.reduceSub, Int.reduceMul, Int.reduceEq, Int.reduceLT, Int.reduceLE, Int.reduceNe, forall_const, forall_eq', forall_eq, List.forall_mem_cons, List.not_mem_nil]
    exact BufI.nil
  rintro kk ρ m' ⟨i, v, rfl, hi, g0, g1, g5, g6, hs, hb⟩
  by_cases hlt : (i : Int) < (w.length : Int)
  · obtain ⟨x, hx⟩ : ∃ x, w[i]? = some x := ⟨_, List.getElem?_eq_getElem (by omega)⟩
    have w1 : IntKind.i64.wrap ((i : Int) + 1) = ((i + 1 : Nat) : Int) := wrap64 (by omega) (by omega)
    simp only [g0, g1, g5, g6, hlt, onLst_len hL, Int.natCast_nonneg, wf_preprocess, ↓reduceIte, Nat.reduceEqDiff, reduceCtorEq, Nat.reduceAdd, Nat.reduceMul, Nat.reduceLeDiff, Nat.reduceLT, Nat.reduceSub, Int.reduceToNat, Int.reduceNeg, Int.reduceAdd, Int.reduceSub, Int.reduceMul, Int.reduceEq, Int.reduceLT, Int.reduceLE, Int.reduceNe, forall_const, forall_eq', forall_eq, List.forall_mem_cons, List.not_mem_nil]
    refine El.idx (n := (i : Int)) (hw m') (by omega) (by simpa using hx) fun a1 r1 ha1 => ?_
    by_cases c2 : 9007199254740992 ≤ x
    · have c2' : (9007199254740992 : Int) ≤ (x : Int) := by omega
      simp only [g0, g1, g5, g6, ha1, c2', wf_preprocess, ↓reduceIte, Nat.reduceEqDiff, reduceCtorEq, Nat.reduceAdd, Nat.reduceMul, Nat.reduceLeDiff, Nat.reduceLT, Nat.reduceSub, Int.reduceToNat, Int.reduceNeg, Int.reduceAdd, Int.reduceSub, Int.reduceMul, Int.reduceEq, Int.reduceLT, Int.reduceLE, Int.reduceNe, forall_const, forall_eq', forall_eq, List.forall_mem_cons, List.not_mem_nil]
      refine call_i (known_s ?_)
      simp only [wf_preprocess, ↓reduceIte, Nat.reduceEqDiff, reduceCtorEq, Nat.reduceAdd, Nat.reduceMul, Nat.reduceLeDiff, Nat.reduceLT, Nat.reduceSub, Int.reduceToNat, Int.reduceNeg, Int.reduceAdd, Int.reduceSub, Int.reduceMul, Int.reduceEq, Int.reduceLT, Int.reduceLE, Int.reduceNe, forall_const, forall_eq', forall_eq, List.forall_mem_cons, List.not_mem_nil]
    · have c2' : ¬ (9007199254740992 : Int) ≤ (x : Int) := by omega
      have e5 : U (2 * (x : Int)) = ((2 * x : Nat) : Int) := U_nat (by omega) (by omega)
      have e6 : (w.take (i + 1)).map (2 * ·) = (w.take i).map (2 * ·) ++ [2 * x] := by rw [List.take_add_one, hx]; simp
      have hl : (ul ((w.take i).map (2 * ·))).length ≤ 1100 := by rw [ul_len, List.length_map, List.length_take]; omega
      simp only [g0, g1, g5, g6, ha1, c2', Int.natCast_nonneg, wf_preprocess, ↓reduceIte, Nat.reduceEqDiff, reduceCtorEq, Nat.reduceAdd, Nat.reduceMul, Nat.reduceLeDiff, Nat.reduceLT, Nat.reduceSub, Int.reduceToNat, Int.reduceNeg, Int.reduceAdd, Int.reduceSub, Int.reduceMul, Int.reduceEq, Int.reduceLT, Int.reduceLE, Int.reduceNe, forall_const, forall_eq', forall_eq, List.forall_mem_cons, List.not_mem_nil]
      refine El.idx (n := (i : Int)) (hw m') (by omega) (by simpa using hx) fun a2 r2 ha2 => ?_
      simp only [g0, g1, g5, g6, ha2, wu, e5, Int.natCast_nonneg, wf_preprocess, ↓reduceIte, Nat.reduceEqDiff, reduceCtorEq, Nat.reduceAdd, Nat.reduceMul, Nat.reduceLeDiff, Nat.reduceLT, Nat.reduceSub, Int.reduceToNat, Int.reduceNeg, Int.reduceAdd, Int.reduceSub, Int.reduceMul, Int.reduceEq, Int.reduceLT, Int.reduceLE, Int.reduceNe, forall_const, forall_eq', forall_eq, List.forall_mem_cons, List.not_mem_nil]
      refine app_bufI (l2 := ul [2 * x]) hb rfl (by simp only [ul_len, List.length_singleton] at hl ⊢; omega) (by rw [maxLen_e]; simp only [ul_len, List.length_singleton] at hl ⊢; omega) fun v' m2 hb1 hx1 hn1 => ?_
      rw [← ul_app, ← e6] at hb1
      simp only [g0, g1, g5, g6, w1, wf_preprocess, ↓reduceIte, Nat.reduceEqDiff, reduceCtorEq, Nat.reduceAdd, Nat.reduceMul, Nat.reduceLeDiff, Nat.reduceLT, Nat.reduceSub, Int.reduceToNat, Int.reduceNeg, Int.reduceAdd, Int.reduceSub, Int.reduceMul, Int.reduceEq, Int.reduceLT, Int.reduceLE, Int.reduceNe, forall_const, forall_eq', forall_eq, List.forall_mem_cons, List.not_mem_nil]
      refine ⟨w.length - (i + 1), by omega, i + 1, v', rfl, by omega, rfl, rfl, fun z hz => ?_, hb1⟩
      rw [List.take_add_one, hx] at hz
      rcases List.mem_append.1 hz with hz | hz
      · exact hs z hz
      · simp at hz; omega
  have e : w.take i = w := List.take_of_length_le (by omega)
  rw [e] at hs hb
  have hu2 : isW (w.map (2 * ·)) := fun z hz => by
    obtain ⟨x, hx, rfl⟩ := List.mem_map.1 hz
    have := hs x hx
    show 2 * x < _
    omega
  simp only [g0, g1, g5, g6, hlt, onLst_len hL, wf_preprocess, ↓reduceIte, Nat.reduceEqDiff, reduceCtorEq, Nat.reduceAdd, Nat.reduceMul, Nat.reduceLeDiff, Nat.reduceLT, Nat.reduceSub, Int.reduceToNat, Int.reduceNeg, Int.reduceAdd, Int.reduceSub, Int.reduceMul, Int.reduceEq, Int.reduceLT, Int.reduceLE, Int.reduceNe, forall_const, forall_eq', forall_eq, List.forall_mem_cons, List.not_mem_nil]
  refine call_i (Split_s (hw _) hu ha (by omega) fun v1 m1 h1 h2 h3 => ?_)
  simp only [g0, g1, g5, g6, wf_preprocess, ↓reduceIte, Nat.reduceEqDiff, reduceCtorEq, Nat.reduceAdd, Nat.reduceMul, Nat.reduceLeDiff, Nat.reduceLT, Nat.reduceSub, Int.reduceToNat, Int.reduceNeg, Int.reduceAdd, Int.reduceSub, Int.reduceMul, Int.reduceEq, Int.reduceLT, Int.reduceLE, Int.reduceNe, forall_const, forall_eq', forall_eq, List.forall_mem_cons, List.not_mem_nil]
  refine call_i (Split_s ((BufI.elU hb).ext h2 (by simp)) hu2 ha (by rw [List.length_map]; omega) fun v2 m2 h4 h5 h6 => ?_)
  rw [two_res hs] at h4
  rw [two_err hs]
  simp only [wf_preprocess, ↓reduceIte, Nat.reduceEqDiff, reduceCtorEq, Nat.reduceAdd, Nat.reduceMul, Nat.reduceLeDiff, Nat.reduceLT, Nat.reduceSub, Int.reduceToNat, Int.reduceNeg, Int.reduceAdd, Int.reduceSub, Int.reduceMul, Int.reduceEq, Int.reduceLT, Int.reduceLE, Int.reduceNe, forall_const, forall_eq', forall_eq, List.forall_mem_cons, List.not_mem_nil]
  refine call_i (Same_s ((BufI.elU h1).ext h5 (by simp)) (BufI.elU h4) (by have := res_len (a := a) (w := w); omega) ?_)
  simp only [wf_preprocess, ↓reduceIte, Nat.reduceEqDiff, reduceCtorEq, Nat.reduceAdd, Nat.reduceMul, Nat.reduceLeDiff, Nat.reduceLT, Nat.reduceSub, Int.reduceToNat, Int.reduceNeg, Int.reduceAdd, Int.reduceSub, Int.reduceMul, Int.reduceEq, Int.reduceLT, Int.reduceLE, Int.reduceNe, forall_const, forall_eq', forall_eq, List.forall_mem_cons, List.not_mem_nil]
  refine call_i (known_s ?_)
  simp only [wf_preprocess, ↓reduceIte, Nat.reduceEqDiff, reduceCtorEq, Nat.reduceAdd, Nat.reduceMul, Nat.reduceLeDiff, Nat.reduceLT, Nat.reduceSub, Int.reduceToNat, Int.reduceNeg, Int.reduceAdd, Int.reduceSub, Int.reduceMul, Int.reduceEq, Int.reduceLT, Int.reduceLE, Int.reduceNe, forall_const, forall_eq', forall_eq, List.forall_mem_cons, List.not_mem_nil]

theorem law_evens (xs : List AV) (h : ArgShape Try.prog (fun _ => True) Try.f8.params.toList xs) : ACall Try.prog 8 xs [] (fun x _ => x = bo true) (fun _ _ => False) := by
  rw [Try.params8] at h
  obtain ⟨a, ys, rfl, ha, h⟩ := arg_n h
  obtain ⟨n, ys, rfl, hn, h⟩ := arg_i h
  obtain ⟨w, y, ys, rfl, hw, hu, h⟩ := arg_w h
  obtain ⟨p, z, zs, h2, hp, hpu, h3⟩ := arg_w h
  subst h2
  obtain rfl : zs = [] := ArgShape.nil' h3
  clear h h3
  have hL := (hw []).lenIs
  have hLp := (hp []).lenIs
  refine acall_fn mixed Try.func8 Try.call8 e8 r8 (Nat.le_of_ble_eq_true rfl) ?_
  by_cases c1 : (300 : Int) < (w.length : Int)
  · simp only [n8, onLst_len hL, c1, wf_preprocess, ↓reduceIte, Nat.reduceEqDiff, reduceCtorEq, Nat.reduceAdd, Nat.reduceMul, Nat.reduceLeDiff, Nat.reduceLT, Nat.reduceSub, Int.reduceToNat, Int.reduceNeg, Int.reduceAdd, Int.reduceSub, Int.reduceMul, Int.reduceEq, Int.reduceLT, Int.reduceLE, Int.reduceNe, forall_const, forall_eq', forall_eq, List.forall_mem_cons, List.not_mem_nil]
    refine call_i (known_s ?_)
    simp only [wf_preprocess, ↓reduceIte, Nat.reduceEqDiff, reduceCtorEq, Nat.reduceAdd, Nat.reduceMul, Nat.reduceLeDiff, Nat.reduceLT, Nat.reduceSub, Int.reduceToNat, Int.reduceNeg, Int.reduceAdd, Int.reduceSub, Int.reduceMul, Int.reduceEq, Int.reduceLT, Int.reduceLE, Int.reduceNe, forall_const, forall_eq', forall_eq, List.forall_mem_cons, List.not_mem_nil]
  by_cases c2 : (300 : Int) < (p.length : Int)
  · simp only [n8, onLst_len hL, onLst_len hLp, c1, c2, wf_preprocess, ↓reduceIte, Nat.reduceEqDiff, reduceCtorEq, Nat.reduceAdd, Nat.reduceMul, Nat.reduceLeDiff, Nat.reduceLT, Nat.reduceSub, Int.reduceToNat, Int.reduceNeg, Int.reduceAdd, Int.reduceSub, Int.reduceMul, Int.reduceEq, Int.reduceLT, Int.reduceLE, Int.reduceNe, forall_const, forall_eq', forall_eq, List.forall_mem_cons, List.not_mem_nil]
    refine call_i (known_s ?_)
    simp only [wf_preprocess, ↓reduceIte, Nat.reduceEqDiff, reduceCtorEq, Nat.reduceAdd, Nat.reduceMul, Nat.reduceLeDiff, Nat.reduceLT, Nat.reduceSub, Int.reduceToNat, Int.reduceNeg, Int.reduceAdd, Int.reduceSub, Int.reduceMul, Int.reduceEq, Int.reduceLT, Int.reduceLE, Int.reduceNe, forall_const, forall_eq', forall_eq, List.forall_mem_cons, List.not_mem_nil]
  simp only [n8, onLst_len hL, onLst_len hLp, c1, c2, wf_preprocess, ↓reduceIte, Nat.reduceEqDiff, reduceCtorEq, Nat.reduceAdd, Nat.reduceMul, Nat.reduceLeDiff, Nat.reduceLT, Nat.reduceSub, Int.reduceToNat, Int.reduceNeg, Int.reduceAdd, Int.reduceSub, Int.reduceMul, Int.reduceEq, Int.reduceLT, Int.reduceLE, Int.reduceNe, forall_const, forall_eq', forall_eq, List.forall_mem_cons, List.not_mem_nil]
  refine call_i (Even_s hn ha fun v1 m1 h1 h2 => ?_)
  simp only [wf_preprocess, ↓reduceIte, Nat.reduceEqDiff, reduceCtorEq, Nat.reduceAdd, Nat.reduceMul, Nat.reduceLeDiff, Nat.reduceLT, Nat.reduceSub, Int.reduceToNat, Int.reduceNeg, Int.reduceAdd, Int.reduceSub, Int.reduceMul, Int.reduceEq, Int.reduceLT, Int.reduceLE, Int.reduceNe, forall_const, forall_eq', forall_eq, List.forall_mem_cons, List.not_mem_nil]
  refine call_i (rEven_s hn ha fun v2 m2 h3 h4 => ?_)
  simp only [wf_preprocess, ↓reduceIte, Nat.reduceEqDiff, reduceCtorEq, Nat.reduceAdd, Nat.reduceMul, Nat.reduceLeDiff, Nat.reduceLT, Nat.reduceSub, Int.reduceToNat, Int.reduceNeg, Int.reduceAdd, Int.reduceSub, Int.reduceMul, Int.reduceEq, Int.reduceLT, Int.reduceLE, Int.reduceNe, forall_const, forall_eq', forall_eq, List.forall_mem_cons, List.not_mem_nil]
  refine call_i (rSplit_s (hw _) hu ha (by omega) fun v3 m3 h5 h6 _ => ?_)
  have hv3 := BufI.elU h5
  simp only [wf_preprocess, ↓reduceIte, Nat.reduceEqDiff, reduceCtorEq, Nat.reduceAdd, Nat.reduceMul, Nat.reduceLeDiff, Nat.reduceLT, Nat.reduceSub, Int.reduceToNat, Int.reduceNeg, Int.reduceAdd, Int.reduceSub, Int.reduceMul, Int.reduceEq, Int.reduceLT, Int.reduceLE, Int.reduceNe, forall_const, forall_eq', forall_eq, List.forall_mem_cons, List.not_mem_nil]
  refine call_i (Same_s ((h1.ext h4 (by simp)).ext h6 (by simp)) (h3.ext h6 (by simp)) (by have := res_len (a := a) (w := List.replicate n.toNat 1); omega) ?_)
  simp only [wf_preprocess, ↓reduceIte, Nat.reduceEqDiff, reduceCtorEq, Nat.reduceAdd, Nat.reduceMul, Nat.reduceLeDiff, Nat.reduceLT, Nat.reduceSub, Int.reduceToNat, Int.reduceNeg, Int.reduceAdd, Int.reduceSub, Int.reduceMul, Int.reduceEq, Int.reduceLT, Int.reduceLE, Int.reduceNe, forall_const, forall_eq', forall_eq, List.forall_mem_cons, List.not_mem_nil]
  refine call_i (Check_s (hw _) (hp _) hu ha (by omega) fun m4 h7 => ?_)
  have hr := res_len (a := a) (w := w)
  by_cases c : errOf w = 0
  · have c' : (errOf w : Int) = 0 := by omega
    simp only [c', wf_preprocess, ↓reduceIte, Nat.reduceEqDiff, reduceCtorEq, Nat.reduceAdd, Nat.reduceMul, Nat.reduceLeDiff, Nat.reduceLT, Nat.reduceSub, Int.reduceToNat, Int.reduceNeg, Int.reduceAdd, Int.reduceSub, Int.reduceMul, Int.reduceEq, Int.reduceLT, Int.reduceLE, Int.reduceNe, forall_const, forall_eq', forall_eq, List.forall_mem_cons, List.not_mem_nil]
    refine call_i (Same_s (hv3.ext h7 (by simp)) (hp _) (by omega) ?_)
    simp only [c, true_and, wf_preprocess, ↓reduceIte, Nat.reduceEqDiff, reduceCtorEq, Nat.reduceAdd, Nat.reduceMul, Nat.reduceLeDiff, Nat.reduceLT, Nat.reduceSub, Int.reduceToNat, Int.reduceNeg, Int.reduceAdd, Int.reduceSub, Int.reduceMul, Int.reduceEq, Int.reduceLT, Int.reduceLE, Int.reduceNe, forall_const, forall_eq', forall_eq, List.forall_mem_cons, List.not_mem_nil]
    refine call_i (Check_s (hw _) (hv3.ext h7 (by simp)) hu ha (by omega) fun m5 h8 => ?_)
    simp only [c, wf_preprocess, ↓reduceIte, Nat.reduceEqDiff, reduceCtorEq, Nat.reduceAdd, Nat.reduceMul, Nat.reduceLeDiff, Nat.reduceLT, Nat.reduceSub, Int.reduceToNat, Int.reduceNeg, Int.reduceAdd, Int.reduceSub, Int.reduceMul, Int.reduceEq, Int.reduceLT, Int.reduceLE, Int.reduceNe, forall_const, forall_eq', forall_eq, List.forall_mem_cons, List.not_mem_nil]
    refine call_i (known_s ?_)
    simp only [wf_preprocess, ↓reduceIte, Nat.reduceEqDiff, reduceCtorEq, Nat.reduceAdd, Nat.reduceMul, Nat.reduceLeDiff, Nat.reduceLT, Nat.reduceSub, Int.reduceToNat, Int.reduceNeg, Int.reduceAdd, Int.reduceSub, Int.reduceMul, Int.reduceEq, Int.reduceLT, Int.reduceLE, Int.reduceNe, forall_const, forall_eq', forall_eq, List.forall_mem_cons, List.not_mem_nil]
  · have c' : ¬ (errOf w : Int) = 0 := by omega
    simp only [c, c', false_and, wf_preprocess, ↓reduceIte, Nat.reduceEqDiff, reduceCtorEq, Nat.reduceAdd, Nat.reduceMul, Nat.reduceLeDiff, Nat.reduceLT, Nat.reduceSub, Int.reduceToNat, Int.reduceNeg, Int.reduceAdd, Int.reduceSub, Int.reduceMul, Int.reduceEq, Int.reduceLT, Int.reduceLE, Int.reduceNe, forall_const, forall_eq', forall_eq, List.forall_mem_cons, List.not_mem_nil]
    refine call_i (known_s ?_)
    simp only [wf_preprocess, ↓reduceIte, Nat.reduceEqDiff, reduceCtorEq, Nat.reduceAdd, Nat.reduceMul, Nat.reduceLeDiff, Nat.reduceLT, Nat.reduceSub, Int.reduceToNat, Int.reduceNeg, Int.reduceAdd, Int.reduceSub, Int.reduceMul, Int.reduceEq, Int.reduceLT, Int.reduceLE, Int.reduceNe, forall_const, forall_eq', forall_eq, List.forall_mem_cons, List.not_mem_nil]
end Go.Proofs.Ytjegieklpeipaaa.Moi.Share
