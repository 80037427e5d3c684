/- What functions of this program do, on plain values: a part of the proofs of this seat's laws; each theorem bears its own conditions. -/
import Derived.Test.YtjegieklpeipaaaShareR
set_option linter.unusedVariables false
set_option linter.unusedSimpArgs false
set_option maxRecDepth 1000000
namespace Go.Proofs.Ytjegieklpeipaaa.Moi.Share
open Go Go.RowKit Go.Proofs.Ytjegieklpeipaaa.Moi Go.Proofs.Ytjegieklpeipaaa.Moi.Num
attribute [-wf_preprocess] ite_eq_dite forIn_eq_forIn'

section
variable {E Q : AV → Heap → Prop} {m : Heap} {a : Nat} {y z : AV} {w zl : List Nat} {o : Own}
theorem k1_res : resP 10 [1, 1, 1] = [4, 3, 3] := by decide +kernel
theorem k1_err : errOf [1, 1, 1] = 0 := by decide +kernel
theorem k2_res : resP 5 [2, 3, 2] = [2, 2, 1] := by decide +kernel
theorem k2_err : errOf [2, 3, 2] = 0 := by decide +kernel
theorem Split_c (hw : isW w) (ha : a < 18446744073709551616) (hl : w.length ≤ 17592186044416) (ho : o = .nil → w = []) {P : List Nat} {e : Nat} (h1 : resP a w = P) (h2 : errOf w = e)
    (k : ∀ v m', El v m' P → Ext [] m m' → (∀ i ∈ refs v, i ∉ keys m) → Q (.tup [v, iv e]) m') : ACall Try.prog 10 [un a, .lst (uk w) o] m Q E := by
  refine Split_s (El.lst ho) hw ha hl fun v m' h3 h4 h5 => ?_
  rw [h1] at h3
  rw [h2]
  exact k v m' (BufI.elU h3) h4 h5
theorem known_s (k : Q (bo true) m) : ACall Try.prog 9 [] m Q E := by
  refine pureR ?_ k
  refine acall_fn mixed Try.func9 Try.call9 e9 r9 (Nat.le_of_ble_eq_true rfl) ?_
  simp only [n9, wf_preprocess, ↓reduceIte, Nat.reduceEqDiff, reduceCtorEq, Nat.reduceAdd, Nat.reduceMul, Nat.reduceLeDiff, Nat.reduceLT, Nat.reduceSub, Int.reduceToNat, Int.reduceNeg, Int.reduceAdd, Int.reduceSub, Int.reduceMul, Int.reduceEq, Int.reduceLT, Int.reduceLE, Int.reduceNe, forall_const, forall_eq', forall_eq, List.forall_mem_cons, List.not_mem_nil]
  refine Split_c (w := [1, 1, 1]) (a := 10) (by unfold isW; decide) (by decide) (by decide) (fun e => by cases e) k1_res k1_err fun v m1 h1 h2 h3 => ?_
  simp only [wf_preprocess, ↓reduceIte, Nat.reduceEqDiff, reduceCtorEq, Nat.reduceAdd, Nat.reduceMul, Nat.reduceLeDiff, Nat.reduceLT, Nat.reduceSub, Int.reduceToNat, Int.reduceNeg, Int.reduceAdd, Int.reduceSub, Int.reduceMul, Int.reduceEq, Int.reduceLT, Int.reduceLE, Int.reduceNe, forall_const, forall_eq', forall_eq, List.forall_mem_cons, List.not_mem_nil]
  refine Split_c (w := [2, 3, 2]) (a := 5) (by unfold isW; decide) (by decide) (by decide) (fun e => by cases e) k2_res k2_err fun v2 m2 h4 h5 h6 => ?_
  have h1 := h1.ext h5 (by simp)
  simp only [wf_preprocess, ↓reduceIte, Nat.reduceEqDiff, reduceCtorEq, Nat.reduceAdd, Nat.reduceMul, Nat.reduceLeDiff, Nat.reduceLT, Nat.reduceSub, Int.reduceToNat, Int.reduceNeg, Int.reduceAdd, Int.reduceSub, Int.reduceMul, Int.reduceEq, Int.reduceLT, Int.reduceLE, Int.reduceNe, forall_const, forall_eq', forall_eq, List.forall_mem_cons, List.not_mem_nil]
  refine call_i (Same_s (b := [4, 3, 3]) h1 (El.lst (l := [4, 3, 3]) (o := .full) fun e => by cases e) (by decide) ?_)
  simp only [wf_preprocess, ↓reduceIte, Nat.reduceEqDiff, reduceCtorEq, Nat.reduceAdd, Nat.reduceMul, Nat.reduceLeDiff, Nat.reduceLT, Nat.reduceSub, Int.reduceToNat, Int.reduceNeg, Int.reduceAdd, Int.reduceSub, Int.reduceMul, Int.reduceEq, Int.reduceLT, Int.reduceLE, Int.reduceNe, forall_const, forall_eq', forall_eq, List.forall_mem_cons, List.not_mem_nil]
  refine call_i (Same_s (b := [2, 2, 1]) h4 (El.lst (l := [2, 2, 1]) (o := .full) fun e => by cases e) (by decide) ?_)
  simp only [wf_preprocess, ↓reduceIte, Nat.reduceEqDiff, reduceCtorEq, Nat.reduceAdd, Nat.reduceMul, Nat.reduceLeDiff, Nat.reduceLT, Nat.reduceSub, Int.reduceToNat, Int.reduceNeg, Int.reduceAdd, Int.reduceSub, Int.reduceMul, Int.reduceEq, Int.reduceLT, Int.reduceLE, Int.reduceNe, forall_const, forall_eq', forall_eq, List.forall_mem_cons, List.not_mem_nil]

theorem rep_isW {n : Nat} : isW (List.replicate n 1) := fun x hx => by rw [(List.mem_replicate.1 hx).2]; decide
theorem rep_step {i n : Nat} (h : i < n) : (List.replicate i 1 ++ List.replicate (n - i) 0).set i 1 = List.replicate (i + 1) 1 ++ List.replicate (n - (i + 1)) 0 := by
  rw [show n - i = (n - (i + 1)) + 1 by omega, List.replicate_succ, List.set_append_right _ _ (by simp), List.length_replicate, Nat.sub_self, List.set_cons_zero, List.replicate_succ' (n := i)]
  simp
theorem Even_s {n : Int} (hn : isI n) (ha : a < 18446744073709551616)
    (k : ∀ v m', El v m' (resP a (List.replicate n.toNat 1)) → Ext [] m m' → Q (.tup [v, iv (errOf (List.replicate n.toNat 1))]) m') : ACall Try.prog 14 [un a, iv n] m Q E := by
  refine acall_fn mixed Try.func14 Try.call14 e14 r14 (Nat.le_of_ble_eq_true rfl) ?_
  by_cases c0 : n < 1
  · have e : List.replicate n.toNat 1 = [] := by rw [show n.toNat = 0 by omega]; rfl
    have := k (.lst [] .nil) m (by rw [e]; exact .inl ⟨.nil, rfl, fun _ => rfl⟩) .rfl'
    rw [e] at this
    simp only [n14, c0, wf_preprocess, ↓reduceIte, Nat.reduceEqDiff, reduceCtorEq, Nat.reduceAdd, Nat.reduceMul, Nat.reduceLeDiff, Nat.reduceLT, Nat.reduceSub, Int.reduceToNat, Int.reduceNeg, Int.reduceAdd, Int.reduceSub, Int.reduceMul, Int.reduceEq, Int.reduceLT, Int.reduceLE, Int.reduceNe, forall_const, forall_eq', forall_eq, List.forall_mem_cons, List.not_mem_nil]
    exact this
  obtain ⟨n, rfl⟩ := Int.eq_ofNat_of_zero_le (show 0 ≤ n by omega)
  rw [Int.toNat_natCast] at k
  by_cases c1 : (1024 : Int) < n
  · have e := err_5 (w := List.replicate n 1) (by rw [← List.length_pos_iff]; simp; omega) (by simp; omega)
    have := k (.lst [] .nil) m (by unfold resP; rw [e]; exact .inl ⟨.nil, rfl, fun _ => rfl⟩) .rfl'
    rw [e] at this
    simp only [n14, c0, c1, wf_preprocess, ↓reduceIte, Nat.reduceEqDiff, reduceCtorEq, Nat.reduceAdd, Nat.reduceMul, Nat.reduceLeDiff, Nat.reduceLT, Nat.reduceSub, Int.reduceToNat, Int.reduceNeg, Int.reduceAdd, Int.reduceSub, Int.reduceMul, Int.reduceEq, Int.reduceLT, Int.reduceLE, Int.reduceNe, forall_const, forall_eq', forall_eq, List.forall_mem_cons, List.not_mem_nil]
    exact this
  have z0 : (n : Int) * ((8 : Nat) : Int) ≤ 140737488355328 := by omega
  have z2 : (n : Int) ≤ (maxLen : Int) := by rw [maxLen_e]; omega
  simp only [n14, c0, c1, z0, z2, Int.natCast_nonneg, Int.le_refl, wf_preprocess, ↓reduceIte, Nat.reduceEqDiff, reduceCtorEq, Nat.reduceAdd, Nat.reduceMul, Nat.reduceLeDiff, Nat.reduceLT, Nat.reduceSub, Int.reduceToNat, Int.reduceNeg, Int.reduceAdd, Int.reduceSub, Int.reduceMul, Int.reduceEq, Int.reduceLT, Int.reduceLE, Int.reduceNe, forall_const, forall_eq', forall_eq, List.forall_mem_cons, List.not_mem_nil]
  refine fresh_i fun p hp => ?_
  simp only [wf_preprocess, ↓reduceIte, Nat.reduceEqDiff, reduceCtorEq, Nat.reduceAdd, Nat.reduceMul, Nat.reduceLeDiff, Nat.reduceLT, Nat.reduceSub, Int.reduceToNat, Int.reduceNeg, Int.reduceAdd, Int.reduceSub, Int.reduceMul, Int.reduceEq, Int.reduceLT, Int.reduceLE, Int.reduceNe, forall_const, forall_eq', forall_eq, List.forall_mem_cons, List.not_mem_nil]
  refine loop_i (fun kk ρ m' => ∃ (i : Nat), kk = n - i ∧ i ≤ n ∧ ρ 0 = un a ∧ ρ 6 = .mref p 0 n n ∧ ρ 17 = iv n ∧ ρ 18 = iv i ∧ m' = (p, .cells (uk (List.replicate i 1 ++ List.replicate (n - i) 0))) :: m) n ⟨0, rfl, by omega, ?_⟩ ?_
  · simp only [Int.toNat_natCast, wf_preprocess, ↓reduceIte, Nat.reduceEqDiff, reduceCtorEq, Nat.reduceAdd, Nat.reduceMul, Nat.reduceLeDiff, Nat.reduceLT, Nat.reduceSub, Int.reduceToNat, Int.reduceNeg, Int.reduceAdd, Int.reduceSub, Int.reduceMul, Int.reduceEq, Int.reduceLT, Int.reduceLE, Int.reduceNe, forall_const, forall_eq', forall_eq, List.forall_mem_cons, List.not_mem_nil]
    rw [← rep_uk n]
  rintro kk ρ m' ⟨i, rfl, hi, h0, h6, h17, h18, rfl⟩
  by_cases hlt : (i : Int) < (n : Int)
  · have w1 : IntKind.i64.wrap ((i : Int) + 1) = ((i + 1 : Nat) : Int) := wrap64 (by omega) (by omega)
    have hl : (List.replicate i 1 ++ List.replicate (n - i) 0).length = n := by simp; omega
    have f1 : (i + 1 ≤ (List.replicate i 1 ++ List.replicate (n - i) 0).length) = True := by rw [hl]; apply eq_true; omega
    have f2 : splice i [un 1] (uk (List.replicate i 1 ++ List.replicate (n - i) 0)) = uk (List.replicate (i + 1) 1 ++ List.replicate (n - (i + 1)) 0) := by rw [splice_one _ _ _ (by rw [uk_len, hl]; omega), uk_set, rep_step (by omega)]
    have f2 : splice i [.sc (.int .u64 1)] (uk (List.replicate i 1 ++ List.replicate (n - i) 0)) = uk (List.replicate (i + 1) 1 ++ List.replicate (n - (i + 1)) 0) := f2
    generalize List.replicate i 1 ++ List.replicate (n - i) 0 = L at *
    simp only [h0, h6, h17, h18, hlt, f1, f2, w1, uk_len, ul_len, Int.natCast_nonneg, wf_preprocess, ↓reduceIte, Nat.reduceEqDiff, reduceCtorEq, Nat.reduceAdd, Nat.reduceMul, Nat.reduceLeDiff, Nat.reduceLT, Nat.reduceSub, Int.reduceToNat, Int.reduceNeg, Int.reduceAdd, Int.reduceSub, Int.reduceMul, Int.reduceEq, Int.reduceLT, Int.reduceLE, Int.reduceNe, forall_const, forall_eq', forall_eq, List.forall_mem_cons, List.not_mem_nil]
    exact ⟨n - (i + 1), by omega, i + 1, rfl, by omega, rfl, rfl⟩
  · obtain rfl : i = n := by omega
    have e : List.replicate i 1 ++ List.replicate (i - i) 0 = List.replicate i 1 := by simp
    rw [e]
    simp only [h0, h6, h17, h18, hlt, wf_preprocess, ↓reduceIte, Nat.reduceEqDiff, reduceCtorEq, Nat.reduceAdd, Nat.reduceMul, Nat.reduceLeDiff, Nat.reduceLT, Nat.reduceSub, Int.reduceToNat, Int.reduceNeg, Int.reduceAdd, Int.reduceSub, Int.reduceMul, Int.reduceEq, Int.reduceLT, Int.reduceLE, Int.reduceNe, forall_const, forall_eq', forall_eq, List.forall_mem_cons, List.not_mem_nil]
    refine call_i (Split_s (w := List.replicate i 1) (y := .mref p 0 i i) ?_ rep_isW ha (by simp; omega) fun v m' h1 h2 h3 => ?_)
    · exact .inr ⟨p, 0, i, _, [], by simp, get_new, by simp⟩
    · simp only [wf_preprocess, ↓reduceIte, Nat.reduceEqDiff, reduceCtorEq, Nat.reduceAdd, Nat.reduceMul, Nat.reduceLeDiff, Nat.reduceLT, Nat.reduceSub, Int.reduceToNat, Int.reduceNeg, Int.reduceAdd, Int.reduceSub, Int.reduceMul, Int.reduceEq, Int.reduceLT, Int.reduceLE, Int.reduceNe, forall_const, forall_eq', forall_eq, List.forall_mem_cons, List.not_mem_nil]
      exact k v m' (BufI.elU h1) ((Ext.new hp).fresh h2 (by simp))
theorem rEven_s {n : Int} (hn : isI n) (ha : a < 18446744073709551616)
    (k : ∀ v m', El v m' (resP a (List.replicate n.toNat 1)) → Ext [] m m' → Q (.tup [v, iv (errOf (List.replicate n.toNat 1))]) m') : ACall Try.prog 15 [un a, iv n] m Q E := by
  refine acall_fn mixed Try.func15 Try.call15 e15 r15 (Nat.le_of_ble_eq_true rfl) ?_
  by_cases c0 : n < 1
  · have e : List.replicate n.toNat 1 = [] := by rw [show n.toNat = 0 by omega]; rfl
    have := k (.lst [] .nil) m (by rw [e]; exact .inl ⟨.nil, rfl, fun _ => rfl⟩) .rfl'
    rw [e] at this
    simp only [n15, c0, wf_preprocess, ↓reduceIte, Nat.reduceEqDiff, reduceCtorEq, Nat.reduceAdd, Nat.reduceMul, Nat.reduceLeDiff, Nat.reduceLT, Nat.reduceSub, Int.reduceToNat, Int.reduceNeg, Int.reduceAdd, Int.reduceSub, Int.reduceMul, Int.reduceEq, Int.reduceLT, Int.reduceLE, Int.reduceNe, forall_const, forall_eq', forall_eq, List.forall_mem_cons, List.not_mem_nil]
    exact this
  obtain ⟨n, rfl⟩ := Int.eq_ofNat_of_zero_le (show 0 ≤ n by omega)
  rw [Int.toNat_natCast] at k
  by_cases c1 : (1024 : Int) < n
  · have e := err_5 (w := List.replicate n 1) (by rw [← List.length_pos_iff]; simp; omega) (by simp; omega)
    have := k (.lst [] .nil) m (by unfold resP; rw [e]; exact .inl ⟨.nil, rfl, fun _ => rfl⟩) .rfl'
    rw [e] at this
    simp only [n15, c0, c1, wf_preprocess, ↓reduceIte, Nat.reduceEqDiff, reduceCtorEq, Nat.reduceAdd, Nat.reduceMul, Nat.reduceLeDiff, Nat.reduceLT, Nat.reduceSub, Int.reduceToNat, Int.reduceNeg, Int.reduceAdd, Int.reduceSub, Int.reduceMul, Int.reduceEq, Int.reduceLT, Int.reduceLE, Int.reduceNe, forall_const, forall_eq', forall_eq, List.forall_mem_cons, List.not_mem_nil]
    exact this
  simp only [n15, c0, c1, wf_preprocess, ↓reduceIte, Nat.reduceEqDiff, reduceCtorEq, Nat.reduceAdd, Nat.reduceMul, Nat.reduceLeDiff, Nat.reduceLT, Nat.reduceSub, Int.reduceToNat, Int.reduceNeg, Int.reduceAdd, Int.reduceSub, Int.reduceMul, Int.reduceEq, Int.reduceLT, Int.reduceLE, Int.reduceNe, forall_const, forall_eq', forall_eq, List.forall_mem_cons, List.not_mem_nil]
  refine loop_i (fun kk ρ m' => ∃ (i : Nat) (v : AV), kk = n - i ∧ i ≤ n ∧ ρ 0 = un a ∧ ρ 1 = iv n ∧ ρ 6 = v ∧ ρ 7 = iv i ∧ BufI .u64 (ul (List.replicate i 1)) v m' ∧ Ext [] m m' ∧ ∀ j ∈ refs v, j ∉ keys m) n ⟨0, .lst [] .nil, rfl, by omega, ?_⟩ ?_
  · simp only [wf_preprocess, ↓reduceIte, Nat.reduceEqDiff, reduceCtorEq, Nat.reduceAdd, Nat.reduceMul, Nat.reduceLeDiff, Nat.reduceLT, Nat.reduceSub, Int.reduceToNat, Int.reduceNeg, Int.reduceAdd, Int.reduceSub, Int.reduceMul, Int.reduceEq, Int.reduceLT, Int.reduceLE, Int.reduceNe, forall_const, forall_eq', forall_eq, List.forall_mem_cons, List.not_mem_nil]
    exact ⟨BufI.nil, .rfl', by simp [refs]⟩
  rintro kk ρ m' ⟨i, v, rfl, hi, h0, h1, h6, h7, hb, hE, hv⟩
  by_cases hlt : (i : Int) < (n : Int)
  · have w1 : IntKind.i64.wrap ((i : Int) + 1) = ((i + 1 : Nat) : Int) := wrap64 (by omega) (by omega)
    have hl : (ul (List.replicate i 1)).length = i := by rw [ul_len, List.length_replicate]
    simp only [h0, h1, h6, h7, hlt, wf_preprocess, ↓reduceIte, Nat.reduceEqDiff, reduceCtorEq, Nat.reduceAdd, Nat.reduceMul, Nat.reduceLeDiff, Nat.reduceLT, Nat.reduceSub, Int.reduceToNat, Int.reduceNeg, Int.reduceAdd, Int.reduceSub, Int.reduceMul, Int.reduceEq, Int.reduceLT, Int.reduceLE, Int.reduceNe, forall_const, forall_eq', forall_eq, List.forall_mem_cons, List.not_mem_nil]
    refine app_bufI (l2 := ul [1]) hb rfl (by rw [hl]; simp only [ul_len, List.length_singleton]; omega) (by rw [maxLen_e, hl]; simp only [ul_len, List.length_singleton]; omega) fun v' m2 hb1 hx1 hn1 => ?_
    rw [← ul_app, ← List.replicate_succ'] at hb1
    simp only [h0, h1, h6, h7, w1, wf_preprocess, ↓reduceIte, Nat.reduceEqDiff, reduceCtorEq, Nat.reduceAdd, Nat.reduceMul, Nat.reduceLeDiff, Nat.reduceLT, Nat.reduceSub, Int.reduceToNat, Int.reduceNeg, Int.reduceAdd, Int.reduceSub, Int.reduceMul, Int.reduceEq, Int.reduceLT, Int.reduceLE, Int.reduceNe, forall_const, forall_eq', forall_eq, List.forall_mem_cons, List.not_mem_nil]
    refine ⟨n - (i + 1), by omega, i + 1, v', rfl, by omega, rfl, rfl, hb1, hE.fresh hx1 fun j hj => .inr (hv j hj), ?_⟩
    rcases hn1 with rfl | hn1
    · exact hv
    · exact fun j hj hk => hn1 j hj (by
        cases hg : get j m with
        | none => exact absurd hk (not_keys hg)
        | some ob => exact mem_keys (hE j ob hg (by simp)))
  · obtain rfl : i = n := by omega
    simp only [h0, h1, h6, h7, hlt, wf_preprocess, ↓reduceIte, Nat.reduceEqDiff, reduceCtorEq, Nat.reduceAdd, Nat.reduceMul, Nat.reduceLeDiff, Nat.reduceLT, Nat.reduceSub, Int.reduceToNat, Int.reduceNeg, Int.reduceAdd, Int.reduceSub, Int.reduceMul, Int.reduceEq, Int.reduceLT, Int.reduceLE, Int.reduceNe, forall_const, forall_eq', forall_eq, List.forall_mem_cons, List.not_mem_nil]
    refine call_i (rSplit_s (w := List.replicate i 1) (y := v) (BufI.elU hb) rep_isW ha (by simp; omega) fun v' m2 e1 e2 e3 => ?_)
    simp only [wf_preprocess, ↓reduceIte, Nat.reduceEqDiff, reduceCtorEq, Nat.reduceAdd, Nat.reduceMul, Nat.reduceLeDiff, Nat.reduceLT, Nat.reduceSub, Int.reduceToNat, Int.reduceNeg, Int.reduceAdd, Int.reduceSub, Int.reduceMul, Int.reduceEq, Int.reduceLT, Int.reduceLE, Int.reduceNe, forall_const, forall_eq', forall_eq, List.forall_mem_cons, List.not_mem_nil]
    exact k v' m2 (BufI.elU e1) (hE.trans e2)
theorem Check_s (hw : El y m w) (hz : El z m zl) (hu : isW w) (ha : a < 18446744073709551616) (hl : w.length ≤ 17592186044416)
    (k : ∀ m', Ext [] m m' → Q (bo (decide (errOf w = 0 ∧ resP a w = zl))) m') : ACall Try.prog 16 [un a, y, z] m Q E := by
  refine acall_fn mixed Try.func16 Try.call16 e16 r16 (Nat.le_of_ble_eq_true rfl) ?_
  simp only [n16, wf_preprocess, ↓reduceIte, Nat.reduceEqDiff, reduceCtorEq, Nat.reduceAdd, Nat.reduceMul, Nat.reduceLeDiff, Nat.reduceLT, Nat.reduceSub, Int.reduceToNat, Int.reduceNeg, Int.reduceAdd, Int.reduceSub, Int.reduceMul, Int.reduceEq, Int.reduceLT, Int.reduceLE, Int.reduceNe, forall_const, forall_eq', forall_eq, List.forall_mem_cons, List.not_mem_nil]
  refine call_i (Split_s hw hu ha hl fun v m1 h1 h2 h3 => ?_)
  have hl2 : (resP a w).length ≤ 1000000 := by
    unfold resP
    split
    · rename_i h
      have := (err_ok h).2.1
      rw [parts_len]; omega
    · simp
  by_cases c : errOf w = 0
  · have c' : (errOf w : Int) = 0 := by omega
    simp only [c', wf_preprocess, ↓reduceIte, Nat.reduceEqDiff, reduceCtorEq, Nat.reduceAdd, Nat.reduceMul, Nat.reduceLeDiff, Nat.reduceLT, Nat.reduceSub, Int.reduceToNat, Int.reduceNeg, Int.reduceAdd, Int.reduceSub, Int.reduceMul, Int.reduceEq, Int.reduceLT, Int.reduceLE, Int.reduceNe, forall_const, forall_eq', forall_eq, List.forall_mem_cons, List.not_mem_nil]
    refine call_i (Equal_s (BufI.elU h1) (hz.ext h2 (by simp)) hl2 ?_)
    simp only [wf_preprocess, ↓reduceIte, Nat.reduceEqDiff, reduceCtorEq, Nat.reduceAdd, Nat.reduceMul, Nat.reduceLeDiff, Nat.reduceLT, Nat.reduceSub, Int.reduceToNat, Int.reduceNeg, Int.reduceAdd, Int.reduceSub, Int.reduceMul, Int.reduceEq, Int.reduceLT, Int.reduceLE, Int.reduceNe, forall_const, forall_eq', forall_eq, List.forall_mem_cons, List.not_mem_nil]
    have := k m1 h2
    simp only [c, true_and] at this
    exact this
  · have c' : ¬ (errOf w : Int) = 0 := by omega
    have := k m1 h2
    simp only [c, false_and, decide_false] at this
    simp only [c', wf_preprocess, ↓reduceIte, Nat.reduceEqDiff, reduceCtorEq, Nat.reduceAdd, Nat.reduceMul, Nat.reduceLeDiff, Nat.reduceLT, Nat.reduceSub, Int.reduceToNat, Int.reduceNeg, Int.reduceAdd, Int.reduceSub, Int.reduceMul, Int.reduceEq, Int.reduceLT, Int.reduceLE, Int.reduceNe, forall_const, forall_eq', forall_eq, List.forall_mem_cons, List.not_mem_nil]
    exact this
end
end Go.Proofs.Ytjegieklpeipaaa.Moi.Share
