/- What functions of this program do, on plain values: a part of the proofs of this seat's laws; each theorem bears its own conditions. -/
import Derived.Test.YtlcfagocikfocaaRecF
set_option linter.unusedVariables false
set_option linter.unusedSimpArgs false
set_option maxRecDepth 1000000
namespace Go.Proofs.Ytlcfagocikfocaa.Moi.Rec
open Go Go.RowKit Go.Proofs.Ytlcfagocikfocaa.Moi Go.Proofs.Ytlcfagocikfocaa.Moi.Wire
attribute [-wf_preprocess] ite_eq_dite forIn_eq_forIn'

/-- Either there is a record, or there is none. -/
theorem getR_cases (l : List Int) : (∃ e, e ≠ 0 ∧ getR l = ([], 0, e)) ∨ ∃ u k N : Nat, l ≠ [] ∧ l[0]? ≠ some 0 ∧ scan l 0 0 = .inr (u, k) ∧ unzig u = N ∧ 2 ≤ N ∧ N ≤ 251 ∧ k + N + 4 ≤ l.length ∧ l[k + N + 3]? = some 165 ∧
    (l.drop (k + N - 1)).take 4 = sumB (crc ((l.drop k).take (N - 1))).toNat ∧ getR l = ((l.drop k).take (N - 1), ((k + N + 4 : Nat) : Int), 0) := by
  unfold getR
  split
  · exact .inl ⟨10, by omega, rfl⟩
  · rename_i h0
    cases hs : scan l 0 0 with
    | inl e =>
      refine .inl ⟨e, ?_, rfl⟩
      rcases Wire.scan_err _ _ _ hs with rfl | rfl <;> omega
    | inr p =>
      obtain ⟨u, k⟩ := p
      dsimp only
      split
      · exact .inl ⟨6, by omega, rfl⟩
      · rename_i h1
        split
        · exact .inl ⟨7, by omega, rfl⟩
        · rename_i h2
          split
          · exact .inl ⟨7, by omega, rfl⟩
          · rename_i h3
            split
            · exact .inl ⟨6, by omega, rfl⟩
            · rename_i h4
              refine .inr ⟨u, k, (unzig u).toNat, fun e => h0 (.inl e), fun e => h0 (.inr e), rfl, by omega, by omega, by omega, by omega, ?_, ?_, rfl⟩
              · exact Decidable.byContradiction fun h => h4 (.inl h)
              · exact Decidable.byContradiction fun h => h4 (.inr h)
theorem getR_ok {l : List Int} (h : (getR l).2.2 = 0) : ∃ n : Nat, (getR l).2.1 = n ∧ 0 < n ∧ n ≤ l.length ∧ (getR l).1.length ≤ 250 := by
  rcases getR_cases l with ⟨e, he, hg⟩ | ⟨u, k, N, _, _, _, _, h1, h2, h3, _, _, hg⟩
  · rw [hg] at h; exact absurd h he
  · rw [hg]
    exact ⟨k + N + 4, rfl, by omega, h3, by show ((l.drop k).take (N - 1)).length ≤ 250; rw [List.length_take]; omega⟩
theorem getR_byte {l : List Int} (h : byteL l) : byteL (getR l).1 := by
  rcases getR_cases l with ⟨e, he, hg⟩ | ⟨u, k, N, _, _, _, _, _, _, _, _, _, hg⟩
  · rw [hg]; intro c hc; simp at hc
  · rw [hg]; exact byte_take (byte_drop h)
theorem getR_nil : (getR []).2.2 = 10 := rfl

/-- All records that bytes begin with. -/
def allN : Nat → List Int → List (List Int) × Nat
  | 0, _ => ([], 0)
  | f + 1, l => if (getR l).2.2 = 0 then ((getR l).1 :: (allN f (l.drop (getR l).2.1.toNat)).1, (getR l).2.1.toNat + (allN f (l.drop (getR l).2.1.toNat)).2) else ([], 0)
def allR (l : List Int) : List (List Int) × Nat := allN (l.length + 1) l
theorem allN_fuel : ∀ (f g : Nat) (l : List Int), l.length < f → l.length < g → allN f l = allN g l
  | 0, _, _, h, _ => by omega
  | f + 1, 0, _, _, h => by omega
  | f + 1, g + 1, l, hf, hg => by
    simp only [allN]
    by_cases h : (getR l).2.2 = 0
    · obtain ⟨n, hn, h0, hl, _⟩ := getR_ok h
      have := allN_fuel f g (l.drop (getR l).2.1.toNat) (by rw [List.length_drop, hn]; omega) (by rw [List.length_drop, hn]; omega)
      rw [if_pos h, if_pos h, this]
    · rw [if_neg h, if_neg h]
theorem allR_ok {l : List Int} (h : (getR l).2.2 = 0) : allR l = ((getR l).1 :: (allR (l.drop (getR l).2.1.toNat)).1, (getR l).2.1.toNat + (allR (l.drop (getR l).2.1.toNat)).2) := by
  obtain ⟨n, hn, h0, hl, _⟩ := getR_ok h
  have := allN_fuel l.length ((l.drop (getR l).2.1.toNat).length + 1) (l.drop (getR l).2.1.toNat) (by rw [List.length_drop, hn]; omega) (by omega)
  show allN (l.length + 1) l = _
  rw [allN, if_pos h, this]
  rfl
theorem allR_no {l : List Int} (h : (getR l).2.2 ≠ 0) : allR l = ([], 0) := by
  show allN (l.length + 1) l = _
  rw [allN, if_neg h]

section
variable {S : List Nat} {y : AV} {m : Heap} {l : List Int} {Q E : AV → Heap → Prop}
theorem All_s (hv : Els S y m l) (hl : l.length ≤ 100000) (hS : ∀ i ∈ S, i ∈ keys m) (k : ∀ v vs m', BL S (allR l).1 vs v m' → Ext [] m m' → (∀ i ∈ refs v, i ∉ keys m) → (∀ x ∈ vs, ∀ i ∈ refs x, i ∉ keys m) → Q (.tup [v, iv (allR l).2]) m') : ACall Try.prog 17 [y] m Q E := by
  refine acall_fn mixed Try.func17 Try.call17 e17 r17 (Nat.le_of_ble_eq_true rfl) ?_
  simp only [n17, wf_preprocess, ↓reduceIte, Nat.reduceEqDiff, reduceCtorEq, Nat.reduceAdd, Nat.reduceMul, Nat.reduceLeDiff, Nat.reduceLT, Nat.reduceSub, Int.reduceToNat, Int.reduceNeg, Int.reduceAdd, Int.reduceSub, Int.reduceMul, Int.reduceEq, Int.reduceLT, Int.reduceLE, Int.reduceNe, forall_const, forall_eq', forall_eq, List.forall_mem_cons, List.not_mem_nil]
  refine loop_i (fun kk ρ m' => ∃ (at_ : Nat) (acc : List (List Int)) (vs : List AV) (v : AV), kk = l.length - at_ ∧ at_ ≤ l.length ∧ acc.length ≤ at_ ∧ ρ 0 = y ∧ ρ 4 = v ∧ ρ 5 = iv at_ ∧ BL S acc vs v m' ∧ Ext [] m m' ∧ (∀ i ∈ refs v, i ∉ keys m) ∧ (∀ x ∈ vs, ∀ i ∈ refs x, i ∉ keys m) ∧
    acc ++ (allR (l.drop at_)).1 = (allR l).1 ∧ at_ + (allR (l.drop at_)).2 = (allR l).2) l.length ⟨0, [], [], .lst [] .nil, rfl, by omega, by simp, ?_⟩ ?_
  · simp only [wf_preprocess, ↓reduceIte, Nat.reduceEqDiff, reduceCtorEq, Nat.reduceAdd, Nat.reduceMul, Nat.reduceLeDiff, Nat.reduceLT, Nat.reduceSub, Int.reduceToNat, Int.reduceNeg, Int.reduceAdd, Int.reduceSub, Int.reduceMul, Int.reduceEq, Int.reduceLT, Int.reduceLE, Int.reduceNe, forall_const, forall_eq', forall_eq, List.forall_mem_cons, List.not_mem_nil]
    exact ⟨.nil, .rfl', by simp [refs]⟩
  rintro kk ρ m' ⟨at_, acc, vs, v, rfl, hat, hal, g0, g4, g5, hb, he, hf, hfx, ha1, ha2⟩
  have hv' := hv.ext he (by simp)
  have hdl : (l.drop at_).length = l.length - at_ := List.length_drop ..
  simp only [g0, g4, g5, wf_preprocess, ↓reduceIte, Nat.reduceEqDiff, reduceCtorEq, Nat.reduceAdd, Nat.reduceMul, Nat.reduceLeDiff, Nat.reduceLT, Nat.reduceSub, Int.reduceToNat, Int.reduceNeg, Int.reduceAdd, Int.reduceSub, Int.reduceMul, Int.reduceEq, Int.reduceLT, Int.reduceLE, Int.reduceNe, forall_const, forall_eq', forall_eq, List.forall_mem_cons, List.not_mem_nil]
  refine slice_i (L := (at_ : Int)) (H := l.length) hv' (fun K k => ?_) (fun K k => k) (by omega) (by omega) (by omega) fun y1 hy1 => ?_
  · rw [bndOr_some]; simp only [g5, wf_preprocess, ↓reduceIte, Nat.reduceEqDiff, reduceCtorEq, Nat.reduceAdd, Nat.reduceMul, Nat.reduceLeDiff, Nat.reduceLT, Nat.reduceSub, Int.reduceToNat, Int.reduceNeg, Int.reduceAdd, Int.reduceSub, Int.reduceMul, Int.reduceEq, Int.reduceLT, Int.reduceLE, Int.reduceNe, forall_const, forall_eq', forall_eq, List.forall_mem_cons, List.not_mem_nil]; exact k
  rw [show (at_ : Int).toNat = at_ by omega, show (l.length : Int).toNat - at_ = l.length - at_ by omega, List.take_of_length_le (by omega)] at hy1
  simp only [wf_preprocess, ↓reduceIte, Nat.reduceEqDiff, reduceCtorEq, Nat.reduceAdd, Nat.reduceMul, Nat.reduceLeDiff, Nat.reduceLT, Nat.reduceSub, Int.reduceToNat, Int.reduceNeg, Int.reduceAdd, Int.reduceSub, Int.reduceMul, Int.reduceEq, Int.reduceLT, Int.reduceLE, Int.reduceNe, forall_const, forall_eq', forall_eq, List.forall_mem_cons, List.not_mem_nil]
  refine call_i (Get_s hy1 (by omega) fun v1 m1 hb1 e1 f1 => ?_)
  have f1' : ∀ i ∈ refs v1, i ∉ keys m := fun i hi hk => f1 i hi (by
    cases hg : get i m with
    | none => exact absurd hk (not_keys hg)
    | some o => exact mem_keys (he _ _ hg (by simp)))
  by_cases h0 : (getR (l.drop at_)).2.2 = 0
  case neg =>
    rw [allR_no h0, List.append_nil] at ha1
    rw [allR_no h0, Nat.add_zero] at ha2
    simp only [g0, g4, g5, eq_false h0, wf_preprocess, ↓reduceIte, Nat.reduceEqDiff, reduceCtorEq, Nat.reduceAdd, Nat.reduceMul, Nat.reduceLeDiff, Nat.reduceLT, Nat.reduceSub, Int.reduceToNat, Int.reduceNeg, Int.reduceAdd, Int.reduceSub, Int.reduceMul, Int.reduceEq, Int.reduceLT, Int.reduceLE, Int.reduceNe, forall_const, forall_eq', forall_eq, List.forall_mem_cons, List.not_mem_nil]
    have := k v vs m1 (by rw [← ha1]; exact hb.ext e1 (by simp) (by simp)) (he.trans e1) hf hfx
    rw [← ha2] at this
    exact this
  obtain ⟨n, hn, n0, n1, n2⟩ := getR_ok h0
  rw [allR_ok h0, hn, show (n : Int).toNat = n by omega, List.drop_drop] at ha1 ha2
  have w1 : IntKind.i64.wrap ((at_ : Int) + (n : Int)) = ((at_ + n : Nat) : Int) := wrap64 (by omega) (by omega)
  have hbb := getR_byte hy1.2
  have hx : Els S v1 m1 (getR (l.drop at_)).1 := hb1.els hbb fun i hi hs => f1' i hi (hS i hs)
  have hb' := hb.ext e1 (by simp) (by simp)
  simp only [g0, g4, g5, eq_true h0, hn, wf_preprocess, ↓reduceIte, Nat.reduceEqDiff, reduceCtorEq, Nat.reduceAdd, Nat.reduceMul, Nat.reduceLeDiff, Nat.reduceLT, Nat.reduceSub, Int.reduceToNat, Int.reduceNeg, Int.reduceAdd, Int.reduceSub, Int.reduceMul, Int.reduceEq, Int.reduceLT, Int.reduceLE, Int.reduceNe, forall_const, forall_eq', forall_eq, List.forall_mem_cons, List.not_mem_nil]
  have hc1 := els_one hx
  have hfo := hx.form
  simp only [hc1.1, wf_preprocess, ↓reduceIte, Nat.reduceEqDiff, reduceCtorEq, Nat.reduceAdd, Nat.reduceMul, Nat.reduceLeDiff, Nat.reduceLT, Nat.reduceSub, Int.reduceToNat, Int.reduceNeg, Int.reduceAdd, Int.reduceSub, Int.reduceMul, Int.reduceEq, Int.reduceLT, Int.reduceLE, Int.reduceNe, forall_const, forall_eq', forall_eq, List.forall_mem_cons, List.not_mem_nil]
  refine ⟨by rcases hfo with ⟨es0, o0, rfl⟩ | ⟨d1, d2, d3, d4, rfl⟩ <;> rfl, ?_⟩
  refine app_bufG (k := none) (css := vrows vs) (c2 := vrows [v1]) hb'.buf hb'.ok (by rw [vrows_els]; rfl) (by intro c hc; obtain ⟨x, hx', rfl⟩ := List.mem_map.1 hc; simp only [List.mem_singleton] at hx'; subst hx'; exact ⟨rfl, by simp [allOne, hc1.2]⟩) (by rw [vrows_len, hb.len]; simp [vrows]; omega) (by rw [vrows_len, hb.len, maxLen_e]; simp [vrows]; omega) fun v2 m2 hb2 e2 f2 => ?_
  rw [← vrows_app] at hb2
  simp only [g0, g4, g5, w1, wf_preprocess, ↓reduceIte, Nat.reduceEqDiff, reduceCtorEq, Nat.reduceAdd, Nat.reduceMul, Nat.reduceLeDiff, Nat.reduceLT, Nat.reduceSub, Int.reduceToNat, Int.reduceNeg, Int.reduceAdd, Int.reduceSub, Int.reduceMul, Int.reduceEq, Int.reduceLT, Int.reduceLE, Int.reduceNe, forall_const, forall_eq', forall_eq, List.forall_mem_cons, List.not_mem_nil]
  obtain ⟨e12, f2'⟩ := fresh_step (he.trans e1) hf e2 f2
  have hp := hb'.push hx (fun i hi hk => f1 i hi (BufG.inK hb.buf i hk)) hb2 e2 f2
  refine ⟨l.length - (at_ + n), by omega, at_ + n, acc ++ [(getR (l.drop at_)).1], vs ++ [v1], v2, rfl, by omega, by simp; omega, rfl, rfl, hp, e12, f2', ?_, by rw [List.append_assoc]; exact ha1, by omega⟩
  intro x hx'
  rcases List.mem_append.1 hx' with hx' | hx'
  · exact hfx x hx'
  · simp only [List.mem_singleton] at hx'
    subst hx'
    exact f1'
theorem rAll_s (hv : Els S y m l) (hl : l.length ≤ 100000) (hS : ∀ i ∈ S, i ∈ keys m) (k : ∀ v vs m', BL S (allR l).1 vs v m' → Ext [] m m' → (∀ i ∈ refs v, i ∉ keys m) → (∀ x ∈ vs, ∀ i ∈ refs x, i ∉ keys m) → Q (.tup [v, iv (allR l).2]) m') : ACall Try.prog 18 [y] m Q E := by
  refine acall_fn mixed Try.func18 Try.call18 e18 r18 (Nat.le_of_ble_eq_true rfl) ?_
  simp only [n18, wf_preprocess, ↓reduceIte, Nat.reduceEqDiff, reduceCtorEq, Nat.reduceAdd, Nat.reduceMul, Nat.reduceLeDiff, Nat.reduceLT, Nat.reduceSub, Int.reduceToNat, Int.reduceNeg, Int.reduceAdd, Int.reduceSub, Int.reduceMul, Int.reduceEq, Int.reduceLT, Int.reduceLE, Int.reduceNe, forall_const, forall_eq', forall_eq, List.forall_mem_cons, List.not_mem_nil]
  refine loop_i (fun kk ρ m' => ∃ (at_ : Nat) (acc : List (List Int)) (vs : List AV) (v : AV), kk = l.length - at_ ∧ at_ ≤ l.length ∧ acc.length ≤ at_ ∧ ρ 0 = y ∧ ρ 4 = v ∧ ρ 5 = iv at_ ∧ BL S acc vs v m' ∧ Ext [] m m' ∧ (∀ i ∈ refs v, i ∉ keys m) ∧ (∀ x ∈ vs, ∀ i ∈ refs x, i ∉ keys m) ∧
    acc ++ (allR (l.drop at_)).1 = (allR l).1 ∧ at_ + (allR (l.drop at_)).2 = (allR l).2) l.length ⟨0, [], [], .lst [] .nil, rfl, by omega, by simp, ?_⟩ ?_
  · simp only [wf_preprocess, ↓reduceIte, Nat.reduceEqDiff, reduceCtorEq, Nat.reduceAdd, Nat.reduceMul, Nat.reduceLeDiff, Nat.reduceLT, Nat.reduceSub, Int.reduceToNat, Int.reduceNeg, Int.reduceAdd, Int.reduceSub, Int.reduceMul, Int.reduceEq, Int.reduceLT, Int.reduceLE, Int.reduceNe, forall_const, forall_eq', forall_eq, List.forall_mem_cons, List.not_mem_nil]
    exact ⟨.nil, .rfl', by simp [refs]⟩
  rintro kk ρ m' ⟨at_, acc, vs, v, rfl, hat, hal, g0, g4, g5, hb, he, hf, hfx, ha1, ha2⟩
  have hv' := hv.ext he (by simp)
  have hdl : (l.drop at_).length = l.length - at_ := List.length_drop ..
  by_cases hlt : (at_ : Int) < (l.length : Int)
  case neg =>
    have hie : at_ = l.length := by omega
    have h0 : (getR (l.drop at_)).2.2 ≠ 0 := by rw [hie, List.drop_length, getR_nil]; omega
    rw [allR_no h0, List.append_nil] at ha1
    rw [allR_no h0, Nat.add_zero] at ha2
    simp only [g0, g4, g5, hlt, onLst_len hv'.lenIs, wf_preprocess, ↓reduceIte, Nat.reduceEqDiff, reduceCtorEq, Nat.reduceAdd, Nat.reduceMul, Nat.reduceLeDiff, Nat.reduceLT, Nat.reduceSub, Int.reduceToNat, Int.reduceNeg, Int.reduceAdd, Int.reduceSub, Int.reduceMul, Int.reduceEq, Int.reduceLT, Int.reduceLE, Int.reduceNe, forall_const, forall_eq', forall_eq, List.forall_mem_cons, List.not_mem_nil]
    have := k v vs m' (by rw [← ha1]; exact hb) he hf hfx
    rw [← ha2] at this
    exact this
  simp only [g0, g4, g5, hlt, onLst_len hv'.lenIs, wf_preprocess, ↓reduceIte, Nat.reduceEqDiff, reduceCtorEq, Nat.reduceAdd, Nat.reduceMul, Nat.reduceLeDiff, Nat.reduceLT, Nat.reduceSub, Int.reduceToNat, Int.reduceNeg, Int.reduceAdd, Int.reduceSub, Int.reduceMul, Int.reduceEq, Int.reduceLT, Int.reduceLE, Int.reduceNe, forall_const, forall_eq', forall_eq, List.forall_mem_cons, List.not_mem_nil]
  refine slice_i (L := (at_ : Int)) (H := l.length) hv' (fun K k => ?_) (fun K k => k) (by omega) (by omega) (by omega) fun y1 hy1 => ?_
  · rw [bndOr_some]; simp only [g5, wf_preprocess, ↓reduceIte, Nat.reduceEqDiff, reduceCtorEq, Nat.reduceAdd, Nat.reduceMul, Nat.reduceLeDiff, Nat.reduceLT, Nat.reduceSub, Int.reduceToNat, Int.reduceNeg, Int.reduceAdd, Int.reduceSub, Int.reduceMul, Int.reduceEq, Int.reduceLT, Int.reduceLE, Int.reduceNe, forall_const, forall_eq', forall_eq, List.forall_mem_cons, List.not_mem_nil]; exact k
  rw [show (at_ : Int).toNat = at_ by omega, show (l.length : Int).toNat - at_ = l.length - at_ by omega, List.take_of_length_le (by omega)] at hy1
  simp only [wf_preprocess, ↓reduceIte, Nat.reduceEqDiff, reduceCtorEq, Nat.reduceAdd, Nat.reduceMul, Nat.reduceLeDiff, Nat.reduceLT, Nat.reduceSub, Int.reduceToNat, Int.reduceNeg, Int.reduceAdd, Int.reduceSub, Int.reduceMul, Int.reduceEq, Int.reduceLT, Int.reduceLE, Int.reduceNe, forall_const, forall_eq', forall_eq, List.forall_mem_cons, List.not_mem_nil]
  refine call_i (rGet_s hy1 (by omega) fun v1 m1 hb1 e1 f1 => ?_)
  have f1' : ∀ i ∈ refs v1, i ∉ keys m := fun i hi hk => f1 i hi (by
    cases hg : get i m with
    | none => exact absurd hk (not_keys hg)
    | some o => exact mem_keys (he _ _ hg (by simp)))
  by_cases h0 : (getR (l.drop at_)).2.2 = 0
  case neg =>
    rw [allR_no h0, List.append_nil] at ha1
    rw [allR_no h0, Nat.add_zero] at ha2
    simp only [g0, g4, g5, eq_false h0, wf_preprocess, ↓reduceIte, Nat.reduceEqDiff, reduceCtorEq, Nat.reduceAdd, Nat.reduceMul, Nat.reduceLeDiff, Nat.reduceLT, Nat.reduceSub, Int.reduceToNat, Int.reduceNeg, Int.reduceAdd, Int.reduceSub, Int.reduceMul, Int.reduceEq, Int.reduceLT, Int.reduceLE, Int.reduceNe, forall_const, forall_eq', forall_eq, List.forall_mem_cons, List.not_mem_nil]
    have := k v vs m1 (by rw [← ha1]; exact hb.ext e1 (by simp) (by simp)) (he.trans e1) hf hfx
    rw [← ha2] at this
    exact this
  obtain ⟨n, hn, n0, n1, n2⟩ := getR_ok h0
  rw [allR_ok h0, hn, show (n : Int).toNat = n by omega, List.drop_drop] at ha1 ha2
  have w1 : IntKind.i64.wrap ((at_ : Int) + (n : Int)) = ((at_ + n : Nat) : Int) := wrap64 (by omega) (by omega)
  have hbb := getR_byte hy1.2
  have hx : Els S v1 m1 (getR (l.drop at_)).1 := hb1.els hbb fun i hi hs => f1' i hi (hS i hs)
  have hb' := hb.ext e1 (by simp) (by simp)
  simp only [g0, g4, g5, eq_true h0, hn, wf_preprocess, ↓reduceIte, Nat.reduceEqDiff, reduceCtorEq, Nat.reduceAdd, Nat.reduceMul, Nat.reduceLeDiff, Nat.reduceLT, Nat.reduceSub, Int.reduceToNat, Int.reduceNeg, Int.reduceAdd, Int.reduceSub, Int.reduceMul, Int.reduceEq, Int.reduceLT, Int.reduceLE, Int.reduceNe, forall_const, forall_eq', forall_eq, List.forall_mem_cons, List.not_mem_nil]
  have hc1 := els_one hx
  have hfo := hx.form
  simp only [hc1.1, wf_preprocess, ↓reduceIte, Nat.reduceEqDiff, reduceCtorEq, Nat.reduceAdd, Nat.reduceMul, Nat.reduceLeDiff, Nat.reduceLT, Nat.reduceSub, Int.reduceToNat, Int.reduceNeg, Int.reduceAdd, Int.reduceSub, Int.reduceMul, Int.reduceEq, Int.reduceLT, Int.reduceLE, Int.reduceNe, forall_const, forall_eq', forall_eq, List.forall_mem_cons, List.not_mem_nil]
  refine ⟨by rcases hfo with ⟨es0, o0, rfl⟩ | ⟨d1, d2, d3, d4, rfl⟩ <;> rfl, ?_⟩
  refine app_bufG (k := none) (css := vrows vs) (c2 := vrows [v1]) hb'.buf hb'.ok (by rw [vrows_els]; rfl) (by intro c hc; obtain ⟨x, hx', rfl⟩ := List.mem_map.1 hc; simp only [List.mem_singleton] at hx'; subst hx'; exact ⟨rfl, by simp [allOne, hc1.2]⟩) (by rw [vrows_len, hb.len]; simp [vrows]; omega) (by rw [vrows_len, hb.len, maxLen_e]; simp [vrows]; omega) fun v2 m2 hb2 e2 f2 => ?_
  rw [← vrows_app] at hb2
  simp only [g0, g4, g5, w1, wf_preprocess, ↓reduceIte, Nat.reduceEqDiff, reduceCtorEq, Nat.reduceAdd, Nat.reduceMul, Nat.reduceLeDiff, Nat.reduceLT, Nat.reduceSub, Int.reduceToNat, Int.reduceNeg, Int.reduceAdd, Int.reduceSub, Int.reduceMul, Int.reduceEq, Int.reduceLT, Int.reduceLE, Int.reduceNe, forall_const, forall_eq', forall_eq, List.forall_mem_cons, List.not_mem_nil]
  obtain ⟨e12, f2'⟩ := fresh_step (he.trans e1) hf e2 f2
  have hp := hb'.push hx (fun i hi hk => f1 i hi (BufG.inK hb.buf i hk)) hb2 e2 f2
  refine ⟨l.length - (at_ + n), by omega, at_ + n, acc ++ [(getR (l.drop at_)).1], vs ++ [v1], v2, rfl, by omega, by simp; omega, rfl, rfl, hp, e12, f2', ?_, by rw [List.append_assoc]; exact ha1, by omega⟩
  intro x hx'
  rcases List.mem_append.1 hx' with hx' | hx'
  · exact hfx x hx'
  · simp only [List.mem_singleton] at hx'
    subst hx'
    exact f1'
end
end Go.Proofs.Ytlcfagocikfocaa.Moi.Rec
