/- What functions of this program do, on plain values: a part of the proofs of this seat's laws; each theorem bears its own conditions. -/
import Derived.Test.YtceahampebofbaaTreeJ
set_option linter.unusedVariables false
set_option linter.unusedSimpArgs false
set_option maxRecDepth 1000000
namespace Go.Proofs.Ytceahampebofbaa.Moi.Tree
open Go Go.RowKit Go.Proofs.Ytceahampebofbaa.Moi
attribute [-wf_preprocess] ite_eq_dite forIn_eq_forIn'

def kidsA (L : List Nd) (i : Int) : List Nat := if (at? L i).isSome = true then kids L i.toNat else []
def leafA (L : List Nd) (i : Int) : Bool := (at? L i).isSome && isLeaf L i.toNat
theorem span_same {L : List Nd} {i a b a' b' : Nat} (h : SpanAt L i a b) (h' : SpanAt L i a' b') : a = a' ∧ b = b' := by
  have key : ∀ n, n < (leaves L).length → ((a ≤ n ∧ n < b) ↔ (a' ≤ n ∧ n < b')) := fun n hn => by
    have hx := List.getElem?_eq_getElem hn
    exact (h.iff n _ hx).trans (h'.iff n _ hx).symm
  have l1 := h.lt; have l2 := h.le; have l3 := h'.lt; have l4 := h'.le
  have k1 := key a (by omega)
  have k2 := key (b - 1) (by omega)
  have k3 := key a' (by omega)
  have k4 := key (b' - 1) (by omega)
  omega
theorem leaves_nodup {L : List Nd} (ok : Ok L) : (leaves L).Nodup := (order_nodup ok).filter _
theorem leaf_mem {L : List Nd} (ok : Ok L) {i : Nat} : i ∈ leaves L ↔ i < L.length ∧ isLeaf L i = true := by
  unfold leaves lf
  rw [List.mem_filter]
  exact ⟨fun h => ⟨order_lt ok h.1, h.2⟩, fun h => ⟨order_mem ok h.1, h.2⟩⟩
theorem get_same {l : List Nat} (hn : l.Nodup) {a b x : Nat} (h1 : l[a]? = some x) (h2 : l[b]? = some x) : a = b := by
  have hp := List.pairwise_iff_getElem.1 hn
  obtain ⟨ha, e1⟩ := List.getElem?_eq_some_iff.1 h1
  obtain ⟨hb, e2⟩ := List.getElem?_eq_some_iff.1 h2
  rcases Nat.lt_trichotomy a b with e | e | e
  · exact absurd (e1.trans e2.symm) (hp a b ha hb e)
  · exact e
  · exact absurd (e2.trans e1.symm) (hp b a hb ha e)
section
variable {L : List Nd} {m m' m0 : Heap} {T N cN M K S : Nat} {r ks : List AV} {vo vl y : AV} {Sp : Sp2} {Q E : AV → Heap → Prop} {i : Int}
theorem lens (ok : Ok L) : (order L).length ≤ 32 ∧ (leaves L).length ≤ 32 := by
  have h1 := pigeon (order_nodup ok) fun x hx => order_lt ok hx
  have h2 := List.length_filter_le (isLeaf L) (order L)
  have := ok.le
  unfold leaves lf
  omega
theorem Order_s (ok : Ok L) (h : Tr L m T) (k : ∀ v m', Own' m m' v (il (order L)) → Q v m') : ACall Try.prog 22 [.ptr T 0] m Q E := by
  obtain ⟨N, cN, M, K, S, r, ks, vo, vl, Sp, h⟩ := h
  refine acall_fn mixed Try.func22 Try.call22 e22 r22 (Nat.le_of_ble_eq_true rfl) ?_
  simp only [n22, h.gT, wf_preprocess, ↓reduceIte, Nat.reduceEqDiff, reduceCtorEq, Nat.reduceAdd, Nat.reduceMul, Nat.reduceLeDiff, Nat.reduceLT, Nat.reduceSub, Int.reduceToNat, Int.reduceNeg, Int.reduceAdd, Int.reduceSub, Int.reduceMul, Int.reduceEq, Int.reduceLT, Int.reduceLE, Int.reduceNe, forall_const, forall_eq', forall_eq, List.forall_mem_cons, List.not_mem_nil]
  refine call_i (CloneI_s (BufI.ei h.bo) (by rw [il_len]; have := lens ok; omega) fun v m' h1 h2 h3 => ?_)
  simp only [wf_preprocess, ↓reduceIte, Nat.reduceEqDiff, reduceCtorEq, Nat.reduceAdd, Nat.reduceMul, Nat.reduceLeDiff, Nat.reduceLT, Nat.reduceSub, Int.reduceToNat, Int.reduceNeg, Int.reduceAdd, Int.reduceSub, Int.reduceMul, Int.reduceEq, Int.reduceLT, Int.reduceLE, Int.reduceNe, forall_const, forall_eq', forall_eq, List.forall_mem_cons, List.not_mem_nil]
  exact k v m' ⟨h2, h1, h3⟩
theorem Leaves_s (ok : Ok L) (h : Tr L m T) (k : ∀ v m', Own' m m' v (il (leaves L)) → Q v m') : ACall Try.prog 17 [.ptr T 0] m Q E := by
  obtain ⟨N, cN, M, K, S, r, ks, vo, vl, Sp, h⟩ := h
  refine acall_fn mixed Try.func17 Try.call17 e17 r17 (Nat.le_of_ble_eq_true rfl) ?_
  simp only [n17, h.gT, wf_preprocess, ↓reduceIte, Nat.reduceEqDiff, reduceCtorEq, Nat.reduceAdd, Nat.reduceMul, Nat.reduceLeDiff, Nat.reduceLT, Nat.reduceSub, Int.reduceToNat, Int.reduceNeg, Int.reduceAdd, Int.reduceSub, Int.reduceMul, Int.reduceEq, Int.reduceLT, Int.reduceLE, Int.reduceNe, forall_const, forall_eq', forall_eq, List.forall_mem_cons, List.not_mem_nil]
  refine call_i (CloneI_s (BufI.ei h.bl) (by rw [il_len]; have := lens ok; omega) fun v m' h1 h2 h3 => ?_)
  simp only [wf_preprocess, ↓reduceIte, Nat.reduceEqDiff, reduceCtorEq, Nat.reduceAdd, Nat.reduceMul, Nat.reduceLeDiff, Nat.reduceLT, Nat.reduceSub, Int.reduceToNat, Int.reduceNeg, Int.reduceAdd, Int.reduceSub, Int.reduceMul, Int.reduceEq, Int.reduceLT, Int.reduceLE, Int.reduceNe, forall_const, forall_eq', forall_eq, List.forall_mem_cons, List.not_mem_nil]
  exact k v m' ⟨h2, h1, h3⟩
theorem kids_len {j : Nat} : (kids L j).length ≤ L.length := by
  have := List.length_filter_le (fun k : Nat => decide (upA L k = (j : Int))) (List.range L.length)
  rwa [List.length_range] at this
theorem Kids_s (ok : Ok L) (h : Tr L m T) (k : ∀ v m', Own' m m' v (il (kidsA L i)) → Q v m') : ACall Try.prog 25 [.ptr T 0, iv i] m Q E := by
  have hN := h.nds
  obtain ⟨N, cN, M, K, S, r, ks, vo, vl, Sp, h⟩ := h
  unfold kidsA at k
  refine acall_fn mixed Try.func25 Try.call25 e25 r25 (Nat.le_of_ble_eq_true rfl) ?_
  simp only [n25, wf_preprocess, ↓reduceIte, Nat.reduceEqDiff, reduceCtorEq, Nat.reduceAdd, Nat.reduceMul, Nat.reduceLeDiff, Nat.reduceLT, Nat.reduceSub, Int.reduceToNat, Int.reduceNeg, Int.reduceAdd, Int.reduceSub, Int.reduceMul, Int.reduceEq, Int.reduceLT, Int.reduceLE, Int.reduceNe, forall_const, forall_eq', forall_eq, List.forall_mem_cons, List.not_mem_nil]
  refine call_i (is_s hN ?_)
  cases ha : at? L i with
  | none =>
    rw [ha] at k
    have := k _ m Own'.nil
    simp only [Option.isSome_none, wf_preprocess, ↓reduceIte, Nat.reduceEqDiff, reduceCtorEq, Nat.reduceAdd, Nat.reduceMul, Nat.reduceLeDiff, Nat.reduceLT, Nat.reduceSub, Int.reduceToNat, Int.reduceNeg, Int.reduceAdd, Int.reduceSub, Int.reduceMul, Int.reduceEq, Int.reduceLT, Int.reduceLE, Int.reduceNe, forall_const, forall_eq', forall_eq, List.forall_mem_cons, List.not_mem_nil]
    exact this
  | some p =>
    rw [ha] at k
    simp only [Option.isSome_some, if_true] at k
    obtain ⟨g0, g1, g2⟩ := at_some ha
    obtain ⟨v, hv⟩ : ∃ v, ks[i.toNat]? = some v := ⟨_, List.getElem?_eq_getElem (by rw [h.len]; omega)⟩
    have hL := ok.le
    simp only [Option.isSome_some, h.gT, h.gK, g0, g1, ks_drop hv, wf_preprocess, ↓reduceIte, Nat.reduceEqDiff, reduceCtorEq, Nat.reduceAdd, Nat.reduceMul, Nat.reduceLeDiff, Nat.reduceLT, Nat.reduceSub, Int.reduceToNat, Int.reduceNeg, Int.reduceAdd, Int.reduceSub, Int.reduceMul, Int.reduceEq, Int.reduceLT, Int.reduceLE, Int.reduceNe, forall_const, forall_eq', forall_eq, List.forall_mem_cons, List.not_mem_nil]
    refine call_i (CloneI_s (BufI.ei (h.kb _ v hv)) (by rw [il_len]; have := kids_len (L := L) (j := i.toNat); omega) fun v' m' h1 h2 h3 => ?_)
    simp only [wf_preprocess, ↓reduceIte, Nat.reduceEqDiff, reduceCtorEq, Nat.reduceAdd, Nat.reduceMul, Nat.reduceLeDiff, Nat.reduceLT, Nat.reduceSub, Int.reduceToNat, Int.reduceNeg, Int.reduceAdd, Int.reduceSub, Int.reduceMul, Int.reduceEq, Int.reduceLT, Int.reduceLE, Int.reduceNe, forall_const, forall_eq', forall_eq, List.forall_mem_cons, List.not_mem_nil]
    exact k v' m' ⟨h2, h1, h3⟩
theorem Leaf_s (h : Tr L m T) (k : Q (bo (leafA L i)) m) : ACall Try.prog 30 [.ptr T 0, iv i] m Q E := by
  have hN := h.nds
  obtain ⟨N, cN, M, K, S, r, ks, vo, vl, Sp, h⟩ := h
  unfold leafA at k
  refine acall_fn mixed Try.func30 Try.call30 e30 r30 (Nat.le_of_ble_eq_true rfl) ?_
  simp only [n30, wf_preprocess, ↓reduceIte, Nat.reduceEqDiff, reduceCtorEq, Nat.reduceAdd, Nat.reduceMul, Nat.reduceLeDiff, Nat.reduceLT, Nat.reduceSub, Int.reduceToNat, Int.reduceNeg, Int.reduceAdd, Int.reduceSub, Int.reduceMul, Int.reduceEq, Int.reduceLT, Int.reduceLE, Int.reduceNe, forall_const, forall_eq', forall_eq, List.forall_mem_cons, List.not_mem_nil]
  refine call_i (is_s hN ?_)
  cases ha : at? L i with
  | none =>
    rw [ha] at k
    simp only [Option.isSome_none, wf_preprocess, ↓reduceIte, Nat.reduceEqDiff, reduceCtorEq, Nat.reduceAdd, Nat.reduceMul, Nat.reduceLeDiff, Nat.reduceLT, Nat.reduceSub, Int.reduceToNat, Int.reduceNeg, Int.reduceAdd, Int.reduceSub, Int.reduceMul, Int.reduceEq, Int.reduceLT, Int.reduceLE, Int.reduceNe, forall_const, forall_eq', forall_eq, List.forall_mem_cons, List.not_mem_nil]
    exact k
  | some p =>
    rw [ha] at k
    obtain ⟨g0, g1, g2⟩ := at_some ha
    obtain ⟨v, hv⟩ : ∃ v, ks[i.toNat]? = some v := ⟨_, List.getElem?_eq_getElem (by rw [h.len]; omega)⟩
    have hkl := (BufI.ei (h.kb _ v hv)).lenIs
    rw [il_len] at hkl
    unfold isLeaf at k
    by_cases c : kids L i.toNat = []
    · have c' : ((kids L i.toNat).length : Int) = 0 := by rw [c]; rfl
      rw [decide_eq_true c] at k
      simp only [Option.isSome_some, h.gT, h.gK, g0, g1, ks_drop hv, onLst_len hkl, c', wf_preprocess, ↓reduceIte, Nat.reduceEqDiff, reduceCtorEq, Nat.reduceAdd, Nat.reduceMul, Nat.reduceLeDiff, Nat.reduceLT, Nat.reduceSub, Int.reduceToNat, Int.reduceNeg, Int.reduceAdd, Int.reduceSub, Int.reduceMul, Int.reduceEq, Int.reduceLT, Int.reduceLE, Int.reduceNe, forall_const, forall_eq', forall_eq, List.forall_mem_cons, List.not_mem_nil]
      exact k
    · have c' : ¬ ((kids L i.toNat).length : Int) = 0 := by
        have : (kids L i.toNat).length ≠ 0 := fun e => c (List.length_eq_zero_iff.1 e)
        omega
      rw [decide_eq_false c] at k
      simp only [Option.isSome_some, h.gT, h.gK, g0, g1, ks_drop hv, onLst_len hkl, c', wf_preprocess, ↓reduceIte, Nat.reduceEqDiff, reduceCtorEq, Nat.reduceAdd, Nat.reduceMul, Nat.reduceLeDiff, Nat.reduceLT, Nat.reduceSub, Int.reduceToNat, Int.reduceNeg, Int.reduceAdd, Int.reduceSub, Int.reduceMul, Int.reduceEq, Int.reduceLT, Int.reduceLE, Int.reduceNe, forall_const, forall_eq', forall_eq, List.forall_mem_cons, List.not_mem_nil]
      exact k
theorem TrD.span {j : Nat} (ok : Ok L) (h : TrD L m T N cN M K S r ks vo vl Sp) (hj : j < L.length) : ∃ a b : Nat, Sp[j]? = some ((a : Int), (b : Int)) ∧ SpanAt L j a b ∧ (isLeaf L j = true → (leaves L)[a]? = some j) := by
  obtain ⟨A, C, e, hs⟩ := h.sp j (order_mem ok hj)
  refine ⟨_, _, hs, span_of ok hj e, fun hl => ?_⟩
  unfold leaves
  rw [e, lf_app, lf_app, leaf_tr ok hl, List.getElem?_append_right (by omega), Nat.sub_self]
  unfold lf
  simp [hl]
theorem Span_s (ok : Ok L) (h : Tr L m T) (k : ∀ a b : Nat, (at? L i = none ∧ a = 0 ∧ b = 0) ∨ (∃ j : Nat, i = j ∧ j < L.length ∧ SpanAt L j a b) → Q (.tup [iv a, iv b]) m) : ACall Try.prog 18 [.ptr T 0, iv i] m Q E := by
  have hN := h.nds
  obtain ⟨N, cN, M, K, S, r, ks, vo, vl, Sp, h⟩ := h
  refine acall_fn mixed Try.func18 Try.call18 e18 r18 (Nat.le_of_ble_eq_true rfl) ?_
  simp only [n18, wf_preprocess, ↓reduceIte, Nat.reduceEqDiff, reduceCtorEq, Nat.reduceAdd, Nat.reduceMul, Nat.reduceLeDiff, Nat.reduceLT, Nat.reduceSub, Int.reduceToNat, Int.reduceNeg, Int.reduceAdd, Int.reduceSub, Int.reduceMul, Int.reduceEq, Int.reduceLT, Int.reduceLE, Int.reduceNe, forall_const, forall_eq', forall_eq, List.forall_mem_cons, List.not_mem_nil]
  refine call_i (is_s hN ?_)
  cases ha : at? L i with
  | none =>
    have := k 0 0 (.inl ⟨ha, rfl, rfl⟩)
    simp only [Option.isSome_none, wf_preprocess, ↓reduceIte, Nat.reduceEqDiff, reduceCtorEq, Nat.reduceAdd, Nat.reduceMul, Nat.reduceLeDiff, Nat.reduceLT, Nat.reduceSub, Int.reduceToNat, Int.reduceNeg, Int.reduceAdd, Int.reduceSub, Int.reduceMul, Int.reduceEq, Int.reduceLT, Int.reduceLE, Int.reduceNe, forall_const, forall_eq', forall_eq, List.forall_mem_cons, List.not_mem_nil]
    exact this
  | some p =>
    obtain ⟨g0, g1, g2⟩ := at_some ha
    obtain ⟨j, rfl⟩ := Int.eq_ofNat_of_zero_le g0
    obtain ⟨a, b, e, hs, _⟩ := h.span ok (show j < L.length by omega)
    have := k a b (.inr ⟨j, rfl, by omega, hs⟩)
    simp only [Option.isSome_some, h.gT, h.gS, g1, sc_drop e, sc_drop1 e, Int.natCast_nonneg, wf_preprocess, ↓reduceIte, Nat.reduceEqDiff, reduceCtorEq, Nat.reduceAdd, Nat.reduceMul, Nat.reduceLeDiff, Nat.reduceLT, Nat.reduceSub, Int.reduceToNat, Int.reduceNeg, Int.reduceAdd, Int.reduceSub, Int.reduceMul, Int.reduceEq, Int.reduceLT, Int.reduceLE, Int.reduceNe, forall_const, forall_eq', forall_eq, List.forall_mem_cons, List.not_mem_nil]
    exact this
theorem Rank_s (ok : Ok L) (h : Tr L m T) (k : ∀ x : Int, (leafA L i = false ∧ x = -1) ∨ (∃ j a : Nat, i = j ∧ x = a ∧ (leaves L)[a]? = some j) → Q (iv x) m) : ACall Try.prog 32 [.ptr T 0, iv i] m Q E := by
  have hT := h
  obtain ⟨N, cN, M, K, S, r, ks, vo, vl, Sp, h⟩ := h
  refine acall_fn mixed Try.func32 Try.call32 e32 r32 (Nat.le_of_ble_eq_true rfl) ?_
  simp only [n32, wf_preprocess, ↓reduceIte, Nat.reduceEqDiff, reduceCtorEq, Nat.reduceAdd, Nat.reduceMul, Nat.reduceLeDiff, Nat.reduceLT, Nat.reduceSub, Int.reduceToNat, Int.reduceNeg, Int.reduceAdd, Int.reduceSub, Int.reduceMul, Int.reduceEq, Int.reduceLT, Int.reduceLE, Int.reduceNe, forall_const, forall_eq', forall_eq, List.forall_mem_cons, List.not_mem_nil]
  refine call_i (Leaf_s hT ?_)
  cases hl : leafA L i
  · have := k (-1) (.inl ⟨hl, rfl⟩)
    simp only [wf_preprocess, ↓reduceIte, Nat.reduceEqDiff, reduceCtorEq, Nat.reduceAdd, Nat.reduceMul, Nat.reduceLeDiff, Nat.reduceLT, Nat.reduceSub, Int.reduceToNat, Int.reduceNeg, Int.reduceAdd, Int.reduceSub, Int.reduceMul, Int.reduceEq, Int.reduceLT, Int.reduceLE, Int.reduceNe, forall_const, forall_eq', forall_eq, List.forall_mem_cons, List.not_mem_nil]
    exact this
  · have hl' := hl
    unfold leafA at hl'
    simp only [Bool.and_eq_true] at hl'
    obtain ⟨p, ha⟩ := Option.isSome_iff_exists.1 hl'.1
    obtain ⟨g0, g1, g2⟩ := at_some ha
    obtain ⟨j, rfl⟩ := Int.eq_ofNat_of_zero_le g0
    obtain ⟨a, b, e, hs, hlf⟩ := h.span ok (show j < L.length by omega)
    have := k a (.inr ⟨j, a, rfl, rfl, hlf hl'.2⟩)
    simp only [h.gT, h.gS, g1, sc_drop e, Int.natCast_nonneg, wf_preprocess, ↓reduceIte, Nat.reduceEqDiff, reduceCtorEq, Nat.reduceAdd, Nat.reduceMul, Nat.reduceLeDiff, Nat.reduceLT, Nat.reduceSub, Int.reduceToNat, Int.reduceNeg, Int.reduceAdd, Int.reduceSub, Int.reduceMul, Int.reduceEq, Int.reduceLT, Int.reduceLE, Int.reduceNe, forall_const, forall_eq', forall_eq, List.forall_mem_cons, List.not_mem_nil]
    exact this
end
end Go.Proofs.Ytceahampebofbaa.Moi.Tree
