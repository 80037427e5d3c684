/- What functions of this program do, on plain values: a part of the proofs of this seat's laws; each theorem bears its own conditions. -/
import Derived.Test.YtceahampebofbaaTreeN
set_option linter.unusedVariables false
set_option linter.unusedSimpArgs false
set_option maxRecDepth 1000000
namespace Go.Proofs.Ytceahampebofbaa.Moi.Tree
open Go Go.RowKit Go.Proofs.Ytceahampebofbaa.Moi
attribute [-wf_preprocess] ite_eq_dite forIn_eq_forIn'

theorem fnd_own {L : List Nd} (h : AllOk L) {i : Nat} {p : Nd} (hp : L[i]? = some p) : fndI L p.1 = (i : Int) := by
  have hi := (List.getElem?_eq_some_iff.1 hp).1
  have hc := h 1 (by decide) i hi
  rw [chk1, nameA_at hp] at hc
  have hn : fnd (L.take i) p.1 = none := by
    cases hf : fnd (L.take i) p.1 with
    | none => rfl
    | some j => rw [hf] at hc; cases hc
  have := fnd_first (s := p.1) hp rfl fun j q hj hq => fnd_none hn q (List.mem_of_getElem? (i := j) (by rw [List.getElem?_take, if_pos hj]; exact hq))
  unfold fndI
  rw [this]
theorem rank_same {L : List Nd} (ok : Ok L) {i x z : Int} (h1 : (leafA L i = false ∧ x = -1) ∨ ∃ j a : Nat, i = j ∧ x = a ∧ (leaves L)[a]? = some j) (h2 : (z = -1 ∧ i ∉ il (leaves L)) ∨ ∃ a : Nat, z = a ∧ (il (leaves L))[a]? = some i) : x = z := by
  have conv : ∀ a : Nat, (il (leaves L))[a]? = some i → ∃ j : Nat, i = j ∧ (leaves L)[a]? = some j := fun a ha => by
    unfold il at ha
    rw [List.getElem?_map, Option.map_eq_some_iff] at ha
    obtain ⟨j, hj, e⟩ := ha
    exact ⟨j, e.symm, hj⟩
  rcases h1 with ⟨h1, rfl⟩ | ⟨j, a, rfl, rfl, ha⟩ <;> rcases h2 with ⟨rfl, h2⟩ | ⟨b, rfl, hb⟩
  · rfl
  · obtain ⟨j, rfl, hj⟩ := conv b hb
    obtain ⟨q1, q2⟩ := (leaf_mem ok).1 (List.mem_of_getElem? hj)
    unfold leafA at h1
    rw [at_nat, List.getElem?_eq_getElem q1, Int.toNat_natCast, q2] at h1
    cases h1
  · exact absurd (List.mem_of_getElem? (il_get ha)) h2
  · obtain ⟨j', e, hj⟩ := conv b hb
    have e : j = j' := by omega
    subst e
    rw [get_same (leaves_nodup ok) ha hj]
theorem span_nest {L : List Nd} (ok : Ok L) {i k a b c d : Nat} (h : SpanAt L i a b) (h' : SpanAt L k c d) : (c ≤ a ∧ b ≤ d) ∨ (a ≤ c ∧ d ≤ b) ∨ b ≤ c ∨ d ≤ a := by
  have l1 := h.lt; have l2 := h.le; have l3 := h'.lt; have l4 := h'.le
  by_cases c1 : b ≤ c
  · exact .inr (.inr (.inl c1))
  by_cases c2 : d ≤ a
  · exact .inr (.inr (.inr c2))
  -- a leaf that is in both
  obtain ⟨n, n1, n2, n3, n4⟩ : ∃ n, a ≤ n ∧ n < b ∧ c ≤ n ∧ n < d := ⟨max a c, by omega, by omega, by omega, by omega⟩
  have hx := List.getElem?_eq_getElem (show n < (leaves L).length by omega)
  have hi := (h.iff n _ hx).1 ⟨n1, n2⟩
  have hk := (h'.iff n _ hx).1 ⟨n3, n4⟩
  -- one is above the other
  have key : ∀ {u v : Nat}, (u ∈ ab L (v : Int)) → ∀ {a b c d : Nat}, SpanAt L v a b → SpanAt L u c d → c ≤ a ∧ b ≤ d := fun {u v} huv {a b c d} s t => by
    have l1 := s.lt; have l2 := s.le; have l3 := t.lt; have l4 := t.le
    have sub : ∀ n, a ≤ n → n < b → c ≤ n ∧ n < d := fun n e1 e2 => by
      have hx := List.getElem?_eq_getElem (show n < (leaves L).length by omega)
      exact (t.iff n _ hx).2 (ab_trans ok ((s.iff n _ hx).1 ⟨e1, e2⟩) huv)
    have s1 := sub a (Nat.le_refl _) l1
    have s2 := sub (b - 1) (by omega) (by omega)
    omega
  obtain ⟨q, hq⟩ := List.getElem?_of_mem hi
  obtain ⟨r, hr⟩ := List.getElem?_of_mem hk
  rcases Nat.le_total q r with e | e
  · left
    refine key ?_ h h'
    rw [← ab_drop ok hq]
    refine List.mem_of_getElem? (i := r - q) ?_
    rw [List.getElem?_drop, show q + (r - q) = r by omega]
    exact hr
  · right; left
    refine key ?_ h' h
    rw [← ab_drop ok hr]
    refine List.mem_of_getElem? (i := q - r) ?_
    rw [List.getElem?_drop, show r + (q - r) = q by omega]
    exact hq
theorem inp_len {y : AV} {L : List Nd} (hI : Inp y L) : LenIs y L.length := by
  obtain ⟨o, rfl, _⟩ := hI
  exact .inl ⟨_, _, rfl, by simp⟩
theorem chk_pos {L : List Nd} {s i : Nat} (h : BadAt L s i) : ¬ ((chk L s i : Nat) : Int) = 0 := by
  have := h.bad
  omega
theorem size_not {L : List Nd} (h : L.length = 0 ∨ 32 < L.length) (h1 : L.length ≠ 0) (h2 : L.length ≤ 32) : False := by omega

theorem law_makes (xs : List AV) (h : ArgShape Try.prog (fun _ => True) Try.f3.params.toList xs) : ACall Try.prog 3 xs [] (fun x _ => x = bo true) (fun _ _ => False) := by
  rw [Try.params3] at h
  obtain ⟨L, y, ys, rfl, hI, hw, h⟩ := arg_nodes h
  obtain ⟨s, zs, h2, hs1, hs2, h3⟩ := arg_str Try.underlying9 h
  subst h2
  obtain rfl : zs = [] := ArgShape.nil' h3
  clear h h3
  have hL := inp_len hI
  refine acall_fn mixed Try.func3 Try.call3 e3 r3 (Nat.le_of_ble_eq_true rfl) ?_
  by_cases c1 : (60 : Int) < (L.length : Int)
  · simp only [n3, onLst_len hL, c1, wf_preprocess, ↓reduceIte, Nat.reduceEqDiff, reduceCtorEq, Nat.reduceAdd, Nat.reduceMul, Nat.reduceLeDiff, Nat.reduceLT, Nat.reduceSub, Int.reduceToNat, Int.reduceNeg, Int.reduceAdd, Int.reduceSub, Int.reduceMul, Int.reduceEq, Int.reduceLT, Int.reduceLE, Int.reduceNe, forall_const, forall_eq', forall_eq, List.forall_mem_cons, List.not_mem_nil]
    refine call_i (known_s ?_)
    simp only [wf_preprocess, ↓reduceIte, Nat.reduceEqDiff, reduceCtorEq, Nat.reduceAdd, Nat.reduceMul, Nat.reduceLeDiff, Nat.reduceLT, Nat.reduceSub, Int.reduceToNat, Int.reduceNeg, Int.reduceAdd, Int.reduceSub, Int.reduceMul, Int.reduceEq, Int.reduceLT, Int.reduceLE, Int.reduceNe, forall_const, forall_eq', forall_eq, List.forall_mem_cons, List.not_mem_nil]
  simp only [n3, onLst_len hL, c1, wf_preprocess, ↓reduceIte, Nat.reduceEqDiff, reduceCtorEq, Nat.reduceAdd, Nat.reduceMul, Nat.reduceLeDiff, Nat.reduceLT, Nat.reduceSub, Int.reduceToNat, Int.reduceNeg, Int.reduceAdd, Int.reduceSub, Int.reduceMul, Int.reduceEq, Int.reduceLT, Int.reduceLE, Int.reduceNe, forall_const, forall_eq', forall_eq, List.forall_mem_cons, List.not_mem_nil]
  refine call_i (New_s hI (fun hz => ?_) (fun st i m1 z1 z2 hb he => ?_) fun T m1 ok hok hT he => ?_)
  · simp only [wf_preprocess, ↓reduceIte, Nat.reduceEqDiff, reduceCtorEq, Nat.reduceAdd, Nat.reduceMul, Nat.reduceLeDiff, Nat.reduceLT, Nat.reduceSub, Int.reduceToNat, Int.reduceNeg, Int.reduceAdd, Int.reduceSub, Int.reduceMul, Int.reduceEq, Int.reduceLT, Int.reduceLE, Int.reduceNe, forall_const, forall_eq', forall_eq, List.forall_mem_cons, List.not_mem_nil]
    refine call_i (rNew_s hI (fun _ => ?_) (fun st' i' m2 z1 z2 _ _ => (size_not hz z1 z2).elim) fun T' m2 ok' _ _ _ => (size_not hz (by have := ok'.pos; omega) ok'.le).elim)
    simp only [wf_preprocess, ↓reduceIte, Nat.reduceEqDiff, reduceCtorEq, Nat.reduceAdd, Nat.reduceMul, Nat.reduceLeDiff, Nat.reduceLT, Nat.reduceSub, Int.reduceToNat, Int.reduceNeg, Int.reduceAdd, Int.reduceSub, Int.reduceMul, Int.reduceEq, Int.reduceLT, Int.reduceLE, Int.reduceNe, forall_const, forall_eq', forall_eq, List.forall_mem_cons, List.not_mem_nil]
    refine call_i (known_s ?_)
    simp only [wf_preprocess, ↓reduceIte, Nat.reduceEqDiff, reduceCtorEq, Nat.reduceAdd, Nat.reduceMul, Nat.reduceLeDiff, Nat.reduceLT, Nat.reduceSub, Int.reduceToNat, Int.reduceNeg, Int.reduceAdd, Int.reduceSub, Int.reduceMul, Int.reduceEq, Int.reduceLT, Int.reduceLE, Int.reduceNe, forall_const, forall_eq', forall_eq, List.forall_mem_cons, List.not_mem_nil]
  · simp only [wf_preprocess, ↓reduceIte, Nat.reduceEqDiff, reduceCtorEq, Nat.reduceAdd, Nat.reduceMul, Nat.reduceLeDiff, Nat.reduceLT, Nat.reduceSub, Int.reduceToNat, Int.reduceNeg, Int.reduceAdd, Int.reduceSub, Int.reduceMul, Int.reduceEq, Int.reduceLT, Int.reduceLE, Int.reduceNe, forall_const, forall_eq', forall_eq, List.forall_mem_cons, List.not_mem_nil]
    refine call_i (rNew_s hI (fun hz => (size_not hz z1 z2).elim) (fun st' i' m2 _ _ hb' _ => ?_) fun T' m2 ok' hok' _ _ => (bad_not hb hok').elim)
    obtain ⟨rfl, rfl⟩ := bad_same hb hb'
    simp only [wf_preprocess, ↓reduceIte, Nat.reduceEqDiff, reduceCtorEq, Nat.reduceAdd, Nat.reduceMul, Nat.reduceLeDiff, Nat.reduceLT, Nat.reduceSub, Int.reduceToNat, Int.reduceNeg, Int.reduceAdd, Int.reduceSub, Int.reduceMul, Int.reduceEq, Int.reduceLT, Int.reduceLE, Int.reduceNe, forall_const, forall_eq', forall_eq, List.forall_mem_cons, List.not_mem_nil]
    refine call_i (known_s ?_)
    simp only [wf_preprocess, ↓reduceIte, Nat.reduceEqDiff, reduceCtorEq, Nat.reduceAdd, Nat.reduceMul, Nat.reduceLeDiff, Nat.reduceLT, Nat.reduceSub, Int.reduceToNat, Int.reduceNeg, Int.reduceAdd, Int.reduceSub, Int.reduceMul, Int.reduceEq, Int.reduceLT, Int.reduceLE, Int.reduceNe, forall_const, forall_eq', forall_eq, List.forall_mem_cons, List.not_mem_nil]
  simp only [wf_preprocess, ↓reduceIte, Nat.reduceEqDiff, reduceCtorEq, Nat.reduceAdd, Nat.reduceMul, Nat.reduceLeDiff, Nat.reduceLT, Nat.reduceSub, Int.reduceToNat, Int.reduceNeg, Int.reduceAdd, Int.reduceSub, Int.reduceMul, Int.reduceEq, Int.reduceLT, Int.reduceLE, Int.reduceNe, forall_const, forall_eq', forall_eq, List.forall_mem_cons, List.not_mem_nil]
  refine call_i (rNew_s hI (fun hz => (size_not hz (by have := ok.pos; omega) ok.le).elim) (fun st' i' m2 _ _ hb' _ => (bad_not hb' hok).elim) fun T' m2 _ _ hR he2 => ?_)
  have hT := hT.ext he2
  have hL32 := ok.le
  simp only [wf_preprocess, ↓reduceIte, Nat.reduceEqDiff, reduceCtorEq, Nat.reduceAdd, Nat.reduceMul, Nat.reduceLeDiff, Nat.reduceLT, Nat.reduceSub, Int.reduceToNat, Int.reduceNeg, Int.reduceAdd, Int.reduceSub, Int.reduceMul, Int.reduceEq, Int.reduceLT, Int.reduceLE, Int.reduceNe, forall_const, forall_eq', forall_eq, List.forall_mem_cons, List.not_mem_nil]
  refine call_i (Len_s hT.nds ?_)
  obtain ⟨M, hF⟩ := hT.flds
  simp only [onLst_len hL, wf_preprocess, ↓reduceIte, Nat.reduceEqDiff, reduceCtorEq, Nat.reduceAdd, Nat.reduceMul, Nat.reduceLeDiff, Nat.reduceLT, Nat.reduceSub, Int.reduceToNat, Int.reduceNeg, Int.reduceAdd, Int.reduceSub, Int.reduceMul, Int.reduceEq, Int.reduceLT, Int.reduceLE, Int.reduceNe, forall_const, forall_eq', forall_eq, List.forall_mem_cons, List.not_mem_nil]
  refine call_i (Find_s hF ?_)
  simp only [wf_preprocess, ↓reduceIte, Nat.reduceEqDiff, reduceCtorEq, Nat.reduceAdd, Nat.reduceMul, Nat.reduceLeDiff, Nat.reduceLT, Nat.reduceSub, Int.reduceToNat, Int.reduceNeg, Int.reduceAdd, Int.reduceSub, Int.reduceMul, Int.reduceEq, Int.reduceLT, Int.reduceLE, Int.reduceNe, forall_const, forall_eq', forall_eq, List.forall_mem_cons, List.not_mem_nil]
  refine call_i (rFind_s hR (by omega) ?_)
  simp only [wf_preprocess, ↓reduceIte, Nat.reduceEqDiff, reduceCtorEq, Nat.reduceAdd, Nat.reduceMul, Nat.reduceLeDiff, Nat.reduceLT, Nat.reduceSub, Int.reduceToNat, Int.reduceNeg, Int.reduceAdd, Int.reduceSub, Int.reduceMul, Int.reduceEq, Int.reduceLT, Int.reduceLE, Int.reduceNe, forall_const, forall_eq', forall_eq, List.forall_mem_cons, List.not_mem_nil]
  obtain ⟨o, rfl, _⟩ := id hI
  refine loop_i (fun kk ρ m' => ∃ (i : Nat), kk = L.length - i ∧ i ≤ L.length ∧ ρ 0 = .lst (L.map fun p => .agg (nv p)) o ∧ ρ 5 = .ptr T 0 ∧ ρ 8 = .ptr T' 0 ∧ ρ 11 = iv i ∧ Tr L m' T ∧ Nds L m' T') L.length ⟨0, rfl, by omega, ?_⟩ ?_
  · simp only [wf_preprocess, ↓reduceIte, Nat.reduceEqDiff, reduceCtorEq, Nat.reduceAdd, Nat.reduceMul, Nat.reduceLeDiff, Nat.reduceLT, Nat.reduceSub, Int.reduceToNat, Int.reduceNeg, Int.reduceAdd, Int.reduceSub, Int.reduceMul, Int.reduceEq, Int.reduceLT, Int.reduceLE, Int.reduceNe, forall_const, forall_eq', forall_eq, List.forall_mem_cons, List.not_mem_nil]
    exact ⟨hT, hR⟩
  clear hF hT hR
  rintro kk ρ m3 ⟨i, rfl, hi, k0, k5, k8, k11, hT, hR⟩
  by_cases hin : (i : Int) < (L.length : Int)
  · obtain ⟨p, hp⟩ : ∃ p, L[i]? = some p := ⟨_, List.getElem?_eq_getElem (by omega)⟩
    have w1 : IntKind.i64.wrap ((i : Int) + 1) = ((i + 1 : Nat) : Int) := wrap64 (by omega) (by omega)
    obtain ⟨M, hF⟩ := hT.flds
    simp only [k0, k5, k8, k11, hin, List.length_map, Int.natCast_nonneg, nv, inp_at (o := o) hp, wf_preprocess, ↓reduceIte, Nat.reduceEqDiff, reduceCtorEq, Nat.reduceAdd, Nat.reduceMul, Nat.reduceLeDiff, Nat.reduceLT, Nat.reduceSub, Int.reduceToNat, Int.reduceNeg, Int.reduceAdd, Int.reduceSub, Int.reduceMul, Int.reduceEq, Int.reduceLT, Int.reduceLE, Int.reduceNe, forall_const, forall_eq', forall_eq, List.forall_mem_cons, List.not_mem_nil]
    refine call_i (Name_s hT.nds ?_)
    rw [nameA_at hp]
    simp only [k0, k5, k8, k11, hin, List.length_map, Int.natCast_nonneg, nv, inp_at (o := o) hp, wf_preprocess, ↓reduceIte, Nat.reduceEqDiff, reduceCtorEq, Nat.reduceAdd, Nat.reduceMul, Nat.reduceLeDiff, Nat.reduceLT, Nat.reduceSub, Int.reduceToNat, Int.reduceNeg, Int.reduceAdd, Int.reduceSub, Int.reduceMul, Int.reduceEq, Int.reduceLT, Int.reduceLE, Int.reduceNe, forall_const, forall_eq', forall_eq, List.forall_mem_cons, List.not_mem_nil]
    refine call_i (Up_s hT.nds ?_)
    rw [upA_at hp]
    simp only [k0, k5, k8, k11, hin, List.length_map, Int.natCast_nonneg, nv, inp_at (o := o) hp, wf_preprocess, ↓reduceIte, Nat.reduceEqDiff, reduceCtorEq, Nat.reduceAdd, Nat.reduceMul, Nat.reduceLeDiff, Nat.reduceLT, Nat.reduceSub, Int.reduceToNat, Int.reduceNeg, Int.reduceAdd, Int.reduceSub, Int.reduceMul, Int.reduceEq, Int.reduceLT, Int.reduceLE, Int.reduceNe, forall_const, forall_eq', forall_eq, List.forall_mem_cons, List.not_mem_nil]
    refine call_i (Find_s hF ?_)
    rw [fnd_own hok hp]
    simp only [k0, k5, k8, k11, wf_preprocess, ↓reduceIte, Nat.reduceEqDiff, reduceCtorEq, Nat.reduceAdd, Nat.reduceMul, Nat.reduceLeDiff, Nat.reduceLT, Nat.reduceSub, Int.reduceToNat, Int.reduceNeg, Int.reduceAdd, Int.reduceSub, Int.reduceMul, Int.reduceEq, Int.reduceLT, Int.reduceLE, Int.reduceNe, forall_const, forall_eq', forall_eq, List.forall_mem_cons, List.not_mem_nil]
    refine call_i (Depth_s hT.nds ok.fin (by omega) fun m4 he4 => ?_)
    have hT := hT.ext he4
    have hR := hR.ext he4
    simp only [k0, k5, k8, k11, wf_preprocess, ↓reduceIte, Nat.reduceEqDiff, reduceCtorEq, Nat.reduceAdd, Nat.reduceMul, Nat.reduceLeDiff, Nat.reduceLT, Nat.reduceSub, Int.reduceToNat, Int.reduceNeg, Int.reduceAdd, Int.reduceSub, Int.reduceMul, Int.reduceEq, Int.reduceLT, Int.reduceLE, Int.reduceNe, forall_const, forall_eq', forall_eq, List.forall_mem_cons, List.not_mem_nil]
    refine call_i (rDepth_s hR ok.fin (by omega) fun m5 he5 => ?_)
    simp only [k0, k5, k8, k11, w1, wf_preprocess, ↓reduceIte, Nat.reduceEqDiff, reduceCtorEq, Nat.reduceAdd, Nat.reduceMul, Nat.reduceLeDiff, Nat.reduceLT, Nat.reduceSub, Int.reduceToNat, Int.reduceNeg, Int.reduceAdd, Int.reduceSub, Int.reduceMul, Int.reduceEq, Int.reduceLT, Int.reduceLE, Int.reduceNe, forall_const, forall_eq', forall_eq, List.forall_mem_cons, List.not_mem_nil]
    exact ⟨L.length - (i + 1), by omega, i + 1, rfl, by omega, rfl, hT.ext he5, hR.ext he5⟩
  · simp only [k0, k5, k8, k11, hin, List.length_map, wf_preprocess, ↓reduceIte, Nat.reduceEqDiff, reduceCtorEq, Nat.reduceAdd, Nat.reduceMul, Nat.reduceLeDiff, Nat.reduceLT, Nat.reduceSub, Int.reduceToNat, Int.reduceNeg, Int.reduceAdd, Int.reduceSub, Int.reduceMul, Int.reduceEq, Int.reduceLT, Int.reduceLE, Int.reduceNe, forall_const, forall_eq', forall_eq, List.forall_mem_cons, List.not_mem_nil]
    refine call_i (known_s ?_)
    simp only [wf_preprocess, ↓reduceIte, Nat.reduceEqDiff, reduceCtorEq, Nat.reduceAdd, Nat.reduceMul, Nat.reduceLeDiff, Nat.reduceLT, Nat.reduceSub, Int.reduceToNat, Int.reduceNeg, Int.reduceAdd, Int.reduceSub, Int.reduceMul, Int.reduceEq, Int.reduceLT, Int.reduceLE, Int.reduceNe, forall_const, forall_eq', forall_eq, List.forall_mem_cons, List.not_mem_nil]

theorem law_orders (xs : List AV) (h : ArgShape Try.prog (fun _ => True) Try.f5.params.toList xs) : ACall Try.prog 5 xs [] (fun x _ => x = bo true) (fun _ _ => False) := by
  rw [Try.params5] at h
  obtain ⟨L, y, ys, rfl, hI, hw, h⟩ := arg_nodes h
  obtain ⟨i, ys, rfl, _, h⟩ := arg_int Try.underlying3 h
  obtain ⟨k, zs, h2, _, h3⟩ := arg_int Try.underlying3 h
  subst h2
  obtain rfl : zs = [] := ArgShape.nil' h3
  clear h h3
  have hL := inp_len hI
  refine acall_fn mixed Try.func5 Try.call5 e5 r5 (Nat.le_of_ble_eq_true rfl) ?_
  by_cases c1 : (60 : Int) < (L.length : Int)
  · simp only [n5, onLst_len hL, c1, wf_preprocess, ↓reduceIte, Nat.reduceEqDiff, reduceCtorEq, Nat.reduceAdd, Nat.reduceMul, Nat.reduceLeDiff, Nat.reduceLT, Nat.reduceSub, Int.reduceToNat, Int.reduceNeg, Int.reduceAdd, Int.reduceSub, Int.reduceMul, Int.reduceEq, Int.reduceLT, Int.reduceLE, Int.reduceNe, forall_const, forall_eq', forall_eq, List.forall_mem_cons, List.not_mem_nil]
    refine call_i (known_s ?_)
    simp only [wf_preprocess, ↓reduceIte, Nat.reduceEqDiff, reduceCtorEq, Nat.reduceAdd, Nat.reduceMul, Nat.reduceLeDiff, Nat.reduceLT, Nat.reduceSub, Int.reduceToNat, Int.reduceNeg, Int.reduceAdd, Int.reduceSub, Int.reduceMul, Int.reduceEq, Int.reduceLT, Int.reduceLE, Int.reduceNe, forall_const, forall_eq', forall_eq, List.forall_mem_cons, List.not_mem_nil]
  simp only [n5, onLst_len hL, c1, wf_preprocess, ↓reduceIte, Nat.reduceEqDiff, reduceCtorEq, Nat.reduceAdd, Nat.reduceMul, Nat.reduceLeDiff, Nat.reduceLT, Nat.reduceSub, Int.reduceToNat, Int.reduceNeg, Int.reduceAdd, Int.reduceSub, Int.reduceMul, Int.reduceEq, Int.reduceLT, Int.reduceLE, Int.reduceNe, forall_const, forall_eq', forall_eq, List.forall_mem_cons, List.not_mem_nil]
  refine call_i (New_s hI (fun hz => ?_) (fun st i m1 z1 z2 hb he => ?_) fun T m1 ok hok hT he => ?_)
  · simp only [wf_preprocess, ↓reduceIte, Nat.reduceEqDiff, reduceCtorEq, Nat.reduceAdd, Nat.reduceMul, Nat.reduceLeDiff, Nat.reduceLT, Nat.reduceSub, Int.reduceToNat, Int.reduceNeg, Int.reduceAdd, Int.reduceSub, Int.reduceMul, Int.reduceEq, Int.reduceLT, Int.reduceLE, Int.reduceNe, forall_const, forall_eq', forall_eq, List.forall_mem_cons, List.not_mem_nil]
    refine call_i (rNew_s hI (fun _ => ?_) (fun st' i' m2 z1 z2 _ _ => (size_not hz z1 z2).elim) fun T' m2 ok' _ _ _ => (size_not hz (by have := ok'.pos; omega) ok'.le).elim)
    simp only [wf_preprocess, ↓reduceIte, Nat.reduceEqDiff, reduceCtorEq, Nat.reduceAdd, Nat.reduceMul, Nat.reduceLeDiff, Nat.reduceLT, Nat.reduceSub, Int.reduceToNat, Int.reduceNeg, Int.reduceAdd, Int.reduceSub, Int.reduceMul, Int.reduceEq, Int.reduceLT, Int.reduceLE, Int.reduceNe, forall_const, forall_eq', forall_eq, List.forall_mem_cons, List.not_mem_nil]
    refine call_i (known_s ?_)
    simp only [wf_preprocess, ↓reduceIte, Nat.reduceEqDiff, reduceCtorEq, Nat.reduceAdd, Nat.reduceMul, Nat.reduceLeDiff, Nat.reduceLT, Nat.reduceSub, Int.reduceToNat, Int.reduceNeg, Int.reduceAdd, Int.reduceSub, Int.reduceMul, Int.reduceEq, Int.reduceLT, Int.reduceLE, Int.reduceNe, forall_const, forall_eq', forall_eq, List.forall_mem_cons, List.not_mem_nil]
  · simp only [wf_preprocess, ↓reduceIte, Nat.reduceEqDiff, reduceCtorEq, Nat.reduceAdd, Nat.reduceMul, Nat.reduceLeDiff, Nat.reduceLT, Nat.reduceSub, Int.reduceToNat, Int.reduceNeg, Int.reduceAdd, Int.reduceSub, Int.reduceMul, Int.reduceEq, Int.reduceLT, Int.reduceLE, Int.reduceNe, forall_const, forall_eq', forall_eq, List.forall_mem_cons, List.not_mem_nil]
    refine call_i (rNew_s hI (fun hz => (size_not hz z1 z2).elim) (fun st' i' m2 _ _ hb' _ => ?_) fun T' m2 ok' hok' _ _ => (bad_not hb hok').elim)
    obtain ⟨rfl, rfl⟩ := bad_same hb hb'
    simp only [chk_pos hb, wf_preprocess, ↓reduceIte, Nat.reduceEqDiff, reduceCtorEq, Nat.reduceAdd, Nat.reduceMul, Nat.reduceLeDiff, Nat.reduceLT, Nat.reduceSub, Int.reduceToNat, Int.reduceNeg, Int.reduceAdd, Int.reduceSub, Int.reduceMul, Int.reduceEq, Int.reduceLT, Int.reduceLE, Int.reduceNe, forall_const, forall_eq', forall_eq, List.forall_mem_cons, List.not_mem_nil]
    refine call_i (known_s ?_)
    simp only [wf_preprocess, ↓reduceIte, Nat.reduceEqDiff, reduceCtorEq, Nat.reduceAdd, Nat.reduceMul, Nat.reduceLeDiff, Nat.reduceLT, Nat.reduceSub, Int.reduceToNat, Int.reduceNeg, Int.reduceAdd, Int.reduceSub, Int.reduceMul, Int.reduceEq, Int.reduceLT, Int.reduceLE, Int.reduceNe, forall_const, forall_eq', forall_eq, List.forall_mem_cons, List.not_mem_nil]
  simp only [wf_preprocess, ↓reduceIte, Nat.reduceEqDiff, reduceCtorEq, Nat.reduceAdd, Nat.reduceMul, Nat.reduceLeDiff, Nat.reduceLT, Nat.reduceSub, Int.reduceToNat, Int.reduceNeg, Int.reduceAdd, Int.reduceSub, Int.reduceMul, Int.reduceEq, Int.reduceLT, Int.reduceLE, Int.reduceNe, forall_const, forall_eq', forall_eq, List.forall_mem_cons, List.not_mem_nil]
  refine call_i (rNew_s hI (fun hz => (size_not hz (by have := ok.pos; omega) ok.le).elim) (fun st' i' m2 _ _ hb' _ => (bad_not hb' hok).elim) fun T' m2 _ _ hR he2 => ?_)
  have hT := hT.ext he2
  have hL32 := ok.le
  have hl1 := lens ok
  have hex : ∀ j : Nat, j < L.length → ∃ a b, SpanAt L j a b := fun j hj => by
    obtain ⟨N, cN, M, K, S, r, ks, vo, vl, Sp, hd⟩ := id hT
    obtain ⟨a, b, _, hs, _⟩ := hd.span ok hj
    exact ⟨a, b, hs⟩
  simp only [wf_preprocess, ↓reduceIte, Nat.reduceEqDiff, reduceCtorEq, Nat.reduceAdd, Nat.reduceMul, Nat.reduceLeDiff, Nat.reduceLT, Nat.reduceSub, Int.reduceToNat, Int.reduceNeg, Int.reduceAdd, Int.reduceSub, Int.reduceMul, Int.reduceEq, Int.reduceLT, Int.reduceLE, Int.reduceNe, forall_const, forall_eq', forall_eq, List.forall_mem_cons, List.not_mem_nil]
  refine call_i (Span_s (i := i) ok hT fun a b hab => ?_)
  simp only [wf_preprocess, ↓reduceIte, Nat.reduceEqDiff, reduceCtorEq, Nat.reduceAdd, Nat.reduceMul, Nat.reduceLeDiff, Nat.reduceLT, Nat.reduceSub, Int.reduceToNat, Int.reduceNeg, Int.reduceAdd, Int.reduceSub, Int.reduceMul, Int.reduceEq, Int.reduceLT, Int.reduceLE, Int.reduceNe, forall_const, forall_eq', forall_eq, List.forall_mem_cons, List.not_mem_nil]
  refine call_i (rSpan_s (i := i) ok hR hex fun m3 c d he3 hcd => ?_)
  have hac : a = c ∧ b = d := by
    rcases hab with ⟨h1, rfl, rfl⟩ | ⟨j, e, hj, hs⟩ <;> rcases hcd with ⟨h2, rfl, rfl⟩ | ⟨j', e', hj', hs'⟩
    · exact ⟨rfl, rfl⟩
    · rw [e', at_nat, List.getElem?_eq_getElem hj'] at h1; cases h1
    · rw [e, at_nat, List.getElem?_eq_getElem hj] at h2; cases h2
    · have e2 : j = j' := by omega
      subst e2
      exact span_same hs hs'
  obtain ⟨rfl, rfl⟩ := hac
  have hT := hT.ext he3
  have hR := hR.ext he3
  have hil : ∀ {l : List Nat}, l.length ≤ 32 → (il l).length ≤ 1000000 := fun h => by rw [il_len]; omega
  simp only [wf_preprocess, ↓reduceIte, Nat.reduceEqDiff, reduceCtorEq, Nat.reduceAdd, Nat.reduceMul, Nat.reduceLeDiff, Nat.reduceLT, Nat.reduceSub, Int.reduceToNat, Int.reduceNeg, Int.reduceAdd, Int.reduceSub, Int.reduceMul, Int.reduceEq, Int.reduceLT, Int.reduceLE, Int.reduceNe, forall_const, forall_eq', forall_eq, List.forall_mem_cons, List.not_mem_nil]
  refine call_i (Order_s ok hT fun v1 m4 ho => ?_)
  have hR := hR.ext ho.ext
  simp only [wf_preprocess, ↓reduceIte, Nat.reduceEqDiff, reduceCtorEq, Nat.reduceAdd, Nat.reduceMul, Nat.reduceLeDiff, Nat.reduceLT, Nat.reduceSub, Int.reduceToNat, Int.reduceNeg, Int.reduceAdd, Int.reduceSub, Int.reduceMul, Int.reduceEq, Int.reduceLT, Int.reduceLE, Int.reduceNe, forall_const, forall_eq', forall_eq, List.forall_mem_cons, List.not_mem_nil]
  refine call_i (rOrder_s ok hR fun v2 m5 ho2 => ?_)
  have hT := (hT.ext ho.ext).ext ho2.ext
  have hR := hR.ext ho2.ext
  simp only [wf_preprocess, ↓reduceIte, Nat.reduceEqDiff, reduceCtorEq, Nat.reduceAdd, Nat.reduceMul, Nat.reduceLeDiff, Nat.reduceLT, Nat.reduceSub, Int.reduceToNat, Int.reduceNeg, Int.reduceAdd, Int.reduceSub, Int.reduceMul, Int.reduceEq, Int.reduceLT, Int.reduceLE, Int.reduceNe, forall_const, forall_eq', forall_eq, List.forall_mem_cons, List.not_mem_nil]
  refine call_i (Ints_s ((BufI.ei ho.buf).ext ho2.ext (by simp)) (BufI.ei ho2.buf) (hil hl1.1) ?_)
  simp only [wf_preprocess, ↓reduceIte, Nat.reduceEqDiff, reduceCtorEq, Nat.reduceAdd, Nat.reduceMul, Nat.reduceLeDiff, Nat.reduceLT, Nat.reduceSub, Int.reduceToNat, Int.reduceNeg, Int.reduceAdd, Int.reduceSub, Int.reduceMul, Int.reduceEq, Int.reduceLT, Int.reduceLE, Int.reduceNe, forall_const, forall_eq', forall_eq, List.forall_mem_cons, List.not_mem_nil]
  refine call_i (Leaves_s ok hT fun v1 m6 ho => ?_)
  have hR := hR.ext ho.ext
  simp only [wf_preprocess, ↓reduceIte, Nat.reduceEqDiff, reduceCtorEq, Nat.reduceAdd, Nat.reduceMul, Nat.reduceLeDiff, Nat.reduceLT, Nat.reduceSub, Int.reduceToNat, Int.reduceNeg, Int.reduceAdd, Int.reduceSub, Int.reduceMul, Int.reduceEq, Int.reduceLT, Int.reduceLE, Int.reduceNe, forall_const, forall_eq', forall_eq, List.forall_mem_cons, List.not_mem_nil]
  refine call_i (rLeaves_s ok hR fun v2 m7 ho2 => ?_)
  have hT := (hT.ext ho.ext).ext ho2.ext
  have hR := hR.ext ho2.ext
  simp only [wf_preprocess, ↓reduceIte, Nat.reduceEqDiff, reduceCtorEq, Nat.reduceAdd, Nat.reduceMul, Nat.reduceLeDiff, Nat.reduceLT, Nat.reduceSub, Int.reduceToNat, Int.reduceNeg, Int.reduceAdd, Int.reduceSub, Int.reduceMul, Int.reduceEq, Int.reduceLT, Int.reduceLE, Int.reduceNe, forall_const, forall_eq', forall_eq, List.forall_mem_cons, List.not_mem_nil]
  refine call_i (Ints_s ((BufI.ei ho.buf).ext ho2.ext (by simp)) (BufI.ei ho2.buf) (hil hl1.2) ?_)
  simp only [wf_preprocess, ↓reduceIte, Nat.reduceEqDiff, reduceCtorEq, Nat.reduceAdd, Nat.reduceMul, Nat.reduceLeDiff, Nat.reduceLT, Nat.reduceSub, Int.reduceToNat, Int.reduceNeg, Int.reduceAdd, Int.reduceSub, Int.reduceMul, Int.reduceEq, Int.reduceLT, Int.reduceLE, Int.reduceNe, forall_const, forall_eq', forall_eq, List.forall_mem_cons, List.not_mem_nil]
  have hkl : (kidsA L i).length ≤ 32 := by
    unfold kidsA
    split
    · have := kids_len (L := L) (j := i.toNat); omega
    · simp
  refine call_i (Kids_s (i := i) ok hT fun v1 m8 ho => ?_)
  have hR := hR.ext ho.ext
  simp only [wf_preprocess, ↓reduceIte, Nat.reduceEqDiff, reduceCtorEq, Nat.reduceAdd, Nat.reduceMul, Nat.reduceLeDiff, Nat.reduceLT, Nat.reduceSub, Int.reduceToNat, Int.reduceNeg, Int.reduceAdd, Int.reduceSub, Int.reduceMul, Int.reduceEq, Int.reduceLT, Int.reduceLE, Int.reduceNe, forall_const, forall_eq', forall_eq, List.forall_mem_cons, List.not_mem_nil]
  refine call_i (rKids_s (i := i) hR (by omega) fun v2 m9 ho2 => ?_)
  have hT := (hT.ext ho.ext).ext ho2.ext
  have hR := hR.ext ho2.ext
  simp only [wf_preprocess, ↓reduceIte, Nat.reduceEqDiff, reduceCtorEq, Nat.reduceAdd, Nat.reduceMul, Nat.reduceLeDiff, Nat.reduceLT, Nat.reduceSub, Int.reduceToNat, Int.reduceNeg, Int.reduceAdd, Int.reduceSub, Int.reduceMul, Int.reduceEq, Int.reduceLT, Int.reduceLE, Int.reduceNe, forall_const, forall_eq', forall_eq, List.forall_mem_cons, List.not_mem_nil]
  refine call_i (Ints_s ((BufI.ei ho.buf).ext ho2.ext (by simp)) (BufI.ei ho2.buf) (hil hkl) ?_)
  simp only [wf_preprocess, ↓reduceIte, Nat.reduceEqDiff, reduceCtorEq, Nat.reduceAdd, Nat.reduceMul, Nat.reduceLeDiff, Nat.reduceLT, Nat.reduceSub, Int.reduceToNat, Int.reduceNeg, Int.reduceAdd, Int.reduceSub, Int.reduceMul, Int.reduceEq, Int.reduceLT, Int.reduceLE, Int.reduceNe, forall_const, forall_eq', forall_eq, List.forall_mem_cons, List.not_mem_nil]
  have hal := ok.fin i
  refine call_i (Above_s (i := i) hT.nds ok.fin (by omega) fun v1 m10 ho => ?_)
  have hR := hR.ext ho.ext
  simp only [wf_preprocess, ↓reduceIte, Nat.reduceEqDiff, reduceCtorEq, Nat.reduceAdd, Nat.reduceMul, Nat.reduceLeDiff, Nat.reduceLT, Nat.reduceSub, Int.reduceToNat, Int.reduceNeg, Int.reduceAdd, Int.reduceSub, Int.reduceMul, Int.reduceEq, Int.reduceLT, Int.reduceLE, Int.reduceNe, forall_const, forall_eq', forall_eq, List.forall_mem_cons, List.not_mem_nil]
  refine call_i (rAbove_s (i := i) hR ok.fin (by omega) fun v2 m11 ho2 => ?_)
  have hT := (hT.ext ho.ext).ext ho2.ext
  have hR := hR.ext ho2.ext
  simp only [wf_preprocess, ↓reduceIte, Nat.reduceEqDiff, reduceCtorEq, Nat.reduceAdd, Nat.reduceMul, Nat.reduceLeDiff, Nat.reduceLT, Nat.reduceSub, Int.reduceToNat, Int.reduceNeg, Int.reduceAdd, Int.reduceSub, Int.reduceMul, Int.reduceEq, Int.reduceLT, Int.reduceLE, Int.reduceNe, forall_const, forall_eq', forall_eq, List.forall_mem_cons, List.not_mem_nil]
  refine call_i (Ints_s ((BufI.ei ho.buf).ext ho2.ext (by simp)) (BufI.ei ho2.buf) (hil (by omega)) ?_)
  simp only [wf_preprocess, ↓reduceIte, Nat.reduceEqDiff, reduceCtorEq, Nat.reduceAdd, Nat.reduceMul, Nat.reduceLeDiff, Nat.reduceLT, Nat.reduceSub, Int.reduceToNat, Int.reduceNeg, Int.reduceAdd, Int.reduceSub, Int.reduceMul, Int.reduceEq, Int.reduceLT, Int.reduceLE, Int.reduceNe, forall_const, forall_eq', forall_eq, List.forall_mem_cons, List.not_mem_nil]
  refine call_i (Within_s (i := i) (x := k) hT.nds ok.fin (by omega) fun m12 he => ?_)
  have hT := hT.ext he
  have hR := hR.ext he
  simp only [wf_preprocess, ↓reduceIte, Nat.reduceEqDiff, reduceCtorEq, Nat.reduceAdd, Nat.reduceMul, Nat.reduceLeDiff, Nat.reduceLT, Nat.reduceSub, Int.reduceToNat, Int.reduceNeg, Int.reduceAdd, Int.reduceSub, Int.reduceMul, Int.reduceEq, Int.reduceLT, Int.reduceLE, Int.reduceNe, forall_const, forall_eq', forall_eq, List.forall_mem_cons, List.not_mem_nil]
  refine call_i (rWithin_s (i := i) (x := k) hR ok.fin (by omega) fun m13 he => ?_)
  have hT := hT.ext he
  have hR := hR.ext he
  simp only [wf_preprocess, ↓reduceIte, Nat.reduceEqDiff, reduceCtorEq, Nat.reduceAdd, Nat.reduceMul, Nat.reduceLeDiff, Nat.reduceLT, Nat.reduceSub, Int.reduceToNat, Int.reduceNeg, Int.reduceAdd, Int.reduceSub, Int.reduceMul, Int.reduceEq, Int.reduceLT, Int.reduceLE, Int.reduceNe, forall_const, forall_eq', forall_eq, List.forall_mem_cons, List.not_mem_nil]
  refine call_i (Leaf_s (i := i) hT ?_)
  simp only [wf_preprocess, ↓reduceIte, Nat.reduceEqDiff, reduceCtorEq, Nat.reduceAdd, Nat.reduceMul, Nat.reduceLeDiff, Nat.reduceLT, Nat.reduceSub, Int.reduceToNat, Int.reduceNeg, Int.reduceAdd, Int.reduceSub, Int.reduceMul, Int.reduceEq, Int.reduceLT, Int.reduceLE, Int.reduceNe, forall_const, forall_eq', forall_eq, List.forall_mem_cons, List.not_mem_nil]
  refine call_i (rLeaf_s (i := i) hR (by omega) fun m14 he => ?_)
  have hT := hT.ext he
  have hR := hR.ext he
  simp only [wf_preprocess, ↓reduceIte, Nat.reduceEqDiff, reduceCtorEq, Nat.reduceAdd, Nat.reduceMul, Nat.reduceLeDiff, Nat.reduceLT, Nat.reduceSub, Int.reduceToNat, Int.reduceNeg, Int.reduceAdd, Int.reduceSub, Int.reduceMul, Int.reduceEq, Int.reduceLT, Int.reduceLE, Int.reduceNe, forall_const, forall_eq', forall_eq, List.forall_mem_cons, List.not_mem_nil]
  refine call_i (Rank_s (i := i) ok hT fun x hx => ?_)
  simp only [wf_preprocess, ↓reduceIte, Nat.reduceEqDiff, reduceCtorEq, Nat.reduceAdd, Nat.reduceMul, Nat.reduceLeDiff, Nat.reduceLT, Nat.reduceSub, Int.reduceToNat, Int.reduceNeg, Int.reduceAdd, Int.reduceSub, Int.reduceMul, Int.reduceEq, Int.reduceLT, Int.reduceLE, Int.reduceNe, forall_const, forall_eq', forall_eq, List.forall_mem_cons, List.not_mem_nil]
  refine call_i (rRank_s (i := i) ok hR fun m15 z he hz => ?_)
  have hxz := rank_same ok hx hz
  subst hxz
  have hT := hT.ext he
  have hR := hR.ext he
  simp only [wf_preprocess, ↓reduceIte, Nat.reduceEqDiff, reduceCtorEq, Nat.reduceAdd, Nat.reduceMul, Nat.reduceLeDiff, Nat.reduceLT, Nat.reduceSub, Int.reduceToNat, Int.reduceNeg, Int.reduceAdd, Int.reduceSub, Int.reduceMul, Int.reduceEq, Int.reduceLT, Int.reduceLE, Int.reduceNe, forall_const, forall_eq', forall_eq, List.forall_mem_cons, List.not_mem_nil]
  refine call_i (Up_s (i := i) hT.nds ?_)
  simp only [wf_preprocess, ↓reduceIte, Nat.reduceEqDiff, reduceCtorEq, Nat.reduceAdd, Nat.reduceMul, Nat.reduceLeDiff, Nat.reduceLT, Nat.reduceSub, Int.reduceToNat, Int.reduceNeg, Int.reduceAdd, Int.reduceSub, Int.reduceMul, Int.reduceEq, Int.reduceLT, Int.reduceLE, Int.reduceNe, forall_const, forall_eq', forall_eq, List.forall_mem_cons, List.not_mem_nil]
  refine call_i (rUp_s (i := i) hR ?_)
  simp only [wf_preprocess, ↓reduceIte, Nat.reduceEqDiff, reduceCtorEq, Nat.reduceAdd, Nat.reduceMul, Nat.reduceLeDiff, Nat.reduceLT, Nat.reduceSub, Int.reduceToNat, Int.reduceNeg, Int.reduceAdd, Int.reduceSub, Int.reduceMul, Int.reduceEq, Int.reduceLT, Int.reduceLE, Int.reduceNe, forall_const, forall_eq', forall_eq, List.forall_mem_cons, List.not_mem_nil]
  refine call_i (Name_s (i := i) hT.nds ?_)
  simp only [wf_preprocess, ↓reduceIte, Nat.reduceEqDiff, reduceCtorEq, Nat.reduceAdd, Nat.reduceMul, Nat.reduceLeDiff, Nat.reduceLT, Nat.reduceSub, Int.reduceToNat, Int.reduceNeg, Int.reduceAdd, Int.reduceSub, Int.reduceMul, Int.reduceEq, Int.reduceLT, Int.reduceLE, Int.reduceNe, forall_const, forall_eq', forall_eq, List.forall_mem_cons, List.not_mem_nil]
  refine call_i (rName_s (i := i) hR ?_)
  simp only [wf_preprocess, ↓reduceIte, Nat.reduceEqDiff, reduceCtorEq, Nat.reduceAdd, Nat.reduceMul, Nat.reduceLeDiff, Nat.reduceLT, Nat.reduceSub, Int.reduceToNat, Int.reduceNeg, Int.reduceAdd, Int.reduceSub, Int.reduceMul, Int.reduceEq, Int.reduceLT, Int.reduceLE, Int.reduceNe, forall_const, forall_eq', forall_eq, List.forall_mem_cons, List.not_mem_nil]
  refine call_i (Depth_s (i := i) hT.nds ok.fin (by omega) fun m16 he => ?_)
  have hR := hR.ext he
  simp only [wf_preprocess, ↓reduceIte, Nat.reduceEqDiff, reduceCtorEq, Nat.reduceAdd, Nat.reduceMul, Nat.reduceLeDiff, Nat.reduceLT, Nat.reduceSub, Int.reduceToNat, Int.reduceNeg, Int.reduceAdd, Int.reduceSub, Int.reduceMul, Int.reduceEq, Int.reduceLT, Int.reduceLE, Int.reduceNe, forall_const, forall_eq', forall_eq, List.forall_mem_cons, List.not_mem_nil]
  refine call_i (rDepth_s (i := i) hR ok.fin (by omega) fun m17 he => ?_)
  simp only [wf_preprocess, ↓reduceIte, Nat.reduceEqDiff, reduceCtorEq, Nat.reduceAdd, Nat.reduceMul, Nat.reduceLeDiff, Nat.reduceLT, Nat.reduceSub, Int.reduceToNat, Int.reduceNeg, Int.reduceAdd, Int.reduceSub, Int.reduceMul, Int.reduceEq, Int.reduceLT, Int.reduceLE, Int.reduceNe, forall_const, forall_eq', forall_eq, List.forall_mem_cons, List.not_mem_nil]
  refine call_i (known_s ?_)
  simp only [wf_preprocess, ↓reduceIte, Nat.reduceEqDiff, reduceCtorEq, Nat.reduceAdd, Nat.reduceMul, Nat.reduceLeDiff, Nat.reduceLT, Nat.reduceSub, Int.reduceToNat, Int.reduceNeg, Int.reduceAdd, Int.reduceSub, Int.reduceMul, Int.reduceEq, Int.reduceLT, Int.reduceLE, Int.reduceNe, forall_const, forall_eq', forall_eq, List.forall_mem_cons, List.not_mem_nil]

theorem law_spans (xs : List AV) (h : ArgShape Try.prog (fun _ => True) Try.f4.params.toList xs) : ACall Try.prog 4 xs [] (fun x _ => x = bo true) (fun _ _ => False) := by
  rw [Try.params4] at h
  obtain ⟨L, y, zs, h2, hI, hw, h3⟩ := arg_nodes h
  subst h2
  obtain rfl : zs = [] := ArgShape.nil' h3
  clear h h3
  have hL := inp_len hI
  refine acall_fn mixed Try.func4 Try.call4 e4 r4 (Nat.le_of_ble_eq_true rfl) ?_
  by_cases c1 : (60 : Int) < (L.length : Int)
  · simp only [n4, onLst_len hL, c1, wf_preprocess, ↓reduceIte, Nat.reduceEqDiff, reduceCtorEq, Nat.reduceAdd, Nat.reduceMul, Nat.reduceLeDiff, Nat.reduceLT, Nat.reduceSub, Int.reduceToNat, Int.reduceNeg, Int.reduceAdd, Int.reduceSub, Int.reduceMul, Int.reduceEq, Int.reduceLT, Int.reduceLE, Int.reduceNe, forall_const, forall_eq', forall_eq, List.forall_mem_cons, List.not_mem_nil]
    refine call_i (known_s ?_)
    simp only [wf_preprocess, ↓reduceIte, Nat.reduceEqDiff, reduceCtorEq, Nat.reduceAdd, Nat.reduceMul, Nat.reduceLeDiff, Nat.reduceLT, Nat.reduceSub, Int.reduceToNat, Int.reduceNeg, Int.reduceAdd, Int.reduceSub, Int.reduceMul, Int.reduceEq, Int.reduceLT, Int.reduceLE, Int.reduceNe, forall_const, forall_eq', forall_eq, List.forall_mem_cons, List.not_mem_nil]
  simp only [n4, onLst_len hL, c1, wf_preprocess, ↓reduceIte, Nat.reduceEqDiff, reduceCtorEq, Nat.reduceAdd, Nat.reduceMul, Nat.reduceLeDiff, Nat.reduceLT, Nat.reduceSub, Int.reduceToNat, Int.reduceNeg, Int.reduceAdd, Int.reduceSub, Int.reduceMul, Int.reduceEq, Int.reduceLT, Int.reduceLE, Int.reduceNe, forall_const, forall_eq', forall_eq, List.forall_mem_cons, List.not_mem_nil]
  refine call_i (New_s hI (fun hz => ?_) (fun st i m1 z1 z2 hb he => ?_) fun T m1 ok hok hT he => ?_)
  · simp only [wf_preprocess, ↓reduceIte, Nat.reduceEqDiff, reduceCtorEq, Nat.reduceAdd, Nat.reduceMul, Nat.reduceLeDiff, Nat.reduceLT, Nat.reduceSub, Int.reduceToNat, Int.reduceNeg, Int.reduceAdd, Int.reduceSub, Int.reduceMul, Int.reduceEq, Int.reduceLT, Int.reduceLE, Int.reduceNe, forall_const, forall_eq', forall_eq, List.forall_mem_cons, List.not_mem_nil]
    refine call_i (known_s ?_)
    simp only [wf_preprocess, ↓reduceIte, Nat.reduceEqDiff, reduceCtorEq, Nat.reduceAdd, Nat.reduceMul, Nat.reduceLeDiff, Nat.reduceLT, Nat.reduceSub, Int.reduceToNat, Int.reduceNeg, Int.reduceAdd, Int.reduceSub, Int.reduceMul, Int.reduceEq, Int.reduceLT, Int.reduceLE, Int.reduceNe, forall_const, forall_eq', forall_eq, List.forall_mem_cons, List.not_mem_nil]
  · simp only [chk_pos hb, wf_preprocess, ↓reduceIte, Nat.reduceEqDiff, reduceCtorEq, Nat.reduceAdd, Nat.reduceMul, Nat.reduceLeDiff, Nat.reduceLT, Nat.reduceSub, Int.reduceToNat, Int.reduceNeg, Int.reduceAdd, Int.reduceSub, Int.reduceMul, Int.reduceEq, Int.reduceLT, Int.reduceLE, Int.reduceNe, forall_const, forall_eq', forall_eq, List.forall_mem_cons, List.not_mem_nil]
    refine call_i (known_s ?_)
    simp only [wf_preprocess, ↓reduceIte, Nat.reduceEqDiff, reduceCtorEq, Nat.reduceAdd, Nat.reduceMul, Nat.reduceLeDiff, Nat.reduceLT, Nat.reduceSub, Int.reduceToNat, Int.reduceNeg, Int.reduceAdd, Int.reduceSub, Int.reduceMul, Int.reduceEq, Int.reduceLT, Int.reduceLE, Int.reduceNe, forall_const, forall_eq', forall_eq, List.forall_mem_cons, List.not_mem_nil]
  have hL32 := ok.le
  have hl1 := (lens ok).2
  simp only [wf_preprocess, ↓reduceIte, Nat.reduceEqDiff, reduceCtorEq, Nat.reduceAdd, Nat.reduceMul, Nat.reduceLeDiff, Nat.reduceLT, Nat.reduceSub, Int.reduceToNat, Int.reduceNeg, Int.reduceAdd, Int.reduceSub, Int.reduceMul, Int.reduceEq, Int.reduceLT, Int.reduceLE, Int.reduceNe, forall_const, forall_eq', forall_eq, List.forall_mem_cons, List.not_mem_nil]
  refine call_i (Leaves_s ok hT fun v m2 ho => ?_)
  have hT := hT.ext ho.ext
  have hvb := ho.buf
  have hvl := (BufI.ei hvb).lenIs
  rw [il_len] at hvl
  clear ho he
  simp only [wf_preprocess, ↓reduceIte, Nat.reduceEqDiff, reduceCtorEq, Nat.reduceAdd, Nat.reduceMul, Nat.reduceLeDiff, Nat.reduceLT, Nat.reduceSub, Int.reduceToNat, Int.reduceNeg, Int.reduceAdd, Int.reduceSub, Int.reduceMul, Int.reduceEq, Int.reduceLT, Int.reduceLE, Int.reduceNe, forall_const, forall_eq', forall_eq, List.forall_mem_cons, List.not_mem_nil]
  refine loop_i (fun kk ρ m' => ∃ (i : Nat), kk = L.length - i ∧ i ≤ L.length ∧ ρ 3 = .ptr T 0 ∧ ρ 6 = v ∧ ρ 7 = iv i ∧ Tr L m' T ∧ BufI .i64 (il (leaves L)) v m') L.length ⟨0, rfl, by omega, ?_⟩ ?_
  · simp only [wf_preprocess, ↓reduceIte, Nat.reduceEqDiff, reduceCtorEq, Nat.reduceAdd, Nat.reduceMul, Nat.reduceLeDiff, Nat.reduceLT, Nat.reduceSub, Int.reduceToNat, Int.reduceNeg, Int.reduceAdd, Int.reduceSub, Int.reduceMul, Int.reduceEq, Int.reduceLT, Int.reduceLE, Int.reduceNe, forall_const, forall_eq', forall_eq, List.forall_mem_cons, List.not_mem_nil]
    exact ⟨hT, hvb⟩
  clear hT hvb
  rintro kk ρ m3 ⟨i, rfl, hi, k3, k6, k7, hT, hvb⟩
  simp only [k3, k6, k7, wf_preprocess, ↓reduceIte, Nat.reduceEqDiff, reduceCtorEq, Nat.reduceAdd, Nat.reduceMul, Nat.reduceLeDiff, Nat.reduceLT, Nat.reduceSub, Int.reduceToNat, Int.reduceNeg, Int.reduceAdd, Int.reduceSub, Int.reduceMul, Int.reduceEq, Int.reduceLT, Int.reduceLE, Int.reduceNe, forall_const, forall_eq', forall_eq, List.forall_mem_cons, List.not_mem_nil]
  refine call_i (Len_s hT.nds ?_)
  by_cases hin : (i : Int) < (L.length : Int)
  case neg =>
    simp only [k3, k6, k7, hin, wf_preprocess, ↓reduceIte, Nat.reduceEqDiff, reduceCtorEq, Nat.reduceAdd, Nat.reduceMul, Nat.reduceLeDiff, Nat.reduceLT, Nat.reduceSub, Int.reduceToNat, Int.reduceNeg, Int.reduceAdd, Int.reduceSub, Int.reduceMul, Int.reduceEq, Int.reduceLT, Int.reduceLE, Int.reduceNe, forall_const, forall_eq', forall_eq, List.forall_mem_cons, List.not_mem_nil]
    refine call_i (known_s ?_)
    simp only [wf_preprocess, ↓reduceIte, Nat.reduceEqDiff, reduceCtorEq, Nat.reduceAdd, Nat.reduceMul, Nat.reduceLeDiff, Nat.reduceLT, Nat.reduceSub, Int.reduceToNat, Int.reduceNeg, Int.reduceAdd, Int.reduceSub, Int.reduceMul, Int.reduceEq, Int.reduceLT, Int.reduceLE, Int.reduceNe, forall_const, forall_eq', forall_eq, List.forall_mem_cons, List.not_mem_nil]
  have w1 : IntKind.i64.wrap ((i : Int) + 1) = ((i + 1 : Nat) : Int) := wrap64 (by omega) (by omega)
  simp only [k3, k6, k7, hin, wf_preprocess, ↓reduceIte, Nat.reduceEqDiff, reduceCtorEq, Nat.reduceAdd, Nat.reduceMul, Nat.reduceLeDiff, Nat.reduceLT, Nat.reduceSub, Int.reduceToNat, Int.reduceNeg, Int.reduceAdd, Int.reduceSub, Int.reduceMul, Int.reduceEq, Int.reduceLT, Int.reduceLE, Int.reduceNe, forall_const, forall_eq', forall_eq, List.forall_mem_cons, List.not_mem_nil]
  refine call_i (Span_s (i := (i : Int)) ok hT fun a b hab => ?_)
  have hs : SpanAt L i a b := by
    rcases hab with ⟨h1, _⟩ | ⟨j, e, hj, hs⟩
    · rw [at_nat, List.getElem?_eq_getElem (show i < L.length by omega)] at h1; cases h1
    · have : i = j := by omega
      subst this; exact hs
  have l1 := hs.lt
  have l2 := hs.le
  have d1 : ¬ (b : Int) ≤ (a : Int) := by omega
  have d2 : ¬ ((leaves L).length : Int) < (b : Int) := by omega
  simp only [k3, k6, k7, d1, d2, onLst_len hvl, wf_preprocess, ↓reduceIte, Nat.reduceEqDiff, reduceCtorEq, Nat.reduceAdd, Nat.reduceMul, Nat.reduceLeDiff, Nat.reduceLT, Nat.reduceSub, Int.reduceToNat, Int.reduceNeg, Int.reduceAdd, Int.reduceSub, Int.reduceMul, Int.reduceEq, Int.reduceLT, Int.reduceLE, Int.reduceNe, forall_const, forall_eq', forall_eq, List.forall_mem_cons, List.not_mem_nil]
  refine loop_i (fun kk ρ' m' => ∃ (c : Nat), kk = L.length - c ∧ c ≤ L.length ∧ ρ' 3 = .ptr T 0 ∧ ρ' 6 = v ∧ ρ' 7 = iv i ∧ ρ' 8 = iv a ∧ ρ' 9 = iv b ∧ ρ' 10 = iv c ∧ m' = m3) L.length ⟨0, rfl, by omega, ?_⟩ ?_
  · simp only [k3, k6, k7, wf_preprocess, ↓reduceIte, Nat.reduceEqDiff, reduceCtorEq, Nat.reduceAdd, Nat.reduceMul, Nat.reduceLeDiff, Nat.reduceLT, Nat.reduceSub, Int.reduceToNat, Int.reduceNeg, Int.reduceAdd, Int.reduceSub, Int.reduceMul, Int.reduceEq, Int.reduceLT, Int.reduceLE, Int.reduceNe, forall_const, forall_eq', forall_eq, List.forall_mem_cons, List.not_mem_nil]
  rintro kk ρ' m4 ⟨c, rfl, hc, j3, j6, j7, j8, j9, j10, rfl⟩
  simp only [j3, j6, j7, j8, j9, j10, wf_preprocess, ↓reduceIte, Nat.reduceEqDiff, reduceCtorEq, Nat.reduceAdd, Nat.reduceMul, Nat.reduceLeDiff, Nat.reduceLT, Nat.reduceSub, Int.reduceToNat, Int.reduceNeg, Int.reduceAdd, Int.reduceSub, Int.reduceMul, Int.reduceEq, Int.reduceLT, Int.reduceLE, Int.reduceNe, forall_const, forall_eq', forall_eq, List.forall_mem_cons, List.not_mem_nil]
  refine call_i (Len_s hT.nds ?_)
  by_cases hcn : (c : Int) < (L.length : Int)
  · have w2 : IntKind.i64.wrap ((c : Int) + 1) = ((c + 1 : Nat) : Int) := wrap64 (by omega) (by omega)
    simp only [j3, j6, j7, j8, j9, j10, hcn, wf_preprocess, ↓reduceIte, Nat.reduceEqDiff, reduceCtorEq, Nat.reduceAdd, Nat.reduceMul, Nat.reduceLeDiff, Nat.reduceLT, Nat.reduceSub, Int.reduceToNat, Int.reduceNeg, Int.reduceAdd, Int.reduceSub, Int.reduceMul, Int.reduceEq, Int.reduceLT, Int.reduceLE, Int.reduceNe, forall_const, forall_eq', forall_eq, List.forall_mem_cons, List.not_mem_nil]
    refine call_i (Span_s (i := (c : Int)) ok hT fun a2 b2 hab2 => ?_)
    have hs2 : SpanAt L c a2 b2 := by
      rcases hab2 with ⟨h1, _⟩ | ⟨j, e, hj, hs⟩
      · rw [at_nat, List.getElem?_eq_getElem (show c < L.length by omega)] at h1; cases h1
      · have : c = j := by omega
        subst this; exact hs
    have hn := span_nest ok hs hs2
    have fin : ∃ k', k' < L.length - c ∧ ∃ c', k' = L.length - c' ∧ c' ≤ L.length ∧ iv ((c + 1 : Nat) : Int) = iv c' := ⟨L.length - (c + 1), by omega, c + 1, rfl, by omega, rfl⟩
    by_cases q1 : (a2 : Int) ≤ (a : Int)
    · by_cases q2 : (b : Int) ≤ (b2 : Int)
      · simp only [j3, j6, j7, j8, j9, j10, q1, q2, w2, wf_preprocess, ↓reduceIte, Nat.reduceEqDiff, reduceCtorEq, Nat.reduceAdd, Nat.reduceMul, Nat.reduceLeDiff, Nat.reduceLT, Nat.reduceSub, Int.reduceToNat, Int.reduceNeg, Int.reduceAdd, Int.reduceSub, Int.reduceMul, Int.reduceEq, Int.reduceLT, Int.reduceLE, Int.reduceNe, forall_const, forall_eq', forall_eq, List.forall_mem_cons, List.not_mem_nil]
        exact fin
      · by_cases q3 : (a : Int) ≤ (a2 : Int)
        · by_cases q4 : (b2 : Int) ≤ (b : Int)
          · simp only [j3, j6, j7, j8, j9, j10, q1, q2, q3, q4, w2, wf_preprocess, ↓reduceIte, Nat.reduceEqDiff, reduceCtorEq, Nat.reduceAdd, Nat.reduceMul, Nat.reduceLeDiff, Nat.reduceLT, Nat.reduceSub, Int.reduceToNat, Int.reduceNeg, Int.reduceAdd, Int.reduceSub, Int.reduceMul, Int.reduceEq, Int.reduceLT, Int.reduceLE, Int.reduceNe, forall_const, forall_eq', forall_eq, List.forall_mem_cons, List.not_mem_nil]
            exact fin
          · exact absurd q2 (by omega)
        · have q6 : (b2 : Int) ≤ (a : Int) := by omega
          by_cases q5 : (b : Int) ≤ (a2 : Int)
          · simp only [j3, j6, j7, j8, j9, j10, q1, q2, q3, q5, w2, wf_preprocess, ↓reduceIte, Nat.reduceEqDiff, reduceCtorEq, Nat.reduceAdd, Nat.reduceMul, Nat.reduceLeDiff, Nat.reduceLT, Nat.reduceSub, Int.reduceToNat, Int.reduceNeg, Int.reduceAdd, Int.reduceSub, Int.reduceMul, Int.reduceEq, Int.reduceLT, Int.reduceLE, Int.reduceNe, forall_const, forall_eq', forall_eq, List.forall_mem_cons, List.not_mem_nil]
            exact fin
          · simp only [j3, j6, j7, j8, j9, j10, q1, q2, q3, q5, q6, w2, wf_preprocess, ↓reduceIte, Nat.reduceEqDiff, reduceCtorEq, Nat.reduceAdd, Nat.reduceMul, Nat.reduceLeDiff, Nat.reduceLT, Nat.reduceSub, Int.reduceToNat, Int.reduceNeg, Int.reduceAdd, Int.reduceSub, Int.reduceMul, Int.reduceEq, Int.reduceLT, Int.reduceLE, Int.reduceNe, forall_const, forall_eq', forall_eq, List.forall_mem_cons, List.not_mem_nil]
            exact fin
    · have q3 : (a : Int) ≤ (a2 : Int) := by omega
      by_cases q4 : (b2 : Int) ≤ (b : Int)
      · simp only [j3, j6, j7, j8, j9, j10, q1, q3, q4, w2, wf_preprocess, ↓reduceIte, Nat.reduceEqDiff, reduceCtorEq, Nat.reduceAdd, Nat.reduceMul, Nat.reduceLeDiff, Nat.reduceLT, Nat.reduceSub, Int.reduceToNat, Int.reduceNeg, Int.reduceAdd, Int.reduceSub, Int.reduceMul, Int.reduceEq, Int.reduceLT, Int.reduceLE, Int.reduceNe, forall_const, forall_eq', forall_eq, List.forall_mem_cons, List.not_mem_nil]
        exact fin
      · have q5 : (b : Int) ≤ (a2 : Int) := by omega
        simp only [j3, j6, j7, j8, j9, j10, q1, q3, q4, q5, w2, wf_preprocess, ↓reduceIte, Nat.reduceEqDiff, reduceCtorEq, Nat.reduceAdd, Nat.reduceMul, Nat.reduceLeDiff, Nat.reduceLT, Nat.reduceSub, Int.reduceToNat, Int.reduceNeg, Int.reduceAdd, Int.reduceSub, Int.reduceMul, Int.reduceEq, Int.reduceLT, Int.reduceLE, Int.reduceNe, forall_const, forall_eq', forall_eq, List.forall_mem_cons, List.not_mem_nil]
        exact fin
  · simp only [j3, j6, j7, j8, j9, j10, hcn, wf_preprocess, ↓reduceIte, Nat.reduceEqDiff, reduceCtorEq, Nat.reduceAdd, Nat.reduceMul, Nat.reduceLeDiff, Nat.reduceLT, Nat.reduceSub, Int.reduceToNat, Int.reduceNeg, Int.reduceAdd, Int.reduceSub, Int.reduceMul, Int.reduceEq, Int.reduceLT, Int.reduceLE, Int.reduceNe, forall_const, forall_eq', forall_eq, List.forall_mem_cons, List.not_mem_nil]
    refine loop_i (fun kk ρ2 m' => ∃ (n : Nat), kk = (leaves L).length - n ∧ n ≤ (leaves L).length ∧ ρ2 3 = .ptr T 0 ∧ ρ2 6 = v ∧ ρ2 7 = iv i ∧ ρ2 8 = iv a ∧ ρ2 9 = iv b ∧ ρ2 13 = iv n ∧ Tr L m' T ∧ BufI .i64 (il (leaves L)) v m') (leaves L).length ⟨0, rfl, by omega, ?_⟩ ?_
    · simp only [j3, j6, j7, j8, j9, wf_preprocess, ↓reduceIte, Nat.reduceEqDiff, reduceCtorEq, Nat.reduceAdd, Nat.reduceMul, Nat.reduceLeDiff, Nat.reduceLT, Nat.reduceSub, Int.reduceToNat, Int.reduceNeg, Int.reduceAdd, Int.reduceSub, Int.reduceMul, Int.reduceEq, Int.reduceLT, Int.reduceLE, Int.reduceNe, forall_const, forall_eq', forall_eq, List.forall_mem_cons, List.not_mem_nil]
      exact ⟨hT, hvb⟩
    clear hT hvb
    rintro kk ρ2 m5 ⟨n, rfl, hn, i3, i6, i7, i8, i9, i13, hT, hvb⟩
    by_cases hnl : (n : Int) < ((leaves L).length : Int)
    · obtain ⟨x, hx⟩ : ∃ x, (leaves L)[n]? = some x := ⟨_, List.getElem?_eq_getElem (by omega)⟩
      have w3 : IntKind.i64.wrap ((n : Int) + 1) = ((n + 1 : Nat) : Int) := wrap64 (by omega) (by omega)
      have hiff := hs.iff n x hx
      have hdec : decide ((i : Int) ∈ il (ab L (x : Int))) = decide (a ≤ n ∧ n < b) := by
        rw [decide_eq_decide, hiff]
        constructor
        · intro hm
          obtain ⟨z, hz, e⟩ := List.mem_map.1 hm
          have : z = i := by omega
          rwa [this] at hz
        · exact fun hm => List.mem_map.2 ⟨i, hm, rfl⟩
      have fin : ∀ m', Tr L m' T → BufI .i64 (il (leaves L)) v m' → ∃ k', k' < (leaves L).length - n ∧ ∃ n', k' = (leaves L).length - n' ∧ n' ≤ (leaves L).length ∧ iv ((n + 1 : Nat) : Int) = iv n' ∧ Tr L m' T ∧ BufI .i64 (il (leaves L)) v m' := fun m' q1 q2 => ⟨(leaves L).length - (n + 1), by omega, n + 1, rfl, by omega, rfl, q1, q2⟩
      by_cases q1 : (a : Int) ≤ (n : Int)
      · by_cases q2 : (n : Int) < (b : Int)
        · have hd : decide (a ≤ n ∧ n < b) = true := decide_eq_true (by omega)
          simp only [i3, i6, i7, i8, i9, i13, hnl, q1, q2, onLst_len hvl, Int.natCast_nonneg, wf_preprocess, ↓reduceIte, Nat.reduceEqDiff, reduceCtorEq, Nat.reduceAdd, Nat.reduceMul, Nat.reduceLeDiff, Nat.reduceLT, Nat.reduceSub, Int.reduceToNat, Int.reduceNeg, Int.reduceAdd, Int.reduceSub, Int.reduceMul, Int.reduceEq, Int.reduceLT, Int.reduceLE, Int.reduceNe, forall_const, forall_eq', forall_eq, List.forall_mem_cons, List.not_mem_nil]
          refine Ei.idx (n := (n : Int)) (BufI.ei hvb) (by omega) (by simpa using il_get hx) fun a1 r1 ha1 => ?_
          simp only [i3, i6, i7, i8, i9, i13, ha1, wf_preprocess, ↓reduceIte, Nat.reduceEqDiff, reduceCtorEq, Nat.reduceAdd, Nat.reduceMul, Nat.reduceLeDiff, Nat.reduceLT, Nat.reduceSub, Int.reduceToNat, Int.reduceNeg, Int.reduceAdd, Int.reduceSub, Int.reduceMul, Int.reduceEq, Int.reduceLT, Int.reduceLE, Int.reduceNe, forall_const, forall_eq', forall_eq, List.forall_mem_cons, List.not_mem_nil]
          refine call_i (Within_s hT.nds ok.fin (by omega) fun m6 he6 => ?_)
          rw [hdec, hd]
          simp only [i3, i6, i7, i8, i9, i13, w3, wf_preprocess, ↓reduceIte, Nat.reduceEqDiff, reduceCtorEq, Nat.reduceAdd, Nat.reduceMul, Nat.reduceLeDiff, Nat.reduceLT, Nat.reduceSub, Int.reduceToNat, Int.reduceNeg, Int.reduceAdd, Int.reduceSub, Int.reduceMul, Int.reduceEq, Int.reduceLT, Int.reduceLE, Int.reduceNe, forall_const, forall_eq', forall_eq, List.forall_mem_cons, List.not_mem_nil]
          exact fin m6 (hT.ext he6) (hvb.ext he6 (by simp))
        · have hd : decide (a ≤ n ∧ n < b) = false := decide_eq_false (by omega)
          simp only [i3, i6, i7, i8, i9, i13, hnl, q1, q2, onLst_len hvl, Int.natCast_nonneg, wf_preprocess, ↓reduceIte, Nat.reduceEqDiff, reduceCtorEq, Nat.reduceAdd, Nat.reduceMul, Nat.reduceLeDiff, Nat.reduceLT, Nat.reduceSub, Int.reduceToNat, Int.reduceNeg, Int.reduceAdd, Int.reduceSub, Int.reduceMul, Int.reduceEq, Int.reduceLT, Int.reduceLE, Int.reduceNe, forall_const, forall_eq', forall_eq, List.forall_mem_cons, List.not_mem_nil]
          refine Ei.idx (n := (n : Int)) (BufI.ei hvb) (by omega) (by simpa using il_get hx) fun a1 r1 ha1 => ?_
          simp only [i3, i6, i7, i8, i9, i13, ha1, wf_preprocess, ↓reduceIte, Nat.reduceEqDiff, reduceCtorEq, Nat.reduceAdd, Nat.reduceMul, Nat.reduceLeDiff, Nat.reduceLT, Nat.reduceSub, Int.reduceToNat, Int.reduceNeg, Int.reduceAdd, Int.reduceSub, Int.reduceMul, Int.reduceEq, Int.reduceLT, Int.reduceLE, Int.reduceNe, forall_const, forall_eq', forall_eq, List.forall_mem_cons, List.not_mem_nil]
          refine call_i (Within_s hT.nds ok.fin (by omega) fun m6 he6 => ?_)
          rw [hdec, hd]
          simp only [i3, i6, i7, i8, i9, i13, w3, wf_preprocess, ↓reduceIte, Nat.reduceEqDiff, reduceCtorEq, Nat.reduceAdd, Nat.reduceMul, Nat.reduceLeDiff, Nat.reduceLT, Nat.reduceSub, Int.reduceToNat, Int.reduceNeg, Int.reduceAdd, Int.reduceSub, Int.reduceMul, Int.reduceEq, Int.reduceLT, Int.reduceLE, Int.reduceNe, forall_const, forall_eq', forall_eq, List.forall_mem_cons, List.not_mem_nil]
          exact fin m6 (hT.ext he6) (hvb.ext he6 (by simp))
      · have hd : decide (a ≤ n ∧ n < b) = false := decide_eq_false (by omega)
        simp only [i3, i6, i7, i8, i9, i13, hnl, q1, onLst_len hvl, Int.natCast_nonneg, wf_preprocess, ↓reduceIte, Nat.reduceEqDiff, reduceCtorEq, Nat.reduceAdd, Nat.reduceMul, Nat.reduceLeDiff, Nat.reduceLT, Nat.reduceSub, Int.reduceToNat, Int.reduceNeg, Int.reduceAdd, Int.reduceSub, Int.reduceMul, Int.reduceEq, Int.reduceLT, Int.reduceLE, Int.reduceNe, forall_const, forall_eq', forall_eq, List.forall_mem_cons, List.not_mem_nil]
        refine Ei.idx (n := (n : Int)) (BufI.ei hvb) (by omega) (by simpa using il_get hx) fun a1 r1 ha1 => ?_
        simp only [i3, i6, i7, i8, i9, i13, ha1, wf_preprocess, ↓reduceIte, Nat.reduceEqDiff, reduceCtorEq, Nat.reduceAdd, Nat.reduceMul, Nat.reduceLeDiff, Nat.reduceLT, Nat.reduceSub, Int.reduceToNat, Int.reduceNeg, Int.reduceAdd, Int.reduceSub, Int.reduceMul, Int.reduceEq, Int.reduceLT, Int.reduceLE, Int.reduceNe, forall_const, forall_eq', forall_eq, List.forall_mem_cons, List.not_mem_nil]
        refine call_i (Within_s hT.nds ok.fin (by omega) fun m6 he6 => ?_)
        rw [hdec, hd]
        simp only [i3, i6, i7, i8, i9, i13, w3, wf_preprocess, ↓reduceIte, Nat.reduceEqDiff, reduceCtorEq, Nat.reduceAdd, Nat.reduceMul, Nat.reduceLeDiff, Nat.reduceLT, Nat.reduceSub, Int.reduceToNat, Int.reduceNeg, Int.reduceAdd, Int.reduceSub, Int.reduceMul, Int.reduceEq, Int.reduceLT, Int.reduceLE, Int.reduceNe, forall_const, forall_eq', forall_eq, List.forall_mem_cons, List.not_mem_nil]
        exact fin m6 (hT.ext he6) (hvb.ext he6 (by simp))
    · simp only [i3, i6, i7, i8, i9, i13, hnl, w1, onLst_len hvl, wf_preprocess, ↓reduceIte, Nat.reduceEqDiff, reduceCtorEq, Nat.reduceAdd, Nat.reduceMul, Nat.reduceLeDiff, Nat.reduceLT, Nat.reduceSub, Int.reduceToNat, Int.reduceNeg, Int.reduceAdd, Int.reduceSub, Int.reduceMul, Int.reduceEq, Int.reduceLT, Int.reduceLE, Int.reduceNe, forall_const, forall_eq', forall_eq, List.forall_mem_cons, List.not_mem_nil]
      exact ⟨L.length - (i + 1), by omega, i + 1, rfl, by omega, rfl, hT, hvb⟩
end Go.Proofs.Ytceahampebofbaa.Moi.Tree
