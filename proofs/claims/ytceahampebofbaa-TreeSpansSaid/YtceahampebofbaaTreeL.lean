/- What functions of this program do, on plain values: a part of the proofs of this seat's laws; each theorem bears its own conditions. -/
import Derived.Test.YtceahampebofbaaTreeK
set_option linter.unusedVariables false
set_option linter.unusedSimpArgs false
set_option maxRecDepth 1000000
namespace Go.Proofs.Ytceahampebofbaa.Moi.Tree
open Go Go.RowKit Go.Proofs.Ytceahampebofbaa.Moi
attribute [-wf_preprocess] ite_eq_dite forIn_eq_forIn'

section
variable {L : List Nd} {m m' m0 : Heap} {T N cN M K S : Nat} {r ks : List AV} {vo vl y : AV} {Sp : Sp2} {Q E : AV → Heap → Prop} {i : Int}
theorem rKids_s (h : Nds L m T) (hl : L.length ≤ 1000) (k : ∀ v m', Own' m m' v (il (kidsA L i)) → Q v m') : ACall Try.prog 26 [.ptr T 0, iv i] m Q E := by
  unfold kidsA at k
  refine acall_fn mixed Try.func26 Try.call26 e26 r26 (Nat.le_of_ble_eq_true rfl) ?_
  simp only [n26, wf_preprocess, ↓reduceIte, Nat.reduceEqDiff, reduceCtorEq, Nat.reduceAdd, Nat.reduceMul, Nat.reduceLeDiff, Nat.reduceLT, Nat.reduceSub, Int.reduceToNat, Int.reduceNeg, Int.reduceAdd, Int.reduceSub, Int.reduceMul, Int.reduceEq, Int.reduceLT, Int.reduceLE, Int.reduceNe, forall_const, forall_eq', forall_eq, List.forall_mem_cons, List.not_mem_nil]
  cases ha : at? L i with
  | none =>
    rw [ha] at k
    have k := k _ m Own'.nil
    obtain ⟨N, cN, fs, r, h1, h2, _⟩ := id h
    refine loop_i (fun kk ρ m' => ρ 0 = .ptr T 0 ∧ ρ 1 = iv i ∧ ρ 5 = .lst [] .nil ∧ ρ 6 = iv 0 ∧ m' = m) 0 ?_ ?_
    · simp only [wf_preprocess, ↓reduceIte, Nat.reduceEqDiff, reduceCtorEq, Nat.reduceAdd, Nat.reduceMul, Nat.reduceLeDiff, Nat.reduceLT, Nat.reduceSub, Int.reduceToNat, Int.reduceNeg, Int.reduceAdd, Int.reduceSub, Int.reduceMul, Int.reduceEq, Int.reduceLT, Int.reduceLE, Int.reduceNe, forall_const, forall_eq', forall_eq, List.forall_mem_cons, List.not_mem_nil]
    rintro kk ρ m' ⟨g0, g1, g5, g6, rfl⟩
    by_cases hn : (0 : Int) < (L.length : Int)
    · simp only [g0, g1, g5, g6, h1, hn, wf_preprocess, ↓reduceIte, Nat.reduceEqDiff, reduceCtorEq, Nat.reduceAdd, Nat.reduceMul, Nat.reduceLeDiff, Nat.reduceLT, Nat.reduceSub, Int.reduceToNat, Int.reduceNeg, Int.reduceAdd, Int.reduceSub, Int.reduceMul, Int.reduceEq, Int.reduceLT, Int.reduceLE, Int.reduceNe, forall_const, forall_eq', forall_eq, List.forall_mem_cons, List.not_mem_nil]
      refine call_i (ris_s h ?_)
      simp only [g0, g1, g5, g6, ha, Option.isSome_none, wf_preprocess, ↓reduceIte, Nat.reduceEqDiff, reduceCtorEq, Nat.reduceAdd, Nat.reduceMul, Nat.reduceLeDiff, Nat.reduceLT, Nat.reduceSub, Int.reduceToNat, Int.reduceNeg, Int.reduceAdd, Int.reduceSub, Int.reduceMul, Int.reduceEq, Int.reduceLT, Int.reduceLE, Int.reduceNe, forall_const, forall_eq', forall_eq, List.forall_mem_cons, List.not_mem_nil]
      exact k
    · simp only [g0, g1, g5, g6, h1, hn, wf_preprocess, ↓reduceIte, Nat.reduceEqDiff, reduceCtorEq, Nat.reduceAdd, Nat.reduceMul, Nat.reduceLeDiff, Nat.reduceLT, Nat.reduceSub, Int.reduceToNat, Int.reduceNeg, Int.reduceAdd, Int.reduceSub, Int.reduceMul, Int.reduceEq, Int.reduceLT, Int.reduceLE, Int.reduceNe, forall_const, forall_eq', forall_eq, List.forall_mem_cons, List.not_mem_nil]
      exact k
  | some p =>
    rw [ha] at k
    simp only [Option.isSome_some, if_true] at k
    obtain ⟨a0, a1, a2⟩ := at_some ha
    obtain ⟨u, rfl⟩ := Int.eq_ofNat_of_zero_le a0
    rw [Int.toNat_natCast, ← kidsTo_all] at k
    refine loop_i (fun kk ρ m' => ∃ (j : Nat) (v : AV), kk = L.length - j ∧ j ≤ L.length ∧ Own' m m' v (il (kidsTo L j u)) ∧ ρ 0 = .ptr T 0 ∧ ρ 1 = iv u ∧ ρ 5 = v ∧ ρ 6 = iv j) L.length ⟨0, .lst [] .nil, rfl, by omega, Own'.nil, ?_⟩ ?_
    · simp only [wf_preprocess, ↓reduceIte, Nat.reduceEqDiff, reduceCtorEq, Nat.reduceAdd, Nat.reduceMul, Nat.reduceLeDiff, Nat.reduceLT, Nat.reduceSub, Int.reduceToNat, Int.reduceNeg, Int.reduceAdd, Int.reduceSub, Int.reduceMul, Int.reduceEq, Int.reduceLT, Int.reduceLE, Int.reduceNe, forall_const, forall_eq', forall_eq, List.forall_mem_cons, List.not_mem_nil]
    rintro kk ρ m' ⟨j, v, rfl, hj, ho, g0, g1, g5, g6⟩
    have hN := h.ext ho.ext
    obtain ⟨N, cN, fs, r, h1, h2, _⟩ := id hN
    by_cases hjn : (j : Int) < (L.length : Int)
    · obtain ⟨q, hq⟩ : ∃ q, L[j]? = some q := ⟨_, List.getElem?_eq_getElem (by omega)⟩
      have hup := upA_at hq
      have w1 : IntKind.i64.wrap ((j : Int) + 1) = ((j + 1 : Nat) : Int) := wrap64 (by omega) (by omega)
      have hkl : (kidsTo L j u).length ≤ j := by
        have := List.length_filter_le (fun k : Nat => decide (upA L k = (u : Int))) (List.range j)
        rwa [List.length_range] at this
      simp only [g0, g1, g5, g6, h1, hjn, wf_preprocess, ↓reduceIte, Nat.reduceEqDiff, reduceCtorEq, Nat.reduceAdd, Nat.reduceMul, Nat.reduceLeDiff, Nat.reduceLT, Nat.reduceSub, Int.reduceToNat, Int.reduceNeg, Int.reduceAdd, Int.reduceSub, Int.reduceMul, Int.reduceEq, Int.reduceLT, Int.reduceLE, Int.reduceNe, forall_const, forall_eq', forall_eq, List.forall_mem_cons, List.not_mem_nil]
      refine call_i (ris_s hN ?_)
      by_cases c : q.2 = (u : Int)
      · simp only [g0, g1, g5, g6, ha, Option.isSome_some, h1, h2, hjn, c, Int.natCast_nonneg, nc_drop1 hq, wf_preprocess, ↓reduceIte, Nat.reduceEqDiff, reduceCtorEq, Nat.reduceAdd, Nat.reduceMul, Nat.reduceLeDiff, Nat.reduceLT, Nat.reduceSub, Int.reduceToNat, Int.reduceNeg, Int.reduceAdd, Int.reduceSub, Int.reduceMul, Int.reduceEq, Int.reduceLT, Int.reduceLE, Int.reduceNe, forall_const, forall_eq', forall_eq, List.forall_mem_cons, List.not_mem_nil]
        refine app_bufI (l2 := il [j]) ho.buf rfl (by rw [il_len, il_len]; simp; omega) (by rw [maxLen_e, il_len, il_len]; simp; omega) fun v' m2 hb hx hn => ?_
        have ho' := ho.push hb hx hn
        simp only [g0, g1, g5, g6, w1, wf_preprocess, ↓reduceIte, Nat.reduceEqDiff, reduceCtorEq, Nat.reduceAdd, Nat.reduceMul, Nat.reduceLeDiff, Nat.reduceLT, Nat.reduceSub, Int.reduceToNat, Int.reduceNeg, Int.reduceAdd, Int.reduceSub, Int.reduceMul, Int.reduceEq, Int.reduceLT, Int.reduceLE, Int.reduceNe, forall_const, forall_eq', forall_eq, List.forall_mem_cons, List.not_mem_nil]
        refine ⟨L.length - (j + 1), by omega, j + 1, v', rfl, by omega, ?_, rfl, rfl⟩
        rw [kidsTo_succ, if_pos (by rw [hup]; exact c), il_app]
        exact ho'
      · simp only [g0, g1, g5, g6, ha, Option.isSome_some, h1, h2, hjn, c, w1, Int.natCast_nonneg, nc_drop1 hq, wf_preprocess, ↓reduceIte, Nat.reduceEqDiff, reduceCtorEq, Nat.reduceAdd, Nat.reduceMul, Nat.reduceLeDiff, Nat.reduceLT, Nat.reduceSub, Int.reduceToNat, Int.reduceNeg, Int.reduceAdd, Int.reduceSub, Int.reduceMul, Int.reduceEq, Int.reduceLT, Int.reduceLE, Int.reduceNe, forall_const, forall_eq', forall_eq, List.forall_mem_cons, List.not_mem_nil]
        refine ⟨L.length - (j + 1), by omega, j + 1, v, rfl, by omega, ?_, rfl, rfl⟩
        rw [kidsTo_succ, if_neg (by rw [hup]; exact c), List.append_nil]
        exact ho
    · obtain rfl : j = L.length := by omega
      simp only [g0, g1, g5, g6, h1, hjn, wf_preprocess, ↓reduceIte, Nat.reduceEqDiff, reduceCtorEq, Nat.reduceAdd, Nat.reduceMul, Nat.reduceLeDiff, Nat.reduceLT, Nat.reduceSub, Int.reduceToNat, Int.reduceNeg, Int.reduceAdd, Int.reduceSub, Int.reduceMul, Int.reduceEq, Int.reduceLT, Int.reduceLE, Int.reduceNe, forall_const, forall_eq', forall_eq, List.forall_mem_cons, List.not_mem_nil]
      exact k v m' ho
theorem rLeaf_s (h : Nds L m T) (hl : L.length ≤ 1000) (k : ∀ m', Ext [] m m' → Q (bo (leafA L i)) m') : ACall Try.prog 31 [.ptr T 0, iv i] m Q E := by
  unfold leafA isLeaf at k
  refine acall_fn mixed Try.func31 Try.call31 e31 r31 (Nat.le_of_ble_eq_true rfl) ?_
  simp only [n31, wf_preprocess, ↓reduceIte, Nat.reduceEqDiff, reduceCtorEq, Nat.reduceAdd, Nat.reduceMul, Nat.reduceLeDiff, Nat.reduceLT, Nat.reduceSub, Int.reduceToNat, Int.reduceNeg, Int.reduceAdd, Int.reduceSub, Int.reduceMul, Int.reduceEq, Int.reduceLT, Int.reduceLE, Int.reduceNe, forall_const, forall_eq', forall_eq, List.forall_mem_cons, List.not_mem_nil]
  refine call_i (ris_s h ?_)
  cases ha : at? L i with
  | none =>
    rw [ha] at k
    have := k m .rfl'
    simp only [Option.isSome_none, wf_preprocess, ↓reduceIte, Nat.reduceEqDiff, reduceCtorEq, Nat.reduceAdd, Nat.reduceMul, Nat.reduceLeDiff, Nat.reduceLT, Nat.reduceSub, Int.reduceToNat, Int.reduceNeg, Int.reduceAdd, Int.reduceSub, Int.reduceMul, Int.reduceEq, Int.reduceLT, Int.reduceLE, Int.reduceNe, forall_const, forall_eq', forall_eq, List.forall_mem_cons, List.not_mem_nil]
    exact this
  | some p =>
    rw [ha] at k
    simp only [Option.isSome_some, wf_preprocess, ↓reduceIte, Nat.reduceEqDiff, reduceCtorEq, Nat.reduceAdd, Nat.reduceMul, Nat.reduceLeDiff, Nat.reduceLT, Nat.reduceSub, Int.reduceToNat, Int.reduceNeg, Int.reduceAdd, Int.reduceSub, Int.reduceMul, Int.reduceEq, Int.reduceLT, Int.reduceLE, Int.reduceNe, forall_const, forall_eq', forall_eq, List.forall_mem_cons, List.not_mem_nil]
    refine call_i (rKids_s h hl fun v m' ho => ?_)
    have k := k m' ho.ext
    have hkl := (BufI.ei ho.buf).lenIs
    rw [il_len] at hkl
    unfold kidsA at hkl
    rw [ha] at hkl
    simp only [Option.isSome_some, if_true] at hkl
    by_cases c : kids L i.toNat = []
    · have c' : ((kids L i.toNat).length : Int) = 0 := by rw [c]; rfl
      rw [decide_eq_true c] at k
      simp only [onLst_len hkl, c', wf_preprocess, ↓reduceIte, Nat.reduceEqDiff, reduceCtorEq, Nat.reduceAdd, Nat.reduceMul, Nat.reduceLeDiff, Nat.reduceLT, Nat.reduceSub, Int.reduceToNat, Int.reduceNeg, Int.reduceAdd, Int.reduceSub, Int.reduceMul, Int.reduceEq, Int.reduceLT, Int.reduceLE, Int.reduceNe, forall_const, forall_eq', forall_eq, List.forall_mem_cons, List.not_mem_nil]
      exact k
    · have c' : ¬ ((kids L i.toNat).length : Int) = 0 := by
        have : (kids L i.toNat).length ≠ 0 := fun e => c (List.length_eq_zero_iff.1 e)
        omega
      rw [decide_eq_false c] at k
      simp only [onLst_len hkl, c', wf_preprocess, ↓reduceIte, Nat.reduceEqDiff, reduceCtorEq, Nat.reduceAdd, Nat.reduceMul, Nat.reduceLeDiff, Nat.reduceLT, Nat.reduceSub, Int.reduceToNat, Int.reduceNeg, Int.reduceAdd, Int.reduceSub, Int.reduceMul, Int.reduceEq, Int.reduceLT, Int.reduceLE, Int.reduceNe, forall_const, forall_eq', forall_eq, List.forall_mem_cons, List.not_mem_nil]
      exact k
/-- A list that is appended to: one's own buffer, or the first one. -/
def Out (m m' : Heap) (v : AV) (l : List Int) : Prop := Own' m m' v l ∨ (Ext [] m m' ∧ v = .lst (kl .i64 l) .full)
theorem Out.ei {v : AV} {l : List Int} (h : Out m m' v l) : Ei v m' l := by
  rcases h with h | ⟨_, rfl⟩
  · exact BufI.ei h.buf
  · exact Ei.lst fun e => by cases e
theorem Out.ext {v : AV} {l : List Int} (h : Out m m' v l) : Ext [] m m' := by
  rcases h with h | ⟨h, _⟩
  · exact h.ext
  · exact h
theorem Out.new {v : AV} {l : List Int} (h : Out m m' v l) : ∀ x ∈ refs v, x ∉ keys m := by
  rcases h with h | ⟨_, rfl⟩
  · exact h.new
  · simp [refs]
theorem Out.after {v : AV} {l : List Int} {m2 : Heap} (h : Out m m' v l) (he : Ext [] m' m2) : Out m m2 v l := by
  rcases h with h | ⟨h, rfl⟩
  · exact .inl ⟨h.ext.trans he, h.buf.ext he (by simp), h.new⟩
  · exact .inr ⟨h.trans he, rfl⟩
theorem app_out {v y : AV} {l l2 : List Int} {z : List AV} {K : AV → Heap → Prop} (h : Out m m' v l) (hy : Ei y m' l2) (hne : l2 ≠ []) (hl : l.length + l2.length ≤ 100000) (k : ∀ v' m2, Own' m m2 v' (l ++ l2) → Ext (refs v) m' m2 → (v' = v ∨ ∀ x ∈ refs v', x ∉ keys m') → K v' m2) : @onApp true none 8 z v y m' ⟨K⟩ := by
  rcases h with h | ⟨he, rfl⟩
  · exact app_bufI h.buf hy.at (by omega) (by rw [maxLen_e]; omega) fun v' m2 q1 q2 q3 => k v' m2 (h.push q1 q2 q3) q2 q3
  · refine app_m (.inr (.inl rfl)) hy.at (by simpa using hne) (sized_ints l2) (sized_ints l) (by simp; omega) (by rw [maxLen_e]; simp; omega) fun id cap rest hid hc hm hr hr1 => ?_
    rw [← kl_app, flat_ints]
    simp only [kl_len, Option.getD_none, Nat.mul_one] at hc hr ⊢
    have e : l.length + l2.length = (l ++ l2).length := by simp
    rw [e] at hc hr ⊢
    refine k _ _ ⟨he.trans (.new hid), BufI.mk hc hm hr hr1 get_new, fun x hx => ?_⟩ (.new hid) (.inr fun x hx => ?_)
    · simp only [refs, List.mem_singleton] at hx
      subst hx
      exact he.isNew hid (by simp)
    · simp only [refs, List.mem_singleton] at hx
      subst hx
      exact hid
theorem tr_len (ok : Ok L) {j : Nat} (hj : j < L.length) : (tr L j).length ≤ 32 := by
  have := pigeon (tr_nodup ok j hj) fun x hx => (mem_tr ok j x hj hx).1
  have := ok.le
  omega
theorem rdown_s (ok : Ok L) : ∀ j, j < L.length → ∀ (m : Heap) (Q E : AV → Heap → Prop), Nds L m T → (∀ v m', Out m m' v (il (tr L j)) → Q v m') → ACall Try.prog 44 [.ptr T 0, iv j, iv ((dp L j - 1 : Nat) : Int)] m Q E := by
  refine tr_ind ok fun j ih hj m Q E h k => ?_
  have hL := ok.le
  have hdp := dp_le ok (i := j)
  have hdp0 := dp_pos ok hj
  have htr := tr_eq ok (i := j)
  have hkid : kidsA L (j : Int) = kids L j := by
    unfold kidsA
    rw [at_nat, List.getElem?_eq_getElem hj, Int.toNat_natCast]
    simp only [Option.isSome_some, if_true]
  refine acall_fn mixed Try.func44 Try.call44 e44 r44 (Nat.le_of_ble_eq_true rfl) ?_
  simp only [n44, wf_preprocess, ↓reduceIte, Nat.reduceEqDiff, reduceCtorEq, Nat.reduceAdd, Nat.reduceMul, Nat.reduceLeDiff, Nat.reduceLT, Nat.reduceSub, Int.reduceToNat, Int.reduceNeg, Int.reduceAdd, Int.reduceSub, Int.reduceMul, Int.reduceEq, Int.reduceLT, Int.reduceLE, Int.reduceNe, forall_const, forall_eq', forall_eq, List.forall_mem_cons, List.not_mem_nil]
  refine call_i (rKids_s h (by omega) fun vk m1 hok => ?_)
  rw [hkid] at hok
  have hkl := (BufI.ei hok.buf).lenIs
  rw [il_len] at hkl
  have hkn := kids_len (L := L) (j := j)
  have hdeep : (((dp L j - 1 : Nat)) : Int) < 40 := by omega
  simp only [wf_preprocess, ↓reduceIte, Nat.reduceEqDiff, reduceCtorEq, Nat.reduceAdd, Nat.reduceMul, Nat.reduceLeDiff, Nat.reduceLT, Nat.reduceSub, Int.reduceToNat, Int.reduceNeg, Int.reduceAdd, Int.reduceSub, Int.reduceMul, Int.reduceEq, Int.reduceLT, Int.reduceLE, Int.reduceNe, forall_const, forall_eq', forall_eq, List.forall_mem_cons, List.not_mem_nil]
  refine loop_i (fun kk ρ m' => ∃ (a : Nat) (v : AV), kk = (kids L j).length - a ∧ a ≤ (kids L j).length ∧ Out m m' v (il (j :: ((kids L j).take a).flatMap (tr L))) ∧ BufI .i64 (il (kids L j)) vk m' ∧ (∀ x ∈ refs v, x ∉ refs vk) ∧ ρ 0 = .ptr T 0 ∧ ρ 2 = iv ((dp L j - 1 : Nat) : Int) ∧ ρ 7 = v ∧ ρ 8 = vk ∧ ρ 9 = iv a) (kids L j).length ⟨0, _, rfl, by omega, .inr ⟨hok.ext, rfl⟩, hok.buf, by simp [refs], ?_⟩ ?_
  · simp only [wf_preprocess, ↓reduceIte, Nat.reduceEqDiff, reduceCtorEq, Nat.reduceAdd, Nat.reduceMul, Nat.reduceLeDiff, Nat.reduceLT, Nat.reduceSub, Int.reduceToNat, Int.reduceNeg, Int.reduceAdd, Int.reduceSub, Int.reduceMul, Int.reduceEq, Int.reduceLT, Int.reduceLE, Int.reduceNe, forall_const, forall_eq', forall_eq, List.forall_mem_cons, List.not_mem_nil]
    rfl
  rintro kk ρ m2 ⟨a, v, rfl, ha, ho, hb, hsep, g0, g2, g7, g8, g9⟩
  by_cases han : (a : Int) < ((kids L j).length : Int)
  · obtain ⟨c, hc⟩ : ∃ c, (kids L j)[a]? = some c := ⟨_, List.getElem?_eq_getElem (by omega)⟩
    have hck := List.mem_of_getElem? hc
    have hcl := (kid_iff.1 hck).1
    have hdc := dp_kid ok hck
    have w1 : IntKind.i64.wrap ((a : Int) + 1) = ((a + 1 : Nat) : Int) := wrap64 (by omega) (by omega)
    have w2 : IntKind.i64.wrap ((((dp L j - 1 : Nat)) : Int) + 1) = (((dp L c - 1 : Nat)) : Int) := by rw [wrap64] <;> omega
    have htk : ((kids L j).take (a + 1)).flatMap (tr L) = ((kids L j).take a).flatMap (tr L) ++ tr L c := by
      rw [List.take_add_one, hc, List.flatMap_append]; simp
    have hne : il (tr L c) ≠ [] := by rw [tr_eq ok]; simp [il]
    have hlen : (j :: ((kids L j).take a).flatMap (tr L)).length ≤ 32 := by
      have e : tr L j = (j :: ((kids L j).take a).flatMap (tr L)) ++ ((kids L j).drop a).flatMap (tr L) := by
        rw [htr, List.cons_append, ← List.flatMap_append, List.take_append_drop]
      have := congrArg List.length e
      have := tr_len ok hj
      rw [List.length_append] at *
      omega
    have hlc := tr_len ok hcl
    simp only [g0, g2, g7, g8, g9, han, hdeep, onLst_len hkl, Int.natCast_nonneg, wf_preprocess, ↓reduceIte, Nat.reduceEqDiff, reduceCtorEq, Nat.reduceAdd, Nat.reduceMul, Nat.reduceLeDiff, Nat.reduceLT, Nat.reduceSub, Int.reduceToNat, Int.reduceNeg, Int.reduceAdd, Int.reduceSub, Int.reduceMul, Int.reduceEq, Int.reduceLT, Int.reduceLE, Int.reduceNe, forall_const, forall_eq', forall_eq, List.forall_mem_cons, List.not_mem_nil]
    refine Ei.idx (n := (a : Int)) (BufI.ei hb) (by omega) (by simpa using il_get hc) fun a1 r1 ha1 => ?_
    simp only [g0, g2, g7, g8, g9, ha1, w2, wf_preprocess, ↓reduceIte, Nat.reduceEqDiff, reduceCtorEq, Nat.reduceAdd, Nat.reduceMul, Nat.reduceLeDiff, Nat.reduceLT, Nat.reduceSub, Int.reduceToNat, Int.reduceNeg, Int.reduceAdd, Int.reduceSub, Int.reduceMul, Int.reduceEq, Int.reduceLT, Int.reduceLE, Int.reduceNe, forall_const, forall_eq', forall_eq, List.forall_mem_cons, List.not_mem_nil]
    refine call_i (ih c hck hcl m2 _ _ (h.ext ho.ext) fun v3 m3 ho3 => ?_)
    simp only [g0, g2, g7, g8, g9, wf_preprocess, ↓reduceIte, Nat.reduceEqDiff, reduceCtorEq, Nat.reduceAdd, Nat.reduceMul, Nat.reduceLeDiff, Nat.reduceLT, Nat.reduceSub, Int.reduceToNat, Int.reduceNeg, Int.reduceAdd, Int.reduceSub, Int.reduceMul, Int.reduceEq, Int.reduceLT, Int.reduceLE, Int.reduceNe, forall_const, forall_eq', forall_eq, List.forall_mem_cons, List.not_mem_nil]
    refine app_out (ho.after ho3.ext) ho3.ei hne (by rw [il_len, il_len]; omega) fun v4 m4 ho4 hx4 hn4 => ?_
    simp only [g0, g2, g7, g8, g9, w1, wf_preprocess, ↓reduceIte, Nat.reduceEqDiff, reduceCtorEq, Nat.reduceAdd, Nat.reduceMul, Nat.reduceLeDiff, Nat.reduceLT, Nat.reduceSub, Int.reduceToNat, Int.reduceNeg, Int.reduceAdd, Int.reduceSub, Int.reduceMul, Int.reduceEq, Int.reduceLT, Int.reduceLE, Int.reduceNe, forall_const, forall_eq', forall_eq, List.forall_mem_cons, List.not_mem_nil]
    refine ⟨(kids L j).length - (a + 1), by omega, a + 1, v4, rfl, by omega, ?_, ?_, ?_, rfl, rfl⟩
    · rw [htk, ← List.cons_append, il_app]
      exact .inl ho4
    · exact (hb.ext ho3.ext (by simp)).ext hx4 fun x hx hk => hsep x hk hx
    · rcases hn4 with rfl | hn4
      · exact hsep
      · exact fun x hx hk => hn4 x hx ((hb.ext ho3.ext (by simp)).inK x hk)
  · obtain rfl : a = (kids L j).length := by omega
    rw [List.take_length, ← htr] at ho
    simp only [g0, g2, g7, g8, g9, han, onLst_len hkl, wf_preprocess, ↓reduceIte, Nat.reduceEqDiff, reduceCtorEq, Nat.reduceAdd, Nat.reduceMul, Nat.reduceLeDiff, Nat.reduceLT, Nat.reduceSub, Int.reduceToNat, Int.reduceNeg, Int.reduceAdd, Int.reduceSub, Int.reduceMul, Int.reduceEq, Int.reduceLT, Int.reduceLE, Int.reduceNe, forall_const, forall_eq', forall_eq, List.forall_mem_cons, List.not_mem_nil]
    exact k v m2 ho
theorem rOrder_s (ok : Ok L) (h : Nds L m T) (k : ∀ v m', Own' m m' v (il (order L)) → Q v m') : ACall Try.prog 23 [.ptr T 0] m Q E := by
  have hL := ok.le
  refine acall_fn mixed Try.func23 Try.call23 e23 r23 (Nat.le_of_ble_eq_true rfl) ?_
  simp only [n23, wf_preprocess, ↓reduceIte, Nat.reduceEqDiff, reduceCtorEq, Nat.reduceAdd, Nat.reduceMul, Nat.reduceLeDiff, Nat.reduceLT, Nat.reduceSub, Int.reduceToNat, Int.reduceNeg, Int.reduceAdd, Int.reduceSub, Int.reduceMul, Int.reduceEq, Int.reduceLT, Int.reduceLE, Int.reduceNe, forall_const, forall_eq', forall_eq, List.forall_mem_cons, List.not_mem_nil]
  refine loop_i (fun kk ρ m' => ∃ (j : Nat) (v : AV), kk = L.length - j ∧ j ≤ L.length ∧ Own' m m' v (il (ordTo L j)) ∧ ρ 0 = .ptr T 0 ∧ ρ 3 = v ∧ ρ 4 = iv j) L.length ⟨0, .lst [] .nil, rfl, by omega, Own'.nil, ?_⟩ ?_
  · simp only [wf_preprocess, ↓reduceIte, Nat.reduceEqDiff, reduceCtorEq, Nat.reduceAdd, Nat.reduceMul, Nat.reduceLeDiff, Nat.reduceLT, Nat.reduceSub, Int.reduceToNat, Int.reduceNeg, Int.reduceAdd, Int.reduceSub, Int.reduceMul, Int.reduceEq, Int.reduceLT, Int.reduceLE, Int.reduceNe, forall_const, forall_eq', forall_eq, List.forall_mem_cons, List.not_mem_nil]
  rintro kk ρ m1 ⟨j, v, rfl, hj, ho, g0, g3, g4⟩
  have hN := h.ext ho.ext
  obtain ⟨N, cN, fs, r, h1, h2, _⟩ := id hN
  by_cases hjn : (j : Int) < (L.length : Int)
  · obtain ⟨q, hq⟩ : ∃ q, L[j]? = some q := ⟨_, List.getElem?_eq_getElem (by omega)⟩
    have hup := upA_at hq
    have w1 : IntKind.i64.wrap ((j : Int) + 1) = ((j + 1 : Nat) : Int) := wrap64 (by omega) (by omega)
    by_cases c : q.2 < 0
    · have hr : upA L j < 0 := by rw [hup]; exact c
      have hd1 : dp L j = 1 := root_dp ok (root_iff.2 ⟨by omega, hr⟩)
      have hd := rdown_s (T := T) ok j (by omega)
      rw [hd1] at hd
      have hl1 := (ordTo_nodup ok hj).2
      have hl2 := tr_len ok (j := j) (by omega)
      have hne : il (tr L j) ≠ [] := by rw [tr_eq ok]; simp [il]
      simp only [g0, g3, g4, h1, h2, hjn, c, Int.natCast_nonneg, nc_drop1 hq, wf_preprocess, ↓reduceIte, Nat.reduceEqDiff, reduceCtorEq, Nat.reduceAdd, Nat.reduceMul, Nat.reduceLeDiff, Nat.reduceLT, Nat.reduceSub, Int.reduceToNat, Int.reduceNeg, Int.reduceAdd, Int.reduceSub, Int.reduceMul, Int.reduceEq, Int.reduceLT, Int.reduceLE, Int.reduceNe, forall_const, forall_eq', forall_eq, List.forall_mem_cons, List.not_mem_nil]
      refine call_i (hd m1 _ _ hN fun v2 m2 ho2 => ?_)
      simp only [g0, g3, g4, wf_preprocess, ↓reduceIte, Nat.reduceEqDiff, reduceCtorEq, Nat.reduceAdd, Nat.reduceMul, Nat.reduceLeDiff, Nat.reduceLT, Nat.reduceSub, Int.reduceToNat, Int.reduceNeg, Int.reduceAdd, Int.reduceSub, Int.reduceMul, Int.reduceEq, Int.reduceLT, Int.reduceLE, Int.reduceNe, forall_const, forall_eq', forall_eq, List.forall_mem_cons, List.not_mem_nil]
      refine app_out (.inl (Own'.mk (ho.ext.trans ho2.ext) (ho.buf.ext ho2.ext (by simp)) ho.new)) ho2.ei hne (by rw [il_len, il_len]; omega) fun v3 m3 ho3 _ _ => ?_
      simp only [g0, g3, g4, w1, wf_preprocess, ↓reduceIte, Nat.reduceEqDiff, reduceCtorEq, Nat.reduceAdd, Nat.reduceMul, Nat.reduceLeDiff, Nat.reduceLT, Nat.reduceSub, Int.reduceToNat, Int.reduceNeg, Int.reduceAdd, Int.reduceSub, Int.reduceMul, Int.reduceEq, Int.reduceLT, Int.reduceLE, Int.reduceNe, forall_const, forall_eq', forall_eq, List.forall_mem_cons, List.not_mem_nil]
      refine ⟨L.length - (j + 1), by omega, j + 1, v3, rfl, by omega, by rw [ordTo_root hr, il_app]; exact ho3, rfl, rfl⟩
    · have hr : ¬ upA L j < 0 := by rw [hup]; exact c
      simp only [g0, g3, g4, h1, h2, hjn, c, w1, Int.natCast_nonneg, nc_drop1 hq, wf_preprocess, ↓reduceIte, Nat.reduceEqDiff, reduceCtorEq, Nat.reduceAdd, Nat.reduceMul, Nat.reduceLeDiff, Nat.reduceLT, Nat.reduceSub, Int.reduceToNat, Int.reduceNeg, Int.reduceAdd, Int.reduceSub, Int.reduceMul, Int.reduceEq, Int.reduceLT, Int.reduceLE, Int.reduceNe, forall_const, forall_eq', forall_eq, List.forall_mem_cons, List.not_mem_nil]
      exact ⟨L.length - (j + 1), by omega, j + 1, v, rfl, by omega, by rw [ordTo_other hr]; exact ho, rfl, rfl⟩
  · obtain rfl : j = L.length := by omega
    rw [ordTo_all] at ho
    simp only [g0, g3, g4, h1, hjn, wf_preprocess, ↓reduceIte, Nat.reduceEqDiff, reduceCtorEq, Nat.reduceAdd, Nat.reduceMul, Nat.reduceLeDiff, Nat.reduceLT, Nat.reduceSub, Int.reduceToNat, Int.reduceNeg, Int.reduceAdd, Int.reduceSub, Int.reduceMul, Int.reduceEq, Int.reduceLT, Int.reduceLE, Int.reduceNe, forall_const, forall_eq', forall_eq, List.forall_mem_cons, List.not_mem_nil]
    exact k v m1 ho
theorem rLeaves_s (ok : Ok L) (h : Nds L m T) (k : ∀ v m', Own' m m' v (il (leaves L)) → Q v m') : ACall Try.prog 24 [.ptr T 0] m Q E := by
  have hL := ok.le
  have hlo := (lens ok).1
  refine acall_fn mixed Try.func24 Try.call24 e24 r24 (Nat.le_of_ble_eq_true rfl) ?_
  simp only [n24, wf_preprocess, ↓reduceIte, Nat.reduceEqDiff, reduceCtorEq, Nat.reduceAdd, Nat.reduceMul, Nat.reduceLeDiff, Nat.reduceLT, Nat.reduceSub, Int.reduceToNat, Int.reduceNeg, Int.reduceAdd, Int.reduceSub, Int.reduceMul, Int.reduceEq, Int.reduceLT, Int.reduceLE, Int.reduceNe, forall_const, forall_eq', forall_eq, List.forall_mem_cons, List.not_mem_nil]
  refine call_i (rOrder_s ok h fun vo m1 hoo => ?_)
  have hol := (BufI.ei hoo.buf).lenIs
  rw [il_len] at hol
  simp only [wf_preprocess, ↓reduceIte, Nat.reduceEqDiff, reduceCtorEq, Nat.reduceAdd, Nat.reduceMul, Nat.reduceLeDiff, Nat.reduceLT, Nat.reduceSub, Int.reduceToNat, Int.reduceNeg, Int.reduceAdd, Int.reduceSub, Int.reduceMul, Int.reduceEq, Int.reduceLT, Int.reduceLE, Int.reduceNe, forall_const, forall_eq', forall_eq, List.forall_mem_cons, List.not_mem_nil]
  refine loop_i (fun kk ρ m' => ∃ (j : Nat) (v : AV), kk = (order L).length - j ∧ j ≤ (order L).length ∧ Own' m1 m' v (il (lf L ((order L).take j))) ∧ ρ 0 = .ptr T 0 ∧ ρ 3 = v ∧ ρ 4 = vo ∧ ρ 5 = iv j) (order L).length ⟨0, .lst [] .nil, rfl, by omega, Own'.nil, ?_⟩ ?_
  · simp only [wf_preprocess, ↓reduceIte, Nat.reduceEqDiff, reduceCtorEq, Nat.reduceAdd, Nat.reduceMul, Nat.reduceLeDiff, Nat.reduceLT, Nat.reduceSub, Int.reduceToNat, Int.reduceNeg, Int.reduceAdd, Int.reduceSub, Int.reduceMul, Int.reduceEq, Int.reduceLT, Int.reduceLE, Int.reduceNe, forall_const, forall_eq', forall_eq, List.forall_mem_cons, List.not_mem_nil]
  rintro kk ρ m2 ⟨j, v, rfl, hj, ho, g0, g3, g4, g5⟩
  have hN := (h.ext hoo.ext).ext ho.ext
  have hbo := hoo.buf.ext ho.ext (by simp)
  by_cases hjn : (j : Int) < ((order L).length : Int)
  · obtain ⟨c, hc⟩ : ∃ c, (order L)[j]? = some c := ⟨_, List.getElem?_eq_getElem (by omega)⟩
    have hcl := order_lt ok (List.mem_of_getElem? hc)
    have hlc : leafA L (c : Int) = isLeaf L c := by
      unfold leafA
      rw [at_nat, List.getElem?_eq_getElem hcl, Int.toNat_natCast]; rfl
    have w1 : IntKind.i64.wrap ((j : Int) + 1) = ((j + 1 : Nat) : Int) := wrap64 (by omega) (by omega)
    have hlt : lf L ((order L).take (j + 1)) = lf L ((order L).take j) ++ if isLeaf L c = true then [c] else [] := by
      rw [List.take_add_one, hc, lf_app]
      congr 1
      unfold lf
      cases hb : isLeaf L c <;> simp [hb]
    have hll : (lf L ((order L).take j)).length ≤ 32 := by
      have := List.length_filter_le (isLeaf L) ((order L).take j)
      rw [List.length_take] at this
      unfold lf
      omega
    simp only [g0, g3, g4, g5, hjn, onLst_len hol, Int.natCast_nonneg, wf_preprocess, ↓reduceIte, Nat.reduceEqDiff, reduceCtorEq, Nat.reduceAdd, Nat.reduceMul, Nat.reduceLeDiff, Nat.reduceLT, Nat.reduceSub, Int.reduceToNat, Int.reduceNeg, Int.reduceAdd, Int.reduceSub, Int.reduceMul, Int.reduceEq, Int.reduceLT, Int.reduceLE, Int.reduceNe, forall_const, forall_eq', forall_eq, List.forall_mem_cons, List.not_mem_nil]
    refine Ei.idx (n := (j : Int)) (BufI.ei hbo) (by omega) (by simpa using il_get hc) fun a1 r1 ha1 => ?_
    simp only [g0, g3, g4, g5, ha1, wf_preprocess, ↓reduceIte, Nat.reduceEqDiff, reduceCtorEq, Nat.reduceAdd, Nat.reduceMul, Nat.reduceLeDiff, Nat.reduceLT, Nat.reduceSub, Int.reduceToNat, Int.reduceNeg, Int.reduceAdd, Int.reduceSub, Int.reduceMul, Int.reduceEq, Int.reduceLT, Int.reduceLE, Int.reduceNe, forall_const, forall_eq', forall_eq, List.forall_mem_cons, List.not_mem_nil]
    refine call_i (rLeaf_s hN (by omega) fun m3 he3 => ?_)
    rw [hlc]
    cases hb : isLeaf L c
    · rw [hb] at hlt
      simp only [g0, g3, g4, g5, w1, wf_preprocess, ↓reduceIte, Nat.reduceEqDiff, reduceCtorEq, Nat.reduceAdd, Nat.reduceMul, Nat.reduceLeDiff, Nat.reduceLT, Nat.reduceSub, Int.reduceToNat, Int.reduceNeg, Int.reduceAdd, Int.reduceSub, Int.reduceMul, Int.reduceEq, Int.reduceLT, Int.reduceLE, Int.reduceNe, forall_const, forall_eq', forall_eq, List.forall_mem_cons, List.not_mem_nil]
      refine ⟨(order L).length - (j + 1), by omega, j + 1, v, rfl, by omega, ?_, rfl, rfl⟩
      rw [hlt]
      simp only [Bool.false_eq_true, if_false, List.append_nil]
      exact ⟨ho.ext.trans he3, ho.buf.ext he3 (by simp), ho.new⟩
    · rw [hb, if_pos rfl] at hlt
      simp only [g0, g3, g4, g5, Int.natCast_nonneg, wf_preprocess, ↓reduceIte, Nat.reduceEqDiff, reduceCtorEq, Nat.reduceAdd, Nat.reduceMul, Nat.reduceLeDiff, Nat.reduceLT, Nat.reduceSub, Int.reduceToNat, Int.reduceNeg, Int.reduceAdd, Int.reduceSub, Int.reduceMul, Int.reduceEq, Int.reduceLT, Int.reduceLE, Int.reduceNe, forall_const, forall_eq', forall_eq, List.forall_mem_cons, List.not_mem_nil]
      refine Ei.idx (n := (j : Int)) (BufI.ei (hbo.ext he3 (by simp))) (by omega) (by simpa using il_get hc) fun a2 r2 ha2 => ?_
      simp only [g0, g3, g4, g5, ha2, wf_preprocess, ↓reduceIte, Nat.reduceEqDiff, reduceCtorEq, Nat.reduceAdd, Nat.reduceMul, Nat.reduceLeDiff, Nat.reduceLT, Nat.reduceSub, Int.reduceToNat, Int.reduceNeg, Int.reduceAdd, Int.reduceSub, Int.reduceMul, Int.reduceEq, Int.reduceLT, Int.reduceLE, Int.reduceNe, forall_const, forall_eq', forall_eq, List.forall_mem_cons, List.not_mem_nil]
      refine app_bufI (l2 := il [c]) (ho.buf.ext he3 (by simp)) rfl (by rw [il_len, il_len]; simp; omega) (by rw [maxLen_e, il_len, il_len]; simp; omega) fun v' m4 hb4 hx4 hn4 => ?_
      have ho' := (Own'.mk (ho.ext.trans he3) (ho.buf.ext he3 (by simp)) ho.new).push hb4 hx4 hn4
      simp only [g0, g3, g4, g5, w1, wf_preprocess, ↓reduceIte, Nat.reduceEqDiff, reduceCtorEq, Nat.reduceAdd, Nat.reduceMul, Nat.reduceLeDiff, Nat.reduceLT, Nat.reduceSub, Int.reduceToNat, Int.reduceNeg, Int.reduceAdd, Int.reduceSub, Int.reduceMul, Int.reduceEq, Int.reduceLT, Int.reduceLE, Int.reduceNe, forall_const, forall_eq', forall_eq, List.forall_mem_cons, List.not_mem_nil]
      refine ⟨(order L).length - (j + 1), by omega, j + 1, v', rfl, by omega, by rw [hlt, il_app]; exact ho', rfl, rfl⟩
  · obtain rfl : j = (order L).length := by omega
    rw [List.take_length] at ho
    simp only [g0, g3, g4, g5, hjn, onLst_len hol, wf_preprocess, ↓reduceIte, Nat.reduceEqDiff, reduceCtorEq, Nat.reduceAdd, Nat.reduceMul, Nat.reduceLeDiff, Nat.reduceLT, Nat.reduceSub, Int.reduceToNat, Int.reduceNeg, Int.reduceAdd, Int.reduceSub, Int.reduceMul, Int.reduceEq, Int.reduceLT, Int.reduceLE, Int.reduceNe, forall_const, forall_eq', forall_eq, List.forall_mem_cons, List.not_mem_nil]
    exact k v m2 ⟨hoo.ext.trans ho.ext, ho.buf, fun x hx => hoo.ext.isNew (ho.new x hx) (by simp)⟩
theorem rRank_s (ok : Ok L) (h : Nds L m T) (k : ∀ m' (x : Int), Ext [] m m' → (x = -1 ∧ i ∉ il (leaves L)) ∨ (∃ a : Nat, x = a ∧ (il (leaves L))[a]? = some i) → Q (iv x) m') : ACall Try.prog 33 [.ptr T 0, iv i] m Q E := by
  have hlo := (lens ok).2
  refine acall_fn mixed Try.func33 Try.call33 e33 r33 (Nat.le_of_ble_eq_true rfl) ?_
  simp only [n33, wf_preprocess, ↓reduceIte, Nat.reduceEqDiff, reduceCtorEq, Nat.reduceAdd, Nat.reduceMul, Nat.reduceLeDiff, Nat.reduceLT, Nat.reduceSub, Int.reduceToNat, Int.reduceNeg, Int.reduceAdd, Int.reduceSub, Int.reduceMul, Int.reduceEq, Int.reduceLT, Int.reduceLE, Int.reduceNe, forall_const, forall_eq', forall_eq, List.forall_mem_cons, List.not_mem_nil]
  refine call_i (rLeaves_s ok h fun v m1 ho => ?_)
  have he := BufI.ei ho.buf
  have k := fun x => k m1 x ho.ext
  have hl : (il (leaves L)).length ≤ 32 := by rw [il_len]; exact hlo
  generalize il (leaves L) = l at *
  simp only [wf_preprocess, ↓reduceIte, Nat.reduceEqDiff, reduceCtorEq, Nat.reduceAdd, Nat.reduceMul, Nat.reduceLeDiff, Nat.reduceLT, Nat.reduceSub, Int.reduceToNat, Int.reduceNeg, Int.reduceAdd, Int.reduceSub, Int.reduceMul, Int.reduceEq, Int.reduceLT, Int.reduceLE, Int.reduceNe, forall_const, forall_eq', forall_eq, List.forall_mem_cons, List.not_mem_nil]
  refine loop_i (fun kk ρ m2 => ∃ (j : Nat), kk = l.length - j ∧ j ≤ l.length ∧ ρ 1 = iv i ∧ ρ 5 = v ∧ ρ 6 = iv j ∧ i ∉ l.take j ∧ m2 = m1) l.length ⟨0, rfl, by omega, ?_⟩ ?_
  · simp only [List.take_zero, wf_preprocess, ↓reduceIte, Nat.reduceEqDiff, reduceCtorEq, Nat.reduceAdd, Nat.reduceMul, Nat.reduceLeDiff, Nat.reduceLT, Nat.reduceSub, Int.reduceToNat, Int.reduceNeg, Int.reduceAdd, Int.reduceSub, Int.reduceMul, Int.reduceEq, Int.reduceLT, Int.reduceLE, Int.reduceNe, forall_const, forall_eq', forall_eq, List.forall_mem_cons, List.not_mem_nil]
  rintro kk ρ m2 ⟨j, rfl, hj, g1, g5, g6, hn, rfl⟩
  by_cases hjn : (j : Int) < (l.length : Int)
  · obtain ⟨q, hq⟩ : ∃ q, l[j]? = some q := ⟨_, List.getElem?_eq_getElem (by omega)⟩
    have w1 : IntKind.i64.wrap ((j : Int) + 1) = ((j + 1 : Nat) : Int) := wrap64 (by omega) (by omega)
    simp only [g1, g5, g6, hjn, onLst_len he.lenIs, Int.natCast_nonneg, wf_preprocess, ↓reduceIte, Nat.reduceEqDiff, reduceCtorEq, Nat.reduceAdd, Nat.reduceMul, Nat.reduceLeDiff, Nat.reduceLT, Nat.reduceSub, Int.reduceToNat, Int.reduceNeg, Int.reduceAdd, Int.reduceSub, Int.reduceMul, Int.reduceEq, Int.reduceLT, Int.reduceLE, Int.reduceNe, forall_const, forall_eq', forall_eq, List.forall_mem_cons, List.not_mem_nil]
    refine Ei.idx (n := (j : Int)) he (by omega) (by simpa using hq) fun a1 r1 ha1 => ?_
    by_cases e : q = i
    · subst e
      simp only [g1, g5, g6, ha1, wf_preprocess, ↓reduceIte, Nat.reduceEqDiff, reduceCtorEq, Nat.reduceAdd, Nat.reduceMul, Nat.reduceLeDiff, Nat.reduceLT, Nat.reduceSub, Int.reduceToNat, Int.reduceNeg, Int.reduceAdd, Int.reduceSub, Int.reduceMul, Int.reduceEq, Int.reduceLT, Int.reduceLE, Int.reduceNe, forall_const, forall_eq', forall_eq, List.forall_mem_cons, List.not_mem_nil]
      exact k _ (.inr ⟨j, rfl, hq⟩)
    · simp only [g1, g5, g6, ha1, e, w1, wf_preprocess, ↓reduceIte, Nat.reduceEqDiff, reduceCtorEq, Nat.reduceAdd, Nat.reduceMul, Nat.reduceLeDiff, Nat.reduceLT, Nat.reduceSub, Int.reduceToNat, Int.reduceNeg, Int.reduceAdd, Int.reduceSub, Int.reduceMul, Int.reduceEq, Int.reduceLT, Int.reduceLE, Int.reduceNe, forall_const, forall_eq', forall_eq, List.forall_mem_cons, List.not_mem_nil]
      refine ⟨l.length - (j + 1), by omega, j + 1, rfl, by omega, rfl, ?_⟩
      rw [List.take_add_one, hq]
      simp [hn]
      exact fun e' => e e'.symm
  · have e : l.take j = l := List.take_of_length_le (by omega)
    rw [e] at hn
    simp only [g1, g5, g6, hjn, onLst_len he.lenIs, wf_preprocess, ↓reduceIte, Nat.reduceEqDiff, reduceCtorEq, Nat.reduceAdd, Nat.reduceMul, Nat.reduceLeDiff, Nat.reduceLT, Nat.reduceSub, Int.reduceToNat, Int.reduceNeg, Int.reduceAdd, Int.reduceSub, Int.reduceMul, Int.reduceEq, Int.reduceLT, Int.reduceLE, Int.reduceNe, forall_const, forall_eq', forall_eq, List.forall_mem_cons, List.not_mem_nil]
    exact k _ (.inl ⟨rfl, hn⟩)
theorem rSpan_s (ok : Ok L) (h : Nds L m T) (hex : ∀ j : Nat, j < L.length → ∃ a b, SpanAt L j a b) (k : ∀ m' (a b : Nat), Ext [] m m' → (at? L i = none ∧ a = 0 ∧ b = 0) ∨ (∃ j : Nat, i = j ∧ j < L.length ∧ SpanAt L j a b) → Q (.tup [iv a, iv b]) m') : ACall Try.prog 20 [.ptr T 0, iv i] m Q E := by
  have hlo := (lens ok).2
  have hL := ok.le
  refine acall_fn mixed Try.func20 Try.call20 e20 r20 (Nat.le_of_ble_eq_true rfl) ?_
  simp only [n20, wf_preprocess, ↓reduceIte, Nat.reduceEqDiff, reduceCtorEq, Nat.reduceAdd, Nat.reduceMul, Nat.reduceLeDiff, Nat.reduceLT, Nat.reduceSub, Int.reduceToNat, Int.reduceNeg, Int.reduceAdd, Int.reduceSub, Int.reduceMul, Int.reduceEq, Int.reduceLT, Int.reduceLE, Int.reduceNe, forall_const, forall_eq', forall_eq, List.forall_mem_cons, List.not_mem_nil]
  refine call_i (ris_s h ?_)
  cases ha : at? L i with
  | none =>
    have := k m 0 0 .rfl' (.inl ⟨ha, rfl, rfl⟩)
    simp only [Option.isSome_none, wf_preprocess, ↓reduceIte, Nat.reduceEqDiff, reduceCtorEq, Nat.reduceAdd, Nat.reduceMul, Nat.reduceLeDiff, Nat.reduceLT, Nat.reduceSub, Int.reduceToNat, Int.reduceNeg, Int.reduceAdd, Int.reduceSub, Int.reduceMul, Int.reduceEq, Int.reduceLT, Int.reduceLE, Int.reduceNe, forall_const, forall_eq', forall_eq, List.forall_mem_cons, List.not_mem_nil]
    exact this
  | some p =>
    obtain ⟨g0, g1, g2⟩ := at_some ha
    obtain ⟨u, rfl⟩ := Int.eq_ofNat_of_zero_le g0
    obtain ⟨a, b, hs⟩ := hex u (by omega)
    have s1 := hs.lt
    have s2 := hs.le
    have k := fun m' he => k m' a b he (.inr ⟨u, rfl, by omega, hs⟩)
    simp only [Option.isSome_some, wf_preprocess, ↓reduceIte, Nat.reduceEqDiff, reduceCtorEq, Nat.reduceAdd, Nat.reduceMul, Nat.reduceLeDiff, Nat.reduceLT, Nat.reduceSub, Int.reduceToNat, Int.reduceNeg, Int.reduceAdd, Int.reduceSub, Int.reduceMul, Int.reduceEq, Int.reduceLT, Int.reduceLE, Int.reduceNe, forall_const, forall_eq', forall_eq, List.forall_mem_cons, List.not_mem_nil]
    refine call_i (rLeaves_s ok h fun v m1 ho => ?_)
    have hvl := (BufI.ei ho.buf).lenIs
    rw [il_len] at hvl
    have hin : ∀ (n x : Nat), (leaves L)[n]? = some x → decide ((u : Int) ∈ il (ab L (x : Int))) = decide (a ≤ n ∧ n < b) := fun n x hx => by
      rw [decide_eq_decide, hs.iff n x hx]
      constructor
      · intro hm
        obtain ⟨y, hy, e⟩ := List.mem_map.1 hm
        have : y = u := by omega
        rwa [this] at hy
      · exact fun hm => List.mem_map.2 ⟨u, hm, rfl⟩
    simp only [wf_preprocess, ↓reduceIte, Nat.reduceEqDiff, reduceCtorEq, Nat.reduceAdd, Nat.reduceMul, Nat.reduceLeDiff, Nat.reduceLT, Nat.reduceSub, Int.reduceToNat, Int.reduceNeg, Int.reduceAdd, Int.reduceSub, Int.reduceMul, Int.reduceEq, Int.reduceLT, Int.reduceLE, Int.reduceNe, forall_const, forall_eq', forall_eq, List.forall_mem_cons, List.not_mem_nil]
    refine loop_i (fun kk ρ m' => ∃ (n : Nat), kk = (leaves L).length - n ∧ n ≤ a ∧ Ext [] m1 m' ∧ ρ 0 = .ptr T 0 ∧ ρ 1 = iv u ∧ ρ 6 = v ∧ ρ 7 = iv n) (leaves L).length ⟨0, rfl, by omega, .rfl', ?_⟩ ?_
    · simp only [wf_preprocess, ↓reduceIte, Nat.reduceEqDiff, reduceCtorEq, Nat.reduceAdd, Nat.reduceMul, Nat.reduceLeDiff, Nat.reduceLT, Nat.reduceSub, Int.reduceToNat, Int.reduceNeg, Int.reduceAdd, Int.reduceSub, Int.reduceMul, Int.reduceEq, Int.reduceLT, Int.reduceLE, Int.reduceNe, forall_const, forall_eq', forall_eq, List.forall_mem_cons, List.not_mem_nil]
    rintro kk ρ m2 ⟨n, rfl, hn, he2, j0, j1, j6, j7⟩
    have hnl : (n : Int) < ((leaves L).length : Int) := by omega
    obtain ⟨x, hx⟩ : ∃ x, (leaves L)[n]? = some x := ⟨_, List.getElem?_eq_getElem (by omega)⟩
    have w1 : IntKind.i64.wrap ((n : Int) + 1) = ((n + 1 : Nat) : Int) := wrap64 (by omega) (by omega)
    simp only [j0, j1, j6, j7, hnl, onLst_len hvl, Int.natCast_nonneg, wf_preprocess, ↓reduceIte, Nat.reduceEqDiff, reduceCtorEq, Nat.reduceAdd, Nat.reduceMul, Nat.reduceLeDiff, Nat.reduceLT, Nat.reduceSub, Int.reduceToNat, Int.reduceNeg, Int.reduceAdd, Int.reduceSub, Int.reduceMul, Int.reduceEq, Int.reduceLT, Int.reduceLE, Int.reduceNe, forall_const, forall_eq', forall_eq, List.forall_mem_cons, List.not_mem_nil]
    refine Ei.idx (n := (n : Int)) (BufI.ei (ho.buf.ext he2 (by simp))) (by omega) (by simpa using il_get hx) fun a1 r1 ha1 => ?_
    simp only [j0, j1, j6, j7, ha1, wf_preprocess, ↓reduceIte, Nat.reduceEqDiff, reduceCtorEq, Nat.reduceAdd, Nat.reduceMul, Nat.reduceLeDiff, Nat.reduceLT, Nat.reduceSub, Int.reduceToNat, Int.reduceNeg, Int.reduceAdd, Int.reduceSub, Int.reduceMul, Int.reduceEq, Int.reduceLT, Int.reduceLE, Int.reduceNe, forall_const, forall_eq', forall_eq, List.forall_mem_cons, List.not_mem_nil]
    refine call_i (rWithin_s ((h.ext ho.ext).ext he2) ok.fin (by omega) fun m3 he3 => ?_)
    rw [hin n x hx]
    by_cases c : n = a
    · subst c
      have hd : decide (n ≤ n ∧ n < b) = true := by simp [s1]
      have hd' : decide (n < b) = true := decide_eq_true s1
      simp only [j0, j1, j6, j7, hd, hd', wf_preprocess, ↓reduceIte, Nat.reduceEqDiff, reduceCtorEq, Nat.reduceAdd, Nat.reduceMul, Nat.reduceLeDiff, Nat.reduceLT, Nat.reduceSub, Int.reduceToNat, Int.reduceNeg, Int.reduceAdd, Int.reduceSub, Int.reduceMul, Int.reduceEq, Int.reduceLT, Int.reduceLE, Int.reduceNe, forall_const, forall_eq', forall_eq, List.forall_mem_cons, List.not_mem_nil]
      refine loop_i (fun kk ρ m' => ∃ (q : Nat), kk = (leaves L).length - q ∧ n ≤ q ∧ q ≤ b ∧ Ext [] m3 m' ∧ ρ 0 = .ptr T 0 ∧ ρ 1 = iv u ∧ ρ 6 = v ∧ ρ 7 = iv n ∧ ρ 8 = iv q) ((leaves L).length - n) ⟨n, rfl, by omega, by omega, .rfl', ?_⟩ ?_
      · simp only [j0, j1, j6, j7, wf_preprocess, ↓reduceIte, Nat.reduceEqDiff, reduceCtorEq, Nat.reduceAdd, Nat.reduceMul, Nat.reduceLeDiff, Nat.reduceLT, Nat.reduceSub, Int.reduceToNat, Int.reduceNeg, Int.reduceAdd, Int.reduceSub, Int.reduceMul, Int.reduceEq, Int.reduceLT, Int.reduceLE, Int.reduceNe, forall_const, forall_eq', forall_eq, List.forall_mem_cons, List.not_mem_nil]
      rintro kk ρ m4 ⟨q, rfl, hq1, hq2, he4, i0, i1, i6, i7, i8⟩
      by_cases cq : (q : Int) < ((leaves L).length : Int)
      · obtain ⟨x2, hx2⟩ : ∃ x, (leaves L)[q]? = some x := ⟨_, List.getElem?_eq_getElem (by omega)⟩
        have w2 : IntKind.i64.wrap ((q : Int) + 1) = ((q + 1 : Nat) : Int) := wrap64 (by omega) (by omega)
        simp only [i0, i1, i6, i7, i8, cq, onLst_len hvl, Int.natCast_nonneg, wf_preprocess, ↓reduceIte, Nat.reduceEqDiff, reduceCtorEq, Nat.reduceAdd, Nat.reduceMul, Nat.reduceLeDiff, Nat.reduceLT, Nat.reduceSub, Int.reduceToNat, Int.reduceNeg, Int.reduceAdd, Int.reduceSub, Int.reduceMul, Int.reduceEq, Int.reduceLT, Int.reduceLE, Int.reduceNe, forall_const, forall_eq', forall_eq, List.forall_mem_cons, List.not_mem_nil]
        refine Ei.idx (n := (q : Int)) (BufI.ei (((ho.buf.ext he2 (by simp)).ext he3 (by simp)).ext he4 (by simp))) (by omega) (by simpa using il_get hx2) fun a2 r2 ha2 => ?_
        simp only [i0, i1, i6, i7, i8, ha2, wf_preprocess, ↓reduceIte, Nat.reduceEqDiff, reduceCtorEq, Nat.reduceAdd, Nat.reduceMul, Nat.reduceLeDiff, Nat.reduceLT, Nat.reduceSub, Int.reduceToNat, Int.reduceNeg, Int.reduceAdd, Int.reduceSub, Int.reduceMul, Int.reduceEq, Int.reduceLT, Int.reduceLE, Int.reduceNe, forall_const, forall_eq', forall_eq, List.forall_mem_cons, List.not_mem_nil]
        refine call_i (rWithin_s ((((h.ext ho.ext).ext he2).ext he3).ext he4) ok.fin (by omega) fun m5 he5 => ?_)
        rw [hin q x2 hx2]
        by_cases cb : q < b
        · have hd2 : decide (n ≤ q ∧ q < b) = true := by simp [hq1, cb]
          simp only [i0, i1, i6, i7, i8, hd2, w2, wf_preprocess, ↓reduceIte, Nat.reduceEqDiff, reduceCtorEq, Nat.reduceAdd, Nat.reduceMul, Nat.reduceLeDiff, Nat.reduceLT, Nat.reduceSub, Int.reduceToNat, Int.reduceNeg, Int.reduceAdd, Int.reduceSub, Int.reduceMul, Int.reduceEq, Int.reduceLT, Int.reduceLE, Int.reduceNe, forall_const, forall_eq', forall_eq, List.forall_mem_cons, List.not_mem_nil]
          exact ⟨(leaves L).length - (q + 1), by omega, q + 1, rfl, by omega, by omega, he4.trans he5, rfl⟩
        · obtain rfl : q = b := by omega
          have hd2 : decide (n ≤ q ∧ q < q) = false := by simp
          simp only [i0, i1, i6, i7, i8, hd2, wf_preprocess, ↓reduceIte, Nat.reduceEqDiff, reduceCtorEq, Nat.reduceAdd, Nat.reduceMul, Nat.reduceLeDiff, Nat.reduceLT, Nat.reduceSub, Int.reduceToNat, Int.reduceNeg, Int.reduceAdd, Int.reduceSub, Int.reduceMul, Int.reduceEq, Int.reduceLT, Int.reduceLE, Int.reduceNe, forall_const, forall_eq', forall_eq, List.forall_mem_cons, List.not_mem_nil]
          exact k m5 ((((ho.ext.trans he2).trans he3).trans he4).trans he5)
      · obtain rfl : q = b := by omega
        simp only [i0, i1, i6, i7, i8, cq, onLst_len hvl, wf_preprocess, ↓reduceIte, Nat.reduceEqDiff, reduceCtorEq, Nat.reduceAdd, Nat.reduceMul, Nat.reduceLeDiff, Nat.reduceLT, Nat.reduceSub, Int.reduceToNat, Int.reduceNeg, Int.reduceAdd, Int.reduceSub, Int.reduceMul, Int.reduceEq, Int.reduceLT, Int.reduceLE, Int.reduceNe, forall_const, forall_eq', forall_eq, List.forall_mem_cons, List.not_mem_nil]
        exact k m4 (((ho.ext.trans he2).trans he3).trans he4)
    · have hd : decide (a ≤ n ∧ n < b) = false := by simp; omega
      simp only [j0, j1, j6, j7, hd, w1, wf_preprocess, ↓reduceIte, Nat.reduceEqDiff, reduceCtorEq, Nat.reduceAdd, Nat.reduceMul, Nat.reduceLeDiff, Nat.reduceLT, Nat.reduceSub, Int.reduceToNat, Int.reduceNeg, Int.reduceAdd, Int.reduceSub, Int.reduceMul, Int.reduceEq, Int.reduceLT, Int.reduceLE, Int.reduceNe, forall_const, forall_eq', forall_eq, List.forall_mem_cons, List.not_mem_nil]
      exact ⟨(leaves L).length - (n + 1), by omega, n + 1, rfl, by omega, he2.trans he3, rfl⟩
end
end Go.Proofs.Ytceahampebofbaa.Moi.Tree
