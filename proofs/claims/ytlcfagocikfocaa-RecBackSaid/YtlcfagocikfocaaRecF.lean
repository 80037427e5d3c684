/- What functions of this program do, on plain values: a part of the proofs of this seat's laws; each theorem bears its own conditions. -/
import Derived.Test.YtlcfagocikfocaaRecE
set_option linter.unusedVariables false
set_option linter.unusedSimpArgs false
set_option maxRecDepth 1000000
namespace Go.Proofs.Ytlcfagocikfocaa.Moi.Rec
open Go Go.RowKit Go.Proofs.Ytlcfagocikfocaa.Moi Go.Proofs.Ytlcfagocikfocaa.Moi.Wire
attribute [-wf_preprocess] ite_eq_dite forIn_eq_forIn'

/-! ### Lists of lists of bytes -/
def vrows (vs : List AV) : List (List AV) := vs.map fun x => [x]
theorem vrows_len {vs : List AV} : (vrows vs).length = vs.length := List.length_map ..
theorem vrows_flat {vs : List AV} : (vrows vs).flatten = vs := by
  induction vs with
  | nil => rfl
  | cons p vs ih => rw [vrows, List.map_cons, List.flatten_cons, ← vrows, ih]; rfl
theorem vrows_els {vs : List AV} : els none (vrows vs) = vs := by simp [els, vrows, mk1, Function.comp_def]
theorem vrows_app {a b : List AV} : vrows (a ++ b) = vrows a ++ vrows b := List.map_append
/-- One behind the other, readable. -/
structure BR (S : List Nat) (ls : List (List Int)) (vs : List AV) (v : AV) (m : Heap) : Prop where
  rd : (∃ o, v = .lst vs o) ∨ ∃ id off cap cs rest, v = .mref id off vs.length cap ∧ get id m = some (.cells cs) ∧ cs.drop off = vs ++ rest
  len : vs.length = ls.length
  el : ∀ (i : Nat) x l, vs[i]? = some x → ls[i]? = some l → Els S x m l
/-- With memory of its own. -/
structure BL (S : List Nat) (ls : List (List Int)) (vs : List AV) (v : AV) (m : Heap) : Prop where
  buf : BufG 1 (vrows vs) v m
  len : vs.length = ls.length
  el : ∀ (i : Nat) x l, vs[i]? = some x → ls[i]? = some l → Els S x m l
  sep : ∀ x ∈ vs, ∀ i ∈ refs x, i ∉ refs v
theorem els_one {S : List Nat} {y : AV} {m : Heap} {l : List Int} (h : Els S y m l) : y.cells = [y] ∧ y.one = true := by
  rcases h.form with ⟨es0, o0, rfl⟩ | ⟨d1, d2, d3, d4, rfl⟩ <;> exact ⟨rfl, rfl⟩
section
variable {S : List Nat} {ls ls2 : List (List Int)} {vs vs2 : List AV} {v v2 : AV} {m m' : Heap} {Q E : AV → Heap → Prop}
theorem BL.ok (h : BL S ls vs v m) : rowsOk none (vrows vs) := by
  intro c hc
  obtain ⟨x, hx, rfl⟩ := List.mem_map.1 hc
  obtain ⟨i, hi⟩ := List.getElem?_of_mem hx
  have hil := (List.getElem?_eq_some_iff.1 hi).1
  have := els_one (h.el i x (ls[i]'(by rw [← h.len]; exact hil)) hi (by simp))
  exact ⟨rfl, by simp [allOne, this.2]⟩
theorem BL.br (h : BL S ls vs v m) : BR S ls vs v m := by
  refine ⟨?_, h.len, h.el⟩
  rcases h.buf with ⟨h1, h2 | h2⟩ | ⟨id, cap, rest, rfl, _, _, _, _, h5⟩
  · obtain rfl : vs = [] := List.map_eq_nil_iff.1 h1
    exact .inl ⟨_, h2⟩
  · obtain rfl : vs = [] := List.map_eq_nil_iff.1 h1
    exact .inl ⟨_, h2⟩
  · rw [vrows_flat] at h5
    rw [vrows_len]
    exact .inr ⟨id, 0, cap, _, rest, rfl, h5, rfl⟩
theorem BL.nil : BL S [] [] (.lst [] .nil) m := ⟨.inl ⟨rfl, .inl rfl⟩, rfl, fun i x l h => by simp at h, fun x h => by simp at h⟩
theorem BL.ext {T : List Nat} (h : BL S ls vs v m) (he : Ext T m m') (h1 : ∀ i ∈ T, i ∈ S) (h2 : ∀ i ∈ refs v, i ∉ T) : BL S ls vs v m' := ⟨BufG.ext h.buf he h2, h.len, fun i x l a b => (h.el i x l a b).ext he h1, h.sep⟩
theorem BL.lenIs (h : BL S ls vs v m) : LenIs v ls.length := by
  rw [← h.len, ← vrows_len]
  rcases h.buf with ⟨h1, h2 | h2⟩ | ⟨id, cap, rest, rfl, _⟩
  · rw [h1]; exact .inl ⟨[], .nil, h2, rfl⟩
  · rw [h1]; exact .inl ⟨[], .full, h2, rfl⟩
  · exact .inr ⟨_, _, _, rfl⟩
theorem BR.lenIs (h : BR S ls vs v m) : LenIs v ls.length := by
  rw [← h.len]
  rcases h.rd with ⟨o, rfl⟩ | ⟨id, off, cap, cs, rest, rfl, _⟩
  · exact .inl ⟨_, _, rfl, rfl⟩
  · exact .inr ⟨_, _, _, rfl⟩
theorem BR.ext {T : List Nat} (h : BR S ls vs v m) (he : Ext T m m') (h1 : ∀ i ∈ T, i ∈ S) (h2 : ∀ i ∈ refs v, i ∉ T) : BR S ls vs v m' := by
  refine ⟨?_, h.len, fun i x l a b => (h.el i x l a b).ext he h1⟩
  rcases h.rd with ⟨o, rfl⟩ | ⟨id, off, cap, cs, rest, rfl, h3, h4⟩
  · exact .inl ⟨o, rfl⟩
  · exact .inr ⟨id, off, cap, cs, rest, rfl, he _ _ h3 (h2 id (by simp [refs])), h4⟩
theorem BL.push {x : AV} {l : List Int} {v' : AV} (h : BL S ls vs v m) (hx : Els S x m l) (hxv : ∀ i ∈ refs x, i ∉ refs v) (hb : BufG 1 (vrows (vs ++ [x])) v' m') (he : Ext (refs v) m m') (hv : v' = v ∨ ∀ i ∈ refs v', i ∉ keys m) : BL S (ls ++ [l]) (vs ++ [x]) v' m' := by
  have hel : ∀ (i : Nat) y k, (vs ++ [x])[i]? = some y → (ls ++ [l])[i]? = some k → Els S y m k ∧ ∀ j ∈ refs y, j ∉ refs v := fun i y k a b => by
    rw [List.getElem?_append] at a b
    by_cases hi : i < vs.length
    · rw [if_pos hi] at a
      rw [if_pos (by rw [← h.len]; exact hi)] at b
      exact ⟨h.el i y k a b, h.sep y (List.mem_of_getElem? a)⟩
    · rw [if_neg hi] at a
      rw [if_neg (by rw [← h.len]; exact hi), ← h.len] at b
      have hi0 : i - vs.length = 0 := by
        have := (List.getElem?_eq_some_iff.1 a).1
        simp at this; omega
      rw [hi0] at a b
      simp only [List.getElem?_cons_zero, Option.some.injEq] at a b
      subst a b
      exact ⟨hx, hxv⟩
  refine ⟨hb, by simp [h.len], fun i y k a b => ?_, fun y hy j hj => ?_⟩
  · obtain ⟨e1, e2⟩ := hel i y k a b
    have e3 := (e1.re (T := refs v) e2).ext he (fun i hi => hi)
    exact e3.re fun j hj hs => by
      rcases e1.1 with ⟨o, rfl, ho⟩ | ⟨id, off, cap, cs, rest, rfl, g1, _⟩
      · simp [refs] at hj
      · simp only [refs, List.mem_singleton] at hj
        subst hj
        exact g1 hs
  · obtain ⟨i, hi⟩ := List.getElem?_of_mem hy
    have hil := (List.getElem?_eq_some_iff.1 hi).1
    obtain ⟨e1, e2⟩ := hel i y ((ls ++ [l])[i]'(by simp at hil ⊢; rw [← h.len]; exact hil)) hi (by simp)
    rcases hv with rfl | hv
    · exact e2 j hj
    · exact fun hk => hv j hk (e1.inK j hj)
/-- One of a list. -/
theorem BR.idx {n : Int} {x : AV} {K : AV → Prop} (h : BR S ls vs v m) (h0 : 0 ≤ n) (hx : vs[n.toNat]? = some x) (hc : x.cells = [x]) (k : ∀ a r, acells a m = some (x :: r) → K a) :
    @onLst v ⟨fun es _ => @withS _ es[n.toNat]? ⟨fun e => e.cells.length = 1 ∧ @val (.vptr e.cells) ⟨K⟩⟩⟩ ⟨fun id off len _ => n < len ∧ @val (.ptr id (off + n.toNat * 1)) ⟨K⟩⟩ := by
  have hl := (List.getElem?_eq_some_iff.1 hx).1
  rcases h.rd with ⟨o, rfl⟩ | ⟨id, off, cap, cs, rest, rfl, h2, h3⟩
  · rw [onLst_l, hx]
    exact ⟨by rw [hc]; rfl, k _ [] (by rw [hc]; rfl)⟩
  · rw [onLst_m]
    refine ⟨by omega, k _ ((vs ++ rest).drop (n.toNat + 1)) ?_⟩
    rw [acells_p, h2]
    show some (cs.drop _) = _
    rw [Nat.mul_one, ← List.drop_drop, h3, List.drop_eq_getElem_cons (by rw [List.length_append]; omega), List.getElem_append_left hl]
    congr 2
    rw [List.getElem?_eq_getElem hl] at hx
    exact Option.some.inj hx

theorem Same24_s {T : List Nat} (h : BR S ls vs v m) (h2 : BR T ls2 vs2 v2 m) (hl : ls.length ≤ 1000000) (k : Q (bo (decide (ls = ls2))) m) : ACall Try.prog 19 [v, v2] m Q E := by
  refine acall_fn mixed Try.func19 Try.call19 e19 r19 (Nat.le_of_ble_eq_true rfl) ?_
  by_cases hne : (ls.length : Int) = (ls2.length : Int)
  case neg =>
    have : ls ≠ ls2 := fun e => hne (by rw [e])
    rw [show decide (ls = ls2) = false from decide_eq_false this] at k
    simp only [n19, onLst_len h.lenIs, onLst_len h2.lenIs, hne, wf_preprocess, ↓reduceIte, Nat.reduceEqDiff, reduceCtorEq, Nat.reduceAdd, Nat.reduceMul, Nat.reduceLeDiff, Nat.reduceLT, Nat.reduceSub, Int.reduceToNat, Int.reduceNeg, Int.reduceAdd, Int.reduceSub, Int.reduceMul, Int.reduceEq, Int.reduceLT, Int.reduceLE, Int.reduceNe, forall_const, forall_eq', forall_eq, List.forall_mem_cons, List.not_mem_nil]
    exact k
  simp only [n19, onLst_len h.lenIs, onLst_len h2.lenIs, eq_true hne, wf_preprocess, ↓reduceIte, Nat.reduceEqDiff, reduceCtorEq, Nat.reduceAdd, Nat.reduceMul, Nat.reduceLeDiff, Nat.reduceLT, Nat.reduceSub, Int.reduceToNat, Int.reduceNeg, Int.reduceAdd, Int.reduceSub, Int.reduceMul, Int.reduceEq, Int.reduceLT, Int.reduceLE, Int.reduceNe, forall_const, forall_eq', forall_eq, List.forall_mem_cons, List.not_mem_nil]
  refine loop_i (fun kk ρ m' => ∃ (i : Nat), kk = ls.length - i ∧ i ≤ ls.length ∧ ρ 0 = v ∧ ρ 1 = v2 ∧ ρ 5 = iv i ∧ ls.take i = ls2.take i ∧ m' = m) ls.length ⟨0, rfl, by omega, ?_⟩ ?_
  · simp only [wf_preprocess, ↓reduceIte, Nat.reduceEqDiff, reduceCtorEq, Nat.reduceAdd, Nat.reduceMul, Nat.reduceLeDiff, Nat.reduceLT, Nat.reduceSub, Int.reduceToNat, Int.reduceNeg, Int.reduceAdd, Int.reduceSub, Int.reduceMul, Int.reduceEq, Int.reduceLT, Int.reduceLE, Int.reduceNe, forall_const, forall_eq', forall_eq, List.forall_mem_cons, List.not_mem_nil]
  rintro kk ρ m' ⟨i, rfl, hi, h0, h1, h5, ht, rfl⟩
  by_cases hlt : (i : Int) < (ls.length : Int)
  · obtain ⟨p, hp⟩ : ∃ p, ls[i]? = some p := ⟨_, List.getElem?_eq_getElem (by omega)⟩
    obtain ⟨q, hq⟩ : ∃ q, ls2[i]? = some q := ⟨_, List.getElem?_eq_getElem (by omega)⟩
    have hv1 := h.len
    have hv2 := h2.len
    obtain ⟨x, hx⟩ : ∃ x, vs[i]? = some x := ⟨_, List.getElem?_eq_getElem (by omega)⟩
    obtain ⟨y, hy⟩ : ∃ y, vs2[i]? = some y := ⟨_, List.getElem?_eq_getElem (by omega)⟩
    have ex := h.el i x p hx hp
    have ey := h2.el i y q hy hq
    have w1 : IntKind.i64.wrap ((i : Int) + 1) = ((i + 1 : Nat) : Int) := wrap64 (by omega) (by omega)
    simp only [h0, h1, h5, hlt, onLst_len h.lenIs, Int.natCast_nonneg, wf_preprocess, ↓reduceIte, Nat.reduceEqDiff, reduceCtorEq, Nat.reduceAdd, Nat.reduceMul, Nat.reduceLeDiff, Nat.reduceLT, Nat.reduceSub, Int.reduceToNat, Int.reduceNeg, Int.reduceAdd, Int.reduceSub, Int.reduceMul, Int.reduceEq, Int.reduceLT, Int.reduceLE, Int.reduceNe, forall_const, forall_eq', forall_eq, List.forall_mem_cons, List.not_mem_nil]
    refine BR.idx (n := (i : Int)) h (by omega) (by simpa using hx) (els_one ex).1 fun a1 r1 ha1 => ?_
    simp only [h0, h1, h5, ha1, wf_preprocess, ↓reduceIte, Nat.reduceEqDiff, reduceCtorEq, Nat.reduceAdd, Nat.reduceMul, Nat.reduceLeDiff, Nat.reduceLT, Nat.reduceSub, Int.reduceToNat, Int.reduceNeg, Int.reduceAdd, Int.reduceSub, Int.reduceMul, Int.reduceEq, Int.reduceLT, Int.reduceLE, Int.reduceNe, forall_const, forall_eq', forall_eq, List.forall_mem_cons, List.not_mem_nil]
    refine bytes_ii (ex.at .rfl') ex.2 ?_
    simp only [h0, h1, h5, hlt, Int.natCast_nonneg, wf_preprocess, ↓reduceIte, Nat.reduceEqDiff, reduceCtorEq, Nat.reduceAdd, Nat.reduceMul, Nat.reduceLeDiff, Nat.reduceLT, Nat.reduceSub, Int.reduceToNat, Int.reduceNeg, Int.reduceAdd, Int.reduceSub, Int.reduceMul, Int.reduceEq, Int.reduceLT, Int.reduceLE, Int.reduceNe, forall_const, forall_eq', forall_eq, List.forall_mem_cons, List.not_mem_nil]
    refine BR.idx (n := (i : Int)) h2 (by omega) (by simpa using hy) (els_one ey).1 fun a2 r2 ha2 => ?_
    simp only [h0, h1, h5, ha2, wf_preprocess, ↓reduceIte, Nat.reduceEqDiff, reduceCtorEq, Nat.reduceAdd, Nat.reduceMul, Nat.reduceLeDiff, Nat.reduceLT, Nat.reduceSub, Int.reduceToNat, Int.reduceNeg, Int.reduceAdd, Int.reduceSub, Int.reduceMul, Int.reduceEq, Int.reduceLT, Int.reduceLE, Int.reduceNe, forall_const, forall_eq', forall_eq, List.forall_mem_cons, List.not_mem_nil]
    refine bytes_ii (ey.at .rfl') ey.2 ?_
    by_cases hpq : p = q
    · simp only [h0, h1, h5, (bytesOf_inj ex.2 ey.2).trans (eq_true hpq), w1, wf_preprocess, ↓reduceIte, Nat.reduceEqDiff, reduceCtorEq, Nat.reduceAdd, Nat.reduceMul, Nat.reduceLeDiff, Nat.reduceLT, Nat.reduceSub, Int.reduceToNat, Int.reduceNeg, Int.reduceAdd, Int.reduceSub, Int.reduceMul, Int.reduceEq, Int.reduceLT, Int.reduceLE, Int.reduceNe, forall_const, forall_eq', forall_eq, List.forall_mem_cons, List.not_mem_nil]
      exact ⟨ls.length - (i + 1), by omega, i + 1, rfl, by omega, rfl, take_eq ht hp hq hpq⟩
    · have : ls ≠ ls2 := fun e => hpq (by rw [e] at hp; rw [hp] at hq; exact Option.some.inj hq)
      rw [show decide (ls = ls2) = false from decide_eq_false this] at k
      simp only [h0, h1, h5, (bytesOf_inj ex.2 ey.2).trans (eq_false hpq), w1, wf_preprocess, ↓reduceIte, Nat.reduceEqDiff, reduceCtorEq, Nat.reduceAdd, Nat.reduceMul, Nat.reduceLeDiff, Nat.reduceLT, Nat.reduceSub, Int.reduceToNat, Int.reduceNeg, Int.reduceAdd, Int.reduceSub, Int.reduceMul, Int.reduceEq, Int.reduceLT, Int.reduceLE, Int.reduceNe, forall_const, forall_eq', forall_eq, List.forall_mem_cons, List.not_mem_nil]
      exact k
  · have : ls = ls2 := by
      rw [List.take_of_length_le (by omega), List.take_of_length_le (by omega)] at ht
      exact ht
    rw [show decide (ls = ls2) = true from decide_eq_true this] at k
    simp only [h0, h1, h5, hlt, onLst_len h.lenIs, wf_preprocess, ↓reduceIte, Nat.reduceEqDiff, reduceCtorEq, Nat.reduceAdd, Nat.reduceMul, Nat.reduceLeDiff, Nat.reduceLT, Nat.reduceSub, Int.reduceToNat, Int.reduceNeg, Int.reduceAdd, Int.reduceSub, Int.reduceMul, Int.reduceEq, Int.reduceLT, Int.reduceLE, Int.reduceNe, forall_const, forall_eq', forall_eq, List.forall_mem_cons, List.not_mem_nil]
    exact k
end
end Go.Proofs.Ytlcfagocikfocaa.Moi.Rec
