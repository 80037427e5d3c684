/- What functions of this program do, on plain values: a part of the proofs of this seat's laws; each theorem bears its own conditions. -/
import Derived.Test.YtlcfagocikfocaaRecD
set_option linter.unusedVariables false
set_option linter.unusedSimpArgs false
set_option maxRecDepth 1000000
namespace Go.Proofs.Ytlcfagocikfocaa.Moi.Rec
open Go Go.RowKit Go.Proofs.Ytlcfagocikfocaa.Moi Go.Proofs.Ytlcfagocikfocaa.Moi.Wire
attribute [-wf_preprocess] ite_eq_dite forIn_eq_forIn'

/-- A number that is read is the one that would be put. -/
theorem scan_canon : ∀ (l : List Int) (i w : Nat) {r k : Nat}, byteL l → scan l i w = .inr (r, k) → i < k ∧ ∃ u, l.take (k - i) = enc u ∧ r = w + u * 2 ^ (7 * i) ∧ (0 < i → 0 < u)
  | [], i, w, r, k, _, h => by cases h
  | c :: l, i, w, r, k, hb, h => by
    have hc := hb c (by simp)
    rw [scan] at h
    split at h
    · cases h
    · rename_i hbad
      split at h
      · rename_i h128
        injection h with h
        injection h with h1 h2
        refine ⟨by omega, c.toNat, ?_, ?_, ?_⟩
        · rw [show k - i = 1 by omega, enc_lt (by omega), List.take_succ_cons, List.take_zero]
          congr 1; omega
        · rw [← h1, show (c % 128).toNat = c.toNat by omega]
        · intro hi; omega
      · rename_i h128
        obtain ⟨h1, u, h2, h3, h4⟩ := scan_canon l (i + 1) _ (fun x hx => hb x (by simp [hx])) h
        have hu := h4 (by omega)
        refine ⟨by omega, (c % 128).toNat + 128 * u, ?_, ?_, fun _ => by omega⟩
        · rw [enc_ge (by omega), show k - i = (k - (i + 1)) + 1 by omega, List.take_succ_cons, h2]
          rw [show ((c % 128).toNat + 128 * u) % 128 = (c % 128).toNat by omega, show ((c % 128).toNat + 128 * u) / 128 = u by omega]
          congr 1; omega
        · rw [h3, pow_step, Nat.add_assoc, ← Nat.mul_assoc, Nat.add_mul]
          congr 2
          rw [Nat.mul_right_comm, Nat.mul_comm u, Nat.mul_assoc]
theorem zig_unzig (u : Nat) : zig (unzig u) = u := by
  unfold zig unzig
  by_cases h : u % 2 = 0
  · rw [if_pos h, if_pos (by omega)]; omega
  · rw [if_neg h, if_neg (by omega)]; omega

/-- What was put is what stands there, or it is not. -/
theorem again {l : List Int} {u k N : Nat} (hb : byteL l) (hs : scan l 0 0 = .inr (u, k)) (hn : unzig u = N) (h2 : 2 ≤ N) (hl : k + N + 4 ≤ l.length) :
    (recB ((l.drop k).take (N - 1)) = l.take (k + N + 4)) = (l[k + N + 3]? = some 165 ∧ (l.drop (k + N - 1)).take 4 = sumB (crc ((l.drop k).take (N - 1))).toNat) := by
  obtain ⟨_, u', h3, h4, _⟩ := scan_canon l 0 0 hb hs
  obtain rfl : u = u' := by simpa using h4
  have hbl : ((l.drop k).take (N - 1)).length = N - 1 := by rw [List.length_take, List.length_drop]; omega
  have hz : zig (((((l.drop k).take (N - 1)).length + 1 : Nat) : Int)) = u := by
    rw [hbl, show ((N - 1 + 1 : Nat) : Int) = unzig u by rw [hn]; omega, zig_unzig]
  generalize hbd : (l.drop k).take (N - 1) = body at *
  have hsplit : l.take (k + N + 4) = enc u ++ body ++ (l.drop (k + N - 1)).take 4 ++ (l.drop (k + N + 3)).take 1 := by
    rw [← h3, Nat.sub_zero, ← hbd, ← List.take_add, show k + (N - 1) = k + N - 1 by omega, ← List.take_add, show k + N - 1 + 4 = k + N + 3 by omega, ← List.take_add]
  have h1 : (l.drop (k + N + 3)).take 1 = [l[k + N + 3]'(by omega)] := by
    rw [List.drop_eq_getElem_cons (by omega)]; rfl
  rw [hsplit, recB, hz, h1, List.getElem?_eq_getElem (by omega)]
  refine propext ⟨fun e => ?_, fun ⟨e1, e2⟩ => ?_⟩
  · have e' := List.append_inj_right' e rfl
    have e'' := List.append_inj_left' e rfl
    have e3 := List.append_cancel_left e''
    exact ⟨by rw [List.cons.injEq] at e'; rw [← e'.1], e3.symm⟩
  · rw [e2, Option.some.inj e1]

section
variable {S : List Nat} {y : AV} {m : Heap} {l : List Int} {Q E : AV → Heap → Prop}
theorem rGet_s (hv : Els S y m l) (hl : l.length ≤ 100000) (k : ∀ v m', BufI .u8 (getR l).1 v m' → Ext [] m m' → (∀ i ∈ refs v, i ∉ keys m) → Q (.tup [v, iv (getR l).2.1, iv (getR l).2.2]) m') : ACall Try.prog 16 [y] m Q E := by
  refine acall_fn mixed Try.func16 Try.call16 e16 r16 (Nat.le_of_ble_eq_true rfl) ?_
  unfold getR at k
  by_cases c1 : (l.length : Int) = 0
  · rw [if_pos (.inl (nil_of_len c1))] at k
    simp only [n16, onLst_len hv.lenIs, eq_true c1, wf_preprocess, ↓reduceIte, Nat.reduceEqDiff, reduceCtorEq, Nat.reduceAdd, Nat.reduceMul, Nat.reduceLeDiff, Nat.reduceLT, Nat.reduceSub, Int.reduceToNat, Int.reduceNeg, Int.reduceAdd, Int.reduceSub, Int.reduceMul, Int.reduceEq, Int.reduceLT, Int.reduceLE, Int.reduceNe, forall_const, forall_eq', forall_eq, List.forall_mem_cons, List.not_mem_nil]
    exact k (.lst [] .nil) m .nil .rfl' (by simp [refs])
  obtain ⟨x, hx⟩ : ∃ x, l[0]? = some x := ⟨_, List.getElem?_eq_getElem (by omega)⟩
  simp only [n16, onLst_len hv.lenIs, eq_false c1, wf_preprocess, ↓reduceIte, Nat.reduceEqDiff, reduceCtorEq, Nat.reduceAdd, Nat.reduceMul, Nat.reduceLeDiff, Nat.reduceLT, Nat.reduceSub, Int.reduceToNat, Int.reduceNeg, Int.reduceAdd, Int.reduceSub, Int.reduceMul, Int.reduceEq, Int.reduceLT, Int.reduceLE, Int.reduceNe, forall_const, forall_eq', forall_eq, List.forall_mem_cons, List.not_mem_nil]
  refine idx_i (n := 0) hv (by omega) (by simpa using hx) fun a0 r0 ha0 => ?_
  by_cases c2 : x = 0
  · rw [if_pos (.inr (by rw [hx, c2]))] at k
    simp only [onLst_len hv.lenIs, ha0, eq_true c2, wf_preprocess, ↓reduceIte, Nat.reduceEqDiff, reduceCtorEq, Nat.reduceAdd, Nat.reduceMul, Nat.reduceLeDiff, Nat.reduceLT, Nat.reduceSub, Int.reduceToNat, Int.reduceNeg, Int.reduceAdd, Int.reduceSub, Int.reduceMul, Int.reduceEq, Int.reduceLT, Int.reduceLE, Int.reduceNe, forall_const, forall_eq', forall_eq, List.forall_mem_cons, List.not_mem_nil]
    exact k (.lst [] .nil) m .nil .rfl' (by simp [refs])
  rw [if_neg (by rintro (rfl | h); exact c1 rfl; rw [hx] at h; exact c2 (Option.some.inj h))] at k
  have hyc : y.cells = [y] := by rcases hv.form with ⟨es0, o0, rfl⟩ | ⟨d1, d2, d3, d4, rfl⟩ <;> rfl
  simp only [onLst_len hv.lenIs, ha0, eq_false c2, hyc, wf_preprocess, ↓reduceIte, Nat.reduceEqDiff, reduceCtorEq, Nat.reduceAdd, Nat.reduceMul, Nat.reduceLeDiff, Nat.reduceLT, Nat.reduceSub, Int.reduceToNat, Int.reduceNeg, Int.reduceAdd, Int.reduceSub, Int.reduceMul, Int.reduceEq, Int.reduceLT, Int.reduceLE, Int.reduceNe, forall_const, forall_eq', forall_eq, List.forall_mem_cons, List.not_mem_nil]
  refine ⟨by rcases hv.form with ⟨es0, o0, rfl⟩ | ⟨d1, d2, d3, d4, rfl⟩ <;> rfl, by rcases hv.form with ⟨es0, o0, rfl⟩ | ⟨d1, d2, d3, d4, rfl⟩ <;> rfl, ?_⟩
  refine fresh_i fun q hq => ?_
  have hqv : ∀ ob, Els [q] _ ((q, ob) :: m) l := fun ob => Els.re (hv.ext (.new (S := []) hq) (by simp)) (hv.apart hq)
  have e1 : ∀ ob, Ext [] m ((q, ob) :: m) := fun ob => .new hq
  simp only [wf_preprocess, ↓reduceIte, Nat.reduceEqDiff, reduceCtorEq, Nat.reduceAdd, Nat.reduceMul, Nat.reduceLeDiff, Nat.reduceLT, Nat.reduceSub, Int.reduceToNat, Int.reduceNeg, Int.reduceAdd, Int.reduceSub, Int.reduceMul, Int.reduceEq, Int.reduceLT, Int.reduceLE, Int.reduceNe, forall_const, forall_eq', forall_eq, List.forall_mem_cons, List.not_mem_nil]
  refine call_i (rnum_s (S := [q]) get_new (hqv _) (by simp) (by omega) ?_)
  cases hs : scan l 0 0 with
  | inl e =>
    rw [hs] at k
    dsimp only at k ⊢
    rw [put_e, if_pos rfl]
    have he : ¬ e = 0 := by rcases Wire.scan_err _ _ _ hs with rfl | rfl <;> omega
    simp only [eq_false he, wf_preprocess, ↓reduceIte, Nat.reduceEqDiff, reduceCtorEq, Nat.reduceAdd, Nat.reduceMul, Nat.reduceLeDiff, Nat.reduceLT, Nat.reduceSub, Int.reduceToNat, Int.reduceNeg, Int.reduceAdd, Int.reduceSub, Int.reduceMul, Int.reduceEq, Int.reduceLT, Int.reduceLE, Int.reduceNe, forall_const, forall_eq', forall_eq, List.forall_mem_cons, List.not_mem_nil]
    exact k (.lst [] .nil) _ .nil (.new hq) (by simp [refs])
  | inr p =>
    obtain ⟨u, kk⟩ := p
    rw [hs] at k
    dsimp only at k ⊢
    intro y' hy'
    rw [put_e, if_pos rfl]
    have hkl2 : kk ≤ l.length := by have := Wire.scan_le l 0 0 hs; omega
    have hagain := again (N := (unzig u).toNat) hv.2 hs
    generalize hn : unzig u = n at *
    by_cases c3 : n < 2
    · rw [if_pos (.inl c3)] at k
      simp only [eq_true c3, wf_preprocess, ↓reduceIte, Nat.reduceEqDiff, reduceCtorEq, Nat.reduceAdd, Nat.reduceMul, Nat.reduceLeDiff, Nat.reduceLT, Nat.reduceSub, Int.reduceToNat, Int.reduceNeg, Int.reduceAdd, Int.reduceSub, Int.reduceMul, Int.reduceEq, Int.reduceLT, Int.reduceLE, Int.reduceNe, forall_const, forall_eq', forall_eq, List.forall_mem_cons, List.not_mem_nil]
      exact k (.lst [] .nil) _ .nil (e1 _) (by simp [refs])
    by_cases c4 : 251 < n
    · rw [if_pos (.inr c4)] at k
      simp only [eq_false c3, eq_true c4, wf_preprocess, ↓reduceIte, Nat.reduceEqDiff, reduceCtorEq, Nat.reduceAdd, Nat.reduceMul, Nat.reduceLeDiff, Nat.reduceLT, Nat.reduceSub, Int.reduceToNat, Int.reduceNeg, Int.reduceAdd, Int.reduceSub, Int.reduceMul, Int.reduceEq, Int.reduceLT, Int.reduceLE, Int.reduceNe, forall_const, forall_eq', forall_eq, List.forall_mem_cons, List.not_mem_nil]
      exact k (.lst [] .nil) _ .nil (e1 _) (by simp [refs])
    rw [if_neg (by omega)] at k
    obtain ⟨N, rfl⟩ : ∃ N : Nat, n = N := ⟨n.toNat, by omega⟩
    rw [show (N : Int).toNat = N by omega] at k hagain
    have hy2 : Els [q] y' ((q, .cells [y', iv 0]) :: m) (l.drop kk) := hy'.ext (S' := [q]) .hd (fun i hi => hi)
    have hvq := hqv (.cells [y', iv 0])
    have wa : IntKind.i64.wrap ((N : Int) - 1) = ((N - 1 : Nat) : Int) := by rw [wrap64 (by omega) (by omega)]; omega
    have wb : IntKind.i64.wrap (((N - 1 : Nat) : Int) + 5) = ((N + 4 : Nat) : Int) := by rw [wrap64 (by omega) (by omega)]; omega
    have wc : IntKind.i64.wrap (((N - 1 : Nat) : Int) + 4) = ((N + 3 : Nat) : Int) := by rw [wrap64 (by omega) (by omega)]; omega
    have hdl : (l.drop kk).length = l.length - kk := List.length_drop ..
    have gq : get q ((q, .cells [y', iv 0]) :: m) = some (.cells [y', iv 0]) := get_new
    by_cases c5 : ((l.drop kk).length : Int) < ((N + 4 : Nat) : Int)
    · rw [if_pos (by omega)] at k
      simp only [eq_false c3, eq_false c4, wa, wb, onLst_len hy2.lenIs, eq_true c5, wf_preprocess, ↓reduceIte, Nat.reduceEqDiff, reduceCtorEq, Nat.reduceAdd, Nat.reduceMul, Nat.reduceLeDiff, Nat.reduceLT, Nat.reduceSub, Int.reduceToNat, Int.reduceNeg, Int.reduceAdd, Int.reduceSub, Int.reduceMul, Int.reduceEq, Int.reduceLT, Int.reduceLE, Int.reduceNe, forall_const, forall_eq', forall_eq, List.forall_mem_cons, List.not_mem_nil]
      exact k (.lst [] .nil) _ .nil (e1 _) (by simp [refs])
    rw [if_neg (by omega)] at k
    obtain ⟨z, hz⟩ : ∃ z, l[kk + N + 3]? = some z := ⟨_, List.getElem?_eq_getElem (by omega)⟩
    have hz' : (l.drop kk)[((N + 3 : Nat) : Int).toNat]? = some z := by
      rw [show ((N + 3 : Nat) : Int).toNat = N + 3 by omega, List.getElem?_drop, ← Nat.add_assoc]; exact hz
    rw [hz] at k hagain
    simp only [eq_false c3, eq_false c4, wa, wb, wc, onLst_len hy2.lenIs, eq_false c5, Int.natCast_nonneg, wf_preprocess, ↓reduceIte, Nat.reduceEqDiff, reduceCtorEq, Nat.reduceAdd, Nat.reduceMul, Nat.reduceLeDiff, Nat.reduceLT, Nat.reduceSub, Int.reduceToNat, Int.reduceNeg, Int.reduceAdd, Int.reduceSub, Int.reduceMul, Int.reduceEq, Int.reduceLT, Int.reduceLE, Int.reduceNe, forall_const, forall_eq', forall_eq, List.forall_mem_cons, List.not_mem_nil]
    refine idx_i (n := ((N + 3 : Nat) : Int)) hy2 (by omega) hz' fun a1 r1 ha1 => ?_
    by_cases c6 : z = 0
    · rw [if_pos (by rw [c6])] at k
      simp only [ha1, eq_true c6, wf_preprocess, ↓reduceIte, Nat.reduceEqDiff, reduceCtorEq, Nat.reduceAdd, Nat.reduceMul, Nat.reduceLeDiff, Nat.reduceLT, Nat.reduceSub, Int.reduceToNat, Int.reduceNeg, Int.reduceAdd, Int.reduceSub, Int.reduceMul, Int.reduceEq, Int.reduceLT, Int.reduceLE, Int.reduceNe, forall_const, forall_eq', forall_eq, List.forall_mem_cons, List.not_mem_nil]
      exact k (.lst [] .nil) _ .nil (e1 _) (by simp [refs])
    rw [if_neg (fun e => c6 (Option.some.inj e))] at k
    simp only [ha1, eq_false c6, wf_preprocess, ↓reduceIte, Nat.reduceEqDiff, reduceCtorEq, Nat.reduceAdd, Nat.reduceMul, Nat.reduceLeDiff, Nat.reduceLT, Nat.reduceSub, Int.reduceToNat, Int.reduceNeg, Int.reduceAdd, Int.reduceSub, Int.reduceMul, Int.reduceEq, Int.reduceLT, Int.reduceLE, Int.reduceNe, forall_const, forall_eq', forall_eq, List.forall_mem_cons, List.not_mem_nil]
    refine slice_i (L := 0) (H := ((N - 1 : Nat) : Int)) hy2 (fun K k => k) (fun K k => ?_) (by omega) (by omega) (by omega) fun y3 hy3 => ?_
    · rw [bndOr_some]; simp only [wf_preprocess, ↓reduceIte, Nat.reduceEqDiff, reduceCtorEq, Nat.reduceAdd, Nat.reduceMul, Nat.reduceLeDiff, Nat.reduceLT, Nat.reduceSub, Int.reduceToNat, Int.reduceNeg, Int.reduceAdd, Int.reduceSub, Int.reduceMul, Int.reduceEq, Int.reduceLT, Int.reduceLE, Int.reduceNe, forall_const, forall_eq', forall_eq, List.forall_mem_cons, List.not_mem_nil]; exact k
    rw [show (0 : Int).toNat = 0 from rfl, List.drop_zero, show ((N - 1 : Nat) : Int).toNat - 0 = N - 1 by omega] at hy3
    have hbl : ((l.drop kk).take (N - 1)).length = N - 1 := by rw [List.length_take]; omega
    simp only [wf_preprocess, ↓reduceIte, Nat.reduceEqDiff, reduceCtorEq, Nat.reduceAdd, Nat.reduceMul, Nat.reduceLeDiff, Nat.reduceLT, Nat.reduceSub, Int.reduceToNat, Int.reduceNeg, Int.reduceAdd, Int.reduceSub, Int.reduceMul, Int.reduceEq, Int.reduceLT, Int.reduceLE, Int.reduceNe, forall_const, forall_eq', forall_eq, List.forall_mem_cons, List.not_mem_nil]
    refine app_bufI BufI.nil (hy3.at .rfl') (by rw [hbl]; simp; omega) (by rw [hbl, maxLen_e]; simp; omega) fun v4 m4 hb4 e4 f4 => ?_
    rw [List.nil_append] at hb4
    replace e4 : Ext [] ((q, .cells [y', iv 0]) :: m) m4 := e4.sub (by simp [refs])
    have f4' : ∀ i ∈ refs v4, i ∉ keys ((q, AObj.cells [y', iv 0]) :: m) := fun i hi => by
      rcases f4 with rfl | f4
      · simp [refs] at hi
      · exact f4 i hi
    have gq4 := e4 _ _ gq (by simp)
    simp only [wf_preprocess, ↓reduceIte, Nat.reduceEqDiff, reduceCtorEq, Nat.reduceAdd, Nat.reduceMul, Nat.reduceLeDiff, Nat.reduceLT, Nat.reduceSub, Int.reduceToNat, Int.reduceNeg, Int.reduceAdd, Int.reduceSub, Int.reduceMul, Int.reduceEq, Int.reduceLT, Int.reduceLE, Int.reduceNe, forall_const, forall_eq', forall_eq, List.forall_mem_cons, List.not_mem_nil]
    have hbb : byteL ((l.drop kk).take (N - 1)) := byte_take (byte_drop hv.2)
    refine call_i (rPut_s (BufI.els (S := []) hb4 hbb (by simp)) fun v5 m5 hb5 e5 f5 => ?_)
    rw [show putR ((l.drop kk).take (N - 1)) = (recB ((l.drop kk).take (N - 1)), 0) by
      unfold putR
      rw [if_neg (by rintro (h | h); rw [h] at hbl; simp at hbl; omega; omega)]] at hb5 ⊢
    have gq5 := e5 _ _ gq4 (by simp)
    have hvq5 := (hvq.ext e4 (by simp)).ext e5 (by simp)
    have hy25 := (hy2.ext e4 (by simp)).ext e5 (by simp)
    simp only [wf_preprocess, ↓reduceIte, Nat.reduceEqDiff, reduceCtorEq, Nat.reduceAdd, Nat.reduceMul, Nat.reduceLeDiff, Nat.reduceLT, Nat.reduceSub, Int.reduceToNat, Int.reduceNeg, Int.reduceAdd, Int.reduceSub, Int.reduceMul, Int.reduceEq, Int.reduceLT, Int.reduceLE, Int.reduceNe, forall_const, forall_eq', forall_eq, List.forall_mem_cons, List.not_mem_nil]
    refine bytes_ii hb5.elems (recB_byte hbb) ?_
    have wk1 : IntKind.i64.wrap ((l.length : Int) - ((l.drop kk).length : Int)) = (kk : Int) := by rw [hdl, wrap64 (by omega) (by omega)]; omega
    have wk2 : IntKind.i64.wrap ((kk : Int) + ((N - 1 : Nat) : Int)) = ((kk + N - 1 : Nat) : Int) := by rw [wrap64 (by omega) (by omega)]; omega
    have wk3 : IntKind.i64.wrap (((kk + N - 1 : Nat) : Int) + 5) = ((kk + N + 4 : Nat) : Int) := by rw [wrap64 (by omega) (by omega)]; omega
    simp only [gq5, onLst_len hvq5.lenIs, onLst_len hy25.lenIs, wk1, wk2, wk3, wf_preprocess, ↓reduceIte, Nat.reduceEqDiff, reduceCtorEq, Nat.reduceAdd, Nat.reduceMul, Nat.reduceLeDiff, Nat.reduceLT, Nat.reduceSub, Int.reduceToNat, Int.reduceNeg, Int.reduceAdd, Int.reduceSub, Int.reduceMul, Int.reduceEq, Int.reduceLT, Int.reduceLE, Int.reduceNe, forall_const, forall_eq', forall_eq, List.forall_mem_cons, List.not_mem_nil]
    refine slice_i (L := 0) (H := ((kk + N + 4 : Nat) : Int)) hvq5 (fun K k => k) (fun K k => ?_) (by omega) (by omega) (by omega) fun y6 hy6 => ?_
    · rw [bndOr_some]; simp only [wf_preprocess, ↓reduceIte, Nat.reduceEqDiff, reduceCtorEq, Nat.reduceAdd, Nat.reduceMul, Nat.reduceLeDiff, Nat.reduceLT, Nat.reduceSub, Int.reduceToNat, Int.reduceNeg, Int.reduceAdd, Int.reduceSub, Int.reduceMul, Int.reduceEq, Int.reduceLT, Int.reduceLE, Int.reduceNe, forall_const, forall_eq', forall_eq, List.forall_mem_cons, List.not_mem_nil]; exact k
    rw [show (0 : Int).toNat = 0 from rfl, List.drop_zero, show ((kk + N + 4 : Nat) : Int).toNat - 0 = kk + N + 4 by omega] at hy6
    simp only [wf_preprocess, ↓reduceIte, Nat.reduceEqDiff, reduceCtorEq, Nat.reduceAdd, Nat.reduceMul, Nat.reduceLeDiff, Nat.reduceLT, Nat.reduceSub, Int.reduceToNat, Int.reduceNeg, Int.reduceAdd, Int.reduceSub, Int.reduceMul, Int.reduceEq, Int.reduceLT, Int.reduceLE, Int.reduceNe, forall_const, forall_eq', forall_eq, List.forall_mem_cons, List.not_mem_nil]
    refine bytes_ii (hy6.at .rfl') hy6.2 ?_
    have hdec := (bytesOf_inj (recB_byte hbb) hy6.2).trans (hagain (by omega) (by omega) (by omega))
    have lb5 := BufI.lenIs hb5
    by_cases c7 : (some z = some (165 : Int) ∧ (l.drop (kk + N - 1)).take 4 = sumB (crc ((l.drop kk).take (N - 1))).toNat)
    case neg =>
      rw [if_pos (by
        by_cases h1 : some z = some (165 : Int)
        · exact .inr fun h2 => c7 ⟨h1, h2⟩
        · exact .inl h1)] at k
      simp only [hdec.trans (eq_false c7), wf_preprocess, ↓reduceIte, Nat.reduceEqDiff, reduceCtorEq, Nat.reduceAdd, Nat.reduceMul, Nat.reduceLeDiff, Nat.reduceLT, Nat.reduceSub, Int.reduceToNat, Int.reduceNeg, Int.reduceAdd, Int.reduceSub, Int.reduceMul, Int.reduceEq, Int.reduceLT, Int.reduceLE, Int.reduceNe, forall_const, forall_eq', forall_eq, List.forall_mem_cons, List.not_mem_nil]
      exact k (.lst [] .nil) _ .nil ((e1 _).trans (e4.trans e5)) (by simp [refs])
    rw [if_neg (by rintro (h | h); exact h c7.1; exact h c7.2)] at k
    have hrl : (recB ((l.drop kk).take (N - 1))).length = kk + N + 4 := by
      have : (recB ((l.drop kk).take (N - 1)) = l.take (kk + N + 4)) := by rw [hagain (by omega) (by omega) (by omega)]; exact c7
      rw [this, List.length_take]; omega
    simp only [hdec.trans (eq_true c7), onLst_len lb5, hrl, wf_preprocess, ↓reduceIte, Nat.reduceEqDiff, reduceCtorEq, Nat.reduceAdd, Nat.reduceMul, Nat.reduceLeDiff, Nat.reduceLT, Nat.reduceSub, Int.reduceToNat, Int.reduceNeg, Int.reduceAdd, Int.reduceSub, Int.reduceMul, Int.reduceEq, Int.reduceLT, Int.reduceLE, Int.reduceNe, forall_const, forall_eq', forall_eq, List.forall_mem_cons, List.not_mem_nil]
    exact k v4 m5 (hb4.ext e5 (by simp)) ((e1 _).trans (e4.trans e5)) fun i hi hk => f4' i hi (by simp only [keys_e, List.mem_cons]; exact .inr hk)
end
end Go.Proofs.Ytlcfagocikfocaa.Moi.Rec
