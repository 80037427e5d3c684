/- What functions of this program do, on plain values: a part of the proofs of this seat's laws; each theorem bears its own conditions. -/
import Derived.Test.YtceahampebofbaaTreeI
set_option linter.unusedVariables false
set_option linter.unusedSimpArgs false
set_option maxRecDepth 1000000
namespace Go.Proofs.Ytceahampebofbaa.Moi.Tree
open Go Go.RowKit Go.Proofs.Ytceahampebofbaa.Moi
attribute [-wf_preprocess] ite_eq_dite forIn_eq_forIn'

/-- A tree that is made, to be read. -/
structure TrD (L : List Nd) (m : Heap) (T N cN M K S : Nat) (r ks : List AV) (vo vl : AV) (Sp : Sp2) : Prop where
  gT : get T m = some (.cells [.mref N 0 L.length cN, .mapp M, .mref K 0 L.length L.length, vo, vl, .mref S 0 L.length L.length])
  gN : get N m = some (.cells (nc L ++ r))
  gM : get M m = some (.amap (pl L))
  gK : get K m = some (.cells ks)
  gS : get S m = some (.cells (sc Sp))
  bo : BufI .i64 (il (order L)) vo m
  bl : BufI .i64 (il (leaves L)) vl m
  len : ks.length = L.length
  kb : ∀ (j : Nat) v, ks[j]? = some v → BufI .i64 (il (kids L j)) v m
  sp : SpIn L (order L) (order L) Sp
  ne : T ≠ N
def Tr (L : List Nd) (m : Heap) (T : Nat) : Prop := ∃ N cN M K S r ks vo vl Sp, TrD L m T N cN M K S r ks vo vl Sp
section
variable {L : List Nd} {m m' m0 : Heap} {T N cN M K S B D : Nat} {r ks : List AV} {vo vl y : AV} {O V : List Nat} {Sp : Sp2} {Q E : AV → Heap → Prop} {i : Nat}
theorem TrD.ext (h : TrD L m T N cN M K S r ks vo vl Sp) (he : Ext [] m m') : TrD L m' T N cN M K S r ks vo vl Sp :=
  ⟨he _ _ h.gT (by simp), he _ _ h.gN (by simp), he _ _ h.gM (by simp), he _ _ h.gK (by simp), he _ _ h.gS (by simp), h.bo.ext he (by simp), h.bl.ext he (by simp), h.len, fun j v hj => (h.kb j v hj).ext he (by simp), h.sp, h.ne⟩
theorem Tr.ext (h : Tr L m T) (he : Ext [] m m') : Tr L m' T := by
  obtain ⟨N, cN, M, K, S, r, ks, vo, vl, Sp, h⟩ := h
  exact ⟨N, cN, M, K, S, r, ks, vo, vl, Sp, h.ext he⟩
theorem Tr.nds (h : Tr L m T) : Nds L m T := by
  obtain ⟨N, cN, M, K, S, r, ks, vo, vl, Sp, h⟩ := h
  exact ⟨N, cN, _, r, h.gT, h.gN, h.ne⟩
theorem Tr.flds (h : Tr L m T) : ∃ M, Flds L m T M (pl L) := by
  obtain ⟨N, cN, M, K, S, r, ks, vo, vl, Sp, h⟩ := h
  exact ⟨M, N, cN, _, r, h.gT, h.gN, h.gM, h.ne⟩
theorem Wk.start (h : Kd L m0 m T N cN M K S r ks L.length) (hB : B ∉ keys m) (hD : D ∉ keys ((B, AObj.cells [.ptr T 0]) :: m)) :
    Wk L m0 ((D, .cells [.clos 50 [.ptr B 0, .ptr D 0]]) :: (B, .cells [.ptr T 0]) :: m) T N cN M K S B D r ks (.lst [] .nil) (.lst [] .nil) [] [] (List.replicate L.length (0, 0)) := by
  have e1 : Ext [] m ((B, AObj.cells [.ptr T 0]) :: m) := .new hB
  have e2 : Ext [] ((B, AObj.cells [.ptr T 0]) :: m) ((D, AObj.cells [.clos 50 [.ptr B 0, .ptr D 0]]) :: (B, AObj.cells [.ptr T 0]) :: m) := .new hD
  have he := e1.trans e2
  have hDm : D ∉ keys m := fun hk => hD (by simp only [keys_e, List.mem_cons]; exact .inr hk)
  have hDB : D ≠ B := fun e => hD (by simp only [keys_e, List.mem_cons]; exact .inl e)
  obtain ⟨⟨a1, a2, a3, a4⟩, ⟨b1, b2, b3⟩, ⟨c1, c2⟩, d1⟩ := h.ids
  have inm : ∀ x ∈ [T, N, M, K, S], x ∈ keys m := fun x hx => by
    simp only [List.mem_cons, List.not_mem_nil, or_false] at hx
    rcases hx with rfl | rfl | rfl | rfl | rfl
    · exact mem_keys h.gT
    · exact mem_keys h.gN
    · exact mem_keys h.gM
    · exact mem_keys h.gK
    · exact mem_keys h.gS
  have nB : ∀ x ∈ [T, N, M, K, S], x ≠ B := fun x hx e => hB (e ▸ inm x hx)
  have nD : ∀ x ∈ [T, N, M, K, S], x ≠ D := fun x hx e => hDm (e ▸ inm x hx)
  have new0 : ∀ x, x ∉ keys m → x ∉ keys m0 := fun x hx hk => hx (in0 h.ext hk)
  refine ⟨he _ _ h.gT (by simp), he _ _ h.gN (by simp), he _ _ h.gM (by simp), he _ _ h.gK (by simp), ?_, e2 _ _ get_new (by simp), get_new, BufI.nil, BufI.nil, ?_, ?_, h.ext.trans he, h.len, by simp, fun j v hj => ?_, fun j v hj x hr => ?_, by simp [refs], by simp [refs]⟩
  · rw [← sc_rep]; exact he _ _ h.gS (by simp)
  · simp only [List.nodup_cons, List.mem_cons, List.not_mem_nil, or_false, not_or, not_false_eq_true, and_true, List.nodup_nil, true_and]
    exact ⟨⟨a1, a2, a3, a4, nB T (by simp), nD T (by simp)⟩, ⟨b1, b2, b3, nB N (by simp), nD N (by simp)⟩, ⟨c1, c2, nB M (by simp), nD M (by simp)⟩, ⟨d1, nB K (by simp), nD K (by simp)⟩, ⟨nB S (by simp), nD S (by simp)⟩, fun e => hDB e.symm⟩
  · intro x hx
    simp only [List.mem_cons, List.not_mem_nil, or_false] at hx
    rcases hx with rfl | rfl | rfl | rfl | rfl | rfl | rfl
    · exact h.new _ (by simp)
    · exact h.new _ (by simp)
    · exact h.new _ (by simp)
    · exact h.new _ (by simp)
    · exact h.new _ (by simp)
    · exact new0 _ hB
    · exact new0 _ hDm
  · have := h.buf j v hj
    rw [kidsTo_all] at this
    exact this.ext he (by simp)
  · obtain ⟨q1, q2⟩ := h.fre j v hj x hr
    refine ⟨q1, fun hk => ?_⟩
    have hxm := (h.buf j v hj).inK x hr
    simp only [List.mem_cons, List.not_mem_nil, or_false, not_or] at hk q2
    obtain ⟨w1, w2, w3, w4, w5⟩ := q2
    rcases hk with e | e | e | e | e | e | e
    · exact w1 e
    · exact w2 e
    · exact w3 e
    · exact w4 e
    · exact w5 e
    · exact hB (e ▸ hxm)
    · exact hDm (e ▸ hxm)

/-! ### All roots -/
def rootsTo (L : List Nd) (i : Nat) : List Nat := (List.range i).filter fun k => decide (upA L k < 0)
theorem rootsTo_succ : rootsTo L (i + 1) = rootsTo L i ++ if upA L i < 0 then [i] else [] := by
  unfold rootsTo
  rw [List.range_succ, List.filter_append]
  congr 1
  by_cases h : upA L i < 0 <;> simp [h]
theorem rootsTo_pre : ∀ d, ∃ R, rootsTo L (i + d) = rootsTo L i ++ R
  | 0 => ⟨[], by simp⟩
  | d + 1 => by
    obtain ⟨R, hR⟩ := rootsTo_pre d
    rw [← Nat.add_assoc, rootsTo_succ, hR]
    exact ⟨R ++ _, by rw [List.append_assoc]⟩
def ordTo (L : List Nd) (i : Nat) : List Nat := (rootsTo L i).flatMap (tr L)
theorem ordTo_all : ordTo L L.length = order L := rfl
theorem ordTo_root (h : upA L i < 0) : ordTo L (i + 1) = ordTo L i ++ tr L i := by
  unfold ordTo
  rw [rootsTo_succ, if_pos h, List.flatMap_append]; simp
theorem ordTo_other (h : ¬ upA L i < 0) : ordTo L (i + 1) = ordTo L i := by
  unfold ordTo
  rw [rootsTo_succ, if_neg h, List.append_nil]
theorem ordTo_nodup (ok : Ok L) (hi : i ≤ L.length) : (ordTo L i).Nodup ∧ (ordTo L i).length ≤ L.length := by
  obtain ⟨R, hR⟩ := rootsTo_pre (L := L) (i := i) (L.length - i)
  rw [show i + (L.length - i) = L.length by omega] at hR
  have e : order L = ordTo L i ++ R.flatMap (tr L) := by
    unfold ordTo
    rw [← List.flatMap_append, ← hR]; rfl
  have hnd := order_nodup ok
  rw [e] at hnd
  have h1 := (List.nodup_append.1 hnd).1
  exact ⟨h1, pigeon h1 fun x hx => order_lt ok (by rw [e]; simp [hx])⟩
theorem walk_s (ok : Ok L) (h : Kd L m0 m T N cN M K S r ks L.length) (k : ∀ m', Ext [] m0 m' → Tr L m' T → Q (.tup []) m') : ACall Try.prog 38 [.ptr T 0] m Q E := by
  refine acall_fn mixed Try.func38 Try.call38 e38 r38 (Nat.le_of_ble_eq_true rfl) ?_
  simp only [n38, wf_preprocess, ↓reduceIte, Nat.reduceEqDiff, reduceCtorEq, Nat.reduceAdd, Nat.reduceMul, Nat.reduceLeDiff, Nat.reduceLT, Nat.reduceSub, Int.reduceToNat, Int.reduceNeg, Int.reduceAdd, Int.reduceSub, Int.reduceMul, Int.reduceEq, Int.reduceLT, Int.reduceLE, Int.reduceNe, forall_const, forall_eq', forall_eq, List.forall_mem_cons, List.not_mem_nil]
  refine fresh_i fun B hB => ?_
  simp only [wf_preprocess, ↓reduceIte, Nat.reduceEqDiff, reduceCtorEq, Nat.reduceAdd, Nat.reduceMul, Nat.reduceLeDiff, Nat.reduceLT, Nat.reduceSub, Int.reduceToNat, Int.reduceNeg, Int.reduceAdd, Int.reduceSub, Int.reduceMul, Int.reduceEq, Int.reduceLT, Int.reduceLE, Int.reduceNe, forall_const, forall_eq', forall_eq, List.forall_mem_cons, List.not_mem_nil]
  refine fresh_i fun D hD => ?_
  have hDB : ¬ D = B := fun e => hD (by simp only [keys_e, List.mem_cons]; exact .inl e)
  have hBD : ¬ B = D := fun e => hDB e.symm
  have hW := Wk.start h hB hD
  have hW' : Wk L m0 (put D (AObj.cells (AV.agg [AV.clos 50 [AV.ptr B 0, AV.ptr D 0]]).cells) ((D, AObj.cells [AV.sc Value.nilFunc]) :: (B, AObj.cells (AV.agg [AV.ptr T 0]).cells) :: m)) T N cN M K S B D r ks (.lst [] .nil) (.lst [] .nil) [] [] (List.replicate L.length (0, 0)) := by
    rw [put_e, if_pos rfl]; exact hW
  have hgT := hW.gT
  simp only [get_e, hDB, hBD, if_true, if_false] at hgT
  simp only [hDB, hBD, hgT, hW.gT, wf_preprocess, ↓reduceIte, Nat.reduceEqDiff, reduceCtorEq, Nat.reduceAdd, Nat.reduceMul, Nat.reduceLeDiff, Nat.reduceLT, Nat.reduceSub, Int.reduceToNat, Int.reduceNeg, Int.reduceAdd, Int.reduceSub, Int.reduceMul, Int.reduceEq, Int.reduceLT, Int.reduceLE, Int.reduceNe, forall_const, forall_eq', forall_eq, List.forall_mem_cons, List.not_mem_nil]
  have hL32 := ok.le
  refine loop_i (fun kk ρ m' => ∃ (i : Nat) (vo vl : AV) (Sp : Sp2), kk = L.length - i ∧ i ≤ L.length ∧ Wk L m0 m' T N cN M K S B D r ks vo vl (ordTo L i) (lf L (ordTo L i)) Sp ∧ SpIn L (ordTo L i) (ordTo L i) Sp ∧ ρ 2 = .ptr D 0 ∧ ρ 9 = .mref N 0 L.length cN ∧ ρ 10 = iv L.length ∧ ρ 11 = iv i) L.length ⟨0, _, _, _, rfl, by omega, hW', fun x hx => by simp [ordTo, rootsTo] at hx, ?_⟩ ?_
  · simp only [wf_preprocess, ↓reduceIte, Nat.reduceEqDiff, reduceCtorEq, Nat.reduceAdd, Nat.reduceMul, Nat.reduceLeDiff, Nat.reduceLT, Nat.reduceSub, Int.reduceToNat, Int.reduceNeg, Int.reduceAdd, Int.reduceSub, Int.reduceMul, Int.reduceEq, Int.reduceLT, Int.reduceLE, Int.reduceNe, forall_const, forall_eq', forall_eq, List.forall_mem_cons, List.not_mem_nil]
  rintro kk ρ m2 ⟨i, vo, vl, Sp, rfl, hi, hW, hSp, k2, k9, k10, k11⟩
  by_cases hin : (i : Int) < (L.length : Int)
  · obtain ⟨p, hp⟩ : ∃ p, L[i]? = some p := ⟨_, List.getElem?_eq_getElem (by omega)⟩
    have hup := upA_at hp
    have w1 : IntKind.i64.wrap ((i : Int) + 1) = ((i + 1 : Nat) : Int) := wrap64 (by omega) (by omega)
    have hdr := nc_drop (r := r) hp
    have htk : 2 ≤ ((nc L ++ r).drop (i * 2)).length := by rw [hdr]; simp
    have htk2 : ((nc L ++ r).drop (i * 2)).take 2 = [.sc (.string p.1), iv p.2] := by rw [hdr]; rfl
    simp only [k2, k9, k10, k11, hin, hW.gN, htk, htk2, Int.natCast_nonneg, wf_preprocess, ↓reduceIte, Nat.reduceEqDiff, reduceCtorEq, Nat.reduceAdd, Nat.reduceMul, Nat.reduceLeDiff, Nat.reduceLT, Nat.reduceSub, Int.reduceToNat, Int.reduceNeg, Int.reduceAdd, Int.reduceSub, Int.reduceMul, Int.reduceEq, Int.reduceLT, Int.reduceLE, Int.reduceNe, forall_const, forall_eq', forall_eq, List.forall_mem_cons, List.not_mem_nil]
    refine fresh_i fun X hX => ?_
    have hXe : Ext [] m2 ((X, AObj.cells [.sc (.string p.1), iv p.2]) :: m2) := .new hX
    have hWX := hW.after hXe
    have hXD : ¬ X = D := fun e => hX (e ▸ mem_keys hW.gD)
    by_cases c : p.2 < 0
    · have hr : upA L i < 0 := by rw [hup]; exact c
      obtain ⟨q1, q2⟩ := ordTo_nodup ok (i := i + 1) (by omega)
      rw [ordTo_root hr] at q1 q2
      rw [List.length_append] at q2
      simp only [k2, k9, k10, k11, c, hXD, hW.gD, wf_preprocess, ↓reduceIte, Nat.reduceEqDiff, reduceCtorEq, Nat.reduceAdd, Nat.reduceMul, Nat.reduceLeDiff, Nat.reduceLT, Nat.reduceSub, Int.reduceToNat, Int.reduceNeg, Int.reduceAdd, Int.reduceSub, Int.reduceMul, Int.reduceEq, Int.reduceLT, Int.reduceLE, Int.reduceNe, forall_const, forall_eq', forall_eq, List.forall_mem_cons, List.not_mem_nil]
      refine call_i (walk1_s ok i (by omega) _ _ _ _ _ _ _ hWX (by omega) q1 fun m3 vo3 vl3 Sp3 hW3 hS3 hU3 => ?_)
      simp only [k2, k9, k10, k11, w1, wf_preprocess, ↓reduceIte, Nat.reduceEqDiff, reduceCtorEq, Nat.reduceAdd, Nat.reduceMul, Nat.reduceLeDiff, Nat.reduceLT, Nat.reduceSub, Int.reduceToNat, Int.reduceNeg, Int.reduceAdd, Int.reduceSub, Int.reduceMul, Int.reduceEq, Int.reduceLT, Int.reduceLE, Int.reduceNe, forall_const, forall_eq', forall_eq, List.forall_mem_cons, List.not_mem_nil]
      refine ⟨L.length - (i + 1), by omega, i + 1, vo3, vl3, Sp3, rfl, by omega, by rw [ordTo_root hr]; exact hW3, ?_, rfl⟩
      rw [ordTo_root hr]
      intro x hx
      rcases List.mem_append.1 hx with hx | hx
      · obtain ⟨A, C, e, hs⟩ := hSp.more (tr L i) x hx
        refine ⟨A, C, e, ?_⟩
        rw [hU3 x fun hxc => (List.nodup_append.1 q1).2.2 x hx x hxc rfl]
        exact hs
      · exact hS3 x hx
    · have hr : ¬ upA L i < 0 := by rw [hup]; exact c
      simp only [k2, k9, k10, k11, c, w1, wf_preprocess, ↓reduceIte, Nat.reduceEqDiff, reduceCtorEq, Nat.reduceAdd, Nat.reduceMul, Nat.reduceLeDiff, Nat.reduceLT, Nat.reduceSub, Int.reduceToNat, Int.reduceNeg, Int.reduceAdd, Int.reduceSub, Int.reduceMul, Int.reduceEq, Int.reduceLT, Int.reduceLE, Int.reduceNe, forall_const, forall_eq', forall_eq, List.forall_mem_cons, List.not_mem_nil]
      refine ⟨L.length - (i + 1), by omega, i + 1, vo, vl, Sp, rfl, by omega, by rw [ordTo_other hr]; exact hWX, by rw [ordTo_other hr]; exact hSp, rfl⟩
  · obtain rfl : i = L.length := by omega
    rw [ordTo_all] at hW hSp
    simp only [k2, k9, k10, k11, hin, wf_preprocess, ↓reduceIte, Nat.reduceEqDiff, reduceCtorEq, Nat.reduceAdd, Nat.reduceMul, Nat.reduceLeDiff, Nat.reduceLT, Nat.reduceSub, Int.reduceToNat, Int.reduceNeg, Int.reduceAdd, Int.reduceSub, Int.reduceMul, Int.reduceEq, Int.reduceLT, Int.reduceLE, Int.reduceNe, forall_const, forall_eq', forall_eq, List.forall_mem_cons, List.not_mem_nil]
    exact k m2 hW.ext ⟨N, cN, M, K, S, r, ks, vo, vl, Sp, hW.gT, hW.gN, hW.gM, hW.gK, hW.gS, hW.bo, hW.bl, hW.len, hW.kb, hSp, hW.ids.1.1⟩
theorem New_s (hI : Inp y L) (ks : L.length = 0 ∨ 32 < L.length → Q (.tup [.sc (.pointer none), iv 0, iv 5]) m) (kb : ∀ s i m', L.length ≠ 0 → L.length ≤ 32 → BadAt L s i → Ext [] m m' → Q (.tup [.sc (.pointer none), iv i, iv (chk L s i)]) m')
    (k : ∀ T m', Ok L → AllOk L → Tr L m' T → Ext [] m m' → Q (.tup [.ptr T 0, iv 0, iv 0]) m') : ACall Try.prog 8 [y] m Q E := by
  have hL : LenIs y L.length := by
    obtain ⟨o, rfl, _⟩ := hI
    exact .inl ⟨_, _, rfl, by simp⟩
  refine acall_fn mixed Try.func8 Try.call8 e8 r8 (Nat.le_of_ble_eq_true rfl) ?_
  rw [n_New]
  by_cases c0 : L.length = 0
  · have c0' : (L.length : Int) = 0 := by omega
    have := ks (.inl c0)
    simp only [d8a, onLst_len hL, c0', wf_preprocess, ↓reduceIte, Nat.reduceEqDiff, reduceCtorEq, Nat.reduceAdd, Nat.reduceMul, Nat.reduceLeDiff, Nat.reduceLT, Nat.reduceSub, Int.reduceToNat, Int.reduceNeg, Int.reduceAdd, Int.reduceSub, Int.reduceMul, Int.reduceEq, Int.reduceLT, Int.reduceLE, Int.reduceNe, forall_const, forall_eq', forall_eq, List.forall_mem_cons, List.not_mem_nil]
    exact this
  have c0' : ¬ (L.length : Int) = 0 := by omega
  by_cases c1 : 32 < L.length
  · have c1' : (32 : Int) < (L.length : Int) := by omega
    have := ks (.inr c1)
    simp only [d8a, onLst_len hL, c0', c1', wf_preprocess, ↓reduceIte, Nat.reduceEqDiff, reduceCtorEq, Nat.reduceAdd, Nat.reduceMul, Nat.reduceLeDiff, Nat.reduceLT, Nat.reduceSub, Int.reduceToNat, Int.reduceNeg, Int.reduceAdd, Int.reduceSub, Int.reduceMul, Int.reduceEq, Int.reduceLT, Int.reduceLE, Int.reduceNe, forall_const, forall_eq', forall_eq, List.forall_mem_cons, List.not_mem_nil]
    exact this
  have c1' : ¬ (32 : Int) < (L.length : Int) := by omega
  have hne : L ≠ [] := fun e => c0 (by rw [e]; rfl)
  simp only [d8a, onLst_len hL, c0', c1', wf_preprocess, ↓reduceIte, Nat.reduceEqDiff, reduceCtorEq, Nat.reduceAdd, Nat.reduceMul, Nat.reduceLeDiff, Nat.reduceLT, Nat.reduceSub, Int.reduceToNat, Int.reduceNeg, Int.reduceAdd, Int.reduceSub, Int.reduceMul, Int.reduceEq, Int.reduceLT, Int.reduceLE, Int.reduceNe, forall_const, forall_eq', forall_eq, List.forall_mem_cons, List.not_mem_nil]
  refine new_b hI hne (by omega) rfl fun ρ1 m1 hM => ?_
  obtain ⟨T, N, cN, M, K, S, r, hSt, g5, g0⟩ := hM
  refine new_c hL hSt (by omega) g0 g5 (fun ρ2 m2 s i hb he e2 e3 e4 => ?_) fun ρ2 m2 hok hSt2 g0' g5' => ?_
  · simp only [e2, e3, e4, wf_preprocess, ↓reduceIte, Nat.reduceEqDiff, reduceCtorEq, Nat.reduceAdd, Nat.reduceMul, Nat.reduceLeDiff, Nat.reduceLT, Nat.reduceSub, Int.reduceToNat, Int.reduceNeg, Int.reduceAdd, Int.reduceSub, Int.reduceMul, Int.reduceEq, Int.reduceLT, Int.reduceLE, Int.reduceNe, forall_const, forall_eq', forall_eq, List.forall_mem_cons, List.not_mem_nil]
    exact kb s i m2 c0 (by omega) hb he
  have ok := ok_of hne (by omega) hok
  refine new_d hI hSt2 (by omega) ok.rng g0' g5' fun ρ3 m3 kk hK g5'' => ?_
  simp only [d8e, g5'', wf_preprocess, ↓reduceIte, Nat.reduceEqDiff, reduceCtorEq, Nat.reduceAdd, Nat.reduceMul, Nat.reduceLeDiff, Nat.reduceLT, Nat.reduceSub, Int.reduceToNat, Int.reduceNeg, Int.reduceAdd, Int.reduceSub, Int.reduceMul, Int.reduceEq, Int.reduceLT, Int.reduceLE, Int.reduceNe, forall_const, forall_eq', forall_eq, List.forall_mem_cons, List.not_mem_nil]
  refine call_i (walk_s ok hK fun m4 he hT => ?_)
  simp only [g5'', wf_preprocess, ↓reduceIte, Nat.reduceEqDiff, reduceCtorEq, Nat.reduceAdd, Nat.reduceMul, Nat.reduceLeDiff, Nat.reduceLT, Nat.reduceSub, Int.reduceToNat, Int.reduceNeg, Int.reduceAdd, Int.reduceSub, Int.reduceMul, Int.reduceEq, Int.reduceLT, Int.reduceLE, Int.reduceNe, forall_const, forall_eq', forall_eq, List.forall_mem_cons, List.not_mem_nil]
  exact k T m4 ok hok hT he
end
end Go.Proofs.Ytceahampebofbaa.Moi.Tree
