/- What functions of this program do, on plain values: a part of the proofs of this seat's laws; each theorem bears its own conditions. -/
import Derived.Test.YtlcfagocikfocaaRecC
set_option linter.unusedVariables false
set_option linter.unusedSimpArgs false
set_option maxRecDepth 1000000
namespace Go.Proofs.Ytlcfagocikfocaa.Moi.Rec
open Go Go.RowKit Go.Proofs.Ytlcfagocikfocaa.Moi Go.Proofs.Ytlcfagocikfocaa.Moi.Wire
attribute [-wf_preprocess] ite_eq_dite forIn_eq_forIn'

section
variable {S : List Nat} {y : AV} {m : Heap} {l : List Int} {Q E : AV → Heap → Prop}
theorem Get_s (hv : Els S y m l) (hl : l.length ≤ 100000) (k : ∀ v m', BufI .u8 (getR l).1 v m' → Ext [] m m' → (∀ i ∈ refs v, i ∉ keys m) → Q (.tup [v, iv (getR l).2.1, iv (getR l).2.2]) m') : ACall Try.prog 15 [y] m Q E := by
  refine acall_fn mixed Try.func15 Try.call15 e15 r15 (Nat.le_of_ble_eq_true rfl) ?_
  unfold getR at k
  by_cases c1 : (l.length : Int) = 0
  · rw [if_pos (.inl (nil_of_len c1))] at k
    simp only [n15, onLst_len hv.lenIs, eq_true c1, wf_preprocess, ↓reduceIte, Nat.reduceEqDiff, reduceCtorEq, Nat.reduceAdd, Nat.reduceMul, Nat.reduceLeDiff, Nat.reduceLT, Nat.reduceSub, Int.reduceToNat, Int.reduceNeg, Int.reduceAdd, Int.reduceSub, Int.reduceMul, Int.reduceEq, Int.reduceLT, Int.reduceLE, Int.reduceNe, forall_const, forall_eq', forall_eq, List.forall_mem_cons, List.not_mem_nil]
    exact k (.lst [] .nil) m .nil .rfl' (by simp [refs])
  obtain ⟨x, hx⟩ : ∃ x, l[0]? = some x := ⟨_, List.getElem?_eq_getElem (by omega)⟩
  simp only [n15, onLst_len hv.lenIs, eq_false c1, wf_preprocess, ↓reduceIte, Nat.reduceEqDiff, reduceCtorEq, Nat.reduceAdd, Nat.reduceMul, Nat.reduceLeDiff, Nat.reduceLT, Nat.reduceSub, Int.reduceToNat, Int.reduceNeg, Int.reduceAdd, Int.reduceSub, Int.reduceMul, Int.reduceEq, Int.reduceLT, Int.reduceLE, Int.reduceNe, forall_const, forall_eq', forall_eq, List.forall_mem_cons, List.not_mem_nil]
  refine idx_i (n := 0) hv (by omega) (by simpa using hx) fun a0 r0 ha0 => ?_
  by_cases c2 : x = 0
  · rw [if_pos (.inr (by rw [hx, c2]))] at k
    simp only [onLst_len hv.lenIs, ha0, eq_true c2, wf_preprocess, ↓reduceIte, Nat.reduceEqDiff, reduceCtorEq, Nat.reduceAdd, Nat.reduceMul, Nat.reduceLeDiff, Nat.reduceLT, Nat.reduceSub, Int.reduceToNat, Int.reduceNeg, Int.reduceAdd, Int.reduceSub, Int.reduceMul, Int.reduceEq, Int.reduceLT, Int.reduceLE, Int.reduceNe, forall_const, forall_eq', forall_eq, List.forall_mem_cons, List.not_mem_nil]
    exact k (.lst [] .nil) m .nil .rfl' (by simp [refs])
  rw [if_neg (by rintro (rfl | h); exact c1 rfl; rw [hx] at h; exact c2 (Option.some.inj h))] at k
  simp only [onLst_len hv.lenIs, ha0, eq_false c2, wf_preprocess, ↓reduceIte, Nat.reduceEqDiff, reduceCtorEq, Nat.reduceAdd, Nat.reduceMul, Nat.reduceLeDiff, Nat.reduceLT, Nat.reduceSub, Int.reduceToNat, Int.reduceNeg, Int.reduceAdd, Int.reduceSub, Int.reduceMul, Int.reduceEq, Int.reduceLT, Int.reduceLE, Int.reduceNe, forall_const, forall_eq', forall_eq, List.forall_mem_cons, List.not_mem_nil]
  have hmin : min (l.length : Int) 32 = ((min l.length 32 : Nat) : Int) := by omega
  refine slice_i (L := 0) (H := ((min l.length 32 : Nat) : Int)) hv (fun K k => k) (fun K k => ?_) (by omega) (by omega) (by omega) fun y1 hy1 => ?_
  · rw [bndOr_some]
    simp only [hmin, wf_preprocess, ↓reduceIte, Nat.reduceEqDiff, reduceCtorEq, Nat.reduceAdd, Nat.reduceMul, Nat.reduceLeDiff, Nat.reduceLT, Nat.reduceSub, Int.reduceToNat, Int.reduceNeg, Int.reduceAdd, Int.reduceSub, Int.reduceMul, Int.reduceEq, Int.reduceLT, Int.reduceLE, Int.reduceNe, forall_const, forall_eq', forall_eq, List.forall_mem_cons, List.not_mem_nil]
    exact k
  have ht32 : (l.drop (0 : Int).toNat).take (((min l.length 32 : Nat) : Int).toNat - (0 : Int).toNat) = l.take 32 := by
    rw [show (0 : Int).toNat = 0 from rfl, List.drop_zero, show ((min l.length 32 : Nat) : Int).toNat - 0 = min l.length 32 by omega]
    by_cases h : l.length ≤ 32
    · rw [Nat.min_eq_left h, List.take_length, List.take_of_length_le h]
    · rw [Nat.min_eq_right (by omega)]
  rw [ht32] at hy1
  simp only [wf_preprocess, ↓reduceIte, Nat.reduceEqDiff, reduceCtorEq, Nat.reduceAdd, Nat.reduceMul, Nat.reduceLeDiff, Nat.reduceLT, Nat.reduceSub, Int.reduceToNat, Int.reduceNeg, Int.reduceAdd, Int.reduceSub, Int.reduceMul, Int.reduceEq, Int.reduceLT, Int.reduceLE, Int.reduceNe, forall_const, forall_eq', forall_eq, List.forall_mem_cons, List.not_mem_nil]
  refine call_i (Wire.new_s (hy1.at .rfl') hy1.isL (by rw [List.length_take]; omega) fun q o hq => ?_)
  have g0 : get q ((q, RO (l.take 32) o 0) :: m) = some (RO (l.take 32) o 0) := get_new
  simp only [wf_preprocess, ↓reduceIte, Nat.reduceEqDiff, reduceCtorEq, Nat.reduceAdd, Nat.reduceMul, Nat.reduceLeDiff, Nat.reduceLT, Nat.reduceSub, Int.reduceToNat, Int.reduceNeg, Int.reduceAdd, Int.reduceSub, Int.reduceMul, Int.reduceEq, Int.reduceLT, Int.reduceLE, Int.reduceNe, forall_const, forall_eq', forall_eq, List.forall_mem_cons, List.not_mem_nil]
  refine call_i (Wire.left_s g0 ?_)
  simp only [wf_preprocess, ↓reduceIte, Nat.reduceEqDiff, reduceCtorEq, Nat.reduceAdd, Nat.reduceMul, Nat.reduceLeDiff, Nat.reduceLT, Nat.reduceSub, Int.reduceToNat, Int.reduceNeg, Int.reduceAdd, Int.reduceSub, Int.reduceMul, Int.reduceEq, Int.reduceLT, Int.reduceLE, Int.reduceNe, forall_const, forall_eq', forall_eq, List.forall_mem_cons, List.not_mem_nil]
  refine call_i (Wire.num_s g0 (by rw [List.length_take]; omega) (byte_take hv.2) ?_)
  rw [scan_take]
  cases hs : scan l 0 0 with
  | inl e =>
    rw [hs] at k
    intro o'
    rw [put_e, if_pos rfl]
    have he : ¬ e = 0 := by rcases Wire.scan_err _ _ _ hs with rfl | rfl <;> omega
    have g1 : get q ((q, RO (l.take 32) o' e) :: m) = some (RO (l.take 32) o' e) := get_new
    simp only [wf_preprocess, ↓reduceIte, Nat.reduceEqDiff, reduceCtorEq, Nat.reduceAdd, Nat.reduceMul, Nat.reduceLeDiff, Nat.reduceLT, Nat.reduceSub, Int.reduceToNat, Int.reduceNeg, Int.reduceAdd, Int.reduceSub, Int.reduceMul, Int.reduceEq, Int.reduceLT, Int.reduceLE, Int.reduceNe, forall_const, forall_eq', forall_eq, List.forall_mem_cons, List.not_mem_nil]
    refine call_i (Wire.why_s g1 ?_)
    simp only [eq_false he, wf_preprocess, ↓reduceIte, Nat.reduceEqDiff, reduceCtorEq, Nat.reduceAdd, Nat.reduceMul, Nat.reduceLeDiff, Nat.reduceLT, Nat.reduceSub, Int.reduceToNat, Int.reduceNeg, Int.reduceAdd, Int.reduceSub, Int.reduceMul, Int.reduceEq, Int.reduceLT, Int.reduceLE, Int.reduceNe, forall_const, forall_eq', forall_eq, List.forall_mem_cons, List.not_mem_nil]
    exact k (.lst [] .nil) _ .nil (.new hq) (by simp [refs])
  | inr p =>
    obtain ⟨u, kk⟩ := p
    rw [hs] at k
    simp only at k ⊢
    intro o'
    rw [put_e, if_pos rfl]
    have hkl : kk ≤ (l.take 32).length := by
      have := Wire.scan_le (l.take 32) 0 0 (by rw [scan_take]; exact hs)
      omega
    have hkl2 : kk ≤ l.length := by rw [List.length_take] at hkl; omega
    have g1 : get q ((q, RO ((l.take 32).drop kk) o' 0) :: m) = some (RO ((l.take 32).drop kk) o' 0) := get_new
    have e1 : ∀ ob, Ext [] m ((q, ob) :: m) := fun ob => .new hq
    have hv1 : ∀ ob, Els S y ((q, ob) :: m) l := fun ob => hv.ext (e1 ob) (by simp)
    have hvq := hv1 (RO ((l.take 32).drop kk) o' 0)
    simp only [wf_preprocess, ↓reduceIte, Nat.reduceEqDiff, reduceCtorEq, Nat.reduceAdd, Nat.reduceMul, Nat.reduceLeDiff, Nat.reduceLT, Nat.reduceSub, Int.reduceToNat, Int.reduceNeg, Int.reduceAdd, Int.reduceSub, Int.reduceMul, Int.reduceEq, Int.reduceLT, Int.reduceLE, Int.reduceNe, forall_const, forall_eq', forall_eq, List.forall_mem_cons, List.not_mem_nil]
    refine call_i (Wire.why_s g1 ?_)
    simp only [wf_preprocess, ↓reduceIte, Nat.reduceEqDiff, reduceCtorEq, Nat.reduceAdd, Nat.reduceMul, Nat.reduceLeDiff, Nat.reduceLT, Nat.reduceSub, Int.reduceToNat, Int.reduceNeg, Int.reduceAdd, Int.reduceSub, Int.reduceMul, Int.reduceEq, Int.reduceLT, Int.reduceLE, Int.reduceNe, forall_const, forall_eq', forall_eq, List.forall_mem_cons, List.not_mem_nil]
    refine call_i (Wire.left_s g1 ?_)
    have wk : IntKind.i64.wrap (((l.take 32).length : Int) - (((l.take 32).drop kk).length : Int)) = (kk : Int) := by
      rw [List.length_drop, wrap64 (by omega) (by omega)]; omega
    generalize hn : unzig u = n at *
    by_cases c3 : n < 2
    · rw [if_pos (.inl c3)] at k
      simp only [wk, eq_true c3, wf_preprocess, ↓reduceIte, Nat.reduceEqDiff, reduceCtorEq, Nat.reduceAdd, Nat.reduceMul, Nat.reduceLeDiff, Nat.reduceLT, Nat.reduceSub, Int.reduceToNat, Int.reduceNeg, Int.reduceAdd, Int.reduceSub, Int.reduceMul, Int.reduceEq, Int.reduceLT, Int.reduceLE, Int.reduceNe, forall_const, forall_eq', forall_eq, List.forall_mem_cons, List.not_mem_nil]
      exact k (.lst [] .nil) _ .nil (e1 _) (by simp [refs])
    by_cases c4 : 251 < n
    · rw [if_pos (.inr c4)] at k
      simp only [wk, eq_false c3, eq_true c4, wf_preprocess, ↓reduceIte, Nat.reduceEqDiff, reduceCtorEq, Nat.reduceAdd, Nat.reduceMul, Nat.reduceLeDiff, Nat.reduceLT, Nat.reduceSub, Int.reduceToNat, Int.reduceNeg, Int.reduceAdd, Int.reduceSub, Int.reduceMul, Int.reduceEq, Int.reduceLT, Int.reduceLE, Int.reduceNe, forall_const, forall_eq', forall_eq, List.forall_mem_cons, List.not_mem_nil]
      exact k (.lst [] .nil) _ .nil (e1 _) (by simp [refs])
    rw [if_neg (by omega)] at k
    obtain ⟨N, rfl⟩ : ∃ N : Nat, n = N := ⟨n.toNat, by omega⟩
    have wa : IntKind.i64.wrap ((kk : Int) + (N : Int)) = ((kk + N : Nat) : Int) := wrap64 (by omega) (by omega)
    have wb : IntKind.i64.wrap (((kk + N : Nat) : Int) - 1) = ((kk + N - 1 : Nat) : Int) := by rw [wrap64 (by omega) (by omega)]; omega
    have wc : IntKind.i64.wrap (((kk + N - 1 : Nat) : Int) + 5) = ((kk + N + 4 : Nat) : Int) := by rw [wrap64 (by omega) (by omega)]; omega
    have wd : IntKind.i64.wrap (((kk + N + 4 : Nat) : Int) - 1) = ((kk + N + 3 : Nat) : Int) := by rw [wrap64 (by omega) (by omega)]; omega
    rw [show (N : Int).toNat = N by omega] at k
    by_cases c5 : (l.length : Int) < ((kk + N + 4 : Nat) : Int)
    · rw [if_pos (by omega)] at k
      simp only [wk, eq_false c3, eq_false c4, wa, wb, wc, onLst_len hv.lenIs, eq_true c5, wf_preprocess, ↓reduceIte, Nat.reduceEqDiff, reduceCtorEq, Nat.reduceAdd, Nat.reduceMul, Nat.reduceLeDiff, Nat.reduceLT, Nat.reduceSub, Int.reduceToNat, Int.reduceNeg, Int.reduceAdd, Int.reduceSub, Int.reduceMul, Int.reduceEq, Int.reduceLT, Int.reduceLE, Int.reduceNe, forall_const, forall_eq', forall_eq, List.forall_mem_cons, List.not_mem_nil]
      exact k (.lst [] .nil) _ .nil (e1 _) (by simp [refs])
    rw [if_neg (by omega)] at k
    obtain ⟨z, hz⟩ : ∃ z, l[kk + N + 3]? = some z := ⟨_, List.getElem?_eq_getElem (by omega)⟩
    rw [hz] at k
    simp only [wk, eq_false c3, eq_false c4, wa, wb, wc, wd, onLst_len hv.lenIs, eq_false c5, Int.natCast_nonneg, wf_preprocess, ↓reduceIte, Nat.reduceEqDiff, reduceCtorEq, Nat.reduceAdd, Nat.reduceMul, Nat.reduceLeDiff, Nat.reduceLT, Nat.reduceSub, Int.reduceToNat, Int.reduceNeg, Int.reduceAdd, Int.reduceSub, Int.reduceMul, Int.reduceEq, Int.reduceLT, Int.reduceLE, Int.reduceNe, forall_const, forall_eq', forall_eq, List.forall_mem_cons, List.not_mem_nil]
    refine idx_i (n := ((kk + N + 3 : Nat) : Int)) hvq (by omega) (by rw [show ((kk + N + 3 : Nat) : Int).toNat = kk + N + 3 by omega]; exact hz) fun a1 r1 ha1 => ?_
    by_cases c6 : z = 0
    · rw [if_pos (by rw [c6])] at k
      simp only [ha1, eq_true c6, wf_preprocess, ↓reduceIte, Nat.reduceEqDiff, reduceCtorEq, Nat.reduceAdd, Nat.reduceMul, Nat.reduceLeDiff, Nat.reduceLT, Nat.reduceSub, Int.reduceToNat, Int.reduceNeg, Int.reduceAdd, Int.reduceSub, Int.reduceMul, Int.reduceEq, Int.reduceLT, Int.reduceLE, Int.reduceNe, forall_const, forall_eq', forall_eq, List.forall_mem_cons, List.not_mem_nil]
      exact k (.lst [] .nil) _ .nil (e1 _) (by simp [refs])
    rw [if_neg (fun e => c6 (Option.some.inj e))] at k
    simp only [ha1, eq_false c6, wc, wd, Int.natCast_nonneg, wf_preprocess, ↓reduceIte, Nat.reduceEqDiff, reduceCtorEq, Nat.reduceAdd, Nat.reduceMul, Nat.reduceLeDiff, Nat.reduceLT, Nat.reduceSub, Int.reduceToNat, Int.reduceNeg, Int.reduceAdd, Int.reduceSub, Int.reduceMul, Int.reduceEq, Int.reduceLT, Int.reduceLE, Int.reduceNe, forall_const, forall_eq', forall_eq, List.forall_mem_cons, List.not_mem_nil]
    refine idx_i (n := ((kk + N + 3 : Nat) : Int)) hvq (by omega) (by rw [show ((kk + N + 3 : Nat) : Int).toNat = kk + N + 3 by omega]; exact hz) fun a2 r2 ha2 => ?_
    by_cases c7 : z = 165
    case neg =>
      rw [if_pos (.inl (fun e => c7 (Option.some.inj e)))] at k
      simp only [ha2, eq_false c7, wf_preprocess, ↓reduceIte, Nat.reduceEqDiff, reduceCtorEq, Nat.reduceAdd, Nat.reduceMul, Nat.reduceLeDiff, Nat.reduceLT, Nat.reduceSub, Int.reduceToNat, Int.reduceNeg, Int.reduceAdd, Int.reduceSub, Int.reduceMul, Int.reduceEq, Int.reduceLT, Int.reduceLE, Int.reduceNe, forall_const, forall_eq', forall_eq, List.forall_mem_cons, List.not_mem_nil]
      exact k (.lst [] .nil) _ .nil (e1 _) (by simp [refs])
    simp only [ha2, eq_true c7, wc, wd, wf_preprocess, ↓reduceIte, Nat.reduceEqDiff, reduceCtorEq, Nat.reduceAdd, Nat.reduceMul, Nat.reduceLeDiff, Nat.reduceLT, Nat.reduceSub, Int.reduceToNat, Int.reduceNeg, Int.reduceAdd, Int.reduceSub, Int.reduceMul, Int.reduceEq, Int.reduceLT, Int.reduceLE, Int.reduceNe, forall_const, forall_eq', forall_eq, List.forall_mem_cons, List.not_mem_nil]
    refine slice_i (L := ((kk + N - 1 : Nat) : Int)) (H := ((kk + N + 3 : Nat) : Int)) hvq (fun K k => ?_) (fun K k => ?_) (by omega) (by omega) (by omega) fun y2 hy2 => ?_
    · rw [bndOr_some]; simp only [wf_preprocess, ↓reduceIte, Nat.reduceEqDiff, reduceCtorEq, Nat.reduceAdd, Nat.reduceMul, Nat.reduceLeDiff, Nat.reduceLT, Nat.reduceSub, Int.reduceToNat, Int.reduceNeg, Int.reduceAdd, Int.reduceSub, Int.reduceMul, Int.reduceEq, Int.reduceLT, Int.reduceLE, Int.reduceNe, forall_const, forall_eq', forall_eq, List.forall_mem_cons, List.not_mem_nil]; exact k
    · rw [bndOr_some]; simp only [wf_preprocess, ↓reduceIte, Nat.reduceEqDiff, reduceCtorEq, Nat.reduceAdd, Nat.reduceMul, Nat.reduceLeDiff, Nat.reduceLT, Nat.reduceSub, Int.reduceToNat, Int.reduceNeg, Int.reduceAdd, Int.reduceSub, Int.reduceMul, Int.reduceEq, Int.reduceLT, Int.reduceLE, Int.reduceNe, forall_const, forall_eq', forall_eq, List.forall_mem_cons, List.not_mem_nil]; exact k
    rw [show ((kk + N - 1 : Nat) : Int).toNat = kk + N - 1 by omega, show ((kk + N + 3 : Nat) : Int).toNat - (kk + N - 1) = 4 by omega] at hy2
    simp only [wc, wd, wf_preprocess, ↓reduceIte, Nat.reduceEqDiff, reduceCtorEq, Nat.reduceAdd, Nat.reduceMul, Nat.reduceLeDiff, Nat.reduceLT, Nat.reduceSub, Int.reduceToNat, Int.reduceNeg, Int.reduceAdd, Int.reduceSub, Int.reduceMul, Int.reduceEq, Int.reduceLT, Int.reduceLE, Int.reduceNe, forall_const, forall_eq', forall_eq, List.forall_mem_cons, List.not_mem_nil]
    refine slice_i (L := (kk : Int)) (H := ((kk + N - 1 : Nat) : Int)) hvq (fun K k => ?_) (fun K k => ?_) (by omega) (by omega) (by omega) fun y3 hy3 => ?_
    · rw [bndOr_some]; simp only [wf_preprocess, ↓reduceIte, Nat.reduceEqDiff, reduceCtorEq, Nat.reduceAdd, Nat.reduceMul, Nat.reduceLeDiff, Nat.reduceLT, Nat.reduceSub, Int.reduceToNat, Int.reduceNeg, Int.reduceAdd, Int.reduceSub, Int.reduceMul, Int.reduceEq, Int.reduceLT, Int.reduceLE, Int.reduceNe, forall_const, forall_eq', forall_eq, List.forall_mem_cons, List.not_mem_nil]; exact k
    · rw [bndOr_some]; simp only [wf_preprocess, ↓reduceIte, Nat.reduceEqDiff, reduceCtorEq, Nat.reduceAdd, Nat.reduceMul, Nat.reduceLeDiff, Nat.reduceLT, Nat.reduceSub, Int.reduceToNat, Int.reduceNeg, Int.reduceAdd, Int.reduceSub, Int.reduceMul, Int.reduceEq, Int.reduceLT, Int.reduceLE, Int.reduceNe, forall_const, forall_eq', forall_eq, List.forall_mem_cons, List.not_mem_nil]; exact k
    rw [show (kk : Int).toNat = kk by omega, show ((kk + N - 1 : Nat) : Int).toNat - kk = N - 1 by omega] at hy3
    simp only [wf_preprocess, ↓reduceIte, Nat.reduceEqDiff, reduceCtorEq, Nat.reduceAdd, Nat.reduceMul, Nat.reduceLeDiff, Nat.reduceLT, Nat.reduceSub, Int.reduceToNat, Int.reduceNeg, Int.reduceAdd, Int.reduceSub, Int.reduceMul, Int.reduceEq, Int.reduceLT, Int.reduceLE, Int.reduceNe, forall_const, forall_eq', forall_eq, List.forall_mem_cons, List.not_mem_nil]
    refine call_i (sum_s hy3 (by rw [List.length_take]; omega) ?_)
    simp only [wf_preprocess, ↓reduceIte, Nat.reduceEqDiff, reduceCtorEq, Nat.reduceAdd, Nat.reduceMul, Nat.reduceLeDiff, Nat.reduceLT, Nat.reduceSub, Int.reduceToNat, Int.reduceNeg, Int.reduceAdd, Int.reduceSub, Int.reduceMul, Int.reduceEq, Int.reduceLT, Int.reduceLE, Int.reduceNe, forall_const, forall_eq', forall_eq, List.forall_mem_cons, List.not_mem_nil]
    refine call_i (equalB_s (S := S) (T := S) (l := sumB (crc ((l.drop kk).take (N - 1))).toNat) hy2 (Els.lst (sum_byte _) (by simp)) ?_ (by rw [List.length_take]; omega))
    by_cases c8 : (l.drop (kk + N - 1)).take 4 = sumB (crc ((l.drop kk).take (N - 1))).toNat
    case neg =>
      rw [if_pos (.inr c8)] at k
      simp only [eq_false c8, wf_preprocess, ↓reduceIte, Nat.reduceEqDiff, reduceCtorEq, Nat.reduceAdd, Nat.reduceMul, Nat.reduceLeDiff, Nat.reduceLT, Nat.reduceSub, Int.reduceToNat, Int.reduceNeg, Int.reduceAdd, Int.reduceSub, Int.reduceMul, Int.reduceEq, Int.reduceLT, Int.reduceLE, Int.reduceNe, forall_const, forall_eq', forall_eq, List.forall_mem_cons, List.not_mem_nil]
      exact k (.lst [] .nil) _ .nil (e1 _) (by simp [refs])
    rw [if_neg (by rintro (h | h); exact h (by rw [c7]); exact h c8)] at k
    simp only [eq_true c8, wc, wf_preprocess, ↓reduceIte, Nat.reduceEqDiff, reduceCtorEq, Nat.reduceAdd, Nat.reduceMul, Nat.reduceLeDiff, Nat.reduceLT, Nat.reduceSub, Int.reduceToNat, Int.reduceNeg, Int.reduceAdd, Int.reduceSub, Int.reduceMul, Int.reduceEq, Int.reduceLT, Int.reduceLE, Int.reduceNe, forall_const, forall_eq', forall_eq, List.forall_mem_cons, List.not_mem_nil]
    refine slice_i (L := (kk : Int)) (H := ((kk + N - 1 : Nat) : Int)) hvq (fun K k => ?_) (fun K k => ?_) (by omega) (by omega) (by omega) fun y4 hy4 => ?_
    · rw [bndOr_some]; simp only [wf_preprocess, ↓reduceIte, Nat.reduceEqDiff, reduceCtorEq, Nat.reduceAdd, Nat.reduceMul, Nat.reduceLeDiff, Nat.reduceLT, Nat.reduceSub, Int.reduceToNat, Int.reduceNeg, Int.reduceAdd, Int.reduceSub, Int.reduceMul, Int.reduceEq, Int.reduceLT, Int.reduceLE, Int.reduceNe, forall_const, forall_eq', forall_eq, List.forall_mem_cons, List.not_mem_nil]; exact k
    · rw [bndOr_some]; simp only [wf_preprocess, ↓reduceIte, Nat.reduceEqDiff, reduceCtorEq, Nat.reduceAdd, Nat.reduceMul, Nat.reduceLeDiff, Nat.reduceLT, Nat.reduceSub, Int.reduceToNat, Int.reduceNeg, Int.reduceAdd, Int.reduceSub, Int.reduceMul, Int.reduceEq, Int.reduceLT, Int.reduceLE, Int.reduceNe, forall_const, forall_eq', forall_eq, List.forall_mem_cons, List.not_mem_nil]; exact k
    rw [show (kk : Int).toNat = kk by omega, show ((kk + N - 1 : Nat) : Int).toNat - kk = N - 1 by omega] at hy4
    simp only [wf_preprocess, ↓reduceIte, Nat.reduceEqDiff, reduceCtorEq, Nat.reduceAdd, Nat.reduceMul, Nat.reduceLeDiff, Nat.reduceLT, Nat.reduceSub, Int.reduceToNat, Int.reduceNeg, Int.reduceAdd, Int.reduceSub, Int.reduceMul, Int.reduceEq, Int.reduceLT, Int.reduceLE, Int.reduceNe, forall_const, forall_eq', forall_eq, List.forall_mem_cons, List.not_mem_nil]
    refine call_i (cloneB_s hy4 (by rw [List.length_take]; omega) fun v m' hb he hf => ?_)
    simp only [wc, wf_preprocess, ↓reduceIte, Nat.reduceEqDiff, reduceCtorEq, Nat.reduceAdd, Nat.reduceMul, Nat.reduceLeDiff, Nat.reduceLT, Nat.reduceSub, Int.reduceToNat, Int.reduceNeg, Int.reduceAdd, Int.reduceSub, Int.reduceMul, Int.reduceEq, Int.reduceLT, Int.reduceLE, Int.reduceNe, forall_const, forall_eq', forall_eq, List.forall_mem_cons, List.not_mem_nil]
    exact k v m' hb ((e1 _).trans he) fun i hi hk => hf i hi (by simp only [keys_e, List.mem_cons]; exact .inr hk)
end
end Go.Proofs.Ytlcfagocikfocaa.Moi.Rec
