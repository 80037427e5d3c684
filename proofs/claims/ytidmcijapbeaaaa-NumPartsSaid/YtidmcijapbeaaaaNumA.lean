/- What functions of this program do, on plain values: a part of the proofs of this seat's laws; each theorem bears its own conditions. -/
import Derived.Test.YtidmcijapbeaaaaSset
set_option linter.unusedVariables false
set_option linter.unusedSimpArgs false
set_option maxRecDepth 1000000
namespace Go.Proofs.Ytidmcijapbeaaaa.Moi.Num
open Go Go.RowKit Go.Proofs.Ytidmcijapbeaaaa.Moi
attribute [-wf_preprocess] ite_eq_dite forIn_eq_forIn'

/-! ### Numbers of 64 bits -/
abbrev u64v (n : Int) : AV := .sc (.int .u64 n)
def W (a : Int) : Int := (a + 9223372036854775808) % 18446744073709551616 - 9223372036854775808
def U (a : Int) : Int := a % 18446744073709551616
theorem wi {a : Int} : IntKind.i64.wrap a = W a := by
  simp only [IntKind.wrap, IntKind.signed, IntKind.bits, W]; simp; omega
theorem wu {a : Int} : IntKind.u64.wrap a = U a := by simp [IntKind.wrap, IntKind.signed, IntKind.bits, U]
theorem sh63 {a : Int} : a.fdiv (2 ^ min 63 IntKind.i64.bits) = a / 9223372036854775808 := by
  rw [show (2 : Int) ^ min 63 IntKind.i64.bits = 9223372036854775808 from rfl, Int.fdiv_eq_ediv_of_nonneg _ (by omega)]
def isI (a : Int) : Prop := -9223372036854775808 ≤ a ∧ a ≤ 9223372036854775807
def isU (a : Int) : Prop := 0 ≤ a ∧ a < 18446744073709551616
theorem W_id {a : Int} (h : isI a) : W a = a := by unfold isI at h; unfold W; omega
theorem U_id {a : Int} (h : isU a) : U a = a := by unfold isU at h; unfold U; omega

section
variable {a b n v far : Int} {ok below : Bool} {m : Heap} {l : List Int} {o : Own} {Q E : AV → Heap → Prop}
theorem pureR {f : FuncId} {xs : List AV} {x : AV} (h : ACall Try.prog f xs [] (fun y _ => y = x) (fun _ _ => False)) (k : Q x m) : ACall Try.prog f xs m Q E :=
  ACall.part h (r := m) (by simp) fun y m' e => by
    subst e
    exact Ent.drop (r := m') (m' := m) List.perm_append_comm (.now k)

/-- A number, or that it does not fit. -/
def fitR (ok : Bool) (n : Int) : AV := .tup [iv (if ok = true then n else 0), iv (if ok = true then 0 else 8)]
theorem fit_s (k : Q (fitR ok n) m) : ACall Try.prog 29 [iv n, bo ok] m Q E := by
  refine pureR ?_ k
  refine acall_fn mixed Try.func29 Try.call29 e29 r29 (Nat.le_of_ble_eq_true rfl) ?_
  cases ok <;> simp only [n29, wf_preprocess, ↓reduceIte, Nat.reduceEqDiff, reduceCtorEq, Nat.reduceAdd, Nat.reduceMul, Nat.reduceLeDiff, Nat.reduceLT, Nat.reduceSub, Int.reduceToNat, Int.reduceNeg, Int.reduceAdd, Int.reduceSub, Int.reduceMul, Int.reduceEq, Int.reduceLT, Int.reduceLE, Int.reduceNe, forall_const, forall_eq', forall_eq, List.forall_mem_cons, List.not_mem_nil] <;> rfl

instance : Decidable (isI v) := inferInstanceAs (Decidable (_ ∧ _))
def clampR (v : Int) : AV := fitR (decide (isI v)) v
theorem fit_clamp {t : Bool} (h1 : t = true ↔ isI v) (h2 : isI v → n = v) : fitR t n = clampR v := by
  unfold clampR
  by_cases h : isI v
  · rw [h1.2 h, decide_eq_true h, h2 h]
  · have : t = false := by cases t <;> simp_all
    rw [this, decide_eq_false h]
    rfl

theorem Add_s (ha : isI a) (hb : isI b) (k : Q (clampR (a + b)) m) : ACall Try.prog 17 [iv a, iv b] m Q E := by
  refine pureR ?_ k
  refine acall_fn mixed Try.func17 Try.call17 e17 r17 (Nat.le_of_ble_eq_true rfl) ?_
  simp only [n17, wi, wf_preprocess, ↓reduceIte, Nat.reduceEqDiff, reduceCtorEq, Nat.reduceAdd, Nat.reduceMul, Nat.reduceLeDiff, Nat.reduceLT, Nat.reduceSub, Int.reduceToNat, Int.reduceNeg, Int.reduceAdd, Int.reduceSub, Int.reduceMul, Int.reduceEq, Int.reduceLT, Int.reduceLE, Int.reduceNe, forall_const, forall_eq', forall_eq, List.forall_mem_cons, List.not_mem_nil]
  refine call_i (fit_s ?_)
  simp only [fitR, wf_preprocess, ↓reduceIte, Nat.reduceEqDiff, reduceCtorEq, Nat.reduceAdd, Nat.reduceMul, Nat.reduceLeDiff, Nat.reduceLT, Nat.reduceSub, Int.reduceToNat, Int.reduceNeg, Int.reduceAdd, Int.reduceSub, Int.reduceMul, Int.reduceEq, Int.reduceLT, Int.reduceLE, Int.reduceNe, forall_const, forall_eq', forall_eq, List.forall_mem_cons, List.not_mem_nil]
  refine fit_clamp ?_ fun h => ?_
  · by_cases h0 : b < 0
    all_goals
      simp only [decide_eq_true_eq, decide_eq_decide, h0, decide_true, decide_false, decide_eq_false_iff_not, iff_true, iff_false]
      simp only [W, isI] at ha hb ⊢
      omega
  · rw [W_id h]
theorem Sub_s (ha : isI a) (hb : isI b) (k : Q (clampR (a - b)) m) : ACall Try.prog 19 [iv a, iv b] m Q E := by
  refine pureR ?_ k
  refine acall_fn mixed Try.func19 Try.call19 e19 r19 (Nat.le_of_ble_eq_true rfl) ?_
  simp only [n19, wi, wf_preprocess, ↓reduceIte, Nat.reduceEqDiff, reduceCtorEq, Nat.reduceAdd, Nat.reduceMul, Nat.reduceLeDiff, Nat.reduceLT, Nat.reduceSub, Int.reduceToNat, Int.reduceNeg, Int.reduceAdd, Int.reduceSub, Int.reduceMul, Int.reduceEq, Int.reduceLT, Int.reduceLE, Int.reduceNe, forall_const, forall_eq', forall_eq, List.forall_mem_cons, List.not_mem_nil]
  refine call_i (fit_s ?_)
  simp only [fitR, wf_preprocess, ↓reduceIte, Nat.reduceEqDiff, reduceCtorEq, Nat.reduceAdd, Nat.reduceMul, Nat.reduceLeDiff, Nat.reduceLT, Nat.reduceSub, Int.reduceToNat, Int.reduceNeg, Int.reduceAdd, Int.reduceSub, Int.reduceMul, Int.reduceEq, Int.reduceLT, Int.reduceLE, Int.reduceNe, forall_const, forall_eq', forall_eq, List.forall_mem_cons, List.not_mem_nil]
  refine fit_clamp ?_ fun h => ?_
  · by_cases h0 : b < 0
    all_goals
      simp only [decide_eq_true_eq, decide_eq_decide, h0, decide_true, decide_false, decide_eq_false_iff_not, iff_true, iff_false]
      simp only [W, isI] at ha hb ⊢
      omega
  · rw [W_id h]
theorem Neg_s (ha : isI a) (k : Q (clampR (0 - a)) m) : ACall Try.prog 21 [iv a] m Q E := by
  refine pureR ?_ k
  refine acall_fn mixed Try.func21 Try.call21 e21 r21 (Nat.le_of_ble_eq_true rfl) ?_
  simp only [n21, wf_preprocess, ↓reduceIte, Nat.reduceEqDiff, reduceCtorEq, Nat.reduceAdd, Nat.reduceMul, Nat.reduceLeDiff, Nat.reduceLT, Nat.reduceSub, Int.reduceToNat, Int.reduceNeg, Int.reduceAdd, Int.reduceSub, Int.reduceMul, Int.reduceEq, Int.reduceLT, Int.reduceLE, Int.reduceNe, forall_const, forall_eq', forall_eq, List.forall_mem_cons, List.not_mem_nil]
  refine call_i (Sub_s (by unfold isI; omega) ha ?_)
  simp only [clampR, fitR, wf_preprocess, ↓reduceIte, Nat.reduceEqDiff, reduceCtorEq, Nat.reduceAdd, Nat.reduceMul, Nat.reduceLeDiff, Nat.reduceLT, Nat.reduceSub, Int.reduceToNat, Int.reduceNeg, Int.reduceAdd, Int.reduceSub, Int.reduceMul, Int.reduceEq, Int.reduceLT, Int.reduceLE, Int.reduceNe, forall_const, forall_eq', forall_eq, List.forall_mem_cons, List.not_mem_nil]

def diffR (a b : Int) : AV := .tup [u64v (if a < b then b - a else a - b), bo (decide (a < b))]
theorem Diff_s (ha : isI a) (hb : isI b) (k : Q (diffR a b) m) : ACall Try.prog 23 [iv a, iv b] m Q E := by
  refine pureR ?_ k
  refine acall_fn mixed Try.func23 Try.call23 e23 r23 (Nat.le_of_ble_eq_true rfl) ?_
  by_cases h : a < b <;> simp only [n23, wu, wi, h, diffR, wf_preprocess, ↓reduceIte, Nat.reduceEqDiff, reduceCtorEq, Nat.reduceAdd, Nat.reduceMul, Nat.reduceLeDiff, Nat.reduceLT, Nat.reduceSub, Int.reduceToNat, Int.reduceNeg, Int.reduceAdd, Int.reduceSub, Int.reduceMul, Int.reduceEq, Int.reduceLT, Int.reduceLE, Int.reduceNe, forall_const, forall_eq', forall_eq, List.forall_mem_cons, List.not_mem_nil]
  all_goals
    simp only [AV.tup.injEq, List.cons.injEq, AV.sc.injEq, Value.int.injEq, true_and, and_true, U, isI] at *
    omega
theorem rDiff_s (ha : isI a) (hb : isI b) (k : Q (diffR a b) m) : ACall Try.prog 24 [iv a, iv b] m Q E := by
  refine pureR ?_ k
  refine acall_fn mixed Try.func24 Try.call24 e24 r24 (Nat.le_of_ble_eq_true rfl) ?_
  by_cases h : a < b <;> simp only [n24, wu, wi, h, diffR, wf_preprocess, ↓reduceIte, Nat.reduceEqDiff, reduceCtorEq, Nat.reduceAdd, Nat.reduceMul, Nat.reduceLeDiff, Nat.reduceLT, Nat.reduceSub, Int.reduceToNat, Int.reduceNeg, Int.reduceAdd, Int.reduceSub, Int.reduceMul, Int.reduceEq, Int.reduceLT, Int.reduceLE, Int.reduceNe, forall_const, forall_eq', forall_eq, List.forall_mem_cons, List.not_mem_nil]
  all_goals
    simp only [AV.tup.injEq, List.cons.injEq, AV.sc.injEq, Value.int.injEq, true_and, and_true, U, isI] at *
    omega

def offV (a far : Int) (below : Bool) : Int := if below = true then a - far else a + far
theorem Off_s (ha : isI a) (hf : isU far) (k : Q (clampR (offV a far below)) m) : ACall Try.prog 25 [iv a, u64v far, bo below] m Q E := by
  refine pureR ?_ k
  refine acall_fn mixed Try.func25 Try.call25 e25 r25 (Nat.le_of_ble_eq_true rfl) ?_
  cases below
  · simp only [n25, wu, wi, wf_preprocess, ↓reduceIte, Nat.reduceEqDiff, reduceCtorEq, Nat.reduceAdd, Nat.reduceMul, Nat.reduceLeDiff, Nat.reduceLT, Nat.reduceSub, Int.reduceToNat, Int.reduceNeg, Int.reduceAdd, Int.reduceSub, Int.reduceMul, Int.reduceEq, Int.reduceLT, Int.reduceLE, Int.reduceNe, forall_const, forall_eq', forall_eq, List.forall_mem_cons, List.not_mem_nil]
    refine call_i (Diff_s (by unfold isI; omega) ha ?_)
    simp only [diffR, wu, wi, wf_preprocess, ↓reduceIte, Nat.reduceEqDiff, reduceCtorEq, Nat.reduceAdd, Nat.reduceMul, Nat.reduceLeDiff, Nat.reduceLT, Nat.reduceSub, Int.reduceToNat, Int.reduceNeg, Int.reduceAdd, Int.reduceSub, Int.reduceMul, Int.reduceEq, Int.reduceLT, Int.reduceLE, Int.reduceNe, forall_const, forall_eq', forall_eq, List.forall_mem_cons, List.not_mem_nil]
    refine call_i (fit_s ?_)
    simp only [fitR, wf_preprocess, ↓reduceIte, Nat.reduceEqDiff, reduceCtorEq, Nat.reduceAdd, Nat.reduceMul, Nat.reduceLeDiff, Nat.reduceLT, Nat.reduceSub, Int.reduceToNat, Int.reduceNeg, Int.reduceAdd, Int.reduceSub, Int.reduceMul, Int.reduceEq, Int.reduceLT, Int.reduceLE, Int.reduceNe, forall_const, forall_eq', forall_eq, List.forall_mem_cons, List.not_mem_nil]
    refine fit_clamp ?_ fun h => ?_
    · simp only [decide_eq_true_eq, offV, isI, isU] at *; simp; omega
    · simp only [offV, isI, isU, W, U] at *; simp at *; omega
  · simp only [n25, wu, wi, wf_preprocess, ↓reduceIte, Nat.reduceEqDiff, reduceCtorEq, Nat.reduceAdd, Nat.reduceMul, Nat.reduceLeDiff, Nat.reduceLT, Nat.reduceSub, Int.reduceToNat, Int.reduceNeg, Int.reduceAdd, Int.reduceSub, Int.reduceMul, Int.reduceEq, Int.reduceLT, Int.reduceLE, Int.reduceNe, forall_const, forall_eq', forall_eq, List.forall_mem_cons, List.not_mem_nil]
    refine call_i (Diff_s ha (by unfold isI; omega) ?_)
    simp only [diffR, wu, wi, wf_preprocess, ↓reduceIte, Nat.reduceEqDiff, reduceCtorEq, Nat.reduceAdd, Nat.reduceMul, Nat.reduceLeDiff, Nat.reduceLT, Nat.reduceSub, Int.reduceToNat, Int.reduceNeg, Int.reduceAdd, Int.reduceSub, Int.reduceMul, Int.reduceEq, Int.reduceLT, Int.reduceLE, Int.reduceNe, forall_const, forall_eq', forall_eq, List.forall_mem_cons, List.not_mem_nil]
    refine call_i (fit_s ?_)
    simp only [fitR, wf_preprocess, ↓reduceIte, Nat.reduceEqDiff, reduceCtorEq, Nat.reduceAdd, Nat.reduceMul, Nat.reduceLeDiff, Nat.reduceLT, Nat.reduceSub, Int.reduceToNat, Int.reduceNeg, Int.reduceAdd, Int.reduceSub, Int.reduceMul, Int.reduceEq, Int.reduceLT, Int.reduceLE, Int.reduceNe, forall_const, forall_eq', forall_eq, List.forall_mem_cons, List.not_mem_nil]
    refine fit_clamp ?_ fun h => ?_
    · simp only [decide_eq_true_eq, offV, isI, isU] at *; simp; omega
    · simp only [offV, isI, isU, W, U] at *; simp at *; omega

/-! ### Numbers of 128 bits -/
def wc (v : Int) : List AV := [iv (W (v / 18446744073709551616)), u64v (U v)]
abbrev wd (v : Int) : AV := .agg (wc v)
theorem wd_of {h lo : Int} (hh : isI h) (hl : isU lo) : AV.agg [iv h, u64v lo] = wd (h * 18446744073709551616 + lo) := by
  have e1 : W ((h * 18446744073709551616 + lo) / 18446744073709551616) = h := by simp only [W, isI, isU] at *; omega
  have e2 : U (h * 18446744073709551616 + lo) = lo := by simp only [U, isI, isU] at *; omega
  simp only [wd, wc, e1, e2]

theorem Add64_s {x y : Int} (hx : isU x) (hy : isU y) (k : Q (.tup [u64v (U (x + y)), u64v ((x + y) / 18446744073709551616)]) m) : ACall Try.prog 27 [u64v x, u64v y, u64v 0] m Q E := by
  have hf : Try.prog.funcs[27]? = some Try.f27 := Try.func27
  have he : Extern.find Try.f27 = some (Go.Extern.MathBitsCarry.rows[0]'(by decide)).2 := by kernel_rfl
  refine acall_extern (us := [.int .u64 x, .int .u64 y, .int .u64 0]) hf (by kernel_rfl) (by kernel_rfl) (by kernel_rfl) he (v := .tuple #[.int .u64 (U (x + y)), .int .u64 ((x + y) / 18446744073709551616)]) (fun w => ?_) (fun γ => ?_) k
  · obtain ⟨x, rfl⟩ := Int.eq_ofNat_of_zero_le hx.1
    obtain ⟨y, rfl⟩ := Int.eq_ofNat_of_zero_le hy.1
    have key : ((Go.Extern.MathBitsCarry.rows[0]'(by decide)).2 #[.int .u64 (x : Int), .int .u64 (y : Int), .int .u64 0]).run Try.prog w = .ok (Go.Extern.MathBitsCarry.pair ((x + y + 0) % Go.Extern.MathBitsCarry.m64) ((x + y + 0) / Go.Extern.MathBitsCarry.m64)) w := rfl
    refine key.trans ?_
    simp only [Go.Extern.MathBitsCarry.pair, Go.Extern.MathBitsCarry.m64, U]
    rfl
  · refine .tup _ _ rfl fun j x hj => ?_
    match j, hj with
    | 0, hj => simp at hj; subst hj; exact .sc _
    | 1, hj => simp at hj; subst hj; exact .sc _
end
end Go.Proofs.Ytidmcijapbeaaaa.Moi.Num
