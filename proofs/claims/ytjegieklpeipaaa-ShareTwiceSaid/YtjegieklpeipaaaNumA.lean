/- What functions of this program do, on plain values: a part of the proofs of this seat's laws; each theorem bears its own conditions. -/
import Derived.Test.YtjegieklpeipaaaSset
set_option linter.unusedVariables false
set_option linter.unusedSimpArgs false
set_option maxRecDepth 1000000
namespace Go.Proofs.Ytjegieklpeipaaa.Moi.Num
open Go Go.RowKit Go.Proofs.Ytjegieklpeipaaa.Moi

/-! ### Numbers of 64 bits -/
abbrev u64v (n : Int) : AV := .sc (.int .u64 n)
def W (a : Int) : Int := (a + 9223372036854775808) % 18446744073709551616 - 9223372036854775808
def U (a : Int) : Int := a % 18446744073709551616
theorem wi {a : Int} : IntKind.i64.wrap a = W a := by
  simp only [IntKind.wrap, IntKind.signed, IntKind.bits, W]; simp; omega
theorem wu {a : Int} : IntKind.u64.wrap a = U a := by simp [IntKind.wrap, IntKind.signed, IntKind.bits, U]
theorem sh63 {a : Int} : a.fdiv (2 ^ min 63 IntKind.i64.bits) = a / 9223372036854775808 := by
  rw [show (2 : Int) ^ min 63 IntKind.i64.bits = 9223372036854775808 from rfl, Int.fdiv_eq_ediv_of_nonneg _ (by omega)]
def isI (a : Int) : Prop := -9223372036854775808 ≤ a ∧ a ≤ 9223372036854775807
def isU (a : Int) : Prop := 0 ≤ a ∧ a < 18446744073709551616
theorem W_id {a : Int} (h : isI a) : W a = a := by unfold isI at h; unfold W; omega
theorem U_id {a : Int} (h : isU a) : U a = a := by unfold isU at h; unfold U; omega

section
variable {a b n v far : Int} {ok below : Bool} {m : Heap} {l : List Int} {o : Own} {Q E : AV → Heap → Prop}
theorem pureR {f : FuncId} {xs : List AV} {x : AV} (h : ACall Try.prog f xs [] (fun y _ => y = x) (fun _ _ => False)) (k : Q x m) : ACall Try.prog f xs m Q E :=
  ACall.part h (r := m) (by simp) fun y m' e => by
    subst e
    exact Ent.drop (r := m') (m' := m) List.perm_append_comm (.now k)

/-- A number, or that it does not fit. -/
def fitR (ok : Bool) (n : Int) : AV := .tup [iv (if ok = true then n else 0), iv (if ok = true then 0 else 8)]
instance : Decidable (isI v) := inferInstanceAs (Decidable (_ ∧ _))
def clampR (v : Int) : AV := fitR (decide (isI v)) v
theorem fit_clamp {t : Bool} (h1 : t = true ↔ isI v) (h2 : isI v → n = v) : fitR t n = clampR v := by
  unfold clampR
  by_cases h : isI v
  · rw [h1.2 h, decide_eq_true h, h2 h]
  · have : t = false := by cases t <;> simp_all
    rw [this, decide_eq_false h]
    rfl

def diffR (a b : Int) : AV := .tup [u64v (if a < b then b - a else a - b), bo (decide (a < b))]
def offV (a far : Int) (below : Bool) : Int := if below = true then a - far else a + far
/-! ### Numbers of 128 bits -/
def wc (v : Int) : List AV := [iv (W (v / 18446744073709551616)), u64v (U v)]
abbrev wd (v : Int) : AV := .agg (wc v)
theorem wd_of {h lo : Int} (hh : isI h) (hl : isU lo) : AV.agg [iv h, u64v lo] = wd (h * 18446744073709551616 + lo) := by
  have e1 : W ((h * 18446744073709551616 + lo) / 18446744073709551616) = h := by simp only [W, isI, isU] at *; omega
  have e2 : U (h * 18446744073709551616 + lo) = lo := by simp only [U, isI, isU] at *; omega
  simp only [wd, wc, e1, e2]

end
end Go.Proofs.Ytjegieklpeipaaa.Moi.Num
