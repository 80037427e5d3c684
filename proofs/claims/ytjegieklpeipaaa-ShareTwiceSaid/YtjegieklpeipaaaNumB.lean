/- What functions of this program do, on plain values: a part of the proofs of this seat's laws; each theorem bears its own conditions. -/
import Derived.Test.YtjegieklpeipaaaNumA
set_option linter.unusedVariables false
set_option linter.unusedSimpArgs false
set_option maxRecDepth 1000000
namespace Go.Proofs.Ytjegieklpeipaaa.Moi.Num
open Go Go.RowKit Go.Proofs.Ytjegieklpeipaaa.Moi

section
variable {a b n v far : Int} {ok below : Bool} {m : Heap} {l : List Int} {o : Own} {Q E : AV → Heap → Prop}
theorem isU_U : isU (U a) := by unfold isU U; omega
theorem isI_W : isI (W a) := by unfold isI W; omega

theorem W_add : W (W a + b) = W (a + b) := by unfold W; omega
theorem W_add' : W (a + W b) = W (a + b) := by unfold W; omega
theorem W_sub : W (W a - b) = W (a - b) := by unfold W; omega
theorem W_W : W (W a) = W a := by unfold W; omega
theorem U_add : U (U a + U b) = U (a + b) := by unfold U; omega
theorem U_addr : U (U a + b) = U (a + b) := by unfold U; omega
theorem U_subr : U (U a - b) = U (a - b) := by unfold U; omega
theorem div_add : (v + n) / 18446744073709551616 = v / 18446744073709551616 + n / 18446744073709551616 + (U v + U n) / 18446744073709551616 := by unfold U; omega
theorem div_sub (h : isU far) : (v - far) / 18446744073709551616 = v / 18446744073709551616 - if U v < U (v - far) then 1 else 0 := by unfold isU at h; unfold U; split <;> omega
theorem carry : (U v + U n) / 18446744073709551616 = if U (v + n) < U v then 1 else 0 := by unfold U; split <;> omega
theorem div_small (h : isI n) : n / 18446744073709551616 = if n < 0 then -1 else 0 := by unfold isI at h; split <;> omega
theorem sh_small (h : isI n) : n / 9223372036854775808 = if n < 0 then -1 else 0 := by unfold isI at h; split <;> omega

def sumL (l : List Int) : Int := l.sum
theorem sum_snoc {i : Nat} {x : Int} (h : l[i]? = some x) : sumL (l.take (i + 1)) = sumL (l.take i) + x := by
  rw [sumL, List.take_add_one, h, List.sum_append, sumL]; simp

/-- A wide number in 64 bits. -/
def fitsR (v : Int) : AV := fitR (decide (W (v / 18446744073709551616) = W v / 9223372036854775808)) (W v)
theorem fits_clamp (h : -170141183460469231731687303715884105728 ≤ v ∧ v < 170141183460469231731687303715884105728) : fitsR v = clampR v := by
  refine fit_clamp ?_ fun h => W_id h
  simp only [decide_eq_true_eq]
  simp only [W, isI]
  omega

theorem zero_wd : AV.agg [iv 0, u64v 0] = wd 0 := rfl
theorem isU_diff (ha : isI a) (hb : isI b) : isU (if a < b then b - a else a - b) := by unfold isI isU at *; split <;> omega
end
end Go.Proofs.Ytjegieklpeipaaa.Moi.Num
