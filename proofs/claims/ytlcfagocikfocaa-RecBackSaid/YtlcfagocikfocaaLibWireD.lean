/- What functions of this program do, on plain values: a part of the proofs of this seat's laws; each theorem bears its own conditions. -/
import Derived.Test.YtlcfagocikfocaaLibWireC
set_option linter.unusedVariables false
set_option linter.unusedSimpArgs false
set_option maxRecDepth 1000000
namespace Go.Proofs.Ytlcfagocikfocaa.Moi.Wire
open Go Go.RowKit Go.Proofs.Ytlcfagocikfocaa.Moi

theorem scan_err : ∀ (l : List Int) (i u : Nat) {e : Int}, scan l i u = .inl e → e = 6 ∨ e = 7
  | [], i, u, e, h => by simp [scan] at h; omega
  | c :: l, i, u, e, h => by
    rw [scan] at h
    split at h
    · injection h with h; omega
    · split at h
      · cases h
      · exact scan_err l (i + 1) _ h

theorem unzig_range {u : Nat} (h : u < 2 ^ 64) : -9223372036854775808 ≤ unzig u ∧ unzig u ≤ 9223372036854775807 := by
  unfold unzig; split <;> omega

end Go.Proofs.Ytlcfagocikfocaa.Moi.Wire
