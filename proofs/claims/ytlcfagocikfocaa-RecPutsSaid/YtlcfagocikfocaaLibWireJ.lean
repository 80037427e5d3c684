/- What functions of this program do, on plain values: a part of the proofs of this seat's laws; each theorem bears its own conditions. -/
import Derived.Test.YtlcfagocikfocaaLibWireI
set_option linter.unusedVariables false
set_option linter.unusedSimpArgs false
set_option maxRecDepth 1000000
namespace Go.Proofs.Ytlcfagocikfocaa.Moi.Wire
open Go Go.RowKit Go.Proofs.Ytlcfagocikfocaa.Moi
theorem full_elems {k : IntKind} {l : List Int} {rest : List AV} {id c : Nat} {m : Heap} (hg : get id m = some (.cells (kl k l ++ rest))) : aelems none (.mref id 0 l.length c) m = some (kl k l) := by
  have := cut_elems (n := l.length) (c := c) hg (Nat.le_refl _)
  rw [List.take_length] at this; exact this


end Go.Proofs.Ytlcfagocikfocaa.Moi.Wire
