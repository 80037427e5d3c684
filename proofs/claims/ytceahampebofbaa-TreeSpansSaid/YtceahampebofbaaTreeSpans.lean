/- The row of the law TreeSpans: it holds of every input that its guards let in; no further condition. -/
import Derived.Test.YtceahampebofbaaRows
import Derived.Test.YtceahampebofbaaTreeO
set_option linter.unusedVariables false
set_option linter.unusedSimpArgs false
namespace Go.Proofs.Ytceahampebofbaa.treeSpans
open Go Go.ChangeShapes Go.WideShapes Go.ChangeAt Go.RowKit Go.Proofs.Ytceahampebofbaa.Moi

theorem own : ownKnob Try.prog.godebug = none := by kernel_rfl
theorem readable : (Try.f4.params.toList.all fun t => Try.prog.readableRec t && decide (t < Try.prog.types.size)) = true := by kernel_rfl
theorem laid : laidOutB Try.prog = true := by kernel_rfl
theorem rowed : mapsRowed Try.prog = true := by kernel_rfl

set_option maxRecDepth 100000 in
theorem lifted (os : Os) (started : os.Started) (H : Type) (enc : TypeId × Value → H) :
    ReturnsInHanded {} Try.checked os 4 .any (Rows.treeSpansSpec.pre6 enc Try.prog Try.f4 Rows.treeSpansRow.domain false) (Rows.treeSpansSpec.post enc Try.prog Try.f4 false true false false) := by
  refine returnsInHanded_of_change_sized (C := Try.checked) own started (by kernel_rfl) Try.func4
    (ChangeSpec.witness6 (enc := enc) (C := Try.checked) false ⟨#[], #[.slice none 0 0], []⟩ 8 (by kernel_rfl) (by kernel_rfl) (by kernel_rfl) (by kernel_rfl)) ?_
  intro W base args ds gs before hval0 hW hcnd hz _
  refine contract_of laid rowed Try.call4 (fun t ht => ?_) (tb := 4) (by kernel_rfl) Try.underlying4 rfl (fun H ds hd => ?_) (fun xs hs => Tree.law_spans xs hs) enc W base args ds gs before hval0 hW hz .all fun _ _ => trivial
  · have := List.all_eq_true.1 readable t ht
    simpa using this
  · have hd' : ds.length = 1 := hd
    rcases ds with _ | ⟨d1, _ | ⟨x2, ds⟩⟩ <;> first | rfl | (simp at hd')

theorem over : Rows.treeSpansRow.holds Try.pinned (OpenSpec.ofChange Rows.treeSpansSpec) :=
  OpenClaim.holds_of_wide 4 Try.f4 rfl rfl rfl rfl rfl rfl rfl ⟨rfl, rfl, rfl, rfl, rfl⟩ rfl rfl rfl rfl rfl (by kernel_rfl) Try.func4 (by kernel_rfl)
    (of_decide_eq_true (by kernel_rfl)) (by unfold Func.isWrapper; first | (rw [if_pos (by decide +kernel)]; kernel_rfl) | (rw [if_neg (by decide +kernel)]; exact ⟨rfl, rfl⟩))
    (fun os started H enc _ => lifted os started H enc)

theorem proved : Rows.TreeSpansSaid := over
end Go.Proofs.Ytceahampebofbaa.treeSpans
