/- The row of the law TreeNil: it holds of every input that its guards let in; no further condition. -/
import Derived.Test.YtceahampebofbaaRows
import Derived.Test.YtceahampebofbaaTreeN
set_option linter.unusedVariables false
set_option linter.unusedSimpArgs false
namespace Go.Proofs.Ytceahampebofbaa.treeNil
open Go Go.ChangeShapes Go.WideShapes Go.ChangeAt Go.RowKit Go.Proofs.Ytceahampebofbaa.Moi

theorem own : ownKnob Try.prog.godebug = none := by kernel_rfl
theorem readable : (Try.f6.params.toList.all fun t => Try.prog.readableRec t && decide (t < Try.prog.types.size)) = true := by kernel_rfl
theorem laid : laidOutB Try.prog = true := by kernel_rfl
theorem rowed : mapsRowed Try.prog = true := by kernel_rfl

set_option maxRecDepth 100000 in
theorem lifted (os : Os) (started : os.Started) (H : Type) (enc : TypeId × Value → H) :
    ReturnsInHanded {} Try.checked os 6 .any (Rows.treeNilSpec.pre6 enc Try.prog Try.f6 Rows.treeNilRow.domain false) (Rows.treeNilSpec.post enc Try.prog Try.f6 false true false false) := by
  refine returnsInHanded_of_change_sized (C := Try.checked) own started (by kernel_rfl) Try.func6
    (ChangeSpec.witness6 (enc := enc) (C := Try.checked) false ⟨#[], #[.int .i64 0, .string ⟨#[]⟩], []⟩ 8 (by kernel_rfl) (by kernel_rfl) (by kernel_rfl) (by kernel_rfl)) ?_
  intro W base args ds gs before hval0 hW hcnd hz _
  refine contract_of laid rowed Try.call6 (fun t ht => ?_) (tb := 4) (by kernel_rfl) Try.underlying4 rfl (fun H ds hd => ?_) (fun xs hs => Tree.law_nil xs hs) enc W base args ds gs before hval0 hW hz .all fun _ _ => trivial
  · have := List.all_eq_true.1 readable t ht
    simpa using this
  · have hd' : ds.length = 2 := hd
    rcases ds with _ | ⟨d1, _ | ⟨d2, _ | ⟨x3, ds⟩⟩⟩ <;> first | rfl | (simp at hd')

theorem over : Rows.treeNilRow.holds Try.pinned (OpenSpec.ofChange Rows.treeNilSpec) :=
  OpenClaim.holds_of_wide 6 Try.f6 rfl rfl rfl rfl rfl rfl rfl ⟨rfl, rfl, rfl, rfl, rfl⟩ rfl rfl rfl rfl rfl (by kernel_rfl) Try.func6 (by kernel_rfl)
    (of_decide_eq_true (by kernel_rfl)) (by unfold Func.isWrapper; first | (rw [if_pos (by decide +kernel)]; kernel_rfl) | (rw [if_neg (by decide +kernel)]; exact ⟨rfl, rfl⟩))
    (fun os started H enc _ => lifted os started H enc)

theorem proved : Rows.TreeNilSaid := over
end Go.Proofs.Ytceahampebofbaa.treeNil
