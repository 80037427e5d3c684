import Derived.Test.YtpmbebdcbejlkaaRows
import Derived.Test.YtpmbebdcbejlkaaUndoH
set_option linter.unusedVariables false
set_option linter.unusedSimpArgs false
namespace Go.Proofs.Ytpmbebdcbejlkaa.undoBack
open Go Go.ChangeShapes Go.WideShapes Go.ChangeAt Go.RowKit Go.Proofs.Ytpmbebdcbejlkaa.Moi

theorem own : ownKnob Try.prog.godebug = none := by kernel_rfl
theorem readable : (Try.f3.params.toList.all fun t => Try.prog.readableRec t && decide (t < Try.prog.types.size)) = true := by kernel_rfl
theorem laid : laidOutB Try.prog = true := by kernel_rfl
theorem rowed : mapsRowed Try.prog = true := by kernel_rfl

set_option maxRecDepth 100000 in
theorem lifted (os : Os) (started : os.Started) (H : Type) (enc : TypeId × Value → H) :
    ReturnsInHanded {} Try.checked os 3 .any (Rows.undoBackSpec.pre6 enc Try.prog Try.f3 Rows.undoBackRow.domain false) (Rows.undoBackSpec.post enc Try.prog Try.f3 false true false false) := by
  refine returnsInHanded_of_change (C := Try.checked) own started (by kernel_rfl) Try.func3
    (ChangeSpec.witness6 (enc := enc) (C := Try.checked) false ⟨#[], #[.int .i64 0, .slice none 0 0, .int .i64 0], []⟩ 8 (by kernel_rfl) (by kernel_rfl) (by kernel_rfl) (by kernel_rfl)) ?_
  intro W base args ds gs before hval0 hW hcnd _
  refine contract_of (k := fun _ => True) laid rowed Try.call3 (fun t ht => ?_) (tb := 4) (by kernel_rfl) Try.underlying4 rfl (fun H ds hd => ?_) (fun xs hs _ => law_3 xs hs) enc W base args ds gs before hval0 hW fun _ _ _ => trivial
  · have := List.all_eq_true.1 readable t ht
    simpa using this
  · have hd' : ds.length = 3 := hd
    rcases ds with _ | ⟨d1, _ | ⟨d2, _ | ⟨d3, _ | ⟨x4, ds⟩⟩⟩⟩ <;> first | rfl | (simp at hd')

theorem over : Rows.undoBackRow.holds Try.pinned (OpenSpec.ofChange Rows.undoBackSpec) :=
  OpenClaim.holds_of_wide 3 Try.f3 rfl rfl rfl rfl rfl rfl rfl ⟨rfl, rfl, rfl, rfl, rfl⟩ rfl rfl rfl rfl rfl (by kernel_rfl) Try.func3 (by kernel_rfl)
    (of_decide_eq_true (by kernel_rfl)) (by unfold Func.isWrapper; first | (rw [if_pos (by decide +kernel)]; kernel_rfl) | (rw [if_neg (by decide +kernel)]; exact ⟨rfl, rfl⟩))
    (fun os started H enc _ => lifted os started H enc)

theorem proved : Rows.UndoBackSaid := over
end Go.Proofs.Ytpmbebdcbejlkaa.undoBack
