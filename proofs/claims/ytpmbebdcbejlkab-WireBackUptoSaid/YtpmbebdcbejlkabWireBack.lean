/- The row of the law WireBack: it holds of every input that its guards let in; no further condition. -/
import Derived.Test.YtpmbebdcbejlkabRows
import Derived.Test.YtpmbebdcbejlkabWireH
import Derived.JoinedCond
import Derived.Deep.CondSized
set_option linter.unusedVariables false
set_option linter.unusedSimpArgs false
namespace Go.Proofs.Ytpmbebdcbejlkab.wireBack
open Go Go.ChangeShapes Go.WideShapes Go.ChangeAt Go.RowKit Go.Proofs.Ytpmbebdcbejlkab.Moi

theorem own : ownKnob Try.prog.godebug = none := by kernel_rfl
theorem readable : (Try.f5.params.toList.all fun t => Try.prog.readableRec t && decide (t < Try.prog.types.size)) = true := by kernel_rfl
theorem laid : laidOutB Try.prog = true := by kernel_rfl
theorem rowed : mapsRowed Try.prog = true := by kernel_rfl

theorem bulk_pos {H : Type} (d : DataW H) : 1 ≤ Rows.uptoBulk d := by
  cases d with
  | lit l => cases l <;> simp [Rows.uptoBulk]
  | _ => simp [Rows.uptoBulk]
theorem bulk_part {H : Type} {d : DataW H} : ∀ {l : List (DataW H)}, d ∈ l → Rows.uptoBulk d ≤ Rows.uptoBulkAll l
  | [], h => by simp at h
  | a :: l, h => by
    simp only [Rows.uptoBulkAll]
    rcases List.mem_cons.1 h with rfl | h
    · omega
    · have := bulk_part h; omega
theorem bulk_len {H : Type} : ∀ (l : List (DataW H)), l.length ≤ Rows.uptoBulkAll l
  | [] => by simp
  | a :: l => by have := bulk_pos a; have := bulk_len l; simp only [Rows.uptoBulkAll, List.length_cons]; omega
theorem small {H : Type} : SmallC (H := H) (fun d => Rows.uptoBulk d ≤ 1048576) (· ≤ 1048576) := by
  refine ⟨fun b h => ?_, fun e s h => ?_, fun d h => ?_, fun ps h => ?_⟩
  · simp only [Rows.uptoBulk] at h; omega
  · simp only [Rows.uptoBulk] at h
    refine ⟨by have := bulk_len e; omega, fun d hd => ?_⟩
    have := bulk_part hd; omega
  · simp only [Rows.uptoBulk] at h; omega
  · simp only [Rows.uptoBulk] at h
    intro d hd
    have := bulk_part hd; omega

set_option maxRecDepth 100000 in
theorem lifted (os : Os) (started : os.Started) (H : Type) (enc : TypeId × Value → H) (F : Stop.Interp) :
    ReturnsInHanded {} Try.checked os 5 .any ((Rows.OpenSpec.upto Rows.wireBackSpec).pre6 enc Try.prog Try.f5 Rows.wireBackUptoRow.domain false) (((Rows.OpenSpec.upto Rows.wireBackSpec).at F).post enc Try.prog Try.f5 false true false false) := by
  refine returnsInHanded_of_cond_sized (C := Try.checked) (s := Rows.OpenSpec.upto Rows.wireBackSpec) (k := Rows.uptoSmall) rfl own started (by kernel_rfl) Try.func5
    (OpenSpec.witness (enc := enc) (C := Try.checked) (s := Rows.OpenSpec.upto Rows.wireBackSpec) (k := Rows.uptoSmall) rfl false ⟨#[], #[.slice none 0 0, .slice none 0 0, .slice none 0 0], []⟩ 8 (by kernel_rfl) (by kernel_rfl) (by kernel_rfl)
      (x := ([.nil, .nil, .nil], [], [])) (by kernel_rfl) rfl (by kernel_rfl)) ?_
  intro W base args ds gs before hval hW _ hk hz _
  have hsm : ∀ d ∈ ds, Rows.uptoBulk d ≤ 1048576 := fun d hd => by
    have := bulk_part (l := ds ++ gs) (List.mem_append_left gs hd)
    have := of_decide_eq_true hk
    omega
  refine contract_of (s := Rows.wireBackSpec) laid rowed Try.call5 (fun t ht => ?_) (tb := 4) (by kernel_rfl) Try.underlying4 rfl (fun H ds hd => ?_) (fun xs hs => law_5 xs hs) enc W base args ds gs before hval hW hz small hsm
  · have := List.all_eq_true.1 readable t ht
    simpa using this
  · have hd' : ds.length = 3 := hd
    rcases ds with _ | ⟨d1, _ | ⟨d2, _ | ⟨d3, _ | ⟨x4, ds⟩⟩⟩⟩ <;> first | rfl | (simp at hd')

theorem over : Rows.wireBackUptoRow.holds Try.pinned (Rows.OpenSpec.upto Rows.wireBackSpec) :=
  OpenClaim.holds_of_cond 5 Try.f5 rfl rfl rfl rfl rfl rfl rfl ⟨rfl, rfl, rfl, rfl, rfl⟩ rfl rfl rfl rfl rfl (by kernel_rfl) Try.func5 (by kernel_rfl)
    (of_decide_eq_true (by kernel_rfl)) (by unfold Func.isWrapper; first | (rw [if_pos (by decide +kernel)]; kernel_rfl) | (rw [if_neg (by decide +kernel)]; exact ⟨rfl, rfl⟩))
    (fun os started H enc _ F => lifted os started H enc F)

theorem proved : Rows.WireBackUptoSaid := over
end Go.Proofs.Ytpmbebdcbejlkab.wireBack
