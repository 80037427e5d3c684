/-
  No cell of these rows narrows 'for every input' (looked for: loops, veiled, ifaces, maps, wideKeys, modest, calm, conditions, laid).
  DERIVED. THE GIVEN ROWS OF THIS SEAT. 6 by the template 'for every input the law returns true; each argument reads behind the call as it read before'; 0 by the template 'total and deterministic' (their statements: YtjegieklpeipaaaTotals.lean).
  GIVEN WITH THE SEED: the statements are not yours to turn. If you find one false, say at which input.
  Laid BY PROGRAM, IN A SANDBOX (cutbox-rows.mjs): the forced cells as the released guide's own fill.sh prints them over the translation 14b85ba84a28598f… (all of the seat's roots in one cut). By AI agents, Wed Nov 11 2026. No macro, syntax, notation, axiom, sorry.
-/
import Derived.Test.YtjegieklpeipaaaChecked
import GoSem.Claim
import GoSem.ClaimJoined
import GoSem.ClaimMapViews
import Derived.JoinedTies
import Derived.KernelRfl
namespace Go.Proofs.Ytjegieklpeipaaa
/- THE CELL 'sum', in the pinned program and in every row, IS THE sha256 OF THE DUMP (.gsa) THAT YtjegieklpeipaaaProg.lean LOADS. Nothing in Lean hashes anything: it is a label: what it is worth is what the hold of that sum in a sandbox is worth. -/
noncomputable def Try.pinned : Pinned := { name := "ytjegieklpeipaaa", sum := "14b85ba84a28598ff543c76499b1d89cba36b1e9d80a8e9e4f50cdab50a037dd", checked := Try.checked }
namespace Rows
def none {H : Type} : Left H := { results := [], args := [] }

/-- 'moietylaw02.ShareSplits': WHATEVER THE INPUT: true; the input reads as it did. -/
def shareSplitsSpec : ChangeSpec := { name := "shareSplits", fn := fun _ => fun
  | [d1, d2] => { results := [.lit (.bool true)], args := [d1, d2] }
  | _ => none }
def shareSplitsRow : OpenClaim := { program := "ytjegieklpeipaaa", sum := "14b85ba84a28598ff543c76499b1d89cba36b1e9d80a8e9e4f50cdab50a037dd", func := "moiety/moietylaw02.ShareSplits", spec := "shareSplits", unfollowed := true, recurses := true, named := ["math/bits.divideError", "math/bits.overflowError"], apart := false }
def ShareSplitsSaid : Prop := shareSplitsRow.holds Try.pinned (OpenSpec.ofChange shareSplitsSpec)

/-- ITS FALSE NEIGHBOUR: 'it returns false'. Refute it at one input. -/
def shareSplitsWrong : ChangeSpec := { name := "shareSplits", fn := fun _ => fun
  | [d1, d2] => { results := [.lit (.bool false)], args := [d1, d2] }
  | _ => none }
def ShareSplitsWrongFalsely : Prop := shareSplitsRow.holds Try.pinned (OpenSpec.ofChange shareSplitsWrong)

/-- 'moietylaw02.ShareWhole': WHATEVER THE INPUT: true; the input reads as it did. -/
def shareWholeSpec : ChangeSpec := { name := "shareWhole", fn := fun _ => fun
  | [d1, d2] => { results := [.lit (.bool true)], args := [d1, d2] }
  | _ => none }
def shareWholeRow : OpenClaim := { program := "ytjegieklpeipaaa", sum := "14b85ba84a28598ff543c76499b1d89cba36b1e9d80a8e9e4f50cdab50a037dd", func := "moiety/moietylaw02.ShareWhole", spec := "shareWhole", unfollowed := true, recurses := true, named := ["math/bits.divideError", "math/bits.overflowError"], apart := false }
def ShareWholeSaid : Prop := shareWholeRow.holds Try.pinned (OpenSpec.ofChange shareWholeSpec)

/-- ITS FALSE NEIGHBOUR: 'it returns false'. Refute it at one input. -/
def shareWholeWrong : ChangeSpec := { name := "shareWhole", fn := fun _ => fun
  | [d1, d2] => { results := [.lit (.bool false)], args := [d1, d2] }
  | _ => none }
def ShareWholeWrongFalsely : Prop := shareWholeRow.holds Try.pinned (OpenSpec.ofChange shareWholeWrong)

/-- 'moietylaw02.ShareNear': WHATEVER THE INPUT: true; the input reads as it did. -/
def shareNearSpec : ChangeSpec := { name := "shareNear", fn := fun _ => fun
  | [d1, d2] => { results := [.lit (.bool true)], args := [d1, d2] }
  | _ => none }
def shareNearRow : OpenClaim := { program := "ytjegieklpeipaaa", sum := "14b85ba84a28598ff543c76499b1d89cba36b1e9d80a8e9e4f50cdab50a037dd", func := "moiety/moietylaw02.ShareNear", spec := "shareNear", unfollowed := true, recurses := true, named := ["math/bits.divideError", "math/bits.overflowError"], apart := false }
def ShareNearSaid : Prop := shareNearRow.holds Try.pinned (OpenSpec.ofChange shareNearSpec)

/-- ITS FALSE NEIGHBOUR: 'it returns false'. Refute it at one input. -/
def shareNearWrong : ChangeSpec := { name := "shareNear", fn := fun _ => fun
  | [d1, d2] => { results := [.lit (.bool false)], args := [d1, d2] }
  | _ => none }
def ShareNearWrongFalsely : Prop := shareNearRow.holds Try.pinned (OpenSpec.ofChange shareNearWrong)

/-- 'moietylaw02.ShareFirst': WHATEVER THE INPUT: true; the input reads as it did. -/
def shareFirstSpec : ChangeSpec := { name := "shareFirst", fn := fun _ => fun
  | [d1, d2, d3, d4] => { results := [.lit (.bool true)], args := [d1, d2, d3, d4] }
  | _ => none }
def shareFirstRow : OpenClaim := { program := "ytjegieklpeipaaa", sum := "14b85ba84a28598ff543c76499b1d89cba36b1e9d80a8e9e4f50cdab50a037dd", func := "moiety/moietylaw02.ShareFirst", spec := "shareFirst", unfollowed := true, recurses := true, named := ["math/bits.divideError", "math/bits.overflowError"], apart := false }
def ShareFirstSaid : Prop := shareFirstRow.holds Try.pinned (OpenSpec.ofChange shareFirstSpec)

/-- ITS FALSE NEIGHBOUR: 'it returns false'. Refute it at one input. -/
def shareFirstWrong : ChangeSpec := { name := "shareFirst", fn := fun _ => fun
  | [d1, d2, d3, d4] => { results := [.lit (.bool false)], args := [d1, d2, d3, d4] }
  | _ => none }
def ShareFirstWrongFalsely : Prop := shareFirstRow.holds Try.pinned (OpenSpec.ofChange shareFirstWrong)

/-- 'moietylaw02.ShareTwice': WHATEVER THE INPUT: true; the input reads as it did. -/
def shareTwiceSpec : ChangeSpec := { name := "shareTwice", fn := fun _ => fun
  | [d1, d2] => { results := [.lit (.bool true)], args := [d1, d2] }
  | _ => none }
def shareTwiceRow : OpenClaim := { program := "ytjegieklpeipaaa", sum := "14b85ba84a28598ff543c76499b1d89cba36b1e9d80a8e9e4f50cdab50a037dd", func := "moiety/moietylaw02.ShareTwice", spec := "shareTwice", unfollowed := true, recurses := true, named := ["math/bits.divideError", "math/bits.overflowError"], apart := false }
def ShareTwiceSaid : Prop := shareTwiceRow.holds Try.pinned (OpenSpec.ofChange shareTwiceSpec)

/-- ITS FALSE NEIGHBOUR: 'it returns false'. Refute it at one input. -/
def shareTwiceWrong : ChangeSpec := { name := "shareTwice", fn := fun _ => fun
  | [d1, d2] => { results := [.lit (.bool false)], args := [d1, d2] }
  | _ => none }
def ShareTwiceWrongFalsely : Prop := shareTwiceRow.holds Try.pinned (OpenSpec.ofChange shareTwiceWrong)

/-- 'moietylaw02.ShareEvens': WHATEVER THE INPUT: true; the input reads as it did. -/
def shareEvensSpec : ChangeSpec := { name := "shareEvens", fn := fun _ => fun
  | [d1, d2, d3, d4] => { results := [.lit (.bool true)], args := [d1, d2, d3, d4] }
  | _ => none }
def shareEvensRow : OpenClaim := { program := "ytjegieklpeipaaa", sum := "14b85ba84a28598ff543c76499b1d89cba36b1e9d80a8e9e4f50cdab50a037dd", func := "moiety/moietylaw02.ShareEvens", spec := "shareEvens", unfollowed := true, recurses := true, named := ["math/bits.divideError", "math/bits.overflowError"], apart := false }
def ShareEvensSaid : Prop := shareEvensRow.holds Try.pinned (OpenSpec.ofChange shareEvensSpec)

/-- ITS FALSE NEIGHBOUR: 'it returns false'. Refute it at one input. -/
def shareEvensWrong : ChangeSpec := { name := "shareEvens", fn := fun _ => fun
  | [d1, d2, d3, d4] => { results := [.lit (.bool false)], args := [d1, d2, d3, d4] }
  | _ => none }
def ShareEvensWrongFalsely : Prop := shareEvensRow.holds Try.pinned (OpenSpec.ofChange shareEvensWrong)

/- THE SECOND FORM. 'bulk': how many values and letters a reading holds, each counted each time it is reached (what is shared counts as often as it is met; a slice's spare places count too). A statement '..UptoSaid' is the law's where the arguments, and the package variables that the reading takes, are together of bulk at most 1048576: NARROWER than '..Said'. Prove '..Said' where nothing that the law and all that it calls make is longer than what came in: it says more and counts as full. Else prove '..UptoSaid'. A law counts once. -/
mutual
def uptoBulk {H : Type} : DataW H → Nat
  | .lit (.string bytes) => bytes.length + 1
  | .lit _ => 1
  | .nil => 1
  | .ptr d => uptoBulk d + 1
  | .slice elems spare => uptoBulkAll elems + uptoBulkAll spare + 1
  | .agg parts => uptoBulkAll parts + 1
  | .iface _ d => uptoBulk d + 1
  | .map entries => uptoBulkEntries entries + 1
  | .held _ => 1
def uptoBulkAll {H : Type} : List (DataW H) → Nat
  | [] => 0
  | d :: r => uptoBulk d + uptoBulkAll r
def uptoBulkEntries {H : Type} : List (Lit × DataW H) → Nat
  | [] => 0
  | x :: r => uptoBulkEntry x + uptoBulkEntries r
def uptoBulkEntry {H : Type} : Lit × DataW H → Nat
  | (.string bytes, d) => bytes.length + uptoBulk d + 1
  | (_, d) => uptoBulk d + 1
 end
def uptoSmall : (H : Type) → List (DataW H) → Bool := fun _ ds => decide (uptoBulkAll ds ≤ 1048576)
def OpenSpec.upto (s : _root_.Go.ChangeSpec) : _root_.Go.OpenSpec := { _root_.Go.OpenSpec.ofChange s with cond := some uptoSmall }

/-- 'moietylaw02.ShareSplits', WHERE WHAT IT READS IS OF BULK AT MOST 1048576: true; the input reads as it did. -/
def shareSplitsUptoRow : OpenClaim := { program := "ytjegieklpeipaaa", sum := "14b85ba84a28598ff543c76499b1d89cba36b1e9d80a8e9e4f50cdab50a037dd", func := "moiety/moietylaw02.ShareSplits", spec := "shareSplits", unfollowed := true, recurses := true, named := ["math/bits.divideError", "math/bits.overflowError"], apart := false, narrowed := true }
def ShareSplitsUptoSaid : Prop := shareSplitsUptoRow.holds Try.pinned (OpenSpec.upto shareSplitsSpec)

/-- 'moietylaw02.ShareWhole', WHERE WHAT IT READS IS OF BULK AT MOST 1048576: true; the input reads as it did. -/
def shareWholeUptoRow : OpenClaim := { program := "ytjegieklpeipaaa", sum := "14b85ba84a28598ff543c76499b1d89cba36b1e9d80a8e9e4f50cdab50a037dd", func := "moiety/moietylaw02.ShareWhole", spec := "shareWhole", unfollowed := true, recurses := true, named := ["math/bits.divideError", "math/bits.overflowError"], apart := false, narrowed := true }
def ShareWholeUptoSaid : Prop := shareWholeUptoRow.holds Try.pinned (OpenSpec.upto shareWholeSpec)

/-- 'moietylaw02.ShareNear', WHERE WHAT IT READS IS OF BULK AT MOST 1048576: true; the input reads as it did. -/
def shareNearUptoRow : OpenClaim := { program := "ytjegieklpeipaaa", sum := "14b85ba84a28598ff543c76499b1d89cba36b1e9d80a8e9e4f50cdab50a037dd", func := "moiety/moietylaw02.ShareNear", spec := "shareNear", unfollowed := true, recurses := true, named := ["math/bits.divideError", "math/bits.overflowError"], apart := false, narrowed := true }
def ShareNearUptoSaid : Prop := shareNearUptoRow.holds Try.pinned (OpenSpec.upto shareNearSpec)

/-- 'moietylaw02.ShareFirst', WHERE WHAT IT READS IS OF BULK AT MOST 1048576: true; the input reads as it did. -/
def shareFirstUptoRow : OpenClaim := { program := "ytjegieklpeipaaa", sum := "14b85ba84a28598ff543c76499b1d89cba36b1e9d80a8e9e4f50cdab50a037dd", func := "moiety/moietylaw02.ShareFirst", spec := "shareFirst", unfollowed := true, recurses := true, named := ["math/bits.divideError", "math/bits.overflowError"], apart := false, narrowed := true }
def ShareFirstUptoSaid : Prop := shareFirstUptoRow.holds Try.pinned (OpenSpec.upto shareFirstSpec)

/-- 'moietylaw02.ShareTwice', WHERE WHAT IT READS IS OF BULK AT MOST 1048576: true; the input reads as it did. -/
def shareTwiceUptoRow : OpenClaim := { program := "ytjegieklpeipaaa", sum := "14b85ba84a28598ff543c76499b1d89cba36b1e9d80a8e9e4f50cdab50a037dd", func := "moiety/moietylaw02.ShareTwice", spec := "shareTwice", unfollowed := true, recurses := true, named := ["math/bits.divideError", "math/bits.overflowError"], apart := false, narrowed := true }
def ShareTwiceUptoSaid : Prop := shareTwiceUptoRow.holds Try.pinned (OpenSpec.upto shareTwiceSpec)

/-- 'moietylaw02.ShareEvens', WHERE WHAT IT READS IS OF BULK AT MOST 1048576: true; the input reads as it did. -/
def shareEvensUptoRow : OpenClaim := { program := "ytjegieklpeipaaa", sum := "14b85ba84a28598ff543c76499b1d89cba36b1e9d80a8e9e4f50cdab50a037dd", func := "moiety/moietylaw02.ShareEvens", spec := "shareEvens", unfollowed := true, recurses := true, named := ["math/bits.divideError", "math/bits.overflowError"], apart := false, narrowed := true }
def ShareEvensUptoSaid : Prop := shareEvensUptoRow.holds Try.pinned (OpenSpec.upto shareEvensSpec)

end Rows
end Go.Proofs.Ytjegieklpeipaaa
