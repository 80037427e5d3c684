/- What functions of this program do, on plain values: a part of the proofs of this seat's laws; each theorem bears its own conditions. -/
import Derived.Test.YtlcfagocikfocaaLibWireE
set_option linter.unusedVariables false
set_option linter.unusedSimpArgs false
set_option maxRecDepth 1000000
namespace Go.Proofs.Ytlcfagocikfocaa.Moi.Wire
open Go Go.RowKit Go.Proofs.Ytlcfagocikfocaa.Moi
theorem cut_elems {k : IntKind} {l : List Int} {rest : List AV} {id n c : Nat} {m : Heap} (hg : get id m = some (.cells (kl k l ++ rest))) (hn : n ≤ l.length) : aelems none (.mref id 0 n c) m = some (kl k (l.take n)) := by
  simp only [aelems, hg, List.drop_zero]
  have e : kl k l ++ rest = kl k (l.take n) ++ (kl k (l.drop n) ++ rest) := by
    rw [← List.append_assoc, ← kl_app, List.take_append_drop]
  rw [e]
  have := chunk_ints (k := k) (l.take n) (kl k (l.drop n) ++ rest)
  rw [List.length_take, Nat.min_eq_left hn] at this
  exact this
theorem Buf.ref {k : IntKind} {l : List Int} {v : AV} {m1 : Heap} (h : Buf k l v m1) (hl : l ≠ []) : ∃ id cap rest, v = .mref id 0 l.length cap ∧ l.length ≤ cap ∧ cap ≤ maxLen ∧ m1 = [(id, .cells (kl k l ++ rest))] := by
  rcases h with ⟨rfl, _⟩ | ⟨id, cap, rest, rfl, h1, h2, h3, h4, rfl⟩
  · exact absurd rfl hl
  · exact ⟨id, cap, rest, rfl, h1, h2, rfl⟩


end Go.Proofs.Ytlcfagocikfocaa.Moi.Wire
