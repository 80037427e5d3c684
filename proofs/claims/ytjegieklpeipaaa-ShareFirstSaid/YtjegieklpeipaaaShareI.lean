/- What functions of this program do, on plain values: a part of the proofs of this seat's laws; each theorem bears its own conditions. -/
import Derived.Test.YtjegieklpeipaaaShareH
set_option linter.unusedVariables false
set_option linter.unusedSimpArgs false
set_option maxRecDepth 1000000
namespace Go.Proofs.Ytjegieklpeipaaa.Moi.Share
open Go Go.RowKit Go.Proofs.Ytjegieklpeipaaa.Moi Go.Proofs.Ytjegieklpeipaaa.Moi.Num

/-! ### Blocks: each sorted, beside what it was -/
abbrev Bl := List Cl × List Cl
def good (x : Bl) : Prop := x.1.Perm x.2 ∧ Srt x.1
def fl1 (b : List Bl) : List Cl := (b.map Prod.fst).flatten
def fl2 (b : List Bl) : List Cl := (b.map Prod.snd).flatten
def full (B : Nat) (b : List Bl) : Prop := ∀ x ∈ b, x.1.length = B ∧ good x
theorem fl1_snoc {b : List Bl} {x : Bl} : fl1 (b ++ [x]) = fl1 b ++ x.1 := by simp [fl1]
theorem fl2_snoc {b : List Bl} {x : Bl} : fl2 (b ++ [x]) = fl2 b ++ x.2 := by simp [fl2]
theorem fl1_cons {b : List Bl} {x : Bl} : fl1 (x :: b) = x.1 ++ fl1 b := by simp [fl1]
theorem fl2_cons {b : List Bl} {x : Bl} : fl2 (x :: b) = x.2 ++ fl2 b := by simp [fl2]
theorem fl_perm {b : List Bl} (h : ∀ x ∈ b, good x) : (fl1 b).Perm (fl2 b) := by
  induction b with
  | nil => exact .refl _
  | cons x b ih =>
    rw [fl1_cons, fl2_cons]
    exact (h x (by simp)).1.append (ih fun y hy => h y (by simp [hy]))
theorem full_len {B : Nat} {b : List Bl} (h : full B b) : (fl1 b).length = b.length * B := by
  induction b with
  | nil => simp [fl1]
  | cons x b ih =>
    rw [fl1_cons, List.length_append, ih fun y hy => h y (by simp [hy]), (h x (by simp)).1, List.length_cons, Nat.succ_mul, Nat.add_comm]
theorem full_snoc {B : Nat} {b : List Bl} {x : Bl} (h : full B b) (hx : x.1.length = B) (hg : good x) : full B (b ++ [x]) := fun y hy => by
  rcases List.mem_append.1 hy with hy | hy
  · exact h y hy
  · simp at hy; subst hy; exact ⟨hx, hg⟩
/-- Two blocks that were one behind the other, put together. -/
theorem up_apart {A B C : List Cl} (h : Up (A ++ (B ++ C))) : ∀ x ∈ A, ∀ y ∈ B, x.1 < y.1 := fun x hx y hy => (List.pairwise_append.1 h).2.2 x hx y (by simp [hy])
theorem good_apart {x y : Bl} (hx : good x) (hy : good y) (h : ∀ u ∈ x.2, ∀ v ∈ y.2, u.1 < v.1) : ∀ u ∈ x.1, ∀ v ∈ y.1, u.1 < v.1 := fun u hu v hv => h u (hx.1.mem_iff.1 hu) v (hy.1.mem_iff.1 hv)
theorem good_join {x y : Bl} {S : List Cl} (hx : good x) (hy : good y) (p : S.Perm (x.1 ++ y.1)) (s : Srt S) : good (S, x.2 ++ y.2) := ⟨p.trans (hx.1.append hy.1), s⟩
end Go.Proofs.Ytjegieklpeipaaa.Moi.Share
