/- What functions of this program do, on plain values: a part of the proofs of this seat's laws; each theorem bears its own conditions. -/
import Derived.Test.YtlcfagocikfocaaLibWireB
set_option linter.unusedVariables false
set_option linter.unusedSimpArgs false
set_option maxRecDepth 1000000
namespace Go.Proofs.Ytlcfagocikfocaa.Moi.Wire
open Go Go.RowKit Go.Proofs.Ytlcfagocikfocaa.Moi
attribute [-wf_preprocess] ite_eq_dite forIn_eq_forIn'

theorem scan_le : ∀ (l : List Int) (i u : Nat) {r n : Nat}, scan l i u = .inr (r, n) → n ≤ i + l.length
  | [], i, u, r, n, h => by simp [scan] at h
  | c :: l, i, u, r, n, h => by
    rw [scan] at h
    split at h
    · cases h
    · split at h
      · injection h with h
        injection h with h1 h2
        simp only [List.length_cons]; omega
      · have := scan_le l (i + 1) _ h
        simp only [List.length_cons]; omega

theorem enc_ne (u : Nat) : enc u ≠ [] := by
  by_cases h : u < 128
  · rw [enc_lt h]; simp
  · rw [enc_ge h]; simp
theorem enc_range : ∀ (u : Nat), ∀ c ∈ enc u, 0 ≤ c ∧ c < 256 := by
  intro u
  induction u using Nat.strongRecOn with
  | _ u ih =>
    intro c hc
    by_cases h : u < 128
    · rw [enc_lt h] at hc
      simp only [List.mem_singleton] at hc
      omega
    · rw [enc_ge h] at hc
      rcases List.mem_cons.1 hc with rfl | hc
      · omega
      · exact ih (u / 128) (by omega) c hc

theorem pow_step (i : Nat) : 2 ^ (7 * (i + 1)) = 2 ^ (7 * i) * 128 := by rw [show 7 * (i + 1) = 7 * i + 7 by omega, Nat.pow_add]
theorem small_of {u i : Nat} (hi : i ≤ 9) (h : u * 2 ^ (7 * i) < 2 ^ 64) : (i = 9 → u < 2) ∧ (128 ≤ u → i ≤ 8) := by
  constructor
  · rintro rfl
    omega
  · intro hu
    by_cases h9 : i = 9
    · subst h9; omega
    · omega

theorem scan_enc (rest : List Int) : ∀ (u i w : Nat), i ≤ 9 → u * 2 ^ (7 * i) < 2 ^ 64 → (i = 0 ∨ 0 < u) → scan (enc u ++ rest) i w = .inr (w + u * 2 ^ (7 * i), i + (enc u).length) := by
  intro u
  induction u using Nat.strongRecOn with
  | _ u ih =>
    intro i w hi hu h0
    obtain ⟨s1, s2⟩ := small_of hi hu
    by_cases h : u < 128
    · rw [enc_lt h, List.cons_append, scan, if_neg (by omega), if_pos (by omega)]
      rw [show ((u : Int) % 128).toNat = u by omega]
      rfl
    · rw [enc_ge h, List.cons_append, scan, if_neg (by omega), if_neg (by omega)]
      have e : ((((u % 128 + 128 : Nat) : Int)) % 128).toNat = u % 128 := by omega
      have hm : u / 128 * 2 ^ (7 * (i + 1)) + (u % 128) * 2 ^ (7 * i) = u * 2 ^ (7 * i) := by
        rw [pow_step]
        have : u / 128 * (2 ^ (7 * i) * 128) + u % 128 * 2 ^ (7 * i) = (128 * (u / 128) + u % 128) * 2 ^ (7 * i) := by
          rw [Nat.add_mul]; congr 1
          rw [Nat.mul_comm (2 ^ (7 * i)) 128, ← Nat.mul_assoc, Nat.mul_comm (u / 128)]
        rw [this, Nat.div_add_mod]
      rw [e, ih (u / 128) (by omega) (i + 1) _ (by omega) (by omega) (.inr (by omega))]
      simp only [List.length_cons, Sum.inr.injEq, Prod.mk.injEq]
      omega

theorem scan_short : ∀ (u i w : Nat), i ≤ 9 → u * 2 ^ (7 * i) < 2 ^ 64 → (i = 0 ∨ 0 < u) → scan (enc u).dropLast i w = .inl 7 := by
  intro u
  induction u using Nat.strongRecOn with
  | _ u ih =>
    intro i w hi hu h0
    obtain ⟨s1, s2⟩ := small_of hi hu
    by_cases h : u < 128
    · rw [enc_lt h]; rfl
    · rw [enc_ge h, List.dropLast_cons_of_ne_nil (enc_ne _), scan, if_neg (by omega), if_neg (by omega)]
      have hm : u / 128 * 2 ^ (7 * (i + 1)) ≤ u * 2 ^ (7 * i) := by
        rw [pow_step, Nat.mul_comm (2 ^ (7 * i)) 128, ← Nat.mul_assoc]
        exact Nat.mul_le_mul_right _ (Nat.div_mul_le_self u 128)
      exact ih (u / 128) (by omega) (i + 1) _ (by omega) (by omega) (.inr (by omega))

theorem unzig_zig {n : Int} : unzig (zig n) = n := by
  unfold zig unzig
  split
  · rw [if_pos (by omega)]; omega
  · rw [if_neg (by omega)]; omega

/-- What a reader that has read a number gives. -/
theorem num_s {q : Nat} {l : List Int} {o : Own} {m : Heap} {Q E : AV → Heap → Prop} (hg : get q m = some (RO l o 0)) (hl : l.length ≤ 140737488355328) (hw : ∀ c ∈ l, 0 ≤ c ∧ c < 256)
    (h : match scan l 0 0 with | .inl e => ∀ o', Q (iv 0) (put q (RO l o' e) m) | .inr (u, n) => ∀ o', Q (iv (unzig u)) (put q (RO (l.drop n) o' 0) m)) : ACall Try.prog 25 [.ptr q 0] m Q E := by
  refine acall_fn mixed Try.func25 Try.call25 e25 r25 (Nat.le_of_ble_eq_true rfl) ?_
  simp only [n25, wf_preprocess, ↓reduceIte, Nat.reduceEqDiff, reduceCtorEq, Nat.reduceAdd, Nat.reduceMul, Nat.reduceLeDiff, Nat.reduceLT, Nat.reduceSub, Int.reduceToNat, Int.reduceNeg, Int.reduceAdd, Int.reduceSub, Int.reduceMul, Int.reduceEq, Int.reduceLT, Int.reduceLE, Int.reduceNe, forall_const, forall_eq', forall_eq, List.forall_mem_cons, List.not_mem_nil]
  refine call_i (why_s hg ?_)
  simp only [wf_preprocess, ↓reduceIte, Nat.reduceEqDiff, reduceCtorEq, Nat.reduceAdd, Nat.reduceMul, Nat.reduceLeDiff, Nat.reduceLT, Nat.reduceSub, Int.reduceToNat, Int.reduceNeg, Int.reduceAdd, Int.reduceSub, Int.reduceMul, Int.reduceEq, Int.reduceLT, Int.reduceLE, Int.reduceNe, forall_const, forall_eq', forall_eq, List.forall_mem_cons, List.not_mem_nil]
  refine call_i (next_s hg hl hw ?_)
  cases hsc : scan l 0 0 with
  | inl e =>
    rw [hsc] at h
    simp only [wf_preprocess, ↓reduceIte, Nat.reduceEqDiff, reduceCtorEq, Nat.reduceAdd, Nat.reduceMul, Nat.reduceLeDiff, Nat.reduceLT, Nat.reduceSub, Int.reduceToNat, Int.reduceNeg, Int.reduceAdd, Int.reduceSub, Int.reduceMul, Int.reduceEq, Int.reduceLT, Int.reduceLE, Int.reduceNe, forall_const, forall_eq', forall_eq, List.forall_mem_cons, List.not_mem_nil]
    refine call_i (skip_s (n := 0) (get_put hg) (by omega) fun x o' => ?_)
    rw [put_put]
    simp only [wf_preprocess, ↓reduceIte, Nat.reduceEqDiff, reduceCtorEq, Nat.reduceAdd, Nat.reduceMul, Nat.reduceLeDiff, Nat.reduceLT, Nat.reduceSub, Int.reduceToNat, Int.reduceNeg, Int.reduceAdd, Int.reduceSub, Int.reduceMul, Int.reduceEq, Int.reduceLT, Int.reduceLE, Int.reduceNe, forall_const, forall_eq', forall_eq, List.forall_mem_cons, List.not_mem_nil]
    exact h o'
  | inr p =>
    obtain ⟨u, n⟩ := p
    rw [hsc] at h
    have hn := scan_le l 0 0 hsc
    simp only [wf_preprocess, ↓reduceIte, Nat.reduceEqDiff, reduceCtorEq, Nat.reduceAdd, Nat.reduceMul, Nat.reduceLeDiff, Nat.reduceLT, Nat.reduceSub, Int.reduceToNat, Int.reduceNeg, Int.reduceAdd, Int.reduceSub, Int.reduceMul, Int.reduceEq, Int.reduceLT, Int.reduceLE, Int.reduceNe, forall_const, forall_eq', forall_eq, List.forall_mem_cons, List.not_mem_nil]
    refine call_i (skip_s hg (by omega) fun x o' => ?_)
    simp only [wf_preprocess, ↓reduceIte, Nat.reduceEqDiff, reduceCtorEq, Nat.reduceAdd, Nat.reduceMul, Nat.reduceLeDiff, Nat.reduceLT, Nat.reduceSub, Int.reduceToNat, Int.reduceNeg, Int.reduceAdd, Int.reduceSub, Int.reduceMul, Int.reduceEq, Int.reduceLT, Int.reduceLE, Int.reduceNe, forall_const, forall_eq', forall_eq, List.forall_mem_cons, List.not_mem_nil]
    exact h o'
theorem num_bad {q : Nat} {l : List Int} {o : Own} {w : Int} {m : Heap} {Q E : AV → Heap → Prop} (hg : get q m = some (RO l o w)) (hw : w ≠ 0) (h : Q (iv 0) m) : ACall Try.prog 25 [.ptr q 0] m Q E := by
  refine acall_fn mixed Try.func25 Try.call25 e25 r25 (Nat.le_of_ble_eq_true rfl) ?_
  simp only [n25, wf_preprocess, ↓reduceIte, Nat.reduceEqDiff, reduceCtorEq, Nat.reduceAdd, Nat.reduceMul, Nat.reduceLeDiff, Nat.reduceLT, Nat.reduceSub, Int.reduceToNat, Int.reduceNeg, Int.reduceAdd, Int.reduceSub, Int.reduceMul, Int.reduceEq, Int.reduceLT, Int.reduceLE, Int.reduceNe, forall_const, forall_eq', forall_eq, List.forall_mem_cons, List.not_mem_nil]
  refine call_i (why_s hg ?_)
  simp only [eq_false hw, wf_preprocess, ↓reduceIte, Nat.reduceEqDiff, reduceCtorEq, Nat.reduceAdd, Nat.reduceMul, Nat.reduceLeDiff, Nat.reduceLT, Nat.reduceSub, Int.reduceToNat, Int.reduceNeg, Int.reduceAdd, Int.reduceSub, Int.reduceMul, Int.reduceEq, Int.reduceLT, Int.reduceLE, Int.reduceNe, forall_const, forall_eq', forall_eq, List.forall_mem_cons, List.not_mem_nil]
  exact h

end Go.Proofs.Ytlcfagocikfocaa.Moi.Wire
