/- What functions of this program do, on plain values: a part of the proofs of this seat's laws; each theorem bears its own conditions. -/
import Derived.Test.YtceahampebofbaaTreeA
set_option linter.unusedVariables false
set_option linter.unusedSimpArgs false
set_option maxRecDepth 1000000
namespace Go.Proofs.Ytceahampebofbaa.Moi.Tree
open Go Go.RowKit Go.Proofs.Ytceahampebofbaa.Moi
attribute [-wf_preprocess] ite_eq_dite forIn_eq_forIn'

/-! ### Values without memory -/
theorem pureR {f : FuncId} {xs : List AV} {x : AV} {m : Heap} {Q E : AV → Heap → Prop} (h : ACall Try.prog f xs [] (fun y _ => y = x) (fun _ _ => False)) (k : Q x m) : ACall Try.prog f xs m Q E :=
  ACall.part h (r := m) (by simp) fun y m' e => by
    subst e
    exact Ent.drop (r := m') (m' := m) List.perm_append_comm (.now k)
/-! ### Names -/
abbrev bv (c : UInt8) : AV := .sc (.int .u8 (c.toNat : Int))
def letB (c : UInt8) : Bool := decide ((97 ≤ c.toNat ∧ c.toNat ≤ 122) ∨ (65 ≤ c.toNat ∧ c.toNat ≤ 90))
def digB (c : UInt8) : Bool := decide (48 ≤ c.toNat ∧ c.toNat ≤ 57)
def chB (c : UInt8) : Bool := letB c || digB c || decide (c.toNat = 95)
def nmB (s : ByteArray) : Bool := decide (0 < s.size ∧ s.size ≤ 12) && letB (s.data.toList.headD 0) && s.data.toList.all chB
theorem or32 : ∀ n, n < 256 → IntKind.u8.wrap (((BitVec.ofInt IntKind.u8.bits ((n : Nat) : Int) ||| BitVec.ofInt IntKind.u8.bits 32).toNat : Nat) : Int) = ((n ||| 32 : Nat) : Int) := by decide +kernel
theorem or32_let : ∀ n, n < 256 → ((97 ≤ n ||| 32 ∧ n ||| 32 ≤ 122) ↔ ((97 ≤ n ∧ n ≤ 122) ∨ (65 ≤ n ∧ n ≤ 90))) := by decide +kernel
section
variable {m : Heap} {Q E : AV → Heap → Prop} {c : UInt8} {s : ByteArray}
theorem letter_s (k : Q (bo (letB c)) m) : ACall Try.prog 55 [bv c] m Q E := by
  refine pureR ?_ k
  have hc := UInt8.toNat_lt c
  have e1 := or32 c.toNat hc
  have e2 := or32_let c.toNat hc
  have e3 : decide (97 ≤ c.toNat ||| 32 ∧ c.toNat ||| 32 ≤ 122) = decide ((97 ≤ c.toNat ∧ c.toNat ≤ 122) ∨ (65 ≤ c.toNat ∧ c.toNat ≤ 90)) := decide_eq_decide.2 e2
  unfold letB
  rw [← e3]
  refine acall_fn mixed Try.func55 Try.call55 e55 r55 (Nat.le_of_ble_eq_true rfl) ?_
  by_cases c1 : 97 ≤ c.toNat ||| 32
  · have c1' : (97 : Int) ≤ ((c.toNat ||| 32 : Nat) : Int) := by omega
    by_cases c2 : c.toNat ||| 32 ≤ 122
    · have c2' : ((c.toNat ||| 32 : Nat) : Int) ≤ 122 := by omega
      simp only [n55, e1, c1', c2', c1, c2, wf_preprocess, ↓reduceIte, Nat.reduceEqDiff, reduceCtorEq, Nat.reduceAdd, Nat.reduceMul, Nat.reduceLeDiff, Nat.reduceLT, Nat.reduceSub, Int.reduceToNat, Int.reduceNeg, Int.reduceAdd, Int.reduceSub, Int.reduceMul, Int.reduceEq, Int.reduceLT, Int.reduceLE, Int.reduceNe, forall_const, forall_eq', forall_eq, List.forall_mem_cons, List.not_mem_nil]
    · have c2' : ¬ ((c.toNat ||| 32 : Nat) : Int) ≤ 122 := by omega
      simp only [n55, e1, c1', c2', c1, c2, wf_preprocess, ↓reduceIte, Nat.reduceEqDiff, reduceCtorEq, Nat.reduceAdd, Nat.reduceMul, Nat.reduceLeDiff, Nat.reduceLT, Nat.reduceSub, Int.reduceToNat, Int.reduceNeg, Int.reduceAdd, Int.reduceSub, Int.reduceMul, Int.reduceEq, Int.reduceLT, Int.reduceLE, Int.reduceNe, forall_const, forall_eq', forall_eq, List.forall_mem_cons, List.not_mem_nil]
  · have c1' : ¬ (97 : Int) ≤ ((c.toNat ||| 32 : Nat) : Int) := by omega
    simp only [n55, e1, c1', c1, wf_preprocess, ↓reduceIte, Nat.reduceEqDiff, reduceCtorEq, Nat.reduceAdd, Nat.reduceMul, Nat.reduceLeDiff, Nat.reduceLT, Nat.reduceSub, Int.reduceToNat, Int.reduceNeg, Int.reduceAdd, Int.reduceSub, Int.reduceMul, Int.reduceEq, Int.reduceLT, Int.reduceLE, Int.reduceNe, forall_const, forall_eq', forall_eq, List.forall_mem_cons, List.not_mem_nil]
theorem rletter_s (k : Q (bo (letB c)) m) : ACall Try.prog 51 [bv c] m Q E := by
  refine pureR ?_ k
  have hc := UInt8.toNat_lt c
  unfold letB
  refine acall_fn mixed Try.func51 Try.call51 e51 r51 (Nat.le_of_ble_eq_true rfl) ?_
  have i1 : ((97 : Int) ≤ (c.toNat : Int)) = (97 ≤ c.toNat) := by apply propext; omega
  have i2 : ((c.toNat : Int) ≤ 122) = (c.toNat ≤ 122) := by apply propext; omega
  have i3 : ((65 : Int) ≤ (c.toNat : Int)) = (65 ≤ c.toNat) := by apply propext; omega
  have i4 : ((c.toNat : Int) ≤ 90) = (c.toNat ≤ 90) := by apply propext; omega
  by_cases c1 : 97 ≤ c.toNat
  · by_cases c2 : c.toNat ≤ 122
    · simp only [n51, i1, i2, i3, i4, c1, c2, true_or, wf_preprocess, ↓reduceIte, Nat.reduceEqDiff, reduceCtorEq, Nat.reduceAdd, Nat.reduceMul, Nat.reduceLeDiff, Nat.reduceLT, Nat.reduceSub, Int.reduceToNat, Int.reduceNeg, Int.reduceAdd, Int.reduceSub, Int.reduceMul, Int.reduceEq, Int.reduceLT, Int.reduceLE, Int.reduceNe, forall_const, forall_eq', forall_eq, List.forall_mem_cons, List.not_mem_nil]
    · have c3 : 65 ≤ c.toNat := by omega
      have c4 : ¬ c.toNat ≤ 90 := by omega
      simp only [n51, i1, i2, i3, i4, c1, c2, c3, c4, or_false, wf_preprocess, ↓reduceIte, Nat.reduceEqDiff, reduceCtorEq, Nat.reduceAdd, Nat.reduceMul, Nat.reduceLeDiff, Nat.reduceLT, Nat.reduceSub, Int.reduceToNat, Int.reduceNeg, Int.reduceAdd, Int.reduceSub, Int.reduceMul, Int.reduceEq, Int.reduceLT, Int.reduceLE, Int.reduceNe, forall_const, forall_eq', forall_eq, List.forall_mem_cons, List.not_mem_nil]
  · by_cases c3 : 65 ≤ c.toNat
    · by_cases c4 : c.toNat ≤ 90
      · simp only [n51, i1, i2, i3, i4, c1, c3, c4, or_true, wf_preprocess, ↓reduceIte, Nat.reduceEqDiff, reduceCtorEq, Nat.reduceAdd, Nat.reduceMul, Nat.reduceLeDiff, Nat.reduceLT, Nat.reduceSub, Int.reduceToNat, Int.reduceNeg, Int.reduceAdd, Int.reduceSub, Int.reduceMul, Int.reduceEq, Int.reduceLT, Int.reduceLE, Int.reduceNe, forall_const, forall_eq', forall_eq, List.forall_mem_cons, List.not_mem_nil]
      · simp only [n51, i1, i2, i3, i4, c1, c3, c4, or_false, wf_preprocess, ↓reduceIte, Nat.reduceEqDiff, reduceCtorEq, Nat.reduceAdd, Nat.reduceMul, Nat.reduceLeDiff, Nat.reduceLT, Nat.reduceSub, Int.reduceToNat, Int.reduceNeg, Int.reduceAdd, Int.reduceSub, Int.reduceMul, Int.reduceEq, Int.reduceLT, Int.reduceLE, Int.reduceNe, forall_const, forall_eq', forall_eq, List.forall_mem_cons, List.not_mem_nil]
    · simp only [n51, i1, i2, i3, i4, c1, c3, or_false, wf_preprocess, ↓reduceIte, Nat.reduceEqDiff, reduceCtorEq, Nat.reduceAdd, Nat.reduceMul, Nat.reduceLeDiff, Nat.reduceLT, Nat.reduceSub, Int.reduceToNat, Int.reduceNeg, Int.reduceAdd, Int.reduceSub, Int.reduceMul, Int.reduceEq, Int.reduceLT, Int.reduceLE, Int.reduceNe, forall_const, forall_eq', forall_eq, List.forall_mem_cons, List.not_mem_nil]
theorem rdigit_s (k : Q (bo (digB c)) m) : ACall Try.prog 52 [bv c] m Q E := by
  refine pureR ?_ k
  unfold digB
  refine acall_fn mixed Try.func52 Try.call52 e52 r52 (Nat.le_of_ble_eq_true rfl) ?_
  have i1 : ((48 : Int) ≤ (c.toNat : Int)) = (48 ≤ c.toNat) := by apply propext; omega
  have i2 : ((c.toNat : Int) ≤ 57) = (c.toNat ≤ 57) := by apply propext; omega
  by_cases c1 : 48 ≤ c.toNat
  · by_cases c2 : c.toNat ≤ 57 <;> simp only [n52, i1, i2, c1, c2, wf_preprocess, ↓reduceIte, Nat.reduceEqDiff, reduceCtorEq, Nat.reduceAdd, Nat.reduceMul, Nat.reduceLeDiff, Nat.reduceLT, Nat.reduceSub, Int.reduceToNat, Int.reduceNeg, Int.reduceAdd, Int.reduceSub, Int.reduceMul, Int.reduceEq, Int.reduceLT, Int.reduceLE, Int.reduceNe, forall_const, forall_eq', forall_eq, List.forall_mem_cons, List.not_mem_nil]
  · simp only [n52, i1, i2, c1, wf_preprocess, ↓reduceIte, Nat.reduceEqDiff, reduceCtorEq, Nat.reduceAdd, Nat.reduceMul, Nat.reduceLeDiff, Nat.reduceLT, Nat.reduceSub, Int.reduceToNat, Int.reduceNeg, Int.reduceAdd, Int.reduceSub, Int.reduceMul, Int.reduceEq, Int.reduceLT, Int.reduceLE, Int.reduceNe, forall_const, forall_eq', forall_eq, List.forall_mem_cons, List.not_mem_nil]

theorem byte_at {i : Nat} (h : i < s.size) : ∃ c, s.data[i]? = some c ∧ s.data.toList[i]? = some c := by
  have : i < s.data.size := h
  exact ⟨s.data[i], by simp [this], by simp [this]⟩
theorem size_list : s.data.toList.length = s.size := by simp
theorem str_empty : (s = ⟨#[]⟩) = (s.size = 0) := by
  apply propext
  constructor
  · rintro rfl; rfl
  · intro h
    obtain ⟨d⟩ := s
    have : d.size = 0 := h
    have : d = #[] := Array.eq_empty_of_size_eq_zero this
    rw [this]
theorem head_at {c : UInt8} (h : s.data.toList[0]? = some c) : s.data.toList.headD 0 = c := by
  cases hl : s.data.toList with
  | nil => rw [hl] at h; simp at h
  | cons a l => rw [hl] at h; simp at h; simp [h]
theorem all_bad {l : List UInt8} {i : Nat} {c : UInt8} (h : l[i]? = some c) (hc : chB c = false) : l.all chB = false := by
  rw [List.all_eq_false]
  exact ⟨c, List.mem_of_getElem? h, by simp [hc]⟩
theorem all_step {l : List UInt8} {i : Nat} {c : UInt8} (h : l[i]? = some c) (ha : (l.take i).all chB = true) (hc : chB c = true) : (l.take (i + 1)).all chB = true := by
  rw [List.take_add_one, h, List.all_append, ha]
  simp [hc]
theorem tName_s (k : Q (bo (nmB s)) m) : ACall Try.prog 54 [.sc (.string s)] m Q E := by
  refine pureR ?_ k
  refine acall_fn mixed Try.func54 Try.call54 e54 r54 (Nat.le_of_ble_eq_true rfl) ?_
  by_cases c0 : s.size = 0
  · have e : nmB s = false := by unfold nmB; rw [decide_eq_false (by omega)]; rfl
    simp only [n54, str_empty, c0, e, wf_preprocess, ↓reduceIte, Nat.reduceEqDiff, reduceCtorEq, Nat.reduceAdd, Nat.reduceMul, Nat.reduceLeDiff, Nat.reduceLT, Nat.reduceSub, Int.reduceToNat, Int.reduceNeg, Int.reduceAdd, Int.reduceSub, Int.reduceMul, Int.reduceEq, Int.reduceLT, Int.reduceLE, Int.reduceNe, forall_const, forall_eq', forall_eq, List.forall_mem_cons, List.not_mem_nil]
  by_cases c1 : 12 < s.size
  · have c1' : (12 : Int) < (s.size : Int) := by omega
    have e : nmB s = false := by unfold nmB; rw [decide_eq_false (by omega)]; rfl
    simp only [n54, str_empty, c0, c1', e, wf_preprocess, ↓reduceIte, Nat.reduceEqDiff, reduceCtorEq, Nat.reduceAdd, Nat.reduceMul, Nat.reduceLeDiff, Nat.reduceLT, Nat.reduceSub, Int.reduceToNat, Int.reduceNeg, Int.reduceAdd, Int.reduceSub, Int.reduceMul, Int.reduceEq, Int.reduceLT, Int.reduceLE, Int.reduceNe, forall_const, forall_eq', forall_eq, List.forall_mem_cons, List.not_mem_nil]
  have c1' : ¬ (12 : Int) < (s.size : Int) := by omega
  obtain ⟨b0, hb0, hb1⟩ := byte_at (s := s) (i := 0) (by omega)
  have en : nmB s = (letB b0 && s.data.toList.all chB) := by unfold nmB; rw [decide_eq_true (by omega), head_at hb1]; rfl
  rw [en]
  simp only [n54, str_empty, c0, c1', Int.toNat_zero, wf_preprocess, ↓reduceIte, Nat.reduceEqDiff, reduceCtorEq, Nat.reduceAdd, Nat.reduceMul, Nat.reduceLeDiff, Nat.reduceLT, Nat.reduceSub, Int.reduceToNat, Int.reduceNeg, Int.reduceAdd, Int.reduceSub, Int.reduceMul, Int.reduceEq, Int.reduceLT, Int.reduceLE, Int.reduceNe, forall_const, forall_eq', forall_eq, List.forall_mem_cons, List.not_mem_nil]
  refine withS_i hb0 ?_
  simp only [wf_preprocess, ↓reduceIte, Nat.reduceEqDiff, reduceCtorEq, Nat.reduceAdd, Nat.reduceMul, Nat.reduceLeDiff, Nat.reduceLT, Nat.reduceSub, Int.reduceToNat, Int.reduceNeg, Int.reduceAdd, Int.reduceSub, Int.reduceMul, Int.reduceEq, Int.reduceLT, Int.reduceLE, Int.reduceNe, forall_const, forall_eq', forall_eq, List.forall_mem_cons, List.not_mem_nil]
  refine call_i (letter_s ?_)
  cases hlt : letB b0
  · simp only [Bool.false_and, wf_preprocess, ↓reduceIte, Nat.reduceEqDiff, reduceCtorEq, Nat.reduceAdd, Nat.reduceMul, Nat.reduceLeDiff, Nat.reduceLT, Nat.reduceSub, Int.reduceToNat, Int.reduceNeg, Int.reduceAdd, Int.reduceSub, Int.reduceMul, Int.reduceEq, Int.reduceLT, Int.reduceLE, Int.reduceNe, forall_const, forall_eq', forall_eq, List.forall_mem_cons, List.not_mem_nil]
  simp only [Bool.true_and, wf_preprocess, ↓reduceIte, Nat.reduceEqDiff, reduceCtorEq, Nat.reduceAdd, Nat.reduceMul, Nat.reduceLeDiff, Nat.reduceLT, Nat.reduceSub, Int.reduceToNat, Int.reduceNeg, Int.reduceAdd, Int.reduceSub, Int.reduceMul, Int.reduceEq, Int.reduceLT, Int.reduceLE, Int.reduceNe, forall_const, forall_eq', forall_eq, List.forall_mem_cons, List.not_mem_nil]
  refine loop_i (fun kk ρ m' => ∃ (i : Nat), kk = s.size - i ∧ i ≤ s.size ∧ ρ 0 = .sc (.string s) ∧ ρ 19 = iv s.size ∧ ρ 20 = iv i ∧ (s.data.toList.take i).all chB = true) s.size ⟨0, rfl, by omega, ?_⟩ ?_
  · simp only [wf_preprocess, ↓reduceIte, Nat.reduceEqDiff, reduceCtorEq, Nat.reduceAdd, Nat.reduceMul, Nat.reduceLeDiff, Nat.reduceLT, Nat.reduceSub, Int.reduceToNat, Int.reduceNeg, Int.reduceAdd, Int.reduceSub, Int.reduceMul, Int.reduceEq, Int.reduceLT, Int.reduceLE, Int.reduceNe, forall_const, forall_eq', forall_eq, List.forall_mem_cons, List.not_mem_nil]
  rintro kk ρ m' ⟨i, rfl, hi, h0, h19, h20, ha⟩
  by_cases hin : (i : Int) < (s.size : Int)
  · obtain ⟨c, hc, hc2⟩ := byte_at (s := s) (i := i) (by omega)
    have w1 : IntKind.i64.wrap ((i : Int) + 1) = ((i + 1 : Nat) : Int) := wrap64 (by omega) (by omega)
    simp only [h0, h19, h20, hin, Int.natCast_nonneg, wf_preprocess, ↓reduceIte, Nat.reduceEqDiff, reduceCtorEq, Nat.reduceAdd, Nat.reduceMul, Nat.reduceLeDiff, Nat.reduceLT, Nat.reduceSub, Int.reduceToNat, Int.reduceNeg, Int.reduceAdd, Int.reduceSub, Int.reduceMul, Int.reduceEq, Int.reduceLT, Int.reduceLE, Int.reduceNe, forall_const, forall_eq', forall_eq, List.forall_mem_cons, List.not_mem_nil]
    refine withS_i hc ?_
    simp only [h0, h19, h20, wf_preprocess, ↓reduceIte, Nat.reduceEqDiff, reduceCtorEq, Nat.reduceAdd, Nat.reduceMul, Nat.reduceLeDiff, Nat.reduceLT, Nat.reduceSub, Int.reduceToNat, Int.reduceNeg, Int.reduceAdd, Int.reduceSub, Int.reduceMul, Int.reduceEq, Int.reduceLT, Int.reduceLE, Int.reduceNe, forall_const, forall_eq', forall_eq, List.forall_mem_cons, List.not_mem_nil]
    refine call_i (letter_s ?_)
    have fin : chB c = true → ∃ k', k' < s.size - i ∧ ∃ i', k' = s.size - i' ∧ i' ≤ s.size ∧ iv ((i + 1 : Nat) : Int) = iv i' ∧ (s.data.toList.take i').all chB = true := fun h =>
      ⟨s.size - (i + 1), by omega, i + 1, rfl, by omega, rfl, all_step hc2 ha h⟩
    cases hl2 : letB c
    · by_cases d1 : c.toNat = 95
      · have d1' : (c.toNat : Int) = 95 := by omega
        simp only [h0, h19, h20, d1', w1, wf_preprocess, ↓reduceIte, Nat.reduceEqDiff, reduceCtorEq, Nat.reduceAdd, Nat.reduceMul, Nat.reduceLeDiff, Nat.reduceLT, Nat.reduceSub, Int.reduceToNat, Int.reduceNeg, Int.reduceAdd, Int.reduceSub, Int.reduceMul, Int.reduceEq, Int.reduceLT, Int.reduceLE, Int.reduceNe, forall_const, forall_eq', forall_eq, List.forall_mem_cons, List.not_mem_nil]
        exact fin (by unfold chB; simp [d1])
      · have d1' : ¬ (c.toNat : Int) = 95 := by omega
        by_cases d2 : (c.toNat : Int) < 48
        · have : chB c = false := by unfold chB digB; rw [hl2]; simp [d1]; omega
          simp only [h0, h19, h20, d1', d2, all_bad hc2 this, wf_preprocess, ↓reduceIte, Nat.reduceEqDiff, reduceCtorEq, Nat.reduceAdd, Nat.reduceMul, Nat.reduceLeDiff, Nat.reduceLT, Nat.reduceSub, Int.reduceToNat, Int.reduceNeg, Int.reduceAdd, Int.reduceSub, Int.reduceMul, Int.reduceEq, Int.reduceLT, Int.reduceLE, Int.reduceNe, forall_const, forall_eq', forall_eq, List.forall_mem_cons, List.not_mem_nil]
        · by_cases d3 : (57 : Int) < (c.toNat : Int)
          · have : chB c = false := by unfold chB digB; rw [hl2]; simp [d1]; omega
            simp only [h0, h19, h20, d1', d2, d3, all_bad hc2 this, wf_preprocess, ↓reduceIte, Nat.reduceEqDiff, reduceCtorEq, Nat.reduceAdd, Nat.reduceMul, Nat.reduceLeDiff, Nat.reduceLT, Nat.reduceSub, Int.reduceToNat, Int.reduceNeg, Int.reduceAdd, Int.reduceSub, Int.reduceMul, Int.reduceEq, Int.reduceLT, Int.reduceLE, Int.reduceNe, forall_const, forall_eq', forall_eq, List.forall_mem_cons, List.not_mem_nil]
          · simp only [h0, h19, h20, d1', d2, d3, w1, wf_preprocess, ↓reduceIte, Nat.reduceEqDiff, reduceCtorEq, Nat.reduceAdd, Nat.reduceMul, Nat.reduceLeDiff, Nat.reduceLT, Nat.reduceSub, Int.reduceToNat, Int.reduceNeg, Int.reduceAdd, Int.reduceSub, Int.reduceMul, Int.reduceEq, Int.reduceLT, Int.reduceLE, Int.reduceNe, forall_const, forall_eq', forall_eq, List.forall_mem_cons, List.not_mem_nil]
            exact fin (by unfold chB digB; simp [hl2]; omega)
    · simp only [h0, h19, h20, w1, wf_preprocess, ↓reduceIte, Nat.reduceEqDiff, reduceCtorEq, Nat.reduceAdd, Nat.reduceMul, Nat.reduceLeDiff, Nat.reduceLT, Nat.reduceSub, Int.reduceToNat, Int.reduceNeg, Int.reduceAdd, Int.reduceSub, Int.reduceMul, Int.reduceEq, Int.reduceLT, Int.reduceLE, Int.reduceNe, forall_const, forall_eq', forall_eq, List.forall_mem_cons, List.not_mem_nil]
      exact fin (by unfold chB; simp [hl2])
  · have e : (s.data.toList.take i) = s.data.toList := List.take_of_length_le (by rw [size_list]; omega)
    rw [e] at ha
    simp only [h0, h19, h20, hin, ha, wf_preprocess, ↓reduceIte, Nat.reduceEqDiff, reduceCtorEq, Nat.reduceAdd, Nat.reduceMul, Nat.reduceLeDiff, Nat.reduceLT, Nat.reduceSub, Int.reduceToNat, Int.reduceNeg, Int.reduceAdd, Int.reduceSub, Int.reduceMul, Int.reduceEq, Int.reduceLT, Int.reduceLE, Int.reduceNe, forall_const, forall_eq', forall_eq, List.forall_mem_cons, List.not_mem_nil]
theorem rtName_s (k : Q (bo (nmB s)) m) : ACall Try.prog 39 [.sc (.string s)] m Q E := by
  refine pureR ?_ k
  refine acall_fn mixed Try.func39 Try.call39 e39 r39 (Nat.le_of_ble_eq_true rfl) ?_
  by_cases c0 : s.size = 0
  · have e : nmB s = false := by unfold nmB; rw [decide_eq_false (by omega)]; rfl
    have c0' : (s.size : Int) < 1 := by omega
    simp only [n39, c0', e, wf_preprocess, ↓reduceIte, Nat.reduceEqDiff, reduceCtorEq, Nat.reduceAdd, Nat.reduceMul, Nat.reduceLeDiff, Nat.reduceLT, Nat.reduceSub, Int.reduceToNat, Int.reduceNeg, Int.reduceAdd, Int.reduceSub, Int.reduceMul, Int.reduceEq, Int.reduceLT, Int.reduceLE, Int.reduceNe, forall_const, forall_eq', forall_eq, List.forall_mem_cons, List.not_mem_nil]
  have c0' : ¬ (s.size : Int) < 1 := by omega
  by_cases c1 : 12 < s.size
  · have c1' : (12 : Int) < (s.size : Int) := by omega
    have e : nmB s = false := by unfold nmB; rw [decide_eq_false (by omega)]; rfl
    simp only [n39, c0', c1', e, wf_preprocess, ↓reduceIte, Nat.reduceEqDiff, reduceCtorEq, Nat.reduceAdd, Nat.reduceMul, Nat.reduceLeDiff, Nat.reduceLT, Nat.reduceSub, Int.reduceToNat, Int.reduceNeg, Int.reduceAdd, Int.reduceSub, Int.reduceMul, Int.reduceEq, Int.reduceLT, Int.reduceLE, Int.reduceNe, forall_const, forall_eq', forall_eq, List.forall_mem_cons, List.not_mem_nil]
  have c1' : ¬ (12 : Int) < (s.size : Int) := by omega
  obtain ⟨b0, hb0, hb1⟩ := byte_at (s := s) (i := 0) (by omega)
  have en : nmB s = (letB b0 && s.data.toList.all chB) := by unfold nmB; rw [decide_eq_true (by omega), head_at hb1]; rfl
  rw [en]
  simp only [n39, c0', c1', Int.toNat_zero, wf_preprocess, ↓reduceIte, Nat.reduceEqDiff, reduceCtorEq, Nat.reduceAdd, Nat.reduceMul, Nat.reduceLeDiff, Nat.reduceLT, Nat.reduceSub, Int.reduceToNat, Int.reduceNeg, Int.reduceAdd, Int.reduceSub, Int.reduceMul, Int.reduceEq, Int.reduceLT, Int.reduceLE, Int.reduceNe, forall_const, forall_eq', forall_eq, List.forall_mem_cons, List.not_mem_nil]
  refine withS_i hb0 ?_
  simp only [wf_preprocess, ↓reduceIte, Nat.reduceEqDiff, reduceCtorEq, Nat.reduceAdd, Nat.reduceMul, Nat.reduceLeDiff, Nat.reduceLT, Nat.reduceSub, Int.reduceToNat, Int.reduceNeg, Int.reduceAdd, Int.reduceSub, Int.reduceMul, Int.reduceEq, Int.reduceLT, Int.reduceLE, Int.reduceNe, forall_const, forall_eq', forall_eq, List.forall_mem_cons, List.not_mem_nil]
  refine call_i (rletter_s ?_)
  cases hlt : letB b0
  · simp only [Bool.false_and, wf_preprocess, ↓reduceIte, Nat.reduceEqDiff, reduceCtorEq, Nat.reduceAdd, Nat.reduceMul, Nat.reduceLeDiff, Nat.reduceLT, Nat.reduceSub, Int.reduceToNat, Int.reduceNeg, Int.reduceAdd, Int.reduceSub, Int.reduceMul, Int.reduceEq, Int.reduceLT, Int.reduceLE, Int.reduceNe, forall_const, forall_eq', forall_eq, List.forall_mem_cons, List.not_mem_nil]
  simp only [Bool.true_and, wf_preprocess, ↓reduceIte, Nat.reduceEqDiff, reduceCtorEq, Nat.reduceAdd, Nat.reduceMul, Nat.reduceLeDiff, Nat.reduceLT, Nat.reduceSub, Int.reduceToNat, Int.reduceNeg, Int.reduceAdd, Int.reduceSub, Int.reduceMul, Int.reduceEq, Int.reduceLT, Int.reduceLE, Int.reduceNe, forall_const, forall_eq', forall_eq, List.forall_mem_cons, List.not_mem_nil]
  refine loop_i (fun kk ρ m' => ∃ (i : Nat), kk = s.size - i ∧ 1 ≤ i ∧ i ≤ s.size ∧ ρ 0 = .sc (.string s) ∧ ρ 3 = iv i ∧ (s.data.toList.take i).all chB = true) (s.size - 1) ⟨1, rfl, by omega, by omega, ?_⟩ ?_
  · have : (s.data.toList.take 1).all chB = true := all_step (i := 0) hb1 rfl (by unfold chB; simp [hlt])
    simp only [this, wf_preprocess, ↓reduceIte, Nat.reduceEqDiff, reduceCtorEq, Nat.reduceAdd, Nat.reduceMul, Nat.reduceLeDiff, Nat.reduceLT, Nat.reduceSub, Int.reduceToNat, Int.reduceNeg, Int.reduceAdd, Int.reduceSub, Int.reduceMul, Int.reduceEq, Int.reduceLT, Int.reduceLE, Int.reduceNe, forall_const, forall_eq', forall_eq, List.forall_mem_cons, List.not_mem_nil]
    try rfl
  rintro kk ρ m' ⟨i, rfl, hi1, hi, h0, h3, ha⟩
  by_cases hin : (i : Int) < (s.size : Int)
  · obtain ⟨c, hc, hc2⟩ := byte_at (s := s) (i := i) (by omega)
    have w1 : IntKind.i64.wrap ((i : Int) + 1) = ((i + 1 : Nat) : Int) := wrap64 (by omega) (by omega)
    simp only [h0, h3, hin, Int.natCast_nonneg, wf_preprocess, ↓reduceIte, Nat.reduceEqDiff, reduceCtorEq, Nat.reduceAdd, Nat.reduceMul, Nat.reduceLeDiff, Nat.reduceLT, Nat.reduceSub, Int.reduceToNat, Int.reduceNeg, Int.reduceAdd, Int.reduceSub, Int.reduceMul, Int.reduceEq, Int.reduceLT, Int.reduceLE, Int.reduceNe, forall_const, forall_eq', forall_eq, List.forall_mem_cons, List.not_mem_nil]
    refine withS_i hc ?_
    simp only [h0, h3, wf_preprocess, ↓reduceIte, Nat.reduceEqDiff, reduceCtorEq, Nat.reduceAdd, Nat.reduceMul, Nat.reduceLeDiff, Nat.reduceLT, Nat.reduceSub, Int.reduceToNat, Int.reduceNeg, Int.reduceAdd, Int.reduceSub, Int.reduceMul, Int.reduceEq, Int.reduceLT, Int.reduceLE, Int.reduceNe, forall_const, forall_eq', forall_eq, List.forall_mem_cons, List.not_mem_nil]
    refine call_i (rletter_s ?_)
    have fin : chB c = true → ∃ k', k' < s.size - i ∧ ∃ i', k' = s.size - i' ∧ 1 ≤ i' ∧ i' ≤ s.size ∧ iv ((i + 1 : Nat) : Int) = iv i' ∧ (s.data.toList.take i').all chB = true := fun h =>
      ⟨s.size - (i + 1), by omega, i + 1, rfl, by omega, by omega, rfl, all_step hc2 ha h⟩
    cases hl2 : letB c
    · simp only [h0, h3, Int.natCast_nonneg, wf_preprocess, ↓reduceIte, Nat.reduceEqDiff, reduceCtorEq, Nat.reduceAdd, Nat.reduceMul, Nat.reduceLeDiff, Nat.reduceLT, Nat.reduceSub, Int.reduceToNat, Int.reduceNeg, Int.reduceAdd, Int.reduceSub, Int.reduceMul, Int.reduceEq, Int.reduceLT, Int.reduceLE, Int.reduceNe, forall_const, forall_eq', forall_eq, List.forall_mem_cons, List.not_mem_nil]
      refine withS_i hc ?_
      simp only [h0, h3, wf_preprocess, ↓reduceIte, Nat.reduceEqDiff, reduceCtorEq, Nat.reduceAdd, Nat.reduceMul, Nat.reduceLeDiff, Nat.reduceLT, Nat.reduceSub, Int.reduceToNat, Int.reduceNeg, Int.reduceAdd, Int.reduceSub, Int.reduceMul, Int.reduceEq, Int.reduceLT, Int.reduceLE, Int.reduceNe, forall_const, forall_eq', forall_eq, List.forall_mem_cons, List.not_mem_nil]
      refine call_i (rdigit_s ?_)
      cases hd2 : digB c
      · simp only [h0, h3, Int.natCast_nonneg, wf_preprocess, ↓reduceIte, Nat.reduceEqDiff, reduceCtorEq, Nat.reduceAdd, Nat.reduceMul, Nat.reduceLeDiff, Nat.reduceLT, Nat.reduceSub, Int.reduceToNat, Int.reduceNeg, Int.reduceAdd, Int.reduceSub, Int.reduceMul, Int.reduceEq, Int.reduceLT, Int.reduceLE, Int.reduceNe, forall_const, forall_eq', forall_eq, List.forall_mem_cons, List.not_mem_nil]
        refine withS_i hc ?_
        by_cases d1 : c.toNat = 95
        · have d1' : (c.toNat : Int) = 95 := by omega
          simp only [h0, h3, d1', w1, wf_preprocess, ↓reduceIte, Nat.reduceEqDiff, reduceCtorEq, Nat.reduceAdd, Nat.reduceMul, Nat.reduceLeDiff, Nat.reduceLT, Nat.reduceSub, Int.reduceToNat, Int.reduceNeg, Int.reduceAdd, Int.reduceSub, Int.reduceMul, Int.reduceEq, Int.reduceLT, Int.reduceLE, Int.reduceNe, forall_const, forall_eq', forall_eq, List.forall_mem_cons, List.not_mem_nil]
          exact fin (by unfold chB; simp [d1])
        · have d1' : ¬ (c.toNat : Int) = 95 := by omega
          have : chB c = false := by unfold chB; rw [hl2, hd2]; simp [d1]
          simp only [h0, h3, d1', all_bad hc2 this, wf_preprocess, ↓reduceIte, Nat.reduceEqDiff, reduceCtorEq, Nat.reduceAdd, Nat.reduceMul, Nat.reduceLeDiff, Nat.reduceLT, Nat.reduceSub, Int.reduceToNat, Int.reduceNeg, Int.reduceAdd, Int.reduceSub, Int.reduceMul, Int.reduceEq, Int.reduceLT, Int.reduceLE, Int.reduceNe, forall_const, forall_eq', forall_eq, List.forall_mem_cons, List.not_mem_nil]
      · simp only [h0, h3, w1, wf_preprocess, ↓reduceIte, Nat.reduceEqDiff, reduceCtorEq, Nat.reduceAdd, Nat.reduceMul, Nat.reduceLeDiff, Nat.reduceLT, Nat.reduceSub, Int.reduceToNat, Int.reduceNeg, Int.reduceAdd, Int.reduceSub, Int.reduceMul, Int.reduceEq, Int.reduceLT, Int.reduceLE, Int.reduceNe, forall_const, forall_eq', forall_eq, List.forall_mem_cons, List.not_mem_nil]
        exact fin (by unfold chB; simp [hd2])
    · simp only [h0, h3, w1, wf_preprocess, ↓reduceIte, Nat.reduceEqDiff, reduceCtorEq, Nat.reduceAdd, Nat.reduceMul, Nat.reduceLeDiff, Nat.reduceLT, Nat.reduceSub, Int.reduceToNat, Int.reduceNeg, Int.reduceAdd, Int.reduceSub, Int.reduceMul, Int.reduceEq, Int.reduceLT, Int.reduceLE, Int.reduceNe, forall_const, forall_eq', forall_eq, List.forall_mem_cons, List.not_mem_nil]
      exact fin (by unfold chB; simp [hl2])
  · have e : (s.data.toList.take i) = s.data.toList := List.take_of_length_le (by rw [size_list]; omega)
    rw [e] at ha
    simp only [h0, h3, hin, ha, wf_preprocess, ↓reduceIte, Nat.reduceEqDiff, reduceCtorEq, Nat.reduceAdd, Nat.reduceMul, Nat.reduceLeDiff, Nat.reduceLT, Nat.reduceSub, Int.reduceToNat, Int.reduceNeg, Int.reduceAdd, Int.reduceSub, Int.reduceMul, Int.reduceEq, Int.reduceLT, Int.reduceLE, Int.reduceNe, forall_const, forall_eq', forall_eq, List.forall_mem_cons, List.not_mem_nil]
end
end Go.Proofs.Ytceahampebofbaa.Moi.Tree
