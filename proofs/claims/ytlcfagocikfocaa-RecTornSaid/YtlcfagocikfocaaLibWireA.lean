/- What functions of this program do, on plain values: a part of the proofs of this seat's laws; each theorem bears its own conditions. -/
import Derived.Test.YtlcfagocikfocaaSset
set_option linter.unusedVariables false
set_option linter.unusedSimpArgs false
set_option maxRecDepth 1000000
namespace Go.Proofs.Ytlcfagocikfocaa.Moi.Wire
open Go Go.RowKit Go.Proofs.Ytlcfagocikfocaa.Moi
attribute [-wf_preprocess] ite_eq_dite forIn_eq_forIn'



/-- A number as bytes. -/
def enc (u : Nat) : List Int := if h : u < 128 then [(u : Int)] else ((u % 128 + 128 : Nat) : Int) :: enc (u / 128)
decreasing_by omega
/-- The number that stands for a whole number. -/
def zig (n : Int) : Nat := if 0 ≤ n then (2 * n).toNat else (-2 * n - 1).toNat

theorem enc_lt {u : Nat} (h : u < 128) : enc u = [(u : Int)] := by rw [enc, dif_pos h]
theorem enc_ge {u : Nat} (h : ¬ u < 128) : enc u = ((u % 128 + 128 : Nat) : Int) :: enc (u / 128) := by rw [enc, dif_neg h]
theorem enc_len {k : Nat} : ∀ {u : Nat}, u < 128 ^ (k + 1) → (enc u).length ≤ k + 1 := by
  induction k with
  | zero => intro u h; rw [enc_lt (by simpa using h)]; simp
  | succ k ih =>
    intro u h
    by_cases hu : u < 128
    · rw [enc_lt hu]; simp
    · rw [enc_ge hu]
      have : u / 128 < 128 ^ (k + 1) := Nat.div_lt_of_lt_mul (by rw [Nat.pow_succ] at h; omega)
      have := ih this
      simp only [List.length_cons]; omega
theorem zig_lt {n : Int} (h1 : -9223372036854775808 ≤ n) (h2 : n ≤ 9223372036854775807) : zig n < 18446744073709551616 := by
  unfold zig; split <;> omega
theorem enc_zig {n : Int} (h1 : -9223372036854775808 ≤ n) (h2 : n ≤ 9223372036854775807) : (enc (zig n)).length ≤ 10 := enc_len (k := 9) (Nat.lt_of_lt_of_le (zig_lt h1 h2) (by decide))

theorem or128 {a : Int} (h0 : 0 ≤ a) (h1 : a < 256) : IntKind.u8.wrap ((BitVec.ofInt IntKind.u8.bits a ||| BitVec.ofInt IntKind.u8.bits 128).toNat) = a % 128 + 128 := by
  have key : ∀ x : _root_.Fin 256, IntKind.u8.wrap ((BitVec.ofInt IntKind.u8.bits (x.val : Int) ||| BitVec.ofInt IntKind.u8.bits 128).toNat) = (x.val : Int) % 128 + 128 := by decide +kernel
  have := key ⟨a.toNat, by omega⟩
  simpa [Int.toNat_of_nonneg h0] using this
theorem wrap_u8 {a : Int} : IntKind.u8.wrap a = a % 256 := by
  simp [IntKind.wrap, IntKind.signed, IntKind.bits]
theorem wrap_u64 {a : Int} : IntKind.u64.wrap a = a % 18446744073709551616 := by
  simp [IntKind.wrap, IntKind.signed, IntKind.bits]

theorem zig_wire {n : Int} (h1 : -9223372036854775808 ≤ n) (h2 : n ≤ 9223372036854775807) :
    IntKind.u64.wrap ((BitVec.ofInt IntKind.u64.bits (IntKind.u64.wrap (IntKind.i64.wrap (n * 2))) ^^^ BitVec.ofInt IntKind.u64.bits (IntKind.u64.wrap (n.fdiv 9223372036854775808))).toNat) = (zig n : Int) := by
  have e1 : IntKind.u64.wrap (IntKind.i64.wrap (n * 2)) = (n * 2) % 18446744073709551616 := by
    have e : IntKind.i64.wrap (n * 2) = if (n * 2) % 18446744073709551616 ≥ 9223372036854775808 then (n * 2) % 18446744073709551616 - 18446744073709551616 else (n * 2) % 18446744073709551616 := by
      show (if (true && decide ((n * 2) % 18446744073709551616 ≥ 9223372036854775808)) = true then _ else _) = _
      simp only [Bool.true_and, decide_eq_true_eq]
      rfl
    rw [wrap_u64, e]
    split <;> omega
  rw [e1]
  have hb : IntKind.u64.bits = 64 := rfl
  rw [hb]
  have z0 : BitVec.ofInt 64 0 = 0#64 := by decide
  have z1 : BitVec.ofInt 64 18446744073709551615 = BitVec.allOnes 64 := by decide
  unfold zig
  by_cases hn : 0 ≤ n
  · have hd : n.fdiv 9223372036854775808 = 0 := by
      rw [Int.fdiv_eq_ediv_of_nonneg _ (by omega)]; omega
    rw [hd, show IntKind.u64.wrap 0 = 0 from by rw [wrap_u64]; rfl, z0, BitVec.xor_zero, BitVec.toNat_ofInt, wrap_u64, if_pos hn]
    omega
  · have hd : n.fdiv 9223372036854775808 = -1 := by
      rw [Int.fdiv_eq_ediv_of_nonneg _ (by omega)]; omega
    rw [hd, show IntKind.u64.wrap (-1) = 18446744073709551615 from by rw [wrap_u64]; rfl, z1, BitVec.xor_allOnes, BitVec.toNat_not, BitVec.toNat_ofInt, wrap_u64, if_neg hn]
    omega

theorem put_s {l : List Int} {v : AV} {n : Int} {m1 r : Heap} {Q E : AV → Heap → Prop} (hb : Buf .u8 l v m1) (hl : l.length ≤ 70368744177664) (hd : ∀ i ∈ keys m1, i ∉ keys r) (h1 : -9223372036854775808 ≤ n) (h2 : n ≤ 9223372036854775807)
    (h : ∀ v' m1', Buf .u8 (l ++ enc (zig n)) v' m1' → (∀ i ∈ keys m1', i ∉ keys r) → Q v' (m1' ++ r)) : ACall Try.prog 30 [v, iv n] (m1 ++ r) Q E := by
  refine acall_fn mixed Try.func30 Try.call30 e30 r30 (Nat.le_of_ble_eq_true rfl) ?_
  simp only [n30, wf_preprocess, ↓reduceIte, Nat.reduceEqDiff, reduceCtorEq, Nat.reduceAdd, Nat.reduceMul, Nat.reduceLeDiff, Nat.reduceLT, Nat.reduceSub, Int.reduceToNat, Int.reduceNeg, Int.reduceAdd, Int.reduceSub, Int.reduceMul, Int.reduceEq, Int.reduceLT, Int.reduceLE, Int.reduceNe, forall_const, forall_eq', forall_eq, List.forall_mem_cons, List.not_mem_nil]
  have hz := zig_wire h1 h2
  refine loop_i (fun k ρ m' => ∃ (u : Nat) (l' : List Int) (v' : AV) (m1' : Heap), k = u ∧ ρ 0 = v' ∧ ρ 5 = .sc (.int .u64 u) ∧ Buf .u8 l' v' m1' ∧ (∀ i ∈ keys m1', i ∉ keys r) ∧ l' ++ enc u = l ++ enc (zig n) ∧ u < 18446744073709551616 ∧ l'.length + (enc u).length ≤ 70368744177764 ∧ m' = m1' ++ r) (zig n)
    ⟨zig n, l, v, m1, rfl, ?_⟩ ?_
  · have hp : (2 : Int) ^ min 1 IntKind.i64.bits = 2 := rfl
    have hq : (2 : Int) ^ min 63 IntKind.i64.bits = 9223372036854775808 := rfl
    have := enc_zig h1 h2
    simp only [hp, hq, hz, wf_preprocess, ↓reduceIte, Nat.reduceEqDiff, reduceCtorEq, Nat.reduceAdd, Nat.reduceMul, Nat.reduceLeDiff, Nat.reduceLT, Nat.reduceSub, Int.reduceToNat, Int.reduceNeg, Int.reduceAdd, Int.reduceSub, Int.reduceMul, Int.reduceEq, Int.reduceLT, Int.reduceLE, Int.reduceNe, forall_const, forall_eq', forall_eq, List.forall_mem_cons, List.not_mem_nil]
    exact ⟨hb, hd, zig_lt h1 h2, by omega⟩
  rintro k ρ m' ⟨u, l', v', m1', rfl, h0, h5, hb', hd', hl', hu, hlen, rfl⟩
  have e1 : IntKind.u8.wrap (k : Int) = (k : Int) % 256 := wrap_u8
  by_cases hc : (128 : Int) ≤ (k : Int)
  · have e2 := or128 (a := (k : Int) % 256) (by omega) (by omega)
    have e3 : (k : Int) % 256 % 128 + 128 = ((k % 128 + 128 : Nat) : Int) := by omega
    rw [enc_ge (by omega)] at hl' hlen
    simp only [List.length_cons] at hlen
    simp only [h0, h5, hc, e1, e2, e3, wf_preprocess, ↓reduceIte, Nat.reduceEqDiff, reduceCtorEq, Nat.reduceAdd, Nat.reduceMul, Nat.reduceLeDiff, Nat.reduceLT, Nat.reduceSub, Int.reduceToNat, Int.reduceNeg, Int.reduceAdd, Int.reduceSub, Int.reduceMul, Int.reduceEq, Int.reduceLT, Int.reduceLE, Int.reduceNe, forall_const, forall_eq', forall_eq, List.forall_mem_cons, List.not_mem_nil]
    refine app_buf hb' (l2 := [((k % 128 + 128 : Nat) : Int)]) rfl (by simp; omega) (by simp [maxLen_e]; omega) fun v2 m2 hb2 hd2 => ?_
    have hp : (2 : Int) ^ min 7 IntKind.u64.bits = 128 := rfl
    have e4 : (k : Int).fdiv 128 = ((k / 128 : Nat) : Int) := by rw [Int.fdiv_eq_ediv_of_nonneg _ (by omega)]; omega
    simp only [h0, h5, hp, e4, wf_preprocess, ↓reduceIte, Nat.reduceEqDiff, reduceCtorEq, Nat.reduceAdd, Nat.reduceMul, Nat.reduceLeDiff, Nat.reduceLT, Nat.reduceSub, Int.reduceToNat, Int.reduceNeg, Int.reduceAdd, Int.reduceSub, Int.reduceMul, Int.reduceEq, Int.reduceLT, Int.reduceLE, Int.reduceNe, forall_const, forall_eq', forall_eq, List.forall_mem_cons, List.not_mem_nil]
    exact ⟨k / 128, by omega, k / 128, _, v2, m2, rfl, rfl, rfl, hb2, hd2, by rw [← hl']; simp, by omega, by simp; omega, rfl⟩
  · have e3 : (k : Int) % 256 = (k : Int) := by omega
    rw [enc_lt (by omega)] at hl' hlen
    simp only [List.length_cons, List.length_nil] at hlen
    simp only [h0, h5, hc, e1, e3, wf_preprocess, ↓reduceIte, Nat.reduceEqDiff, reduceCtorEq, Nat.reduceAdd, Nat.reduceMul, Nat.reduceLeDiff, Nat.reduceLT, Nat.reduceSub, Int.reduceToNat, Int.reduceNeg, Int.reduceAdd, Int.reduceSub, Int.reduceMul, Int.reduceEq, Int.reduceLT, Int.reduceLE, Int.reduceNe, forall_const, forall_eq', forall_eq, List.forall_mem_cons, List.not_mem_nil]
    refine app_buf hb' (l2 := [(k : Int)]) rfl (by simp; omega) (by simp [maxLen_e]; omega) fun v2 m2 hb2 hd2 => ?_
    simp only [wf_preprocess, ↓reduceIte, Nat.reduceEqDiff, reduceCtorEq, Nat.reduceAdd, Nat.reduceMul, Nat.reduceLeDiff, Nat.reduceLT, Nat.reduceSub, Int.reduceToNat, Int.reduceNeg, Int.reduceAdd, Int.reduceSub, Int.reduceMul, Int.reduceEq, Int.reduceLT, Int.reduceLE, Int.reduceNe, forall_const, forall_eq', forall_eq, List.forall_mem_cons, List.not_mem_nil]
    exact h v2 m2 (by rw [← hl']; exact hb2) hd2

/-- A copy of bytes of any kind. -/
theorem clone_b {l : List Int} {y : AV} {m : Heap} {Q E : AV → Heap → Prop} (hy : aelems none y m = some (bl l)) (ho : (∃ es o, y = .lst es o ∧ (o = .nil → es = [])) ∨ ∃ i o n c, y = .mref i o n c) (hl : l.length ≤ 70368744177664)
    (h : ∀ v m1, Buf .u8 l v m1 → (∀ i ∈ keys m1, i ∉ keys m) → Q v (m1 ++ m)) : ACall Try.prog 28 [y] m Q E := by
  refine acall_fn mixed Try.func28 Try.call28 e28 r28 (Nat.le_of_ble_eq_true rfl) ?_
  simp only [n28, wf_preprocess, ↓reduceIte, Nat.reduceEqDiff, reduceCtorEq, Nat.reduceAdd, Nat.reduceMul, Nat.reduceLeDiff, Nat.reduceLT, Nat.reduceSub, Int.reduceToNat, Int.reduceNeg, Int.reduceAdd, Int.reduceSub, Int.reduceMul, Int.reduceEq, Int.reduceLT, Int.reduceLE, Int.reduceNe, forall_const, forall_eq', forall_eq, List.forall_mem_cons, List.not_mem_nil]
  refine nil_g ho (fun ⟨o, e⟩ => ?_) ?_
  · subst e
    have hl0 : l = [] := by
      have := Option.some.inj hy
      exact (List.map_eq_nil_iff.1 this.symm)
    simp only [wf_preprocess, ↓reduceIte, Nat.reduceEqDiff, reduceCtorEq, Nat.reduceAdd, Nat.reduceMul, Nat.reduceLeDiff, Nat.reduceLT, Nat.reduceSub, Int.reduceToNat, Int.reduceNeg, Int.reduceAdd, Int.reduceSub, Int.reduceMul, Int.reduceEq, Int.reduceLT, Int.reduceLE, Int.reduceNe, forall_const, forall_eq', forall_eq, List.forall_mem_cons, List.not_mem_nil]
    exact h _ [] (by rw [hl0]; exact .nil) (by simp [keys])
  · simp only [wf_preprocess, ↓reduceIte, Nat.reduceEqDiff, reduceCtorEq, Nat.reduceAdd, Nat.reduceMul, Nat.reduceLeDiff, Nat.reduceLT, Nat.reduceSub, Int.reduceToNat, Int.reduceNeg, Int.reduceAdd, Int.reduceSub, Int.reduceMul, Int.reduceEq, Int.reduceLT, Int.reduceLE, Int.reduceNe, forall_const, forall_eq', forall_eq, List.forall_mem_cons, List.not_mem_nil]
    refine app_buf (m1 := []) (r := m) Buf.full hy (by simp; omega) (by simp [maxLen_e]; omega) fun v m1 hb hd => ?_
    simp only [wf_preprocess, ↓reduceIte, Nat.reduceEqDiff, reduceCtorEq, Nat.reduceAdd, Nat.reduceMul, Nat.reduceLeDiff, Nat.reduceLT, Nat.reduceSub, Int.reduceToNat, Int.reduceNeg, Int.reduceAdd, Int.reduceSub, Int.reduceMul, Int.reduceEq, Int.reduceLT, Int.reduceLE, Int.reduceNe, forall_const, forall_eq', forall_eq, List.forall_mem_cons, List.not_mem_nil]
    exact h v m1 hb hd

/-- A copy that is not written. -/
theorem clone_f {l : List Int} {y : AV} {m : Heap} {Q E : AV → Heap → Prop} (hy : aelems none y m = some (bl l)) (ho : (∃ es o, y = .lst es o ∧ (o = .nil → es = [])) ∨ ∃ i o n c, y = .mref i o n c) (hl : l.length ≤ 140737488355328)
    (h : ∀ o, (o = .nil → l = []) → Q (.lst (bl l) o) m) : ACall Try.prog 28 [y] m Q E := by
  refine ACall.ent (acall_fn mixed Try.func28 Try.call28 e28f r28f (Nat.le_of_ble_eq_true rfl) ?_)
  simp only [n28f, wf_preprocess, ↓reduceIte, Nat.reduceEqDiff, reduceCtorEq, Nat.reduceAdd, Nat.reduceMul, Nat.reduceLeDiff, Nat.reduceLT, Nat.reduceSub, Int.reduceToNat, Int.reduceNeg, Int.reduceAdd, Int.reduceSub, Int.reduceMul, Int.reduceEq, Int.reduceLT, Int.reduceLE, Int.reduceNe, forall_const, forall_eq', forall_eq, List.forall_mem_cons, List.not_mem_nil]
  refine nil_g ho (fun ⟨o, e⟩ => ?_) ?_
  · subst e
    have hl0 : l = [] := by
      have := Option.some.inj hy
      exact (List.map_eq_nil_iff.1 this.symm)
    simp only [wf_preprocess, ↓reduceIte, Nat.reduceEqDiff, reduceCtorEq, Nat.reduceAdd, Nat.reduceMul, Nat.reduceLeDiff, Nat.reduceLT, Nat.reduceSub, Int.reduceToNat, Int.reduceNeg, Int.reduceAdd, Int.reduceSub, Int.reduceMul, Int.reduceEq, Int.reduceLT, Int.reduceLE, Int.reduceNe, forall_const, forall_eq', forall_eq, List.forall_mem_cons, List.not_mem_nil]
    subst hl0
    exact .now (h .nil fun _ => rfl)
  · simp only [wf_preprocess, ↓reduceIte, Nat.reduceEqDiff, reduceCtorEq, Nat.reduceAdd, Nat.reduceMul, Nat.reduceLeDiff, Nat.reduceLT, Nat.reduceSub, Int.reduceToNat, Int.reduceNeg, Int.reduceAdd, Int.reduceSub, Int.reduceMul, Int.reduceEq, Int.reduceLT, Int.reduceLE, Int.reduceNe, forall_const, forall_eq', forall_eq, List.forall_mem_cons, List.not_mem_nil]
    refine app_g (m1 := []) (r := m) App.full hy (sized_ints l) (fun e he => by simp at he) (by simp; omega) (by simp [maxLen_e]; omega) (by simp [keys]) fun o m1 ha hd => ?_
    simp only [wf_preprocess, ↓reduceIte, Nat.reduceEqDiff, reduceCtorEq, Nat.reduceAdd, Nat.reduceMul, Nat.reduceLeDiff, Nat.reduceLT, Nat.reduceSub, Int.reduceToNat, Int.reduceNeg, Int.reduceAdd, Int.reduceSub, Int.reduceMul, Int.reduceEq, Int.reduceLT, Int.reduceLE, Int.reduceNe, forall_const, forall_eq', forall_eq, List.forall_mem_cons, List.not_mem_nil]
    refine Ent.drop (.refl _) (.now (h o fun e => ?_))
    exact List.map_eq_nil_iff.1 (ha.nilE e)

end Go.Proofs.Ytlcfagocikfocaa.Moi.Wire
