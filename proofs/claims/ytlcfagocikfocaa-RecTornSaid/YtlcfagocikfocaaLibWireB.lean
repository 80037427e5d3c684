/- What functions of this program do, on plain values: a part of the proofs of this seat's laws; each theorem bears its own conditions. -/
import Derived.Test.YtlcfagocikfocaaLibWireA
set_option linter.unusedVariables false
set_option linter.unusedSimpArgs false
set_option maxRecDepth 1000000
namespace Go.Proofs.Ytlcfagocikfocaa.Moi.Wire
open Go Go.RowKit Go.Proofs.Ytlcfagocikfocaa.Moi
attribute [-wf_preprocess] ite_eq_dite forIn_eq_forIn'

/-- What lies in a reader. -/
abbrev RO (l : List Int) (o : Own) (w : Int) : AObj := .cells [.lst (bl l) o, iv w]

theorem why_s {q : Nat} {l : List Int} {o : Own} {w : Int} {m : Heap} {Q E : AV → Heap → Prop} (hg : get q m = some (RO l o w)) (h : Q (iv w) m) : ACall Try.prog 26 [.ptr q 0] m Q E := by
  refine acall_fn mixed Try.func26 Try.call26 e26 r26 (Nat.le_of_ble_eq_true rfl) ?_
  simp only [n26, hg, wf_preprocess, ↓reduceIte, Nat.reduceEqDiff, reduceCtorEq, Nat.reduceAdd, Nat.reduceMul, Nat.reduceLeDiff, Nat.reduceLT, Nat.reduceSub, Int.reduceToNat, Int.reduceNeg, Int.reduceAdd, Int.reduceSub, Int.reduceMul, Int.reduceEq, Int.reduceLT, Int.reduceLE, Int.reduceNe, forall_const, forall_eq', forall_eq, List.forall_mem_cons, List.not_mem_nil]
  exact h
theorem why_nil {m : Heap} {Q E : AV → Heap → Prop} (h : Q (iv 1) m) : ACall Try.prog 26 [.sc (.pointer none)] m Q E := by
  refine acall_fn mixed Try.func26 Try.call26 e26 r26 (Nat.le_of_ble_eq_true rfl) ?_
  simp only [n26, wf_preprocess, ↓reduceIte, Nat.reduceEqDiff, reduceCtorEq, Nat.reduceAdd, Nat.reduceMul, Nat.reduceLeDiff, Nat.reduceLT, Nat.reduceSub, Int.reduceToNat, Int.reduceNeg, Int.reduceAdd, Int.reduceSub, Int.reduceMul, Int.reduceEq, Int.reduceLT, Int.reduceLE, Int.reduceNe, forall_const, forall_eq', forall_eq, List.forall_mem_cons, List.not_mem_nil]
  exact h
theorem left_s {q : Nat} {l : List Int} {o : Own} {w : Int} {m : Heap} {Q E : AV → Heap → Prop} (hg : get q m = some (RO l o w)) (h : Q (iv l.length) m) : ACall Try.prog 24 [.ptr q 0] m Q E := by
  refine acall_fn mixed Try.func24 Try.call24 e24 r24 (Nat.le_of_ble_eq_true rfl) ?_
  simp only [n24, hg, kl_len, wf_preprocess, ↓reduceIte, Nat.reduceEqDiff, reduceCtorEq, Nat.reduceAdd, Nat.reduceMul, Nat.reduceLeDiff, Nat.reduceLT, Nat.reduceSub, Int.reduceToNat, Int.reduceNeg, Int.reduceAdd, Int.reduceSub, Int.reduceMul, Int.reduceEq, Int.reduceLT, Int.reduceLE, Int.reduceNe, forall_const, forall_eq', forall_eq, List.forall_mem_cons, List.not_mem_nil]
  exact h
theorem fail_s {q : Nat} {l : List Int} {o : Own} {e : Int} {m : Heap} {Q E : AV → Heap → Prop} (hg : get q m = some (RO l o 0)) (h : ∀ x, Q x (put q (RO l o e) m)) : ACall Try.prog 33 [.ptr q 0, iv e] m Q E := by
  refine acall_fn mixed Try.func33 Try.call33 e33 r33 (Nat.le_of_ble_eq_true rfl) ?_
  simp only [n33, wf_preprocess, ↓reduceIte, Nat.reduceEqDiff, reduceCtorEq, Nat.reduceAdd, Nat.reduceMul, Nat.reduceLeDiff, Nat.reduceLT, Nat.reduceSub, Int.reduceToNat, Int.reduceNeg, Int.reduceAdd, Int.reduceSub, Int.reduceMul, Int.reduceEq, Int.reduceLT, Int.reduceLE, Int.reduceNe, forall_const, forall_eq', forall_eq, List.forall_mem_cons, List.not_mem_nil]
  refine call_i (why_s hg ?_)
  simp only [hg, wf_preprocess, ↓reduceIte, Nat.reduceEqDiff, reduceCtorEq, Nat.reduceAdd, Nat.reduceMul, Nat.reduceLeDiff, Nat.reduceLT, Nat.reduceSub, Int.reduceToNat, Int.reduceNeg, Int.reduceAdd, Int.reduceSub, Int.reduceMul, Int.reduceEq, Int.reduceLT, Int.reduceLE, Int.reduceNe, forall_const, forall_eq', forall_eq, List.forall_mem_cons, List.not_mem_nil]
  exact h _
theorem skip_s {q n : Nat} {l : List Int} {o : Own} {w : Int} {m : Heap} {Q E : AV → Heap → Prop} (hg : get q m = some (RO l o w)) (hn : n ≤ l.length) (h : ∀ x o', Q x (put q (RO (l.drop n) o' w) m)) : ACall Try.prog 32 [.ptr q 0, iv n] m Q E := by
  refine acall_fn mixed Try.func32 Try.call32 e32 r32 (Nat.le_of_ble_eq_true rfl) ?_
  simp only [n32, hg, kl_len, wf_preprocess, ↓reduceIte, Nat.reduceEqDiff, reduceCtorEq, Nat.reduceAdd, Nat.reduceMul, Nat.reduceLeDiff, Nat.reduceLT, Nat.reduceSub, Int.reduceToNat, Int.reduceNeg, Int.reduceAdd, Int.reduceSub, Int.reduceMul, Int.reduceEq, Int.reduceLT, Int.reduceLE, Int.reduceNe, forall_const, forall_eq', forall_eq, List.forall_mem_cons, List.not_mem_nil]
  refine ⟨by omega, by omega, by omega, fun _ e he => ?_, ?_⟩
  · obtain ⟨z, _, rfl⟩ := List.mem_map.1 he; rfl
  have e1 : List.take (l.length - n) (List.drop n (kl .u8 l)) = bl (l.drop n) := by
    rw [List.take_of_length_le (by simp)]; simp
  rw [e1]
  exact h _ _
theorem new_s {l : List Int} {y : AV} {m : Heap} {Q E : AV → Heap → Prop} (hy : aelems none y m = some (bl l)) (ho : (∃ es o, y = .lst es o ∧ (o = .nil → es = [])) ∨ ∃ i o n c, y = .mref i o n c) (hl : l.length ≤ 140737488355328)
    (h : ∀ q o, q ∉ keys m → Q (.ptr q 0) ((q, RO l o 0) :: m)) : ACall Try.prog 23 [y] m Q E := by
  refine acall_fn mixed Try.func23 Try.call23 e23 r23 (Nat.le_of_ble_eq_true rfl) ?_
  simp only [n23, wf_preprocess, ↓reduceIte, Nat.reduceEqDiff, reduceCtorEq, Nat.reduceAdd, Nat.reduceMul, Nat.reduceLeDiff, Nat.reduceLT, Nat.reduceSub, Int.reduceToNat, Int.reduceNeg, Int.reduceAdd, Int.reduceSub, Int.reduceMul, Int.reduceEq, Int.reduceLT, Int.reduceLE, Int.reduceNe, forall_const, forall_eq', forall_eq, List.forall_mem_cons, List.not_mem_nil]
  refine call_i (clone_f hy ho hl fun o ho' => ?_)
  simp only [wf_preprocess, ↓reduceIte, Nat.reduceEqDiff, reduceCtorEq, Nat.reduceAdd, Nat.reduceMul, Nat.reduceLeDiff, Nat.reduceLT, Nat.reduceSub, Int.reduceToNat, Int.reduceNeg, Int.reduceAdd, Int.reduceSub, Int.reduceMul, Int.reduceEq, Int.reduceLT, Int.reduceLE, Int.reduceNe, forall_const, forall_eq', forall_eq, List.forall_mem_cons, List.not_mem_nil]
  refine fresh_i fun q hq => ?_
  simp only [wf_preprocess, ↓reduceIte, Nat.reduceEqDiff, reduceCtorEq, Nat.reduceAdd, Nat.reduceMul, Nat.reduceLeDiff, Nat.reduceLT, Nat.reduceSub, Int.reduceToNat, Int.reduceNeg, Int.reduceAdd, Int.reduceSub, Int.reduceMul, Int.reduceEq, Int.reduceLT, Int.reduceLE, Int.reduceNe, forall_const, forall_eq', forall_eq, List.forall_mem_cons, List.not_mem_nil]
  exact h q o hq

/-- What a reader finds at the front: a number and how many bytes it has, or a fault. -/
def scan : List Int → Nat → Nat → Sum Int (Nat × Nat)
  | [], _, _ => .inl 7
  | c :: l, i, u => if 9 < i ∨ (i = 9 ∧ 1 < c) ∨ (0 < i ∧ c = 0) then .inl 6
    else if c < 128 then .inr (u + (c % 128).toNat * 2 ^ (7 * i), i + 1) else scan l (i + 1) (u + (c % 128).toNat * 2 ^ (7 * i))
/-- The whole number of a number. -/
def unzig (u : Nat) : Int := if u % 2 = 0 then (u / 2 : Nat) else -((u / 2 : Nat) : Int) - 1

theorem and128 {a : Int} (h0 : 0 ≤ a) (h1 : a < 256) : IntKind.u8.wrap ((BitVec.ofInt IntKind.u8.bits a &&& ~~~ BitVec.ofInt IntKind.u8.bits 128).toNat) = a % 128 := by
  have key : ∀ x : _root_.Fin 256, IntKind.u8.wrap ((BitVec.ofInt IntKind.u8.bits (x.val : Int) &&& ~~~ BitVec.ofInt IntKind.u8.bits 128).toNat) = (x.val : Int) % 128 := by decide +kernel
  have := key ⟨a.toNat, by omega⟩
  simpa [Int.toNat_of_nonneg h0] using this

theorem or_add {u d i : Nat} (h : u < 2 ^ i) (hv : d * 2 ^ i < 2 ^ 64) (h2 : u + d * 2 ^ i < 2 ^ 64) : IntKind.u64.wrap ((BitVec.ofInt IntKind.u64.bits (u : Int) ||| BitVec.ofInt IntKind.u64.bits ((d * 2 ^ i : Nat) : Int)).toNat) = ((u + d * 2 ^ i : Nat) : Int) := by
  have hb : IntKind.u64.bits = 64 := rfl
  rw [hb, BitVec.toNat_or, BitVec.toNat_ofInt, BitVec.toNat_ofInt, wrap_u64]
  have e1 : (((u : Int) % (2 ^ 64 : Nat)).toNat) = u := by omega
  have e2 : ((((d * 2 ^ i : Nat) : Int) % (2 ^ 64 : Nat)).toNat) = d * 2 ^ i := by omega
  rw [e1, e2, Nat.or_comm, Nat.mul_comm d, ← Nat.two_pow_add_eq_or_of_lt h d]
  rw [Nat.mul_comm d] at h2
  omega

theorem unz_eq {u : Nat} (h : u < 2 ^ 64) : IntKind.i64.wrap ((BitVec.ofInt IntKind.i64.bits (IntKind.i64.wrap ((u : Int).fdiv (2 ^ min 1 IntKind.u64.bits))) ^^^
    BitVec.ofInt IntKind.i64.bits (IntKind.i64.wrap (0 - IntKind.i64.wrap (IntKind.u64.wrap ((BitVec.ofInt IntKind.u64.bits (u : Int) &&& BitVec.ofInt IntKind.u64.bits 1).toNat))))).toNat) = unzig u := by
  have hb : IntKind.u64.bits = 64 := rfl
  have hb2 : IntKind.i64.bits = 64 := rfl
  rw [hb, hb2]
  have hp : (2 : Int) ^ min 1 64 = 2 := rfl
  have e1 : (u : Int).fdiv 2 = ((u / 2 : Nat) : Int) := by rw [Int.fdiv_eq_ediv_of_nonneg _ (by omega)]; omega
  have e2 : IntKind.i64.wrap ((u / 2 : Nat) : Int) = ((u / 2 : Nat) : Int) := wrap64 (by omega) (by omega)
  have e3 : ((BitVec.ofInt 64 (u : Int) &&& BitVec.ofInt 64 1).toNat : Int) = ((u % 2 : Nat) : Int) := by
    rw [BitVec.toNat_and, BitVec.toNat_ofInt, BitVec.toNat_ofInt]
    have t1 : (((u : Int) % (2 ^ 64 : Nat)).toNat) = u := by omega
    have t2 : ((1 : Int) % (2 ^ 64 : Nat)).toNat = 1 := by decide
    rw [t1, t2, Nat.and_one_is_mod]
  rw [hp, e1, e2, e3]
  have e4 : IntKind.u64.wrap ((u % 2 : Nat) : Int) = ((u % 2 : Nat) : Int) := by rw [wrap_u64]; omega
  have e5 : IntKind.i64.wrap ((u % 2 : Nat) : Int) = ((u % 2 : Nat) : Int) := wrap64 (by omega) (by omega)
  have e6 : IntKind.i64.wrap (0 - ((u % 2 : Nat) : Int)) = - ((u % 2 : Nat) : Int) := by rw [wrap64 (by omega) (by omega)]; omega
  rw [e4, e5, e6]
  have z0 : BitVec.ofInt 64 0 = 0#64 := by decide
  have z1 : BitVec.ofInt 64 (-1) = BitVec.allOnes 64 := by decide
  unfold unzig
  by_cases hu : u % 2 = 0
  · rw [hu, if_pos rfl, show -((0 : Nat) : Int) = 0 by omega, z0, BitVec.xor_zero, BitVec.toNat_ofInt]
    rw [wrap64 (by omega) (by omega)]
    omega
  · have hu1 : u % 2 = 1 := by omega
    rw [hu1, if_neg (by omega), show -((1 : Nat) : Int) = -1 by omega, z1, BitVec.xor_allOnes, BitVec.toNat_not, BitVec.toNat_ofInt]
    have e7 : ∀ x : Int, 9223372036854775808 ≤ x → x < 18446744073709551616 → IntKind.i64.wrap x = x - 18446744073709551616 := fun x h1 h2 => by
      have e : IntKind.i64.wrap x = if x % 18446744073709551616 ≥ 9223372036854775808 then x % 18446744073709551616 - 18446744073709551616 else x % 18446744073709551616 := by
        show (if (true && decide (x % 18446744073709551616 ≥ 9223372036854775808)) = true then _ else _) = _
        simp only [Bool.true_and, decide_eq_true_eq]
        rfl
      rw [e]
      split <;> omega
    rw [e7 _ (by omega) (by omega)]
    omega

theorem next_s {q : Nat} {l : List Int} {o : Own} {m : Heap} {Q E : AV → Heap → Prop} (hg : get q m = some (RO l o 0)) (hl : l.length ≤ 140737488355328) (hw : ∀ c ∈ l, 0 ≤ c ∧ c < 256)
    (h : match scan l 0 0 with | .inl e => Q (.tup [iv 0, iv 0]) (put q (RO l o e) m) | .inr (u, n) => Q (.tup [iv (unzig u), iv n]) m) : ACall Try.prog 31 [.ptr q 0] m Q E := by
  refine acall_fn mixed Try.func31 Try.call31 e31 r31 (Nat.le_of_ble_eq_true rfl) ?_
  simp only [n31, hg, kl_len, wf_preprocess, ↓reduceIte, Nat.reduceEqDiff, reduceCtorEq, Nat.reduceAdd, Nat.reduceMul, Nat.reduceLeDiff, Nat.reduceLT, Nat.reduceSub, Int.reduceToNat, Int.reduceNeg, Int.reduceAdd, Int.reduceSub, Int.reduceMul, Int.reduceEq, Int.reduceLT, Int.reduceLE, Int.reduceNe, forall_const, forall_eq', forall_eq, List.forall_mem_cons, List.not_mem_nil]
  refine loop_i (fun k ρ m' => ∃ (i u : Nat), k = l.length - i ∧ i ≤ l.length ∧ ρ 0 = .ptr q 0 ∧ ρ 4 = .sc (.int .u64 u) ∧ ρ 10 = .lst (bl l) o ∧ ρ 11 = iv l.length ∧ ρ 12 = iv i ∧ u < 2 ^ (7 * i) ∧ u < 2 ^ 64 ∧ scan (l.drop i) i u = scan l 0 0 ∧ m' = m) l.length ⟨0, 0, by simp [wf_preprocess, ↓reduceIte, Nat.reduceEqDiff, reduceCtorEq, Nat.reduceAdd, Nat.reduceMul, Nat.reduceLeDiff, Nat.reduceLT, Nat.reduceSub, Int.reduceToNat, Int.reduceNeg, Int.reduceAdd, Int.reduceSub, Int.reduceMul, Int.reduceEq, Int.reduceLT, Int.reduceLE, Int.reduceNe, forall_const, forall_eq', forall_eq, List.forall_mem_cons, List.not_mem_nil]⟩ ?_
  rintro k ρ m' ⟨i, u, rfl, hi, h0, h4, h10, h11, h12, hu, hu2, hs, rfl⟩
  by_cases hlt : (i : Int) < (l.length : Int)
  · have hx : l[i]? = some (l[i]'(by omega)) := by rw [List.getElem?_eq_getElem]
    have hc := hw (l[i]'(by omega)) (by simp)
    generalize l[i]'(by omega) = c at hx hc
    have hx' : (bl l)[i]? = some (.sc (.int .u8 c)) := by rw [List.getElem?_map, hx]; rfl
    have hdr : l.drop i = c :: l.drop (i + 1) := by
      rw [List.drop_eq_getElem_cons (by omega)]
      rw [List.getElem?_eq_getElem (by omega)] at hx
      rw [Option.some.inj hx]
    rw [hdr, scan] at hs
    by_cases cA : (9 : Int) < (i : Int)
    · rw [if_pos (.inl (by omega))] at hs
      rw [← hs] at h
      simp only [h0, h4, h10, h11, h12, hlt, hx', Int.natCast_nonneg, cA, wf_preprocess, ↓reduceIte, Nat.reduceEqDiff, reduceCtorEq, Nat.reduceAdd, Nat.reduceMul, Nat.reduceLeDiff, Nat.reduceLT, Nat.reduceSub, Int.reduceToNat, Int.reduceNeg, Int.reduceAdd, Int.reduceSub, Int.reduceMul, Int.reduceEq, Int.reduceLT, Int.reduceLE, Int.reduceNe, forall_const, forall_eq', forall_eq, List.forall_mem_cons, List.not_mem_nil]
      refine call_i (fail_s hg fun x => ?_)
      simp only [wf_preprocess, ↓reduceIte, Nat.reduceEqDiff, reduceCtorEq, Nat.reduceAdd, Nat.reduceMul, Nat.reduceLeDiff, Nat.reduceLT, Nat.reduceSub, Int.reduceToNat, Int.reduceNeg, Int.reduceAdd, Int.reduceSub, Int.reduceMul, Int.reduceEq, Int.reduceLT, Int.reduceLE, Int.reduceNe, forall_const, forall_eq', forall_eq, List.forall_mem_cons, List.not_mem_nil]
      exact h
    by_cases cB : i = 9 ∧ 1 < c
    · rw [if_pos (.inr (.inl cB))] at hs
      rw [← hs] at h
      have e9 : (i : Int) = 9 := by omega
      have c1 := cB.2
      simp only [h0, h4, h10, h11, h12, hlt, hx', Int.natCast_nonneg, cA, eq_true e9, c1, wf_preprocess, ↓reduceIte, Nat.reduceEqDiff, reduceCtorEq, Nat.reduceAdd, Nat.reduceMul, Nat.reduceLeDiff, Nat.reduceLT, Nat.reduceSub, Int.reduceToNat, Int.reduceNeg, Int.reduceAdd, Int.reduceSub, Int.reduceMul, Int.reduceEq, Int.reduceLT, Int.reduceLE, Int.reduceNe, forall_const, forall_eq', forall_eq, List.forall_mem_cons, List.not_mem_nil]
      refine call_i (fail_s hg fun x => ?_)
      simp only [wf_preprocess, ↓reduceIte, Nat.reduceEqDiff, reduceCtorEq, Nat.reduceAdd, Nat.reduceMul, Nat.reduceLeDiff, Nat.reduceLT, Nat.reduceSub, Int.reduceToNat, Int.reduceNeg, Int.reduceAdd, Int.reduceSub, Int.reduceMul, Int.reduceEq, Int.reduceLT, Int.reduceLE, Int.reduceNe, forall_const, forall_eq', forall_eq, List.forall_mem_cons, List.not_mem_nil]
      exact h
    by_cases cC : 0 < i ∧ c = 0
    · rw [if_pos (.inr (.inr cC))] at hs
      rw [← hs] at h
      obtain ⟨c0, rfl⟩ := cC
      have c0' : (0 : Int) < (i : Int) := by omega
      by_cases e9 : (i : Int) = 9
      · simp only [h0, h4, h10, h11, h12, hlt, hx', Int.natCast_nonneg, cA, eq_true e9, c0', show ¬ (1 : Int) < 0 by omega, wf_preprocess, ↓reduceIte, Nat.reduceEqDiff, reduceCtorEq, Nat.reduceAdd, Nat.reduceMul, Nat.reduceLeDiff, Nat.reduceLT, Nat.reduceSub, Int.reduceToNat, Int.reduceNeg, Int.reduceAdd, Int.reduceSub, Int.reduceMul, Int.reduceEq, Int.reduceLT, Int.reduceLE, Int.reduceNe, forall_const, forall_eq', forall_eq, List.forall_mem_cons, List.not_mem_nil]
        refine call_i (fail_s hg fun x => ?_)
        simp only [wf_preprocess, ↓reduceIte, Nat.reduceEqDiff, reduceCtorEq, Nat.reduceAdd, Nat.reduceMul, Nat.reduceLeDiff, Nat.reduceLT, Nat.reduceSub, Int.reduceToNat, Int.reduceNeg, Int.reduceAdd, Int.reduceSub, Int.reduceMul, Int.reduceEq, Int.reduceLT, Int.reduceLE, Int.reduceNe, forall_const, forall_eq', forall_eq, List.forall_mem_cons, List.not_mem_nil]
        exact h
      · simp only [h0, h4, h10, h11, h12, hlt, hx', Int.natCast_nonneg, cA, e9, c0', wf_preprocess, ↓reduceIte, Nat.reduceEqDiff, reduceCtorEq, Nat.reduceAdd, Nat.reduceMul, Nat.reduceLeDiff, Nat.reduceLT, Nat.reduceSub, Int.reduceToNat, Int.reduceNeg, Int.reduceAdd, Int.reduceSub, Int.reduceMul, Int.reduceEq, Int.reduceLT, Int.reduceLE, Int.reduceNe, forall_const, forall_eq', forall_eq, List.forall_mem_cons, List.not_mem_nil]
        refine call_i (fail_s hg fun x => ?_)
        simp only [wf_preprocess, ↓reduceIte, Nat.reduceEqDiff, reduceCtorEq, Nat.reduceAdd, Nat.reduceMul, Nat.reduceLeDiff, Nat.reduceLT, Nat.reduceSub, Int.reduceToNat, Int.reduceNeg, Int.reduceAdd, Int.reduceSub, Int.reduceMul, Int.reduceEq, Int.reduceLT, Int.reduceLE, Int.reduceNe, forall_const, forall_eq', forall_eq, List.forall_mem_cons, List.not_mem_nil]
        exact h
    rw [if_neg (by omega)] at hs
    have hi9 : i ≤ 9 := by omega
    have w7 : IntKind.i64.wrap ((i : Int) * 7) = ((7 * i : Nat) : Int) := by rw [wrap64 (by omega) (by omega)]; omega
    have g1 : ((i : Int) = 9 ∧ c ≤ 1) ∨ (i : Int) ≠ 9 := by omega
    have g2 : (0 : Int) < (i : Int) → c ≠ 0 := by omega
    have p7 : (2 : Nat) ^ (7 * i) ≤ 2 ^ 63 := Nat.pow_le_pow_right (by omega) (by omega)
    have a1 : IntKind.u8.wrap ((BitVec.ofInt IntKind.u8.bits c &&& ~~~ BitVec.ofInt IntKind.u8.bits 128).toNat) = c % 128 := and128 hc.1 hc.2
    have hneg : ¬ ((7 * i : Nat) : Int) < 0 := by omega
    obtain ⟨d, hd, hd2⟩ : ∃ d : Nat, (c % 128) = (d : Int) ∧ d < 128 := ⟨(c % 128).toNat, by omega, by omega⟩
    have hdt : (c % 128).toNat = d := by omega
    have hmul : d * 2 ^ (7 * i) < 2 ^ 64 ∧ u + d * 2 ^ (7 * i) < 2 ^ 64 := by
      by_cases h9 : i = 9
      · have : d ≤ 1 := by omega
        have : d * 2 ^ (7 * i) ≤ 1 * 2 ^ (7 * i) := Nat.mul_le_mul_right _ this
        subst h9
        omega
      · have e : (2 : Nat) ^ (7 * i) ≤ 2 ^ 56 := Nat.pow_le_pow_right (by omega) (by omega)
        have : d * 2 ^ (7 * i) ≤ 127 * 2 ^ 56 := Nat.mul_le_mul (by omega) e
        omega
    have hVs := hmul.2
    have s1 : IntKind.u64.wrap (IntKind.u64.wrap (c % 128) * 2 ^ min (7 * i) IntKind.u64.bits) = ((d * 2 ^ (7 * i) : Nat) : Int) := by
      rw [show min (7 * i) IntKind.u64.bits = 7 * i from Nat.min_eq_left (by show 7 * i ≤ 64; omega), wrap_u64, wrap_u64, hd]
      have e1 : (d : Int) % 18446744073709551616 = (d : Int) := by omega
      rw [e1]
      have e2 : (d : Int) * 2 ^ (7 * i) = ((d * 2 ^ (7 * i) : Nat) : Int) := by push_cast; rfl
      rw [e2]
      omega
    have o1 : IntKind.u64.wrap ((BitVec.ofInt IntKind.u64.bits (u : Int) ||| BitVec.ofInt IntKind.u64.bits ((d * 2 ^ (7 * i) : Nat) : Int)).toNat) = ((u + d * 2 ^ (7 * i) : Nat) : Int) := or_add hu hmul.1 hmul.2
    have w1 : IntKind.i64.wrap ((i : Int) + 1) = ((i + 1 : Nat) : Int) := wrap64 (by omega) (by omega)
    have u1 := unz_eq hVs
    rw [hdt] at hs
    have hun : u + d * 2 ^ (7 * i) < 2 ^ (7 * (i + 1)) ∨ ¬ i ≤ 8 := by
      by_cases h8 : i ≤ 8
      · left
        rw [show 7 * (i + 1) = 7 * i + 7 by omega, Nat.pow_add]
        have : d * 2 ^ (7 * i) ≤ 127 * 2 ^ (7 * i) := Nat.mul_le_mul_right _ (by omega)
        omega
      · exact .inr h8
    by_cases e9 : (i : Int) = 9
    · have c1 : ¬ (1 : Int) < c := by omega
      have c0 : (0 : Int) < (i : Int) := by omega
      have c00 : ¬ c = 0 := by omega
      simp only [h0, h4, h10, h11, h12, hlt, hx', Int.natCast_nonneg, cA, eq_true e9, eq_false c1, eq_true c0, eq_false c00, w7, a1, hneg, s1, o1, wf_preprocess, ↓reduceIte, Nat.reduceEqDiff, reduceCtorEq, Nat.reduceAdd, Nat.reduceMul, Nat.reduceLeDiff, Nat.reduceLT, Nat.reduceSub, Int.reduceToNat, Int.reduceNeg, Int.reduceAdd, Int.reduceSub, Int.reduceMul, Int.reduceEq, Int.reduceLT, Int.reduceLE, Int.reduceNe, forall_const, forall_eq', forall_eq, List.forall_mem_cons, List.not_mem_nil]
      by_cases c128 : c < 128
      · rw [if_pos c128] at hs
        rw [← hs] at h
        simp only [h0, h4, h10, h11, h12, eq_true c128, u1, w1, wf_preprocess, ↓reduceIte, Nat.reduceEqDiff, reduceCtorEq, Nat.reduceAdd, Nat.reduceMul, Nat.reduceLeDiff, Nat.reduceLT, Nat.reduceSub, Int.reduceToNat, Int.reduceNeg, Int.reduceAdd, Int.reduceSub, Int.reduceMul, Int.reduceEq, Int.reduceLT, Int.reduceLE, Int.reduceNe, forall_const, forall_eq', forall_eq, List.forall_mem_cons, List.not_mem_nil]
        exact h
      · rw [if_neg c128] at hs
        simp only [h0, h4, h10, h11, h12, eq_false c128, w1, wf_preprocess, ↓reduceIte, Nat.reduceEqDiff, reduceCtorEq, Nat.reduceAdd, Nat.reduceMul, Nat.reduceLeDiff, Nat.reduceLT, Nat.reduceSub, Int.reduceToNat, Int.reduceNeg, Int.reduceAdd, Int.reduceSub, Int.reduceMul, Int.reduceEq, Int.reduceLT, Int.reduceLE, Int.reduceNe, forall_const, forall_eq', forall_eq, List.forall_mem_cons, List.not_mem_nil]
        exact ⟨l.length - (i + 1), by omega, i + 1, u + d * 2 ^ (7 * i), rfl, by omega, rfl, rfl, by omega, hVs, hs⟩
    · by_cases c0 : (0 : Int) < (i : Int)
      · have c00 : ¬ c = 0 := by omega
        simp only [h0, h4, h10, h11, h12, hlt, hx', Int.natCast_nonneg, cA, eq_false e9, eq_true c0, eq_false c00, w7, a1, hneg, s1, o1, wf_preprocess, ↓reduceIte, Nat.reduceEqDiff, reduceCtorEq, Nat.reduceAdd, Nat.reduceMul, Nat.reduceLeDiff, Nat.reduceLT, Nat.reduceSub, Int.reduceToNat, Int.reduceNeg, Int.reduceAdd, Int.reduceSub, Int.reduceMul, Int.reduceEq, Int.reduceLT, Int.reduceLE, Int.reduceNe, forall_const, forall_eq', forall_eq, List.forall_mem_cons, List.not_mem_nil]
        by_cases c128 : c < 128
        · rw [if_pos c128] at hs
          rw [← hs] at h
          simp only [h0, h4, h10, h11, h12, eq_true c128, u1, w1, wf_preprocess, ↓reduceIte, Nat.reduceEqDiff, reduceCtorEq, Nat.reduceAdd, Nat.reduceMul, Nat.reduceLeDiff, Nat.reduceLT, Nat.reduceSub, Int.reduceToNat, Int.reduceNeg, Int.reduceAdd, Int.reduceSub, Int.reduceMul, Int.reduceEq, Int.reduceLT, Int.reduceLE, Int.reduceNe, forall_const, forall_eq', forall_eq, List.forall_mem_cons, List.not_mem_nil]
          exact h
        · rw [if_neg c128] at hs
          simp only [h0, h4, h10, h11, h12, eq_false c128, w1, wf_preprocess, ↓reduceIte, Nat.reduceEqDiff, reduceCtorEq, Nat.reduceAdd, Nat.reduceMul, Nat.reduceLeDiff, Nat.reduceLT, Nat.reduceSub, Int.reduceToNat, Int.reduceNeg, Int.reduceAdd, Int.reduceSub, Int.reduceMul, Int.reduceEq, Int.reduceLT, Int.reduceLE, Int.reduceNe, forall_const, forall_eq', forall_eq, List.forall_mem_cons, List.not_mem_nil]
          exact ⟨l.length - (i + 1), by omega, i + 1, u + d * 2 ^ (7 * i), rfl, by omega, rfl, rfl, by omega, hVs, hs⟩
      · simp only [h0, h4, h10, h11, h12, hlt, hx', Int.natCast_nonneg, cA, eq_false e9, eq_false c0, w7, a1, hneg, s1, o1, wf_preprocess, ↓reduceIte, Nat.reduceEqDiff, reduceCtorEq, Nat.reduceAdd, Nat.reduceMul, Nat.reduceLeDiff, Nat.reduceLT, Nat.reduceSub, Int.reduceToNat, Int.reduceNeg, Int.reduceAdd, Int.reduceSub, Int.reduceMul, Int.reduceEq, Int.reduceLT, Int.reduceLE, Int.reduceNe, forall_const, forall_eq', forall_eq, List.forall_mem_cons, List.not_mem_nil]
        by_cases c128 : c < 128
        · rw [if_pos c128] at hs
          rw [← hs] at h
          simp only [h0, h4, h10, h11, h12, eq_true c128, u1, w1, wf_preprocess, ↓reduceIte, Nat.reduceEqDiff, reduceCtorEq, Nat.reduceAdd, Nat.reduceMul, Nat.reduceLeDiff, Nat.reduceLT, Nat.reduceSub, Int.reduceToNat, Int.reduceNeg, Int.reduceAdd, Int.reduceSub, Int.reduceMul, Int.reduceEq, Int.reduceLT, Int.reduceLE, Int.reduceNe, forall_const, forall_eq', forall_eq, List.forall_mem_cons, List.not_mem_nil]
          exact h
        · rw [if_neg c128] at hs
          simp only [h0, h4, h10, h11, h12, eq_false c128, w1, wf_preprocess, ↓reduceIte, Nat.reduceEqDiff, reduceCtorEq, Nat.reduceAdd, Nat.reduceMul, Nat.reduceLeDiff, Nat.reduceLT, Nat.reduceSub, Int.reduceToNat, Int.reduceNeg, Int.reduceAdd, Int.reduceSub, Int.reduceMul, Int.reduceEq, Int.reduceLT, Int.reduceLE, Int.reduceNe, forall_const, forall_eq', forall_eq, List.forall_mem_cons, List.not_mem_nil]
          exact ⟨l.length - (i + 1), by omega, i + 1, u + d * 2 ^ (7 * i), rfl, by omega, rfl, rfl, by omega, hVs, hs⟩
  · have hie : i = l.length := by omega
    rw [hie, List.drop_length, scan] at hs
    rw [← hs] at h
    simp only [h0, h4, h10, h11, h12, hlt, wf_preprocess, ↓reduceIte, Nat.reduceEqDiff, reduceCtorEq, Nat.reduceAdd, Nat.reduceMul, Nat.reduceLeDiff, Nat.reduceLT, Nat.reduceSub, Int.reduceToNat, Int.reduceNeg, Int.reduceAdd, Int.reduceSub, Int.reduceMul, Int.reduceEq, Int.reduceLT, Int.reduceLE, Int.reduceNe, forall_const, forall_eq', forall_eq, List.forall_mem_cons, List.not_mem_nil]
    refine call_i (fail_s hg fun x => ?_)
    simp only [wf_preprocess, ↓reduceIte, Nat.reduceEqDiff, reduceCtorEq, Nat.reduceAdd, Nat.reduceMul, Nat.reduceLeDiff, Nat.reduceLT, Nat.reduceSub, Int.reduceToNat, Int.reduceNeg, Int.reduceAdd, Int.reduceSub, Int.reduceMul, Int.reduceEq, Int.reduceLT, Int.reduceLE, Int.reduceNe, forall_const, forall_eq', forall_eq, List.forall_mem_cons, List.not_mem_nil]
    exact h

end Go.Proofs.Ytlcfagocikfocaa.Moi.Wire
