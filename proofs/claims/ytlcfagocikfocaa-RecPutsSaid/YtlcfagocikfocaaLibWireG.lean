/- What functions of this program do, on plain values: a part of the proofs of this seat's laws; each theorem bears its own conditions. -/
import Derived.Test.YtlcfagocikfocaaLibWireF
set_option linter.unusedVariables false
set_option linter.unusedSimpArgs false
set_option maxRecDepth 1000000
namespace Go.Proofs.Ytlcfagocikfocaa.Moi.Wire
open Go Go.RowKit Go.Proofs.Ytlcfagocikfocaa.Moi
attribute [-wf_preprocess] ite_eq_dite forIn_eq_forIn'

/-- Many numbers as bytes. -/
def encs (l : List Int) : List Int := l.flatMap fun n => enc (zig n)
theorem encs_app {a b : List Int} : encs (a ++ b) = encs a ++ encs b := by simp [encs]
theorem encs_one {n : Int} : encs [n] = enc (zig n) := by simp [encs]
theorem encs_len : ∀ {l : List Int}, (∀ n ∈ l, (Lit.int .i64 n).wf = true) → (encs l).length ≤ 10 * l.length
  | [], _ => by simp [encs]
  | n :: l, h => by
    obtain ⟨h1, h2⟩ := wf64 (h n (by simp))
    have := enc_zig h1 h2
    have ih := encs_len (l := l) fun n hn => h n (by simp [hn])
    simp only [encs, List.flatMap_cons, List.length_append, List.length_cons] at ih ⊢
    omega
theorem take_snoc {l : List Int} {i : Nat} {x : Int} (h : l[i]? = some x) : l.take (i + 1) = l.take i ++ [x] := by
  rw [List.take_add_one, h]; rfl

theorem all_s {l : List Int} {o : Own} {m : Heap} {Q E : AV → Heap → Prop} (hl : l.length ≤ 1000000) (hw : ∀ n ∈ l, (Lit.int .i64 n).wf = true)
    (h : ∀ v m1, Buf .u8 (encs l) v m1 → (∀ i ∈ keys m1, i ∉ keys m) → Q v (m1 ++ m)) : ACall Try.prog 20 [.lst (kl .i64 l) o] m Q E := by
  refine acall_fn mixed Try.func20 Try.call20 e20 r20 (Nat.le_of_ble_eq_true rfl) ?_
  simp only [n20, kl_len, wf_preprocess, ↓reduceIte, Nat.reduceEqDiff, reduceCtorEq, Nat.reduceAdd, Nat.reduceMul, Nat.reduceLeDiff, Nat.reduceLT, Nat.reduceSub, Int.reduceToNat, Int.reduceNeg, Int.reduceAdd, Int.reduceSub, Int.reduceMul, Int.reduceEq, Int.reduceLT, Int.reduceLE, Int.reduceNe, forall_const, forall_eq', forall_eq, List.forall_mem_cons, List.not_mem_nil]
  refine loop_i (fun k ρ m' => ∃ (i : Nat) (v : AV) (m1 : Heap), k = l.length - i ∧ i ≤ l.length ∧ ρ 3 = v ∧ ρ 6 = .lst (kl .i64 l) o ∧ ρ 7 = iv l.length ∧ ρ 8 = iv i ∧ Buf .u8 (encs (l.take i)) v m1 ∧ (∀ j ∈ keys m1, j ∉ keys m) ∧ m' = m1 ++ m) l.length ⟨0, .lst [] .nil, [], rfl, by omega, ?_⟩ ?_
  · simp [encs, Buf.nil, keys, wf_preprocess, ↓reduceIte, Nat.reduceEqDiff, reduceCtorEq, Nat.reduceAdd, Nat.reduceMul, Nat.reduceLeDiff, Nat.reduceLT, Nat.reduceSub, Int.reduceToNat, Int.reduceNeg, Int.reduceAdd, Int.reduceSub, Int.reduceMul, Int.reduceEq, Int.reduceLT, Int.reduceLE, Int.reduceNe, forall_const, forall_eq', forall_eq, List.forall_mem_cons, List.not_mem_nil]
  rintro k ρ m' ⟨i, v, m1, rfl, hi, h3, h6, h7, h8, hb, hd, rfl⟩
  by_cases hlt : (i : Int) < (l.length : Int)
  · have hx : l[i]? = some (l[i]'(by omega)) := by rw [List.getElem?_eq_getElem]
    have hwf := wf64 (hw (l[i]'(by omega)) (by simp))
    generalize l[i]'(by omega) = x at hx hwf
    have hx' : (kl .i64 l)[i]? = some (iv x) := by rw [List.getElem?_map, hx]; rfl
    have w1 : IntKind.i64.wrap ((i : Int) + 1) = ((i + 1 : Nat) : Int) := wrap64 (by omega) (by omega)
    have hel := encs_len (l := l.take i) fun n hn => hw n (List.mem_of_mem_take hn)
    rw [List.length_take] at hel
    simp only [h3, h6, h7, h8, hlt, hx', Int.natCast_nonneg, wf_preprocess, ↓reduceIte, Nat.reduceEqDiff, reduceCtorEq, Nat.reduceAdd, Nat.reduceMul, Nat.reduceLeDiff, Nat.reduceLT, Nat.reduceSub, Int.reduceToNat, Int.reduceNeg, Int.reduceAdd, Int.reduceSub, Int.reduceMul, Int.reduceEq, Int.reduceLT, Int.reduceLE, Int.reduceNe, forall_const, forall_eq', forall_eq, List.forall_mem_cons, List.not_mem_nil]
    refine call_i (put_s hb (by omega) hd hwf.1 hwf.2 fun v2 m2 hb2 hd2 => ?_)
    simp only [h3, h6, h7, h8, w1, wf_preprocess, ↓reduceIte, Nat.reduceEqDiff, reduceCtorEq, Nat.reduceAdd, Nat.reduceMul, Nat.reduceLeDiff, Nat.reduceLT, Nat.reduceSub, Int.reduceToNat, Int.reduceNeg, Int.reduceAdd, Int.reduceSub, Int.reduceMul, Int.reduceEq, Int.reduceLT, Int.reduceLE, Int.reduceNe, forall_const, forall_eq', forall_eq, List.forall_mem_cons, List.not_mem_nil]
    exact ⟨l.length - (i + 1), by omega, i + 1, v2, m2, rfl, by omega, rfl, rfl, by rw [take_snoc hx, encs_app, encs_one]; exact hb2, hd2, rfl⟩
  · have hie : i = l.length := by omega
    rw [hie, List.take_length] at hb
    simp only [h3, h6, h7, h8, hlt, wf_preprocess, ↓reduceIte, Nat.reduceEqDiff, reduceCtorEq, Nat.reduceAdd, Nat.reduceMul, Nat.reduceLeDiff, Nat.reduceLT, Nat.reduceSub, Int.reduceToNat, Int.reduceNeg, Int.reduceAdd, Int.reduceSub, Int.reduceMul, Int.reduceEq, Int.reduceLT, Int.reduceLE, Int.reduceNe, forall_const, forall_eq', forall_eq, List.forall_mem_cons, List.not_mem_nil]
    exact h v m1 hb hd

end Go.Proofs.Ytlcfagocikfocaa.Moi.Wire
