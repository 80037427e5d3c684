/- What functions of this program do, on plain values: a part of the proofs of this seat's laws; each theorem bears its own conditions. -/
import Derived.Test.YtceahampebofbaaTreeL
set_option linter.unusedVariables false
set_option linter.unusedSimpArgs false
set_option maxRecDepth 1000000
namespace Go.Proofs.Ytceahampebofbaa.Moi.Tree
open Go Go.RowKit Go.Proofs.Ytceahampebofbaa.Moi
attribute [-wf_preprocess] ite_eq_dite forIn_eq_forIn'

/-! ### The parts of the small form of New by the book, as it was printed -/
def d9a (T : NCode) : NCode :=
  .seq (.ops [
    ⟨(some 2), none, .op (.move (.k (.sc (.pointer none)))), []⟩,
    ⟨(some 3), none, .op (.move (.k (i64 0))), []⟩,
    ⟨(some 4), none, .op (.move (.k (i64 0))), []⟩])
  (.seq (.seq (.ops [
    ⟨(some 13), none, .op (.move (.r 0)), []⟩,
    ⟨(some 14), none, .op (.lenL (.r 13)), []⟩,
    ⟨(some 15), none, .op (.bin .eql .other (.r 14) (.k (i64 0))), []⟩,
    ⟨(some 16), none, .op (.move (.r 15)), []⟩,
    ⟨(some 17), (some (16, false)), .op (.move (.r 0)), []⟩,
    ⟨(some 18), (some (16, false)), .op (.lenL (.r 17)), []⟩,
    ⟨(some 19), (some (16, false)), .op (.bin .gtr .other (.r 18) (.k (i64 32))), []⟩,
    ⟨(some 20), none, .op (.pick (.r 16) (.k (bo true)) (.r 19)), []⟩])
  (.cond (.r 20)
  (.seq (.ops [
    ⟨(some 2), none, .op (.move (.k (.sc (.pointer none)))), []⟩,
    ⟨(some 3), none, .op (.move (.k (i64 0))), []⟩,
    ⟨(some 4), none, .op (.move (.k (i64 5))), []⟩])
  (.ret))
  (.skip)))
  (.seq (.ops [
    ⟨(some 21), none, .op (.build [(.lst [] .nil)] []), []⟩,
    ⟨(some 22), none, .op (.box (.r 21)), []⟩,
    ⟨(some 5), none, .op (.move (.r 22)), []⟩])
  (.seq (.ops [
    ⟨(some 23), none, .op (.move (.r 5)), []⟩,
    ⟨(some 24), none, .op (.move (.r 5)), []⟩,
    ⟨(some 25), none, .op (.nilCheck (.r 24)), []⟩,
    ⟨(some 26), none, .op (.fieldAddr 0 (.r 25)), []⟩,
    ⟨(some 27), none, .op (.load none (.r 26)), []⟩,
    ⟨(some 28), none, .op (.move (.r 0)), []⟩,
    ⟨(some 29), none, .op (.append true (some 2) 24 [(.sc (.string ⟨#[]⟩)), (i64 0)] (.r 27) (.r 28)), []⟩,
    ⟨(some 30), none, .op (.nilCheck (.r 23)), []⟩,
    ⟨(some 31), none, .op (.fieldAddr 0 (.r 30)), []⟩,
    ⟨none, none, .op (.store 1 (.r 31) (.r 29)), []⟩])
  (T))))

def d9b (T : NCode) : NCode :=
  .seq (.seq (.ops [
    ⟨(some 6), none, .op (.move (.k (i64 0))), []⟩])
  (.block 0 (.loop (.seq (.seq (.ops [
    ⟨(some 32), none, .op (.move (.r 6)), []⟩,
    ⟨(some 33), none, .op (.move (.r 0)), []⟩,
    ⟨(some 34), none, .op (.lenL (.r 33)), []⟩,
    ⟨(some 35), none, .op (.bin .lss .other (.r 32) (.r 34)), []⟩])
  (.cond (.r 35)
  (.skip)
  (.exit 0)))
  (.seq (.block 1 (.seq (.ops [
    ⟨(some 38), none, .op (.move (.r 0)), []⟩,
    ⟨(some 39), none, .op (.move (.r 6)), []⟩,
    ⟨(some 40), none, .op (.idxAddr 2 (.r 38) (.r 39)), []⟩,
    ⟨(some 41), none, .op (.fieldAddr 0 (.r 40)), []⟩,
    ⟨(some 42), none, .op (.load none (.r 41)), []⟩,
    ⟨(some 43), none, .call (.k (.clos 39 [])) [(.r 42)], []⟩,
    ⟨(some 44), none, .op (.un .not (.r 43)), []⟩])
  (.cond (.r 44)
  (.seq (.ops [
    ⟨(some 45), none, .op (.move (.r 6)), []⟩,
    ⟨(some 2), none, .op (.move (.k (.sc (.pointer none)))), []⟩,
    ⟨(some 3), none, .op (.move (.r 45)), []⟩,
    ⟨(some 4), none, .op (.move (.k (i64 3))), []⟩])
  (.ret))
  (.skip))))
  (.ops [
    ⟨(some 36), none, .op (.move (.r 6)), []⟩,
    ⟨(some 37), none, .op (.bin .add .other (.r 36) (.k (i64 1))), []⟩,
    ⟨(some 6), none, .op (.move (.r 37)), []⟩]))))))
  (T)

def d9c (T : NCode) : NCode :=
  .seq (.seq (.ops [
    ⟨(some 7), none, .op (.move (.k (i64 0))), []⟩])
  (.block 2 (.loop (.seq (.seq (.ops [
    ⟨(some 46), none, .op (.move (.r 7)), []⟩,
    ⟨(some 47), none, .op (.move (.r 0)), []⟩,
    ⟨(some 48), none, .op (.lenL (.r 47)), []⟩,
    ⟨(some 49), none, .op (.bin .lss .other (.r 46) (.r 48)), []⟩])
  (.cond (.r 49)
  (.skip)
  (.exit 2)))
  (.seq (.block 3 (.seq (.ops [
    ⟨(some 52), none, .op (.move (.r 5)), []⟩,
    ⟨(some 53), none, .op (.move (.r 0)), []⟩,
    ⟨(some 54), none, .op (.move (.r 7)), []⟩,
    ⟨(some 55), none, .op (.idxAddr 2 (.r 53) (.r 54)), []⟩,
    ⟨(some 56), none, .op (.fieldAddr 0 (.r 55)), []⟩,
    ⟨(some 57), none, .op (.load none (.r 56)), []⟩,
    ⟨(some 58), none, .call (.k (.clos 12 [])) [(.r 52), (.r 57)], []⟩,
    ⟨(some 59), none, .op (.move (.r 7)), []⟩,
    ⟨(some 60), none, .op (.bin .lss .other (.r 58) (.r 59)), []⟩])
  (.cond (.r 60)
  (.seq (.ops [
    ⟨(some 61), none, .op (.move (.r 7)), []⟩,
    ⟨(some 2), none, .op (.move (.k (.sc (.pointer none)))), []⟩,
    ⟨(some 3), none, .op (.move (.r 61)), []⟩,
    ⟨(some 4), none, .op (.move (.k (i64 4))), []⟩])
  (.ret))
  (.skip))))
  (.ops [
    ⟨(some 50), none, .op (.move (.r 7)), []⟩,
    ⟨(some 51), none, .op (.bin .add .other (.r 50) (.k (i64 1))), []⟩,
    ⟨(some 7), none, .op (.move (.r 51)), []⟩]))))))
  (T)

def d9d (T : NCode) : NCode :=
  .seq (.seq (.ops [
    ⟨(some 8), none, .op (.move (.k (i64 0))), []⟩])
  (.block 4 (.loop (.seq (.seq (.ops [
    ⟨(some 62), none, .op (.move (.r 8)), []⟩,
    ⟨(some 63), none, .op (.move (.r 0)), []⟩,
    ⟨(some 64), none, .op (.lenL (.r 63)), []⟩,
    ⟨(some 65), none, .op (.bin .lss .other (.r 62) (.r 64)), []⟩])
  (.cond (.r 65)
  (.skip)
  (.exit 4)))
  (.seq (.block 5 (.seq (.ops [
    ⟨(some 68), none, .op (.move (.r 0)), []⟩,
    ⟨(some 69), none, .op (.move (.r 8)), []⟩,
    ⟨(some 70), none, .op (.idxAddr 2 (.r 68) (.r 69)), []⟩,
    ⟨(some 71), none, .op (.fieldAddr 1 (.r 70)), []⟩,
    ⟨(some 72), none, .op (.load none (.r 71)), []⟩,
    ⟨(some 73), none, .op (.bin .lss .other (.r 72) (.k (i64 (-1)))), []⟩,
    ⟨(some 74), none, .op (.move (.r 73)), []⟩,
    ⟨(some 75), (some (74, false)), .op (.move (.r 0)), []⟩,
    ⟨(some 76), (some (74, false)), .op (.move (.r 8)), []⟩,
    ⟨(some 77), (some (74, false)), .op (.idxAddr 2 (.r 75) (.r 76)), []⟩,
    ⟨(some 78), (some (74, false)), .op (.fieldAddr 1 (.r 77)), []⟩,
    ⟨(some 79), (some (74, false)), .op (.load none (.r 78)), []⟩,
    ⟨(some 80), (some (74, false)), .op (.move (.r 0)), []⟩,
    ⟨(some 81), (some (74, false)), .op (.lenL (.r 80)), []⟩,
    ⟨(some 82), (some (74, false)), .op (.bin .geq .other (.r 79) (.r 81)), []⟩,
    ⟨(some 83), none, .op (.pick (.r 74) (.k (bo true)) (.r 82)), []⟩])
  (.cond (.r 83)
  (.seq (.ops [
    ⟨(some 84), none, .op (.move (.r 8)), []⟩,
    ⟨(some 2), none, .op (.move (.k (.sc (.pointer none)))), []⟩,
    ⟨(some 3), none, .op (.move (.r 84)), []⟩,
    ⟨(some 4), none, .op (.move (.k (i64 17))), []⟩])
  (.ret))
  (.skip))))
  (.ops [
    ⟨(some 66), none, .op (.move (.r 8)), []⟩,
    ⟨(some 67), none, .op (.bin .add .other (.r 66) (.k (i64 1))), []⟩,
    ⟨(some 8), none, .op (.move (.r 67)), []⟩]))))))
  (T)

def d9e (T : NCode) : NCode :=
  .seq (.seq (.ops [
    ⟨(some 9), none, .op (.move (.k (i64 0))), []⟩])
  (.block 6 (.loop (.seq (.seq (.ops [
    ⟨(some 85), none, .op (.move (.r 9)), []⟩,
    ⟨(some 86), none, .op (.move (.r 0)), []⟩,
    ⟨(some 87), none, .op (.lenL (.r 86)), []⟩,
    ⟨(some 88), none, .op (.bin .lss .other (.r 85) (.r 87)), []⟩])
  (.cond (.r 88)
  (.skip)
  (.exit 6)))
  (.seq (.block 7 (.seq (.ops [
    ⟨(some 91), none, .op (.move (.r 0)), []⟩,
    ⟨(some 92), none, .op (.move (.r 9)), []⟩,
    ⟨(some 93), none, .op (.idxAddr 2 (.r 91) (.r 92)), []⟩,
    ⟨(some 94), none, .op (.fieldAddr 1 (.r 93)), []⟩,
    ⟨(some 95), none, .op (.load none (.r 94)), []⟩,
    ⟨(some 10), none, .op (.move (.r 95)), []⟩])
  (.seq (.ops [
    ⟨(some 11), none, .op (.move (.k (i64 0))), []⟩])
  (.block 8 (.loop (.seq (.seq (.ops [
    ⟨(some 96), none, .op (.move (.r 11)), []⟩,
    ⟨(some 97), none, .op (.move (.r 0)), []⟩,
    ⟨(some 98), none, .op (.lenL (.r 97)), []⟩,
    ⟨(some 99), none, .op (.bin .lss .other (.r 96) (.r 98)), []⟩,
    ⟨(some 100), none, .op (.move (.r 99)), []⟩,
    ⟨(some 101), (some (100, true)), .op (.move (.r 10)), []⟩,
    ⟨(some 102), (some (100, true)), .op (.bin .geq .other (.r 101) (.k (i64 0))), []⟩,
    ⟨(some 103), none, .op (.pick (.r 100) (.r 102) (.k (bo false))), []⟩])
  (.cond (.r 103)
  (.skip)
  (.exit 8)))
  (.seq (.block 9 (.seq (.seq (.ops [
    ⟨(some 106), none, .op (.move (.r 10)), []⟩,
    ⟨(some 107), none, .op (.move (.r 9)), []⟩,
    ⟨(some 108), none, .op (.bin .eql .other (.r 106) (.r 107)), []⟩])
  (.cond (.r 108)
  (.seq (.ops [
    ⟨(some 109), none, .op (.move (.r 9)), []⟩,
    ⟨(some 2), none, .op (.move (.k (.sc (.pointer none)))), []⟩,
    ⟨(some 3), none, .op (.move (.r 109)), []⟩,
    ⟨(some 4), none, .op (.move (.k (i64 15))), []⟩])
  (.ret))
  (.skip)))
  (.ops [
    ⟨(some 110), none, .op (.move (.r 0)), []⟩,
    ⟨(some 111), none, .op (.move (.r 10)), []⟩,
    ⟨(some 112), none, .op (.idxAddr 2 (.r 110) (.r 111)), []⟩,
    ⟨(some 113), none, .op (.fieldAddr 1 (.r 112)), []⟩,
    ⟨(some 114), none, .op (.load none (.r 113)), []⟩,
    ⟨(some 10), none, .op (.move (.r 114)), []⟩])))
  (.ops [
    ⟨(some 104), none, .op (.move (.r 11)), []⟩,
    ⟨(some 105), none, .op (.bin .add .other (.r 104) (.k (i64 1))), []⟩,
    ⟨(some 11), none, .op (.move (.r 105)), []⟩]))))))))
  (.ops [
    ⟨(some 89), none, .op (.move (.r 9)), []⟩,
    ⟨(some 90), none, .op (.bin .add .other (.r 89) (.k (i64 1))), []⟩,
    ⟨(some 9), none, .op (.move (.r 90)), []⟩]))))))
  (T)

def d9f (T : NCode) : NCode :=
  .seq (.seq (.ops [
    ⟨(some 12), none, .op (.move (.k (i64 0))), []⟩])
  (.block 10 (.loop (.seq (.seq (.ops [
    ⟨(some 115), none, .op (.move (.r 12)), []⟩,
    ⟨(some 116), none, .op (.move (.r 0)), []⟩,
    ⟨(some 117), none, .op (.lenL (.r 116)), []⟩,
    ⟨(some 118), none, .op (.bin .lss .other (.r 115) (.r 117)), []⟩])
  (.cond (.r 118)
  (.skip)
  (.exit 10)))
  (.seq (.block 11 (.seq (.ops [
    ⟨(some 121), none, .op (.move (.r 5)), []⟩,
    ⟨(some 122), none, .op (.move (.r 12)), []⟩,
    ⟨(some 123), none, .call (.k (.clos 16 [])) [(.r 121), (.r 122)], []⟩,
    ⟨(some 124), none, .op (.bin .geq .other (.r 123) (.k (i64 6))), []⟩])
  (.cond (.r 124)
  (.seq (.ops [
    ⟨(some 125), none, .op (.move (.r 12)), []⟩,
    ⟨(some 2), none, .op (.move (.k (.sc (.pointer none)))), []⟩,
    ⟨(some 3), none, .op (.move (.r 125)), []⟩,
    ⟨(some 4), none, .op (.move (.k (i64 16))), []⟩])
  (.ret))
  (.skip))))
  (.ops [
    ⟨(some 119), none, .op (.move (.r 12)), []⟩,
    ⟨(some 120), none, .op (.bin .add .other (.r 119) (.k (i64 1))), []⟩,
    ⟨(some 12), none, .op (.move (.r 120)), []⟩]))))))
  (T)

def d9g : NCode :=
  .seq (.ops [
    ⟨(some 126), none, .op (.move (.r 5)), []⟩,
    ⟨(some 2), none, .op (.move (.r 126)), []⟩,
    ⟨(some 3), none, .op (.move (.k (i64 0))), []⟩,
    ⟨(some 4), none, .op (.move (.k (i64 0))), []⟩])
  (.ret)

theorem n_rNew : n9 = d9a (d9b (d9c (d9d (d9e (d9f d9g))))) := by kernel_rfl
theorem twice_iff {L : List Nd} {i : Nat} {p : Nd} (hp : L[i]? = some p) : (fndI L p.1 < (i : Int)) = (chk L 1 i ≠ 0) := by
  apply propext
  rw [chk1, nameA_at hp]
  unfold fndI
  cases hf : fnd L p.1 with
  | none => exact absurd rfl (fnd_none hf p (List.mem_of_getElem? hp))
  | some j =>
    obtain ⟨h1, ⟨q, h2, h3⟩, h4⟩ := fnd_lt hf
    simp only
    by_cases c : j < i
    · have : fnd (L.take i) p.1 = some j := fnd_first (p := q) (by rw [List.getElem?_take, if_pos c]; exact h2) h3 fun k r hk hr => by
        rw [List.getElem?_take, if_pos (by omega)] at hr
        exact h4 k r hk hr
      rw [this]
      simp; omega
    · have : fnd (L.take i) p.1 = none := by
        cases hg : fnd (L.take i) p.1 with
        | none => rfl
        | some k =>
          obtain ⟨e1, ⟨r, e2, e3⟩, e4⟩ := fnd_lt hg
          rw [List.length_take] at e1
          rw [List.getElem?_take, if_pos (by omega)] at e2
          exact absurd e3 (h4 k r (by omega) e2)
      rw [this]
      simp; omega
section
variable {L : List Nd} {m m' m0 : Heap} {T : Nat} {y : AV} {ρ : Regs} {Q E : AV → Heap → Prop} {Kn Kr : Cont} {Kx : Nat → Cont} {C : NCode}
theorem inp_at {o : Own} {i : Nat} {p : Nd} (hp : L[i]? = some p) : (L.map fun p => AV.agg [AV.sc (Value.string p.1), iv p.2])[i]? = some (.agg [AV.sc (Value.string p.1), iv p.2]) := by rw [List.getElem?_map, hp]; rfl
theorem rn_a (hI : Inp y L) (g0 : ρ 0 = y) (kr : L.length = 0 ∨ 32 < L.length → ∀ ρ', ρ' 2 = .sc (.pointer none) → ρ' 3 = iv 0 → ρ' 4 = iv 5 → Kr ρ' m)
    (k : ∀ ρ' m' T, L.length ≠ 0 → L.length ≤ 32 → Nds L m' T → Ext [] m m' → ρ' 0 = y → ρ' 5 = .ptr T 0 → vc Try.prog E C Kn Kx Kr ρ' m') : vc Try.prog E (d9a C) Kn Kx Kr ρ m := by
  have hL : LenIs y L.length := by
    obtain ⟨o, rfl, _⟩ := hI
    exact .inl ⟨_, _, rfl, by simp⟩
  by_cases c0 : L.length = 0
  · have c0' : (L.length : Int) = 0 := by omega
    simp only [d9a, g0, onLst_len hL, c0', wf_preprocess, ↓reduceIte, Nat.reduceEqDiff, reduceCtorEq, Nat.reduceAdd, Nat.reduceMul, Nat.reduceLeDiff, Nat.reduceLT, Nat.reduceSub, Int.reduceToNat, Int.reduceNeg, Int.reduceAdd, Int.reduceSub, Int.reduceMul, Int.reduceEq, Int.reduceLT, Int.reduceLE, Int.reduceNe, forall_const, forall_eq', forall_eq, List.forall_mem_cons, List.not_mem_nil]
    refine kr (.inl c0) _ ?_ ?_ ?_ <;> simp only [wf_preprocess, ↓reduceIte, Nat.reduceEqDiff, reduceCtorEq, Nat.reduceAdd, Nat.reduceMul, Nat.reduceLeDiff, Nat.reduceLT, Nat.reduceSub, Int.reduceToNat, Int.reduceNeg, Int.reduceAdd, Int.reduceSub, Int.reduceMul, Int.reduceEq, Int.reduceLT, Int.reduceLE, Int.reduceNe, forall_const, forall_eq', forall_eq, List.forall_mem_cons, List.not_mem_nil]
  have c0' : ¬ (L.length : Int) = 0 := by omega
  by_cases c1 : 32 < L.length
  · have c1' : (32 : Int) < (L.length : Int) := by omega
    simp only [d9a, g0, onLst_len hL, c0', c1', wf_preprocess, ↓reduceIte, Nat.reduceEqDiff, reduceCtorEq, Nat.reduceAdd, Nat.reduceMul, Nat.reduceLeDiff, Nat.reduceLT, Nat.reduceSub, Int.reduceToNat, Int.reduceNeg, Int.reduceAdd, Int.reduceSub, Int.reduceMul, Int.reduceEq, Int.reduceLT, Int.reduceLE, Int.reduceNe, forall_const, forall_eq', forall_eq, List.forall_mem_cons, List.not_mem_nil]
    refine kr (.inr c1) _ ?_ ?_ ?_ <;> simp only [wf_preprocess, ↓reduceIte, Nat.reduceEqDiff, reduceCtorEq, Nat.reduceAdd, Nat.reduceMul, Nat.reduceLeDiff, Nat.reduceLT, Nat.reduceSub, Int.reduceToNat, Int.reduceNeg, Int.reduceAdd, Int.reduceSub, Int.reduceMul, Int.reduceEq, Int.reduceLT, Int.reduceLE, Int.reduceNe, forall_const, forall_eq', forall_eq, List.forall_mem_cons, List.not_mem_nil]
  have c1' : ¬ (32 : Int) < (L.length : Int) := by omega
  have hne : L ≠ [] := fun e => c0 (by rw [e]; rfl)
  simp only [d9a, g0, onLst_len hL, c0', c1', wf_preprocess, ↓reduceIte, Nat.reduceEqDiff, reduceCtorEq, Nat.reduceAdd, Nat.reduceMul, Nat.reduceLeDiff, Nat.reduceLT, Nat.reduceSub, Int.reduceToNat, Int.reduceNeg, Int.reduceAdd, Int.reduceSub, Int.reduceMul, Int.reduceEq, Int.reduceLT, Int.reduceLE, Int.reduceNe, forall_const, forall_eq', forall_eq, List.forall_mem_cons, List.not_mem_nil]
  refine fresh_i fun T hT => ?_
  simp only [g0, wf_preprocess, ↓reduceIte, Nat.reduceEqDiff, reduceCtorEq, Nat.reduceAdd, Nat.reduceMul, Nat.reduceLeDiff, Nat.reduceLT, Nat.reduceSub, Int.reduceToNat, Int.reduceNeg, Int.reduceAdd, Int.reduceSub, Int.reduceMul, Int.reduceEq, Int.reduceLT, Int.reduceLE, Int.reduceNe, forall_const, forall_eq', forall_eq, List.forall_mem_cons, List.not_mem_nil]
  have hel : L.map (fun p => AV.agg (nv p)) = els (some 2) (L.map nv) := by simp [els, mk1, Function.comp_def]
  have hok : rowsOk (some 2) (L.map nv) := fun c hc => by
    obtain ⟨p, _, rfl⟩ := List.mem_map.1 hc
    exact ⟨rfl, rfl⟩
  have he : Ext [] m ((T, AObj.cells [.lst [] .nil]) :: m) := .new hT
  have hgT : get T ((T, AObj.cells [.lst [] .nil]) :: m) = some (.cells [.lst [] .nil]) := get_new
  obtain ⟨o, rfl, _⟩ := id hI
  refine app_bufG (k := some 2) (css := []) (c2 := L.map nv) BufG.nil (fun c hc => by simp at hc) (by show some _ = _; rw [hel]) hok (by simp; omega) (by rw [maxLen_e]; simp; omega) fun v' m1 h1 h2 h3 => ?_
  rcases h1 with ⟨e, _⟩ | ⟨id, cap, rest, rfl, a1, a2, a3, a4, a5⟩
  · exact absurd (List.map_eq_nil_iff.1 (show L.map nv = [] from e)) hne
  · rw [List.nil_append] at a5
    have hgT1 := h2 _ _ hgT (by simp [refs])
    have hidT : id ≠ T := fun e => by
      rcases h3 with h3 | h3
      · cases h3
      · exact h3 id (by simp [refs]) (by rw [e]; exact mem_keys hgT)
    have hgi : get id m1 = some (.cells (nc L ++ rest)) := a5
    simp only [List.nil_append, List.length_map, hgT1, wf_preprocess, ↓reduceIte, Nat.reduceEqDiff, reduceCtorEq, Nat.reduceAdd, Nat.reduceMul, Nat.reduceLeDiff, Nat.reduceLT, Nat.reduceSub, Int.reduceToNat, Int.reduceNeg, Int.reduceAdd, Int.reduceSub, Int.reduceMul, Int.reduceEq, Int.reduceLT, Int.reduceLE, Int.reduceNe, forall_const, forall_eq', forall_eq, List.forall_mem_cons, List.not_mem_nil]
    refine k _ _ T c0 (by omega) ⟨id, cap, [], rest, get_put hgT1, ?_, fun e => hidT e.symm⟩ ?_ ?_ ?_
    · rw [get_put_ne hidT]; exact hgi
    · exact (he.trans (by simpa [refs] using h2)).fresh (.put (S := [T]) (by simp)) fun x hx => .inr (by
        simp only [List.mem_singleton] at hx
        subst hx
        exact hT)
    · simp only [g0, wf_preprocess, ↓reduceIte, Nat.reduceEqDiff, reduceCtorEq, Nat.reduceAdd, Nat.reduceMul, Nat.reduceLeDiff, Nat.reduceLT, Nat.reduceSub, Int.reduceToNat, Int.reduceNeg, Int.reduceAdd, Int.reduceSub, Int.reduceMul, Int.reduceEq, Int.reduceLT, Int.reduceLE, Int.reduceNe, forall_const, forall_eq', forall_eq, List.forall_mem_cons, List.not_mem_nil]
    · simp only [wf_preprocess, ↓reduceIte, Nat.reduceEqDiff, reduceCtorEq, Nat.reduceAdd, Nat.reduceMul, Nat.reduceLeDiff, Nat.reduceLT, Nat.reduceSub, Int.reduceToNat, Int.reduceNeg, Int.reduceAdd, Int.reduceSub, Int.reduceMul, Int.reduceEq, Int.reduceLT, Int.reduceLE, Int.reduceNe, forall_const, forall_eq', forall_eq, List.forall_mem_cons, List.not_mem_nil]
/-- What a loop over the members may end in. -/
def Ends5 (L : List Nd) (m0 : Heap) (Kr : Cont) : Prop := ∀ ρ' m' s i, BadAt L s i → Ext [] m0 m' → ρ' 2 = .sc (.pointer none) → ρ' 3 = iv i → ρ' 4 = iv (chk L s i) → Kr ρ' m'
theorem rn_b (hI : Inp y L) (hl : L.length ≤ 32) (h : Nds L m T) (he : Ext [] m0 m) (g0 : ρ 0 = y) (g5 : ρ 5 = .ptr T 0) (kr : Ends5 L m0 Kr)
    (k : ∀ ρ' m', (∀ j, j < L.length → chk L 0 j = 0) → Nds L m' T → Ext [] m0 m' → ρ' 0 = y → ρ' 5 = .ptr T 0 → vc Try.prog E C Kn Kx Kr ρ' m') : vc Try.prog E (d9b C) Kn Kx Kr ρ m := by
  obtain ⟨o, rfl, _⟩ := id hI
  simp only [d9b, wf_preprocess, ↓reduceIte, Nat.reduceEqDiff, reduceCtorEq, Nat.reduceAdd, Nat.reduceMul, Nat.reduceLeDiff, Nat.reduceLT, Nat.reduceSub, Int.reduceToNat, Int.reduceNeg, Int.reduceAdd, Int.reduceSub, Int.reduceMul, Int.reduceEq, Int.reduceLT, Int.reduceLE, Int.reduceNe, forall_const, forall_eq', forall_eq, List.forall_mem_cons, List.not_mem_nil]
  refine loop_i (fun kk ρ m' => ∃ (i : Nat), kk = L.length - i ∧ i ≤ L.length ∧ (∀ j, j < i → chk L 0 j = 0) ∧ ρ 0 = .lst (L.map fun p => .agg (nv p)) o ∧ ρ 5 = .ptr T 0 ∧ ρ 6 = iv i ∧ m' = m) L.length ⟨0, rfl, by omega, fun j hj => by omega, ?_⟩ ?_
  · simp only [g0, g5, wf_preprocess, ↓reduceIte, Nat.reduceEqDiff, reduceCtorEq, Nat.reduceAdd, Nat.reduceMul, Nat.reduceLeDiff, Nat.reduceLT, Nat.reduceSub, Int.reduceToNat, Int.reduceNeg, Int.reduceAdd, Int.reduceSub, Int.reduceMul, Int.reduceEq, Int.reduceLT, Int.reduceLE, Int.reduceNe, forall_const, forall_eq', forall_eq, List.forall_mem_cons, List.not_mem_nil]
  rintro kk ρ m1 ⟨i, rfl, hi, hb, k0, k5, k6, rfl⟩
  by_cases hin : (i : Int) < (L.length : Int)
  · obtain ⟨p, hp⟩ : ∃ p, L[i]? = some p := ⟨_, List.getElem?_eq_getElem (by omega)⟩
    have w1 : IntKind.i64.wrap ((i : Int) + 1) = ((i + 1 : Nat) : Int) := wrap64 (by omega) (by omega)
    have hc := chk0 (L := L) (i := i)
    rw [nameA_at hp] at hc
    simp only [k0, k5, k6, hin, List.length_map, Int.natCast_nonneg, nv, inp_at (o := o) hp, wf_preprocess, ↓reduceIte, Nat.reduceEqDiff, reduceCtorEq, Nat.reduceAdd, Nat.reduceMul, Nat.reduceLeDiff, Nat.reduceLT, Nat.reduceSub, Int.reduceToNat, Int.reduceNeg, Int.reduceAdd, Int.reduceSub, Int.reduceMul, Int.reduceEq, Int.reduceLT, Int.reduceLE, Int.reduceNe, forall_const, forall_eq', forall_eq, List.forall_mem_cons, List.not_mem_nil]
    refine call_i (rtName_s ?_)
    cases hn : nmB p.1
    · rw [hn] at hc
      simp only [k0, k5, k6, wf_preprocess, ↓reduceIte, Nat.reduceEqDiff, reduceCtorEq, Nat.reduceAdd, Nat.reduceMul, Nat.reduceLeDiff, Nat.reduceLT, Nat.reduceSub, Int.reduceToNat, Int.reduceNeg, Int.reduceAdd, Int.reduceSub, Int.reduceMul, Int.reduceEq, Int.reduceLT, Int.reduceLE, Int.reduceNe, forall_const, forall_eq', forall_eq, List.forall_mem_cons, List.not_mem_nil]
      have hc3 : chk L 0 i = 3 := hc
      refine kr _ m1 0 i ⟨by omega, by omega, by omega, fun s' hs => by omega, hb⟩ he ?_ ?_ ?_ <;> simp only [hc3, wf_preprocess, ↓reduceIte, Nat.reduceEqDiff, reduceCtorEq, Nat.reduceAdd, Nat.reduceMul, Nat.reduceLeDiff, Nat.reduceLT, Nat.reduceSub, Int.reduceToNat, Int.reduceNeg, Int.reduceAdd, Int.reduceSub, Int.reduceMul, Int.reduceEq, Int.reduceLT, Int.reduceLE, Int.reduceNe, forall_const, forall_eq', forall_eq, List.forall_mem_cons, List.not_mem_nil]
      rfl
    · rw [hn] at hc
      simp only [k0, k5, k6, w1, wf_preprocess, ↓reduceIte, Nat.reduceEqDiff, reduceCtorEq, Nat.reduceAdd, Nat.reduceMul, Nat.reduceLeDiff, Nat.reduceLT, Nat.reduceSub, Int.reduceToNat, Int.reduceNeg, Int.reduceAdd, Int.reduceSub, Int.reduceMul, Int.reduceEq, Int.reduceLT, Int.reduceLE, Int.reduceNe, forall_const, forall_eq', forall_eq, List.forall_mem_cons, List.not_mem_nil]
      refine ⟨L.length - (i + 1), by omega, i + 1, rfl, by omega, fun j hj => ?_, rfl⟩
      by_cases e : j = i
      · subst e; exact hc
      · exact hb j (by omega)
  · obtain rfl : i = L.length := by omega
    simp only [k0, k5, k6, hin, List.length_map, wf_preprocess, ↓reduceIte, Nat.reduceEqDiff, reduceCtorEq, Nat.reduceAdd, Nat.reduceMul, Nat.reduceLeDiff, Nat.reduceLT, Nat.reduceSub, Int.reduceToNat, Int.reduceNeg, Int.reduceAdd, Int.reduceSub, Int.reduceMul, Int.reduceEq, Int.reduceLT, Int.reduceLE, Int.reduceNe, forall_const, forall_eq', forall_eq, List.forall_mem_cons, List.not_mem_nil]
    refine k _ m1 hb h he ?_ ?_ <;> simp only [k0, k5, wf_preprocess, ↓reduceIte, Nat.reduceEqDiff, reduceCtorEq, Nat.reduceAdd, Nat.reduceMul, Nat.reduceLeDiff, Nat.reduceLT, Nat.reduceSub, Int.reduceToNat, Int.reduceNeg, Int.reduceAdd, Int.reduceSub, Int.reduceMul, Int.reduceEq, Int.reduceLT, Int.reduceLE, Int.reduceNe, forall_const, forall_eq', forall_eq, List.forall_mem_cons, List.not_mem_nil]
theorem rn_c (hI : Inp y L) (hl : L.length ≤ 32) (h : Nds L m T) (he : Ext [] m0 m) (g0 : ρ 0 = y) (g5 : ρ 5 = .ptr T 0) (kr : Ends5 L m0 Kr) (p0 : ∀ s', s' < 1 → ∀ j, j < L.length → chk L s' j = 0)
    (k : ∀ ρ' m', (∀ s', s' < 2 → ∀ j, j < L.length → chk L s' j = 0) → Nds L m' T → Ext [] m0 m' → ρ' 0 = y → ρ' 5 = .ptr T 0 → vc Try.prog E C Kn Kx Kr ρ' m') : vc Try.prog E (d9c C) Kn Kx Kr ρ m := by
  obtain ⟨o, rfl, _⟩ := id hI
  simp only [d9c, wf_preprocess, ↓reduceIte, Nat.reduceEqDiff, reduceCtorEq, Nat.reduceAdd, Nat.reduceMul, Nat.reduceLeDiff, Nat.reduceLT, Nat.reduceSub, Int.reduceToNat, Int.reduceNeg, Int.reduceAdd, Int.reduceSub, Int.reduceMul, Int.reduceEq, Int.reduceLT, Int.reduceLE, Int.reduceNe, forall_const, forall_eq', forall_eq, List.forall_mem_cons, List.not_mem_nil]
  refine loop_i (fun kk ρ m' => ∃ (i : Nat), kk = L.length - i ∧ i ≤ L.length ∧ (∀ j, j < i → chk L 1 j = 0) ∧ ρ 0 = .lst (L.map fun p => .agg (nv p)) o ∧ ρ 5 = .ptr T 0 ∧ ρ 7 = iv i ∧ m' = m) L.length ⟨0, rfl, by omega, fun j hj => by omega, ?_⟩ ?_
  · simp only [g0, g5, wf_preprocess, ↓reduceIte, Nat.reduceEqDiff, reduceCtorEq, Nat.reduceAdd, Nat.reduceMul, Nat.reduceLeDiff, Nat.reduceLT, Nat.reduceSub, Int.reduceToNat, Int.reduceNeg, Int.reduceAdd, Int.reduceSub, Int.reduceMul, Int.reduceEq, Int.reduceLT, Int.reduceLE, Int.reduceNe, forall_const, forall_eq', forall_eq, List.forall_mem_cons, List.not_mem_nil]
  rintro kk ρ m1 ⟨i, rfl, hi, hb, k0, k5, k7, rfl⟩
  by_cases hin : (i : Int) < (L.length : Int)
  · obtain ⟨p, hp⟩ : ∃ p, L[i]? = some p := ⟨_, List.getElem?_eq_getElem (by omega)⟩
    have w1 : IntKind.i64.wrap ((i : Int) + 1) = ((i + 1 : Nat) : Int) := wrap64 (by omega) (by omega)
    have htw := twice_iff hp
    simp only [k0, k5, k7, hin, List.length_map, Int.natCast_nonneg, nv, inp_at (o := o) hp, wf_preprocess, ↓reduceIte, Nat.reduceEqDiff, reduceCtorEq, Nat.reduceAdd, Nat.reduceMul, Nat.reduceLeDiff, Nat.reduceLT, Nat.reduceSub, Int.reduceToNat, Int.reduceNeg, Int.reduceAdd, Int.reduceSub, Int.reduceMul, Int.reduceEq, Int.reduceLT, Int.reduceLE, Int.reduceNe, forall_const, forall_eq', forall_eq, List.forall_mem_cons, List.not_mem_nil]
    refine call_i (rFind_s h (by omega) ?_)
    by_cases c : chk L 1 i = 0
    · have c' : ¬ fndI L p.1 < (i : Int) := by rw [htw]; exact fun h => h c
      simp only [k0, k5, k7, c', w1, wf_preprocess, ↓reduceIte, Nat.reduceEqDiff, reduceCtorEq, Nat.reduceAdd, Nat.reduceMul, Nat.reduceLeDiff, Nat.reduceLT, Nat.reduceSub, Int.reduceToNat, Int.reduceNeg, Int.reduceAdd, Int.reduceSub, Int.reduceMul, Int.reduceEq, Int.reduceLT, Int.reduceLE, Int.reduceNe, forall_const, forall_eq', forall_eq, List.forall_mem_cons, List.not_mem_nil]
      refine ⟨L.length - (i + 1), by omega, i + 1, rfl, by omega, fun j hj => ?_, rfl⟩
      by_cases e : j = i
      · subst e; exact c
      · exact hb j (by omega)
    · have c' : fndI L p.1 < (i : Int) := by rw [htw]; exact c
      have hc4 : chk L 1 i = 4 := by
        have := chk1 (L := L) (i := i)
        split at this
        · exact this
        · exact absurd this c
      simp only [k0, k5, k7, c', wf_preprocess, ↓reduceIte, Nat.reduceEqDiff, reduceCtorEq, Nat.reduceAdd, Nat.reduceMul, Nat.reduceLeDiff, Nat.reduceLT, Nat.reduceSub, Int.reduceToNat, Int.reduceNeg, Int.reduceAdd, Int.reduceSub, Int.reduceMul, Int.reduceEq, Int.reduceLT, Int.reduceLE, Int.reduceNe, forall_const, forall_eq', forall_eq, List.forall_mem_cons, List.not_mem_nil]
      refine kr _ m1 1 i ⟨by omega, by omega, c, p0, hb⟩ he ?_ ?_ ?_ <;> simp only [hc4, wf_preprocess, ↓reduceIte, Nat.reduceEqDiff, reduceCtorEq, Nat.reduceAdd, Nat.reduceMul, Nat.reduceLeDiff, Nat.reduceLT, Nat.reduceSub, Int.reduceToNat, Int.reduceNeg, Int.reduceAdd, Int.reduceSub, Int.reduceMul, Int.reduceEq, Int.reduceLT, Int.reduceLE, Int.reduceNe, forall_const, forall_eq', forall_eq, List.forall_mem_cons, List.not_mem_nil]
      rfl
  · obtain rfl : i = L.length := by omega
    simp only [k0, k5, k7, hin, List.length_map, wf_preprocess, ↓reduceIte, Nat.reduceEqDiff, reduceCtorEq, Nat.reduceAdd, Nat.reduceMul, Nat.reduceLeDiff, Nat.reduceLT, Nat.reduceSub, Int.reduceToNat, Int.reduceNeg, Int.reduceAdd, Int.reduceSub, Int.reduceMul, Int.reduceEq, Int.reduceLT, Int.reduceLE, Int.reduceNe, forall_const, forall_eq', forall_eq, List.forall_mem_cons, List.not_mem_nil]
    refine k _ m1 (fun s' hs => ?_) h he ?_ ?_
    · rcases Nat.lt_or_ge s' 1 with e | e
      · exact p0 s' e
      · obtain rfl : s' = 1 := by omega
        exact hb
    · simp only [k0, wf_preprocess, ↓reduceIte, Nat.reduceEqDiff, reduceCtorEq, Nat.reduceAdd, Nat.reduceMul, Nat.reduceLeDiff, Nat.reduceLT, Nat.reduceSub, Int.reduceToNat, Int.reduceNeg, Int.reduceAdd, Int.reduceSub, Int.reduceMul, Int.reduceEq, Int.reduceLT, Int.reduceLE, Int.reduceNe, forall_const, forall_eq', forall_eq, List.forall_mem_cons, List.not_mem_nil]
    · simp only [k5, wf_preprocess, ↓reduceIte, Nat.reduceEqDiff, reduceCtorEq, Nat.reduceAdd, Nat.reduceMul, Nat.reduceLeDiff, Nat.reduceLT, Nat.reduceSub, Int.reduceToNat, Int.reduceNeg, Int.reduceAdd, Int.reduceSub, Int.reduceMul, Int.reduceEq, Int.reduceLT, Int.reduceLE, Int.reduceNe, forall_const, forall_eq', forall_eq, List.forall_mem_cons, List.not_mem_nil]
theorem rn_d (hI : Inp y L) (hl : L.length ≤ 32) (h : Nds L m T) (he : Ext [] m0 m) (g0 : ρ 0 = y) (g5 : ρ 5 = .ptr T 0) (kr : Ends5 L m0 Kr) (p0 : ∀ s', s' < 2 → ∀ j, j < L.length → chk L s' j = 0)
    (k : ∀ ρ' m', (∀ s', s' < 3 → ∀ j, j < L.length → chk L s' j = 0) → Nds L m' T → Ext [] m0 m' → ρ' 0 = y → ρ' 5 = .ptr T 0 → vc Try.prog E C Kn Kx Kr ρ' m') : vc Try.prog E (d9d C) Kn Kx Kr ρ m := by
  obtain ⟨o, rfl, _⟩ := id hI
  simp only [d9d, wf_preprocess, ↓reduceIte, Nat.reduceEqDiff, reduceCtorEq, Nat.reduceAdd, Nat.reduceMul, Nat.reduceLeDiff, Nat.reduceLT, Nat.reduceSub, Int.reduceToNat, Int.reduceNeg, Int.reduceAdd, Int.reduceSub, Int.reduceMul, Int.reduceEq, Int.reduceLT, Int.reduceLE, Int.reduceNe, forall_const, forall_eq', forall_eq, List.forall_mem_cons, List.not_mem_nil]
  refine loop_i (fun kk ρ m' => ∃ (i : Nat), kk = L.length - i ∧ i ≤ L.length ∧ (∀ j, j < i → chk L 2 j = 0) ∧ ρ 0 = .lst (L.map fun p => .agg (nv p)) o ∧ ρ 5 = .ptr T 0 ∧ ρ 8 = iv i ∧ m' = m) L.length ⟨0, rfl, by omega, fun j hj => by omega, ?_⟩ ?_
  · simp only [g0, g5, wf_preprocess, ↓reduceIte, Nat.reduceEqDiff, reduceCtorEq, Nat.reduceAdd, Nat.reduceMul, Nat.reduceLeDiff, Nat.reduceLT, Nat.reduceSub, Int.reduceToNat, Int.reduceNeg, Int.reduceAdd, Int.reduceSub, Int.reduceMul, Int.reduceEq, Int.reduceLT, Int.reduceLE, Int.reduceNe, forall_const, forall_eq', forall_eq, List.forall_mem_cons, List.not_mem_nil]
  rintro kk ρ m1 ⟨i, rfl, hi, hb, k0, k5, k8, rfl⟩
  by_cases hin : (i : Int) < (L.length : Int)
  · obtain ⟨p, hp⟩ : ∃ p, L[i]? = some p := ⟨_, List.getElem?_eq_getElem (by omega)⟩
    have w1 : IntKind.i64.wrap ((i : Int) + 1) = ((i + 1 : Nat) : Int) := wrap64 (by omega) (by omega)
    have hc := chk2 (L := L) (i := i)
    rw [upA_at hp] at hc
    by_cases c2 : p.2 < -1
    · rw [if_pos (.inl c2)] at hc
      simp only [k0, k5, k8, hin, List.length_map, Int.natCast_nonneg, nv, inp_at (o := o) hp, c2, wf_preprocess, ↓reduceIte, Nat.reduceEqDiff, reduceCtorEq, Nat.reduceAdd, Nat.reduceMul, Nat.reduceLeDiff, Nat.reduceLT, Nat.reduceSub, Int.reduceToNat, Int.reduceNeg, Int.reduceAdd, Int.reduceSub, Int.reduceMul, Int.reduceEq, Int.reduceLT, Int.reduceLE, Int.reduceNe, forall_const, forall_eq', forall_eq, List.forall_mem_cons, List.not_mem_nil]
      refine kr _ m1 2 i ⟨by omega, by omega, by omega, p0, hb⟩ he ?_ ?_ ?_ <;> simp only [hc, wf_preprocess, ↓reduceIte, Nat.reduceEqDiff, reduceCtorEq, Nat.reduceAdd, Nat.reduceMul, Nat.reduceLeDiff, Nat.reduceLT, Nat.reduceSub, Int.reduceToNat, Int.reduceNeg, Int.reduceAdd, Int.reduceSub, Int.reduceMul, Int.reduceEq, Int.reduceLT, Int.reduceLE, Int.reduceNe, forall_const, forall_eq', forall_eq, List.forall_mem_cons, List.not_mem_nil]
      rfl
    · by_cases c3 : (L.length : Int) ≤ p.2
      · rw [if_pos (.inr c3)] at hc
        simp only [k0, k5, k8, hin, List.length_map, Int.natCast_nonneg, nv, inp_at (o := o) hp, c2, c3, wf_preprocess, ↓reduceIte, Nat.reduceEqDiff, reduceCtorEq, Nat.reduceAdd, Nat.reduceMul, Nat.reduceLeDiff, Nat.reduceLT, Nat.reduceSub, Int.reduceToNat, Int.reduceNeg, Int.reduceAdd, Int.reduceSub, Int.reduceMul, Int.reduceEq, Int.reduceLT, Int.reduceLE, Int.reduceNe, forall_const, forall_eq', forall_eq, List.forall_mem_cons, List.not_mem_nil]
        refine kr _ m1 2 i ⟨by omega, by omega, by omega, p0, hb⟩ he ?_ ?_ ?_ <;> simp only [hc, wf_preprocess, ↓reduceIte, Nat.reduceEqDiff, reduceCtorEq, Nat.reduceAdd, Nat.reduceMul, Nat.reduceLeDiff, Nat.reduceLT, Nat.reduceSub, Int.reduceToNat, Int.reduceNeg, Int.reduceAdd, Int.reduceSub, Int.reduceMul, Int.reduceEq, Int.reduceLT, Int.reduceLE, Int.reduceNe, forall_const, forall_eq', forall_eq, List.forall_mem_cons, List.not_mem_nil]
        rfl
      · rw [if_neg (by omega)] at hc
        simp only [k0, k5, k8, hin, List.length_map, Int.natCast_nonneg, nv, inp_at (o := o) hp, c2, c3, w1, wf_preprocess, ↓reduceIte, Nat.reduceEqDiff, reduceCtorEq, Nat.reduceAdd, Nat.reduceMul, Nat.reduceLeDiff, Nat.reduceLT, Nat.reduceSub, Int.reduceToNat, Int.reduceNeg, Int.reduceAdd, Int.reduceSub, Int.reduceMul, Int.reduceEq, Int.reduceLT, Int.reduceLE, Int.reduceNe, forall_const, forall_eq', forall_eq, List.forall_mem_cons, List.not_mem_nil]
        refine ⟨L.length - (i + 1), by omega, i + 1, rfl, by omega, fun j hj => ?_, rfl⟩
        by_cases e : j = i
        · subst e; exact hc
        · exact hb j (by omega)
  · obtain rfl : i = L.length := by omega
    simp only [k0, k5, k8, hin, List.length_map, wf_preprocess, ↓reduceIte, Nat.reduceEqDiff, reduceCtorEq, Nat.reduceAdd, Nat.reduceMul, Nat.reduceLeDiff, Nat.reduceLT, Nat.reduceSub, Int.reduceToNat, Int.reduceNeg, Int.reduceAdd, Int.reduceSub, Int.reduceMul, Int.reduceEq, Int.reduceLT, Int.reduceLE, Int.reduceNe, forall_const, forall_eq', forall_eq, List.forall_mem_cons, List.not_mem_nil]
    refine k _ m1 (fun s' hs => ?_) h he ?_ ?_
    · rcases Nat.lt_or_ge s' 2 with e | e
      · exact p0 s' e
      · obtain rfl : s' = 2 := by omega
        exact hb
    · simp only [k0, wf_preprocess, ↓reduceIte, Nat.reduceEqDiff, reduceCtorEq, Nat.reduceAdd, Nat.reduceMul, Nat.reduceLeDiff, Nat.reduceLT, Nat.reduceSub, Int.reduceToNat, Int.reduceNeg, Int.reduceAdd, Int.reduceSub, Int.reduceMul, Int.reduceEq, Int.reduceLT, Int.reduceLE, Int.reduceNe, forall_const, forall_eq', forall_eq, List.forall_mem_cons, List.not_mem_nil]
    · simp only [k5, wf_preprocess, ↓reduceIte, Nat.reduceEqDiff, reduceCtorEq, Nat.reduceAdd, Nat.reduceMul, Nat.reduceLeDiff, Nat.reduceLT, Nat.reduceSub, Int.reduceToNat, Int.reduceNeg, Int.reduceAdd, Int.reduceSub, Int.reduceMul, Int.reduceEq, Int.reduceLT, Int.reduceLE, Int.reduceNe, forall_const, forall_eq', forall_eq, List.forall_mem_cons, List.not_mem_nil]
theorem rn_e (hI : Inp y L) (hl : L.length ≤ 32) (h : Nds L m T) (he : Ext [] m0 m) (g0 : ρ 0 = y) (g5 : ρ 5 = .ptr T 0) (kr : Ends5 L m0 Kr) (p0 : ∀ s', s' < 3 → ∀ j, j < L.length → chk L s' j = 0)
    (k : ∀ ρ' m', (∀ s', s' < 4 → ∀ j, j < L.length → chk L s' j = 0) → Nds L m' T → Ext [] m0 m' → ρ' 0 = y → ρ' 5 = .ptr T 0 → vc Try.prog E C Kn Kx Kr ρ' m') : vc Try.prog E (d9e C) Kn Kx Kr ρ m := by
  have hr := rng_of (p0 2 (by decide))
  obtain ⟨o, rfl, _⟩ := id hI
  simp only [d9e, wf_preprocess, ↓reduceIte, Nat.reduceEqDiff, reduceCtorEq, Nat.reduceAdd, Nat.reduceMul, Nat.reduceLeDiff, Nat.reduceLT, Nat.reduceSub, Int.reduceToNat, Int.reduceNeg, Int.reduceAdd, Int.reduceSub, Int.reduceMul, Int.reduceEq, Int.reduceLT, Int.reduceLE, Int.reduceNe, forall_const, forall_eq', forall_eq, List.forall_mem_cons, List.not_mem_nil]
  refine loop_i (fun kk ρ m' => ∃ (i : Nat), kk = L.length - i ∧ i ≤ L.length ∧ (∀ j, j < i → chk L 3 j = 0) ∧ ρ 0 = .lst (L.map fun p => .agg (nv p)) o ∧ ρ 5 = .ptr T 0 ∧ ρ 9 = iv i ∧ m' = m) L.length ⟨0, rfl, by omega, fun j hj => by omega, ?_⟩ ?_
  · simp only [g0, g5, wf_preprocess, ↓reduceIte, Nat.reduceEqDiff, reduceCtorEq, Nat.reduceAdd, Nat.reduceMul, Nat.reduceLeDiff, Nat.reduceLT, Nat.reduceSub, Int.reduceToNat, Int.reduceNeg, Int.reduceAdd, Int.reduceSub, Int.reduceMul, Int.reduceEq, Int.reduceLT, Int.reduceLE, Int.reduceNe, forall_const, forall_eq', forall_eq, List.forall_mem_cons, List.not_mem_nil]
  rintro kk ρ m1 ⟨i, rfl, hi, hb, k0, k5, k9, rfl⟩
  by_cases hin : (i : Int) < (L.length : Int)
  · obtain ⟨p, hp⟩ : ∃ p, L[i]? = some p := ⟨_, List.getElem?_eq_getElem (by omega)⟩
    have w1 : IntKind.i64.wrap ((i : Int) + 1) = ((i + 1 : Nat) : Int) := wrap64 (by omega) (by omega)
    have hc := chk3 (L := L) (i := i)
    rw [upA_at hp] at hc
    have hup := hr p (List.mem_of_getElem? hp)
    simp only [k0, k5, k9, hin, List.length_map, Int.natCast_nonneg, nv, inp_at (o := o) hp, wf_preprocess, ↓reduceIte, Nat.reduceEqDiff, reduceCtorEq, Nat.reduceAdd, Nat.reduceMul, Nat.reduceLeDiff, Nat.reduceLT, Nat.reduceSub, Int.reduceToNat, Int.reduceNeg, Int.reduceAdd, Int.reduceSub, Int.reduceMul, Int.reduceEq, Int.reduceLT, Int.reduceLE, Int.reduceNe, forall_const, forall_eq', forall_eq, List.forall_mem_cons, List.not_mem_nil]
    refine loop_i (fun kk ρ m' => ∃ (j : Nat) (c : Int), kk = L.length - j ∧ j ≤ L.length ∧ c < L.length ∧ lpF L i L.length p.2 = lpF L i (L.length - j) c ∧ ρ 0 = .lst (L.map fun p => .agg (nv p)) o ∧ ρ 5 = .ptr T 0 ∧ ρ 9 = iv i ∧ ρ 10 = iv c ∧ ρ 11 = iv j ∧ m' = m1) L.length ⟨0, p.2, rfl, by omega, by omega, rfl, ?_⟩ ?_
    · simp only [k0, k5, k9, nv, wf_preprocess, ↓reduceIte, Nat.reduceEqDiff, reduceCtorEq, Nat.reduceAdd, Nat.reduceMul, Nat.reduceLeDiff, Nat.reduceLT, Nat.reduceSub, Int.reduceToNat, Int.reduceNeg, Int.reduceAdd, Int.reduceSub, Int.reduceMul, Int.reduceEq, Int.reduceLT, Int.reduceLE, Int.reduceNe, forall_const, forall_eq', forall_eq, List.forall_mem_cons, List.not_mem_nil]
    rintro kk ρ m2 ⟨j, c, rfl, hj, hcl, hee, j0, j5, j9, j10, j11, rfl⟩
    have done : chk L 3 i = 0 → ∃ k', k' < L.length - i ∧ ∃ i', k' = L.length - i' ∧ i' ≤ L.length ∧ (∀ j, j < i' → chk L 3 j = 0) ∧ iv ((i + 1 : Nat) : Int) = iv i' := fun hz => ⟨L.length - (i + 1), by omega, i + 1, rfl, by omega, fun j hj => by
      by_cases e : j = i
      · subst e; exact hz
      · exact hb j (by omega), rfl⟩
    by_cases hjn : (j : Int) < (L.length : Int)
    · obtain ⟨r', hr'⟩ : ∃ r', L.length - j = r' + 1 := ⟨L.length - j - 1, by omega⟩
      rw [hr', lpF] at hee
      by_cases c2 : c < 0
      · rw [if_pos c2] at hee
        rw [hee] at hc
        have c2' : ¬ (0 : Int) ≤ c := by omega
        simp only [j0, j5, j9, j10, j11, hjn, List.length_map, c2', w1, wf_preprocess, ↓reduceIte, Nat.reduceEqDiff, reduceCtorEq, Nat.reduceAdd, Nat.reduceMul, Nat.reduceLeDiff, Nat.reduceLT, Nat.reduceSub, Int.reduceToNat, Int.reduceNeg, Int.reduceAdd, Int.reduceSub, Int.reduceMul, Int.reduceEq, Int.reduceLT, Int.reduceLE, Int.reduceNe, forall_const, forall_eq', forall_eq, List.forall_mem_cons, List.not_mem_nil]
        exact done hc
      · rw [if_neg c2] at hee
        have c2' : (0 : Int) ≤ c := by omega
        by_cases c3 : c = (i : Int)
        · rw [if_pos c3] at hee
          rw [hee, if_pos rfl] at hc
          subst c3
          simp only [j0, j5, j9, j10, j11, hjn, List.length_map, c2', wf_preprocess, ↓reduceIte, Nat.reduceEqDiff, reduceCtorEq, Nat.reduceAdd, Nat.reduceMul, Nat.reduceLeDiff, Nat.reduceLT, Nat.reduceSub, Int.reduceToNat, Int.reduceNeg, Int.reduceAdd, Int.reduceSub, Int.reduceMul, Int.reduceEq, Int.reduceLT, Int.reduceLE, Int.reduceNe, forall_const, forall_eq', forall_eq, List.forall_mem_cons, List.not_mem_nil]
          refine kr _ m2 3 i ⟨by omega, by omega, by omega, p0, hb⟩ he ?_ ?_ ?_ <;> simp only [hc, wf_preprocess, ↓reduceIte, Nat.reduceEqDiff, reduceCtorEq, Nat.reduceAdd, Nat.reduceMul, Nat.reduceLeDiff, Nat.reduceLT, Nat.reduceSub, Int.reduceToNat, Int.reduceNeg, Int.reduceAdd, Int.reduceSub, Int.reduceMul, Int.reduceEq, Int.reduceLT, Int.reduceLE, Int.reduceNe, forall_const, forall_eq', forall_eq, List.forall_mem_cons, List.not_mem_nil]
          rfl
        · rw [if_neg c3] at hee
          obtain ⟨u, rfl⟩ := Int.eq_ofNat_of_zero_le c2'
          obtain ⟨q, hq⟩ : ∃ q, L[u]? = some q := ⟨_, List.getElem?_eq_getElem (by omega)⟩
          have hqr := hr q (List.mem_of_getElem? hq)
          have w2 : IntKind.i64.wrap ((j : Int) + 1) = ((j + 1 : Nat) : Int) := wrap64 (by omega) (by omega)
          rw [at_nat, hq] at hee
          simp only [j0, j5, j9, j10, j11, hjn, List.length_map, c2', c3, w2, Int.natCast_nonneg, nv, inp_at (o := o) hq, wf_preprocess, ↓reduceIte, Nat.reduceEqDiff, reduceCtorEq, Nat.reduceAdd, Nat.reduceMul, Nat.reduceLeDiff, Nat.reduceLT, Nat.reduceSub, Int.reduceToNat, Int.reduceNeg, Int.reduceAdd, Int.reduceSub, Int.reduceMul, Int.reduceEq, Int.reduceLT, Int.reduceLE, Int.reduceNe, forall_const, forall_eq', forall_eq, List.forall_mem_cons, List.not_mem_nil]
          refine ⟨L.length - (j + 1), by omega, j + 1, q.2, rfl, by omega, by omega, ?_, rfl, rfl⟩
          rw [hee, show L.length - (j + 1) = r' by omega]
          rfl
    · have : L.length - j = 0 := by omega
      rw [this] at hee
      rw [hee] at hc
      simp only [j0, j5, j9, j10, j11, hjn, List.length_map, w1, wf_preprocess, ↓reduceIte, Nat.reduceEqDiff, reduceCtorEq, Nat.reduceAdd, Nat.reduceMul, Nat.reduceLeDiff, Nat.reduceLT, Nat.reduceSub, Int.reduceToNat, Int.reduceNeg, Int.reduceAdd, Int.reduceSub, Int.reduceMul, Int.reduceEq, Int.reduceLT, Int.reduceLE, Int.reduceNe, forall_const, forall_eq', forall_eq, List.forall_mem_cons, List.not_mem_nil]
      exact done hc
  · obtain rfl : i = L.length := by omega
    simp only [k0, k5, k9, hin, List.length_map, wf_preprocess, ↓reduceIte, Nat.reduceEqDiff, reduceCtorEq, Nat.reduceAdd, Nat.reduceMul, Nat.reduceLeDiff, Nat.reduceLT, Nat.reduceSub, Int.reduceToNat, Int.reduceNeg, Int.reduceAdd, Int.reduceSub, Int.reduceMul, Int.reduceEq, Int.reduceLT, Int.reduceLE, Int.reduceNe, forall_const, forall_eq', forall_eq, List.forall_mem_cons, List.not_mem_nil]
    refine k _ m1 (fun s' hs => ?_) h he ?_ ?_
    · rcases Nat.lt_or_ge s' 3 with e | e
      · exact p0 s' e
      · obtain rfl : s' = 3 := by omega
        exact hb
    · simp only [k0, wf_preprocess, ↓reduceIte, Nat.reduceEqDiff, reduceCtorEq, Nat.reduceAdd, Nat.reduceMul, Nat.reduceLeDiff, Nat.reduceLT, Nat.reduceSub, Int.reduceToNat, Int.reduceNeg, Int.reduceAdd, Int.reduceSub, Int.reduceMul, Int.reduceEq, Int.reduceLT, Int.reduceLE, Int.reduceNe, forall_const, forall_eq', forall_eq, List.forall_mem_cons, List.not_mem_nil]
    · simp only [k5, wf_preprocess, ↓reduceIte, Nat.reduceEqDiff, reduceCtorEq, Nat.reduceAdd, Nat.reduceMul, Nat.reduceLeDiff, Nat.reduceLT, Nat.reduceSub, Int.reduceToNat, Int.reduceNeg, Int.reduceAdd, Int.reduceSub, Int.reduceMul, Int.reduceEq, Int.reduceLT, Int.reduceLE, Int.reduceNe, forall_const, forall_eq', forall_eq, List.forall_mem_cons, List.not_mem_nil]
theorem rn_f (hI : Inp y L) (hl : L.length ≤ 32) (h : Nds L m T) (he : Ext [] m0 m) (g0 : ρ 0 = y) (g5 : ρ 5 = .ptr T 0) (kr : Ends5 L m0 Kr) (p0 : ∀ s', s' < 4 → ∀ j, j < L.length → chk L s' j = 0)
    (k : ∀ ρ' m', AllOk L → Nds L m' T → Ext [] m0 m' → ρ' 0 = y → ρ' 5 = .ptr T 0 → vc Try.prog E C Kn Kx Kr ρ' m') : vc Try.prog E (d9f C) Kn Kx Kr ρ m := by
  have hf := fin_of (p0 3 (by decide))
  obtain ⟨o, rfl, _⟩ := id hI
  simp only [d9f, wf_preprocess, ↓reduceIte, Nat.reduceEqDiff, reduceCtorEq, Nat.reduceAdd, Nat.reduceMul, Nat.reduceLeDiff, Nat.reduceLT, Nat.reduceSub, Int.reduceToNat, Int.reduceNeg, Int.reduceAdd, Int.reduceSub, Int.reduceMul, Int.reduceEq, Int.reduceLT, Int.reduceLE, Int.reduceNe, forall_const, forall_eq', forall_eq, List.forall_mem_cons, List.not_mem_nil]
  refine loop_i (fun kk ρ m' => ∃ (i : Nat), kk = L.length - i ∧ i ≤ L.length ∧ (∀ j, j < i → chk L 4 j = 0) ∧ ρ 0 = .lst (L.map fun p => .agg (nv p)) o ∧ ρ 5 = .ptr T 0 ∧ ρ 12 = iv i ∧ Nds L m' T ∧ Ext [] m0 m') L.length ⟨0, rfl, by omega, fun j hj => by omega, ?_⟩ ?_
  · simp only [g0, g5, wf_preprocess, ↓reduceIte, Nat.reduceEqDiff, reduceCtorEq, Nat.reduceAdd, Nat.reduceMul, Nat.reduceLeDiff, Nat.reduceLT, Nat.reduceSub, Int.reduceToNat, Int.reduceNeg, Int.reduceAdd, Int.reduceSub, Int.reduceMul, Int.reduceEq, Int.reduceLT, Int.reduceLE, Int.reduceNe, forall_const, forall_eq', forall_eq, List.forall_mem_cons, List.not_mem_nil]
    exact ⟨h, he⟩
  rintro kk ρ m1 ⟨i, rfl, hi, hb, k0, k5, k12, hN, he1⟩
  by_cases hin : (i : Int) < (L.length : Int)
  · have w1 : IntKind.i64.wrap ((i : Int) + 1) = ((i + 1 : Nat) : Int) := wrap64 (by omega) (by omega)
    have hc := chk4 (L := L) (i := i)
    simp only [k0, k5, k12, hin, List.length_map, wf_preprocess, ↓reduceIte, Nat.reduceEqDiff, reduceCtorEq, Nat.reduceAdd, Nat.reduceMul, Nat.reduceLeDiff, Nat.reduceLT, Nat.reduceSub, Int.reduceToNat, Int.reduceNeg, Int.reduceAdd, Int.reduceSub, Int.reduceMul, Int.reduceEq, Int.reduceLT, Int.reduceLE, Int.reduceNe, forall_const, forall_eq', forall_eq, List.forall_mem_cons, List.not_mem_nil]
    refine call_i (rDepth_s hN hf (by omega) fun m2 he2 => ?_)
    by_cases c : 6 ≤ (ab L i).length - 1
    · have c' : (6 : Int) ≤ (((ab L i).length - 1 : Nat) : Int) := by omega
      rw [if_pos c] at hc
      simp only [k0, k5, k12, c', wf_preprocess, ↓reduceIte, Nat.reduceEqDiff, reduceCtorEq, Nat.reduceAdd, Nat.reduceMul, Nat.reduceLeDiff, Nat.reduceLT, Nat.reduceSub, Int.reduceToNat, Int.reduceNeg, Int.reduceAdd, Int.reduceSub, Int.reduceMul, Int.reduceEq, Int.reduceLT, Int.reduceLE, Int.reduceNe, forall_const, forall_eq', forall_eq, List.forall_mem_cons, List.not_mem_nil]
      refine kr _ m2 4 i ⟨by omega, by omega, by omega, p0, hb⟩ (he1.trans he2) ?_ ?_ ?_ <;> simp only [hc, wf_preprocess, ↓reduceIte, Nat.reduceEqDiff, reduceCtorEq, Nat.reduceAdd, Nat.reduceMul, Nat.reduceLeDiff, Nat.reduceLT, Nat.reduceSub, Int.reduceToNat, Int.reduceNeg, Int.reduceAdd, Int.reduceSub, Int.reduceMul, Int.reduceEq, Int.reduceLT, Int.reduceLE, Int.reduceNe, forall_const, forall_eq', forall_eq, List.forall_mem_cons, List.not_mem_nil]
      rfl
    · have c' : ¬ (6 : Int) ≤ (((ab L i).length - 1 : Nat) : Int) := by omega
      rw [if_neg c] at hc
      simp only [k0, k5, k12, c', w1, wf_preprocess, ↓reduceIte, Nat.reduceEqDiff, reduceCtorEq, Nat.reduceAdd, Nat.reduceMul, Nat.reduceLeDiff, Nat.reduceLT, Nat.reduceSub, Int.reduceToNat, Int.reduceNeg, Int.reduceAdd, Int.reduceSub, Int.reduceMul, Int.reduceEq, Int.reduceLT, Int.reduceLE, Int.reduceNe, forall_const, forall_eq', forall_eq, List.forall_mem_cons, List.not_mem_nil]
      refine ⟨L.length - (i + 1), by omega, i + 1, rfl, by omega, fun j hj => ?_, rfl, hN.ext he2, he1.trans he2⟩
      by_cases e : j = i
      · subst e; exact hc
      · exact hb j (by omega)
  · obtain rfl : i = L.length := by omega
    simp only [k0, k5, k12, hin, List.length_map, wf_preprocess, ↓reduceIte, Nat.reduceEqDiff, reduceCtorEq, Nat.reduceAdd, Nat.reduceMul, Nat.reduceLeDiff, Nat.reduceLT, Nat.reduceSub, Int.reduceToNat, Int.reduceNeg, Int.reduceAdd, Int.reduceSub, Int.reduceMul, Int.reduceEq, Int.reduceLT, Int.reduceLE, Int.reduceNe, forall_const, forall_eq', forall_eq, List.forall_mem_cons, List.not_mem_nil]
    refine k _ m1 (fun s' hs => ?_) hN he1 ?_ ?_
    · rcases Nat.lt_or_ge s' 4 with e | e
      · exact p0 s' e
      · obtain rfl : s' = 4 := by omega
        exact hb
    · simp only [k0, wf_preprocess, ↓reduceIte, Nat.reduceEqDiff, reduceCtorEq, Nat.reduceAdd, Nat.reduceMul, Nat.reduceLeDiff, Nat.reduceLT, Nat.reduceSub, Int.reduceToNat, Int.reduceNeg, Int.reduceAdd, Int.reduceSub, Int.reduceMul, Int.reduceEq, Int.reduceLT, Int.reduceLE, Int.reduceNe, forall_const, forall_eq', forall_eq, List.forall_mem_cons, List.not_mem_nil]
    · simp only [k5, wf_preprocess, ↓reduceIte, Nat.reduceEqDiff, reduceCtorEq, Nat.reduceAdd, Nat.reduceMul, Nat.reduceLeDiff, Nat.reduceLT, Nat.reduceSub, Int.reduceToNat, Int.reduceNeg, Int.reduceAdd, Int.reduceSub, Int.reduceMul, Int.reduceEq, Int.reduceLT, Int.reduceLE, Int.reduceNe, forall_const, forall_eq', forall_eq, List.forall_mem_cons, List.not_mem_nil]
theorem rNew_s (hI : Inp y L) (ks : L.length = 0 ∨ 32 < L.length → Q (.tup [.sc (.pointer none), iv 0, iv 5]) m) (kb : ∀ s i m', L.length ≠ 0 → L.length ≤ 32 → BadAt L s i → Ext [] m m' → Q (.tup [.sc (.pointer none), iv i, iv (chk L s i)]) m')
    (k : ∀ T m', Ok L → AllOk L → Nds L m' T → Ext [] m m' → Q (.tup [.ptr T 0, iv 0, iv 0]) m') : ACall Try.prog 9 [y] m Q E := by
  refine acall_fn mixed Try.func9 Try.call9 e9 r9 (Nat.le_of_ble_eq_true rfl) ?_
  rw [n_rNew]
  refine rn_a hI rfl (fun hh ρ' e2 e3 e4 => ?_) fun ρ1 m1 T c0 c1 h1 he1 g0 g5 => ?_
  · simp only [e2, e3, e4, wf_preprocess, ↓reduceIte, Nat.reduceEqDiff, reduceCtorEq, Nat.reduceAdd, Nat.reduceMul, Nat.reduceLeDiff, Nat.reduceLT, Nat.reduceSub, Int.reduceToNat, Int.reduceNeg, Int.reduceAdd, Int.reduceSub, Int.reduceMul, Int.reduceEq, Int.reduceLT, Int.reduceLE, Int.reduceNe, forall_const, forall_eq', forall_eq, List.forall_mem_cons, List.not_mem_nil]
    exact ks hh
  have hne : L ≠ [] := fun e => c0 (by rw [e]; rfl)
  have hend : Ends5 L m (fun (ρ : Regs) (m' : Heap) => Q (resAV [2, 3, 4] ρ) m') := fun ρ' m' s i hb he e2 e3 e4 => by
    simp only [e2, e3, e4, wf_preprocess, ↓reduceIte, Nat.reduceEqDiff, reduceCtorEq, Nat.reduceAdd, Nat.reduceMul, Nat.reduceLeDiff, Nat.reduceLT, Nat.reduceSub, Int.reduceToNat, Int.reduceNeg, Int.reduceAdd, Int.reduceSub, Int.reduceMul, Int.reduceEq, Int.reduceLT, Int.reduceLE, Int.reduceNe, forall_const, forall_eq', forall_eq, List.forall_mem_cons, List.not_mem_nil]
    exact kb s i m' c0 c1 hb he
  refine rn_b hI c1 h1 he1 g0 g5 hend fun ρ2 m2 q2 h2 he2 g0 g5 => ?_
  refine rn_c hI c1 h2 he2 g0 g5 hend (fun s' hs => by
    have e : s' = 0 := by omega
    subst e
    exact q2) fun ρ3 m3 q3 h3 he3 g0 g5 => ?_
  refine rn_d hI c1 h3 he3 g0 g5 hend q3 fun ρ4 m4 q4 h4 he4 g0 g5 => ?_
  refine rn_e hI c1 h4 he4 g0 g5 hend q4 fun ρ5 m5 q5 h5 he5 g0 g5 => ?_
  refine rn_f hI c1 h5 he5 g0 g5 hend q5 fun ρ6 m6 q6 h6 he6 g0 g5 => ?_
  simp only [d9g, g5, wf_preprocess, ↓reduceIte, Nat.reduceEqDiff, reduceCtorEq, Nat.reduceAdd, Nat.reduceMul, Nat.reduceLeDiff, Nat.reduceLT, Nat.reduceSub, Int.reduceToNat, Int.reduceNeg, Int.reduceAdd, Int.reduceSub, Int.reduceMul, Int.reduceEq, Int.reduceLT, Int.reduceLE, Int.reduceNe, forall_const, forall_eq', forall_eq, List.forall_mem_cons, List.not_mem_nil]
  exact k T m6 (ok_of hne c1 q6) q6 h6 he6
end
end Go.Proofs.Ytceahampebofbaa.Moi.Tree
