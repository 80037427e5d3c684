/- What functions of this program do, on plain values: a part of the proofs of this seat's laws; each theorem bears its own conditions. -/
import Derived.Test.YtjegieklpeipaaaShareI
set_option linter.unusedVariables false
set_option linter.unusedSimpArgs false
set_option maxRecDepth 1000000
namespace Go.Proofs.Ytjegieklpeipaaa.Moi.Share
open Go Go.RowKit Go.Proofs.Ytjegieklpeipaaa.Moi Go.Proofs.Ytjegieklpeipaaa.Moi.Num
attribute [-wf_preprocess] ite_eq_dite forIn_eq_forIn'

/-! ### The parts of the stable sort's small form, as it was printed -/
def d24a (T : NCode) : NCode :=
  .seq (.ops [
    ⟨(some 6), none, .op (.move (.k (i64 20))), []⟩])
  (.seq (.ops [
    ⟨(some 10), none, .op (.move (.r 6)), []⟩,
    ⟨(some 7), none, .op (.move (.k (i64 0))), []⟩,
    ⟨(some 8), none, .op (.move (.r 10)), []⟩])
  (.seq (.block 0 (.loop (.seq (.seq (.ops [
    ⟨(some 11), none, .op (.move (.r 8)), []⟩,
    ⟨(some 12), none, .op (.move (.r 1)), []⟩,
    ⟨(some 13), none, .op (.bin .leq .other (.r 11) (.r 12)), []⟩])
  (.cond (.r 13)
  (.skip)
  (.exit 0)))
  (.block 1 (.seq (.ops [
    ⟨(some 14), none, .op (.move (.r 0)), []⟩,
    ⟨(some 15), none, .op (.move (.r 7)), []⟩,
    ⟨(some 16), none, .op (.move (.r 8)), []⟩,
    ⟨(some 17), none, .op (.move (.r 2)), []⟩,
    ⟨(some 18), none, .call (.k (.clos 26 [])) [(.r 14), (.r 15), (.r 16), (.r 17)], []⟩])
  (.seq (.ops [
    ⟨(some 19), none, .op (.move (.r 8)), []⟩,
    ⟨(some 7), none, .op (.move (.r 19)), []⟩])
  (.ops [
    ⟨(some 20), none, .op (.move (.r 8)), []⟩,
    ⟨(some 21), none, .op (.move (.r 6)), []⟩,
    ⟨(some 22), none, .op (.bin .add .other (.r 20) (.r 21)), []⟩,
    ⟨(some 8), none, .op (.move (.r 22)), []⟩])))))))
  (.seq (.ops [
    ⟨(some 23), none, .op (.move (.r 0)), []⟩,
    ⟨(some 24), none, .op (.move (.r 7)), []⟩,
    ⟨(some 25), none, .op (.move (.r 1)), []⟩,
    ⟨(some 26), none, .op (.move (.r 2)), []⟩,
    ⟨(some 27), none, .call (.k (.clos 26 [])) [(.r 23), (.r 24), (.r 25), (.r 26)], []⟩])
  (T))))

def d24b : NCode :=
  .block 2 (.loop (.seq (.seq (.ops [
    ⟨(some 28), none, .op (.move (.r 6)), []⟩,
    ⟨(some 29), none, .op (.move (.r 1)), []⟩,
    ⟨(some 30), none, .op (.bin .lss .other (.r 28) (.r 29)), []⟩])
  (.cond (.r 30)
  (.skip)
  (.exit 2)))
  (.block 3 (.seq (.ops [
    ⟨(some 31), none, .op (.move (.r 6)), []⟩,
    ⟨(some 32), none, .op (.bin .mul .other (.k (i64 2)) (.r 31)), []⟩,
    ⟨(some 7), none, .op (.move (.k (i64 0))), []⟩,
    ⟨(some 8), none, .op (.move (.r 32)), []⟩])
  (.seq (.block 4 (.loop (.seq (.seq (.ops [
    ⟨(some 33), none, .op (.move (.r 8)), []⟩,
    ⟨(some 34), none, .op (.move (.r 1)), []⟩,
    ⟨(some 35), none, .op (.bin .leq .other (.r 33) (.r 34)), []⟩])
  (.cond (.r 35)
  (.skip)
  (.exit 4)))
  (.block 5 (.seq (.ops [
    ⟨(some 36), none, .op (.move (.r 0)), []⟩,
    ⟨(some 37), none, .op (.move (.r 7)), []⟩,
    ⟨(some 38), none, .op (.move (.r 7)), []⟩,
    ⟨(some 39), none, .op (.move (.r 6)), []⟩,
    ⟨(some 40), none, .op (.bin .add .other (.r 38) (.r 39)), []⟩,
    ⟨(some 41), none, .op (.move (.r 8)), []⟩,
    ⟨(some 42), none, .op (.move (.r 2)), []⟩,
    ⟨(some 43), none, .call (.k (.clos 27 [])) [(.r 36), (.r 37), (.r 40), (.r 41), (.r 42)], []⟩])
  (.seq (.ops [
    ⟨(some 44), none, .op (.move (.r 8)), []⟩,
    ⟨(some 7), none, .op (.move (.r 44)), []⟩])
  (.ops [
    ⟨(some 45), none, .op (.move (.r 8)), []⟩,
    ⟨(some 46), none, .op (.move (.r 6)), []⟩,
    ⟨(some 47), none, .op (.bin .mul .other (.k (i64 2)) (.r 46)), []⟩,
    ⟨(some 48), none, .op (.bin .add .other (.r 45) (.r 47)), []⟩,
    ⟨(some 8), none, .op (.move (.r 48)), []⟩])))))))
  (.seq (.seq (.ops [
    ⟨(some 49), none, .op (.move (.r 7)), []⟩,
    ⟨(some 50), none, .op (.move (.r 6)), []⟩,
    ⟨(some 51), none, .op (.bin .add .other (.r 49) (.r 50)), []⟩,
    ⟨(some 9), none, .op (.move (.r 51)), []⟩])
  (.seq (.ops [
    ⟨(some 52), none, .op (.move (.r 9)), []⟩,
    ⟨(some 53), none, .op (.move (.r 1)), []⟩,
    ⟨(some 54), none, .op (.bin .lss .other (.r 52) (.r 53)), []⟩])
  (.cond (.r 54)
  (.ops [
    ⟨(some 55), none, .op (.move (.r 0)), []⟩,
    ⟨(some 56), none, .op (.move (.r 7)), []⟩,
    ⟨(some 57), none, .op (.move (.r 9)), []⟩,
    ⟨(some 58), none, .op (.move (.r 1)), []⟩,
    ⟨(some 59), none, .op (.move (.r 2)), []⟩,
    ⟨(some 60), none, .call (.k (.clos 27 [])) [(.r 55), (.r 56), (.r 57), (.r 58), (.r 59)], []⟩])
  (.skip))))
  (.ops [
    ⟨(some 61), none, .op (.move (.r 6)), []⟩,
    ⟨(some 62), none, .op (.bin .mul .other (.r 61) (.k (i64 2))), []⟩,
    ⟨(some 6), none, .op (.move (.r 62)), []⟩])))))))



section
variable {E : AV → Heap → Prop} {m : Heap} {ρ : Regs} {Kn Kr : Cont} {Kx : Nat → Cont} {T : NCode} {a n cap : Nat} {l : List Cl}
theorem ins_e {Q : AV → Heap → Prop} {L P X Z : List Cl} {b0 c : Nat} (e : L = P ++ (X ++ Z)) (hm : At a L m) (hu : Up X) (hn : L.length = n) (hn2 : n ≤ 17592186044416) (eb : b0 = P.length) (ec : c = P.length + X.length)
    (k : ∀ S, S.Perm X → Srt S → Q (.tup []) (wr a (P ++ (S ++ Z)) m)) : ACall Try.prog 26 [.mref a 0 n cap, iv b0, iv c, .clos 19 []] m Q E := by
  subst e eb
  exact ins_s hm hu hn hn2 ec k

/-- Blocks of 20. -/
theorem st_a (hm : At a l m) (hu : Up l) (hn : l.length = n) (hn2 : n ≤ 1000000) (g0 : ρ 0 = .mref a 0 n cap) (g1 : ρ 1 = iv n) (g2 : ρ 2 = .clos 19 [])
    (k : ∀ ρ' bl t, full 20 bl → good t → t.1.length < 20 → fl2 bl ++ t.2 = l → (∀ i, i < 3 → ρ' i = ρ i) → ρ' 6 = iv 20 → vc Try.prog E T Kn Kx Kr ρ' (wr a (fl1 bl ++ t.1) m)) : vc Try.prog E (d24a T) Kn Kx Kr ρ m := by
  simp only [d24a, g0, g1, g2, wf_preprocess, ↓reduceIte, Nat.reduceEqDiff, reduceCtorEq, Nat.reduceAdd, Nat.reduceMul, Nat.reduceLeDiff, Nat.reduceLT, Nat.reduceSub, Int.reduceToNat, Int.reduceNeg, Int.reduceAdd, Int.reduceSub, Int.reduceMul, Int.reduceEq, Int.reduceLT, Int.reduceLE, Int.reduceNe, forall_const, forall_eq', forall_eq, List.forall_mem_cons, List.not_mem_nil]
  refine loop_i (fun kk ρ' m' => ∃ (bl : List Bl) (R : List Cl), kk = R.length ∧ full 20 bl ∧ l = fl2 bl ++ R ∧ (∀ i, i < 3 → ρ' i = ρ i) ∧ ρ' 6 = iv 20 ∧ ρ' 7 = iv (fl1 bl).length ∧ ρ' 8 = iv (((fl1 bl).length + 20 : Nat) : Int) ∧ m' = wr a (fl1 bl ++ R) m) l.length
    ⟨[], l, rfl, (fun x hx => by simp at hx), rfl, ?_⟩ ?_
  · simp only [wf_preprocess, ↓reduceIte, Nat.reduceEqDiff, reduceCtorEq, Nat.reduceAdd, Nat.reduceMul, Nat.reduceLeDiff, Nat.reduceLT, Nat.reduceSub, Int.reduceToNat, Int.reduceNeg, Int.reduceAdd, Int.reduceSub, Int.reduceMul, Int.reduceEq, Int.reduceLT, Int.reduceLE, Int.reduceNe, forall_const, forall_eq', forall_eq, List.forall_mem_cons, List.not_mem_nil]
    refine ⟨fun i hi => ?_, rfl, rfl, hm.same.symm⟩
    rcases i with _ | _ | _ | i <;> first | rfl | omega
  rintro kk ρ' m' ⟨bl, R, rfl, hf, hl, k5, k6, k7, k8, rfl⟩
  have k0 := (k5 0 (by decide)).trans g0
  have k1 := (k5 1 (by decide)).trans g1
  have k2 := (k5 2 (by decide)).trans g2
  have hp := (fl_perm fun x hx => (hf x hx).2).length_eq
  have hlen : (fl1 bl).length + R.length = n := by rw [hp, ← hn, hl, List.length_append]
  have hat : At a (fl1 bl ++ R) (wr a (fl1 bl ++ R) m) := hm.put
  have hR : Up R := by rw [hl] at hu; exact (List.pairwise_append.1 hu).2.1
  by_cases hc : 20 ≤ R.length
  · have c1 : (((fl1 bl).length + 20 : Nat) : Int) ≤ (n : Int) := by omega
    have w1 : IntKind.i64.wrap ((((fl1 bl).length + 20 : Nat) : Int) + 20) = (((fl1 bl).length + 20 + 20 : Nat) : Int) := by rw [wrap64] <;> omega
    have l1 : (R.take 20).length = 20 := by rw [List.length_take]; omega
    simp only [k0, k1, k2, k6, k7, k8, c1, wf_preprocess, ↓reduceIte, Nat.reduceEqDiff, reduceCtorEq, Nat.reduceAdd, Nat.reduceMul, Nat.reduceLeDiff, Nat.reduceLT, Nat.reduceSub, Int.reduceToNat, Int.reduceNeg, Int.reduceAdd, Int.reduceSub, Int.reduceMul, Int.reduceEq, Int.reduceLT, Int.reduceLE, Int.reduceNe, forall_const, forall_eq', forall_eq, List.forall_mem_cons, List.not_mem_nil]
    refine call_i (ins_e (P := fl1 bl) (X := R.take 20) (Z := R.drop 20) (by rw [List.take_append_drop]) hat (hR.sublist (List.take_sublist ..)) (by rw [List.length_append]; exact hlen) (by omega) rfl (by rw [l1]) fun S p s => ?_)
    have hS := p.length_eq.trans l1
    simp only [k0, k1, k2, k6, k7, k8, w1, wr_wr, wf_preprocess, ↓reduceIte, Nat.reduceEqDiff, reduceCtorEq, Nat.reduceAdd, Nat.reduceMul, Nat.reduceLeDiff, Nat.reduceLT, Nat.reduceSub, Int.reduceToNat, Int.reduceNeg, Int.reduceAdd, Int.reduceSub, Int.reduceMul, Int.reduceEq, Int.reduceLT, Int.reduceLE, Int.reduceNe, forall_const, forall_eq', forall_eq, List.forall_mem_cons, List.not_mem_nil]
    refine ⟨(R.drop 20).length, by rw [List.length_drop]; omega, bl ++ [(S, R.take 20)], R.drop 20, rfl, full_snoc hf hS ⟨p, s⟩, by rw [fl2_snoc, List.append_assoc, List.take_append_drop]; exact hl, fun i hi => ?_, ?_⟩
    · have := k5 i hi
      rcases i with _ | _ | _ | i <;> first | (simp only [k0, k1, k2, g0, g1, g2, wf_preprocess, ↓reduceIte, Nat.reduceEqDiff, reduceCtorEq, Nat.reduceAdd, Nat.reduceMul, Nat.reduceLeDiff, Nat.reduceLT, Nat.reduceSub, Int.reduceToNat, Int.reduceNeg, Int.reduceAdd, Int.reduceSub, Int.reduceMul, Int.reduceEq, Int.reduceLT, Int.reduceLE, Int.reduceNe, forall_const, forall_eq', forall_eq, List.forall_mem_cons, List.not_mem_nil]; done) | omega
    · rw [fl1_snoc, List.length_append, hS, List.append_assoc]
      exact ⟨rfl, rfl, rfl⟩
  · have c1 : ¬ (((fl1 bl).length + 20 : Nat) : Int) ≤ (n : Int) := by omega
    simp only [k0, k1, k2, k6, k7, k8, c1, wf_preprocess, ↓reduceIte, Nat.reduceEqDiff, reduceCtorEq, Nat.reduceAdd, Nat.reduceMul, Nat.reduceLeDiff, Nat.reduceLT, Nat.reduceSub, Int.reduceToNat, Int.reduceNeg, Int.reduceAdd, Int.reduceSub, Int.reduceMul, Int.reduceEq, Int.reduceLT, Int.reduceLE, Int.reduceNe, forall_const, forall_eq', forall_eq, List.forall_mem_cons, List.not_mem_nil]
    refine call_i (ins_e (P := fl1 bl) (X := R) (Z := []) (by rw [List.append_nil]) hat hR (by rw [List.length_append]; exact hlen) (by omega) rfl hlen.symm fun S p s => ?_)
    simp only [wr_wr, List.append_nil, wf_preprocess, ↓reduceIte, Nat.reduceEqDiff, reduceCtorEq, Nat.reduceAdd, Nat.reduceMul, Nat.reduceLeDiff, Nat.reduceLT, Nat.reduceSub, Int.reduceToNat, Int.reduceNeg, Int.reduceAdd, Int.reduceSub, Int.reduceMul, Int.reduceEq, Int.reduceLT, Int.reduceLE, Int.reduceNe, forall_const, forall_eq', forall_eq, List.forall_mem_cons, List.not_mem_nil]
    refine k _ bl (S, R) hf ⟨p, s⟩ (by rw [p.length_eq]; omega) hl.symm (fun i hi => ?_) ?_
    · rcases i with _ | _ | _ | i <;> first | (simp only [k0, k1, k2, g0, g1, g2, wf_preprocess, ↓reduceIte, Nat.reduceEqDiff, reduceCtorEq, Nat.reduceAdd, Nat.reduceMul, Nat.reduceLeDiff, Nat.reduceLT, Nat.reduceSub, Int.reduceToNat, Int.reduceNeg, Int.reduceAdd, Int.reduceSub, Int.reduceMul, Int.reduceEq, Int.reduceLT, Int.reduceLE, Int.reduceNe, forall_const, forall_eq', forall_eq, List.forall_mem_cons, List.not_mem_nil]; done) | omega
    · simp only [k6, wf_preprocess, ↓reduceIte, Nat.reduceEqDiff, reduceCtorEq, Nat.reduceAdd, Nat.reduceMul, Nat.reduceLeDiff, Nat.reduceLT, Nat.reduceSub, Int.reduceToNat, Int.reduceNeg, Int.reduceAdd, Int.reduceSub, Int.reduceMul, Int.reduceEq, Int.reduceLT, Int.reduceLE, Int.reduceNe, forall_const, forall_eq', forall_eq, List.forall_mem_cons, List.not_mem_nil]
end
end Go.Proofs.Ytjegieklpeipaaa.Moi.Share
