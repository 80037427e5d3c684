/- What functions of this program do, on plain values: a part of the proofs of this seat's laws; each theorem bears its own conditions. -/
import Derived.Test.YtjegieklpeipaaaNumI
set_option linter.unusedVariables false
set_option linter.unusedSimpArgs false
set_option maxRecDepth 1000000
namespace Go.Proofs.Ytjegieklpeipaaa.Moi.Share
open Go Go.RowKit Go.Proofs.Ytjegieklpeipaaa.Moi Go.Proofs.Ytjegieklpeipaaa.Moi.Num
attribute [-wf_preprocess] ite_eq_dite forIn_eq_forIn'

/-! ### Claims in memory: a place, and what is left -/
abbrev Cl := Int × Int
abbrev pr (p : Cl) : List AV := [iv p.1, u64v p.2]
def pc (l : List Cl) : List AV := l.flatMap pr
theorem pc_cons {p : Cl} {l : List Cl} : pc (p :: l) = iv p.1 :: u64v p.2 :: pc l := rfl
theorem pc_len {l : List Cl} : (pc l).length = l.length * 2 := by
  induction l with
  | nil => rfl
  | cons x l ih => rw [pc_cons, List.length_cons, List.length_cons, ih, List.length_cons]; omega
theorem pc_drop : ∀ {l : List Cl} {i : Nat} {p : Cl}, l[i]? = some p → (pc l).drop (i * 2) = iv p.1 :: u64v p.2 :: (pc l).drop (i * 2 + 2)
  | [], i, p, h => by simp at h
  | x :: l, 0, p, h => by simp at h; subst h; rfl
  | x :: l, i + 1, p, h => by
    rw [pc_cons, show (i + 1) * 2 = i * 2 + 2 by omega]
    simp only [List.drop_succ_cons]
    exact pc_drop (l := l) (by simpa using h)
theorem pc_set {q : Cl} : ∀ {l : List Cl} {i : Nat}, splice (i * 2) [iv q.1, u64v q.2] (pc l) = pc (l.set i q)
  | [], i => by
    show splice (i * 2) _ [] = []
    unfold splice; rfl
  | x :: l, 0 => by rw [List.set_cons_zero, pc_cons, pc_cons, Nat.zero_mul]; simp only [splice]; cases pc l <;> rfl
  | x :: l, i + 1 => by
    rw [List.set_cons_succ, pc_cons, pc_cons, show (i + 1) * 2 = i * 2 + 2 by omega]
    simp only [splice]
    rw [pc_set]
theorem pc_facts {l : List Cl} {i : Nat} {p : Cl} (h : l[i]? = some p) : (2 ≤ (List.drop (i * 2) (pc l)).length) = True ∧ List.take 2 (List.drop (i * 2) (pc l)) = [iv p.1, u64v p.2] ∧ (i * 2 + 2 ≤ (pc l).length) = True := by
  obtain ⟨hi, _⟩ := List.getElem?_eq_some_iff.1 h
  refine ⟨?_, ?_, ?_⟩
  · rw [pc_drop h]; simp
  · rw [pc_drop h]; rfl
  · rw [pc_len]; apply eq_true; omega
theorem mid_get {X Y : List Cl} {x : Cl} {i : Nat} (h : i = X.length) : (X ++ x :: Y)[i]? = some x := by
  subst h; simp
theorem mid_set {X Y : List Cl} {x q : Cl} {i : Nat} (h : i = X.length) : (X ++ x :: Y).set i q = X ++ q :: Y := by
  subst h; simp

section
variable {Q E : AV → Heap → Prop} {m : Heap} {a n cap : Nat} {F : AV} {l P A B C Z X Y : List Cl} {i j : Nat} {p q : Cl}

/-- Which one stands first: the one with more left. -/
def cmpV (p q : Cl) : Int := if q.2 < p.2 then -1 else if p.2 < q.2 then 1 else 0
theorem cmp_s (k : Q (iv (cmpV p q)) m) : ACall Try.prog 19 [.agg (pr p), .agg (pr q)] m Q E := by
  refine pureR ?_ k
  refine acall_fn mixed Try.func19 Try.call19 e19 r19 (Nat.le_of_ble_eq_true rfl) ?_
  simp only [n19, wf_preprocess, ↓reduceIte, Nat.reduceEqDiff, reduceCtorEq, Nat.reduceAdd, Nat.reduceMul, Nat.reduceLeDiff, Nat.reduceLT, Nat.reduceSub, Int.reduceToNat, Int.reduceNeg, Int.reduceAdd, Int.reduceSub, Int.reduceMul, Int.reduceEq, Int.reduceLT, Int.reduceLE, Int.reduceNe, forall_const, forall_eq', forall_eq, List.forall_mem_cons, List.not_mem_nil]
  refine fresh_i fun i hi => ?_
  simp only [wf_preprocess, ↓reduceIte, Nat.reduceEqDiff, reduceCtorEq, Nat.reduceAdd, Nat.reduceMul, Nat.reduceLeDiff, Nat.reduceLT, Nat.reduceSub, Int.reduceToNat, Int.reduceNeg, Int.reduceAdd, Int.reduceSub, Int.reduceMul, Int.reduceEq, Int.reduceLT, Int.reduceLE, Int.reduceNe, forall_const, forall_eq', forall_eq, List.forall_mem_cons, List.not_mem_nil]
  refine fresh_i fun j hj => ?_
  have e1 : ¬ i = j := fun h => hj (by simp [keys, h])
  have e2 : ¬ j = i := fun h => e1 h.symm
  unfold cmpV
  by_cases c1 : q.2 < p.2
  · simp only [c1, e1, e2, wf_preprocess, ↓reduceIte, Nat.reduceEqDiff, reduceCtorEq, Nat.reduceAdd, Nat.reduceMul, Nat.reduceLeDiff, Nat.reduceLT, Nat.reduceSub, Int.reduceToNat, Int.reduceNeg, Int.reduceAdd, Int.reduceSub, Int.reduceMul, Int.reduceEq, Int.reduceLT, Int.reduceLE, Int.reduceNe, forall_const, forall_eq', forall_eq, List.forall_mem_cons, List.not_mem_nil]
  · by_cases c2 : p.2 < q.2 <;> simp only [c1, c2, e1, e2, wf_preprocess, ↓reduceIte, Nat.reduceEqDiff, reduceCtorEq, Nat.reduceAdd, Nat.reduceMul, Nat.reduceLeDiff, Nat.reduceLT, Nat.reduceSub, Int.reduceToNat, Int.reduceNeg, Int.reduceAdd, Int.reduceSub, Int.reduceMul, Int.reduceEq, Int.reduceLT, Int.reduceLE, Int.reduceNe, forall_const, forall_eq', forall_eq, List.forall_mem_cons, List.not_mem_nil]

/-- The list that lies there. -/
def At (a : Nat) (l : List Cl) (m : Heap) : Prop := get a m = some (.cells (pc l))
def wr (a : Nat) (l : List Cl) (m : Heap) : Heap := put a (.cells (pc l)) m
theorem At.put (h : At a l m) {l' : List Cl} : At a l' (wr a l' m) := get_put h
theorem At.same (h : At a l m) : wr a l m = m := (put_same h).symm
theorem wr_wr {l' : List Cl} : wr a l (wr a l' m) = wr a l m := put_put

theorem swapR_s (hm : At a (P ++ (A ++ (B ++ (C ++ Z)))) m) (hl : A.length = C.length) (hn : (P ++ (A ++ (B ++ (C ++ Z)))).length = n) (hn2 : n ≤ 17592186044416)
    (k : Q (.tup []) (wr a (P ++ (C ++ (B ++ (A ++ Z)))) m)) : ACall Try.prog 30 [.mref a 0 n cap, iv P.length, iv ((P.length + A.length + B.length : Nat) : Int), iv A.length, F] m Q E := by
  refine acall_fn mixed Try.func30 Try.call30 e30 r30 (Nat.le_of_ble_eq_true rfl) ?_
  simp only [n30, wf_preprocess, ↓reduceIte, Nat.reduceEqDiff, reduceCtorEq, Nat.reduceAdd, Nat.reduceMul, Nat.reduceLeDiff, Nat.reduceLT, Nat.reduceSub, Int.reduceToNat, Int.reduceNeg, Int.reduceAdd, Int.reduceSub, Int.reduceMul, Int.reduceEq, Int.reduceLT, Int.reduceLE, Int.reduceNe, forall_const, forall_eq', forall_eq, List.forall_mem_cons, List.not_mem_nil]
  simp only [List.length_append] at hn
  refine loop_i (fun kk ρ m' => ∃ (A1 A2 C1 C2 : List Cl), kk = A2.length ∧ A = A1 ++ A2 ∧ C = C1 ++ C2 ∧ A1.length = C1.length ∧ ρ 0 = .mref a 0 n cap ∧ ρ 1 = iv P.length ∧ ρ 2 = iv ((P.length + A.length + B.length : Nat) : Int) ∧ ρ 3 = iv A.length ∧ ρ 10 = iv A1.length ∧ m' = wr a (P ++ (C1 ++ (A2 ++ (B ++ (A1 ++ (C2 ++ Z)))))) m) A.length
    ⟨[], A, [], C, rfl, rfl, rfl, rfl, ?_⟩ ?_
  · simp only [List.nil_append, wf_preprocess, ↓reduceIte, Nat.reduceEqDiff, reduceCtorEq, Nat.reduceAdd, Nat.reduceMul, Nat.reduceLeDiff, Nat.reduceLT, Nat.reduceSub, Int.reduceToNat, Int.reduceNeg, Int.reduceAdd, Int.reduceSub, Int.reduceMul, Int.reduceEq, Int.reduceLT, Int.reduceLE, Int.reduceNe, forall_const, forall_eq', forall_eq, List.forall_mem_cons, List.not_mem_nil]
    exact hm.same.symm
  rintro kk ρ m' ⟨A1, A2, C1, C2, rfl, hA, hC, hlen, g0, g1, g2, g3, g10, rfl⟩
  have hA' := congrArg List.length hA
  have hC' := congrArg List.length hC
  rw [List.length_append] at hA' hC'
  rcases A2 with _ | ⟨x, A2⟩
  · have hlt : ¬ (A1.length : Int) < (A.length : Int) := by rw [hA]; simp
    have hc2 : C2 = [] := List.length_eq_zero_iff.1 (by simp at hA'; omega)
    subst hc2
    rw [List.append_nil] at hA hC
    subst hA hC
    simp only [List.nil_append] at *
    simp only [g0, g1, g2, g3, g10, hlt, wf_preprocess, ↓reduceIte, Nat.reduceEqDiff, reduceCtorEq, Nat.reduceAdd, Nat.reduceMul, Nat.reduceLeDiff, Nat.reduceLT, Nat.reduceSub, Int.reduceToNat, Int.reduceNeg, Int.reduceAdd, Int.reduceSub, Int.reduceMul, Int.reduceEq, Int.reduceLT, Int.reduceLE, Int.reduceNe, forall_const, forall_eq', forall_eq, List.forall_mem_cons, List.not_mem_nil]
    exact k
  · rcases C2 with _ | ⟨y, C2⟩
    · simp at hA' hC'; omega
    simp only [List.length_cons] at hA' hC'
    have hlt : (A1.length : Int) < (A.length : Int) := by omega
    have w1 : IntKind.i64.wrap ((A1.length : Int) + 1) = ((A1 ++ [x]).length : Int) := by rw [wrap64 (by omega) (by omega)]; simp
    have w2 : IntKind.i64.wrap ((P.length : Int) + (A1.length : Int)) = ((P.length + A1.length : Nat) : Int) := by rw [wrap64] <;> omega
    have w3 : IntKind.i64.wrap (((P.length + A.length + B.length : Nat) : Int) + (A1.length : Int)) = ((P.length + A.length + B.length + A1.length : Nat) : Int) := by rw [wrap64] <;> omega
    have b1 : ((P.length + A1.length : Nat) : Int) < (n : Int) := by omega
    have b2 : ((P.length + A.length + B.length + A1.length : Nat) : Int) < (n : Int) := by omega
    have hat : get a (wr a (P ++ (C1 ++ (x :: A2 ++ (B ++ (A1 ++ (y :: C2 ++ Z)))))) m) = _ := hm.put
    generalize hL : P ++ (C1 ++ (x :: A2 ++ (B ++ (A1 ++ (y :: C2 ++ Z))))) = L at *
    have i1 : L[P.length + A1.length]? = some x := by
      rw [← hL, show P ++ (C1 ++ (x :: A2 ++ (B ++ (A1 ++ (y :: C2 ++ Z))))) = (P ++ C1) ++ x :: (A2 ++ (B ++ (A1 ++ (y :: C2 ++ Z)))) by simp]
      exact mid_get (by simp; omega)
    have i2 : L[P.length + A.length + B.length + A1.length]? = some y := by
      rw [← hL, show P ++ (C1 ++ (x :: A2 ++ (B ++ (A1 ++ (y :: C2 ++ Z))))) = (P ++ C1 ++ x :: A2 ++ B ++ A1) ++ y :: (C2 ++ Z) by simp]
      exact mid_get (by simp; omega)
    have s1 : L.set (P.length + A1.length) y = P ++ C1 ++ y :: (A2 ++ (B ++ (A1 ++ (y :: C2 ++ Z)))) := by
      rw [← hL, show P ++ (C1 ++ (x :: A2 ++ (B ++ (A1 ++ (y :: C2 ++ Z))))) = (P ++ C1) ++ x :: (A2 ++ (B ++ (A1 ++ (y :: C2 ++ Z)))) by simp]
      exact mid_set (by simp; omega)
    have i3 : (L.set (P.length + A1.length) y)[P.length + A.length + B.length + A1.length]? = some y := by
      rw [s1, show P ++ C1 ++ y :: (A2 ++ (B ++ (A1 ++ (y :: C2 ++ Z)))) = (P ++ C1 ++ y :: A2 ++ B ++ A1) ++ y :: (C2 ++ Z) by simp]
      exact mid_get (by simp; omega)
    have s2 : (L.set (P.length + A1.length) y).set (P.length + A.length + B.length + A1.length) x = P ++ ((C1 ++ [y]) ++ (A2 ++ (B ++ ((A1 ++ [x]) ++ (C2 ++ Z))))) := by
      rw [s1, show P ++ C1 ++ y :: (A2 ++ (B ++ (A1 ++ (y :: C2 ++ Z)))) = (P ++ C1 ++ y :: A2 ++ B ++ A1) ++ y :: (C2 ++ Z) by simp, mid_set (by simp; omega)]
      simp
    obtain ⟨f1, f2, f3⟩ := pc_facts i1
    obtain ⟨f4, f5, f6⟩ := pc_facts i2
    obtain ⟨f7, f8, f9⟩ := pc_facts i3
    have gp := get_put (ob := .cells (pc (L.set (P.length + A1.length) y))) hat
    simp only [g0, g1, g2, g3, g10, hlt, w1, w2, w3, b1, b2, hat, Int.natCast_nonneg, f1, f2, f3, f4, f5, f6, f7, f8, f9, pc_set, gp, put_put, s2, wf_preprocess, ↓reduceIte, Nat.reduceEqDiff, reduceCtorEq, Nat.reduceAdd, Nat.reduceMul, Nat.reduceLeDiff, Nat.reduceLT, Nat.reduceSub, Int.reduceToNat, Int.reduceNeg, Int.reduceAdd, Int.reduceSub, Int.reduceMul, Int.reduceEq, Int.reduceLT, Int.reduceLE, Int.reduceNe, forall_const, forall_eq', forall_eq, List.forall_mem_cons, List.not_mem_nil]
    refine ⟨A2.length, by simp, A1 ++ [x], A2, C1 ++ [y], C2, rfl, by simp [hA], by simp [hC], by simp [hlen], ?_⟩
    simp only [wr, put_put, wf_preprocess, ↓reduceIte, Nat.reduceEqDiff, reduceCtorEq, Nat.reduceAdd, Nat.reduceMul, Nat.reduceLeDiff, Nat.reduceLT, Nat.reduceSub, Int.reduceToNat, Int.reduceNeg, Int.reduceAdd, Int.reduceSub, Int.reduceMul, Int.reduceEq, Int.reduceLT, Int.reduceLE, Int.reduceNe, forall_const, forall_eq', forall_eq, List.forall_mem_cons, List.not_mem_nil]
end
end Go.Proofs.Ytjegieklpeipaaa.Moi.Share
