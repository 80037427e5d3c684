/- What functions of this program do, on plain values: a part of the proofs of this seat's laws; each theorem bears its own conditions. -/
import Derived.Test.YtceahampebofbaaTreeH
set_option linter.unusedVariables false
set_option linter.unusedSimpArgs false
set_option maxRecDepth 1000000
namespace Go.Proofs.Ytceahampebofbaa.Moi.Tree
open Go Go.RowKit Go.Proofs.Ytceahampebofbaa.Moi
attribute [-wf_preprocess] ite_eq_dite forIn_eq_forIn'

/-! ### The parts of the walk's small form, as it was printed -/
def d50a (T : NCode) : NCode :=
  .seq (.ops [
    ⟨(some 6), none, .op (.load none (.r 1)), []⟩,
    ⟨(some 7), none, .op (.load none (.r 1)), []⟩,
    ⟨(some 8), none, .op (.nilCheck (.r 7)), []⟩,
    ⟨(some 9), none, .op (.fieldAddr 3 (.r 8)), []⟩,
    ⟨(some 10), none, .op (.load none (.r 9)), []⟩,
    ⟨(some 11), none, .op (.move (.r 0)), []⟩,
    ⟨(some 12), none, .op (.buildSlice none [(i64 0)] 1 [(0, (.r 11))]), []⟩,
    ⟨(some 13), none, .op (.append true none 8 [(i64 0)] (.r 10) (.r 12)), [⟨6, none, .load none (.r 1)⟩]⟩,
    ⟨(some 14), none, .op (.nilCheck (.r 6)), []⟩,
    ⟨(some 15), none, .op (.fieldAddr 3 (.r 14)), []⟩,
    ⟨none, none, .op (.store 1 (.r 15) (.r 13)), []⟩])
  (.seq (.ops [
    ⟨(some 16), none, .op (.load none (.r 1)), []⟩,
    ⟨(some 17), none, .op (.nilCheck (.r 16)), []⟩,
    ⟨(some 18), none, .op (.fieldAddr 5 (.r 17)), []⟩,
    ⟨(some 19), none, .op (.load none (.r 18)), []⟩,
    ⟨(some 20), none, .op (.move (.r 0)), []⟩,
    ⟨(some 21), none, .op (.load none (.r 1)), []⟩,
    ⟨(some 22), none, .op (.nilCheck (.r 21)), []⟩,
    ⟨(some 23), none, .op (.fieldAddr 4 (.r 22)), []⟩,
    ⟨(some 24), none, .op (.load none (.r 23)), []⟩,
    ⟨(some 25), none, .op (.lenL (.r 24)), []⟩,
    ⟨(some 26), none, .op (.idxAddr 2 (.r 19) (.r 20)), []⟩,
    ⟨(some 27), none, .op (.fieldAddr 0 (.r 26)), []⟩,
    ⟨none, none, .op (.store 1 (.r 27) (.r 25)), []⟩])
  (.seq (.seq (.ops [
    ⟨(some 28), none, .op (.load none (.r 1)), []⟩,
    ⟨(some 29), none, .op (.nilCheck (.r 28)), []⟩,
    ⟨(some 30), none, .op (.fieldAddr 2 (.r 29)), []⟩,
    ⟨(some 31), none, .op (.load none (.r 30)), []⟩,
    ⟨(some 32), none, .op (.move (.r 0)), []⟩,
    ⟨(some 33), none, .op (.idxAddr 1 (.r 31) (.r 32)), []⟩,
    ⟨(some 34), none, .op (.load none (.r 33)), []⟩,
    ⟨(some 35), none, .op (.lenL (.r 34)), []⟩,
    ⟨(some 36), none, .op (.bin .eql .other (.r 35) (.k (i64 0))), []⟩])
  (.cond (.r 36)
  (.ops [
    ⟨(some 37), none, .op (.load none (.r 1)), []⟩,
    ⟨(some 38), none, .op (.load none (.r 1)), []⟩,
    ⟨(some 39), none, .op (.nilCheck (.r 38)), []⟩,
    ⟨(some 40), none, .op (.fieldAddr 4 (.r 39)), []⟩,
    ⟨(some 41), none, .op (.load none (.r 40)), []⟩,
    ⟨(some 42), none, .op (.move (.r 0)), []⟩,
    ⟨(some 43), none, .op (.buildSlice none [(i64 0)] 1 [(0, (.r 42))]), []⟩,
    ⟨(some 44), none, .op (.append true none 8 [(i64 0)] (.r 41) (.r 43)), [⟨37, none, .load none (.r 1)⟩]⟩,
    ⟨(some 45), none, .op (.nilCheck (.r 37)), []⟩,
    ⟨(some 46), none, .op (.fieldAddr 4 (.r 45)), []⟩,
    ⟨none, none, .op (.store 1 (.r 46) (.r 44)), []⟩])
  (.skip)))
  (T)))

def d50b : NCode :=
  .seq (.seq (.ops [
    ⟨(some 47), none, .op (.load none (.r 1)), []⟩,
    ⟨(some 48), none, .op (.nilCheck (.r 47)), []⟩,
    ⟨(some 49), none, .op (.fieldAddr 2 (.r 48)), []⟩,
    ⟨(some 50), none, .op (.load none (.r 49)), []⟩,
    ⟨(some 51), none, .op (.move (.r 0)), []⟩,
    ⟨(some 52), none, .op (.idxAddr 1 (.r 50) (.r 51)), []⟩,
    ⟨(some 53), none, .op (.load none (.r 52)), []⟩,
    ⟨(some 54), none, .op (.lenL (.r 53)), []⟩,
    ⟨(some 55), none, .op (.move (.k (i64 0))), []⟩])
  (.block 0 (.loop (.seq (.ops [
    ⟨(some 56), none, .op (.bin .lss .other (.r 55) (.r 54)), []⟩])
  (.seq (.cond (.r 56)
  (.skip)
  (.exit 0))
  (.seq (.block 1 (.seq (.ops [
    ⟨(some 57), none, .op (.idxAddr 1 (.r 53) (.r 55)), []⟩,
    ⟨(some 58), none, .op (.load none (.r 57)), []⟩,
    ⟨(some 5), none, .op (.move (.r 58)), []⟩])
  (.ops [
    ⟨(some 59), none, .op (.load none (.r 2)), []⟩,
    ⟨(some 60), none, .op (.move (.r 5)), []⟩,
    ⟨(some 61), none, .call (.r 59) [(.r 60)], []⟩])))
  (.ops [
    ⟨(some 62), none, .op (.bin .add .other (.r 55) (.k (i64 1))), []⟩,
    ⟨(some 55), none, .op (.move (.r 62)), []⟩])))))))
  (.ops [
    ⟨(some 63), none, .op (.load none (.r 1)), []⟩,
    ⟨(some 64), none, .op (.nilCheck (.r 63)), []⟩,
    ⟨(some 65), none, .op (.fieldAddr 5 (.r 64)), []⟩,
    ⟨(some 66), none, .op (.load none (.r 65)), []⟩,
    ⟨(some 67), none, .op (.move (.r 0)), []⟩,
    ⟨(some 68), none, .op (.load none (.r 1)), []⟩,
    ⟨(some 69), none, .op (.nilCheck (.r 68)), []⟩,
    ⟨(some 70), none, .op (.fieldAddr 4 (.r 69)), []⟩,
    ⟨(some 71), none, .op (.load none (.r 70)), []⟩,
    ⟨(some 72), none, .op (.lenL (.r 71)), []⟩,
    ⟨(some 73), none, .op (.idxAddr 2 (.r 66) (.r 67)), []⟩,
    ⟨(some 74), none, .op (.fieldAddr 1 (.r 73)), []⟩,
    ⟨none, none, .op (.store 1 (.r 74) (.r 72)), []⟩])

theorem n_walk1 : n50 = d50a d50b := by kernel_rfl

/-- What the spans of some members are, in an order. -/
def SpIn (L : List Nd) (O l : List Nat) (Sp : Sp2) : Prop := ∀ x ∈ l, ∃ A C, O = A ++ (tr L x ++ C) ∧ Sp[x]? = some (((lf L A).length : Int), (((lf L A).length + (lf L (tr L x)).length : Nat) : Int))
section
variable {L : List Nd} {m m1 m' m0 : Heap} {T N cN M K S B D : Nat} {r ks : List AV} {vo vl vo' vl' : AV} {O V : List Nat} {Sp Sp' : Sp2} {Q E : AV → Heap → Prop}
theorem SpIn.more (h : SpIn L O V Sp) (C' : List Nat) : SpIn L (O ++ C') V Sp := fun x hx => by
  obtain ⟨A, C, e, hs⟩ := h x hx
  exact ⟨A, C ++ C', by rw [e]; simp, hs⟩
theorem form_of {v : AV} {l : List Int} {mm : Heap} (h : BufI .i64 l v mm) : (∃ es o, v = .lst es o) ∨ ∃ a b c d, v = .mref a b c d := by
  rcases (BufI.ei h).isL with ⟨es, o', rfl, _⟩ | ⟨_, _, _, _, rfl⟩
  · exact .inl ⟨_, _, rfl⟩
  · exact .inr ⟨_, _, _, _, rfl⟩
theorem ks_drop {i : Nat} {v : AV} (hv : ks[i]? = some v) : ks.drop i = v :: ks.drop (i + 1) := by
  obtain ⟨hlt, rfl⟩ := List.getElem?_eq_some_iff.1 hv
  exact List.drop_eq_getElem_cons hlt
/-- What one call does. -/
def Does (L : List Nd) (m0 : Heap) (T N cN M K S B D : Nat) (r ks : List AV) (i : Nat) : Prop := ∀ (m : Heap) (O : List Nat) (Sp : Sp2) (vo vl : AV) (Q E : AV → Heap → Prop), Wk L m0 m T N cN M K S B D r ks vo vl O (lf L O) Sp → O.length + (tr L i).length ≤ 100000 → (O ++ tr L i).Nodup →
    (∀ m' vo' vl' Sp', Wk L m0 m' T N cN M K S B D r ks vo' vl' (O ++ tr L i) (lf L (O ++ tr L i)) Sp' → SpIn L (O ++ tr L i) (tr L i) Sp' → (∀ x, x ∉ tr L i → Sp'[x]? = Sp[x]?) → Q (.tup []) m') →
    ACall Try.prog 50 [iv i, .ptr B 0, .ptr D 0] m Q E
section
variable {ρ : Regs} {Kn Kr : Cont} {Kx : Nat → Cont} {i : Nat} {z : Int}
/-- Down to those below it. -/
theorem w_b (ok : Ok L) (hi : i < L.length) (ih : ∀ k ∈ kids L i, Does L m0 T N cN M K S B D r ks k) (hW : Wk L m0 m T N cN M K S B D r ks vo vl (O ++ [i]) (lf L (O ++ [i])) Sp) (hlen : O.length + (tr L i).length ≤ 100000) (hnd : (O ++ tr L i).Nodup)
    (hz : Sp[i]? = some (((lf L O).length : Int), z)) (g0 : ρ 0 = iv i) (g1 : ρ 1 = .ptr B 0) (g2 : ρ 2 = .ptr D 0)
    (k : ∀ ρ' m' vo' vl' Sp', Wk L m0 m' T N cN M K S B D r ks vo' vl' (O ++ tr L i) (lf L (O ++ tr L i)) Sp' → SpIn L (O ++ tr L i) (tr L i) Sp' → (∀ x, x ∉ tr L i → Sp'[x]? = Sp[x]?) → Kn ρ' m') : vc Try.prog E d50b Kn Kx Kr ρ m := by
  have hi' : (i : Int) < (L.length : Int) := by omega
  have htr := tr_eq ok (i := i)
  have hL32 := ok.le
  obtain ⟨v, hv⟩ : ∃ v, ks[i]? = some v := ⟨_, List.getElem?_eq_getElem (by rw [hW.len]; omega)⟩
  have hkl := (BufI.ei (hW.kb i v hv)).lenIs
  rw [il_len] at hkl
  have hnt := (List.nodup_append.1 hnd).2.1
  rw [htr] at hnt
  have hni := (List.nodup_cons.1 hnt).1
  have hnf := (List.nodup_cons.1 hnt).2
  have hkn : (kids L i).length ≤ L.length := by
    have := List.length_filter_le (fun k : Nat => decide (upA L k = (i : Int))) (List.range L.length)
    rwa [List.length_range] at this
  simp only [d50b, g0, g1, g2, hW.gB, hW.gT, hW.gK, hi', ks_drop hv, onLst_len hkl, Int.natCast_nonneg, wf_preprocess, ↓reduceIte, Nat.reduceEqDiff, reduceCtorEq, Nat.reduceAdd, Nat.reduceMul, Nat.reduceLeDiff, Nat.reduceLT, Nat.reduceSub, Int.reduceToNat, Int.reduceNeg, Int.reduceAdd, Int.reduceSub, Int.reduceMul, Int.reduceEq, Int.reduceLT, Int.reduceLE, Int.reduceNe, forall_const, forall_eq', forall_eq, List.forall_mem_cons, List.not_mem_nil]
  refine loop_i (fun kk ρ m' => ∃ (j : Nat) (vo' vl' : AV) (Sp' : Sp2), kk = (kids L i).length - j ∧ j ≤ (kids L i).length ∧ Wk L m0 m' T N cN M K S B D r ks vo' vl' (O ++ i :: ((kids L i).take j).flatMap (tr L)) (lf L (O ++ i :: ((kids L i).take j).flatMap (tr L))) Sp' ∧
    SpIn L (O ++ i :: ((kids L i).take j).flatMap (tr L)) (((kids L i).take j).flatMap (tr L)) Sp' ∧ (∀ x, x ∉ ((kids L i).take j).flatMap (tr L) → Sp'[x]? = Sp[x]?) ∧ ρ 0 = iv i ∧ ρ 1 = .ptr B 0 ∧ ρ 2 = .ptr D 0 ∧ ρ 53 = v ∧ ρ 54 = iv (kids L i).length ∧ ρ 55 = iv j) (kids L i).length ⟨0, vo, vl, Sp, rfl, by omega, ?_⟩ ?_
  · simp only [g0, g1, g2, List.take_zero, List.flatMap_nil, wf_preprocess, ↓reduceIte, Nat.reduceEqDiff, reduceCtorEq, Nat.reduceAdd, Nat.reduceMul, Nat.reduceLeDiff, Nat.reduceLT, Nat.reduceSub, Int.reduceToNat, Int.reduceNeg, Int.reduceAdd, Int.reduceSub, Int.reduceMul, Int.reduceEq, Int.reduceLT, Int.reduceLE, Int.reduceNe, forall_const, forall_eq', forall_eq, List.forall_mem_cons, List.not_mem_nil]
    exact ⟨hW, fun x hx => by simp at hx⟩
  rintro kk ρ m1 ⟨j, vo1, vl1, Sp1, rfl, hj, hW1, hS1, hU1, k0, k1, k2, k53, k54, k55⟩
  by_cases hjn : (j : Int) < ((kids L i).length : Int)
  · obtain ⟨c, hc⟩ : ∃ c, (kids L i)[j]? = some c := ⟨_, List.getElem?_eq_getElem (by omega)⟩
    have hck := List.mem_of_getElem? hc
    have htk : ((kids L i).take (j + 1)).flatMap (tr L) = ((kids L i).take j).flatMap (tr L) ++ tr L c := by
      rw [List.take_add_one, hc, List.flatMap_append]; simp
    have hpre : O ++ i :: ((kids L i).take (j + 1)).flatMap (tr L) = (O ++ i :: ((kids L i).take j).flatMap (tr L)) ++ tr L c := by rw [htk]; simp
    have hall : (kids L i).flatMap (tr L) = ((kids L i).take (j + 1)).flatMap (tr L) ++ ((kids L i).drop (j + 1)).flatMap (tr L) := by
      rw [← List.flatMap_append, List.take_append_drop]
    have hsub : O ++ tr L i = (O ++ i :: ((kids L i).take (j + 1)).flatMap (tr L)) ++ ((kids L i).drop (j + 1)).flatMap (tr L) := by rw [htr, hall]; simp
    have hlen2 : (O ++ i :: ((kids L i).take j).flatMap (tr L)).length + (tr L c).length ≤ 100000 := by
      have e1 := congrArg List.length hsub
      rw [hpre, List.length_append, List.length_append, List.length_append] at e1
      omega
    have hnd2 : ((O ++ i :: ((kids L i).take j).flatMap (tr L)) ++ tr L c).Nodup := by
      rw [← hpre]
      rw [hsub] at hnd
      exact (List.nodup_append.1 hnd).1
    have w1 : IntKind.i64.wrap ((j : Int) + 1) = ((j + 1 : Nat) : Int) := wrap64 (by omega) (by omega)
    simp only [k0, k1, k2, k53, k54, k55, hjn, Int.natCast_nonneg, wf_preprocess, ↓reduceIte, Nat.reduceEqDiff, reduceCtorEq, Nat.reduceAdd, Nat.reduceMul, Nat.reduceLeDiff, Nat.reduceLT, Nat.reduceSub, Int.reduceToNat, Int.reduceNeg, Int.reduceAdd, Int.reduceSub, Int.reduceMul, Int.reduceEq, Int.reduceLT, Int.reduceLE, Int.reduceNe, forall_const, forall_eq', forall_eq, List.forall_mem_cons, List.not_mem_nil]
    refine Ei.idx (n := (j : Int)) (BufI.ei (hW1.kb i v hv)) (by omega) (by simpa using il_get hc) fun a1 r1 ha1 => ?_
    simp only [k0, k1, k2, k53, k54, k55, ha1, hW1.gD, wf_preprocess, ↓reduceIte, Nat.reduceEqDiff, reduceCtorEq, Nat.reduceAdd, Nat.reduceMul, Nat.reduceLeDiff, Nat.reduceLT, Nat.reduceSub, Int.reduceToNat, Int.reduceNeg, Int.reduceAdd, Int.reduceSub, Int.reduceMul, Int.reduceEq, Int.reduceLT, Int.reduceLE, Int.reduceNe, forall_const, forall_eq', forall_eq, List.forall_mem_cons, List.not_mem_nil]
    refine call_i (ih c hck m1 _ _ _ _ _ _ hW1 hlen2 hnd2 fun m2 vo2 vl2 Sp2 hW2 hS2 hU2 => ?_)
    simp only [k0, k1, k2, k53, k54, k55, w1, wf_preprocess, ↓reduceIte, Nat.reduceEqDiff, reduceCtorEq, Nat.reduceAdd, Nat.reduceMul, Nat.reduceLeDiff, Nat.reduceLT, Nat.reduceSub, Int.reduceToNat, Int.reduceNeg, Int.reduceAdd, Int.reduceSub, Int.reduceMul, Int.reduceEq, Int.reduceLT, Int.reduceLE, Int.reduceNe, forall_const, forall_eq', forall_eq, List.forall_mem_cons, List.not_mem_nil]
    refine ⟨(kids L i).length - (j + 1), by omega, j + 1, vo2, vl2, Sp2, rfl, by omega, ?_, ?_, ?_, rfl⟩
    · rw [hpre]; exact hW2
    · rw [hpre, htk]
      intro x hx
      rcases List.mem_append.1 hx with hx | hx
      · obtain ⟨A, C, e, hs⟩ := hS1.more (tr L c) x hx
        refine ⟨A, C, e, ?_⟩
        rw [hU2 x fun hxc => ?_]
        · exact hs
        · rw [hall, htk, List.nodup_append, List.nodup_append] at hnf
          exact hnf.1.2.2 x hx x hxc rfl
      · exact hS2 x hx
    · intro x hx
      rw [htk] at hx
      simp only [List.mem_append, not_or] at hx
      rw [hU2 x hx.2, hU1 x hx.1]
  · obtain rfl : j = (kids L i).length := by omega
    rw [List.take_length, ← htr] at hW1 hS1
    rw [List.take_length] at hU1
    have hz1 : Sp1[i]? = some (((lf L O).length : Int), z) := by rw [hU1 i hni]; exact hz
    have hLv := (BufI.ei hW1.bl).lenIs
    rw [il_len] at hLv
    have s1 : i * 2 + 1 + 1 ≤ (sc Sp1).length := by rw [sc_len, hW1.slen]; omega
    have s2 := sc_set1 (b := ((lf L (O ++ tr L i)).length : Int)) hz1
    have hW2 := hW1.setS (Sp' := Sp1.set i (((lf L O).length : Int), ((lf L (O ++ tr L i)).length : Int))) (by rw [List.length_set]; exact hW1.slen)
    simp only [k0, k1, k2, k53, k54, k55, hjn, hW1.gB, hW1.gT, hW1.gS, onLst_len hLv, hi', s1, s2, Int.natCast_nonneg, wf_preprocess, ↓reduceIte, Nat.reduceEqDiff, reduceCtorEq, Nat.reduceAdd, Nat.reduceMul, Nat.reduceLeDiff, Nat.reduceLT, Nat.reduceSub, Int.reduceToNat, Int.reduceNeg, Int.reduceAdd, Int.reduceSub, Int.reduceMul, Int.reduceEq, Int.reduceLT, Int.reduceLE, Int.reduceNe, forall_const, forall_eq', forall_eq, List.forall_mem_cons, List.not_mem_nil]
    refine k _ _ vo1 vl1 _ hW2 (fun x hx => ?_) fun x hx => ?_
    · rw [htr] at hx
      rcases List.mem_cons.1 hx with rfl | hx
      · refine ⟨O, [], by simp, ?_⟩
        have hlt : x < Sp1.length := by rw [hW1.slen]; exact hi
        rw [List.getElem?_set, if_pos rfl, if_pos hlt, lf_app, List.length_append]
      · obtain ⟨A, C, e, hs⟩ := hS1 x hx
        have hne : i ≠ x := fun e => hni (e ▸ hx)
        exact ⟨A, C, e, by rw [List.getElem?_set, if_neg hne]; exact hs⟩
    · rw [htr] at hx
      simp only [List.mem_cons, not_or] at hx
      rw [List.getElem?_set, if_neg (fun e => hx.1 e.symm)]
      exact hU1 x hx.2
theorem walk1_s (ok : Ok L) : ∀ i, i < L.length → Does L m0 T N cN M K S B D r ks i := by
  refine tr_ind ok fun i ih hi m O Sp vo vl Q E hW hlen hnd k => ?_
  have ih' : ∀ k ∈ kids L i, Does L m0 T N cN M K S B D r ks k := fun k hk => ih k hk (kid_iff.1 hk).1
  have hi' : (i : Int) < (L.length : Int) := by omega
  have htl : 0 < (tr L i).length := by rw [tr_eq ok]; simp
  refine acall_fn mixed Try.func50 Try.call50 e50 r50 (Nat.le_of_ble_eq_true rfl) ?_
  rw [n_walk1]
  simp only [d50a, hW.gB, hW.gT, wf_preprocess, ↓reduceIte, Nat.reduceEqDiff, reduceCtorEq, Nat.reduceAdd, Nat.reduceMul, Nat.reduceLeDiff, Nat.reduceLT, Nat.reduceSub, Int.reduceToNat, Int.reduceNeg, Int.reduceAdd, Int.reduceSub, Int.reduceMul, Int.reduceEq, Int.reduceLT, Int.reduceLE, Int.reduceNe, forall_const, forall_eq', forall_eq, List.forall_mem_cons, List.not_mem_nil]
  refine app_bufI (l2 := il [i]) hW.bo rfl (by rw [il_len, il_len]; simp; omega) (by rw [maxLen_e, il_len, il_len]; simp; omega) fun vo1 m1 hb1 hx1 hn1 => ?_
  obtain ⟨p1, p2⟩ := hW.preO hx1
  have hW1 := hW.pushO hb1 hx1 hn1
  have f1 := form_of hb1
  have hone : vo1.cells = [vo1] := by rcases f1 with ⟨_, _, rfl⟩ | ⟨_, _, _, _, rfl⟩ <;> rfl
  simp only [p1, p2, hone, wf_preprocess, ↓reduceIte, Nat.reduceEqDiff, reduceCtorEq, Nat.reduceAdd, Nat.reduceMul, Nat.reduceLeDiff, Nat.reduceLT, Nat.reduceSub, Int.reduceToNat, Int.reduceNeg, Int.reduceAdd, Int.reduceSub, Int.reduceMul, Int.reduceEq, Int.reduceLT, Int.reduceLE, Int.reduceNe, forall_const, forall_eq', forall_eq, List.forall_mem_cons, List.not_mem_nil]
  refine ⟨by rcases f1 with ⟨_, _, rfl⟩ | ⟨_, _, _, _, rfl⟩ <;> rfl, ?_⟩
  clear p1 p2 hx1 hn1 hb1
  obtain ⟨z, hz⟩ : ∃ z, Sp[i]? = some z := ⟨_, List.getElem?_eq_getElem (by rw [hW.slen]; omega)⟩
  have hLv := (BufI.ei hW1.bl).lenIs
  rw [il_len] at hLv
  have s1 : i * 2 + 0 + 1 ≤ (sc Sp).length := by rw [sc_len, hW.slen]; omega
  have s1' : i * 2 + 1 ≤ (sc Sp).length := by omega
  have s2 := sc_set0 (a := ((lf L O).length : Int)) hz
  have hW2 := hW1.setS (Sp' := Sp.set i (((lf L O).length : Int), z.2)) (by rw [List.length_set]; exact hW.slen)
  obtain ⟨v, hv⟩ : ∃ v, ks[i]? = some v := ⟨_, List.getElem?_eq_getElem (by rw [hW.len]; omega)⟩
  have hkl := (BufI.ei (hW2.kb i v hv)).lenIs
  rw [il_len] at hkl
  have hz2 : (Sp.set i (((lf L O).length : Int), z.2))[i]? = some (((lf L O).length : Int), z.2) := by
    have hlt := (List.getElem?_eq_some_iff.1 hz).1
    rw [List.getElem?_set, if_pos rfl, if_pos hlt]
  have hfin : ∀ ρ' m' vo' vl' Sp', Wk L m0 m' T N cN M K S B D r ks vo' vl' (O ++ tr L i) (lf L (O ++ tr L i)) Sp' → SpIn L (O ++ tr L i) (tr L i) Sp' → (∀ x, x ∉ tr L i → Sp'[x]? = (Sp.set i (((lf L O).length : Int), z.2))[x]?) → (fun (ρ : Regs) (m : Heap) => Q (.tup []) m) ρ' m' := fun ρ' m' vo' vl' Sp' q1 q2 q3 => k m' vo' vl' Sp' q1 q2 fun x hx => by
    rw [q3 x hx]
    have : x ≠ i := fun e => hx (by rw [tr_eq ok, e]; simp)
    rw [List.getElem?_set, if_neg (fun e => this e.symm)]
  by_cases hleaf : kids L i = []
  · have hk0 : ((kids L i).length : Int) = 0 := by rw [hleaf]; rfl
    have hlf : lf L (O ++ [i]) = lf L O ++ [i] := by rw [lf_app]; congr 1; unfold lf isLeaf; simp [hleaf]
    simp only [hW1.gB, hW1.gT, hW1.gS, hW2.gB, hW2.gT, hW2.gK, onLst_len hLv, onLst_len hkl, hk0, hi', s1, s1', s2, ks_drop hv, Int.natCast_nonneg, wf_preprocess, ↓reduceIte, Nat.reduceEqDiff, reduceCtorEq, Nat.reduceAdd, Nat.reduceMul, Nat.reduceLeDiff, Nat.reduceLT, Nat.reduceSub, Int.reduceToNat, Int.reduceNeg, Int.reduceAdd, Int.reduceSub, Int.reduceMul, Int.reduceEq, Int.reduceLT, Int.reduceLE, Int.reduceNe, forall_const, forall_eq', forall_eq, List.forall_mem_cons, List.not_mem_nil]
    refine app_bufI (l2 := il [i]) hW2.bl rfl (by rw [il_len, il_len]; have := List.length_filter_le (isLeaf L) O; unfold lf; simp; omega) (by rw [maxLen_e, il_len, il_len]; have := List.length_filter_le (isLeaf L) O; unfold lf; simp; omega) fun vl1 m3 hb3 hx3 hn3 => ?_
    obtain ⟨p1, p2⟩ := hW2.preV hx3
    have hW3 := hW2.pushV hb3 hx3 hn3
    rw [← hlf] at hW3
    have f3 := form_of hb3
    have hone3 : vl1.cells = [vl1] := by rcases f3 with ⟨_, _, rfl⟩ | ⟨_, _, _, _, rfl⟩ <;> rfl
    simp only [p1, p2, hone3, wf_preprocess, ↓reduceIte, Nat.reduceEqDiff, reduceCtorEq, Nat.reduceAdd, Nat.reduceMul, Nat.reduceLeDiff, Nat.reduceLT, Nat.reduceSub, Int.reduceToNat, Int.reduceNeg, Int.reduceAdd, Int.reduceSub, Int.reduceMul, Int.reduceEq, Int.reduceLT, Int.reduceLE, Int.reduceNe, forall_const, forall_eq', forall_eq, List.forall_mem_cons, List.not_mem_nil]
    refine ⟨by rcases f3 with ⟨_, _, rfl⟩ | ⟨_, _, _, _, rfl⟩ <;> rfl, ?_⟩
    refine w_b ok hi ih' hW3 hlen hnd hz2 ?_ ?_ ?_ hfin <;> simp only [wf_preprocess, ↓reduceIte, Nat.reduceEqDiff, reduceCtorEq, Nat.reduceAdd, Nat.reduceMul, Nat.reduceLeDiff, Nat.reduceLT, Nat.reduceSub, Int.reduceToNat, Int.reduceNeg, Int.reduceAdd, Int.reduceSub, Int.reduceMul, Int.reduceEq, Int.reduceLT, Int.reduceLE, Int.reduceNe, forall_const, forall_eq', forall_eq, List.forall_mem_cons, List.not_mem_nil]
  · have hk0 : ¬ ((kids L i).length : Int) = 0 := by
      have : (kids L i).length ≠ 0 := fun e => hleaf (List.length_eq_zero_iff.1 e)
      omega
    have hlf : lf L (O ++ [i]) = lf L O := by rw [lf_app]; unfold lf isLeaf; simp [hleaf]
    simp only [hW1.gB, hW1.gT, hW1.gS, hW2.gB, hW2.gT, hW2.gK, onLst_len hLv, onLst_len hkl, hk0, hi', s1, s1', s2, ks_drop hv, Int.natCast_nonneg, wf_preprocess, ↓reduceIte, Nat.reduceEqDiff, reduceCtorEq, Nat.reduceAdd, Nat.reduceMul, Nat.reduceLeDiff, Nat.reduceLT, Nat.reduceSub, Int.reduceToNat, Int.reduceNeg, Int.reduceAdd, Int.reduceSub, Int.reduceMul, Int.reduceEq, Int.reduceLT, Int.reduceLE, Int.reduceNe, forall_const, forall_eq', forall_eq, List.forall_mem_cons, List.not_mem_nil]
    refine w_b ok hi ih' (O := O) (by rw [hlf]; exact hW2) hlen hnd hz2 ?_ ?_ ?_ hfin <;> simp only [wf_preprocess, ↓reduceIte, Nat.reduceEqDiff, reduceCtorEq, Nat.reduceAdd, Nat.reduceMul, Nat.reduceLeDiff, Nat.reduceLT, Nat.reduceSub, Int.reduceToNat, Int.reduceNeg, Int.reduceAdd, Int.reduceSub, Int.reduceMul, Int.reduceEq, Int.reduceLT, Int.reduceLE, Int.reduceNe, forall_const, forall_eq', forall_eq, List.forall_mem_cons, List.not_mem_nil]
end
end
end Go.Proofs.Ytceahampebofbaa.Moi.Tree
