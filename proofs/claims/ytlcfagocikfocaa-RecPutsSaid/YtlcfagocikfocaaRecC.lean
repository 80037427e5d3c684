/- What functions of this program do, on plain values: a part of the proofs of this seat's laws; each theorem bears its own conditions. -/
import Derived.Test.YtlcfagocikfocaaRecB
set_option linter.unusedVariables false
set_option linter.unusedSimpArgs false
set_option maxRecDepth 1000000
namespace Go.Proofs.Ytlcfagocikfocaa.Moi.Rec
open Go Go.RowKit Go.Proofs.Ytlcfagocikfocaa.Moi Go.Proofs.Ytlcfagocikfocaa.Moi.Wire
attribute [-wf_preprocess] ite_eq_dite forIn_eq_forIn'

theorem fresh_step {m a b : Heap} {v v' : AV} (e1 : Ext [] m a) (f1 : ∀ i ∈ refs v, i ∉ keys m) (e2 : Ext (refs v) a b) (f2 : v' = v ∨ ∀ i ∈ refs v', i ∉ keys a) : Ext [] m b ∧ ∀ i ∈ refs v', i ∉ keys m := by
  refine ⟨Ext.fresh (S' := refs v) e1 e2 fun i hi => .inr (f1 i hi), fun i hi => ?_⟩
  rcases f2 with rfl | f2
  · exact f1 i hi
  · exact fun hk => f2 i hi (by
      cases hg : get i m with
      | none => exact absurd hk (not_keys hg)
      | some o => exact mem_keys (e1 _ _ hg (by simp)))
theorem take_eq {α : Type} {a b : List α} {i : Nat} {x y : α} (h : a.take i = b.take i) (ha : a[i]? = some x) (hb : b[i]? = some y) (he : x = y) : a.take (i + 1) = b.take (i + 1) := by
  rw [List.take_add_one, List.take_add_one, h, ha, hb, he]

section
variable {S : List Nat} {y : AV} {m : Heap} {l : List Int} {Q E : AV → Heap → Prop}
theorem rPut_s (hv : Els S y m l) (k : ∀ v m', BufI .u8 (putR l).1 v m' → Ext [] m m' → (∀ i ∈ refs v, i ∉ keys m) → Q (.tup [v, iv (putR l).2]) m') : ACall Try.prog 10 [y] m Q E := by
  refine acall_fn mixed Try.func10 Try.call10 e10 r10 (Nat.le_of_ble_eq_true rfl) ?_
  unfold putR at k
  by_cases c1 : (l.length : Int) < 1
  · rw [if_pos (.inl (nil_of_len (by omega)))] at k
    simp only [n10, onLst_len hv.lenIs, eq_true c1, wf_preprocess, ↓reduceIte, Nat.reduceEqDiff, reduceCtorEq, Nat.reduceAdd, Nat.reduceMul, Nat.reduceLeDiff, Nat.reduceLT, Nat.reduceSub, Int.reduceToNat, Int.reduceNeg, Int.reduceAdd, Int.reduceSub, Int.reduceMul, Int.reduceEq, Int.reduceLT, Int.reduceLE, Int.reduceNe, forall_const, forall_eq', forall_eq, List.forall_mem_cons, List.not_mem_nil]
    exact k (.lst [] .nil) m .nil .rfl' (by simp [refs])
  by_cases c2 : (250 : Int) < (l.length : Int)
  · rw [if_pos (.inr (by omega))] at k
    simp only [n10, onLst_len hv.lenIs, eq_false c1, eq_true c2, wf_preprocess, ↓reduceIte, Nat.reduceEqDiff, reduceCtorEq, Nat.reduceAdd, Nat.reduceMul, Nat.reduceLeDiff, Nat.reduceLT, Nat.reduceSub, Int.reduceToNat, Int.reduceNeg, Int.reduceAdd, Int.reduceSub, Int.reduceMul, Int.reduceEq, Int.reduceLT, Int.reduceLE, Int.reduceNe, forall_const, forall_eq', forall_eq, List.forall_mem_cons, List.not_mem_nil]
    exact k (.lst [] .nil) m .nil .rfl' (by simp [refs])
  rw [if_neg (by rintro (rfl | h); exact c1 (by simp); omega)] at k
  have w1 : IntKind.i64.wrap ((l.length : Int) + 1) = ((l.length + 1 : Nat) : Int) := wrap64 (by omega) (by omega)
  simp only [n10, onLst_len hv.lenIs, eq_false c1, eq_false c2, w1, wf_preprocess, ↓reduceIte, Nat.reduceEqDiff, reduceCtorEq, Nat.reduceAdd, Nat.reduceMul, Nat.reduceLeDiff, Nat.reduceLT, Nat.reduceSub, Int.reduceToNat, Int.reduceNeg, Int.reduceAdd, Int.reduceSub, Int.reduceMul, Int.reduceEq, Int.reduceLT, Int.reduceLE, Int.reduceNe, forall_const, forall_eq', forall_eq, List.forall_mem_cons, List.not_mem_nil]
  refine call_i (rput_s (l := []) (n := ((l.length + 1 : Nat) : Int)) rfl (by simp) (by omega) (by omega) fun v1 m1 hb1 hd1 => ?_)
  obtain ⟨hB1, e1, f1⟩ := Buf.toI hb1 hd1
  rw [List.nil_append] at hB1
  generalize m1 ++ m = M1 at *
  have hz := enc_zig (n := ((l.length + 1 : Nat) : Int)) (by omega) (by omega)
  have hss : (sumB (crc l).toNat).length = 4 := rfl
  simp only [wf_preprocess, ↓reduceIte, Nat.reduceEqDiff, reduceCtorEq, Nat.reduceAdd, Nat.reduceMul, Nat.reduceLeDiff, Nat.reduceLT, Nat.reduceSub, Int.reduceToNat, Int.reduceNeg, Int.reduceAdd, Int.reduceSub, Int.reduceMul, Int.reduceEq, Int.reduceLT, Int.reduceLE, Int.reduceNe, forall_const, forall_eq', forall_eq, List.forall_mem_cons, List.not_mem_nil]
  refine app_bufI hB1 (hv.at (e1.sub (by simp))) (by omega) (by rw [maxLen_e]; omega) fun v2 m2 hb2 e2 f2 => ?_
  obtain ⟨e12, f2'⟩ := fresh_step e1 f1 e2 f2
  simp only [wf_preprocess, ↓reduceIte, Nat.reduceEqDiff, reduceCtorEq, Nat.reduceAdd, Nat.reduceMul, Nat.reduceLeDiff, Nat.reduceLT, Nat.reduceSub, Int.reduceToNat, Int.reduceNeg, Int.reduceAdd, Int.reduceSub, Int.reduceMul, Int.reduceEq, Int.reduceLT, Int.reduceLE, Int.reduceNe, forall_const, forall_eq', forall_eq, List.forall_mem_cons, List.not_mem_nil]
  refine call_i (rSum_s (hv.ext e12 (by simp)) (by omega) ?_)
  simp only [byte0, byte8, byte16, byte24, wf_preprocess, ↓reduceIte, Nat.reduceEqDiff, reduceCtorEq, Nat.reduceAdd, Nat.reduceMul, Nat.reduceLeDiff, Nat.reduceLT, Nat.reduceSub, Int.reduceToNat, Int.reduceNeg, Int.reduceAdd, Int.reduceSub, Int.reduceMul, Int.reduceEq, Int.reduceLT, Int.reduceLE, Int.reduceNe, forall_const, forall_eq', forall_eq, List.forall_mem_cons, List.not_mem_nil]
  refine app_bufI hb2 (l2 := sumB (crc l).toNat ++ [165]) rfl (by simp only [List.length_append, hss, List.length_singleton]; omega) (by simp only [List.length_append, hss, List.length_singleton, maxLen_e]; omega) fun v3 m3 hb3 e3 f3 => ?_
  obtain ⟨e13, f3'⟩ := fresh_step e12 f2' e3 f3
  simp only [wf_preprocess, ↓reduceIte, Nat.reduceEqDiff, reduceCtorEq, Nat.reduceAdd, Nat.reduceMul, Nat.reduceLeDiff, Nat.reduceLT, Nat.reduceSub, Int.reduceToNat, Int.reduceNeg, Int.reduceAdd, Int.reduceSub, Int.reduceMul, Int.reduceEq, Int.reduceLT, Int.reduceLE, Int.reduceNe, forall_const, forall_eq', forall_eq, List.forall_mem_cons, List.not_mem_nil]
  rw [← List.append_assoc] at hb3
  exact k v3 m3 hb3 e13 f3'

theorem equalB_s {T : List Nat} {x : AV} {a : List Int} (hx : Els S x m a) (hy : Els T y m l) (k : Q (bo (decide (a = l))) m) (hl : a.length ≤ 1000000) : ACall Try.prog 27 [x, y] m Q E := by
  refine acall_fn mixed Try.func27 Try.call27 e27 r27 (Nat.le_of_ble_eq_true rfl) ?_
  by_cases hne : (a.length : Int) = (l.length : Int)
  case neg =>
    have : a ≠ l := fun e => hne (by rw [e])
    rw [show decide (a = l) = false from decide_eq_false this] at k
    simp only [n27, onLst_len hx.lenIs, onLst_len hy.lenIs, hne, wf_preprocess, ↓reduceIte, Nat.reduceEqDiff, reduceCtorEq, Nat.reduceAdd, Nat.reduceMul, Nat.reduceLeDiff, Nat.reduceLT, Nat.reduceSub, Int.reduceToNat, Int.reduceNeg, Int.reduceAdd, Int.reduceSub, Int.reduceMul, Int.reduceEq, Int.reduceLT, Int.reduceLE, Int.reduceNe, forall_const, forall_eq', forall_eq, List.forall_mem_cons, List.not_mem_nil]
    exact k
  simp only [n27, onLst_len hx.lenIs, onLst_len hy.lenIs, eq_true hne, wf_preprocess, ↓reduceIte, Nat.reduceEqDiff, reduceCtorEq, Nat.reduceAdd, Nat.reduceMul, Nat.reduceLeDiff, Nat.reduceLT, Nat.reduceSub, Int.reduceToNat, Int.reduceNeg, Int.reduceAdd, Int.reduceSub, Int.reduceMul, Int.reduceEq, Int.reduceLT, Int.reduceLE, Int.reduceNe, forall_const, forall_eq', forall_eq, List.forall_mem_cons, List.not_mem_nil]
  refine loop_i (fun kk ρ m' => ∃ (i : Nat), kk = a.length - i ∧ i ≤ a.length ∧ ρ 0 = x ∧ ρ 1 = y ∧ ρ 12 = iv a.length ∧ ρ 13 = iv i ∧ a.take i = l.take i ∧ m' = m) a.length ⟨0, rfl, by omega, ?_⟩ ?_
  · simp only [wf_preprocess, ↓reduceIte, Nat.reduceEqDiff, reduceCtorEq, Nat.reduceAdd, Nat.reduceMul, Nat.reduceLeDiff, Nat.reduceLT, Nat.reduceSub, Int.reduceToNat, Int.reduceNeg, Int.reduceAdd, Int.reduceSub, Int.reduceMul, Int.reduceEq, Int.reduceLT, Int.reduceLE, Int.reduceNe, forall_const, forall_eq', forall_eq, List.forall_mem_cons, List.not_mem_nil]
  rintro kk ρ m' ⟨i, rfl, hi, h0, h1, h12, h13, ht, rfl⟩
  by_cases hlt : (i : Int) < (a.length : Int)
  · obtain ⟨p, hp⟩ : ∃ p, a[i]? = some p := ⟨_, List.getElem?_eq_getElem (by omega)⟩
    obtain ⟨q, hq⟩ : ∃ q, l[i]? = some q := ⟨_, List.getElem?_eq_getElem (by omega)⟩
    have w1 : IntKind.i64.wrap ((i : Int) + 1) = ((i + 1 : Nat) : Int) := wrap64 (by omega) (by omega)
    simp only [h0, h1, h12, h13, hlt, Int.natCast_nonneg, wf_preprocess, ↓reduceIte, Nat.reduceEqDiff, reduceCtorEq, Nat.reduceAdd, Nat.reduceMul, Nat.reduceLeDiff, Nat.reduceLT, Nat.reduceSub, Int.reduceToNat, Int.reduceNeg, Int.reduceAdd, Int.reduceSub, Int.reduceMul, Int.reduceEq, Int.reduceLT, Int.reduceLE, Int.reduceNe, forall_const, forall_eq', forall_eq, List.forall_mem_cons, List.not_mem_nil]
    refine idx_i (n := (i : Int)) hx (by omega) (by simpa using hp) fun a1 r1 ha1 => ?_
    simp only [h0, h1, h12, h13, hlt, ha1, Int.natCast_nonneg, wf_preprocess, ↓reduceIte, Nat.reduceEqDiff, reduceCtorEq, Nat.reduceAdd, Nat.reduceMul, Nat.reduceLeDiff, Nat.reduceLT, Nat.reduceSub, Int.reduceToNat, Int.reduceNeg, Int.reduceAdd, Int.reduceSub, Int.reduceMul, Int.reduceEq, Int.reduceLT, Int.reduceLE, Int.reduceNe, forall_const, forall_eq', forall_eq, List.forall_mem_cons, List.not_mem_nil]
    refine idx_i (n := (i : Int)) hy (by omega) (by simpa using hq) fun a2 r2 ha2 => ?_
    by_cases hpq : p = q
    · simp only [h0, h1, h12, h13, ha2, eq_true hpq, w1, wf_preprocess, ↓reduceIte, Nat.reduceEqDiff, reduceCtorEq, Nat.reduceAdd, Nat.reduceMul, Nat.reduceLeDiff, Nat.reduceLT, Nat.reduceSub, Int.reduceToNat, Int.reduceNeg, Int.reduceAdd, Int.reduceSub, Int.reduceMul, Int.reduceEq, Int.reduceLT, Int.reduceLE, Int.reduceNe, forall_const, forall_eq', forall_eq, List.forall_mem_cons, List.not_mem_nil]
      exact ⟨a.length - (i + 1), by omega, i + 1, rfl, by omega, rfl, take_eq ht hp hq hpq⟩
    · have : a ≠ l := fun e => hpq (by rw [e] at hp; rw [hp] at hq; exact Option.some.inj hq)
      rw [show decide (a = l) = false from decide_eq_false this] at k
      simp only [h0, h1, h12, h13, ha2, eq_false hpq, w1, wf_preprocess, ↓reduceIte, Nat.reduceEqDiff, reduceCtorEq, Nat.reduceAdd, Nat.reduceMul, Nat.reduceLeDiff, Nat.reduceLT, Nat.reduceSub, Int.reduceToNat, Int.reduceNeg, Int.reduceAdd, Int.reduceSub, Int.reduceMul, Int.reduceEq, Int.reduceLT, Int.reduceLE, Int.reduceNe, forall_const, forall_eq', forall_eq, List.forall_mem_cons, List.not_mem_nil]
      exact k
  · have : a = l := by
      rw [List.take_of_length_le (by omega), List.take_of_length_le (by omega)] at ht
      exact ht
    rw [show decide (a = l) = true from decide_eq_true this] at k
    simp only [h0, h1, h12, h13, hlt, wf_preprocess, ↓reduceIte, Nat.reduceEqDiff, reduceCtorEq, Nat.reduceAdd, Nat.reduceMul, Nat.reduceLeDiff, Nat.reduceLT, Nat.reduceSub, Int.reduceToNat, Int.reduceNeg, Int.reduceAdd, Int.reduceSub, Int.reduceMul, Int.reduceEq, Int.reduceLT, Int.reduceLE, Int.reduceNe, forall_const, forall_eq', forall_eq, List.forall_mem_cons, List.not_mem_nil]
    exact k

theorem cloneB_s (hv : Els S y m l) (hl : l.length ≤ 1000000) (k : ∀ v m', BufI .u8 l v m' → Ext [] m m' → (∀ i ∈ refs v, i ∉ keys m) → Q v m') : ACall Try.prog 28 [y] m Q E := by
  refine clone_b (hv.at .rfl') ?_ (by omega) fun v m1 hb hd => ?_
  · rcases hv.1 with ⟨o, rfl, ho⟩ | ⟨id, off, cap, cs, rest, rfl, _⟩
    · exact .inl ⟨_, _, rfl, fun e => by rw [ho e]; rfl⟩
    · exact .inr ⟨_, _, _, _, rfl⟩
  · obtain ⟨a, b, c⟩ := Buf.toI hb hd
    exact k _ _ a b c

/-- The record that bytes begin with. -/
def getR (l : List Int) : List Int × Int × Int :=
  if l = [] ∨ l[0]? = some 0 then ([], 0, 10) else match scan l 0 0 with
    | .inl e => ([], 0, e)
    | .inr (u, k) => if unzig u < 2 ∨ 251 < unzig u then ([], 0, 6) else
        if l.length < k + (unzig u).toNat + 4 then ([], 0, 7) else if l[k + (unzig u).toNat + 3]? = some 0 then ([], 0, 7)
        else if l[k + (unzig u).toNat + 3]? ≠ some 165 ∨ (l.drop (k + (unzig u).toNat - 1)).take 4 ≠ sumB (crc ((l.drop k).take ((unzig u).toNat - 1))).toNat then ([], 0, 6)
        else ((l.drop k).take ((unzig u).toNat - 1), ((k + (unzig u).toNat + 4 : Nat) : Int), 0)
theorem scan_long : ∀ (l : List Int) (i u : Nat), i ≤ 10 → 10 < i + l.length → scan l i u ≠ .inl 7
  | [], i, u, hi, hl => by simp at hl; omega
  | c :: l, i, u, hi, hl => by
    rw [scan]
    split
    · intro h; injection h with h; omega
    · rename_i hb
      split
      · intro h; cases h
      · exact scan_long l (i + 1) _ (by omega) (by simp only [List.length_cons] at hl; omega)
theorem scan_app : ∀ (l r : List Int) (i u : Nat), scan l i u ≠ .inl 7 → scan (l ++ r) i u = scan l i u
  | [], r, i, u, h => absurd rfl h
  | c :: l, r, i, u, h => by
    rw [List.cons_append, scan, scan]
    rw [scan] at h
    split
    · rfl
    · rename_i hb
      rw [if_neg hb] at h
      split
      · rfl
      · rename_i hc
        rw [if_neg hc] at h
        exact scan_app l r _ _ h
/-- The first bytes tell the number. -/
theorem scan_take (l : List Int) : scan (l.take 32) 0 0 = scan l 0 0 := by
  by_cases h : l.length ≤ 32
  · rw [List.take_of_length_le h]
  · have := scan_app (l.take 32) (l.drop 32) 0 0 (scan_long _ 0 0 (by omega) (by rw [List.length_take]; omega))
    rw [List.take_append_drop] at this
    exact this.symm
end
end Go.Proofs.Ytlcfagocikfocaa.Moi.Rec
