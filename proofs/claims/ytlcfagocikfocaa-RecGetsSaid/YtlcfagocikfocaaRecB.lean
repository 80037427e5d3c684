/- What functions of this program do, on plain values: a part of the proofs of this seat's laws; each theorem bears its own conditions. -/
import Derived.Test.YtlcfagocikfocaaRecA
import Derived.Test.YtlcfagocikfocaaLibWireK
set_option linter.unusedVariables false
set_option linter.unusedSimpArgs false
set_option maxRecDepth 1000000
namespace Go.Proofs.Ytlcfagocikfocaa.Moi.Rec
open Go Go.RowKit Go.Proofs.Ytlcfagocikfocaa.Moi Go.Proofs.Ytlcfagocikfocaa.Moi.Wire
attribute [-wf_preprocess] ite_eq_dite forIn_eq_forIn'

theorem Buf.toI {k : IntKind} {l : List Int} {v : AV} {m1 m : Heap} (h : Buf k l v m1) (hd : ∀ i ∈ keys m1, i ∉ keys m) : BufI k l v (m1 ++ m) ∧ Ext [] m (m1 ++ m) ∧ ∀ i ∈ refs v, i ∉ keys m := by
  refine ⟨?_, .app hd, ?_⟩
  · rcases h with ⟨rfl, h | h, rfl⟩ | ⟨id, cap, rest, rfl, h1, h2, h3, h4, rfl⟩
    · subst h; exact .nil
    · subst h; exact .full
    · exact BufI.mk h1 h2 h3 h4 (by rw [List.cons_append]; exact get_new)
  · rcases h with ⟨rfl, h | h, rfl⟩ | ⟨id, cap, rest, rfl, h1, h2, h3, h4, rfl⟩
    · subst h; simp [refs]
    · subst h; simp [refs]
    · intro i hi
      simp only [refs, List.mem_singleton] at hi
      subst hi
      exact hd _ (by simp [keys])

section
variable {S : List Nat} {y : AV} {m : Heap} {l : List Int} {Q E : AV → Heap → Prop}
theorem rSum_s (hv : Els S y m l) (hl : l.length ≤ 1000000) (k : Q (u32v (crc l)) m) : ACall Try.prog 12 [y] m Q E := by
  refine acall_fn mixed Try.func12 Try.call12 e12 r12 (Nat.le_of_ble_eq_true rfl) ?_
  simp only [n12, wf_preprocess, ↓reduceIte, Nat.reduceEqDiff, reduceCtorEq, Nat.reduceAdd, Nat.reduceMul, Nat.reduceLeDiff, Nat.reduceLT, Nat.reduceSub, Int.reduceToNat, Int.reduceNeg, Int.reduceAdd, Int.reduceSub, Int.reduceMul, Int.reduceEq, Int.reduceLT, Int.reduceLE, Int.reduceNe, forall_const, forall_eq', forall_eq, List.forall_mem_cons, List.not_mem_nil]
  refine loop_i (fun kk ρ m' => ∃ (i : Nat), kk = l.length - i ∧ i ≤ l.length ∧ ρ 0 = y ∧ ρ 3 = u32v (crcS (l.take i)) ∧ ρ 4 = iv i ∧ m' = m) l.length ⟨0, rfl, by omega, ?_⟩ ?_
  · simp only [wf_preprocess, ↓reduceIte, Nat.reduceEqDiff, reduceCtorEq, Nat.reduceAdd, Nat.reduceMul, Nat.reduceLeDiff, Nat.reduceLT, Nat.reduceSub, Int.reduceToNat, Int.reduceNeg, Int.reduceAdd, Int.reduceSub, Int.reduceMul, Int.reduceEq, Int.reduceLT, Int.reduceLE, Int.reduceNe, forall_const, forall_eq', forall_eq, List.forall_mem_cons, List.not_mem_nil]
    rfl
  rintro kk ρ m' ⟨i, rfl, hi, g0, g3, g4, rfl⟩
  by_cases hlt : (i : Int) < (l.length : Int)
  · obtain ⟨x, hx⟩ : ∃ x, l[i]? = some x := ⟨_, List.getElem?_eq_getElem (by omega)⟩
    have hxb := hv.2 x (List.mem_of_getElem? hx)
    have w1 : IntKind.i64.wrap ((i : Int) + 1) = ((i + 1 : Nat) : Int) := wrap64 (by omega) (by omega)
    simp only [g0, g3, g4, hlt, onLst_len hv.lenIs, Int.natCast_nonneg, wf_preprocess, ↓reduceIte, Nat.reduceEqDiff, reduceCtorEq, Nat.reduceAdd, Nat.reduceMul, Nat.reduceLeDiff, Nat.reduceLT, Nat.reduceSub, Int.reduceToNat, Int.reduceNeg, Int.reduceAdd, Int.reduceSub, Int.reduceMul, Int.reduceEq, Int.reduceLT, Int.reduceLE, Int.reduceNe, forall_const, forall_eq', forall_eq, List.forall_mem_cons, List.not_mem_nil]
    refine idx_i (n := (i : Int)) hv (by omega) (by simpa using hx) fun a r ha => ?_
    have wx : IntKind.u32.wrap x = x := by rw [wrap_u32]; omega
    simp only [g0, g3, g4, ha, wx, u32_xorc hxb.1 (show x < 4294967296 by omega), wf_preprocess, ↓reduceIte, Nat.reduceEqDiff, reduceCtorEq, Nat.reduceAdd, Nat.reduceMul, Nat.reduceLeDiff, Nat.reduceLT, Nat.reduceSub, Int.reduceToNat, Int.reduceNeg, Int.reduceAdd, Int.reduceSub, Int.reduceMul, Int.reduceEq, Int.reduceLT, Int.reduceLE, Int.reduceNe, forall_const, forall_eq', forall_eq, List.forall_mem_cons, List.not_mem_nil]
    refine loop_i (fun kk ρ m2 => ∃ (j : Nat), kk = 8 - j ∧ j ≤ 8 ∧ ρ 0 = y ∧ ρ 3 = u32v (stps j (crcS (l.take i) ^^^ BitVec.ofNat 32 x.toNat)) ∧ ρ 4 = iv i ∧ ρ 5 = iv j ∧ m2 = m') 8 ⟨0, rfl, by omega, ?_⟩ ?_
    · simp only [g0, g3, g4, wf_preprocess, ↓reduceIte, Nat.reduceEqDiff, reduceCtorEq, Nat.reduceAdd, Nat.reduceMul, Nat.reduceLeDiff, Nat.reduceLT, Nat.reduceSub, Int.reduceToNat, Int.reduceNeg, Int.reduceAdd, Int.reduceSub, Int.reduceMul, Int.reduceEq, Int.reduceLT, Int.reduceLE, Int.reduceNe, forall_const, forall_eq', forall_eq, List.forall_mem_cons, List.not_mem_nil]
      rfl
    rintro kk ρ m2 ⟨j, rfl, hj, g0, g3, g4, g5, rfl⟩
    by_cases hj8 : (j : Int) < 8
    · have wj : IntKind.i64.wrap ((j : Int) + 1) = ((j + 1 : Nat) : Int) := wrap64 (by omega) (by omega)
      generalize hc : stps j (crcS (l.take i) ^^^ BitVec.ofNat 32 x.toNat) = c at g3
      by_cases hodd : c.toNat % 2 = 1
      · have ho : ((c.toNat % 2 : Nat) : Int) = 1 := by omega
        simp only [g0, g3, g4, g5, hj8, u32_shr, u32_and1, eq_true ho, u32_xorc (show (0 : Int) ≤ 3988292384 by omega) (show (3988292384 : Int) < 4294967296 by omega), wj, wf_preprocess, ↓reduceIte, Nat.reduceEqDiff, reduceCtorEq, Nat.reduceAdd, Nat.reduceMul, Nat.reduceLeDiff, Nat.reduceLT, Nat.reduceSub, Int.reduceToNat, Int.reduceNeg, Int.reduceAdd, Int.reduceSub, Int.reduceMul, Int.reduceEq, Int.reduceLT, Int.reduceLE, Int.reduceNe, forall_const, forall_eq', forall_eq, List.forall_mem_cons, List.not_mem_nil]
        exact ⟨8 - (j + 1), by omega, j + 1, rfl, by omega, by rw [stps, hc, stp, if_pos hodd]; rfl, rfl⟩
      · have ho : ¬ ((c.toNat % 2 : Nat) : Int) = 1 := by omega
        simp only [g0, g3, g4, g5, hj8, u32_shr, u32_and1, eq_false ho, wj, wf_preprocess, ↓reduceIte, Nat.reduceEqDiff, reduceCtorEq, Nat.reduceAdd, Nat.reduceMul, Nat.reduceLeDiff, Nat.reduceLT, Nat.reduceSub, Int.reduceToNat, Int.reduceNeg, Int.reduceAdd, Int.reduceSub, Int.reduceMul, Int.reduceEq, Int.reduceLT, Int.reduceLE, Int.reduceNe, forall_const, forall_eq', forall_eq, List.forall_mem_cons, List.not_mem_nil]
        exact ⟨8 - (j + 1), by omega, j + 1, rfl, by omega, by rw [stps, hc, stp, if_neg hodd, BitVec.xor_zero], rfl⟩
    · have : j = 8 := by omega
      subst this
      simp only [g0, g3, g4, g5, hj8, w1, wf_preprocess, ↓reduceIte, Nat.reduceEqDiff, reduceCtorEq, Nat.reduceAdd, Nat.reduceMul, Nat.reduceLeDiff, Nat.reduceLT, Nat.reduceSub, Int.reduceToNat, Int.reduceNeg, Int.reduceAdd, Int.reduceSub, Int.reduceMul, Int.reduceEq, Int.reduceLT, Int.reduceLE, Int.reduceNe, forall_const, forall_eq', forall_eq, List.forall_mem_cons, List.not_mem_nil]
      exact ⟨l.length - (i + 1), by omega, i + 1, rfl, by omega, by rw [crcS_snoc hx]; rfl, rfl⟩
  · have hie : i = l.length := by omega
    subst hie
    rw [List.take_length] at g3
    simp only [g0, g3, g4, hlt, onLst_len hv.lenIs, u32_not, wf_preprocess, ↓reduceIte, Nat.reduceEqDiff, reduceCtorEq, Nat.reduceAdd, Nat.reduceMul, Nat.reduceLeDiff, Nat.reduceLT, Nat.reduceSub, Int.reduceToNat, Int.reduceNeg, Int.reduceAdd, Int.reduceSub, Int.reduceMul, Int.reduceEq, Int.reduceLT, Int.reduceLE, Int.reduceNe, forall_const, forall_eq', forall_eq, List.forall_mem_cons, List.not_mem_nil]
    exact k

theorem byte0 {s : BitVec 32} : IntKind.u8.wrap (s.toNat : Int) = ((s.toNat % 256 : Nat) : Int) := by rw [wrap_u8]; omega
theorem byte8 {s : BitVec 32} : IntKind.u8.wrap ((s.toNat : Int).fdiv ((2 : Int) ^ min 8 IntKind.u32.bits)) = ((s.toNat / 256 % 256 : Nat) : Int) := by
  rw [show (2 : Int) ^ min 8 IntKind.u32.bits = 256 from rfl, Int.fdiv_eq_ediv_of_nonneg _ (by omega), wrap_u8]; omega
theorem byte16 {s : BitVec 32} : IntKind.u8.wrap ((s.toNat : Int).fdiv ((2 : Int) ^ min 16 IntKind.u32.bits)) = ((s.toNat / 65536 % 256 : Nat) : Int) := by
  rw [show (2 : Int) ^ min 16 IntKind.u32.bits = 65536 from rfl, Int.fdiv_eq_ediv_of_nonneg _ (by omega), wrap_u8]; omega
theorem byte24 {s : BitVec 32} : IntKind.u8.wrap ((s.toNat : Int).fdiv ((2 : Int) ^ min 24 IntKind.u32.bits)) = ((s.toNat / 16777216 % 256 : Nat) : Int) := by
  rw [show (2 : Int) ^ min 24 IntKind.u32.bits = 16777216 from rfl, Int.fdiv_eq_ediv_of_nonneg _ (by omega), wrap_u8]; omega
theorem sum_s (hv : Els S y m l) (hl : l.length ≤ 1000000) (k : Q (.lst (kl .u8 (sumB (crc l).toNat)) .full) m) : ACall Try.prog 21 [y] m Q E := by
  refine acall_fn mixed Try.func21 Try.call21 e21 r21 (Nat.le_of_ble_eq_true rfl) ?_
  simp only [n21, wf_preprocess, ↓reduceIte, Nat.reduceEqDiff, reduceCtorEq, Nat.reduceAdd, Nat.reduceMul, Nat.reduceLeDiff, Nat.reduceLT, Nat.reduceSub, Int.reduceToNat, Int.reduceNeg, Int.reduceAdd, Int.reduceSub, Int.reduceMul, Int.reduceEq, Int.reduceLT, Int.reduceLE, Int.reduceNe, forall_const, forall_eq', forall_eq, List.forall_mem_cons, List.not_mem_nil]
  refine call_i (Sum_s hv hl ?_)
  simp only [byte0, byte8, byte16, byte24, wf_preprocess, ↓reduceIte, Nat.reduceEqDiff, reduceCtorEq, Nat.reduceAdd, Nat.reduceMul, Nat.reduceLeDiff, Nat.reduceLT, Nat.reduceSub, Int.reduceToNat, Int.reduceNeg, Int.reduceAdd, Int.reduceSub, Int.reduceMul, Int.reduceEq, Int.reduceLT, Int.reduceLE, Int.reduceNe, forall_const, forall_eq', forall_eq, List.forall_mem_cons, List.not_mem_nil]
  exact k

/-- A record's bytes. -/
def recB (l : List Int) : List Int := enc (zig ((l.length + 1 : Nat) : Int)) ++ l ++ sumB (crc l).toNat ++ [165]
def putR (l : List Int) : List Int × Int := if l = [] ∨ 250 < l.length then ([], 5) else (recB l, 0)
theorem recB_byte (h : byteL l) : byteL (recB l) := by
  unfold recB
  refine byte_app (byte_app (byte_app (enc_range _) h) (sum_byte _)) ?_
  intro c hc
  simp only [List.mem_singleton] at hc
  omega
theorem putR_byte (h : byteL l) : byteL (putR l).1 := by
  unfold putR
  split
  · intro c hc; simp at hc
  · exact recB_byte h
theorem nil_of_len (h : (l.length : Int) = 0) : l = [] := List.eq_nil_of_length_eq_zero (by omega)
theorem Put_s (hv : Els S y m l) (k : ∀ v m', BufI .u8 (putR l).1 v m' → Ext [] m m' → (∀ i ∈ refs v, i ∉ keys m) → Q (.tup [v, iv (putR l).2]) m') : ACall Try.prog 9 [y] m Q E := by
  refine acall_fn mixed Try.func9 Try.call9 e9 r9 (Nat.le_of_ble_eq_true rfl) ?_
  unfold putR at k
  by_cases c1 : (l.length : Int) = 0
  · rw [if_pos (.inl (nil_of_len c1))] at k
    simp only [n9, onLst_len hv.lenIs, eq_true c1, wf_preprocess, ↓reduceIte, Nat.reduceEqDiff, reduceCtorEq, Nat.reduceAdd, Nat.reduceMul, Nat.reduceLeDiff, Nat.reduceLT, Nat.reduceSub, Int.reduceToNat, Int.reduceNeg, Int.reduceAdd, Int.reduceSub, Int.reduceMul, Int.reduceEq, Int.reduceLT, Int.reduceLE, Int.reduceNe, forall_const, forall_eq', forall_eq, List.forall_mem_cons, List.not_mem_nil]
    exact k (.lst [] .nil) m .nil .rfl' (by simp [refs])
  by_cases c2 : (250 : Int) < (l.length : Int)
  · rw [if_pos (.inr (by omega))] at k
    simp only [n9, onLst_len hv.lenIs, eq_false c1, eq_true c2, wf_preprocess, ↓reduceIte, Nat.reduceEqDiff, reduceCtorEq, Nat.reduceAdd, Nat.reduceMul, Nat.reduceLeDiff, Nat.reduceLT, Nat.reduceSub, Int.reduceToNat, Int.reduceNeg, Int.reduceAdd, Int.reduceSub, Int.reduceMul, Int.reduceEq, Int.reduceLT, Int.reduceLE, Int.reduceNe, forall_const, forall_eq', forall_eq, List.forall_mem_cons, List.not_mem_nil]
    exact k (.lst [] .nil) m .nil .rfl' (by simp [refs])
  rw [if_neg (by rintro (rfl | h); exact c1 rfl; omega)] at k
  have w1 : IntKind.i64.wrap ((l.length : Int) + 1) = ((l.length + 1 : Nat) : Int) := wrap64 (by omega) (by omega)
  simp only [n9, onLst_len hv.lenIs, eq_false c1, eq_false c2, w1, wf_preprocess, ↓reduceIte, Nat.reduceEqDiff, reduceCtorEq, Nat.reduceAdd, Nat.reduceMul, Nat.reduceLeDiff, Nat.reduceLT, Nat.reduceSub, Int.reduceToNat, Int.reduceNeg, Int.reduceAdd, Int.reduceSub, Int.reduceMul, Int.reduceEq, Int.reduceLT, Int.reduceLE, Int.reduceNe, forall_const, forall_eq', forall_eq, List.forall_mem_cons, List.not_mem_nil]
  refine call_i (all_s (l := [((l.length + 1 : Nat) : Int)]) (by simp) (by intro n hn; simp only [List.mem_singleton] at hn; subst hn; simp only [Lit.wf, IntKind.min, IntKind.max, IntKind.signed, IntKind.bits]; simp; omega) fun v1 m1 hb1 hd1 => ?_)
  obtain ⟨hB1, e1, f1⟩ := Buf.toI hb1 hd1
  rw [encs_one] at hB1
  generalize m1 ++ m = M1 at *
  have hz := enc_zig (n := ((l.length + 1 : Nat) : Int)) (by omega) (by omega)
  have hss : (sumB (crc l).toNat).length = 4 := rfl
  simp only [wf_preprocess, ↓reduceIte, Nat.reduceEqDiff, reduceCtorEq, Nat.reduceAdd, Nat.reduceMul, Nat.reduceLeDiff, Nat.reduceLT, Nat.reduceSub, Int.reduceToNat, Int.reduceNeg, Int.reduceAdd, Int.reduceSub, Int.reduceMul, Int.reduceEq, Int.reduceLT, Int.reduceLE, Int.reduceNe, forall_const, forall_eq', forall_eq, List.forall_mem_cons, List.not_mem_nil]
  refine app_bufI hB1 (hv.at (e1.sub (by simp))) (by omega) (by rw [maxLen_e]; omega) fun v2 m2 hb2 e2 f2 => ?_
  have e12 : Ext [] m m2 := Ext.fresh (S' := refs v1) e1 e2 fun i hi => .inr (f1 i hi)
  have f2' : ∀ i ∈ refs v2, i ∉ keys m := fun i hi => by
    rcases f2 with rfl | f2
    · exact f1 i hi
    · exact fun hk => f2 i hi (by
        cases hg : get i m with
        | none => exact absurd hk (not_keys hg)
        | some o => exact mem_keys (e1 _ _ hg (by simp)))
  simp only [wf_preprocess, ↓reduceIte, Nat.reduceEqDiff, reduceCtorEq, Nat.reduceAdd, Nat.reduceMul, Nat.reduceLeDiff, Nat.reduceLT, Nat.reduceSub, Int.reduceToNat, Int.reduceNeg, Int.reduceAdd, Int.reduceSub, Int.reduceMul, Int.reduceEq, Int.reduceLT, Int.reduceLE, Int.reduceNe, forall_const, forall_eq', forall_eq, List.forall_mem_cons, List.not_mem_nil]
  refine call_i (sum_s (hv.ext e12 (by simp)) (by omega) ?_)
  simp only [wf_preprocess, ↓reduceIte, Nat.reduceEqDiff, reduceCtorEq, Nat.reduceAdd, Nat.reduceMul, Nat.reduceLeDiff, Nat.reduceLT, Nat.reduceSub, Int.reduceToNat, Int.reduceNeg, Int.reduceAdd, Int.reduceSub, Int.reduceMul, Int.reduceEq, Int.reduceLT, Int.reduceLE, Int.reduceNe, forall_const, forall_eq', forall_eq, List.forall_mem_cons, List.not_mem_nil]
  refine app_bufI hb2 (l2 := sumB (crc l).toNat) rfl (by rw [List.length_append, hss]; omega) (by rw [List.length_append, hss, maxLen_e]; omega) fun v3 m3 hb3 e3 f3 => ?_
  have e13 : Ext [] m m3 := Ext.fresh (S' := refs v2) e12 e3 fun i hi => .inr (f2' i hi)
  have f3' : ∀ i ∈ refs v3, i ∉ keys m := fun i hi => by
    rcases f3 with rfl | f3
    · exact f2' i hi
    · exact fun hk => f3 i hi (by
        cases hg : get i m with
        | none => exact absurd hk (not_keys hg)
        | some o => exact mem_keys (e12 _ _ hg (by simp)))
  simp only [wf_preprocess, ↓reduceIte, Nat.reduceEqDiff, reduceCtorEq, Nat.reduceAdd, Nat.reduceMul, Nat.reduceLeDiff, Nat.reduceLT, Nat.reduceSub, Int.reduceToNat, Int.reduceNeg, Int.reduceAdd, Int.reduceSub, Int.reduceMul, Int.reduceEq, Int.reduceLT, Int.reduceLE, Int.reduceNe, forall_const, forall_eq', forall_eq, List.forall_mem_cons, List.not_mem_nil]
  refine app_bufI hb3 (l2 := [165]) rfl (by simp only [List.length_append, hss, List.length_singleton]; omega) (by simp only [List.length_append, hss, List.length_singleton, maxLen_e]; omega) fun v4 m4 hb4 e4 f4 => ?_
  simp only [wf_preprocess, ↓reduceIte, Nat.reduceEqDiff, reduceCtorEq, Nat.reduceAdd, Nat.reduceMul, Nat.reduceLeDiff, Nat.reduceLT, Nat.reduceSub, Int.reduceToNat, Int.reduceNeg, Int.reduceAdd, Int.reduceSub, Int.reduceMul, Int.reduceEq, Int.reduceLT, Int.reduceLE, Int.reduceNe, forall_const, forall_eq', forall_eq, List.forall_mem_cons, List.not_mem_nil]
  refine k v4 m4 hb4 (Ext.fresh (S' := refs v3) e13 e4 fun i hi => .inr (f3' i hi)) fun i hi => ?_
  rcases f4 with rfl | f4
  · exact f3' i hi
  · exact fun hk => f4 i hi (by
      cases hg : get i m with
      | none => exact absurd hk (not_keys hg)
      | some o => exact mem_keys (e13 _ _ hg (by simp)))
end
end Go.Proofs.Ytlcfagocikfocaa.Moi.Rec
