/- What functions of this program do, on plain values: a part of the proofs of this seat's laws; each theorem bears its own conditions. -/
import Derived.Test.YtlcfagocikfocaaLibWireG
set_option linter.unusedVariables false
set_option linter.unusedSimpArgs false
set_option maxRecDepth 1000000
namespace Go.Proofs.Ytlcfagocikfocaa.Moi.Wire
open Go Go.RowKit Go.Proofs.Ytlcfagocikfocaa.Moi
attribute [-wf_preprocess] ite_eq_dite forIn_eq_forIn'

theorem not_u64 {a : Int} (h0 : 0 ≤ a) (h1 : a < 18446744073709551616) : IntKind.u64.wrap ((BitVec.ofInt IntKind.u64.bits (if IntKind.u64.signed = true then -1 else IntKind.u64.max) ^^^ BitVec.ofInt IntKind.u64.bits a).toNat) = 18446744073709551615 - a := by
  have e : (if IntKind.u64.signed = true then -1 else IntKind.u64.max : Int) = 18446744073709551615 := by decide
  have z1 : BitVec.ofInt 64 18446744073709551615 = BitVec.allOnes 64 := by decide
  have hb : IntKind.u64.bits = 64 := rfl
  rw [e, hb, z1, BitVec.xor_comm, BitVec.xor_allOnes, BitVec.toNat_not, BitVec.toNat_ofInt, wrap_u64]
  omega

theorem get_over {i : Nat} {ob : AObj} {a m : Heap} (h : get i m = some ob) (hd : ∀ j ∈ keys a, j ∉ keys m) : get i (a ++ m) = some ob := by
  rw [get_skip (fun hk => hd i hk (List.mem_map.2 ⟨_, get_mem h, rfl⟩))]
  exact h

theorem rput_s {l : List Int} {y : AV} {n : Int} {m : Heap} {Q E : AV → Heap → Prop} (hy : aelems none y m = some (bl l)) (hl : l.length ≤ 1000000) (h1 : -9223372036854775808 ≤ n) (h2 : n ≤ 9223372036854775807)
    (h : ∀ v m1, Buf .u8 (l ++ enc (zig n)) v m1 → (∀ i ∈ keys m1, i ∉ keys m) → Q v (m1 ++ m)) : ACall Try.prog 22 [y, iv n] m Q E := by
  refine acall_fn mixed Try.func22 Try.call22 e22 r22 (Nat.le_of_ble_eq_true rfl) ?_
  simp only [n22, wf_preprocess, ↓reduceIte, Nat.reduceEqDiff, reduceCtorEq, Nat.reduceAdd, Nat.reduceMul, Nat.reduceLeDiff, Nat.reduceLT, Nat.reduceSub, Int.reduceToNat, Int.reduceNeg, Int.reduceAdd, Int.reduceSub, Int.reduceMul, Int.reduceEq, Int.reduceLT, Int.reduceLE, Int.reduceNe, forall_const, forall_eq', forall_eq, List.forall_mem_cons, List.not_mem_nil]
  refine app_buf (m1 := []) (r := m) Buf.nil hy (by simp; omega) (by simp [maxLen_e]; omega) fun v m1 hb hd => ?_
  have hp : (2 : Int) ^ min 1 IntKind.u64.bits = 2 := rfl
  have hz := enc_zig h1 h2
  rw [List.nil_append] at hb
  by_cases hn : n < 0
  case' pos =>
    have e1 : IntKind.u64.wrap (IntKind.u64.wrap n * 2) = (n * 2) % 18446744073709551616 := by rw [wrap_u64, wrap_u64]; omega
    have e2 := not_u64 (a := (n * 2) % 18446744073709551616) (by omega) (by omega)
    have e3 : (18446744073709551615 - (n * 2) % 18446744073709551616 : Int) = (zig n : Int) := by unfold zig; rw [if_neg (by omega)]; omega
    simp only [hp, hn, e1, e2, e3, wf_preprocess, ↓reduceIte, Nat.reduceEqDiff, reduceCtorEq, Nat.reduceAdd, Nat.reduceMul, Nat.reduceLeDiff, Nat.reduceLT, Nat.reduceSub, Int.reduceToNat, Int.reduceNeg, Int.reduceAdd, Int.reduceSub, Int.reduceMul, Int.reduceEq, Int.reduceLT, Int.reduceLE, Int.reduceNe, forall_const, forall_eq', forall_eq, List.forall_mem_cons, List.not_mem_nil]
  case' neg =>
    have e1 : IntKind.u64.wrap (IntKind.u64.wrap n * 2) = (zig n : Int) := by rw [wrap_u64, wrap_u64]; unfold zig; rw [if_pos (by omega)]; omega
    simp only [hp, hn, e1, wf_preprocess, ↓reduceIte, Nat.reduceEqDiff, reduceCtorEq, Nat.reduceAdd, Nat.reduceMul, Nat.reduceLeDiff, Nat.reduceLT, Nat.reduceSub, Int.reduceToNat, Int.reduceNeg, Int.reduceAdd, Int.reduceSub, Int.reduceMul, Int.reduceEq, Int.reduceLT, Int.reduceLE, Int.reduceNe, forall_const, forall_eq', forall_eq, List.forall_mem_cons, List.not_mem_nil]
  all_goals
    refine loop_i (fun k ρ m' => ∃ (u : Nat) (l' : List Int) (v' : AV) (m1' : Heap), k = u ∧ ρ 5 = v' ∧ ρ 6 = .sc (.int .u64 u) ∧ Buf .u8 l' v' m1' ∧ (∀ i ∈ keys m1', i ∉ keys m) ∧ l' ++ enc u = l ++ enc (zig n) ∧ u < 18446744073709551616 ∧ l'.length + (enc u).length ≤ 1000100 ∧ m' = m1' ++ m) (zig n)
      ⟨zig n, l, v, m1, rfl, ?_⟩ ?_
    · simp only [wf_preprocess, ↓reduceIte, Nat.reduceEqDiff, reduceCtorEq, Nat.reduceAdd, Nat.reduceMul, Nat.reduceLeDiff, Nat.reduceLT, Nat.reduceSub, Int.reduceToNat, Int.reduceNeg, Int.reduceAdd, Int.reduceSub, Int.reduceMul, Int.reduceEq, Int.reduceLT, Int.reduceLE, Int.reduceNe, forall_const, forall_eq', forall_eq, List.forall_mem_cons, List.not_mem_nil]
      exact ⟨hb, hd, zig_lt h1 h2, by omega⟩
    rintro k ρ m' ⟨u, l', v', m1', rfl, h0, h5, hb', hd', hl', hu, hlen, rfl⟩
    by_cases hc : (128 : Int) ≤ (k : Int)
    · have a1 : IntKind.u64.wrap ((k : Int).tmod 128) = ((k % 128 : Nat) : Int) := by rw [wrap_u64, Int.tmod_eq_emod_of_nonneg (by omega)]; omega
      have a1' : (k : Int).tmod 128 = ((k % 128 : Nat) : Int) := by rw [Int.tmod_eq_emod_of_nonneg (by omega)]; omega
      have a2 : IntKind.u8.wrap ((k % 128 : Nat) : Int) = ((k % 128 : Nat) : Int) := by rw [wrap_u8]; omega
      have a3 : IntKind.u8.wrap (((k % 128 : Nat) : Int) + 128) = ((k % 128 + 128 : Nat) : Int) := by rw [wrap_u8]; omega
      have a4 : IntKind.u64.wrap ((k : Int).tdiv 128) = ((k / 128 : Nat) : Int) := by rw [wrap_u64, Int.tdiv_eq_ediv_of_nonneg (by omega)]; omega
      rw [enc_ge (by omega)] at hl' hlen
      simp only [List.length_cons] at hlen
      simp only [h0, h5, hc, a1', a2, a3, wf_preprocess, ↓reduceIte, Nat.reduceEqDiff, reduceCtorEq, Nat.reduceAdd, Nat.reduceMul, Nat.reduceLeDiff, Nat.reduceLT, Nat.reduceSub, Int.reduceToNat, Int.reduceNeg, Int.reduceAdd, Int.reduceSub, Int.reduceMul, Int.reduceEq, Int.reduceLT, Int.reduceLE, Int.reduceNe, forall_const, forall_eq', forall_eq, List.forall_mem_cons, List.not_mem_nil]
      refine app_buf hb' (l2 := [((k % 128 + 128 : Nat) : Int)]) rfl (by simp; omega) (by simp [maxLen_e]; omega) fun v2 m2 hb2 hd2 => ?_
      simp only [h0, h5, a4, wf_preprocess, ↓reduceIte, Nat.reduceEqDiff, reduceCtorEq, Nat.reduceAdd, Nat.reduceMul, Nat.reduceLeDiff, Nat.reduceLT, Nat.reduceSub, Int.reduceToNat, Int.reduceNeg, Int.reduceAdd, Int.reduceSub, Int.reduceMul, Int.reduceEq, Int.reduceLT, Int.reduceLE, Int.reduceNe, forall_const, forall_eq', forall_eq, List.forall_mem_cons, List.not_mem_nil]
      exact ⟨k / 128, by omega, k / 128, _, v2, m2, rfl, rfl, rfl, hb2, hd2, by rw [← hl']; simp, by omega, by simp; omega, rfl⟩
    · have e3 : IntKind.u8.wrap (k : Int) = (k : Int) := by rw [wrap_u8]; omega
      rw [enc_lt (by omega)] at hl' hlen
      simp only [List.length_cons, List.length_nil] at hlen
      simp only [h0, h5, hc, e3, wf_preprocess, ↓reduceIte, Nat.reduceEqDiff, reduceCtorEq, Nat.reduceAdd, Nat.reduceMul, Nat.reduceLeDiff, Nat.reduceLT, Nat.reduceSub, Int.reduceToNat, Int.reduceNeg, Int.reduceAdd, Int.reduceSub, Int.reduceMul, Int.reduceEq, Int.reduceLT, Int.reduceLE, Int.reduceNe, forall_const, forall_eq', forall_eq, List.forall_mem_cons, List.not_mem_nil]
      refine app_buf hb' (l2 := [(k : Int)]) rfl (by simp; omega) (by simp [maxLen_e]; omega) fun v2 m2 hb2 hd2 => ?_
      simp only [wf_preprocess, ↓reduceIte, Nat.reduceEqDiff, reduceCtorEq, Nat.reduceAdd, Nat.reduceMul, Nat.reduceLeDiff, Nat.reduceLT, Nat.reduceSub, Int.reduceToNat, Int.reduceNeg, Int.reduceAdd, Int.reduceSub, Int.reduceMul, Int.reduceEq, Int.reduceLT, Int.reduceLE, Int.reduceNe, forall_const, forall_eq', forall_eq, List.forall_mem_cons, List.not_mem_nil]
      exact h v2 m2 (by rw [← hl']; exact hb2) hd2

def twelve : List Int := [1, 2, 3, 4, 5, 6, 7, 8, 9, 10, 11, 12]

/-- Bytes with others behind them. -/
def LentO (l : List Int) (cap : Nat) (id : Nat) (m : Heap) : Prop := ∃ rest, get id m = some (.cells (bl (l ++ twelve) ++ rest)) ∧ l.length + 12 ≤ cap ∧ cap ≤ maxLen ∧ rest.length = cap - (l.length + 12) ∧ allOne rest = true
theorem lent_s {l : List Int} {y : AV} {m : Heap} {Q E : AV → Heap → Prop} (hy : aelems none y m = some (bl l)) (hl : l.length ≤ 1000000)
    (hyl : LenIs y l.length)
    (h : ∀ id cap m', LentO l cap id m' → id ∉ keys m → Ext [] m m' → Q (.mref id 0 l.length cap) m') : ACall Try.prog 8 [y] m Q E := by
  refine acall_fn mixed Try.func8 Try.call8 e8 r8 (Nat.le_of_ble_eq_true rfl) ?_
  simp only [n8, wf_preprocess, ↓reduceIte, Nat.reduceEqDiff, reduceCtorEq, Nat.reduceAdd, Nat.reduceMul, Nat.reduceLeDiff, Nat.reduceLT, Nat.reduceSub, Int.reduceToNat, Int.reduceNeg, Int.reduceAdd, Int.reduceSub, Int.reduceMul, Int.reduceEq, Int.reduceLT, Int.reduceLE, Int.reduceNe, forall_const, forall_eq', forall_eq, List.forall_mem_cons, List.not_mem_nil]
  refine app_bufI BufI.nil hy (by simp; omega) (by simp [maxLen_e]; omega) fun v m1 hb he hv => ?_
  simp only [wf_preprocess, ↓reduceIte, Nat.reduceEqDiff, reduceCtorEq, Nat.reduceAdd, Nat.reduceMul, Nat.reduceLeDiff, Nat.reduceLT, Nat.reduceSub, Int.reduceToNat, Int.reduceNeg, Int.reduceAdd, Int.reduceSub, Int.reduceMul, Int.reduceEq, Int.reduceLT, Int.reduceLE, Int.reduceNe, forall_const, forall_eq', forall_eq, List.forall_mem_cons, List.not_mem_nil]
  refine app_bufI hb (l2 := twelve) rfl (by simp [twelve]; omega) (by simp [twelve, maxLen_e]; omega) fun v2 m2 hb2 he2 hv2 => ?_
  rw [List.nil_append] at hb2
  obtain ⟨id, cap, rest, rfl, k1, k2, k3, k4, k5⟩ := hb2.ref (by simp [twelve])
  rw [List.length_append, show twelve.length = 12 from rfl] at k1 k3
  have hid : id ∉ keys m := by
    rcases hv2 with e | e
    · rcases hv with rfl | e2
      · cases e
      · exact e2 id (by rw [← e]; simp [refs])
    · intro hk
      refine e id (by simp [refs]) ?_
      cases hg : get id m with
      | none => exact absurd hk (not_keys hg)
      | some ob => exact mem_keys (he id ob hg (by simp [refs]))
  have hee : Ext [] m m2 := fun i ob hi _ => by
    refine he2 i ob (he i ob hi (by simp [refs])) fun hr => ?_
    rcases hv with rfl | e2
    · simp [refs] at hr
    · exact e2 i hr (mem_keys hi)
  have fin : Q (.mref id 0 l.length cap) m2 := h id cap m2 ⟨rest, k5, k1, k2, k3, k4⟩ hid hee
  have c1 : ¬ (cap : Int) = 0 := by omega
  simp only [onLst_len hyl, c1, wf_preprocess, ↓reduceIte, Nat.reduceEqDiff, reduceCtorEq, Nat.reduceAdd, Nat.reduceMul, Nat.reduceLeDiff, Nat.reduceLT, Nat.reduceSub, Int.reduceToNat, Int.reduceNeg, Int.reduceAdd, Int.reduceSub, Int.reduceMul, Int.reduceEq, Int.reduceLT, Int.reduceLE, Int.reduceNe, forall_const, forall_eq', forall_eq, List.forall_mem_cons, List.not_mem_nil]
  exact ⟨by omega, by omega, fin⟩

theorem bl_get {l : List Int} {i : Nat} {x : Int} (h : l[i]? = some x) : (bl l)[i]? = some (kv .u8 x) := by rw [List.getElem?_map, h]; rfl

/-- All bytes are others. -/
theorem spoil_s {l : List Int} {id cap : Nat} {rest : List AV} {m : Heap} {Q E : AV → Heap → Prop} (hg : get id m = some (.cells (bl l ++ rest))) (hl : l.length ≤ 10000000)
    (h : ∀ x l', l'.length = l.length → Q x (put id (.cells (bl l' ++ rest)) m)) : ACall Try.prog 13 [.mref id 0 l.length cap] m Q E := by
  refine acall_fn mixed Try.func13 Try.call13 e13 r13 (Nat.le_of_ble_eq_true rfl) ?_
  simp only [n13, wf_preprocess, ↓reduceIte, Nat.reduceEqDiff, reduceCtorEq, Nat.reduceAdd, Nat.reduceMul, Nat.reduceLeDiff, Nat.reduceLT, Nat.reduceSub, Int.reduceToNat, Int.reduceNeg, Int.reduceAdd, Int.reduceSub, Int.reduceMul, Int.reduceEq, Int.reduceLT, Int.reduceLE, Int.reduceNe, forall_const, forall_eq', forall_eq, List.forall_mem_cons, List.not_mem_nil]
  refine loop_i (fun k ρ m' => ∃ (i : Nat) (l' : List Int), k = l.length - i ∧ i ≤ l.length ∧ ρ 0 = .mref id 0 l.length cap ∧ ρ 2 = iv i ∧ l'.length = l.length ∧ m' = put id (.cells (bl l' ++ rest)) m) l.length ⟨0, l, rfl, by omega, ?_⟩ ?_
  · simp only [wf_preprocess, ↓reduceIte, Nat.reduceEqDiff, reduceCtorEq, Nat.reduceAdd, Nat.reduceMul, Nat.reduceLeDiff, Nat.reduceLT, Nat.reduceSub, Int.reduceToNat, Int.reduceNeg, Int.reduceAdd, Int.reduceSub, Int.reduceMul, Int.reduceEq, Int.reduceLT, Int.reduceLE, Int.reduceNe, forall_const, forall_eq', forall_eq, List.forall_mem_cons, List.not_mem_nil]
    exact put_same hg
  rintro k ρ m' ⟨i, l', rfl, hi, h0, h2, hl', rfl⟩
  have hg' := get_put (ob := .cells (bl l' ++ rest)) hg
  by_cases hlt : (i : Int) < (l.length : Int)
  · have hx : l'[i]? = some (l'[i]'(by omega)) := by rw [List.getElem?_eq_getElem]
    generalize l'[i]'(by omega) = x at hx
    have hx' : (bl l' ++ rest).drop i = kv .u8 x :: (bl l' ++ rest).drop (i + 1) := by
      have hlen : i < (bl l' ++ rest).length := by rw [List.length_append, kl_len]; omega
      rw [List.drop_eq_getElem_cons hlen, List.getElem_append_left (by rw [kl_len]; omega)]
      have := bl_get hx
      rw [List.getElem?_eq_getElem (by rw [kl_len]; omega)] at this
      rw [Option.some.inj this]
    have w1 : IntKind.i64.wrap ((i : Int) + 1) = ((i + 1 : Nat) : Int) := wrap64 (by omega) (by omega)
    have hsp : ∀ y : AV, splice i [y] (bl l' ++ rest) = (bl l' ++ rest).set i y := fun y => splice_one _ _ _ (by rw [List.length_append, kl_len]; omega)
    simp only [h0, h2, hlt, hg', hx', Int.natCast_nonneg, hsp, put_put, w1, wf_preprocess, ↓reduceIte, Nat.reduceEqDiff, reduceCtorEq, Nat.reduceAdd, Nat.reduceMul, Nat.reduceLeDiff, Nat.reduceLT, Nat.reduceSub, Int.reduceToNat, Int.reduceNeg, Int.reduceAdd, Int.reduceSub, Int.reduceMul, Int.reduceEq, Int.reduceLT, Int.reduceLE, Int.reduceNe, forall_const, forall_eq', forall_eq, List.forall_mem_cons, List.not_mem_nil]
    refine ⟨by rw [List.length_append, kl_len]; omega, l.length - (i + 1), by omega, i + 1, l'.set i (IntKind.u8.wrap ((BitVec.ofInt IntKind.u8.bits x ^^^ BitVec.ofInt IntKind.u8.bits 255).toNat)), rfl, by omega, rfl, by simpa using hl', ?_⟩
    rw [List.set_append_left _ _ (by rw [kl_len]; omega)]
    show put id (.cells ((kl .u8 l').set i _ ++ rest)) m = put id (.cells (kl .u8 (l'.set i _) ++ rest)) m
    rw [kl_set]
  · simp only [h0, h2, hlt, wf_preprocess, ↓reduceIte, Nat.reduceEqDiff, reduceCtorEq, Nat.reduceAdd, Nat.reduceMul, Nat.reduceLeDiff, Nat.reduceLT, Nat.reduceSub, Int.reduceToNat, Int.reduceNeg, Int.reduceAdd, Int.reduceSub, Int.reduceMul, Int.reduceEq, Int.reduceLT, Int.reduceLE, Int.reduceNe, forall_const, forall_eq', forall_eq, List.forall_mem_cons, List.not_mem_nil]
    exact h _ l' hl'

/-- All is as it was. -/
theorem kept_s {l : List Int} {id cap : Nat} {y : AV} {m : Heap} {Q E : AV → Heap → Prop} (hg : LentO l cap id m) (hy : aelems none y m = some (bl l)) (hl : l.length ≤ 10000000) (hr : ∀ c ∈ l, 0 ≤ c ∧ c < 256)
    (hyl : LenIs y l.length) (h : Q (.sc (.bool true)) m) : ACall Try.prog 14 [.mref id 0 l.length cap, y] m Q E := by
  obtain ⟨rest, hg, k1, k2, _⟩ := hg
  refine acall_fn mixed Try.func14 Try.call14 e14 r14 (Nat.le_of_ble_eq_true rfl) ?_
  have w0 : IntKind.i64.wrap ((l.length : Int) + 12) = ((l.length + 12 : Nat) : Int) := wrap64 (by omega) (by omega)
  have c0 : ¬ (cap : Int) < ((l.length + 12 : Nat) : Int) := by omega
  have c1 : ¬ (cap : Int) = 0 := by omega
  have el : aelems none (.mref id 0 l.length cap) m = some (bl l) := by
    have := cut_elems (id := id) (m := m) (k := .u8) (l := l ++ twelve) (rest := rest) (n := l.length) (c := cap) hg (by simp)
    rw [List.take_left] at this; exact this
  simp only [n14, onLst_len hyl, w0, c0, c1, wf_preprocess, ↓reduceIte, Nat.reduceEqDiff, reduceCtorEq, Nat.reduceAdd, Nat.reduceMul, Nat.reduceLeDiff, Nat.reduceLT, Nat.reduceSub, Int.reduceToNat, Int.reduceNeg, Int.reduceAdd, Int.reduceSub, Int.reduceMul, Int.reduceEq, Int.reduceLT, Int.reduceLE, Int.reduceNe, forall_const, forall_eq', forall_eq, List.forall_mem_cons, List.not_mem_nil]
  refine ⟨by omega, by omega, ?_⟩
  refine loop_i (fun k ρ m' => ∃ (i : Nat), k = 12 - i ∧ i ≤ 12 ∧ ρ 0 = .mref id 0 l.length cap ∧ ρ 1 = y ∧ ρ 5 = .mref id 0 (l.length + 12) cap ∧ ρ 6 = iv i ∧ m' = m) 12 ⟨0, rfl, by omega, ?_⟩ ?_
  · simp only [Int.toNat_natCast, Nat.sub_zero, wf_preprocess, ↓reduceIte, Nat.reduceEqDiff, reduceCtorEq, Nat.reduceAdd, Nat.reduceMul, Nat.reduceLeDiff, Nat.reduceLT, Nat.reduceSub, Int.reduceToNat, Int.reduceNeg, Int.reduceAdd, Int.reduceSub, Int.reduceMul, Int.reduceEq, Int.reduceLT, Int.reduceLE, Int.reduceNe, forall_const, forall_eq', forall_eq, List.forall_mem_cons, List.not_mem_nil]
  rintro k ρ m' ⟨i, rfl, hi, h0, h1, h5, h6, rfl⟩
  by_cases hlt : (i : Int) < 12
  · have w1 : IntKind.i64.wrap ((i : Int) + 1) = ((i + 1 : Nat) : Int) := wrap64 (by omega) (by omega)
    have w2 : IntKind.i64.wrap ((l.length : Int) + (i : Int)) = ((l.length + i : Nat) : Int) := wrap64 (by omega) (by omega)
    have w3 : IntKind.u8.wrap ((i + 1 : Nat) : Int) = ((i + 1 : Nat) : Int) := by rw [wrap_u8]; omega
    have c2 : ((l.length + i : Nat) : Int) < ((l.length + 12 : Nat) : Int) := by omega
    have ht : twelve[i]? = some ((i + 1 : Nat) : Int) := by
      have : ∀ i, i < 12 → twelve[i]? = some ((i + 1 : Nat) : Int) := by decide
      exact this i (by omega)
    have hx : (l ++ twelve)[l.length + i]? = some ((i + 1 : Nat) : Int) := by
      rw [List.getElem?_append_right (by omega), Nat.add_sub_cancel_left]; exact ht
    have hx' : (bl (l ++ twelve) ++ rest).drop (l.length + i) = kv .u8 ((i + 1 : Nat) : Int) :: (bl (l ++ twelve) ++ rest).drop (l.length + i + 1) := by
      have hb : l.length + i < (l ++ twelve).length := by rw [List.length_append, show twelve.length = 12 from rfl]; omega
      have hlen : l.length + i < (bl (l ++ twelve) ++ rest).length := by rw [List.length_append, kl_len]; omega
      rw [List.drop_eq_getElem_cons hlen, List.getElem_append_left (by rw [kl_len]; exact hb)]
      have := bl_get hx
      rw [List.getElem?_eq_getElem (by rw [kl_len]; exact hb)] at this
      rw [Option.some.inj this]
    simp only [h0, h1, h5, h6, hlt, onLst_len hyl, w1, w2, w3, c2, hg, hx', Int.natCast_nonneg, wf_preprocess, ↓reduceIte, Nat.reduceEqDiff, reduceCtorEq, Nat.reduceAdd, Nat.reduceMul, Nat.reduceLeDiff, Nat.reduceLT, Nat.reduceSub, Int.reduceToNat, Int.reduceNeg, Int.reduceAdd, Int.reduceSub, Int.reduceMul, Int.reduceEq, Int.reduceLT, Int.reduceLE, Int.reduceNe, forall_const, forall_eq', forall_eq, List.forall_mem_cons, List.not_mem_nil]
    exact ⟨12 - (i + 1), by omega, i + 1, rfl, by omega, rfl⟩
  · simp only [h0, h1, h5, h6, hlt, wf_preprocess, ↓reduceIte, Nat.reduceEqDiff, reduceCtorEq, Nat.reduceAdd, Nat.reduceMul, Nat.reduceLeDiff, Nat.reduceLT, Nat.reduceSub, Int.reduceToNat, Int.reduceNeg, Int.reduceAdd, Int.reduceSub, Int.reduceMul, Int.reduceEq, Int.reduceLT, Int.reduceLE, Int.reduceNe, forall_const, forall_eq', forall_eq, List.forall_mem_cons, List.not_mem_nil]
    refine bytes_i el hr ?_
    simp only [h0, h1, h5, h6, hlt, wf_preprocess, ↓reduceIte, Nat.reduceEqDiff, reduceCtorEq, Nat.reduceAdd, Nat.reduceMul, Nat.reduceLeDiff, Nat.reduceLT, Nat.reduceSub, Int.reduceToNat, Int.reduceNeg, Int.reduceAdd, Int.reduceSub, Int.reduceMul, Int.reduceEq, Int.reduceLT, Int.reduceLE, Int.reduceNe, forall_const, forall_eq', forall_eq, List.forall_mem_cons, List.not_mem_nil]
    refine bytes_i hy hr ?_
    simp only [wf_preprocess, ↓reduceIte, Nat.reduceEqDiff, reduceCtorEq, Nat.reduceAdd, Nat.reduceMul, Nat.reduceLeDiff, Nat.reduceLT, Nat.reduceSub, Int.reduceToNat, Int.reduceNeg, Int.reduceAdd, Int.reduceSub, Int.reduceMul, Int.reduceEq, Int.reduceLT, Int.reduceLE, Int.reduceNe, forall_const, forall_eq', forall_eq, List.forall_mem_cons, List.not_mem_nil]
    exact h

end Go.Proofs.Ytlcfagocikfocaa.Moi.Wire
