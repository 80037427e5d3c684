/- What functions of this program do, on plain values: a part of the proofs of this seat's laws; each theorem bears its own conditions. -/
import Derived.Test.YtlcfagocikfocaaRecG
set_option linter.unusedVariables false
set_option linter.unusedSimpArgs false
set_option maxRecDepth 1000000
namespace Go.Proofs.Ytlcfagocikfocaa.Moi.Rec
open Go Go.RowKit Go.Proofs.Ytlcfagocikfocaa.Moi Go.Proofs.Ytlcfagocikfocaa.Moi.Wire
attribute [-wf_preprocess] ite_eq_dite forIn_eq_forIn'

section
variable {S : List Nat} {y : AV} {m : Heap} {l : List Int} {Q E : AV → Heap → Prop}
theorem spoilI_s {v : AV} (hb : BufI .u8 l v m) (hl : l.length ≤ 100000) (k : ∀ x m', Ext (refs v) m m' → Q x m') : ACall Try.prog 13 [v] m Q E := by
  by_cases h : l = []
  · subst h
    have : ∃ es o, v = .lst es o ∧ es = [] ∨ ∃ a c, v = .mref a 0 0 c := by
      rcases hb with ⟨_, h | h⟩ | ⟨id, cap, rest, rfl, _⟩
      · exact ⟨[], .nil, .inl ⟨h, rfl⟩⟩
      · exact ⟨[], .full, .inl ⟨h, rfl⟩⟩
      · exact ⟨[], .nil, .inr ⟨id, cap, rfl⟩⟩
    obtain ⟨es, o, ⟨rfl, rfl⟩ | ⟨a, c, rfl⟩⟩ := this
    · refine acall_fn mixed Try.func13 Try.call13 e13 r13 (Nat.le_of_ble_eq_true rfl) ?_
      simp only [n13, wf_preprocess, ↓reduceIte, Nat.reduceEqDiff, reduceCtorEq, Nat.reduceAdd, Nat.reduceMul, Nat.reduceLeDiff, Nat.reduceLT, Nat.reduceSub, Int.reduceToNat, Int.reduceNeg, Int.reduceAdd, Int.reduceSub, Int.reduceMul, Int.reduceEq, Int.reduceLT, Int.reduceLE, Int.reduceNe, forall_const, forall_eq', forall_eq, List.forall_mem_cons, List.not_mem_nil]
      refine loop_i (fun kk ρ m' => ρ 0 = .lst [] o ∧ ρ 2 = iv 0 ∧ m' = m) 0 ?_ ?_
      · simp only [wf_preprocess, ↓reduceIte, Nat.reduceEqDiff, reduceCtorEq, Nat.reduceAdd, Nat.reduceMul, Nat.reduceLeDiff, Nat.reduceLT, Nat.reduceSub, Int.reduceToNat, Int.reduceNeg, Int.reduceAdd, Int.reduceSub, Int.reduceMul, Int.reduceEq, Int.reduceLT, Int.reduceLE, Int.reduceNe, forall_const, forall_eq', forall_eq, List.forall_mem_cons, List.not_mem_nil]
      rintro kk ρ m' ⟨g0, g2, rfl⟩
      simp only [g0, g2, wf_preprocess, ↓reduceIte, Nat.reduceEqDiff, reduceCtorEq, Nat.reduceAdd, Nat.reduceMul, Nat.reduceLeDiff, Nat.reduceLT, Nat.reduceSub, Int.reduceToNat, Int.reduceNeg, Int.reduceAdd, Int.reduceSub, Int.reduceMul, Int.reduceEq, Int.reduceLT, Int.reduceLE, Int.reduceNe, forall_const, forall_eq', forall_eq, List.forall_mem_cons, List.not_mem_nil]
      exact k _ _ .rfl'
    · refine acall_fn mixed Try.func13 Try.call13 e13 r13 (Nat.le_of_ble_eq_true rfl) ?_
      simp only [n13, wf_preprocess, ↓reduceIte, Nat.reduceEqDiff, reduceCtorEq, Nat.reduceAdd, Nat.reduceMul, Nat.reduceLeDiff, Nat.reduceLT, Nat.reduceSub, Int.reduceToNat, Int.reduceNeg, Int.reduceAdd, Int.reduceSub, Int.reduceMul, Int.reduceEq, Int.reduceLT, Int.reduceLE, Int.reduceNe, forall_const, forall_eq', forall_eq, List.forall_mem_cons, List.not_mem_nil]
      refine loop_i (fun kk ρ m' => ρ 0 = .mref a 0 0 c ∧ ρ 2 = iv 0 ∧ m' = m) 0 ?_ ?_
      · simp only [wf_preprocess, ↓reduceIte, Nat.reduceEqDiff, reduceCtorEq, Nat.reduceAdd, Nat.reduceMul, Nat.reduceLeDiff, Nat.reduceLT, Nat.reduceSub, Int.reduceToNat, Int.reduceNeg, Int.reduceAdd, Int.reduceSub, Int.reduceMul, Int.reduceEq, Int.reduceLT, Int.reduceLE, Int.reduceNe, forall_const, forall_eq', forall_eq, List.forall_mem_cons, List.not_mem_nil]
      rintro kk ρ m' ⟨g0, g2, rfl⟩
      simp only [g0, g2, wf_preprocess, ↓reduceIte, Nat.reduceEqDiff, reduceCtorEq, Nat.reduceAdd, Nat.reduceMul, Nat.reduceLeDiff, Nat.reduceLT, Nat.reduceSub, Int.reduceToNat, Int.reduceNeg, Int.reduceAdd, Int.reduceSub, Int.reduceMul, Int.reduceEq, Int.reduceLT, Int.reduceLE, Int.reduceNe, forall_const, forall_eq', forall_eq, List.forall_mem_cons, List.not_mem_nil]
      exact k _ _ .rfl'
  · obtain ⟨id, cap, rest, rfl, _, _, _, _, hg⟩ := hb.ref h
    exact spoil_s hg (by omega) fun x l' _ => k x _ (.put (by simp [refs]))
theorem lent_els {cap id : Nat} (h : LentO l cap id m) (hb : byteL l) (hs : id ∉ S) : Els S (.mref id 0 l.length cap) m l := by
  obtain ⟨rest, hg, h1, _⟩ := h
  exact ⟨.inr ⟨id, 0, cap, _, bl twelve ++ rest, rfl, hs, hg, by rw [List.drop_zero, bl_app, List.append_assoc], by omega⟩, hb⟩
theorem lent_buf {cap id : Nat} (h : LentO l cap id m) : BufI .u8 l (.mref id 0 l.length cap) m := by
  obtain ⟨rest, hg, h1, h2, h3, h4⟩ := h
  refine BufI.mk (rest := bl twelve ++ rest) (by omega) h2 ?_ ?_ ?_
  · rw [List.length_append, h3, bl_len, show twelve.length = 12 from rfl]; omega
  · rw [allOne_append, h4, allOne_ints]; rfl
  · rw [hg, bl_app, List.append_assoc]
theorem lent_ext {cap id : Nat} {m' : Heap} (h : LentO l cap id m) (he : Ext S m m') (hs : id ∉ S) : LentO l cap id m' := by
  obtain ⟨rest, hg, h1⟩ := h
  exact ⟨rest, he _ _ hg hs, h1⟩

theorem known_s (k : ∀ m', Ext [] m m' → Q (bo true) m') : ACall Try.prog 7 [] m Q E := by
  refine acall_fn mixed Try.func7 Try.call7 e7 r7 (Nat.le_of_ble_eq_true rfl) ?_
  simp only [n7, wf_preprocess, ↓reduceIte, Nat.reduceEqDiff, reduceCtorEq, Nat.reduceAdd, Nat.reduceMul, Nat.reduceLeDiff, Nat.reduceLT, Nat.reduceSub, Int.reduceToNat, Int.reduceNeg, Int.reduceAdd, Int.reduceSub, Int.reduceMul, Int.reduceEq, Int.reduceLT, Int.reduceLE, Int.reduceNe, forall_const, forall_eq', forall_eq, List.forall_mem_cons, List.not_mem_nil]
  have hb : ∀ m, Els [] (.lst (kl .u8 [97]) .full) m [97] := fun m => Els.lst (by unfold byteL; decide) (by simp)
  refine call_i (Put_s (hb _) fun v1 m1 hb1 e1 f1 => ?_)
  have hp : putR [97] = ([4, 97, 67, 190, 183, 232, 165], 0) := by
    unfold putR
    rw [if_neg (by decide)]
    unfold recB
    rw [show zig (((([97] : List Int).length + 1 : Nat)) : Int) = 4 from rfl, enc_lt (by omega), show sumB (crc [97]).toNat = [67, 190, 183, 232] by decide +kernel]
    rfl
  rw [hp] at hb1 ⊢
  dsimp only at hb1 ⊢
  have e7 := BufI.els (S := []) hb1 (by unfold byteL; decide) (by simp)
  simp only [wf_preprocess, ↓reduceIte, Nat.reduceEqDiff, reduceCtorEq, Nat.reduceAdd, Nat.reduceMul, Nat.reduceLeDiff, Nat.reduceLT, Nat.reduceSub, Int.reduceToNat, Int.reduceNeg, Int.reduceAdd, Int.reduceSub, Int.reduceMul, Int.reduceEq, Int.reduceLT, Int.reduceLE, Int.reduceNe, forall_const, forall_eq', forall_eq, List.forall_mem_cons, List.not_mem_nil]
  refine call_i (Get_s e7 (by simp) fun v2 m2 hb2 e2 f2 => ?_)
  rw [show getR [4, 97, 67, 190, 183, 232, 165] = ([97], 7, 0) by decide +kernel] at hb2 ⊢
  dsimp only at hb2 ⊢
  simp only [wf_preprocess, ↓reduceIte, Nat.reduceEqDiff, reduceCtorEq, Nat.reduceAdd, Nat.reduceMul, Nat.reduceLeDiff, Nat.reduceLT, Nat.reduceSub, Int.reduceToNat, Int.reduceNeg, Int.reduceAdd, Int.reduceSub, Int.reduceMul, Int.reduceEq, Int.reduceLT, Int.reduceLE, Int.reduceNe, forall_const, forall_eq', forall_eq, List.forall_mem_cons, List.not_mem_nil]
  refine call_i (Sum_s (S := []) (y := .lst (kl .u8 [49, 50, 51, 52, 53, 54, 55, 56, 57]) .full) (l := [49, 50, 51, 52, 53, 54, 55, 56, 57]) (Els.lst (by unfold byteL; decide) (by simp)) (by simp) ?_)
  have hc : ((crc [49, 50, 51, 52, 53, 54, 55, 56, 57]).toNat : Int) = 3421780262 := by
    have : (crc [49, 50, 51, 52, 53, 54, 55, 56, 57]).toNat = 3421780262 := by decide +kernel
    rw [this]; rfl
  simp only [hc, wf_preprocess, ↓reduceIte, Nat.reduceEqDiff, reduceCtorEq, Nat.reduceAdd, Nat.reduceMul, Nat.reduceLeDiff, Nat.reduceLT, Nat.reduceSub, Int.reduceToNat, Int.reduceNeg, Int.reduceAdd, Int.reduceSub, Int.reduceMul, Int.reduceEq, Int.reduceLT, Int.reduceLE, Int.reduceNe, forall_const, forall_eq', forall_eq, List.forall_mem_cons, List.not_mem_nil]
  refine bytes_ii (hb1.ext e2 (by simp)).elems (by unfold byteL; decide) ?_
  rw [show bytesOf [4, 97, 67, 190, 183, 232, 165] = ⟨#[4, 97, 67, 190, 183, 232, 165]⟩ from rfl]
  simp only [wf_preprocess, ↓reduceIte, Nat.reduceEqDiff, reduceCtorEq, Nat.reduceAdd, Nat.reduceMul, Nat.reduceLeDiff, Nat.reduceLT, Nat.reduceSub, Int.reduceToNat, Int.reduceNeg, Int.reduceAdd, Int.reduceSub, Int.reduceMul, Int.reduceEq, Int.reduceLT, Int.reduceLE, Int.reduceNe, forall_const, forall_eq', forall_eq, List.forall_mem_cons, List.not_mem_nil]
  refine bytes_ii hb2.elems (by unfold byteL; decide) ?_
  rw [show bytesOf [97] = ⟨#[97]⟩ from rfl]
  simp only [wf_preprocess, ↓reduceIte, Nat.reduceEqDiff, reduceCtorEq, Nat.reduceAdd, Nat.reduceMul, Nat.reduceLeDiff, Nat.reduceLT, Nat.reduceSub, Int.reduceToNat, Int.reduceNeg, Int.reduceAdd, Int.reduceSub, Int.reduceMul, Int.reduceEq, Int.reduceLT, Int.reduceLE, Int.reduceNe, forall_const, forall_eq', forall_eq, List.forall_mem_cons, List.not_mem_nil]
  exact k m2 (e1.trans e2)

theorem ext_keys {m m' : Heap} (he : Ext [] m m') {i : Nat} (h : i ∈ keys m) : i ∈ keys m' := by
  cases hg : get i m with
  | none => exact absurd h (not_keys hg)
  | some o => exact mem_keys (he _ _ hg (by simp))

theorem wf_byte {l : List Int} (h : ∀ n ∈ l, (Lit.int .u8 n).wf = true) : byteL l := fun c hc => by
  have := h c hc
  simp [Lit.wf, IntKind.min, IntKind.max, IntKind.signed, IntKind.bits] at this
  omega
theorem arg_bytes {N : Nat → Prop} {ts : List TypeId} {xs : List AV} (h : ArgShape Try.prog N (22 :: ts) xs) : ∃ (b : List Int) (o : Own) (ys : List AV), xs = .lst (kl .u8 b) o :: ys ∧ (∀ S m, Els S (.lst (kl .u8 b) o) m b) ∧ ArgShape Try.prog N ts ys := by
  obtain ⟨b, ob, ys, rfl, hob, _, _, hbw, h⟩ := arg_ints Try.underlying22 Try.underlying5 (by kernel_rfl) h
  exact ⟨b, ob, ys, rfl, fun S m => Els.lst (wf_byte hbw) hob, h⟩

theorem law_puts (xs : List AV) (h : ArgShape Try.prog (fun _ => True) Try.f3.params.toList xs) : ACall Try.prog 3 xs [] (fun x _ => x = bo true) (fun _ _ => False) := by
  rw [Try.params3] at h
  obtain ⟨b, ob, ys, rfl, hb, h⟩ := arg_bytes h
  rw [h.nil']
  have hbb := (hb [] []).2
  refine acall_fn mixed Try.func3 Try.call3 e3 r3 (Nat.le_of_ble_eq_true rfl) ?_
  simp only [n3, kl_len, wf_preprocess, ↓reduceIte, Nat.reduceEqDiff, reduceCtorEq, Nat.reduceAdd, Nat.reduceMul, Nat.reduceLeDiff, Nat.reduceLT, Nat.reduceSub, Int.reduceToNat, Int.reduceNeg, Int.reduceAdd, Int.reduceSub, Int.reduceMul, Int.reduceEq, Int.reduceLT, Int.reduceLE, Int.reduceNe, forall_const, forall_eq', forall_eq, List.forall_mem_cons, List.not_mem_nil]
  by_cases c1 : (1000 : Int) < (b.length : Int)
  · simp only [c1, wf_preprocess, ↓reduceIte, Nat.reduceEqDiff, reduceCtorEq, Nat.reduceAdd, Nat.reduceMul, Nat.reduceLeDiff, Nat.reduceLT, Nat.reduceSub, Int.reduceToNat, Int.reduceNeg, Int.reduceAdd, Int.reduceSub, Int.reduceMul, Int.reduceEq, Int.reduceLT, Int.reduceLE, Int.reduceNe, forall_const, forall_eq', forall_eq, List.forall_mem_cons, List.not_mem_nil]
    refine call_i (known_s fun m' _ => ?_)
    simp only [wf_preprocess, ↓reduceIte, Nat.reduceEqDiff, reduceCtorEq, Nat.reduceAdd, Nat.reduceMul, Nat.reduceLeDiff, Nat.reduceLT, Nat.reduceSub, Int.reduceToNat, Int.reduceNeg, Int.reduceAdd, Int.reduceSub, Int.reduceMul, Int.reduceEq, Int.reduceLT, Int.reduceLE, Int.reduceNe, forall_const, forall_eq', forall_eq, List.forall_mem_cons, List.not_mem_nil]
  simp only [c1, wf_preprocess, ↓reduceIte, Nat.reduceEqDiff, reduceCtorEq, Nat.reduceAdd, Nat.reduceMul, Nat.reduceLeDiff, Nat.reduceLT, Nat.reduceSub, Int.reduceToNat, Int.reduceNeg, Int.reduceAdd, Int.reduceSub, Int.reduceMul, Int.reduceEq, Int.reduceLT, Int.reduceLE, Int.reduceNe, forall_const, forall_eq', forall_eq, List.forall_mem_cons, List.not_mem_nil]
  refine call_i (lent_s (l := b) rfl (by omega) (.inl ⟨_, _, rfl, kl_len⟩) fun io co m1 h1 f1 e1 => ?_)
  simp only [wf_preprocess, ↓reduceIte, Nat.reduceEqDiff, reduceCtorEq, Nat.reduceAdd, Nat.reduceMul, Nat.reduceLeDiff, Nat.reduceLT, Nat.reduceSub, Int.reduceToNat, Int.reduceNeg, Int.reduceAdd, Int.reduceSub, Int.reduceMul, Int.reduceEq, Int.reduceLT, Int.reduceLE, Int.reduceNe, forall_const, forall_eq', forall_eq, List.forall_mem_cons, List.not_mem_nil]
  have hE := lent_els (S := []) h1 hbb (by simp)
  refine call_i (Put_s hE fun v2 m2 hb2 e2 f2 => ?_)
  simp only [wf_preprocess, ↓reduceIte, Nat.reduceEqDiff, reduceCtorEq, Nat.reduceAdd, Nat.reduceMul, Nat.reduceLeDiff, Nat.reduceLT, Nat.reduceSub, Int.reduceToNat, Int.reduceNeg, Int.reduceAdd, Int.reduceSub, Int.reduceMul, Int.reduceEq, Int.reduceLT, Int.reduceLE, Int.reduceNe, forall_const, forall_eq', forall_eq, List.forall_mem_cons, List.not_mem_nil]
  refine call_i (rPut_s (hb [] _) fun v3 m3 hb3 e3 f3 => ?_)
  simp only [wf_preprocess, ↓reduceIte, Nat.reduceEqDiff, reduceCtorEq, Nat.reduceAdd, Nat.reduceMul, Nat.reduceLeDiff, Nat.reduceLT, Nat.reduceSub, Int.reduceToNat, Int.reduceNeg, Int.reduceAdd, Int.reduceSub, Int.reduceMul, Int.reduceEq, Int.reduceLT, Int.reduceLE, Int.reduceNe, forall_const, forall_eq', forall_eq, List.forall_mem_cons, List.not_mem_nil]
  have hE3 := (hE.ext e2 (by simp)).ext e3 (by simp)
  refine call_i (Sum_s hE3 (by omega) ?_)
  simp only [wf_preprocess, ↓reduceIte, Nat.reduceEqDiff, reduceCtorEq, Nat.reduceAdd, Nat.reduceMul, Nat.reduceLeDiff, Nat.reduceLT, Nat.reduceSub, Int.reduceToNat, Int.reduceNeg, Int.reduceAdd, Int.reduceSub, Int.reduceMul, Int.reduceEq, Int.reduceLT, Int.reduceLE, Int.reduceNe, forall_const, forall_eq', forall_eq, List.forall_mem_cons, List.not_mem_nil]
  refine call_i (rSum_s (hb [] _) (by omega) ?_)
  simp only [wf_preprocess, ↓reduceIte, Nat.reduceEqDiff, reduceCtorEq, Nat.reduceAdd, Nat.reduceMul, Nat.reduceLeDiff, Nat.reduceLT, Nat.reduceSub, Int.reduceToNat, Int.reduceNeg, Int.reduceAdd, Int.reduceSub, Int.reduceMul, Int.reduceEq, Int.reduceLT, Int.reduceLE, Int.reduceNe, forall_const, forall_eq', forall_eq, List.forall_mem_cons, List.not_mem_nil]
  have hb2' := hb2.ext e3 (by simp)
  refine bytes_ii hb2'.elems (putR_byte hbb) ?_
  simp only [wf_preprocess, ↓reduceIte, Nat.reduceEqDiff, reduceCtorEq, Nat.reduceAdd, Nat.reduceMul, Nat.reduceLeDiff, Nat.reduceLT, Nat.reduceSub, Int.reduceToNat, Int.reduceNeg, Int.reduceAdd, Int.reduceSub, Int.reduceMul, Int.reduceEq, Int.reduceLT, Int.reduceLE, Int.reduceNe, forall_const, forall_eq', forall_eq, List.forall_mem_cons, List.not_mem_nil]
  refine bytes_ii hb3.elems (putR_byte hbb) ?_
  simp only [wf_preprocess, ↓reduceIte, Nat.reduceEqDiff, reduceCtorEq, Nat.reduceAdd, Nat.reduceMul, Nat.reduceLeDiff, Nat.reduceLT, Nat.reduceSub, Int.reduceToNat, Int.reduceNeg, Int.reduceAdd, Int.reduceSub, Int.reduceMul, Int.reduceEq, Int.reduceLT, Int.reduceLE, Int.reduceNe, forall_const, forall_eq', forall_eq, List.forall_mem_cons, List.not_mem_nil]
  have hpl : (putR b).1.length ≤ 1000 := by
    unfold putR
    split
    · simp
    · rename_i hn
      unfold recB
      have := enc_zig (n := ((b.length + 1 : Nat) : Int)) (by omega) (by omega)
      have : (sumB (crc b).toNat).length = 4 := rfl
      simp only [List.length_append, List.length_singleton]
      have : ¬ 250 < b.length := fun h => hn (.inr h)
      omega
  refine call_i (spoilI_s hb2' (by omega) fun x m4 e4 => ?_)
  simp only [wf_preprocess, ↓reduceIte, Nat.reduceEqDiff, reduceCtorEq, Nat.reduceAdd, Nat.reduceMul, Nat.reduceLeDiff, Nat.reduceLT, Nat.reduceSub, Int.reduceToNat, Int.reduceNeg, Int.reduceAdd, Int.reduceSub, Int.reduceMul, Int.reduceEq, Int.reduceLT, Int.reduceLE, Int.reduceNe, forall_const, forall_eq', forall_eq, List.forall_mem_cons, List.not_mem_nil]
  have hio : io ∉ refs v2 := fun hi => f2 _ hi (by obtain ⟨r, hg, _⟩ := h1; exact mem_keys hg)
  have h4 := lent_ext (lent_ext (lent_ext h1 e2 (by simp)) e3 (by simp)) e4 hio
  refine call_i (kept_s h4 (y := .lst (kl .u8 b) ob) rfl (by omega) hbb (.inl ⟨_, _, rfl, kl_len⟩) ?_)
  simp only [wf_preprocess, ↓reduceIte, Nat.reduceEqDiff, reduceCtorEq, Nat.reduceAdd, Nat.reduceMul, Nat.reduceLeDiff, Nat.reduceLT, Nat.reduceSub, Int.reduceToNat, Int.reduceNeg, Int.reduceAdd, Int.reduceSub, Int.reduceMul, Int.reduceEq, Int.reduceLT, Int.reduceLE, Int.reduceNe, forall_const, forall_eq', forall_eq, List.forall_mem_cons, List.not_mem_nil]
  refine call_i (known_s fun m' _ => ?_)
  simp only [wf_preprocess, ↓reduceIte, Nat.reduceEqDiff, reduceCtorEq, Nat.reduceAdd, Nat.reduceMul, Nat.reduceLeDiff, Nat.reduceLT, Nat.reduceSub, Int.reduceToNat, Int.reduceNeg, Int.reduceAdd, Int.reduceSub, Int.reduceMul, Int.reduceEq, Int.reduceLT, Int.reduceLE, Int.reduceNe, forall_const, forall_eq', forall_eq, List.forall_mem_cons, List.not_mem_nil]

theorem law_gets (xs : List AV) (h : ArgShape Try.prog (fun _ => True) Try.f5.params.toList xs) : ACall Try.prog 5 xs [] (fun x _ => x = bo true) (fun _ _ => False) := by
  rw [Try.params5] at h
  obtain ⟨b, ob, ys, rfl, hb, h⟩ := arg_bytes h
  rw [h.nil']
  have hbb := (hb [] []).2
  refine acall_fn mixed Try.func5 Try.call5 e5 r5 (Nat.le_of_ble_eq_true rfl) ?_
  simp only [n5, kl_len, wf_preprocess, ↓reduceIte, Nat.reduceEqDiff, reduceCtorEq, Nat.reduceAdd, Nat.reduceMul, Nat.reduceLeDiff, Nat.reduceLT, Nat.reduceSub, Int.reduceToNat, Int.reduceNeg, Int.reduceAdd, Int.reduceSub, Int.reduceMul, Int.reduceEq, Int.reduceLT, Int.reduceLE, Int.reduceNe, forall_const, forall_eq', forall_eq, List.forall_mem_cons, List.not_mem_nil]
  by_cases c1 : (3000 : Int) < (b.length : Int)
  · simp only [c1, wf_preprocess, ↓reduceIte, Nat.reduceEqDiff, reduceCtorEq, Nat.reduceAdd, Nat.reduceMul, Nat.reduceLeDiff, Nat.reduceLT, Nat.reduceSub, Int.reduceToNat, Int.reduceNeg, Int.reduceAdd, Int.reduceSub, Int.reduceMul, Int.reduceEq, Int.reduceLT, Int.reduceLE, Int.reduceNe, forall_const, forall_eq', forall_eq, List.forall_mem_cons, List.not_mem_nil]
    refine call_i (known_s fun m' _ => ?_)
    simp only [wf_preprocess, ↓reduceIte, Nat.reduceEqDiff, reduceCtorEq, Nat.reduceAdd, Nat.reduceMul, Nat.reduceLeDiff, Nat.reduceLT, Nat.reduceSub, Int.reduceToNat, Int.reduceNeg, Int.reduceAdd, Int.reduceSub, Int.reduceMul, Int.reduceEq, Int.reduceLT, Int.reduceLE, Int.reduceNe, forall_const, forall_eq', forall_eq, List.forall_mem_cons, List.not_mem_nil]
  simp only [c1, wf_preprocess, ↓reduceIte, Nat.reduceEqDiff, reduceCtorEq, Nat.reduceAdd, Nat.reduceMul, Nat.reduceLeDiff, Nat.reduceLT, Nat.reduceSub, Int.reduceToNat, Int.reduceNeg, Int.reduceAdd, Int.reduceSub, Int.reduceMul, Int.reduceEq, Int.reduceLT, Int.reduceLE, Int.reduceNe, forall_const, forall_eq', forall_eq, List.forall_mem_cons, List.not_mem_nil]
  refine call_i (lent_s (l := b) rfl (by omega) (.inl ⟨_, _, rfl, kl_len⟩) fun io co m1 h1 f1 e1 => ?_)
  simp only [wf_preprocess, ↓reduceIte, Nat.reduceEqDiff, reduceCtorEq, Nat.reduceAdd, Nat.reduceMul, Nat.reduceLeDiff, Nat.reduceLT, Nat.reduceSub, Int.reduceToNat, Int.reduceNeg, Int.reduceAdd, Int.reduceSub, Int.reduceMul, Int.reduceEq, Int.reduceLT, Int.reduceLE, Int.reduceNe, forall_const, forall_eq', forall_eq, List.forall_mem_cons, List.not_mem_nil]
  have hE := lent_els (S := []) h1 hbb (by simp)
  refine call_i (Get_s hE (by omega) fun v2 m2 hb2 e2 f2 => ?_)
  simp only [wf_preprocess, ↓reduceIte, Nat.reduceEqDiff, reduceCtorEq, Nat.reduceAdd, Nat.reduceMul, Nat.reduceLeDiff, Nat.reduceLT, Nat.reduceSub, Int.reduceToNat, Int.reduceNeg, Int.reduceAdd, Int.reduceSub, Int.reduceMul, Int.reduceEq, Int.reduceLT, Int.reduceLE, Int.reduceNe, forall_const, forall_eq', forall_eq, List.forall_mem_cons, List.not_mem_nil]
  refine call_i (rGet_s (hb [] _) (by omega) fun v3 m3 hb3 e3 f3 => ?_)
  simp only [wf_preprocess, ↓reduceIte, Nat.reduceEqDiff, reduceCtorEq, Nat.reduceAdd, Nat.reduceMul, Nat.reduceLeDiff, Nat.reduceLT, Nat.reduceSub, Int.reduceToNat, Int.reduceNeg, Int.reduceAdd, Int.reduceSub, Int.reduceMul, Int.reduceEq, Int.reduceLT, Int.reduceLE, Int.reduceNe, forall_const, forall_eq', forall_eq, List.forall_mem_cons, List.not_mem_nil]
  have hE3 := (hE.ext e2 (by simp)).ext e3 (by simp)
  refine call_i (All_s hE3 (by omega) (by simp) fun v4 vs4 m4 hb4 e4 f4 _ => ?_)
  simp only [wf_preprocess, ↓reduceIte, Nat.reduceEqDiff, reduceCtorEq, Nat.reduceAdd, Nat.reduceMul, Nat.reduceLeDiff, Nat.reduceLT, Nat.reduceSub, Int.reduceToNat, Int.reduceNeg, Int.reduceAdd, Int.reduceSub, Int.reduceMul, Int.reduceEq, Int.reduceLT, Int.reduceLE, Int.reduceNe, forall_const, forall_eq', forall_eq, List.forall_mem_cons, List.not_mem_nil]
  refine call_i (rAll_s (hb [] _) (by omega) (by simp) fun v5 vs5 m5 hb5 e5 f5 _ => ?_)
  simp only [wf_preprocess, ↓reduceIte, Nat.reduceEqDiff, reduceCtorEq, Nat.reduceAdd, Nat.reduceMul, Nat.reduceLeDiff, Nat.reduceLT, Nat.reduceSub, Int.reduceToNat, Int.reduceNeg, Int.reduceAdd, Int.reduceSub, Int.reduceMul, Int.reduceEq, Int.reduceLT, Int.reduceLE, Int.reduceNe, forall_const, forall_eq', forall_eq, List.forall_mem_cons, List.not_mem_nil]
  refine bytes_ii (((hb2.ext e3 (by simp)).ext e4 (by simp)).ext e5 (by simp)).elems (getR_byte hbb) ?_
  simp only [wf_preprocess, ↓reduceIte, Nat.reduceEqDiff, reduceCtorEq, Nat.reduceAdd, Nat.reduceMul, Nat.reduceLeDiff, Nat.reduceLT, Nat.reduceSub, Int.reduceToNat, Int.reduceNeg, Int.reduceAdd, Int.reduceSub, Int.reduceMul, Int.reduceEq, Int.reduceLT, Int.reduceLE, Int.reduceNe, forall_const, forall_eq', forall_eq, List.forall_mem_cons, List.not_mem_nil]
  refine bytes_ii ((hb3.ext e4 (by simp)).ext e5 (by simp)).elems (getR_byte hbb) ?_
  simp only [wf_preprocess, ↓reduceIte, Nat.reduceEqDiff, reduceCtorEq, Nat.reduceAdd, Nat.reduceMul, Nat.reduceLeDiff, Nat.reduceLT, Nat.reduceSub, Int.reduceToNat, Int.reduceNeg, Int.reduceAdd, Int.reduceSub, Int.reduceMul, Int.reduceEq, Int.reduceLT, Int.reduceLE, Int.reduceNe, forall_const, forall_eq', forall_eq, List.forall_mem_cons, List.not_mem_nil]
  have hal : ∀ (f : Nat) (l : List Int), (allN f l).1.length ≤ f := by
    intro f
    induction f with
    | zero => intro l; simp [allN]
    | succ f ih => intro l; rw [allN]; split; exact Nat.succ_le_succ (ih _); simp
  have hall : (allR b).1.length ≤ b.length + 1 := hal _ _
  refine call_i (Same24_s ((hb4.ext e5 (by simp) (by simp)).br) hb5.br (by omega) ?_)
  simp only [wf_preprocess, ↓reduceIte, Nat.reduceEqDiff, reduceCtorEq, Nat.reduceAdd, Nat.reduceMul, Nat.reduceLeDiff, Nat.reduceLT, Nat.reduceSub, Int.reduceToNat, Int.reduceNeg, Int.reduceAdd, Int.reduceSub, Int.reduceMul, Int.reduceEq, Int.reduceLT, Int.reduceLE, Int.reduceNe, forall_const, forall_eq', forall_eq, List.forall_mem_cons, List.not_mem_nil]
  have h5 := lent_ext (lent_ext (lent_ext (lent_ext h1 e2 (by simp)) e3 (by simp)) e4 (by simp)) e5 (by simp)
  refine call_i (kept_s h5 (y := .lst (kl .u8 b) ob) rfl (by omega) hbb (.inl ⟨_, _, rfl, kl_len⟩) ?_)
  simp only [wf_preprocess, ↓reduceIte, Nat.reduceEqDiff, reduceCtorEq, Nat.reduceAdd, Nat.reduceMul, Nat.reduceLeDiff, Nat.reduceLT, Nat.reduceSub, Int.reduceToNat, Int.reduceNeg, Int.reduceAdd, Int.reduceSub, Int.reduceMul, Int.reduceEq, Int.reduceLT, Int.reduceLE, Int.reduceNe, forall_const, forall_eq', forall_eq, List.forall_mem_cons, List.not_mem_nil]
  refine call_i (known_s fun m' _ => ?_)
  simp only [wf_preprocess, ↓reduceIte, Nat.reduceEqDiff, reduceCtorEq, Nat.reduceAdd, Nat.reduceMul, Nat.reduceLeDiff, Nat.reduceLT, Nat.reduceSub, Int.reduceToNat, Int.reduceNeg, Int.reduceAdd, Int.reduceSub, Int.reduceMul, Int.reduceEq, Int.reduceLT, Int.reduceLE, Int.reduceNe, forall_const, forall_eq', forall_eq, List.forall_mem_cons, List.not_mem_nil]

/-- What was put is what is got. -/
theorem get_back {more : List Int} (hb : byteL l) (h0 : l ≠ []) (hl : l.length ≤ 250) (hm : byteL more) : getR (recB l ++ more) = (l, ((recB l).length : Int), 0) := by
  have hz := enc_zig (n := ((l.length + 1 : Nat) : Int)) (by omega) (by omega)
  have hlp := List.length_pos_iff.2 h0
  have hss : (sumB (crc l).toNat).length = 4 := rfl
  have hsc : scan (recB l ++ more) 0 0 = .inr (zig ((l.length + 1 : Nat) : Int), (enc (zig ((l.length + 1 : Nat) : Int))).length) := by
    have := scan_enc (l ++ sumB (crc l).toNat ++ [165] ++ more) (zig ((l.length + 1 : Nat) : Int)) 0 0 (by omega) (by have := zig_lt (n := ((l.length + 1 : Nat) : Int)) (by omega) (by omega); simpa using this) (.inl rfl)
    simp only [Nat.mul_zero, Nat.pow_zero, Nat.mul_one, Nat.zero_add] at this
    rw [← this, recB]
    simp only [List.append_assoc]
  have hne : recB l ++ more ≠ [] := by unfold recB; simp
  have hrl : (recB l).length = (enc (zig ((l.length + 1 : Nat) : Int))).length + (l.length + 1) + 4 := by
    unfold recB
    simp only [List.length_append, hss, List.length_singleton]; omega
  have hep : 0 < (enc (zig ((l.length + 1 : Nat) : Int))).length := List.length_pos_iff.2 (enc_ne _)
  have hfirst : (recB l ++ more)[0]? ≠ some 0 := by
    unfold recB
    rw [List.append_assoc, List.append_assoc, List.append_assoc, List.getElem?_append_left hep]
    have hzz : zig ((l.length + 1 : Nat) : Int) = 2 * (l.length + 1) := by unfold zig; rw [if_pos (by omega)]; omega
    by_cases h128 : zig ((l.length + 1 : Nat) : Int) < 128
    · rw [enc_lt h128]
      intro e
      have e' : ((zig ((l.length + 1 : Nat) : Int) : Nat) : Int) = 0 := Option.some.inj e
      omega
    · rw [enc_ge h128]
      intro e
      have e' : ((zig ((l.length + 1 : Nat) : Int) % 128 + 128 : Nat) : Int) = 0 := Option.some.inj e
      omega
  unfold getR
  rw [if_neg (by rintro (h | h); exact hne h; exact hfirst h), hsc]
  dsimp only
  rw [unzig_zig, if_neg (by omega), show (((l.length + 1 : Nat) : Int)).toNat = l.length + 1 by omega]
  generalize hT : enc (zig ((l.length + 1 : Nat) : Int)) = T at *
  have hR : recB l = T ++ l ++ sumB (crc l).toNat ++ [165] := by unfold recB; rw [hT]
  have hdk : ((recB l ++ more).drop T.length).take (l.length + 1 - 1) = l := by
    rw [hR, List.append_assoc, List.append_assoc, List.append_assoc, List.drop_left, Nat.add_sub_cancel, List.take_left]
  have hd4 : ((recB l ++ more).drop (T.length + (l.length + 1) - 1)).take 4 = sumB (crc l).toNat := by
    rw [show T.length + (l.length + 1) - 1 = (T ++ l).length by rw [List.length_append]; omega, hR, List.append_assoc, List.append_assoc, List.drop_left, ← hss, List.take_left]
  have h165 : (recB l ++ more)[T.length + (l.length + 1) + 3]? = some 165 := by
    rw [hR, List.append_assoc, List.getElem?_append_right (by simp only [List.length_append, hss]; omega)]
    simp only [List.length_append, hss]
    rw [show T.length + (l.length + 1) + 3 - (T.length + l.length + 4) = 0 by omega]
    rfl
  rw [if_neg (by rw [List.length_append, hrl]; omega), h165, if_neg (by simp), hdk, hd4, if_neg (by simp), hrl]
/-- A record of which only the first bytes are there is none. -/
theorem torn {cut z : Nat} (hb : byteL l) (hl : l.length ≤ 250) (hc : cut < (recB l).length) : (getR ((recB l).take cut ++ List.replicate z 0)).2.2 ≠ 0 := by
  intro h
  rcases getR_cases ((recB l).take cut ++ List.replicate z 0) with ⟨e, he, hg⟩ | ⟨u, k, N, hne, h0, hs, hN, hN2, _, hlen, h165, _, hg⟩
  · rw [hg] at h; exact he h
  have hk := (scan_canon _ 0 0 (by
    intro c hc
    rcases List.mem_append.1 hc with hc | hc
    · exact recB_byte hb c (List.mem_of_mem_take hc)
    · rw [(List.mem_replicate.1 hc).2]; omega) hs).1
  have hin : k + N + 3 < cut := by
    apply Decidable.byContradiction
    intro hn
    rw [List.getElem?_append_right (by rw [List.length_take]; omega)] at h165
    have := List.mem_of_getElem? h165
    have := (List.mem_replicate.1 this).2
    omega
  have hss : (sumB (crc l).toNat).length = 4 := rfl
  have hzz : zig ((l.length + 1 : Nat) : Int) = 2 * (l.length + 1) := by unfold zig; rw [if_pos (by omega)]; omega
  have hel : (enc (zig ((l.length + 1 : Nat) : Int))).length ≤ 2 := enc_len (k := 1) (by rw [hzz]; omega)
  have hrl : (recB l).length = (enc (zig ((l.length + 1 : Nat) : Int))).length + l.length + 5 := by
    unfold recB
    simp only [List.length_append, hss, List.length_singleton]
  generalize hT : enc (zig ((l.length + 1 : Nat) : Int)) = T at *
  have hR : recB l = T ++ (l ++ sumB (crc l).toNat ++ [165]) := by unfold recB; rw [hT]; simp only [List.append_assoc]
  have hsplit : (recB l).take cut ++ List.replicate z 0 = T ++ ((l ++ sumB (crc l).toNat ++ [165]).take (cut - T.length) ++ List.replicate z 0) := by
    rw [hR, List.take_append, List.take_of_length_le (by omega), List.append_assoc]
  have hsc := scan_enc ((l ++ sumB (crc l).toNat ++ [165]).take (cut - T.length) ++ List.replicate z 0) (zig ((l.length + 1 : Nat) : Int)) 0 0 (by omega) (by rw [hzz]; simp; omega) (.inl rfl)
  rw [hT, ← hsplit, hs] at hsc
  injection hsc with hsc
  injection hsc with e1 e2
  have hu : u = zig ((l.length + 1 : Nat) : Int) := by rw [e1]; simp
  rw [hu, unzig_zig] at hN
  omega

theorem law_back (xs : List AV) (h : ArgShape Try.prog (fun _ => True) Try.f4.params.toList xs) : ACall Try.prog 4 xs [] (fun x _ => x = bo true) (fun _ _ => False) := by
  rw [Try.params4] at h
  obtain ⟨b, ob, ys, rfl, hb, h⟩ := arg_bytes h
  obtain ⟨more, om, ys, rfl, hm, h⟩ := arg_bytes h
  rw [h.nil']
  have hbb := (hb [] []).2
  have hmb := (hm [] []).2
  refine acall_fn mixed Try.func4 Try.call4 e4 r4 (Nat.le_of_ble_eq_true rfl) ?_
  simp only [n4, kl_len, wf_preprocess, ↓reduceIte, Nat.reduceEqDiff, reduceCtorEq, Nat.reduceAdd, Nat.reduceMul, Nat.reduceLeDiff, Nat.reduceLT, Nat.reduceSub, Int.reduceToNat, Int.reduceNeg, Int.reduceAdd, Int.reduceSub, Int.reduceMul, Int.reduceEq, Int.reduceLT, Int.reduceLE, Int.reduceNe, forall_const, forall_eq', forall_eq, List.forall_mem_cons, List.not_mem_nil]
  by_cases c1 : (1000 : Int) < (more.length : Int)
  · simp only [c1, wf_preprocess, ↓reduceIte, Nat.reduceEqDiff, reduceCtorEq, Nat.reduceAdd, Nat.reduceMul, Nat.reduceLeDiff, Nat.reduceLT, Nat.reduceSub, Int.reduceToNat, Int.reduceNeg, Int.reduceAdd, Int.reduceSub, Int.reduceMul, Int.reduceEq, Int.reduceLT, Int.reduceLE, Int.reduceNe, forall_const, forall_eq', forall_eq, List.forall_mem_cons, List.not_mem_nil]
    refine call_i (known_s fun m' _ => ?_)
    simp only [wf_preprocess, ↓reduceIte, Nat.reduceEqDiff, reduceCtorEq, Nat.reduceAdd, Nat.reduceMul, Nat.reduceLeDiff, Nat.reduceLT, Nat.reduceSub, Int.reduceToNat, Int.reduceNeg, Int.reduceAdd, Int.reduceSub, Int.reduceMul, Int.reduceEq, Int.reduceLT, Int.reduceLE, Int.reduceNe, forall_const, forall_eq', forall_eq, List.forall_mem_cons, List.not_mem_nil]
  simp only [c1, wf_preprocess, ↓reduceIte, Nat.reduceEqDiff, reduceCtorEq, Nat.reduceAdd, Nat.reduceMul, Nat.reduceLeDiff, Nat.reduceLT, Nat.reduceSub, Int.reduceToNat, Int.reduceNeg, Int.reduceAdd, Int.reduceSub, Int.reduceMul, Int.reduceEq, Int.reduceLT, Int.reduceLE, Int.reduceNe, forall_const, forall_eq', forall_eq, List.forall_mem_cons, List.not_mem_nil]
  refine call_i (Put_s (hb [] _) fun v1 m1 hb1 e1 f1 => ?_)
  by_cases hbad : b = [] ∨ 250 < b.length
  · rw [show putR b = ([], 5) by unfold putR; rw [if_pos hbad]] at hb1 ⊢
    by_cases c2 : (b.length : Int) = 0
    · simp only [kl_len, eq_true c2, wf_preprocess, ↓reduceIte, Nat.reduceEqDiff, reduceCtorEq, Nat.reduceAdd, Nat.reduceMul, Nat.reduceLeDiff, Nat.reduceLT, Nat.reduceSub, Int.reduceToNat, Int.reduceNeg, Int.reduceAdd, Int.reduceSub, Int.reduceMul, Int.reduceEq, Int.reduceLT, Int.reduceLE, Int.reduceNe, forall_const, forall_eq', forall_eq, List.forall_mem_cons, List.not_mem_nil]
      refine call_i (known_s fun m' _ => ?_)
      simp only [wf_preprocess, ↓reduceIte, Nat.reduceEqDiff, reduceCtorEq, Nat.reduceAdd, Nat.reduceMul, Nat.reduceLeDiff, Nat.reduceLT, Nat.reduceSub, Int.reduceToNat, Int.reduceNeg, Int.reduceAdd, Int.reduceSub, Int.reduceMul, Int.reduceEq, Int.reduceLT, Int.reduceLE, Int.reduceNe, forall_const, forall_eq', forall_eq, List.forall_mem_cons, List.not_mem_nil]
    · have c3 : (250 : Int) < (b.length : Int) := by
        rcases hbad with rfl | h
        · exact absurd rfl c2
        · omega
      simp only [kl_len, eq_false c2, eq_true c3, wf_preprocess, ↓reduceIte, Nat.reduceEqDiff, reduceCtorEq, Nat.reduceAdd, Nat.reduceMul, Nat.reduceLeDiff, Nat.reduceLT, Nat.reduceSub, Int.reduceToNat, Int.reduceNeg, Int.reduceAdd, Int.reduceSub, Int.reduceMul, Int.reduceEq, Int.reduceLT, Int.reduceLE, Int.reduceNe, forall_const, forall_eq', forall_eq, List.forall_mem_cons, List.not_mem_nil]
      refine call_i (known_s fun m' _ => ?_)
      simp only [wf_preprocess, ↓reduceIte, Nat.reduceEqDiff, reduceCtorEq, Nat.reduceAdd, Nat.reduceMul, Nat.reduceLeDiff, Nat.reduceLT, Nat.reduceSub, Int.reduceToNat, Int.reduceNeg, Int.reduceAdd, Int.reduceSub, Int.reduceMul, Int.reduceEq, Int.reduceLT, Int.reduceLE, Int.reduceNe, forall_const, forall_eq', forall_eq, List.forall_mem_cons, List.not_mem_nil]
  rw [show putR b = (recB b, 0) by unfold putR; rw [if_neg hbad]] at hb1 ⊢
  have hbl : b.length ≤ 250 := by apply Decidable.byContradiction; intro h; exact hbad (.inr (by omega))
  have hrl : (recB b).length ≤ 1000 := by
    unfold recB
    have := enc_zig (n := ((b.length + 1 : Nat) : Int)) (by omega) (by omega)
    have : (sumB (crc b).toNat).length = 4 := rfl
    simp only [List.length_append, List.length_singleton]
    omega
  dsimp only at hb1 ⊢
  simp only [wf_preprocess, ↓reduceIte, Nat.reduceEqDiff, reduceCtorEq, Nat.reduceAdd, Nat.reduceMul, Nat.reduceLeDiff, Nat.reduceLT, Nat.reduceSub, Int.reduceToNat, Int.reduceNeg, Int.reduceAdd, Int.reduceSub, Int.reduceMul, Int.reduceEq, Int.reduceLT, Int.reduceLE, Int.reduceNe, forall_const, forall_eq', forall_eq, List.forall_mem_cons, List.not_mem_nil]
  refine call_i (lent_s hb1.elems (by omega) (BufI.lenIs hb1) fun io co m2 h2 f2 e2 => ?_)
  simp only [wf_preprocess, ↓reduceIte, Nat.reduceEqDiff, reduceCtorEq, Nat.reduceAdd, Nat.reduceMul, Nat.reduceLeDiff, Nat.reduceLT, Nat.reduceSub, Int.reduceToNat, Int.reduceNeg, Int.reduceAdd, Int.reduceSub, Int.reduceMul, Int.reduceEq, Int.reduceLT, Int.reduceLE, Int.reduceNe, forall_const, forall_eq', forall_eq, List.forall_mem_cons, List.not_mem_nil]
  refine app_bufI (lent_buf h2) ((hm [] m2).at .rfl') (by omega) (by rw [maxLen_e]; omega) fun v3 m3 hb3 e3 f3 => ?_
  simp only [wf_preprocess, ↓reduceIte, Nat.reduceEqDiff, reduceCtorEq, Nat.reduceAdd, Nat.reduceMul, Nat.reduceLeDiff, Nat.reduceLT, Nat.reduceSub, Int.reduceToNat, Int.reduceNeg, Int.reduceAdd, Int.reduceSub, Int.reduceMul, Int.reduceEq, Int.reduceLT, Int.reduceLE, Int.reduceNe, forall_const, forall_eq', forall_eq, List.forall_mem_cons, List.not_mem_nil]
  have hall : byteL (recB b ++ more) := byte_app (recB_byte hbb) hmb
  have hio : ∀ i ∈ refs v1, i ∉ refs (.mref io 0 (recB b).length co) := fun i hi hk => by
    simp only [refs, List.mem_singleton] at hk
    subst hk
    exact f2 (hb1.inK _ hi)
  refine call_i (Get_s (BufI.els (S := []) hb3 hall (by simp)) (by rw [List.length_append]; omega) fun v4 m4 hb4 e4 f4 => ?_)
  rw [get_back hbb (fun e => hbad (.inl e)) hbl hmb] at hb4 ⊢
  dsimp only at hb4 ⊢
  have l1 := BufI.lenIs hb1
  simp only [wf_preprocess, ↓reduceIte, Nat.reduceEqDiff, reduceCtorEq, Nat.reduceAdd, Nat.reduceMul, Nat.reduceLeDiff, Nat.reduceLT, Nat.reduceSub, Int.reduceToNat, Int.reduceNeg, Int.reduceAdd, Int.reduceSub, Int.reduceMul, Int.reduceEq, Int.reduceLT, Int.reduceLE, Int.reduceNe, forall_const, forall_eq', forall_eq, List.forall_mem_cons, List.not_mem_nil]
  refine bytes_ii hb4.elems hbb ?_
  simp only [wf_preprocess, ↓reduceIte, Nat.reduceEqDiff, reduceCtorEq, Nat.reduceAdd, Nat.reduceMul, Nat.reduceLeDiff, Nat.reduceLT, Nat.reduceSub, Int.reduceToNat, Int.reduceNeg, Int.reduceAdd, Int.reduceSub, Int.reduceMul, Int.reduceEq, Int.reduceLT, Int.reduceLE, Int.reduceNe, forall_const, forall_eq', forall_eq, List.forall_mem_cons, List.not_mem_nil]
  refine bytes_ii ((hb [] m4).at .rfl') hbb ?_
  simp only [onLst_len l1, wf_preprocess, ↓reduceIte, Nat.reduceEqDiff, reduceCtorEq, Nat.reduceAdd, Nat.reduceMul, Nat.reduceLeDiff, Nat.reduceLT, Nat.reduceSub, Int.reduceToNat, Int.reduceNeg, Int.reduceAdd, Int.reduceSub, Int.reduceMul, Int.reduceEq, Int.reduceLT, Int.reduceLE, Int.reduceNe, forall_const, forall_eq', forall_eq, List.forall_mem_cons, List.not_mem_nil]
  refine call_i (known_s fun m' _ => ?_)
  simp only [wf_preprocess, ↓reduceIte, Nat.reduceEqDiff, reduceCtorEq, Nat.reduceAdd, Nat.reduceMul, Nat.reduceLeDiff, Nat.reduceLT, Nat.reduceSub, Int.reduceToNat, Int.reduceNeg, Int.reduceAdd, Int.reduceSub, Int.reduceMul, Int.reduceEq, Int.reduceLT, Int.reduceLE, Int.reduceNe, forall_const, forall_eq', forall_eq, List.forall_mem_cons, List.not_mem_nil]

theorem law_torn (xs : List AV) (h : ArgShape Try.prog (fun _ => True) Try.f6.params.toList xs) : ACall Try.prog 6 xs [] (fun x _ => x = bo true) (fun _ _ => False) := by
  rw [Try.params6] at h
  obtain ⟨b, ob, ys, rfl, hb, h⟩ := arg_bytes h
  obtain ⟨cut, ys, rfl, hcut, h⟩ := arg_int Try.underlying3 h
  obtain ⟨z, ys, rfl, hz, h⟩ := arg_int Try.underlying3 h
  rw [h.nil']
  have hbb := (hb [] []).2
  refine acall_fn mixed Try.func6 Try.call6 e6 r6 (Nat.le_of_ble_eq_true rfl) ?_
  simp only [n6, kl_len, wf_preprocess, ↓reduceIte, Nat.reduceEqDiff, reduceCtorEq, Nat.reduceAdd, Nat.reduceMul, Nat.reduceLeDiff, Nat.reduceLT, Nat.reduceSub, Int.reduceToNat, Int.reduceNeg, Int.reduceAdd, Int.reduceSub, Int.reduceMul, Int.reduceEq, Int.reduceLT, Int.reduceLE, Int.reduceNe, forall_const, forall_eq', forall_eq, List.forall_mem_cons, List.not_mem_nil]
  refine call_i (Put_s (hb [] _) fun v1 m1 hb1 e1 f1 => ?_)
  by_cases hbad : b = [] ∨ 250 < b.length
  · rw [show putR b = ([], 5) by unfold putR; rw [if_pos hbad]] at hb1 ⊢
    simp only [wf_preprocess, ↓reduceIte, Nat.reduceEqDiff, reduceCtorEq, Nat.reduceAdd, Nat.reduceMul, Nat.reduceLeDiff, Nat.reduceLT, Nat.reduceSub, Int.reduceToNat, Int.reduceNeg, Int.reduceAdd, Int.reduceSub, Int.reduceMul, Int.reduceEq, Int.reduceLT, Int.reduceLE, Int.reduceNe, forall_const, forall_eq', forall_eq, List.forall_mem_cons, List.not_mem_nil]
    refine call_i (known_s fun m' _ => ?_)
    simp only [wf_preprocess, ↓reduceIte, Nat.reduceEqDiff, reduceCtorEq, Nat.reduceAdd, Nat.reduceMul, Nat.reduceLeDiff, Nat.reduceLT, Nat.reduceSub, Int.reduceToNat, Int.reduceNeg, Int.reduceAdd, Int.reduceSub, Int.reduceMul, Int.reduceEq, Int.reduceLT, Int.reduceLE, Int.reduceNe, forall_const, forall_eq', forall_eq, List.forall_mem_cons, List.not_mem_nil]
  rw [show putR b = (recB b, 0) by unfold putR; rw [if_neg hbad]] at hb1 ⊢
  have hbl : b.length ≤ 250 := by apply Decidable.byContradiction; intro h; exact hbad (.inr (by omega))
  have hrl : (recB b).length ≤ 1000 := by
    unfold recB
    have := enc_zig (n := ((b.length + 1 : Nat) : Int)) (by omega) (by omega)
    have : (sumB (crc b).toNat).length = 4 := rfl
    simp only [List.length_append, List.length_singleton]
    omega
  dsimp only at hb1 ⊢
  have l1 := BufI.lenIs hb1
  by_cases c1 : cut < 0
  · simp only [onLst_len l1, c1, wf_preprocess, ↓reduceIte, Nat.reduceEqDiff, reduceCtorEq, Nat.reduceAdd, Nat.reduceMul, Nat.reduceLeDiff, Nat.reduceLT, Nat.reduceSub, Int.reduceToNat, Int.reduceNeg, Int.reduceAdd, Int.reduceSub, Int.reduceMul, Int.reduceEq, Int.reduceLT, Int.reduceLE, Int.reduceNe, forall_const, forall_eq', forall_eq, List.forall_mem_cons, List.not_mem_nil]
    refine call_i (known_s fun m' _ => ?_)
    simp only [wf_preprocess, ↓reduceIte, Nat.reduceEqDiff, reduceCtorEq, Nat.reduceAdd, Nat.reduceMul, Nat.reduceLeDiff, Nat.reduceLT, Nat.reduceSub, Int.reduceToNat, Int.reduceNeg, Int.reduceAdd, Int.reduceSub, Int.reduceMul, Int.reduceEq, Int.reduceLT, Int.reduceLE, Int.reduceNe, forall_const, forall_eq', forall_eq, List.forall_mem_cons, List.not_mem_nil]
  by_cases c2 : ((recB b).length : Int) ≤ cut
  · simp only [onLst_len l1, c1, c2, wf_preprocess, ↓reduceIte, Nat.reduceEqDiff, reduceCtorEq, Nat.reduceAdd, Nat.reduceMul, Nat.reduceLeDiff, Nat.reduceLT, Nat.reduceSub, Int.reduceToNat, Int.reduceNeg, Int.reduceAdd, Int.reduceSub, Int.reduceMul, Int.reduceEq, Int.reduceLT, Int.reduceLE, Int.reduceNe, forall_const, forall_eq', forall_eq, List.forall_mem_cons, List.not_mem_nil]
    refine call_i (known_s fun m' _ => ?_)
    simp only [wf_preprocess, ↓reduceIte, Nat.reduceEqDiff, reduceCtorEq, Nat.reduceAdd, Nat.reduceMul, Nat.reduceLeDiff, Nat.reduceLT, Nat.reduceSub, Int.reduceToNat, Int.reduceNeg, Int.reduceAdd, Int.reduceSub, Int.reduceMul, Int.reduceEq, Int.reduceLT, Int.reduceLE, Int.reduceNe, forall_const, forall_eq', forall_eq, List.forall_mem_cons, List.not_mem_nil]
  by_cases c3 : z < 0
  · simp only [onLst_len l1, c1, c2, c3, wf_preprocess, ↓reduceIte, Nat.reduceEqDiff, reduceCtorEq, Nat.reduceAdd, Nat.reduceMul, Nat.reduceLeDiff, Nat.reduceLT, Nat.reduceSub, Int.reduceToNat, Int.reduceNeg, Int.reduceAdd, Int.reduceSub, Int.reduceMul, Int.reduceEq, Int.reduceLT, Int.reduceLE, Int.reduceNe, forall_const, forall_eq', forall_eq, List.forall_mem_cons, List.not_mem_nil]
    refine call_i (known_s fun m' _ => ?_)
    simp only [wf_preprocess, ↓reduceIte, Nat.reduceEqDiff, reduceCtorEq, Nat.reduceAdd, Nat.reduceMul, Nat.reduceLeDiff, Nat.reduceLT, Nat.reduceSub, Int.reduceToNat, Int.reduceNeg, Int.reduceAdd, Int.reduceSub, Int.reduceMul, Int.reduceEq, Int.reduceLT, Int.reduceLE, Int.reduceNe, forall_const, forall_eq', forall_eq, List.forall_mem_cons, List.not_mem_nil]
  by_cases c4 : 400 < z
  · simp only [onLst_len l1, c1, c2, c3, c4, wf_preprocess, ↓reduceIte, Nat.reduceEqDiff, reduceCtorEq, Nat.reduceAdd, Nat.reduceMul, Nat.reduceLeDiff, Nat.reduceLT, Nat.reduceSub, Int.reduceToNat, Int.reduceNeg, Int.reduceAdd, Int.reduceSub, Int.reduceMul, Int.reduceEq, Int.reduceLT, Int.reduceLE, Int.reduceNe, forall_const, forall_eq', forall_eq, List.forall_mem_cons, List.not_mem_nil]
    refine call_i (known_s fun m' _ => ?_)
    simp only [wf_preprocess, ↓reduceIte, Nat.reduceEqDiff, reduceCtorEq, Nat.reduceAdd, Nat.reduceMul, Nat.reduceLeDiff, Nat.reduceLT, Nat.reduceSub, Int.reduceToNat, Int.reduceNeg, Int.reduceAdd, Int.reduceSub, Int.reduceMul, Int.reduceEq, Int.reduceLT, Int.reduceLE, Int.reduceNe, forall_const, forall_eq', forall_eq, List.forall_mem_cons, List.not_mem_nil]
  obtain ⟨C, rfl⟩ : ∃ C : Nat, cut = C := ⟨cut.toNat, by omega⟩
  obtain ⟨Z, rfl⟩ : ∃ Z : Nat, z = Z := ⟨z.toNat, by omega⟩
  have hE := BufI.els (S := []) hb1 (recB_byte hbb) (by simp)
  simp only [onLst_len l1, c1, c2, c3, c4, wf_preprocess, ↓reduceIte, Nat.reduceEqDiff, reduceCtorEq, Nat.reduceAdd, Nat.reduceMul, Nat.reduceLeDiff, Nat.reduceLT, Nat.reduceSub, Int.reduceToNat, Int.reduceNeg, Int.reduceAdd, Int.reduceSub, Int.reduceMul, Int.reduceEq, Int.reduceLT, Int.reduceLE, Int.reduceNe, forall_const, forall_eq', forall_eq, List.forall_mem_cons, List.not_mem_nil]
  refine slice_i (L := 0) (H := (C : Int)) hE (fun K k => k) (fun K k => ?_) (by omega) (by omega) (by omega) fun y2 hy2 => ?_
  · rw [bndOr_some]; simp only [wf_preprocess, ↓reduceIte, Nat.reduceEqDiff, reduceCtorEq, Nat.reduceAdd, Nat.reduceMul, Nat.reduceLeDiff, Nat.reduceLT, Nat.reduceSub, Int.reduceToNat, Int.reduceNeg, Int.reduceAdd, Int.reduceSub, Int.reduceMul, Int.reduceEq, Int.reduceLT, Int.reduceLE, Int.reduceNe, forall_const, forall_eq', forall_eq, List.forall_mem_cons, List.not_mem_nil]; exact k
  rw [show (0 : Int).toNat = 0 from rfl, List.drop_zero, show (C : Int).toNat - 0 = C by omega] at hy2
  have htl : ((recB b).take C).length = C := by rw [List.length_take]; omega
  simp only [wf_preprocess, ↓reduceIte, Nat.reduceEqDiff, reduceCtorEq, Nat.reduceAdd, Nat.reduceMul, Nat.reduceLeDiff, Nat.reduceLT, Nat.reduceSub, Int.reduceToNat, Int.reduceNeg, Int.reduceAdd, Int.reduceSub, Int.reduceMul, Int.reduceEq, Int.reduceLT, Int.reduceLE, Int.reduceNe, forall_const, forall_eq', forall_eq, List.forall_mem_cons, List.not_mem_nil]
  refine call_i (lent_s (hy2.at .rfl') (by omega) hy2.lenIs fun io co m2 h2 f2 e2 => ?_)
  simp only [wf_preprocess, ↓reduceIte, Nat.reduceEqDiff, reduceCtorEq, Nat.reduceAdd, Nat.reduceMul, Nat.reduceLeDiff, Nat.reduceLT, Nat.reduceSub, Int.reduceToNat, Int.reduceNeg, Int.reduceAdd, Int.reduceSub, Int.reduceMul, Int.reduceEq, Int.reduceLT, Int.reduceLE, Int.reduceNe, forall_const, forall_eq', forall_eq, List.forall_mem_cons, List.not_mem_nil]
  refine loop_i (fun kk ρ m' => ∃ (i : Nat) (v : AV), kk = Z - i ∧ i ≤ Z ∧ ρ 2 = iv Z ∧ ρ 9 = v ∧ ρ 10 = iv i ∧ BufI .u8 ((recB b).take C ++ List.replicate i 0) v m') Z ⟨0, .mref io 0 ((recB b).take C).length co, rfl, by omega, ?_⟩ ?_
  · simp only [wf_preprocess, ↓reduceIte, Nat.reduceEqDiff, reduceCtorEq, Nat.reduceAdd, Nat.reduceMul, Nat.reduceLeDiff, Nat.reduceLT, Nat.reduceSub, Int.reduceToNat, Int.reduceNeg, Int.reduceAdd, Int.reduceSub, Int.reduceMul, Int.reduceEq, Int.reduceLT, Int.reduceLE, Int.reduceNe, forall_const, forall_eq', forall_eq, List.forall_mem_cons, List.not_mem_nil]
    exact lent_buf h2
  rintro kk ρ m' ⟨i, v, rfl, hi, g2, g9, g10, hb3⟩
  have hlen : ((recB b).take C ++ List.replicate i 0).length = C + i := by rw [List.length_append, htl, List.length_replicate]
  by_cases hlt : (i : Int) < (Z : Int)
  · have w1 : IntKind.i64.wrap ((i : Int) + 1) = ((i + 1 : Nat) : Int) := wrap64 (by omega) (by omega)
    simp only [g2, g9, g10, hlt, wf_preprocess, ↓reduceIte, Nat.reduceEqDiff, reduceCtorEq, Nat.reduceAdd, Nat.reduceMul, Nat.reduceLeDiff, Nat.reduceLT, Nat.reduceSub, Int.reduceToNat, Int.reduceNeg, Int.reduceAdd, Int.reduceSub, Int.reduceMul, Int.reduceEq, Int.reduceLT, Int.reduceLE, Int.reduceNe, forall_const, forall_eq', forall_eq, List.forall_mem_cons, List.not_mem_nil]
    refine app_bufI hb3 (l2 := [0]) rfl (by rw [hlen]; simp; omega) (by rw [hlen, maxLen_e]; simp; omega) fun v4 m4 hb4 e4 f4 => ?_
    simp only [g2, g9, g10, w1, wf_preprocess, ↓reduceIte, Nat.reduceEqDiff, reduceCtorEq, Nat.reduceAdd, Nat.reduceMul, Nat.reduceLeDiff, Nat.reduceLT, Nat.reduceSub, Int.reduceToNat, Int.reduceNeg, Int.reduceAdd, Int.reduceSub, Int.reduceMul, Int.reduceEq, Int.reduceLT, Int.reduceLE, Int.reduceNe, forall_const, forall_eq', forall_eq, List.forall_mem_cons, List.not_mem_nil]
    refine ⟨Z - (i + 1), by omega, i + 1, v4, rfl, by omega, rfl, rfl, ?_⟩
    rw [List.replicate_succ', ← List.append_assoc]
    exact hb4
  · have hie : i = Z := by omega
    subst hie
    have htorn := torn (cut := C) (z := i) hbb hbl (by omega)
    have hall : byteL ((recB b).take C ++ List.replicate i 0) := byte_app (byte_take (recB_byte hbb)) (by intro c hc; rw [(List.mem_replicate.1 hc).2]; omega)
    have hEl := BufI.els (S := []) hb3 hall (by simp)
    simp only [g2, g9, g10, hlt, wf_preprocess, ↓reduceIte, Nat.reduceEqDiff, reduceCtorEq, Nat.reduceAdd, Nat.reduceMul, Nat.reduceLeDiff, Nat.reduceLT, Nat.reduceSub, Int.reduceToNat, Int.reduceNeg, Int.reduceAdd, Int.reduceSub, Int.reduceMul, Int.reduceEq, Int.reduceLT, Int.reduceLE, Int.reduceNe, forall_const, forall_eq', forall_eq, List.forall_mem_cons, List.not_mem_nil]
    refine call_i (Get_s hEl (by omega) fun v4 m4 hb4 e4 f4 => ?_)
    obtain ⟨e, he, hg⟩ : ∃ e, e ≠ 0 ∧ getR ((recB b).take C ++ List.replicate i 0) = ([], 0, e) := by
      rcases getR_cases ((recB b).take C ++ List.replicate i 0) with h | ⟨_, _, _, _, _, _, _, _, _, _, _, _, hg⟩
      · exact h
      · rw [hg] at htorn; exact absurd rfl htorn
    rw [hg] at hb4 ⊢
    dsimp only at hb4 ⊢
    simp only [g2, g9, g10, wf_preprocess, ↓reduceIte, Nat.reduceEqDiff, reduceCtorEq, Nat.reduceAdd, Nat.reduceMul, Nat.reduceLeDiff, Nat.reduceLT, Nat.reduceSub, Int.reduceToNat, Int.reduceNeg, Int.reduceAdd, Int.reduceSub, Int.reduceMul, Int.reduceEq, Int.reduceLT, Int.reduceLE, Int.reduceNe, forall_const, forall_eq', forall_eq, List.forall_mem_cons, List.not_mem_nil]
    refine call_i (All_s (hEl.ext e4 (by simp)) (by omega) (by simp) fun v5 vs5 m5 hb5 e5 f5 _ => ?_)
    rw [allR_no htorn] at hb5 ⊢
    dsimp only at hb5 ⊢
    have l4 := BufI.lenIs hb4
    have l5 := hb5.lenIs
    simp only [g2, g9, g10, eq_false he, onLst_len l4, onLst_len l5, wf_preprocess, ↓reduceIte, Nat.reduceEqDiff, reduceCtorEq, Nat.reduceAdd, Nat.reduceMul, Nat.reduceLeDiff, Nat.reduceLT, Nat.reduceSub, Int.reduceToNat, Int.reduceNeg, Int.reduceAdd, Int.reduceSub, Int.reduceMul, Int.reduceEq, Int.reduceLT, Int.reduceLE, Int.reduceNe, forall_const, forall_eq', forall_eq, List.forall_mem_cons, List.not_mem_nil]
    refine call_i (known_s fun m' _ => ?_)
    simp only [wf_preprocess, ↓reduceIte, Nat.reduceEqDiff, reduceCtorEq, Nat.reduceAdd, Nat.reduceMul, Nat.reduceLeDiff, Nat.reduceLT, Nat.reduceSub, Int.reduceToNat, Int.reduceNeg, Int.reduceAdd, Int.reduceSub, Int.reduceMul, Int.reduceEq, Int.reduceLT, Int.reduceLE, Int.reduceNe, forall_const, forall_eq', forall_eq, List.forall_mem_cons, List.not_mem_nil]
end
end Go.Proofs.Ytlcfagocikfocaa.Moi.Rec
