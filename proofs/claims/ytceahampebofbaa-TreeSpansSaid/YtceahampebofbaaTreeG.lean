/- What functions of this program do, on plain values: a part of the proofs of this seat's laws; each theorem bears its own conditions. -/
import Derived.Test.YtceahampebofbaaTreeF
set_option linter.unusedVariables false
set_option linter.unusedSimpArgs false
set_option maxRecDepth 1000000
namespace Go.Proofs.Ytceahampebofbaa.Moi.Tree
open Go Go.RowKit Go.Proofs.Ytceahampebofbaa.Moi
attribute [-wf_preprocess] ite_eq_dite forIn_eq_forIn'

/-! ### Those just below one, so far -/
def kidsTo (L : List Nd) (i j : Nat) : List Nat := (List.range i).filter fun k => decide (upA L k = (j : Int))
theorem kidsTo_all {L : List Nd} {j : Nat} : kidsTo L L.length j = kids L j := rfl
theorem kidsTo_succ {L : List Nd} {i j : Nat} : kidsTo L (i + 1) j = kidsTo L i j ++ if upA L i = (j : Int) then [i] else [] := by
  unfold kidsTo
  rw [List.range_succ, List.filter_append]
  congr 1
  by_cases h : upA L i = (j : Int) <;> simp [h]
/-- A tree whose members hang below each other, so far. -/
structure Kd (L : List Nd) (m0 m : Heap) (T N cN M K S : Nat) (r ks : List AV) (i : Nat) : Prop where
  gT : get T m = some (.cells [.mref N 0 L.length cN, .mapp M, .mref K 0 L.length L.length, .lst [] .nil, .lst [] .nil, .mref S 0 L.length L.length])
  gN : get N m = some (.cells (nc L ++ r))
  gM : get M m = some (.amap (pl L))
  gK : get K m = some (.cells ks)
  gS : get S m = some (.cells (List.replicate L.length [AV.sc (Value.int IntKind.i64 0), AV.sc (Value.int IntKind.i64 0)]).flatten)
  nd : [T, N, M, K, S].Nodup
  new : ∀ x ∈ [T, N, M, K, S], x ∉ keys m0
  ext : Ext [] m0 m
  len : ks.length = L.length
  buf : ∀ (j : Nat) v, ks[j]? = some v → BufI .i64 (il (kidsTo L i j)) v m
  fre : ∀ (j : Nat) v, ks[j]? = some v → ∀ x ∈ refs v, x ∉ keys m0 ∧ x ∉ [T, N, M, K, S]
  sep : ∀ (j j' : Nat) v v', j ≠ j' → ks[j]? = some v → ks[j']? = some v' → ∀ x ∈ refs v, x ∉ refs v'
section
variable {L : List Nd} {m m' m0 : Heap} {T N cN M K S X : Nat} {r ks : List AV} {i u : Nat} {ob : AObj} {v v' : AV}
theorem rep_one (n : Nat) (a : AV) : (List.replicate n [a]).flatten = List.replicate n a := by
  induction n with
  | zero => rfl
  | succ n ih => rw [List.replicate_succ, List.flatten_cons, ih]; rfl
theorem Kd.start (h : St L m0 m T N cN M K S r (pl L)) : Kd L m0 m T N cN M K S r (List.replicate L.length (.lst [] .nil)) 0 := by
  have key : ∀ (j : Nat) v, (List.replicate L.length (AV.lst [] Own.nil))[j]? = some v → v = .lst [] .nil := fun j v hj => by
    have := List.mem_of_getElem? hj
    exact (List.mem_replicate.1 this).2
  refine ⟨h.gT, h.gN, h.gM, by rw [h.gK, rep_one], h.gS, h.nd, h.new, h.ext, by simp, fun j v hj => ?_, fun j v hj x hx => ?_, fun j j' v v' _ hj _ x hx => ?_⟩
  · rw [key j v hj]; exact BufI.nil
  · rw [key j v hj] at hx; simp [refs] at hx
  · rw [key j v hj] at hx; simp [refs] at hx
theorem Kd.nds (h : Kd L m0 m T N cN M K S r ks i) : Nds L m T := ⟨N, cN, _, r, h.gT, h.gN, fun e => by
  have := h.nd
  simp [e] at this⟩
theorem Kd.ids (h : Kd L m0 m T N cN M K S r ks i) : (T ≠ N ∧ T ≠ M ∧ T ≠ K ∧ T ≠ S) ∧ (N ≠ M ∧ N ≠ K ∧ N ≠ S) ∧ (M ≠ K ∧ M ≠ S) ∧ K ≠ S := by
  have := h.nd
  simpa only [List.nodup_cons, List.mem_cons, List.not_mem_nil, or_false, not_or, not_false_eq_true, and_true, List.nodup_nil, true_and] using this
/-- One without one above it. -/
theorem Kd.skip (h : Kd L m0 m T N cN M K S r ks i) (hX : X ∉ keys m) (hu : ∀ j : Nat, upA L i ≠ (j : Int)) : Kd L m0 ((X, ob) :: m) T N cN M K S r ks (i + 1) := by
  have he : Ext [] m ((X, ob) :: m) := .new hX
  refine ⟨he _ _ h.gT (by simp), he _ _ h.gN (by simp), he _ _ h.gM (by simp), he _ _ h.gK (by simp), he _ _ h.gS (by simp), h.nd, h.new, h.ext.trans he, h.len, fun j v hj => ?_, h.fre, h.sep⟩
  rw [kidsTo_succ, if_neg (hu j), List.append_nil]
  exact (h.buf j v hj).ext he (by simp)
/-- One below another one. -/
theorem Kd.hang {m2 : Heap} (h : Kd L m0 m T N cN M K S r ks i) (hX : X ∉ keys m) (hu : upA L i = (u : Int)) (hv : ks[u]? = some v) (hb : BufI .i64 (il (kidsTo L i u) ++ il [i]) v' m2) (hx : Ext (refs v) ((X, ob) :: m) m2) (hn : v' = v ∨ ∀ x ∈ refs v', x ∉ keys ((X, ob) :: m)) :
    Kd L m0 (put K (.cells (ks.set u v')) m2) T N cN M K S r (ks.set u v') (i + 1) := by
  have he : Ext [] m ((X, ob) :: m) := .new hX
  have hf := h.fre u v hv
  obtain ⟨⟨a1, a2, a3, a4⟩, ⟨b1, b2, b3⟩, ⟨c1, c2⟩, d1⟩ := h.ids
  have mem : ∀ x ∈ [T, N, M, K, S], x ∉ refs v := fun x hx' hr => (hf x hr).2 hx'
  have hT := hx _ _ (he _ _ h.gT (by simp)) (mem T (by simp))
  have hN := hx _ _ (he _ _ h.gN (by simp)) (mem N (by simp))
  have hM := hx _ _ (he _ _ h.gM (by simp)) (mem M (by simp))
  have hK := hx _ _ (he _ _ h.gK (by simp)) (mem K (by simp))
  have hS := hx _ _ (he _ _ h.gS (by simp)) (mem S (by simp))
  -- what v' may write is new, or was v's
  have hv' : ∀ x ∈ refs v', x ∈ refs v ∨ x ∉ keys ((X, ob) :: m) := fun x hr => by
    rcases hn with rfl | hn
    · exact .inl hr
    · exact .inr (hn x hr)
  have inK : ∀ x ∈ keys m, x ∈ keys ((X, ob) :: m) := fun x hk => by simp only [keys_e, List.mem_cons]; exact .inr hk
  have getset : ∀ (j : Nat) w, (ks.set u v')[j]? = some w → (j = u ∧ w = v') ∨ (j ≠ u ∧ ks[j]? = some w) := fun j w hj => by
    rw [List.getElem?_set] at hj
    by_cases e : u = j
    · subst e
      rw [if_pos rfl] at hj
      split at hj
      · exact .inl ⟨rfl, (Option.some.inj hj).symm⟩
      · cases hj
    · rw [if_neg e] at hj
      exact .inr ⟨fun e' => e e'.symm, hj⟩
  have ext2 : Ext [] m0 m2 := (h.ext.trans he).fresh hx fun x hr => .inr (hf x hr).1
  have extP : Ext [K] m2 (put K (.cells (ks.set u v')) m2) := .put (by simp)
  refine ⟨by rw [get_put_ne a3]; exact hT, by rw [get_put_ne b2]; exact hN, by rw [get_put_ne c1]; exact hM, get_put hK, by rw [get_put_ne (fun e => d1 e.symm)]; exact hS, h.nd, h.new, ?_, by rw [List.length_set]; exact h.len, fun j w hj => ?_, fun j w hj x hr => ?_, fun j j' w w' hjj hj hj' x hr => ?_⟩
  · exact ext2.fresh extP fun x hr => .inr (by
      simp only [List.mem_singleton] at hr
      subst hr
      exact h.new _ (by simp))
  · rcases getset j w hj with ⟨rfl, rfl⟩ | ⟨hne, hj⟩
    · rw [kidsTo_succ, if_pos hu, il_app]
      refine hb.ext extP fun x hr hk => ?_
      simp only [List.mem_singleton] at hk
      subst hk
      rcases hv' _ hr with hr | hr
      · exact mem _ (by simp) hr
      · exact hr (inK _ (mem_keys h.gK))
    · have hne' : upA L i ≠ (j : Int) := by rw [hu]; omega
      rw [kidsTo_succ, if_neg hne', List.append_nil]
      have hb1 := (h.buf j w hj).ext he (by simp)
      have hb2 := hb1.ext hx fun x hr hk => h.sep j u w v hne hj hv x hr hk
      exact hb2.ext extP fun x hr hk => by
        simp only [List.mem_singleton] at hk
        subst hk
        exact (h.fre j w hj _ hr).2 (by simp)
  · rcases getset j w hj with ⟨rfl, rfl⟩ | ⟨hne, hj⟩
    · rcases hv' x hr with hr | hr
      · exact hf x hr
      · refine ⟨fun hk => hr (inK x ?_), fun hk => ?_⟩
        · cases hg : get x m0 with
          | none => exact absurd hk (not_keys hg)
          | some ob => exact mem_keys (h.ext x ob hg (by simp))
        · simp only [List.mem_cons, List.not_mem_nil, or_false] at hk
          rcases hk with rfl | rfl | rfl | rfl | rfl
          · exact hr (inK _ (mem_keys h.gT))
          · exact hr (inK _ (mem_keys h.gN))
          · exact hr (inK _ (mem_keys h.gM))
          · exact hr (inK _ (mem_keys h.gK))
          · exact hr (inK _ (mem_keys h.gS))
    · exact h.fre j w hj x hr
  · have inb : ∀ (j : Nat) w, ks[j]? = some w → ∀ x ∈ refs w, x ∈ keys ((X, ob) :: m) := fun j w hj x hr => inK x ((h.buf j w hj).inK x hr)
    rcases getset j w hj with ⟨rfl, rfl⟩ | ⟨hne, hjo⟩ <;> rcases getset j' w' hj' with ⟨rfl, rfl⟩ | ⟨hne', hjo'⟩
    · exact absurd rfl hjj
    · intro hr'
      rcases hv' x hr with hr | hr
      · exact h.sep j j' v w' hjj hv hjo' x hr hr'
      · exact hr (inb j' w' hjo' x hr')
    · intro hr'
      rcases hv' x hr' with hr' | hr'
      · exact h.sep j j' w v hjj hjo hv x hr hr'
      · exact hr' (inb j w hjo x hr)
    · exact h.sep j j' w w' hjj hjo hjo' x hr
end
section
variable {L : List Nd} {m m' m0 : Heap} {T N cN M K S : Nat} {r : List AV} {y : AV} {ρ : Regs} {E : AV → Heap → Prop} {Kn Kr : Cont} {Kx : Nat → Cont} {C : NCode}
theorem new_d (hI : Inp y L) (h : St L m0 m T N cN M K S r (pl L)) (hl : L.length ≤ 32) (hr : ∀ p ∈ L, -1 ≤ p.2 ∧ p.2 < L.length) (g0 : ρ 0 = y) (g5 : ρ 5 = .ptr T 0)
    (k : ∀ ρ' m' ks, Kd L m0 m' T N cN M K S r ks L.length → ρ' 5 = .ptr T 0 → vc Try.prog E C Kn Kx Kr ρ' m') : vc Try.prog E (d8d C) Kn Kx Kr ρ m := by
  obtain ⟨o, rfl, _⟩ := hI
  simp only [d8d, g0, g5, List.length_map, wf_preprocess, ↓reduceIte, Nat.reduceEqDiff, reduceCtorEq, Nat.reduceAdd, Nat.reduceMul, Nat.reduceLeDiff, Nat.reduceLT, Nat.reduceSub, Int.reduceToNat, Int.reduceNeg, Int.reduceAdd, Int.reduceSub, Int.reduceMul, Int.reduceEq, Int.reduceLT, Int.reduceLE, Int.reduceNe, forall_const, forall_eq', forall_eq, List.forall_mem_cons, List.not_mem_nil]
  refine loop_i (fun kk ρ m' => ∃ (i : Nat) (ks : List AV), kk = L.length - i ∧ i ≤ L.length ∧ Kd L m0 m' T N cN M K S r ks i ∧ ρ 5 = .ptr T 0 ∧ ρ 48 = .lst (L.map fun p => .agg (nv p)) o ∧ ρ 49 = iv L.length ∧ ρ 50 = iv i) L.length ⟨0, _, rfl, by omega, Kd.start h, ?_⟩ ?_
  · simp only [g5, wf_preprocess, ↓reduceIte, Nat.reduceEqDiff, reduceCtorEq, Nat.reduceAdd, Nat.reduceMul, Nat.reduceLeDiff, Nat.reduceLT, Nat.reduceSub, Int.reduceToNat, Int.reduceNeg, Int.reduceAdd, Int.reduceSub, Int.reduceMul, Int.reduceEq, Int.reduceLT, Int.reduceLE, Int.reduceNe, forall_const, forall_eq', forall_eq, List.forall_mem_cons, List.not_mem_nil]
  rintro kk ρ m1 ⟨i, ks, rfl, hi, hK, k5, k48, k49, k50⟩
  by_cases hin : (i : Int) < (L.length : Int)
  · obtain ⟨p, hp⟩ : ∃ p, L[i]? = some p := ⟨_, List.getElem?_eq_getElem (by omega)⟩
    have hpr := hr p (List.mem_of_getElem? hp)
    have hup := upA_at hp
    have hgi : (L.map fun p => AV.agg [AV.sc (Value.string p.1), iv p.2])[i]? = some (.agg [AV.sc (Value.string p.1), iv p.2]) := by rw [List.getElem?_map, hp]; rfl
    have w1 : IntKind.i64.wrap ((i : Int) + 1) = ((i + 1 : Nat) : Int) := wrap64 (by omega) (by omega)
    simp only [k5, k48, k49, k50, hin, Int.natCast_nonneg, hgi, nv, wf_preprocess, ↓reduceIte, Nat.reduceEqDiff, reduceCtorEq, Nat.reduceAdd, Nat.reduceMul, Nat.reduceLeDiff, Nat.reduceLT, Nat.reduceSub, Int.reduceToNat, Int.reduceNeg, Int.reduceAdd, Int.reduceSub, Int.reduceMul, Int.reduceEq, Int.reduceLT, Int.reduceLE, Int.reduceNe, forall_const, forall_eq', forall_eq, List.forall_mem_cons, List.not_mem_nil]
    refine fresh_i fun X hX => ?_
    by_cases c : 0 ≤ p.2
    · obtain ⟨u, hu⟩ := Int.eq_ofNat_of_zero_le c
      have hul : u < L.length := by omega
      have hul' : (u : Int) < (L.length : Int) := by omega
      obtain ⟨v, hv⟩ : ∃ v, ks[u]? = some v := ⟨_, List.getElem?_eq_getElem (by rw [hK.len]; omega)⟩
      have he : Ext [] m1 ((X, AObj.cells [.sc (.string p.1), iv p.2]) :: m1) := .new hX
      have hT1 := he _ _ hK.gT (by simp)
      have hK1 := he _ _ hK.gK (by simp)
      have hX1 : get X ((X, AObj.cells [.sc (.string p.1), iv p.2]) :: m1) = some (.cells [.sc (.string p.1), iv p.2]) := get_new
      have hb1 := (hK.buf u v hv).ext he (by simp)
      have hdr : ks.drop u = v :: ks.drop (u + 1) := by
        obtain ⟨hlt, rfl⟩ := List.getElem?_eq_some_iff.1 hv
        exact List.drop_eq_getElem_cons hlt
      have hXT : ¬ X = T := fun e => hX (e ▸ mem_keys hK.gT)
      have hXK : ¬ X = K := fun e => hX (e ▸ mem_keys hK.gK)
      rw [hu] at hX1 hT1 hK1 hb1 he
      have hfin : ∀ v' m2, BufI .i64 (il (kidsTo L i u) ++ il [i]) v' m2 → Ext (refs v) ((X, AObj.cells [.sc (.string p.1), iv (u : Int)]) :: m1) m2 → (v' = v ∨ ∀ x ∈ refs v', x ∉ keys ((X, AObj.cells [.sc (.string p.1), iv (u : Int)]) :: m1)) →
          get T m2 = some (.cells [.mref N 0 L.length cN, .mapp M, .mref K 0 L.length L.length, .lst [] .nil, .lst [] .nil, .mref S 0 L.length L.length]) ∧ get X m2 = some (.cells [.sc (.string p.1), iv (u : Int)]) ∧ get K m2 = some (.cells ks) ∧ Kd L m0 (put K (.cells (ks.set u v')) m2) T N cN M K S r (ks.set u v') (i + 1) := fun v' m2 q1 q2 q3 => by
        have hf := hK.fre u v hv
        refine ⟨q2 _ _ hT1 fun hr => (hf _ hr).2 (by simp), q2 _ _ hX1 fun hr => ?_, q2 _ _ hK1 fun hr => (hf _ hr).2 (by simp), hK.hang hX (by rw [hup, hu]) hv q1 q2 q3⟩
        exact hX ((hK.buf u v hv).inK _ hr)
      simp only [hu, Int.ofNat_eq_natCast] at hT1 hK1 hX1 hb1 hfin ⊢
      simp only [k5, k48, k49, k50, hXT, hXK, hK.gT, hK.gK, hdr, hul', Int.natCast_nonneg, wf_preprocess, ↓reduceIte, Nat.reduceEqDiff, reduceCtorEq, Nat.reduceAdd, Nat.reduceMul, Nat.reduceLeDiff, Nat.reduceLT, Nat.reduceSub, Int.reduceToNat, Int.reduceNeg, Int.reduceAdd, Int.reduceSub, Int.reduceMul, Int.reduceEq, Int.reduceLT, Int.reduceLE, Int.reduceNe, forall_const, forall_eq', forall_eq, List.forall_mem_cons, List.not_mem_nil]
      refine app_bufI (l2 := il [i]) hb1 rfl ?_ ?_ fun v' m2 q1 q2 q3 => ?_
      · rw [il_len, il_len]
        have : (kidsTo L i u).length ≤ i := by
          have := List.length_filter_le (fun k : Nat => decide (upA L k = (u : Int))) (List.range i)
          rwa [List.length_range] at this
        simp; omega
      · rw [maxLen_e, il_len, il_len]
        have : (kidsTo L i u).length ≤ i := by
          have := List.length_filter_le (fun k : Nat => decide (upA L k = (u : Int))) (List.range i)
          rwa [List.length_range] at this
        simp; omega
      obtain ⟨f1, f2, f3, f4⟩ := hfin v' m2 q1 q2 q3
      have hone : v'.one = true ∧ v'.cells = [v'] := by
        rcases (BufI.ei q1).isL with ⟨es, o', rfl, _⟩ | ⟨_, _, _, _, rfl⟩ <;> exact ⟨rfl, rfl⟩
      have hset : splice u [v'] ks = ks.set u v' := splice_one v' u ks (by rw [hK.len]; omega)
      have hlen : u + 1 ≤ ks.length := by rw [hK.len]; omega
      simp only [k5, k48, k49, k50, f1, f2, f3, hul', hone.1, hone.2, hset, hlen, w1, Int.natCast_nonneg, wf_preprocess, ↓reduceIte, Nat.reduceEqDiff, reduceCtorEq, Nat.reduceAdd, Nat.reduceMul, Nat.reduceLeDiff, Nat.reduceLT, Nat.reduceSub, Int.reduceToNat, Int.reduceNeg, Int.reduceAdd, Int.reduceSub, Int.reduceMul, Int.reduceEq, Int.reduceLT, Int.reduceLE, Int.reduceNe, forall_const, forall_eq', forall_eq, List.forall_mem_cons, List.not_mem_nil]
      exact ⟨by rcases (BufI.ei q1).isL with ⟨es, o', rfl, _⟩ | ⟨_, _, _, _, rfl⟩ <;> rfl, L.length - (i + 1), by omega, i + 1, _, rfl, by omega, f4, rfl⟩
    · simp only [k5, k48, k49, k50, c, w1, wf_preprocess, ↓reduceIte, Nat.reduceEqDiff, reduceCtorEq, Nat.reduceAdd, Nat.reduceMul, Nat.reduceLeDiff, Nat.reduceLT, Nat.reduceSub, Int.reduceToNat, Int.reduceNeg, Int.reduceAdd, Int.reduceSub, Int.reduceMul, Int.reduceEq, Int.reduceLT, Int.reduceLE, Int.reduceNe, forall_const, forall_eq', forall_eq, List.forall_mem_cons, List.not_mem_nil]
      refine ⟨L.length - (i + 1), by omega, i + 1, ks, rfl, by omega, hK.skip hX fun j => by rw [hup]; omega, rfl⟩
  · obtain rfl : i = L.length := by omega
    simp only [k5, k48, k49, k50, hin, wf_preprocess, ↓reduceIte, Nat.reduceEqDiff, reduceCtorEq, Nat.reduceAdd, Nat.reduceMul, Nat.reduceLeDiff, Nat.reduceLT, Nat.reduceSub, Int.reduceToNat, Int.reduceNeg, Int.reduceAdd, Int.reduceSub, Int.reduceMul, Int.reduceEq, Int.reduceLT, Int.reduceLE, Int.reduceNe, forall_const, forall_eq', forall_eq, List.forall_mem_cons, List.not_mem_nil]
    refine k _ m1 ks hK ?_
    simp only [k5, wf_preprocess, ↓reduceIte, Nat.reduceEqDiff, reduceCtorEq, Nat.reduceAdd, Nat.reduceMul, Nat.reduceLeDiff, Nat.reduceLT, Nat.reduceSub, Int.reduceToNat, Int.reduceNeg, Int.reduceAdd, Int.reduceSub, Int.reduceMul, Int.reduceEq, Int.reduceLT, Int.reduceLE, Int.reduceNe, forall_const, forall_eq', forall_eq, List.forall_mem_cons, List.not_mem_nil]
end
end Go.Proofs.Ytceahampebofbaa.Moi.Tree
