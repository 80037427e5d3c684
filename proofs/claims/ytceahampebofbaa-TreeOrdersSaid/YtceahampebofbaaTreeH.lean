/- What functions of this program do, on plain values: a part of the proofs of this seat's laws; each theorem bears its own conditions. -/
import Derived.Test.YtceahampebofbaaTreeG
set_option linter.unusedVariables false
set_option linter.unusedSimpArgs false
set_option maxRecDepth 1000000
namespace Go.Proofs.Ytceahampebofbaa.Moi.Tree
open Go Go.RowKit Go.Proofs.Ytceahampebofbaa.Moi

/-! ### Spans in memory -/
abbrev Sp2 := List (Int × Int)
def sc (l : Sp2) : List AV := l.flatMap fun p => [iv p.1, iv p.2]
theorem sc_cons {p : Int × Int} {l : Sp2} : sc (p :: l) = iv p.1 :: iv p.2 :: sc l := rfl
theorem sc_len {l : Sp2} : (sc l).length = l.length * 2 := by
  induction l with
  | nil => rfl
  | cons x l ih => rw [sc_cons, List.length_cons, List.length_cons, ih, List.length_cons]; omega
theorem sc_drop : ∀ {l : Sp2} {i : Nat} {p : Int × Int}, l[i]? = some p → (sc l).drop (i * 2) = iv p.1 :: iv p.2 :: (sc l).drop (i * 2 + 2)
  | [], i, p, h => by simp at h
  | x :: l, 0, p, h => by simp at h; subst h; rfl
  | x :: l, i + 1, p, h => by
    rw [sc_cons, show (i + 1) * 2 = i * 2 + 2 by omega]
    simp only [List.drop_succ_cons]
    exact sc_drop (l := l) (by simpa using h)
theorem sc_drop1 {l : Sp2} {i : Nat} {p : Int × Int} (h : l[i]? = some p) : (sc l).drop (i * 2 + 1) = iv p.2 :: (sc l).drop (i * 2 + 2) := by
  rw [← List.drop_drop, sc_drop h]; rfl
theorem sc_set0 {a : Int} : ∀ {l : Sp2} {i : Nat} {p : Int × Int}, l[i]? = some p → splice (i * 2) [iv a] (sc l) = sc (l.set i (a, p.2))
  | [], i, p, h => by simp at h
  | x :: l, 0, p, h => by simp at h; subst h; rw [List.set_cons_zero, sc_cons, sc_cons, Nat.zero_mul]; simp only [splice]
  | x :: l, i + 1, p, h => by
    rw [List.set_cons_succ, sc_cons, sc_cons, show (i + 1) * 2 = i * 2 + 2 by omega]
    simp only [splice]
    rw [sc_set0 (by simpa using h)]
theorem sc_set1 {b : Int} : ∀ {l : Sp2} {i : Nat} {p : Int × Int}, l[i]? = some p → splice (i * 2 + 1) [iv b] (sc l) = sc (l.set i (p.1, b))
  | [], i, p, h => by simp at h
  | x :: l, 0, p, h => by simp at h; subst h; rw [List.set_cons_zero, sc_cons, sc_cons]; simp only [splice]; cases sc l <;> rfl
  | x :: l, i + 1, p, h => by
    rw [List.set_cons_succ, sc_cons, sc_cons, show (i + 1) * 2 + 1 = (i * 2 + 1) + 2 by omega]
    simp only [splice]
    rw [sc_set1 (by simpa using h)]
theorem sc_rep (n : Nat) : (List.replicate n [AV.sc (Value.int IntKind.i64 0), AV.sc (Value.int IntKind.i64 0)]).flatten = sc (List.replicate n (0, 0)) := by
  induction n with
  | zero => rfl
  | succ n ih => rw [List.replicate_succ, List.flatten_cons, ih]; rfl

/-! ### A tree that is walked through -/
structure Wk (L : List Nd) (m0 m : Heap) (T N cN M K S B D : Nat) (r ks : List AV) (vo vl : AV) (O V : List Nat) (Sp : Sp2) : Prop where
  gT : get T m = some (.cells [.mref N 0 L.length cN, .mapp M, .mref K 0 L.length L.length, vo, vl, .mref S 0 L.length L.length])
  gN : get N m = some (.cells (nc L ++ r))
  gM : get M m = some (.amap (pl L))
  gK : get K m = some (.cells ks)
  gS : get S m = some (.cells (sc Sp))
  gB : get B m = some (.cells [.ptr T 0])
  gD : get D m = some (.cells [.clos 50 [.ptr B 0, .ptr D 0]])
  bo : BufI .i64 (il O) vo m
  bl : BufI .i64 (il V) vl m
  nd : [T, N, M, K, S, B, D].Nodup
  new : ∀ x ∈ [T, N, M, K, S, B, D], x ∉ keys m0
  ext : Ext [] m0 m
  len : ks.length = L.length
  slen : Sp.length = L.length
  kb : ∀ (j : Nat) v, ks[j]? = some v → BufI .i64 (il (kids L j)) v m
  kf : ∀ (j : Nat) v, ks[j]? = some v → ∀ x ∈ refs v, x ∉ keys m0 ∧ x ∉ [T, N, M, K, S, B, D]
  fo : ∀ x ∈ refs vo, x ∉ keys m0 ∧ x ∉ [T, N, M, K, S, B, D] ∧ (∀ (j : Nat) v, ks[j]? = some v → x ∉ refs v) ∧ x ∉ refs vl
  fl : ∀ x ∈ refs vl, x ∉ keys m0 ∧ x ∉ [T, N, M, K, S, B, D] ∧ ∀ (j : Nat) v, ks[j]? = some v → x ∉ refs v
section
variable {L : List Nd} {m m1 m' m0 : Heap} {T N cN M K S B D : Nat} {r ks : List AV} {vo vl vo' vl' : AV} {O V : List Nat} {Sp Sp' : Sp2} {i : Nat}
theorem Wk.ids (h : Wk L m0 m T N cN M K S B D r ks vo vl O V Sp) : (T ≠ N ∧ T ≠ M ∧ T ≠ K ∧ T ≠ S ∧ T ≠ B ∧ T ≠ D) ∧ (N ≠ M ∧ N ≠ K ∧ N ≠ S ∧ N ≠ B ∧ N ≠ D) ∧ (M ≠ K ∧ M ≠ S ∧ M ≠ B ∧ M ≠ D) ∧ (K ≠ S ∧ K ≠ B ∧ K ≠ D) ∧ (S ≠ B ∧ S ≠ D) ∧ B ≠ D := by
  have := h.nd
  simpa only [List.nodup_cons, List.mem_cons, List.not_mem_nil, or_false, not_or, not_false_eq_true, and_true, List.nodup_nil, true_and] using this
theorem Wk.inK (h : Wk L m0 m T N cN M K S B D r ks vo vl O V Sp) : ∀ x ∈ [T, N, M, K, S, B, D], x ∈ keys m := by
  intro x hx
  simp only [List.mem_cons, List.not_mem_nil, or_false] at hx
  rcases hx with rfl | rfl | rfl | rfl | rfl | rfl | rfl
  · exact mem_keys h.gT
  · exact mem_keys h.gN
  · exact mem_keys h.gM
  · exact mem_keys h.gK
  · exact mem_keys h.gS
  · exact mem_keys h.gB
  · exact mem_keys h.gD
theorem in0 {x : Nat} (he : Ext [] m0 m) (hx : x ∈ keys m0) : x ∈ keys m := by
  cases hg : get x m0 with
  | none => exact absurd hx (not_keys hg)
  | some ob => exact mem_keys (he x ob hg (by simp))
theorem Wk.nds (h : Wk L m0 m T N cN M K S B D r ks vo vl O V Sp) : Nds L m T := ⟨N, cN, _, r, h.gT, h.gN, h.ids.1.1⟩
/-- What an append to the order leaves as it was. -/
theorem Wk.preO (h : Wk L m0 m T N cN M K S B D r ks vo vl O V Sp) (hx : Ext (refs vo) m m1) :
    get T m1 = some (.cells [.mref N 0 L.length cN, .mapp M, .mref K 0 L.length L.length, vo, vl, .mref S 0 L.length L.length]) ∧ get B m1 = some (.cells [.ptr T 0]) :=
  ⟨hx _ _ h.gT fun hr => (h.fo _ hr).2.1 (by simp), hx _ _ h.gB fun hr => (h.fo _ hr).2.1 (by simp)⟩
theorem Wk.preV (h : Wk L m0 m T N cN M K S B D r ks vo vl O V Sp) (hx : Ext (refs vl) m m1) :
    get T m1 = some (.cells [.mref N 0 L.length cN, .mapp M, .mref K 0 L.length L.length, vo, vl, .mref S 0 L.length L.length]) ∧ get B m1 = some (.cells [.ptr T 0]) :=
  ⟨hx _ _ h.gT fun hr => (h.fl _ hr).2.1 (by simp), hx _ _ h.gB fun hr => (h.fl _ hr).2.1 (by simp)⟩
theorem Wk.pushO (h : Wk L m0 m T N cN M K S B D r ks vo vl O V Sp) (hb : BufI .i64 (il O ++ il [i]) vo' m1) (hx : Ext (refs vo) m m1) (hn : vo' = vo ∨ ∀ x ∈ refs vo', x ∉ keys m) :
    Wk L m0 (put T (.cells [.mref N 0 L.length cN, .mapp M, .mref K 0 L.length L.length, vo', vl, .mref S 0 L.length L.length]) m1) T N cN M K S B D r ks vo' vl (O ++ [i]) V Sp := by
  obtain ⟨⟨a1, a2, a3, a4, a5, a6⟩, ⟨b1, b2, b3, b4, b5⟩, ⟨c1, c2, c3, c4⟩, ⟨d1, d2, d3⟩, ⟨e1, e2⟩, f1⟩ := h.ids
  have keep : ∀ x ∈ [T, N, M, K, S, B, D], x ∉ refs vo := fun x hx' hr => (h.fo x hr).2.1 hx'
  have cases' : ∀ x ∈ refs vo', x ∈ refs vo ∨ x ∉ keys m := fun x hr => by
    rcases hn with rfl | hn
    · exact .inl hr
    · exact .inr (hn x hr)
  have oT : ∀ ob : AObj, Ext [T] m1 (put T ob m1) := fun ob => .put (by simp)
  have notT : ∀ {v : AV}, (∀ x ∈ refs v, x ∉ [T, N, M, K, S, B, D]) → ∀ x ∈ refs v, x ∉ [T] := fun hv x hr hk => by
    simp only [List.mem_singleton] at hk
    subst hk
    exact hv _ hr (by simp)
  have fo' : ∀ x ∈ refs vo', x ∉ keys m0 ∧ x ∉ [T, N, M, K, S, B, D] ∧ (∀ (j : Nat) v, ks[j]? = some v → x ∉ refs v) ∧ x ∉ refs vl := fun x hr => by
    rcases cases' x hr with hr | hr
    · exact h.fo x hr
    · exact ⟨fun hk => hr (in0 h.ext hk), fun hk => hr (h.inK x hk), fun j v hj hk => hr ((h.kb j v hj).inK x hk), fun hk => hr (h.bl.inK x hk)⟩
  refine ⟨get_put (hx _ _ h.gT (keep T (by simp))), ?_, ?_, ?_, ?_, ?_, ?_, ?_, ?_, h.nd, h.new, ?_, h.len, h.slen, fun j v hj => ?_, h.kf, fo', h.fl⟩
  · rw [get_put_ne (fun e => a1 e.symm)]; exact hx _ _ h.gN (keep N (by simp))
  · rw [get_put_ne (fun e => a2 e.symm)]; exact hx _ _ h.gM (keep M (by simp))
  · rw [get_put_ne (fun e => a3 e.symm)]; exact hx _ _ h.gK (keep K (by simp))
  · rw [get_put_ne (fun e => a4 e.symm)]; exact hx _ _ h.gS (keep S (by simp))
  · rw [get_put_ne (fun e => a5 e.symm)]; exact hx _ _ h.gB (keep B (by simp))
  · rw [get_put_ne (fun e => a6 e.symm)]; exact hx _ _ h.gD (keep D (by simp))
  · rw [il_app]; exact hb.ext (oT _) (notT fun x hr => (fo' x hr).2.1)
  · exact (h.bl.ext hx fun x hr hk => (h.fo x hk).2.2.2 hr).ext (oT _) (notT fun x hr => (h.fl x hr).2.1)
  · exact (h.ext.fresh hx fun x hr => .inr (h.fo x hr).1).fresh (oT _) fun x hr => .inr (by
      simp only [List.mem_singleton] at hr
      subst hr
      exact h.new _ (by simp))
  · exact ((h.kb j v hj).ext hx fun x hr hk => (h.fo x hk).2.2.1 j v hj hr).ext (oT _) (notT fun x hr => (h.kf j v hj x hr).2)
theorem Wk.pushV (h : Wk L m0 m T N cN M K S B D r ks vo vl O V Sp) (hb : BufI .i64 (il V ++ il [i]) vl' m1) (hx : Ext (refs vl) m m1) (hn : vl' = vl ∨ ∀ x ∈ refs vl', x ∉ keys m) :
    Wk L m0 (put T (.cells [.mref N 0 L.length cN, .mapp M, .mref K 0 L.length L.length, vo, vl', .mref S 0 L.length L.length]) m1) T N cN M K S B D r ks vo vl' O (V ++ [i]) Sp := by
  obtain ⟨⟨a1, a2, a3, a4, a5, a6⟩, ⟨b1, b2, b3, b4, b5⟩, ⟨c1, c2, c3, c4⟩, ⟨d1, d2, d3⟩, ⟨e1, e2⟩, f1⟩ := h.ids
  have keep : ∀ x ∈ [T, N, M, K, S, B, D], x ∉ refs vl := fun x hx' hr => (h.fl x hr).2.1 hx'
  have cases' : ∀ x ∈ refs vl', x ∈ refs vl ∨ x ∉ keys m := fun x hr => by
    rcases hn with rfl | hn
    · exact .inl hr
    · exact .inr (hn x hr)
  have oT : ∀ ob : AObj, Ext [T] m1 (put T ob m1) := fun ob => .put (by simp)
  have notT : ∀ {v : AV}, (∀ x ∈ refs v, x ∉ [T, N, M, K, S, B, D]) → ∀ x ∈ refs v, x ∉ [T] := fun hv x hr hk => by
    simp only [List.mem_singleton] at hk
    subst hk
    exact hv _ hr (by simp)
  have fl' : ∀ x ∈ refs vl', x ∉ keys m0 ∧ x ∉ [T, N, M, K, S, B, D] ∧ ∀ (j : Nat) v, ks[j]? = some v → x ∉ refs v := fun x hr => by
    rcases cases' x hr with hr | hr
    · exact h.fl x hr
    · exact ⟨fun hk => hr (in0 h.ext hk), fun hk => hr (h.inK x hk), fun j v hj hk => hr ((h.kb j v hj).inK x hk)⟩
  refine ⟨get_put (hx _ _ h.gT (keep T (by simp))), ?_, ?_, ?_, ?_, ?_, ?_, ?_, ?_, h.nd, h.new, ?_, h.len, h.slen, fun j v hj => ?_, h.kf, fun x hr => ?_, fl'⟩
  · rw [get_put_ne (fun e => a1 e.symm)]; exact hx _ _ h.gN (keep N (by simp))
  · rw [get_put_ne (fun e => a2 e.symm)]; exact hx _ _ h.gM (keep M (by simp))
  · rw [get_put_ne (fun e => a3 e.symm)]; exact hx _ _ h.gK (keep K (by simp))
  · rw [get_put_ne (fun e => a4 e.symm)]; exact hx _ _ h.gS (keep S (by simp))
  · rw [get_put_ne (fun e => a5 e.symm)]; exact hx _ _ h.gB (keep B (by simp))
  · rw [get_put_ne (fun e => a6 e.symm)]; exact hx _ _ h.gD (keep D (by simp))
  · exact (h.bo.ext hx fun x hr hk => (h.fo x hr).2.2.2 hk).ext (oT _) (notT fun x hr => (h.fo x hr).2.1)
  · rw [il_app]; exact hb.ext (oT _) (notT fun x hr => (fl' x hr).2.1)
  · exact (h.ext.fresh hx fun x hr => .inr (h.fl x hr).1).fresh (oT _) fun x hr => .inr (by
      simp only [List.mem_singleton] at hr
      subst hr
      exact h.new _ (by simp))
  · exact ((h.kb j v hj).ext hx fun x hr hk => (h.fl x hk).2.2 j v hj hr).ext (oT _) (notT fun x hr => (h.kf j v hj x hr).2)
  · obtain ⟨q1, q2, q3, q4⟩ := h.fo x hr
    refine ⟨q1, q2, q3, fun hk => ?_⟩
    rcases cases' x hk with hk | hk
    · exact q4 hk
    · exact hk (h.bo.inK x hr)
theorem Wk.setS (h : Wk L m0 m T N cN M K S B D r ks vo vl O V Sp) (hl : Sp'.length = L.length) :
    Wk L m0 (put S (.cells (sc Sp')) m) T N cN M K S B D r ks vo vl O V Sp' := by
  obtain ⟨⟨a1, a2, a3, a4, a5, a6⟩, ⟨b1, b2, b3, b4, b5⟩, ⟨c1, c2, c3, c4⟩, ⟨d1, d2, d3⟩, ⟨e1, e2⟩, f1⟩ := h.ids
  have oS : ∀ ob : AObj, Ext [S] m (put S ob m) := fun ob => .put (by simp)
  have notS : ∀ {v : AV}, (∀ x ∈ refs v, x ∉ [T, N, M, K, S, B, D]) → ∀ x ∈ refs v, x ∉ [S] := fun hv x hr hk => by
    simp only [List.mem_singleton] at hk
    subst hk
    exact hv _ hr (by simp)
  refine ⟨by rw [get_put_ne a4]; exact h.gT, by rw [get_put_ne b3]; exact h.gN, by rw [get_put_ne c2]; exact h.gM, by rw [get_put_ne d1]; exact h.gK, get_put h.gS, by rw [get_put_ne (fun e => e1 e.symm)]; exact h.gB, by rw [get_put_ne (fun e => e2 e.symm)]; exact h.gD, ?_, ?_, h.nd, h.new, ?_, h.len, hl, fun j v hj => ?_, h.kf, h.fo, h.fl⟩
  · exact h.bo.ext (oS _) (notS fun x hr => (h.fo x hr).2.1)
  · exact h.bl.ext (oS _) (notS fun x hr => (h.fl x hr).2.1)
  · exact h.ext.fresh (oS _) fun x hr => .inr (by
      simp only [List.mem_singleton] at hr
      subst hr
      exact h.new _ (by simp))
  · exact (h.kb j v hj).ext (oS _) (notS fun x hr => (h.kf j v hj x hr).2)
theorem Wk.after (h : Wk L m0 m T N cN M K S B D r ks vo vl O V Sp) (he : Ext [] m m') : Wk L m0 m' T N cN M K S B D r ks vo vl O V Sp :=
  ⟨he _ _ h.gT (by simp), he _ _ h.gN (by simp), he _ _ h.gM (by simp), he _ _ h.gK (by simp), he _ _ h.gS (by simp), he _ _ h.gB (by simp), he _ _ h.gD (by simp), h.bo.ext he (by simp), h.bl.ext he (by simp), h.nd, h.new, h.ext.trans he, h.len, h.slen,
    fun j v hj => (h.kb j v hj).ext he (by simp), h.kf, h.fo, h.fl⟩
end
end Go.Proofs.Ytceahampebofbaa.Moi.Tree
