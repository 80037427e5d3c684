/- What functions of this program do, on plain values: a part of the proofs of this seat's laws; each theorem bears its own conditions. -/
import Derived.Test.YtpmbebdcbejlkacBlockD
set_option linter.unusedVariables false
set_option linter.unusedSimpArgs false
set_option maxRecDepth 1000000
namespace Go.Proofs.Ytpmbebdcbejlkac.Moi.Block
open Go Go.RowKit Go.Proofs.Ytpmbebdcbejlkac.Moi

/-! ### The document's file -/
def mrefs (ms : List (Nat × Nat)) : List AV := ms.map fun p => .mref p.1 0 32 p.2
def mrows (ms : List (Nat × Nat)) : List (List AV) := ms.map fun p => [.mref p.1 0 32 p.2]
theorem mrows_ok {ms : List (Nat × Nat)} : rowsOk none (mrows ms) := by
  intro c hc
  obtain ⟨p, hp, rfl⟩ := List.mem_map.1 hc
  exact ⟨rfl, rfl⟩
theorem mrows_len {ms : List (Nat × Nat)} : (mrows ms).length = ms.length := List.length_map ..
theorem mrows_flat {ms : List (Nat × Nat)} : (mrows ms).flatten = mrefs ms := by
  induction ms with
  | nil => rfl
  | cons p ms ih => rw [mrows, List.map_cons, List.flatten_cons, mrefs, List.map_cons, ← mrefs, ← ih]; rfl
theorem mrows_els {ms : List (Nat × Nat)} : els none (mrows ms) = mrefs ms := by simp [els, mrows, mrefs, mk1, Function.comp_def]
theorem mrows_app {a b : List (Nat × Nat)} : mrows (a ++ b) = mrows a ++ mrows b := List.map_append
theorem mrefs_drop {ms : List (Nat × Nat)} {rest : List AV} {i : Nat} {p : Nat × Nat} (h : ms[i]? = some p) : (mrefs ms ++ rest).drop i = .mref p.1 0 32 p.2 :: (mrefs ms ++ rest).drop (i + 1) := by
  obtain ⟨hi, rfl⟩ := List.getElem?_eq_some_iff.1 h
  have hl : (mrefs ms).length = ms.length := List.length_map ..
  rw [List.drop_eq_getElem_cons (by rw [List.length_append, hl]; omega), List.getElem_append_left (by rw [hl]; exact hi)]
  congr 1
  simp [mrefs]

/-- A list of blocks behind a file's first cells. -/
structure RL (id : Nat) (v : AV) (ms : List (Nat × Nat)) (ps : List (List Int)) (d : Bool) (t f n : Int) (m : Heap) : Prop where
  len : ms.length = ps.length
  hd : get id m = some (.cells [v, bo d, iv t, iv f, iv n])
  buf : BufG 1 (mrows ms) v m
  nd : (id :: (refs v ++ ms.map (·.1))).Nodup
  blk : ∀ (i : Nat) p l, ms[i]? = some p → ps[i]? = some l → ∃ rest, get p.1 m = some (.cells (bl l ++ rest))

/-- What it may write. -/
def foot (id : Nat) (v : AV) (ms : List (Nat × Nat)) : List Nat := id :: (refs v ++ ms.map (·.1))

section
variable {id : Nat} {v : AV} {ms : List (Nat × Nat)} {ps : List (List Int)} {d : Bool} {t f n : Int} {F : BF} {m : Heap} {Q E : AV → Heap → Prop}
theorem RL.inK (h : RL id v ms ps d t f n m) : ∀ i ∈ foot id v ms, i ∈ keys m := by
  intro i hi
  simp only [foot, List.mem_cons, List.mem_append, List.mem_map] at hi
  rcases hi with rfl | hi | ⟨p, hp, rfl⟩
  · exact mem_keys h.hd
  · exact BufG.inK h.buf i hi
  · obtain ⟨j, hj⟩ := List.getElem?_of_mem hp
    have hjl := (List.getElem?_eq_some_iff.1 hj).1
    obtain ⟨rest, hr⟩ := h.blk j p (ps[j]'(by rw [← h.len]; exact hjl)) hj (by simp)
    exact mem_keys hr
theorem RL.ext {m' : Heap} {S : List Nat} (h : RL id v ms ps d t f n m) (he : Ext S m m') (hs : ∀ i ∈ foot id v ms, i ∉ S) : RL id v ms ps d t f n m' := by
  refine ⟨h.len, he _ _ h.hd (hs _ (by simp [foot])), BufG.ext h.buf he fun i hi => hs i (by simp [foot, hi]), h.nd, fun i p l h1 h2 => ?_⟩
  obtain ⟨rest, hr⟩ := h.blk i p l h1 h2
  exact ⟨rest, he _ _ hr (hs _ (by simp only [foot, List.mem_cons, List.mem_append, List.mem_map]; exact .inr (.inr ⟨p, List.mem_of_getElem? h1, rfl⟩)))⟩
/-- One block more. -/
theorem RL.push {b c : Nat} {l : List Int} {rest : List AV} {v' : AV} {m1 m' : Heap} (h : RL id v ms ps d t f n m) (he : Ext [] m m1) (hb : b ∉ keys m) (hl : get b m1 = some (.cells (bl l ++ rest)))
    (hbuf : BufG 1 (mrows (ms ++ [(b, c)])) v' m') (he' : Ext (refs v) m1 m') (hv : v' = v ∨ ∀ i ∈ refs v', i ∉ keys m1) : RL id v' (ms ++ [(b, c)]) (ps ++ [l]) d t f n (put id (.cells [v', bo d, iv t, iv f, iv n]) m') := by
  have h1 := h.ext he (by simp)
  have hk := h.inK
  have hk1 := h1.inK
  have hnd := h.nd
  simp only [List.nodup_cons, List.mem_append, List.nodup_append] at hnd
  obtain ⟨n1, n2, n3, n4⟩ := hnd
  have hbid : ∀ i ∈ foot id v ms, i ≠ b := fun i hi e => hb (e ▸ hk i hi)
  have hb1 : b ∈ keys m1 := mem_keys hl
  have hidv' : id ∉ refs v' := fun hi => by
    rcases hv with rfl | hv
    · exact n1 (.inl hi)
    · exact hv id hi (hk1 id (by simp [foot]))
  have hid' : ∃ o, get id m' = some o := ⟨_, he' _ _ h1.hd fun hi => n1 (.inl hi)⟩
  obtain ⟨o, hid'⟩ := hid'
  refine ⟨by simp [h.len], get_put hid', BufG.ext hbuf (.put (S := [id]) (by simp)) fun i hi => by simp only [List.mem_singleton]; rintro rfl; exact hidv' hi, ?_, fun i p l' hp hl' => ?_⟩
  · simp only [List.map_append, List.map_cons, List.map_nil, List.nodup_cons, List.mem_append, List.mem_singleton, List.nodup_append, List.not_mem_nil, not_false_eq_true, List.nodup_nil, and_true, true_and]
    refine ⟨?_, ?_, ⟨n3, fun i hi j hj => by subst hj; exact hbid i (by simp only [foot, List.mem_cons, List.mem_append]; exact .inr (.inr hi))⟩, fun i hi j hj e => ?_⟩
    · rintro (h | h | rfl)
      · exact hidv' h
      · exact n1 (.inr h)
      · exact hbid _ (by simp [foot]) rfl
    · rcases hv with rfl | hv
      · exact n2
      · rcases hbuf with ⟨h', _⟩ | ⟨a, _, _, rfl, _⟩
        · simp [mrows] at h'
        · simp [refs]
    · subst e
      rcases hv with rfl | hv
      · rcases hj with hj | rfl
        · exact n4 i hi i hj rfl
        · exact hbid i (by simp only [foot, List.mem_cons, List.mem_append]; exact .inr (.inl hi)) rfl
      · refine hv i hi ?_
        rcases hj with hj | rfl
        · exact hk1 i (by simp only [foot, List.mem_cons, List.mem_append]; exact .inr (.inr hj))
        · exact hb1
  · have hne : ∀ j, j ∈ ms.map (·.1) ∨ j = b → j ≠ id ∧ j ∉ refs v := fun j hj => by
      rcases hj with hj | rfl
      · exact ⟨fun e => n1 (.inr (e ▸ hj)), fun hv => n4 j hv j hj rfl⟩
      · exact ⟨fun e => hbid id (by simp [foot]) e.symm, fun hv => hbid j (by simp only [foot, List.mem_cons, List.mem_append]; exact .inr (.inl hv)) rfl⟩
    have keep : ∀ j o, get j m1 = some o → j ∈ ms.map (·.1) ∨ j = b → get j (put id (.cells [v', bo d, iv t, iv f, iv n]) m') = some o := fun j o ho hj => by
      obtain ⟨a1, a2⟩ := hne j hj
      rw [get_put_ne a1]
      exact he' _ _ ho a2
    rw [List.getElem?_append] at hp hl'
    by_cases hi : i < ms.length
    · rw [if_pos hi] at hp
      rw [if_pos (by rw [← h.len]; exact hi)] at hl'
      obtain ⟨r, hr⟩ := h1.blk i p l' hp hl'
      exact ⟨r, keep _ _ hr (.inl (List.mem_map.2 ⟨p, List.mem_of_getElem? hp, rfl⟩))⟩
    · rw [if_neg hi] at hp
      rw [if_neg (by rw [← h.len]; exact hi)] at hl'
      have hi0 : i - ms.length = 0 := by
        have := (List.getElem?_eq_some_iff.1 hp).1
        simp at this; omega
      rw [hi0] at hp
      rw [← h.len, hi0] at hl'
      simp only [List.getElem?_cons_zero, Option.some.injEq] at hp hl'
      subst hp hl'
      exact ⟨rest, keep _ _ hl (.inr rfl)⟩
end
end Go.Proofs.Ytpmbebdcbejlkac.Moi.Block
