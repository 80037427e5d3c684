/- What functions of this program do, on plain values: a part of the proofs of this seat's laws; each theorem bears its own conditions. -/
import Derived.Test.YtjegieklpeipaaaShareG
set_option linter.unusedVariables false
set_option linter.unusedSimpArgs false
set_option maxRecDepth 1000000
namespace Go.Proofs.Ytjegieklpeipaaa.Moi.Share
open Go Go.RowKit Go.Proofs.Ytjegieklpeipaaa.Moi Go.Proofs.Ytjegieklpeipaaa.Moi.Num

theorem le_srt {l : List Cl} (h : Srt l) {i j : Nat} {u v w : Cl} (hi : l[i]? = some u) (hj : l[j]? = some v) (hij : i ≤ j) (hw : lt v w) : lt u w := by
  by_cases e : i = j
  · subst e; rw [hi] at hj; cases hj; exact hw
  · exact lt_trans' (srt_idx h hi hj (Nat.lt_of_le_of_ne hij e)) hw
theorem srt_le {l : List Cl} (h : Srt l) {i j : Nat} {u v w : Cl} (hi : l[i]? = some u) (hj : l[j]? = some v) (hij : i ≤ j) (hw : lt w u) : lt w v := by
  by_cases e : i = j
  · subst e; rw [hi] at hj; cases hj; exact hw
  · exact lt_trans' hw (srt_idx h hi hj (Nat.lt_of_le_of_ne hij e))
theorem crossA {X Y : List Cl} {i h : Nat} (sx : Srt X) (sy : Srt Y) (hi : i ≤ X.length) (hih : i ≤ h) (hT : 0 < i → h - i < Y.length → Tt X Y h (i - 1)) : ∀ x ∈ X.take i, ∀ y ∈ Y.drop (h - i), lt x y := by
  intro x hx y hy
  obtain ⟨j, hj⟩ := List.mem_iff_getElem?.1 hx
  obtain ⟨j', hj'⟩ := List.mem_iff_getElem?.1 hy
  rw [List.getElem?_take] at hj
  rw [List.getElem?_drop] at hj'
  split at hj
  · rename_i hji
    have hlt := (List.getElem?_eq_some_iff.1 hj').1
    have h1 : 0 < i := by omega
    have h2 : h - i < Y.length := by omega
    have hx0 : X[i - 1]? = some X[i - 1] := List.getElem?_eq_getElem (by omega)
    have hy0 : Y[h - i]? = some Y[h - i] := List.getElem?_eq_getElem h2
    have t := hT h1 h2 _ _ hx0 (by rw [show h - 1 - (i - 1) = h - i by omega]; exact hy0)
    exact le_srt sx hj hx0 (by omega) (srt_le sy hy0 hj' (by omega) t)
  · cases hj
theorem crossB {X Y : List Cl} {i h : Nat} (sx : Srt X) (sy : Srt Y) (hY : h - i ≤ Y.length) (hF : i < X.length → i < h → Ft X Y h i) : ∀ y ∈ Y.take (h - i), ∀ x ∈ X.drop i, lt y x := by
  intro y hy x hx
  obtain ⟨j, hj⟩ := List.mem_iff_getElem?.1 hy
  obtain ⟨j', hj'⟩ := List.mem_iff_getElem?.1 hx
  rw [List.getElem?_take] at hj
  rw [List.getElem?_drop] at hj'
  split at hj
  · rename_i hji
    have hlt := (List.getElem?_eq_some_iff.1 hj').1
    have h1 : i < X.length := by omega
    have h2 : h - 1 - i < Y.length := by omega
    have hx0 : X[i]? = some X[i] := List.getElem?_eq_getElem h1
    have hy0 : Y[h - 1 - i]? = some Y[h - 1 - i] := List.getElem?_eq_getElem h2
    have t := hF h1 (by omega) _ _ hx0 hy0
    exact le_srt sy hj hy0 (by omega) (srt_le sx hx0 hj' (by omega) t)
  · cases hj
theorem ar8 {s t h i N p : Nat} (hs : 0 < s) (ht : 0 < t) (hh : h = (s + t) / 2) (h1 : lo0 s t ≤ i) (h2 : i ≤ hi0 s t) (hN : s + t ≤ N + 1) :
    i ≤ s ∧ i ≤ h ∧ h - i ≤ t ∧ i + (h - i) ≤ N ∧ (s - i) + (t - (h - i)) ≤ N ∧ p + h = p + i + (h - i) ∧ p + h + (p + s) = (p + i) + (p + i + (s - i) + (h - i)) ∧ (0 < i → h - i < t → lo0 s t ≤ i - 1 ∧ i - 1 < i) ∧ (i < s → i < h → i < hi0 s t) := by
  unfold lo0 at *
  unfold hi0 at *
  subst hh
  refine ⟨?_, ?_, ?_, ?_, ?_, ?_, ?_, ?_, ?_⟩ <;> (try intro _ _) <;> (repeat' split at *) <;> (try constructor) <;> omega
theorem cat_srt {L1 L2 R1 R2 S1 S2 : List Cl} (p1 : S1.Perm (L1 ++ R1)) (p2 : S2.Perm (L2 ++ R2)) (s1 : Srt S1) (s2 : Srt S2) (sx : Srt (L1 ++ L2)) (sy : Srt (R1 ++ R2)) (cA : ∀ x ∈ L1, ∀ y ∈ R2, lt x y) (cB : ∀ y ∈ R1, ∀ x ∈ L2, lt y x) :
    (S1 ++ S2).Perm ((L1 ++ L2) ++ (R1 ++ R2)) ∧ Srt (S1 ++ S2) := by
  refine ⟨?_, srt_app.2 ⟨s1, s2, fun u hu v hv => ?_⟩⟩
  · refine (p1.append p2).trans ?_
    rw [List.append_assoc, List.append_assoc]
    exact List.Perm.append_left L1 (List.perm_append_comm_assoc R1 L2 R2)
  · rcases List.mem_append.1 (p1.mem_iff.1 hu) with hu | hu <;> rcases List.mem_append.1 (p2.mem_iff.1 hv) with hv | hv
    · exact (srt_app.1 sx).2.2 u hu v hv
    · exact cA u hu v hv
    · exact cB u hu v hv
    · exact (srt_app.1 sy).2.2 u hu v hv

theorem n_sym : n27 = d27a (d27b (d27c (d27d (d27e (d27f d27g))))) := by kernel_rfl
theorem sym_ok : ∀ N, SymOk N := by
  intro N
  induction N with
  | zero => intro a n cap b0 c d P X Y Z m Q E hN hm hx; omega
  | succ N ih =>
    intro a n cap b0 c d P X Y Z m Q E hN hm hx hy sx sy hxy hn hn2 e1 e2 e3 k
    subst e1 e2 e3
    refine acall_fn mixed Try.func27 Try.call27 e27 r27 (Nat.le_of_ble_eq_true rfl) ?_
    rw [n_sym]
    by_cases hx1 : X.length = 1
    · obtain ⟨x, rfl⟩ := List.length_eq_one_iff.1 hx1
      refine sm_a1 (Y := Y) (Z := Z) (x := x) hm sy (fun y hy => hxy x (by simp) y hy) hn hn2 rfl rfl rfl rfl rfl fun ρ' S p1 p2 => ?_
      exact k S p1 p2
    refine sm_a0 (Y := Y) hx1 (by omega) hn2 rfl rfl fun ρ1 h1 => ?_
    by_cases hy1 : Y.length = 1
    · obtain ⟨y, rfl⟩ := List.length_eq_one_iff.1 hy1
      refine sm_b1 (X := X) (Z := Z) (y := y) hm sx (fun x hx => hxy x hx y (by simp)) hn hn2 (h1 0 (by decide)) (h1 1 (by decide)) (h1 2 (by decide)) (h1 3 (by decide)) (h1 4 (by decide)) fun ρ' S p1 p2 => ?_
      exact k S p1 p2
    refine sm_b0 (X := X) hy1 (by omega) hn2 (h1 2 (by decide)) (h1 3 (by decide)) fun ρ2 h2 => ?_
    have h2 : ∀ i, i < 5 → ρ2 i = argRegs [.mref a 0 n cap, iv P.length, iv ((P.length + X.length : Nat) : Int), iv ((P.length + X.length + Y.length : Nat) : Int), .clos 19 []] i := fun i hi => (h2 i hi).trans (h1 i hi)
    obtain ⟨h, hh⟩ : ∃ h, h = (X.length + Y.length) / 2 := ⟨_, rfl⟩
    refine sm_c hx hy hn hn2 hh (h2 1 (by decide)) (h2 2 (by decide)) (h2 3 (by decide)) fun ρ3 h3 c18 c19 c20 c21 c22 => ?_
    have h3 := fun i hi => (h3 i hi).trans (h2 i hi)
    refine sm_d hm sx sy hxy hx hy hn hn2 hh (h3 0 (by decide)) (h3 4 (by decide)) c20 c21 c22 fun ρ4 i h4 d18 d19 d20 i1 i2 hT hF => ?_
    have h4 := fun i hi => (h4 i hi).trans (h3 i hi)
    have d18 := d18.trans c18
    have d19 := d19.trans c19
    obtain ⟨q1, q2, q3, q4, q5, q6, q7, q8, q9⟩ := ar8 (p := P.length) hx hy hh i1 i2 hN
    have q10 := (ar3 hx hy hn hn2 hh).2.2.2.2.1
    have cA := crossA sx sy q1 q2 fun z1 z2 => hT _ (q8 z1 z2).1 (q8 z1 z2).2
    have cB := crossB sx sy q3 fun z1 z2 => hF _ (Nat.le_refl _) (q9 z1 z2)
    have l1 : (X.take i).length = i := by rw [List.length_take]; exact Nat.min_eq_left q1
    have l2 : (X.drop i).length = X.length - i := List.length_drop ..
    have l3 : (Y.take (h - i)).length = h - i := by rw [List.length_take]; exact Nat.min_eq_left q3
    have l4 : (Y.drop (h - i)).length = Y.length - (h - i) := List.length_drop ..
    have hX := (List.take_append_drop i X).symm
    have hY := (List.take_append_drop (h - i) Y).symm
    generalize X.take i = L1 at cA l1 hX
    generalize X.drop i = L2 at cB l2 hX
    generalize Y.take (h - i) = R1 at cB l3 hY
    generalize Y.drop (h - i) = R2 at cA l4 hY
    have eX : P.length + X.length = P.length + L1.length + L2.length := by rw [hX, List.length_append, Nat.add_assoc]
    have eY : P.length + X.length + Y.length = P.length + L1.length + L2.length + R1.length + R2.length := by rw [eX, hY, List.length_append]; simp only [Nat.add_assoc]
    rw [← l2, ← l3, ← l1] at q7
    rw [← l3, ← l1] at q6 q4
    rw [← l2, ← l4] at q5
    rw [← l1] at d20
    have sX := sx
    have sY := sy
    rw [hX] at sX
    rw [hY] at sY
    have hn' : P.length + (L1.length + (L2.length + (R1.length + (R2.length + Z.length)))) = n := by rw [← hn, hX, hY]; simp only [List.length_append, Nat.add_assoc]
    have hm' : At a (P ++ (L1 ++ (L2 ++ (R1 ++ (R2 ++ Z))))) m := by
      have := hm
      rw [hX, hY] at this
      simpa using this
    refine sm_e hm' hn' hn2 q7 q10 (h4 0 (by decide)) ((h4 2 (by decide)).trans (by rw [← eX]; rfl)) d19 d20 fun ρ5 h5 e18 e20 e24 => ?_
    have h5 := fun i hi => (h5 i hi).trans (h4 i hi)
    refine sm_f ih q4 hm'.put (srt_app.1 sX).1 (srt_app.1 sY).1 (fun x hx y hy => hxy x (by rw [hX]; exact List.mem_append_left _ hx) y (by rw [hY]; exact List.mem_append_left _ hy)) ?_ hn2 (h5 0 (by decide)) (h5 1 (by decide)) (h5 4 (by decide)) (e18.trans (d18.trans (by rw [q6]))) (e20.trans d20) fun ρ6 S1 h6 f18 f24 p1 t1 => ?_
    · rw [← hn']; simp only [List.length_append]; omega
    have h6 := fun i hi => (h6 i hi).trans (h5 i hi)
    have pl := p1.length_eq
    rw [List.length_append] at pl
    rw [wr_wr]
    have hat2 : At a (P ++ (S1 ++ (L2 ++ (R2 ++ Z)))) (wr a (P ++ (S1 ++ (L2 ++ (R2 ++ Z)))) m) := hm.put
    have eq : P ++ (S1 ++ (L2 ++ (R2 ++ Z))) = (P ++ S1) ++ (L2 ++ (R2 ++ Z)) := by rw [List.append_assoc]
    rw [eq] at hat2 ⊢
    have m1 : (P ++ S1).length = P.length + L1.length + R1.length := by rw [List.length_append, pl, Nat.add_assoc]
    refine sm_g ih q5 hat2 (srt_app.1 sX).2.1 (srt_app.1 sY).2.1 (fun x hx y hy => hxy x (by rw [hX]; exact List.mem_append_right _ hx) y (by rw [hY]; exact List.mem_append_right _ hy)) ?_ hn2 (h6 0 (by decide)) ((h6 3 (by decide)).trans ?_) (h6 4 (by decide)) (f18.trans (e18.trans (d18.trans (by rw [q6, m1])))) (f24.trans (e24.trans ?_)) fun ρ7 S2 p2 t2 => ?_
    · rw [m1, ← hn']; omega
    · rw [m1]
      show iv ((P.length + X.length + Y.length : Nat) : Int) = _
      rw [eY]; congr 3; omega
    · rw [m1, Nat.add_right_comm (P.length + L1.length)]
    · rw [wr_wr, List.append_assoc, ← List.append_assoc S1]
      obtain ⟨z1, z2⟩ := cat_srt p1 p2 t1 t2 sX sY cA cB
      exact k (S1 ++ S2) (by rw [hX, hY]; exact z1) z2
end Go.Proofs.Ytjegieklpeipaaa.Moi.Share
