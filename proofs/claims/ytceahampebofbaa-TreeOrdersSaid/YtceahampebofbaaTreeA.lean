/- What functions of this program do, on plain values: a part of the proofs of this seat's laws; each theorem bears its own conditions. -/
import Derived.Test.YtceahampebofbaaSset
set_option linter.unusedVariables false
set_option linter.unusedSimpArgs false
set_option maxRecDepth 1000000
namespace Go.Proofs.Ytceahampebofbaa.Moi.Tree
open Go Go.RowKit Go.Proofs.Ytceahampebofbaa.Moi

/-! ### Members above each other: the plain law -/
abbrev Nd := ByteArray × Int
/-- One's member, if there is one. -/
def at? (L : List Nd) (i : Int) : Option Nd := if i < 0 then none else L[i.toNat]?
/-- One and all above it, so far. -/
def abF (L : List Nd) : Nat → Int → List Nat
  | 0, _ => []
  | f + 1, i => match at? L i with
    | none => []
    | some p => i.toNat :: abF L f p.2
def ab (L : List Nd) (i : Int) : List Nat := abF L (L.length + 1) i
/-- Is one above itself? -/
def lpF (L : List Nd) (i : Int) : Nat → Int → Bool
  | 0, _ => false
  | r + 1, k => if k < 0 then false else if k = i then true else lpF L i r ((at? L k).map (·.2) |>.getD (-1))
def upA (L : List Nd) (i : Int) : Int := ((at? L i).map (·.2)).getD (-1)
section
variable {L : List Nd} {i j k x y : Nat} {n f r a b : Nat} {p : Nd}
theorem at_nat : at? L (i : Int) = L[i]? := by
  unfold at?
  rw [if_neg (by omega), Int.toNat_natCast]
theorem at_neg {i : Int} (h : i < 0) : at? L i = none := by unfold at?; rw [if_pos h]
theorem at_none {i : Int} (h : (L.length : Int) ≤ i) : at? L i = none := by
  unfold at?
  split
  · rfl
  · exact List.getElem?_eq_none (by omega)
theorem at_some {i : Int} (h : at? L i = some p) : 0 ≤ i ∧ i < L.length ∧ L[i.toNat]? = some p := by
  unfold at? at h
  split at h
  · cases h
  · have := (List.getElem?_eq_some_iff.1 h).1
    exact ⟨by omega, by omega, h⟩
theorem abF_succ {i : Int} : abF L (f + 1) i = match at? L i with | none => [] | some p => i.toNat :: abF L f p.2 := rfl
theorem abF_len_le : ∀ {f : Nat} {i : Int}, (abF L f i).length ≤ f
  | 0, _ => by simp [abF]
  | f + 1, i => by
    rw [abF_succ]
    split
    · simp
    · rename_i p hp
      have := abF_len_le (f := f) (i := p.2)
      simp; omega
theorem abF_lt : ∀ {f : Nat} {i : Int}, ∀ x ∈ abF L f i, x < L.length
  | 0, _, x, h => by simp [abF] at h
  | f + 1, i, x, h => by
    rw [abF_succ] at h
    split at h
    · simp at h
    · rename_i p hp
      have := at_some hp
      rcases List.mem_cons.1 h with rfl | h
      · omega
      · exact abF_lt x h
/-- More fuel changes nothing, once there is enough. -/
theorem abF_more : ∀ {f : Nat} {i : Int}, (abF L f i).length < f → abF L (f + 1) i = abF L f i
  | 0, _, h => by simp at h
  | f + 1, i, h => by
    rw [abF_succ] at h ⊢
    rw [abF_succ]
    split
    · rfl
    · rename_i p hp
      rw [hp] at h
      simp only [List.length_cons] at h
      rw [abF_more (by omega)]
theorem abF_drop : ∀ {f : Nat} {i : Int} {a x : Nat}, (abF L f i)[a]? = some x → (abF L f i).drop a = abF L (f - a) (x : Int)
  | 0, _, _, _, h => by simp [abF] at h
  | f + 1, i, 0, x, h => by
    rw [abF_succ] at h
    split at h
    · simp at h
    · rename_i p hp
      simp only [List.getElem?_cons_zero, Option.some.injEq] at h
      have := (at_some hp).1
      rw [List.drop_zero, Nat.sub_zero, ← h, Int.toNat_of_nonneg this]
  | f + 1, i, a + 1, x, h => by
    rw [abF_succ] at h ⊢
    split at h
    · simp at h
    · rename_i p hp
      rw [List.getElem?_cons_succ] at h
      rw [List.drop_succ_cons, abF_drop h]
      congr 1
      omega
theorem lp_of : ∀ {r : Nat} {k : Int} {g m x : Nat}, (abF L g k)[m]? = some x → m < r → lpF L (x : Int) r k = true
  | 0, _, _, _, _, _, h => by omega
  | r + 1, k, 0, m, x, h, _ => by simp [abF] at h
  | r + 1, k, g + 1, m, x, h, hm => by
    rw [abF_succ] at h
    split at h
    · simp at h
    · rename_i p hp
      obtain ⟨h0, h1, h2⟩ := at_some hp
      rw [lpF, if_neg (by omega)]
      by_cases e : k = x
      · rw [if_pos e]
      · rw [if_neg e, hp]
        cases m with
        | zero =>
          simp only [List.getElem?_cons_zero, Option.some.injEq] at h
          omega
        | succ m => exact lp_of (by simpa using h) (by omega)
/-- So many numbers below n are not all different. -/
theorem pigeon : ∀ {n : Nat} {l : List Nat}, l.Nodup → (∀ x ∈ l, x < n) → l.length ≤ n
  | 0, l, _, h => by
    cases l with
    | nil => simp
    | cons a l => exact absurd (h a (by simp)) (by omega)
  | n + 1, l, hd, h => by
    have h1 := pigeon (n := n) (l := l.erase n) (hd.erase n) fun x hx => by
      have := h x (List.mem_of_mem_erase hx)
      have hne : x ≠ n := fun e => by
        subst e
        exact (hd.mem_erase_iff.1 hx).1 rfl
      omega
    have h2 := List.length_erase (a := n) (l := l)
    split at h2 <;> omega
theorem two_of : ∀ {l : List Nat}, ¬ l.Nodup → ∃ a b x : Nat, a < b ∧ l[a]? = some x ∧ l[b]? = some x
  | [], h => absurd .nil h
  | y :: l, h => by
    by_cases c : y ∈ l
    · obtain ⟨b, hb⟩ := List.getElem?_of_mem c
      exact ⟨0, b + 1, y, by omega, rfl, by simpa using hb⟩
    · have : ¬ l.Nodup := fun hl => h (List.nodup_cons.2 ⟨c, hl⟩)
      obtain ⟨a, b, x, h1, h2, h3⟩ := two_of this
      exact ⟨a + 1, b + 1, x, by omega, by simpa using h2, by simpa using h3⟩
/-- None above itself: then all that is above one ends. -/
theorem ab_ends (h : ∀ x, x < L.length → lpF L (x : Int) L.length (upA L x) = false) {i : Int} : (ab L i).length ≤ L.length := by
  by_cases hd : (ab L i).Nodup
  · exact pigeon hd abF_lt
  · exfalso
    obtain ⟨a, b, x, h1, h2, h3⟩ := two_of hd
    have hx : x < L.length := abF_lt x (List.mem_of_getElem? h2)
    have hdr := abF_drop h2
    have hb : ((ab L i).drop a)[b - a]? = some x := by
      rw [List.getElem?_drop, show a + (b - a) = b by omega]; exact h3
    unfold ab at hb
    rw [hdr] at hb
    have hbl : b < L.length + 1 := by
      have h4 := (List.getElem?_eq_some_iff.1 h3).1
      have h5 : (ab L i).length ≤ L.length + 1 := abF_len_le
      omega
    obtain ⟨g, hg⟩ : ∃ g, L.length + 1 - a = g + 1 := ⟨L.length - a, by omega⟩
    rw [hg, abF_succ, at_nat] at hb
    obtain ⟨p, hp⟩ : ∃ p, L[x]? = some p := ⟨_, List.getElem?_eq_getElem hx⟩
    rw [hp] at hb
    obtain ⟨m, hm⟩ : ∃ m, b - a = m + 1 := ⟨b - a - 1, by omega⟩
    rw [hm] at hb
    have := lp_of (r := L.length) (by simpa using hb) (by omega)
    have hu : upA L x = p.2 := by unfold upA; rw [at_nat, hp]; rfl
    have h0 := h x hx
    rw [hu] at h0
    rw [this] at h0
    cases h0

/-! ### A tree -/
structure Ok (L : List Nd) : Prop where
  pos : 0 < L.length
  le : L.length ≤ 32
  rng : ∀ p ∈ L, -1 ≤ p.2 ∧ p.2 < L.length
  fin : ∀ i : Int, (ab L i).length ≤ L.length
  dep : ∀ i : Int, (ab L i).length ≤ 6
theorem ab_at (h : ∀ i : Int, (ab L i).length ≤ L.length) (hp : L[i]? = some p) : ab L (i : Int) = i :: ab L p.2 := by
  unfold ab
  rw [abF_succ, at_nat, hp]
  simp only [Int.toNat_natCast]
  congr 1
  have hl : (ab L p.2).length ≤ L.length := h _
  by_cases c : (abF L L.length p.2).length < L.length
  · exact (abF_more c).symm
  · have h1 : (abF L L.length p.2).length = L.length := by
      have := abF_len_le (L := L) (f := L.length) (i := p.2)
      omega
    have h2 := h (i : Int)
    unfold ab at h2
    rw [abF_succ, at_nat, hp] at h2
    simp only [List.length_cons] at h2
    omega
theorem ab_none {i : Int} (hp : at? L i = none) : ab L i = [] := by
  unfold ab
  rw [abF_succ, hp]
/-- How deep one is. -/
def dp (L : List Nd) (i : Nat) : Nat := (ab L (i : Int)).length
/-- Those just below one. -/
def kids (L : List Nd) (i : Nat) : List Nat := (List.range L.length).filter fun k => decide (upA L k = (i : Int))
/-- One and all below it. -/
def trF (L : List Nd) : Nat → Nat → List Nat
  | 0, _ => []
  | f + 1, i => i :: (kids L i).flatMap (trF L f)
def tr (L : List Nd) (i : Nat) : List Nat := trF L (7 - dp L i) i
def roots (L : List Nd) : List Nat := (List.range L.length).filter fun k => decide (upA L k < 0)
def order (L : List Nd) : List Nat := (roots L).flatMap (tr L)
def isLeaf (L : List Nd) (i : Nat) : Bool := decide (kids L i = [])
def lf (L : List Nd) (l : List Nat) : List Nat := l.filter (isLeaf L)
def leaves (L : List Nd) : List Nat := lf L (order L)
theorem kid_iff : k ∈ kids L i ↔ k < L.length ∧ upA L k = (i : Int) := by simp [kids]
theorem root_iff : k ∈ roots L ↔ k < L.length ∧ upA L k < 0 := by simp [roots]
theorem upA_at (hp : L[i]? = some p) : upA L (i : Int) = p.2 := by unfold upA; rw [at_nat, hp]; rfl
theorem ab_i (h : Ok L) (hi : i < L.length) : ab L (i : Int) = i :: ab L (upA L i) := by
  have hp := List.getElem?_eq_getElem hi
  rw [ab_at h.fin hp, upA_at hp]
theorem ab_kid (h : Ok L) (hk : k ∈ kids L i) : ab L (k : Int) = k :: ab L (i : Int) := by
  obtain ⟨h1, h2⟩ := kid_iff.1 hk
  rw [ab_i h h1, h2]
theorem ab_root (h : Ok L) (hk : k ∈ roots L) : ab L (k : Int) = [k] := by
  obtain ⟨h1, h2⟩ := root_iff.1 hk
  rw [ab_i h h1, ab_none (at_neg h2)]
theorem dp_kid (h : Ok L) (hk : k ∈ kids L i) : dp L k = dp L i + 1 := by
  unfold dp
  rw [ab_kid h hk]; rfl
theorem dp_le (h : Ok L) : dp L i ≤ 6 := h.dep _
theorem dp_pos (h : Ok L) (hi : i < L.length) : 0 < dp L i := by
  unfold dp
  rw [ab_i h hi]; simp
theorem tr_eq (h : Ok L) : tr L i = i :: (kids L i).flatMap (tr L) := by
  have := dp_le h (i := i)
  unfold tr
  obtain ⟨f, hf⟩ : ∃ f, 7 - dp L i = f + 1 := ⟨6 - dp L i, by omega⟩
  rw [hf, trF]
  congr 1
  have e : ∀ k ∈ kids L i, trF L f k = tr L k := fun k hk => by
    unfold tr
    rw [dp_kid h hk]
    congr 1
    omega
  have key : ∀ l : List Nat, (∀ k ∈ l, trF L f k = tr L k) → l.flatMap (trF L f) = l.flatMap (tr L) := by
    intro l
    induction l with
    | nil => intro _; rfl
    | cons a l ih => intro hl; rw [List.flatMap_cons, List.flatMap_cons, hl a (by simp), ih fun k hk => hl k (by simp [hk])]
  exact key _ e
/-- Induction down a tree. -/
theorem tr_ind (h : Ok L) {P : Nat → Prop} (step : ∀ i, (∀ k ∈ kids L i, P k) → P i) : ∀ i, P i := by
  have key : ∀ f i, 7 - dp L i ≤ f → P i := by
    intro f
    induction f with
    | zero => intro i hf; have := dp_le h (i := i); omega
    | succ f ih =>
      intro i hf
      refine step i fun k hk => ih k ?_
      rw [dp_kid h hk]; omega
  exact fun i => key _ i (Nat.le_refl _)
/-- What is above one of those above x. -/
theorem ab_drop (h : Ok L) {q : Nat} {x : Int} (hq : (ab L x)[q]? = some k) : (ab L x).drop q = ab L (k : Int) := by
  have hd := abF_drop hq
  have hq' := (List.getElem?_eq_some_iff.1 hq).1
  have key : ∀ m, m ≤ L.length → (abF L (L.length + 1 - m) (k : Int)).length < L.length + 1 - m ∨ m = 0 → abF L (L.length + 1 - m) (k : Int) = ab L (k : Int) := by
    intro m
    induction m with
    | zero => intro _ _; rfl
    | succ m ihm =>
      intro hm hlt
      have hlt' : (abF L (L.length + 1 - (m + 1)) (k : Int)).length < L.length + 1 - (m + 1) := by
        rcases hlt with h | h
        · exact h
        · omega
      have e1 := abF_more hlt'
      rw [show L.length + 1 - (m + 1) + 1 = L.length + 1 - m by omega] at e1
      rw [← e1]
      refine ihm (by omega) ?_
      rw [e1]
      exact .inl (by omega)
  have h6 := h.fin x
  refine hd.trans (key q (by omega) (.inl ?_))
  have h5 := congrArg List.length hd
  rw [List.length_drop] at h5
  unfold ab at hq' h6
  omega
theorem ab_trans (h : Ok L) {x : Int} (hk : k ∈ ab L x) (hi : i ∈ ab L (k : Int)) : i ∈ ab L x := by
  obtain ⟨q, hq⟩ := List.getElem?_of_mem hk
  rw [← ab_drop h hq] at hi
  exact List.mem_of_mem_drop hi
theorem ab_self (h : Ok L) (hi : i < L.length) : i ∈ ab L (i : Int) := by rw [ab_i h hi]; simp
/-- Of those above one, one is as deep as its place says. -/
theorem dp_at (h : Ok L) {q : Nat} {x : Int} (hq : (ab L x)[q]? = some k) : dp L k + q = (ab L x).length := by
  have := congrArg List.length (ab_drop h hq)
  have hq' := (List.getElem?_eq_some_iff.1 hq).1
  rw [List.length_drop] at this
  unfold dp
  omega
theorem ab_same (h : Ok L) {x : Int} (hi : i ∈ ab L x) (hk : k ∈ ab L x) (e : dp L i = dp L k) : i = k := by
  obtain ⟨q, hq⟩ := List.getElem?_of_mem hi
  obtain ⟨r, hr⟩ := List.getElem?_of_mem hk
  have h1 := dp_at h hq
  have h2 := dp_at h hr
  have : q = r := by omega
  subst this
  rw [hq] at hr
  exact Option.some.inj hr
theorem ab_lt {x : Int} (hk : k ∈ ab L x) : k < L.length := abF_lt k hk
theorem mem_tr (h : Ok L) : ∀ i x, i < L.length → x ∈ tr L i → x < L.length ∧ i ∈ ab L (x : Int) := by
  refine tr_ind h fun i ih x hi hx => ?_
  rw [tr_eq h] at hx
  rcases List.mem_cons.1 hx with rfl | hx
  · exact ⟨hi, ab_self h hi⟩
  · obtain ⟨k, hk, hx⟩ := List.mem_flatMap.1 hx
    obtain ⟨h1, h2⟩ := ih k hk x (kid_iff.1 hk).1 hx
    refine ⟨h1, ab_trans h h2 ?_⟩
    rw [ab_kid h hk]
    simp [ab_self h hi]
/-- The other way round. -/
theorem tr_mem (h : Ok L) : ∀ i x, i < L.length → x < L.length → i ∈ ab L (x : Int) → x ∈ tr L i := by
  refine tr_ind h fun i ih x hi hx hm => ?_
  rw [tr_eq h]
  obtain ⟨q, hq⟩ := List.getElem?_of_mem hm
  have hxe := ab_i h hx
  cases q with
  | zero =>
    rw [hxe] at hq
    simp only [List.getElem?_cons_zero, Option.some.injEq] at hq
    rw [hq]; simp
  | succ q =>
    -- the one ahead of i is a kid of i
    have hl := (List.getElem?_eq_some_iff.1 hq).1
    obtain ⟨k, hk⟩ : ∃ k, (ab L (x : Int))[q]? = some k := ⟨_, List.getElem?_eq_getElem (by omega)⟩
    have hkl := ab_lt (List.mem_of_getElem? hk)
    have e1 := ab_drop h hk
    have e2 := ab_drop h hq
    have hki := ab_i h hkl
    have e3 : ab L (upA L k) = ab L (i : Int) := by
      rw [← e2, ← List.tail_drop, e1, hki]; rfl
    have hkid : k ∈ kids L i := by
      refine kid_iff.2 ⟨hkl, ?_⟩
      have e4 := ab_i h hi
      rw [e4] at e3
      obtain ⟨p, hp⟩ : ∃ p, L[k]? = some p := ⟨_, List.getElem?_eq_getElem hkl⟩
      rw [upA_at hp] at e3 ⊢
      cases ha : at? L p.2 with
      | none => rw [ab_none ha] at e3; cases e3
      | some p2 =>
        obtain ⟨g0, g1, g2⟩ := at_some ha
        obtain ⟨u, hu⟩ := Int.eq_ofNat_of_zero_le g0
        rw [hu] at e3 ⊢
        have : u < L.length := by omega
        rw [ab_i h this] at e3
        have := (List.cons.inj e3).1
        rw [this]
    have hkx : k ∈ ab L (x : Int) := List.mem_of_getElem? hk
    exact List.mem_cons.2 (.inr (List.mem_flatMap.2 ⟨k, hkid, ih k hkid x hkl hx hkx⟩))
theorem kids_nodup : (kids L i).Nodup := List.nodup_range.filter _
theorem roots_nodup : (roots L).Nodup := List.nodup_range.filter _
theorem apart (h : Ok L) {a b : Nat} (hx : x ∈ tr L a) (hy : x ∈ tr L b) (ha : a < L.length) (hb : b < L.length) (e : dp L a = dp L b) : a = b :=
  ab_same h (mem_tr h a x ha hx).2 (mem_tr h b x hb hy).2 e
theorem flat_nodup (h : Ok L) : ∀ {l : List Nat}, l.Nodup → (∀ a ∈ l, a < L.length ∧ (tr L a).Nodup) → (∀ a ∈ l, ∀ b ∈ l, dp L a = dp L b) → (l.flatMap (tr L)).Nodup
  | [], _, _, _ => .nil
  | a :: l, hd, hl, he => by
    rw [List.flatMap_cons]
    refine List.nodup_append.2 ⟨(hl a (by simp)).2, flat_nodup h (List.nodup_cons.1 hd).2 (fun b hb => hl b (by simp [hb])) (fun b hb c hc => he b (by simp [hb]) c (by simp [hc])), fun x hx y hy e => ?_⟩
    subst e
    obtain ⟨b, hb, hxb⟩ := List.mem_flatMap.1 hy
    have := apart h hx hxb (hl a (by simp)).1 (hl b (by simp [hb])).1 (he a (by simp) b (by simp [hb]))
    subst this
    exact (List.nodup_cons.1 hd).1 hb
theorem tr_nodup (h : Ok L) : ∀ i, i < L.length → (tr L i).Nodup := by
  refine tr_ind h fun i ih hi => ?_
  rw [tr_eq h]
  refine List.nodup_cons.2 ⟨fun hm => ?_, flat_nodup h kids_nodup (fun a ha => ⟨(kid_iff.1 ha).1, ih a ha (kid_iff.1 ha).1⟩) fun a ha b hb => by rw [dp_kid h ha, dp_kid h hb]⟩
  obtain ⟨k, hk, hx⟩ := List.mem_flatMap.1 hm
  have h2 := (mem_tr h k i (kid_iff.1 hk).1 hx).2
  obtain ⟨q, hq⟩ := List.getElem?_of_mem h2
  have := dp_at h hq
  have := dp_kid h hk
  unfold dp at *
  omega
theorem root_dp (h : Ok L) (hk : k ∈ roots L) : dp L k = 1 := by unfold dp; rw [ab_root h hk]; rfl
theorem order_nodup (h : Ok L) : (order L).Nodup :=
  flat_nodup h roots_nodup (fun a ha => ⟨(root_iff.1 ha).1, tr_nodup h a (root_iff.1 ha).1⟩) fun a ha b hb => by rw [root_dp h ha, root_dp h hb]
/-- The top of all that is above one. -/
theorem order_mem (h : Ok L) (hx : x < L.length) : x ∈ order L := by
  have hne : ab L (x : Int) ≠ [] := by rw [ab_i h hx]; simp
  have hl : 0 < (ab L (x : Int)).length := List.length_pos_iff.2 hne
  obtain ⟨k, hk⟩ : ∃ k, (ab L (x : Int))[(ab L (x : Int)).length - 1]? = some k := ⟨_, List.getElem?_eq_getElem (by omega)⟩
  have hkl := ab_lt (List.mem_of_getElem? hk)
  have hd := dp_at h hk
  have hroot : k ∈ roots L := by
    refine root_iff.2 ⟨hkl, ?_⟩
    have e := ab_i h hkl
    have e2 := congrArg List.length e
    unfold dp at hd
    rw [List.length_cons] at e2
    have e3 : ab L (upA L k) = [] := List.length_eq_zero_iff.1 (by omega)
    obtain ⟨p, hp⟩ : ∃ p, L[k]? = some p := ⟨_, List.getElem?_eq_getElem hkl⟩
    have hr := h.rng p (List.mem_of_getElem? hp)
    rw [upA_at hp] at e3 ⊢
    by_cases c : p.2 < 0
    · exact c
    · exfalso
      obtain ⟨u, hu⟩ := Int.eq_ofNat_of_zero_le (show 0 ≤ p.2 by omega)
      rw [hu, ab_i h (by omega)] at e3
      cases e3
  exact List.mem_flatMap.2 ⟨k, hroot, tr_mem h k x hkl hx (List.mem_of_getElem? hk)⟩
theorem order_lt (h : Ok L) (hx : x ∈ order L) : x < L.length := by
  obtain ⟨k, hk, hx⟩ := List.mem_flatMap.1 hx
  exact (mem_tr h k x (root_iff.1 hk).1 hx).1
theorem lf_app {a b : List Nat} : lf L (a ++ b) = lf L a ++ lf L b := List.filter_append ..
theorem lf_pos (h : Ok L) : ∀ i, lf L (tr L i) ≠ [] := by
  refine tr_ind h fun i ih => ?_
  rw [tr_eq h]
  by_cases c : kids L i = []
  · unfold lf isLeaf
    simp [c]
  · obtain ⟨k, hk⟩ := List.exists_mem_of_ne_nil _ c
    have := ih k hk
    intro e
    unfold lf at this e
    rw [List.filter_eq_nil_iff] at e
    refine this (List.filter_eq_nil_iff.2 fun x hx => e x (List.mem_cons.2 (.inr (List.mem_flatMap.2 ⟨k, hk, hx⟩))))
theorem leaf_tr (h : Ok L) (hi : isLeaf L i = true) : tr L i = [i] := by
  rw [tr_eq h, of_decide_eq_true hi]; rfl

/-! ### Spans -/
/-- Where the leaves within one lie. -/
structure SpanAt (L : List Nd) (i : Nat) (a b : Nat) : Prop where
  lt : a < b
  le : b ≤ (leaves L).length
  iff : ∀ n x : Nat, (leaves L)[n]? = some x → ((a ≤ n ∧ n < b) ↔ i ∈ ab L (x : Int))
theorem span_of (h : Ok L) (hi : i < L.length) {A B : List Nat} (e : order L = A ++ (tr L i ++ B)) : SpanAt L i (lf L A).length ((lf L A).length + (lf L (tr L i)).length) := by
  have hl : leaves L = lf L A ++ (lf L (tr L i) ++ lf L B) := by unfold leaves; rw [e, lf_app, lf_app]
  have hpos := List.length_pos_iff.2 (lf_pos h i)
  have hnd := order_nodup h
  rw [e] at hnd
  refine ⟨by omega, by rw [hl]; simp, fun n x hx => ?_⟩
  have hxo : x ∈ order L := (List.mem_filter.1 (List.mem_of_getElem? hx)).1
  have hxl := order_lt h hxo
  rw [hl] at hx
  have hin : i ∈ ab L (x : Int) ↔ x ∈ tr L i := ⟨tr_mem h i x hi hxl, fun hm => (mem_tr h i x hi hm).2⟩
  rw [hin]
  by_cases c1 : n < (lf L A).length
  · rw [List.getElem?_append_left c1] at hx
    have hxA : x ∈ A := (List.mem_filter.1 (List.mem_of_getElem? hx)).1
    refine ⟨fun hh => by omega, fun hh => ?_⟩
    exact absurd rfl ((List.nodup_append.1 hnd).2.2 x hxA x (by simp [hh]))
  · rw [List.getElem?_append_right (by omega)] at hx
    by_cases c2 : n - (lf L A).length < (lf L (tr L i)).length
    · rw [List.getElem?_append_left c2] at hx
      have hxT : x ∈ tr L i := (List.mem_filter.1 (List.mem_of_getElem? hx)).1
      exact ⟨fun _ => hxT, fun _ => by omega⟩
    · rw [List.getElem?_append_right (by omega)] at hx
      have hxB : x ∈ B := (List.mem_filter.1 (List.mem_of_getElem? hx)).1
      refine ⟨fun hh => by omega, fun hh => ?_⟩
      have hn2 := (List.nodup_append.1 hnd).2.1
      exact absurd rfl ((List.nodup_append.1 hn2).2.2 x hh x hxB)
end
end Go.Proofs.Ytceahampebofbaa.Moi.Tree
