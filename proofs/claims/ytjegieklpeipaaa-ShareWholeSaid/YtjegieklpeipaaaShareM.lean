/- What functions of this program do, on plain values: a part of the proofs of this seat's laws; each theorem bears its own conditions. -/
import Derived.Test.YtjegieklpeipaaaShareL
set_option linter.unusedVariables false
set_option linter.unusedSimpArgs false
set_option maxRecDepth 1000000
namespace Go.Proofs.Ytjegieklpeipaaa.Moi.Share
open Go Go.RowKit Go.Proofs.Ytjegieklpeipaaa.Moi Go.Proofs.Ytjegieklpeipaaa.Moi.Num

/-! ### The place of a claim in the order -/
theorem lt_irr {p : Cl} : ¬ lt p p := by unfold lt; omega
theorem lt_tot {p q : Cl} (h : p.1 ≠ q.1) (k : ¬ lt p q) : lt q p := by unfold lt at *; omega
def rank (p : Cl) (l : List Cl) : Nat := l.countP fun q => decide (lt q p)
theorem rank_perm {p : Cl} {l S : List Cl} (h : S.Perm l) : rank p S = rank p l := h.countP_eq _
theorem rank_cons {p x : Cl} {l : List Cl} : rank p (x :: l) = rank p l + if lt x p then 1 else 0 := by
  unfold rank
  rw [List.countP_cons]
  congr 1
  by_cases h : lt x p <;> simp [h]
theorem rank_zero {p : Cl} : ∀ {l : List Cl}, (∀ q ∈ l, ¬ lt q p) → rank p l = 0
  | [], _ => rfl
  | x :: l, h => by rw [rank_cons, if_neg (h x (by simp)), rank_zero fun q hq => h q (by simp [hq])]
theorem rank_srt {p : Cl} : ∀ {S : List Cl} {k : Nat}, Srt S → S[k]? = some p → rank p S = k
  | [], k, _, h => by simp at h
  | x :: S, 0, hs, h => by
    simp at h; subst h
    rw [rank_cons, if_neg lt_irr, rank_zero fun q hq => lt_not ((List.pairwise_cons.1 hs).1 q hq)]
  | x :: S, k + 1, hs, h => by
    have hm : p ∈ S := List.mem_of_getElem? (by simpa using h)
    rw [rank_cons, if_pos ((List.pairwise_cons.1 hs).1 p hm), rank_srt (List.pairwise_cons.1 hs).2 (by simpa using h)]
theorem put_in {x : Cl} : ∀ {S : List Cl}, Srt S → (∀ q ∈ S, q.1 ≠ x.1) → ∃ S', S'.Perm (x :: S) ∧ Srt S'
  | [], _, _ => ⟨[x], .refl _, List.pairwise_singleton _ _⟩
  | y :: T, hs, h => by
    by_cases c : lt x y
    · refine ⟨x :: y :: T, .refl _, List.pairwise_cons.2 ⟨fun q hq => ?_, hs⟩⟩
      rcases List.mem_cons.1 hq with rfl | hq
      · exact c
      · exact lt_trans' c ((List.pairwise_cons.1 hs).1 q hq)
    · obtain ⟨T', p, s⟩ := put_in (x := x) (List.pairwise_cons.1 hs).2 fun q hq => h q (by simp [hq])
      refine ⟨y :: T', ((List.Perm.cons y p).trans (.swap x y T)), List.pairwise_cons.2 ⟨fun q hq => ?_, s⟩⟩
      rcases List.mem_cons.1 (p.mem_iff.1 hq) with rfl | hq
      · exact lt_tot (fun e => h y (by simp) e.symm) c
      · exact (List.pairwise_cons.1 hs).1 q hq
theorem ex_srt : ∀ {l : List Cl}, Up l → ∃ S, S.Perm l ∧ Srt S
  | [], _ => ⟨[], .refl _, .nil⟩
  | x :: l, h => by
    obtain ⟨S, p, s⟩ := ex_srt (List.pairwise_cons.1 h).2
    obtain ⟨S', p', s'⟩ := put_in (x := x) s fun q hq => by
      have := (List.pairwise_cons.1 h).1 q (p.mem_iff.1 hq)
      omega
    exact ⟨S', p'.trans (p.cons x), s'⟩

/-! ### Claims of what is left -/
def cls (R : List Nat) : List Cl := R.mapIdx fun (i r : Nat) => ((i : Int), (r : Int))
theorem cls_len {R : List Nat} : (cls R).length = R.length := by simp [cls]
theorem cls_get {R : List Nat} {i r : Nat} (h : R[i]? = some r) : (cls R)[i]? = some ((i : Int), (r : Int)) := by simp [cls, h]
theorem cls_get' {R : List Nat} {i : Nat} {p : Cl} (h : (cls R)[i]? = some p) : ∃ r, R[i]? = some r ∧ p = ((i : Int), (r : Int)) := by
  simp only [cls, List.getElem?_mapIdx, Option.map_eq_some_iff] at h
  obtain ⟨r, h1, h2⟩ := h
  exact ⟨r, h1, h2.symm⟩
theorem cls_up {R : List Nat} : Up (cls R) := by
  rw [Up, List.pairwise_iff_getElem]
  intro i j hi hj h
  simp only [cls, List.getElem_mapIdx]
  omega
theorem cls_snoc {R : List Nat} {r : Nat} : cls (R ++ [r]) = cls R ++ [((R.length : Int), (r : Int))] := by simp [cls, List.mapIdx_append]
/-- The place in the order of what is left at i. -/
def rk (R : List Nat) (i : Nat) : Nat := rank ((i : Int), ((R[i]?.getD 0 : Nat) : Int)) (cls R)
section
variable {R Q : List Nat} {S : List Cl} {i j k r : Nat}
theorem rk_of (hp : S.Perm (cls R)) (hs : Srt S) (h : S[k]? = some ((i : Int), (r : Int))) : rk R i = k ∧ R[i]? = some r := by
  have hm := hp.mem_iff.1 (List.mem_of_getElem? h)
  obtain ⟨j, hj⟩ := List.getElem?_of_mem hm
  obtain ⟨r', h1, h2⟩ := cls_get' hj
  have e1 : i = j := by have := congrArg Prod.fst h2; simp at this; omega
  have e2 : r = r' := by have := congrArg Prod.snd h2; simp at this; omega
  subst e1 e2
  refine ⟨?_, h1⟩
  unfold rk
  rw [h1, ← rank_perm hp]
  exact rank_srt hs h
theorem rk_ex (h : R[i]? = some r) (hp : S.Perm (cls R)) (hs : Srt S) : S[rk R i]? = some ((i : Int), (r : Int)) := by
  have hm := hp.mem_iff.2 (List.mem_of_getElem? (cls_get h))
  obtain ⟨k, hk⟩ := List.getElem?_of_mem hm
  rw [(rk_of hp hs hk).1]; exact hk
theorem rk_inj (hi : i < R.length) (hj : j < R.length) (h : rk R i = rk R j) : i = j := by
  obtain ⟨S, hp, hs⟩ := ex_srt (cls_up (R := R))
  have a := rk_ex (List.getElem?_eq_getElem hi) hp hs
  have b := rk_ex (List.getElem?_eq_getElem hj) hp hs
  rw [h, b] at a
  have := congrArg Prod.fst (Option.some.inj a)
  simp at this; omega
theorem rk_lt (hi : i < R.length) : rk R i < R.length := by
  obtain ⟨S, hp, hs⟩ := ex_srt (cls_up (R := R))
  have a := rk_ex (List.getElem?_eq_getElem hi) hp hs
  have := (List.getElem?_eq_some_iff.1 a).1
  rwa [hp.length_eq, cls_len] at this
theorem rk_at (hk : k < R.length) : ∃ i r, R[i]? = some r ∧ rk R i = k := by
  obtain ⟨S, hp, hs⟩ := ex_srt (cls_up (R := R))
  have hk' : k < S.length := by rw [hp.length_eq, cls_len]; exact hk
  have hm := hp.mem_iff.1 (List.getElem_mem hk')
  obtain ⟨i, hi⟩ := List.getElem?_of_mem hm
  obtain ⟨r, h1, h2⟩ := cls_get' hi
  exact ⟨i, r, h1, (rk_of hp hs (by rw [← h2]; exact List.getElem?_eq_getElem hk')).1⟩
/-- One before the other. -/
theorem rk_le {x y : Nat} (hx : R[i]? = some x) (hy : R[j]? = some y) : rk R i < rk R j ↔ (y < x ∨ (x = y ∧ i < j)) := by
  obtain ⟨S, hp, hs⟩ := ex_srt (cls_up (R := R))
  have a := rk_ex hx hp hs
  have b := rk_ex hy hp hs
  have hS := List.pairwise_iff_getElem.1 hs
  obtain ⟨ha, ea⟩ := List.getElem?_eq_some_iff.1 a
  obtain ⟨hb, eb⟩ := List.getElem?_eq_some_iff.1 b
  constructor
  · intro h
    have := hS _ _ ha hb h
    rw [ea, eb] at this
    unfold lt at this
    simp at this
    omega
  · intro h
    by_cases h1 : rk R i < rk R j
    · exact h1
    have h2 : rk R j < rk R i ∨ rk R j = rk R i := by omega
    rcases h2 with h2 | h2
    · have := hS _ _ hb ha h2
      rw [ea, eb] at this
      unfold lt at this
      simp at this
      omega
    · have := rk_inj (List.getElem?_eq_some_iff.1 hy).1 (List.getElem?_eq_some_iff.1 hx).1 h2
      subst this
      rw [hx] at hy
      cases hy
      omega

/-- The first k got one more. -/
def bump (R Q : List Nat) (k : Nat) : List Nat := Q.mapIdx fun i q => if rk R i < k then q + 1 else q
theorem bump_len : (bump R Q k).length = Q.length := by simp [bump]
theorem bump_get {q : Nat} (h : Q[i]? = some q) : (bump R Q k)[i]? = some (if rk R i < k then q + 1 else q) := by simp [bump, h]
theorem bump_zero : bump R Q 0 = Q := by
  apply List.ext_getElem?
  intro i
  simp [bump]
theorem bump_step {q : Nat} (hq : Q[i]? = some q) (hr : rk R i = k) (hl : Q.length = R.length) : (bump R Q k)[i]? = some q ∧ (bump R Q k).set i (q + 1) = bump R Q (k + 1) := by
  refine ⟨by rw [bump_get hq, hr]; simp, ?_⟩
  apply List.ext_getElem?
  intro j
  have hi := (List.getElem?_eq_some_iff.1 hq).1
  rw [List.getElem?_set]
  by_cases e : i = j
  · subst e
    rw [if_pos rfl, if_pos (by rw [bump_len]; exact hi), bump_get hq, if_pos (by omega)]
  · rw [if_neg e]
    cases hj : Q[j]? with
    | none => simp [bump, hj]
    | some x =>
      have hj' := (List.getElem?_eq_some_iff.1 hj).1
      rw [bump_get hj, bump_get hj]
      have : rk R j ≠ k := fun h => e (rk_inj (R := R) (by omega) (by omega) (by rw [hr, h]))
      by_cases c : rk R j < k
      · rw [if_pos c, if_pos (by omega)]
      · rw [if_neg c, if_neg (by omega)]
/-- The first k have nothing left. -/
def zap (R : List Nat) (k : Nat) : List Nat := R.mapIdx fun i r => if rk R i < k then 0 else r
theorem zap_len : (zap R k).length = R.length := by simp [zap]
theorem zap_get (h : R[i]? = some r) : (zap R k)[i]? = some (if rk R i < k then 0 else r) := by simp [zap, h]
theorem zap_zero : zap R 0 = R := by
  apply List.ext_getElem?
  intro i
  simp [zap]
theorem zap_step (hr : rk R i = k) (hi : i < R.length) : (zap R k).set i 0 = zap R (k + 1) := by
  apply List.ext_getElem?
  intro j
  rw [List.getElem?_set]
  by_cases e : i = j
  · subst e
    rw [if_pos rfl, if_pos (by rw [zap_len]; exact hi), zap_get (List.getElem?_eq_getElem hi), if_pos (by omega)]
  · rw [if_neg e]
    cases hj : R[j]? with
    | none => simp [zap, hj]
    | some x =>
      have hj' := (List.getElem?_eq_some_iff.1 hj).1
      rw [zap_get hj, zap_get hj]
      have : rk R j ≠ k := fun h => e (rk_inj (R := R) hi hj' (by rw [hr, h]))
      by_cases c : rk R j < k
      · rw [if_pos c, if_pos (by omega)]
      · rw [if_neg c, if_neg (by omega)]
/-- How many have anything left. -/
def nz (R : List Nat) : Nat := R.countP fun r => decide (r ≠ 0)
theorem rk_zero (h : R[i]? = some 0) : nz R ≤ rk R i := by
  have e1 : nz R = (cls R).countP fun q => decide (q.2 ≠ 0) := by
    unfold nz cls
    generalize hf : (fun (i r : Nat) => ((i : Int), (r : Int))) = f
    have key : ∀ (l : List Nat) (n : Nat), l.countP (fun r => decide (r ≠ 0)) = (l.mapIdx fun (i r : Nat) => (((i + n : Nat) : Int), (r : Int))).countP fun q => decide (q.2 ≠ 0) := by
      intro l
      induction l with
      | nil => intro n; rfl
      | cons x l ih =>
        intro n
        rw [List.mapIdx_cons, List.countP_cons, List.countP_cons, ih (n + 1)]
        have e3 : (fun (i r : Nat) => (((i + 1 + n : Nat) : Int), (r : Int))) = fun (i r : Nat) => (((i + (n + 1) : Nat) : Int), (r : Int)) := by
          funext a b; congr 2; omega
        rw [e3]
        congr 1
        by_cases hx : x = 0 <;> simp [hx]
    have := key R 0
    simp only [Nat.add_zero] at this
    rw [this, hf]
  rw [e1]
  unfold rk rank
  rw [h]
  refine List.countP_mono_left fun q hq hz => ?_
  obtain ⟨j, hj⟩ := List.getElem?_of_mem hq
  obtain ⟨r, h1, rfl⟩ := cls_get' hj
  have hr : (r : Int) ≠ 0 := by simpa using hz
  apply decide_eq_true
  unfold lt
  simp only [Option.getD_some]
  omega
/-- The largest of what is left, the first such: the next in the order. -/
theorem pick (hk : k < nz R) (hi : i < R.length) (h1 : ∀ (j x y : Nat), j < i → (zap R k)[j]? = some x → (zap R k)[i]? = some y → x < y) (h2 : ∀ (j x y : Nat), (zap R k)[j]? = some x → (zap R k)[i]? = some y → x ≤ y) : rk R i = k := by
  have hn : nz R ≤ R.length := List.countP_le_length
  obtain ⟨c, r, hc, hck⟩ := rk_at (R := R) (k := k) (by omega)
  have hr : r ≠ 0 := fun e => by
    subst e
    have := rk_zero hc
    omega
  have zc : (zap R k)[c]? = some r := by rw [zap_get hc, if_neg (by omega)]
  have hb := List.getElem?_eq_getElem hi
  have zb := zap_get (k := k) hb
  have g := h2 c _ _ zc zb
  have hge : ¬ rk R i < k := fun h => by rw [if_pos h] at g; omega
  rw [if_neg hge] at zb g
  by_cases e : rk R i = k
  · exact e
  exfalso
  have hlt : rk R c < rk R i := by omega
  rcases (rk_le hc hb).1 hlt with a | ⟨a, b⟩
  · omega
  · have := h1 c _ _ b zc zb
    omega
end
end Go.Proofs.Ytjegieklpeipaaa.Moi.Share

namespace Go.Proofs.Ytjegieklpeipaaa.Moi.Share
open Go Go.RowKit Go.Proofs.Ytjegieklpeipaaa.Moi Go.Proofs.Ytjegieklpeipaaa.Moi.Num

/-! ### A whole in parts, by the book -/
def quo (a S : Nat) (w : List Nat) : List Nat := w.map fun x => a * x / S
def rems (a S : Nat) (w : List Nat) : List Nat := w.map fun x => a * x % S
def errOf (w : List Nat) : Nat := if w = [] then 13 else if 1024 < w.length then 5 else if 18446744073709551616 ≤ w.sum then 8 else if w.sum = 0 then 9 else 0
def parts (a : Nat) (w : List Nat) : List Nat := bump (rems a w.sum w) (quo a w.sum w) (a - (quo a w.sum w).sum)
def resP (a : Nat) (w : List Nat) : List Nat := if errOf w = 0 then parts a w else []
section
variable {a S i k x : Nat} {w R Q : List Nat}
theorem quo_len : (quo a S w).length = w.length := by simp [quo]
theorem rems_len : (rems a S w).length = w.length := by simp [rems]
theorem quo_get (h : w[i]? = some x) : (quo a S w)[i]? = some (a * x / S) := by simp [quo, h]
theorem rems_get (h : w[i]? = some x) : (rems a S w)[i]? = some (a * x % S) := by simp [rems, h]
theorem parts_len : (parts a w).length = w.length := by rw [parts, bump_len, quo_len]
theorem share_sum (a S : Nat) : ∀ (w : List Nat), (quo a S w).sum * S + (rems a S w).sum = a * w.sum
  | [] => by simp [quo, rems]
  | x :: w => by
    have ih := share_sum a S w
    simp only [quo, rems, List.map_cons, List.sum_cons] at ih ⊢
    have e := Nat.div_add_mod (a * x) S
    rw [Nat.add_mul, Nat.mul_add, ← ih, ← e]
    rw [Nat.mul_comm S]
    generalize (List.map (fun x => a * x / S) w).sum * S = u
    have : (a * x / S * S + a * x % S) / S * S + (a * x / S * S + a * x % S) % S = a * x / S * S + a * x % S := by
      rw [Nat.mul_comm _ S, Nat.div_add_mod]
    omega
theorem sum_nz : ∀ {R : List Nat}, (∀ r ∈ R, r ≤ S) → R.sum ≤ nz R * S
  | [], _ => by simp
  | r :: R, h => by
    have ih := sum_nz (R := R) fun r hr => h r (by simp [hr])
    have h0 := h r (by simp)
    unfold nz at ih ⊢
    rw [List.countP_cons, List.sum_cons]
    by_cases c : r = 0
    · subst c; simpa using ih
    · rw [if_pos (by simpa using c), Nat.add_mul]; omega
theorem rems_lt (hS : 0 < S) : ∀ r ∈ rems a S w, r < S := by
  intro r hr
  obtain ⟨x, _, rfl⟩ := List.mem_map.1 hr
  exact Nat.mod_lt _ hS
theorem quo_le (hS : 0 < w.sum) : (quo a w.sum w).sum ≤ a := by
  have h := share_sum a w.sum w
  exact Nat.le_of_mul_le_mul_right (Nat.le.intro h) hS
theorem rest_nz (hS : 0 < w.sum) : a - (quo a w.sum w).sum ≤ nz (rems a w.sum w) := by
  have h := share_sum a w.sum w
  have h2 := sum_nz (S := w.sum) (R := rems a w.sum w) fun r hr => Nat.le_of_lt (rems_lt hS r hr)
  refine Nat.le_of_mul_le_mul_right ?_ hS
  rw [Nat.sub_mul]; omega
theorem nz_len : nz R ≤ R.length := List.countP_le_length
theorem rest_len (hS : 0 < w.sum) : a - (quo a w.sum w).sum ≤ w.length := Nat.le_trans (rest_nz hS) (by have := nz_len (R := rems a w.sum w); rwa [rems_len] at this)
theorem le_sum : ∀ {l : List Nat} {i x : Nat}, l[i]? = some x → x ≤ l.sum
  | [], _, _, h => by simp at h
  | y :: l, 0, x, h => by simp at h; subst h; simp
  | y :: l, i + 1, x, h => by
    have := le_sum (l := l) (i := i) (x := x) (by simpa using h)
    rw [List.sum_cons]; omega
theorem sum_set : ∀ {l : List Nat} {i x y : Nat}, l[i]? = some x → (l.set i y).sum + x = l.sum + y
  | [], _, _, _, h => by simp at h
  | z :: l, 0, x, y, h => by simp at h; subst h; simp; omega
  | z :: l, i + 1, x, y, h => by
    have := sum_set (l := l) (i := i) (x := x) (y := y) (by simpa using h)
    rw [List.set_cons_succ, List.sum_cons, List.sum_cons]; omega
theorem sum_take_le {l : List Nat} {i : Nat} : (l.take i).sum ≤ l.sum := by
  have := congrArg List.sum (List.take_append_drop i l)
  rw [List.sum_append] at this
  omega
theorem sum_take_get {l : List Nat} {i x : Nat} (h : l[i]? = some x) : (l.take (i + 1)).sum = (l.take i).sum + x := by
  rw [List.take_add_one, h]; simp
theorem bump_sum (hl : Q.length = R.length) : ∀ {k : Nat}, k ≤ R.length → (bump R Q k).sum = Q.sum + k
  | 0, _ => by rw [bump_zero]; rfl
  | k + 1, h => by
    have ih := bump_sum hl (k := k) (by omega)
    obtain ⟨i, r, hr, hk⟩ := rk_at (R := R) (k := k) (by omega)
    have hi := (List.getElem?_eq_some_iff.1 hr).1
    obtain ⟨b1, b2⟩ := bump_step (R := R) (Q := Q) (k := k) (List.getElem?_eq_getElem (by rw [hl]; exact hi)) hk hl
    rw [← b2]
    have := sum_set (y := Q[i]'(by rw [hl]; exact hi) + 1) b1
    omega
theorem parts_sum (hS : 0 < w.sum) : (parts a w).sum = a := by
  unfold parts
  rw [bump_sum (by rw [quo_len, rems_len]) (by rw [rems_len]; exact rest_len hS)]
  have := quo_le (a := a) hS
  omega
theorem parts_get (h : w[i]? = some x) : (parts a w)[i]? = some (if rk (rems a w.sum w) i < a - (quo a w.sum w).sum then a * x / w.sum + 1 else a * x / w.sum) := by
  unfold parts
  rw [bump_get (quo_get h)]
/-- Only one that has something left gets one more. -/
theorem bump_pos (hS : 0 < w.sum) (h : w[i]? = some x) (hb : rk (rems a w.sum w) i < a - (quo a w.sum w).sum) : 0 < a * x % w.sum := by
  by_cases c : a * x % w.sum = 0
  · have := rk_zero (R := rems a w.sum w) (i := i) (by rw [rems_get h, c])
    have := rest_nz (a := a) hS
    omega
  · omega
theorem quo_rest (hS : 0 < w.sum) (h : w[i]? = some x) : a * x / w.sum + (a - (quo a w.sum w).sum) ≤ a := by
  have h1 := le_sum (quo_get (a := a) (S := w.sum) h)
  have h2 := quo_le (a := a) hS
  omega
theorem parts_first {j : Nat} (h1 : w[i]? = some x) (h2 : w[j]? = some x) (hij : i < j) : ∃ y z, (parts a w)[i]? = some y ∧ (parts a w)[j]? = some z ∧ z ≤ y ∧ y - z ≤ 1 := by
  refine ⟨_, _, parts_get h1, parts_get h2, ?_⟩
  have := (rk_le (rems_get (a := a) (S := w.sum) h1) (rems_get (a := a) (S := w.sum) h2)).2 (.inr ⟨rfl, hij⟩)
  split <;> split <;> omega
theorem parts_zero (hS : 0 < w.sum) (h : w[i]? = some 0) : (parts a w)[i]? = some 0 := by
  rw [parts_get h]
  split
  · rename_i c
    have := bump_pos hS h c
    simp at this
  · simp
/-- A part and its quota. -/
theorem parts_near {y : Nat} (hS : 0 < w.sum) (h : w[i]? = some x) (hy : (parts a w)[i]? = some y) : y * w.sum < a * x + w.sum ∧ a * x < y * w.sum + w.sum := by
  rw [parts_get h] at hy
  have e := Nat.div_add_mod (a * x) w.sum
  have e2 := Nat.mod_lt (a * x) hS
  rw [Nat.mul_comm] at e
  have hy' := (Option.some.inj hy).symm
  split at hy'
  · rename_i c
    have := bump_pos hS h c
    subst hy'
    rw [Nat.add_mul, Nat.one_mul]
    omega
  · subst hy'
    omega
/-! Weights that are twice as much -/
theorem two_sum : ∀ {w : List Nat}, (w.map (2 * ·)).sum = 2 * w.sum
  | [] => rfl
  | x :: w => by rw [List.map_cons, List.sum_cons, List.sum_cons, two_sum]; omega
theorem two_quo : quo a (2 * S) (w.map (2 * ·)) = quo a S w := by
  unfold quo
  rw [List.map_map]
  refine List.map_congr_left fun x _ => ?_
  show a * (2 * x) / (2 * S) = _
  rw [Nat.mul_left_comm, Nat.mul_div_mul_left _ _ (by omega)]
theorem two_rems : rems a (2 * S) (w.map (2 * ·)) = (rems a S w).map (2 * ·) := by
  unfold rems
  rw [List.map_map, List.map_map]
  refine List.map_congr_left fun x _ => ?_
  show a * (2 * x) % (2 * S) = 2 * (a * x % S)
  rw [Nat.mul_left_comm, Nat.mul_mod_mul_left]
theorem two_rk (hi : i < R.length) : rk (R.map (2 * ·)) i = rk R i := by
  have key : ∀ (p : Cl), rank (p.1, 2 * p.2) (cls (R.map (2 * ·))) = rank p (cls R) := by
    intro p
    have e : cls (R.map (2 * ·)) = (cls R).map fun q => (q.1, 2 * q.2) := by
      apply List.ext_getElem?
      intro j
      simp only [cls, List.getElem?_mapIdx, List.getElem?_map]
      cases R[j]? <;> simp
    rw [e]
    unfold rank
    rw [List.countP_map]
    refine List.countP_congr fun q _ => ?_
    simp only [Function.comp_apply, decide_eq_true_eq]
    unfold lt
    simp only
    omega
  have h1 := key ((i : Int), ((R[i]?.getD 0 : Nat) : Int))
  unfold rk
  rw [← h1]
  congr 1
  rw [List.getElem?_map, List.getElem?_eq_getElem hi]
  simp
theorem two_parts : parts a (w.map (2 * ·)) = parts a w := by
  unfold parts
  rw [two_sum, two_quo, two_rems]
  unfold bump
  apply List.ext_getElem?
  intro j
  simp only [List.getElem?_mapIdx]
  cases hj : (quo a w.sum w)[j]? with
  | none => rfl
  | some q =>
    have := (List.getElem?_eq_some_iff.1 hj).1
    rw [quo_len] at this
    rw [two_rk (by rw [rems_len]; exact this)]
theorem two_err (h : ∀ x ∈ w, x < 9007199254740992) : errOf (w.map (2 * ·)) = errOf w := by
  unfold errOf
  rw [List.length_map, two_sum]
  by_cases c0 : w = []
  · subst c0; rfl
  by_cases c1 : 1024 < w.length
  · rw [if_neg (by simpa using c0), if_pos c1, if_neg c0, if_pos c1]
  have hs : ∀ {l : List Nat}, (∀ x ∈ l, x < 9007199254740992) → l.sum ≤ l.length * 9007199254740991 := by
    intro l
    induction l with
    | nil => intro _; simp
    | cons x l ih =>
      intro h
      have := ih fun x hx => h x (by simp [hx])
      have := h x (by simp)
      rw [List.sum_cons, List.length_cons]; omega
  have := hs h
  rw [if_neg (by simpa using c0), if_neg c1, if_neg c0, if_neg c1, if_neg (show ¬ 18446744073709551616 ≤ 2 * w.sum by omega), if_neg (show ¬ 18446744073709551616 ≤ w.sum by omega)]
  by_cases c2 : w.sum = 0
  · rw [if_pos (show 2 * w.sum = 0 by omega), if_pos c2]
  · rw [if_neg (show ¬ 2 * w.sum = 0 by omega), if_neg c2]
theorem two_res (h : ∀ x ∈ w, x < 9007199254740992) : resP a (w.map (2 * ·)) = resP a w := by unfold resP; rw [two_err h, two_parts]
theorem err_ok (h : errOf w = 0) : w ≠ [] ∧ w.length ≤ 1024 ∧ w.sum < 18446744073709551616 ∧ 0 < w.sum := by
  unfold errOf at h
  refine ⟨fun e => by rw [if_pos e] at h; omega, ?_⟩
  split at h <;> try omega
  split at h <;> try omega
  split at h <;> try omega
  split at h <;> omega
theorem resP_isU (ha : a < 18446744073709551616) : ∀ x ∈ resP a w, x < 18446744073709551616 := by
  intro x hx
  unfold resP at hx
  split at hx
  · rename_i h
    obtain ⟨_, _, _, h4⟩ := err_ok h
    obtain ⟨i, hi⟩ := List.getElem?_of_mem hx
    have := le_sum hi
    rw [parts_sum h4] at this
    omega
  · simp at hx
end
end Go.Proofs.Ytjegieklpeipaaa.Moi.Share
