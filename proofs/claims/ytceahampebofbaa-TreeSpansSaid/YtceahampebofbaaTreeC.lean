/- What functions of this program do, on plain values: a part of the proofs of this seat's laws; each theorem bears its own conditions. -/
import Derived.Test.YtceahampebofbaaTreeB
set_option linter.unusedVariables false
set_option linter.unusedSimpArgs false
set_option maxRecDepth 1000000
namespace Go.Proofs.Ytceahampebofbaa.Moi.Tree
open Go Go.RowKit Go.Proofs.Ytceahampebofbaa.Moi
attribute [-wf_preprocess] ite_eq_dite forIn_eq_forIn'

/-! ### Numbers that are read, whatever holds them -/
def il (l : List Nat) : List Int := l.map fun (n : Nat) => (n : Int)
theorem il_len {l : List Nat} : (il l).length = l.length := by simp [il]
theorem il_get {l : List Nat} {i x : Nat} (h : l[i]? = some x) : (il l)[i]? = some (x : Int) := by simp [il, h]
theorem il_app {a b : List Nat} : il (a ++ b) = il a ++ il b := List.map_append
theorem il_inj {a b : List Nat} (h : il a = il b) : a = b := by
  have := congrArg (List.map Int.toNat) h
  simpa [il, Function.comp_def] using this
theorem il_eq {a b : List Nat} : (il a = il b) = (a = b) := propext ⟨il_inj, fun h => by rw [h]⟩
/-- A list of numbers that lies there. -/
def Ei (y : AV) (m : Heap) (l : List Int) : Prop := (∃ o, y = .lst (kl .i64 l) o ∧ (o = .nil → l = [])) ∨ ∃ id off cap cs rest, y = .mref id off l.length cap ∧ get id m = some (.cells cs) ∧ cs.drop off = kl .i64 l ++ rest
section
variable {y v v2 : AV} {m m' : Heap} {l a b : List Int} {Q E : AV → Heap → Prop}
theorem Ei.lst {o : Own} (h : o = .nil → l = []) : Ei (.lst (kl .i64 l) o) m l := .inl ⟨o, rfl, h⟩
theorem Ei.lenIs (h : Ei y m l) : LenIs y l.length := by
  rcases h with ⟨o, rfl, ho⟩ | ⟨id, off, cap, cs, rest, rfl, h1, h2⟩
  · exact .inl ⟨_, _, rfl, kl_len⟩
  · exact .inr ⟨_, _, _, rfl⟩
theorem Ei.ext {S : List Nat} (h : Ei y m l) (he : Ext S m m') (hs : ∀ i ∈ refs y, i ∉ S) : Ei y m' l := by
  rcases h with ⟨o, rfl, ho⟩ | ⟨id, off, cap, cs, rest, rfl, h1, h2⟩
  · exact .inl ⟨o, rfl, ho⟩
  · exact .inr ⟨id, off, cap, cs, rest, rfl, he _ _ h1 (hs id (by simp [refs])), h2⟩
theorem Ei.isL (h : Ei y m l) : (∃ es o, y = .lst es o ∧ (o = .nil → es = [])) ∨ ∃ i o n c, y = .mref i o n c := by
  rcases h with ⟨o, rfl, ho⟩ | ⟨id, off, cap, cs, rest, rfl, _⟩
  · exact .inl ⟨_, _, rfl, fun e => by rw [ho e]; rfl⟩
  · exact .inr ⟨_, _, _, _, rfl⟩
theorem Ei.at (h : Ei y m l) : aelems none y m = some (kl .i64 l) := by
  rcases h with ⟨o, rfl, ho⟩ | ⟨id, off, cap, cs, rest, rfl, h1, h2⟩
  · rfl
  · simp only [aelems, h1, h2]
    exact chunk_ints (k := .i64) l rest
theorem Ei.idx {n : Int} {x : Int} {K : AV → Prop} (h : Ei y m l) (h0 : 0 ≤ n) (hx : l[n.toNat]? = some x) (k : ∀ a r, acells a m = some (iv x :: r) → K a) :
    @onLst y ⟨fun es _ => @withS _ es[n.toNat]? ⟨fun e => e.cells.length = 1 ∧ @val (.vptr e.cells) ⟨K⟩⟩⟩ ⟨fun id off len _ => n < len ∧ @val (.ptr id (off + n.toNat * 1)) ⟨K⟩⟩ := by
  have hl := (List.getElem?_eq_some_iff.1 hx).1
  rcases h with ⟨o, rfl, ho⟩ | ⟨id, off, cap, cs, rest, rfl, h2, h3⟩
  · rw [onLst_l, kl_get hx]
    exact ⟨rfl, k _ [] rfl⟩
  · rw [onLst_m]
    refine ⟨by omega, k _ ((kl .i64 l ++ rest).drop (n.toNat + 1)) ?_⟩
    rw [acells_p, h2]
    show some (cs.drop _) = _
    rw [Nat.mul_one, ← List.drop_drop, h3, kl_drop hx]
theorem BufI.ei (h : BufI .i64 l y m) : Ei y m l := by
  rcases h with ⟨h1, h | h⟩ | ⟨id, cap, rest, rfl, hc, _, _, _, h5⟩
  · obtain rfl : l = [] := by simpa [krows] using h1
    exact .inl ⟨.nil, h, fun _ => rfl⟩
  · obtain rfl : l = [] := by simpa [krows] using h1
    exact .inl ⟨.full, h, fun _ => rfl⟩
  · rw [krows_len]
    rw [krows_flat] at h5
    exact .inr ⟨id, 0, cap, _, rest, rfl, h5, rfl⟩
theorem take_eqI {i : Nat} {x : Int} (h : a.take i = b.take i) (h1 : a[i]? = some x) (h2 : b[i]? = some x) : a.take (i + 1) = b.take (i + 1) := by
  rw [List.take_add_one, List.take_add_one, h, h1, h2]
theorem Ints_s (h : Ei v m a) (h2 : Ei v2 m b) (hl : a.length ≤ 1000000) (k : Q (bo (decide (a = b))) m) : ACall Try.prog 21 [v, v2] m Q E := by
  refine acall_fn mixed Try.func21 Try.call21 e21 r21 (Nat.le_of_ble_eq_true rfl) ?_
  by_cases hne : (a.length : Int) = (b.length : Int)
  case neg =>
    have : a ≠ b := fun e => hne (by rw [e])
    rw [show decide (a = b) = false from decide_eq_false this] at k
    simp only [n21, onLst_len h.lenIs, onLst_len h2.lenIs, hne, wf_preprocess, ↓reduceIte, Nat.reduceEqDiff, reduceCtorEq, Nat.reduceAdd, Nat.reduceMul, Nat.reduceLeDiff, Nat.reduceLT, Nat.reduceSub, Int.reduceToNat, Int.reduceNeg, Int.reduceAdd, Int.reduceSub, Int.reduceMul, Int.reduceEq, Int.reduceLT, Int.reduceLE, Int.reduceNe, forall_const, forall_eq', forall_eq, List.forall_mem_cons, List.not_mem_nil]
    exact k
  simp only [n21, onLst_len h.lenIs, onLst_len h2.lenIs, eq_true hne, wf_preprocess, ↓reduceIte, Nat.reduceEqDiff, reduceCtorEq, Nat.reduceAdd, Nat.reduceMul, Nat.reduceLeDiff, Nat.reduceLT, Nat.reduceSub, Int.reduceToNat, Int.reduceNeg, Int.reduceAdd, Int.reduceSub, Int.reduceMul, Int.reduceEq, Int.reduceLT, Int.reduceLE, Int.reduceNe, forall_const, forall_eq', forall_eq, List.forall_mem_cons, List.not_mem_nil]
  refine loop_i (fun kk ρ m' => ∃ (i : Nat), kk = a.length - i ∧ i ≤ a.length ∧ ρ 0 = v ∧ ρ 1 = v2 ∧ ρ 5 = iv i ∧ a.take i = b.take i ∧ m' = m) a.length ⟨0, rfl, by omega, ?_⟩ ?_
  · simp only [wf_preprocess, ↓reduceIte, Nat.reduceEqDiff, reduceCtorEq, Nat.reduceAdd, Nat.reduceMul, Nat.reduceLeDiff, Nat.reduceLT, Nat.reduceSub, Int.reduceToNat, Int.reduceNeg, Int.reduceAdd, Int.reduceSub, Int.reduceMul, Int.reduceEq, Int.reduceLT, Int.reduceLE, Int.reduceNe, forall_const, forall_eq', forall_eq, List.forall_mem_cons, List.not_mem_nil]
  rintro kk ρ m' ⟨i, rfl, hi, h0, h1, h5, ht, rfl⟩
  by_cases hlt : (i : Int) < (a.length : Int)
  · obtain ⟨p, hp⟩ : ∃ p, a[i]? = some p := ⟨_, List.getElem?_eq_getElem (by omega)⟩
    obtain ⟨q, hq⟩ : ∃ q, b[i]? = some q := ⟨_, List.getElem?_eq_getElem (by omega)⟩
    have w1 : IntKind.i64.wrap ((i : Int) + 1) = ((i + 1 : Nat) : Int) := wrap64 (by omega) (by omega)
    simp only [h0, h1, h5, hlt, onLst_len h.lenIs, Int.natCast_nonneg, wf_preprocess, ↓reduceIte, Nat.reduceEqDiff, reduceCtorEq, Nat.reduceAdd, Nat.reduceMul, Nat.reduceLeDiff, Nat.reduceLT, Nat.reduceSub, Int.reduceToNat, Int.reduceNeg, Int.reduceAdd, Int.reduceSub, Int.reduceMul, Int.reduceEq, Int.reduceLT, Int.reduceLE, Int.reduceNe, forall_const, forall_eq', forall_eq, List.forall_mem_cons, List.not_mem_nil]
    refine Ei.idx (n := (i : Int)) h (by omega) (by simpa using hp) fun a1 r1 ha1 => ?_
    simp only [h0, h1, h5, ha1, hlt, Int.natCast_nonneg, wf_preprocess, ↓reduceIte, Nat.reduceEqDiff, reduceCtorEq, Nat.reduceAdd, Nat.reduceMul, Nat.reduceLeDiff, Nat.reduceLT, Nat.reduceSub, Int.reduceToNat, Int.reduceNeg, Int.reduceAdd, Int.reduceSub, Int.reduceMul, Int.reduceEq, Int.reduceLT, Int.reduceLE, Int.reduceNe, forall_const, forall_eq', forall_eq, List.forall_mem_cons, List.not_mem_nil]
    refine Ei.idx (n := (i : Int)) h2 (by omega) (by simpa using hq) fun a2 r2 ha2 => ?_
    by_cases hpq : p = q
    · subst hpq
      simp only [h0, h1, h5, ha2, w1, wf_preprocess, ↓reduceIte, Nat.reduceEqDiff, reduceCtorEq, Nat.reduceAdd, Nat.reduceMul, Nat.reduceLeDiff, Nat.reduceLT, Nat.reduceSub, Int.reduceToNat, Int.reduceNeg, Int.reduceAdd, Int.reduceSub, Int.reduceMul, Int.reduceEq, Int.reduceLT, Int.reduceLE, Int.reduceNe, forall_const, forall_eq', forall_eq, List.forall_mem_cons, List.not_mem_nil]
      exact ⟨a.length - (i + 1), by omega, i + 1, rfl, by omega, rfl, take_eqI ht hp hq⟩
    · have : a ≠ b := fun e => hpq (by rw [e] at hp; rw [hp] at hq; exact Option.some.inj hq)
      rw [show decide (a = b) = false from decide_eq_false this] at k
      simp only [h0, h1, h5, ha2, hpq, w1, wf_preprocess, ↓reduceIte, Nat.reduceEqDiff, reduceCtorEq, Nat.reduceAdd, Nat.reduceMul, Nat.reduceLeDiff, Nat.reduceLT, Nat.reduceSub, Int.reduceToNat, Int.reduceNeg, Int.reduceAdd, Int.reduceSub, Int.reduceMul, Int.reduceEq, Int.reduceLT, Int.reduceLE, Int.reduceNe, forall_const, forall_eq', forall_eq, List.forall_mem_cons, List.not_mem_nil]
      exact k
  · have : a = b := by
      rw [List.take_of_length_le (by omega), List.take_of_length_le (by omega)] at ht
      exact ht
    rw [show decide (a = b) = true from decide_eq_true this] at k
    simp only [h0, h1, h5, hlt, onLst_len h.lenIs, wf_preprocess, ↓reduceIte, Nat.reduceEqDiff, reduceCtorEq, Nat.reduceAdd, Nat.reduceMul, Nat.reduceLeDiff, Nat.reduceLT, Nat.reduceSub, Int.reduceToNat, Int.reduceNeg, Int.reduceAdd, Int.reduceSub, Int.reduceMul, Int.reduceEq, Int.reduceLT, Int.reduceLE, Int.reduceNe, forall_const, forall_eq', forall_eq, List.forall_mem_cons, List.not_mem_nil]
    exact k
/-- Is one among them, and where first? -/
theorem Index_s {x : Int} (h : Ei v m l) (hl : l.length ≤ 1000000) (k : ∀ r : Int, (r = -1 ∧ x ∉ l) ∨ (∃ i : Nat, r = i ∧ l[i]? = some x) → Q (iv r) m) : ACall Try.prog 53 [v, iv x] m Q E := by
  refine acall_fn mixed Try.func53 Try.call53 e53 r53 (Nat.le_of_ble_eq_true rfl) ?_
  simp only [n53, onLst_len h.lenIs, wf_preprocess, ↓reduceIte, Nat.reduceEqDiff, reduceCtorEq, Nat.reduceAdd, Nat.reduceMul, Nat.reduceLeDiff, Nat.reduceLT, Nat.reduceSub, Int.reduceToNat, Int.reduceNeg, Int.reduceAdd, Int.reduceSub, Int.reduceMul, Int.reduceEq, Int.reduceLT, Int.reduceLE, Int.reduceNe, forall_const, forall_eq', forall_eq, List.forall_mem_cons, List.not_mem_nil]
  refine loop_i (fun kk ρ m' => ∃ (i : Nat), kk = l.length - i ∧ i ≤ l.length ∧ ρ 0 = v ∧ ρ 1 = iv x ∧ ρ 7 = iv l.length ∧ ρ 8 = iv i ∧ x ∉ l.take i ∧ m' = m) l.length ⟨0, rfl, by omega, ?_⟩ ?_
  · simp only [List.take_zero, wf_preprocess, ↓reduceIte, Nat.reduceEqDiff, reduceCtorEq, Nat.reduceAdd, Nat.reduceMul, Nat.reduceLeDiff, Nat.reduceLT, Nat.reduceSub, Int.reduceToNat, Int.reduceNeg, Int.reduceAdd, Int.reduceSub, Int.reduceMul, Int.reduceEq, Int.reduceLT, Int.reduceLE, Int.reduceNe, forall_const, forall_eq', forall_eq, List.forall_mem_cons, List.not_mem_nil]
  rintro kk ρ m' ⟨i, rfl, hi, h0, h1, h7, h8, hn, rfl⟩
  by_cases hlt : (i : Int) < (l.length : Int)
  · obtain ⟨p, hp⟩ : ∃ p, l[i]? = some p := ⟨_, List.getElem?_eq_getElem (by omega)⟩
    have w1 : IntKind.i64.wrap ((i : Int) + 1) = ((i + 1 : Nat) : Int) := wrap64 (by omega) (by omega)
    simp only [h0, h1, h7, h8, hlt, Int.natCast_nonneg, wf_preprocess, ↓reduceIte, Nat.reduceEqDiff, reduceCtorEq, Nat.reduceAdd, Nat.reduceMul, Nat.reduceLeDiff, Nat.reduceLT, Nat.reduceSub, Int.reduceToNat, Int.reduceNeg, Int.reduceAdd, Int.reduceSub, Int.reduceMul, Int.reduceEq, Int.reduceLT, Int.reduceLE, Int.reduceNe, forall_const, forall_eq', forall_eq, List.forall_mem_cons, List.not_mem_nil]
    refine Ei.idx (n := (i : Int)) h (by omega) (by simpa using hp) fun a1 r1 ha1 => ?_
    by_cases hpx : x = p
    · subst hpx
      simp only [h0, h1, h7, h8, ha1, wf_preprocess, ↓reduceIte, Nat.reduceEqDiff, reduceCtorEq, Nat.reduceAdd, Nat.reduceMul, Nat.reduceLeDiff, Nat.reduceLT, Nat.reduceSub, Int.reduceToNat, Int.reduceNeg, Int.reduceAdd, Int.reduceSub, Int.reduceMul, Int.reduceEq, Int.reduceLT, Int.reduceLE, Int.reduceNe, forall_const, forall_eq', forall_eq, List.forall_mem_cons, List.not_mem_nil]
      exact k _ (.inr ⟨i, rfl, hp⟩)
    · simp only [h0, h1, h7, h8, ha1, hpx, w1, wf_preprocess, ↓reduceIte, Nat.reduceEqDiff, reduceCtorEq, Nat.reduceAdd, Nat.reduceMul, Nat.reduceLeDiff, Nat.reduceLT, Nat.reduceSub, Int.reduceToNat, Int.reduceNeg, Int.reduceAdd, Int.reduceSub, Int.reduceMul, Int.reduceEq, Int.reduceLT, Int.reduceLE, Int.reduceNe, forall_const, forall_eq', forall_eq, List.forall_mem_cons, List.not_mem_nil]
      refine ⟨l.length - (i + 1), by omega, i + 1, rfl, by omega, rfl, ?_⟩
      rw [List.take_add_one, hp]
      simp [hn, hpx]
  · have e : l.take i = l := List.take_of_length_le (by omega)
    rw [e] at hn
    simp only [h0, h1, h7, h8, hlt, wf_preprocess, ↓reduceIte, Nat.reduceEqDiff, reduceCtorEq, Nat.reduceAdd, Nat.reduceMul, Nat.reduceLeDiff, Nat.reduceLT, Nat.reduceSub, Int.reduceToNat, Int.reduceNeg, Int.reduceAdd, Int.reduceSub, Int.reduceMul, Int.reduceEq, Int.reduceLT, Int.reduceLE, Int.reduceNe, forall_const, forall_eq', forall_eq, List.forall_mem_cons, List.not_mem_nil]
    exact k _ (.inl ⟨rfl, hn⟩)
theorem Contains_s {x : Int} (h : Ei v m l) (hl : l.length ≤ 1000000) (k : Q (bo (decide (x ∈ l))) m) : ACall Try.prog 42 [v, iv x] m Q E := by
  refine acall_fn mixed Try.func42 Try.call42 e42 r42 (Nat.le_of_ble_eq_true rfl) ?_
  simp only [n42, wf_preprocess, ↓reduceIte, Nat.reduceEqDiff, reduceCtorEq, Nat.reduceAdd, Nat.reduceMul, Nat.reduceLeDiff, Nat.reduceLT, Nat.reduceSub, Int.reduceToNat, Int.reduceNeg, Int.reduceAdd, Int.reduceSub, Int.reduceMul, Int.reduceEq, Int.reduceLT, Int.reduceLE, Int.reduceNe, forall_const, forall_eq', forall_eq, List.forall_mem_cons, List.not_mem_nil]
  refine call_i (Index_s h hl fun r hr => ?_)
  rcases hr with ⟨rfl, hn⟩ | ⟨i, rfl, hi⟩
  · rw [decide_eq_false hn] at k
    simp only [wf_preprocess, ↓reduceIte, Nat.reduceEqDiff, reduceCtorEq, Nat.reduceAdd, Nat.reduceMul, Nat.reduceLeDiff, Nat.reduceLT, Nat.reduceSub, Int.reduceToNat, Int.reduceNeg, Int.reduceAdd, Int.reduceSub, Int.reduceMul, Int.reduceEq, Int.reduceLT, Int.reduceLE, Int.reduceNe, forall_const, forall_eq', forall_eq, List.forall_mem_cons, List.not_mem_nil]
    exact k
  · rw [decide_eq_true (List.mem_of_getElem? hi)] at k
    simp only [Int.natCast_nonneg, wf_preprocess, ↓reduceIte, Nat.reduceEqDiff, reduceCtorEq, Nat.reduceAdd, Nat.reduceMul, Nat.reduceLeDiff, Nat.reduceLT, Nat.reduceSub, Int.reduceToNat, Int.reduceNeg, Int.reduceAdd, Int.reduceSub, Int.reduceMul, Int.reduceEq, Int.reduceLT, Int.reduceLE, Int.reduceNe, forall_const, forall_eq', forall_eq, List.forall_mem_cons, List.not_mem_nil]
    exact k
theorem CloneI_s (h : Ei v m l) (hl : l.length ≤ 1000000) (k : ∀ v' m', BufI .i64 l v' m' → Ext [] m m' → (∀ i ∈ refs v', i ∉ keys m) → Q v' m') : ACall Try.prog 41 [v] m Q E := by
  refine acall_fn mixed Try.func41 Try.call41 e41 r41 (Nat.le_of_ble_eq_true rfl) ?_
  simp only [n41, wf_preprocess, ↓reduceIte, Nat.reduceEqDiff, reduceCtorEq, Nat.reduceAdd, Nat.reduceMul, Nat.reduceLeDiff, Nat.reduceLT, Nat.reduceSub, Int.reduceToNat, Int.reduceNeg, Int.reduceAdd, Int.reduceSub, Int.reduceMul, Int.reduceEq, Int.reduceLT, Int.reduceLE, Int.reduceNe, forall_const, forall_eq', forall_eq, List.forall_mem_cons, List.not_mem_nil]
  refine nil_g h.isL (fun ⟨o, ho⟩ => ?_) ?_
  · have : l = [] := by
      rcases h with ⟨o', h1, h2⟩ | ⟨id, off, cap, cs, rest, h1, h2, h3⟩
      · rw [ho] at h1
        cases l with
        | nil => rfl
        | cons a l => simp at h1
      · rw [ho] at h1; cases h1
    subst this
    simp only [wf_preprocess, ↓reduceIte, Nat.reduceEqDiff, reduceCtorEq, Nat.reduceAdd, Nat.reduceMul, Nat.reduceLeDiff, Nat.reduceLT, Nat.reduceSub, Int.reduceToNat, Int.reduceNeg, Int.reduceAdd, Int.reduceSub, Int.reduceMul, Int.reduceEq, Int.reduceLT, Int.reduceLE, Int.reduceNe, forall_const, forall_eq', forall_eq, List.forall_mem_cons, List.not_mem_nil]
    exact k _ _ BufI.nil .rfl' (by simp [refs])
  · simp only [wf_preprocess, ↓reduceIte, Nat.reduceEqDiff, reduceCtorEq, Nat.reduceAdd, Nat.reduceMul, Nat.reduceLeDiff, Nat.reduceLT, Nat.reduceSub, Int.reduceToNat, Int.reduceNeg, Int.reduceAdd, Int.reduceSub, Int.reduceMul, Int.reduceEq, Int.reduceLT, Int.reduceLE, Int.reduceNe, forall_const, forall_eq', forall_eq, List.forall_mem_cons, List.not_mem_nil]
    refine app_bufI (l := []) BufI.full h.at (by simp; omega) (by rw [maxLen_e]; simp; omega) fun v' m' h1 h2 h3 => ?_
    simp only [wf_preprocess, ↓reduceIte, Nat.reduceEqDiff, reduceCtorEq, Nat.reduceAdd, Nat.reduceMul, Nat.reduceLeDiff, Nat.reduceLT, Nat.reduceSub, Int.reduceToNat, Int.reduceNeg, Int.reduceAdd, Int.reduceSub, Int.reduceMul, Int.reduceEq, Int.reduceLT, Int.reduceLE, Int.reduceNe, forall_const, forall_eq', forall_eq, List.forall_mem_cons, List.not_mem_nil]
    refine k v' m' (by simpa using h1) (by simpa [refs] using h2) ?_
    rcases h3 with rfl | h3
    · simp [refs]
    · exact h3
end

/-! ### Members in memory -/
def nv (p : Nd) : List AV := [.sc (.string p.1), iv p.2]
def nc (L : List Nd) : List AV := L.flatMap nv
theorem nc_cons {p : Nd} {L : List Nd} : nc (p :: L) = .sc (.string p.1) :: iv p.2 :: nc L := rfl
theorem nc_len {L : List Nd} : (nc L).length = L.length * 2 := by
  induction L with
  | nil => rfl
  | cons x l ih => rw [nc_cons, List.length_cons, List.length_cons, ih, List.length_cons]; omega
theorem nc_drop {r : List AV} : ∀ {L : List Nd} {i : Nat} {p : Nd}, L[i]? = some p → (nc L ++ r).drop (i * 2) = .sc (.string p.1) :: iv p.2 :: (nc L ++ r).drop (i * 2 + 2)
  | [], i, p, h => by simp at h
  | x :: l, 0, p, h => by simp at h; subst h; rfl
  | x :: l, i + 1, p, h => by
    rw [nc_cons, show (i + 1) * 2 = i * 2 + 2 by omega]
    simp only [List.cons_append, List.drop_succ_cons]
    exact nc_drop (L := l) (by simpa using h)
theorem nc_drop1 {r : List AV} {L : List Nd} {i : Nat} {p : Nd} (h : L[i]? = some p) : (nc L ++ r).drop (i * 2 + 1) = iv p.2 :: (nc L ++ r).drop (i * 2 + 2) := by
  rw [← List.drop_drop, nc_drop h]; rfl
/-- A tree's members lie there. -/
def Nds (L : List Nd) (m : Heap) (T : Nat) : Prop := ∃ N cN fs r, get T m = some (.cells (.mref N 0 L.length cN :: fs)) ∧ get N m = some (.cells (nc L ++ r)) ∧ T ≠ N
section
variable {L : List Nd} {m m' : Heap} {T : Nat} {Q E : AV → Heap → Prop} {p : Nd} {i : Int}
theorem Nds.ext (h : Nds L m T) (he : Ext [] m m') : Nds L m' T := by
  obtain ⟨N, cN, fs, r, h1, h2, h3⟩ := h
  exact ⟨N, cN, fs, r, he _ _ h1 (by simp), he _ _ h2 (by simp), h3⟩
theorem is_s (h : Nds L m T) (k : Q (bo (at? L i).isSome) m) : ACall Try.prog 40 [.ptr T 0, iv i] m Q E := by
  obtain ⟨N, cN, fs, r, h1, h2, _⟩ := h
  refine acall_fn mixed Try.func40 Try.call40 e40 r40 (Nat.le_of_ble_eq_true rfl) ?_
  by_cases c1 : 0 ≤ i
  · by_cases c2 : i < (L.length : Int)
    · have e : (at? L i).isSome = true := by unfold at?; rw [if_neg (by omega)]; simp; omega
      rw [e] at k
      simp only [n40, h1, c1, c2, wf_preprocess, ↓reduceIte, Nat.reduceEqDiff, reduceCtorEq, Nat.reduceAdd, Nat.reduceMul, Nat.reduceLeDiff, Nat.reduceLT, Nat.reduceSub, Int.reduceToNat, Int.reduceNeg, Int.reduceAdd, Int.reduceSub, Int.reduceMul, Int.reduceEq, Int.reduceLT, Int.reduceLE, Int.reduceNe, forall_const, forall_eq', forall_eq, List.forall_mem_cons, List.not_mem_nil]
      exact k
    · rw [at_none (by omega)] at k
      simp only [n40, h1, c1, c2, wf_preprocess, ↓reduceIte, Nat.reduceEqDiff, reduceCtorEq, Nat.reduceAdd, Nat.reduceMul, Nat.reduceLeDiff, Nat.reduceLT, Nat.reduceSub, Int.reduceToNat, Int.reduceNeg, Int.reduceAdd, Int.reduceSub, Int.reduceMul, Int.reduceEq, Int.reduceLT, Int.reduceLE, Int.reduceNe, forall_const, forall_eq', forall_eq, List.forall_mem_cons, List.not_mem_nil]
      exact k
  · rw [at_neg (by omega)] at k
    simp only [n40, c1, wf_preprocess, ↓reduceIte, Nat.reduceEqDiff, reduceCtorEq, Nat.reduceAdd, Nat.reduceMul, Nat.reduceLeDiff, Nat.reduceLT, Nat.reduceSub, Int.reduceToNat, Int.reduceNeg, Int.reduceAdd, Int.reduceSub, Int.reduceMul, Int.reduceEq, Int.reduceLT, Int.reduceLE, Int.reduceNe, forall_const, forall_eq', forall_eq, List.forall_mem_cons, List.not_mem_nil]
    exact k
theorem ris_s (h : Nds L m T) (k : Q (bo (at? L i).isSome) m) : ACall Try.prog 43 [.ptr T 0, iv i] m Q E := by
  obtain ⟨N, cN, fs, r, h1, h2, _⟩ := h
  refine acall_fn mixed Try.func43 Try.call43 e43 r43 (Nat.le_of_ble_eq_true rfl) ?_
  by_cases c1 : 0 ≤ i
  · by_cases c2 : i < (L.length : Int)
    · have e : (at? L i).isSome = true := by unfold at?; rw [if_neg (by omega)]; simp; omega
      rw [e] at k
      simp only [n43, h1, c1, c2, wf_preprocess, ↓reduceIte, Nat.reduceEqDiff, reduceCtorEq, Nat.reduceAdd, Nat.reduceMul, Nat.reduceLeDiff, Nat.reduceLT, Nat.reduceSub, Int.reduceToNat, Int.reduceNeg, Int.reduceAdd, Int.reduceSub, Int.reduceMul, Int.reduceEq, Int.reduceLT, Int.reduceLE, Int.reduceNe, forall_const, forall_eq', forall_eq, List.forall_mem_cons, List.not_mem_nil]
      exact k
    · rw [at_none (by omega)] at k
      simp only [n43, h1, c1, c2, wf_preprocess, ↓reduceIte, Nat.reduceEqDiff, reduceCtorEq, Nat.reduceAdd, Nat.reduceMul, Nat.reduceLeDiff, Nat.reduceLT, Nat.reduceSub, Int.reduceToNat, Int.reduceNeg, Int.reduceAdd, Int.reduceSub, Int.reduceMul, Int.reduceEq, Int.reduceLT, Int.reduceLE, Int.reduceNe, forall_const, forall_eq', forall_eq, List.forall_mem_cons, List.not_mem_nil]
      exact k
  · rw [at_neg (by omega)] at k
    simp only [n43, c1, wf_preprocess, ↓reduceIte, Nat.reduceEqDiff, reduceCtorEq, Nat.reduceAdd, Nat.reduceMul, Nat.reduceLeDiff, Nat.reduceLT, Nat.reduceSub, Int.reduceToNat, Int.reduceNeg, Int.reduceAdd, Int.reduceSub, Int.reduceMul, Int.reduceEq, Int.reduceLT, Int.reduceLE, Int.reduceNe, forall_const, forall_eq', forall_eq, List.forall_mem_cons, List.not_mem_nil]
    exact k
theorem Len_s (h : Nds L m T) (k : Q (iv L.length) m) : ACall Try.prog 10 [.ptr T 0] m Q E := by
  obtain ⟨N, cN, fs, r, h1, h2, _⟩ := h
  refine acall_fn mixed Try.func10 Try.call10 e10 r10 (Nat.le_of_ble_eq_true rfl) ?_
  simp only [n10, h1, wf_preprocess, ↓reduceIte, Nat.reduceEqDiff, reduceCtorEq, Nat.reduceAdd, Nat.reduceMul, Nat.reduceLeDiff, Nat.reduceLT, Nat.reduceSub, Int.reduceToNat, Int.reduceNeg, Int.reduceAdd, Int.reduceSub, Int.reduceMul, Int.reduceEq, Int.reduceLT, Int.reduceLE, Int.reduceNe, forall_const, forall_eq', forall_eq, List.forall_mem_cons, List.not_mem_nil]
  exact k
def nameA (L : List Nd) (i : Int) : ByteArray := ((at? L i).map (·.1)).getD ⟨#[]⟩
theorem Name_s (h : Nds L m T) (k : Q (.sc (.string (nameA L i))) m) : ACall Try.prog 13 [.ptr T 0, iv i] m Q E := by
  have hN := h
  obtain ⟨N, cN, fs, r, h1, h2, _⟩ := h
  refine acall_fn mixed Try.func13 Try.call13 e13 r13 (Nat.le_of_ble_eq_true rfl) ?_
  simp only [n13, wf_preprocess, ↓reduceIte, Nat.reduceEqDiff, reduceCtorEq, Nat.reduceAdd, Nat.reduceMul, Nat.reduceLeDiff, Nat.reduceLT, Nat.reduceSub, Int.reduceToNat, Int.reduceNeg, Int.reduceAdd, Int.reduceSub, Int.reduceMul, Int.reduceEq, Int.reduceLT, Int.reduceLE, Int.reduceNe, forall_const, forall_eq', forall_eq, List.forall_mem_cons, List.not_mem_nil]
  refine call_i (is_s hN ?_)
  unfold nameA at k
  cases ha : at? L i with
  | none =>
    rw [ha] at k
    simp only [Option.isSome_none, wf_preprocess, ↓reduceIte, Nat.reduceEqDiff, reduceCtorEq, Nat.reduceAdd, Nat.reduceMul, Nat.reduceLeDiff, Nat.reduceLT, Nat.reduceSub, Int.reduceToNat, Int.reduceNeg, Int.reduceAdd, Int.reduceSub, Int.reduceMul, Int.reduceEq, Int.reduceLT, Int.reduceLE, Int.reduceNe, forall_const, forall_eq', forall_eq, List.forall_mem_cons, List.not_mem_nil]
    exact k
  | some p =>
    rw [ha] at k
    obtain ⟨g0, g1, g2⟩ := at_some ha
    simp only [Option.isSome_some, h1, h2, g0, g1, nc_drop g2, nc_drop1 g2, wf_preprocess, ↓reduceIte, Nat.reduceEqDiff, reduceCtorEq, Nat.reduceAdd, Nat.reduceMul, Nat.reduceLeDiff, Nat.reduceLT, Nat.reduceSub, Int.reduceToNat, Int.reduceNeg, Int.reduceAdd, Int.reduceSub, Int.reduceMul, Int.reduceEq, Int.reduceLT, Int.reduceLE, Int.reduceNe, forall_const, forall_eq', forall_eq, List.forall_mem_cons, List.not_mem_nil]
    exact k
theorem rName_s (h : Nds L m T) (k : Q (.sc (.string (nameA L i))) m) : ACall Try.prog 35 [.ptr T 0, iv i] m Q E := by
  have hN := h
  obtain ⟨N, cN, fs, r, h1, h2, _⟩ := h
  refine acall_fn mixed Try.func35 Try.call35 e35 r35 (Nat.le_of_ble_eq_true rfl) ?_
  simp only [n35, wf_preprocess, ↓reduceIte, Nat.reduceEqDiff, reduceCtorEq, Nat.reduceAdd, Nat.reduceMul, Nat.reduceLeDiff, Nat.reduceLT, Nat.reduceSub, Int.reduceToNat, Int.reduceNeg, Int.reduceAdd, Int.reduceSub, Int.reduceMul, Int.reduceEq, Int.reduceLT, Int.reduceLE, Int.reduceNe, forall_const, forall_eq', forall_eq, List.forall_mem_cons, List.not_mem_nil]
  refine call_i (ris_s hN ?_)
  unfold nameA at k
  cases ha : at? L i with
  | none =>
    rw [ha] at k
    simp only [Option.isSome_none, wf_preprocess, ↓reduceIte, Nat.reduceEqDiff, reduceCtorEq, Nat.reduceAdd, Nat.reduceMul, Nat.reduceLeDiff, Nat.reduceLT, Nat.reduceSub, Int.reduceToNat, Int.reduceNeg, Int.reduceAdd, Int.reduceSub, Int.reduceMul, Int.reduceEq, Int.reduceLT, Int.reduceLE, Int.reduceNe, forall_const, forall_eq', forall_eq, List.forall_mem_cons, List.not_mem_nil]
    exact k
  | some p =>
    rw [ha] at k
    obtain ⟨g0, g1, g2⟩ := at_some ha
    simp only [Option.isSome_some, h1, h2, g0, g1, nc_drop g2, nc_drop1 g2, wf_preprocess, ↓reduceIte, Nat.reduceEqDiff, reduceCtorEq, Nat.reduceAdd, Nat.reduceMul, Nat.reduceLeDiff, Nat.reduceLT, Nat.reduceSub, Int.reduceToNat, Int.reduceNeg, Int.reduceAdd, Int.reduceSub, Int.reduceMul, Int.reduceEq, Int.reduceLT, Int.reduceLE, Int.reduceNe, forall_const, forall_eq', forall_eq, List.forall_mem_cons, List.not_mem_nil]
    exact k
theorem Up_s (h : Nds L m T) (k : Q (iv (upA L i)) m) : ACall Try.prog 14 [.ptr T 0, iv i] m Q E := by
  have hN := h
  obtain ⟨N, cN, fs, r, h1, h2, _⟩ := h
  refine acall_fn mixed Try.func14 Try.call14 e14 r14 (Nat.le_of_ble_eq_true rfl) ?_
  simp only [n14, wf_preprocess, ↓reduceIte, Nat.reduceEqDiff, reduceCtorEq, Nat.reduceAdd, Nat.reduceMul, Nat.reduceLeDiff, Nat.reduceLT, Nat.reduceSub, Int.reduceToNat, Int.reduceNeg, Int.reduceAdd, Int.reduceSub, Int.reduceMul, Int.reduceEq, Int.reduceLT, Int.reduceLE, Int.reduceNe, forall_const, forall_eq', forall_eq, List.forall_mem_cons, List.not_mem_nil]
  refine call_i (is_s hN ?_)
  unfold upA at k
  cases ha : at? L i with
  | none =>
    rw [ha] at k
    simp only [Option.isSome_none, wf_preprocess, ↓reduceIte, Nat.reduceEqDiff, reduceCtorEq, Nat.reduceAdd, Nat.reduceMul, Nat.reduceLeDiff, Nat.reduceLT, Nat.reduceSub, Int.reduceToNat, Int.reduceNeg, Int.reduceAdd, Int.reduceSub, Int.reduceMul, Int.reduceEq, Int.reduceLT, Int.reduceLE, Int.reduceNe, forall_const, forall_eq', forall_eq, List.forall_mem_cons, List.not_mem_nil]
    exact k
  | some p =>
    rw [ha] at k
    obtain ⟨g0, g1, g2⟩ := at_some ha
    simp only [Option.isSome_some, h1, h2, g0, g1, nc_drop g2, nc_drop1 g2, wf_preprocess, ↓reduceIte, Nat.reduceEqDiff, reduceCtorEq, Nat.reduceAdd, Nat.reduceMul, Nat.reduceLeDiff, Nat.reduceLT, Nat.reduceSub, Int.reduceToNat, Int.reduceNeg, Int.reduceAdd, Int.reduceSub, Int.reduceMul, Int.reduceEq, Int.reduceLT, Int.reduceLE, Int.reduceNe, forall_const, forall_eq', forall_eq, List.forall_mem_cons, List.not_mem_nil]
    exact k
theorem rUp_s (h : Nds L m T) (k : Q (iv (upA L i)) m) : ACall Try.prog 34 [.ptr T 0, iv i] m Q E := by
  have hN := h
  obtain ⟨N, cN, fs, r, h1, h2, _⟩ := h
  refine acall_fn mixed Try.func34 Try.call34 e34 r34 (Nat.le_of_ble_eq_true rfl) ?_
  simp only [n34, wf_preprocess, ↓reduceIte, Nat.reduceEqDiff, reduceCtorEq, Nat.reduceAdd, Nat.reduceMul, Nat.reduceLeDiff, Nat.reduceLT, Nat.reduceSub, Int.reduceToNat, Int.reduceNeg, Int.reduceAdd, Int.reduceSub, Int.reduceMul, Int.reduceEq, Int.reduceLT, Int.reduceLE, Int.reduceNe, forall_const, forall_eq', forall_eq, List.forall_mem_cons, List.not_mem_nil]
  refine call_i (ris_s hN ?_)
  unfold upA at k
  cases ha : at? L i with
  | none =>
    rw [ha] at k
    simp only [Option.isSome_none, wf_preprocess, ↓reduceIte, Nat.reduceEqDiff, reduceCtorEq, Nat.reduceAdd, Nat.reduceMul, Nat.reduceLeDiff, Nat.reduceLT, Nat.reduceSub, Int.reduceToNat, Int.reduceNeg, Int.reduceAdd, Int.reduceSub, Int.reduceMul, Int.reduceEq, Int.reduceLT, Int.reduceLE, Int.reduceNe, forall_const, forall_eq', forall_eq, List.forall_mem_cons, List.not_mem_nil]
    exact k
  | some p =>
    rw [ha] at k
    obtain ⟨g0, g1, g2⟩ := at_some ha
    simp only [Option.isSome_some, h1, h2, g0, g1, nc_drop g2, nc_drop1 g2, wf_preprocess, ↓reduceIte, Nat.reduceEqDiff, reduceCtorEq, Nat.reduceAdd, Nat.reduceMul, Nat.reduceLeDiff, Nat.reduceLT, Nat.reduceSub, Int.reduceToNat, Int.reduceNeg, Int.reduceAdd, Int.reduceSub, Int.reduceMul, Int.reduceEq, Int.reduceLT, Int.reduceLE, Int.reduceNe, forall_const, forall_eq', forall_eq, List.forall_mem_cons, List.not_mem_nil]
    exact k

/-- All that is above one ends. -/
abbrev FinL (L : List Nd) : Prop := ∀ i : Int, (ab L i).length ≤ L.length
theorem ab_at' (h : FinL L) (hp : at? L i = some p) : ab L i = i.toNat :: ab L p.2 := by
  obtain ⟨g0, g1, g2⟩ := at_some hp
  have := ab_at h g2
  rwa [Int.toNat_of_nonneg g0] at this
/-- A buffer of one's own, new since m. -/
structure Own' (m m' : Heap) (v : AV) (l : List Int) : Prop where
  ext : Ext [] m m'
  buf : BufI .i64 l v m'
  new : ∀ i ∈ refs v, i ∉ keys m
theorem Own'.push {v v' : AV} {m2 : Heap} {l l2 : List Int} (h : Own' m m' v l) (h1 : BufI .i64 (l ++ l2) v' m2) (h2 : Ext (refs v) m' m2) (h3 : v' = v ∨ ∀ i ∈ refs v', i ∉ keys m') : Own' m m2 v' (l ++ l2) := by
  refine ⟨h.ext.fresh h2 fun i hi => .inr (h.new i hi), h1, ?_⟩
  rcases h3 with rfl | h3
  · exact h.new
  · exact fun i hi hk => h3 i hi (by
      cases hg : get i m with
      | none => exact absurd hk (not_keys hg)
      | some ob => exact mem_keys (h.ext i ob hg (by simp)))
theorem Own'.nil : Own' m m (.lst [] .nil) [] := ⟨.rfl', BufI.nil, by simp [refs]⟩
theorem Above_s (h : Nds L m T) (hf : FinL L) (hl : L.length ≤ 1000) (k : ∀ v m', Own' m m' v (il (ab L i)) → Q v m') : ACall Try.prog 27 [.ptr T 0, iv i] m Q E := by
  refine acall_fn mixed Try.func27 Try.call27 e27 r27 (Nat.le_of_ble_eq_true rfl) ?_
  simp only [n27, wf_preprocess, ↓reduceIte, Nat.reduceEqDiff, reduceCtorEq, Nat.reduceAdd, Nat.reduceMul, Nat.reduceLeDiff, Nat.reduceLT, Nat.reduceSub, Int.reduceToNat, Int.reduceNeg, Int.reduceAdd, Int.reduceSub, Int.reduceMul, Int.reduceEq, Int.reduceLT, Int.reduceLE, Int.reduceNe, forall_const, forall_eq', forall_eq, List.forall_mem_cons, List.not_mem_nil]
  refine loop_i (fun kk ρ m' => ∃ (d : List Nat) (c : Int) (v : AV), kk = (ab L c).length ∧ ab L i = d ++ ab L c ∧ Own' m m' v (il d) ∧ ρ 0 = .ptr T 0 ∧ ρ 1 = iv c ∧ ρ 5 = v) (ab L i).length ⟨[], i, .lst [] .nil, rfl, rfl, Own'.nil, ?_⟩ ?_
  · simp only [wf_preprocess, ↓reduceIte, Nat.reduceEqDiff, reduceCtorEq, Nat.reduceAdd, Nat.reduceMul, Nat.reduceLeDiff, Nat.reduceLT, Nat.reduceSub, Int.reduceToNat, Int.reduceNeg, Int.reduceAdd, Int.reduceSub, Int.reduceMul, Int.reduceEq, Int.reduceLT, Int.reduceLE, Int.reduceNe, forall_const, forall_eq', forall_eq, List.forall_mem_cons, List.not_mem_nil]
  rintro kk ρ m' ⟨d, c, v, rfl, hd, ho, h0, h1, h5⟩
  have hN := h.ext ho.ext
  simp only [h0, h1, h5, wf_preprocess, ↓reduceIte, Nat.reduceEqDiff, reduceCtorEq, Nat.reduceAdd, Nat.reduceMul, Nat.reduceLeDiff, Nat.reduceLT, Nat.reduceSub, Int.reduceToNat, Int.reduceNeg, Int.reduceAdd, Int.reduceSub, Int.reduceMul, Int.reduceEq, Int.reduceLT, Int.reduceLE, Int.reduceNe, forall_const, forall_eq', forall_eq, List.forall_mem_cons, List.not_mem_nil]
  refine call_i (is_s hN ?_)
  cases ha : at? L c with
  | none =>
    rw [ab_none ha, List.append_nil] at hd
    rw [← hd] at ho
    simp only [Option.isSome_none, h0, h1, h5, wf_preprocess, ↓reduceIte, Nat.reduceEqDiff, reduceCtorEq, Nat.reduceAdd, Nat.reduceMul, Nat.reduceLeDiff, Nat.reduceLT, Nat.reduceSub, Int.reduceToNat, Int.reduceNeg, Int.reduceAdd, Int.reduceSub, Int.reduceMul, Int.reduceEq, Int.reduceLT, Int.reduceLE, Int.reduceNe, forall_const, forall_eq', forall_eq, List.forall_mem_cons, List.not_mem_nil]
    exact k v m' ho
  | some p =>
    obtain ⟨g0, g1, g2⟩ := at_some ha
    have e := ab_at' hf ha
    have hlen := congrArg List.length hd
    have hfi := hf i
    rw [List.length_append, e, List.length_cons] at hlen
    simp only [Option.isSome_some, h0, h1, h5, wf_preprocess, ↓reduceIte, Nat.reduceEqDiff, reduceCtorEq, Nat.reduceAdd, Nat.reduceMul, Nat.reduceLeDiff, Nat.reduceLT, Nat.reduceSub, Int.reduceToNat, Int.reduceNeg, Int.reduceAdd, Int.reduceSub, Int.reduceMul, Int.reduceEq, Int.reduceLT, Int.reduceLE, Int.reduceNe, forall_const, forall_eq', forall_eq, List.forall_mem_cons, List.not_mem_nil]
    refine app_bufI (l2 := il [c.toNat]) ho.buf (by simp [il, Int.toNat_of_nonneg g0, aelems]) (by rw [il_len, il_len]; simp; omega) (by rw [maxLen_e, il_len, il_len]; simp; omega) fun v' m2 hb hx hn => ?_
    have ho' := ho.push hb hx hn
    obtain ⟨N, cN, fs, r, k1, k2, _⟩ := h.ext ho'.ext
    simp only [h0, h1, h5, k1, k2, g0, g1, nc_drop1 g2, wf_preprocess, ↓reduceIte, Nat.reduceEqDiff, reduceCtorEq, Nat.reduceAdd, Nat.reduceMul, Nat.reduceLeDiff, Nat.reduceLT, Nat.reduceSub, Int.reduceToNat, Int.reduceNeg, Int.reduceAdd, Int.reduceSub, Int.reduceMul, Int.reduceEq, Int.reduceLT, Int.reduceLE, Int.reduceNe, forall_const, forall_eq', forall_eq, List.forall_mem_cons, List.not_mem_nil]
    refine ⟨(ab L p.2).length, by rw [e]; simp, d ++ [c.toNat], p.2, v', rfl, by rw [hd, e]; simp, by rw [il_app]; exact ho', rfl, rfl⟩
theorem rAbove_s (h : Nds L m T) (hf : FinL L) (hl : L.length ≤ 1000) (k : ∀ v m', Own' m m' v (il (ab L i)) → Q v m') : ACall Try.prog 28 [.ptr T 0, iv i] m Q E := by
  refine acall_fn mixed Try.func28 Try.call28 e28 r28 (Nat.le_of_ble_eq_true rfl) ?_
  simp only [n28, wf_preprocess, ↓reduceIte, Nat.reduceEqDiff, reduceCtorEq, Nat.reduceAdd, Nat.reduceMul, Nat.reduceLeDiff, Nat.reduceLT, Nat.reduceSub, Int.reduceToNat, Int.reduceNeg, Int.reduceAdd, Int.reduceSub, Int.reduceMul, Int.reduceEq, Int.reduceLT, Int.reduceLE, Int.reduceNe, forall_const, forall_eq', forall_eq, List.forall_mem_cons, List.not_mem_nil]
  refine loop_i (fun kk ρ m' => ∃ (d : List Nat) (c : Int) (v : AV), kk = (ab L c).length ∧ ab L i = d ++ ab L c ∧ Own' m m' v (il d) ∧ ρ 0 = .ptr T 0 ∧ ρ 1 = iv c ∧ ρ 5 = v) (ab L i).length ⟨[], i, .lst [] .nil, rfl, rfl, Own'.nil, ?_⟩ ?_
  · simp only [wf_preprocess, ↓reduceIte, Nat.reduceEqDiff, reduceCtorEq, Nat.reduceAdd, Nat.reduceMul, Nat.reduceLeDiff, Nat.reduceLT, Nat.reduceSub, Int.reduceToNat, Int.reduceNeg, Int.reduceAdd, Int.reduceSub, Int.reduceMul, Int.reduceEq, Int.reduceLT, Int.reduceLE, Int.reduceNe, forall_const, forall_eq', forall_eq, List.forall_mem_cons, List.not_mem_nil]
  rintro kk ρ m' ⟨d, c, v, rfl, hd, ho, h0, h1, h5⟩
  have hN := h.ext ho.ext
  obtain ⟨N, cN, fs, r, k1, k2, _⟩ := hN
  simp only [h0, h1, h5, wf_preprocess, ↓reduceIte, Nat.reduceEqDiff, reduceCtorEq, Nat.reduceAdd, Nat.reduceMul, Nat.reduceLeDiff, Nat.reduceLT, Nat.reduceSub, Int.reduceToNat, Int.reduceNeg, Int.reduceAdd, Int.reduceSub, Int.reduceMul, Int.reduceEq, Int.reduceLT, Int.reduceLE, Int.reduceNe, forall_const, forall_eq', forall_eq, List.forall_mem_cons, List.not_mem_nil]
  refine call_i (ris_s (h.ext ho.ext) ?_)
  cases ha : at? L c with
  | none =>
    rw [ab_none ha, List.append_nil] at hd
    rw [← hd] at ho
    simp only [Option.isSome_none, h0, h1, h5, wf_preprocess, ↓reduceIte, Nat.reduceEqDiff, reduceCtorEq, Nat.reduceAdd, Nat.reduceMul, Nat.reduceLeDiff, Nat.reduceLT, Nat.reduceSub, Int.reduceToNat, Int.reduceNeg, Int.reduceAdd, Int.reduceSub, Int.reduceMul, Int.reduceEq, Int.reduceLT, Int.reduceLE, Int.reduceNe, forall_const, forall_eq', forall_eq, List.forall_mem_cons, List.not_mem_nil]
    exact k v m' ho
  | some p =>
    obtain ⟨g0, g1, g2⟩ := at_some ha
    have e := ab_at' hf ha
    have hlen := congrArg List.length hd
    have hfi := hf i
    rw [List.length_append, e, List.length_cons] at hlen
    have hle : (((il d).length : Nat) : Int) ≤ (L.length : Int) := by rw [il_len]; omega
    simp only [Option.isSome_some, h0, h1, h5, k1, onLst_len (BufI.ei ho.buf).lenIs, hle, wf_preprocess, ↓reduceIte, Nat.reduceEqDiff, reduceCtorEq, Nat.reduceAdd, Nat.reduceMul, Nat.reduceLeDiff, Nat.reduceLT, Nat.reduceSub, Int.reduceToNat, Int.reduceNeg, Int.reduceAdd, Int.reduceSub, Int.reduceMul, Int.reduceEq, Int.reduceLT, Int.reduceLE, Int.reduceNe, forall_const, forall_eq', forall_eq, List.forall_mem_cons, List.not_mem_nil]
    refine app_bufI (l2 := il [c.toNat]) ho.buf (by simp [il, Int.toNat_of_nonneg g0, aelems]) (by rw [il_len, il_len]; simp; omega) (by rw [maxLen_e, il_len, il_len]; simp; omega) fun v' m2 hb hx hn => ?_
    have ho' := ho.push hb hx hn
    obtain ⟨N, cN, fs, r, k1, k2, _⟩ := h.ext ho'.ext
    simp only [h0, h1, h5, k1, k2, g0, g1, nc_drop1 g2, wf_preprocess, ↓reduceIte, Nat.reduceEqDiff, reduceCtorEq, Nat.reduceAdd, Nat.reduceMul, Nat.reduceLeDiff, Nat.reduceLT, Nat.reduceSub, Int.reduceToNat, Int.reduceNeg, Int.reduceAdd, Int.reduceSub, Int.reduceMul, Int.reduceEq, Int.reduceLT, Int.reduceLE, Int.reduceNe, forall_const, forall_eq', forall_eq, List.forall_mem_cons, List.not_mem_nil]
    refine ⟨(ab L p.2).length, by rw [e]; simp, d ++ [c.toNat], p.2, v', rfl, by rw [hd, e]; simp, by rw [il_app]; exact ho', rfl, rfl⟩
theorem Depth_s (h : Nds L m T) (hf : FinL L) (hl : L.length ≤ 1000) (k : ∀ m', Ext [] m m' → Q (iv ((ab L i).length - 1 : Nat)) m') : ACall Try.prog 15 [.ptr T 0, iv i] m Q E := by
  refine acall_fn mixed Try.func15 Try.call15 e15 r15 (Nat.le_of_ble_eq_true rfl) ?_
  simp only [n15, wf_preprocess, ↓reduceIte, Nat.reduceEqDiff, reduceCtorEq, Nat.reduceAdd, Nat.reduceMul, Nat.reduceLeDiff, Nat.reduceLT, Nat.reduceSub, Int.reduceToNat, Int.reduceNeg, Int.reduceAdd, Int.reduceSub, Int.reduceMul, Int.reduceEq, Int.reduceLT, Int.reduceLE, Int.reduceNe, forall_const, forall_eq', forall_eq, List.forall_mem_cons, List.not_mem_nil]
  refine call_i (Above_s h hf hl fun v m' ho => ?_)
  have := hf i
  have w1 : IntKind.i64.wrap (((il (ab L i)).length : Int) - 1) = ((ab L i).length : Int) - 1 := by rw [il_len, wrap64] <;> omega
  have w2 : max 0 (((ab L i).length : Int) - 1) = ((ab L i).length - 1 : Nat) := by omega
  simp only [onLst_len (BufI.ei ho.buf).lenIs, w1, w2, wf_preprocess, ↓reduceIte, Nat.reduceEqDiff, reduceCtorEq, Nat.reduceAdd, Nat.reduceMul, Nat.reduceLeDiff, Nat.reduceLT, Nat.reduceSub, Int.reduceToNat, Int.reduceNeg, Int.reduceAdd, Int.reduceSub, Int.reduceMul, Int.reduceEq, Int.reduceLT, Int.reduceLE, Int.reduceNe, forall_const, forall_eq', forall_eq, List.forall_mem_cons, List.not_mem_nil]
  exact k m' ho.ext
theorem rDepth_s (h : Nds L m T) (hf : FinL L) (hl : L.length ≤ 1000) (k : ∀ m', Ext [] m m' → Q (iv ((ab L i).length - 1 : Nat)) m') : ACall Try.prog 16 [.ptr T 0, iv i] m Q E := by
  refine acall_fn mixed Try.func16 Try.call16 e16 r16 (Nat.le_of_ble_eq_true rfl) ?_
  simp only [n16, wf_preprocess, ↓reduceIte, Nat.reduceEqDiff, reduceCtorEq, Nat.reduceAdd, Nat.reduceMul, Nat.reduceLeDiff, Nat.reduceLT, Nat.reduceSub, Int.reduceToNat, Int.reduceNeg, Int.reduceAdd, Int.reduceSub, Int.reduceMul, Int.reduceEq, Int.reduceLT, Int.reduceLE, Int.reduceNe, forall_const, forall_eq', forall_eq, List.forall_mem_cons, List.not_mem_nil]
  refine call_i (rAbove_s h hf hl fun v m' ho => ?_)
  have := hf i
  by_cases c : (ab L i).length = 0
  · have c' : ((il (ab L i)).length : Int) = 0 := by rw [il_len]; omega
    have := k m' ho.ext
    rw [c] at this
    simp only [onLst_len (BufI.ei ho.buf).lenIs, c', wf_preprocess, ↓reduceIte, Nat.reduceEqDiff, reduceCtorEq, Nat.reduceAdd, Nat.reduceMul, Nat.reduceLeDiff, Nat.reduceLT, Nat.reduceSub, Int.reduceToNat, Int.reduceNeg, Int.reduceAdd, Int.reduceSub, Int.reduceMul, Int.reduceEq, Int.reduceLT, Int.reduceLE, Int.reduceNe, forall_const, forall_eq', forall_eq, List.forall_mem_cons, List.not_mem_nil]
    exact this
  · have c' : ¬ ((il (ab L i)).length : Int) = 0 := by rw [il_len]; omega
    have w1 : IntKind.i64.wrap (((il (ab L i)).length : Int) - 1) = ((ab L i).length - 1 : Nat) := by rw [il_len, wrap64] <;> omega
    simp only [onLst_len (BufI.ei ho.buf).lenIs, c', w1, wf_preprocess, ↓reduceIte, Nat.reduceEqDiff, reduceCtorEq, Nat.reduceAdd, Nat.reduceMul, Nat.reduceLeDiff, Nat.reduceLT, Nat.reduceSub, Int.reduceToNat, Int.reduceNeg, Int.reduceAdd, Int.reduceSub, Int.reduceMul, Int.reduceEq, Int.reduceLT, Int.reduceLE, Int.reduceNe, forall_const, forall_eq', forall_eq, List.forall_mem_cons, List.not_mem_nil]
    exact k m' ho.ext
theorem Within_s {x : Int} (h : Nds L m T) (hf : FinL L) (hl : L.length ≤ 1000) (k : ∀ m', Ext [] m m' → Q (bo (decide (x ∈ il (ab L i)))) m') : ACall Try.prog 19 [.ptr T 0, iv i, iv x] m Q E := by
  refine acall_fn mixed Try.func19 Try.call19 e19 r19 (Nat.le_of_ble_eq_true rfl) ?_
  simp only [n19, wf_preprocess, ↓reduceIte, Nat.reduceEqDiff, reduceCtorEq, Nat.reduceAdd, Nat.reduceMul, Nat.reduceLeDiff, Nat.reduceLT, Nat.reduceSub, Int.reduceToNat, Int.reduceNeg, Int.reduceAdd, Int.reduceSub, Int.reduceMul, Int.reduceEq, Int.reduceLT, Int.reduceLE, Int.reduceNe, forall_const, forall_eq', forall_eq, List.forall_mem_cons, List.not_mem_nil]
  refine call_i (Above_s h hf hl fun v m' ho => ?_)
  have := hf i
  simp only [wf_preprocess, ↓reduceIte, Nat.reduceEqDiff, reduceCtorEq, Nat.reduceAdd, Nat.reduceMul, Nat.reduceLeDiff, Nat.reduceLT, Nat.reduceSub, Int.reduceToNat, Int.reduceNeg, Int.reduceAdd, Int.reduceSub, Int.reduceMul, Int.reduceEq, Int.reduceLT, Int.reduceLE, Int.reduceNe, forall_const, forall_eq', forall_eq, List.forall_mem_cons, List.not_mem_nil]
  refine call_i (Contains_s (BufI.ei ho.buf) (by rw [il_len]; omega) ?_)
  simp only [wf_preprocess, ↓reduceIte, Nat.reduceEqDiff, reduceCtorEq, Nat.reduceAdd, Nat.reduceMul, Nat.reduceLeDiff, Nat.reduceLT, Nat.reduceSub, Int.reduceToNat, Int.reduceNeg, Int.reduceAdd, Int.reduceSub, Int.reduceMul, Int.reduceEq, Int.reduceLT, Int.reduceLE, Int.reduceNe, forall_const, forall_eq', forall_eq, List.forall_mem_cons, List.not_mem_nil]
  exact k m' ho.ext
theorem rWithin_s {x : Int} (h : Nds L m T) (hf : FinL L) (hl : L.length ≤ 1000) (k : ∀ m', Ext [] m m' → Q (bo (decide (x ∈ il (ab L i)))) m') : ACall Try.prog 29 [.ptr T 0, iv i, iv x] m Q E := by
  refine acall_fn mixed Try.func29 Try.call29 e29 r29 (Nat.le_of_ble_eq_true rfl) ?_
  simp only [n29, wf_preprocess, ↓reduceIte, Nat.reduceEqDiff, reduceCtorEq, Nat.reduceAdd, Nat.reduceMul, Nat.reduceLeDiff, Nat.reduceLT, Nat.reduceSub, Int.reduceToNat, Int.reduceNeg, Int.reduceAdd, Int.reduceSub, Int.reduceMul, Int.reduceEq, Int.reduceLT, Int.reduceLE, Int.reduceNe, forall_const, forall_eq', forall_eq, List.forall_mem_cons, List.not_mem_nil]
  refine call_i (rAbove_s h hf hl fun v m' ho => ?_)
  have hfi := hf i
  have hlen : (il (ab L i)).length ≤ 1000 := by rw [il_len]; omega
  have he := BufI.ei ho.buf
  have k := k m' ho.ext
  generalize il (ab L i) = l at *
  simp only [wf_preprocess, ↓reduceIte, Nat.reduceEqDiff, reduceCtorEq, Nat.reduceAdd, Nat.reduceMul, Nat.reduceLeDiff, Nat.reduceLT, Nat.reduceSub, Int.reduceToNat, Int.reduceNeg, Int.reduceAdd, Int.reduceSub, Int.reduceMul, Int.reduceEq, Int.reduceLT, Int.reduceLE, Int.reduceNe, forall_const, forall_eq', forall_eq, List.forall_mem_cons, List.not_mem_nil]
  refine loop_i (fun kk ρ m2 => ∃ (j : Nat), kk = l.length - j ∧ j ≤ l.length ∧ ρ 2 = iv x ∧ ρ 7 = v ∧ ρ 8 = iv j ∧ x ∉ l.take j ∧ m2 = m') l.length ⟨0, rfl, by omega, ?_⟩ ?_
  · simp only [List.take_zero, wf_preprocess, ↓reduceIte, Nat.reduceEqDiff, reduceCtorEq, Nat.reduceAdd, Nat.reduceMul, Nat.reduceLeDiff, Nat.reduceLT, Nat.reduceSub, Int.reduceToNat, Int.reduceNeg, Int.reduceAdd, Int.reduceSub, Int.reduceMul, Int.reduceEq, Int.reduceLT, Int.reduceLE, Int.reduceNe, forall_const, forall_eq', forall_eq, List.forall_mem_cons, List.not_mem_nil]
  rintro kk ρ m2 ⟨j, rfl, hj, h2, h7, h8, hn, rfl⟩
  by_cases hlt : (j : Int) < (l.length : Int)
  · obtain ⟨q, hq⟩ : ∃ q, l[j]? = some q := ⟨_, List.getElem?_eq_getElem (by omega)⟩
    have w1 : IntKind.i64.wrap ((j : Int) + 1) = ((j + 1 : Nat) : Int) := wrap64 (by omega) (by omega)
    simp only [h2, h7, h8, hlt, onLst_len he.lenIs, Int.natCast_nonneg, wf_preprocess, ↓reduceIte, Nat.reduceEqDiff, reduceCtorEq, Nat.reduceAdd, Nat.reduceMul, Nat.reduceLeDiff, Nat.reduceLT, Nat.reduceSub, Int.reduceToNat, Int.reduceNeg, Int.reduceAdd, Int.reduceSub, Int.reduceMul, Int.reduceEq, Int.reduceLT, Int.reduceLE, Int.reduceNe, forall_const, forall_eq', forall_eq, List.forall_mem_cons, List.not_mem_nil]
    refine Ei.idx (n := (j : Int)) he (by omega) (by simpa using hq) fun a1 r1 ha1 => ?_
    by_cases e : q = x
    · subst e
      rw [decide_eq_true (List.mem_of_getElem? hq)] at k
      simp only [h2, h7, h8, ha1, wf_preprocess, ↓reduceIte, Nat.reduceEqDiff, reduceCtorEq, Nat.reduceAdd, Nat.reduceMul, Nat.reduceLeDiff, Nat.reduceLT, Nat.reduceSub, Int.reduceToNat, Int.reduceNeg, Int.reduceAdd, Int.reduceSub, Int.reduceMul, Int.reduceEq, Int.reduceLT, Int.reduceLE, Int.reduceNe, forall_const, forall_eq', forall_eq, List.forall_mem_cons, List.not_mem_nil]
      exact k
    · simp only [h2, h7, h8, ha1, e, w1, wf_preprocess, ↓reduceIte, Nat.reduceEqDiff, reduceCtorEq, Nat.reduceAdd, Nat.reduceMul, Nat.reduceLeDiff, Nat.reduceLT, Nat.reduceSub, Int.reduceToNat, Int.reduceNeg, Int.reduceAdd, Int.reduceSub, Int.reduceMul, Int.reduceEq, Int.reduceLT, Int.reduceLE, Int.reduceNe, forall_const, forall_eq', forall_eq, List.forall_mem_cons, List.not_mem_nil]
      refine ⟨l.length - (j + 1), by omega, j + 1, rfl, by omega, rfl, ?_⟩
      rw [List.take_add_one, hq]
      simp [hn]
      exact fun e' => e e'.symm
  · have e : l.take j = l := List.take_of_length_le (by omega)
    rw [e] at hn
    rw [decide_eq_false hn] at k
    simp only [h2, h7, h8, hlt, onLst_len he.lenIs, wf_preprocess, ↓reduceIte, Nat.reduceEqDiff, reduceCtorEq, Nat.reduceAdd, Nat.reduceMul, Nat.reduceLeDiff, Nat.reduceLT, Nat.reduceSub, Int.reduceToNat, Int.reduceNeg, Int.reduceAdd, Int.reduceSub, Int.reduceMul, Int.reduceEq, Int.reduceLT, Int.reduceLE, Int.reduceNe, forall_const, forall_eq', forall_eq, List.forall_mem_cons, List.not_mem_nil]
    exact k
end
end Go.Proofs.Ytceahampebofbaa.Moi.Tree
