/- What functions of this program do, on plain values: a part of the proofs of this seat's laws; each theorem bears its own conditions. -/
import Derived.Test.YtjegieklpeipaaaShareM
set_option linter.unusedVariables false
set_option linter.unusedSimpArgs false
set_option maxRecDepth 1000000
namespace Go.Proofs.Ytjegieklpeipaaa.Moi.Share
open Go Go.RowKit Go.Proofs.Ytjegieklpeipaaa.Moi Go.Proofs.Ytjegieklpeipaaa.Moi.Num
attribute [-wf_preprocess] ite_eq_dite forIn_eq_forIn'

/-! ### Numbers that are read, whatever holds them -/
def ul (l : List Nat) : List Int := l.map fun (n : Nat) => (n : Int)
abbrev uk (l : List Nat) : List AV := kl .u64 (ul l)
theorem ul_len {l : List Nat} : (ul l).length = l.length := by simp [ul]
theorem uk_len {l : List Nat} : (uk l).length = l.length := by simp [ul]
theorem ul_get {l : List Nat} {i x : Nat} (h : l[i]? = some x) : (ul l)[i]? = some (x : Int) := by simp [ul, h]
theorem ul_app {a b : List Nat} : ul (a ++ b) = ul a ++ ul b := List.map_append
theorem ul_set {l : List Nat} {i x : Nat} : ul (l.set i x) = (ul l).set i (x : Int) := List.map_set
theorem uk_set {l : List Nat} {i x : Nat} : (uk l).set i (un x) = uk (l.set i x) := by rw [uk, uk, ul_set, kl_set]
/-- A list of numbers that lies there. -/
def El (y : AV) (m : Heap) (l : List Nat) : Prop := (∃ o, y = .lst (uk l) o ∧ (o = .nil → l = [])) ∨ ∃ id off cap cs rest, y = .mref id off l.length cap ∧ get id m = some (.cells cs) ∧ cs.drop off = uk l ++ rest
section
variable {y v v2 : AV} {m m' : Heap} {l a b : List Nat} {Q E : AV → Heap → Prop}
theorem El.lst {o : Own} (h : o = .nil → l = []) : El (.lst (uk l) o) m l := .inl ⟨o, rfl, h⟩
theorem El.lenIs (h : El y m l) : LenIs y l.length := by
  rcases h with ⟨o, rfl, ho⟩ | ⟨id, off, cap, cs, rest, rfl, h1, h2⟩
  · exact .inl ⟨_, _, rfl, uk_len⟩
  · exact .inr ⟨_, _, _, rfl⟩
theorem El.ext {S : List Nat} (h : El y m l) (he : Ext S m m') (hs : ∀ i ∈ refs y, i ∉ S) : El y m' l := by
  rcases h with ⟨o, rfl, ho⟩ | ⟨id, off, cap, cs, rest, rfl, h1, h2⟩
  · exact .inl ⟨o, rfl, ho⟩
  · exact .inr ⟨id, off, cap, cs, rest, rfl, he _ _ h1 (hs id (by simp [refs])), h2⟩
theorem El.inK (h : El y m l) : ∀ i ∈ refs y, i ∈ keys m := by
  rcases h with ⟨o, rfl, ho⟩ | ⟨id, off, cap, cs, rest, rfl, h1, h2⟩
  · simp [refs]
  · intro i hi
    simp only [refs, List.mem_singleton] at hi
    subst hi
    exact mem_keys h1
theorem El.at (h : El y m l) : aelems none y m = some (uk l) := by
  rcases h with ⟨o, rfl, ho⟩ | ⟨id, off, cap, cs, rest, rfl, h1, h2⟩
  · rfl
  · simp only [aelems, h1, h2]
    have := chunk_ints (k := .u64) (ul l) rest
    rw [ul_len] at this
    exact this
theorem El.idx {n : Int} {x : Nat} {K : AV → Prop} (h : El y m l) (h0 : 0 ≤ n) (hx : l[n.toNat]? = some x) (k : ∀ a r, acells a m = some (un x :: r) → K a) :
    @onLst y ⟨fun es _ => @withS _ es[n.toNat]? ⟨fun e => e.cells.length = 1 ∧ @val (.vptr e.cells) ⟨K⟩⟩⟩ ⟨fun id off len _ => n < len ∧ @val (.ptr id (off + n.toNat * 1)) ⟨K⟩⟩ := by
  have hl := (List.getElem?_eq_some_iff.1 hx).1
  rcases h with ⟨o, rfl, ho⟩ | ⟨id, off, cap, cs, rest, rfl, h2, h3⟩
  · rw [onLst_l, kl_get (ul_get hx)]
    exact ⟨rfl, k _ [] rfl⟩
  · rw [onLst_m]
    refine ⟨by omega, k _ ((uk l ++ rest).drop (n.toNat + 1)) ?_⟩
    rw [acells_p, h2]
    show some (cs.drop _) = _
    rw [Nat.mul_one, ← List.drop_drop, h3, kl_drop (ul_get hx)]
theorem BufI.elU (h : BufI .u64 (ul l) y m) : El y m l := by
  rcases h with ⟨h1, h | h⟩ | ⟨id, cap, rest, rfl, hc, _, _, _, h5⟩
  · obtain rfl : l = [] := by simpa [krows, ul] using h1
    exact .inl ⟨.nil, h, fun _ => rfl⟩
  · obtain rfl : l = [] := by simpa [krows, ul] using h1
    exact .inl ⟨.full, h, fun _ => rfl⟩
  · rw [krows_len, ul_len]
    rw [krows_flat] at h5
    exact .inr ⟨id, 0, cap, _, rest, rfl, h5, rfl⟩
theorem take_eqN {i x : Nat} (h : a.take i = b.take i) (h1 : a[i]? = some x) (h2 : b[i]? = some x) : a.take (i + 1) = b.take (i + 1) := by
  rw [List.take_add_one, List.take_add_one, h, h1, h2]

theorem Same_s (h : El v m a) (h2 : El v2 m b) (hl : a.length ≤ 1000000) (k : Q (bo (decide (a = b))) m) : ACall Try.prog 12 [v, v2] m Q E := by
  refine acall_fn mixed Try.func12 Try.call12 e12 r12 (Nat.le_of_ble_eq_true rfl) ?_
  by_cases hne : (a.length : Int) = (b.length : Int)
  case neg =>
    have : a ≠ b := fun e => hne (by rw [e])
    rw [show decide (a = b) = false from decide_eq_false this] at k
    simp only [n12, onLst_len h.lenIs, onLst_len h2.lenIs, hne, wf_preprocess, ↓reduceIte, Nat.reduceEqDiff, reduceCtorEq, Nat.reduceAdd, Nat.reduceMul, Nat.reduceLeDiff, Nat.reduceLT, Nat.reduceSub, Int.reduceToNat, Int.reduceNeg, Int.reduceAdd, Int.reduceSub, Int.reduceMul, Int.reduceEq, Int.reduceLT, Int.reduceLE, Int.reduceNe, forall_const, forall_eq', forall_eq, List.forall_mem_cons, List.not_mem_nil]
    exact k
  simp only [n12, onLst_len h.lenIs, onLst_len h2.lenIs, eq_true hne, wf_preprocess, ↓reduceIte, Nat.reduceEqDiff, reduceCtorEq, Nat.reduceAdd, Nat.reduceMul, Nat.reduceLeDiff, Nat.reduceLT, Nat.reduceSub, Int.reduceToNat, Int.reduceNeg, Int.reduceAdd, Int.reduceSub, Int.reduceMul, Int.reduceEq, Int.reduceLT, Int.reduceLE, Int.reduceNe, forall_const, forall_eq', forall_eq, List.forall_mem_cons, List.not_mem_nil]
  refine loop_i (fun kk ρ m' => ∃ (i : Nat), kk = a.length - i ∧ i ≤ a.length ∧ ρ 0 = v ∧ ρ 1 = v2 ∧ ρ 5 = iv i ∧ a.take i = b.take i ∧ m' = m) a.length ⟨0, rfl, by omega, ?_⟩ ?_
  · simp only [wf_preprocess, ↓reduceIte, Nat.reduceEqDiff, reduceCtorEq, Nat.reduceAdd, Nat.reduceMul, Nat.reduceLeDiff, Nat.reduceLT, Nat.reduceSub, Int.reduceToNat, Int.reduceNeg, Int.reduceAdd, Int.reduceSub, Int.reduceMul, Int.reduceEq, Int.reduceLT, Int.reduceLE, Int.reduceNe, forall_const, forall_eq', forall_eq, List.forall_mem_cons, List.not_mem_nil]
  rintro kk ρ m' ⟨i, rfl, hi, h0, h1, h5, ht, rfl⟩
  by_cases hlt : (i : Int) < (a.length : Int)
  · obtain ⟨p, hp⟩ : ∃ p, a[i]? = some p := ⟨_, List.getElem?_eq_getElem (by omega)⟩
    obtain ⟨q, hq⟩ : ∃ q, b[i]? = some q := ⟨_, List.getElem?_eq_getElem (by omega)⟩
    have w1 : IntKind.i64.wrap ((i : Int) + 1) = ((i + 1 : Nat) : Int) := wrap64 (by omega) (by omega)
    simp only [h0, h1, h5, hlt, onLst_len h.lenIs, Int.natCast_nonneg, wf_preprocess, ↓reduceIte, Nat.reduceEqDiff, reduceCtorEq, Nat.reduceAdd, Nat.reduceMul, Nat.reduceLeDiff, Nat.reduceLT, Nat.reduceSub, Int.reduceToNat, Int.reduceNeg, Int.reduceAdd, Int.reduceSub, Int.reduceMul, Int.reduceEq, Int.reduceLT, Int.reduceLE, Int.reduceNe, forall_const, forall_eq', forall_eq, List.forall_mem_cons, List.not_mem_nil]
    refine El.idx (n := (i : Int)) h (by omega) (by simpa using hp) fun a1 r1 ha1 => ?_
    simp only [h0, h1, h5, ha1, hlt, Int.natCast_nonneg, wf_preprocess, ↓reduceIte, Nat.reduceEqDiff, reduceCtorEq, Nat.reduceAdd, Nat.reduceMul, Nat.reduceLeDiff, Nat.reduceLT, Nat.reduceSub, Int.reduceToNat, Int.reduceNeg, Int.reduceAdd, Int.reduceSub, Int.reduceMul, Int.reduceEq, Int.reduceLT, Int.reduceLE, Int.reduceNe, forall_const, forall_eq', forall_eq, List.forall_mem_cons, List.not_mem_nil]
    refine El.idx (n := (i : Int)) h2 (by omega) (by simpa using hq) fun a2 r2 ha2 => ?_
    by_cases hpq : p = q
    · subst hpq
      simp only [h0, h1, h5, ha2, w1, wf_preprocess, ↓reduceIte, Nat.reduceEqDiff, reduceCtorEq, Nat.reduceAdd, Nat.reduceMul, Nat.reduceLeDiff, Nat.reduceLT, Nat.reduceSub, Int.reduceToNat, Int.reduceNeg, Int.reduceAdd, Int.reduceSub, Int.reduceMul, Int.reduceEq, Int.reduceLT, Int.reduceLE, Int.reduceNe, forall_const, forall_eq', forall_eq, List.forall_mem_cons, List.not_mem_nil]
      exact ⟨a.length - (i + 1), by omega, i + 1, rfl, by omega, rfl, take_eqN ht hp hq⟩
    · have : a ≠ b := fun e => hpq (by rw [e] at hp; rw [hp] at hq; exact Option.some.inj hq)
      rw [show decide (a = b) = false from decide_eq_false this] at k
      have hpq' : ¬ (p : Int) = (q : Int) := by omega
      simp only [h0, h1, h5, ha2, hpq', w1, wf_preprocess, ↓reduceIte, Nat.reduceEqDiff, reduceCtorEq, Nat.reduceAdd, Nat.reduceMul, Nat.reduceLeDiff, Nat.reduceLT, Nat.reduceSub, Int.reduceToNat, Int.reduceNeg, Int.reduceAdd, Int.reduceSub, Int.reduceMul, Int.reduceEq, Int.reduceLT, Int.reduceLE, Int.reduceNe, forall_const, forall_eq', forall_eq, List.forall_mem_cons, List.not_mem_nil]
      exact k
  · have : a = b := by
      rw [List.take_of_length_le (by omega), List.take_of_length_le (by omega)] at ht
      exact ht
    rw [show decide (a = b) = true from decide_eq_true this] at k
    simp only [h0, h1, h5, hlt, onLst_len h.lenIs, wf_preprocess, ↓reduceIte, Nat.reduceEqDiff, reduceCtorEq, Nat.reduceAdd, Nat.reduceMul, Nat.reduceLeDiff, Nat.reduceLT, Nat.reduceSub, Int.reduceToNat, Int.reduceNeg, Int.reduceAdd, Int.reduceSub, Int.reduceMul, Int.reduceEq, Int.reduceLT, Int.reduceLE, Int.reduceNe, forall_const, forall_eq', forall_eq, List.forall_mem_cons, List.not_mem_nil]
    exact k
theorem Equal_s (h : El v m a) (h2 : El v2 m b) (hl : a.length ≤ 1000000) (k : Q (bo (decide (a = b))) m) : ACall Try.prog 21 [v, v2] m Q E := by
  refine acall_fn mixed Try.func21 Try.call21 e21 r21 (Nat.le_of_ble_eq_true rfl) ?_
  by_cases hne : (a.length : Int) = (b.length : Int)
  case neg =>
    have : a ≠ b := fun e => hne (by rw [e])
    rw [show decide (a = b) = false from decide_eq_false this] at k
    simp only [n21, onLst_len h.lenIs, onLst_len h2.lenIs, hne, wf_preprocess, ↓reduceIte, Nat.reduceEqDiff, reduceCtorEq, Nat.reduceAdd, Nat.reduceMul, Nat.reduceLeDiff, Nat.reduceLT, Nat.reduceSub, Int.reduceToNat, Int.reduceNeg, Int.reduceAdd, Int.reduceSub, Int.reduceMul, Int.reduceEq, Int.reduceLT, Int.reduceLE, Int.reduceNe, forall_const, forall_eq', forall_eq, List.forall_mem_cons, List.not_mem_nil]
    exact k
  simp only [n21, onLst_len h.lenIs, onLst_len h2.lenIs, eq_true hne, wf_preprocess, ↓reduceIte, Nat.reduceEqDiff, reduceCtorEq, Nat.reduceAdd, Nat.reduceMul, Nat.reduceLeDiff, Nat.reduceLT, Nat.reduceSub, Int.reduceToNat, Int.reduceNeg, Int.reduceAdd, Int.reduceSub, Int.reduceMul, Int.reduceEq, Int.reduceLT, Int.reduceLE, Int.reduceNe, forall_const, forall_eq', forall_eq, List.forall_mem_cons, List.not_mem_nil]
  refine loop_i (fun kk ρ m' => ∃ (i : Nat), kk = a.length - i ∧ i ≤ a.length ∧ ρ 0 = v ∧ ρ 1 = v2 ∧ ρ 12 = iv a.length ∧ ρ 13 = iv i ∧ a.take i = b.take i ∧ m' = m) a.length ⟨0, rfl, by omega, ?_⟩ ?_
  · simp only [wf_preprocess, ↓reduceIte, Nat.reduceEqDiff, reduceCtorEq, Nat.reduceAdd, Nat.reduceMul, Nat.reduceLeDiff, Nat.reduceLT, Nat.reduceSub, Int.reduceToNat, Int.reduceNeg, Int.reduceAdd, Int.reduceSub, Int.reduceMul, Int.reduceEq, Int.reduceLT, Int.reduceLE, Int.reduceNe, forall_const, forall_eq', forall_eq, List.forall_mem_cons, List.not_mem_nil]
    try exact ⟨by rw [hne], rfl⟩
  rintro kk ρ m' ⟨i, rfl, hi, h0, h1, h12, h5, ht, rfl⟩
  by_cases hlt : (i : Int) < (a.length : Int)
  · obtain ⟨p, hp⟩ : ∃ p, a[i]? = some p := ⟨_, List.getElem?_eq_getElem (by omega)⟩
    obtain ⟨q, hq⟩ : ∃ q, b[i]? = some q := ⟨_, List.getElem?_eq_getElem (by omega)⟩
    have w1 : IntKind.i64.wrap ((i : Int) + 1) = ((i + 1 : Nat) : Int) := wrap64 (by omega) (by omega)
    simp only [h0, h1, h5, h12, hlt, onLst_len h.lenIs, Int.natCast_nonneg, wf_preprocess, ↓reduceIte, Nat.reduceEqDiff, reduceCtorEq, Nat.reduceAdd, Nat.reduceMul, Nat.reduceLeDiff, Nat.reduceLT, Nat.reduceSub, Int.reduceToNat, Int.reduceNeg, Int.reduceAdd, Int.reduceSub, Int.reduceMul, Int.reduceEq, Int.reduceLT, Int.reduceLE, Int.reduceNe, forall_const, forall_eq', forall_eq, List.forall_mem_cons, List.not_mem_nil]
    refine El.idx (n := (i : Int)) h (by omega) (by simpa using hp) fun a1 r1 ha1 => ?_
    simp only [h0, h1, h5, h12, ha1, hlt, Int.natCast_nonneg, wf_preprocess, ↓reduceIte, Nat.reduceEqDiff, reduceCtorEq, Nat.reduceAdd, Nat.reduceMul, Nat.reduceLeDiff, Nat.reduceLT, Nat.reduceSub, Int.reduceToNat, Int.reduceNeg, Int.reduceAdd, Int.reduceSub, Int.reduceMul, Int.reduceEq, Int.reduceLT, Int.reduceLE, Int.reduceNe, forall_const, forall_eq', forall_eq, List.forall_mem_cons, List.not_mem_nil]
    refine El.idx (n := (i : Int)) h2 (by omega) (by simpa using hq) fun a2 r2 ha2 => ?_
    by_cases hpq : p = q
    · subst hpq
      simp only [h0, h1, h5, h12, ha2, w1, wf_preprocess, ↓reduceIte, Nat.reduceEqDiff, reduceCtorEq, Nat.reduceAdd, Nat.reduceMul, Nat.reduceLeDiff, Nat.reduceLT, Nat.reduceSub, Int.reduceToNat, Int.reduceNeg, Int.reduceAdd, Int.reduceSub, Int.reduceMul, Int.reduceEq, Int.reduceLT, Int.reduceLE, Int.reduceNe, forall_const, forall_eq', forall_eq, List.forall_mem_cons, List.not_mem_nil]
      exact ⟨a.length - (i + 1), by omega, i + 1, rfl, by omega, rfl, take_eqN ht hp hq⟩
    · have : a ≠ b := fun e => hpq (by rw [e] at hp; rw [hp] at hq; exact Option.some.inj hq)
      rw [show decide (a = b) = false from decide_eq_false this] at k
      have hpq' : ¬ (p : Int) = (q : Int) := by omega
      simp only [h0, h1, h5, h12, ha2, hpq', w1, wf_preprocess, ↓reduceIte, Nat.reduceEqDiff, reduceCtorEq, Nat.reduceAdd, Nat.reduceMul, Nat.reduceLeDiff, Nat.reduceLT, Nat.reduceSub, Int.reduceToNat, Int.reduceNeg, Int.reduceAdd, Int.reduceSub, Int.reduceMul, Int.reduceEq, Int.reduceLT, Int.reduceLE, Int.reduceNe, forall_const, forall_eq', forall_eq, List.forall_mem_cons, List.not_mem_nil]
      exact k
  · have : a = b := by
      rw [List.take_of_length_le (by omega), List.take_of_length_le (by omega)] at ht
      exact ht
    rw [show decide (a = b) = true from decide_eq_true this] at k
    simp only [h0, h1, h5, h12, hlt, onLst_len h.lenIs, wf_preprocess, ↓reduceIte, Nat.reduceEqDiff, reduceCtorEq, Nat.reduceAdd, Nat.reduceMul, Nat.reduceLeDiff, Nat.reduceLT, Nat.reduceSub, Int.reduceToNat, Int.reduceNeg, Int.reduceAdd, Int.reduceSub, Int.reduceMul, Int.reduceEq, Int.reduceLT, Int.reduceLE, Int.reduceNe, forall_const, forall_eq', forall_eq, List.forall_mem_cons, List.not_mem_nil]
    exact k
end
end Go.Proofs.Ytjegieklpeipaaa.Moi.Share
