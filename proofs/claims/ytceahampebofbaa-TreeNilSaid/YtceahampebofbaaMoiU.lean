/- Lists that may be appended to. -/
import Derived.Test.YtceahampebofbaaMoiT
set_option linter.unusedVariables false
set_option linter.unusedSimpArgs false
namespace Go.Proofs.Ytceahampebofbaa.Moi
open Go Go.RowKit

/-- Who owns what lies behind a list. -/
def App (es : List AV) (o : Own) (m1 : Heap) : Prop := (o = .nil ∧ es = [] ∧ m1 = []) ∨ (o = .full ∧ m1 = []) ∨ (o = .fix ∧ m1 = []) ∨ ∃ t, o = .tok t ∧ es ≠ [] ∧ m1 = [(t, .tail)]

theorem App.nil : App [] .nil [] := .inl ⟨rfl, rfl, rfl⟩
theorem App.full {es : List AV} : App es .full [] := .inr (.inl ⟨rfl, rfl⟩)
theorem App.fix {es : List AV} : App es .fix [] := .inr (.inr (.inl ⟨rfl, rfl⟩))
theorem App.tok {es : List AV} {t : Nat} (h : es ≠ []) : App es (.tok t) [(t, .tail)] := .inr (.inr (.inr ⟨t, rfl, h, rfl⟩))

theorem fresh_i {m : Heap} {K : Nat → Prop} (h : ∀ id, id ∉ keys m → K id) : @fresh m ⟨K⟩ := h
theorem withS_i {α : Type} {o : Option α} {a : α} {K : α → Prop} (e : o = some a) (h : K a) : @withS α o ⟨K⟩ := by rw [e]; exact h

theorem del_not {t : Nat} : ∀ {m : Heap}, t ∉ keys m → del t m = m
  | [], _ => rfl
  | (i, o) :: m, h => by
    simp only [keys_e, List.mem_cons, not_or] at h
    rw [del_e, if_neg (fun e => h.1 e.symm), del_not h.2]
theorem get_skip {t : Nat} {m : Heap} : ∀ {a : Heap}, t ∉ keys a → get t (a ++ m) = get t m
  | [], _ => rfl
  | (i, o) :: a, h => by
    simp only [keys_e, List.mem_cons, not_or] at h
    rw [List.cons_append, get_e, if_neg (fun e => h.1 e.symm), get_skip h.2]
theorem del_skip {t : Nat} {m : Heap} : ∀ {a : Heap}, t ∉ keys a → del t (a ++ m) = a ++ del t m
  | [], _ => rfl
  | (i, o) :: a, h => by
    simp only [keys_e, List.mem_cons, not_or] at h
    rw [List.cons_append, del_e, if_neg (fun e => h.1 e.symm), del_skip h.2]; rfl
theorem put_skip {t : Nat} {ob : AObj} {m : Heap} : ∀ {a : Heap}, t ∉ keys a → put t ob (a ++ m) = a ++ put t ob m
  | [], _ => rfl
  | (i, o) :: a, h => by
    simp only [keys_e, List.mem_cons, not_or] at h
    rw [List.cons_append, put_e, if_neg (fun e => h.1 e.symm), put_skip h.2]; rfl
theorem keys_app {a b : Heap} : keys (a ++ b) = keys a ++ keys b := by simp [keys]

theorem app_i {es ys : List AV} {o : Own} {k : Option Nat} {b : Nat} {z : List AV} {y : AV} {a m1 r : Heap} {K : AV → Heap → Prop} (ha : App es o m1) (hd : ∀ i ∈ keys m1, i ∉ keys a) (hy : aelems k y (a ++ (m1 ++ r)) = some ys) (hne : ys ≠ [])
    (hsy : sized k ys) (hse : sized k es) (hb : (es.length + ys.length) * b ≤ 140737488355328) (hl : es.length + ys.length ≤ maxLen)
    (h : ∀ t, t ∉ keys (a ++ (m1 ++ r)) → K (.lst (es ++ ys) (.tok t)) ((t, .tail) :: (a ++ r))) : @onApp false k b z (.lst es o) y (a ++ (m1 ++ r)) ⟨K⟩ := by
  refine ⟨ys, hy, hsy, hse, hb, hl, ?_, fun e => absurd e hne, fun _ => ?_⟩
  · rcases ha with ⟨rfl, _⟩ | ⟨rfl, _⟩ | ⟨rfl, _⟩ | ⟨t, rfl, h1, _⟩ <;> first | trivial | exact h1
  · rw [if_neg (by simp)]
    rcases ha with ⟨rfl, _, rfl⟩ | ⟨rfl, rfl⟩ | ⟨rfl, rfl⟩ | ⟨t, rfl, _, rfl⟩
    · exact h
    · exact h
    · exact h
    · have ht := hd t (by simp [keys])
      refine ⟨?_, ?_⟩
      · rw [get_skip ht, List.cons_append, get_e, if_pos rfl]
      · rw [del_skip ht, List.cons_append, List.nil_append, del_e, if_pos rfl]
        exact h

theorem App.nilE {es : List AV} {o : Own} {m : Heap} (h : App es o m) (e : o = .nil) : es = [] := by
  rcases h with ⟨_, h, _⟩ | ⟨rfl, _⟩ | ⟨rfl, _⟩ | ⟨t, rfl, _⟩ <;> first | exact h | cases e
theorem App.tokOk {es : List AV} {o : Own} {m1 : Heap} (h : App es o m1) : tokOk es o := by
  rcases h with ⟨rfl, _⟩ | ⟨rfl, _⟩ | ⟨rfl, _⟩ | ⟨t, rfl, h1, _⟩ <;> first | trivial | exact h1

/-- An append to a list that owns nothing behind it, and that is to be written further. -/
theorem app_m {es ys : List AV} {o : Own} {k : Option Nat} {b : Nat} {z : List AV} {y : AV} {m : Heap} {K : AV → Heap → Prop} (ho : o = .nil ∨ o = .full ∨ o = .fix) (hy : aelems k y m = some ys) (hne : ys ≠ [])
    (hsy : sized k ys) (hse : sized k es) (hb : (es.length + ys.length) * b ≤ 140737488355328) (hl : es.length + ys.length ≤ maxLen)
    (h : ∀ id cap rest, id ∉ keys m → es.length + ys.length ≤ cap → cap ≤ maxLen → rest.length = (cap - (es.length + ys.length)) * k.getD 1 → allOne rest = true → K (.mref id 0 (es.length + ys.length) cap) ((id, .cells (flat (es ++ ys) ++ rest)) :: m)) :
    @onApp true k b z (.lst es o) y m ⟨K⟩ := by
  refine ⟨ys, hy, hsy, hse, hb, hl, ?_, fun e => absurd e hne, fun _ => ?_⟩
  · rcases ho with rfl | rfl | rfl <;> trivial
  · rw [if_pos rfl]
    refine ⟨?_, h⟩
    rcases ho with rfl | rfl | rfl <;> rfl
/-- An append of nothing. -/
theorem app_none {mu : Bool} {es : List AV} {o : Own} {k : Option Nat} {b : Nat} {z : List AV} {y : AV} {m : Heap} {K : AV → Heap → Prop} (ho : tokOk es o) (hy : aelems k y m = some [])
    (hse : sized k es) (hb : es.length * b ≤ 140737488355328) (hl : es.length ≤ maxLen) (h : K (.lst es o) m) : @onApp mu k b z (.lst es o) y m ⟨K⟩ :=
  ⟨[], hy, fun e he => by simp at he, hse, by simpa using hb, by simpa using hl, ho, fun _ => h, fun hh => absurd rfl hh⟩

/-- An append, of nothing perhaps. -/
theorem app_g {es ys : List AV} {o : Own} {k : Option Nat} {b : Nat} {z : List AV} {y : AV} {m1 r : Heap} {K : AV → Heap → Prop} (ha : App es o m1) (hy : aelems k y (m1 ++ r) = some ys)
    (hsy : sized k ys) (hse : sized k es) (hb : (es.length + ys.length) * b ≤ 140737488355328) (hl : es.length + ys.length ≤ maxLen) (hd : ∀ i ∈ keys m1, i ∉ keys r)
    (h : ∀ o' m1', App (es ++ ys) o' m1' → (∀ i ∈ keys m1', i ∉ keys r) → K (.lst (es ++ ys) o') (m1' ++ r)) : @onApp false k b z (.lst es o) y (m1 ++ r) ⟨K⟩ := by
  by_cases hne : ys = []
  · subst hne
    refine app_none ha.tokOk hy hse (by simpa using hb) (by simpa using hl) ?_
    have := h o m1 (by rw [List.append_nil]; exact ha) hd
    rw [List.append_nil] at this
    exact this
  · refine app_i (a := []) ha (by simp [keys]) hy hne hsy hse hb hl fun t ht => ?_
    refine h (.tok t) [(t, .tail)] (.tok (by simp [hne])) fun i hi => ?_
    simp only [keys_e, keys_n, List.mem_singleton] at hi
    subst hi
    simp only [List.nil_append, keys_app, List.mem_append, not_or] at ht
    exact ht.2

theorem sized_ints {k : IntKind} (l : List Int) : sized none (l.map fun n => AV.sc (.int k n)) := by
  intro e he
  obtain ⟨n, _, rfl⟩ := List.mem_map.1 he
  exact ⟨rfl, fun _ => rfl, fun h => absurd rfl h, rfl⟩
theorem flat_ints {k : IntKind} (l : List Int) : flat (l.map fun n => AV.sc (.int k n)) = l.map fun n => AV.sc (.int k n) := by
  induction l with
  | nil => rfl
  | cons a l ih => simp only [List.map_cons, flat_cons, ih]; rfl
theorem allOne_ints {k : IntKind} (l : List Int) : allOne (l.map fun n => AV.sc (.int k n)) = true := by
  simp [allOne, AV.one, Value.oneCell']
theorem allOne_append {a b : List AV} : allOne (a ++ b) = (allOne a && allOne b) := by simp [allOne]
theorem chunk_ints {k : IntKind} (l : List Int) (r : List AV) : chunk none l.length ((l.map fun n => AV.sc (.int k n)) ++ r) = some (l.map fun n => AV.sc (.int k n)) := by
  induction l with
  | nil => rfl
  | cons a l ih =>
    simp only [List.map_cons, List.cons_append, List.length_cons, chunk, elem, List.getElem?_cons_zero, Option.getD_none, List.drop_succ_cons, List.drop_zero, ih]

end Go.Proofs.Ytceahampebofbaa.Moi
