/- What the arguments of a claim can be, type by type. -/
import Derived.Test.YtceahampebofbaaMoiU
set_option linter.unusedVariables false
set_option linter.unusedSimpArgs false
namespace Go.Proofs.Ytceahampebofbaa.Moi
open Go Go.RowKit Go.ChangeShapes

section
variable {P : Program} {N : Nat → Prop} {t e : TypeId} {cs : List AV}

theorem shape_int {k : IntKind} (hu : P.underlying t = some (.int k)) (h : Shape P N t cs) : ∃ n, cs = [.sc (.int k n)] ∧ (Lit.int k n).wf = true := by
  cases h with
  | int n h1 h2 => rw [hu] at h1; cases h1; exact ⟨n, rfl, h2⟩
  | other vs h1 => unfold plainTy at h1; rw [hu] at h1; cases h1
  | _ => rename_i h1; rw [hu] at h1; cases h1
theorem shape_bool (hu : P.underlying t = some .bool) (h : Shape P N t cs) : ∃ b, cs = [.sc (.bool b)] := by
  cases h with
  | bool b h1 => exact ⟨b, rfl⟩
  | other vs h1 => unfold plainTy at h1; rw [hu] at h1; cases h1
  | _ => rename_i h1; rw [hu] at h1; cases h1
theorem shape_str (hu : P.underlying t = some .string) (h : Shape P N t cs) : ∃ s : ByteArray, cs = [.sc (.string s)] ∧ s.size ≤ 140737488351232 ∧ N s.size := by
  cases h with
  | str s h1 h2 h3 => exact ⟨s, rfl, h2, h3⟩
  | other vs h1 => unfold plainTy at h1; rw [hu] at h1; cases h1
  | _ => rename_i h1; rw [hu] at h1; cases h1
theorem shape_ptr (hu : P.underlying t = some (.pointer e)) (hp : 0 < P.cellsOf e) (h : Shape P N t cs) : cs = [.sc (.pointer none)] ∨ ∃ c, cs = [.vptr c] ∧ Shape P N e c := by
  cases h with
  | pnil h1 => exact .inl rfl
  | ptr h1 h2 => rw [hu] at h1; cases h1; exact .inr ⟨_, rfl, h2⟩
  | other vs h1 => unfold plainTy at h1; rw [hu] at h1; simp at h1; omega
  | _ => rename_i h1; rw [hu] at h1; cases h1
theorem shape_slice (hu : P.underlying t = some (.slice e)) (hp : 0 < P.cellsOf e) (h : Shape P N t cs) : ∃ es o, cs = [.lst (es.map (mkEl (aggTy P e))) o] ∧ (o = .nil → es = []) ∧ es.length * P.bytesOf e ≤ 140737488351232 ∧ (es = [] ∨ N es.length) ∧ (∀ c ∈ es, Shape P N e c) ∧ (∀ c ∈ es, c.length = P.cellsOf e) := by
  cases h with
  | snil h1 => exact ⟨[], .nil, rfl, fun _ => rfl, by simp, .inl rfl, by simp, by simp⟩
  | slc es h1 h2 h3 h4 h5 => rw [hu] at h1; cases h1; exact ⟨es, .any, rfl, by simp, h2, .inr h3, h4, h5⟩
  | other vs h1 => unfold plainTy at h1; rw [hu] at h1; simp at h1; omega
  | _ => rename_i h1; rw [hu] at h1; cases h1
theorem shape_struct {fs : Array Field} (hu : P.underlying t = some (.struct fs)) (h : Shape P N t cs) : ∃ css : List (List AV), cs = css.flatten ∧ css.length = fs.size ∧ ∀ (i : Nat) f c, fs[i]? = some f → css[i]? = some c → Shape P N f.type c := by
  cases h with
  | struct css h1 h2 h3 => rw [hu] at h1; cases h1; exact ⟨css, rfl, h2, h3⟩
  | other vs h1 => unfold plainTy at h1; rw [hu] at h1; cases h1
  | _ => rename_i h1; rw [hu] at h1; cases h1

theorem agg_no {d : TypeDesc} (hu : P.underlying t = some d) (h : isAggD d = false) : aggTy P t = false := by
  unfold aggTy; rw [hu]; cases d <;> first | rfl | cases h
theorem agg_yes {d : TypeDesc} (hu : P.underlying t = some d) (h : isAggD d = true) : aggTy P t = true := by
  unfold aggTy; rw [hu]; cases d <;> first | rfl | cases h

theorem ArgShape.cons {ts : List TypeId} {xs : List AV} (h : ArgShape P N (t :: ts) xs) : ∃ x ys cs, xs = x :: ys ∧ Shape P N t cs ∧ x = mkEl (aggTy P t) cs ∧ ArgShape P N ts ys := by
  cases xs with
  | nil => exact h.elim
  | cons x ys => obtain ⟨⟨cs, h1, h2⟩, h3⟩ := h; exact ⟨x, ys, cs, rfl, h1, h2, h3⟩
theorem ArgShape.nil' {xs : List AV} (h : ArgShape P N [] xs) : xs = [] := by
  cases xs with
  | nil => rfl
  | cons x ys => exact h.elim

/-- A whole number among the arguments. -/
theorem arg_int {ts : List TypeId} {xs : List AV} {k : IntKind} (hu : P.underlying t = some (.int k)) (h : ArgShape P N (t :: ts) xs) : ∃ n ys, xs = .sc (.int k n) :: ys ∧ (Lit.int k n).wf = true ∧ ArgShape P N ts ys := by
  obtain ⟨x, ys, cs, rfl, h1, rfl, h2⟩ := h.cons
  obtain ⟨n, rfl, hw⟩ := shape_int hu h1
  rw [agg_no hu rfl]
  exact ⟨n, ys, rfl, hw, h2⟩
theorem arg_bool {ts : List TypeId} {xs : List AV} (hu : P.underlying t = some .bool) (h : ArgShape P N (t :: ts) xs) : ∃ b ys, xs = .sc (.bool b) :: ys ∧ ArgShape P N ts ys := by
  obtain ⟨x, ys, cs, rfl, h1, rfl, h2⟩ := h.cons
  obtain ⟨n, rfl⟩ := shape_bool hu h1
  rw [agg_no hu rfl]
  exact ⟨n, ys, rfl, h2⟩
theorem arg_str {ts : List TypeId} {xs : List AV} (hu : P.underlying t = some .string) (h : ArgShape P N (t :: ts) xs) : ∃ (s : ByteArray) (ys : List AV), xs = .sc (.string s) :: ys ∧ s.size ≤ 140737488351232 ∧ N s.size ∧ ArgShape P N ts ys := by
  obtain ⟨x, ys, cs, rfl, h1, rfl, h2⟩ := h.cons
  obtain ⟨n, rfl, hw, hN⟩ := shape_str hu h1
  rw [agg_no hu rfl]
  exact ⟨n, ys, rfl, hw, hN, h2⟩
/-- Whole numbers in a slice among the arguments. -/
theorem arg_ints {ts : List TypeId} {xs : List AV} {k : IntKind} (hu : P.underlying t = some (.slice e)) (he : P.underlying e = some (.int k)) (hc : P.cellsOf e = 1) (h : ArgShape P N (t :: ts) xs) :
    ∃ (l : List Int) (o : Own) (ys : List AV), xs = .lst (l.map fun n => .sc (.int k n)) o :: ys ∧ (o = .nil → l = []) ∧ l.length * P.bytesOf e ≤ 140737488351232 ∧ (l = [] ∨ N l.length) ∧ (∀ n ∈ l, (Lit.int k n).wf = true) ∧ ArgShape P N ts ys := by
  obtain ⟨x, ys, cs, rfl, h1, rfl, h2⟩ := h.cons
  obtain ⟨es, o, rfl, h3, h4, hN, h5, h6⟩ := shape_slice hu (by omega) h1
  rw [agg_no hu rfl, agg_no he rfl]
  have : ∃ l : List Int, es.map (mkEl false) = l.map (fun n => AV.sc (.int k n)) ∧ l.length = es.length ∧ ∀ n ∈ l, (Lit.int k n).wf = true := by
    clear h3 h4 h6 h1 h hN
    induction es with
    | nil => exact ⟨[], rfl, rfl, by simp⟩
    | cons c es ih =>
      obtain ⟨n, rfl, hw⟩ := shape_int he (h5 c (by simp))
      obtain ⟨l, e1, e2, e3⟩ := ih fun c hc => h5 c (by simp [hc])
      exact ⟨n :: l, by simp only [List.map_cons, e1]; rfl, by simp [e2], by simpa [hw] using e3⟩
  obtain ⟨l, e1, e2, e3⟩ := this
  refine ⟨l, o, ys, by rw [← e1]; rfl, fun e => ?_, by rw [e2]; exact h4, hN.imp (fun e => by subst e; exact List.eq_nil_of_length_eq_zero (by simpa using e2)) (fun h => by rw [e2]; exact h), e3, h2⟩
  have := h3 e
  subst this
  exact List.eq_nil_of_length_eq_zero (by simpa using e2)

theorem list_choose {α β : Type} {g : α → β} {p : α → Prop} : ∀ {es : List β}, (∀ c ∈ es, ∃ a, c = g a ∧ p a) → ∃ l : List α, es = l.map g ∧ ∀ a ∈ l, p a
  | [], _ => ⟨[], rfl, by simp⟩
  | c :: es, h => by
    obtain ⟨a, e, ha⟩ := h c (by simp)
    obtain ⟨l, e2, hl⟩ := list_choose (es := es) fun c hc => h c (by simp [hc])
    exact ⟨a :: l, by rw [e, e2]; rfl, by simpa [ha] using hl⟩

/-- A slice among the arguments, element by element. -/
theorem arg_list {α : Type} {g : α → List AV} {p : α → Prop} {ts : List TypeId} {xs : List AV} (hu : P.underlying t = some (.slice e)) (hc : 0 < P.cellsOf e) (hg : ∀ c, Shape P N e c → ∃ a, c = g a ∧ p a) (h : ArgShape P N (t :: ts) xs) :
    ∃ (l : List α) (o : Own) (ys : List AV), xs = .lst (l.map fun a => mkEl (aggTy P e) (g a)) o :: ys ∧ (o = .nil → l = []) ∧ l.length * P.bytesOf e ≤ 140737488351232 ∧ (l = [] ∨ N l.length) ∧ (∀ a ∈ l, p a) ∧ ArgShape P N ts ys := by
  obtain ⟨x, ys, cs, rfl, h1, rfl, h2⟩ := h.cons
  obtain ⟨es, o, rfl, h3, h4, hN, h5, h6⟩ := shape_slice hu hc h1
  rw [agg_no hu rfl]
  obtain ⟨l, rfl, hl⟩ := list_choose (es := es) fun c hc => hg c (h5 c hc)
  refine ⟨l, o, ys, ?_, fun e => by simpa using h3 e, by simpa using h4, by simpa using hN, hl, h2⟩
  simp [mkEl, Function.comp_def]

/-- A struct of two whole numbers. -/
theorem shape_two {fs : Array Field} {t1 t2 : TypeId} {k1 k2 : IntKind} (hu : P.underlying t = some (.struct fs)) (hs : fs.toList.map (·.type) = [t1, t2]) (h1 : P.underlying t1 = some (.int k1)) (h2 : P.underlying t2 = some (.int k2)) (h : Shape P N t cs) :
    ∃ a b, cs = [.sc (.int k1 a), .sc (.int k2 b)] ∧ (Lit.int k1 a).wf = true ∧ (Lit.int k2 b).wf = true := by
  obtain ⟨css, rfl, hl, hf⟩ := shape_struct hu h
  have hsz : fs.size = 2 := by have := congrArg List.length hs; simpa using this
  rw [hsz] at hl
  match css, hl with
  | [c1, c2], _ =>
    have e1 : fs[0]? = some fs[0] := by simp
    have e2 : fs[1]? = some fs[1] := by simp
    have g1 : fs[0].type = t1 := by
      have := congrArg (·[0]?) hs
      simp only [List.getElem?_map, Array.getElem?_toList, e1, Option.map_some, List.getElem?_cons_zero] at this
      exact Option.some.inj this
    have g2 : fs[1].type = t2 := by
      have := congrArg (·[1]?) hs
      simp only [List.getElem?_map, Array.getElem?_toList, e2, Option.map_some, List.getElem?_cons_succ, List.getElem?_cons_zero] at this
      exact Option.some.inj this
    have s1 := hf 0 _ c1 e1 rfl
    have s2 := hf 1 _ c2 e2 rfl
    rw [g1] at s1
    rw [g2] at s2
    obtain ⟨a, rfl, ha⟩ := shape_int h1 s1
    obtain ⟨b, rfl, hb⟩ := shape_int h2 s2
    exact ⟨a, b, rfl, ha, hb⟩

theorem wf64 {n : Int} (h : (Lit.int .i64 n).wf = true) : -9223372036854775808 ≤ n ∧ n ≤ 9223372036854775807 := by
  simpa [Lit.wf, IntKind.min, IntKind.max, IntKind.signed, IntKind.bits] using h
end
end Go.Proofs.Ytceahampebofbaa.Moi
