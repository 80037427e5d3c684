/- Heaps that are looked at by their ids alone: what stays, what is new; buffers in them. -/
import Derived.Test.YtceahampebofbaaMoiW
set_option linter.unusedVariables false
set_option linter.unusedSimpArgs false
set_option linter.unnecessarySimpa false
namespace Go.Proofs.Ytceahampebofbaa.Moi
open Go Go.RowKit

theorem get_put {q : Nat} {ob ob0 : AObj} : ∀ {m : Heap}, get q m = some ob0 → get q (put q ob m) = some ob
  | [], h => by cases h
  | (i, o) :: m, h => by
    rw [get_e] at h
    rw [put_e]
    by_cases e : i = q
    · rw [if_pos e, get_e, if_pos e]
    · rw [if_neg e] at h ⊢
      rw [get_e, if_neg e]; exact get_put h
theorem put_put {q : Nat} {ob ob1 : AObj} : ∀ {m : Heap}, put q ob (put q ob1 m) = put q ob m
  | [] => rfl
  | (i, o) :: m => by
    rw [put_e]
    by_cases e : i = q
    · rw [if_pos e, put_e, if_pos e, put_e, if_pos e]
    · rw [if_neg e, put_e, if_neg e, put_e, if_neg e, put_put]
theorem get_put_ne {q i : Nat} {ob : AObj} (h : i ≠ q) : ∀ {m : Heap}, get i (put q ob m) = get i m
  | [] => rfl
  | (j, o) :: m => by
    rw [put_e]
    by_cases e : j = q
    · rw [if_pos e, get_e, get_e, if_neg (fun e' => h (by rw [← e', e])), if_neg (fun e' => h (by rw [← e', e]))]
    · rw [if_neg e, get_e, get_e, get_put_ne h]
theorem get_del_ne {q i : Nat} (h : i ≠ q) : ∀ {m : Heap}, get i (del q m) = get i m
  | [] => rfl
  | (j, o) :: m => by
    rw [del_e]
    by_cases e : j = q
    · rw [if_pos e, get_e, if_neg (fun e' => h (by rw [← e', e]))]
    · rw [if_neg e, get_e, get_e, get_del_ne h]
theorem put_same {q : Nat} {ob : AObj} : ∀ {m : Heap}, get q m = some ob → m = put q ob m
  | [], _ => rfl
  | (i, o) :: m, h => by
    rw [get_e] at h
    rw [put_e]
    by_cases e : i = q
    · rw [if_pos e] at h ⊢; rw [Option.some.inj h]
    · rw [if_neg e] at h ⊢; rw [← put_same h]
theorem splice_one (x : AV) : ∀ (i : Nat) (cs : List AV), i < cs.length → splice i [x] cs = cs.set i x
  | 0, c :: cs, _ => by rw [splice]; cases cs <;> rfl
  | i + 1, c :: cs, h => by rw [splice, splice_one x i cs (by simpa using h)]; rfl
theorem put_comm {i j : Nat} {a b : AObj} (h : i ≠ j) : ∀ {m : Heap}, put i a (put j b m) = put j b (put i a m)
  | [] => rfl
  | (n, o) :: m => by
    by_cases e1 : n = j
    · have e2 : ¬ n = i := fun e => h (by rw [← e, e1])
      simp only [put_e, if_pos e1, if_neg e2]
    · by_cases e2 : n = i
      · simp only [put_e, if_neg e1, if_pos e2]
      · simp only [put_e, if_neg e1, if_neg e2, put_comm h (m := m)]
theorem mem_keys {i : Nat} {ob : AObj} {m : Heap} (h : get i m = some ob) : i ∈ keys m := List.mem_map.2 ⟨_, get_mem h, rfl⟩
theorem new_ne {i j : Nat} {ob : AObj} {m : Heap} (h : get i m = some ob) (hj : j ∉ keys m) : j ≠ i := fun e => hj (e ▸ mem_keys h)
theorem get_none {i : Nat} : ∀ {m : Heap}, i ∉ keys m → get i m = none
  | [], _ => rfl
  | (j, o) :: m, h => by
    simp only [keys_e, List.mem_cons, not_or] at h
    rw [get_e, if_neg (fun e => h.1 e.symm), get_none h.2]
theorem not_keys {i : Nat} : ∀ {m : Heap}, get i m = none → i ∉ keys m
  | [], _ => by simp [keys]
  | (j, o) :: m, h => by
    rw [get_e] at h
    by_cases e : j = i
    · rw [if_pos e] at h; cases h
    · rw [if_neg e] at h
      simp only [keys_e, List.mem_cons, not_or]
      exact ⟨fun e' => e e'.symm, not_keys h⟩
theorem get_new {i : Nat} {ob : AObj} {m : Heap} : get i ((i, ob) :: m) = some ob := by rw [get_e, if_pos rfl]
theorem get_old {i j : Nat} {ob : AObj} {m : Heap} (h : j ≠ i) : get i ((j, ob) :: m) = get i m := by rw [get_e, if_neg h]

theorem kl_take {k : IntKind} {l : List Int} {n : Nat} : kl k (l.take n) = (kl k l).take n := List.map_take
theorem kl_dropn {k : IntKind} {l : List Int} {n : Nat} : kl k (l.drop n) = (kl k l).drop n := List.map_drop
theorem kl_set {k : IntKind} {l : List Int} {i : Nat} {x : Int} : kl k (l.set i x) = (kl k l).set i (kv k x) := List.map_set
theorem kl_get {k : IntKind} {l : List Int} {i : Nat} {x : Int} (h : l[i]? = some x) : (kl k l)[i]? = some (kv k x) := by rw [List.getElem?_map, h]; rfl
theorem kl_drop {k : IntKind} {l : List Int} {r : List AV} {i : Nat} {x : Int} (h : l[i]? = some x) : (kl k l ++ r).drop i = kv k x :: (kl k l ++ r).drop (i + 1) := by
  obtain ⟨hi, rfl⟩ := List.getElem?_eq_some_iff.1 h
  rw [List.drop_eq_getElem_cons (by rw [List.length_append, kl_len]; omega), List.getElem_append_left (by rw [kl_len]; omega)]
  congr 1
  simp
/-- How long a list is. -/
def LenIs (y : AV) (n : Nat) : Prop := (∃ es o, y = .lst es o ∧ es.length = n) ∨ ∃ i o c, y = .mref i o n c
theorem onLst_len {y : AV} {n : Nat} {K : Inhabited (AV → Prop)} (h : LenIs y n) : @onLst y ⟨fun es _ => @val (i64 es.length) K⟩ ⟨fun _ _ n _ => @val (i64 n) K⟩ = @val (i64 n) K := by
  rcases h with ⟨es, o, rfl, rfl⟩ | ⟨i, o, c, rfl⟩
  · rw [onLst_l]
  · rw [onLst_m]

/-- m' is m and more, but for what lies under some ids. -/
def Ext (S : List Nat) (m m' : Heap) : Prop := ∀ i ob, get i m = some ob → i ∉ S → get i m' = some ob
theorem Ext.rfl' {S : List Nat} {m : Heap} : Ext S m m := fun _ _ h _ => h
theorem Ext.trans {S : List Nat} {a b c : Heap} (h : Ext S a b) (k : Ext S b c) : Ext S a c := fun i ob hi hs => k i ob (h i ob hi hs) hs
theorem Ext.sub {S S' : List Nat} {a b : Heap} (h : Ext S a b) (hs : ∀ i ∈ S, i ∈ S') : Ext S' a b := fun i ob hi hn => h i ob hi fun k => hn (hs i k)
theorem Ext.new {S : List Nat} {m : Heap} {i : Nat} {ob : AObj} (h : i ∉ keys m) : Ext S m ((i, ob) :: m) := fun j o hj _ => by rw [get_old (new_ne hj h)]; exact hj
theorem Ext.put {S : List Nat} {m : Heap} {i : Nat} {ob : AObj} (h : i ∈ S) : Ext S m (put i ob m) := fun j o hj hs => by rw [get_put_ne (fun e : j = i => hs (by rw [e]; exact h))]; exact hj
theorem Ext.del {S : List Nat} {m : Heap} {i : Nat} (h : i ∈ S) : Ext S m (del i m) := fun j o hj hs => by rw [get_del_ne (fun e : j = i => hs (by rw [e]; exact h))]; exact hj
theorem Ext.app {S : List Nat} {m a : Heap} (h : ∀ i ∈ keys a, i ∉ keys m) : Ext S m (a ++ m) := fun j o hj _ => by rw [get_skip (fun hk => h j hk (mem_keys hj))]; exact hj
/-- Only what is new of m' is written by what comes behind. -/
theorem Ext.fresh {S S' : List Nat} {a b c : Heap} (h : Ext S a b) (k : Ext S' b c) (hs : ∀ i ∈ S', i ∈ S ∨ i ∉ keys a) : Ext S a c := fun i ob hi hn =>
  k i ob (h i ob hi hn) fun hk => (hs i hk).elim hn fun hh => hh (mem_keys hi)
theorem Ext.isNew {S : List Nat} {a b : Heap} (h : Ext S a b) {i : Nat} (hi : i ∉ keys b) (hS : ∀ j ∈ S, j ∈ keys b) : i ∉ keys a := fun hk => by
  cases hg : get i a with
  | none => exact not_keys hg hk
  | some ob =>
    by_cases hs : i ∈ S
    · exact hi (hS i hs)
    · exact hi (mem_keys (h i ob hg hs))

/-! ### Buffers in a heap -/
/-- A slice with memory of its own (or an empty one), whose elements are rows of cells. -/
def BufG (z : Nat) (css : List (List AV)) (v : AV) (m : Heap) : Prop := (css = [] ∧ (v = .lst [] .nil ∨ v = .lst [] .full)) ∨
  ∃ id cap rest, v = .mref id 0 css.length cap ∧ css.length ≤ cap ∧ cap ≤ maxLen ∧ rest.length = (cap - css.length) * z ∧ allOne rest = true ∧ get id m = some (.cells (css.flatten ++ rest))
/-- Which ids it may write. -/
def refs : AV → List Nat
  | .mref id _ _ _ => [id]
  | .ptr id _ => [id]
  | _ => []

/-- Rows of cells as elements. -/
def mk1 (k : Option Nat) (c : List AV) : AV := match k with
  | none => c.headD .top
  | some _ => .agg c
def els (k : Option Nat) (css : List (List AV)) : List AV := css.map (mk1 k)
/-- Rows of the right length, of plain cells. -/
def rowsOk (k : Option Nat) (css : List (List AV)) : Prop := ∀ c ∈ css, c.length = k.getD 1 ∧ allOne c = true

theorem els_len {k : Option Nat} {css : List (List AV)} : (els k css).length = css.length := by simp [els]
theorem els_cells {k : Option Nat} {c : List AV} (h : c.length = k.getD 1) (h1 : allOne c = true) : (mk1 k c).cells = c := by
  cases k with
  | some n => rfl
  | none =>
    match c, h with
    | [x], _ =>
      simp only [mk1, List.headD_cons]
      simp [allOne] at h1
      cases x <;> first | rfl | cases h1
theorem els_flat {k : Option Nat} : ∀ {css : List (List AV)}, rowsOk k css → flat (els k css) = css.flatten
  | [], _ => rfl
  | c :: css, h => by
    have ih := els_flat (css := css) fun c hc => h c (by simp [hc])
    obtain ⟨h1, h2⟩ := h c (by simp)
    simp only [els, List.map_cons, flat, List.flatMap_cons, List.flatten_cons] at ih ⊢
    rw [ih, els_cells h1 h2]
theorem els_sized {k : Option Nat} {css : List (List AV)} (h : rowsOk k css) : sized k (els k css) := by
  intro e he
  obtain ⟨c, hc, rfl⟩ := List.mem_map.1 he
  obtain ⟨h1, h2⟩ := h c hc
  have hcc := els_cells h1 h2
  refine ⟨by rw [hcc]; exact h1, fun hk => ?_, fun hk => ?_, by rw [hcc]; exact h2⟩
  · subst hk
    match c, h1 with
    | [x], _ => simp [allOne] at h2; exact h2
  · cases k with
    | none => exact absurd rfl hk
    | some n => exact ⟨c, rfl⟩
theorem rows_len {k : Option Nat} : ∀ {css : List (List AV)}, rowsOk k css → css.flatten.length = css.length * k.getD 1
  | [], _ => by simp
  | c :: css, h => by
    have ih := rows_len (css := css) fun c hc => h c (by simp [hc])
    rw [List.flatten_cons, List.length_append, ih, (h c (by simp)).1, List.length_cons, Nat.succ_mul]; omega
theorem rows_one {k : Option Nat} {css : List (List AV)} (h : rowsOk k css) : allOne css.flatten = true := by
  induction css with
  | nil => rfl
  | cons c css ih =>
    rw [List.flatten_cons, allOne_append, (h c (by simp)).2, ih fun c hc => h c (by simp [hc])]; rfl
theorem rows_chunk {k : Option Nat} {r : List AV} : ∀ {css : List (List AV)}, rowsOk k css → chunk k css.length (css.flatten ++ r) = some (els k css)
  | [], _ => rfl
  | c :: css, h => by
    have ih := rows_chunk (css := css) (r := r) fun c hc => h c (by simp [hc])
    obtain ⟨h1, h2⟩ := h c (by simp)
    have e2 : (c ++ css.flatten ++ r).drop (k.getD 1) = css.flatten ++ r := by
      rw [← h1, List.append_assoc, List.drop_left]
    have e1 : elem k (c ++ css.flatten ++ r) = some (mk1 k c) := by
      cases k with
      | none =>
        match c, h1 with
        | [x], _ => rfl
      | some n =>
        have h1' : c.length = n := h1
        subst h1'
        rw [elem, if_pos (by simp), List.append_assoc, List.take_left]; rfl
    simp only [List.length_cons, List.flatten_cons, chunk, e1, e2, ih]
    rfl
theorem rows_app {k : Option Nat} {a b : List (List AV)} (ha : rowsOk k a) (hb : rowsOk k b) : rowsOk k (a ++ b) := fun c hc => (List.mem_append.1 hc).elim (ha c) (hb c)
theorem els_app {k : Option Nat} {a b : List (List AV)} : els k (a ++ b) = els k a ++ els k b := by simp [els]

section
variable {k : Option Nat} {css c2 : List (List AV)} {v y : AV} {m : Heap}
theorem BufG.nil {z : Nat} : BufG z [] (.lst [] .nil) m := .inl ⟨rfl, .inl rfl⟩
theorem BufG.full {z : Nat} : BufG z [] (.lst [] .full) m := .inl ⟨rfl, .inr rfl⟩
theorem BufG.ext {z : Nat} {m' : Heap} {S : List Nat} (h : BufG z css v m) (he : Ext S m m') (hs : ∀ i ∈ refs v, i ∉ S) : BufG z css v m' := by
  rcases h with h | ⟨id, cap, rest, rfl, h1, h2, h3, h4, h5⟩
  · exact .inl h
  · exact .inr ⟨id, cap, rest, rfl, h1, h2, h3, h4, he _ _ h5 (hs id (by simp [refs]))⟩
theorem BufG.elems (h : BufG (k.getD 1) css v m) (hr : rowsOk k css) : aelems k v m = some (els k css) := by
  rcases h with ⟨rfl, h | h⟩ | ⟨id, cap, rest, rfl, h1, h2, h3, h4, h5⟩
  · subst h; rfl
  · subst h; rfl
  · simp only [aelems, h5, List.drop_zero]
    exact rows_chunk hr
theorem BufG.isL {z : Nat} (h : BufG z css v m) : (∃ es o, v = .lst es o ∧ (o = .nil → es = [])) ∨ ∃ i o n c, v = .mref i o n c := by
  rcases h with ⟨rfl, h | h⟩ | ⟨id, cap, rest, rfl, _⟩
  · exact .inl ⟨[], .nil, h, fun _ => rfl⟩
  · exact .inl ⟨[], .full, h, fun _ => rfl⟩
  · exact .inr ⟨_, _, _, _, rfl⟩
theorem BufG.inK {z : Nat} (h : BufG z css v m) : ∀ i ∈ refs v, i ∈ keys m := by
  rcases h with ⟨rfl, h | h⟩ | ⟨id, cap, rest, rfl, _, _, _, _, h⟩
  · subst h; simp [refs]
  · subst h; simp [refs]
  · intro i hi
    simp only [refs, List.mem_singleton] at hi
    subst hi
    exact mem_keys h

/-- An append to such a slice, for lists that are written: what was stays (but for the slice's own memory). -/
theorem app_bufG {b : Nat} {z : List AV} {K : AV → Heap → Prop} (hb : BufG (k.getD 1) css v m) (hr : rowsOk k css) (hy : aelems k y m = some (els k c2)) (hr2 : rowsOk k c2) (hz : (css.length + c2.length) * b ≤ 140737488355328) (hl : css.length + c2.length ≤ maxLen)
    (h : ∀ v' m', BufG (k.getD 1) (css ++ c2) v' m' → Ext (refs v) m m' → (v' = v ∨ ∀ i ∈ refs v', i ∉ keys m) → K v' m') : @onApp true k b z v y m ⟨K⟩ := by
  have hs2 := els_sized hr2
  rcases hb with ⟨rfl, hv⟩ | ⟨id, cap, rest, rfl, h1, h2, h3, h4, h5⟩
  · by_cases hne : c2 = []
    · subst hne
      rcases hv with rfl | rfl
      · exact app_none trivial hy (fun e he => by simp at he) (by simp) (by simp) (h _ m .nil .rfl' (.inl rfl))
      · exact app_none trivial hy (fun e he => by simp at he) (by simp) (by simp) (h _ m .full .rfl' (.inl rfl))
    · have hv' : ∃ o, v = .lst [] o ∧ (o = .nil ∨ o = .full ∨ o = .fix) := by
        rcases hv with rfl | rfl
        · exact ⟨_, rfl, .inl rfl⟩
        · exact ⟨_, rfl, .inr (.inl rfl)⟩
      obtain ⟨o, rfl, ho⟩ := hv'
      refine app_m ho hy (by simpa [els] using hne) hs2 (fun e he => by simp at he) (by simpa [els_len] using hz) (by simpa [els_len] using hl) fun id cap rest hid hc hm hr' hr1 => ?_
      simp only [List.length_nil, els_len, Nat.zero_add, List.nil_append, els_flat hr2] at hc hr' ⊢
      refine h (.mref id 0 c2.length cap) _ (.inr ⟨id, cap, rest, rfl, hc, hm, hr', hr1, get_new⟩) (.new hid) (.inr fun i hi => ?_)
      simp only [refs, List.mem_singleton] at hi
      subst hi
      exact hid
  · have hfl := rows_len hr
    refine ⟨css.flatten ++ rest, h5, ?_, els k c2, hy, hs2, by simpa [els_len] using hz, by simpa [els_len] using hl, ?_, ?_⟩
    · rw [List.length_append, hfl, h3, ← Nat.add_mul]; congr 1; omega
    · rw [allOne_append, rows_one hr, h4]; rfl
    · intro id' cap' rest' hid hc hm hr' hr1
      rw [els_len] at hc hr' ⊢
      have e2 : (css.flatten ++ rest).take (css.length * k.getD 1) = css.flatten := by rw [← hfl, List.take_left]
      rw [e2, els_flat hr2, ← List.flatten_append]
      have hne := new_ne h5 hid
      rw [show css.length + c2.length = (css ++ c2).length by simp] at hc hr' ⊢
      refine h (.mref id' 0 (css ++ c2).length cap') _ (.inr ⟨id', cap', rest', rfl, hc, hm, hr', hr1, get_new⟩) (fun i ob hi hs => ?_) (.inr fun i hi => ?_)
      · rw [get_old (new_ne hi hid), get_del_ne]
        · exact hi
        · simpa [refs] using hs
      · simp only [refs, List.mem_singleton] at hi
        subst hi
        exact hid
end

/-- Whole numbers as rows. -/
def krows (k : IntKind) (l : List Int) : List (List AV) := l.map fun n => [kv k n]
theorem krows_ok {k : IntKind} {l : List Int} : rowsOk none (krows k l) := by
  intro c hc
  obtain ⟨n, _, rfl⟩ := List.mem_map.1 hc
  exact ⟨rfl, rfl⟩
theorem krows_els {k : IntKind} {l : List Int} : els none (krows k l) = kl k l := by simp [els, krows, Function.comp_def, mk1]
theorem krows_flat {k : IntKind} {l : List Int} : (krows k l).flatten = kl k l := by
  induction l with
  | nil => rfl
  | cons a l ih => simp only [krows, List.map_cons, List.flatten_cons] at ih ⊢; rw [ih]; rfl
theorem krows_len {k : IntKind} {l : List Int} : (krows k l).length = l.length := by simp [krows]
theorem krows_app {k : IntKind} {a b : List Int} : krows k (a ++ b) = krows k a ++ krows k b := by simp [krows]

/-- Whole numbers in a buffer. -/
def BufI (k : IntKind) (l : List Int) (v : AV) (m : Heap) : Prop := BufG 1 (krows k l) v m
section
variable {k : IntKind} {l l2 : List Int} {v y : AV} {m : Heap}
theorem BufI.nil : BufI k [] (.lst [] .nil) m := .inl ⟨rfl, .inl rfl⟩
theorem BufI.full : BufI k [] (.lst [] .full) m := .inl ⟨rfl, .inr rfl⟩
theorem BufI.ext {m' : Heap} {S : List Nat} (h : BufI k l v m) (he : Ext S m m') (hs : ∀ i ∈ refs v, i ∉ S) : BufI k l v m' := BufG.ext h he hs
theorem BufI.isL (h : BufI k l v m) : (∃ es o, v = .lst es o ∧ (o = .nil → es = [])) ∨ ∃ i o n c, v = .mref i o n c := BufG.isL h
theorem BufI.inK (h : BufI k l v m) : ∀ i ∈ refs v, i ∈ keys m := BufG.inK h
theorem BufI.elems (h : BufI k l v m) : aelems none v m = some (kl k l) := by rw [BufG.elems (k := none) h krows_ok, krows_els]
theorem BufI.ref (h : BufI k l v m) (hl : l ≠ []) : ∃ id cap rest, v = .mref id 0 l.length cap ∧ l.length ≤ cap ∧ cap ≤ maxLen ∧ rest.length = cap - l.length ∧ allOne rest = true ∧ get id m = some (.cells (kl k l ++ rest)) := by
  rcases h with ⟨h, _⟩ | ⟨id, cap, rest, rfl, h1, h2, h3, h4, h5⟩
  · exact absurd (List.map_eq_nil_iff.1 h) hl
  · rw [krows_len] at h1 h3 ⊢
    rw [krows_flat] at h5
    exact ⟨id, cap, rest, rfl, h1, h2, by simpa using h3, h4, h5⟩
theorem BufI.mk {id cap : Nat} {rest : List AV} (h1 : l.length ≤ cap) (h2 : cap ≤ maxLen) (h3 : rest.length = cap - l.length) (h4 : allOne rest = true) (h5 : get id m = some (.cells (kl k l ++ rest))) : BufI k l (.mref id 0 l.length cap) m :=
  .inr ⟨id, cap, rest, by rw [krows_len], by rw [krows_len]; exact h1, h2, by rw [krows_len]; simpa using h3, h4, by rw [krows_flat]; exact h5⟩
theorem app_bufI {b : Nat} {z : List AV} {K : AV → Heap → Prop} (hb : BufI k l v m) (hy : aelems none y m = some (kl k l2)) (hz : (l.length + l2.length) * b ≤ 140737488355328) (hl : l.length + l2.length ≤ maxLen)
    (h : ∀ v' m', BufI k (l ++ l2) v' m' → Ext (refs v) m m' → (v' = v ∨ ∀ i ∈ refs v', i ∉ keys m) → K v' m') : @onApp true none b z v y m ⟨K⟩ :=
  app_bufG (k := none) hb krows_ok (c2 := krows k l2) (by rw [krows_els]; exact hy) krows_ok (by rw [krows_len, krows_len]; exact hz) (by rw [krows_len, krows_len]; exact hl)
    fun v' m' h1 h2 h3 => h v' m' (by unfold BufI; rw [krows_app]; exact h1) h2 h3
end

/-! ### Lists that are appended to and written no more -/
def AppG (es : List AV) (o : Own) (m : Heap) : Prop := (o = .nil ∧ es = []) ∨ o = .full ∨ o = .fix ∨ ∃ t, o = .tok t ∧ es ≠ [] ∧ get t m = some .tail
def toks : Own → List Nat
  | .tok t => [t]
  | _ => []
section
variable {es ys : List AV} {o : Own} {k : Option Nat} {b : Nat} {z : List AV} {y : AV} {m : Heap}
theorem AppG.nil : AppG [] .nil m := .inl ⟨rfl, rfl⟩
theorem AppG.full : AppG es .full m := .inr (.inl rfl)
theorem AppG.fix : AppG es .fix m := .inr (.inr (.inl rfl))
theorem AppG.nilE (h : AppG es o m) (e : o = .nil) : es = [] := by
  rcases h with ⟨_, h⟩ | rfl | rfl | ⟨t, rfl, _⟩ <;> first | exact h | cases e
theorem AppG.tokOk (h : AppG es o m) : tokOk es o := by
  rcases h with ⟨rfl, _⟩ | rfl | rfl | ⟨t, rfl, h1, _⟩ <;> first | trivial | exact h1
theorem AppG.ext {m' : Heap} {S : List Nat} (h : AppG es o m) (he : Ext S m m') (hs : ∀ i ∈ toks o, i ∉ S) : AppG es o m' := by
  rcases h with h | h | h | ⟨t, rfl, h1, h2⟩
  · exact .inl h
  · exact .inr (.inl h)
  · exact .inr (.inr (.inl h))
  · exact .inr (.inr (.inr ⟨t, rfl, h1, he _ _ h2 (hs t (by simp [toks]))⟩))
theorem AppG.inK (h : AppG es o m) : ∀ i ∈ toks o, get i m = some .tail := by
  rcases h with ⟨rfl, _⟩ | rfl | rfl | ⟨t, rfl, h1, h2⟩ <;> intro i hi <;> simp only [toks, List.mem_singleton, List.not_mem_nil] at hi
  subst hi; exact h2
theorem app_G {K : AV → Heap → Prop} (ha : AppG es o m) (hy : aelems k y m = some ys) (hsy : sized k ys) (hse : sized k es) (hb : (es.length + ys.length) * b ≤ 140737488355328) (hl : es.length + ys.length ≤ maxLen)
    (h : ∀ o' m', AppG (es ++ ys) o' m' → Ext (toks o) m m' → (o' = o ∨ ∀ i ∈ toks o', i ∉ keys m) → K (.lst (es ++ ys) o') m') : @onApp false k b z (.lst es o) y m ⟨K⟩ := by
  by_cases hne : ys = []
  · subst hne
    refine app_none ha.tokOk hy hse (by simpa using hb) (by simpa using hl) ?_
    have := h o m (by rw [List.append_nil]; exact ha) .rfl' (.inl rfl)
    rw [List.append_nil] at this
    exact this
  · refine ⟨ys, hy, hsy, hse, hb, hl, ha.tokOk, fun e => absurd e hne, fun _ => ?_⟩
    rw [if_neg (by simp)]
    rcases ha with ⟨rfl, _⟩ | rfl | rfl | ⟨t, rfl, h1, h2⟩
    · exact fun t ht => h (.tok t) _ (.inr (.inr (.inr ⟨t, rfl, by simp [hne], get_new⟩))) (.new ht) (.inr fun i hi => by simp only [toks, List.mem_singleton] at hi; subst hi; exact ht)
    · exact fun t ht => h (.tok t) _ (.inr (.inr (.inr ⟨t, rfl, by simp [hne], get_new⟩))) (.new ht) (.inr fun i hi => by simp only [toks, List.mem_singleton] at hi; subst hi; exact ht)
    · exact fun t ht => h (.tok t) _ (.inr (.inr (.inr ⟨t, rfl, by simp [hne], get_new⟩))) (.new ht) (.inr fun i hi => by simp only [toks, List.mem_singleton] at hi; subst hi; exact ht)
    · refine ⟨h2, fun t' ht => h (.tok t') _ (.inr (.inr (.inr ⟨t', rfl, by simp [hne], get_new⟩))) (fun i ob hi hs => ?_) (.inr fun i hi => by simp only [toks, List.mem_singleton] at hi; subst hi; exact ht)⟩
      rw [get_old (new_ne hi ht), get_del_ne (by simpa [toks] using hs)]
      exact hi
end

/-! ### '==' of structs and arrays of plain cells -/
theorem w_eqP {sig : List CellK} {ρ : Regs} {m : Heap} {x y : Opd} {K : AV → Heap → Prop} : vop (.bin .eql (.plain sig) x y) ρ m K = @onEq (.plain sig) (ev ρ x) (ev ρ y) ⟨fun b => @val (bo b) ⟨fun r => K r m⟩⟩ := propext ⟨fun h => h, fun h => h⟩
theorem w_neP {sig : List CellK} {ρ : Regs} {m : Heap} {x y : Opd} {K : AV → Heap → Prop} : vop (.bin .neq (.plain sig) x y) ρ m K = @onEq (.plain sig) (ev ρ x) (ev ρ y) ⟨fun b => @val (bo (!b)) ⟨fun r => K r m⟩⟩ := propext ⟨fun h => h, fun h => h⟩
theorem onEq_plain {sig : List CellK} {xs ys : List AV} {K : Bool → Prop} : @onEq (.plain sig) (.agg xs) (.agg ys) ⟨K⟩ = (fitsA sig xs = true ∧ fitsA sig ys = true ∧ @withS _ (eqCells xs ys) ⟨K⟩) := by
  show (_ ∧ _ ∧ ∃ b, _) = _
  rw [withS_ex]
theorem fits_ints {k : IntKind} : ∀ {l : List Int} {n : Nat}, l.length = n → fitsA (List.replicate n .i) (kl k l) = true
  | [], 0, _ => rfl
  | a :: l, n + 1, h => by
    rw [List.replicate_succ]
    show (true && fitsA _ (kl k l)) = true
    rw [fits_ints (by simpa using h)]; rfl
theorem eqCells_ints {k : IntKind} : ∀ {a b : List Int}, a.length = b.length → eqCells (kl k a) (kl k b) = some (decide (a = b))
  | [], [], _ => rfl
  | x :: a, y :: b, h => by
    have ih := eqCells_ints (k := k) (a := a) (b := b) (by simpa using h)
    show (match eqA1 (kv k x) (kv k y), eqCells (kl k a) (kl k b) with | some r, some r' => some (r && r') | _, _ => none) = _
    rw [ih]
    simp [eqA1]

theorem w_twin {ρ : Regs} {m : Heap} {x : Opd} {K : AV → Heap → Prop} : vop (.twin x) ρ m K = @onLst (ev ρ x) ⟨fun es o => o = .full ∧ @val (.lst es .full) ⟨fun v => K v m⟩⟩ ⟨fun _ _ _ _ => False⟩ := by
  simp only [vop, onLst, val_e]
  cases ev ρ x with
  | lst es o => cases o <;> simp
  | _ => rfl
/-! ### Copies, and zeros -/
def onCopy (k : Option Nat) (x y : AV) (m : Heap) [K : Inhabited (AV → Heap → Prop)] : Prop := match x with
    | .mref id off n _ => ∃ ys, aelems k y m = some ys ∧ sized k ys ∧ ∃ cs, get id m = some (.cells cs) ∧ off + n * k.getD 1 ≤ cs.length ∧ K.default (i64 (min ys.length n)) (put id (.cells (splice off (flat (ys.take n)) cs)) m)
    | _ => False
theorem w_copy {k : Option Nat} {ρ : Regs} {m : Heap} {x y : Opd} {K : AV → Heap → Prop} : vop (.copy k x y) ρ m K = @onCopy k (ev ρ x) (ev ρ y) m ⟨K⟩ := propext ⟨fun h => h, fun h => h⟩
def onClear (k : Option Nat) (z : List AV) (x : AV) (m : Heap) [K : Inhabited (AV → Heap → Prop)] : Prop := match x with
    | .mref id off n _ => allOne z = true ∧ z.length = k.getD 1 ∧ ∃ cs, get id m = some (.cells cs) ∧ off + n * k.getD 1 ≤ cs.length ∧ K.default uv (put id (.cells (splice off (List.replicate n z).flatten cs)) m)
    | _ => False
theorem w_clear {k : Option Nat} {z : List AV} {ρ : Regs} {m : Heap} {x : Opd} {K : AV → Heap → Prop} : vop (.clear k z x) ρ m K = @onClear k z (ev ρ x) m ⟨K⟩ := propext ⟨fun h => h, fun h => h⟩
theorem splice_eq : ∀ (n : Nat) (xs cs : List AV), n + xs.length ≤ cs.length → splice n xs cs = cs.take n ++ (xs ++ cs.drop (n + xs.length))
  | 0, [], cs, _ => by cases cs <;> simp [splice]
  | 0, x :: xs, c :: cs, h => by
    have := splice_eq 0 xs cs (by simpa using h)
    simp only [splice, this, List.take_zero, List.nil_append, List.length_cons, List.cons_append, Nat.zero_add, List.drop_succ_cons]
  | n + 1, xs, c :: cs, h => by
    have := splice_eq n xs cs (by simp at h; omega)
    simp only [splice, this, List.take_succ_cons, List.cons_append]
    rw [show n + 1 + xs.length = (n + xs.length) + 1 by omega, List.drop_succ_cons]
  | 0, _ :: _, [], h => by simp at h
  | n + 1, _, [], h => by simp at h
/-- Some of a list for others. -/
def spl {α : Type} (n : Nat) (xs l : List α) : List α := l.take n ++ (xs ++ l.drop (n + xs.length))
theorem spl_len {α : Type} {n : Nat} {xs l : List α} (h : n + xs.length ≤ l.length) : (spl n xs l).length = l.length := by
  simp [spl]; omega
theorem splice_kl {k : IntKind} {n : Nat} {x l : List Int} {r : List AV} (h : n + x.length ≤ l.length) : splice n (kl k x) (kl k l ++ r) = kl k (spl n x l) ++ r := by
  rw [splice_eq n _ _ (by rw [kl_len, List.length_append, kl_len]; omega), kl_len, List.take_append_of_le_length (by rw [kl_len]; omega), List.drop_append_of_le_length (by rw [kl_len]; omega)]
  unfold spl
  rw [kl_app, kl_app, kl_take, kl_dropn]
  simp only [List.append_assoc]
theorem copy_i {k : IntKind} {l : List Int} {y : AV} {m : Heap} {id off n c : Nat} {cs : List AV} {K : AV → Heap → Prop} (hy : aelems none y m = some (kl k l)) (hg : get id m = some (.cells cs)) (hl : off + n ≤ cs.length)
    (h : K (i64 (min (l.length : Int) (n : Int))) (put id (.cells (splice off (kl k (l.take n)) cs)) m)) : @onCopy none (.mref id off n c) y m ⟨K⟩ := by
  refine ⟨kl k l, hy, sized_ints l, cs, hg, by simpa using hl, ?_⟩
  rw [kl_len, ← List.map_take, flat_ints]
  exact h
theorem kl_zeros {k : IntKind} (n : Nat) : (List.replicate n [kv k 0]).flatten = kl k (List.replicate n 0) := by
  induction n with
  | zero => rfl
  | succ n ih => rw [List.replicate_succ, List.flatten_cons, ih]; rfl
theorem clear_i {k : IntKind} {m : Heap} {id off n c : Nat} {cs : List AV} {K : AV → Heap → Prop} (hg : get id m = some (.cells cs)) (hl : off + n ≤ cs.length)
    (h : K uv (put id (.cells (splice off (kl k (List.replicate n 0)) cs)) m)) : @onClear none [kv k 0] (.mref id off n c) m ⟨K⟩ := by
  refine ⟨rfl, rfl, cs, hg, by simpa using hl, ?_⟩
  rw [kl_zeros]
  exact h
/-- A part of a buffer. -/
theorem part_elems {k : IntKind} {l : List Int} {rest : List AV} {id off n c : Nat} {m : Heap} (hg : get id m = some (.cells (kl k l ++ rest))) (hn : off + n ≤ l.length) : aelems none (.mref id off n c) m = some (kl k ((l.drop off).take n)) := by
  simp only [aelems, hg]
  rw [List.drop_append_of_le_length (by rw [kl_len]; omega), ← kl_dropn]
  have e : kl k (l.drop off) ++ rest = kl k ((l.drop off).take n) ++ (kl k ((l.drop off).drop n) ++ rest) := by
    rw [← List.append_assoc, ← kl_app, List.take_append_drop]
  rw [e]
  have := chunk_ints (k := k) ((l.drop off).take n) (kl k ((l.drop off).drop n) ++ rest)
  rw [List.length_take, List.length_drop, Nat.min_eq_left (by omega)] at this
  exact this

theorem whole_elems {k : IntKind} {l : List Int} {id n c : Nat} {m : Heap} (hg : get id m = some (.cells (kl k l))) (hn : l.length = n) : aelems none (.mref id 0 n c) m = some (kl k l) := by
  have := part_elems (k := k) (l := l) (rest := []) (id := id) (off := 0) (n := n) (c := c) (m := m) (by rw [List.append_nil]; exact hg) (by omega)
  rw [List.drop_zero, ← hn, List.take_length] at this
  rw [← hn]; exact this

/-! ### Rows one behind the other -/
theorem fz_len {α : Type} {z : Nat} : ∀ {ps : List (List α)}, (∀ p ∈ ps, p.length = z) → ps.flatten.length = ps.length * z
  | [], _ => by simp
  | p :: ps, h => by
    rw [List.flatten_cons, List.length_append, h p (by simp), fz_len fun q hq => h q (by simp [hq]), List.length_cons, Nat.succ_mul]; omega
theorem fz_drop {α : Type} {z : Nat} : ∀ {ps : List (List α)} {n : Nat}, (∀ p ∈ ps, p.length = z) → ps.flatten.drop (n * z) = (ps.drop n).flatten
  | [], n, _ => by simp
  | p :: ps, 0, _ => by simp
  | p :: ps, n + 1, h => by
    rw [List.flatten_cons, Nat.succ_mul, Nat.add_comm, ← List.drop_drop, ← h p (by simp), List.drop_left, h p (by simp), fz_drop fun q hq => h q (by simp [hq]), List.drop_succ_cons]
theorem fz_take {α : Type} {z : Nat} : ∀ {ps : List (List α)} {n : Nat}, (∀ p ∈ ps, p.length = z) → ps.flatten.take (n * z) = (ps.take n).flatten
  | [], n, _ => by simp
  | p :: ps, 0, _ => by simp
  | p :: ps, n + 1, h => by
    rw [List.flatten_cons, List.take_succ_cons, List.flatten_cons, ← fz_take (ps := ps) fun q hq => h q (by simp [hq]), List.take_append, List.take_of_length_le (by rw [h p (by simp), Nat.succ_mul]; omega), h p (by simp), Nat.succ_mul, Nat.add_sub_cancel]
theorem fz_get {α : Type} {z n : Nat} {ps : List (List α)} {p : List α} (h : ∀ p ∈ ps, p.length = z) (hn : ps[n]? = some p) : (ps.flatten.drop (n * z)).take z = p := by
  obtain ⟨hi, rfl⟩ := List.getElem?_eq_some_iff.1 hn
  rw [fz_drop h, List.drop_eq_getElem_cons hi, List.flatten_cons]
  rw [← h ps[n] (by simp), List.take_left]
theorem fz_set {α : Type} {z n : Nat} {ps : List (List α)} {p x : List α} (h : ∀ p ∈ ps, p.length = z) (hn : ps[n]? = some p) (hx : x.length ≤ z) : spl (n * z) x ps.flatten = (ps.set n (x ++ p.drop x.length)).flatten := by
  obtain ⟨hi, rfl⟩ := List.getElem?_eq_some_iff.1 hn
  unfold spl
  rw [fz_take h, ← List.drop_drop, fz_drop h, List.drop_eq_getElem_cons hi, List.flatten_cons, List.drop_append_of_le_length (by rw [h ps[n] (by simp)]; exact hx)]
  rw [List.set_eq_take_append_cons_drop, if_pos hi, List.flatten_append, List.flatten_cons, List.append_assoc]

/-! ### Structs and lists among the arguments -/
section
variable {P : Program} {N : Nat → Prop} {t e : TypeId} {cs : List AV}
/-- Field by field. -/
def Shapes (P : Program) (N : Nat → Prop) : List TypeId → List (List AV) → Prop
  | [], [] => True
  | t :: ts, c :: cs => Shape P N t c ∧ Shapes P N ts cs
  | _, _ => False
theorem shape_fields {fs : Array Field} {ts : List TypeId} (hu : P.underlying t = some (.struct fs)) (hs : fs.toList.map (·.type) = ts) (h : Shape P N t cs) : ∃ css : List (List AV), cs = css.flatten ∧ Shapes P N ts css := by
  obtain ⟨css, rfl, hl, hf⟩ := shape_struct hu h
  refine ⟨css, rfl, ?_⟩
  subst hs
  have key : ∀ (fl : List Field) (cl : List (List AV)), cl.length = fl.length → (∀ (i : Nat) f c, fl[i]? = some f → cl[i]? = some c → Shape P N f.type c) → Shapes P N (fl.map (·.type)) cl := by
    intro fl
    induction fl with
    | nil =>
      intro cl h _
      cases cl with
      | nil => exact trivial
      | cons c cl => simp at h
    | cons f fl ih =>
      intro cl h hh
      cases cl with
      | nil => simp at h
      | cons c cl => exact ⟨hh 0 f c rfl rfl, ih cl (by simpa using h) fun i f' c' a b => hh (i + 1) f' c' (by simpa using a) (by simpa using b)⟩
  exact key fs.toList css (by simpa using hl) fun i f c a b => hf i f c (by simpa using a) b
theorem Shapes.cons {ts : List TypeId} {css : List (List AV)} (h : Shapes P N (t :: ts) css) : ∃ c r, css = c :: r ∧ Shape P N t c ∧ Shapes P N ts r := by
  cases css with
  | nil => exact h.elim
  | cons c r => exact ⟨c, r, rfl, h.1, h.2⟩
theorem Shapes.nil' {css : List (List AV)} (h : Shapes P N [] css) : css = [] := by
  cases css with
  | nil => rfl
  | cons c r => exact h.elim
theorem shape_ints {k : IntKind} (hu : P.underlying t = some (.slice e)) (he : P.underlying e = some (.int k)) (hc : P.cellsOf e = 1) (h : Shape P N t cs) :
    ∃ (l : List Int) (o : Own), cs = [.lst (kl k l) o] ∧ (o = .nil → l = []) ∧ l.length * P.bytesOf e ≤ 140737488351232 ∧ (l = [] ∨ N l.length) ∧ ∀ n ∈ l, (Lit.int k n).wf = true := by
  obtain ⟨l, o, ys, h1, h2, h3, h4, h5, _⟩ := arg_ints (ts := []) (xs := [mkEl (aggTy P t) cs]) hu he hc ⟨⟨cs, h, rfl⟩, trivial⟩
  obtain ⟨es, o', rfl, _⟩ := shape_slice hu (by omega) h
  rw [agg_no hu rfl] at h1
  refine ⟨l, o, ?_, h2, h3, h4, h5⟩
  have : (AV.lst (es.map (mkEl (aggTy P e))) o') = .lst (kl k l) o := by
    have := congrArg List.head? h1
    exact Option.some.inj this
  rw [this]
end

/-! ### Bytes that are read, whatever holds them -/
def byteL (l : List Int) : Prop := ∀ c ∈ l, 0 ≤ c ∧ c < 256
theorem byte_app {a b : List Int} (h : byteL a) (k : byteL b) : byteL (a ++ b) := fun c hc => (List.mem_append.1 hc).elim (h c) (k c)
theorem byte_take {a : List Int} {n : Nat} (h : byteL a) : byteL (a.take n) := fun c hc => h c (List.mem_of_mem_take hc)
theorem byte_drop {a : List Int} {n : Nat} (h : byteL a) : byteL (a.drop n) := fun c hc => h c (List.mem_of_mem_drop hc)
theorem byte_zeros {n : Nat} : byteL (List.replicate n 0) := fun c hc => by rw [(List.mem_replicate.1 hc).2]; omega
/-- Bytes that stay, whatever is written under some ids. -/
def Els (S : List Nat) (y : AV) (m : Heap) (l : List Int) : Prop := ((∃ o, y = .lst (kl .u8 l) o ∧ (o = .nil → l = [])) ∨ ∃ id off cap cs rest, y = .mref id off l.length cap ∧ id ∉ S ∧ get id m = some (.cells cs) ∧ cs.drop off = kl .u8 l ++ rest ∧ l.length ≤ cap) ∧ byteL l
theorem Els.at {S : List Nat} {y : AV} {m m' : Heap} {l : List Int} (h : Els S y m l) (he : Ext S m m') : aelems none y m' = some (kl .u8 l) := by
  rcases h.1 with ⟨o, rfl, ho⟩ | ⟨id, off, cap, cs, rest, rfl, h1, h2, h3, hcl⟩
  · rfl
  · simp only [aelems, he _ _ h2 h1, h3]
    exact chunk_ints l rest
theorem Els.lenIs {S : List Nat} {y : AV} {m : Heap} {l : List Int} (h : Els S y m l) : LenIs y l.length := by
  rcases h.1 with ⟨o, rfl, ho⟩ | ⟨id, off, cap, cs, rest, rfl, h1, h2, h3, hcl⟩
  · exact .inl ⟨_, _, rfl, kl_len⟩
  · exact .inr ⟨_, _, _, rfl⟩
theorem Els.ext {S S' : List Nat} {y : AV} {m m' : Heap} {l : List Int} (h : Els S y m l) (he : Ext S' m m') (hs : ∀ i ∈ S', i ∈ S) : Els S y m' l := by
  refine ⟨?_, h.2⟩
  rcases h.1 with ⟨o, rfl, ho⟩ | ⟨id, off, cap, cs, rest, rfl, h1, h2, h3, hcl⟩
  · exact .inl ⟨o, rfl, ho⟩
  · exact .inr ⟨id, off, cap, cs, rest, rfl, h1, he _ _ h2 fun hh => h1 (hs _ hh), h3, hcl⟩
theorem Els.lst {S : List Nat} {m : Heap} {l : List Int} {o : Own} (h : byteL l) (ho : o = .nil → l = []) : Els S (.lst (kl .u8 l) o) m l := ⟨.inl ⟨o, rfl, ho⟩, h⟩
theorem BufI.lenIs {k : IntKind} {l : List Int} {v : AV} {m : Heap} (h : BufI k l v m) : LenIs v l.length := by
  rcases h with ⟨h1, h | h⟩ | ⟨id, cap, rest, rfl, _⟩
  · obtain rfl : l = [] := List.map_eq_nil_iff.1 h1
    exact .inl ⟨[], .nil, h, rfl⟩
  · obtain rfl : l = [] := List.map_eq_nil_iff.1 h1
    exact .inl ⟨[], .full, h, rfl⟩
  · rw [krows_len]; exact .inr ⟨_, _, _, rfl⟩
theorem BufI.els {S : List Nat} {y : AV} {m : Heap} {l : List Int} (h : BufI .u8 l y m) (hb : byteL l) (hs : ∀ i ∈ refs y, i ∉ S) : Els S y m l := by
  refine ⟨?_, hb⟩
  rcases h with ⟨h1, h | h⟩ | ⟨id, cap, rest, rfl, hc, _, _, _, h5⟩
  · obtain rfl : l = [] := List.map_eq_nil_iff.1 h1
    exact .inl ⟨.nil, h, fun _ => rfl⟩
  · obtain rfl : l = [] := List.map_eq_nil_iff.1 h1
    exact .inl ⟨.full, h, fun e => by cases e⟩
  · rw [krows_len] at hc ⊢
    rw [krows_flat] at h5
    exact .inr ⟨id, 0, cap, _, rest, rfl, hs id (by simp [refs]), h5, rfl, hc⟩

theorem acells_lst {e : AV} {m : Heap} : acells (.vptr e.cells) m = some e.cells := rfl
/-- A byte at a place. -/
theorem idx_i {S : List Nat} {y : AV} {m : Heap} {l : List Int} {n : Int} {x : Int} {K : AV → Prop} (h : Els S y m l) (h0 : 0 ≤ n) (hx : l[n.toNat]? = some x) (k : ∀ a r, acells a m = some (.sc (.int .u8 x) :: r) → K a) :
    @onLst y ⟨fun es _ => @withS _ es[n.toNat]? ⟨fun e => e.cells.length = 1 ∧ @val (.vptr e.cells) ⟨K⟩⟩⟩ ⟨fun id off len _ => n < len ∧ @val (.ptr id (off + n.toNat * 1)) ⟨K⟩⟩ := by
  have hl := (List.getElem?_eq_some_iff.1 hx).1
  rcases h.1 with ⟨o, rfl, ho⟩ | ⟨id, off, cap, cs, rest, rfl, h1, h2, h3, hcl⟩
  · rw [onLst_l, kl_get hx]
    exact ⟨rfl, k _ [] rfl⟩
  · rw [onLst_m]
    refine ⟨by omega, k _ ((kl .u8 l ++ rest).drop (n.toNat + 1)) ?_⟩
    rw [acells_p, h2]
    show some (cs.drop _) = _
    rw [Nat.mul_one, ← List.drop_drop, h3, kl_drop hx]
/-- A part of a slice of bytes. -/
theorem slice_i {S : List Nat} {ρ : Regs} {lo hi : Option Opd} {y : AV} {m : Heap} {l : List Int} {L H : Int} {K : AV → Prop} (h : Els S y m l) (hlo : ∀ K : Int → Prop, K L → bndOr ρ lo 0 K) (hhi : ∀ K : Int → Prop, K H → bndOr ρ hi l.length K)
    (h0 : 0 ≤ L) (h1 : L ≤ H) (h2 : H ≤ l.length) (k : ∀ y', Els S y' m ((l.drop L.toNat).take (H.toNat - L.toNat)) → K y') :
    @onLst y ⟨fun es o => bndOr ρ lo 0 fun l => bndOr ρ hi es.length fun h => 0 ≤ l ∧ l ≤ h ∧ h ≤ es.length ∧ (l ≠ 0 → szOk 1 es) ∧ @val (.lst ((es.drop l.toNat).take (h.toNat - l.toNat)) (if l = 0 ∧ h = es.length then o else .any)) ⟨K⟩⟩
      ⟨fun id off len cap => bndOr ρ lo 0 fun l => bndOr ρ hi len fun h => 0 ≤ l ∧ l ≤ h ∧ h ≤ cap ∧ @val (.mref id (if (cap : Int) = l then off else off + l.toNat * 1) (h.toNat - l.toNat) (cap - l.toNat)) ⟨K⟩⟩ := by
  have hb : byteL ((l.drop L.toNat).take (H.toNat - L.toNat)) := byte_take (byte_drop h.2)
  rcases h.1 with ⟨o, rfl, ho⟩ | ⟨id, off, cap, cs, rest, rfl, g1, g2, g3, hcl⟩
  · rw [onLst_l]
    refine hlo _ ?_
    rw [kl_len]
    refine hhi _ ⟨h0, h1, h2, fun _ e he => ?_, ?_⟩
    · obtain ⟨z, _, rfl⟩ := List.mem_map.1 he; rfl
    · refine k _ ⟨.inl ⟨if L = 0 ∧ H = (l.length : Int) then o else .any, by rw [kl_take, kl_dropn], fun e => ?_⟩, hb⟩
      split at e
      · rw [ho e]; simp
      · cases e
  · rw [onLst_m]
    refine hlo _ (hhi _ ⟨h0, h1, by omega, ?_⟩)
    have hlen : ((l.drop L.toNat).take (H.toNat - L.toNat)).length = H.toNat - L.toNat := by rw [List.length_take, List.length_drop]; omega
    refine k _ ⟨.inr ⟨id, if (cap : Int) = L then off else off + L.toNat * 1, cap - L.toNat, cs, if (cap : Int) = L then kl .u8 l ++ rest else (kl .u8 l ++ rest).drop (L.toNat + (H.toNat - L.toNat)), by rw [hlen], g1, g2, ?_, by rw [hlen]; omega⟩, hb⟩
    by_cases hc : (cap : Int) = L
    · rw [if_pos hc, if_pos hc, g3, show H.toNat - L.toNat = 0 by omega]; rfl
    · rw [if_neg hc, if_neg hc, Nat.mul_one, ← List.drop_drop, g3, ← List.drop_drop, List.drop_append_of_le_length (by rw [kl_len]; omega), ← kl_dropn, kl_take]
      rw [List.drop_append_of_le_length (by rw [kl_len, List.length_drop]; omega), ← List.append_assoc, List.take_append_drop]

theorem sb_bytesOf {l : List Int} (h : byteL l) : sb (bytesOf l) = l := by
  unfold sb bytesOf
  rw [ByteArray.toList_eq, List.map_map]
  have : ∀ c ∈ l, ((fun c : UInt8 => (c.toNat : Int)) ∘ fun c : Int => UInt8.ofNat c.toNat) c = c := fun c hc => by
    obtain ⟨a, b⟩ := h c hc
    have : (UInt8.ofNat c.toNat).toNat = c.toNat := by rw [UInt8.toNat_ofNat']; exact Nat.mod_eq_of_lt (by omega)
    simp only [Function.comp_apply, this, Int.toNat_of_nonneg a]
  exact (List.map_congr_left this).trans (List.map_id'' (fun _ => rfl) l)
theorem bytesOf_inj {a b : List Int} (ha : byteL a) (hb : byteL b) : (bytesOf a = bytesOf b) = (a = b) := propext ⟨fun e => by rw [← sb_bytesOf ha, e, sb_bytesOf hb], fun e => by rw [e]⟩
theorem bytes_ii {l : List Int} {v : AV} {m : Heap} {K : ByteArray → Prop} (h1 : aelems none v m = some (kl .u8 l)) (h2 : byteL l) (h : K (bytesOf l)) : @onBytes v m ⟨K⟩ := bytes_i h1 h2 h
theorem Els.isL {S : List Nat} {y : AV} {m : Heap} {l : List Int} (h : Els S y m l) : (∃ es o, y = .lst es o ∧ (o = .nil → es = [])) ∨ ∃ i o n c, y = .mref i o n c := by
  rcases h.1 with ⟨o, rfl, ho⟩ | ⟨id, off, cap, cs, rest, rfl, _⟩
  · exact .inl ⟨_, _, rfl, fun e => by rw [ho e]; rfl⟩
  · exact .inr ⟨_, _, _, _, rfl⟩

theorem Els.re {S T : List Nat} {y : AV} {m : Heap} {l : List Int} (h : Els S y m l) (ht : ∀ i ∈ refs y, i ∉ T) : Els T y m l := by
  refine ⟨?_, h.2⟩
  rcases h.1 with ⟨o, rfl, ho⟩ | ⟨id, off, cap, cs, rest, rfl, h1, h2⟩
  · exact .inl ⟨o, rfl, ho⟩
  · exact .inr ⟨id, off, cap, cs, rest, rfl, ht id (by simp [refs]), h2⟩
theorem Els.inK {S : List Nat} {y : AV} {m : Heap} {l : List Int} (h : Els S y m l) : ∀ i ∈ refs y, i ∈ keys m := by
  rcases h.1 with ⟨o, rfl, ho⟩ | ⟨id, off, cap, cs, rest, rfl, h1, h2, _⟩
  · simp [refs]
  · intro i hi
    simp only [refs, List.mem_singleton] at hi
    subst hi
    exact mem_keys h2
theorem Els.apart {S : List Nat} {y : AV} {m : Heap} {l : List Int} {q : Nat} (h : Els S y m l) (hq : q ∉ keys m) : ∀ i ∈ refs y, i ∉ [q] := fun i hi hk => by
  simp only [List.mem_singleton] at hk
  subst hk
  exact hq (h.inK _ hi)
theorem Els.form {S : List Nat} {y : AV} {m : Heap} {l : List Int} (h : Els S y m l) : (∃ es o, y = .lst es o) ∨ ∃ a b c d, y = .mref a b c d := by
  rcases h.1 with ⟨o, rfl, _⟩ | ⟨id, off, cap, cs, rest, rfl, _⟩
  · exact .inl ⟨_, _, rfl⟩
  · exact .inr ⟨_, _, _, _, rfl⟩
theorem Ext.hd {q : Nat} {a b : AObj} {m : Heap} : Ext [q] ((q, a) :: m) ((q, b) :: m) := fun i ob h hi => by
  simp only [List.mem_singleton] at hi
  rw [get_old (fun e => hi e.symm)] at h ⊢
  exact h
end Go.Proofs.Ytceahampebofbaa.Moi
