/- From the machine's operations to the smaller form; what the machine does at each of them is what the smaller form says. -/
import Derived.Test.YtceahampebofbaaMoiC
set_option linter.unusedVariables false
set_option linter.unusedSimpArgs false
namespace Go.Proofs.Ytceahampebofbaa.Moi
open Go Go.RowKit

def aconst : Value → AV
  | .slice none 0 0 => .lst [] .nil
  | v => .sc v
def nopd : Operand → Opd
  | .tmp t => .r t
  | .const v => .k (aconst v)
  | .func f => .k (.clos f [])
  | .global _ => .no

def isAggD : TypeDesc → Bool
  | .struct _ | .array _ _ => true
  | _ => false
/-- How a type's values lie: one cell, or so many. -/
def ekOf (P : Program) (t : TypeId) : Option (Option Nat) :=
  match P.underlying t, P.info? t with
  | some d, some i => if isAggD d then (if 0 < i.size then some (some i.size) else none) else if i.size = 1 then some none else none
  | _, _ => none
def zeroOf (P : Program) (t : TypeId) : Option (List AV) :=
  match P.info? t with
  | some i => match i.zero with
    | some z => if z.cells.size = i.size ∧ allOne (z.cells.toList.map aconst) = true then some (z.cells.toList.map aconst) else none
    | none => none
  | none => none

theorem aconst_ok (γ : Ghost) (v : Value) : Rep γ (aconst v) v := by
  unfold aconst
  split
  · exact .lnil
  · exact .sc _

abbrev RegOk (γ : Ghost) (ρ : Regs) (tmps : Array Value) : Prop := ∀ i, Rep γ (ρ i) (tmps.getD i undef)

theorem ev_ok {γ : Ghost} {ρ : Regs} {a : Act} (h : RegOk γ ρ a.tmps) (x : Operand) : Rep γ (ev ρ (nopd x)) (a.eval x) := by
  cases x with
  | tmp t => exact h t
  | const v => exact aconst_ok γ v
  | func f => exact .clos f [] #[] rfl (by simp)
  | global g => exact .top _

/-- An operation has been run. -/
def Ran (P : Program) (o : Oper) (a : Act) (w : World) (v : Value) (w' : World) : Prop :=
  (execOp a.eval o).run P w = .ok (.value v) w' ∨ ((execOp a.eval o).run P w = .ok .skip w' ∧ v = undef)
/-- What it gives is what K speaks of. -/
def Fin (γ : Ghost) (mf : Heap) (K : AV → Heap → Prop) (v : Value) (w' : World) : Prop :=
  ∃ γ' x m', γ.le γ' ∧ Rep γ' x v ∧ Sat γ' (m' ++ mf) w' ∧ K x m'
def OpOk (P : Program) (no : NOp) (o : Oper) : Prop := ∀ (γ : Ghost) (mf : Heap) (ρ : Regs) (m : Heap) (a : Act) (w : World) (K : AV → Heap → Prop),
  RegOk γ ρ a.tmps → Sat γ (m ++ mf) w → vop no ρ m K → ∃ v w', Ran P o a w v w' ∧ Fin γ mf K v w'

theorem Fin.same {γ : Ghost} {mf : Heap} {K : AV → Heap → Prop} {v : Value} {w : World} {x : AV} {m : Heap} (r : Rep γ x v) (s : Sat γ (m ++ mf) w) (k : K x m) : Fin γ mf K v w :=
  ⟨γ, x, m, .refl γ, r, s, k⟩

section
variable {P : Program}

/-- An operation that only reckons. -/
theorem ran_of {o : Oper} {a : Act} {w : World} {v : Value} {s : Sem Value} (he : execOp a.eval o = (do pure (.value (← s)))) (h : s.run P w = .ok v w) : Ran P o a w v w := by
  refine .inl ?_
  rw [he]
  simp [h]
theorem ran_to {o : Oper} {a : Act} {w w' : World} {v : Value} {s : Sem Value} (he : execOp a.eval o = (do pure (.value (← s)))) (h : s.run P w = .ok v w') : Ran P o a w v w' := by
  refine .inl ?_
  rw [he]
  simp [h]

theorem ok_move {o : Oper} {x : Operand} (ho : o.op = .move x ∨ o.op = .assign x) : OpOk P (.move (nopd x)) o := by
  intro γ mf ρ m a w K hr hs hv
  refine ⟨a.eval x, w, .inl ?_, Fin.same (ev_ok hr x) hs hv⟩
  rcases ho with ho | ho <;> simp [execOp, ho]

theorem Rep.bool {γ : Ghost} {b : Bool} {v : Value} (h : Rep γ (bo b) v) : v = .bool b := by cases h; rfl

theorem ok_pick {o : Oper} {c x y : Operand} (ho : o.op = .pick c x y) : OpOk P (.pick (nopd c) (nopd x) (nopd y)) o := by
  intro γ mf ρ m a w K hr hs hv
  obtain ⟨t, ht, hk⟩ := hv
  have hc : a.eval c = .bool t := by
    have := ev_ok hr c
    rw [ht] at this
    exact this.bool
  refine ⟨if t then a.eval x else a.eval y, w, .inl ?_, Fin.same ?_ hs hk⟩
  · simp [execOp, ho, hc, asBool]
  · cases t
    · exact ev_ok hr y
    · exact ev_ok hr x

/-! ### Loads -/
theorem acells_ok {γ : Ghost} {m mf : Heap} {w : World} {x : AV} {v : Value} {cs : List AV} (hr : Rep γ x v) (hs : Sat γ (m ++ mf) w) (h : acells x m = some cs) :
    ∃ b off, v = .pointer (some ⟨b, off, none⟩) ∧ ∀ j y, cs[j]? = some y → ∃ u, w.cell? ⟨b, off + j, none⟩ = some u ∧ Rep γ y u := by
  cases hr <;> simp only [acells] at h <;> try (cases h; done)
  case vptr cs' b off u h1 h2 =>
    obtain rfl := Option.some.inj h
    exact ⟨b, off, rfl, fun j y hj => ⟨u j, hs.frz _ _ _ (h1 j y hj), h2 j y hj⟩⟩
  case ptr id off b hb =>
    split at h
    · rename_i cs0 hg
      obtain rfl := Option.some.inj h
      obtain ⟨b', cur, e, fr, k1, k2, k3, _, k4, k5⟩ := hs.obj id _ (get_mem (get_append hg))
      rw [hb] at k1
      obtain rfl := Option.some.inj k1
      refine ⟨b, off, rfl, fun j y hj => ?_⟩
      rw [List.getElem?_drop] at hj
      refine ⟨cur.getD (off + j) undef, ?_, k5 _ _ hj⟩
      rw [cell_of_row w b (off + j) cur e fr k3]
      have hlt : off + j < cur.size := by rw [k4]; exact (List.getElem?_eq_some_iff.1 hj).1
      simp [Array.getD, hlt]
    · cases h

theorem addr_add (b off j : Nat) : (⟨b, off, none⟩ : Addr).add j = ⟨b, off + j, none⟩ := by unfold Addr.add; split <;> simp_all

/-- Cells that are read one behind the other. -/
theorem read_cells {γ : Ghost} {w : World} {b off : Nat} {cs : List AV} (h : ∀ j y, cs[j]? = some y → ∃ u, w.cell? ⟨b, off + j, none⟩ = some u ∧ Rep γ y u) :
    ∃ us : List Value, us.length = cs.length ∧ (∀ j u, us[j]? = some u → w.cell? ((⟨b, off, none⟩ : Addr).add j) = some u) ∧ ∀ j y, cs[j]? = some y → Rep γ y (us.toArray.getD j undef) := by
  induction cs generalizing off with
  | nil => exact ⟨[], rfl, by simp, by simp⟩
  | cons c cs ih =>
    obtain ⟨u, hu, hru⟩ := h 0 c rfl
    obtain ⟨us, h1, h2, h3⟩ := ih (off := off + 1) fun j y hj => by
      obtain ⟨u, k1, k2⟩ := h (j + 1) y (by simpa using hj)
      exact ⟨u, by rw [show off + 1 + j = off + (j + 1) by omega]; exact k1, k2⟩
    refine ⟨u :: us, by simp [h1], fun j v hj => ?_, fun j y hj => ?_⟩
    · match j, hj with
      | 0, hj => simp at hj; subst hj; rw [addr_add]; exact hu
      | j + 1, hj =>
        have := h2 j v (by simpa using hj)
        rw [addr_add] at this ⊢
        rw [show off + (j + 1) = off + 1 + j by omega]; exact this
    · match j, hj with
      | 0, hj => simp at hj; subst hj; simpa using hru
      | j + 1, hj =>
        have := h3 j y (by simpa using hj)
        simpa using this

theorem run_loadVar_scalar {t : TypeId} {d : TypeDesc} {w : World} {a : Addr} {u : Value} (ht : P.underlying t = some d) (hd : isAggD d = false) (hc : w.cell? a = some u) :
    (loadVar t a).run P w = .ok u w := by
  cases d <;> simp_all [loadVar, isAgg, run_underlying ht, isAggD]
theorem run_loadVar_agg {t : TypeId} {d : TypeDesc} {i : TypeInfo} {w : World} {a : Addr} {us : List Value} (ht : P.underlying t = some d) (hd : isAggD d = true) (hi : P.info? t = some i)
    (hl : us.length = i.size) (hc : ∀ j u, us[j]? = some u → w.cell? (a.add j) = some u) : (loadVar t a).run P w = .ok (.agg us.toArray) w := by
  have := run_loadCells_list (P := P) w a us hc
  rw [hl] at this
  cases d <;> simp_all [loadVar, isAgg, run_underlying ht, isAggD, sizeOf, typeInfo]

theorem ekOf_some {t : TypeId} {k : Option Nat} (h : ekOf P t = some k) : ∃ d i, P.underlying t = some d ∧ P.info? t = some i ∧ i.size = k.getD 1 ∧ isAggD d = k.isSome ∧ 0 < k.getD 1 := by
  unfold ekOf at h
  split at h
  · rename_i d i hd hi
    split at h
    · split at h
      · simp only [Option.some.injEq] at h; subst h
        exact ⟨d, i, hd, hi, rfl, by simp_all, by simpa⟩
      · cases h
    · split at h
      · simp only [Option.some.injEq] at h; subst h
        exact ⟨d, i, hd, hi, by simp_all, by simp_all, by simp⟩
      · cases h
  · cases h

/-- A value of a type read out of cells that are known. -/
theorem read_elem {γ : Ghost} {w : World} {t : TypeId} {k : Option Nat} (hk : ekOf P t = some k) {b off : Nat} {cs : List AV} {x : AV}
    (h : ∀ j y, cs[j]? = some y → ∃ u, w.cell? ⟨b, off + j, none⟩ = some u ∧ Rep γ y u) (hx : elem k cs = some x) :
    ∃ v, (loadVar t ⟨b, off, none⟩).run P w = .ok v w ∧ Rep γ x v := by
  obtain ⟨d, i, hd, hi, hsz, hagg, _⟩ := ekOf_some hk
  cases k with
  | none =>
    simp only [elem] at hx
    obtain ⟨u, h1, h2⟩ := h 0 x hx
    exact ⟨u, run_loadVar_scalar hd (by simpa using hagg) h1, h2⟩
  | some n =>
    simp only [elem] at hx
    split at hx
    · rename_i hn
      obtain rfl := Option.some.inj hx
      obtain ⟨us, h1, h2, h3⟩ := read_cells (γ := γ) (w := w) (b := b) (off := off) (cs := cs.take n) fun j y hj => by
        rw [List.getElem?_take] at hj
        split at hj
        · exact h j y hj
        · cases hj
      have hl : us.length = i.size := by rw [h1, hsz]; simp [hn]
      exact ⟨.agg us.toArray, run_loadVar_agg hd (by simpa using hagg) hi hl h2, .agg _ _ (by simp [h1]) h3⟩
    · cases hx

theorem ok_load {o : Oper} {t : TypeId} {x : Operand} {k : Option Nat} (ho : o.op = .load t x) (hk : ekOf P t = some k) : OpOk P (.load k (nopd x)) o := by
  intro γ mf ρ m a w K hr hs hv
  obtain ⟨cs, h1, y, h2, hK⟩ := hv
  obtain ⟨b, off, hv, hc⟩ := acells_ok (ev_ok hr x) hs h1
  obtain ⟨v, h3, h4⟩ := read_elem (P := P) hk hc h2
  refine ⟨v, w, ran_of (s := Instr.loadAt t (a.eval x)) (by simp [execOp, ho]) ?_, Fin.same h4 hs hK⟩
  simp [Instr.loadAt, hv, Instr.sureAddr, h3]

/-! ### Stores -/
theorem splice_length : ∀ (n : Nat) (xs cs : List AV), (splice n xs cs).length = cs.length
  | 0, [], [] => rfl
  | 0, [], _ :: _ => rfl
  | 0, _ :: _, [] => rfl
  | 0, x :: xs, c :: cs => by simp [splice, splice_length 0 xs cs]
  | n + 1, _, [] => rfl
  | n + 1, xs, c :: cs => by simp [splice, splice_length n xs cs]
theorem splice_get : ∀ (n : Nat) (xs cs : List AV) (j : Nat), (splice n xs cs)[j]? = if j < cs.length then (if n ≤ j ∧ j < n + xs.length then xs[j - n]? else cs[j]?) else none
  | 0, [], [], j => by simp [splice]
  | 0, [], c :: cs, j => by
    simp only [splice, List.length_nil, Nat.add_zero]
    split
    · rw [if_neg (by omega)]
    · rename_i h; rw [List.getElem?_eq_none (by omega)]
  | 0, _ :: _, [], j => by simp [splice]
  | 0, x :: xs, c :: cs, j => by
    simp only [splice]
    match j with
    | 0 => simp
    | j + 1 =>
      have := splice_get 0 xs cs j
      simp only [List.getElem?_cons_succ, List.length_cons, this, Nat.add_lt_add_iff_right, Nat.zero_add, Nat.zero_le, true_and, Nat.sub_zero]
  | n + 1, _, [], j => by simp [splice]
  | n + 1, xs, c :: cs, j => by
    simp only [splice]
    match j with
    | 0 => simp
    | j + 1 =>
      have := splice_get n xs cs j
      simp only [List.getElem?_cons_succ, List.length_cons, this, Nat.add_lt_add_iff_right, Nat.add_le_add_iff_right, Nat.add_right_comm n 1 xs.length, Nat.add_sub_add_right]

/-- A row with values laid over it. -/
def over (cur : Array Value) (k : Nat) (vs : List Value) : Array Value := (cur.toList.take k ++ vs ++ cur.toList.drop (k + vs.length)).toArray
theorem over_size (cur : Array Value) (k : Nat) (vs : List Value) (h : k + vs.length ≤ cur.size) : (over cur k vs).size = cur.size := by
  simp [over]; omega
theorem over_get (cur : Array Value) (k : Nat) (vs : List Value) (h : k + vs.length ≤ cur.size) (j : Nat) : (over cur k vs)[j]? = if k ≤ j ∧ j < k + vs.length then vs[j - k]? else cur[j]? := by
  simp only [over, List.getElem?_toArray]
  have hk : (cur.toList.take k).length = k := by simp; omega
  by_cases h1 : j < k
  · rw [if_neg (by omega), List.append_assoc, List.getElem?_append_left (by omega), List.getElem?_take, if_pos h1, Array.getElem?_toList]
  · by_cases h2 : j < k + vs.length
    · rw [if_pos (by omega), List.getElem?_append_left (by simp; omega), List.getElem?_append_right (by omega), hk]
    · rw [if_neg (by omega), List.getElem?_append_right (by simp; omega), List.getElem?_drop]
      simp only [List.length_append, hk]
      rw [show k + vs.length + (j - (k + vs.length)) = j by omega, Array.getElem?_toList]

theorem frOk_frozen {w : World} {b o : Nat} {cur : Array Value} {e : TypeId} {fr : Nat × Nat} (hb : w.heap[b]? = some (.cells cur e fr)) (hf : frOk cur.size fr) (ho : o < cur.size) : w.frozen? ⟨b, o, none⟩ = false := by
  simp only [World.frozen?, hb]
  rcases hf with rfl | rfl
  · simp
  · simp; omega

theorem setCell_row (w : World) (b o : Nat) (v : Value) (cur : Array Value) (e : TypeId) (fr : Nat × Nat) (hb : w.heap[b]? = some (.cells cur e fr)) : w.setCell ⟨b, o, none⟩ v = w.setRow b (cur.setIfInBounds o v) := by
  unfold World.setCell World.setRow
  congr 1
  refine Array.ext_getElem? fun i => ?_
  simp only [Array.getElem?_modify]
  by_cases hi : b = i
  · subst hi; simp [hb]
  · simp [hi]

theorem run_storeCells_fr (b off : Nat) (e : TypeId) (fr : Nat × Nat) : ∀ (vs : List Value) (i : Nat) (cur : Array Value) (w : World), w.heap[b]? = some (.cells cur e fr) → frOk cur.size fr →
    off + i + vs.length ≤ cur.size → (∀ v ∈ vs, v.oneCell' = true) → (storeCells ⟨b, off, none⟩ vs i).run P w = .ok () (w.setRow b (over cur (off + i) vs))
  | [], i, cur, w, hb, _, _, _ => by
    have : over cur (off + i) [] = cur := by simp [over]
    rw [this, setRow_self w b cur e fr hb]
    rfl
  | v :: vs, i, cur, w, hb, hf, hl, h1 => by
    simp only [List.length_cons] at hl
    have hc : w.cell? ⟨b, off + i, none⟩ = some cur[off + i] := by
      rw [cell_of_row w b _ cur e fr hb]; simp [show off + i < cur.size by omega]
    have hfz := frOk_frozen hb hf (o := off + i) (by omega)
    have hst : (store ((⟨b, off, none⟩ : Addr).add i) v).run P w = .ok () (w.setRow b (cur.setIfInBounds (off + i) v)) := by
      rw [run_store P w _ v .plain (h1 v (by simp)), addr_add, hc]
      simp only [hfz, Bool.false_eq_true, if_false]
      rw [setCell_row w b _ v cur e fr hb]
    have hrow := setRow_heap w b cur (cur.setIfInBounds (off + i) v) e fr hb
    have ih := run_storeCells_fr b off e fr vs (i + 1) (cur.setIfInBounds (off + i) v) (w.setRow b (cur.setIfInBounds (off + i) v)) hrow (by simpa using hf) (by simp; omega) fun u hu => h1 u (by simp [hu])
    simp only [storeCells, Sem.run_bind, hst, Result.andThen_ok, ih]
    congr 1
    rw [setRow_setRow]
    congr 1
    refine Array.ext_getElem? fun j => ?_
    rw [over_get _ _ _ (by simp; omega), over_get _ _ _ (by simp; omega)]
    simp only [List.length_cons]
    by_cases hj : off + (i + 1) ≤ j ∧ j < off + (i + 1) + vs.length
    · rw [if_pos hj, if_pos (by omega), show j - (off + i) = (j - (off + (i + 1))) + 1 by omega, List.getElem?_cons_succ]
    · rw [if_neg hj]
      by_cases hj' : j = off + i
      · subst hj'
        rw [if_pos (by omega)]
        simp [show off + i < cur.size by omega]
      · rw [if_neg (by omega), Array.getElem?_setIfInBounds_ne (by omega)]

theorem one_of_rep {γ : Ghost} {x : AV} {v : Value} (hr : Rep γ x v) (h : allOne x.cells = true) : v.cells.size = x.cells.length ∧ (∀ j y, x.cells[j]? = some y → Rep γ y (v.cells.getD j undef)) ∧ ∀ u ∈ v.cells.toList, u.oneCell' = true := by
  have hx : x.one = true ∨ ∃ cs, x = .agg cs := by
    cases x <;> simp_all [allOne, AV.cells, AV.one]
  obtain ⟨h1, h2⟩ := hr.cells hx
  refine ⟨h1, h2, fun u hu => ?_⟩
  obtain ⟨j, hj, rfl⟩ := List.mem_iff_getElem.1 hu
  simp only [Array.length_toList] at hj
  have hj' : j < x.cells.length := by omega
  have := h2 j x.cells[j] (by simp [hj'])
  simp only [allOne, List.all_eq_true] at h
  have k := this.one (h _ (List.getElem_mem hj'))
  simpa [Array.getD, hj] using k

theorem run_storeVar_row {t : TypeId} {i : TypeInfo} {w : World} {b off : Nat} {v : Value} {cur : Array Value} {e : TypeId} {fr : Nat × Nat} (hi : P.info? t = some i) (hsz : v.cells.size = i.size)
    (hb : w.heap[b]? = some (.cells cur e fr)) (hf : frOk cur.size fr) (hl : off + v.cells.size ≤ cur.size) (h1 : ∀ u ∈ v.cells.toList, u.oneCell' = true) :
    (storeVar t ⟨b, off, none⟩ v).run P w = .ok () (w.setRow b (over cur off v.cells.toList)) := by
  have := run_storeCells_fr (P := P) b off e fr v.cells.toList 0 cur w hb hf (by simpa using hl) h1
  simp only [Nat.add_zero] at this
  simp [storeVar, sizeOf, typeInfo, hi, hsz, this]

/-- The row behind a store stands for the object behind it. -/
theorem over_rep {γ : Ghost} {cur : Array Value} {cs xs : List AV} {us : List Value} {off : Nat} (hl : cur.size = cs.length) (hr : ∀ j x, cs[j]? = some x → Rep γ x (cur.getD j undef)) (hu : us.length = xs.length)
    (hx : ∀ j y, xs[j]? = some y → Rep γ y (us.toArray.getD j undef)) (ho : off + xs.length ≤ cs.length) :
    (over cur off us).size = (splice off xs cs).length ∧ ∀ j x, (splice off xs cs)[j]? = some x → Rep γ x ((over cur off us).getD j undef) := by
  have hle : off + us.length ≤ cur.size := by omega
  refine ⟨by rw [over_size _ _ _ hle, splice_length, hl], fun j x hj => ?_⟩
  rw [splice_get] at hj
  have hget : (over cur off us).getD j undef = ((over cur off us)[j]?).getD undef := by simp [Array.getD_eq_getD_getElem?]
  rw [hget, over_get _ _ _ hle, hu]
  split at hj
  · split at hj
    · rename_i hc
      rw [if_pos hc]
      have := hx _ _ hj
      simpa [Array.getD_eq_getD_getElem?] using this
    · rename_i hc
      rw [if_neg hc]
      have := hr _ _ hj
      simpa [Array.getD_eq_getD_getElem?] using this
  · cases hj

theorem ok_store {o : Oper} {t : TypeId} {x y : Operand} {i : TypeInfo} (ho : o.op = .store t x y) (hi : P.info? t = some i) : OpOk P (.store i.size (nopd x) (nopd y)) o := by
  intro γ mf ρ m a w K hr hs hv
  simp only [vop] at hv
  have hx := ev_ok hr x
  split at hv
  · rename_i id off he
    rw [he] at hx
    obtain ⟨cs, hg, hlen, hone, hoff, hK⟩ := hv
    generalize hv : a.eval x = vx at hx
    cases hx with
    | ptr _ _ b hb =>
      obtain ⟨b', cur, e, fr, k1, k2, k3, kf, k4, k5⟩ := hs.obj id _ (get_mem (get_append hg))
      rw [hb] at k1
      obtain rfl := Option.some.inj k1
      obtain ⟨h1, h2, h3⟩ := one_of_rep (ev_ok hr y) hone
      have hst := run_storeVar_row (P := P) (off := off) (v := a.eval y) hi (by omega) k3 kf (by omega) h3
      refine ⟨undef, w.setRow b (over cur off (a.eval y).cells.toList), .inr ⟨?_, rfl⟩, ?_⟩
      · simp [execOp, ho, Instr.storeAt, hv, Instr.sureAddr, hst]
      · obtain ⟨q1, q2⟩ := over_rep (γ := γ) (off := off) (us := (a.eval y).cells.toList) k4 k5 (by simpa using h1) (by simpa using h2) (by omega)
        refine ⟨γ, uv, _, .refl γ, .sc _, ?_, hK⟩
        rw [← put_append hg]
        exact hs.store (get_mem (get_append hg)) hb _ q1 (splice_length _ _ _) q2
  · exact hv.elim

theorem ok_nilCheck {o : Oper} {x : Operand} (ho : o.op = .nilCheck x) : OpOk P (.nilCheck (nopd x)) o := by
  intro γ mf ρ m a w K hr hs hv
  obtain ⟨hn, hK⟩ := hv
  have hx := ev_ok hr x
  refine ⟨a.eval x, w, .inl ?_, Fin.same hx hs hK⟩
  generalize hv : a.eval x = v at hx ⊢
  generalize ev ρ (nopd x) = y at hx hn
  cases hx <;> simp only [nonNil] at hn <;> simp [execOp, ho, hv]

end
end Go.Proofs.Ytceahampebofbaa.Moi
