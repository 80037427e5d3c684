/- More of the machine's operations: those that only reckon. -/
import Derived.Test.YtpmbebdcbejlkabMoiD
set_option linter.unusedVariables false
set_option linter.unusedSimpArgs false
namespace Go.Proofs.Ytpmbebdcbejlkab.Moi
open Go Go.RowKit

section
variable {P : Program}

theorem bytes_beq (a b : ByteArray) : (a.toList == b.toList) = decide (a = b) := by
  by_cases h : a = b
  · subst h; simp
  · have : a.toList ≠ b.toList := fun e => h (by
      rw [ByteArray.toList_eq, ByteArray.toList_eq] at e
      obtain ⟨⟨x⟩⟩ := a
      obtain ⟨⟨y⟩⟩ := b
      simpa using e)
    simp [h, this]
theorem int_beq (a b : Int) : (a == b) = decide (a = b) := by by_cases h : a = b <;> simp [h]
theorem int_bne (a b : Int) : (a != b) = decide (a ≠ b) := by by_cases h : a = b <;> simp [h]
theorem bool_beq (a b : Bool) : (a == b) = decide (a = b) := by cases a <;> cases b <;> rfl

theorem run_scbin {op : BinOp} {x y : Value} {r : Value} (h : scbin op x y = some r) (t : TypeId) (w : World) : (binOp op t x y).run P w = .ok r w := by
  unfold scbin at h
  split at h <;> try (cases h; done)
  all_goals (try (split at h <;> try (cases h; done)))
  all_goals (obtain rfl := Option.some.inj h)
  all_goals (try (rename_i hk; try subst hk))
  all_goals (try (rename_i hk; have hb := hk.2; obtain rfl := hk.1))
  all_goals first
    | (simp [binOp, Op.intArith]; done)
    | (simp [binOp, Op.intDiv, *]; done)
    | (simp [binOp, Op.intBits]; done)
    | (simp [binOp, Op.shift, *]; done)
    | (simp [binOp, Op.intCmp]; done)
    | (simp [binOp, Op.intCmp, int_beq, int_bne]; done)
    | (simp [binOp, Op.stringOp, bytes_beq]; done)
    | (simp only [binOp, Op.stringOp]; rw [if_neg (by simp only [IntKind.max, IntKind.signed, IntKind.bits]; omega)]; rfl)

theorem run_eqGuard_sc (op : BinOp) (t : TypeId) (x y : Operand) {a b : Value} (h : scbin op a b ≠ none) (w : World) : (eqGuard op t x y a b).run P w = .ok () w := by
  unfold eqGuard
  cases op <;> simp
  all_goals (cases a <;> cases b <;> simp [scbin] at h ⊢)

def eqcOf (P : Program) (t : TypeId) : EqC :=
  match P.underlying t with
  | some .bool => .bool
  | some (.pointer _) => .pointer
  | some (.slice _) => .slice
  | some (.func _ _ _) => .func
  | _ => .other

theorem ok_bin_other {o : Oper} {op : BinOp} {t u : TypeId} {x y : Operand} (ho : o.op = .binOp op t x y u) : OpOk P (.bin op .other (nopd x) (nopd y)) o := by
  intro γ mf ρ m a w K hr hs hv
  simp only [vop, vbin, vsc] at hv
  have hx := ev_ok hr x
  have hy := ev_ok hr y
  have key : ∃ va vb r, ev ρ (nopd x) = .sc va ∧ ev ρ (nopd y) = .sc vb ∧ scbin op va vb = some r ∧ K (.sc r) m := by
    split at hv
    · rename_i va vb h1 h2
      obtain ⟨r, h3, h4⟩ := hv
      exact ⟨va, vb, r, h1, h2, h3, h4⟩
    · exact hv.elim
  obtain ⟨va, vb, r, h1, h2, h3, h4⟩ := key
  rw [h1] at hx
  rw [h2] at hy
  have e1 : a.eval x = va := by cases hx; rfl
  have e2 : a.eval y = vb := by cases hy; rfl
  refine ⟨r, w, ran_of (s := do eqGuard op t x y (a.eval x) (a.eval y); binOp op t (a.eval x) (a.eval y)) (by simp [execOp, ho]) ?_, Fin.same (.sc r) hs h4⟩
  rw [e1, e2]
  simp [run_eqGuard_sc op t x y (a := va) (b := vb) (by rw [h3]; simp) w, run_scbin h3 t w]

theorem eq_bool {t : TypeId} (ht : P.underlying t = some .bool) (d : Nat) (a b : Bool) (w : World) : (Op.equalIn (d + 1) t (.bool a) (.bool b)).run P w = .ok (decide (a = b)) w := by
  rw [run_equalIn_bool' w d t a b ht, bool_beq]
theorem eq_ptr1 {t e : TypeId} (ht : P.underlying t = some (.pointer e)) (d : Nat) (w : World) (a : Option Addr) : (Op.equalIn (d + 1) t (.pointer none) (.pointer a)).run P w = .ok a.isNone w := by
  simp [Op.equalIn, run_underlying ht]
theorem eq_ptr2 {t e : TypeId} (ht : P.underlying t = some (.pointer e)) (d : Nat) (w : World) (a : Addr) : (Op.equalIn (d + 1) t (.pointer (some a)) (.pointer none)).run P w = .ok false w := by
  simp [Op.equalIn, run_underlying ht]
theorem eq_sl {t e : TypeId} (ht : P.underlying t = some (.slice e)) (d : Nat) (w : World) (a : Option Addr) (n c : Nat) : (Op.equalIn (d + 1) t (.slice a n c) (.slice none 0 0)).run P w = .ok a.isNone w := by
  cases a <;> simp [Op.equalIn, run_underlying ht]
theorem eq_fn1 {t : TypeId} {a b : Array TypeId} {c : Bool} (ht : P.underlying t = some (.func a b c)) (d : Nat) (w : World) : (Op.equalIn (d + 1) t .nilFunc .nilFunc).run P w = .ok true w := by
  simp [Op.equalIn, run_underlying ht]
theorem eq_fn2 {t : TypeId} {a b : Array TypeId} {c : Bool} (ht : P.underlying t = some (.func a b c)) (d : Nat) (w : World) (f : Fn) (x y : Array Value) : (Op.equalIn (d + 1) t (.func f x y) .nilFunc).run P w = .ok false w := by
  simp [Op.equalIn, run_underlying ht]

theorem eqc_bool {t : TypeId} (h : eqcOf P t = .bool) : P.underlying t = some .bool := by
  unfold eqcOf at h; split at h <;> first | (cases h; done) | assumption
theorem eqc_ptr {t : TypeId} (h : eqcOf P t = .pointer) : ∃ e, P.underlying t = some (.pointer e) := by
  unfold eqcOf at h; split at h <;> first | (cases h; done) | exact ⟨_, by assumption⟩
theorem eqc_sl {t : TypeId} (h : eqcOf P t = .slice) : ∃ e, P.underlying t = some (.slice e) := by
  unfold eqcOf at h; split at h <;> first | (cases h; done) | exact ⟨_, by assumption⟩
theorem eqc_fn {t : TypeId} (h : eqcOf P t = .func) : ∃ a b c, P.underlying t = some (.func a b c) := by
  unfold eqcOf at h; split at h <;> first | (cases h; done) | exact ⟨_, _, _, by assumption⟩
theorem eqc_plain {t : TypeId} {n : Nat} (h : eqcOf P t = .plain n) : False := by
  unfold eqcOf at h; split at h <;> cases h

theorem guard_ok (op : BinOp) (t : TypeId) (p q : Operand) (x y : Value) (w : World) (h1 : x ≠ .nilIface) (h2 : ∀ a, x ≠ .agg a) : (eqGuard op t p q x y).run P w = .ok () w := by
  cases op <;> cases x <;> simp_all [eqGuard]

/-- '==' where the two are no scalars of one kind. -/
theorem run_eqTest {c : EqC} {t : TypeId} (hc : eqcOf P t = c) {γ : Ghost} {x y : AV} {vx vy : Value} (hx : Rep γ x vx) (hy : Rep γ y vy) {K : Bool → Prop} (h : eqTest c x y K) (w : World) :
    ∃ b, K b ∧ (Op.equal t vx vy).run P w = .ok b w ∧ (∀ op (p q : Operand), (eqGuard op t p q vx vy).run P w = .ok () w) ∧
      binOp .eql t vx vy = (do pure (.bool (← Op.equal t vx vy))) ∧ binOp .neq t vx vy = (do pure (.bool (!(← Op.equal t vx vy)))) := by
  unfold eqTest at h
  split at h <;> try (exact h.elim)
  · cases hx; cases hy
    exact ⟨_, h, eq_bool (eqc_bool hc) 9999 _ _ w, fun op p q => guard_ok op t p q _ _ w (by simp) (by simp), rfl, rfl⟩
  · obtain ⟨e, ht⟩ := eqc_ptr hc
    cases hx; cases hy
    exact ⟨_, h, eq_ptr1 ht 9999 w none, fun op p q => guard_ok op t p q _ _ w (by simp) (by simp), rfl, rfl⟩
  · obtain ⟨e, ht⟩ := eqc_ptr hc
    cases hx; cases hy
    exact ⟨_, h, eq_ptr1 ht 9999 w (some _), fun op p q => guard_ok op t p q _ _ w (by simp) (by simp), rfl, rfl⟩
  · obtain ⟨e, ht⟩ := eqc_ptr hc
    cases hx; cases hy
    exact ⟨_, h, eq_ptr2 ht 9999 w _, fun op p q => guard_ok op t p q _ _ w (by simp) (by simp), rfl, rfl⟩
  · obtain ⟨e, ht⟩ := eqc_ptr hc
    cases hx; cases hy
    exact ⟨_, h, eq_ptr2 ht 9999 w _, fun op p q => guard_ok op t p q _ _ w (by simp) (by simp), rfl, rfl⟩
  · obtain ⟨e, ht⟩ := eqc_sl hc
    have key : ∃ a n c, vx = .slice a n c ∧ K a.isNone := by
      cases hx with
      | lnil => exact ⟨none, 0, 0, rfl, h true rfl⟩
      | lemp a n hn => exact ⟨a, 0, n, rfl, h _ (by simp [nilTest])⟩
      | lst es o b off cap sz u h1 h2 h3 h4 h5 h6 => exact ⟨some ⟨b, off, none⟩, _, _, rfl, h _ (by unfold nilTest; split <;> simp_all [OwnOk])⟩
    obtain ⟨a, n, c, rfl, hk⟩ := key
    have hvy : vy = .slice none 0 0 := by
      generalize hl : (AV.lst [] .nil) = l at hy
      cases hy <;> first | (cases hl; done) | (cases hl; rfl) | (cases hl; simp_all [OwnOk])
    subst hvy
    exact ⟨_, hk, eq_sl ht 9999 w a n c, fun op p q => guard_ok op t p q _ _ w (by simp) (by simp), rfl, rfl⟩
  · obtain ⟨e, ht⟩ := eqc_sl hc
    have hvy : vy = .slice none 0 0 := by
      generalize hl : (AV.lst [] .nil) = l at hy
      cases hy <;> first | (cases hl; done) | (cases hl; rfl) | (cases hl; simp_all [OwnOk])
    subst hvy
    cases hx
    exact ⟨_, h, eq_sl ht 9999 w (some _) _ _, fun op p q => guard_ok op t p q _ _ w (by simp) (by simp), rfl, rfl⟩
  · obtain ⟨a, b, c, ht⟩ := eqc_fn hc
    cases hx; cases hy
    exact ⟨_, h, eq_fn2 ht 9999 w _ _ _, fun op p q => guard_ok op t p q _ _ w (by simp) (by simp), rfl, rfl⟩
  · obtain ⟨a, b, c, ht⟩ := eqc_fn hc
    cases hx; cases hy
    exact ⟨_, h, eq_fn1 ht 9999 w, fun op p q => guard_ok op t p q _ _ w (by simp) (by simp), rfl, rfl⟩
  · exact (eqc_plain hc).elim

theorem ok_bin_eq {o : Oper} {op : BinOp} {t u : TypeId} {x y : Operand} {c : EqC} (ho : o.op = .binOp op t x y u) (hc : eqcOf P t = c) (hop : op = .eql ∨ op = .neq) (hne : c ≠ .other) :
    OpOk P (.bin op c (nopd x) (nopd y)) o := by
  intro γ mf ρ m a w K hr hs hv
  have hx := ev_ok hr x
  have hy := ev_ok hr y
  have hv' : eqTest c (ev ρ (nopd x)) (ev ρ (nopd y)) fun b => K (bo (if op = .eql then b else !b)) m := by
    rcases hop with rfl | rfl <;> cases c <;> simp_all [vop, vbin]
  obtain ⟨b, hb, h1, h2, h3, h4⟩ := run_eqTest hc hx hy hv' w
  refine ⟨.bool (if op = .eql then b else !b), w, ran_of (s := do eqGuard op t x y (a.eval x) (a.eval y); binOp op t (a.eval x) (a.eval y)) (by simp [execOp, ho]) ?_, Fin.same (.sc _) hs hb⟩
  rcases hop with rfl | rfl
  · simp [h2, h3, h1]
  · simp [h2, h4, h1]

theorem ok_un {o : Oper} {op : UnOp} {t : TypeId} {x : Operand} (ho : o.op = .unOp op t x) : OpOk P (.un op (nopd x)) o := by
  intro γ mf ρ m a w K hr hs hv
  have hx := ev_ok hr x
  simp only [vop, vun] at hv
  have key : ∃ r, (Op.unary op (a.eval x)).run P w = .ok r w ∧ K (.sc r) m := by
    split at hv <;> try (exact hv.elim)
    all_goals
      rename_i he
      rw [he] at hx
      generalize hvx : a.eval x = vx at hx
      cases hx
      exact ⟨_, rfl, hv⟩
  obtain ⟨r, h1, h2⟩ := key
  exact ⟨r, w, ran_of (s := Op.unary op (a.eval x)) (by simp [execOp, ho]) h1, Fin.same (.sc _) hs h2⟩

theorem ok_conv {o : Oper} {s d : TypeId} {k : IntKind} {x : Operand} (ho : o.op = .convert s d x) (hd : P.underlying d = some (.int k)) (hs' : ∃ u, P.underlying s = some u) : OpOk P (.conv k (nopd x)) o := by
  intro γ mf ρ m a w K hr hs hv
  have hx := ev_ok hr x
  obtain ⟨u, hu⟩ := hs'
  simp only [vop] at hv
  split at hv <;> try (exact hv.elim)
  rename_i k' n he
  rw [he] at hx
  generalize hvx : a.eval x = vx at hx
  cases hx
  refine ⟨_, w, ran_of (s := convert s d (a.eval x)) (by simp [execOp, ho]) ?_, Fin.same (.sc _) hs hv⟩
  rw [hvx]
  simp [convert, run_underlying hu, run_underlying hd, Conv.intToInt]

theorem ok_same {o : Oper} {s d : TypeId} {x : Operand} (ho : o.op = .convert s d x) (hd : P.underlying d = some .string) (hs' : P.underlying s = some .string) : OpOk P (.same (nopd x)) o := by
  intro γ mf ρ m a w K hr hs hv
  have hx := ev_ok hr x
  simp only [vop] at hv
  split at hv <;> try (exact hv.elim)
  rename_i s' he
  rw [he] at hx
  generalize hvx : a.eval x = vx at hx
  cases hx
  refine ⟨_, w, ran_of (s := convert s d (a.eval x)) (by simp [execOp, ho]) ?_, Fin.same (.sc _) hs hv⟩
  rw [hvx]
  simp [convert, run_underlying hs', run_underlying hd]

theorem run_isAgg {t : TypeId} {d : TypeDesc} (ht : P.underlying t = some d) (w : World) : (isAgg t).run P w = .ok (isAggD d) w := by
  cases d <;> simp [isAgg, run_underlying ht, isAggD]
/-- A part of an aggregate. -/
theorem run_part {γ : Ghost} {t : TypeId} {k : Option Nat} (hk : ekOf P t = some k) {cs : List AV} {us : Array Value} {off : Nat} {x : AV} (hl : us.size = cs.length) (hr : ∀ j y, cs[j]? = some y → Rep γ y (us.getD j undef))
    (hx : elem k (cs.drop off) = some x) (w : World) : ∃ v, (part t us off).run P w = .ok v w ∧ Rep γ x v := by
  obtain ⟨d, i, hd, hi, hsz, hagg, _⟩ := ekOf_some hk
  cases k with
  | none =>
    simp only [elem, List.getElem?_drop, Nat.add_zero] at hx
    have hlt : off < us.size := by rw [hl]; exact (List.getElem?_eq_some_iff.1 hx).1
    refine ⟨us[off], ?_, ?_⟩
    · have h1 : isAggD d = false := by simpa using hagg
      have h2 : us[off]? = some us[off] := by simp [hlt]
      simp only [part, Sem.run_bind, run_isAgg hd, Result.andThen_ok, h1, Bool.false_eq_true, if_false, h2, Sem.run_pure]
    · have := hr _ _ hx
      simpa [Array.getD, hlt] using this
  | some n =>
    simp only [elem] at hx
    split at hx
    · rename_i hn
      obtain rfl := Option.some.inj hx
      refine ⟨.agg (us.extract off (off + n)), ?_, .agg _ _ ?_ fun j y hj => ?_⟩
      · have h1 : isAggD d = true := by simpa using hagg
        have h3 : i.size = n := by simpa using hsz
        simp only [part, Sem.run_bind, run_isAgg hd, Result.andThen_ok, h1, if_true, sizeOf, typeInfo, run_program, hi, Sem.run_pure, h3]
      · simp at hn ⊢; omega
      · rw [List.getElem?_take, List.getElem?_drop] at hj
        split at hj
        · have := hr _ _ hj
          rw [Array.getD_eq_getD_getElem?] at this ⊢
          rw [Array.getElem?_extract, if_pos (by have := (List.getElem?_eq_some_iff.1 hj).1; omega)]
          exact this
        · cases hj
    · cases hx

theorem ok_field {o : Oper} {t : TypeId} {x : Operand} {f : Nat} {fs : Array Field} {fd : Field} {k : Option Nat} (ho : o.op = .field t x f) (ht : P.underlying t = some (.struct fs)) (hf : fs[f]? = some fd) (hk : ekOf P fd.type = some k) :
    OpOk P (.field k fd.offset (nopd x)) o := by
  intro γ mf ρ m a w K hr hs hv
  have hx := ev_ok hr x
  simp only [vop] at hv
  split at hv <;> try (exact hv.elim)
  rename_i cs he
  rw [he] at hx
  obtain ⟨y, hy, hK⟩ := hv
  generalize hvx : a.eval x = vx at hx
  cases hx with
  | agg _ us h1 h2 =>
    obtain ⟨v, h3, h4⟩ := run_part (P := P) hk h1 h2 hy w
    refine ⟨v, w, ran_of (s := Instr.field t (a.eval x) f) (by simp [execOp, ho]) ?_, Fin.same h4 hs hK⟩
    rw [hvx]
    simp [Instr.field, run_underlying ht, hf, asAgg, h3]

theorem ok_fieldAddr {o : Oper} {t : TypeId} {x : Operand} {f : Nat} {fs : Array Field} {fd : Field} {i : TypeInfo} (ho : o.op = .fieldAddr t x f) (ht : P.underlying t = some (.struct fs)) (hf : fs[f]? = some fd)
    (hi : P.info? fd.type = some i) (hz : i.size ≠ 0) : OpOk P (.fieldAddr fd.offset (nopd x)) o := by
  intro γ mf ρ m a w K hr hs hv
  have hx := ev_ok hr x
  have run : ∀ b off, (Instr.fieldAt t (.pointer (some ⟨b, off, none⟩)) f).run P w = .ok (.pointer (some ⟨b, off + fd.offset, none⟩)) w := fun b off => by
    simp [Instr.fieldAt, run_underlying ht, hf, Instr.sureAddr, fieldPlace, sizeOf, typeInfo, hi, hz, addr_add]
  simp only [vop] at hv
  split at hv <;> try (exact hv.elim)
  · rename_i id off he
    rw [he] at hx
    generalize hvx : a.eval x = vx at hx
    cases hx with
    | ptr _ _ b hb =>
      refine ⟨_, w, ran_of (s := Instr.fieldAt t (a.eval x) f) (by simp [execOp, ho]) (by rw [hvx]; exact run b off), Fin.same (.ptr _ _ b hb) hs hv⟩
  · rename_i cs he
    rw [he] at hx
    generalize hvx : a.eval x = vx at hx
    cases hx with
    | vptr _ b off u h1 h2 =>
      refine ⟨_, w, ran_of (s := Instr.fieldAt t (a.eval x) f) (by simp [execOp, ho]) (by rw [hvx]; exact run b off), Fin.same (.vptr _ b (off + fd.offset) (fun j => u (fd.offset + j)) ?_ ?_) hs hv⟩
      · intro j y hj
        rw [List.getElem?_drop] at hj
        rw [Nat.add_assoc]; exact h1 _ _ hj
      · intro j y hj
        rw [List.getElem?_drop] at hj
        exact h2 _ _ hj

theorem ok_iface {o : Oper} {t : TypeId} {x : Operand} {d : TypeDesc} (ho : o.op = .makeInterface t x) (ht : P.underlying t = some d) (hd : ∀ ms, d ≠ .interface ms) : OpOk P (.iface t (nopd x)) o := by
  intro γ mf ρ m a w K hr hs hv
  refine ⟨_, w, ran_of (s := Instr.makeInterface t (a.eval x)) (by simp [execOp, ho]) ?_, Fin.same (.iface t _ _ (ev_ok hr x)) hs hv⟩
  cases d <;> simp_all [Instr.makeInterface, run_underlying ht]

theorem ok_extract {o : Oper} {x : Operand} {i : Nat} (ho : o.op = .extract x i) : OpOk P (.extract i (nopd x)) o := by
  intro γ mf ρ m a w K hr hs hv
  have hx := ev_ok hr x
  simp only [vop] at hv
  split at hv <;> try (exact hv.elim)
  rename_i vs he
  rw [he] at hx
  obtain ⟨y, hy, hK⟩ := hv
  generalize hvx : a.eval x = vx at hx
  cases hx with
  | tup _ us h1 h2 =>
    have hlt : i < us.size := by rw [h1]; exact (List.getElem?_eq_some_iff.1 hy).1
    have h3 := h2 _ _ hy
    refine ⟨us[i], w, ran_of (s := Instr.extract (a.eval x) i) (by simp [execOp, ho]) ?_, Fin.same (by simpa [Array.getD, hlt] using h3) hs hK⟩
    rw [hvx]
    simp [Instr.extract, hlt]

theorem map_rep {γ : Ghost} {ρ : Regs} {a : Act} (hr : RegOk γ ρ a.tmps) (xs : Array Operand) : (xs.map a.eval).size = ((xs.toList.map nopd).map (ev ρ)).length ∧
    ∀ j y, ((xs.toList.map nopd).map (ev ρ))[j]? = some y → Rep γ y ((xs.map a.eval).getD j undef) := by
  refine ⟨by simp, fun j y hj => ?_⟩
  simp only [List.map_map, List.getElem?_map, Option.map_eq_some_iff, Array.getElem?_toList] at hj
  obtain ⟨x, hx, rfl⟩ := hj
  rw [Array.getD_eq_getD_getElem?, Array.getElem?_map, hx]
  exact ev_ok hr x

theorem ok_mkFunc {o : Oper} {f : FuncId} {cap : Array Operand} (ho : o.op = .makeFunc (.func f) #[] cap) : OpOk P (.mkFunc f (cap.toList.map nopd)) o := by
  intro γ mf ρ m a w K hr hs hv
  obtain ⟨h1, h2⟩ := map_rep hr cap
  refine ⟨_, w, ran_of (s := Instr.makeFunc (.func f) ((#[] : Array Operand).map a.eval) (cap.map a.eval)) (by simp [execOp, ho]) (by simp [Instr.makeFunc]), Fin.same (.clos f _ _ h1 h2) hs hv⟩

end
end Go.Proofs.Ytpmbebdcbejlkab.Moi
