/- More of the machine's operations: those that only reckon. -/
import Derived.Test.YtceahampebofbaaMoiD
import Derived.ChangeKeysEq
set_option linter.unusedVariables false
set_option linter.unusedSimpArgs false
namespace Go.Proofs.Ytceahampebofbaa.Moi
open Go Go.RowKit

section
variable {P : Program}

theorem bytes_beq (a b : ByteArray) : (a.toList == b.toList) = decide (a = b) := by
  by_cases h : a = b
  · subst h; simp
  · have : a.toList ≠ b.toList := fun e => h (by
      rw [ByteArray.toList_eq, ByteArray.toList_eq] at e
      obtain ⟨⟨x⟩⟩ := a
      obtain ⟨⟨y⟩⟩ := b
      simpa using e)
    simp [h, this]
theorem int_beq (a b : Int) : (a == b) = decide (a = b) := by by_cases h : a = b <;> simp [h]
theorem int_bne (a b : Int) : (a != b) = decide (a ≠ b) := by by_cases h : a = b <;> simp [h]
theorem bool_beq (a b : Bool) : (a == b) = decide (a = b) := by cases a <;> cases b <;> rfl

theorem run_scbin {op : BinOp} {x y : Value} {r : Value} (h : scbin op x y = some r) (t : TypeId) (w : World) : (binOp op t x y).run P w = .ok r w := by
  unfold scbin at h
  split at h <;> try (cases h; done)
  all_goals (try (split at h <;> try (cases h; done)))
  all_goals (obtain rfl := Option.some.inj h)
  all_goals (try (rename_i hk; try subst hk))
  all_goals (try (rename_i hk; have hb := hk.2; obtain rfl := hk.1))
  all_goals first
    | (simp [binOp, Op.intArith]; done)
    | (simp [binOp, Op.intDiv, *]; done)
    | (simp [binOp, Op.intBits]; done)
    | (simp [binOp, Op.shift, *]; done)
    | (simp [binOp, Op.intCmp]; done)
    | (simp [binOp, Op.intCmp, int_beq, int_bne]; done)
    | (simp [binOp, Op.stringOp, bytes_beq]; done)
    | (simp only [binOp, Op.stringOp]; rw [if_neg (by simp only [IntKind.max, IntKind.signed, IntKind.bits]; omega)]; rfl)

theorem run_eqGuard_sc (op : BinOp) (t : TypeId) (x y : Operand) {a b : Value} (h : scbin op a b ≠ none) (w : World) : (eqGuard op t x y a b).run P w = .ok () w := by
  unfold eqGuard
  cases op <;> simp
  all_goals (cases a <;> cases b <;> simp [scbin] at h ⊢)

/-- The kinds of the cells of a type of plain cells. -/
def sigFs (g : TypeId → Option (List CellK)) : List Field → Nat → Option (List CellK)
  | [], _ => some []
  | f :: fs, off => if f.offset == off && f.name != "_" then match g f.type with
      | some s => match sigFs g fs (off + s.length) with
        | some r => some (s ++ r)
        | none => none
      | none => none
    else none
def sigOf (P : Program) : Nat → TypeId → Option (List CellK)
  | 0, _ => none
  | d + 1, t => match P.underlying t with
    | some .bool => some [.b]
    | some (.int _) => some [.i]
    | some .string => some [.s]
    | some (.array n e) => match sigOf P d e with
      | some s => if Nat.beq s.length (P.cellsOf e) && Nat.beq (n * s.length) (P.cellsOf t) then some (List.replicate n s).flatten else none
      | none => none
    | some (.struct fs) => if !P.stoodInHeld t then match sigFs (sigOf P d) fs.toList 0 with
        | some s => if Nat.beq s.length (P.cellsOf t) then some s else none
        | none => none
      else none
    | _ => none
def eqcOf (P : Program) (t : TypeId) : EqC :=
  match P.underlying t with
  | some .bool => .bool
  | some (.pointer _) => .pointer
  | some (.slice _) => .slice
  | some (.func _ _ _) => .func
  | some (.struct _) | some (.array _ _) => match sigOf P 30 t with
    | some s => if !(P.eqGuardType P.depth t) then .plain s else .other
    | none => .other
  | _ => .other

theorem ok_bin_other {o : Oper} {op : BinOp} {t u : TypeId} {x y : Operand} (ho : o.op = .binOp op t x y u) : OpOk P (.bin op .other (nopd x) (nopd y)) o := by
  intro γ mf ρ m a w K hr hs hv
  simp only [vop, vbin, vsc] at hv
  have hx := ev_ok hr x
  have hy := ev_ok hr y
  have key : ∃ va vb r, ev ρ (nopd x) = .sc va ∧ ev ρ (nopd y) = .sc vb ∧ scbin op va vb = some r ∧ K (.sc r) m := by
    split at hv
    · rename_i va vb h1 h2
      obtain ⟨r, h3, h4⟩ := hv
      exact ⟨va, vb, r, h1, h2, h3, h4⟩
    · exact hv.elim
  obtain ⟨va, vb, r, h1, h2, h3, h4⟩ := key
  rw [h1] at hx
  rw [h2] at hy
  have e1 : a.eval x = va := by cases hx; rfl
  have e2 : a.eval y = vb := by cases hy; rfl
  refine ⟨r, w, ran_of (s := do eqGuard op t x y (a.eval x) (a.eval y); binOp op t (a.eval x) (a.eval y)) (by simp [execOp, ho]) ?_, Fin.same (.sc r) hs h4⟩
  rw [e1, e2]
  simp [run_eqGuard_sc op t x y (a := va) (b := vb) (by rw [h3]; simp) w, run_scbin h3 t w]

theorem eq_bool {t : TypeId} (ht : P.underlying t = some .bool) (d : Nat) (a b : Bool) (w : World) : (Op.equalIn (d + 1) t (.bool a) (.bool b)).run P w = .ok (decide (a = b)) w := by
  rw [run_equalIn_bool' w d t a b ht, bool_beq]
theorem eq_ptr1 {t e : TypeId} (ht : P.underlying t = some (.pointer e)) (d : Nat) (w : World) (a : Option Addr) : (Op.equalIn (d + 1) t (.pointer none) (.pointer a)).run P w = .ok a.isNone w := by
  simp [Op.equalIn, run_underlying ht]
theorem eq_ptr2 {t e : TypeId} (ht : P.underlying t = some (.pointer e)) (d : Nat) (w : World) (a : Addr) : (Op.equalIn (d + 1) t (.pointer (some a)) (.pointer none)).run P w = .ok false w := by
  simp [Op.equalIn, run_underlying ht]
theorem eq_sl {t e : TypeId} (ht : P.underlying t = some (.slice e)) (d : Nat) (w : World) (a : Option Addr) (n c : Nat) : (Op.equalIn (d + 1) t (.slice a n c) (.slice none 0 0)).run P w = .ok a.isNone w := by
  cases a <;> simp [Op.equalIn, run_underlying ht]
theorem eq_fn1 {t : TypeId} {a b : Array TypeId} {c : Bool} (ht : P.underlying t = some (.func a b c)) (d : Nat) (w : World) : (Op.equalIn (d + 1) t .nilFunc .nilFunc).run P w = .ok true w := by
  simp [Op.equalIn, run_underlying ht]
theorem eq_fn2 {t : TypeId} {a b : Array TypeId} {c : Bool} (ht : P.underlying t = some (.func a b c)) (d : Nat) (w : World) (f : Fn) (x y : Array Value) : (Op.equalIn (d + 1) t (.func f x y) .nilFunc).run P w = .ok false w := by
  simp [Op.equalIn, run_underlying ht]

theorem eqc_agg {t : TypeId} {c : EqC} (h : (match sigOf P 30 t with | some s => if !(P.eqGuardType P.depth t) then EqC.plain s else .other | none => .other) = c) :
    c = .other ∨ ∃ s, c = .plain s ∧ sigOf P 30 t = some s ∧ P.eqGuardType P.depth t = false := by
  split at h
  · rename_i s hs
    split at h
    · rename_i hg
      exact .inr ⟨s, h.symm, hs, by simpa using hg⟩
    · exact .inl h.symm
  · exact .inl h.symm
theorem eqc_bool {t : TypeId} (h : eqcOf P t = .bool) : P.underlying t = some .bool := by
  unfold eqcOf at h; split at h <;> first | (cases h; done) | assumption | (rcases eqc_agg h with h | ⟨s, h, _⟩ <;> cases h)
theorem eqc_ptr {t : TypeId} (h : eqcOf P t = .pointer) : ∃ e, P.underlying t = some (.pointer e) := by
  unfold eqcOf at h; split at h <;> first | (cases h; done) | exact ⟨_, by assumption⟩ | (rcases eqc_agg h with h | ⟨s, h, _⟩ <;> cases h)
theorem eqc_sl {t : TypeId} (h : eqcOf P t = .slice) : ∃ e, P.underlying t = some (.slice e) := by
  unfold eqcOf at h; split at h <;> first | (cases h; done) | exact ⟨_, by assumption⟩ | (rcases eqc_agg h with h | ⟨s, h, _⟩ <;> cases h)
theorem eqc_fn {t : TypeId} (h : eqcOf P t = .func) : ∃ a b c, P.underlying t = some (.func a b c) := by
  unfold eqcOf at h; split at h <;> first | (cases h; done) | exact ⟨_, _, _, by assumption⟩ | (rcases eqc_agg h with h | ⟨s, h, _⟩ <;> cases h)
theorem eqc_plain {t : TypeId} {s : List CellK} (h : eqcOf P t = .plain s) : sigOf P 30 t = some s ∧ P.eqGuardType P.depth t = false ∧ P.plainKey t = false := by
  unfold eqcOf at h; split at h <;> first | (cases h; done) | (rcases eqc_agg h with h | ⟨s', h, h1, h2⟩ <;> cases h; refine ⟨h1, h2, ?_⟩; rename_i hu; unfold Program.plainKey; rw [hu])

/-! ### '==' of structs and arrays of plain cells -/
def fitV : CellK → Value → Bool
  | .b, .bool _ => true
  | .i, .int _ _ => true
  | .s, .string _ => true
  | _, _ => false
def fitsV : List CellK → List Value → Bool
  | [], [] => true
  | c :: cs, v :: vs => fitV c v && fitsV cs vs
  | _, _ => false
def eq1 : Value → Value → Option Bool
  | .int k a, .int k' b => if k = k' then some (decide (a = b)) else none
  | .string a, .string b => some (decide (a = b))
  | .bool a, .bool b => some (decide (a = b))
  | _, _ => none
def eqV : List Value → List Value → Option Bool
  | [], [] => some true
  | x :: xs, y :: ys => match eq1 x y, eqV xs ys with
    | some r, some r' => some (r && r')
    | _, _ => none
  | _, _ => none

theorem fitsV_len : ∀ {s : List CellK} {vs : List Value}, fitsV s vs = true → s.length = vs.length
  | [], [], _ => rfl
  | c :: s, v :: vs, h => by simp only [fitsV, Bool.and_eq_true] at h; simp [fitsV_len h.2]
  | [], _ :: _, h => by cases h
  | _ :: _, [], h => by cases h
theorem fitsV_app : ∀ {s r : List CellK} {vs : List Value}, fitsV (s ++ r) vs = true → fitsV s (vs.take s.length) = true ∧ fitsV r (vs.drop s.length) = true
  | [], r, vs, h => by simpa [fitsV] using h
  | c :: s, r, [], h => by cases h
  | c :: s, r, v :: vs, h => by
    simp only [List.cons_append, fitsV, Bool.and_eq_true] at h
    obtain ⟨h1, h2⟩ := fitsV_app h.2
    exact ⟨by simp [fitsV, h.1, h1], by simpa using h2⟩
theorem eqV_cons {a b : Value} {xs ys : List Value} {r : Bool} (h : eqV (a :: xs) (b :: ys) = some r) : ∃ r1 r2, eq1 a b = some r1 ∧ eqV xs ys = some r2 ∧ r = (r1 && r2) := by
  simp only [eqV] at h
  split at h
  · rename_i r1 r2 h1 h2; exact ⟨r1, r2, h1, h2, (Option.some.inj h).symm⟩
  · cases h
theorem eqV_cons' {a b : Value} {xs ys : List Value} {r1 r2 : Bool} (h1 : eq1 a b = some r1) (h2 : eqV xs ys = some r2) : eqV (a :: xs) (b :: ys) = some (r1 && r2) := by
  simp only [eqV, h1, h2]
theorem eqV_split : ∀ (n : Nat) {xs ys : List Value} {r : Bool}, eqV xs ys = some r → ∃ r1 r2, eqV (xs.take n) (ys.take n) = some r1 ∧ eqV (xs.drop n) (ys.drop n) = some r2 ∧ r = (r1 && r2)
  | 0, xs, ys, r, h => ⟨true, r, rfl, h, rfl⟩
  | n + 1, [], [], r, h => by simp [eqV] at h; subst h; exact ⟨true, true, rfl, rfl, rfl⟩
  | n + 1, [], _ :: _, r, h => by cases h
  | n + 1, _ :: _, [], r, h => by simp [eqV] at h
  | n + 1, a :: xs, b :: ys, r, h => by
    obtain ⟨r1, r2, h1, h2, rfl⟩ := eqV_cons h
    obtain ⟨r3, r4, h3, h4, rfl⟩ := eqV_split n h2
    exact ⟨r1 && r3, r4, by simpa using eqV_cons' h1 h3, by simpa using h4, by rw [Bool.and_assoc]⟩

theorem fitV_cells {c : CellK} {v : Value} (h : fitV c v = true) : v.cells = #[v] := by
  cases c <;> cases v <;> first | rfl | cases h

theorem sig_cases {d : Nat} {t : TypeId} {s : List CellK} (h : sigOf P d t = some s) : ∃ d', d = d' + 1 ∧
    ((P.underlying t = some .bool ∧ s = [.b]) ∨ (∃ q, P.underlying t = some (.int q) ∧ s = [.i]) ∨ (P.underlying t = some .string ∧ s = [.s]) ∨
      (∃ n e s', P.underlying t = some (.array n e) ∧ sigOf P d' e = some s' ∧ s'.length = P.cellsOf e ∧ n * s'.length = P.cellsOf t ∧ s = (List.replicate n s').flatten) ∨
      (∃ fs, P.underlying t = some (.struct fs) ∧ P.stoodInHeld t = false ∧ sigFs (sigOf P d') fs.toList 0 = some s ∧ s.length = P.cellsOf t)) := by
  cases d with
  | zero => cases h
  | succ d =>
    refine ⟨d, rfl, ?_⟩
    unfold sigOf at h
    cases hu : P.underlying t with
    | none => simp [hu] at h
    | some k =>
      cases k <;> simp only [hu] at h <;> try (cases h; done)
      case bool => exact .inl ⟨rfl, (Option.some.inj h).symm⟩
      case int q => exact .inr (.inl ⟨q, rfl, (Option.some.inj h).symm⟩)
      case string => exact .inr (.inr (.inl ⟨rfl, (Option.some.inj h).symm⟩))
      case array n e =>
        split at h
        · rename_i s' hs
          split at h
          · rename_i hc
            simp only [Bool.and_eq_true] at hc
            exact .inr (.inr (.inr (.inl ⟨n, e, s', rfl, hs, Nat.eq_of_beq_eq_true hc.1, Nat.eq_of_beq_eq_true hc.2, (Option.some.inj h).symm⟩)))
          · cases h
        · cases h
      case struct fs =>
        split at h
        · rename_i hst
          split at h
          · rename_i s' hs
            split at h
            · rename_i hc
              obtain rfl := Option.some.inj h
              exact .inr (.inr (.inr (.inr ⟨fs, rfl, by simpa using hst, hs, Nat.eq_of_beq_eq_true hc⟩)))
            · cases h
          · cases h
        · cases h

/-- A part of a struct or an array. -/
theorem run_part_sig {d : Nat} {e : TypeId} {s : List CellK} (hs : sigOf P d e = some s) {xs : Array Value} {off : Nat} (hf : fitsV s ((xs.toList.drop off).take s.length) = true) (w : World) :
    ∃ a, (part e xs off).run P w = .ok a w ∧ a.cells.toList = (xs.toList.drop off).take s.length ∧ (P.plainKey e = true ∨ ∃ us, a = .agg us) := by
  obtain ⟨d', rfl, h | h | h | h | h⟩ := sig_cases hs
  case inr.inr.inr.inl =>
    obtain ⟨n, e', s', hu, h1, h2, h3, rfl⟩ := h
    obtain ⟨i, hi⟩ := info_of_underlying hu
    refine ⟨.agg (xs.extract off (off + P.cellsOf e)), ?_, ?_, .inr ⟨_, rfl⟩⟩
    · simp [part, isAgg, run_underlying hu, run_sizeOf w hi]
    · have : (List.replicate n s').flatten.length = P.cellsOf e := by rw [← h3]; simp
      rw [this]
      simp [Value.cells, List.extract]
  case inr.inr.inr.inr =>
    obtain ⟨fs, hu, h1, h2, h3⟩ := h
    obtain ⟨i, hi⟩ := info_of_underlying hu
    refine ⟨.agg (xs.extract off (off + P.cellsOf e)), ?_, ?_, .inr ⟨_, rfl⟩⟩
    · simp [part, isAgg, run_underlying hu, run_sizeOf w hi]
    · rw [h3]
      simp [Value.cells, List.extract]
  all_goals
    have hp : P.plainKey e = true := by
      unfold Program.plainKey
      first | (rw [h.1]; done) | (obtain ⟨q, hq, _⟩ := h; rw [hq])
    have hone : ∃ c, s = [c] := by first | exact ⟨_, h.2⟩ | (obtain ⟨q, _, hq⟩ := h; exact ⟨_, hq⟩)
    obtain ⟨c, rfl⟩ := hone
    have hl := fitsV_len hf
    have : ∃ v, (xs.toList.drop off).take 1 = [v] := by
      match hx : (xs.toList.drop off).take 1, hl with
      | [v], _ => exact ⟨v, rfl⟩
      | [], hl => simp [hx] at hl
    obtain ⟨v, hv⟩ := this
    have hv' : (xs.toList.drop off).take [c].length = [v] := hv
    rw [hv'] at hf ⊢
    simp only [fitsV, Bool.and_true] at hf
    refine ⟨v, run_part_plain w hp (getElem?_of_chunk hv), ?_, .inl hp⟩
    rw [fitV_cells hf]

/-- A value of a type of plain cells. -/
def Good (P : Program) (t : TypeId) (a : Value) : Prop := if P.plainKey t = true then a.cells = #[a] else ∃ us, a = .agg us
theorem good_part {d : Nat} {e : TypeId} {s : List CellK} (hs : sigOf P d e = some s) {xs : Array Value} {off : Nat} (hf : fitsV s ((xs.toList.drop off).take s.length) = true) (w : World) :
    ∃ a, (part e xs off).run P w = .ok a w ∧ a.cells.toList = (xs.toList.drop off).take s.length ∧ Good P e a := by
  obtain ⟨a, h1, h2, h3⟩ := run_part_sig hs hf w
  refine ⟨a, h1, h2, ?_⟩
  obtain ⟨d', rfl, h | h | h | h | h⟩ := sig_cases hs
  case inr.inr.inr.inl =>
    obtain ⟨n, e', s', hu, _⟩ := h
    have hp : P.plainKey e = false := by unfold Program.plainKey; rw [hu]
    unfold Good
    rw [if_neg (by simp [hp])]
    exact h3.resolve_left (by simp [hp])
  case inr.inr.inr.inr =>
    obtain ⟨fs, hu, _⟩ := h
    have hp : P.plainKey e = false := by unfold Program.plainKey; rw [hu]
    unfold Good
    rw [if_neg (by simp [hp])]
    exact h3.resolve_left (by simp [hp])
  all_goals
    have hp : P.plainKey e = true := by
      unfold Program.plainKey
      first | (rw [h.1]; done) | (obtain ⟨q, hq, _⟩ := h; rw [hq])
    have hone : ∃ c, s = [c] := by first | exact ⟨_, h.2⟩ | (obtain ⟨q, _, hq⟩ := h; exact ⟨_, hq⟩)
    obtain ⟨c, rfl⟩ := hone
    have hl := fitsV_len hf
    have : ∃ v, (xs.toList.drop off).take 1 = [v] := by
      match hx : (xs.toList.drop off).take 1, hl with
      | [v], _ => exact ⟨v, rfl⟩
      | [], hl => simp [hx] at hl
    obtain ⟨v, hv⟩ := this
    have hv' : (xs.toList.drop off).take [c].length = [v] := hv
    have hr := run_part_plain w hp (getElem?_of_chunk hv)
    rw [h1] at hr
    cases hr
    rw [hv'] at hf
    simp only [fitsV, Bool.and_true] at hf
    unfold Good
    rw [if_pos hp]
    exact fitV_cells hf

theorem eq_deep : ∀ (d : Nat) (t : TypeId) (s : List CellK), sigOf P d t = some s → ∀ (D : Nat) (w : World) (a b : Value) (r : Bool), Good P t a → Good P t b →
    fitsV s a.cells.toList = true → fitsV s b.cells.toList = true → eqV a.cells.toList b.cells.toList = some r → (Op.equalIn (D + d) t a b).run P w = .ok r w := by
  intro d
  induction d with
  | zero => intro t s h; cases h
  | succ d ih =>
    intro t s hs D w a b r ha hb fa fb he
    obtain ⟨d', hd, h | h | h | h | h⟩ := sig_cases hs
    all_goals obtain rfl : d = d' := by omega
    · obtain ⟨hu, rfl⟩ := h
      have hp : P.plainKey t = true := by unfold Program.plainKey; rw [hu]
      unfold Good at ha hb
      rw [if_pos hp] at ha hb
      rw [ha] at fa he
      rw [hb] at fb he
      obtain ⟨r1, r2, h1, h2, rfl⟩ := eqV_cons he
      obtain rfl : r2 = true := by simpa [eqV] using h2.symm
      simp only [fitsV, Bool.and_true] at fa fb
      cases a <;> first | (cases fa; done) | skip
      cases b <;> first | (cases fb; done) | skip
      simp only [eq1, Option.some.injEq] at h1
      subst h1
      rw [Bool.and_true]
      exact eq_bool hu (D + d) _ _ w
    · obtain ⟨q, hu, rfl⟩ := h
      have hp : P.plainKey t = true := by unfold Program.plainKey; rw [hu]
      unfold Good at ha hb
      rw [if_pos hp] at ha hb
      rw [ha] at fa he
      rw [hb] at fb he
      obtain ⟨r1, r2, h1, h2, rfl⟩ := eqV_cons he
      obtain rfl : r2 = true := by simpa [eqV] using h2.symm
      simp only [fitsV, Bool.and_true] at fa fb
      cases a <;> first | (cases fa; done) | skip
      cases b <;> first | (cases fb; done) | skip
      simp only [eq1] at h1
      split at h1
      · rename_i hk
        subst hk
        obtain rfl := Option.some.inj h1
        rw [Bool.and_true, ← int_beq]
        exact run_equalIn_int w (D + d) t _ _ _ _ hu
      · cases h1
    · obtain ⟨hu, rfl⟩ := h
      have hp : P.plainKey t = true := by unfold Program.plainKey; rw [hu]
      unfold Good at ha hb
      rw [if_pos hp] at ha hb
      rw [ha] at fa he
      rw [hb] at fb he
      obtain ⟨r1, r2, h1, h2, rfl⟩ := eqV_cons he
      obtain rfl : r2 = true := by simpa [eqV] using h2.symm
      simp only [fitsV, Bool.and_true] at fa fb
      cases a <;> first | (cases fa; done) | skip
      cases b <;> first | (cases fb; done) | skip
      simp only [eq1, Option.some.injEq] at h1
      subst h1
      rw [Bool.and_true, ← bytes_beq]
      exact run_equalIn_string w (D + d) t _ _ hu
    · obtain ⟨n, e, s', hu, h1, h2, h3, rfl⟩ := h
      have hp : P.plainKey t = false := by unfold Program.plainKey; rw [hu]
      unfold Good at ha hb
      rw [if_neg (by simp [hp])] at ha hb
      obtain ⟨us, rfl⟩ := ha
      obtain ⟨vs, rfl⟩ := hb
      obtain ⟨i, hi⟩ : ∃ i, P.info? e = some i := by
        obtain ⟨d', rfl, h | h | h | h | h⟩ := sig_cases h1
        · exact info_of_underlying h.1
        · obtain ⟨q, h, _⟩ := h; exact info_of_underlying h
        · exact info_of_underlying h.1
        · obtain ⟨_, _, _, h, _⟩ := h; exact info_of_underlying h
        · obtain ⟨_, h, _⟩ := h; exact info_of_underlying h
      rw [show D + (d + 1) = (D + d) + 1 from rfl, run_equalIn_array w (D + d) us vs hu hi, ← h2, List.range_eq_range']
      simp only [Value.cells] at fa fb he
      have key : ∀ (m k : Nat) (r : Bool), fitsV (List.replicate m s').flatten (us.toList.drop (k * s'.length)) = true → fitsV (List.replicate m s').flatten (vs.toList.drop (k * s'.length)) = true → eqV (us.toList.drop (k * s'.length)) (vs.toList.drop (k * s'.length)) = some r →
          (Op.eqItems (D + d) e s'.length us vs (List.range' k m)).run P w = .ok r w := by
        intro m
        induction m with
        | zero =>
          intro k r f1 f2 h
          have e1 := fitsV_len f1
          have e2 := fitsV_len f2
          rw [List.eq_nil_of_length_eq_zero e1.symm, List.eq_nil_of_length_eq_zero e2.symm] at h
          obtain rfl := Option.some.inj h
          rfl
        | succ m ihm =>
          intro k r f1 f2 h
          rw [List.replicate_succ, List.flatten_cons] at f1 f2
          obtain ⟨g1, g2⟩ := fitsV_app f1
          obtain ⟨g3, g4⟩ := fitsV_app f2
          obtain ⟨r1, r2, k1, k2, rfl⟩ := eqV_split s'.length h
          obtain ⟨x, p1, p2, p3⟩ := good_part h1 g1 w
          obtain ⟨y, q1, q2, q3⟩ := good_part h1 g3 w
          have hr := ih e s' h1 D w x y r1 p3 q3 (by rw [p2]; exact g1) (by rw [q2]; exact g3) (by rw [p2, q2]; exact k1)
          rw [List.drop_drop, show k * s'.length + s'.length = (k + 1) * s'.length by rw [Nat.succ_mul]] at g2 g4 k2
          rw [List.drop_drop, show k * s'.length + s'.length = (k + 1) * s'.length by rw [Nat.succ_mul]] at k2
          have ihr := ihm (k + 1) r2 g2 g4 k2
          rw [List.range'_succ]
          simp only [Op.eqItems, Sem.run_bind, p1, q1, Result.andThen_ok, hr]
          cases r1
          · simp
          · simpa using ihr
      exact key n 0 r (by simpa using fa) (by simpa using fb) (by simpa using he)
    · obtain ⟨fs, hu, hst, h1, h2⟩ := h
      have hp : P.plainKey t = false := by unfold Program.plainKey; rw [hu]
      unfold Good at ha hb
      rw [if_neg (by simp [hp])] at ha hb
      obtain ⟨us, rfl⟩ := ha
      obtain ⟨vs, rfl⟩ := hb
      have hfs : P.fieldsOf t = fs := by simp [Program.fieldsOf, hu]
      rw [show D + (d + 1) = (D + d) + 1 from rfl, run_equalIn_struct w (D + d) t us vs (by rw [hfs]; exact hu) hst, hfs]
      simp only [Value.cells] at fa fb he
      have key : ∀ (l : List Field) (off : Nat) (s : List CellK) (r : Bool), sigFs (sigOf P d) l off = some s → fitsV s (us.toList.drop off) = true → fitsV s (vs.toList.drop off) = true → eqV (us.toList.drop off) (vs.toList.drop off) = some r →
          (Op.eqFields (D + d) us vs l).run P w = .ok r w := by
        intro l
        induction l with
        | nil =>
          intro off s r hs f1 f2 h
          simp only [sigFs, Option.some.injEq] at hs
          subst hs
          have e1 := fitsV_len f1
          have e2 := fitsV_len f2
          rw [List.eq_nil_of_length_eq_zero e1.symm, List.eq_nil_of_length_eq_zero e2.symm] at h
          obtain rfl := Option.some.inj h
          rfl
        | cons f l ihl =>
          intro off s r hs f1 f2 h
          simp only [sigFs] at hs
          split at hs
          · rename_i hc
            simp only [Bool.and_eq_true, beq_iff_eq, bne_iff_ne] at hc
            obtain ⟨rfl, hn⟩ := hc
            split at hs
            · rename_i s1 hs1
              split at hs
              · rename_i s2 hs2
                obtain rfl := Option.some.inj hs
                obtain ⟨g1, g2⟩ := fitsV_app f1
                obtain ⟨g3, g4⟩ := fitsV_app f2
                obtain ⟨r1, r2, k1, k2, rfl⟩ := eqV_split s1.length h
                obtain ⟨x, p1, p2, p3⟩ := good_part hs1 g1 w
                obtain ⟨y, q1, q2, q3⟩ := good_part hs1 g3 w
                have hr := ih f.type s1 hs1 D w x y r1 p3 q3 (by rw [p2]; exact g1) (by rw [q2]; exact g3) (by rw [p2, q2]; exact k1)
                rw [List.drop_drop] at g2 g4 k2
                rw [List.drop_drop] at k2
                have ihr := ihl _ s2 r2 hs2 g2 g4 k2
                simp only [Op.eqFields, ne_eq, hn, not_false_eq_true, if_true, Sem.run_bind, p1, q1, Result.andThen_ok, hr]
                cases r1
                · simp
                · simpa using ihr
              · cases hs
            · cases hs
          · cases hs
      exact key fs.toList 0 s r h1 (by simpa using fa) (by simpa using fb) (by simpa using he)

theorem fitsA_rep {γ : Ghost} : ∀ {s : List CellK} {xs : List AV} {us : List Value}, fitsA s xs = true → us.length = xs.length → (∀ j x, xs[j]? = some x → Rep γ x (us.getD j undef)) → xs = us.map .sc ∧ fitsV s us = true
  | [], [], us, _, hl, _ => by
    have : us = [] := List.eq_nil_of_length_eq_zero (by simpa using hl)
    subst this
    exact ⟨rfl, rfl⟩
  | c :: s, x :: xs, [], _, hl, _ => by simp at hl
  | c :: s, x :: xs, u :: us, h, hl, hr => by
    simp only [fitsA, Bool.and_eq_true] at h
    obtain ⟨e, f⟩ := fitsA_rep (us := us) h.2 (by simpa using hl) fun j y hy => by simpa using hr (j + 1) y (by simpa using hy)
    have h0 : Rep γ x u := by simpa using hr 0 x (by simp)
    have hx : x = .sc u ∧ fitV c u = true := by
      have h1 := h.1
      cases c <;> cases x <;> simp only [fitA] at h1 <;> (try (cases h1; done))
      all_goals
        cases h0
        cases u <;> first | exact ⟨rfl, rfl⟩ | cases h1
    exact ⟨by rw [e, hx.1]; rfl, by simp [fitsV, hx.2, f]⟩
  | [], _ :: _, _, h, _, _ => by cases h
  | _ :: _, [], _, h, _, _ => by cases h
theorem eqCells_sc : ∀ {us vs : List Value}, eqCells (us.map .sc) (vs.map .sc) = eqV us vs
  | [], [] => rfl
  | [], _ :: _ => rfl
  | _ :: _, [] => rfl
  | u :: us, v :: vs => by
    have h1 : eqA1 (.sc u) (.sc v) = eq1 u v := by cases u <;> cases v <;> rfl
    simp only [List.map_cons, eqCells, eqV, h1, eqCells_sc (us := us) (vs := vs)]
    cases eq1 u v <;> cases eqV us vs <;> rfl

theorem guard_ok (op : BinOp) (t : TypeId) (p q : Operand) (x y : Value) (w : World) (h1 : x ≠ .nilIface) (h2 : ∀ a, x ≠ .agg a) : (eqGuard op t p q x y).run P w = .ok () w := by
  cases op <;> cases x <;> simp_all [eqGuard]

/-- '==' where the two are no scalars of one kind. -/
theorem run_eqTest {c : EqC} {t : TypeId} (hc : eqcOf P t = c) {γ : Ghost} {x y : AV} {vx vy : Value} (hx : Rep γ x vx) (hy : Rep γ y vy) {K : Bool → Prop} (h : eqTest c x y K) (w : World) :
    ∃ b, K b ∧ (Op.equal t vx vy).run P w = .ok b w ∧ (∀ op (p q : Operand), (eqGuard op t p q vx vy).run P w = .ok () w) ∧
      binOp .eql t vx vy = (do pure (.bool (← Op.equal t vx vy))) ∧ binOp .neq t vx vy = (do pure (.bool (!(← Op.equal t vx vy)))) := by
  unfold eqTest at h
  split at h <;> try (exact h.elim)
  · cases hx; cases hy
    exact ⟨_, h, eq_bool (eqc_bool hc) 9999 _ _ w, fun op p q => guard_ok op t p q _ _ w (by simp) (by simp), rfl, rfl⟩
  · obtain ⟨e, ht⟩ := eqc_ptr hc
    cases hx; cases hy
    exact ⟨_, h, eq_ptr1 ht 9999 w none, fun op p q => guard_ok op t p q _ _ w (by simp) (by simp), rfl, rfl⟩
  · obtain ⟨e, ht⟩ := eqc_ptr hc
    cases hx; cases hy
    exact ⟨_, h, eq_ptr1 ht 9999 w (some _), fun op p q => guard_ok op t p q _ _ w (by simp) (by simp), rfl, rfl⟩
  · obtain ⟨e, ht⟩ := eqc_ptr hc
    cases hx; cases hy
    exact ⟨_, h, eq_ptr2 ht 9999 w _, fun op p q => guard_ok op t p q _ _ w (by simp) (by simp), rfl, rfl⟩
  · obtain ⟨e, ht⟩ := eqc_ptr hc
    cases hx; cases hy
    exact ⟨_, h, eq_ptr2 ht 9999 w _, fun op p q => guard_ok op t p q _ _ w (by simp) (by simp), rfl, rfl⟩
  · obtain ⟨e, ht⟩ := eqc_sl hc
    have key : ∃ a n c, vx = .slice a n c ∧ K a.isNone := by
      cases hx with
      | lnil => exact ⟨none, 0, 0, rfl, h true rfl⟩
      | lemp a n hn => exact ⟨a, 0, n, rfl, h _ (by simp [nilTest])⟩
      | lst es o b off cap sz u h1 h2 h3 h4 h5 h6 => exact ⟨some ⟨b, off, none⟩, _, _, rfl, h _ (by unfold nilTest; split <;> simp_all [OwnOk])⟩
    obtain ⟨a, n, c, rfl, hk⟩ := key
    have hvy : vy = .slice none 0 0 := by
      generalize hl : (AV.lst [] .nil) = l at hy
      cases hy <;> first | (cases hl; done) | (cases hl; rfl) | (cases hl; simp_all [OwnOk])
    subst hvy
    exact ⟨_, hk, eq_sl ht 9999 w a n c, fun op p q => guard_ok op t p q _ _ w (by simp) (by simp), rfl, rfl⟩
  · obtain ⟨e, ht⟩ := eqc_sl hc
    have hvy : vy = .slice none 0 0 := by
      generalize hl : (AV.lst [] .nil) = l at hy
      cases hy <;> first | (cases hl; done) | (cases hl; rfl) | (cases hl; simp_all [OwnOk])
    subst hvy
    cases hx
    exact ⟨_, h, eq_sl ht 9999 w (some _) _ _, fun op p q => guard_ok op t p q _ _ w (by simp) (by simp), rfl, rfl⟩
  · obtain ⟨a, b, c, ht⟩ := eqc_fn hc
    cases hx; cases hy
    exact ⟨_, h, eq_fn2 ht 9999 w _ _ _, fun op p q => guard_ok op t p q _ _ w (by simp) (by simp), rfl, rfl⟩
  · obtain ⟨a, b, c, ht⟩ := eqc_fn hc
    cases hx; cases hy
    exact ⟨_, h, eq_fn1 ht 9999 w, fun op p q => guard_ok op t p q _ _ w (by simp) (by simp), rfl, rfl⟩
  · rename_i sig xs ys
    obtain ⟨hsig, hg, hp⟩ := eqc_plain hc
    obtain ⟨f1, f2, b, h1, h2⟩ := h
    cases hx with
    | agg _ us u1 u2 =>
      cases hy with
      | agg _ vs v1 v2 =>
        obtain ⟨e1, g1⟩ := fitsA_rep (us := us.toList) f1 (by simpa using u1) fun j x hj => by simpa [Array.getD_eq_getD_getElem?] using u2 j x hj
        obtain ⟨e2, g2⟩ := fitsA_rep (us := vs.toList) f2 (by simpa using v1) fun j x hj => by simpa [Array.getD_eq_getD_getElem?] using v2 j x hj
        rw [e1, e2, eqCells_sc] at h1
        refine ⟨b, h2, ?_, fun op p q => run_eqGuard_agg w op t p q us vs hg, rfl, rfl⟩
        exact eq_deep 30 t sig hsig 9970 w (.agg us) (.agg vs) b (by unfold Good; rw [if_neg (by simp [hp])]; exact ⟨us, rfl⟩) (by unfold Good; rw [if_neg (by simp [hp])]; exact ⟨vs, rfl⟩) g1 g2 h1

theorem ok_bin_eq {o : Oper} {op : BinOp} {t u : TypeId} {x y : Operand} {c : EqC} (ho : o.op = .binOp op t x y u) (hc : eqcOf P t = c) (hop : op = .eql ∨ op = .neq) (hne : c ≠ .other) :
    OpOk P (.bin op c (nopd x) (nopd y)) o := by
  intro γ mf ρ m a w K hr hs hv
  have hx := ev_ok hr x
  have hy := ev_ok hr y
  have hv' : eqTest c (ev ρ (nopd x)) (ev ρ (nopd y)) fun b => K (bo (if op = .eql then b else !b)) m := by
    rcases hop with rfl | rfl <;> cases c <;> simp_all [vop, vbin]
  obtain ⟨b, hb, h1, h2, h3, h4⟩ := run_eqTest hc hx hy hv' w
  refine ⟨.bool (if op = .eql then b else !b), w, ran_of (s := do eqGuard op t x y (a.eval x) (a.eval y); binOp op t (a.eval x) (a.eval y)) (by simp [execOp, ho]) ?_, Fin.same (.sc _) hs hb⟩
  rcases hop with rfl | rfl
  · simp [h2, h3, h1]
  · simp [h2, h4, h1]

theorem ok_un {o : Oper} {op : UnOp} {t : TypeId} {x : Operand} (ho : o.op = .unOp op t x) : OpOk P (.un op (nopd x)) o := by
  intro γ mf ρ m a w K hr hs hv
  have hx := ev_ok hr x
  simp only [vop, vun] at hv
  have key : ∃ r, (Op.unary op (a.eval x)).run P w = .ok r w ∧ K (.sc r) m := by
    split at hv <;> try (exact hv.elim)
    all_goals
      rename_i he
      rw [he] at hx
      generalize hvx : a.eval x = vx at hx
      cases hx
      exact ⟨_, rfl, hv⟩
  obtain ⟨r, h1, h2⟩ := key
  exact ⟨r, w, ran_of (s := Op.unary op (a.eval x)) (by simp [execOp, ho]) h1, Fin.same (.sc _) hs h2⟩

theorem ok_conv {o : Oper} {s d : TypeId} {k : IntKind} {x : Operand} (ho : o.op = .convert s d x) (hd : P.underlying d = some (.int k)) (hs' : ∃ u, P.underlying s = some u) : OpOk P (.conv k (nopd x)) o := by
  intro γ mf ρ m a w K hr hs hv
  have hx := ev_ok hr x
  obtain ⟨u, hu⟩ := hs'
  simp only [vop] at hv
  split at hv <;> try (exact hv.elim)
  rename_i k' n he
  rw [he] at hx
  generalize hvx : a.eval x = vx at hx
  cases hx
  refine ⟨_, w, ran_of (s := convert s d (a.eval x)) (by simp [execOp, ho]) ?_, Fin.same (.sc _) hs hv⟩
  rw [hvx]
  simp [convert, run_underlying hu, run_underlying hd, Conv.intToInt]

theorem ok_same {o : Oper} {s d : TypeId} {x : Operand} (ho : o.op = .convert s d x) (hd : P.underlying d = some .string) (hs' : P.underlying s = some .string) : OpOk P (.same (nopd x)) o := by
  intro γ mf ρ m a w K hr hs hv
  have hx := ev_ok hr x
  simp only [vop] at hv
  split at hv <;> try (exact hv.elim)
  rename_i s' he
  rw [he] at hx
  generalize hvx : a.eval x = vx at hx
  cases hx
  refine ⟨_, w, ran_of (s := convert s d (a.eval x)) (by simp [execOp, ho]) ?_, Fin.same (.sc _) hs hv⟩
  rw [hvx]
  simp [convert, run_underlying hs', run_underlying hd]

theorem run_isAgg {t : TypeId} {d : TypeDesc} (ht : P.underlying t = some d) (w : World) : (isAgg t).run P w = .ok (isAggD d) w := by
  cases d <;> simp [isAgg, run_underlying ht, isAggD]
/-- A part of an aggregate. -/
theorem run_part {γ : Ghost} {t : TypeId} {k : Option Nat} (hk : ekOf P t = some k) {cs : List AV} {us : Array Value} {off : Nat} {x : AV} (hl : us.size = cs.length) (hr : ∀ j y, cs[j]? = some y → Rep γ y (us.getD j undef))
    (hx : elem k (cs.drop off) = some x) (w : World) : ∃ v, (part t us off).run P w = .ok v w ∧ Rep γ x v := by
  obtain ⟨d, i, hd, hi, hsz, hagg, _⟩ := ekOf_some hk
  cases k with
  | none =>
    simp only [elem, List.getElem?_drop, Nat.add_zero] at hx
    have hlt : off < us.size := by rw [hl]; exact (List.getElem?_eq_some_iff.1 hx).1
    refine ⟨us[off], ?_, ?_⟩
    · have h1 : isAggD d = false := by simpa using hagg
      have h2 : us[off]? = some us[off] := by simp [hlt]
      simp only [part, Sem.run_bind, run_isAgg hd, Result.andThen_ok, h1, Bool.false_eq_true, if_false, h2, Sem.run_pure]
    · have := hr _ _ hx
      simpa [Array.getD, hlt] using this
  | some n =>
    simp only [elem] at hx
    split at hx
    · rename_i hn
      obtain rfl := Option.some.inj hx
      refine ⟨.agg (us.extract off (off + n)), ?_, .agg _ _ ?_ fun j y hj => ?_⟩
      · have h1 : isAggD d = true := by simpa using hagg
        have h3 : i.size = n := by simpa using hsz
        simp only [part, Sem.run_bind, run_isAgg hd, Result.andThen_ok, h1, if_true, sizeOf, typeInfo, run_program, hi, Sem.run_pure, h3]
      · simp at hn ⊢; omega
      · rw [List.getElem?_take, List.getElem?_drop] at hj
        split at hj
        · have := hr _ _ hj
          rw [Array.getD_eq_getD_getElem?] at this ⊢
          rw [Array.getElem?_extract, if_pos (by have := (List.getElem?_eq_some_iff.1 hj).1; omega)]
          exact this
        · cases hj
    · cases hx

theorem ok_field {o : Oper} {t : TypeId} {x : Operand} {f : Nat} {fs : Array Field} {fd : Field} {k : Option Nat} (ho : o.op = .field t x f) (ht : P.underlying t = some (.struct fs)) (hf : fs[f]? = some fd) (hk : ekOf P fd.type = some k) :
    OpOk P (.field k fd.offset (nopd x)) o := by
  intro γ mf ρ m a w K hr hs hv
  have hx := ev_ok hr x
  simp only [vop] at hv
  split at hv <;> try (exact hv.elim)
  rename_i cs he
  rw [he] at hx
  obtain ⟨y, hy, hK⟩ := hv
  generalize hvx : a.eval x = vx at hx
  cases hx with
  | agg _ us h1 h2 =>
    obtain ⟨v, h3, h4⟩ := run_part (P := P) hk h1 h2 hy w
    refine ⟨v, w, ran_of (s := Instr.field t (a.eval x) f) (by simp [execOp, ho]) ?_, Fin.same h4 hs hK⟩
    rw [hvx]
    simp [Instr.field, run_underlying ht, hf, asAgg, h3]

theorem ok_fieldAddr {o : Oper} {t : TypeId} {x : Operand} {f : Nat} {fs : Array Field} {fd : Field} {i : TypeInfo} (ho : o.op = .fieldAddr t x f) (ht : P.underlying t = some (.struct fs)) (hf : fs[f]? = some fd)
    (hi : P.info? fd.type = some i) (hz : i.size ≠ 0) : OpOk P (.fieldAddr fd.offset (nopd x)) o := by
  intro γ mf ρ m a w K hr hs hv
  have hx := ev_ok hr x
  have run : ∀ b off, (Instr.fieldAt t (.pointer (some ⟨b, off, none⟩)) f).run P w = .ok (.pointer (some ⟨b, off + fd.offset, none⟩)) w := fun b off => by
    simp [Instr.fieldAt, run_underlying ht, hf, Instr.sureAddr, fieldPlace, sizeOf, typeInfo, hi, hz, addr_add]
  simp only [vop] at hv
  split at hv <;> try (exact hv.elim)
  · rename_i id off he
    rw [he] at hx
    generalize hvx : a.eval x = vx at hx
    cases hx with
    | ptr _ _ b hb =>
      refine ⟨_, w, ran_of (s := Instr.fieldAt t (a.eval x) f) (by simp [execOp, ho]) (by rw [hvx]; exact run b off), Fin.same (.ptr _ _ b hb) hs hv⟩
  · rename_i cs he
    rw [he] at hx
    generalize hvx : a.eval x = vx at hx
    cases hx with
    | vptr _ b off u h1 h2 =>
      refine ⟨_, w, ran_of (s := Instr.fieldAt t (a.eval x) f) (by simp [execOp, ho]) (by rw [hvx]; exact run b off), Fin.same (.vptr _ b (off + fd.offset) (fun j => u (fd.offset + j)) ?_ ?_) hs hv⟩
      · intro j y hj
        rw [List.getElem?_drop] at hj
        rw [Nat.add_assoc]; exact h1 _ _ hj
      · intro j y hj
        rw [List.getElem?_drop] at hj
        exact h2 _ _ hj

theorem ok_iface {o : Oper} {t : TypeId} {x : Operand} {d : TypeDesc} (ho : o.op = .makeInterface t x) (ht : P.underlying t = some d) (hd : ∀ ms, d ≠ .interface ms) : OpOk P (.iface t (nopd x)) o := by
  intro γ mf ρ m a w K hr hs hv
  refine ⟨_, w, ran_of (s := Instr.makeInterface t (a.eval x)) (by simp [execOp, ho]) ?_, Fin.same (.iface t _ _ (ev_ok hr x)) hs hv⟩
  cases d <;> simp_all [Instr.makeInterface, run_underlying ht]

theorem ok_extract {o : Oper} {x : Operand} {i : Nat} (ho : o.op = .extract x i) : OpOk P (.extract i (nopd x)) o := by
  intro γ mf ρ m a w K hr hs hv
  have hx := ev_ok hr x
  simp only [vop] at hv
  split at hv <;> try (exact hv.elim)
  rename_i vs he
  rw [he] at hx
  obtain ⟨y, hy, hK⟩ := hv
  generalize hvx : a.eval x = vx at hx
  cases hx with
  | tup _ us h1 h2 =>
    have hlt : i < us.size := by rw [h1]; exact (List.getElem?_eq_some_iff.1 hy).1
    have h3 := h2 _ _ hy
    refine ⟨us[i], w, ran_of (s := Instr.extract (a.eval x) i) (by simp [execOp, ho]) ?_, Fin.same (by simpa [Array.getD, hlt] using h3) hs hK⟩
    rw [hvx]
    simp [Instr.extract, hlt]

theorem map_rep {γ : Ghost} {ρ : Regs} {a : Act} (hr : RegOk γ ρ a.tmps) (xs : Array Operand) : (xs.map a.eval).size = ((xs.toList.map nopd).map (ev ρ)).length ∧
    ∀ j y, ((xs.toList.map nopd).map (ev ρ))[j]? = some y → Rep γ y ((xs.map a.eval).getD j undef) := by
  refine ⟨by simp, fun j y hj => ?_⟩
  simp only [List.map_map, List.getElem?_map, Option.map_eq_some_iff, Array.getElem?_toList] at hj
  obtain ⟨x, hx, rfl⟩ := hj
  rw [Array.getD_eq_getD_getElem?, Array.getElem?_map, hx]
  exact ev_ok hr x

theorem ok_mkFunc {o : Oper} {f : FuncId} {cap : Array Operand} (ho : o.op = .makeFunc (.func f) #[] cap) : OpOk P (.mkFunc f (cap.toList.map nopd)) o := by
  intro γ mf ρ m a w K hr hs hv
  obtain ⟨h1, h2⟩ := map_rep hr cap
  refine ⟨_, w, ran_of (s := Instr.makeFunc (.func f) ((#[] : Array Operand).map a.eval) (cap.map a.eval)) (by simp [execOp, ho]) (by simp [Instr.makeFunc]), Fin.same (.clos f _ _ h1 h2) hs hv⟩

end
end Go.Proofs.Ytceahampebofbaa.Moi
