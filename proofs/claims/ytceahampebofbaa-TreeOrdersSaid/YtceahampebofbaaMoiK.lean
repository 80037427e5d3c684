/- The smaller form of each operation, off the program's own tables; that it says what the machine does. -/
import Derived.Test.YtceahampebofbaaMoiJ
set_option linter.unusedVariables false
set_option linter.unusedSimpArgs false
namespace Go.Proofs.Ytceahampebofbaa.Moi
open Go Go.RowKit

def isU8 (P : Program) (e : TypeId) : Bool := match P.underlying e with
  | some (.int .u8) => true
  | _ => false
def isIfaceD : TypeDesc → Bool
  | .interface _ => true
  | _ => false

def normConv (P : Program) (s d : TypeId) (x : Operand) : NOp :=
  match P.underlying s, P.underlying d with
  | some _, some (.int k) => .conv k (nopd x)
  | some .string, some .string => .same (nopd x)
  | some (.slice e), some .string => if isU8 P e then .b2s (nopd x) else .bad
  | some (.slice e), some (.slice _) => if isU8 P e && s == d then .twin (nopd x) else .bad
  | _, _ => .bad

def normSlice (P : Program) (t : TypeId) (x : Operand) (lo hi mx : Option Operand) : NOp :=
  match P.underlying t with
  | some .string => if mx.isNone then .sliceS (nopd x) (lo.map nopd) (hi.map nopd) else .bad
  | some (.slice e) => match P.info? e with
    | some i => if mx.isSome && hi.isNone then .bad else .sliceL i.size (nopd x) (lo.map nopd) (hi.map nopd) (mx.map nopd)
    | none => .bad
  | some (.array n e) => match P.info? e with
    | some i => if mx.isNone then .sliceA n i.size (nopd x) (lo.map nopd) (hi.map nopd) else .bad
    | none => .bad
  | _ => .bad

def normBuild (P : Program) (t : TypeId) (parts : Array (Nat × Operand)) : NOp :=
  match P.underlying t, zeroOf P t with
  | some (.struct fs), some zs => match placesOf P fs with
    | some pl => if parts.toList.all (fun p => (pl[p.1]?).isSome) then .build zs (placeParts (pl[·]?) parts) else .bad
    | none => .bad
  | some (.array n e), some zs => match P.info? e with
    | some i => .build zs (placeParts (arrPlace i.size n) parts)
    | none => .bad
  | _, _ => .bad

def normBuiltin (P : Program) (mu : Bool) (b : Builtin) (args : List Operand) (ts : List TypeId) : NOp :=
  match b, args, ts with
  | .len, [x], [t] => match P.underlying t with
    | some .string => .lenS (nopd x)
    | some (.slice _) => .lenL (nopd x)
    | some (.array n _) => .lenArr n
    | _ => .bad
  | .cap, [x], [t] => match P.underlying t with
    | some (.slice _) => .cap (nopd x)
    | _ => .bad
  | .max, [x, y], _ => .mx (nopd x) (nopd y)
  | .min, [x, y], _ => .mn (nopd x) (nopd y)
  | .append, [x, y], [T, U] => match P.underlying T, P.underlying U with
    | some (.slice e), some .string => match ekOf P e, P.info? e, zeroOf P e with
      | some k, some i, some zs => .append mu k i.bytes zs (nopd x) (nopd y)
      | _, _, _ => .bad
    | some (.slice e), some (.slice _) => match ekOf P e, P.info? e, zeroOf P e with
      | some k, some i, some zs => .append mu k i.bytes zs (nopd x) (nopd y)
      | _, _, _ => .bad
    | _, _ => .bad
  | .copy, [x, y], [T, U] => match P.underlying T with
    | some (.slice e) => match ekOf P e with
      | some k => .copy k (nopd x) (nopd y)
      | none => .bad
    | _ => .bad
  | .clear, [x], [T] => match P.underlying T with
    | some (.slice e) => match ekOf P e, zeroOf P e with
      | some k, some zs => .clear k zs (nopd x)
      | _, _ => .bad
    | _ => .bad
  | _, _, _ => .bad

def normOp (P : Program) (mu : Bool) (o : Oper) : NOp :=
  match o.op with
  | .move x => .move (nopd x)
  | .assign x => .move (nopd x)
  | .pick c a b => .pick (nopd c) (nopd a) (nopd b)
  | .load t a => match ekOf P t with
    | some k => .load k (nopd a)
    | none => .bad
  | .store t a x => match P.info? t with
    | some i => .store i.size (nopd a) (nopd x)
    | none => .bad
  | .nilCheck x => .nilCheck (nopd x)
  | .binOp op t x y _ => if op = .eql ∨ op = .neq then .bin op (eqcOf P t) (nopd x) (nopd y) else .bin op .other (nopd x) (nopd y)
  | .unOp op _ x => .un op (nopd x)
  | .convert s d x => normConv P s d x
  | .field t x f => match P.underlying t with
    | some (.struct fs) => match fs[f]? with
      | some fd => match ekOf P fd.type with
        | some k => .field k fd.offset (nopd x)
        | none => .bad
      | none => .bad
    | _ => .bad
  | .fieldAddr t x f => match P.underlying t with
    | some (.struct fs) => match fs[f]? with
      | some fd => match P.info? fd.type with
        | some i => if i.size = 0 then .bad else .fieldAddr fd.offset (nopd x)
        | none => .bad
      | none => .bad
    | _ => .bad
  | .indexAddr t x y => match P.underlying t with
    | some (.slice e) => match P.info? e with
      | some i => .idxAddr i.size (nopd x) (nopd y)
      | none => .bad
    | some (.array n e) => match P.info? e with
      | some i => .idxArr n i.size (nopd x) (nopd y)
      | none => .bad
    | _ => .bad
  | .index t x y => match P.underlying t with
    | some .string => .idxStr (nopd x) (nopd y)
    | some (.array n e) => match ekOf P e with
      | some k => .idxAgg n k (nopd x) (nopd y)
      | none => .bad
    | _ => .bad
  | .slice t x lo hi mx => normSlice P t x lo hi mx
  | .makeSlice t l c => match P.underlying t with
    | some (.slice e) => match P.info? e, zeroOf P e with
      | some i, some zs => .mkSlice i.size i.bytes zs (nopd l) (nopd c)
      | _, _ => .bad
    | _ => .bad
  | .box _ x => .box (nopd x)
  | .alloc t => match zeroOf P t with
    | some zs => .alloc zs
    | none => .bad
  | .build t parts => normBuild P t parts
  | .buildSlice t len parts => match P.underlying t with
    | some (.slice e) => match ekOf P e, zeroOf P e with
      | some k, some zs => if len * k.getD 1 ≤ 16777216 then .buildSlice k zs len (parts.toList.map fun p => (p.1, nopd p.2)) else .bad
      | _, _ => .bad
    | _ => .bad
  | .extract x i => .extract i (nopd x)
  | .makeInterface t x => match P.underlying t with
    | some d => if isIfaceD d then .bad else .iface t (nopd x)
    | none => .bad
  | .makeFunc (.func f) first cap => if first.size = 0 then .mkFunc f (cap.toList.map nopd) else .bad
  | .makeMap _ none => .mkMap
  | .lookup t x k ok => match P.underlying t with
    | some (.map kt et) => match kkOf P kt, zeroA P et with
      | some kk, some z => .lookup kk ok z (nopd x) (nopd k)
      | _, _ => .bad
    | _ => .bad
  | .mapUpdate t x k v => match P.underlying t with
    | some (.map kt _) => match kkOf P kt with
      | some kk => .mapUpd kk (nopd x) (nopd k) (nopd v)
      | none => .bad
    | _ => .bad
  | .call c => match c.callee with
    | .builtin b => normBuiltin P mu b c.args.toList c.argTypes.toList
    | _ => .bad
  | _ => .bad

section
variable {P : Program}

theorem ok_bad (o : Oper) : OpOk P .bad o := fun _ _ _ _ _ _ _ _ _ h => h.elim

theorem arr_of_list {α : Type} {a : Array α} {l : List α} (h : a.toList = l) : a = l.toArray := by rw [← h]

theorem isU8_ok {e : TypeId} (h : isU8 P e = true) : P.underlying e = some (.int .u8) := by
  unfold isU8 at h
  split at h
  · assumption
  · cases h

theorem normConv_ok {o : Oper} {s d : TypeId} {x : Operand} (ho : o.op = .convert s d x) : OpOk P (normConv P s d x) o := by
  unfold normConv
  split
  · exact ok_conv ho (by assumption) ⟨_, by assumption⟩
  · exact ok_same ho (by assumption) (by assumption)
  · split
    · exact ok_b2s ho (by assumption) (isU8_ok (by assumption)) (by assumption)
    · exact ok_bad o
  · split
    · rename_i h
      simp only [Bool.and_eq_true, beq_iff_eq] at h
      obtain ⟨h1, rfl⟩ := h
      exact ok_twin ho (by assumption) (isU8_ok h1)
    · exact ok_bad o
  · exact ok_bad o

theorem normSlice_ok {o : Oper} {t : TypeId} {x : Operand} {lo hi mx : Option Operand} (ho : o.op = .slice t x lo hi mx) : OpOk P (normSlice P t x lo hi mx) o := by
  unfold normSlice
  split
  · split
    · rename_i ht h
      have : mx = none := by simpa using h
      subst this
      exact ok_sliceS ho ht
    · exact ok_bad o
  · split
    · split
      · exact ok_bad o
      · rename_i h
        refine ok_sliceL ho (by assumption) (by assumption) fun h1 h2 => h ?_
        subst h2
        cases mx with
        | none => exact absurd rfl h1
        | some _ => rfl
    · exact ok_bad o
  · split
    · split
      · rename_i h
        have : mx = none := by simpa using h
        subst this
        exact ok_sliceA ho (by assumption) (by assumption)
      · exact ok_bad o
    · exact ok_bad o
  · exact ok_bad o

theorem normBuild_ok {o : Oper} {t : TypeId} {parts : Array (Nat × Operand)} (ho : o.op = .build t parts) : OpOk P (normBuild P t parts) o := by
  unfold normBuild
  split
  · split
    · split
      · rename_i hp h
        refine ok_buildStruct ho (by assumption) (by assumption) hp fun p hp' hn => ?_
        simp only [List.all_eq_true] at h
        have := h p hp'
        rw [hn] at this
        cases this
      · exact ok_bad o
    · exact ok_bad o
  · split
    · exact ok_buildArr ho (by assumption) (by assumption) (by assumption)
    · exact ok_bad o
  · exact ok_bad o

theorem normBuiltin_ok {o : Oper} {mu : Bool} {b : Builtin} {args : Array Operand} {ts : Array TypeId} (ho : o.op = .call { callee := .builtin b, args := args, argTypes := ts }) : OpOk P (normBuiltin P mu b args.toList ts.toList) o := by
  unfold normBuiltin
  split
  · rename_i x t h1 h2
    have e1 := arr_of_list h1
    have e2 := arr_of_list h2
    subst e1; subst e2
    split
    · exact ok_lenS ho (by assumption)
    · exact ok_lenL ho (by assumption)
    · exact ok_lenArr ho (by assumption)
    · exact ok_bad o
  · rename_i x t h1 h2
    have e1 := arr_of_list h1
    have e2 := arr_of_list h2
    subst e1; subst e2
    split
    · exact ok_cap ho (by assumption)
    · exact ok_bad o
  · rename_i x y h1
    have e1 := arr_of_list h1
    subst e1
    exact ok_mx ho
  · rename_i x y h1
    have e1 := arr_of_list h1
    subst e1
    exact ok_mn ho
  · rename_i x y T U h1 h2
    have e1 := arr_of_list h1
    have e2 := arr_of_list h2
    subst e1; subst e2
    split
    · split
      · exact ok_append ho (by assumption) (by assumption) (.inl rfl) (by assumption) (by assumption) (by assumption)
      · exact ok_bad o
    · split
      · exact ok_append ho (by assumption) (by assumption) (.inr ⟨_, rfl⟩) (by assumption) (by assumption) (by assumption)
      · exact ok_bad o
    · exact ok_bad o
  · rename_i x y T U h1 h2
    have e1 := arr_of_list h1
    have e2 := arr_of_list h2
    subst e1; subst e2
    split
    · split
      · rename_i hk
        obtain ⟨_, i, _, hi, _⟩ := ekOf_some hk
        exact ok_copy ho (by assumption) hk hi
      · exact ok_bad o
    · exact ok_bad o
  · rename_i x T h1 h2
    have e1 := arr_of_list h1
    have e2 := arr_of_list h2
    subst e1; subst e2
    split
    · split
      · rename_i hk hz
        obtain ⟨_, i, _, hi, _⟩ := ekOf_some hk
        exact ok_clear ho (by assumption) hk hi hz
      · exact ok_bad o
    · exact ok_bad o
  · exact ok_bad o

theorem normOp_ok (mu : Bool) (o : Oper) : OpOk P (normOp P mu o) o := by
  unfold normOp
  split
  · exact ok_move (.inl (by assumption))
  · exact ok_move (.inr (by assumption))
  · exact ok_pick (by assumption)
  · split
    · exact ok_load (by assumption) (by assumption)
    · exact ok_bad o
  · split
    · exact ok_store (by assumption) (by assumption)
    · exact ok_bad o
  · exact ok_nilCheck (by assumption)
  · rename_i op t x y u ho
    split
    · rename_i hop
      by_cases hc : eqcOf P t = .other
      · rw [hc]; exact ok_bin_other ho
      · exact ok_bin_eq ho rfl hop hc
    · exact ok_bin_other ho
  · exact ok_un (by assumption)
  · exact normConv_ok (by assumption)
  · split
    · split
      · split
        · exact ok_field (by assumption) (by assumption) (by assumption) (by assumption)
        · exact ok_bad o
      · exact ok_bad o
    · exact ok_bad o
  · split
    · split
      · split
        · split
          · exact ok_bad o
          · exact ok_fieldAddr (by assumption) (by assumption) (by assumption) (by assumption) (by assumption)
        · exact ok_bad o
      · exact ok_bad o
    · exact ok_bad o
  · split
    · split
      · exact ok_idxAddr (by assumption) (by assumption) (by assumption)
      · exact ok_bad o
    · split
      · exact ok_idxArr (by assumption) (by assumption) (by assumption)
      · exact ok_bad o
    · exact ok_bad o
  · split
    · exact ok_idxStr (by assumption) (by assumption)
    · split
      · exact ok_idxAgg (by assumption) (by assumption) (by assumption)
      · exact ok_bad o
    · exact ok_bad o
  · exact normSlice_ok (by assumption)
  · split
    · split
      · exact ok_mkSlice (by assumption) (by assumption) (by assumption) (by assumption)
      · exact ok_bad o
    · exact ok_bad o
  · exact ok_box (by assumption)
  · split
    · exact ok_alloc (by assumption) (by assumption)
    · exact ok_bad o
  · exact normBuild_ok (by assumption)
  · split
    · split
      · split
        · exact ok_buildSlice (by assumption) (by assumption) (by assumption) (by assumption) (by assumption)
        · exact ok_bad o
      · exact ok_bad o
    · exact ok_bad o
  · exact ok_extract (by assumption)
  · split
    · rename_i d hd
      split
      · exact ok_bad o
      · rename_i hi
        exact ok_iface (by assumption) hd fun ms e => hi (by subst e; rfl)
    · exact ok_bad o
  · split
    · rename_i f first cap ho hf
      have : first = #[] := Array.eq_empty_of_size_eq_zero hf
      subst this
      exact ok_mkFunc ho
    · exact ok_bad o
  · exact ok_mkMap (by assumption)
  · split
    · split
      · exact ok_lookup (by assumption) (by assumption) (by assumption) (by assumption)
      · exact ok_bad o
    · exact ok_bad o
  · split
    · split
      · exact ok_mapUpd (by assumption) (by assumption) (by assumption)
      · exact ok_bad o
    · exact ok_bad o
  · split
    · rename_i c ho x b hb
      obtain ⟨cal, args, ts⟩ := c
      simp only at hb; subst hb
      exact normBuiltin_ok ho
    · exact ok_bad o
  · exact ok_bad o

end
end Go.Proofs.Ytceahampebofbaa.Moi
