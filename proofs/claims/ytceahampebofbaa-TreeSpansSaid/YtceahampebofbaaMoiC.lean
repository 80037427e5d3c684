/- The operations of the machine in a smaller form, and what each of them does to plain values and to the heap of a proof. -/
import Derived.Test.YtceahampebofbaaMoiB
set_option linter.unusedVariables false
set_option linter.unusedSimpArgs false
namespace Go.Proofs.Ytceahampebofbaa.Moi
open Go Go.RowKit

abbrev Regs := Nat → AV
def upd (ρ : Regs) (d : Nat) (x : AV) : Regs := fun i => if i = d then x else ρ i

inductive Opd where
  | r (t : Nat)
  | k (x : AV)
  | no

def ev (ρ : Regs) : Opd → AV
  | .r t => ρ t
  | .k x => x
  | .no => .top

/-- What kinds of plain cells there are. -/
inductive CellK where
  | b
  | i
  | s
def fitA : CellK → AV → Bool
  | .b, .sc (.bool _) => true
  | .i, .sc (.int _ _) => true
  | .s, .sc (.string _) => true
  | _, _ => false
def fitsA : List CellK → List AV → Bool
  | [], [] => true
  | c :: cs, v :: vs => fitA c v && fitsA cs vs
  | _, _ => false

/-- Of what kind are the operands of '==': none that matters, bools, pointers, slices, interfaces, functions, maps; structs and arrays of plain cells. -/
inductive EqC where
  | other
  | bool
  | pointer
  | slice
  | iface
  | func
  | map
  | plain (sig : List CellK)

inductive NOp where
  | bad
  | move (x : Opd)
  | set (x : Opd)
  | pick (c a b : Opd)
  | load (k : Option Nat) (a : Opd)
  | store (n : Nat) (a x : Opd)
  | nilCheck (x : Opd)
  | bin (op : BinOp) (c : EqC) (x y : Opd)
  | un (op : UnOp) (x : Opd)
  | conv (k : IntKind) (x : Opd)
  | b2s (x : Opd)
  | same (x : Opd)
  | twin (x : Opd)
  | field (k : Option Nat) (off : Nat) (x : Opd)
  | fieldAddr (off : Nat) (x : Opd)
  | idxAddr (sz : Nat) (x i : Opd)
  | idxArr (n sz : Nat) (x i : Opd)
  | idxStr (x i : Opd)
  | idxAgg (n : Nat) (k : Option Nat) (x i : Opd)
  | sliceS (x : Opd) (lo hi : Option Opd)
  | sliceL (sz : Nat) (x : Opd) (lo hi mx : Option Opd)
  | sliceA (n sz : Nat) (x : Opd) (lo hi : Option Opd)
  | mkSlice (sz bytes : Nat) (zero : List AV) (len cap : Opd)
  | box (x : Opd)
  | alloc (zero : List AV)
  | build (zero : List AV) (parts : List (Nat × Nat × Opd))
  | buildSlice (k : Option Nat) (zero : List AV) (len : Nat) (parts : List (Nat × Opd))
  | extract (i : Nat) (x : Opd)
  | iface (t : TypeId) (x : Opd)
  | mkFunc (f : FuncId) (cap : List Opd)
  | lenS (x : Opd)
  | lenL (x : Opd)
  | lenArr (n : Nat)
  | cap (x : Opd)
  | append (mu : Bool) (k : Option Nat) (bytes : Nat) (zero : List AV) (x y : Opd)
  | copy (k : Option Nat) (x y : Opd)
  | clear (k : Option Nat) (zero : List AV) (x : Opd)
  | mx (x y : Opd)
  | mn (x y : Opd)
  | mkMap
  | lookup (kk : Option IntKind) (ok : Bool) (zero : AV) (mp key : Opd)
  | mapUpd (kk : Option IntKind) (mp key x : Opd)
  | assert (t : TypeId) (zero : AV) (x : Opd)

def uv : AV := .sc undef
def i64 (n : Int) : AV := .sc (.int .i64 n)
def bo (b : Bool) : AV := .sc (.bool b)

/-- What two plain scalars come to. -/
def scbin : BinOp → Value → Value → Option Value
  | .shl, .int k a, .int _ b => if b < 0 then none else some (.int k (k.wrap (a * 2 ^ (min b.toNat k.bits))))
  | .shr, .int k a, .int _ b => if b < 0 then none else some (.int k (a.fdiv (2 ^ (min b.toNat k.bits))))
  | .add, .int k a, .int k' b => if k = k' then some (.int k (k.wrap (a + b))) else none
  | .sub, .int k a, .int k' b => if k = k' then some (.int k (k.wrap (a - b))) else none
  | .mul, .int k a, .int k' b => if k = k' then some (.int k (k.wrap (a * b))) else none
  | .quo, .int k a, .int k' b => if k = k' ∧ b ≠ 0 then some (.int k (k.wrap (a.tdiv b))) else none
  | .rem, .int k a, .int k' b => if k = k' ∧ b ≠ 0 then some (.int k (a.tmod b)) else none
  | .and, .int k a, .int k' b => if k = k' then some (.int k (k.wrap (BitVec.ofInt k.bits a &&& BitVec.ofInt k.bits b).toNat)) else none
  | .or, .int k a, .int k' b => if k = k' then some (.int k (k.wrap (BitVec.ofInt k.bits a ||| BitVec.ofInt k.bits b).toNat)) else none
  | .xor, .int k a, .int k' b => if k = k' then some (.int k (k.wrap (BitVec.ofInt k.bits a ^^^ BitVec.ofInt k.bits b).toNat)) else none
  | .andNot, .int k a, .int k' b => if k = k' then some (.int k (k.wrap (BitVec.ofInt k.bits a &&& ~~~ BitVec.ofInt k.bits b).toNat)) else none
  | .eql, .int k a, .int k' b => if k = k' then some (.bool (decide (a = b))) else none
  | .neq, .int k a, .int k' b => if k = k' then some (.bool (decide (a ≠ b))) else none
  | .lss, .int k a, .int k' b => if k = k' then some (.bool (decide (a < b))) else none
  | .leq, .int k a, .int k' b => if k = k' then some (.bool (decide (a ≤ b))) else none
  | .gtr, .int k a, .int k' b => if k = k' then some (.bool (decide (b < a))) else none
  | .geq, .int k a, .int k' b => if k = k' then some (.bool (decide (b ≤ a))) else none
  | .add, .string a, .string b => if a.size + b.size ≤ 9223372036854775807 then some (.string (a ++ b)) else none
  | .eql, .string a, .string b => some (.bool (decide (a = b)))
  | .neq, .string a, .string b => some (.bool (decide (a ≠ b)))
  | .lss, .string a, .string b => some (.bool (Op.bytesLess a.toList b.toList))
  | _, _, _ => none

/-- Are two lists of plain scalars alike? (none: it cannot be told.) -/
def eqA1 : AV → AV → Option Bool
  | .sc (.int k a), .sc (.int k' b) => if k = k' then some (decide (a = b)) else none
  | .sc (.string a), .sc (.string b) => some (decide (a = b))
  | .sc (.bool a), .sc (.bool b) => some (decide (a = b))
  | _, _ => none
def eqCells : List AV → List AV → Option Bool
  | [], [] => some true
  | x :: xs, y :: ys => match eqA1 x y, eqCells xs ys with
    | some r, some r' => some (r && r')
    | _, _ => none
  | _, _ => none

/-- 'x == nil' for a list. -/
def nilTest : List AV → Own → Bool → Prop
  | _, .nil, b => b = true
  | es, .any, b => es ≠ [] → b = false
  | _, _, b => b = false

def eqTest (c : EqC) (x y : AV) (K : Bool → Prop) : Prop :=
  match c, x, y with
  | .bool, .sc (.bool a), .sc (.bool b) => K (decide (a = b))
  | .pointer, .sc (.pointer none), .sc (.pointer none) => K true
  | .pointer, .sc (.pointer none), .ptr _ _ => K false
  | .pointer, .ptr _ _, .sc (.pointer none) => K false
  | .pointer, .vptr _, .sc (.pointer none) => K false
  | .slice, .lst es o, .lst [] .nil => ∀ b, nilTest es o b → K b
  | .slice, .mref _ _ _ _, .lst [] .nil => K false
  | .func, .clos _ _, .sc .nilFunc => K false
  | .func, .sc .nilFunc, .sc .nilFunc => K true
  | .plain sig, .agg xs, .agg ys => fitsA sig xs = true ∧ fitsA sig ys = true ∧ ∃ b, eqCells xs ys = some b ∧ K b
  | _, _, _ => False

def vsc (op : BinOp) (x y : AV) (K : AV → Prop) : Prop :=
  match x, y with
  | .sc a, .sc b => ∃ r, scbin op a b = some r ∧ K (.sc r)
  | _, _ => False
def vbin (op : BinOp) (c : EqC) (x y : AV) (K : AV → Prop) : Prop :=
  match op, c with
  | op, .other => vsc op x y K
  | .eql, c => eqTest c x y fun b => K (bo b)
  | .neq, c => eqTest c x y fun b => K (bo (!b))
  | _, _ => False

def vun (op : UnOp) (x : AV) (K : AV → Prop) : Prop :=
  match op, x with
  | .not, .sc (.bool b) => K (bo (!b))
  | .neg, .sc (.int k n) => K (.sc (.int k (k.wrap (0 - n))))
  | .xor, .sc (.int k n) => K (.sc (.int k (k.wrap (BitVec.ofInt k.bits (if k.signed then -1 else k.max) ^^^ BitVec.ofInt k.bits n).toNat)))
  | _, _ => False

/-- The cells from an address on. -/
def acells (a : AV) (m : Heap) : Option (List AV) :=
  match a with
  | .vptr cs => some cs
  | .ptr id off => match get id m with
    | some (.cells cs) => some (cs.drop off)
    | _ => none
  | _ => none

def elem (k : Option Nat) (cs : List AV) : Option AV :=
  match k with
  | none => cs[0]?
  | some n => if n ≤ cs.length then some (.agg (cs.take n)) else none

/-- n elements. -/
def chunk (k : Option Nat) : Nat → List AV → Option (List AV)
  | 0, _ => some []
  | n + 1, cs => match elem k cs, chunk k n (cs.drop (k.getD 1)) with
    | some x, some xs => some (x :: xs)
    | _, _ => none

/-- The elements of a slice (the bytes of a string). -/
def aelems (k : Option Nat) (x : AV) (m : Heap) : Option (List AV) :=
  match x with
  | .lst es _ => some es
  | .mref id off len _ => match get id m with
    | some (.cells cs) => chunk k len (cs.drop off)
    | _ => none
  | .sc (.string s) => some (s.toList.map fun c => .sc (.int .u8 c.toNat))
  | _ => none

def splice : Nat → List AV → List AV → List AV
  | _, _, [] => []
  | 0, [], cs => cs
  | 0, x :: xs, _ :: cs => x :: splice 0 xs cs
  | n + 1, xs, c :: cs => c :: splice n xs cs

def flat (es : List AV) : List AV := es.flatMap AV.cells
def allOne (cs : List AV) : Bool := cs.all AV.one
/-- Elements of the size that their type has. -/
def sized (k : Option Nat) (es : List AV) : Prop := ∀ e ∈ es, e.cells.length = k.getD 1 ∧ (k = none → e.one = true) ∧ (k ≠ none → ∃ cs, e = .agg cs) ∧ allOne e.cells = true

def fill (zero : List AV) : List (Nat × List AV) → List AV
  | [] => zero
  | (off, xs) :: ps => fill (splice off xs zero) ps

def bnd (x : AV) (K : Int → Prop) : Prop :=
  match x with
  | .sc (.int _ n) => K n
  | _ => False
def bndOr (ρ : Regs) (x : Option Opd) (d : Int) (K : Int → Prop) : Prop :=
  match x with
  | some o => bnd (ev ρ o) K
  | none => K d

def nonNil : AV → Prop
  | .ptr _ _ | .vptr _ | .clos _ _ => True
  | _ => False

def allInt (x y : AV) (K : IntKind → Int → Int → Prop) : Prop :=
  match x, y with
  | .sc (.int k a), .sc (.int k' b) => k = k' ∧ K k a b
  | _, _ => False

/-- What is left of a token's owner. -/
def ownDel (o : Own) (m : Heap) (K : Heap → Prop) : Prop :=
  match o with
  | .nil | .full | .fix => K m
  | .tok t => get t m = some .tail ∧ K (del t m)
  | .any => False

def tokOk (es : List AV) : Own → Prop
  | .tok _ => es ≠ []
  | _ => True

def vappend (mu : Bool) (k : Option Nat) (bytes : Nat) (zero : List AV) (x y : AV) (m : Heap) (K : AV → Heap → Prop) : Prop :=
  match x with
  | .lst es o => ∃ ys, aelems k y m = some ys ∧ sized k ys ∧ sized k es ∧ (es.length + ys.length) * bytes ≤ 140737488355328 ∧ es.length + ys.length ≤ maxLen ∧ tokOk es o ∧
      (ys = [] → K (.lst es o) m) ∧ (ys ≠ [] → if mu then (o matches .nil | .full | .fix) ∧
          ∀ id cap rest, id ∉ keys m → es.length + ys.length ≤ cap → cap ≤ maxLen → rest.length = (cap - (es.length + ys.length)) * k.getD 1 → allOne rest = true →
            K (.mref id 0 (es.length + ys.length) cap) ((id, .cells (flat (es ++ ys) ++ rest)) :: m)
        else ownDel o m fun m' => ∀ id, id ∉ keys m → K (.lst (es ++ ys) (.tok id)) ((id, .tail) :: m'))
  | .mref id 0 n cap => ∃ cs, get id m = some (.cells cs) ∧ cs.length = cap * k.getD 1 ∧ ∃ ys, aelems k y m = some ys ∧ sized k ys ∧ (n + ys.length) * bytes ≤ 140737488355328 ∧ n + ys.length ≤ maxLen ∧
      allOne cs = true ∧
      ∀ id' cap' rest, id' ∉ keys m → n + ys.length ≤ cap' → cap' ≤ maxLen → rest.length = (cap' - (n + ys.length)) * k.getD 1 → allOne rest = true →
        K (.mref id' 0 (n + ys.length) cap') ((id', .cells (cs.take (n * k.getD 1) ++ flat ys ++ rest)) :: del id m)
  | _ => False

def szOk (sz : Nat) (es : List AV) : Prop := ∀ e ∈ es, e.cells.length = sz
def capOwn : List AV → Own → Own
  | [], _ => .any
  | _, .full => .full
  | _, .tok _ => .full
  | _, _ => .fix

/-! ### Maps: a key is a text (none) or a whole number -/
def keyOk : Option IntKind → Value → Bool
  | none, .string _ => true
  | some k, .int k' _ => decide (k' = k)
  | _, _ => false
def keyEq : Value → Value → Bool
  | .string a, .string b => decide (a = b)
  | .int _ a, .int _ b => decide (a = b)
  | _, _ => false
def amGet (kv : Value) : List (Value × AV) → Option AV
  | [] => none
  | (k, x) :: es => if keyEq kv k = true then some x else amGet kv es
def amPut (kv : Value) (x : AV) : List (Value × AV) → List (Value × AV)
  | [] => [(kv, x)]
  | (k, y) :: es => if keyEq kv k = true then (kv, x) :: es else (k, y) :: amPut kv x es
def lookRes (ok : Bool) (zero : AV) (r : Option AV) : AV := if ok = true then .tup [r.getD zero, bo r.isSome] else r.getD zero
def keysOk (kk : Option IntKind) (es : List (Value × AV)) : Prop := ∀ e ∈ es, keyOk kk e.1 = true

/-- An operation that is no call: what must hold before it, so that K holds of what it gives. -/
def vop (no : NOp) (ρ : Regs) (m : Heap) (K : AV → Heap → Prop) : Prop :=
  match no with
  | .bad => False
  | .move x => K (ev ρ x) m
  | .set x => K (ev ρ x) m
  | .pick c a b => ∃ t, ev ρ c = bo t ∧ K (if t then ev ρ a else ev ρ b) m
  | .load k a => ∃ cs, acells (ev ρ a) m = some cs ∧ ∃ x, elem k cs = some x ∧ K x m
  | .store n a x =>
    match ev ρ a with
    | .ptr id off => ∃ cs, get id m = some (.cells cs) ∧ (ev ρ x).cells.length = n ∧ allOne (ev ρ x).cells = true ∧ off + n ≤ cs.length ∧ K uv (put id (.cells (splice off (ev ρ x).cells cs)) m)
    | _ => False
  | .nilCheck x => nonNil (ev ρ x) ∧ K (ev ρ x) m
  | .bin op c x y => vbin op c (ev ρ x) (ev ρ y) fun r => K r m
  | .un op x => vun op (ev ρ x) fun r => K r m
  | .conv k x => match ev ρ x with
    | .sc (.int _ n) => K (.sc (.int k (k.wrap n))) m
    | _ => False
  | .same x => match ev ρ x with
    | .sc (.string s) => K (.sc (.string s)) m
    | _ => False
  | .twin x => match ev ρ x with
    | .lst es .full => K (.lst es .full) m
    | _ => False
  | .b2s x => ∃ ys, aelems none (ev ρ x) m = some ys ∧ ∃ bs : List UInt8, ys = bs.map (fun c => .sc (.int .u8 c.toNat)) ∧ K (.sc (.string ⟨bs.toArray⟩)) m
  | .field k off x => match ev ρ x with
    | .agg cs => ∃ y, elem k (cs.drop off) = some y ∧ K y m
    | _ => False
  | .fieldAddr off x => match ev ρ x with
    | .ptr id o => K (.ptr id (o + off)) m
    | .vptr cs => K (.vptr (cs.drop off)) m
    | _ => False
  | .idxAddr sz x i => bnd (ev ρ i) fun n => 0 ≤ n ∧
    match ev ρ x with
    | .lst es _ => ∃ e, es[n.toNat]? = some e ∧ e.cells.length = sz ∧ K (.vptr e.cells) m
    | .mref id off len _ => n < len ∧ K (.ptr id (off + n.toNat * sz)) m
    | _ => False
  | .idxArr len sz x i => bnd (ev ρ i) fun n => 0 ≤ n ∧ n < len ∧
    match ev ρ x with
    | .ptr id off => K (.ptr id (off + n.toNat * sz)) m
    | .vptr cs => K (.vptr (cs.drop (n.toNat * sz))) m
    | _ => False
  | .idxStr x i => bnd (ev ρ i) fun n => 0 ≤ n ∧
    match ev ρ x with
    | .sc (.string s) => ∃ c, s.data[n.toNat]? = some c ∧ K (.sc (.int .u8 c.toNat)) m
    | _ => False
  | .idxAgg len k x i => bnd (ev ρ i) fun n => 0 ≤ n ∧ n < len ∧
    match ev ρ x with
    | .agg cs => ∃ y, elem k (cs.drop (n.toNat * k.getD 1)) = some y ∧ K y m
    | _ => False
  | .sliceS x lo hi => match ev ρ x with
    | .sc (.string s) => bndOr ρ lo 0 fun l => bndOr ρ hi s.size fun h => 0 ≤ l ∧ l ≤ h ∧ h ≤ s.size ∧ K (.sc (.string (s.extract l.toNat h.toNat))) m
    | _ => False
  | .sliceL sz x lo hi mx => match ev ρ x with
    | .lst es o => bndOr ρ lo 0 fun l => bndOr ρ hi es.length fun h =>
      match mx with
      | none => 0 ≤ l ∧ l ≤ h ∧ h ≤ es.length ∧ (l ≠ 0 → szOk sz es) ∧ K (.lst ((es.drop l.toNat).take (h.toNat - l.toNat)) (if l = 0 ∧ h = es.length then o else .any)) m
      | some w => bnd (ev ρ w) fun c => 0 ≤ l ∧ l ≤ h ∧ h = c ∧ c ≤ es.length ∧ (l ≠ 0 → szOk sz es) ∧ K (.lst ((es.drop l.toNat).take (h.toNat - l.toNat)) (capOwn es o)) m
    | .mref id off len cap => bndOr ρ lo 0 fun l => bndOr ρ hi len fun h =>
      match mx with
      | none => 0 ≤ l ∧ l ≤ h ∧ h ≤ cap ∧ K (.mref id (if (cap : Int) = l then off else off + l.toNat * sz) (h.toNat - l.toNat) (cap - l.toNat)) m
      | some w => bnd (ev ρ w) fun c => 0 ≤ l ∧ l ≤ h ∧ h ≤ c ∧ c ≤ cap ∧ K (.mref id (if c = l then off else off + l.toNat * sz) (h.toNat - l.toNat) (c.toNat - l.toNat)) m
    | _ => False
  | .sliceA n sz x lo hi => match ev ρ x with
    | .ptr id off => bndOr ρ lo 0 fun l => bndOr ρ hi n fun h => 0 ≤ l ∧ l ≤ h ∧ h ≤ n ∧ n ≤ maxLen ∧ K (.mref id (if (n : Int) = l then off else off + l.toNat * sz) (h.toNat - l.toNat) (n - l.toNat)) m
    | _ => False
  | .mkSlice sz bytes zero l c => bnd (ev ρ l) fun l => bnd (ev ρ c) fun c => 0 ≤ l ∧ l ≤ c ∧ c * bytes ≤ 140737488355328 ∧ c ≤ maxLen ∧
      ∀ id, id ∉ keys m → K (.mref id 0 l.toNat c.toNat) ((id, .cells (List.replicate c.toNat zero).flatten) :: m)
  | .box x => allOne (ev ρ x).cells = true ∧ ∀ id, id ∉ keys m → K (.ptr id 0) ((id, .cells (ev ρ x).cells) :: m)
  | .alloc zero => allOne zero = true ∧ ∀ id, id ∉ keys m → K (.ptr id 0) ((id, .cells zero) :: m)
  | .build zero parts => (∀ p ∈ parts, (ev ρ p.2.2).cells.length = p.2.1 ∧ allOne (ev ρ p.2.2).cells = true ∧ p.1 + p.2.1 ≤ zero.length) ∧ K (.agg (fill zero (parts.map fun p => (p.1, (ev ρ p.2.2).cells)))) m
  | .buildSlice k zero len parts => (∀ p ∈ parts, (ev ρ p.2).cells.length = k.getD 1 ∧ allOne (ev ρ p.2).cells = true ∧ p.1 < len) ∧
      ∃ es, chunk k len (fill (List.replicate len zero).flatten (parts.map fun p => (p.1 * k.getD 1, (ev ρ p.2).cells))) = some es ∧ K (.lst es .full) m
  | .extract i x => match ev ρ x with
    | .tup vs => ∃ y, vs[i]? = some y ∧ K y m
    | _ => False
  | .iface t x => K (.iface t (ev ρ x)) m
  | .mkFunc f cap => K (.clos f (cap.map (ev ρ))) m
  | .lenS x => match ev ρ x with
    | .sc (.string s) => K (i64 s.size) m
    | _ => False
  | .lenL x => match ev ρ x with
    | .lst es _ => K (i64 es.length) m
    | .mref _ _ n _ => K (i64 n) m
    | _ => False
  | .lenArr n => K (i64 n) m
  | .cap x => match ev ρ x with
    | .mref _ _ _ c => K (i64 c) m
    | _ => False
  | .append mu k bytes zero x y => allOne zero = true ∧ zero.length = k.getD 1 ∧ vappend mu k bytes zero (ev ρ x) (ev ρ y) m K
  | .copy k x y => match ev ρ x with
    | .mref id off n _ => ∃ ys, aelems k (ev ρ y) m = some ys ∧ sized k ys ∧ ∃ cs, get id m = some (.cells cs) ∧ off + n * k.getD 1 ≤ cs.length ∧
        K (i64 (min ys.length n)) (put id (.cells (splice off (flat (ys.take n)) cs)) m)
    | _ => False
  | .clear k zero x => match ev ρ x with
    | .mref id off n _ => allOne zero = true ∧ zero.length = k.getD 1 ∧ ∃ cs, get id m = some (.cells cs) ∧ off + n * k.getD 1 ≤ cs.length ∧ K uv (put id (.cells (splice off (List.replicate n zero).flatten cs)) m)
    | _ => False
  | .mx x y => allInt (ev ρ x) (ev ρ y) fun k a b => K (.sc (.int k (max a b))) m
  | .mn x y => allInt (ev ρ x) (ev ρ y) fun k a b => K (.sc (.int k (min a b))) m
  | .mkMap => ∀ id, id ∉ keys m → K (.mapp id) ((id, .amap []) :: m)
  | .lookup kk ok zero mp key => match ev ρ mp, ev ρ key with
    | .mapp id, .sc kv => ∃ es, get id m = some (.amap es) ∧ keyOk kk kv = true ∧ keysOk kk es ∧ K (lookRes ok zero (amGet kv es)) m
    | _, _ => False
  | .mapUpd kk mp key x => match ev ρ mp, ev ρ key with
    | .mapp id, .sc kv => ∃ es, get id m = some (.amap es) ∧ keyOk kk kv = true ∧ keysOk kk es ∧ K uv (put id (.amap (amPut kv (ev ρ x) es)) m)
    | _, _ => False
  | _ => False

end Go.Proofs.Ytceahampebofbaa.Moi
