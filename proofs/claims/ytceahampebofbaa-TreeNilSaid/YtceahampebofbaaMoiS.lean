/- Rules for the walk through the small form: what goes on lies behind words that 'simp' does not look into before what they wait for is there. -/
import Derived.Test.YtceahampebofbaaMoiR
set_option linter.unusedVariables false
set_option linter.unusedSimpArgs false
namespace Go.Proofs.Ytceahampebofbaa.Moi
open Go Go.RowKit

/-! ### The words -/
/- What goes on stands as an instance ('simp' does not look into those); 'Inhabited' holds it. -/
def stop [p : Inhabited Prop] : Prop := p.default
def val (v : AV) [K : Inhabited (AV → Prop)] : Prop := K.default v
def withS {α : Type} (o : Option α) [K : Inhabited (α → Prop)] : Prop := match o with
  | some x => K.default x
  | none => False
def onB (x : AV) [a : Inhabited (Unit → Prop)] [b : Inhabited (Bool → Prop)] : Prop := match x with
  | .sc (.bool t) => (t = true → a.default ()) ∧ (t = false → b.default false)
  | _ => False
def gd (x : AV) (wt : Bool) [yes : Inhabited (Unit → Prop)] [no : Inhabited (Bool → Prop)] : Prop := match x with
  | .sc (.bool b) => (b = wt → yes.default ()) ∧ (b ≠ wt → no.default false)
  | .sc _ => no.default false
  | _ => False
def fresh (m : Heap) [K : Inhabited (Nat → Prop)] : Prop := ∀ id, id ∉ keys m → K.default id
def onLst (x : AV) [K1 : Inhabited (List AV → Own → Prop)] [K2 : Inhabited (Nat → Nat → Nat → Nat → Prop)] : Prop := match x with
  | .lst es o => K1.default es o
  | .mref id off n c => K2.default id off n c
  | _ => False
def onPtr (x : AV) [K1 : Inhabited (Nat → Nat → Prop)] [K2 : Inhabited (List AV → Prop)] : Prop := match x with
  | .ptr id off => K1.default id off
  | .vptr cs => K2.default cs
  | _ => False
def onStr (x : AV) [K : Inhabited (ByteArray → Prop)] : Prop := match x with
  | .sc (.string s) => K.default s
  | _ => False
def onAgg (x : AV) [K : Inhabited (List AV → Prop)] : Prop := match x with
  | .agg cs => K.default cs
  | _ => False
def onTup (x : AV) [K : Inhabited (List AV → Prop)] : Prop := match x with
  | .tup cs => K.default cs
  | _ => False
def onIfc (x : AV) [K : Inhabited (TypeId → AV → Prop)] : Prop := match x with
  | .iface t y => K.default t y
  | _ => False
def onInt (x : AV) [K : Inhabited (Int → Prop)] : Prop := bnd x K.default
def onEq (c : EqC) (x y : AV) [K : Inhabited (Bool → Prop)] : Prop := eqTest c x y K.default
def onBin (op : BinOp) (x y : AV) [K : Inhabited (AV → Prop)] : Prop := vsc op x y K.default
def onUn (op : UnOp) (x : AV) [K : Inhabited (AV → Prop)] : Prop := vun op x K.default
def onInts (x y : AV) [K : Inhabited (IntKind → Int → Int → Prop)] : Prop := allInt x y K.default
def onApp (mu : Bool) (k : Option Nat) (b : Nat) (z : List AV) (x y : AV) (m : Heap) [K : Inhabited (AV → Heap → Prop)] : Prop := vappend mu k b z x y m K.default
def onCall (P : Program) (f : FuncId) (xs : List AV) (m : Heap) [K : Inhabited (AV → Heap → Prop)] [E : Inhabited (AV → Heap → Prop × Unit)] : Prop := ACall P f xs m K.default fun x m => (E.default x m).1

section
variable {P : Program} {E : AV → Heap → Prop} {Kn : Cont} {Kx : Nat → Cont} {Kr : Cont} {ρ ρ' : Regs} {m m' : Heap} {K : AV → Heap → Prop} {l : List NI} {x y : Opd} {u v : AV}

theorem stop_i {p : Prop} (h : p) : @stop ⟨p⟩ := h
theorem call_i {f : FuncId} {xs : List AV} (h : ACall P f xs m K E) : @onCall P f xs m ⟨K⟩ ⟨fun x m => (E x m, ())⟩ := h

/-! ### What the words come to -/
theorem val_e {K : AV → Prop} : @val v ⟨K⟩ = K v := propext ⟨fun h => h, fun h => h⟩
theorem withS_some {α : Type} {a : α} {K : α → Prop} : @withS α (some a) ⟨K⟩ = K a := propext ⟨fun h => h, fun h => h⟩
theorem onB_t {a : Unit → Prop} {b : Bool → Prop} : @onB (.sc (.bool true)) ⟨a⟩ ⟨b⟩ = a () := by simp [onB]
theorem onB_f {a : Unit → Prop} {b : Bool → Prop} : @onB (.sc (.bool false)) ⟨a⟩ ⟨b⟩ = b false := by simp [onB]
theorem onB_e {a : Unit → Prop} {b : Bool → Prop} {t : Bool} : @onB (.sc (.bool t)) ⟨a⟩ ⟨b⟩ = ((t = true → a ()) ∧ (t = false → b false)) := propext ⟨fun h => h, fun h => h⟩
theorem gd_tt {a : Unit → Prop} {b : Bool → Prop} : @gd (.sc (.bool true)) true ⟨a⟩ ⟨b⟩ = a () := by simp [gd]
theorem gd_ft {a : Unit → Prop} {b : Bool → Prop} : @gd (.sc (.bool false)) true ⟨a⟩ ⟨b⟩ = b false := by simp [gd]
theorem gd_tf {a : Unit → Prop} {b : Bool → Prop} : @gd (.sc (.bool true)) false ⟨a⟩ ⟨b⟩ = b false := by simp [gd]
theorem gd_ff {a : Unit → Prop} {b : Bool → Prop} : @gd (.sc (.bool false)) false ⟨a⟩ ⟨b⟩ = a () := by simp [gd]
theorem gd_u {a : Unit → Prop} {b : Bool → Prop} {w : Bool} : @gd (.sc undef) w ⟨a⟩ ⟨b⟩ = b false := propext ⟨fun h => h, fun h => h⟩
theorem gd_e {a : Unit → Prop} {b : Bool → Prop} {t w : Bool} : @gd (.sc (.bool t)) w ⟨a⟩ ⟨b⟩ = ((t = w → a ()) ∧ (t ≠ w → b false)) := propext ⟨fun h => h, fun h => h⟩
theorem fresh_e {K : Nat → Prop} : @fresh m ⟨K⟩ = ∀ id, id ∉ keys m → K id := propext ⟨fun h => h, fun h => h⟩
theorem onLst_l {es : List AV} {o : Own} {K1 : List AV → Own → Prop} {K2 : Nat → Nat → Nat → Nat → Prop} : @onLst (.lst es o) ⟨K1⟩ ⟨K2⟩ = K1 es o := propext ⟨fun h => h, fun h => h⟩
theorem onLst_m {id off n c : Nat} {K1 : List AV → Own → Prop} {K2 : Nat → Nat → Nat → Nat → Prop} : @onLst (.mref id off n c) ⟨K1⟩ ⟨K2⟩ = K2 id off n c := propext ⟨fun h => h, fun h => h⟩
theorem onPtr_p {id off : Nat} {K1 : Nat → Nat → Prop} {K2 : List AV → Prop} : @onPtr (.ptr id off) ⟨K1⟩ ⟨K2⟩ = K1 id off := propext ⟨fun h => h, fun h => h⟩
theorem onPtr_v {cs : List AV} {K1 : Nat → Nat → Prop} {K2 : List AV → Prop} : @onPtr (.vptr cs) ⟨K1⟩ ⟨K2⟩ = K2 cs := propext ⟨fun h => h, fun h => h⟩
theorem onStr_e {s : ByteArray} {K : ByteArray → Prop} : @onStr (.sc (.string s)) ⟨K⟩ = K s := propext ⟨fun h => h, fun h => h⟩
theorem onAgg_e {cs : List AV} {K : List AV → Prop} : @onAgg (.agg cs) ⟨K⟩ = K cs := propext ⟨fun h => h, fun h => h⟩
theorem onTup_e {cs : List AV} {K : List AV → Prop} : @onTup (.tup cs) ⟨K⟩ = K cs := propext ⟨fun h => h, fun h => h⟩
theorem onIfc_e {t : TypeId} {K : TypeId → AV → Prop} : @onIfc (.iface t u) ⟨K⟩ = K t u := propext ⟨fun h => h, fun h => h⟩
theorem onInt_e {k : IntKind} {n : Int} {K : Int → Prop} : @onInt (.sc (.int k n)) ⟨K⟩ = K n := propext ⟨fun h => h, fun h => h⟩
theorem bndOr_none {d : Int} {K : Int → Prop} : bndOr ρ none d K = K d := propext ⟨fun h => h, fun h => h⟩
theorem bndOr_some {d : Int} {K : Int → Prop} : bndOr ρ (some x) d K = @onInt (ev ρ x) ⟨K⟩ := propext ⟨fun h => h, fun h => h⟩
theorem onBin_e {op : BinOp} {a b : Value} {K : AV → Prop} : @onBin op (.sc a) (.sc b) ⟨K⟩ = @withS _ (scbin op a b) ⟨fun r => K (.sc r)⟩ := by
  show (∃ r, _) = _
  unfold withS
  split <;> simp_all
theorem onInts_e {k : IntKind} {a b : Int} {K : IntKind → Int → Int → Prop} : @onInts (.sc (.int k a)) (.sc (.int k b)) ⟨K⟩ = K k a b := by simp [onInts, allInt]
theorem onUn_not {b : Bool} {K : AV → Prop} : @onUn .not (.sc (.bool b)) ⟨K⟩ = K (.sc (.bool (!b))) := propext ⟨fun h => h, fun h => h⟩
theorem onUn_neg {k : IntKind} {n : Int} {K : AV → Prop} : @onUn .neg (.sc (.int k n)) ⟨K⟩ = K (.sc (.int k (k.wrap (0 - n)))) := propext ⟨fun h => h, fun h => h⟩
theorem onUn_xor {k : IntKind} {n : Int} {K : AV → Prop} : @onUn .xor (.sc (.int k n)) ⟨K⟩ = K (.sc (.int k (k.wrap (BitVec.ofInt k.bits (if k.signed then -1 else k.max) ^^^ BitVec.ofInt k.bits n).toNat))) := propext ⟨fun h => h, fun h => h⟩
theorem onEq_bool {a b : Bool} {K : Bool → Prop} : @onEq .bool (.sc (.bool a)) (.sc (.bool b)) ⟨K⟩ = K (decide (a = b)) := propext ⟨fun h => h, fun h => h⟩
theorem onEq_pnn {K : Bool → Prop} : @onEq .pointer (.sc (.pointer none)) (.sc (.pointer none)) ⟨K⟩ = K true := propext ⟨fun h => h, fun h => h⟩
theorem onEq_pnp {i o : Nat} {K : Bool → Prop} : @onEq .pointer (.sc (.pointer none)) (.ptr i o) ⟨K⟩ = K false := propext ⟨fun h => h, fun h => h⟩
theorem onEq_ppn {i o : Nat} {K : Bool → Prop} : @onEq .pointer (.ptr i o) (.sc (.pointer none)) ⟨K⟩ = K false := propext ⟨fun h => h, fun h => h⟩
theorem onEq_pvn {cs : List AV} {K : Bool → Prop} : @onEq .pointer (.vptr cs) (.sc (.pointer none)) ⟨K⟩ = K false := propext ⟨fun h => h, fun h => h⟩
theorem onEq_lnil {K : Bool → Prop} : @onEq .slice (.lst [] .nil) (.lst [] .nil) ⟨K⟩ = K true := by simp [onEq, eqTest, nilTest]
theorem onEq_lst {es : List AV} {o : Own} {K : Bool → Prop} : @onEq .slice (.lst es o) (.lst [] .nil) ⟨K⟩ = ∀ b, nilTest es o b → K b := propext ⟨fun h => h, fun h => h⟩
theorem onEq_mref {i o n c : Nat} {K : Bool → Prop} : @onEq .slice (.mref i o n c) (.lst [] .nil) ⟨K⟩ = K false := propext ⟨fun h => h, fun h => h⟩
theorem onEq_cln {f : FuncId} {cs : List AV} {K : Bool → Prop} : @onEq .func (.clos f cs) (.sc .nilFunc) ⟨K⟩ = K false := propext ⟨fun h => h, fun h => h⟩
theorem onEq_nfn {K : Bool → Prop} : @onEq .func (.sc .nilFunc) (.sc .nilFunc) ⟨K⟩ = K true := propext ⟨fun h => h, fun h => h⟩
theorem get_e {id i : Nat} {ob : AObj} : get id ((i, ob) :: m) = if i = id then some ob else get id m := rfl
theorem put_e {id i : Nat} {ob o : AObj} : put id ob ((i, o) :: m) = if i = id then (i, ob) :: m else (i, o) :: put id ob m := rfl
theorem del_e {id i : Nat} {o : AObj} : del id ((i, o) :: m) = if i = id then m else (i, o) :: del id m := rfl
theorem keys_e {i : Nat} {o : AObj} : keys ((i, o) :: m) = i :: keys m := rfl
theorem keys_n : keys [] = [] := rfl
theorem acells_v {cs : List AV} : acells (.vptr cs) m = some cs := rfl
def asCells (o : Option AObj) : Option (List AV) := match o with
  | some (.cells cs) => some cs
  | _ => none
theorem asCells_e {cs : List AV} : asCells (some (.cells cs)) = some cs := rfl
theorem acells_p {id off : Nat} : acells (.ptr id off) m = (asCells (get id m)).map (List.drop off) := by
  unfold acells asCells
  simp only
  cases get id m with
  | none => rfl
  | some ob => cases ob <;> rfl
theorem map_some {α β : Type} {f : α → β} {a : α} : (some a).map f = some (f a) := rfl
theorem cells_sc {a : Value} : (AV.sc a).cells = [.sc a] := rfl
theorem cells_lst {es : List AV} {o : Own} : (AV.lst es o).cells = [.lst es o] := rfl
theorem cells_ptr {i o : Nat} : (AV.ptr i o).cells = [.ptr i o] := rfl
theorem cells_vptr {cs : List AV} : (AV.vptr cs).cells = [.vptr cs] := rfl
theorem cells_mref {i o n c : Nat} : (AV.mref i o n c).cells = [.mref i o n c] := rfl
theorem cells_agg {cs : List AV} : (AV.agg cs).cells = cs := rfl
theorem cells_ifc {t : TypeId} : (AV.iface t u).cells = [.iface t u] := rfl
theorem cells_clos {f : FuncId} {cs : List AV} : (AV.clos f cs).cells = [.clos f cs] := rfl
theorem cells_mapp {i : Nat} : (AV.mapp i).cells = [.mapp i] := rfl

/-! ### Lists of instructions -/
theorem vlist_nil {K : Cont} : vlist P E [] ρ m K = K ρ m := propext ⟨fun h => h, fun h => h⟩
theorem vlist_op {d : Nat} {no : NOp} {K : Cont} : vlist P E (⟨some d, none, .op no, []⟩ :: l) ρ m K = vop no ρ m fun x m' => vlist P E l (upd ρ d x) m' K := by
  simp only [vlist, vins, guarded, putR]
  congr 1; funext x m'; simp
theorem vlist_op0 {no : NOp} {K : Cont} : vlist P E (⟨none, none, .op no, []⟩ :: l) ρ m K = vop no ρ m fun x m' => vlist P E l ρ m' K := by
  simp only [vlist, vins, guarded, putR]
  congr 1; funext x m'; simp
theorem vlist_call {d : Nat} {f : FuncId} {cs : List AV} {xs : List Opd} {K : Cont} : vlist P E (⟨some d, none, .call (.k (.clos f cs)) xs, []⟩ :: l) ρ m K = @onCall P f (xs.map (ev ρ) ++ cs) m ⟨fun x m' => vlist P E l (upd ρ d x) m' K⟩ ⟨fun x m => (E x m, ())⟩ := by
  simp only [vlist, vins, guarded, putR]
  refine propext ⟨?_, fun h => ⟨f, cs, rfl, ?_⟩⟩
  · rintro ⟨fid, caps, h1, h2⟩
    cases h1
    refine call_i (h2.mono (fun x m' h => h.2) fun x m' h => h)
  · exact ACall.mono h (fun x m' h => ⟨by simp, h⟩) fun x m' h => h
theorem vlist_call0 {f : FuncId} {cs : List AV} {xs : List Opd} {K : Cont} : vlist P E (⟨none, none, .call (.k (.clos f cs)) xs, []⟩ :: l) ρ m K = @onCall P f (xs.map (ev ρ) ++ cs) m ⟨fun x m' => vlist P E l ρ m' K⟩ ⟨fun x m => (E x m, ())⟩ := by
  simp only [vlist, vins, guarded, putR]
  refine propext ⟨?_, fun h => ⟨f, cs, rfl, ?_⟩⟩
  · rintro ⟨fid, caps, h1, h2⟩
    cases h1
    refine call_i (h2.mono (fun x m' h => h.2) fun x m' h => h)
  · exact ACall.mono h (fun x m' h => ⟨by simp, h⟩) fun x m' h => h
theorem vlist_panic {d : Option Nat} {K : Cont} : vlist P E (⟨d, none, .panic x, []⟩ :: l) ρ m K = @onIfc (ev ρ x) ⟨fun t y => E (.iface t y) m⟩ := by
  simp only [vlist, vins, guarded]
  generalize ev ρ x = u
  cases u <;> simp [onIfc]
  exact ⟨fun ⟨_, _, ⟨h1, h2⟩, h3⟩ => by subst h1 h2; exact h3, fun h => ⟨_, _, ⟨rfl, rfl⟩, h⟩⟩
theorem vlist_guard {d : Option Nat} {s : Nat} {wt : Bool} {io : IOp} {ck : List Rd} {K : Cont} :
    vlist P E (⟨d, some (s, wt), io, ck⟩ :: l) ρ m K = @gd (ρ s) wt ⟨fun _ => vlist P E (⟨d, none, io, ck⟩ :: l) ρ m K⟩ ⟨fun _ => vlist P E l (putR ρ d uv) m K⟩ := by
  simp only [vlist, vins, guarded, gd]
  cases h : ρ s with
  | sc v => cases v <;> rfl
  | _ => rfl
theorem vlist_chk {d : Option Nat} {no : NOp} {r : Rd} {ck : List Rd} {K : Cont} : vlist P E (⟨d, none, .op no, r :: ck⟩ :: l) ρ m K = vop no ρ m fun x m' => rereads r (putR ρ d x) m' ∧ (∀ r ∈ ck, rereads r (putR ρ d x) m') ∧ vlist P E l (putR ρ d x) m' K := by
  simp only [vlist, vins, guarded]
  congr 1; funext x m'; simp [and_assoc]
theorem vlist_chkCall {d : Option Nat} {f : FuncId} {cs : List AV} {xs : List Opd} {r : Rd} {ck : List Rd} {K : Cont} : vlist P E (⟨d, none, .call (.k (.clos f cs)) xs, r :: ck⟩ :: l) ρ m K =
    @onCall P f (xs.map (ev ρ) ++ cs) m ⟨fun x m' => rereads r (putR ρ d x) m' ∧ (∀ r ∈ ck, rereads r (putR ρ d x) m') ∧ vlist P E l (putR ρ d x) m' K⟩ ⟨fun x m => (E x m, ())⟩ := by
  simp only [vlist, vins, guarded]
  refine propext ⟨?_, fun h => ⟨f, cs, rfl, ?_⟩⟩
  · rintro ⟨fid, caps, h1, h2⟩
    cases h1
    refine call_i (h2.mono (fun x m' h => ?_) fun x m' h => h)
    simpa [and_assoc] using h
  · exact ACall.mono h (fun x m' h => by simpa [and_assoc] using h) fun x m' h => h

theorem vc_skip : vc P E .skip Kn Kx Kr ρ m = Kn ρ m := propext ⟨fun h => h, fun h => h⟩
theorem vc_ops : vc P E (.ops l) Kn Kx Kr ρ m = vlist P E l ρ m Kn := propext ⟨fun h => h, fun h => h⟩
theorem vc_seq {a b : NCode} : vc P E (.seq a b) Kn Kx Kr ρ m = vc P E a (fun ρ m => vc P E b Kn Kx Kr ρ m) Kx Kr ρ m := propext ⟨fun h => h, fun h => h⟩
theorem vc_cond {c : Opd} {a b : NCode} : vc P E (.cond c a b) Kn Kx Kr ρ m = @onB (ev ρ c) ⟨fun _ => vc P E a Kn Kx Kr ρ m⟩ ⟨fun _ => vc P E b Kn Kx Kr ρ m⟩ := by
  refine propext ⟨?_, fun h => ?_⟩
  · rintro ⟨t, ht, h⟩
    rw [ht]; exact h
  · unfold onB at h
    split at h
    · rename_i t ht; exact ⟨t, ht, h⟩
    · exact h.elim
theorem vc_block {id : Nat} {a : NCode} : vc P E (.block id a) Kn Kx Kr ρ m = vc P E a Kn (fun i ρ m => if i = id then Kn ρ m else Kx i ρ m) Kr ρ m := propext ⟨fun h => h, fun h => h⟩
theorem vc_loop {a : NCode} : vc P E (.loop a) Kn Kx Kr ρ m = @stop ⟨vc P E (.loop a) Kn Kx Kr ρ m⟩ := propext ⟨fun h => h, fun h => h⟩
theorem vc_exit {id : Nat} : vc P E (.exit id) Kn Kx Kr ρ m = Kx id ρ m := propext ⟨fun h => h, fun h => h⟩
theorem vc_ret : vc P E .ret Kn Kx Kr ρ m = Kr ρ m := propext ⟨fun h => h, fun h => h⟩

theorem upd_get {d : Nat} {x : AV} {i : Nat} : upd ρ d x i = if i = d then x else ρ i := rfl
theorem ev_r {t : Nat} : ev ρ (.r t) = ρ t := rfl
theorem ev_k : ev ρ (.k u) = u := rfl
theorem putR_some {d : Nat} {x : AV} : putR ρ (some d) x = upd ρ d x := rfl
theorem putR_none {x : AV} : putR ρ none x = ρ := rfl
theorem args_get {xs : List AV} {i : Nat} : argRegs xs i = xs.getD i uv := rfl
theorem rereads_e {d : Nat} {g : Option (Nat × Bool)} {no : NOp} : rereads ⟨d, g, no⟩ ρ m = match g with | none => vop no ρ m fun x _ => x = ρ d | some (s, wt) => @gd (ρ s) wt ⟨fun _ => vop no ρ m fun x _ => x = ρ d⟩ ⟨fun _ => True⟩ := by
  cases g with
  | none => rfl
  | some p =>
    obtain ⟨s, wt⟩ := p
    simp only [rereads, guarded, gd]
    cases h : ρ s with
    | sc v => cases v <;> rfl
    | _ => rfl

/-! ### Operations -/
theorem withS_ex {α : Type} {o : Option α} {K : α → Prop} : (∃ a, o = some a ∧ K a) = @withS α o ⟨K⟩ := by
  unfold withS
  cases o <;> simp

theorem w_move : vop (.move x) ρ m K = @val (ev ρ x) ⟨fun v => K v m⟩ := propext ⟨fun h => h, fun h => h⟩
theorem w_set : vop (.set x) ρ m K = @val (ev ρ x) ⟨fun v => K v m⟩ := propext ⟨fun h => h, fun h => h⟩
theorem w_pick {c a b : Opd} : vop (.pick c a b) ρ m K = @onB (ev ρ c) ⟨fun _ => @val (ev ρ a) ⟨fun v => K v m⟩⟩ ⟨fun _ => @val (ev ρ b) ⟨fun v => K v m⟩⟩ := by
  refine propext ⟨?_, fun h => ?_⟩
  · rintro ⟨t, ht, h⟩
    rw [ht]
    cases t
    · exact ⟨fun h => (nomatch h), fun _ => h⟩
    · exact ⟨fun _ => h, fun h => (nomatch h)⟩
  · unfold onB at h
    split at h
    · rename_i t ht
      refine ⟨t, ht, ?_⟩
      cases t
      · exact h.2 rfl
      · exact h.1 rfl
    · exact h.elim
theorem w_load {k : Option Nat} : vop (.load k x) ρ m K = @withS _ (acells (ev ρ x) m) ⟨fun cs => @withS _ (elem k cs) ⟨fun v => @val v ⟨fun v => K v m⟩⟩⟩ := by
  simp only [vop, withS_ex]; rfl
theorem w_store {n : Nat} : vop (.store n x y) ρ m K = @onPtr (ev ρ x) ⟨fun id off => @withS _ (asCells (get id m)) ⟨fun cs => @val (ev ρ y) ⟨fun v => v.cells.length = n ∧ allOne v.cells = true ∧ off + n ≤ cs.length ∧ @val (.agg (splice off v.cells cs)) ⟨fun z => K uv (put id (.cells z.cells) m)⟩⟩⟩⟩ ⟨fun _ => False⟩ := by
  simp only [vop, onPtr, val_e]
  cases ev ρ x with
  | ptr id off =>
    simp only [asCells]
    cases hg : get id m with
    | none => simp [withS]
    | some ob =>
      cases ob with
      | cells cs => simp [withS]; rfl
      | _ => simp [withS]
  | _ => rfl
theorem w_nil : vop (.nilCheck x) ρ m K = @val (ev ρ x) ⟨fun v => nonNil v ∧ K v m⟩ := propext ⟨fun h => h, fun h => h⟩
theorem w_bin {op : BinOp} : vop (.bin op .other x y) ρ m K = @onBin op (ev ρ x) (ev ρ y) ⟨fun r => @val r ⟨fun r => K r m⟩⟩ := by
  cases op <;> rfl
theorem w_eqb : vop (.bin .eql .bool x y) ρ m K = @onEq .bool (ev ρ x) (ev ρ y) ⟨fun b => @val (bo b) ⟨fun r => K r m⟩⟩ := propext ⟨fun h => h, fun h => h⟩
theorem w_eqp : vop (.bin .eql .pointer x y) ρ m K = @onEq .pointer (ev ρ x) (ev ρ y) ⟨fun b => @val (bo b) ⟨fun r => K r m⟩⟩ := propext ⟨fun h => h, fun h => h⟩
theorem w_eqs : vop (.bin .eql .slice x y) ρ m K = @onEq .slice (ev ρ x) (ev ρ y) ⟨fun b => @val (bo b) ⟨fun r => K r m⟩⟩ := propext ⟨fun h => h, fun h => h⟩
theorem w_eqf : vop (.bin .eql .func x y) ρ m K = @onEq .func (ev ρ x) (ev ρ y) ⟨fun b => @val (bo b) ⟨fun r => K r m⟩⟩ := propext ⟨fun h => h, fun h => h⟩
theorem w_neb : vop (.bin .neq .bool x y) ρ m K = @onEq .bool (ev ρ x) (ev ρ y) ⟨fun b => @val (bo (!b)) ⟨fun r => K r m⟩⟩ := propext ⟨fun h => h, fun h => h⟩
theorem w_nep : vop (.bin .neq .pointer x y) ρ m K = @onEq .pointer (ev ρ x) (ev ρ y) ⟨fun b => @val (bo (!b)) ⟨fun r => K r m⟩⟩ := propext ⟨fun h => h, fun h => h⟩
theorem w_nes : vop (.bin .neq .slice x y) ρ m K = @onEq .slice (ev ρ x) (ev ρ y) ⟨fun b => @val (bo (!b)) ⟨fun r => K r m⟩⟩ := propext ⟨fun h => h, fun h => h⟩
theorem w_nef : vop (.bin .neq .func x y) ρ m K = @onEq .func (ev ρ x) (ev ρ y) ⟨fun b => @val (bo (!b)) ⟨fun r => K r m⟩⟩ := propext ⟨fun h => h, fun h => h⟩
theorem w_un {op : UnOp} : vop (.un op x) ρ m K = @onUn op (ev ρ x) ⟨fun r => @val r ⟨fun r => K r m⟩⟩ := propext ⟨fun h => h, fun h => h⟩
theorem w_conv {k : IntKind} : vop (.conv k x) ρ m K = @onInt (ev ρ x) ⟨fun n => @val (.sc (.int k (k.wrap n))) ⟨fun v => K v m⟩⟩ := by
  simp only [vop, val_e, onInt, bnd]
theorem w_same : vop (.same x) ρ m K = @onStr (ev ρ x) ⟨fun s => K (.sc (.string s)) m⟩ := by
  simp only [vop, onStr]
  generalize ev ρ x = u; cases u <;> first | rfl | (rename_i v; cases v <;> rfl)
theorem w_field {k : Option Nat} {off : Nat} : vop (.field k off x) ρ m K = @onAgg (ev ρ x) ⟨fun cs => @withS _ (elem k (cs.drop off)) ⟨fun v => @val v ⟨fun v => K v m⟩⟩⟩ := by
  simp only [vop, withS_ex, val_e, onAgg]
  generalize ev ρ x = u; cases u <;> first | rfl | (rename_i v; cases v <;> rfl)
theorem w_fadr {off : Nat} : vop (.fieldAddr off x) ρ m K = @onPtr (ev ρ x) ⟨fun id o => @val (.ptr id (o + off)) ⟨fun v => K v m⟩⟩ ⟨fun cs => @val (.vptr (cs.drop off)) ⟨fun v => K v m⟩⟩ := by
  simp only [vop, val_e, onPtr]
  generalize ev ρ x = u; cases u <;> first | rfl | (rename_i v; cases v <;> rfl)
theorem w_idx {sz : Nat} : vop (.idxAddr sz x y) ρ m K = @onInt (ev ρ y) ⟨fun n => 0 ≤ n ∧ @onLst (ev ρ x) ⟨fun es _ => @withS _ es[n.toNat]? ⟨fun e => e.cells.length = sz ∧ @val (.vptr e.cells) ⟨fun v => K v m⟩⟩⟩ ⟨fun id off len _ => n < len ∧ @val (.ptr id (off + n.toNat * sz)) ⟨fun v => K v m⟩⟩⟩ := by
  simp only [vop, val_e, onLst, withS_ex, onInt]
  generalize ev ρ x = u; cases u <;> first | rfl | (rename_i v; cases v <;> rfl)
theorem w_idxA {n sz : Nat} : vop (.idxArr n sz x y) ρ m K = @onInt (ev ρ y) ⟨fun i => 0 ≤ i ∧ i < n ∧ @onPtr (ev ρ x) ⟨fun id off => @val (.ptr id (off + i.toNat * sz)) ⟨fun v => K v m⟩⟩ ⟨fun cs => @val (.vptr (cs.drop (i.toNat * sz))) ⟨fun v => K v m⟩⟩⟩ := by
  simp only [vop, val_e, onPtr, onInt]
  generalize ev ρ x = u; cases u <;> first | rfl | (rename_i v; cases v <;> rfl)
theorem w_idxS : vop (.idxStr x y) ρ m K = @onInt (ev ρ y) ⟨fun n => 0 ≤ n ∧ @onStr (ev ρ x) ⟨fun s => @withS _ s.data[n.toNat]? ⟨fun c => K (.sc (.int .u8 c.toNat)) m⟩⟩⟩ := by
  simp only [vop, onStr, withS_ex, onInt]
  generalize ev ρ x = u; cases u <;> first | rfl | (rename_i v; cases v <;> rfl)
theorem w_idxG {n : Nat} {k : Option Nat} : vop (.idxAgg n k x y) ρ m K = @onInt (ev ρ y) ⟨fun i => 0 ≤ i ∧ i < n ∧ @onAgg (ev ρ x) ⟨fun cs => @withS _ (elem k (cs.drop (i.toNat * k.getD 1))) ⟨fun v => @val v ⟨fun v => K v m⟩⟩⟩⟩ := by
  simp only [vop, val_e, onAgg, withS_ex, onInt]
  generalize ev ρ x = u; cases u <;> first | rfl | (rename_i v; cases v <;> rfl)
theorem w_slS {lo hi : Option Opd} : vop (.sliceS x lo hi) ρ m K = @onStr (ev ρ x) ⟨fun s => bndOr ρ lo 0 fun l => bndOr ρ hi s.size fun h => 0 ≤ l ∧ l ≤ h ∧ h ≤ s.size ∧ @val (.sc (.string (s.extract l.toNat h.toNat))) ⟨fun v => K v m⟩⟩ := by
  simp only [vop, onStr, val_e]
  generalize ev ρ x = u; cases u <;> first | rfl | (rename_i v; cases v <;> rfl)
theorem w_slL {sz : Nat} {lo hi : Option Opd} : vop (.sliceL sz x lo hi none) ρ m K = @onLst (ev ρ x) ⟨fun es o => bndOr ρ lo 0 fun l => bndOr ρ hi es.length fun h => 0 ≤ l ∧ l ≤ h ∧ h ≤ es.length ∧ (l ≠ 0 → szOk sz es) ∧ @val (.lst ((es.drop l.toNat).take (h.toNat - l.toNat)) (if l = 0 ∧ h = es.length then o else .any)) ⟨fun v => K v m⟩⟩
    ⟨fun id off len cap => bndOr ρ lo 0 fun l => bndOr ρ hi len fun h => 0 ≤ l ∧ l ≤ h ∧ h ≤ cap ∧ @val (.mref id (if (cap : Int) = l then off else off + l.toNat * sz) (h.toNat - l.toNat) (cap - l.toNat)) ⟨fun v => K v m⟩⟩ := by
  simp only [vop, onLst, val_e]
  generalize ev ρ x = u; cases u <;> first | rfl | (rename_i v; cases v <;> rfl)
theorem w_slL3 {sz : Nat} {lo hi : Option Opd} {mx : Opd} : vop (.sliceL sz x lo hi (some mx)) ρ m K = @onLst (ev ρ x) ⟨fun es o => bndOr ρ lo 0 fun l => bndOr ρ hi es.length fun h => @onInt (ev ρ mx) ⟨fun c => 0 ≤ l ∧ l ≤ h ∧ h = c ∧ c ≤ es.length ∧ (l ≠ 0 → szOk sz es) ∧ @val (.lst ((es.drop l.toNat).take (h.toNat - l.toNat)) (capOwn es o)) ⟨fun v => K v m⟩⟩⟩
    ⟨fun id off len cap => bndOr ρ lo 0 fun l => bndOr ρ hi len fun h => @onInt (ev ρ mx) ⟨fun c => 0 ≤ l ∧ l ≤ h ∧ h ≤ c ∧ c ≤ cap ∧ @val (.mref id (if c = l then off else off + l.toNat * sz) (h.toNat - l.toNat) (c.toNat - l.toNat)) ⟨fun v => K v m⟩⟩⟩ := by
  simp only [vop, onLst, val_e, onInt]
  generalize ev ρ x = u; cases u <;> first | rfl | (rename_i v; cases v <;> rfl)
theorem w_slA {n sz : Nat} {lo hi : Option Opd} : vop (.sliceA n sz x lo hi) ρ m K = @onPtr (ev ρ x) ⟨fun id off => bndOr ρ lo 0 fun l => bndOr ρ hi n fun h => 0 ≤ l ∧ l ≤ h ∧ h ≤ n ∧ n ≤ maxLen ∧ @val (.mref id (if (n : Int) = l then off else off + l.toNat * sz) (h.toNat - l.toNat) (n - l.toNat)) ⟨fun v => K v m⟩⟩ ⟨fun _ => False⟩ := by
  simp only [vop, onPtr, val_e]
  generalize ev ρ x = u; cases u <;> first | rfl | (rename_i v; cases v <;> rfl)
theorem w_mkS {sz bytes : Nat} {zero : List AV} : vop (.mkSlice sz bytes zero x y) ρ m K = @onInt (ev ρ x) ⟨fun l => @onInt (ev ρ y) ⟨fun c => 0 ≤ l ∧ l ≤ c ∧ c * bytes ≤ 140737488355328 ∧ c ≤ maxLen ∧ @fresh m ⟨fun id => K (.mref id 0 l.toNat c.toNat) ((id, .cells (List.replicate c.toNat zero).flatten) :: m)⟩⟩⟩ := propext ⟨fun h => h, fun h => h⟩
theorem w_box : vop (.box x) ρ m K = @val (ev ρ x) ⟨fun v => allOne v.cells = true ∧ @fresh m ⟨fun id => @val (.agg v.cells) ⟨fun z => K (.ptr id 0) ((id, .cells z.cells) :: m)⟩⟩⟩ := propext ⟨fun h => h, fun h => h⟩
theorem w_alloc {zero : List AV} : vop (.alloc zero) ρ m K = (allOne zero = true ∧ @fresh m ⟨fun id => K (.ptr id 0) ((id, .cells zero) :: m)⟩) := propext ⟨fun h => h, fun h => h⟩
theorem w_build {zero : List AV} {parts : List (Nat × Nat × Opd)} : vop (.build zero parts) ρ m K = ((∀ p ∈ parts, (ev ρ p.2.2).cells.length = p.2.1 ∧ allOne (ev ρ p.2.2).cells = true ∧ p.1 + p.2.1 ≤ zero.length) ∧ @val (.agg (fill zero (parts.map fun p => (p.1, (ev ρ p.2.2).cells)))) ⟨fun v => K v m⟩) := propext ⟨fun h => h, fun h => h⟩
theorem w_buildS {k : Option Nat} {zero : List AV} {len : Nat} {parts : List (Nat × Opd)} : vop (.buildSlice k zero len parts) ρ m K = ((∀ p ∈ parts, (ev ρ p.2).cells.length = k.getD 1 ∧ allOne (ev ρ p.2).cells = true ∧ p.1 < len) ∧
    @withS _ (chunk k len (fill (List.replicate len zero).flatten (parts.map fun p => (p.1 * k.getD 1, (ev ρ p.2).cells)))) ⟨fun es => @val (.lst es .full) ⟨fun v => K v m⟩⟩) := by
  simp only [vop, withS_ex]; rfl
theorem w_ext {i : Nat} : vop (.extract i x) ρ m K = @onTup (ev ρ x) ⟨fun vs => @withS _ vs[i]? ⟨fun v => @val v ⟨fun v => K v m⟩⟩⟩ := by
  simp only [vop, onTup, withS_ex, val_e]
  generalize ev ρ x = u; cases u <;> first | rfl | (rename_i v; cases v <;> rfl)
theorem w_ifc {t : TypeId} : vop (.iface t x) ρ m K = @val (ev ρ x) ⟨fun v => K (.iface t v) m⟩ := propext ⟨fun h => h, fun h => h⟩
theorem w_mkF {f : FuncId} {xs : List Opd} : vop (.mkFunc f xs) ρ m K = @val (.clos f (xs.map (ev ρ))) ⟨fun v => K v m⟩ := propext ⟨fun h => h, fun h => h⟩
theorem w_lenS : vop (.lenS x) ρ m K = @onStr (ev ρ x) ⟨fun s => K (i64 s.size) m⟩ := by
  simp only [vop, onStr]
  generalize ev ρ x = u; cases u <;> first | rfl | (rename_i v; cases v <;> rfl)
theorem w_lenL : vop (.lenL x) ρ m K = @onLst (ev ρ x) ⟨fun es _ => @val (i64 es.length) ⟨fun v => K v m⟩⟩ ⟨fun _ _ n _ => @val (i64 n) ⟨fun v => K v m⟩⟩ := by
  simp only [vop, onLst, val_e]
  generalize ev ρ x = u; cases u <;> first | rfl | (rename_i v; cases v <;> rfl)
theorem w_cap : vop (.cap x) ρ m K = @onLst (ev ρ x) ⟨fun _ _ => False⟩ ⟨fun _ _ _ c => @val (i64 c) ⟨fun v => K v m⟩⟩ := by
  simp only [vop, onLst, val_e]
  generalize ev ρ x = u; cases u <;> first | rfl | (rename_i v; cases v <;> rfl)
theorem w_lenA {n : Nat} : vop (.lenArr n) ρ m K = K (i64 n) m := propext ⟨fun h => h, fun h => h⟩
theorem w_app {mu : Bool} {k : Option Nat} {b : Nat} {zero : List AV} : vop (.append mu k b zero x y) ρ m K = (allOne zero = true ∧ zero.length = k.getD 1 ∧ @onApp mu k b zero (ev ρ x) (ev ρ y) m ⟨K⟩) := propext ⟨fun h => h, fun h => h⟩
theorem w_mx : vop (.mx x y) ρ m K = @onInts (ev ρ x) (ev ρ y) ⟨fun k a b => K (.sc (.int k (max a b))) m⟩ := propext ⟨fun h => h, fun h => h⟩
theorem w_mn : vop (.mn x y) ρ m K = @onInts (ev ρ x) (ev ρ y) ⟨fun k a b => K (.sc (.int k (min a b))) m⟩ := propext ⟨fun h => h, fun h => h⟩

/-! ### Maps -/
def onMap (x y : AV) [K : Inhabited (Nat → Value → Prop)] : Prop := match x, y with
  | .mapp id, .sc kv => K.default id kv
  | _, _ => False
def asMap : Option AObj → Option (List (Value × AV))
  | some (.amap es) => some es
  | _ => none
theorem onMap_e {id : Nat} {kv : Value} {K : Nat → Value → Prop} : @onMap (.mapp id) (.sc kv) ⟨K⟩ = K id kv := rfl
theorem asMap_e {es : List (Value × AV)} : asMap (some (.amap es)) = some es := rfl
theorem asMap_iff {o : Option AObj} {K : List (Value × AV) → Prop} : (∃ es, o = some (.amap es) ∧ K es) = @withS _ (asMap o) ⟨K⟩ := by
  cases o with
  | none => exact propext ⟨fun ⟨_, h, _⟩ => by simp at h, fun h => h.elim⟩
  | some ob => cases ob <;> simp [asMap, withS]
theorem w_mkMap : vop .mkMap ρ m K = @fresh m ⟨fun id => K (.mapp id) ((id, .amap []) :: m)⟩ := propext ⟨fun h => h, fun h => h⟩
theorem w_lookup {kk : Option IntKind} {ok : Bool} {z : AV} : vop (.lookup kk ok z x y) ρ m K = @onMap (ev ρ x) (ev ρ y) ⟨fun id kv => @withS _ (asMap (get id m)) ⟨fun es => keyOk kk kv = true ∧ keysOk kk es ∧ @val (lookRes ok z (amGet kv es)) ⟨fun v => K v m⟩⟩⟩ := by
  simp only [vop, onMap, val_e, asMap_iff]
  generalize ev ρ x = u; generalize ev ρ y = v
  cases u <;> cases v <;> rfl
theorem w_mapUpd {kk : Option IntKind} {k : Opd} : vop (.mapUpd kk x k y) ρ m K = @onMap (ev ρ x) (ev ρ k) ⟨fun id kv => @withS _ (asMap (get id m)) ⟨fun es => @val (ev ρ y) ⟨fun v => keyOk kk kv = true ∧ keysOk kk es ∧ K uv (put id (.amap (amPut kv v es)) m)⟩⟩⟩ := by
  simp only [vop, onMap, val_e, asMap_iff]
  generalize ev ρ x = u; generalize ev ρ k = v
  cases u <;> cases v <;> rfl
theorem keyOk_s {s : ByteArray} : keyOk none (.string s) = true := rfl
theorem lookRes_t {z : AV} {r : Option AV} : lookRes true z r = .tup [r.getD z, bo r.isSome] := rfl
theorem lookRes_f {z : AV} {r : Option AV} : lookRes false z r = r.getD z := rfl
/-! ### Trees of orders -/
theorem vc_tree {t : NTree} {Kn : Cont} {Kx : Nat → Cont} {Kr : Cont} : vc P E (.tree t) Kn Kx Kr ρ m = @stop ⟨vc P E (.tree t) Kn Kx Kr ρ m⟩ := propext ⟨fun h => h, fun h => h⟩
theorem tree_i {t : NTree} {Kn : Cont} {Kx : Nat → Cont} {Kr : Cont} (K' : Cont) (h : vtree P E t ρ m K') (k : ∀ ρ m, K' ρ m → Kn ρ m) : @stop ⟨vc P E (.tree t) Kn Kx Kr ρ m⟩ := ⟨K', h, k⟩
theorem vt_nil {Kn : Cont} : vtree P E .nil ρ m Kn = Kn ρ m := propext ⟨fun h => h, fun h => h⟩
theorem vt_one {i : NI} {t : NTree} {Kn : Cont} : vtree P E (.one i t) ρ m Kn = vlist P E [i] ρ m fun ρ m => vtree P E t ρ m Kn := propext ⟨fun h => h, fun h => h⟩
theorem vt_both {a b : NTree} {Kn : Cont} : vtree P E (.both a b) ρ m Kn = (@stop ⟨vtree P E a ρ m Kn⟩ ∧ @stop ⟨vtree P E b ρ m Kn⟩) := propext ⟨fun h => h, fun h => h⟩

end
end Go.Proofs.Ytceahampebofbaa.Moi
