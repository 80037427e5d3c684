/- Instructions, one behind the other; what is asked where their order is open. -/
import Derived.Test.YtceahampebofbaaMoiK
import Derived.Orders
set_option linter.unusedVariables false
set_option linter.unusedSimpArgs false
namespace Go.Proofs.Ytceahampebofbaa.Moi
open Go Go.RowKit

inductive IOp where
  | op (o : NOp)
  | call (f : Opd) (args : List Opd)
  | panic (x : Opd)

/-- Something that was read and must stay. -/
structure Rd where
  d : Nat
  g : Option (Nat × Bool)
  o : NOp

structure NI where
  d : Option Nat
  g : Option (Nat × Bool)
  o : IOp
  chk : List Rd

def putR (ρ : Regs) (d : Option Nat) (x : AV) : Regs :=
  match d with
  | some d => upd ρ d x
  | none => ρ

def guarded (g : Option (Nat × Bool)) (ρ : Regs) (yes no : Prop) : Prop :=
  match g with
  | none => yes
  | some (s, want) =>
    match ρ s with
    | .sc (.bool b) => (b = want → yes) ∧ (b ≠ want → no)
    | .sc _ => no
    | _ => False

def rereads (r : Rd) (ρ : Regs) (m : Heap) : Prop := guarded r.g ρ (vop r.o ρ m fun x _ => x = ρ r.d) True

/-! ### Calls -/
def CallRes (P : Program) (f : FuncId) (vs : Array Value) (w : World) (R : Ending → World → Prop) : Prop :=
  match (callFunc f vs).run P w with
  | .ok (.value v) w' => R (.returned v) w'
  | .ok (.enter g as) w' => Calls P g as w' R
  | _ => False

def After (γ : Ghost) (mf : Heap) (Q E : AV → Heap → Prop) : Ending → World → Prop
  | .returned v, w' => Fin γ mf Q v w'
  | .panicked ch, w' => ∃ pv, ch = [{ v := pv, recovered := false }] ∧ Fin γ mf E pv w'
  | .outgrown, _ => False

/-- A call of a function, on plain values. -/
def ACall (P : Program) (f : FuncId) (xs : List AV) (m : Heap) (Q E : AV → Heap → Prop) : Prop :=
  ∀ (γ : Ghost) (mf : Heap) (vs : Array Value) (w : World), RowRep γ xs vs → Sat γ (m ++ mf) w → CallRes P f vs w (After γ mf Q E)

def vins (P : Program) (E : AV → Heap → Prop) (i : NI) (ρ : Regs) (m : Heap) (K : Regs → Heap → Prop) : Prop :=
  guarded i.g ρ
    (match i.o with
    | .op no => vop no ρ m fun x m' => (∀ r ∈ i.chk, rereads r (putR ρ i.d x) m') ∧ K (putR ρ i.d x) m'
    | .call f args => ∃ fid caps, ev ρ f = .clos fid caps ∧ ACall P fid (args.map (ev ρ) ++ caps) m (fun x m' => (∀ r ∈ i.chk, rereads r (putR ρ i.d x) m') ∧ K (putR ρ i.d x) m') E
    | .panic x => ∃ t y, ev ρ x = .iface t y ∧ E (.iface t y) m)
    (K (putR ρ i.d uv) m)

def vlist (P : Program) (E : AV → Heap → Prop) : List NI → Regs → Heap → (Regs → Heap → Prop) → Prop
  | [], ρ, m, K => K ρ m
  | i :: l, ρ, m, K => vins P E i ρ m fun ρ' m' => vlist P E l ρ' m' K

/-! ### From the machine's operation to an instruction -/
def normI (P : Program) (mu : Bool) (o : Oper) : IOp :=
  match o.op with
  | .call c => match c.callee with
    | .value f => .call (nopd f) (c.args.toList.map nopd)
    | _ => .op (normOp P mu o)
  | .panic x => .panic (nopd x)
  | _ => .op (normOp P mu o)

def normG (ops : Array Oper) (o : Oper) : Option (Option (Nat × Bool)) :=
  match o.guard with
  | none => some none
  | some (j, want) => match (ops[j]?).bind (·.dst) with
    | some d => some (some (d, want))
    | none => none

def normD (n : Nat) (o : Oper) : Bool := match o.dst with
  | some d => decide (d < n)
  | none => true

section
variable {P : Program}

theorem CallRes.mono {f : FuncId} {vs : Array Value} {w : World} {R R' : Ending → World → Prop} (h : CallRes P f vs w R) (hr : ∀ e w', R e w' → R' e w') : CallRes P f vs w R' := by
  unfold CallRes at *
  split at h
  · exact hr _ _ h
  · exact h.mono hr
  · exact h.elim

/-- What one step asks of the machine. -/
def StepTo (P : Program) (ops : Array Oper) (o : Oper) (a : Act) (w : World) (Kc : Act → World → Prop) (Q : Exit → Act → World → Prop) : Prop :=
  if Region.wanted o (yielded ops a.tmps) then o.wp P a w Kc Q else Kc (a.put o.dst undef) w

/-- Registers that stand for the machine's, but for some. -/
def RegsBut (γ : Ghost) (n : Nat) (S : Nat → Prop) (ρ : Regs) (tmps : Array Value) : Prop := tmps.size = n ∧ ∀ i, ¬ S i → Rep γ (ρ i) (tmps.getD i undef)

theorem RegsBut.put {γ : Ghost} {n : Nat} {S : Nat → Prop} {ρ : Regs} {a : Act} {d : Option Nat} {x : AV} {v : Value} (h : RegsBut γ n S ρ a.tmps) (hd : ∀ j, d = some j → j < n) (hx : Rep γ x v) : RegsBut γ n S (putR ρ d x) (a.put d v).tmps := by
  cases d with
  | none => exact h
  | some d =>
    refine ⟨by simp [Act.put, h.1], fun i hi => ?_⟩
    have hdn := hd d rfl
    simp only [putR, upd, Act.put, Array.getD_eq_getD_getElem?]
    by_cases e : i = d
    · subst e
      rw [if_pos rfl, Array.getElem?_setIfInBounds_self_of_lt (by rw [h.1]; exact hdn)]
      exact hx
    · rw [if_neg e, Array.getElem?_setIfInBounds_ne (fun h => e h.symm)]
      have := h.2 i hi
      rwa [Array.getD_eq_getD_getElem?] at this

theorem Rep.undef_uv {γ : Ghost} : Rep γ uv undef := .sc _

/-- Is an operation wanted? -/
theorem wanted_of {γ : Ghost} {n : Nat} {S : Nat → Prop} {ρ : Regs} {ops : Array Oper} {o : Oper} {a : Act} {g : Option (Nat × Bool)} (hg : normG ops o = some g) (hr : RegsBut γ n S ρ a.tmps) (hgs : ∀ s w, g = some (s, w) → ¬ S s ∧ s < n) {yes no : Prop} (h : guarded g ρ yes no) :
    (Region.wanted o (yielded ops a.tmps) = true ∧ yes) ∨ (Region.wanted o (yielded ops a.tmps) = false ∧ no) := by
  cases hgd : o.guard with
  | none =>
    simp only [normG, hgd, Option.some.injEq] at hg
    subst hg
    exact .inl ⟨by simp [Region.wanted, hgd], h⟩
  | some p =>
    obtain ⟨j, want⟩ := p
    simp only [normG, hgd] at hg
    split at hg
    · rename_i d hd
      obtain rfl := Option.some.inj hg
      obtain ⟨hs, hlt⟩ := hgs d want rfl
      have hrep := hr.2 d hs
      have hlt' : d < a.tmps.size := by rw [hr.1]; exact hlt
      have hget : a.tmps[d]? = some (a.tmps.getD d undef) := by
        rw [Array.getD_eq_getD_getElem?, Array.getElem?_eq_getElem hlt']; rfl
      have hy : yielded ops a.tmps j = match a.tmps.getD d undef with | .bool b => some b | _ => none := by
        unfold yielded
        rw [hd, Option.bind_some, hget]
        split
        · rename_i b hb
          rw [Option.some.inj hb]
        · rename_i hnb
          split
          · rename_i b hb; exact absurd (congrArg some hb) (hnb b)
          · rfl
      have hw : Region.wanted o (yielded ops a.tmps) = (yielded ops a.tmps j == some want) := by simp [Region.wanted, hgd]
      rw [hw]
      unfold guarded at h
      simp only at h
      split at h
      · rename_i b hb
        rw [hb] at hrep
        rw [hrep.sc_inv] at hy
        by_cases hbw : b = want
        · exact .inl ⟨by simp [hy, hbw], h.1 hbw⟩
        · exact .inr ⟨by simp [hy, hbw], h.2 hbw⟩
      · rename_i v hnb hb
        rw [hb] at hrep
        rw [hrep.sc_inv] at hy
        refine .inr ⟨?_, h⟩
        have : yielded ops a.tmps j = none := by
          rw [hy]; split
          · rename_i b; exact absurd rfl (hnb b)
          · rfl
        simp [this]
      · exact h.elim
    · cases hg

theorem normI_cases (P : Program) (mu : Bool) (o : Oper) : (∃ f args ts, o.op = .call { callee := .value f, args := args, argTypes := ts } ∧ normI P mu o = .call (nopd f) (args.toList.map nopd)) ∨
    (∃ x, o.op = .panic x ∧ normI P mu o = .panic (nopd x)) ∨ normI P mu o = .op (normOp P mu o) := by
  unfold normI
  cases h : o.op with
  | call c =>
    obtain ⟨cal, args, ts⟩ := c
    cases cal with
    | value f => exact .inl ⟨f, args, ts, rfl, rfl⟩
    | _ => exact .inr (.inr rfl)
  | panic x => exact .inr (.inl ⟨x, rfl, rfl⟩)
  | _ => exact .inr (.inr rfl)

/-- A step with registers that all stand for the machine's. -/
theorem step_ins {E : AV → Heap → Prop} {ops : Array Oper} {o : Oper} {n : Nat} {mu : Bool} {g : Option (Nat × Bool)} (hg : normG ops o = some g) (hd : normD n o = true) (hgn : ∀ s w, g = some (s, w) → s < n)
    {γ : Ghost} {mf : Heap} {ρ : Regs} {m : Heap} {a : Act} {w : World} {K : AV → Heap → Prop} {Kskip : Prop} {Kc : Act → World → Prop} {Q : Exit → Act → World → Prop}
    (hr : RegsBut γ n (fun _ => False) ρ a.tmps) (hs : Sat γ (m ++ mf) w)
    (hv : guarded g ρ
      (match normI P mu o with
      | .op no => vop no ρ m K
      | .call f args => ∃ fid caps, ev ρ f = .clos fid caps ∧ ACall P fid (args.map (ev ρ) ++ caps) m K E
      | .panic x => ∃ t y, ev ρ x = .iface t y ∧ E (.iface t y) m) Kskip)
    (hK : ∀ γ' x m' v w', γ.le γ' → Rep γ' x v → Sat γ' (m' ++ mf) w' → K x m' → Kc (a.put o.dst v) w') (hS : Kskip → Kc (a.put o.dst undef) w)
    (hE : ∀ γ' x m' v w', γ.le γ' → Rep γ' x v → Sat γ' (m' ++ mf) w' → E x m' → Q (.panic [{ v := v, recovered := false }]) a w') : StepTo P ops o a w Kc Q := by
  unfold StepTo
  have hro : RegOk γ ρ a.tmps := fun i => hr.2 i (by simp)
  rcases wanted_of hg hr (fun s w h => ⟨by simp, hgn s w h⟩) hv with ⟨h1, h2⟩ | ⟨h1, h2⟩
  · rw [if_pos h1]
    have hop : ∀ no, OpOk P no o → vop no ρ m K → o.wp P a w Kc Q := fun no hok hvo => by
      obtain ⟨v, w', hran, γ', x, m', e1, e2, e3, e4⟩ := hok γ mf ρ m a w K hro hs hvo
      unfold Oper.wp
      rcases hran with h | ⟨h, rfl⟩
      · rw [h]; exact hK γ' x m' v w' e1 e2 e3 e4
      · rw [h]; exact hK γ' x m' undef w' e1 e2 e3 e4
    rcases normI_cases P mu o with ⟨f, args, ts, hc, hn⟩ | ⟨x, hx, hn⟩ | hn
    · rw [hn] at h2
      obtain ⟨fid, caps, hf, hA⟩ := h2
      have hfr := ev_ok hro f
      rw [hf] at hfr
      generalize hvf : a.eval f = vf at hfr
      cases hfr with
      | clos _ _ us u1 u2 =>
        obtain ⟨q1, q2⟩ := map_rep hro args
        have hrow : RowRep γ ((args.toList.map nopd).map (ev ρ) ++ caps) (args.map a.eval ++ us) := RowRep.append ⟨q1, q2⟩ ⟨u1, u2⟩
        have hres := hA γ mf _ w hrow hs
        unfold CallRes at hres
        have hrun : (execOp a.eval o).run P w = (callFunc fid (args.map a.eval ++ us)).run P w := by
          simp [execOp, hc, resolve, hvf, Deferred.ofValue, invoke]
        unfold Oper.wp
        rw [hrun]
        split at hres
        · rename_i v w' he
          rw [he]
          obtain ⟨γ', x, m', e1, e2, e3, e4⟩ := hres
          exact hK γ' x m' v w' e1 e2 e3 e4
        · rename_i g' as w' he
          rw [he]
          refine hres.mono fun e w'' h => ?_
          cases e with
          | returned v =>
            obtain ⟨γ', x, m', e1, e2, e3, e4⟩ := h
            exact hK γ' x m' v w'' e1 e2 e3 e4
          | panicked ch =>
            obtain ⟨pv, rfl, γ', x, m', e1, e2, e3, e4⟩ := h
            exact hE γ' x m' pv w'' e1 e2 e3 e4
          | outgrown => exact h.elim
        · exact hres.elim
    · rw [hn] at h2
      obtain ⟨t, y, hy, hEE⟩ := h2
      have hxr := ev_ok hro x
      rw [hy] at hxr
      generalize hvx : a.eval x = vx at hxr
      cases hxr with
      | iface _ _ v hr' =>
        have hrun : (execOp a.eval o).run P w = .halt (.panic (.iface t v)) w := by
          simp [execOp, hx, hvx, Instr.panic]
        unfold Oper.wp
        rw [hrun]
        exact hE γ _ m _ w (.refl γ) (.iface t _ v hr') hs hEE
    · rw [hn] at h2
      exact hop _ (normOp_ok mu o) h2
  · rw [if_neg (by simp [h1])]
    exact hS h2

end
end Go.Proofs.Ytceahampebofbaa.Moi
