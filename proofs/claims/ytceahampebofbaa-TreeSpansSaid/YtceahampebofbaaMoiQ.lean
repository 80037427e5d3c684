/- A function's code in the smaller form, what it asks, and that the machine does it. -/
import Derived.Test.YtceahampebofbaaMoiP
import Derived.LoopN
set_option linter.unusedVariables false
set_option linter.unusedSimpArgs false
namespace Go.Proofs.Ytceahampebofbaa.Moi
open Go Go.RowKit

inductive NCode where
  | skip
  | ops (l : List NI)
  | tree (t : NTree)
  | seq (a b : NCode)
  | cond (c : Opd) (a b : NCode)
  | block (id : Nat) (a : NCode)
  | loop (a : NCode)
  | exit (id : Nat)
  | ret
  | bad

abbrev Cont := Regs → Heap → Prop

/-- What the code asks, so that it goes on as Kn says at its end, as Kx at an exit, as Kr at a return, and as E at a panic. -/
def vc (P : Program) (E : AV → Heap → Prop) : NCode → Cont → (Nat → Cont) → Cont → Cont
  | .skip, Kn, _, _, ρ, m => Kn ρ m
  | .ops l, Kn, _, _, ρ, m => vlist P E l ρ m Kn
  | .tree t, Kn, _, _, ρ, m => ∃ K' : Cont, vtree P E t ρ m K' ∧ ∀ ρ m, K' ρ m → Kn ρ m
  | .seq a b, Kn, Kx, Kr, ρ, m => vc P E a (fun ρ m => vc P E b Kn Kx Kr ρ m) Kx Kr ρ m
  | .cond c a b, Kn, Kx, Kr, ρ, m => ∃ t, ev ρ c = bo t ∧ (t = true → vc P E a Kn Kx Kr ρ m) ∧ (t = false → vc P E b Kn Kx Kr ρ m)
  | .block id a, Kn, Kx, Kr, ρ, m => vc P E a Kn (fun i ρ m => if i = id then Kn ρ m else Kx i ρ m) Kr ρ m
  | .loop a, Kn, Kx, Kr, ρ, m => ∃ I : Nat → Regs → Heap → Prop, (∃ k, I k ρ m) ∧ ∀ k ρ m, I k ρ m → vc P E a (fun ρ m => ∃ k', k' < k ∧ I k' ρ m) Kx Kr ρ m
  | .exit id, _, Kx, _, ρ, m => Kx id ρ m
  | .ret, _, _, Kr, ρ, m => Kr ρ m
  | .bad, _, _, _, _, _ => False

def normCode (P : Program) (mu : Bool) (n : Nat) : Code → NCode
  | .skip => .skip
  | .region _ ops draw => match normTree P mu n ops draw with
    | some t => .tree t
    | none => .ops (normRegion P mu n ops draw)
  | .seq a b => .seq (normCode P mu n a) (normCode P mu n b)
  | .cond c a b => .cond (nopd c) (normCode P mu n a) (normCode P mu n b)
  | .block id a => .block id (normCode P mu n a)
  | .loop a => .loop (normCode P mu n a)
  | .exit id => .exit id
  | .label _ => .skip
  | .ret => .ret
  | _ => .bad

section
variable {P : Program} {mu : Bool} {n : Nat}

theorem lst_none (k j : Nat) : ¬ Lst (Array.replicate k false) j := fun h => by
  unfold Lst at h
  rw [Array.getD_eq_getD_getElem?, Array.getElem?_replicate] at h
  split at h <;> cases h

theorem region_ok (hm : P.follows .mixedOrders = true) {E : AV → Heap → Prop} {id : Nat} {ops : Array Oper} {draw : Bool} {K : Cont} {Q : Exit → Act → World → Prop} {γ : Ghost} {mf : Heap} {ρ : Regs} {m : Heap} {a : Act} {w : World}
    (hr : RegsBut γ n (fun _ => False) ρ a.tmps) (hd : a.defers = []) (hs : Sat γ (m ++ mf) w) (hv : vlist P E (normRegion P mu n ops draw) ρ m K)
    (hQ : ∀ a' w', Ends n γ mf K a' w' → Q .normal a' w') (hE : ∀ ch a' w', a'.defers = [] → Bursts γ mf E ch w' → Q (.panic ch) a' w') : (Code.region id ops draw).wp P Q a w := by
  unfold normRegion at hv
  split at hv
  · rename_i nis hn
    cases draw with
    | false => exact wp_region_list (list_ok ops.toList nis hn γ mf ρ m a w hr hd hs hv hQ hE)
    | true =>
      simp only at hv
      split at hv
      · rename_i hb
        have F := regFacts hn hb
        refine wp_region_any hm ?_
        refine draw_ok F ops.size (Array.replicate ops.size false) [] _ γ mf ρ m a _ (by simp) rfl (fun j hj => ?_) (by simp) (fun j hj => ?_) ?_ ⟨hr.1, fun i _ => hr.2 i (by simp)⟩ hd hs.drew (by simp) ?_ hQ hE
        · exact absurd hj (lst_none _ _)
        · exact absurd hj (lst_none _ _)
        · refine Nat.le_trans (List.length_filter_le _ _) ?_
          simp only [regionB, Bool.and_eq_true] at hb
          exact Nat.le_of_eq (Nat.eq_of_beq_eq_true hb.1.1.1.1.2)
        · exact hv
      · exact (vlist_bad hv).elim
  · exact (vlist_bad hv).elim

theorem region_okT (hm : P.follows .mixedOrders = true) {E : AV → Heap → Prop} {id : Nat} {ops : Array Oper} {draw : Bool} {t : NTree} {K : Cont} {Q : Exit → Act → World → Prop} {γ : Ghost} {mf : Heap} {ρ : Regs} {m : Heap} {a : Act} {w : World}
    (ht : normTree P mu n ops draw = some t) (hr : RegsBut γ n (fun _ => False) ρ a.tmps) (hd : a.defers = []) (hs : Sat γ (m ++ mf) w) (hv : vtree P E t ρ m K)
    (hQ : ∀ a' w', Ends n γ mf K a' w' → Q .normal a' w') (hE : ∀ ch a' w', a'.defers = [] → Bursts γ mf E ch w' → Q (.panic ch) a' w') : (Code.region id ops draw).wp P Q a w := by
  unfold normTree at ht
  split at ht
  · cases ht
  · split at ht
    · cases ht
    · rename_i nis hn
      split at ht
      · cases ht
      · simp only at ht
        split at ht
        · rename_i hb
          cases ht
          simp only [Bool.and_eq_true] at hb
          have hw := wfB_ok hb.1
          refine wp_region_any hm ?_
          refine draw_okT (treeFacts hn hb.2) hw ops.size (Array.replicate ops.size false) [] _ γ mf ρ m a _ (by simp) hw .nil (by simp) .nil (fun j hj => ?_) (by simp) (fun j hj => ?_) ?_ ⟨hr.1, fun i _ => hr.2 i (by simp)⟩ hd hs.drew (by simp) hv hQ hE
          · exact absurd hj (lst_none _ _)
          · exact absurd hj (lst_none _ _)
          · refine Nat.le_trans (List.length_filter_le _ _) ?_
            simp
        · cases ht

theorem Ends.trans {γ γ' : Ghost} {mf : Heap} {K : Cont} {a : Act} {w : World} (hl : γ.le γ') (h : Ends n γ' mf K a w) : Ends n γ mf K a w := by
  obtain ⟨γ2, ρ, m, h1, h2⟩ := h
  exact ⟨γ2, ρ, m, hl.trans h1, h2⟩
theorem Bursts.trans {γ γ' : Ghost} {mf : Heap} {E : AV → Heap → Prop} {ch : List PanicEntry} {w : World} (hl : γ.le γ') (h : Bursts γ' mf E ch w) : Bursts γ mf E ch w := by
  obtain ⟨pv, e, γ2, x, m, h1, h2⟩ := h
  exact ⟨pv, e, γ2, x, m, hl.trans h1, h2⟩

/-- How the machine's ends match those of the thought. -/
structure Outs (n : Nat) (γ : Ghost) (mf : Heap) (E : AV → Heap → Prop) (Kn : Cont) (Kx : Nat → Cont) (Kr : Cont) (Q : Exit → Act → World → Prop) : Prop where
  on : ∀ a w, Ends n γ mf Kn a w → Q .normal a w
  ox : ∀ i a w, Ends n γ mf (Kx i) a w → Q (.exit i) a w
  or : ∀ a w, Ends n γ mf Kr a w → Q .ret a w
  oe : ∀ ch a w, a.defers = [] → Bursts γ mf E ch w → Q (.panic ch) a w

theorem Outs.mono {γ γ' : Ghost} {mf : Heap} {E : AV → Heap → Prop} {Kn : Cont} {Kx : Nat → Cont} {Kr : Cont} {Q : Exit → Act → World → Prop} (hl : γ.le γ') (h : Outs n γ mf E Kn Kx Kr Q) : Outs n γ' mf E Kn Kx Kr Q :=
  ⟨fun a w k => h.on a w (k.trans hl), fun i a w k => h.ox i a w (k.trans hl), fun a w k => h.or a w (k.trans hl), fun ch a w hd k => h.oe ch a w hd (k.trans hl)⟩

theorem vc_ok (hm : P.follows .mixedOrders = true) {E : AV → Heap → Prop} {mf : Heap} : ∀ (c : Code) (Kn : Cont) (Kx : Nat → Cont) (Kr : Cont) (Q : Exit → Act → World → Prop) (γ : Ghost) (ρ : Regs) (m : Heap) (a : Act) (w : World),
    RegsBut γ n (fun _ => False) ρ a.tmps → a.defers = [] → Sat γ (m ++ mf) w → vc P E (normCode P mu n c) Kn Kx Kr ρ m → Outs n γ mf E Kn Kx Kr Q → c.wp P Q a w := by
  intro c
  induction c with
  | skip => exact fun Kn Kx Kr Q γ ρ m a w hr hd hs hv ho => wp_skip (ho.on _ _ ⟨γ, ρ, m, .refl γ, hr, hd, hs, hv⟩)
  | region id ops draw =>
    intro Kn Kx Kr Q γ ρ m a w hr hd hs hv ho
    simp only [normCode] at hv
    split at hv
    · rename_i t ht
      obtain ⟨K', h1, h2⟩ := hv
      refine region_okT hm ht hr hd hs h1 (fun a' w' h => ?_) ho.oe
      obtain ⟨γ', ρ', m', e1, e2, e3, e4, e5⟩ := h
      exact ho.on _ _ ⟨γ', ρ', m', e1, e2, e3, e4, h2 _ _ e5⟩
    · exact region_ok hm hr hd hs hv ho.on ho.oe
  | seq x y ihx ihy =>
    intro Kn Kx Kr Q γ ρ m a w hr hd hs hv ho
    refine wp_seq (ihx _ Kx Kr _ γ ρ m a w hr hd hs hv ⟨fun a' w' h => ?_, ho.ox, ho.or, ho.oe⟩)
    obtain ⟨γ', ρ', m', e1, e2, e3, e4, e5⟩ := h
    exact ihy Kn Kx Kr Q γ' ρ' m' a' w' e2 e3 e4 e5 (ho.mono e1)
  | cond cc x y ihx ihy =>
    intro Kn Kx Kr Q γ ρ m a w hr hd hs hv ho
    obtain ⟨t, ht, h1, h2⟩ := hv
    have hc : a.eval cc = .bool t := by
      have := ev_ok (γ := γ) (ρ := ρ) (a := a) (fun i => hr.2 i (by simp)) cc
      rw [ht] at this
      exact this.sc_inv
    exact wp_cond_split hc (fun e => ihx Kn Kx Kr Q γ ρ m a w hr hd hs (h1 e) ho) (fun e => ihy Kn Kx Kr Q γ ρ m a w hr hd hs (h2 e) ho)
  | block id x ih =>
    intro Kn Kx Kr Q γ ρ m a w hr hd hs hv ho
    refine wp_block (ih Kn _ Kr _ γ ρ m a w hr hd hs hv ⟨ho.on, fun i a' w' h => ?_, ho.or, ho.oe⟩)
    obtain ⟨γ', ρ', m', e1, e2, e3, e4, e5⟩ := h
    show if i = id then Q .normal a' w' else Q (.exit i) a' w'
    by_cases hi : i = id
    · rw [if_pos hi]; rw [if_pos hi] at e5; exact ho.on _ _ ⟨γ', ρ', m', e1, e2, e3, e4, e5⟩
    · rw [if_neg hi]; rw [if_neg hi] at e5; exact ho.ox _ _ _ ⟨γ', ρ', m', e1, e2, e3, e4, e5⟩
  | loop x ih =>
    intro Kn Kx Kr Q γ ρ m a w hr hd hs hv ho
    obtain ⟨I, ⟨k, hk⟩, step⟩ := hv
    have key : ∀ N k γ' ρ m a w, k < N → γ.le γ' → RegsBut γ' n (fun _ => False) ρ a.tmps → a.defers = [] → Sat γ' (m ++ mf) w → I k ρ m → Code.rounds P x Q N a w := by
      intro N
      induction N with
      | zero => intro k γ' ρ m a w h; omega
      | succ N ihN =>
        intro k γ' ρ m a w hkN hl hr hd hs hI
        rw [rounds_succ]
        refine ih _ Kx Kr _ γ' ρ m a w hr hd hs (step k ρ m hI) ⟨fun a' w' h => ?_, fun i a' w' h => (ho.mono hl).ox i a' w' h, fun a' w' h => (ho.mono hl).or a' w' h, fun ch a' w' hd h => (ho.mono hl).oe ch a' w' hd h⟩
        obtain ⟨γ2, ρ', m', e1, e2, e3, e4, k', hk', e5⟩ := h
        exact ihN k' γ2 ρ' m' a' w' (by omega) (hl.trans e1) e2 e3 e4 e5
    exact wp_loop_rounds (k + 1) (key (k + 1) k γ ρ m a w (by omega) (.refl γ) hr hd hs hk)
  | exit id => exact fun Kn Kx Kr Q γ ρ m a w hr hd hs hv ho => wp_exit (ho.ox id _ _ ⟨γ, ρ, m, .refl γ, hr, hd, hs, hv⟩)
  | label l => exact fun Kn Kx Kr Q γ ρ m a w hr hd hs hv ho => wp_label (ho.on _ _ ⟨γ, ρ, m, .refl γ, hr, hd, hs, hv⟩)
  | ret => exact fun Kn Kx Kr Q γ ρ m a w hr hd hs hv ho => wp_ret (ho.or _ _ ⟨γ, ρ, m, .refl γ, hr, hd, hs, hv⟩)
  | _ => intro Kn Kx Kr Q γ ρ m a w hr hd hs hv ho; exact hv.elim

/-! ### A function -/
def resOf (fn : Func) : Option (List Nat) := fn.results.toList.mapM fun | .tmp t => some t | .cell _ _ => none
def resAV (rs : List Nat) (ρ : Regs) : AV := match rs with
  | [t] => ρ t
  | _ => .tup (rs.map ρ)
def argRegs (xs : List AV) : Regs := fun i => xs.getD i uv

theorem argRegs_ok {γ : Ghost} {xs : List AV} {vs : Array Value} (h : RowRep γ xs vs) (hl : xs.length ≤ n) : RegsBut γ n (fun _ => False) (argRegs xs) (vs ++ Array.replicate (n - vs.size) undef) := by
  obtain ⟨h1, h2⟩ := h
  refine ⟨by simp [h1]; omega, fun i _ => ?_⟩
  unfold argRegs
  rw [List.getD_eq_getElem?_getD, Array.getD_eq_getD_getElem?, Array.getElem?_append]
  by_cases hi : i < vs.size
  · rw [if_pos hi]
    have hx : i < xs.length := by omega
    have := h2 i xs[i] (by simp [hx])
    rw [Array.getD_eq_getD_getElem?] at this
    simpa [hx] using this
  · rw [if_neg hi]
    have hx : xs[i]? = none := by simp; omega
    rw [hx]
    have : (Array.replicate (n - vs.size) undef)[i - vs.size]?.getD undef = undef := by
      rw [Array.getElem?_replicate]; split <;> rfl
    rw [this]
    exact .undef_uv

theorem resOf_run {fn : Func} {rs : List Nat} (h : resOf fn = some rs) (tmps : Array Value) (w : World) : (results fn tmps).run P w = .ok (if rs.length = 1 then tmps.getD (rs.getD 0 0) undef else .tuple (rs.map fun t => tmps.getD t undef).toArray) w := by
  unfold resOf at h
  have key : (fn.results.mapM (fun | .tmp t => pure (tmps.getD t undef) | .cell a t => do loadVar t (← asAddr (tmps.getD a undef)) : ResultVar → Sem Value)).run P w = .ok (rs.map fun t => tmps.getD t undef).toArray w := by
    have h2 : fn.results.toList.mapM (fun | .tmp t => some (tmps.getD t undef) | .cell _ _ => none : ResultVar → Option Value) = some (rs.map fun t => tmps.getD t undef) := by
      generalize fn.results.toList = l at h
      induction l generalizing rs with
      | nil => simp at h; subst h; rfl
      | cons x l ih =>
        simp only [List.mapM_cons, Option.bind_eq_bind, Option.bind_eq_some_iff, Option.pure_def, Option.some.injEq] at h ⊢
        obtain ⟨t, ht, r', hr, rfl⟩ := h
        cases x with
        | tmp u => simp at ht; subst ht; exact ⟨_, rfl, _, ih hr, rfl⟩
        | cell a t => simp at ht
    have h1 := run_mapM_list (P := P) (fun | .tmp t => pure (tmps.getD t undef) | .cell a t => do loadVar t (← asAddr (tmps.getD a undef)) : ResultVar → Sem Value) _ w (fun x y hxy => by
      cases x with
      | tmp t => simp at hxy; subst hxy; simp
      | cell a t => simp at hxy) _ _ h2
    have e0 : fn.results = fn.results.toList.toArray := by simp
    rw [e0, List.mapM_toArray, Sem.run_map, h1]
    rfl
  unfold results
  rw [Sem.run_bind]
  refine Eq.trans (congrArg (fun r => Result.andThen r _) key) ?_
  match rs with
  | [] => simp
  | [t] => simp
  | t :: u :: l => simp

theorem resAV_ok {γ : Ghost} {rs : List Nat} {ρ : Regs} {tmps : Array Value} (h : RegsBut γ n (fun _ => False) ρ tmps) : Rep γ (resAV rs ρ) (if rs.length = 1 then tmps.getD (rs.getD 0 0) undef else .tuple (rs.map fun t => tmps.getD t undef).toArray) := by
  have hr : ∀ i, Rep γ (ρ i) (tmps.getD i undef) := fun i => h.2 i (by simp)
  have tup : ∀ rs : List Nat, Rep γ (.tup (rs.map ρ)) (.tuple (rs.map fun t => tmps.getD t undef).toArray) := fun rs => by
    refine .tup _ _ (by simp) fun j x hx => ?_
    simp only [List.getElem?_map, Option.map_eq_some_iff] at hx
    obtain ⟨t, ht, rfl⟩ := hx
    rw [Array.getD_eq_getD_getElem?]
    simp only [List.getElem?_toArray, List.getElem?_map, ht, Option.map_some, Option.getD_some]
    exact hr t
  match rs with
  | [] => exact tup []
  | [t] => exact hr t
  | t :: u :: l =>
    rw [if_neg (by simp)]
    exact tup _

/-- A call of one of the program's own functions. -/
theorem acall_of (hm : P.follows .mixedOrders = true) {f : FuncId} {fn : Func} {c : Code} {nc : NCode} {rs : List Nat} {xs : List AV} {m : Heap} {Q E : AV → Heap → Prop}
    (hf : P.funcs[f]? = some fn) (hcall : ∀ vs w, (callFunc f vs).run P w = .ok (.enter f vs) w) (hb : fn.body = some c) (hn : normCode P mu fn.ntmps c = nc) (hr : resOf fn = some rs) (hl : xs.length ≤ fn.ntmps)
    (h : vc P E nc (fun ρ m => Q (resAV rs ρ) m) (fun _ _ _ => False) (fun ρ m => Q (resAV rs ρ) m) (argRegs xs) m) : ACall P f xs m Q E := by
  intro γ mf vs w hx hs
  unfold CallRes
  rw [hcall]
  refine calls_of_wp hf hb ?_
  subst hn
  refine vc_ok hm c _ _ _ _ γ _ m _ w (argRegs_ok hx hl) rfl hs h ⟨fun a' w' h => ?_, fun i a' w' h => ?_, fun a' w' h => ?_, fun ch a' w' hd h => ?_⟩
  · obtain ⟨γ', ρ', m', e1, e2, e3, e4, e5⟩ := h
    exact ⟨e3, _, resOf_run hr _ _, γ', _, m', e1, resAV_ok e2, e4, e5⟩
  · obtain ⟨γ', ρ', m', e1, e2, e3, e4, e5⟩ := h
    exact e5.elim
  · obtain ⟨γ', ρ', m', e1, e2, e3, e4, e5⟩ := h
    exact ⟨e3, _, resOf_run hr _ _, γ', _, m', e1, resAV_ok e2, e4, e5⟩
  · exact ⟨hd, h⟩

theorem acall_fn (hm : P.follows .mixedOrders = true) {f : FuncId} {fn : Func} {nc : NCode} {rs : List Nat} {xs : List AV} {m : Heap} {Q E : AV → Heap → Prop}
    (hf : P.funcs[f]? = some fn) (hcall : ∀ vs w, (callFunc f vs).run P w = .ok (.enter f vs) w) (hn : fn.body.map (normCode P mu fn.ntmps) = some nc) (hr : resOf fn = some rs) (hl : xs.length ≤ fn.ntmps)
    (h : vc P E nc (fun ρ m => Q (resAV rs ρ) m) (fun _ _ _ => False) (fun ρ m => Q (resAV rs ρ) m) (argRegs xs) m) : ACall P f xs m Q E := by
  obtain ⟨c, hc, hn⟩ := Option.map_eq_some_iff.1 hn
  exact acall_of hm hf hcall hc hn hr hl h

/-! ### The use of a call -/
theorem ACall.mono {f : FuncId} {xs : List AV} {m : Heap} {Q Q' E E' : AV → Heap → Prop} (h : ACall P f xs m Q E) (hQ : ∀ x m', Q x m' → Q' x m') (hE : ∀ x m', E x m' → E' x m') : ACall P f xs m Q' E' :=
  fun γ mf vs w hx hs => (h γ mf vs w hx hs).mono fun e w' k => by
    cases e with
    | returned v => obtain ⟨γ', x, m', e1, e2, e3, e4⟩ := k; exact ⟨γ', x, m', e1, e2, e3, hQ _ _ e4⟩
    | panicked ch => obtain ⟨pv, e0, γ', x, m', e1, e2, e3, e4⟩ := k; exact ⟨pv, e0, γ', x, m', e1, e2, e3, hE _ _ e4⟩
    | outgrown => exact k.elim

theorem ACall.frame {f : FuncId} {xs : List AV} {m : Heap} {Q E : AV → Heap → Prop} (h : ACall P f xs m Q E) (r : Heap) {Q' E' : AV → Heap → Prop} (hQ : ∀ x m', Q x m' → Q' x (m' ++ r)) (hE : ∀ x m', E x m' → E' x (m' ++ r)) : ACall P f xs (m ++ r) Q' E' :=
  fun γ mf vs w hx hs => (h γ (r ++ mf) vs w hx (by rw [List.append_assoc] at hs; exact hs)).mono fun e w' k => by
    cases e with
    | returned v => obtain ⟨γ', x, m', e1, e2, e3, e4⟩ := k; exact ⟨γ', x, m' ++ r, e1, e2, by rw [List.append_assoc]; exact e3, hQ _ _ e4⟩
    | panicked ch => obtain ⟨pv, e0, γ', x, m', e1, e2, e3, e4⟩ := k; exact ⟨pv, e0, γ', x, m' ++ r, e1, e2, by rw [List.append_assoc]; exact e3, hE _ _ e4⟩
    | outgrown => exact k.elim

theorem ACall.perm {f : FuncId} {xs : List AV} {m m1 : Heap} {Q E : AV → Heap → Prop} (h : ACall P f xs m Q E) (p : m1.Perm m) : ACall P f xs m1 Q E :=
  fun γ mf vs w hx hs => h γ mf vs w hx (hs.perm (p.append_right mf))

/-- A call that looks at no heap. -/
theorem ACall.pure {f : FuncId} {xs : List AV} {Q E : AV → Heap → Prop} (h : ACall P f xs [] Q E) {m : Heap} {Q' E' : AV → Heap → Prop} (hQ : ∀ x m', Q x m' → Q' x (m' ++ m)) (hE : ∀ x m', E x m' → E' x (m' ++ m)) : ACall P f xs m Q' E' :=
  h.frame m hQ hE

end
end Go.Proofs.Ytceahampebofbaa.Moi
