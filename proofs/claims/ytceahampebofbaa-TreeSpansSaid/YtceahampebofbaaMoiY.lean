/- Results that lie in cells of their own; a function of Go's library that the machine reckons itself. -/
import Derived.Test.YtceahampebofbaaMoiX
set_option linter.unusedVariables false
namespace Go.Proofs.Ytceahampebofbaa.Moi
open Go Go.RowKit
section
variable {P : Program} {n : Nat} {mu : Bool}

def resOfC (P : Program) (fn : Func) : Option (List (Nat × Option (Option Nat))) := fn.results.toList.mapM fun | .tmp t => some (t, none) | .cell t ty => (ekOf P ty).map fun k => (t, some k)
def oneAV : List AV → AV | [x] => x | l => .tup l
def resK : List (Nat × Option (Option Nat)) → Regs → Heap → (List AV → Prop) → Prop
  | [], _, _, K => K []
  | (t, none) :: l, ρ, m, K => resK l ρ m fun xs => K (ρ t :: xs)
  | (t, some k) :: l, ρ, m, K => ∃ cs, acells (ρ t) m = some cs ∧ ∃ x, elem k cs = some x ∧ resK l ρ m fun xs => K (x :: xs)

inductive Reps (γ : Ghost) : List AV → List Value → Prop
  | nil : Reps γ [] []
  | cons {x : AV} {v : Value} {xs : List AV} {vs : List Value} : Rep γ x v → Reps γ xs vs → Reps γ (x :: xs) (v :: vs)
def resStep (tmps : Array Value) : ResultVar → Sem Value
  | .tmp t => pure (tmps.getD t undef)
  | .cell a t => do loadVar t (← asAddr (tmps.getD a undef))
theorem resStep_run {tmps : Array Value} {x : ResultVar} {l : List ResultVar} {v : Value} {vs : List Value} {w : World} (h1 : (resStep tmps x).run P w = .ok v w) (h2 : (l.mapM (resStep tmps)).run P w = .ok vs w) :
    ((x :: l).mapM (resStep tmps)).run P w = .ok (v :: vs) w := by
  simp [List.mapM_cons, h1, h2]

theorem resK_ok {γ : Ghost} {ρ : Regs} {tmps : Array Value} {m mf : Heap} {w : World} (h : RegsBut γ n (fun _ => False) ρ tmps) (hs : Sat γ (m ++ mf) w) : ∀ (l : List ResultVar) (rs : List (Nat × Option (Option Nat))) (K : List AV → Prop),
    (l.mapM fun | .tmp t => some (t, none) | .cell t ty => (ekOf P ty).map fun k => (t, some k)) = some rs → resK rs ρ m K →
    ∃ (vs : List Value) (xs : List AV), (l.mapM (resStep tmps)).run P w = .ok vs w ∧ Reps γ xs vs ∧ K xs
  | [], rs, K, hm, hk => by
    simp at hm; subst hm
    exact ⟨[], [], rfl, .nil, hk⟩
  | x :: l, rs, K, hm, hk => by
    simp only [List.mapM_cons, Option.bind_eq_bind, Option.bind_eq_some_iff, Option.pure_def, Option.some.injEq] at hm
    obtain ⟨r, hr, rs', hrs, rfl⟩ := hm
    cases x with
    | tmp t =>
      simp at hr; subst hr
      obtain ⟨vs, xs, e1, e2, e3⟩ := resK_ok h hs l rs' _ hrs hk
      exact ⟨_ :: vs, _ :: xs, resStep_run rfl e1, .cons (h.2 t (by simp)) e2, e3⟩
    | cell t ty =>
      simp only [Option.map_eq_some_iff] at hr
      obtain ⟨k, hk', rfl⟩ := hr
      obtain ⟨cs, h1, y, h2, h3⟩ := hk
      obtain ⟨b, off, hv, hc⟩ := acells_ok (h.2 t (by simp)) hs h1
      obtain ⟨v, h4, h5⟩ := read_elem (P := P) hk' hc h2
      obtain ⟨vs, xs, e1, e2, e3⟩ := resK_ok h hs l rs' _ hrs h3
      exact ⟨v :: vs, y :: xs, resStep_run (by show ((do loadVar ty (← asAddr (tmps.getD t undef)) : Sem Value)).run P w = _; rw [hv]; simp [asAddr, h4]) e1, .cons h5 e2, e3⟩

theorem oneAV_ok {γ : Ghost} {xs : List AV} {vs : List Value} (h : Reps γ xs vs) : Rep γ (oneAV xs) (if h : vs.toArray.size = 1 then vs.toArray[0] else .tuple vs.toArray) := by
  have tup : ∀ {xs : List AV} {vs : List Value}, Reps γ xs vs → vs.length = xs.length ∧ ∀ j x, xs[j]? = some x → Rep γ x (vs.toArray.getD j undef) := by
    intro xs vs h
    induction h with
    | nil => exact ⟨rfl, by simp⟩
    | cons a _ ih =>
      refine ⟨by simp [ih.1], fun j x hj => ?_⟩
      cases j with
      | zero => simp at hj; subst hj; simpa using a
      | succ j => simpa using ih.2 j x (by simpa using hj)
  cases h with
  | nil => exact .tup _ _ (by simp) (by simp)
  | cons a t =>
    cases t with
    | nil => simpa [oneAV] using a
    | cons b t' =>
      have := tup (.cons a (.cons b t'))
      rw [dif_neg (by simp)]
      exact .tup _ _ (by simpa using this.1) this.2

/-- A call of one of the program's own functions, whatever its results are kept in. -/
theorem acall_fnc (hm : P.follows .mixedOrders = true) {f : FuncId} {fn : Func} {nc : NCode} {rs : List (Nat × Option (Option Nat))} {xs : List AV} {m : Heap} {Q E : AV → Heap → Prop}
    (hf : P.funcs[f]? = some fn) (hcall : ∀ vs w, (callFunc f vs).run P w = .ok (.enter f vs) w) (hn : fn.body.map (normCode P mu fn.ntmps) = some nc) (hr : resOfC P fn = some rs) (hl : xs.length ≤ fn.ntmps)
    (h : vc P E nc (fun ρ m => resK rs ρ m fun xs => Q (oneAV xs) m) (fun _ _ _ => False) (fun ρ m => resK rs ρ m fun xs => Q (oneAV xs) m) (argRegs xs) m) : ACall P f xs m Q E := by
  obtain ⟨c, hc, hn⟩ := Option.map_eq_some_iff.1 hn
  have fin : ∀ (γ γ' : Ghost) (mf : Heap) (a' : Act) (w' : World) (ρ' : Regs) (m' : Heap), γ.le γ' → RegsBut γ' fn.ntmps (fun _ => False) ρ' a'.tmps → Sat γ' (m' ++ mf) w' → (resK rs ρ' m' fun xs => Q (oneAV xs) m') → ∃ v, (results fn a'.tmps).run P w' = .ok v w' ∧ After γ mf Q E (.returned v) w' := by
    intro γ γ' mf a' w' ρ' m' e1 e2 e4 e5
    obtain ⟨vs, ys, k1, k2, k3⟩ := resK_ok (P := P) e2 e4 _ _ _ hr e5
    refine ⟨(if h : vs.toArray.size = 1 then vs.toArray[0] else .tuple vs.toArray), ?_, γ', _, m', e1, oneAV_ok k2, e4, k3⟩
    have e0 : fn.results = fn.results.toList.toArray := by simp
    have key : (fn.results.mapM (resStep a'.tmps)).run P w' = .ok vs.toArray w' := by
      rw [e0, List.mapM_toArray, Sem.run_map, k1]; rfl
    unfold results
    rw [Sem.run_bind]
    exact congrArg (fun r => Result.andThen r _) key
  intro γ mf vs w hx hs
  unfold CallRes
  rw [hcall]
  refine calls_of_wp hf hc ?_
  subst hn
  refine vc_ok hm c _ _ _ _ γ _ m _ w (argRegs_ok hx hl) rfl hs h ⟨fun a' w' h => ?_, fun i a' w' h => ?_, fun a' w' h => ?_, fun ch a' w' hd h => ?_⟩
  · obtain ⟨γ', ρ', m', e1, e2, e3, e4, e5⟩ := h
    obtain ⟨v, k1, k2⟩ := fin γ γ' mf a' w' ρ' m' e1 e2 e4 e5
    exact ⟨e3, v, k1, k2⟩
  · obtain ⟨γ', ρ', m', e1, e2, e3, e4, e5⟩ := h
    exact e5.elim
  · obtain ⟨γ', ρ', m', e1, e2, e3, e4, e5⟩ := h
    obtain ⟨v, k1, k2⟩ := fin γ γ' mf a' w' ρ' m' e1 e2 e4 e5
    exact ⟨e3, v, k1, k2⟩
  · exact ⟨hd, h⟩

theorem resK_nil {ρ : Regs} {m : Heap} {K : List AV → Prop} : resK [] ρ m K = K [] := propext ⟨fun h => h, fun h => h⟩
theorem resK_t {t : Nat} {l : List (Nat × Option (Option Nat))} {ρ : Regs} {m : Heap} {K : List AV → Prop} : resK ((t, none) :: l) ρ m K = resK l ρ m fun xs => K (ρ t :: xs) := propext ⟨fun h => h, fun h => h⟩
theorem resK_c {t : Nat} {k : Option Nat} {l : List (Nat × Option (Option Nat))} {ρ : Regs} {m : Heap} {K : List AV → Prop} : resK ((t, some k) :: l) ρ m K = @withS _ (acells (ρ t) m) ⟨fun cs => @withS _ (elem k cs) ⟨fun x => resK l ρ m fun xs => K (x :: xs)⟩⟩ := by
  simp only [resK, withS_ex]

/-! ### A call of a function value -/
def onClos (x : AV) [K : Inhabited (FuncId → List AV → Prop)] : Prop := match x with
  | .clos f cs => K.default f cs
  | _ => False
theorem onClos_e {f : FuncId} {cs : List AV} {K : FuncId → List AV → Prop} : @onClos (.clos f cs) ⟨K⟩ = K f cs := propext ⟨fun h => h, fun h => h⟩
theorem vlist_callr {E : AV → Heap → Prop} {ρ : Regs} {m : Heap} {l : List NI} {d t : Nat} {xs : List Opd} {K : Cont} : vlist P E (⟨some d, none, .call (.r t) xs, []⟩ :: l) ρ m K = @onClos (ρ t) ⟨fun f cs => @onCall P f (xs.map (ev ρ) ++ cs) m ⟨fun x m' => vlist P E l (upd ρ d x) m' K⟩ ⟨fun x m => (E x m, ())⟩⟩ := by
  simp only [vlist, vins, guarded, putR, onClos]
  refine propext ⟨?_, fun h => ?_⟩
  · rintro ⟨fid, caps, h1, h2⟩
    rw [show ρ t = .clos fid caps from h1]
    exact call_i (h2.mono (fun x m' h => h.2) fun x m' h => h)
  · split at h
    · rename_i f cs he
      exact ⟨f, cs, he, ACall.mono h (fun x m' h => ⟨by simp, h⟩) fun x m' h => h⟩
    · exact h.elim
theorem vlist_callr0 {E : AV → Heap → Prop} {ρ : Regs} {m : Heap} {l : List NI} {t : Nat} {xs : List Opd} {K : Cont} : vlist P E (⟨none, none, .call (.r t) xs, []⟩ :: l) ρ m K = @onClos (ρ t) ⟨fun f cs => @onCall P f (xs.map (ev ρ) ++ cs) m ⟨fun x m' => vlist P E l ρ m' K⟩ ⟨fun x m => (E x m, ())⟩⟩ := by
  simp only [vlist, vins, guarded, putR, onClos]
  refine propext ⟨?_, fun h => ?_⟩
  · rintro ⟨fid, caps, h1, h2⟩
    rw [show ρ t = .clos fid caps from h1]
    exact call_i (h2.mono (fun x m' h => h.2) fun x m' h => h)
  · split at h
    · rename_i f cs he
      exact ⟨f, cs, he, ACall.mono h (fun x m' h => ⟨by simp, h⟩) fun x m' h => h⟩
    · exact h.elim

/-- A function without a body that the machine knows. -/
theorem run_extern {f : FuncId} {fn : Func} {e : Array Value → Sem Value} (hf : P.funcs[f]? = some fn) (hname : (fn.name == "runtime.NumGoroutine") = false) (hb : fn.body.isNone = true) (hn : Extern.findNext fn = none) (he : Extern.find fn = some e)
    {us : Array Value} {v : Value} {w w' : World} (h : (e us).run P w = .ok v w') : (callFunc f us).run P w = .ok (.value v) w' := by
  unfold callFunc
  have h1 : ¬ fn.name = "runtime.NumGoroutine" := by simpa using hname
  have h2 : fn.body = none := by simpa using hb
  simp [hf, h1, h2, hn, he, h]
theorem acall_extern {f : FuncId} {fn : Func} {e : Array Value → Sem Value} (hf : P.funcs[f]? = some fn) (hname : (fn.name == "runtime.NumGoroutine") = false) (hb : fn.body.isNone = true) (hn : Extern.findNext fn = none) (he : Extern.find fn = some e)
    {us : List Value} {v : Value} {x : AV} (h : ∀ w, (e us.toArray).run P w = .ok v w) (hr : ∀ γ, Rep γ x v) {m : Heap} {Q E : AV → Heap → Prop} (hq : Q x m) : ACall P f (us.map .sc) m Q E := by
  intro γ mf vs w hx hs
  have hv : vs = us.toArray := by
    obtain ⟨h1, h2⟩ := hx
    refine Array.ext (by simpa using h1) fun i hi hi' => ?_
    have := h2 i (.sc us[i]) (by simp at hi'; simp [hi'])
    rw [Array.getD_eq_getD_getElem?] at this
    simpa [hi] using this.sc_inv
  unfold CallRes
  rw [run_extern hf hname hb hn he (hv ▸ h w)]
  exact ⟨γ, _, m, .refl γ, hr γ, hs, hq⟩
end
end Go.Proofs.Ytceahampebofbaa.Moi
