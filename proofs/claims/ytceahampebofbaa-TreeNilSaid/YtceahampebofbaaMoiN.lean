/- Where the order is open, one order does for all. -/
import Derived.Test.YtceahampebofbaaMoiM
set_option linter.unusedVariables false
set_option linter.unusedSimpArgs false
namespace Go.Proofs.Ytceahampebofbaa.Moi
open Go Go.RowKit

def pre (ops : Array Oper) (y x : Nat) : Bool := ((Region.before ops).getD y 0).testBit x

theorem mask_bit (acc : Array Nat) (x : Nat) : ∀ (l : List Edge) (s : Nat), (l.foldl (fun s e => if Region.binds .any e then s ||| 2 ^ e.on ||| acc.getD e.on 0 else s) s).testBit x = true →
    s.testBit x = true ∨ ∃ e ∈ l, Region.binds .any e = true ∧ (x = e.on ∨ (acc.getD e.on 0).testBit x = true)
  | [], s, h => .inl h
  | e :: l, s, h => by
    rcases mask_bit acc x l _ h with h | ⟨e', h1, h2⟩
    · dsimp only at h
      by_cases hb : Region.binds .any e = true
      · rw [if_pos hb] at h
        simp only [Nat.testBit_or, Bool.or_eq_true, Nat.testBit_two_pow] at h
        rcases h with (h | h) | h
        · exact .inl h
        · exact .inr ⟨e, by simp, hb, .inl (Eq.symm (by simpa using h))⟩
        · exact .inr ⟨e, by simp, hb, .inr h⟩
      · rw [if_neg hb] at h; exact .inl h
    · exact .inr ⟨e', by simp [h1], h2⟩

def maskOf (acc : Array Nat) (o : Oper) : Nat := o.after.foldl (fun s e => if Region.binds .any e then s ||| 2 ^ e.on ||| acc.getD e.on 0 else s) 0

theorem before_spec : ∀ (l p : List Oper) (acc : Array Nat), acc.size = p.length →
    (∀ y x, (acc.getD y 0).testBit x = true → ∃ o e, p[y]? = some o ∧ e ∈ o.after.toList ∧ Region.binds .any e = true ∧ (x = e.on ∨ (acc.getD e.on 0).testBit x = true)) →
    ∀ y x, ((l.foldl (fun acc o => acc.push (maskOf acc o)) acc).getD y 0).testBit x = true →
      ∃ o e, (p ++ l)[y]? = some o ∧ e ∈ o.after.toList ∧ Region.binds .any e = true ∧ (x = e.on ∨ ((l.foldl (fun acc o => acc.push (maskOf acc o)) acc).getD e.on 0).testBit x = true)
  | [], p, acc, hs, h, y, x, k => by simpa using h y x k
  | o :: l, p, acc, hs, h, y, x, k => by
    have := before_spec l (p ++ [o]) (acc.push (maskOf acc o)) (by simp [hs]) (fun y x k => by
      have mono : ∀ z, (acc.getD z 0).testBit x = true → ((acc.push (maskOf acc o)).getD z 0).testBit x = true := fun z hz => by
        rw [Array.getD_eq_getD_getElem?] at hz ⊢
        rw [Array.getElem?_push]
        split
        · rename_i e; subst e; simp at hz
        · exact hz
      rw [Array.getD_eq_getD_getElem?, Array.getElem?_push] at k
      split at k
      · rename_i e
        subst e
        simp only [Option.getD_some, maskOf] at k
        rw [← Array.foldl_toList] at k
        rcases mask_bit acc x _ _ k with k | ⟨e, h1, h2, h3⟩
        · simp at k
        · exact ⟨o, e, by rw [hs]; simp, h1, h2, h3.imp id (mono _)⟩
      · rw [← Array.getD_eq_getD_getElem?] at k
        obtain ⟨o', e, h1, h2, h3, h4⟩ := h y x k
        exact ⟨o', e, by rw [List.getElem?_append_left (List.getElem?_eq_some_iff.1 h1).1]; exact h1, h2, h3, h4.imp id (mono _)⟩) y x k
    simpa using this

theorem pre_spec {ops : Array Oper} {y x : Nat} (h : pre ops y x = true) : ∃ o e, ops[y]? = some o ∧ e ∈ o.after.toList ∧ Region.binds .any e = true ∧ (x = e.on ∨ pre ops e.on x = true) := by
  have e0 : Region.before ops = ops.toList.foldl (fun acc o => acc.push (maskOf acc o)) #[] := by
    unfold Region.before
    rw [← Array.foldl_toList]
    rfl
  unfold pre at h ⊢
  rw [e0] at h ⊢
  obtain ⟨o, e, h1, h2⟩ := before_spec ops.toList [] #[] rfl (fun y x k => by simp at k) y x h
  exact ⟨o, e, by simpa using h1, h2⟩

def names (i : NI) : List Nat := (match i.g with | some (s, _) => [s] | none => []) ++ regsI i.o

structure Rel (ops : Array Oper) (N : Nat → NI) (x y : Nat) : Prop where
  topo : ∀ o e, ops[x]? = some o → e ∈ o.after.toList → Region.binds .any e = true → e.on ≠ y
  eff : cls (N x).o = 2 → pre ops y x = true
  war : ∀ d, (N y).d = some d → (d ∉ names (N x) ∧ (N x).d ≠ some d) ∨ (cls (N y).o = 2 ∧ pre ops y x = true)
  raw : ∀ d, (N x).d = some d → d ∈ names (N y) → pre ops y x = true
  chk : cls (N y).o = 2 → cls (N x).o = 1 → pre ops y x = false → ∀ no, (N x).o = .op no → ∃ r ∈ (N y).chk, r.g = (N x).g ∧ r.o = no ∧ (N x).d = some r.d

structure RegFacts (P : Program) (mu : Bool) (n : Nat) (ops : Array Oper) (N : Nat → NI) (c : List Nat) : Prop where
  mem : ∀ i, i ∈ c ↔ i < ops.size
  nodup : c.Nodup
  pw : c.Pairwise (Rel ops N)
  ins : ∀ i o, ops[i]? = some o → normG ops o = some (N i).g ∧ normD n o = true ∧ (∀ s w, (N i).g = some (s, w) → s < n) ∧ ((N i).o = normI P mu o ∨ ∃ x, (N i).o = .op (.set x) ∧ normI P mu o = .op (.move x)) ∧ (N i).d = o.dst
  edge : ∀ i o e, ops[i]? = some o → e ∈ o.after.toList → Region.binds .any e = true → e.on < ops.size ∧ e.on ≠ i
  self : ∀ i, i < ops.size → ∀ d, (N i).d = some d → d ∉ names (N i)

/-- What an operation that has been thought of, but not been run, will give. -/
def Pend (i : NI) (ρ : Regs) (m : Heap) : Prop :=
  ∃ r, (∀ d, i.d = some d → ρ d = r) ∧ guarded i.g ρ (∃ no, i.o = .op no ∧ Det no ρ m r) (r = uv)

theorem guarded_congr {g : Option (Nat × Bool)} {ρ ρ' : Regs} {yes no : Prop} (h : ∀ s w, g = some (s, w) → ρ s = ρ' s) : guarded g ρ yes no = guarded g ρ' yes no := by
  cases g with
  | none => rfl
  | some p => obtain ⟨s, w⟩ := p; simp only [guarded, h s w rfl]
theorem guarded_mono {g : Option (Nat × Bool)} {ρ : Regs} {yes no yes' no' : Prop} (h : guarded g ρ yes no) (h1 : yes → yes') (h2 : no → no') : guarded g ρ yes' no' := by
  unfold guarded at *
  split at h
  · exact h1 h
  · split at h
    · rename_i b hb
      exact ⟨fun e => h1 (h.1 e), fun e => h2 (h.2 e)⟩
    · exact h2 h
    · exact h
theorem guarded_both {g : Option (Nat × Bool)} {ρ : Regs} {a b c d : Prop} (h : guarded g ρ a b) (k : guarded g ρ c d) : guarded g ρ (a ∧ c) (b ∧ d) := by
  unfold guarded at *
  split at h
  · exact ⟨h, k⟩
  · simp only at h k ⊢
    split at h
    · rename_i b hb
      simp only [hb] at k
      exact ⟨fun e => ⟨h.1 e, k.1 e⟩, fun e => ⟨h.2 e, k.2 e⟩⟩
    · rename_i v hv1 hv2
      simp only [hv2] at k
      exact ⟨h, k⟩
    · exact h.elim

theorem putR_ne {ρ : Regs} {d : Option Nat} {x : AV} {t : Nat} (h : d ≠ some t) : putR ρ d x t = ρ t := by
  cases d with
  | none => rfl
  | some d => simp only [putR, upd]; rw [if_neg]; rintro rfl; exact h rfl
theorem putR_same {ρ : Regs} {d : Nat} {x : AV} : putR ρ (some d) x d = x := by simp [putR, upd]

theorem regs_names {i : NI} {no : NOp} (h : i.o = .op no) : ∀ t ∈ regsN no, t ∈ names i := fun t ht => by
  simp only [names, List.mem_append, h, regsI]; exact .inr ht
theorem guard_names {i : NI} {s : Nat} {w : Bool} (h : i.g = some (s, w)) : s ∈ names i := by simp [names, h]

/-- A register that it does not look at is written. -/
theorem Pend.putR {i : NI} {ρ : Regs} {m : Heap} {d : Option Nat} {x : AV} (h : Pend i ρ m) (h1 : ∀ t, d = some t → t ∉ names i ∧ i.d ≠ some t) : Pend i (putR ρ d x) m := by
  obtain ⟨r, a, b⟩ := h
  have hn : ∀ t ∈ names i, Moi.putR ρ d x t = ρ t := fun t ht => putR_ne fun e => (h1 t e).1 ht
  refine ⟨r, fun t ht => ?_, ?_⟩
  · rw [putR_ne fun e => (h1 t e).2 ht]; exact a t ht
  · rw [guarded_congr (ρ' := ρ) fun s w hs => hn s (guard_names hs)]
    refine guarded_mono b (fun ⟨no, e, hd⟩ => ⟨no, e, ?_⟩) id
    unfold Det at hd ⊢
    rw [vop_congr (ρ' := ρ) fun t ht => hn t (regs_names e t ht)]
    exact hd

/-- The heap is another one. -/
theorem Pend.heap0 {i : NI} {ρ : Regs} {m m' : Heap} (h : Pend i ρ m) (hc : cls i.o = 0) : Pend i ρ m' := by
  obtain ⟨r, a, b⟩ := h
  refine ⟨r, a, guarded_mono b (fun ⟨no, e, hd⟩ => ⟨no, e, ?_⟩) id⟩
  rw [e] at hc
  obtain ⟨r', ⟨rfl, _⟩, k⟩ := pure_det hc hd
  exact k m' _ ⟨rfl, rfl⟩
theorem Pend.heap1 {i : NI} {ρ : Regs} {m m' : Heap} {rd : Rd} (h : Pend i ρ m) (hc : cls i.o = 1) (h1 : rd.g = i.g) (h2 : i.o = .op rd.o) (h3 : i.d = some rd.d) (hr : rereads rd ρ m') : Pend i ρ m' := by
  obtain ⟨r, a, b⟩ := h
  refine ⟨r, a, ?_⟩
  unfold rereads at hr
  rw [h1] at hr
  refine guarded_mono (guarded_both b hr) (fun ⟨⟨no, e, hd⟩, hv⟩ => ⟨no, e, ?_⟩) (fun ⟨e, _⟩ => e)
  rw [h2] at e
  obtain rfl : rd.o = no := by injection e
  rw [h2] at hc
  obtain ⟨r', e', k⟩ := read_det hc hv
  rw [a rd.d h3] at e'
  subst e'
  exact k _ ⟨rfl, rfl⟩

section
variable {P : Program}

/-- An instruction that only reckons or reads is thought of. -/
theorem vlist_think {E : AV → Heap → Prop} {i : NI} {l : List NI} {ρ : Regs} {m : Heap} {K : Regs → Heap → Prop} (hc : cls i.o ≠ 2) (hself : ∀ d, i.d = some d → d ∉ names i) (h : vlist P E (i :: l) ρ m K) :
    ∃ r, vlist P E l (putR ρ i.d r) m K ∧ Pend i (putR ρ i.d r) m := by
  simp only [vlist, vins] at h
  obtain ⟨no, hno⟩ : ∃ no, i.o = .op no := by
    cases ho : i.o with
    | op no => exact ⟨no, rfl⟩
    | call f xs => rw [ho] at hc; exact absurd rfl hc
    | panic x => rw [ho] at hc; exact absurd rfl hc
  simp only [hno] at h
  have hn : ∀ r, ∀ t ∈ names i, putR ρ i.d r t = ρ t := fun r t ht => putR_ne fun e => hself t e ht
  have mk : ∀ r, guarded i.g ρ (Det no ρ m r) (r = uv) → Pend i (putR ρ i.d r) m := fun r hg => by
    refine ⟨r, fun d hd => by rw [hd]; exact putR_same, ?_⟩
    rw [guarded_congr (ρ' := ρ) fun s w hs => hn r s (guard_names hs)]
    refine guarded_mono hg (fun hd => ⟨no, hno, ?_⟩) id
    unfold Det at hd ⊢
    rw [vop_congr (ρ' := ρ) fun t ht => hn r t (regs_names hno t ht)]
    exact hd
  rw [hno] at hc
  unfold guarded at h
  split at h
  · rename_i hg
    obtain ⟨r, ⟨_, a⟩, b⟩ := det_of hc h
    exact ⟨r, a, mk r (by rw [hg]; exact b)⟩
  · rename_i s want hg
    split at h
    · rename_i b hb
      by_cases hbw : b = want
      · obtain ⟨r, ⟨_, a⟩, k⟩ := det_of hc (h.1 hbw)
        exact ⟨r, a, mk r (by rw [hg]; simp only [guarded, hb]; exact ⟨fun _ => k, fun e => absurd hbw e⟩)⟩
      · exact ⟨uv, h.2 hbw, mk uv (by rw [hg]; simp only [guarded, hb]; exact ⟨fun e => absurd e hbw, fun _ => trivial⟩)⟩
    · rename_i v hv1 hv2
      refine ⟨uv, h, mk uv ?_⟩
      rw [hg]
      simp only [guarded, hv2]
    · exact h.elim

theorem pairwise_or {α : Type} {R : α → α → Prop} {l : List α} (h : l.Pairwise R) {x y : α} (hx : x ∈ l) (hy : y ∈ l) (hne : x ≠ y) : R x y ∨ R y x := by
  induction l with
  | nil => simp at hx
  | cons a l ih =>
    rw [List.pairwise_cons] at h
    simp only [List.mem_cons] at hx hy
    rcases hx with rfl | hx <;> rcases hy with rfl | hy
    · exact absurd rfl hne
    · exact .inl (h.1 y hy)
    · exact .inr (h.1 x hx)
    · exact ih h.2 hx hy

def Lst (listed : Array Bool) (i : Nat) : Prop := listed.getD i false = true

theorem Lst.set {listed : Array Bool} {i j : Nat} (hi : i < listed.size) : Lst (listed.setIfInBounds i true) j ↔ (j = i ∨ Lst listed j) := by
  unfold Lst
  rw [Array.getD_eq_getD_getElem?, Array.getD_eq_getD_getElem?]
  by_cases e : j = i
  · subst e; simp [hi]
  · rw [Array.getElem?_setIfInBounds_ne (fun h => e h.symm)]; simp [e]

theorem ready_iff {ops : Array Oper} {listed : Array Bool} {i : Nat} (hs : listed.size = ops.size) : i ∈ Region.ready .any ops listed ↔ i < ops.size ∧ ¬ Lst listed i ∧ ∀ o, ops[i]? = some o → ∀ e ∈ o.after.toList, Region.binds .any e = true → Lst listed e.on := by
  unfold Region.ready Lst
  simp only [List.mem_filter, List.mem_range, Bool.and_eq_true]
  constructor
  · rintro ⟨h1, h2, h3⟩
    have hget : listed[i]? = some (listed[i]'(by omega)) := by simp [show i < listed.size by omega]
    rw [Array.getD_eq_getD_getElem?, hget] at h2
    refine ⟨h1, ?_, fun o ho e he hb => ?_⟩
    · rw [Array.getD_eq_getD_getElem?, hget]; simpa using h2
    · rw [ho] at h3
      simp only [Option.map_some, Option.getD_some, Array.all_eq_true] at h3
      obtain ⟨p, hp, rfl⟩ := List.mem_iff_getElem.1 he
      have := h3 p (by simpa using hp)
      simp only [Array.getElem_toList] at hb ⊢
      simpa [hb] using this
  · rintro ⟨h1, h2, h3⟩
    have hget : listed[i]? = some (listed[i]'(by omega)) := by simp [show i < listed.size by omega]
    rw [Array.getD_eq_getD_getElem?, hget] at h2
    refine ⟨h1, ?_, ?_⟩
    · rw [Array.getD_eq_getD_getElem?, hget]; simpa using h2
    · have ho : ops[i]? = some ops[i] := by simp [h1]
      rw [ho]
      simp only [Option.map_some, Option.getD_some, Array.all_eq_true]
      intro p hp
      have := h3 _ ho (ops[i].after[p]) (by simp)
      by_cases hb : Region.binds .any (ops[i].after[p]) = true
      · simp [this hb]
      · simp [hb]

variable {mu : Bool} {n : Nat} {ops : Array Oper} {N : Nat → NI} {c : List Nat}

/-- The thought goes on to an operation that may be run next. -/
theorem advance (F : RegFacts P mu n ops N c) {E : AV → Heap → Prop} {K : Regs → Heap → Prop} {listed : Array Bool} {i : Nat} (hclosed : ∀ x, pre ops i x = true → Lst listed x) {γ : Ghost} {m : Heap} {tmps : Array Value} :
    ∀ (rest pd : List Nat) (ρ : Regs), pd ++ rest = c → (∀ j, Lst listed j → j ∈ pd) → i ∈ rest → RegsBut γ n (fun s => ∃ j ∈ pd, ¬ Lst listed j ∧ (N j).d = some s) ρ tmps → (∀ j ∈ pd, cls (N j).o = 2 → Lst listed j) → (∀ j ∈ pd, ¬ Lst listed j → Pend (N j) ρ m) → vlist P E (rest.map N) ρ m K →
      ∃ pd' rest' ρ', pd' ++ rest' = c ∧ (∀ j ∈ pd, j ∈ pd') ∧ RegsBut γ n (fun s => ∃ j ∈ pd', ¬ Lst listed j ∧ (N j).d = some s) ρ' tmps ∧ (∀ j ∈ pd', cls (N j).o = 2 → Lst listed j) ∧ (∀ j ∈ pd', ¬ Lst listed j → Pend (N j) ρ' m) ∧
        vlist P E (rest'.map N) ρ' m K ∧ ((i ∈ pd' ∧ cls (N i).o ≠ 2) ∨ ∃ r2, rest' = i :: r2 ∧ cls (N i).o = 2)
  | [], pd, ρ, _, _, hi, _, _, _, _ => by simp at hi
  | x :: rest, pd, ρ, hc, hl, hi, hr, he, hp, hv => by
    have hxc : x ∈ c := by rw [← hc]; simp
    have hxs : x < ops.size := (F.mem x).1 hxc
    have hpw := F.pw
    rw [← hc] at hpw
    have hnd := F.nodup
    rw [← hc] at hnd
    have hpd : ∀ j ∈ pd, Rel ops N j x := fun j hj => (List.pairwise_append.1 hpw).2.2 j hj x (by simp)
    have hxl : ¬ Lst listed x := fun h => by
      have := hl x h
      exact (List.nodup_append.1 hnd).2.2 x this x (by simp) rfl
    by_cases hce : cls (N x).o = 2
    · -- it acts: it is i
      have hxi : x = i := by
        simp only [List.mem_cons] at hi
        rcases hi with rfl | hi
        · rfl
        · have := (List.pairwise_cons.1 (List.pairwise_append.1 hpw).2.1).1 i hi
          exact absurd (hclosed x (this.eff hce)) hxl
      subst hxi
      exact ⟨pd, x :: rest, ρ, hc, fun j hj => hj, hr, he, hp, hv, .inr ⟨rest, rfl, hce⟩⟩
    · obtain ⟨r, hv', hpx⟩ := vlist_think (P := P) hce (F.self x hxs) hv
      have hc' : (pd ++ [x]) ++ rest = c := by rw [← hc]; simp
      have hr' : RegsBut γ n (fun s => ∃ j ∈ pd ++ [x], ¬ Lst listed j ∧ (N j).d = some s) (putR ρ (N x).d r) tmps := by
        refine ⟨hr.1, fun s hs => ?_⟩
        have hne : (N x).d ≠ some s := fun e => hs ⟨x, by simp, hxl, e⟩
        rw [putR_ne hne]
        exact hr.2 s fun ⟨j, h1, h2⟩ => hs ⟨j, by simp [h1], h2⟩
      have he' : ∀ j ∈ pd ++ [x], cls (N j).o = 2 → Lst listed j := fun j hj hcj => by
        simp only [List.mem_append, List.mem_singleton] at hj
        rcases hj with hj | rfl
        · exact he j hj hcj
        · exact absurd hcj hce
      have hp' : ∀ j ∈ pd ++ [x], ¬ Lst listed j → Pend (N j) (putR ρ (N x).d r) m := fun j hj hlj => by
        simp only [List.mem_append, List.mem_singleton] at hj
        rcases hj with hj | rfl
        · exact (hp j hj hlj).putR fun t ht => ((hpd j hj).war t ht).resolve_right fun k => hce k.1
        · exact hpx
      have hl' : ∀ j, Lst listed j → j ∈ pd ++ [x] := fun j hj => by simp [hl j hj]
      by_cases hxi : x = i
      · subst hxi
        exact ⟨pd ++ [x], rest, _, hc', fun j hj => by simp [hj], hr', he', hp', hv', .inl ⟨by simp, hce⟩⟩
      · have hi' : i ∈ rest := by
          simp only [List.mem_cons] at hi
          rcases hi with rfl | hi
          · exact absurd rfl hxi
          · exact hi
        obtain ⟨pd', rest', ρ', q1, q2, q3⟩ := advance F hclosed rest (pd ++ [x]) _ hc' hl' hi' hr' he' hp' hv'
        exact ⟨pd', rest', ρ', q1, fun j hj => q2 j (by simp [hj]), q3⟩

end
end Go.Proofs.Ytceahampebofbaa.Moi
