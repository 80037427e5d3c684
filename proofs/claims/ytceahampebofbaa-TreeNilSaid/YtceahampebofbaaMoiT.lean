/- More for the walk: loops, what a result may be weakened to, sizes. -/
import Derived.Test.YtceahampebofbaaMoiS
set_option linter.unusedVariables false
set_option linter.unusedSimpArgs false
namespace Go.Proofs.Ytceahampebofbaa.Moi
open Go Go.RowKit

section
variable {P : Program} {E : AV → Heap → Prop} {Kn : Cont} {Kx : Nat → Cont} {Kr : Cont} {ρ : Regs} {m : Heap}

theorem loop_i {a : NCode} (I : Nat → Cont) (k0 : Nat) (h0 : I k0 ρ m) (hs : ∀ k ρ m, I k ρ m → vc P E a (fun ρ m => ∃ k', k' < k ∧ I k' ρ m) Kx Kr ρ m) : @stop ⟨vc P E (.loop a) Kn Kx Kr ρ m⟩ := ⟨I, ⟨k0, h0⟩, hs⟩

/-- A result may be looked at in another way; of the heap something may be left behind. -/
def Ent (x : AV) (m : Heap) (Q : AV → Heap → Prop) : Prop := ∀ (γ : Ghost) (mf : Heap) (v : Value) (w : World), Rep γ x v → Sat γ (m ++ mf) w → ∃ γ' x' m', γ.le γ' ∧ Rep γ' x' v ∧ Sat γ' (m' ++ mf) w ∧ Q x' m'

theorem Ent.now {x : AV} {Q : AV → Heap → Prop} (h : Q x m) : Ent x m Q := fun γ mf v w hr s => ⟨γ, x, m, .refl γ, hr, s, h⟩
theorem Ent.bind {x : AV} {Q Q' : AV → Heap → Prop} (h : Ent x m Q') (k : ∀ y m', Q' y m' → Ent y m' Q) : Ent x m Q := fun γ mf v w hr s => by
  obtain ⟨γ1, y, m1, h1, h2, h3, h4⟩ := h γ mf v w hr s
  obtain ⟨γ2, z, m2, k1, k2, k3, k4⟩ := k y m1 h4 γ1 mf v w h2 h3
  exact ⟨γ2, z, m2, h1.trans k1, k2, k3, k4⟩
theorem Ent.perm {x : AV} {m' : Heap} {Q : AV → Heap → Prop} (p : m.Perm m') (h : Ent x m' Q) : Ent x m Q := fun γ mf v w hr s => h γ mf v w hr (s.perm (p.append_right mf))
theorem Ent.drop {x : AV} {m' r : Heap} {Q : AV → Heap → Prop} (p : m.Perm (r ++ m')) (h : Ent x m' Q) : Ent x m Q := fun γ mf v w hr s => by
  have := s.perm (p.append_right mf)
  rw [List.append_assoc] at this
  exact h γ mf v w hr this.drop
/-- One value for another that stands for the same. -/
theorem Ent.weak {x y : AV} {Q : AV → Heap → Prop} (hxy : ∀ γ v, Rep γ x v → Rep γ y v) (h : Ent y m Q) : Ent x m Q := fun γ mf v w hr s => h γ mf v w (hxy _ _ hr) s

theorem Ent.nd {x : AV} {Q : AV → Heap → Prop} (h : (keys m).Nodup → Ent x m Q) : Ent x m Q := fun γ mf v w hr s => by
  have := s.nd
  simp only [keys, List.map_append] at this
  exact h (List.nodup_append.1 this).1 γ mf v w hr s

theorem ACall.ent {f : FuncId} {xs : List AV} {Q : AV → Heap → Prop} (h : ACall P f xs m (fun x m' => Ent x m' Q) E) : ACall P f xs m Q E :=
  fun γ mf vs w hx hs => (h γ mf vs w hx hs).mono fun e w' k => by
    cases e with
    | returned v =>
      obtain ⟨γ', x, m', e1, e2, e3, e4⟩ := k
      obtain ⟨γ2, x', m2, f1, f2, f3, f4⟩ := e4 γ' mf v w' e2 e3
      exact ⟨γ2, x', m2, e1.trans f1, f2, f3, f4⟩
    | panicked ch => exact k
    | outgrown => exact k.elim

/-- A call with a part of the heap. -/
theorem ACall.part {f : FuncId} {xs : List AV} {m0 r : Heap} {Q0 Q : AV → Heap → Prop} (h : ACall P f xs m0 Q0 (fun _ _ => False)) (p : m.Perm (r ++ m0)) (hQ : ∀ x m', Q0 x m' → Ent x (r ++ m') Q) : ACall P f xs m Q E := by
  have h1 := h.frame r (Q' := fun x m' => ∃ m0', Q0 x m0' ∧ m' = m0' ++ r) (E' := E) (fun x m' k => ⟨m', k, rfl⟩) (fun x m' k => k.elim)
  have h2 := h1.perm (p.trans List.perm_append_comm)
  refine ACall.ent (h2.mono (fun x m' ⟨m0', k1, k2⟩ => ?_) fun x m' k => k)
  subst k2
  exact Ent.perm List.perm_append_comm (hQ x m0' k1)

/-! ### A list that is written no more; what lies behind it may be appended to -/
theorem Sat.freeze_tok {γ : Ghost} {m : Heap} {w : World} {id : Nat} {cs : List AV} (h : Sat γ ((id, .cells cs) :: m) w) {b : Nat} (hb : γ.blk id = some b) (k : Nat) (hk : k ≤ cs.length) :
    ∃ γ', γ.le γ' ∧ γ.w0.heap.size ≤ b ∧ (∃ cur : Array Value, cur.size = cs.length ∧ (∀ j x, j < k → cs[j]? = some x → γ'.frz b j = some (cur.getD j undef) ∧ Rep γ x (cur.getD j undef))) ∧ γ'.tk γ.nx = some (b, k, cs.length) ∧ Sat γ' ((γ.nx, .tail) :: m) w := by
  obtain ⟨b', cur, e, fr, h1, h2, h3, hfr, h4, h5⟩ := h.obj id (.cells cs) (by simp)
  rw [hb] at h1
  obtain rfl := Option.some.inj h1
  let γ' : Ghost := { γ with frz := fun b' o => if b' = b then (if o < k then cur[o]? else none) else γ.frz b' o, tk := fun i => if i = γ.nx then some (b, k, cs.length) else γ.tk i, nx := γ.nx + 1 }
  have hno : ∀ o u, γ.frz b o ≠ some u := fun o u => h.nofrz id (.cells cs) b o u (by simp) hb
  have hle : γ.le γ' := by
    refine ⟨rfl, fun _ _ k => k, fun i t ht => ?_, fun b1 o u kk => ?_⟩
    · show (if i = γ.nx then _ else γ.tk i) = some t
      rw [if_neg]
      · exact ht
      · rintro rfl
        rw [(h.fresh _ (Nat.le_refl _)).2] at ht
        cases ht
    · show (if b1 = b then _ else γ.frz b1 o) = some u
      rw [if_neg]
      · exact kk
      · rintro rfl
        exact hno o u kk
  have hd : Sat γ m w := Sat.drop (m := [(id, .cells cs)]) h
  have hidm : id ∉ keys m := by
    have := h.nd
    simp only [keys, List.map_cons, List.nodup_cons] at this
    exact this.1
  have hne : ∀ i ob', (i, ob') ∈ m → i ≠ γ.nx := fun i ob' kk => by have := hd.key_lt kk; omega
  have hold : ∀ i ob' b1 o', (i, ob') ∈ m → Owns γ' i b1 o' ob' → Owns γ i b1 o' ob' := fun i ob' b1 o' k' =>
    Owns.of_blk rfl (by show (if i = γ.nx then _ else γ.tk i) = _; rw [if_neg (hne i ob' k')])
  have hnew : ∀ b1 o', Owns γ' γ.nx b1 o' .tail → b1 = b ∧ k ≤ o' := fun b1 o' k' => by
    obtain ⟨s, e', t1, t2, t3⟩ := k'
    have t1' : (if γ.nx = γ.nx then some (b, k, cs.length) else γ.tk γ.nx) = some (b1, s, e') := t1
    rw [if_pos rfl] at t1'
    simp only [Option.some.injEq, Prod.mk.injEq] at t1'
    obtain ⟨rfl, rfl, rfl⟩ := t1'
    exact ⟨rfl, t2⟩
  have hsepid : ∀ i ob' o', (i, ob') ∈ m → ¬ Owns γ i b o' ob' := fun i ob' o' kk hw => by
    refine h.sep i ob' id (.cells cs) b o' (by simp [kk]) (by simp) ?_ hw hb
    rintro rfl
    exact hidm (List.mem_map.2 ⟨_, kk, rfl⟩)
  refine ⟨γ', hle, h2, ⟨cur, h4, fun j x hjk hx => ⟨?_, h5 j x hx⟩⟩, ?_, ?_⟩
  · show (if b = b then (if j < k then cur[j]? else none) else γ.frz b j) = _
    have hj : j < cur.size := by rw [h4]; exact (List.getElem?_eq_some_iff.1 hx).1
    rw [if_pos rfl, if_pos hjk]
    simp [Array.getD, hj]
  · show (if γ.nx = γ.nx then some (b, k, cs.length) else γ.tk γ.nx) = _
    rw [if_pos rfl]
  refine ⟨hd.below, ?_, ?_, ?_, ?_, ?_, ?_⟩
  · simp only [keys, List.map_cons, List.nodup_cons]
    exact ⟨fun kk => by have := hd.keys_lt _ kk; omega, hd.nd⟩
  · intro i hi
    have hi' : γ.nx + 1 ≤ i := hi
    obtain ⟨t1, t2⟩ := hd.fresh i (by omega)
    refine ⟨t1, ?_⟩
    show (if i = γ.nx then _ else γ.tk i) = none
    rw [if_neg (by omega)]; exact t2
  · intro b1 o u kk
    have k' : (if b1 = b then (if o < k then cur[o]? else none) else γ.frz b1 o) = some u := kk
    split at k'
    · rename_i hh; subst hh
      split at k'
      · rw [cell_of_row _ b1 o cur e fr h3]; exact k'
      · cases k'
    · exact hd.frz b1 o u k'
  · intro i ob' k'
    simp only [List.mem_cons, Prod.mk.injEq] at k'
    rcases k' with ⟨rfl, rfl⟩ | k'
    · refine ⟨b, k, cs.length, cur, e, fr, ?_, hk, h2, h3, hfr, by omega⟩
      show (if γ.nx = γ.nx then some (b, k, cs.length) else γ.tk γ.nx) = _
      rw [if_pos rfl]
    · exact (hd.obj i ob' k').mono hle fun _ _ => rfl
  · intro i ob1 i' ob2 b1 o' k1 k2 hne' hw
    simp only [List.mem_cons, Prod.mk.injEq] at k1 k2
    rcases k1 with ⟨rfl, rfl⟩ | k1 <;> rcases k2 with ⟨rfl, rfl⟩ | k2
    · exact absurd rfl hne'
    · intro hw'
      obtain ⟨rfl, _⟩ := hnew _ _ hw
      exact hsepid _ _ _ k2 (hold _ _ _ _ k2 hw')
    · intro hw'
      obtain ⟨rfl, _⟩ := hnew _ _ hw'
      exact hsepid _ _ _ k1 (hold _ _ _ _ k1 hw)
    · exact fun hw' => hd.sep i ob1 i' ob2 b1 o' k1 k2 hne' (hold _ _ _ _ k1 hw) (hold _ _ _ _ k2 hw')
  · intro i ob1 b1 o' u k1 hw hf
    have hf' : (if b1 = b then (if o' < k then cur[o']? else none) else γ.frz b1 o') = some u := hf
    simp only [List.mem_cons, Prod.mk.injEq] at k1
    rcases k1 with ⟨rfl, rfl⟩ | k1
    · obtain ⟨rfl, t2⟩ := hnew _ _ hw
      rw [if_pos rfl, if_neg (by omega)] at hf'
      cases hf'
    · split at hf'
      · rename_i hh; subst hh
        exact hsepid _ _ _ k1 (hold _ _ _ _ k1 hw)
      · exact hd.nofrz i ob1 b1 o' u k1 (hold _ _ _ _ k1 hw) hf'

theorem frozen_rep {γ γ' : Ghost} {id b n cap : Nat} {k : Option Nat} {cs es : List AV} {cur : Array Value} {t : Nat} (hle : γ.le γ') (hch : chunk k n cs = some es) (h1 : allOne cs = true) (hl : cs.length = cap * k.getD 1) (hn : n ≤ cap) (hc : cap ≤ maxLen)
    (hrow : ∀ j x, j < n * k.getD 1 → cs[j]? = some x → γ'.frz b j = some (cur.getD j undef) ∧ Rep γ x (cur.getD j undef)) (ht : γ'.tk t = some (b, n * k.getD 1, cs.length)) (hw : γ'.w0.heap.size ≤ b) : Rep γ' (.lst es (.tok t)) (.slice (some ⟨b, 0, none⟩) n cap) := by
  have hch' : chunk k n (cs.take (n * k.getD 1)) = some es := by
    clear hl hrow ht
    induction n generalizing cs es with
    | zero => exact hch
    | succ n ih =>
      simp only [chunk] at hch ⊢
      have e1 : elem k (cs.take ((n + 1) * k.getD 1)) = elem k cs := by
        cases k with
        | none => cases cs <;> simp [elem]
        | some s =>
          simp only [elem, Option.getD_some, List.length_take, List.take_take]
          rw [show min s ((n + 1) * s) = s from Nat.min_eq_left (Nat.le_mul_of_pos_left s (by omega))]
          by_cases hs : s ≤ cs.length
          · rw [if_pos hs, if_pos]; rw [Nat.le_min]; exact ⟨Nat.le_mul_of_pos_left s (by omega), hs⟩
          · rw [if_neg hs, if_neg]; rw [Nat.le_min]; exact fun hh => hs hh.2
      have e2 : (cs.take ((n + 1) * k.getD 1)).drop (k.getD 1) = (cs.drop (k.getD 1)).take (n * k.getD 1) := by
        rw [List.drop_take, Nat.succ_mul, Nat.add_sub_cancel]
      rw [e1, e2]
      split at hch
      · rename_i x xs hx hxs
        have hall : allOne (cs.drop (k.getD 1)) = true := by
          unfold allOne at h1 ⊢
          rw [List.all_eq_true] at h1 ⊢
          exact fun y hy => h1 y (List.mem_of_mem_drop hy)
        rw [hx, ih hxs hall (by omega)]
        exact hch
      · cases hch
  refine rep_row_lst (us := cur) hch' (chunk_one hch h1) (fun j x hx => ?_) (fun j x hx => ?_) hn hc ⟨by simpa [hl] using ht, hw⟩
  · rw [List.getElem?_take] at hx
    split at hx
    · rename_i hj; exact (hrow j x hj hx).2.mono hle
    · cases hx
  · rw [List.getElem?_take] at hx
    split at hx
    · rename_i hj; rw [Nat.zero_add]; exact (hrow j x hj hx).1
    · cases hx

theorem Ent.freeze {id n cap : Nat} {k : Option Nat} {cs es : List AV} {r : Heap} {Q : AV → Heap → Prop} (p : m.Perm ((id, .cells cs) :: r)) (hch : chunk k n cs = some es) (h1 : allOne cs = true) (hl : cs.length = cap * k.getD 1) (hn : n ≤ cap)
    (h : ∀ t, t ∉ keys r → Ent (.lst es (.tok t)) ((t, .tail) :: r) Q) : Ent (.mref id 0 n cap) m Q := fun γ mf v w hr s => by
  have s1 : Sat γ ((id, .cells cs) :: (r ++ mf)) w := s.perm (p.append_right mf)
  cases hr with
  | mref _ _ _ _ b hb h2 h3 =>
    obtain ⟨γ', hle, hw, ⟨cur, hc, hrow⟩, htk, s2⟩ := s1.freeze_tok hb (n * k.getD 1) (by rw [hl]; exact Nat.mul_le_mul_right _ hn)
    have hr' := frozen_rep (id := id) hle hch h1 hl hn h3 hrow htk (by rw [hle.w0]; exact hw)
    have hnx : γ.nx ∉ keys r := fun hk => by
      have := s1.keys_lt γ.nx (by simp only [keys, List.map_cons, List.map_append, List.mem_cons, List.mem_append]; exact .inr (.inl hk))
      omega
    obtain ⟨γ2, x', m', e1, e2, e3, e4⟩ := h γ.nx hnx γ' mf _ w hr' s2
    exact ⟨γ2, x', m', hle.trans e1, e2, e3, e4⟩

theorem wrap64 {n : Int} (h1 : -9223372036854775808 ≤ n) (h2 : n ≤ 9223372036854775807) : IntKind.i64.wrap n = n := by
  have e : IntKind.i64.wrap n = if n % 18446744073709551616 ≥ 9223372036854775808 then n % 18446744073709551616 - 18446744073709551616 else n % 18446744073709551616 := by
    show (if (true && decide (n % 18446744073709551616 ≥ 9223372036854775808)) = true then _ else _) = _
    simp only [Bool.true_and, decide_eq_true_eq]
    rfl
  rw [e]
  split <;> omega
theorem maxLen_e : maxLen = 9223372036854775807 := by decide

end
end Go.Proofs.Ytceahampebofbaa.Moi
