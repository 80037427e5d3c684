/- More of the machine's operations: addresses, slices, new memory. -/
import Derived.Test.YtceahampebofbaaMoiE
set_option linter.unusedVariables false
set_option linter.unusedSimpArgs false
namespace Go.Proofs.Ytceahampebofbaa.Moi
open Go Go.RowKit

section
variable {P : Program}

theorem bnd_ok {γ : Ghost} {x : AV} {v : Value} {K : Int → Prop} (hr : Rep γ x v) (h : bnd x K) : ∃ k n, v = .int k n ∧ x = .sc (.int k n) ∧ K n := by
  unfold bnd at h
  split at h
  · cases hr; exact ⟨_, _, rfl, rfl, h⟩
  · exact h.elim

/-- The elements of a list in memory. -/
theorem Rep.lst_inv {γ : Ghost} {es : List AV} {o : Own} {v : Value} (h : Rep γ (.lst es o) v) (hne : es ≠ []) :
    ∃ (b off cap sz : Nat) (u : Nat → Value), v = .slice (some ⟨b, off, none⟩) es.length cap ∧ es.length ≤ cap ∧ cap ≤ maxLen ∧ (∀ e ∈ es, e.cells.length = sz) ∧ OwnOk γ b off es.length cap sz o ∧
      (∀ i e j x, es[i]? = some e → e.cells[j]? = some x → γ.frz b (off + (i * sz + j)) = some (u (i * sz + j)) ∧ Rep γ x (u (i * sz + j))) := by
  cases h with
  | lnil => exact absurd rfl hne
  | lemp => exact absurd rfl hne
  | lst es o b off cap sz u h1 h2 h3 h4 h5 h6 => exact ⟨b, off, cap, sz, u, rfl, h1, h2, h3, h4, fun i e j x a c => ⟨h5 i e j x a c, h6 i e j x a c⟩⟩

theorem ok_idxAddr {o : Oper} {t e : TypeId} {x y : Operand} {i : TypeInfo} (ho : o.op = .indexAddr t x y) (ht : P.underlying t = some (.slice e)) (hi : P.info? e = some i) : OpOk P (.idxAddr i.size (nopd x) (nopd y)) o := by
  intro γ mf ρ m a w K hr hs hv
  have hx := ev_ok hr x
  obtain ⟨k, n, e1, _, h0, hv⟩ := bnd_ok (ev_ok hr y) hv
  have run : ∀ (b off len cap : Nat), n < (len : Int) → (Instr.indexAt t (.slice (some ⟨b, off, none⟩) len cap) (.int k n)).run P w = .ok (.pointer (some ⟨b, off + n.toNat * i.size, none⟩)) w := fun b off len cap hn => by
    simp [Instr.indexAt, asIntOf, run_underlying ht, sizeOf, typeInfo, hi, h0, hn, addr_add]
  split at hv <;> try (exact hv.elim)
  · rename_i es ow he
    rw [he] at hx
    obtain ⟨el, hel, hsz, hK⟩ := hv
    have hlt := (List.getElem?_eq_some_iff.1 hel).1
    obtain ⟨b, off, cap, sz, u, hvx, h1, h2, h3, h4, h5⟩ := hx.lst_inv (by rintro rfl; simp at hel)
    have hsz' : sz = i.size := by rw [← h3 el (List.mem_of_getElem? hel)]; exact hsz
    refine ⟨_, w, ran_of (s := Instr.indexAt t (a.eval x) (a.eval y)) (by simp [execOp, ho]) (by rw [hvx, e1]; exact run b off _ cap (by omega)), Fin.same (.vptr _ b _ (fun j => u (n.toNat * i.size + j)) ?_ ?_) hs hK⟩
    · intro j z hj
      have := (h5 n.toNat el j z hel hj).1
      rw [hsz'] at this
      rw [Nat.add_assoc]; exact this
    · intro j z hj
      have := (h5 n.toNat el j z hel hj).2
      rw [hsz'] at this
      exact this
  · rename_i id off len cap he
    rw [he] at hx
    obtain ⟨hlt, hK⟩ := hv
    generalize hvx : a.eval x = vx at hx
    cases hx with
    | mref _ _ _ _ b hb hl hm =>
      exact ⟨_, w, ran_of (s := Instr.indexAt t (a.eval x) (a.eval y)) (by simp [execOp, ho]) (by rw [hvx, e1]; exact run b off _ cap hlt), Fin.same (.ptr _ _ b hb) hs hK⟩

theorem ok_idxArr {o : Oper} {t e : TypeId} {len : Nat} {x y : Operand} {i : TypeInfo} (ho : o.op = .indexAddr t x y) (ht : P.underlying t = some (.array len e)) (hi : P.info? e = some i) : OpOk P (.idxArr len i.size (nopd x) (nopd y)) o := by
  intro γ mf ρ m a w K hr hs hv
  have hx := ev_ok hr x
  obtain ⟨k, n, e1, _, h0, hn, hv⟩ := bnd_ok (ev_ok hr y) hv
  have run : ∀ b off, (Instr.indexAt t (.pointer (some ⟨b, off, none⟩)) (.int k n)).run P w = .ok (.pointer (some ⟨b, off + n.toNat * i.size, none⟩)) w := fun b off => by
    simp [Instr.indexAt, asIntOf, run_underlying ht, sizeOf, typeInfo, hi, h0, hn, addr_add, Instr.sureAddr]
  split at hv <;> try (exact hv.elim)
  · rename_i id off he
    rw [he] at hx
    generalize hvx : a.eval x = vx at hx
    cases hx with
    | ptr _ _ b hb => exact ⟨_, w, ran_of (s := Instr.indexAt t (a.eval x) (a.eval y)) (by simp [execOp, ho]) (by rw [hvx, e1]; exact run b off), Fin.same (.ptr _ _ b hb) hs hv⟩
  · rename_i cs he
    rw [he] at hx
    generalize hvx : a.eval x = vx at hx
    cases hx with
    | vptr _ b off u h1 h2 =>
      refine ⟨_, w, ran_of (s := Instr.indexAt t (a.eval x) (a.eval y)) (by simp [execOp, ho]) (by rw [hvx, e1]; exact run b off), Fin.same (.vptr _ b (off + n.toNat * i.size) (fun j => u (n.toNat * i.size + j)) ?_ ?_) hs hv⟩
      · intro j y hj
        rw [List.getElem?_drop] at hj
        rw [Nat.add_assoc]; exact h1 _ _ hj
      · intro j y hj
        rw [List.getElem?_drop] at hj
        exact h2 _ _ hj

theorem ok_idxStr {o : Oper} {t : TypeId} {x y : Operand} (ho : o.op = .index t x y) (ht : P.underlying t = some .string) : OpOk P (.idxStr (nopd x) (nopd y)) o := by
  intro γ mf ρ m a w K hr hs hv
  have hx := ev_ok hr x
  obtain ⟨k, n, e1, _, h0, hv⟩ := bnd_ok (ev_ok hr y) hv
  split at hv <;> try (exact hv.elim)
  rename_i s he
  rw [he] at hx
  obtain ⟨c, hc, hK⟩ := hv
  generalize hvx : a.eval x = vx at hx
  cases hx
  refine ⟨_, w, ran_of (s := Instr.index t (a.eval x) (a.eval y)) (by simp [execOp, ho]) ?_, Fin.same (.sc _) hs hK⟩
  rw [hvx, e1]
  have hlt := (Array.getElem?_eq_some_iff.1 hc).1
  have hlt' : n.toNat < s.size := hlt
  have hget : s[n.toNat] = c := by
    have := (Array.getElem?_eq_some_iff.1 hc).2
    exact this
  simp [Instr.index, asIntOf, run_underlying ht, h0, hlt', hget]

theorem ok_idxAgg {o : Oper} {t e : TypeId} {len : Nat} {x y : Operand} {k : Option Nat} (ho : o.op = .index t x y) (ht : P.underlying t = some (.array len e)) (hk : ekOf P e = some k) : OpOk P (.idxAgg len k (nopd x) (nopd y)) o := by
  intro γ mf ρ m a w K hr hs hv
  have hx := ev_ok hr x
  obtain ⟨kd, n, e1, _, h0, hn, hv⟩ := bnd_ok (ev_ok hr y) hv
  split at hv <;> try (exact hv.elim)
  rename_i cs he
  rw [he] at hx
  obtain ⟨z, hz, hK⟩ := hv
  generalize hvx : a.eval x = vx at hx
  cases hx with
  | agg _ us h1 h2 =>
    obtain ⟨v, h3, h4⟩ := run_part (P := P) hk h1 h2 hz w
    obtain ⟨d, i, hd, hi, hsz, _, _⟩ := ekOf_some hk
    refine ⟨v, w, ran_of (s := Instr.index t (a.eval x) (a.eval y)) (by simp [execOp, ho]) ?_, Fin.same h4 hs hK⟩
    rw [hvx, e1]
    simp [Instr.index, asIntOf, run_underlying ht, h0, hn, sizeOf, typeInfo, hi, hsz, h3]

/-! ### Cuts -/
theorem bndOr_ok {γ : Ghost} {ρ : Regs} {a : Act} (hr : RegOk γ ρ a.tmps) {x : Option Operand} {d : Int} {K : Int → Prop} (h : bndOr ρ (x.map nopd) d K) :
    ∃ n, K n ∧ ((x = none ∧ n = d) ∨ ∃ y k, x = some y ∧ a.eval y = .int k n) := by
  cases x with
  | none => exact ⟨d, h, .inl ⟨rfl, rfl⟩⟩
  | some y =>
    obtain ⟨k, n, h1, _, h2⟩ := bnd_ok (ev_ok hr y) h
    exact ⟨n, h2, .inr ⟨y, k, rfl, h1⟩⟩

theorem run_sliceBound (k : IntKind) (n : Int) (y : Nat) (c : BoundsCode) (h0 : 0 ≤ n) (h1 : n ≤ y) (w : World) : (Instr.sliceBound (.int k n) y c).run P w = .ok n.toNat w := by
  simp [Instr.sliceBound, asIntOf, h0, h1]

theorem run_sliceBounds {a : Act} {lo hi : Option Operand} {len cap : Nat} {l h : Int} (b : Bool) (hlo : (lo = none ∧ l = 0) ∨ ∃ y k, lo = some y ∧ a.eval y = .int k l)
    (hhi : (hi = none ∧ h = len) ∨ ∃ y k, hi = some y ∧ a.eval y = .int k h) (h0 : 0 ≤ l) (h1 : l ≤ h) (h2 : h ≤ cap) (w : World) :
    (Instr.sliceBounds b len cap (lo.map a.eval) (hi.map a.eval) none).run P w = .ok (l.toNat, h.toNat, cap) w := by
  unfold Instr.sliceBounds
  have e1 : ∀ c1, l ≤ (h.toNat : Int) := fun _ => by omega
  rcases hlo with ⟨rfl, rfl⟩ | ⟨y, k, rfl, e⟩ <;> rcases hhi with ⟨rfl, rfl⟩ | ⟨y', k', rfl, e'⟩
  · simp
  · simp [e', run_sliceBound _ _ _ _ (by omega) h2]
  · simp [e, run_sliceBound _ _ _ _ h0 h1]
  · simp [e, e', run_sliceBound _ h _ _ (by omega) h2, run_sliceBound _ l _ _ h0 (show l ≤ (h.toNat : Int) by omega)]

theorem run_sliceBounds3 {a : Act} {lo hi : Option Operand} {mx : Operand} {len cap : Nat} {l h c : Int} {kc : IntKind} (b : Bool) (hlo : (lo = none ∧ l = 0) ∨ ∃ y k, lo = some y ∧ a.eval y = .int k l)
    (hhi : ∃ y k, hi = some y ∧ a.eval y = .int k h) (hmx : a.eval mx = .int kc c) (h0 : 0 ≤ l) (h1 : l ≤ h) (h2 : h ≤ c) (h3 : c ≤ cap) (w : World) :
    (Instr.sliceBounds b len cap (lo.map a.eval) (hi.map a.eval) (some (a.eval mx))).run P w = .ok (l.toNat, h.toNat, c.toNat) w := by
  unfold Instr.sliceBounds
  obtain ⟨y', k', rfl, e'⟩ := hhi
  rcases hlo with ⟨rfl, rfl⟩ | ⟨y, k, rfl, e⟩
  · simp [e', hmx, run_sliceBound _ c _ _ (by omega) h3, run_sliceBound _ h _ _ (by omega) (show h ≤ (c.toNat : Int) by omega)]
  · simp [e, e', hmx, run_sliceBound _ c _ _ (by omega) h3, run_sliceBound _ h _ _ (by omega) (show h ≤ (c.toNat : Int) by omega), run_sliceBound _ l _ _ h0 (show l ≤ (h.toNat : Int) by omega)]

theorem ok_sliceS {o : Oper} {t : TypeId} {x : Operand} {lo hi : Option Operand} (ho : o.op = .slice t x lo hi none) (ht : P.underlying t = some .string) : OpOk P (.sliceS (nopd x) (lo.map nopd) (hi.map nopd)) o := by
  intro γ mf ρ m a w K hr hs hv
  have hx := ev_ok hr x
  simp only [vop] at hv
  split at hv <;> try (exact hv.elim)
  rename_i s he
  rw [he] at hx
  obtain ⟨l, hv, hl⟩ := bndOr_ok hr hv
  obtain ⟨h, ⟨h0, h1, h2, hK⟩, hh⟩ := bndOr_ok hr hv
  generalize hvx : a.eval x = vx at hx
  cases hx
  refine ⟨_, w, ran_of (s := Instr.sliceAt t (a.eval x) (lo.map a.eval) (hi.map a.eval) none) (by simp [execOp, ho]) ?_, Fin.same (.sc _) hs hK⟩
  rw [hvx]
  simp [Instr.sliceAt, Instr.slice, run_underlying ht, run_sliceBounds false hl hh h0 h1 h2]

/-- A list cut out of a list. -/
theorem cut_lst {γ : Ghost} {es : List AV} {b off sz cap : Nat} {u : Nat → Value} {o : Own} (l n : Nat) (hln : l + n ≤ es.length) (hc : n ≤ cap) (hm : cap ≤ maxLen) (h3 : ∀ e ∈ es, e.cells.length = sz)
    (ho : OwnOk γ b (off + l * sz) n cap sz o)
    (h5 : ∀ i e j x, es[i]? = some e → e.cells[j]? = some x → γ.frz b (off + (i * sz + j)) = some (u (i * sz + j)) ∧ Rep γ x (u (i * sz + j))) :
    Rep γ (.lst ((es.drop l).take n) o) (.slice (some ⟨b, off + l * sz, none⟩) n cap) := by
  have hlen : ((es.drop l).take n).length = n := by simp; omega
  have hget : ∀ (i : Nat) (e : AV), ((es.drop l).take n)[i]? = some e → es[l + i]? = some e := fun i e hi => by
    rw [List.getElem?_take] at hi
    split at hi
    · rwa [List.getElem?_drop] at hi
    · cases hi
  have hidx : ∀ i j, (l + i) * sz + j = l * sz + (i * sz + j) := fun i j => by rw [Nat.add_mul]; omega
  have := Rep.lst (γ := γ) ((es.drop l).take n) o b (off + l * sz) cap sz (fun p => u (l * sz + p)) (by rw [hlen]; exact hc) hm (fun e he => h3 e ((List.drop_subset _ _) ((List.take_subset _ _) he)))
    (by rw [hlen]; exact ho)
    (fun i e j x hi hj => by have := (h5 (l + i) e j x (hget i e hi) hj).1; rw [hidx] at this; rw [Nat.add_assoc]; exact this)
    (fun i e j x hi hj => by have := (h5 (l + i) e j x (hget i e hi) hj).2; rw [hidx] at this; exact this)
  rw [hlen] at this
  exact this

theorem Rep.lst_nil {γ : Ghost} {o : Own} {v : Value} (h : Rep γ (.lst [] o) v) : ∃ a cap, v = .slice a 0 cap ∧ cap ≤ maxLen := by
  cases h with
  | lnil => exact ⟨none, 0, rfl, by simp [maxLen]⟩
  | lemp a n hn => exact ⟨a, n, rfl, hn⟩
  | lst es o b off cap sz u h1 h2 h3 h4 h5 h6 => exact ⟨_, cap, rfl, h2⟩

theorem rep_cut {γ : Ghost} {es : List AV} {ow o' : Own} {v : Value} (hr : Rep γ (.lst es ow) v) (hne : es ≠ []) (l h c s : Nat) (hlh : l ≤ h) (hh : h ≤ es.length) (hhc : h ≤ c) (hsz : l ≠ 0 → szOk s es)
    (ho : o' = .any ∨ (o' = .fix ∧ c = h) ∨ (o' = .full ∧ c = h ∧ (ow = .full ∨ ∃ i, ow = .tok i))) :
    ∃ b off cap, v = .slice (some ⟨b, off, none⟩) es.length cap ∧ es.length ≤ cap ∧ cap ≤ maxLen ∧
      (c ≤ cap → Rep γ (.lst ((es.drop l).take (h - l)) o') (.slice (if c = l then some ⟨b, off, none⟩ else (some (⟨b, off, none⟩ : Addr)).map (·.add (l * s))) (h - l) (c - l))) := by
  obtain ⟨b, off, cap, sz, u, hvx, a1, a2, a3, a4, a5⟩ := hr.lst_inv hne
  refine ⟨b, off, cap, hvx, a1, a2, fun hc => ?_⟩
  have hown : ∀ off', OwnOk γ b off' (h - l) (c - l) sz o' := fun off' => by
    rcases ho with rfl | ⟨rfl, rfl⟩ | ⟨rfl, rfl, hw⟩
    · trivial
    · rfl
    · refine ⟨rfl, ?_⟩
      rcases hw with rfl | ⟨i, rfl⟩ <;> exact a4.2
  by_cases hcl : c = l
  · rw [if_pos hcl]
    have hhl : h = l := by omega
    subst hhl; subst hcl
    simp only [Nat.sub_self, List.take_zero]
    exact Rep.lst [] o' b off 0 sz (fun _ => undef) (by simp) (by simp [maxLen]) (by simp) (by have := hown off; simpa using this) (by simp) (by simp)
  · rw [if_neg hcl]
    simp only [Option.map_some, addr_add]
    have hshift : l * s = l * sz := by
      by_cases hl : l = 0
      · simp [hl]
      · have := hsz hl
        cases es with
        | nil => exact absurd rfl hne
        | cons e es => rw [← this e (by simp), ← a3 e (by simp)]
    rw [hshift]
    exact cut_lst l (h - l) (by omega) (by omega) (by omega) a3 (hown _) a5

theorem ok_sliceL {o : Oper} {t e : TypeId} {x : Operand} {lo hi mx : Option Operand} {i : TypeInfo} (ho : o.op = .slice t x lo hi mx) (ht : P.underlying t = some (.slice e)) (hi' : P.info? e = some i) (hmh : mx ≠ none → hi ≠ none) :
    OpOk P (.sliceL i.size (nopd x) (lo.map nopd) (hi.map nopd) (mx.map nopd)) o := by
  intro γ mf ρ m a w K hr hs hv
  have hx := ev_ok hr x
  have hop : ∀ v, (Instr.sliceAt t (a.eval x) (lo.map a.eval) (hi.map a.eval) (mx.map a.eval)).run P w = .ok v w → Ran P o a w v w := fun v h =>
    ran_of (s := Instr.sliceAt t (a.eval x) (lo.map a.eval) (hi.map a.eval) (mx.map a.eval)) (by simp [execOp, ho]) h
  have run2 : ∀ (ad : Option Addr) (len cap : Nat) (l h : Int), mx = none → ((lo = none ∧ l = 0) ∨ ∃ y k, lo = some y ∧ a.eval y = .int k l) → ((hi = none ∧ h = len) ∨ ∃ y k, hi = some y ∧ a.eval y = .int k h) →
      0 ≤ l → l ≤ h → h ≤ cap → (Instr.sliceAt t (.slice ad len cap) (lo.map a.eval) (hi.map a.eval) (mx.map a.eval)).run P w =
        .ok (.slice (if cap = l.toNat then ad else ad.map (·.add (l.toNat * i.size))) (h.toNat - l.toNat) (cap - l.toNat)) w := fun ad len cap l h e0 hl hh h0 h1 h2 => by
    subst e0
    simp [Instr.sliceAt, Instr.slice, run_underlying ht, run_sliceBounds true hl hh h0 h1 h2, sizeOf, typeInfo, hi']
  have run3 : ∀ (ad : Option Addr) (len cap : Nat) (l h c : Int) (y : Operand) (kc : IntKind), mx = some y → a.eval y = .int kc c → ((lo = none ∧ l = 0) ∨ ∃ y k, lo = some y ∧ a.eval y = .int k l) → ((hi = none ∧ h = len) ∨ ∃ y k, hi = some y ∧ a.eval y = .int k h) →
      0 ≤ l → l ≤ h → h ≤ c → c ≤ cap → (Instr.sliceAt t (.slice ad len cap) (lo.map a.eval) (hi.map a.eval) (mx.map a.eval)).run P w =
        .ok (.slice (if c.toNat = l.toNat then ad else ad.map (·.add (l.toNat * i.size))) (h.toNat - l.toNat) (c.toNat - l.toNat)) w := fun ad len cap l h c y kc e0 e1 hl hh h0 h1 h2 h3 => by
    subst e0
    have hh' : ∃ y k, hi = some y ∧ a.eval y = .int k h := by
      rcases hh with ⟨rfl, _⟩ | hh
      · exact absurd rfl (hmh (by simp))
      · exact hh
    simp [Instr.sliceAt, Instr.slice, run_underlying ht, run_sliceBounds3 (P := P) true hl hh' e1 h0 h1 h2 h3, sizeOf, typeInfo, hi']
  simp only [vop] at hv
  split at hv <;> try (exact hv.elim)
  · rename_i es ow he
    rw [he] at hx
    obtain ⟨l, hv, hl⟩ := bndOr_ok hr hv
    obtain ⟨h, hv, hh⟩ := bndOr_ok hr hv
    cases hmx : mx with
    | none =>
      simp only [hmx, Option.map_none] at hv
      obtain ⟨h0, h1, h2, hsz, hK⟩ := hv
      by_cases hes : es = []
      · subst hes
        obtain ⟨ad, cap, hvx, hcm⟩ := hx.lst_nil
        have hl0 : l = 0 := by simp at h2; omega
        have hh0 : h = 0 := by simp at h2; omega
        subst hl0; subst hh0
        rw [hvx] at hx
        refine ⟨_, w, hop _ (by rw [hvx]; exact run2 ad 0 cap 0 0 hmx hl (by simpa using hh) (by omega) (by omega) (by omega)), Fin.same ?_ hs hK⟩
        have hid : (if cap = (0 : Int).toNat then ad else ad.map (·.add ((0 : Int).toNat * i.size))) = ad := by
          split
          · rfl
          · cases ad <;> simp [Addr.add]
        rw [hid]
        simpa using hx
      · by_cases hfull : l = 0 ∧ h = es.length
        · obtain ⟨b, off, cap, sz, u, hvx, a1, a2, a3, a4, a5⟩ := hx.lst_inv hes
          rw [if_pos hfull] at hK
          obtain ⟨rfl, rfl⟩ := hfull
          have ran := run2 (some ⟨b, off, none⟩) es.length cap 0 es.length hmx hl hh h0 h1 (by omega)
          have hid : (if cap = (0 : Int).toNat then some (⟨b, off, none⟩ : Addr) else (some (⟨b, off, none⟩ : Addr)).map (·.add ((0 : Int).toNat * i.size))) = some ⟨b, off, none⟩ := by
            split
            · rfl
            · simp [Addr.add]
          rw [hid] at ran
          refine ⟨_, w, hop _ (by rw [hvx]; exact ran), Fin.same ?_ hs hK⟩
          rw [hvx] at hx
          simpa using hx
        · rw [if_neg hfull] at hK
          obtain ⟨b0, off0, cap0, _, _, hvx0, b1, _⟩ := hx.lst_inv hes
          obtain ⟨b, off, cap, hvx, a1, a2, hc⟩ := rep_cut hx hes l.toNat h.toNat cap0 i.size (by omega) (by omega) (by omega) (fun e => hsz (by omega)) (o' := .any) (.inl rfl)
          rw [hvx] at hvx0
          simp only [Value.slice.injEq, true_and] at hvx0
          obtain ⟨_, rfl⟩ := hvx0
          exact ⟨_, w, hop _ (by rw [hvx]; exact run2 (some ⟨b, off, none⟩) es.length cap l h hmx hl hh h0 h1 (by omega)), Fin.same (hc (Nat.le_refl _)) hs hK⟩
    | some y =>
      simp only [hmx, Option.map_some] at hv
      obtain ⟨kc, c, ec, _, h0, h1, rfl, h2, hsz, hK⟩ := bnd_ok (ev_ok hr y) hv
      by_cases hes : es = []
      · subst hes
        obtain ⟨ad, cap, hvx, hcm⟩ := hx.lst_nil
        have hl0 : l = 0 := by simp at h2; omega
        have hh0 : h = 0 := by simp at h2; omega
        subst hl0; subst hh0
        refine ⟨_, w, hop _ (by rw [hvx]; exact run3 ad 0 cap 0 0 0 y kc hmx ec hl (by simpa using hh) (by omega) (by omega) (by omega) (by omega)), Fin.same ?_ hs hK⟩
        simp only [Int.toNat_zero, Nat.sub_self, List.drop_nil, List.take_nil, capOwn]
        exact .lemp _ _ (by simp [maxLen])
      · have hco : capOwn es ow = .any ∨ (capOwn es ow = .fix ∧ h.toNat = h.toNat) ∨ (capOwn es ow = .full ∧ h.toNat = h.toNat ∧ (ow = .full ∨ ∃ i, ow = .tok i)) := by
          cases es with
          | nil => exact absurd rfl hes
          | cons e es => cases ow <;> simp [capOwn]
        obtain ⟨b, off, cap, hvx, a1, a2, hc⟩ := rep_cut hx hes l.toNat h.toNat h.toNat i.size (by omega) (by omega) (by omega) (fun e => hsz (by omega)) hco
        exact ⟨_, w, hop _ (by rw [hvx]; exact run3 (some ⟨b, off, none⟩) es.length cap l h h y kc hmx ec hl hh h0 h1 (by omega) (by omega)), Fin.same (hc (by omega)) hs hK⟩
  · rename_i id off len cap he
    rw [he] at hx
    obtain ⟨l, hv, hl⟩ := bndOr_ok hr hv
    obtain ⟨h, hv, hh⟩ := bndOr_ok hr hv
    generalize hvx : a.eval x = vx at hx
    cases hx with
    | mref _ _ _ _ b hb hlc hcm =>
    cases hmx : mx with
    | none =>
      simp only [hmx, Option.map_none] at hv
      obtain ⟨h0, h1, h2, hK⟩ := hv
      have ran := run2 (some ⟨b, off, none⟩) len cap l h hmx hl hh h0 h1 h2
      refine ⟨_, w, hop _ (by rw [hvx]; exact ran), Fin.same ?_ hs hK⟩
      by_cases hcl : (cap : Int) = l
      · rw [if_pos hcl, if_pos (by omega)]
        exact .mref _ _ _ _ b hb (by omega) (by omega)
      · rw [if_neg hcl, if_neg (by omega)]
        simp only [Option.map_some, addr_add]
        exact .mref _ _ _ _ b hb (by omega) (by omega)
    | some y =>
      simp only [hmx, Option.map_some] at hv
      obtain ⟨kc, c, ec, _, h0, h1, h2, h3, hK⟩ := bnd_ok (ev_ok hr y) hv
      have ran := run3 (some ⟨b, off, none⟩) len cap l h c y kc hmx ec hl hh h0 h1 h2 h3
      refine ⟨_, w, hop _ (by rw [hvx]; exact ran), Fin.same ?_ hs hK⟩
      by_cases hcl : c = l
      · rw [if_pos hcl, if_pos (by omega)]
        exact .mref _ _ _ _ b hb (by omega) (by omega)
      · rw [if_neg hcl, if_neg (by omega)]
        simp only [Option.map_some, addr_add]
        exact .mref _ _ _ _ b hb (by omega) (by omega)

theorem ok_sliceA {o : Oper} {t e : TypeId} {n : Nat} {x : Operand} {lo hi : Option Operand} {i : TypeInfo} (ho : o.op = .slice t x lo hi none) (ht : P.underlying t = some (.array n e)) (hi' : P.info? e = some i) :
    OpOk P (.sliceA n i.size (nopd x) (lo.map nopd) (hi.map nopd)) o := by
  intro γ mf ρ m a w K hr hs hv
  have hx := ev_ok hr x
  simp only [vop] at hv
  split at hv <;> try (exact hv.elim)
  rename_i id off he
  rw [he] at hx
  obtain ⟨l, hv, hl⟩ := bndOr_ok hr hv
  obtain ⟨h, ⟨h0, h1, h2, h3, hK⟩, hh⟩ := bndOr_ok hr hv
  generalize hvx : a.eval x = vx at hx
  cases hx with
  | ptr _ _ b hb =>
    refine ⟨_, w, ran_of (s := Instr.sliceAt t (a.eval x) (lo.map a.eval) (hi.map a.eval) none) (v := .slice (some (if n = l.toNat then ⟨b, off, none⟩ else (⟨b, off, none⟩ : Addr).add (l.toNat * i.size))) (h.toNat - l.toNat) (n - l.toNat)) (by simp [execOp, ho]) ?_, Fin.same ?_ hs hK⟩
    · rw [hvx]
      simp [Instr.sliceAt, run_underlying ht, Instr.sureAddr, run_sliceBounds false hl hh h0 h1 h2, sizeOf, typeInfo, hi']
    · by_cases hcl : (n : Int) = l
      · rw [if_pos hcl, if_pos (by omega)]
        exact .mref _ _ _ _ b hb (by omega) (by omega)
      · rw [if_neg hcl, if_neg (by omega), addr_add]
        exact .mref _ _ _ _ b hb (by omega) (by omega)

end
end Go.Proofs.Ytceahampebofbaa.Moi
