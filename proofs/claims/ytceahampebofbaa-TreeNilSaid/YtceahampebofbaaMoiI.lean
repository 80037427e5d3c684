/- The machine's append is the append of plain lists. -/
import Derived.Test.YtceahampebofbaaMoiH
set_option linter.unusedVariables false
set_option linter.unusedSimpArgs false
namespace Go.Proofs.Ytceahampebofbaa.Moi
open Go Go.RowKit

section
variable {P : Program}

theorem RowRep.append {γ : Ghost} {a b : List AV} {u v : Array Value} (h : RowRep γ a u) (k : RowRep γ b v) : RowRep γ (a ++ b) (u ++ v) := by
  refine ⟨by simp [h.1, k.1], fun j x hj => ?_⟩
  rw [Array.getD_eq_getD_getElem?]
  by_cases hlt : j < a.length
  · rw [List.getElem?_append_left hlt] at hj
    rw [Array.getElem?_append_left (by rw [h.1]; exact hlt)]
    have := h.2 j x hj
    rwa [Array.getD_eq_getD_getElem?] at this
  · rw [List.getElem?_append_right (by omega)] at hj
    rw [Array.getElem?_append_right (by rw [h.1]; omega), h.1]
    have := k.2 _ x hj
    rwa [Array.getD_eq_getD_getElem?] at this

theorem zeroCells_rep {γ : Ghost} {z : Value} (n : Nat) : RowRep γ (List.replicate n (z.cells.toList.map aconst)).flatten (Builtin.zeroCells z.cells n) := by
  have : Builtin.zeroCells z.cells n = madeCells z.cells (n * z.cells.size) := rfl
  rw [this]
  exact ⟨by simp [size_madeCells], madeCells_rep⟩

theorem Sat.del {γ : Ghost} {m : Heap} {w : World} (h : Sat γ m w) (id : Nat) : Sat γ (del id m) w :=
  ⟨h.below, (keys_del_sub id m).nodup h.nd, h.fresh, h.frz, fun i o k => h.obj i o (mem_del h.nd k).2,
    fun i o i' o' b off k k' => h.sep i o i' o' b off (mem_del h.nd k).2 (mem_del h.nd k').2, fun i o b off u k => h.nofrz i o b off u (mem_del h.nd k).2⟩

theorem fresh_id {γ : Ghost} {m mf : Heap} {w : World} (h : Sat γ (m ++ mf) w) : γ.nx ∉ keys m := fun hk => by
  have := h.keys_lt γ.nx (by simp only [keys, List.map_append, List.mem_append]; exact .inl hk)
  omega

theorem flat_get {k : Option Nat} : ∀ {es : List AV} {i : Nat} {e : AV} {j : Nat} {x : AV}, sized k es → es[i]? = some e → e.cells[j]? = some x → (flat es)[i * k.getD 1 + j]? = some x
  | [], i, e, j, x, _, hi, _ => by simp at hi
  | e0 :: es, i, e, j, x, hz, hi, hj => by
    have h0 := sized_len hz e0 (by simp)
    rw [flat_cons]
    match i, hi with
    | 0, hi =>
      simp at hi; subst hi
      rw [List.getElem?_append_left (by have := (List.getElem?_eq_some_iff.1 hj).1; omega)]
      simpa using hj
    | i + 1, hi =>
      rw [List.getElem?_append_right (by rw [Nat.add_mul]; omega), h0]
      rw [show (i + 1) * k.getD 1 + j - k.getD 1 = i * k.getD 1 + j by rw [Nat.add_mul]; omega]
      exact flat_get (fun e he => hz e (by simp [he])) (by simpa using hi) hj

/-- The elements of a row whose first cells never change are a list. -/
theorem rep_flat_lst {γ : Ghost} {k : Option Nat} {es : List AV} {b cap : Nat} {us : Array Value} {o : Own} (hz : sized k es) (hrow : ∀ j x, (flat es)[j]? = some x → Rep γ x (us.getD j undef))
    (hf : ∀ j, j < (flat es).length → γ.frz b j = some (us.getD j undef)) (hc : es.length ≤ cap) (hm : cap ≤ maxLen) (ho : OwnOk γ b 0 es.length cap (k.getD 1) o) : Rep γ (.lst es o) (.slice (some ⟨b, 0, none⟩) es.length cap) := by
  have hget := fun (i : Nat) (e : AV) (j : Nat) (x : AV) (hi : es[i]? = some e) (hj : e.cells[j]? = some x) => flat_get hz hi hj
  refine Rep.lst es o b 0 cap (k.getD 1) (fun j => us.getD j undef) hc hm (sized_len hz) ho (fun i e j x hi hj => ?_) (fun i e j x hi hj => hrow _ _ (hget i e j x hi hj))
  rw [Nat.zero_add]
  exact hf _ (List.getElem?_eq_some_iff.1 (hget i e j x hi hj)).1

/-- A list in a new row, with a token for what is behind it. -/
theorem new_tok_lst {γ : Ghost} {m mf : Heap} {w : World} {k : Option Nat} {es : List AV} {us : Array Value} {e : TypeId} {cap : Nat} {rest : List AV} (hs : Sat γ (m ++ mf) w) (hz : sized k es) (hrow : RowRep γ (flat es ++ rest) us)
    (hsize : us.size = cap * k.getD 1) (hc : es.length ≤ cap) (hm : cap ≤ maxLen) : ∃ γ', γ.le γ' ∧ Rep γ' (.lst es (.tok γ.nx)) (.slice (some ⟨w.heap.size, 0, none⟩) es.length cap) ∧ Sat γ' ((γ.nx, .tail) :: m ++ mf) (w.alloc (.cells us e)) := by
  have hfl := flat_length (sized_len hz)
  have hle : (flat es).length ≤ us.size := by rw [hrow.1]; simp
  obtain ⟨γ', h1, h2, h3, h4⟩ := hs.new_tok us e (flat es).length hle
  have hg : ∀ j x, (flat es)[j]? = some x → (flat es ++ rest)[j]? = some x := fun j x hj => by
    rw [List.getElem?_append_left (List.getElem?_eq_some_iff.1 hj).1]; exact hj
  refine ⟨γ', h1, rep_flat_lst (us := us) hz (fun j x hj => (hrow.2 j x (hg j x hj)).mono h1) (fun j hj => ?_) hc hm ⟨?_, ?_⟩, h4⟩
  · rw [h2 j us[j] hj (by simp [show j < us.size by omega])]
    simp [Array.getD, show j < us.size by omega]
  · rw [h3, hfl, hsize]; simp
  · rw [h1.w0]; exact hs.below.size

theorem ok_append {o : Oper} {mu : Bool} {T U e : TypeId} {x y : Operand} {d : TypeDesc} {i : TypeInfo} {k : Option Nat} {zs : List AV} (ho : o.op = .call { callee := .builtin .append, args := #[x, y], argTypes := #[T, U] }) (hT : P.underlying T = some (.slice e))
    (hU : P.underlying U = some d) (hd : d = .string ∨ ∃ e', d = .slice e') (hk : ekOf P e = some k) (hi : P.info? e = some i) (hz : zeroOf P e = some zs) : OpOk P (.append mu k i.bytes zs (nopd x) (nopd y)) o := by
  intro γ mf ρ m a w K hr hs hv
  obtain ⟨hone, hzl, hv⟩ := hv
  obtain ⟨dd, i', hdd, hi', hsz, hagg, hpos⟩ := ekOf_some hk
  rw [hi] at hi'
  obtain rfl := Option.some.inj hi'
  obtain ⟨i', z, q1, q2, q3, rfl, _⟩ := zeroOf_ok hz
  rw [hi] at q1
  obtain rfl := Option.some.inj q1
  have hx := ev_ok hr x
  have hy := ev_ok hr y
  have ran : ∀ v w', (Builtin.append_ #[T, U] o.type #[a.eval x, a.eval y]).run P w = .ok v w' → Ran P o a w v w' := fun v w' h => ran_builtin ho (by simp [builtin, h])
  generalize ev ρ (nopd x) = ax at hv hx
  generalize ev ρ (nopd y) = ay at hv hy
  unfold vappend at hv
  split at hv
  · -- a list
    rename_i es ow
    obtain ⟨ys, hys, hzy, hze, hb, hml, htok, hnil, hcons⟩ := hv
    obtain ⟨hlen, us, hul, hsrc, hur, hu1⟩ := src_ok (P := P) hy hs hys hzy ys.length (Nat.le_refl _)
    rw [List.take_length] at hur
    by_cases hye : ys = []
    · -- nothing is appended
      subst hye
      have hus : us = [] := List.eq_nil_of_length_eq_zero (by simpa using hul)
      subst hus
      have hval : ∃ ad n c, a.eval x = .slice ad n c ∧ n ≤ c := by
        generalize hvx : a.eval x = vx at hx
        cases hx with
        | lnil => exact ⟨none, 0, 0, rfl, Nat.le_refl _⟩
        | lemp ad n hn => exact ⟨ad, 0, n, rfl, Nat.zero_le _⟩
        | lst es o b off cap sz u h1 h2 h3 h4 h5 h6 => exact ⟨_, _, cap, rfl, h1⟩
      obtain ⟨ad, n, c, hval, hnc⟩ := hval
      refine ⟨a.eval x, w, ran _ _ ?_, Fin.same hx hs (hnil rfl)⟩
      rw [hval]
      exact run_append_none hT hU hd hi (by simpa using hlen) (by have := hsrc w rfl; rw [hsz]; simpa using this) hnc
    · have hyp : 0 < ys.length := List.length_pos_iff.2 hye
      obtain ⟨_, old, hol, hold, hor, _⟩ := src_ok (P := P) (k := k) (y := .lst es ow) (ys := es) hx hs rfl hze es.length (Nat.le_refl _)
      rw [List.take_length] at hor
      have hse : sized k (es ++ ys) := fun e he => by
        rcases List.mem_append.1 he with h | h
        · exact hze e h
        · exact hzy e h
      have hlenE : (es ++ ys).length = es.length + ys.length := List.length_append
      -- the row that a growing append makes
      have hRow : RowRep γ (flat (es ++ ys) ++ (List.replicate (grownCap w (es.length + ys.length) 0 e - (es.length + ys.length)) (z.cells.toList.map aconst)).flatten) (old.toArray ++ us.toArray ++ Builtin.zeroCells z.cells (grownCap w (es.length + ys.length) 0 e - (es.length + ys.length))) ∧
          ∀ c, RowRep γ (flat (es ++ ys) ++ (List.replicate (c - (es.length + ys.length)) (z.cells.toList.map aconst)).flatten) (old.toArray ++ us.toArray ++ Builtin.zeroCells z.cells (c - (es.length + ys.length))) := by
        have h1 : RowRep γ (flat es) old.toArray := ⟨by simp [hol, flat_length (sized_len hze)], hor⟩
        have h2 : RowRep γ (flat ys) us.toArray := ⟨by simp [hul, flat_length (sized_len hzy)], hur⟩
        have h3 := h1.append h2
        rw [← flat_append] at h3
        exact ⟨h3.append (zeroCells_rep _), fun c => h3.append (zeroCells_rep _)⟩
      have hSize : ∀ c, es.length + ys.length ≤ c → (old.toArray ++ us.toArray ++ Builtin.zeroCells z.cells (c - (es.length + ys.length))).size = c * k.getD 1 := fun c hc => by
        rw [((hRow.2 c)).1, List.length_append, flat_length (sized_len hse), hlenE, flatten_length, hzl, ← Nat.add_mul]
        congr 1; omega
      have grow : ∀ sCap ad, a.eval x = .slice ad es.length sCap → sCap < es.length + ys.length → (Builtin.append_ #[T, U] o.type #[a.eval x, a.eval y]).run P w =
          .ok (.slice (some ⟨w.heap.size, 0, none⟩) (es.length + ys.length) (grownCap w (es.length + ys.length) sCap e)) (w.drew.alloc (.cells (old.toArray ++ us.toArray ++ Builtin.zeroCells z.cells (grownCap w (es.length + ys.length) sCap e - (es.length + ys.length))) e)) :=
        fun sCap ad hvx hlt => by
          have h1 := hsrc w.drew rfl
          have h2 := hold w.drew rfl
          rw [hvx] at h2 ⊢
          rw [← hsz] at h1 h2
          exact run_append_more hT hU hd hi q2 hlen h1 h2 hlt hml hb
      have hcapge : ∀ sCap, es.length + ys.length ≤ grownCap w (es.length + ys.length) sCap e := fun sCap => grownCap_ge w _ _ e
      have hcapm : ∀ sCap, grownCap w (es.length + ys.length) sCap e ≤ maxLen := fun sCap => grownCap_le_maxLen w _ _ e hml
      -- a growing append ends with a token
      have growTok : ∀ sCap ad (m' : Heap), a.eval x = .slice ad es.length sCap → sCap < es.length + ys.length → Sat γ (m' ++ mf) w → (∀ id, id ∉ keys m → K (.lst (es ++ ys) (.tok id)) ((id, .tail) :: m')) →
          ∃ v w', Ran P o a w v w' ∧ Fin γ mf K v w' := fun sCap ad m' hvx hlt hs' hK => by
        obtain ⟨γ', g1, g2, g3⟩ := new_tok_lst (w := w.drew) (e := e) hs'.drew hse (hRow.2 (grownCap w (es.length + ys.length) sCap e)) (hSize _ (hcapge sCap)) (by rw [hlenE]; exact hcapge sCap) (hcapm sCap)
        rw [hlenE] at g2
        exact ⟨_, _, ran _ _ (grow sCap ad hvx hlt), γ', _, _, g1, g2, g3, hK _ (fresh_id hs)⟩
      have hfull : (ow = .nil ∨ ow = .full ∨ ow = .fix) → ∃ ad, a.eval x = .slice ad es.length es.length := fun hw => by
        generalize hvx : a.eval x = vx at hx
        cases hx with
        | lnil => exact ⟨none, rfl⟩
        | lemp ad n hn => simp at hw
        | lst es o b off cap sz u h1 h2 h3 h4 h5 h6 =>
          rcases hw with rfl | rfl | rfl
          · exact h4.elim
          · exact ⟨_, by rw [h4.1]⟩
          · simp only [OwnOk] at h4; exact ⟨_, by rw [h4]⟩
      have hc := hcons hye
      cases mu with
      | true =>
        simp only [if_true] at hc
        obtain ⟨hw, hK⟩ := hc
        obtain ⟨ad, hvx⟩ := hfull (by cases ow <;> simp_all)
        have hcap := hcapge es.length
        refine ⟨_, _, ran _ _ (grow es.length ad hvx (by omega)), ?_⟩
        have hrow := hRow.2 (grownCap w (es.length + ys.length) es.length e)
        refine Sat.new_cells' (w := w.drew) hs.drew _ e _ hrow.1 hrow.2 (x := fun id => .mref id 0 (es.length + ys.length) (grownCap w (es.length + ys.length) es.length e)) (fun γ' _ hb => .mref _ _ _ _ _ hb hcap (hcapm _)) fun id hid => ?_
        exact hK id _ _ hid hcap (hcapm _) (by rw [flatten_length, hzl]) (allOne_flatten hone _)
      | false =>
        simp only [Bool.false_eq_true, if_false] at hc
        cases ow with
        | nil => obtain ⟨ad, hvx⟩ := hfull (by simp); exact growTok _ ad m hvx (by omega) hs hc
        | full => obtain ⟨ad, hvx⟩ := hfull (by simp); exact growTok _ ad m hvx (by omega) hs hc
        | fix => obtain ⟨ad, hvx⟩ := hfull (by simp); exact growTok _ ad m hvx (by omega) hs hc
        | any => exact hc.elim
        | tok t =>
          obtain ⟨hgt, hK⟩ := hc
          have hne : es ≠ [] := htok
          obtain ⟨b, off, cap, sz, u, hvx, a1, a2, a3, ⟨a4, a4'⟩, a5⟩ := hx.lst_inv hne
          have hszz : sz = k.getD 1 := by
            cases es with
            | nil => exact absurd rfl hne
            | cons e0 es => rw [← a3 e0 (by simp), sized_len hze e0 (by simp)]
          subst hszz
          by_cases hroom : es.length + ys.length ≤ cap
          · obtain ⟨b', s, ee, cur, el, fr, c1, c2, c3, c4, c5, c6⟩ := hs.obj t _ (get_mem (get_append hgt))
            rw [a4] at c1
            simp only [Option.some.injEq, Prod.mk.injEq] at c1
            obtain ⟨rfl, rfl, rfl⟩ := c1
            have hmul : (es.length + ys.length) * k.getD 1 ≤ cap * k.getD 1 := Nat.mul_le_mul_right _ hroom
            rw [Nat.add_mul] at hmul
            have hover := over_get cur (off + es.length * k.getD 1) us (by omega)
            have run := run_append_room' (P := P) (ty := o.type) hT hU hd hi (b := b) (off := off) (sLen := es.length) (sCap := cap) (n := ys.length) (vy := a.eval y) (us := us) (w := w) hlen (by rw [hsz]; exact hul) (by rw [hsz]; exact hsrc w rfl) hu1 hroom c4 c5 (by rw [hsz]; omega)
            rw [hsz] at run
            obtain ⟨γ', g1, g2, g3, g4⟩ := hs.append_room (get_mem (get_append hgt)) a4 us.length (by omega) cur (over cur (off + es.length * k.getD 1) us) el fr c4 (over_size _ _ _ (by omega)) (fun p hp => by rw [hover, if_neg hp])
            refine ⟨_, _, ran _ _ (by rw [hvx]; exact run), γ', .lst (es ++ ys) (.tok γ.nx), _, g1, ?_, ?_, hK _ (fresh_id hs)⟩
            · rw [← hlenE]
              refine Rep.lst (es ++ ys) (.tok γ.nx) b off cap (k.getD 1) (fun p => if p < es.length * k.getD 1 then u p else us.toArray.getD (p - es.length * k.getD 1) undef) (by rw [hlenE]; exact hroom) a2 (sized_len hse) ⟨?_, ?_⟩ ?_ ?_
              · rw [g3, hlenE, Nat.add_mul, hul, Nat.add_assoc]
              · rw [g1.w0]; exact a4'
              all_goals
                intro p e0 j x0 hp hj
                have hjlt : j < k.getD 1 := by rw [← sized_len hse e0 (List.mem_of_getElem? hp)]; exact (List.getElem?_eq_some_iff.1 hj).1
                by_cases hpl : p < es.length
                · rw [List.getElem?_append_left hpl] at hp
                  have hidx : p * k.getD 1 + j < es.length * k.getD 1 := by
                    have : (p + 1) * k.getD 1 ≤ es.length * k.getD 1 := Nat.mul_le_mul_right _ hpl
                    rw [Nat.add_mul] at this; omega
                  rw [if_pos hidx]
                  have := a5 p e0 j x0 hp hj
                  first | exact g1.frz _ _ _ this.1 | exact this.2.mono g1
                · rw [List.getElem?_append_right (by omega)] at hp
                  have hidx : p * k.getD 1 + j = es.length * k.getD 1 + ((p - es.length) * k.getD 1 + j) := by
                    have : p = es.length + (p - es.length) := by omega
                    rw [this, Nat.add_mul]; simp; omega
                  have hlt2 : (p - es.length) * k.getD 1 + j < us.length := by
                    have h1 : p - es.length < ys.length := (List.getElem?_eq_some_iff.1 hp).1
                    have : (p - es.length + 1) * k.getD 1 ≤ ys.length * k.getD 1 := Nat.mul_le_mul_right _ h1
                    rw [Nat.add_mul] at this; omega
                  rw [hidx, if_neg (by omega)]
                  simp only [Nat.add_sub_cancel_left]
                  first
                    | (refine g2 _ _ (by omega) (by omega) ?_
                       rw [hover, if_pos (by omega)]
                       rw [show off + (es.length * k.getD 1 + ((p - es.length) * k.getD 1 + j)) - (off + es.length * k.getD 1) = (p - es.length) * k.getD 1 + j by omega]
                       simp [Array.getD, hlt2])
                    | (refine Rep.mono g1 (hur _ _ ?_)
                       exact flat_get hzy hp hj)
            · have : Moi.del t (m ++ mf) = Moi.del t m ++ mf := del_append hgt
              rw [this] at g4
              exact g4
          · refine growTok cap _ _ hvx (by omega) ?_ hK
            rw [← del_append hgt]
            exact hs.del t
  · -- an object
    rename_i id n cap
    obtain ⟨cs, hg, hcl, ys, hys, hzy, hb, hml, hcone, hK⟩ := hv
    obtain ⟨hlen, us, hul, hsrc, hur, hu1⟩ := src_ok (P := P) hy hs hys hzy ys.length (Nat.le_refl _)
    rw [List.take_length] at hur
    have hfy : (flat ys).length = ys.length * k.getD 1 := flat_length (sized_len hzy)
    generalize hvx : a.eval x = vx at hx
    cases hx with
    | mref _ _ _ _ b hbk hnc hcm =>
      obtain ⟨b', cur, et, fr, c1, c2, c3, c4, c5, c6⟩ := hs.obj id _ (get_mem (get_append hg))
      rw [hbk] at c1
      obtain rfl := Option.some.inj c1
      have hn1 : n * k.getD 1 ≤ cap * k.getD 1 := Nat.mul_le_mul_right _ hnc
      by_cases hroom : n + ys.length ≤ cap
      · have hmul : (n + ys.length) * k.getD 1 ≤ cap * k.getD 1 := Nat.mul_le_mul_right _ hroom
        rw [Nat.add_mul] at hmul
        have run := run_append_room' (P := P) (ty := o.type) hT hU hd hi (b := b) (off := 0) (sLen := n) (sCap := cap) (n := ys.length) (vy := a.eval y) (us := us) (w := w) hlen (by rw [hsz]; exact hul) (by rw [hsz]; exact hsrc w rfl) hu1 hroom c3 c4 (by rw [hsz]; omega)
        rw [hsz, Nat.zero_add] at run
        obtain ⟨q1', q2'⟩ := over_rep (γ := γ) (off := n * k.getD 1) (us := us) (xs := flat ys) c5 c6 (by rw [hul, hfy]) hur (by omega)
        have hst := hs.store (get_mem (get_append hg)) hbk _ q1' (splice_length _ _ _) q2'
        have hmem : (id, AObj.cells (Moi.splice (n * k.getD 1) (flat ys) cs)) ∈ put id (.cells (Moi.splice (n * k.getD 1) (flat ys) cs)) (m ++ mf) := by
          have := get_mem (get_append (mf := mf) hg)
          clear hst
          generalize m ++ mf = M at this
          induction M with
          | nil => simp at this
          | cons p M ih =>
            obtain ⟨i0, o0⟩ := p
            simp only [put]
            by_cases hid : i0 = id
            · rw [if_pos hid, hid]; simp
            · rw [if_neg hid]
              simp only [List.mem_cons, Prod.mk.injEq] at this
              rcases this with ⟨rfl, _⟩ | this
              · exact absurd rfl hid
              · simp [ih this]
        obtain ⟨γ', g1, g2, g3⟩ := hst.rename hmem hbk
        have hdel : Moi.del id (put id (.cells (Moi.splice (n * k.getD 1) (flat ys) cs)) (m ++ mf)) = Moi.del id m ++ mf := by
          rw [← del_append hg]
          generalize m ++ mf = M
          induction M with
          | nil => rfl
          | cons p M ih =>
            obtain ⟨i0, o0⟩ := p
            simp only [put, Moi.del]
            by_cases hid : i0 = id
            · rw [if_pos hid, if_pos hid]; simp [Moi.del, hid]
            · rw [if_neg hid, if_neg hid]; simp [Moi.del, hid, ih]
        rw [hdel] at g3
        have hsp : Moi.splice (n * k.getD 1) (flat ys) cs = cs.take (n * k.getD 1) ++ flat ys ++ cs.drop (n * k.getD 1 + (flat ys).length) := by
          apply List.ext_getElem?
          intro j
          rw [splice_get]
          by_cases h1 : j < n * k.getD 1
          · rw [if_pos (by omega), if_neg (by omega), List.append_assoc, List.getElem?_append_left (by simp; omega), List.getElem?_take, if_pos h1]
          · by_cases h2 : j < n * k.getD 1 + (flat ys).length
            · rw [if_pos (by omega), if_pos (by omega), List.getElem?_append_left (by simp; omega), List.getElem?_append_right (by simp; omega)]
              congr 1; simp; omega
            · rw [List.getElem?_append_right (by simp; omega), List.getElem?_drop]
              have e1 : n * k.getD 1 + (flat ys).length + (j - (cs.take (n * k.getD 1) ++ flat ys).length) = j := by simp; omega
              rw [e1]
              split
              · rw [if_neg (by omega)]
              · rw [List.getElem?_eq_none (by omega)]
        rw [hsp] at g3
        refine ⟨_, _, ran _ _ (by rw [hvx]; exact run), γ', _, _, g1, .mref _ _ _ _ _ g2 hroom hcm, g3, hK _ cap _ (fresh_id hs) hroom hcm ?_ ?_⟩
        · simp only [List.length_drop, hcl, hfy, Nat.sub_mul, Nat.add_mul]
        · simp only [allOne, List.all_eq_true] at hcone ⊢
          exact fun u hu => hcone u (List.drop_subset _ _ hu)
      · have hold : ∀ W : World, W.heap = w.heap → (Builtin.firstCells i.size n (.slice (some ⟨b, 0, none⟩) n cap)).run P W = .ok (cur.toList.take (n * i.size)).toArray W := fun W hW => by
          have := run_loadCells_list (P := P) W ⟨b, 0, none⟩ (cur.toList.take (n * i.size)) fun j v hj => by
            rw [List.getElem?_take] at hj
            split at hj
            · rw [addr_add, World.cell?_of_block (w := w) (by rw [hW]), cell_of_row w b _ cur et fr c3, Nat.zero_add, ← Array.getElem?_toList]; exact hj
            · cases hj
          have hl : (cur.toList.take (n * i.size)).length = n * i.size := by
            simp; rw [c5, hcl, hsz]; exact Nat.min_eq_left hn1
          rw [hl] at this
          simp [Builtin.firstCells, this]
        have run := run_append_more (P := P) (ty := o.type) hT hU hd hi q2 (a := some ⟨b, 0, none⟩) (sLen := n) (sCap := cap) (vy := a.eval y) (w := w) hlen (by rw [hsz]; exact hsrc w.drew rfl) (hold w.drew rfl) (by omega) hml hb
        have hcap := grownCap_ge w (n + ys.length) cap e
        have hcapm := grownCap_le_maxLen w (n + ys.length) cap e hml
        have r1 : RowRep γ (cs.take (n * k.getD 1)) (cur.toList.take (n * i.size)).toArray := by
          refine ⟨by simp [c5, hsz], fun j x hj => ?_⟩
          rw [List.getElem?_take] at hj
          split at hj
          · rename_i hlt
            have := c6 j x hj
            rw [Array.getD_eq_getD_getElem?] at this ⊢
            rw [List.getElem?_toArray, List.getElem?_take, hsz, if_pos hlt, Array.getElem?_toList]
            exact this
          · cases hj
        have r2 : RowRep γ (flat ys) us.toArray := ⟨by simp [hul, hfy], hur⟩
        have hrow := (r1.append r2).append (zeroCells_rep (γ := γ) (z := z) (grownCap w (n + ys.length) cap e - (n + ys.length)))
        refine ⟨_, _, ran _ _ (by rw [hvx]; exact run), ?_⟩
        have hs' : Sat γ (Moi.del id m ++ mf) w := by rw [← del_append hg]; exact hs.del id
        obtain ⟨γ', g1, g2, g3⟩ := hs'.drew.new_cells _ e _ hrow.1 hrow.2
        exact ⟨γ', _, _, g1, .mref _ _ _ _ _ g2 hcap hcapm, g3, hK _ _ _ (fresh_id hs) hcap hcapm (by rw [flatten_length, hzl]) (allOne_flatten hone _)⟩
  · exact hv.elim

end
end Go.Proofs.Ytceahampebofbaa.Moi
