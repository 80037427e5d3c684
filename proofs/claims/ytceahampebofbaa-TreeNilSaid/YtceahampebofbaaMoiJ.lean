/- More of the machine's operations: bytes as a text, copy, clear. -/
import Derived.Test.YtceahampebofbaaMoiI
set_option linter.unusedVariables false
set_option linter.unusedSimpArgs false
namespace Go.Proofs.Ytceahampebofbaa.Moi
open Go Go.RowKit

section
variable {P : Program}

def byAV (bs : List UInt8) : List AV := bs.map fun c => .sc (.int .u8 c.toNat)
theorem sized_bytes (bs : List UInt8) : sized none (byAV bs) := by
  intro e he
  obtain ⟨c, _, rfl⟩ := List.mem_map.1 he
  refine ⟨rfl, fun _ => rfl, fun h => absurd rfl h, rfl⟩
theorem flat_bytes (l : List UInt8) : flat (byAV l) = byAV l := by
  induction l with
  | nil => rfl
  | cons c l ih => simp only [byAV, List.map_cons] at ih ⊢; rw [flat_cons, ih]; rfl

theorem Rep.sc_inv {γ : Ghost} {u v : Value} (h : Rep γ (.sc u) v) : v = u := by cases h; rfl

theorem ok_b2s {o : Oper} {s d e : TypeId} {x : Operand} (ho : o.op = .convert s d x) (hs' : P.underlying s = some (.slice e)) (he : P.underlying e = some (.int .u8)) (hd : P.underlying d = some .string) : OpOk P (.b2s (nopd x)) o := by
  intro γ mf ρ m a w K hr hs hv
  obtain ⟨ys, hys, bs, rfl, hK⟩ := hv
  have hx := ev_ok hr x
  obtain ⟨hlen, us, hul, hsrc, hur, _⟩ := src_ok (P := P) (k := none) hx hs hys (sized_bytes bs) (byAV bs).length (Nat.le_refl _)
  have hbl : (byAV bs).length = bs.length := by simp [byAV]
  have hfb := flat_bytes bs
  rw [show (bs.map fun c => (.sc (.int .u8 c.toNat) : AV)) = byAV bs from rfl, List.take_length, hfb] at hur
  have hus : us = bs.map fun c => .int .u8 c.toNat := by
    apply List.ext_getElem?
    intro j
    by_cases hj : j < bs.length
    · have h1 : (byAV bs)[j]? = some (.sc (.int .u8 bs[j].toNat)) := by simp [byAV, hj]
      have h2 := hur j _ h1
      have hj' : j < us.length := by rw [hul, hbl]; simpa using hj
      rw [Array.getD_eq_getD_getElem?, List.getElem?_toArray] at h2
      simp only [List.getElem?_map, List.getElem?_eq_getElem hj, List.getElem?_eq_getElem hj', Option.map_some, Option.getD_some] at h2 ⊢
      rw [h2.sc_inv]
    · rw [List.getElem?_eq_none (by rw [hul, hbl]; simp; omega), List.getElem?_eq_none (by simp; omega)]
  refine ⟨.string ⟨bs.toArray⟩, w, ran_of (s := convert s d (a.eval x)) (by simp [execOp, ho]) ?_, Fin.same (.sc _) hs hK⟩
  have h1 := hsrc w rfl
  generalize hvx : a.eval x = vx at hx h1
  generalize ev ρ (nopd x) = ax at hx hys
  have hslice : (∃ ad n c, vx = .slice ad n c) ∨ ∃ t, vx = .string t := by
    cases hx <;> simp [aelems] at hys
    all_goals first
      | exact .inl ⟨_, _, _, rfl⟩
      | (cases vx <;> simp only [reduceCtorEq] at hys <;> first | (exact .inr ⟨_, rfl⟩) | (cases hys; done))
  rcases hslice with ⟨ad, n, c, rfl⟩ | ⟨t, rfl⟩
  · have hn : n = bs.length := by
      have := hlen w
      rw [hvx] at this
      simp only [Builtin.lenOf, Sem.run_pure, Result.ok.injEq, and_true] at this
      rw [this]; simp
    cases ad with
    | none =>
      have hb0 : bs = [] := by
        simp only [Builtin.firstCells, Sem.run_pure, Result.ok.injEq, and_true] at h1
        have : us = [] := by
          cases us with
          | nil => rfl
          | cons u us => exact absurd (congrArg Array.size h1) (by simp)
        rw [this] at hus
        cases bs with
        | nil => rfl
        | cons b bs => simp at hus
      subst hb0
      rw [run_convert_bytes_nil w s e hs' he n c d hd]
      rfl
    | some ad =>
      simp only [Builtin.firstCells, Option.getD_none, Nat.mul_one, hbl] at h1
      have h2 : (loadCells ad bs.length).run P w = .ok ((bs.map fun c => (c.toNat : Int)).map (Value.int .u8)).toArray w := by
        rw [h1, hus]
        simp [List.map_map, Function.comp_def]
      rw [run_convert_bytes_string w s d e (some ad) n c hs' he hd]
      subst hn
      rw [run_bytesToString w ad bs.length c _ h2, foldl_push_bytes]
      simp [ByteArray.empty, ByteArray.emptyWithCapacity, List.map_map, Function.comp_def]
      rfl
  · have ht : t = ⟨bs.toArray⟩ := by
      cases hx <;> simp [aelems] at hys
      have : t.toList = bs := by
        have := congrArg (List.map fun v : AV => match v with | .sc (.int _ n) => UInt8.ofNat n.toNat | _ => 0) hys
        simpa [List.map_map, Function.comp_def, byAV] using this
      rw [ByteArray.toList_eq] at this
      obtain ⟨⟨l⟩⟩ := t
      simp at this
      subst this
      rfl
    rw [ht]
    simp [convert, run_underlying hs', run_underlying hd]

theorem ok_copy {o : Oper} {T U e : TypeId} {x y : Operand} {i : TypeInfo} {k : Option Nat} (ho : o.op = .call { callee := .builtin .copy, args := #[x, y], argTypes := #[T, U] }) (hT : P.underlying T = some (.slice e))
    (hk : ekOf P e = some k) (hi : P.info? e = some i) : OpOk P (.copy k (nopd x) (nopd y)) o := by
  intro γ mf ρ m a w K hr hs hv
  obtain ⟨dd, i', hdd, hi', hsz, hagg, hpos⟩ := ekOf_some hk
  rw [hi] at hi'
  obtain rfl := Option.some.inj hi'
  have hx := ev_ok hr x
  have hy := ev_ok hr y
  simp only [vop] at hv
  split at hv <;> try (exact hv.elim)
  rename_i id off n cap he
  rw [he] at hx
  obtain ⟨ys, hys, hzy, cs, hg, hfit, hK⟩ := hv
  obtain ⟨hlen, us, hul, hsrc, hur, hu1⟩ := src_ok (P := P) hy hs hys hzy (min ys.length n) (Nat.min_le_left _ _)
  generalize hvx : a.eval x = vx at hx
  cases hx with
  | mref _ _ _ _ b hbk hnc hcm =>
    obtain ⟨b', cur, et, fr, c1, c2, c3, c4, c5, c6⟩ := hs.obj id _ (get_mem (get_append hg))
    rw [hbk] at c1
    obtain rfl := Option.some.inj c1
    have hfy : (flat (ys.take (min ys.length n))).length = min ys.length n * k.getD 1 := by
      rw [flat_length (sized_len (sized_take hzy _))]; simp
    have htk : ys.take (min ys.length n) = ys.take n := by
      rcases Nat.le_total ys.length n with h | h
      · rw [Nat.min_eq_left h, List.take_length, List.take_of_length_le h]
      · rw [Nat.min_eq_right h]
    have hle : min ys.length n * k.getD 1 ≤ n * k.getD 1 := Nat.mul_le_mul_right _ (Nat.min_le_right _ _)
    have hst := run_storeCells_fr (P := P) b off et fr us 0 cur w c3 c4 (by rw [hul, c5]; omega) hu1
    simp only [Nat.add_zero] at hst
    obtain ⟨p1, p2⟩ := over_rep (γ := γ) (off := off) (us := us) (xs := flat (ys.take (min ys.length n))) c5 c6 (by rw [hul, hfy]) hur (by rw [hfy]; omega)
    have h1 := hsrc w rfl
    rw [← hsz] at h1
    refine ⟨goInt (min ys.length n), w.setRow b (over cur off us), ran_builtin ho ?_, γ, _, _, .refl γ, .sc _, ?_, hK⟩
    · have e1 : Nat.min ys.length n = min ys.length n := rfl
      simp [builtin, Builtin.copy_, run_underlying hT, hvx, hlen, sizeOf, typeInfo, hi, e1, h1, hst]
      congr 1; omega
    · rw [htk] at p1 p2
      rw [← put_append hg]
      exact hs.store (get_mem (get_append hg)) hbk _ p1 (splice_length _ _ _) p2

theorem ok_clear {o : Oper} {T e : TypeId} {x : Operand} {i : TypeInfo} {k : Option Nat} {zs : List AV} (ho : o.op = .call { callee := .builtin .clear, args := #[x], argTypes := #[T] }) (hT : P.underlying T = some (.slice e))
    (hk : ekOf P e = some k) (hi : P.info? e = some i) (hz : zeroOf P e = some zs) : OpOk P (.clear k zs (nopd x)) o := by
  intro γ mf ρ m a w K hr hs hv
  obtain ⟨dd, i', hdd, hi', hsz, hagg, hpos⟩ := ekOf_some hk
  rw [hi] at hi'
  obtain rfl := Option.some.inj hi'
  obtain ⟨i', z, q1, q2, q3, rfl, _⟩ := zeroOf_ok hz
  rw [hi] at q1
  obtain rfl := Option.some.inj q1
  have hx := ev_ok hr x
  simp only [vop] at hv
  split at hv <;> try (exact hv.elim)
  rename_i id off n cap he
  rw [he] at hx
  obtain ⟨hone, hzl, cs, hg, hfit, hK⟩ := hv
  generalize hvx : a.eval x = vx at hx
  cases hx with
  | mref _ _ _ _ b hbk hnc hcm =>
    obtain ⟨b', cur, et, fr, c1, c2, c3, c4, c5, c6⟩ := hs.obj id _ (get_mem (get_append hg))
    rw [hbk] at c1
    obtain rfl := Option.some.inj c1
    have hrow := zeroCells_rep (γ := γ) (z := z) n
    have hzn : (Builtin.zeroCells z.cells n).toList.length = n * k.getD 1 := by rw [Array.length_toList, hrow.1, flatten_length, hzl]
    have hz1 : ∀ u ∈ (Builtin.zeroCells z.cells n).toList, u.oneCell' = true := fun u hu => by
      obtain ⟨j, hj, rfl⟩ := List.mem_iff_getElem.1 hu
      simp only [Array.length_toList] at hj
      have hj' : j < (List.replicate n (z.cells.toList.map aconst)).flatten.length := by rw [← hrow.1]; exact hj
      have := hrow.2 j _ (List.getElem?_eq_getElem hj')
      have h1 := allOne_flatten hone n
      simp only [allOne, List.all_eq_true] at h1
      have := this.one (h1 _ (List.getElem_mem hj'))
      simpa [Array.getD, hj] using this
    have hst := run_storeCells_fr (P := P) b off et fr (Builtin.zeroCells z.cells n).toList 0 cur w c3 c4 (by rw [hzn, c5]; omega) hz1
    simp only [Nat.add_zero] at hst
    obtain ⟨p1, p2⟩ := over_rep (γ := γ) (off := off) (us := (Builtin.zeroCells z.cells n).toList) (xs := (List.replicate n (z.cells.toList.map aconst)).flatten) c5 c6 (by rw [hzn, flatten_length, hzl]) (by simpa using hrow.2) (by rw [flatten_length, hzl]; exact hfit)
    have key : (Builtin.clear_ #[T] o.type #[.slice (some ⟨b, off, none⟩) n cap]).run P w = .ok (.tuple #[]) (w.setRow b (over cur off (Builtin.zeroCells z.cells n).toList)) := by
      cases n with
      | zero =>
        have h0 : (Builtin.zeroCells z.cells 0).toList = [] := by simp [Builtin.zeroCells]
        rw [h0]
        have : over cur off [] = cur := by simp [over]
        rw [this, setRow_self w b cur et fr c3]
        simp [Builtin.clear_, run_underlying hT]
      | succ n =>
        simp [Builtin.clear_, run_underlying hT, zeroValue, typeInfo, hi, q2, hst]
    refine ⟨.tuple #[], _, ran_builtin ho (by simp [builtin, hvx, key]; rfl), γ, _, _, .refl γ, .sc _, ?_, hK⟩
    rw [← put_append hg]
    exact hs.store (get_mem (get_append hg)) hbk _ p1 (splice_length _ _ _) p2

theorem ok_twin {o : Oper} {s e : TypeId} {x : Operand} (ho : o.op = .convert s s x) (hs' : P.underlying s = some (.slice e)) (he : P.underlying e = some (.int .u8)) : OpOk P (.twin (nopd x)) o := by
  intro γ mf ρ m a w K hr hs hv
  have hx := ev_ok hr x
  simp only [vop] at hv
  split at hv <;> try (exact hv.elim)
  rename_i es hee
  rw [hee] at hx
  generalize hvx : a.eval x = vx at hx
  cases hx with
  | lst _ _ b off cap sz u h1 h2 h3 h4 h5 h6 =>
    have run : ∀ W', (markStringish ⟨b, off, none⟩).run P w = .ok () W' → (convert s s (.slice (some ⟨b, off, none⟩) es.length cap)).run P w = .ok (.slice (some ⟨b, off, none⟩) es.length cap) W' := fun W' hW => by
      simp [convert, run_underlying hs', run_underlying he, hW]
    cases hbk : w.heap[b]? with
    | none =>
      have hm : (markStringish ⟨b, off, none⟩).run P w = .ok () w := by simp [markStringish, World.shape?, hbk]
      exact ⟨_, w, ran_of (s := convert s s (a.eval x)) (by simp [execOp, ho]) (by rw [hvx]; exact run w hm), Fin.same (.lst _ _ b off cap sz u h1 h2 h3 h4 h5 h6) hs hv⟩
    | some ob =>
      cases ob with
      | cells cur et fr =>
        have hm : (markStringish ⟨b, off, none⟩).run P w = .ok () (w.freeze ⟨b, cur.size, none⟩ 1) := by simp [markStringish, World.shape?, hbk]
        exact ⟨_, _, ran_to (s := convert s s (a.eval x)) (by simp [execOp, ho]) (by rw [hvx]; exact run _ hm), γ, .lst es .full, m, .refl γ, .lst _ _ b off cap sz u h1 h2 h3 h4 h5 h6, hs.mark hbk h4.2, hv⟩
      | _ =>
        have hm : (markStringish ⟨b, off, none⟩).run P w = .ok () w := by simp [markStringish, World.shape?, hbk]
        exact ⟨_, w, ran_of (s := convert s s (a.eval x)) (by simp [execOp, ho]) (by rw [hvx]; exact run w hm), Fin.same (.lst _ _ b off cap sz u h1 h2 h3 h4 h5 h6) hs hv⟩

end
end Go.Proofs.Ytceahampebofbaa.Moi
