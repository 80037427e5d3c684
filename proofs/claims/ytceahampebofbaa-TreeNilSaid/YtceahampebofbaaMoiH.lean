/- More of the machine's operations: what is appended, copied and turned. -/
import Derived.Test.YtceahampebofbaaMoiG
import Derived.Laws.BytesArg
set_option linter.unusedVariables false
set_option linter.unusedSimpArgs false
namespace Go.Proofs.Ytceahampebofbaa.Moi
open Go Go.RowKit

section
variable {P : Program}

theorem flat_nil : flat [] = [] := rfl
theorem flat_cons (e : AV) (es : List AV) : flat (e :: es) = e.cells ++ flat es := by simp [flat]
theorem flat_append (a b : List AV) : flat (a ++ b) = flat a ++ flat b := by simp [flat]
theorem flat_length {s : Nat} : ∀ {es : List AV}, (∀ e ∈ es, e.cells.length = s) → (flat es).length = es.length * s
  | [], _ => by simp [flat]
  | e :: es, h => by
    rw [flat_cons, List.length_append, h e (by simp), flat_length (s := s) fun x hx => h x (by simp [hx]), List.length_cons, Nat.add_mul]; omega
theorem flat_pos {s : Nat} : ∀ {es : List AV} {p : Nat} {x : AV}, (∀ e ∈ es, e.cells.length = s) → (flat es)[p]? = some x → ∃ i e j, es[i]? = some e ∧ e.cells[j]? = some x ∧ p = i * s + j ∧ j < s
  | [], p, x, _, h => by simp [flat] at h
  | e :: es, p, x, hs, h => by
    rw [flat_cons] at h
    have he := hs e (by simp)
    by_cases hp : p < e.cells.length
    · rw [List.getElem?_append_left hp] at h
      exact ⟨0, e, p, rfl, h, by omega, by omega⟩
    · rw [List.getElem?_append_right (by omega)] at h
      obtain ⟨i, e', j, h1, h2, h3, h4⟩ := flat_pos (fun x hx => hs x (by simp [hx])) h
      exact ⟨i + 1, e', j, by simpa using h1, h2, by rw [Nat.add_mul]; omega, h4⟩
theorem sized_len {k : Option Nat} {es : List AV} (h : sized k es) : ∀ e ∈ es, e.cells.length = k.getD 1 := fun e he => (h e he).1
theorem sized_take {k : Option Nat} {es : List AV} (h : sized k es) (n : Nat) : sized k (es.take n) := fun e he => h e (List.take_subset _ _ he)
theorem allOne_flat {k : Option Nat} {es : List AV} (h : sized k es) : allOne (flat es) = true := by
  simp only [allOne, List.all_eq_true]
  intro x hx
  obtain ⟨e, he, hx⟩ := List.mem_flatMap.1 hx
  have := (h e he).2.2.2
  simp only [allOne, List.all_eq_true] at this
  exact this x hx

/-- Cells that are read one behind the other, in every world with this heap. -/
theorem read_heap {γ : Ghost} {w : World} {b off : Nat} {cs : List AV} (h : ∀ j y, cs[j]? = some y → ∃ u, w.cell? ⟨b, off + j, none⟩ = some u ∧ Rep γ y u) :
    ∃ us : List Value, us.length = cs.length ∧ (∀ W : World, W.heap = w.heap → (loadCells ⟨b, off, none⟩ cs.length).run P W = .ok us.toArray W) ∧ ∀ j y, cs[j]? = some y → Rep γ y (us.toArray.getD j undef) := by
  obtain ⟨us, h1, h2, h3⟩ := read_cells h
  refine ⟨us, h1, fun W hW => ?_, h3⟩
  have := run_loadCells_list (P := P) W ⟨b, off, none⟩ us fun j v hj => by
    rw [← h2 j v hj]
    simp [World.cell?, hW]
  rw [h1] at this
  exact this

/-- The cells of a slice's first elements. -/
theorem src_ok {γ : Ghost} {m mf : Heap} {w : World} {k : Option Nat} {y : AV} {vy : Value} {ys : List AV} (hr : Rep γ y vy) (hs : Sat γ (m ++ mf) w) (h : aelems k y m = some ys) (hz : sized k ys) (n : Nat) (hn : n ≤ ys.length) :
    (∀ W, (Builtin.lenOf vy).run P W = .ok ys.length W) ∧
    ∃ us : List Value, us.length = n * k.getD 1 ∧ (∀ W : World, W.heap = w.heap → (Builtin.firstCells (k.getD 1) n vy).run P W = .ok us.toArray W) ∧
      (∀ j x, (flat (ys.take n))[j]? = some x → Rep γ x (us.toArray.getD j undef)) ∧ ∀ u ∈ us, u.oneCell' = true := by
  have hfl : (flat (ys.take n)).length = n * k.getD 1 := by
    rw [flat_length (sized_len (sized_take hz n))]; simp [Nat.min_eq_left hn]
  have fin : ∀ us : List Value, us.length = (flat (ys.take n)).length → (∀ j x, (flat (ys.take n))[j]? = some x → Rep γ x (us.toArray.getD j undef)) → ∀ u ∈ us, u.oneCell' = true := fun us hl hx u hu => by
    obtain ⟨j, hj, rfl⟩ := List.mem_iff_getElem.1 hu
    have hj' : j < (flat (ys.take n)).length := by omega
    have := hx j (flat (ys.take n))[j] (by simp [hj'])
    have h1 := allOne_flat (sized_take hz n)
    simp only [allOne, List.all_eq_true] at h1
    have := this.one (h1 _ (List.getElem_mem hj'))
    simpa [Array.getD, hj] using this
  have ofCells : ∀ b off, (∀ j x, (flat (ys.take n))[j]? = some x → ∃ u, w.cell? ⟨b, off + j, none⟩ = some u ∧ Rep γ x u) →
      ∃ us : List Value, us.length = n * k.getD 1 ∧ (∀ W : World, W.heap = w.heap → (loadCells ⟨b, off, none⟩ (n * k.getD 1)).run P W = .ok us.toArray W) ∧
        (∀ j x, (flat (ys.take n))[j]? = some x → Rep γ x (us.toArray.getD j undef)) ∧ ∀ u ∈ us, u.oneCell' = true := fun b off hc => by
    obtain ⟨us, h1, h2, h3⟩ := read_heap (P := P) hc
    rw [hfl] at h1 h2
    exact ⟨us, h1, h2, h3, fin us (by rw [hfl]; exact h1) h3⟩
  have empty : ∀ (a : Option Addr) (c : Nat), ys = [] → (∀ W, (Builtin.lenOf (.slice a 0 c)).run P W = .ok ys.length W) ∧
    ∃ us : List Value, us.length = n * k.getD 1 ∧ (∀ W : World, W.heap = w.heap → (Builtin.firstCells (k.getD 1) n (.slice a 0 c)).run P W = .ok us.toArray W) ∧
      (∀ j x, (flat (ys.take n))[j]? = some x → Rep γ x (us.toArray.getD j undef)) ∧ ∀ u ∈ us, u.oneCell' = true := fun a c e => by
    subst e
    obtain rfl : n = 0 := by simpa using hn
    refine ⟨fun W => by simp [Builtin.lenOf], [], by simp, fun W _ => ?_, by simp [flat], by simp⟩
    cases a <;> simp [Builtin.firstCells, loadCells, loadCellsFrom]
  cases hr <;> simp only [aelems] at h <;> try (cases h; done)
  case lnil => obtain rfl := Option.some.inj h; exact empty none 0 rfl
  case lemp a c hc => obtain rfl := Option.some.inj h; exact empty a c rfl
  case lst o b off cap sz u h1 h2 h3 h4 h5 h6 =>
    obtain rfl := Option.some.inj h
    refine ⟨fun W => by simp [Builtin.lenOf], ?_⟩
    have := ofCells b off fun j x hj => by
      obtain ⟨i, e, q, p1, p2, rfl, p4⟩ := flat_pos (sized_len (sized_take hz n)) hj
      rw [List.getElem?_take] at p1
      split at p1
      · have hsz : sz = k.getD 1 := by rw [← h3 e (List.mem_of_getElem? p1), sized_len hz e (List.mem_of_getElem? p1)]
        have a1 := h5 i e q x p1 p2
        have a2 := h6 i e q x p1 p2
        rw [hsz] at a1 a2
        exact ⟨_, hs.frz _ _ _ a1, a2⟩
      · cases p1
    obtain ⟨us, q1, q2, q3, q4⟩ := this
    exact ⟨us, q1, fun W hW => by simp [Builtin.firstCells, q2 W hW], q3, q4⟩
  case mref id off len cap b hb hlc hcm =>
    split at h
    · rename_i cs0 hg
      obtain ⟨b', cur, et, fr, k1, k2, k3, _, k4, k5⟩ := hs.obj id _ (get_mem (get_append hg))
      rw [hb] at k1
      obtain rfl := Option.some.inj k1
      have hl := chunk_len _ _ _ h
      refine ⟨fun W => by simp [Builtin.lenOf, hl], ?_⟩
      have := ofCells b off fun j x hj => by
        obtain ⟨i, e, q, p1, p2, rfl, p4⟩ := flat_pos (sized_len (sized_take hz n)) hj
        rw [List.getElem?_take] at p1
        split at p1
        · obtain ⟨c1, c2⟩ := elem_cells (chunk_get _ _ _ h i e p1) (fun hk => one_cells ((hz e (List.mem_of_getElem? p1)).2.1 hk))
          rw [c1, List.getElem?_take, if_pos p4, List.getElem?_drop, List.getElem?_drop] at p2
          have hlt : off + (i * k.getD 1 + q) < cur.size := by rw [k4]; exact (List.getElem?_eq_some_iff.1 p2).1
          refine ⟨cur.getD (off + (i * k.getD 1 + q)) undef, ?_, k5 _ _ p2⟩
          rw [cell_of_row w b _ cur et fr k3]
          simp [Array.getD, hlt]
        · cases p1
      obtain ⟨us, q1, q2, q3, q4⟩ := this
      exact ⟨us, q1, fun W hW => by simp [Builtin.firstCells, q2 W hW], q3, q4⟩
    · cases h
  case sc =>
    cases vy <;> simp only at h <;> try (cases h; done)
    rename_i s
    obtain rfl := Option.some.inj h
    have hsl : s.toList.length = s.size := by rw [ByteArray.toList_eq]; simp
    refine ⟨fun W => by simp [Builtin.lenOf, hsl], ?_⟩
    have hk : n = 0 ∨ k = none := by
      cases k with
      | none => exact .inr rfl
      | some z =>
        refine .inl ?_
        cases hl : s.toList with
        | nil => simp [hl] at hn; omega
        | cons c l =>
          have := (hz (.sc (.int .u8 c.toNat)) (by rw [hl]; simp)).2.2.1 (by simp)
          obtain ⟨cs, hcs⟩ := this
          cases hcs
    have hflat : ∀ l : List UInt8, flat (l.map fun c => (.sc (.int .u8 c.toNat) : AV)) = l.map fun c => .sc (.int .u8 c.toNat) := fun l => by
      induction l with
      | nil => rfl
      | cons c l ih => rw [List.map_cons, flat_cons, ih]; rfl
    refine ⟨(s.toList.take n).map fun c => .int .u8 c.toNat, ?_, fun W _ => ?_, ?_, ?_⟩
    · rcases hk with rfl | rfl
      · simp
      · simp at hn ⊢; omega
    · simp only [Builtin.firstCells, Sem.run_pure]
      congr 1
      apply Array.ext'
      simp [ByteArray.toList_eq]
    · intro j x hj
      rw [← List.map_take, hflat, List.getElem?_map, Option.map_eq_some_iff] at hj
      obtain ⟨c, hc, rfl⟩ := hj
      have : ((s.toList.take n).map fun c : UInt8 => (Value.int .u8 c.toNat)).toArray.getD j undef = .int .u8 c.toNat := by
        rw [Array.getD_eq_getD_getElem?, List.getElem?_toArray, List.getElem?_map, hc]
        rfl
      rw [this]; exact .sc _
    · intro u hu
      obtain ⟨c, _, rfl⟩ := List.mem_map.1 hu
      rfl

/-! ### append -/
theorem run_append_room' {T U ty e : TypeId} {i : TypeInfo} {d : TypeDesc} (hT : P.underlying T = some (.slice e)) (hU : P.underlying U = some d) (hd : d = .string ∨ ∃ e', d = .slice e') (hi : P.info? e = some i)
    {b off sLen sCap n : Nat} {vy : Value} {us : List Value} {w : World} {cur : Array Value} {el : TypeId} {fr : Nat × Nat} (hlen : ∀ W, (Builtin.lenOf vy).run P W = .ok n W) (hul : us.length = n * i.size)
    (hsrc : (Builtin.firstCells i.size n vy).run P w = .ok us.toArray w) (h1 : ∀ u ∈ us, u.oneCell' = true) (hroom : sLen + n ≤ sCap) (hb : w.heap[b]? = some (.cells cur el fr)) (hf : frOk cur.size fr) (hfit : off + sLen * i.size + n * i.size ≤ cur.size) :
    (Builtin.append_ #[T, U] ty #[.slice (some ⟨b, off, none⟩) sLen sCap, vy]).run P w = .ok (.slice (some ⟨b, off, none⟩) (sLen + n) sCap) (w.setRow b (over cur (off + sLen * i.size) us)) := by
  have hst := run_storeCells_fr (P := P) b (off + sLen * i.size) el fr us 0 cur w hb hf (by omega) h1
  simp only [Nat.add_zero] at hst
  rcases hd with rfl | ⟨e', rfl⟩ <;> simp [Builtin.append_, run_underlying hT, run_underlying hU, sizeOf, typeInfo, hi, hlen, hroom, hsrc, addr_add, hst]

theorem run_append_none {T U ty e : TypeId} {i : TypeInfo} {d : TypeDesc} (hT : P.underlying T = some (.slice e)) (hU : P.underlying U = some d) (hd : d = .string ∨ ∃ e', d = .slice e') (hi : P.info? e = some i)
    {a : Option Addr} {sLen sCap : Nat} {vy : Value} {w : World} (hlen : ∀ W, (Builtin.lenOf vy).run P W = .ok 0 W)
    (hsrc : (Builtin.firstCells i.size 0 vy).run P w = .ok #[] w) (hroom : sLen ≤ sCap) :
    (Builtin.append_ #[T, U] ty #[.slice a sLen sCap, vy]).run P w = .ok (.slice a sLen sCap) w := by
  rcases hd with rfl | ⟨e', rfl⟩ <;> cases a <;> simp [Builtin.append_, run_underlying hT, run_underlying hU, sizeOf, typeInfo, hi, hlen, hroom, hsrc, storeCells]

theorem run_append_more {T U ty e : TypeId} {i : TypeInfo} {d : TypeDesc} {z : Value} (hT : P.underlying T = some (.slice e)) (hU : P.underlying U = some d) (hd : d = .string ∨ ∃ e', d = .slice e') (hi : P.info? e = some i) (hz : i.zero = some z)
    {a : Option Addr} {sLen sCap n : Nat} {vy : Value} {us old : List Value} {w : World} (hlen : ∀ W, (Builtin.lenOf vy).run P W = .ok n W)
    (hsrc : (Builtin.firstCells i.size n vy).run P w.drew = .ok us.toArray w.drew) (hold : (Builtin.firstCells i.size sLen (.slice a sLen sCap)).run P w.drew = .ok old.toArray w.drew)
    (hg : sCap < sLen + n) (h63 : sLen + n ≤ maxLen) (hbytes : (sLen + n) * i.bytes ≤ 140737488355328) :
    (Builtin.append_ #[T, U] ty #[.slice a sLen sCap, vy]).run P w =
      .ok (.slice (some ⟨w.heap.size, 0, none⟩) (sLen + n) (grownCap w (sLen + n) sCap e)) (w.drew.alloc (.cells (old.toArray ++ us.toArray ++ Builtin.zeroCells z.cells (grownCap w (sLen + n) sCap e - (sLen + n))) e)) := by
  have hn : ¬ (sLen + n ≤ sCap) := by omega
  have h63' : ¬ (9223372036854775807 < ((sLen : Int) + (n : Int))) := by simp only [maxLen] at h63; omega
  have h48 := growslice_fits hg hbytes
  have h48' : ¬ (281474976710656 < Builtin.nextslicecap (sLen + n) sCap * i.bytes) := by omega
  rcases hd with rfl | ⟨e', rfl⟩
  all_goals
    simp [Builtin.append_, run_underlying hT, run_underlying hU, sizeOf, typeInfo, zeroValue, hi, hz, hlen, hn, h63', h48', Question.forced, hsrc, hold, newRow, grownCap]
    congr 2
    apply Array.ext'
    simp [List.append_assoc]

/-- An object under another id. -/
theorem Sat.rename {γ : Ghost} {m : Heap} {w : World} (h : Sat γ m w) {id b : Nat} {cs : List AV} (hg : (id, .cells cs) ∈ m) (hb : γ.blk id = some b) :
    ∃ γ', γ.le γ' ∧ γ'.blk γ.nx = some b ∧ Sat γ' ((γ.nx, .cells cs) :: del id m) w := by
  have hle := h.newBlk_le b
  have hne : ∀ i o, (i, o) ∈ m → i ≠ γ.nx := fun i o k => by have := h.key_lt k; omega
  have hold : ∀ i o b1 off, (i, o) ∈ m → Owns (γ.newBlk b) i b1 off o → Owns γ i b1 off o := fun i o b1 off k =>
    Owns.of_blk (by show (if i = γ.nx then some b else γ.blk i) = _; rw [if_neg (hne i o k)]) rfl
  have hnew : ∀ b1 off, Owns (γ.newBlk b) γ.nx b1 off (.cells cs) → b1 = b := fun b1 off k => by
    have k' : (if γ.nx = γ.nx then some b else γ.blk γ.nx) = some b1 := k
    simpa using k'.symm
  refine ⟨γ.newBlk b, hle, by simp [Ghost.newBlk], h.below, ?_, ?_, h.frz, ?_, ?_, ?_⟩
  · simp only [keys, List.map_cons, List.nodup_cons]
    refine ⟨fun k => ?_, (keys_del_sub id m).nodup h.nd⟩
    have := h.keys_lt _ ((keys_del_sub id m).subset k)
    omega
  · intro i hi
    have hi' : γ.nx + 1 ≤ i := hi
    obtain ⟨h1, h2⟩ := h.fresh i (by omega)
    refine ⟨?_, h2⟩
    show (if i = γ.nx then some b else γ.blk i) = none
    rw [if_neg (by omega)]; exact h1
  · intro i o k
    simp only [List.mem_cons, Prod.mk.injEq] at k
    rcases k with ⟨rfl, rfl⟩ | k
    · obtain ⟨b', cur, e, fr, a1, a2, a3, a4, a5, a6⟩ := h.obj id _ hg
      rw [hb] at a1
      obtain rfl := Option.some.inj a1
      exact ⟨b, cur, e, fr, by simp [Ghost.newBlk], a2, a3, a4, a5, fun j x hj => (a6 j x hj).mono hle⟩
    · exact (h.obj i o (mem_del h.nd k).2).mono hle fun _ _ => rfl
  · intro i o i' o' b1 off k k' hne' hw hw'
    simp only [List.mem_cons, Prod.mk.injEq] at k k'
    rcases k with ⟨rfl, rfl⟩ | k <;> rcases k' with ⟨rfl, rfl⟩ | k'
    · exact hne' rfl
    · obtain rfl := hnew _ _ hw
      obtain ⟨hid, k'⟩ := mem_del h.nd k'
      exact h.sep i' o' id _ b1 off k' hg hid (hold _ _ _ _ k' hw') hb
    · obtain rfl := hnew _ _ hw'
      obtain ⟨hid, k⟩ := mem_del h.nd k
      exact h.sep i o id _ b1 off k hg hid (hold _ _ _ _ k hw) hb
    · obtain ⟨_, k⟩ := mem_del h.nd k
      obtain ⟨_, k'⟩ := mem_del h.nd k'
      exact h.sep i o i' o' b1 off k k' hne' (hold _ _ _ _ k hw) (hold _ _ _ _ k' hw')
  · intro i o b1 off u k hw
    simp only [List.mem_cons, Prod.mk.injEq] at k
    rcases k with ⟨rfl, rfl⟩ | k
    · obtain rfl := hnew _ _ hw
      exact h.nofrz id _ b1 off u hg hb
    · obtain ⟨_, k⟩ := mem_del h.nd k
      exact h.nofrz i o b1 off u k (hold _ _ _ _ k hw)

end
end Go.Proofs.Ytceahampebofbaa.Moi
