/- How a world that holds a heap goes on to hold another one: new objects, new lists, what is appended, what is stored. -/
import Derived.Test.YtceahampebofbaaMoiA
set_option linter.unusedVariables false
set_option linter.unusedSimpArgs false
namespace Go.Proofs.Ytceahampebofbaa.Moi
open Go Go.RowKit

def blkOf (γ : Ghost) (id : Nat) : AObj → Option Nat
  | .tail => (γ.tk id).map (·.1)
  | _ => γ.blk id

theorem Owns.blkOf {γ : Ghost} {id b o : Nat} {ob : AObj} (h : Owns γ id b o ob) : blkOf γ id ob = some b := by
  cases ob with
  | tail => obtain ⟨s, e, h1, _⟩ := h; simp [Moi.blkOf, h1]
  | _ => exact h

theorem ObjOk.lt {γ : Ghost} {w : World} {id b : Nat} {ob : AObj} (h : ObjOk γ w id ob) (hb : blkOf γ id ob = some b) : γ.w0.heap.size ≤ b ∧ b < w.heap.size := by
  cases ob with
  | cells cs =>
    obtain ⟨b', cur, e, fr, h1, h2, h3, _⟩ := h
    simp only [blkOf, h1, Option.some.injEq] at hb; subst hb
    exact ⟨h2, (Array.getElem?_eq_some_iff.1 h3).1⟩
  | tail =>
    obtain ⟨b', s, e, cur, el, fr, h1, _, h2, h3, _⟩ := h
    simp only [blkOf, h1, Option.map_some, Option.some.injEq] at hb; subst hb
    exact ⟨h2, (Array.getElem?_eq_some_iff.1 h3).1⟩
  | amap es =>
    obtain ⟨b', ens, cl, h1, h2, h3, _⟩ := h
    simp only [blkOf, h1, Option.some.injEq] at hb; subst hb
    exact ⟨h2, (Array.getElem?_eq_some_iff.1 h3).1⟩

theorem ObjOk.mono {γ γ' : Ghost} {w w' : World} {id : Nat} {ob : AObj} (h : ObjOk γ w id ob) (hl : γ.le γ') (hb : ∀ b, blkOf γ id ob = some b → w'.heap[b]? = w.heap[b]?) : ObjOk γ' w' id ob := by
  cases ob with
  | cells cs =>
    obtain ⟨b', cur, e, fr, h1, h2, h3, hfr, h4, h5⟩ := h
    exact ⟨b', cur, e, fr, hl.blk _ _ h1, by rw [hl.w0]; exact h2, by rw [hb b' h1]; exact h3, hfr, h4, fun j x k => (h5 j x k).mono hl⟩
  | tail =>
    obtain ⟨b', s, e, cur, el, fr, h1, h2, h3, h4, hfr, h5⟩ := h
    exact ⟨b', s, e, cur, el, fr, hl.tk _ _ h1, h2, by rw [hl.w0]; exact h3, by rw [hb b' (by simp [blkOf, h1])]; exact h4, hfr, h5⟩
  | amap es =>
    obtain ⟨b', ens, cl, h1, h2, h3, h4, h5⟩ := h
    refine ⟨b', ens, cl, hl.blk _ _ h1, by rw [hl.w0]; exact h2, by rw [hb b' h1]; exact h3, h4, fun j k x hk => ?_⟩
    obtain ⟨en, a1, a2, a3⟩ := h5 j k x hk
    exact ⟨en, a1, a2, a3.mono hl⟩

theorem Owns.of_blk {γ γ' : Ghost} {id : Nat} {ob : AObj} {b o : Nat} (h1 : γ'.blk id = γ.blk id) (h2 : γ'.tk id = γ.tk id) (h : Owns γ' id b o ob) : Owns γ id b o ob := by
  cases ob <;> simp only [Owns, h1, h2] at h ⊢ <;> exact h

theorem Sat.frz_lt {γ : Ghost} {m : Heap} {w : World} (h : Sat γ m w) {b o : Nat} {u : Value} (k : γ.frz b o = some u) : b < w.heap.size :=
  World.block_lt_of_cell? w ⟨b, o, none⟩ (h.frz b o u k)

/-! ### A new object -/
def Ghost.newBlk (γ : Ghost) (b : Nat) : Ghost := { γ with blk := fun i => if i = γ.nx then some b else γ.blk i, nx := γ.nx + 1 }
theorem Sat.newBlk_le {γ : Ghost} {m : Heap} {w : World} (h : Sat γ m w) (b : Nat) : γ.le (γ.newBlk b) := by
  refine ⟨rfl, fun i b' k => ?_, fun _ _ k => k, fun _ _ _ k => k⟩
  show (if i = γ.nx then some b else γ.blk i) = some b'
  rw [if_neg]
  · exact k
  · rintro rfl
    rw [(h.fresh _ (Nat.le_refl _)).1] at k
    cases k

theorem Sat.new {γ : Ghost} {m : Heap} {w : World} (h : Sat γ m w) (o : Obj) (ob : AObj) (hob : ObjOk (γ.newBlk w.heap.size) (w.alloc o) γ.nx ob) (ht : ob ≠ .tail) :
    Sat (γ.newBlk w.heap.size) ((γ.nx, ob) :: m) (w.alloc o) := by
  have hle := h.newBlk_le w.heap.size
  have hne : ∀ id ob', (id, ob') ∈ m → id ≠ γ.nx := fun id ob' k => by have := h.key_lt k; omega
  have hold : ∀ id ob' b o', (id, ob') ∈ m → Owns (γ.newBlk w.heap.size) id b o' ob' → Owns γ id b o' ob' := fun id ob' b o' k =>
    Owns.of_blk (by show (if id = γ.nx then some w.heap.size else γ.blk id) = _; rw [if_neg (hne id ob' k)]) rfl
  have hnew : ∀ b o', Owns (γ.newBlk w.heap.size) γ.nx b o' ob → b = w.heap.size := fun b o' k => by
    have k' := k.blkOf
    cases ob <;> simp_all [blkOf, Ghost.newBlk]
  have holdlt : ∀ id ob' b o', (id, ob') ∈ m → Owns γ id b o' ob' → b < w.heap.size := fun id ob' b o' k k' => ((h.obj id ob' k).lt k'.blkOf).2
  refine ⟨h.below.alloc h.below.size _, ?_, ?_, ?_, ?_, ?_, ?_⟩
  · simp only [keys, List.map_cons, List.nodup_cons]
    refine ⟨fun k => ?_, h.nd⟩
    have := h.keys_lt _ k
    omega
  · intro id hid
    have hid' : γ.nx + 1 ≤ id := hid
    obtain ⟨h1, h2⟩ := h.fresh id (by omega)
    refine ⟨?_, h2⟩
    show (if id = γ.nx then some w.heap.size else γ.blk id) = none
    rw [if_neg (by omega)]; exact h1
  · intro b o' u k
    have k' : γ.frz b o' = some u := k
    rw [World.cell?_alloc_lt w o _ (h.frz_lt k')]
    exact h.frz b o' u k'
  · intro id ob' k
    simp only [List.mem_cons, Prod.mk.injEq] at k
    rcases k with ⟨rfl, rfl⟩ | k
    · exact hob
    · exact (h.obj id ob' k).mono hle fun b hb => Below.heap_alloc w o b ((h.obj id ob' k).lt hb).2
  · intro id ob1 id' ob2 b o' k k' hne' hw
    simp only [List.mem_cons, Prod.mk.injEq] at k k'
    rcases k with ⟨rfl, rfl⟩ | k <;> rcases k' with ⟨rfl, rfl⟩ | k'
    · exact absurd rfl hne'
    · intro hw'
      have := hnew _ _ hw
      have := holdlt id' ob2 b o' k' (hold id' ob2 b o' k' hw')
      omega
    · intro hw'
      have := hnew _ _ hw'
      have := holdlt id ob1 b o' k (hold id ob1 b o' k hw)
      omega
    · exact fun hw' => h.sep id ob1 id' ob2 b o' k k' hne' (hold id ob1 b o' k hw) (hold id' ob2 b o' k' hw')
  · intro id ob1 b o' u k hw hf
    have hf' : γ.frz b o' = some u := hf
    simp only [List.mem_cons, Prod.mk.injEq] at k
    rcases k with ⟨rfl, rfl⟩ | k
    · have := hnew _ _ hw
      have := h.frz_lt hf'
      omega
    · exact h.nofrz id ob1 b o' u k (hold id ob1 b o' k hw) hf'

theorem Sat.new_cells {γ : Ghost} {m : Heap} {w : World} (h : Sat γ m w) (us : Array Value) (e : TypeId) (cs : List AV) (hl : us.size = cs.length)
    (hr : ∀ j x, cs[j]? = some x → Rep γ x (us.getD j undef)) :
    ∃ γ', γ.le γ' ∧ γ'.blk γ.nx = some w.heap.size ∧ Sat γ' ((γ.nx, .cells cs) :: m) (w.alloc (.cells us e)) := by
  refine ⟨γ.newBlk w.heap.size, h.newBlk_le _, by simp [Ghost.newBlk], h.new _ _ ?_ (by simp)⟩
  exact ⟨w.heap.size, us, e, (0, 0), by simp [Ghost.newBlk], h.below.size, heap_alloc_new w _, .inl rfl, hl, fun j x k => (hr j x k).mono (h.newBlk_le _)⟩

theorem Sat.new_map {γ : Ghost} {m : Heap} {w : World} (h : Sat γ m w) :
    ∃ γ', γ.le γ' ∧ γ'.blk γ.nx = some w.heap.size ∧ Sat γ' ((γ.nx, .amap []) :: m) (w.alloc (.map #[] 0)) := by
  refine ⟨γ.newBlk w.heap.size, h.newBlk_le _, by simp [Ghost.newBlk], h.new _ _ ?_ (by simp)⟩
  exact ⟨w.heap.size, #[], 0, by simp [Ghost.newBlk], h.below.size, heap_alloc_new w _, rfl, fun j k x hk => by simp at hk⟩

/-! ### A new list: its first k cells never change; a token for the rest -/
def Ghost.newTok (γ : Ghost) (b : Nat) (us : Array Value) (k : Nat) : Ghost :=
  { γ with frz := fun b' o => if b' = b then (if o < k then us[o]? else none) else γ.frz b' o, tk := fun i => if i = γ.nx then some (b, k, us.size) else γ.tk i, nx := γ.nx + 1 }

theorem Sat.new_tok {γ : Ghost} {m : Heap} {w : World} (h : Sat γ m w) (us : Array Value) (e : TypeId) (k : Nat) (hk : k ≤ us.size) :
    ∃ γ', γ.le γ' ∧ (∀ o u, o < k → us[o]? = some u → γ'.frz w.heap.size o = some u) ∧ γ'.tk γ.nx = some (w.heap.size, k, us.size) ∧
      Sat γ' ((γ.nx, .tail) :: m) (w.alloc (.cells us e)) := by
  have hle : γ.le (γ.newTok w.heap.size us k) := by
    refine ⟨rfl, fun _ _ k => k, fun i b' k' => ?_, fun b o u k' => ?_⟩
    · show (if i = γ.nx then _ else γ.tk i) = some b'
      rw [if_neg]
      · exact k'
      · rintro rfl
        rw [(h.fresh _ (Nat.le_refl _)).2] at k'
        cases k'
    · show (if b = w.heap.size then _ else γ.frz b o) = some u
      rw [if_neg (by have := h.frz_lt k'; omega)]
      exact k'
  have hne : ∀ id ob', (id, ob') ∈ m → id ≠ γ.nx := fun id ob' k => by have := h.key_lt k; omega
  have hold : ∀ id ob' b o', (id, ob') ∈ m → Owns (γ.newTok w.heap.size us k) id b o' ob' → Owns γ id b o' ob' := fun id ob' b o' k' =>
    Owns.of_blk rfl (by show (if id = γ.nx then _ else γ.tk id) = _; rw [if_neg (hne id ob' k')])
  have holdlt : ∀ id ob' b o', (id, ob') ∈ m → Owns γ id b o' ob' → b < w.heap.size := fun id ob' b o' k k' => ((h.obj id ob' k).lt k'.blkOf).2
  have hnew : ∀ b o', Owns (γ.newTok w.heap.size us k) γ.nx b o' .tail → b = w.heap.size ∧ k ≤ o' := fun b o' k' => by
    obtain ⟨s, e', h1, h2, h3⟩ := k'
    simp only [Ghost.newTok, if_true, Option.some.injEq, Prod.mk.injEq] at h1
    obtain ⟨rfl, rfl, rfl⟩ := h1
    exact ⟨rfl, h2⟩
  refine ⟨γ.newTok w.heap.size us k, hle, fun o u ho hu => ?_, by simp [Ghost.newTok], ?_⟩
  · simp [Ghost.newTok, ho, hu]
  refine ⟨h.below.alloc h.below.size _, ?_, ?_, ?_, ?_, ?_, ?_⟩
  · simp only [keys, List.map_cons, List.nodup_cons]
    exact ⟨fun k => by have := h.keys_lt _ k; omega, h.nd⟩
  · intro id hid
    have hid' : γ.nx + 1 ≤ id := hid
    obtain ⟨h1, h2⟩ := h.fresh id (by omega)
    refine ⟨h1, ?_⟩
    show (if id = γ.nx then _ else γ.tk id) = none
    rw [if_neg (by omega)]; exact h2
  · intro b o' u k'
    have k'' : (if b = w.heap.size then (if o' < k then us[o']? else none) else γ.frz b o') = some u := k'
    split at k''
    · rename_i e'
      subst e'
      split at k''
      · rw [World.cell?_alloc_new]; exact k''
      · cases k''
    · rw [World.cell?_alloc_lt w _ _ (h.frz_lt k'')]
      exact h.frz b o' u k''
  · intro id ob' k'
    simp only [List.mem_cons, Prod.mk.injEq] at k'
    rcases k' with ⟨rfl, rfl⟩ | k'
    · exact ⟨w.heap.size, k, us.size, us, e, (0, 0), by simp [Ghost.newTok], hk, h.below.size, heap_alloc_new w _, .inl rfl, Nat.le_refl _⟩
    · exact (h.obj id ob' k').mono hle fun b hb => Below.heap_alloc w _ b ((h.obj id ob' k').lt hb).2
  · intro id ob1 id' ob2 b o' k1 k2 hne' hw
    simp only [List.mem_cons, Prod.mk.injEq] at k1 k2
    rcases k1 with ⟨rfl, rfl⟩ | k1 <;> rcases k2 with ⟨rfl, rfl⟩ | k2
    · exact absurd rfl hne'
    · intro hw'
      have := (hnew _ _ hw).1
      have := holdlt id' ob2 b o' k2 (hold id' ob2 b o' k2 hw')
      omega
    · intro hw'
      have := (hnew _ _ hw').1
      have := holdlt id ob1 b o' k1 (hold id ob1 b o' k1 hw)
      omega
    · exact fun hw' => h.sep id ob1 id' ob2 b o' k1 k2 hne' (hold id ob1 b o' k1 hw) (hold id' ob2 b o' k2 hw')
  · intro id ob1 b o' u k1 hw hf
    have hf' : (if b = w.heap.size then (if o' < k then us[o']? else none) else γ.frz b o') = some u := hf
    simp only [List.mem_cons, Prod.mk.injEq] at k1
    rcases k1 with ⟨rfl, rfl⟩ | k1
    · obtain ⟨rfl, h2⟩ := hnew _ _ hw
      rw [if_pos rfl, if_neg (by omega)] at hf'
      cases hf'
    · have hb := holdlt id ob1 b o' k1 (hold id ob1 b o' k1 hw)
      rw [if_neg (by omega)] at hf'
      exact h.nofrz id ob1 b o' u k1 (hold id ob1 b o' k1 hw) hf'

/-! ### A store into an object -/
theorem Sat.store {γ : Ghost} {m : Heap} {w : World} (h : Sat γ m w) {id : Nat} {cs cs' : List AV} (hg : (id, .cells cs) ∈ m) {b : Nat} (hb : γ.blk id = some b)
    (cur' : Array Value) (hl : cur'.size = cs'.length) (hl' : cs'.length = cs.length) (hr : ∀ j x, cs'[j]? = some x → Rep γ x (cur'.getD j undef)) :
    Sat γ (put id (.cells cs') m) (w.setRow b cur') := by
  obtain ⟨b', cur, e, fr, h1, h2, h3, hfr, h4, h5⟩ := h.obj id _ hg
  rw [hb] at h1
  obtain rfl := Option.some.inj h1
  have hrow := setRow_heap w b cur cur' e fr h3
  have hfr' : frOk cur'.size fr := by rw [hl, hl', ← h4]; exact hfr
  have hmem : ∀ i o, (i, o) ∈ put id (.cells cs') m → ∃ o1, (i, o1) ∈ m ∧ ∀ b o', Owns γ i b o' o → Owns γ i b o' o1 := fun i o k => by
    rcases mem_put h.nd k with ⟨rfl, rfl⟩ | ⟨_, k⟩
    · exact ⟨_, hg, fun _ _ x => x⟩
    · exact ⟨o, k, fun _ _ x => x⟩
  refine ⟨?_, ?_, h.fresh, ?_, ?_, ?_, ?_⟩
  · refine h.below.trans ⟨rfl, rfl, rfl, by simp, fun k hk => setRow_other w b k _ ?_⟩
    omega
  · rw [keys_put]; exact h.nd
  · intro b1 o u k
    have hne : b1 ≠ b := by
      rintro rfl
      exact h.nofrz id _ b1 o u hg hb k
    rw [← h.frz b1 o u k]
    exact World.cell?_of_block (w := w) (setRow_other w b b1 _ hne)
  · intro i o k
    rcases mem_put h.nd k with ⟨rfl, rfl⟩ | ⟨hne, k⟩
    · exact ⟨b, cur', e, fr, hb, h2, hrow, hfr', hl, hr⟩
    · have ho := h.obj i o k
      have hcase : ∀ b1, blkOf γ i o = some b1 → b1 ≠ b ∨ o = .tail := fun b1 hb1 => by
        cases o with
        | tail => exact .inr rfl
        | cells cs1 =>
          refine .inl ?_
          rintro rfl
          exact h.sep i _ id _ b1 0 k hg hne hb1 hb
        | amap es =>
          refine .inl ?_
          rintro rfl
          exact h.sep i _ id _ b1 0 k hg hne hb1 hb
      cases o with
      | tail =>
        obtain ⟨b', s, e1, cur1, el, fr1, a1, a2, a3, a4, af, a5⟩ := ho
        by_cases hbb : b' = b
        · subst hbb
          rw [h3] at a4
          simp only [Option.some.injEq, Obj.cells.injEq] at a4
          exact ⟨b', s, e1, cur', e, fr, a1, a2, a3, hrow, hfr', by rw [hl, hl', ← h4, a4.1]; exact a5⟩
        · exact ⟨b', s, e1, cur1, el, fr1, a1, a2, a3, by rw [setRow_other w b b' _ hbb]; exact a4, af, a5⟩
      | cells cs1 => exact ho.mono (.refl _) fun b1 hb1 => setRow_other w b b1 _ ((hcase b1 hb1).resolve_right (by simp))
      | amap es => exact ho.mono (.refl _) fun b1 hb1 => setRow_other w b b1 _ ((hcase b1 hb1).resolve_right (by simp))
  · intro i o i' o' b1 off k k' hne hw hw'
    obtain ⟨p, kp, hp⟩ := hmem i o k
    obtain ⟨q, kq, hq⟩ := hmem i' o' k'
    exact h.sep i p i' q b1 off kp kq hne (hp _ _ hw) (hq _ _ hw')
  · intro i o b1 off u k hw
    obtain ⟨p, kp, hp⟩ := hmem i o k
    exact h.nofrz i p b1 off u kp (hp _ _ hw)

/-- A map is another one. -/
theorem Sat.storeMap {γ : Ghost} {m : Heap} {w : World} (h : Sat γ m w) {id : Nat} {es es' : List (Value × AV)} (hg : (id, .amap es) ∈ m) {b : Nat} (hb : γ.blk id = some b)
    (ens' : Array MapEntry) (clock' : Nat) (hl : ens'.size = es'.length) (hr : ∀ (j : Nat) (k : Value) (x : AV), es'[j]? = some (k, x) → ∃ en : MapEntry, ens'[j]? = some en ∧ en.key = k ∧ Rep γ x en.val) :
    Sat γ (put id (.amap es') m) { w with heap := w.heap.setIfInBounds b (.map ens' clock') } := by
  obtain ⟨b', ens, clock, h1, h2, h3, h4, h5⟩ := h.obj id _ hg
  rw [hb] at h1
  obtain rfl := Option.some.inj h1
  have hlt : b < w.heap.size := (Array.getElem?_eq_some_iff.1 h3).1
  have hrow : (w.heap.setIfInBounds b (Obj.map ens' clock'))[b]? = some (.map ens' clock') := by simp [hlt]
  have hoth : ∀ r, r ≠ b → (w.heap.setIfInBounds b (Obj.map ens' clock'))[r]? = w.heap[r]? := fun r hne => by simp [Ne.symm hne]
  have hmem : ∀ i o, (i, o) ∈ put id (.amap es') m → ∃ o1, (i, o1) ∈ m ∧ ∀ b o', Owns γ i b o' o → Owns γ i b o' o1 := fun i o k => by
    rcases mem_put h.nd k with ⟨rfl, rfl⟩ | ⟨_, k⟩
    · exact ⟨_, hg, fun _ _ x => x⟩
    · exact ⟨o, k, fun _ _ x => x⟩
  refine ⟨?_, ?_, h.fresh, ?_, ?_, ?_, ?_⟩
  · refine h.below.trans ⟨rfl, rfl, rfl, by simp, fun k hk => hoth k ?_⟩
    omega
  · rw [keys_put]; exact h.nd
  · intro b1 o u k
    have hne : b1 ≠ b := by
      rintro rfl
      exact h.nofrz id _ b1 o u hg hb k
    rw [← h.frz b1 o u k]
    exact World.cell?_of_block (w := w) (hoth b1 hne)
  · intro i o k
    rcases mem_put h.nd k with ⟨rfl, rfl⟩ | ⟨hne, k⟩
    · exact ⟨b, ens', clock', hb, h2, hrow, hl, hr⟩
    · have ho := h.obj i o k
      have hcase : ∀ b1, blkOf γ i o = some b1 → b1 ≠ b ∨ o = .tail := fun b1 hb1 => by
        cases o with
        | tail => exact .inr rfl
        | cells cs1 =>
          refine .inl ?_
          rintro rfl
          exact h.sep i _ id _ b1 0 k hg hne hb1 hb
        | amap es =>
          refine .inl ?_
          rintro rfl
          exact h.sep i _ id _ b1 0 k hg hne hb1 hb
      cases o with
      | tail =>
        obtain ⟨b', s, e1, cur1, el, fr1, a1, a2, a3, a4, af, a5⟩ := ho
        have hbb : b' ≠ b := by
          rintro rfl
          rw [h3] at a4
          cases a4
        exact ⟨b', s, e1, cur1, el, fr1, a1, a2, a3, by show (w.heap.setIfInBounds b _)[b']? = _; rw [hoth b' hbb]; exact a4, af, a5⟩
      | cells cs1 => exact ho.mono (.refl _) fun b1 hb1 => hoth b1 ((hcase b1 hb1).resolve_right (by simp))
      | amap es => exact ho.mono (.refl _) fun b1 hb1 => hoth b1 ((hcase b1 hb1).resolve_right (by simp))
  · intro i o i' o' b1 off k k' hne hw hw'
    obtain ⟨p, kp, hp⟩ := hmem i o k
    obtain ⟨q, kq, hq⟩ := hmem i' o' k'
    exact h.sep i p i' q b1 off kp kq hne (hp _ _ hw) (hq _ _ hw')
  · intro i o b1 off u k hw
    obtain ⟨p, kp, hp⟩ := hmem i o k
    exact h.nofrz i p b1 off u kp (hp _ _ hw)

/-! ### Appending within the room that a token gives -/
theorem Sat.append_room {γ : Ghost} {m : Heap} {w : World} (h : Sat γ m w) {id b s e : Nat} (hg : (id, .tail) ∈ m) (ht : γ.tk id = some (b, s, e)) (k : Nat) (hk : s + k ≤ e)
    (cur cur' : Array Value) (el : TypeId) (fr : Nat × Nat) (hc : w.heap[b]? = some (.cells cur el fr)) (hl : cur'.size = cur.size) (hsame : ∀ o, ¬ (s ≤ o ∧ o < s + k) → cur'[o]? = cur[o]?) :
    ∃ γ', γ.le γ' ∧ (∀ o u, s ≤ o → o < s + k → cur'[o]? = some u → γ'.frz b o = some u) ∧ γ'.tk γ.nx = some (b, s + k, e) ∧
      Sat γ' ((γ.nx, .tail) :: del id m) (w.setRow b cur') := by
  let γ' : Ghost := { γ with frz := fun b' o => if b' = b ∧ s ≤ o ∧ o < s + k then cur'[o]? else γ.frz b' o, tk := fun i => if i = γ.nx then some (b, s + k, e) else γ.tk i, nx := γ.nx + 1 }
  have hnof : ∀ o u, s ≤ o → o < e → γ.frz b o ≠ some u := fun o u h1 h2 => h.nofrz id _ b o u hg ⟨s, e, ht, h1, h2⟩
  have hle : γ.le γ' := by
    refine ⟨rfl, fun _ _ k => k, fun i b' k' => ?_, fun b1 o u k' => ?_⟩
    · show (if i = γ.nx then _ else γ.tk i) = some b'
      rw [if_neg]
      · exact k'
      · rintro rfl
        rw [(h.fresh _ (Nat.le_refl _)).2] at k'
        cases k'
    · show (if b1 = b ∧ s ≤ o ∧ o < s + k then _ else γ.frz b1 o) = some u
      rw [if_neg]
      · exact k'
      · rintro ⟨rfl, h1, h2⟩
        exact hnof o u h1 (by omega) k'
  obtain ⟨b', s', e', cur1, el1, fr1, a1, a2, a3, a4, afr, a5⟩ := h.obj id _ hg
  rw [ht] at a1
  obtain ⟨rfl, rfl, rfl⟩ : b = b' ∧ s = s' ∧ e = e' := by simpa using a1
  rw [hc] at a4
  obtain ⟨rfl, rfl, rfl⟩ : cur = cur1 ∧ el = el1 ∧ fr = fr1 := by simpa using a4
  have hrow := setRow_heap w b cur cur' el fr hc
  have hfr' : frOk cur'.size fr := by rw [hl]; exact afr
  have hne : ∀ i o, (i, o) ∈ m → i ≠ γ.nx := fun i o k => by have := h.key_lt k; omega
  have hold : ∀ i o b1 off, (i, o) ∈ m → Owns γ' i b1 off o → Owns γ i b1 off o := fun i o b1 off k' =>
    Owns.of_blk rfl (by show (if i = γ.nx then _ else γ.tk i) = _; rw [if_neg (hne i o k')])
  have hnew : ∀ b1 off, Owns γ' γ.nx b1 off .tail → b1 = b ∧ s + k ≤ off ∧ off < e := fun b1 off k' => by
    obtain ⟨s1, e1, h1, h2, h3⟩ := k'
    have h1' : (if γ.nx = γ.nx then some (b, s + k, e) else γ.tk γ.nx) = some (b1, s1, e1) := h1
    simp only [if_true, Option.some.injEq, Prod.mk.injEq] at h1'
    obtain ⟨rfl, rfl, rfl⟩ := h1'
    exact ⟨rfl, h2, h3⟩
  refine ⟨γ', hle, fun o u h1 h2 hu => ?_, by simp [γ'], ?_⟩
  · show (if b = b ∧ s ≤ o ∧ o < s + k then cur'[o]? else γ.frz b o) = some u
    rw [if_pos ⟨rfl, h1, h2⟩]; exact hu
  refine ⟨?_, ?_, ?_, ?_, ?_, ?_, ?_⟩
  · refine h.below.trans ⟨rfl, rfl, rfl, by simp, fun k1 hk1 => setRow_other w b k1 _ ?_⟩
    omega
  · simp only [keys, List.map_cons, List.nodup_cons]
    refine ⟨fun k1 => ?_, (keys_del_sub id m).nodup h.nd⟩
    have := h.keys_lt _ ((keys_del_sub id m).subset k1)
    omega
  · intro i hi
    have hi' : γ.nx + 1 ≤ i := hi
    obtain ⟨h1, h2⟩ := h.fresh i (by omega)
    refine ⟨h1, ?_⟩
    show (if i = γ.nx then _ else γ.tk i) = none
    rw [if_neg (by omega)]; exact h2
  · intro b1 o u k'
    have k'' : (if b1 = b ∧ s ≤ o ∧ o < s + k then cur'[o]? else γ.frz b1 o) = some u := k'
    split at k''
    · rename_i hh
      obtain ⟨rfl, _, _⟩ := hh
      rw [cell_of_row _ b1 o cur' el fr hrow]; exact k''
    · rename_i hh
      by_cases hbb : b1 = b
      · subst hbb
        rw [cell_of_row _ b1 o cur' el fr hrow, hsame o (fun hx => hh ⟨rfl, hx⟩), ← cell_of_row w b1 o cur el fr hc]
        exact h.frz b1 o u k''
      · rw [← h.frz b1 o u k'']
        exact World.cell?_of_block (w := w) (setRow_other w b b1 _ hbb)
  · intro i o k'
    simp only [List.mem_cons, Prod.mk.injEq] at k'
    rcases k' with ⟨rfl, rfl⟩ | k'
    · exact ⟨b, s + k, e, cur', el, fr, by simp [γ'], by omega, a3, hrow, hfr', by rw [hl]; exact a5⟩
    · obtain ⟨hid, k'⟩ := mem_del h.nd k'
      have ho := h.obj i o k'
      cases o with
      | tail =>
        obtain ⟨b2, s2, e2, cur2, el2, fr2, c1, c2, c3, c4, cf, c5⟩ := ho
        by_cases hbb : b2 = b
        · subst hbb
          rw [hc] at c4
          simp only [Option.some.injEq, Obj.cells.injEq] at c4
          exact ⟨b2, s2, e2, cur', el, fr, hle.tk _ _ c1, c2, c3, hrow, hfr', by rw [hl, c4.1]; exact c5⟩
        · exact ⟨b2, s2, e2, cur2, el2, fr2, hle.tk _ _ c1, c2, c3, by rw [setRow_other w b b2 _ hbb]; exact c4, cf, c5⟩
      | cells cs1 =>
        by_cases hk0 : k = 0
        · have hcc : cur' = cur := by
            refine Array.ext_getElem? fun o => hsame o (by omega)
          rw [hcc, setRow_self w b cur el fr hc]
          exact ho.mono hle fun _ _ => rfl
        · refine ho.mono hle fun b1 hb1 => setRow_other w b b1 _ ?_
          rintro rfl
          exact h.sep i _ id _ b1 s k' hg hid hb1 ⟨s, e, ht, Nat.le_refl _, by omega⟩
      | amap es =>
        by_cases hk0 : k = 0
        · have hcc : cur' = cur := by
            refine Array.ext_getElem? fun o => hsame o (by omega)
          rw [hcc, setRow_self w b cur el fr hc]
          exact ho.mono hle fun _ _ => rfl
        · refine ho.mono hle fun b1 hb1 => setRow_other w b b1 _ ?_
          rintro rfl
          exact h.sep i _ id _ b1 s k' hg hid hb1 ⟨s, e, ht, Nat.le_refl _, by omega⟩
  · intro i o i' o' b1 off k1 k2 hne' hw
    simp only [List.mem_cons, Prod.mk.injEq] at k1 k2
    rcases k1 with ⟨rfl, rfl⟩ | k1 <;> rcases k2 with ⟨rfl, rfl⟩ | k2
    · exact absurd rfl hne'
    · intro hw'
      obtain ⟨rfl, h1, h2⟩ := hnew _ _ hw
      obtain ⟨hid, k2⟩ := mem_del h.nd k2
      exact h.sep i' o' id _ b1 off k2 hg hid (hold _ _ _ _ k2 hw') ⟨s, e, ht, by omega, h2⟩
    · intro hw'
      obtain ⟨rfl, h1, h2⟩ := hnew _ _ hw'
      obtain ⟨hid, k1⟩ := mem_del h.nd k1
      exact h.sep i o id _ b1 off k1 hg hid (hold _ _ _ _ k1 hw) ⟨s, e, ht, by omega, h2⟩
    · obtain ⟨hid, k1⟩ := mem_del h.nd k1
      obtain ⟨hid', k2⟩ := mem_del h.nd k2
      exact fun hw' => h.sep i o i' o' b1 off k1 k2 hne' (hold _ _ _ _ k1 hw) (hold _ _ _ _ k2 hw')
  · intro i o b1 off u k1 hw hf
    have hf' : (if b1 = b ∧ s ≤ off ∧ off < s + k then cur'[off]? else γ.frz b1 off) = some u := hf
    simp only [List.mem_cons, Prod.mk.injEq] at k1
    rcases k1 with ⟨rfl, rfl⟩ | k1
    · obtain ⟨rfl, h1, h2⟩ := hnew _ _ hw
      rw [if_neg (by omega)] at hf'
      exact hnof off u (by omega) h2 hf'
    · obtain ⟨hid, k1⟩ := mem_del h.nd k1
      split at hf'
      · rename_i hh
        obtain ⟨rfl, h1, h2⟩ := hh
        exact h.sep i o id _ b1 off k1 hg hid (hold _ _ _ _ k1 hw) ⟨s, e, ht, h1, by omega⟩
      · exact h.nofrz i o b1 off u k1 (hold _ _ _ _ k1 hw) hf'

/-! ### An object that is written no more becomes a list -/
theorem Sat.freeze {γ : Ghost} {m : Heap} {w : World} {id : Nat} {cs : List AV} (h : Sat γ ((id, .cells cs) :: m) w) {b : Nat} (hb : γ.blk id = some b) :
    ∃ γ', γ.le γ' ∧ (∃ cur : Array Value, cur.size = cs.length ∧ (∀ j x, cs[j]? = some x → γ'.frz b j = some (cur.getD j undef) ∧ Rep γ x (cur.getD j undef))) ∧ Sat γ' m w := by
  obtain ⟨b', cur, e, fr, h1, h2, h3, hfr, h4, h5⟩ := h.obj id (.cells cs) (by simp)
  rw [hb] at h1
  obtain rfl := Option.some.inj h1
  let γ' : Ghost := { γ with frz := fun b' o => if b' = b then cur[o]? else γ.frz b' o }
  have hno : ∀ o u, γ.frz b o ≠ some u := fun o u => h.nofrz id (.cells cs) b o u (by simp) hb
  have hle : γ.le γ' := ⟨rfl, fun _ _ k => k, fun _ _ k => k, fun b1 o u k => by
    show (if b1 = b then cur[o]? else γ.frz b1 o) = some u
    rw [if_neg]
    · exact k
    · rintro rfl
      exact hno o u k⟩
  refine ⟨γ', hle, ⟨cur, h4, fun j x hx => ⟨?_, h5 j x hx⟩⟩, ?_⟩
  · show (if b = b then cur[j]? else γ.frz b j) = _
    have hj : j < cur.size := by rw [h4]; exact (List.getElem?_eq_some_iff.1 hx).1
    rw [if_pos rfl]
    simp [Array.getD, hj]
  have hd : Sat γ m w := Sat.drop (m := [(id, .cells cs)]) h
  refine ⟨hd.below, hd.nd, hd.fresh, ?_, fun i o k => (hd.obj i o k).mono hle fun _ _ => rfl, ?_, ?_⟩
  · intro b1 o u k
    have k' : (if b1 = b then cur[o]? else γ.frz b1 o) = some u := k
    split at k'
    · rename_i hh; subst hh
      rw [cell_of_row _ b1 o cur e fr h3]; exact k'
    · exact hd.frz b1 o u k'
  · intro i o i' o' b1 off k k' hne hw hw'
    exact hd.sep i o i' o' b1 off k k' hne (Owns.of_blk (γ' := γ') rfl rfl hw) (Owns.of_blk (γ' := γ') rfl rfl hw')
  · intro i o b1 off u k hw hf
    have hf' : (if b1 = b then cur[off]? else γ.frz b1 off) = some u := hf
    have hw' : Owns γ i b1 off o := Owns.of_blk (γ' := γ') rfl rfl hw
    split at hf'
    · rename_i hh; subst hh
      refine h.sep i o id (.cells cs) b1 off (by simp [k]) (by simp) ?_ hw' hb
      rintro rfl
      have := h.nd
      simp only [keys, List.map_cons, List.nodup_cons] at this
      exact this.1 (List.mem_map.2 ⟨_, k, rfl⟩)
    · exact hd.nofrz i o b1 off u k hw' hf'

/-! ### A block is marked as a string's twin (the place behind its last cell) -/
theorem heap_freeze (w : World) (b n : Nat) (cur : Array Value) (e : TypeId) (fr : Nat × Nat) (h : w.heap[b]? = some (.cells cur e fr)) :
    (w.freeze ⟨b, n, none⟩ 1).heap[b]? = some (.cells cur e (if fr.1 == fr.2 then (n, n + 1) else (min fr.1 n, max fr.2 (n + 1)))) := by
  have hlt : b < w.heap.size := (Array.getElem?_eq_some_iff.1 h).1
  simp [World.freeze, Array.getElem?_modify, h]
theorem heap_freeze_other (w : World) (b n k : Nat) (h : k ≠ b) : (w.freeze ⟨b, n, none⟩ 1).heap[k]? = w.heap[k]? := by
  simp [World.freeze, Array.getElem?_modify, Ne.symm h]

theorem Sat.mark {γ : Ghost} {m : Heap} {w : World} (h : Sat γ m w) {b : Nat} {cur : Array Value} {e : TypeId} {fr : Nat × Nat} (hb : w.heap[b]? = some (.cells cur e fr)) (hw0 : γ.w0.heap.size ≤ b) :
    Sat γ m (w.freeze ⟨b, cur.size, none⟩ 1) := by
  have hf := heap_freeze w b cur.size cur e fr hb
  have hfr : frOk cur.size fr → frOk cur.size (if fr.1 == fr.2 then (cur.size, cur.size + 1) else (min fr.1 cur.size, max fr.2 (cur.size + 1))) := by
    rintro (rfl | rfl)
    · exact .inr rfl
    · refine .inr ?_
      simp
  refine ⟨?_, h.nd, h.fresh, fun b1 o u k => ?_, fun i o k => ?_, h.sep, h.nofrz⟩
  · refine h.below.trans ⟨rfl, rfl, rfl, by simp [World.freeze], fun k hk => heap_freeze_other w b _ k (by omega)⟩
  · rw [← h.frz b1 o u k]
    by_cases hbb : b1 = b
    · subst hbb
      rw [cell_of_row _ b1 o cur e _ hf, cell_of_row _ b1 o cur e _ hb]
    · exact World.cell?_of_block (w := w) (heap_freeze_other w b _ b1 hbb)
  · have ho := h.obj i o k
    cases o with
    | cells cs =>
      obtain ⟨b', cur1, e1, fr1, a1, a2, a3, a4, a5, a6⟩ := ho
      by_cases hbb : b' = b
      · subst hbb
        rw [hb] at a3
        simp only [Option.some.injEq, Obj.cells.injEq] at a3
        obtain ⟨rfl, rfl, rfl⟩ := a3
        exact ⟨b', cur, e, _, a1, a2, hf, hfr a4, a5, a6⟩
      · exact ⟨b', cur1, e1, fr1, a1, a2, by rw [heap_freeze_other w b _ b' hbb]; exact a3, a4, a5, a6⟩
    | tail =>
      obtain ⟨b', s, e1, cur1, el, fr1, a1, a2, a3, a4, a5, a6⟩ := ho
      by_cases hbb : b' = b
      · subst hbb
        rw [hb] at a4
        simp only [Option.some.injEq, Obj.cells.injEq] at a4
        obtain ⟨rfl, rfl, rfl⟩ := a4
        exact ⟨b', s, e1, cur, e, _, a1, a2, a3, hf, hfr a5, a6⟩
      · exact ⟨b', s, e1, cur1, el, fr1, a1, a2, a3, by rw [heap_freeze_other w b _ b' hbb]; exact a4, a5, a6⟩
    | amap es =>
      refine ObjOk.mono ho (.refl _) fun b1 hb1 => heap_freeze_other w b _ b1 ?_
      rintro rfl
      obtain ⟨b', ens, cl, a1, a2, a3, _⟩ := ho
      have hb1' : γ.blk i = some b1 := hb1
      rw [a1] at hb1'
      obtain rfl := Option.some.inj hb1'
      rw [hb] at a3
      cases a3

end Go.Proofs.Ytceahampebofbaa.Moi
