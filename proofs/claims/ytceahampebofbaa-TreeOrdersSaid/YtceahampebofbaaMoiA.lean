/- Plain values that stand for Go's values in memory: what they are, when a value of the machine is such a one, and when a world holds them. -/
import Derived.WalkKit
import Derived.RowKit3
import Derived.KernelRfl
set_option linter.unusedVariables false
set_option linter.unusedSimpArgs false
namespace Go.Proofs.Ytceahampebofbaa.Moi
open Go Go.RowKit

/-- Who may append to a list: it is nil; its capacity is its length (in a block of the call's own; or anywhere); a token gives the right to what lies behind it; nobody knows. -/
inductive Own where
  | nil
  | full
  | fix
  | tok (id : Nat)
  | any

/-- A plain value. -/
inductive AV where
  | top
  | sc (v : Value)
  | lst (es : List AV) (o : Own)
  | vptr (cs : List AV)
  | ptr (id off : Nat)
  | mref (id off len cap : Nat)
  | agg (cs : List AV)
  | tup (vs : List AV)
  | iface (t : TypeId) (x : AV)
  | clos (f : FuncId) (cap : List AV)
  | mapp (id : Nat)

def AV.cells : AV → List AV
  | .agg cs => cs
  | x => [x]

/-- Can it lie in one cell? -/
def AV.one : AV → Bool
  | .top | .agg _ | .tup _ => false
  | .sc v => v.oneCell'
  | _ => true

/-- What the heap of a proof holds under an id. -/
inductive AObj where
  | cells (cs : List AV)
  | tail
  | amap (es : List (Value × AV))

abbrev Heap := List (Nat × AObj)
def keys (m : Heap) : List Nat := m.map (·.1)

/-- Where ids lie, which cells will never change, and the world in which all began. -/
structure Ghost where
  w0 : World
  blk : Nat → Option Nat
  tk : Nat → Option (Nat × Nat × Nat)
  frz : Nat → Nat → Option Value
  nx : Nat

structure Ghost.le (γ γ' : Ghost) : Prop where
  w0 : γ'.w0 = γ.w0
  blk : ∀ i b, γ.blk i = some b → γ'.blk i = some b
  tk : ∀ i b, γ.tk i = some b → γ'.tk i = some b
  frz : ∀ b o u, γ.frz b o = some u → γ'.frz b o = some u

theorem Ghost.le.refl (γ : Ghost) : γ.le γ := ⟨rfl, fun _ _ h => h, fun _ _ h => h, fun _ _ _ h => h⟩
theorem Ghost.le.trans {a b c : Ghost} (h : a.le b) (k : b.le c) : a.le c :=
  ⟨k.w0.trans h.w0, fun _ _ x => k.blk _ _ (h.blk _ _ x), fun _ _ x => k.tk _ _ (h.tk _ _ x), fun _ _ _ x => k.frz _ _ _ (h.frz _ _ _ x)⟩

def OwnOk (γ : Ghost) (b off n cap sz : Nat) : Own → Prop
  | .nil => False
  | .full => cap = n ∧ γ.w0.heap.size ≤ b
  | .fix => cap = n
  | .tok id => γ.tk id = some (b, off + n * sz, off + cap * sz) ∧ γ.w0.heap.size ≤ b
  | .any => True

/-- A plain value stands for a value of the machine. -/
inductive Rep (γ : Ghost) : AV → Value → Prop
  | top (v : Value) : Rep γ .top v
  | sc (v : Value) : Rep γ (.sc v) v
  | lnil : Rep γ (.lst [] .nil) (.slice none 0 0)
  | lemp (a : Option Addr) (n : Nat) : n ≤ maxLen → Rep γ (.lst [] .any) (.slice a 0 n)
  | lst (es : List AV) (o : Own) (b off cap sz : Nat) (u : Nat → Value) : es.length ≤ cap → cap ≤ maxLen → (∀ e ∈ es, e.cells.length = sz) →
      OwnOk γ b off es.length cap sz o →
      (∀ i e j x, es[i]? = some e → e.cells[j]? = some x → γ.frz b (off + (i * sz + j)) = some (u (i * sz + j))) →
      (∀ i e j x, es[i]? = some e → e.cells[j]? = some x → Rep γ x (u (i * sz + j))) →
      Rep γ (.lst es o) (.slice (some ⟨b, off, none⟩) es.length cap)
  | vptr (cs : List AV) (b off : Nat) (u : Nat → Value) : (∀ j x, cs[j]? = some x → γ.frz b (off + j) = some (u j)) → (∀ j x, cs[j]? = some x → Rep γ x (u j)) →
      Rep γ (.vptr cs) (.pointer (some ⟨b, off, none⟩))
  | ptr (id off b : Nat) : γ.blk id = some b → Rep γ (.ptr id off) (.pointer (some ⟨b, off, none⟩))
  | mref (id off len cap b : Nat) : γ.blk id = some b → len ≤ cap → cap ≤ maxLen → Rep γ (.mref id off len cap) (.slice (some ⟨b, off, none⟩) len cap)
  | agg (cs : List AV) (us : Array Value) : us.size = cs.length → (∀ j x, cs[j]? = some x → Rep γ x (us.getD j undef)) → Rep γ (.agg cs) (.agg us)
  | tup (cs : List AV) (us : Array Value) : us.size = cs.length → (∀ j x, cs[j]? = some x → Rep γ x (us.getD j undef)) → Rep γ (.tup cs) (.tuple us)
  | iface (t : TypeId) (x : AV) (v : Value) : Rep γ x v → Rep γ (.iface t x) (.iface t v)
  | clos (f : FuncId) (cs : List AV) (us : Array Value) : us.size = cs.length → (∀ j x, cs[j]? = some x → Rep γ x (us.getD j undef)) → Rep γ (.clos f cs) (.func (.func f) #[] us)
  | mapp (id b : Nat) : γ.blk id = some b → Rep γ (.mapp id) (.map (some b))

theorem OwnOk.mono {γ γ' : Ghost} (h : γ.le γ') {b off n cap sz : Nat} {o : Own} (k : OwnOk γ b off n cap sz o) : OwnOk γ' b off n cap sz o := by
  cases o <;> simp_all [OwnOk, h.w0]
  exact h.tk _ _ k.1

theorem Rep.mono {γ γ' : Ghost} (h : γ.le γ') {x : AV} {v : Value} (r : Rep γ x v) : Rep γ' x v := by
  induction r with
  | top v => exact .top v
  | sc v => exact .sc v
  | lnil => exact .lnil
  | lemp a n hn => exact .lemp a n hn
  | lst es o b off cap sz u h1 h2 h3 h4 h5 _ ih => exact .lst es o b off cap sz u h1 h2 h3 (h4.mono h) (fun i e j x a c => h.frz _ _ _ (h5 i e j x a c)) ih
  | vptr cs b off u h1 _ ih => exact .vptr cs b off u (fun j x a => h.frz _ _ _ (h1 j x a)) ih
  | ptr id off b h1 => exact .ptr id off b (h.blk _ _ h1)
  | mref id off len cap b h1 h2 h3 => exact .mref id off len cap b (h.blk _ _ h1) h2 h3
  | agg cs us h1 _ ih => exact .agg cs us h1 ih
  | tup cs us h1 _ ih => exact .tup cs us h1 ih
  | iface t x v _ ih => exact .iface t x v ih
  | clos f cs us h1 _ ih => exact .clos f cs us h1 ih
  | mapp id b h1 => exact .mapp id b (h.blk _ _ h1)

/-- One cell's plain value stands for one cell's value. -/
theorem Rep.one {γ : Ghost} {x : AV} {v : Value} (r : Rep γ x v) (h : x.one = true) : v.oneCell' = true := by
  cases r <;> simp_all [AV.one, Value.oneCell']

theorem Rep.cells {γ : Ghost} {x : AV} {v : Value} (r : Rep γ x v) (h : x.one = true ∨ ∃ cs, x = .agg cs) :
    v.cells.size = x.cells.length ∧ ∀ j y, x.cells[j]? = some y → Rep γ y (v.cells.getD j undef) := by
  rcases h with h | ⟨cs, rfl⟩
  · have h1 := r.one h
    have hx : x.cells = [x] := by cases x <;> simp_all [AV.cells, AV.one]
    have hv : v.cells = #[v] := by cases v <;> simp_all [Value.cells, Value.oneCell']
    rw [hx, hv]
    refine ⟨rfl, fun j y hy => ?_⟩
    match j, hy with
    | 0, hy => simp at hy; subst hy; simpa using r
    | j + 1, hy => simp at hy
  · cases r with
    | agg cs us h1 h2 => exact ⟨h1, h2⟩

/-- Which cells an object may write. -/
def Owns (γ : Ghost) (id : Nat) (b o : Nat) : AObj → Prop
  | .cells _ => γ.blk id = some b
  | .tail => ∃ s e, γ.tk id = some (b, s, e) ∧ s ≤ o ∧ o < e
  | .amap _ => γ.blk id = some b

/-- No cell of a block is a string's; at most the place behind its last one is marked. -/
def frOk (n : Nat) (fr : Nat × Nat) : Prop := fr = (0, 0) ∨ fr = (n, n + 1)

def ObjOk (γ : Ghost) (w : World) (id : Nat) : AObj → Prop
  | .cells cs => ∃ b cur e fr, γ.blk id = some b ∧ γ.w0.heap.size ≤ b ∧ w.heap[b]? = some (.cells cur e fr) ∧ frOk cur.size fr ∧ cur.size = cs.length ∧ ∀ j x, cs[j]? = some x → Rep γ x (cur.getD j undef)
  | .tail => ∃ b s e cur el fr, γ.tk id = some (b, s, e) ∧ s ≤ e ∧ γ.w0.heap.size ≤ b ∧ w.heap[b]? = some (.cells cur el fr) ∧ frOk cur.size fr ∧ e ≤ cur.size
  | .amap es => ∃ b ens clock, γ.blk id = some b ∧ γ.w0.heap.size ≤ b ∧ w.heap[b]? = some (.map ens clock) ∧ ens.size = es.length ∧
      ∀ (j : Nat) (k : Value) (x : AV), es[j]? = some (k, x) → ∃ en : MapEntry, ens[j]? = some en ∧ en.key = k ∧ Rep γ x en.val

/-- A world holds a heap. -/
structure Sat (γ : Ghost) (m : Heap) (w : World) : Prop where
  below : Below γ.w0.heap.size γ.w0 w
  nd : (keys m).Nodup
  fresh : ∀ id, γ.nx ≤ id → γ.blk id = none ∧ γ.tk id = none
  frz : ∀ b o u, γ.frz b o = some u → w.cell? ⟨b, o, none⟩ = some u
  obj : ∀ id ob, (id, ob) ∈ m → ObjOk γ w id ob
  sep : ∀ id ob id' ob' b o, (id, ob) ∈ m → (id', ob') ∈ m → id ≠ id' → Owns γ id b o ob → ¬ Owns γ id' b o ob'
  nofrz : ∀ id ob b o u, (id, ob) ∈ m → Owns γ id b o ob → γ.frz b o ≠ some u

theorem Sat.perm {γ : Ghost} {m m' : Heap} {w : World} (h : Sat γ m w) (p : m.Perm m') : Sat γ m' w :=
  ⟨h.below, (p.map _).nodup_iff.1 h.nd, h.fresh, h.frz, fun id ob k => h.obj id ob (p.mem_iff.2 k),
    fun id ob id' ob' b o k k' => h.sep id ob id' ob' b o (p.mem_iff.2 k) (p.mem_iff.2 k'), fun id ob b o u k => h.nofrz id ob b o u (p.mem_iff.2 k)⟩
/-- What one does not need may be forgotten. -/
theorem Sat.drop {γ : Ghost} {m m' : Heap} {w : World} (h : Sat γ (m ++ m') w) : Sat γ m' w :=
  ⟨h.below, by have := h.nd; simp only [keys, List.map_append] at this; exact (List.nodup_append.1 this).2.1, h.fresh, h.frz, fun id ob k => h.obj id ob (by simp [k]),
    fun id ob id' ob' b o k k' => h.sep id ob id' ob' b o (by simp [k]) (by simp [k']), fun id ob b o u k => h.nofrz id ob b o u (by simp [k])⟩

theorem Sat.key_lt {γ : Ghost} {m : Heap} {w : World} (h : Sat γ m w) {id : Nat} {ob : AObj} (k : (id, ob) ∈ m) : id < γ.nx := by
  rcases Nat.lt_or_ge id γ.nx with h1 | h1
  · exact h1
  · have hf := h.fresh id h1
    have ho := h.obj id ob k
    cases ob <;> simp_all [ObjOk]
theorem Sat.keys_lt {γ : Ghost} {m : Heap} {w : World} (h : Sat γ m w) : ∀ id ∈ keys m, id < γ.nx := by
  intro id hid
  simp only [keys, List.mem_map] at hid
  obtain ⟨⟨i, ob⟩, h1, rfl⟩ := hid
  exact h.key_lt h1

theorem Sat.drew {γ : Ghost} {m : Heap} {w : World} (h : Sat γ m w) : Sat γ m w.drew :=
  ⟨h.below.drew, h.nd, h.fresh, h.frz, fun id ob k => by have := h.obj id ob k; cases ob <;> exact this, h.sep, h.nofrz⟩

/-- The object under an id. -/
def get (id : Nat) : Heap → Option AObj
  | [] => none
  | (i, ob) :: m => if i = id then some ob else get id m
def put (id : Nat) (ob : AObj) : Heap → Heap
  | [] => []
  | (i, o) :: m => if i = id then (i, ob) :: m else (i, o) :: put id ob m
def del (id : Nat) : Heap → Heap
  | [] => []
  | (i, o) :: m => if i = id then m else (i, o) :: del id m

theorem get_mem {id : Nat} {ob : AObj} : ∀ {m : Heap}, get id m = some ob → (id, ob) ∈ m
  | [], h => by simp [get] at h
  | (i, o) :: m, h => by
    simp only [get] at h
    split at h
    · rename_i e; subst e; simp at h; subst h; simp
    · simp [get_mem h]
theorem get_append {id : Nat} {ob : AObj} {m mf : Heap} (h : get id m = some ob) : get id (m ++ mf) = some ob := by
  induction m with
  | nil => simp [get] at h
  | cons a m ih =>
    obtain ⟨i, o⟩ := a
    simp only [List.cons_append, get] at h ⊢
    split
    · rename_i e; simpa [e] using h
    · rename_i e; exact ih (by simpa [e] using h)
theorem keys_put (id : Nat) (ob : AObj) (m : Heap) : keys (put id ob m) = keys m := by
  induction m with
  | nil => rfl
  | cons a m ih =>
    obtain ⟨i, o⟩ := a
    simp only [put]
    split
    · rfl
    · simp only [keys, List.map_cons] at ih ⊢; rw [ih]
theorem put_append {id : Nat} {ob o1 : AObj} {m mf : Heap} (h : get id m = some o1) : put id ob (m ++ mf) = put id ob m ++ mf := by
  induction m with
  | nil => simp [get] at h
  | cons a m ih =>
    obtain ⟨i, o⟩ := a
    simp only [List.cons_append, put, get] at h ⊢
    split
    · rfl
    · rename_i e; rw [ih (by simpa [e] using h)]; rfl
theorem del_append {id : Nat} {o1 : AObj} {m mf : Heap} (h : get id m = some o1) : del id (m ++ mf) = del id m ++ mf := by
  induction m with
  | nil => simp [get] at h
  | cons a m ih =>
    obtain ⟨i, o⟩ := a
    simp only [List.cons_append, del, get] at h ⊢
    split
    · rfl
    · rename_i e; rw [ih (by simpa [e] using h)]; rfl
theorem mem_put {id i : Nat} {ob o : AObj} : ∀ {m : Heap}, (keys m).Nodup → (i, o) ∈ put id ob m → (i = id ∧ o = ob) ∨ (i ≠ id ∧ (i, o) ∈ m)
  | [], _, h => by simp [put] at h
  | (j, o') :: m, hn, h => by
    simp only [keys, List.map_cons, List.nodup_cons] at hn
    simp only [put] at h
    split at h
    · rename_i e; subst e
      simp only [List.mem_cons, Prod.mk.injEq] at h
      rcases h with h | h
      · exact .inl h
      · refine .inr ⟨fun e => hn.1 ?_, by simp [h]⟩
        subst e; exact List.mem_map.2 ⟨_, h, rfl⟩
    · rename_i e
      simp only [List.mem_cons, Prod.mk.injEq] at h
      rcases h with ⟨rfl, rfl⟩ | h
      · exact .inr ⟨e, by simp⟩
      · rcases mem_put (by simpa [keys] using hn.2) h with h | ⟨h1, h2⟩
        · exact .inl h
        · exact .inr ⟨h1, by simp [h2]⟩
theorem mem_del {id i : Nat} {o : AObj} : ∀ {m : Heap}, (keys m).Nodup → (i, o) ∈ del id m → i ≠ id ∧ (i, o) ∈ m
  | [], _, h => by simp [del] at h
  | (j, o') :: m, hn, h => by
    simp only [keys, List.map_cons, List.nodup_cons] at hn
    simp only [del] at h
    split at h
    · rename_i e; subst e
      refine ⟨fun e => hn.1 ?_, by simp [h]⟩
      subst e; exact List.mem_map.2 ⟨_, h, rfl⟩
    · rename_i e
      simp only [List.mem_cons, Prod.mk.injEq] at h
      rcases h with ⟨rfl, rfl⟩ | h
      · exact ⟨e, by simp⟩
      · obtain ⟨h1, h2⟩ := mem_del (by simpa [keys] using hn.2) h
        exact ⟨h1, by simp [h2]⟩
theorem keys_del_sub (id : Nat) (m : Heap) : (keys (del id m)).Sublist (keys m) := by
  induction m with
  | nil => simp [del, keys]
  | cons a m ih =>
    obtain ⟨i, o⟩ := a
    simp only [del]
    split
    · simp [keys]
    · simpa [keys] using ih

end Go.Proofs.Ytceahampebofbaa.Moi
