/- More of the machine's operations: lengths, new memory, what is put together. -/
import Derived.Test.YtceahampebofbaaMoiF
import Derived.Laws.MakeOwn
import Derived.MapKept
set_option linter.unusedVariables false
set_option linter.unusedSimpArgs false
namespace Go.Proofs.Ytceahampebofbaa.Moi
open Go Go.RowKit

section
variable {P : Program}

theorem ran_builtin {o : Oper} {a : Act} {w w' : World} {b : Builtin} {args : Array Operand} {ts : Array TypeId} {v : Value} (ho : o.op = .call { callee := .builtin b, args := args, argTypes := ts })
    (h : (builtin b ts o.type (args.map fun | .const _ => true | _ => false) (args.map a.eval)).run P w = .ok (.value v) w') : Ran P o a w v w' := by
  refine .inl ?_
  simp only [execOp, ho, resolve, Sem.run_bind, Sem.run_pure, Result.andThen_ok, invoke]
  exact h

theorem ok_lenS {o : Oper} {t : TypeId} {x : Operand} (ho : o.op = .call { callee := .builtin .len, args := #[x], argTypes := #[t] }) (ht : P.underlying t = some .string) : OpOk P (.lenS (nopd x)) o := by
  intro γ mf ρ m a w K hr hs hv
  have hx := ev_ok hr x
  simp only [vop] at hv
  split at hv <;> try (exact hv.elim)
  rename_i s he
  rw [he] at hx
  generalize hvx : a.eval x = vx at hx
  cases hx
  exact ⟨goInt s.size, w, ran_builtin ho (by simp [builtin, Builtin.len_, run_underlying ht, hvx]), Fin.same (.sc _) hs hv⟩

theorem ok_lenL {o : Oper} {t e : TypeId} {x : Operand} (ho : o.op = .call { callee := .builtin .len, args := #[x], argTypes := #[t] }) (ht : P.underlying t = some (.slice e)) : OpOk P (.lenL (nopd x)) o := by
  intro γ mf ρ m a w K hr hs hv
  have hx := ev_ok hr x
  simp only [vop] at hv
  split at hv <;> try (exact hv.elim)
  · rename_i es ow he
    rw [he] at hx
    have hl : ∃ ad c, a.eval x = .slice ad es.length c := by
      generalize hvx : a.eval x = vx at hx
      cases hx with
      | lnil => exact ⟨none, 0, rfl⟩
      | lemp ad n hn => exact ⟨ad, n, rfl⟩
      | lst es o b off cap sz u h1 h2 h3 h4 h5 h6 => exact ⟨_, cap, rfl⟩
    obtain ⟨ad, c, hl⟩ := hl
    exact ⟨goInt es.length, w, ran_builtin ho (by simp [builtin, Builtin.len_, run_underlying ht, hl]), Fin.same (.sc _) hs hv⟩
  · rename_i id off n c he
    rw [he] at hx
    generalize hvx : a.eval x = vx at hx
    cases hx
    exact ⟨goInt n, w, ran_builtin ho (by simp [builtin, Builtin.len_, run_underlying ht, hvx]), Fin.same (.sc _) hs hv⟩

theorem ok_lenArr {o : Oper} {t e : TypeId} {n : Nat} {x : Operand} (ho : o.op = .call { callee := .builtin .len, args := #[x], argTypes := #[t] }) (ht : P.underlying t = some (.array n e)) : OpOk P (.lenArr n) o := by
  intro γ mf ρ m a w K hr hs hv
  exact ⟨goInt n, w, ran_builtin ho (by simp [builtin, Builtin.len_, run_underlying ht]), Fin.same (.sc _) hs hv⟩

theorem ok_cap {o : Oper} {t e : TypeId} {x : Operand} (ho : o.op = .call { callee := .builtin .cap, args := #[x], argTypes := #[t] }) (ht : P.underlying t = some (.slice e)) : OpOk P (.cap (nopd x)) o := by
  intro γ mf ρ m a w K hr hs hv
  have hx := ev_ok hr x
  simp only [vop] at hv
  split at hv <;> try (exact hv.elim)
  rename_i id off n c he
  rw [he] at hx
  generalize hvx : a.eval x = vx at hx
  cases hx
  exact ⟨goInt c, w, ran_builtin ho (by simp [builtin, Builtin.cap_, run_underlying ht, hvx]), Fin.same (.sc _) hs hv⟩

theorem allInt_ok {γ : Ghost} {x y : AV} {vx vy : Value} {K : IntKind → Int → Int → Prop} (hx : Rep γ x vx) (hy : Rep γ y vy) (h : allInt x y K) : ∃ k a b, vx = .int k a ∧ vy = .int k b ∧ K k a b := by
  unfold allInt at h
  split at h
  · obtain ⟨rfl, h⟩ := h
    cases hx; cases hy
    exact ⟨_, _, _, rfl, rfl, h⟩
  · exact h.elim

theorem ok_mx {o : Oper} {ts : Array TypeId} {x y : Operand} (ho : o.op = .call { callee := .builtin .max, args := #[x, y], argTypes := ts }) : OpOk P (.mx (nopd x) (nopd y)) o := by
  intro γ mf ρ m a w K hr hs hv
  obtain ⟨k, p, q, h1, h2, hK⟩ := allInt_ok (ev_ok hr x) (ev_ok hr y) hv
  refine ⟨.int k (max p q), w, ran_builtin ho ?_, Fin.same (.sc _) hs hK⟩
  simp [builtin, Builtin.max_, h1, h2, Builtin.max2]
  omega

theorem ok_mn {o : Oper} {ts : Array TypeId} {x y : Operand} (ho : o.op = .call { callee := .builtin .min, args := #[x, y], argTypes := ts }) : OpOk P (.mn (nopd x) (nopd y)) o := by
  intro γ mf ρ m a w K hr hs hv
  obtain ⟨k, p, q, h1, h2, hK⟩ := allInt_ok (ev_ok hr x) (ev_ok hr y) hv
  refine ⟨.int k (min p q), w, ran_builtin ho ?_, Fin.same (.sc _) hs hK⟩
  simp [builtin, Builtin.min_, h1, h2, Builtin.min2]
  omega

/-! ### New memory -/
theorem Sat.new_cells' {γ : Ghost} {m mf : Heap} {w : World} (h : Sat γ (m ++ mf) w) (us : Array Value) (e : TypeId) (cs : List AV) (hl : us.size = cs.length)
    (hr : ∀ j x, cs[j]? = some x → Rep γ x (us.getD j undef)) {K : AV → Heap → Prop} {x : Nat → AV} {v : Value} (hx : ∀ γ', γ.le γ' → γ'.blk γ.nx = some w.heap.size → Rep γ' (x γ.nx) v)
    (hK : ∀ id, id ∉ keys m → K (x id) ((id, .cells cs) :: m)) : Fin γ mf K v (w.alloc (.cells us e)) := by
  obtain ⟨γ', h1, h2, h3⟩ := h.new_cells us e cs hl hr
  refine ⟨γ', x γ.nx, (γ.nx, .cells cs) :: m, h1, hx γ' h1 h2, h3, hK _ fun hk => ?_⟩
  have := h.keys_lt γ.nx (by simp only [keys, List.map_append, List.mem_append]; exact .inl hk)
  omega

theorem run_newVar (t : TypeId) (v : Value) (w : World) : (newVar t v).run P w = .ok ⟨w.heap.size, 0, none⟩ (w.alloc (.cells v.cells t)) := by
  simp [newVar, newRow]

theorem ok_box {o : Oper} {t : TypeId} {x : Operand} (ho : o.op = .box t x) : OpOk P (.box (nopd x)) o := by
  intro γ mf ρ m a w K hr hs hv
  obtain ⟨h1, hK⟩ := hv
  obtain ⟨h2, h3, h4⟩ := one_of_rep (ev_ok hr x) h1
  refine ⟨.pointer (some ⟨w.heap.size, 0, none⟩), w.alloc (.cells (a.eval x).cells t), ran_to (s := Instr.box t (a.eval x)) (by simp [execOp, ho]) ?_,
    hs.new_cells' _ t _ h2 h3 (x := fun id => .ptr id 0) (fun γ' _ hb => .ptr _ _ _ hb) hK⟩
  simp [Instr.box, run_newVar]

theorem zeroOf_ok {t : TypeId} {zs : List AV} (h : zeroOf P t = some zs) : ∃ i z, P.info? t = some i ∧ i.zero = some z ∧ z.cells.size = i.size ∧ zs = z.cells.toList.map aconst ∧ allOne zs = true := by
  unfold zeroOf at h
  split at h
  · rename_i i hi
    split at h
    · rename_i z hz
      split at h
      · rename_i hc
        obtain rfl := Option.some.inj h
        exact ⟨i, z, hi, hz, hc.1, rfl, hc.2⟩
      · cases h
    · cases h
  · cases h
theorem zeroOf_rep {γ : Ghost} {z : Value} : ∀ j x, (z.cells.toList.map aconst)[j]? = some x → Rep γ x (z.cells.getD j undef) := by
  intro j x hj
  simp only [List.getElem?_map, Option.map_eq_some_iff, Array.getElem?_toList] at hj
  obtain ⟨u, hu, rfl⟩ := hj
  rw [Array.getD_eq_getD_getElem?, hu]
  exact aconst_ok γ u

theorem ok_alloc {o : Oper} {t : TypeId} {zs : List AV} (ho : o.op = .alloc t) (hz : zeroOf P t = some zs) : OpOk P (.alloc zs) o := by
  intro γ mf ρ m a w K hr hs hv
  obtain ⟨_, hK⟩ := hv
  obtain ⟨i, z, h1, h2, h3, rfl, _⟩ := zeroOf_ok hz
  refine ⟨.pointer (some ⟨w.heap.size, 0, none⟩), w.alloc (.cells z.cells t), ran_to (s := Instr.alloc t true (.tuple #[])) (by simp [execOp, ho]) ?_,
    hs.new_cells' _ t _ (by simp) zeroOf_rep (x := fun id => .ptr id 0) (fun γ' _ hb => .ptr _ _ _ hb) hK⟩
  simp [Instr.alloc, zeroValue, typeInfo, h1, h2, run_newVar]

theorem flatten_get (z : List AV) : ∀ (n j : Nat), (List.replicate n z).flatten[j]? = if j < n * z.length then z[j % z.length]? else none
  | 0, j => by simp
  | n + 1, j => by
    rw [List.replicate_succ, List.flatten_cons]
    by_cases h : j < z.length
    · rw [List.getElem?_append_left h, if_pos (by rw [Nat.add_mul]; omega), Nat.mod_eq_of_lt h]
    · rw [List.getElem?_append_right (by omega), flatten_get z n, Nat.add_mul, Nat.one_mul]
      have : (j - z.length) % z.length = j % z.length := by
        rw [← Nat.mod_eq_sub_mod (by omega)]
      rw [this]
      by_cases h' : j - z.length < n * z.length
      · rw [if_pos h', if_pos (by omega)]
      · rw [if_neg h', if_neg (by omega)]
theorem flatten_length (z : List AV) (n : Nat) : (List.replicate n z).flatten.length = n * z.length := by simp

theorem madeCells_rep {γ : Ghost} {z : Value} {n : Nat} : ∀ j x, (List.replicate n (z.cells.toList.map aconst)).flatten[j]? = some x → Rep γ x ((madeCells z.cells (n * z.cells.size)).getD j undef) := by
  intro j x hj
  rw [flatten_get] at hj
  split at hj
  · rename_i hlt
    simp only [List.length_map, Array.length_toList] at hj hlt
    have hz : 0 < z.cells.size := by
      rcases Nat.eq_zero_or_pos z.cells.size with h | h
      · rw [h] at hlt; omega
      · exact h
    have hm : j % z.cells.size < z.cells.size := Nat.mod_lt _ hz
    have := zeroOf_rep (γ := γ) (z := z) _ _ hj
    rw [Array.getD_eq_getD_getElem?] at this ⊢
    have e : (madeCells z.cells (n * z.cells.size))[j]? = z.cells[j % z.cells.size]? := by
      simp [madeCells, hlt, hm, getElem!_pos]
    rw [e]; exact this
  · cases hj

theorem ok_mkSlice {o : Oper} {t e : TypeId} {x y : Operand} {i : TypeInfo} {zs : List AV} (ho : o.op = .makeSlice t x y) (ht : P.underlying t = some (.slice e)) (hi : P.info? e = some i) (hz : zeroOf P e = some zs) :
    OpOk P (.mkSlice i.size i.bytes zs (nopd x) (nopd y)) o := by
  intro γ mf ρ m a w K hr hs hv
  obtain ⟨k1, l, e1, _, hv⟩ := bnd_ok (ev_ok hr x) hv
  obtain ⟨k2, c, e2, _, h0, h1, h2, h3, hK⟩ := bnd_ok (ev_ok hr y) hv
  obtain ⟨i', z, q1, q2, q3, rfl, _⟩ := zeroOf_ok hz
  rw [hi] at q1
  obtain rfl := Option.some.inj q1
  have hb : (i.bytes : Int) * c ≤ 281474976710656 := by rw [Int.mul_comm]; omega
  have hc63 : c ≤ 9223372036854775807 := by simpa [maxLen] using h3
  have run := run_make (P := P) w t e i z ht hi q2 k1 k2 l c h0 h1 hb hc63
  refine ⟨_, _, ran_to (s := Instr.makeSlice t (a.eval x) (a.eval y)) (by simp [execOp, ho]) (by rw [e1, e2]; exact run), ?_⟩
  rw [← q3]
  refine hs.new_cells' _ e _ (by simp [size_madeCells]) madeCells_rep (x := fun id => .mref id 0 l.toNat c.toNat) (fun γ' _ hb => .mref _ _ _ _ _ hb (by omega) (by simp only [maxLen] at h3 ⊢; omega)) hK

theorem ok_mkMap {o : Oper} {t : TypeId} (ho : o.op = .makeMap t none) : OpOk P .mkMap o := by
  intro γ mf ρ m a w K hr hs hv
  obtain ⟨γ', h1, h2, h3⟩ := hs.new_map
  refine ⟨.map (some w.heap.size), w.alloc (.map #[] 0), ran_to (s := Instr.makeMap t none) (by simp [execOp, ho]) (by simp [Instr.makeMap]), γ', .mapp γ.nx, (γ.nx, .amap []) :: m, h1, .mapp _ _ h2, h3, hv _ fun hk => ?_⟩
  have := hs.keys_lt γ.nx (by simp only [keys, List.map_append, List.mem_append]; exact .inl hk)
  omega

/-! ### Maps -/
def kkOf (P : Program) (t : TypeId) : Option (Option IntKind) := match P.underlying t with
  | some .string => some none
  | some (.int k) => some (some k)
  | _ => none
def zeroA (P : Program) (t : TypeId) : Option AV := match P.info? t with
  | some i => match i.zero with
    | some z => if z.oneCell' = true then some (aconst z) else none
    | none => none
  | none => none
theorem zeroA_ok {t : TypeId} {x : AV} (h : zeroA P t = some x) : ∃ i z, P.info? t = some i ∧ i.zero = some z ∧ x = aconst z := by
  unfold zeroA at h
  split at h
  · rename_i i hi
    split at h
    · rename_i z hz
      split at h
      · exact ⟨i, z, hi, hz, (Option.some.inj h).symm⟩
      · cases h
    · cases h
  · cases h
def kkDesc : Option IntKind → TypeDesc
  | none => .string
  | some k => .int k
theorem kkOf_ok {t : TypeId} {kk : Option IntKind} (h : kkOf P t = some kk) : P.underlying t = some (kkDesc kk) := by
  unfold kkOf at h
  split at h
  · rename_i h1; rw [h1]; cases h; rfl
  · rename_i k h1; rw [h1]; cases h; rfl
  · cases h
theorem keyOk_is {kk : Option IntKind} {v : Value} (h : keyOk kk v = true) : MapKept.IsKey (kkDesc kk) v := by
  cases kk <;> cases v <;> simp_all [keyOk, MapKept.IsKey, kkDesc]
theorem keyEq_iff {kk : Option IntKind} {a b : Value} (ha : keyOk kk a = true) (hb : keyOk kk b = true) : keyEq a b = true ↔ a = b := by
  cases kk <;> cases a <;> cases b <;> simp_all [keyOk, keyEq]
theorem am_spec {γ : Ghost} {kk : Option IntKind} {kv : Value} (hk : keyOk kk kv = true) : ∀ (l : List MapEntry) (es : List (Value × AV)) (i : Nat), l.length = es.length →
    (∀ (j : Nat) (k : Value) (x : AV), es[j]? = some (k, x) → ∃ en : MapEntry, l[j]? = some en ∧ en.key = k ∧ Rep γ x en.val) → keysOk kk es →
    (Instr.findNow (kkDesc kk) kv l i = some none ∧ amGet kv es = none ∧ ∀ x, amPut kv x es = es ++ [(kv, x)]) ∨
    ∃ j en y, Instr.findNow (kkDesc kk) kv l i = some (some (i + j, en.val)) ∧ l[j]? = some en ∧ en.key = kv ∧ amGet kv es = some y ∧ Rep γ y en.val ∧ ∀ x, amPut kv x es = es.set j (kv, x)
  | [], [], _, _, _, _ => .inl ⟨rfl, rfl, fun _ => rfl⟩
  | [], _ :: _, _, h, _, _ => by simp at h
  | _ :: _, [], _, h, _, _ => by simp at h
  | en :: l, (k, y) :: es, i, hl, H, ho => by
    obtain ⟨en', h1, h2, h3⟩ := H 0 k y rfl
    simp only [List.getElem?_cons_zero, Option.some.injEq] at h1
    subst h1
    have hk2 : keyOk kk k = true := ho (k, y) (by simp)
    have hiff := keyEq_iff hk hk2
    obtain ⟨r, hr, hri⟩ := MapKept.sameNow_of_keys (keyOk_is hk) (show MapKept.IsKey (kkDesc kk) en.key by rw [h2]; exact keyOk_is hk2)
    rw [h2] at hri
    cases r with
    | true =>
      have e := hri.1 rfl
      have e2 := hiff.2 e
      refine .inr ⟨0, en, y, by simp [Instr.findNow, hr], rfl, by rw [h2, e], by rw [amGet, if_pos e2], h3, fun x => by rw [amPut, if_pos e2]; rfl⟩
    | false =>
      have hne : kv ≠ k := fun e => by have := hri.2 e; cases this
      have e2 : ¬ keyEq kv k = true := fun e => hne (hiff.1 e)
      rcases am_spec hk l es (i + 1) (by simpa using hl) (fun j k' x h => by simpa using H (j + 1) k' x (by simpa using h)) (fun e he => ho e (by simp [he])) with ⟨q1, q2, q3⟩ | ⟨j, en', y', q1, q2, q3, q4, q5, q6⟩
      · exact .inl ⟨by simp [Instr.findNow, hr, q1], by rw [amGet, if_neg e2, q2], fun x => by rw [amPut, if_neg e2, q3]; rfl⟩
      · exact .inr ⟨j + 1, en', y', by simp [Instr.findNow, hr, q1]; omega, by simpa using q2, q3, by rw [amGet, if_neg e2, q4], q5, fun x => by rw [amPut, if_neg e2, q6]; rfl⟩

theorem ok_lookup {o : Oper} {t kt et : TypeId} {mp key : Operand} {ok : Bool} {kk : Option IntKind} {z : AV} (ho : o.op = .lookup t mp key ok) (ht : P.underlying t = some (.map kt et)) (hk : kkOf P kt = some kk) (hz : zeroA P et = some z) :
    OpOk P (.lookup kk ok z (nopd mp) (nopd key)) o := by
  intro γ mf ρ m a w K hr hs hv
  have hm := ev_ok hr mp
  have hkey := ev_ok hr key
  simp only [vop] at hv
  split at hv <;> try (exact hv.elim)
  rename_i id kv e1 e2
  obtain ⟨es, hg, h1, h2, hK⟩ := hv
  rw [e1] at hm
  rw [e2] at hkey
  have hkv : a.eval key = kv := by
    generalize a.eval key = v at hkey
    cases hkey
    rfl
  obtain ⟨b, ens, clock, g1, g2, g3, g4, g5⟩ := hs.obj id _ (List.mem_append_left _ (get_mem hg))
  obtain ⟨b', hb', hmv⟩ : ∃ b, γ.blk id = some b ∧ a.eval mp = .map (some b) := by
    generalize hvx : a.eval mp = vx at hm
    cases hm with
    | mapp _ b hb => exact ⟨b, hb, rfl⟩
  rw [g1] at hb'
  obtain rfl := Option.some.inj hb'
  obtain ⟨i, zv, z1, z2, rfl⟩ := zeroA_ok hz
  have hd := kkOf_ok hk
  have hik := keyOk_is h1
  rcases am_spec (γ := γ) h1 ens.toList es 0 (by simpa using g4) (fun j k x h => by simpa using g5 j k x h) h2 with ⟨q1, q2, q3⟩ | ⟨j, en, y, q1, q2, q3, q4, q5, q6⟩
  · rw [q2] at hK
    cases ok with
    | true =>
      refine ⟨.tuple #[zv, .bool false], w, ran_of (s := Instr.lookup t (a.eval mp) (a.eval key) true) (by simp [execOp, ho]) ?_, Fin.same ?_ hs hK⟩
      · rw [hmv, hkv]
        simp [Instr.lookup, run_underlying ht, MapKept.run_getObj_map g3, MapKept.run_checkKey hd hik, MapKept.run_findKey hd q1, zeroValue, typeInfo, z1, z2, Result.andThen]
      · refine .tup _ _ rfl fun j x hj => ?_
        match j, hj with
        | 0, hj => simp at hj; subst hj; exact aconst_ok _ _
        | 1, hj => simp at hj; subst hj; exact .sc _
    | false =>
      refine ⟨zv, w, ran_of (s := Instr.lookup t (a.eval mp) (a.eval key) false) (by simp [execOp, ho]) ?_, Fin.same (aconst_ok _ _) hs hK⟩
      rw [hmv, hkv]
      simp [Instr.lookup, run_underlying ht, MapKept.run_getObj_map g3, MapKept.run_checkKey hd hik, MapKept.run_findKey hd q1, zeroValue, typeInfo, z1, z2, Result.andThen]
  · rw [q4] at hK
    cases ok with
    | true =>
      refine ⟨.tuple #[en.val, .bool true], w, ran_of (s := Instr.lookup t (a.eval mp) (a.eval key) true) (by simp [execOp, ho]) ?_, Fin.same ?_ hs hK⟩
      · rw [hmv, hkv]
        simp [Instr.lookup, run_underlying ht, MapKept.run_getObj_map g3, MapKept.run_checkKey hd hik, MapKept.run_findKey hd q1, Result.andThen]
      · refine .tup _ _ rfl fun j x hj => ?_
        match j, hj with
        | 0, hj => simp at hj; subst hj; exact q5
        | 1, hj => simp at hj; subst hj; exact .sc _
    | false =>
      refine ⟨en.val, w, ran_of (s := Instr.lookup t (a.eval mp) (a.eval key) false) (by simp [execOp, ho]) ?_, Fin.same q5 hs hK⟩
      rw [hmv, hkv]
      simp [Instr.lookup, run_underlying ht, MapKept.run_getObj_map g3, MapKept.run_checkKey hd hik, MapKept.run_findKey hd q1, Result.andThen]

theorem ok_mapUpd {o : Oper} {t kt et : TypeId} {mp key x : Operand} {kk : Option IntKind} (ho : o.op = .mapUpdate t mp key x) (ht : P.underlying t = some (.map kt et)) (hk : kkOf P kt = some kk) :
    OpOk P (.mapUpd kk (nopd mp) (nopd key) (nopd x)) o := by
  intro γ mf ρ m a w K hr hs hv
  have hm := ev_ok hr mp
  have hkey := ev_ok hr key
  have hx := ev_ok hr x
  simp only [vop] at hv
  split at hv <;> try (exact hv.elim)
  rename_i id kv e1 e2
  obtain ⟨es, hg, h1, h2, hK⟩ := hv
  rw [e1] at hm
  rw [e2] at hkey
  have hkv : a.eval key = kv := by
    generalize a.eval key = v at hkey
    cases hkey
    rfl
  have hmem : (id, AObj.amap es) ∈ m ++ mf := List.mem_append_left _ (get_mem hg)
  obtain ⟨b, ens, clock, g1, g2, g3, g4, g5⟩ := hs.obj id _ hmem
  obtain ⟨b', hb', hmv⟩ : ∃ b, γ.blk id = some b ∧ a.eval mp = .map (some b) := by
    generalize hvx : a.eval mp = vx at hm
    cases hm with
    | mapp _ b hb => exact ⟨b, hb, rfl⟩
  rw [g1] at hb'
  obtain rfl := Option.some.inj hb'
  have hd := kkOf_ok hk
  have hik := keyOk_is h1
  have hput : ∀ ob, put id ob m ++ mf = put id ob (m ++ mf) := fun ob => (put_append hg).symm
  rcases am_spec (γ := γ) h1 ens.toList es 0 (by simpa using g4) (fun j k x h => by simpa using g5 j k x h) h2 with ⟨q1, q2, q3⟩ | ⟨j, en, y, q1, q2, q3, q4, q5, q6⟩
  · rw [q3] at hK
    refine ⟨undef, { w with heap := w.heap.setIfInBounds b (.map (ens.push { key := kv, val := a.eval x, born := clock }) (clock + 1)) }, .inr ⟨?_, rfl⟩, γ, uv, _, .refl γ, .sc _, ?_, hK⟩
    · simp only [execOp, ho]
      rw [hmv, hkv]
      simp [Instr.mapUpdate, run_underlying ht, MapKept.run_getObj_map g3, MapKept.run_checkKey hd hik, MapKept.run_findKey hd q1, MapKept.run_setObj_map _ g3, Result.andThen]
    · rw [hput]
      refine hs.storeMap hmem g1 _ _ (by simp [g4]) fun j k z hj => ?_
      rw [List.getElem?_append] at hj
      by_cases hlt : j < es.length
      · rw [if_pos hlt] at hj
        obtain ⟨en, f1, f2, f3⟩ := g5 j k z hj
        exact ⟨en, by rw [Array.getElem?_push, if_neg (by omega)]; exact f1, f2, f3⟩
      · rw [if_neg hlt] at hj
        have h0 : j - es.length = 0 := by
          have := (List.getElem?_eq_some_iff.1 hj).1
          simp at this; omega
        rw [h0] at hj
        simp only [List.getElem?_cons_zero, Option.some.injEq, Prod.mk.injEq] at hj
        obtain ⟨rfl, rfl⟩ := hj
        have hj' : j = ens.size := by omega
        exact ⟨{ key := kv, val := a.eval x, born := clock }, by rw [hj']; simp, rfl, hx⟩
  · rw [q6] at hK
    have hj0 : ens[j]? = some en := by simpa using q2
    refine ⟨undef, { w with heap := w.heap.setIfInBounds b (.map (ens.modify j fun e => { e with key := kv, val := a.eval x }) clock) }, .inr ⟨?_, rfl⟩, γ, uv, _, .refl γ, .sc _, ?_, hK⟩
    · simp only [execOp, ho]
      rw [hmv, hkv]
      simp [Instr.mapUpdate, run_underlying ht, MapKept.run_getObj_map g3, MapKept.run_checkKey hd hik, MapKept.run_findKey hd q1, hj0, q3, MapKept.run_keyThatStays hik, MapKept.run_setObj_map _ g3, Result.andThen]
    · rw [hput]
      refine hs.storeMap hmem g1 _ _ (by simp [g4]) fun j' k z hj => ?_
      rw [List.getElem?_set] at hj
      by_cases e : j = j'
      · subst e
        have hlt : j < es.length := by rw [← g4]; exact (Array.getElem?_eq_some_iff.1 hj0).1
        rw [if_pos rfl, if_pos hlt] at hj
        simp only [Option.some.injEq, Prod.mk.injEq] at hj
        obtain ⟨rfl, rfl⟩ := hj
        exact ⟨{ en with key := kv, val := a.eval x }, by simp [Array.getElem?_modify, hj0], rfl, hx⟩
      · rw [if_neg e] at hj
        obtain ⟨en', f1, f2, f3⟩ := g5 j' k z hj
        exact ⟨en', by rw [Array.getElem?_modify, if_neg e]; exact f1, f2, f3⟩

/-! ### What is put together -/
/-- A row stands for a list of plain values. -/
def RowRep (γ : Ghost) (cs : List AV) (us : Array Value) : Prop := us.size = cs.length ∧ ∀ j x, cs[j]? = some x → Rep γ x (us.getD j undef)

theorem foldl_set_get (off : Nat) : ∀ (l : List Value) (k : Nat) (us : Array Value), off + k + l.length ≤ us.size →
    ((l.zipIdx k).foldl (fun cs p => cs.setIfInBounds (off + p.2) p.1) us).size = us.size ∧
    ∀ j, ((l.zipIdx k).foldl (fun cs p => cs.setIfInBounds (off + p.2) p.1) us)[j]? = if off + k ≤ j ∧ j < off + k + l.length then l[j - (off + k)]? else us[j]?
  | [], k, us, _ => by
    refine ⟨rfl, fun j => ?_⟩
    rw [if_neg (by simp)]; rfl
  | v :: l, k, us, h => by
    simp only [List.length_cons] at h
    obtain ⟨h1, h2⟩ := foldl_set_get off l (k + 1) (us.setIfInBounds (off + k) v) (by simp; omega)
    simp only [List.zipIdx_cons, List.foldl_cons]
    refine ⟨by rw [h1]; simp, fun j => ?_⟩
    rw [h2]
    simp only [List.length_cons]
    by_cases hj : off + (k + 1) ≤ j ∧ j < off + (k + 1) + l.length
    · rw [if_pos hj, if_pos (by omega), show j - (off + k) = (j - (off + (k + 1))) + 1 by omega, List.getElem?_cons_succ]
    · rw [if_neg hj]
      by_cases hj' : j = off + k
      · subst hj'
        rw [if_pos (by omega)]
        simp [show off + k < us.size by omega]
      · rw [if_neg (by omega), Array.getElem?_setIfInBounds_ne (by omega)]

theorem RowRep.splice {γ : Ghost} {cs xs : List AV} {us : Array Value} {v : Value} {off : Nat} (h : RowRep γ cs us) (h1 : v.cells.size = xs.length) (h2 : ∀ j y, xs[j]? = some y → Rep γ y (v.cells.getD j undef)) (h3 : off + xs.length ≤ cs.length) :
    RowRep γ (splice off xs cs) (v.cells.zipIdx.foldl (fun cs (c, j) => cs.setIfInBounds (off + j) c) us) := by
  have key := foldl_set_get off v.cells.toList 0 us (by simp [h.1]; omega)
  have e : (v.cells.zipIdx.foldl (fun (cs : Array Value) (c, j) => cs.setIfInBounds (off + j) c) us) = (v.cells.toList.zipIdx 0).foldl (fun cs p => cs.setIfInBounds (off + p.2) p.1) us := by
    rw [← Array.foldl_toList, Array.toList_zipIdx]
  rw [e]
  refine ⟨by rw [key.1, splice_length, h.1], fun j x hj => ?_⟩
  rw [splice_get] at hj
  rw [Array.getD_eq_getD_getElem?, key.2]
  simp only [Nat.add_zero, Array.length_toList, h1]
  split at hj
  · split at hj
    · rename_i hc
      rw [if_pos hc, Array.getElem?_toList]
      have := h2 _ _ hj
      rwa [Array.getD_eq_getD_getElem?] at this
    · rename_i hc
      rw [if_neg hc]
      have := h.2 _ _ hj
      rwa [Array.getD_eq_getD_getElem?] at this
  · cases hj

theorem fill_ok {γ : Ghost} {ρ : Regs} {a : Act} (hr : RegOk γ ρ a.tmps) (place : Nat → Option (Nat × Nat)) : ∀ (parts : List (Nat × Operand)) (ps : List (Nat × Nat × Opd)) (cs : List AV) (us : Array Value),
    ps = parts.map (fun p => (((place p.1).getD (0, 0)).1, ((place p.1).getD (0, 0)).2, nopd p.2)) → (∀ p ∈ parts, place p.1 ≠ none) → RowRep γ cs us →
    (∀ p ∈ ps, (ev ρ p.2.2).cells.length = p.2.1 ∧ allOne (ev ρ p.2.2).cells = true ∧ p.1 + p.2.1 ≤ cs.length) →
    ∃ us', Instr.fill place us (parts.map fun p => (p.1, a.eval p.2)) = some us' ∧ RowRep γ (fill cs (ps.map fun p => (p.1, (ev ρ p.2.2).cells))) us'
  | [], ps, cs, us, hp, _, h, _ => by subst hp; exact ⟨us, rfl, h⟩
  | p :: parts, ps, cs, us, hp, hpl, h, hc => by
    subst hp
    obtain ⟨⟨off, size⟩, hpp⟩ := Option.ne_none_iff_exists'.1 (hpl p (by simp))
    obtain ⟨c1, c2, c3⟩ := hc (off, size, nopd p.2) (by simp [hpp])
    obtain ⟨d1, d2, d3⟩ := one_of_rep (ev_ok hr p.2) c2
    have hrow := h.splice (v := a.eval p.2) (off := off) d1 d2 (by simp only at c1 c3; omega)
    obtain ⟨us', e1, e2⟩ := fill_ok hr place parts _ (splice off (ev ρ (nopd p.2)).cells cs) _ rfl (fun q hq => hpl q (by simp [hq])) hrow (fun q hq => by
      rw [splice_length]
      exact hc q (by simp only [List.map_cons, List.mem_cons]; exact .inr hq))
    refine ⟨us', ?_, ?_⟩
    · simp only [List.map_cons, Instr.fill, hpp]
      rw [if_neg]
      · exact e1
      · have := h.1
        simp only at c1 c3
        simp [d1, c1]
        omega
    · simp only [List.map_cons, fill, hpp, Option.getD_some]
      exact e2

def placesOf (P : Program) (fs : Array Field) : Option (List (Nat × Nat)) := fs.toList.mapM fun f => (P.info? f.type).map fun i => (f.offset, i.size)

theorem run_mapM_list {α β : Type} (f : α → Sem β) (g : α → Option β) (w : World) (hf : ∀ x y, g x = some y → (f x).run P w = .ok y w) : ∀ (l : List α) (r : List β), l.mapM g = some r → (l.mapM f).run P w = .ok r w
  | [], r, h => by simp at h; subst h; simp
  | x :: l, r, h => by
    simp only [List.mapM_cons, Option.bind_eq_bind, Option.bind_eq_some_iff, Option.pure_def, Option.some.injEq] at h
    obtain ⟨y, hy, ys, hys, rfl⟩ := h
    simp [List.mapM_cons, hf x y hy, run_mapM_list f g w hf l ys hys]

theorem run_places {fs : Array Field} {pl : List (Nat × Nat)} (h : placesOf P fs = some pl) (w : World) : (fs.mapM (fun f => do pure (f.offset, ← sizeOf f.type)) : Sem (Array (Nat × Nat))).run P w = .ok pl.toArray w := by
  obtain ⟨l⟩ := fs
  rw [show (⟨l⟩ : Array Field) = l.toArray from rfl, List.mapM_toArray]
  have := run_mapM_list (P := P) (fun f : Field => (do pure (f.offset, ← sizeOf f.type) : Sem (Nat × Nat))) (fun f => (P.info? f.type).map fun i => (f.offset, i.size)) w (fun f y hy => by
    simp only [Option.map_eq_some_iff] at hy
    obtain ⟨i, hi, rfl⟩ := hy
    simp [sizeOf, typeInfo, hi]) l pl (by simpa [placesOf] using h)
  rw [Sem.run_map, this]
  rfl

def placeParts (pl : Nat → Option (Nat × Nat)) (parts : Array (Nat × Operand)) : List (Nat × Nat × Opd) := parts.toList.map fun p => (((pl p.1).getD (0, 0)).1, ((pl p.1).getD (0, 0)).2, nopd p.2)

theorem parts_map (ρ : Operand → Value) (parts : Array (Nat × Operand)) : (parts.map fun (i, x) => (i, ρ x)).toList = parts.toList.map fun p => (p.1, ρ p.2) := by
  simp

theorem agg_of_row {γ : Ghost} {cs : List AV} {us : Array Value} (h : RowRep γ cs us) : Rep γ (.agg cs) (.agg us) := .agg cs us h.1 h.2

theorem ok_buildStruct {o : Oper} {t : TypeId} {fs : Array Field} {parts : Array (Nat × Operand)} {zs : List AV} {pl : List (Nat × Nat)} (ho : o.op = .build t parts) (ht : P.underlying t = some (.struct fs)) (hz : zeroOf P t = some zs)
    (hp : placesOf P fs = some pl) (hin : ∀ p ∈ parts.toList, pl[p.1]? ≠ none) : OpOk P (.build zs (placeParts (pl[·]?) parts)) o := by
  intro γ mf ρ m a w K hr hs hv
  obtain ⟨hc, hK⟩ := hv
  obtain ⟨i, z, q1, q2, q3, rfl, _⟩ := zeroOf_ok hz
  obtain ⟨us', h1, h2⟩ := fill_ok (γ := γ) (ρ := ρ) (a := a) hr (pl[·]?) parts.toList _ _ z.cells rfl hin ⟨by simp, zeroOf_rep⟩ hc
  refine ⟨.agg us', w, ran_of (s := Instr.build t (parts.map fun (i, x) => (i, a.eval x))) (by simp [execOp, ho]) ?_, Fin.same (agg_of_row h2) hs hK⟩
  simp only [Instr.build, zeroValue, typeInfo, Sem.run_bind, run_program, Result.andThen_ok, q1, Sem.run_pure, q2, run_underlying ht, run_places hp, parts_map]
  have e : (fun x : Nat => pl.toArray[x]?) = (fun x : Nat => pl[x]?) := by funext x; simp
  rw [e, h1]
  simp

def arrPlace (s n : Nat) (i : Nat) : Option (Nat × Nat) := some (i * s, s)

theorem ok_buildArr {o : Oper} {t e : TypeId} {n : Nat} {i : TypeInfo} {parts : Array (Nat × Operand)} {zs : List AV} (ho : o.op = .build t parts) (ht : P.underlying t = some (.array n e)) (hi : P.info? e = some i) (hz : zeroOf P t = some zs) :
    OpOk P (.build zs (placeParts (arrPlace i.size n) parts)) o := by
  intro γ mf ρ m a w K hr hs hv
  obtain ⟨hc, hK⟩ := hv
  obtain ⟨i', z, q1, q2, q3, rfl, _⟩ := zeroOf_ok hz
  obtain ⟨us', h1, h2⟩ := fill_ok (γ := γ) (ρ := ρ) (a := a) hr (arrPlace i.size n) parts.toList _ _ z.cells rfl (fun p _ => by simp [arrPlace]) ⟨by simp, zeroOf_rep⟩ hc
  refine ⟨.agg us', w, ran_of (s := Instr.build t (parts.map fun (i, x) => (i, a.eval x))) (by simp [execOp, ho]) ?_, Fin.same (agg_of_row h2) hs hK⟩
  simp only [Instr.build, zeroValue, typeInfo, Sem.run_bind, run_program, Result.andThen_ok, q1, Sem.run_pure, q2, run_underlying ht, sizeOf, hi, parts_map]
  have e : (fun i_1 => some (i_1 * i.size, i.size)) = arrPlace i.size n := rfl
  rw [e, h1]
  simp

/-! ### Elements -/
theorem elem_cells {k : Option Nat} {cs : List AV} {x : AV} (h : elem k cs = some x) (hk : k = none → x.cells = [x]) : x.cells = cs.take (k.getD 1) ∧ k.getD 1 ≤ cs.length := by
  cases k with
  | none =>
    simp only [elem] at h
    rw [hk rfl]
    cases cs with
    | nil => simp at h
    | cons c cs => simp at h; subst h; simp
  | some n =>
    simp only [elem] at h
    split at h
    · rename_i hn
      obtain rfl := Option.some.inj h
      exact ⟨rfl, hn⟩
    · cases h

theorem chunk_len {k : Option Nat} : ∀ (n : Nat) (cs : List AV) (es : List AV), chunk k n cs = some es → es.length = n
  | 0, cs, es, h => by simp [chunk] at h; subst h; rfl
  | n + 1, cs, es, h => by
    simp only [chunk] at h
    split at h
    · rename_i x xs h1 h2
      obtain rfl := Option.some.inj h
      simp [chunk_len n _ _ h2]
    · cases h

theorem chunk_get {k : Option Nat} : ∀ (n : Nat) (cs : List AV) (es : List AV), chunk k n cs = some es → ∀ (i : Nat) (e : AV), es[i]? = some e → elem k (cs.drop (i * k.getD 1)) = some e
  | 0, cs, es, h, i, e, hi => by simp [chunk] at h; subst h; simp at hi
  | n + 1, cs, es, h, i, e, hi => by
    simp only [chunk] at h
    split at h
    · rename_i x xs h1 h2
      obtain rfl := Option.some.inj h
      match i, hi with
      | 0, hi => simp at hi; subst hi; simpa using h1
      | i + 1, hi =>
        have := chunk_get n _ _ h2 i e (by simpa using hi)
        rw [List.drop_drop] at this
        rw [Nat.add_mul, Nat.one_mul, Nat.add_comm]; exact this
    · cases h

/-- A row cut into elements is a list that never changes. -/
theorem rep_row_lst {γ : Ghost} {k : Option Nat} {n b off cap : Nat} {cs es : List AV} {us : Array Value} {o : Own} (hch : chunk k n cs = some es) (hsz : ∀ e ∈ es, (k = none → e.cells = [e]))
    (hrow : ∀ j x, cs[j]? = some x → Rep γ x (us.getD j undef)) (hf : ∀ j x, cs[j]? = some x → γ.frz b (off + j) = some (us.getD j undef)) (hc : n ≤ cap) (hm : cap ≤ maxLen) (ho : OwnOk γ b off n cap (k.getD 1) o) :
    Rep γ (.lst es o) (.slice (some ⟨b, off, none⟩) n cap) := by
  have hl := chunk_len n cs es hch
  have hcell : ∀ (i : Nat) (e : AV), es[i]? = some e → e.cells = (cs.drop (i * k.getD 1)).take (k.getD 1) ∧ k.getD 1 ≤ (cs.drop (i * k.getD 1)).length := fun i e hi =>
    elem_cells (chunk_get n cs es hch i e hi) (hsz e (List.mem_of_getElem? hi))
  have hget : ∀ (i : Nat) (e : AV) (j : Nat) (x : AV), es[i]? = some e → e.cells[j]? = some x → cs[i * k.getD 1 + j]? = some x := fun i e j x hi hj => by
    rw [(hcell i e hi).1, List.getElem?_take] at hj
    split at hj
    · rwa [List.getElem?_drop] at hj
    · cases hj
  have := Rep.lst (γ := γ) es o b off cap (k.getD 1) (fun j => us.getD j undef) (by omega) hm (fun e he => by
      obtain ⟨i, hi, rfl⟩ := List.mem_iff_getElem.1 he
      obtain ⟨h1, h2⟩ := hcell i es[i] (by simp [hi])
      rw [h1]; simp; simp at h2; omega) (by rw [hl]; exact ho)
    (fun i e j x hi hj => hf _ _ (hget i e j x hi hj)) (fun i e j x hi hj => hrow _ _ (hget i e j x hi hj))
  rw [hl] at this
  exact this

theorem Sat.new_frz {γ : Ghost} {m : Heap} {w : World} (h : Sat γ m w) (us : Array Value) (e : TypeId) :
    ∃ γ', γ.le γ' ∧ (∀ o u, us[o]? = some u → γ'.frz w.heap.size o = some u) ∧ γ'.w0.heap.size ≤ w.heap.size ∧ Sat γ' m (w.alloc (.cells us e)) := by
  obtain ⟨γ', h1, h2, h3, h4⟩ := h.new_tok us e us.size (Nat.le_refl _)
  refine ⟨γ', h1, fun o u hu => h2 o u (Array.getElem?_eq_some_iff.1 hu).1 hu, by rw [h1.w0]; exact h.below.size, Sat.drop (m := [(γ.nx, .tail)]) h4⟩

theorem one_cells {x : AV} (h : x.one = true) : x.cells = [x] := by cases x <;> simp_all [AV.one, AV.cells]
theorem allOne_splice : ∀ (n : Nat) (xs cs : List AV), allOne xs = true → allOne cs = true → allOne (splice n xs cs) = true := by
  intro n xs cs h1 h2
  simp only [allOne, List.all_eq_true] at *
  intro x hx
  obtain ⟨j, hj, rfl⟩ := List.mem_iff_getElem.1 hx
  have hg : (splice n xs cs)[j]? = some (splice n xs cs)[j] := by simp [hj]
  rw [splice_get] at hg
  split at hg
  · split at hg
    · exact h1 _ (List.mem_of_getElem? hg)
    · exact h2 _ (List.mem_of_getElem? hg)
  · cases hg
theorem allOne_fill : ∀ (ps : List (Nat × List AV)) (cs : List AV), (∀ p ∈ ps, allOne p.2 = true) → allOne cs = true → allOne (fill cs ps) = true
  | [], cs, _, h => h
  | p :: ps, cs, hp, h => by
    obtain ⟨off, xs⟩ := p
    exact allOne_fill ps _ (fun q hq => hp q (by simp [hq])) (allOne_splice off xs cs (hp (off, xs) (by simp)) h)
theorem allOne_flatten {z : List AV} (h : allOne z = true) (n : Nat) : allOne (List.replicate n z).flatten = true := by
  simp only [allOne, List.all_eq_true, List.mem_flatten] at *
  rintro x ⟨l, hl, hx⟩
  rw [(List.mem_replicate.1 hl).2] at hx
  exact h x hx
theorem chunk_one {k : Option Nat} {n : Nat} {cs es : List AV} (h : chunk k n cs = some es) (h1 : allOne cs = true) : ∀ e ∈ es, (k = none → e.cells = [e]) := by
  rintro e he rfl
  obtain ⟨i, hi, rfl⟩ := List.mem_iff_getElem.1 he
  have := chunk_get n cs es h i es[i] (by simp [hi])
  simp only [elem] at this
  rw [List.getElem?_drop] at this
  simp only [allOne, List.all_eq_true] at h1
  exact one_cells (h1 _ (List.mem_of_getElem? this))

theorem ok_buildSlice {o : Oper} {t e : TypeId} {len : Nat} {k : Option Nat} {parts : Array (Nat × Operand)} {zs : List AV} (ho : o.op = .buildSlice t len parts) (ht : P.underlying t = some (.slice e)) (hk : ekOf P e = some k) (hz : zeroOf P e = some zs)
    (hlen : len * k.getD 1 ≤ 16777216) : OpOk P (.buildSlice k zs len (parts.toList.map fun p => (p.1, nopd p.2))) o := by
  intro γ mf ρ m a w K hr hs hv
  obtain ⟨hc, es, hch, hK⟩ := hv
  obtain ⟨d, i, hd, hi, hsz, hagg, hpos⟩ := ekOf_some hk
  obtain ⟨i', z, q1, q2, q3, rfl, hone⟩ := zeroOf_ok hz
  rw [hi] at q1
  obtain rfl := Option.some.inj q1
  have hzl : (z.cells.toList.map aconst).length = k.getD 1 := by simp [q3, hsz]
  have hrow0 : RowRep γ (List.replicate len (z.cells.toList.map aconst)).flatten (madeCells z.cells (len * i.size)) := ⟨by simp [size_madeCells, q3], by rw [← q3]; exact madeCells_rep⟩
  obtain ⟨us', h1, h2⟩ := fill_ok (γ := γ) (ρ := ρ) (a := a) hr (arrPlace i.size len) parts.toList (parts.toList.map fun p => (p.1 * k.getD 1, k.getD 1, nopd p.2)) _ _ (by simp [arrPlace, hsz]) (fun p _ => by simp [arrPlace]) hrow0 (fun p hp => by
    obtain ⟨q, hq, rfl⟩ := List.mem_map.1 hp
    obtain ⟨a1, a2, a3⟩ := hc (q.1, nopd q.2) (List.mem_map.2 ⟨q, hq, rfl⟩)
    refine ⟨a1, a2, ?_⟩
    rw [flatten_length, hzl]
    have : (q.1 + 1) * k.getD 1 ≤ len * k.getD 1 := Nat.mul_le_mul_right _ a3
    rw [Nat.add_mul] at this
    show q.1 * k.getD 1 + k.getD 1 ≤ _
    omega)
  have hfill : fill (List.replicate len (z.cells.toList.map aconst)).flatten ((parts.toList.map fun p => (p.1, nopd p.2)).map fun p => (p.1 * k.getD 1, (ev ρ p.2).cells)) =
      fill (List.replicate len (z.cells.toList.map aconst)).flatten ((parts.toList.map fun p => (p.1 * k.getD 1, k.getD 1, nopd p.2)).map fun p => (p.1, (ev ρ p.2.2).cells)) := by
    congr 1
    simp
  rw [hfill] at hch
  have hcs1 : allOne (fill (List.replicate len (z.cells.toList.map aconst)).flatten ((parts.toList.map fun p => (p.1 * k.getD 1, k.getD 1, nopd p.2)).map fun p => (p.1, (ev ρ p.2.2).cells))) = true := by
    refine allOne_fill _ _ (fun p hp => ?_) (allOne_flatten hone len)
    simp only [List.mem_map] at hp
    obtain ⟨q, ⟨r, hr', rfl⟩, rfl⟩ := hp
    exact (hc (r.1, nopd r.2) (List.mem_map.2 ⟨r, hr', rfl⟩)).2.1
  generalize fill (List.replicate len (z.cells.toList.map aconst)).flatten ((parts.toList.map fun p => (p.1 * k.getD 1, k.getD 1, nopd p.2)).map fun p => (p.1, (ev ρ p.2.2).cells)) = cs at hch h2 hcs1
  obtain ⟨γ', g1, g2, g3, g4⟩ := hs.new_frz us' e
  have hone' := chunk_one hch hcs1
  refine ⟨.slice (some ⟨w.heap.size, 0, none⟩) len len, w.alloc (.cells us' e), ran_to (s := Instr.buildSlice t len (parts.map fun (i, x) => (i, a.eval x))) (by simp [execOp, ho]) ?_, γ', _, m, g1, ?_, g4, hK⟩
  · have e1 : (fun i_1 => some (i_1 * i.size, i.size)) = arrPlace i.size len := rfl
    simp only [Instr.buildSlice, Sem.run_bind, run_underlying ht, Result.andThen_ok, sizeOf, typeInfo, run_program, hi, Sem.run_pure, parts_map, e1]
    rw [if_neg (by rw [hsz]; omega)]
    have e2 : ∀ (z' : Array Value), z' = (if len * i.size = 0 then #[] else z.cells) → Array.map (fun x => z'[x % z'.size]!) (Array.range (len * i.size)) = madeCells z.cells (len * i.size) := by
      intro z' hz'
      split at hz'
      · rename_i h0; subst hz'; simp [h0, madeCells]
      · subst hz'; rfl
    by_cases hz0 : len * i.size = 0
    · rw [if_pos hz0]
      simp only [Sem.run_pure, Result.andThen_ok, Sem.run_bind]
      rw [e2 #[] (by rw [if_pos hz0]), h1]
      simp [newRow]
    · rw [if_neg hz0]
      simp only [Sem.run_pure, Result.andThen_ok, Sem.run_bind, zeroValue, typeInfo, run_program, hi, q2]
      rw [e2 z.cells (by rw [if_neg hz0]), h1]
      simp [newRow]
  · refine rep_row_lst hch hone' (fun j x hj => (h2.2 j x hj).mono g1) (fun j x hj => ?_) (Nat.le_refl _) ?_ ⟨rfl, g3⟩
    · have hlt : j < us'.size := by rw [h2.1]; exact (List.getElem?_eq_some_iff.1 hj).1
      rw [Nat.zero_add, g2 j us'[j] (by simp [hlt])]
      simp [Array.getD, hlt]
    · have : len ≤ len * k.getD 1 := Nat.le_mul_of_pos_right _ hpos
      simp only [maxLen]; omega

end
end Go.Proofs.Ytceahampebofbaa.Moi
