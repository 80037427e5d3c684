/- Lists that are written further: whole numbers of one kind in a block of one's own. -/
import Derived.Test.YtceahampebofbaaMoiV
set_option linter.unusedVariables false
set_option linter.unusedSimpArgs false
set_option linter.unnecessarySimpa false
namespace Go.Proofs.Ytceahampebofbaa.Moi
open Go Go.RowKit

abbrev kv (k : IntKind) (n : Int) : AV := .sc (.int k n)
abbrev kl (k : IntKind) (l : List Int) : List AV := l.map fun n => .sc (.int k n)

/-- A slice with memory of its own, or an empty one. -/
def Buf (k : IntKind) (l : List Int) (v : AV) (m : Heap) : Prop := (l = [] ∧ (v = .lst [] .nil ∨ v = .lst [] .full) ∧ m = []) ∨
  ∃ id cap rest, v = .mref id 0 l.length cap ∧ l.length ≤ cap ∧ cap ≤ maxLen ∧ rest.length = cap - l.length ∧ allOne rest = true ∧ m = [(id, .cells (kl k l ++ rest))]

section
variable {k : IntKind} {l l2 : List Int} {v y : AV} {m m1 r : Heap}

theorem Buf.nil : Buf k [] (.lst [] .nil) [] := .inl ⟨rfl, .inl rfl, rfl⟩
theorem Buf.full : Buf k [] (.lst [] .full) [] := .inl ⟨rfl, .inr rfl, rfl⟩
theorem kl_app {a b : List Int} : kl k (a ++ b) = kl k a ++ kl k b := List.map_append
theorem kl_len : (kl k l).length = l.length := List.length_map ..

/-- What is read of such a slice. -/
theorem Buf.elems (h : Buf k l v m1) : aelems none v (m1 ++ r) = some (kl k l) := by
  rcases h with ⟨rfl, h | h, rfl⟩ | ⟨id, cap, rest, rfl, h1, h2, h3, h4, rfl⟩
  · subst h; rfl
  · subst h; rfl
  · simp only [aelems, List.cons_append, get_e, if_true, List.drop_zero]
    exact chunk_ints l rest
theorem Buf.elems' (h : Buf k l v m1) (hd : ∀ i ∈ keys m1, i ∉ keys m) : aelems none v (m ++ (m1 ++ r)) = some (kl k l) := by
  rcases h with ⟨rfl, h | h, rfl⟩ | ⟨id, cap, rest, rfl, h1, h2, h3, h4, rfl⟩
  · subst h; rfl
  · subst h; rfl
  · have : id ∉ keys m := hd id (by simp [keys])
    simp only [aelems, get_skip this, List.cons_append, get_e, if_true, List.drop_zero]
    exact chunk_ints l rest

/-- An append to it. -/
theorem app_buf {b : Nat} {z : List AV} {K : AV → Heap → Prop} (hb : Buf k l v m1) (hy : aelems none y (m1 ++ r) = some (kl k l2)) (hz : (l.length + l2.length) * b ≤ 140737488355328) (hl : l.length + l2.length ≤ maxLen)
    (h : ∀ v' m1', Buf k (l ++ l2) v' m1' → (∀ i ∈ keys m1', i ∉ keys r) → K v' (m1' ++ r)) : @onApp true none b z v y (m1 ++ r) ⟨K⟩ := by
  have hs2 := sized_ints (k := k) l2
  rcases hb with ⟨rfl, hv, rfl⟩ | ⟨id, cap, rest, rfl, h1, h2, h3, h4, rfl⟩
  · by_cases hne : l2 = []
    · subst hne
      rcases hv with rfl | rfl
      · exact app_none trivial hy (fun e he => by simp at he) (by simp) (by simp) (h _ [] .nil (by simp [keys]))
      · exact app_none trivial hy (fun e he => by simp at he) (by simp) (by simp) (h _ [] .full (by simp [keys]))
    · have hv' : ∃ o, v = .lst [] o ∧ (o = .nil ∨ o = .full ∨ o = .fix) := by
        rcases hv with rfl | rfl
        · exact ⟨_, rfl, .inl rfl⟩
        · exact ⟨_, rfl, .inr (.inl rfl)⟩
      obtain ⟨o, rfl, ho⟩ := hv'
      refine app_m ho hy (by simpa using hne) hs2 (fun e he => by simp at he) (by simpa using hz) (by simpa using hl) fun id cap rest hid hc hm hr hr1 => ?_
      simp only [List.length_nil, List.length_map, Nat.zero_add, List.nil_append, Option.getD_none, Nat.mul_one, flat_ints] at hc hr ⊢
      refine h (.mref id 0 l2.length cap) [(id, .cells (kl k l2 ++ rest))] (.inr ⟨id, cap, rest, rfl, hc, hm, hr, hr1, rfl⟩) fun i hi => ?_
      simp only [keys_e, keys_n, List.mem_singleton] at hi
      subst hi
      exact hid
  · refine ⟨kl k l ++ rest, by rw [List.cons_append, get_e, if_pos rfl], by simp [h3]; omega, kl k l2, hy, hs2, by simpa using hz, by simpa using hl, ?_, ?_⟩
    · rw [allOne_append, allOne_ints, h4]; rfl
    · intro id' cap' rest' hid hc hm hr hr1
      have e1 : (kl k l ++ rest).take (l.length * (none : Option Nat).getD 1) = kl k l := by simp
      simp only [Option.getD_none, Nat.mul_one, List.length_map] at hc hr ⊢
      have e2 : (kl k l ++ rest).take l.length = kl k l := by simpa using e1
      rw [e2, flat_ints, List.cons_append, del_e, if_pos rfl, List.nil_append]
      have hlen : l.length + l2.length = (l ++ l2).length := by simp
      have := h (.mref id' 0 (l ++ l2).length cap') [(id', .cells (kl k (l ++ l2) ++ rest'))] (.inr ⟨id', cap', rest', rfl, by simpa using hc, hm, by simpa using hr, hr1, rfl⟩) fun i hi => by
        simp only [keys_e, keys_n, List.mem_singleton] at hi
        subst hi
        simp only [List.cons_append, List.nil_append, keys_e, List.mem_cons, not_or] at hid
        exact hid.2
      rw [hlen, ← kl_app]
      exact this
/-- A test for nil. -/
theorem nil_g {K : Bool → Prop} (ho : (∃ es o, v = .lst es o ∧ (o = .nil → es = [])) ∨ ∃ i o n c, v = .mref i o n c) (h1 : (∃ o, v = .lst [] o) → K true) (h2 : K false) : @onEq .slice v (.lst [] .nil) ⟨K⟩ := by
  rcases ho with ⟨es, o, rfl, ho⟩ | ⟨i, o, n, c, rfl⟩
  · rw [onEq_lst]
    intro b hb
    cases o with
    | nil => cases hb; obtain rfl := ho rfl; exact h1 ⟨_, rfl⟩
    | any =>
      by_cases e : es = []
      · subst e
        cases b
        · exact h2
        · exact h1 ⟨_, rfl⟩
      · rw [hb e]; exact h2
    | _ => cases hb; exact h2
  · rw [onEq_mref]; exact h2
theorem Buf.isL (h : Buf k l v m) : (∃ es o, v = .lst es o ∧ (o = .nil → es = [])) ∨ ∃ i o n c, v = .mref i o n c := by
  rcases h with ⟨rfl, h | h, rfl⟩ | ⟨id, cap, rest, rfl, _⟩
  · exact .inl ⟨[], .nil, h, fun _ => rfl⟩
  · exact .inl ⟨[], .full, h, fun _ => rfl⟩
  · exact .inr ⟨_, _, _, _, rfl⟩
/-! ### Bytes as a text -/
def bytesOf (l : List Int) : ByteArray := ⟨(l.map fun c => UInt8.ofNat c.toNat).toArray⟩
def onBytes (v : AV) (m : Heap) [K : Inhabited (ByteArray → Prop)] : Prop := ∃ ys, aelems none v m = some ys ∧ ∃ bs : List UInt8, ys = bs.map (fun c => .sc (.int .u8 c.toNat)) ∧ K.default ⟨bs.toArray⟩
theorem w_b2s {ρ : Regs} {x : Opd} {K : AV → Heap → Prop} : vop (.b2s x) ρ m K = @onBytes (ev ρ x) m ⟨fun s => K (.sc (.string s)) m⟩ := propext ⟨fun h => h, fun h => h⟩
theorem bytes_i {K : ByteArray → Prop} (h1 : aelems none v m = some (kl .u8 l)) (h2 : ∀ c ∈ l, 0 ≤ c ∧ c < 256) (h : K (bytesOf l)) : @onBytes v m ⟨K⟩ := by
  refine ⟨_, h1, l.map fun c : Int => UInt8.ofNat c.toNat, ?_, h⟩
  rw [List.map_map]
  refine List.map_congr_left fun c hc => ?_
  obtain ⟨a, b⟩ := h2 c hc
  have : (UInt8.ofNat c.toNat).toNat = c.toNat := by rw [UInt8.toNat_ofNat']; exact Nat.mod_eq_of_lt (by omega)
  simp only [Function.comp_apply, this, Int.toNat_of_nonneg a]
/-- A text's bytes. -/
def sb (s : ByteArray) : List Int := s.toList.map fun c => (c.toNat : Int)
theorem sb_len (s : ByteArray) : (sb s).length = s.size := by
  rw [sb, List.length_map, ByteArray.toList_eq]; simp
theorem sb_elems (s : ByteArray) (m : Heap) : aelems none (.sc (.string s)) m = some (kl .u8 (sb s)) := by
  simp [aelems, sb, Function.comp_def]
theorem sb_range (s : ByteArray) : ∀ c ∈ sb s, 0 ≤ c ∧ c < 256 := by
  intro c hc
  obtain ⟨b, _, rfl⟩ := List.mem_map.1 hc
  have := UInt8.toNat_lt b
  omega
theorem bytesOf_sb (s : ByteArray) : bytesOf (sb s) = s := by
  unfold bytesOf sb
  rw [List.map_map]
  have e : ((fun c : Int => UInt8.ofNat c.toNat) ∘ fun c : UInt8 => (c.toNat : Int)) = id := by
    funext c; simp
  rw [e, List.map_id, ByteArray.toList_eq]
end
end Go.Proofs.Ytceahampebofbaa.Moi
