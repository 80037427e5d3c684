/- Which operations only reckon, which read, which act; what a check must find before an open order is no matter. -/
import Derived.Test.YtceahampebofbaaMoiL
set_option linter.unusedVariables false
set_option linter.unusedSimpArgs false
namespace Go.Proofs.Ytceahampebofbaa.Moi
open Go Go.RowKit

/-- 0: it reckons; 1: it reads; 2: it acts. -/
def clsN : NOp → Nat
  | .move _ | .pick .. | .nilCheck _ | .un .. | .conv .. | .same _ | .field .. | .fieldAddr .. | .idxAddr .. | .idxArr .. | .idxStr .. | .idxAgg .. | .sliceS .. | .sliceL .. | .sliceA ..
  | .build .. | .buildSlice .. | .extract .. | .iface .. | .mkFunc .. | .lenS _ | .lenL _ | .lenArr _ | .mx .. | .mn .. => 0
  | .bin _ .slice _ _ => 2
  | .bin .. => 0
  | .load .. | .b2s _ => 1
  | _ => 2
def cls : IOp → Nat
  | .op no => clsN no
  | _ => 2

def opR : Opd → List Nat
  | .r t => [t]
  | _ => []
def opRo : Option Opd → List Nat
  | some x => opR x
  | none => []
/-- The registers that an operation looks at. -/
def regsN : NOp → List Nat
  | .bad | .lenArr _ | .alloc _ | .mkMap => []
  | .move x | .set x | .load _ x | .nilCheck x | .un _ x | .conv _ x | .b2s x | .same x | .twin x | .field _ _ x | .fieldAddr _ x | .box x | .extract _ x | .iface _ x | .lenS x | .lenL x | .cap x | .clear _ _ x | .assert _ _ x => opR x
  | .pick c a b => opR c ++ opR a ++ opR b
  | .store _ a x | .bin _ _ a x | .idxAddr _ a x | .idxArr _ _ a x | .idxStr a x | .idxAgg _ _ a x | .mkSlice _ _ _ a x | .append _ _ _ _ a x | .copy _ a x | .mx a x | .mn a x | .lookup _ _ _ a x => opR a ++ opR x
  | .sliceS x lo hi => opR x ++ opRo lo ++ opRo hi
  | .sliceL _ x lo hi mx => opR x ++ opRo lo ++ opRo hi ++ opRo mx
  | .sliceA _ _ x lo hi => opR x ++ opRo lo ++ opRo hi
  | .build _ ps => ps.flatMap fun p => opR p.2.2
  | .buildSlice _ _ _ ps => ps.flatMap fun p => opR p.2
  | .mkFunc _ xs => xs.flatMap opR
  | .mapUpd _ a b c => opR a ++ opR b ++ opR c
def regsI : IOp → List Nat
  | .op no => regsN no
  | .call f xs => opR f ++ xs.flatMap opR
  | .panic x => opR x

theorem ev_congr {ρ ρ' : Regs} {x : Opd} (h : ∀ t ∈ opR x, ρ t = ρ' t) : ev ρ x = ev ρ' x := by
  cases x <;> simp_all [ev, opR]
theorem bndOr_congr {ρ ρ' : Regs} {x : Option Opd} {d : Int} {K : Int → Prop} (h : ∀ t ∈ opRo x, ρ t = ρ' t) : bndOr ρ x d K = bndOr ρ' x d K := by
  cases x with
  | none => rfl
  | some x => simp only [bndOr, ev_congr (x := x) h]

theorem vop_congr {no : NOp} {ρ ρ' : Regs} {m : Heap} {K : AV → Heap → Prop} (h : ∀ t ∈ regsN no, ρ t = ρ' t) : vop no ρ m K = vop no ρ' m K := by
  have ev2 : ∀ {x : Opd}, (∀ t ∈ opR x, t ∈ regsN no) → ev ρ x = ev ρ' x := fun hx => ev_congr fun t ht => h t (hx t ht)
  have bo2 : ∀ {x : Option Opd} {d : Int} {K : Int → Prop}, (∀ t ∈ opRo x, t ∈ regsN no) → bndOr ρ x d K = bndOr ρ' x d K := fun hx => bndOr_congr fun t ht => h t (hx t ht)
  cases no <;> simp only [regsN] at ev2 bo2 <;> simp only [vop]
  case move x => rw [ev2 (x := x) (by simp)]
  case set x => rw [ev2 (x := x) (by simp)]
  case pick c a b => rw [ev2 (x := c) (by simp +contextual), ev2 (x := a) (by simp +contextual), ev2 (x := b) (by simp +contextual)]
  case load k x => rw [ev2 (x := x) (by simp)]
  case store n a x => rw [ev2 (x := a) (by simp +contextual), ev2 (x := x) (by simp +contextual)]
  case nilCheck x => rw [ev2 (x := x) (by simp)]
  case bin op c x y => rw [ev2 (x := x) (by simp +contextual), ev2 (x := y) (by simp +contextual)]
  case un op x => rw [ev2 (x := x) (by simp)]
  case conv k x => rw [ev2 (x := x) (by simp)]
  case b2s x => rw [ev2 (x := x) (by simp)]
  case same x => rw [ev2 (x := x) (by simp)]
  case twin x => rw [ev2 (x := x) (by simp)]
  case field k off x => rw [ev2 (x := x) (by simp)]
  case fieldAddr off x => rw [ev2 (x := x) (by simp)]
  case idxAddr sz x i => rw [ev2 (x := x) (by simp +contextual), ev2 (x := i) (by simp +contextual)]
  case idxArr n sz x i => rw [ev2 (x := x) (by simp +contextual), ev2 (x := i) (by simp +contextual)]
  case idxStr x i => rw [ev2 (x := x) (by simp +contextual), ev2 (x := i) (by simp +contextual)]
  case idxAgg n k x i => rw [ev2 (x := x) (by simp +contextual), ev2 (x := i) (by simp +contextual)]
  case sliceS x lo hi =>
    rw [ev2 (x := x) (by simp +contextual)]
    simp only [bo2 (x := lo) (by simp +contextual), bo2 (x := hi) (by simp +contextual)]
  case sliceL sz x lo hi mx =>
    have e1 := ev2 (x := x) (by simp +contextual)
    have e2 : ∀ {d : Int} {K : Int → Prop}, bndOr ρ lo d K = bndOr ρ' lo d K := bo2 (by simp +contextual)
    have e3 : ∀ {d : Int} {K : Int → Prop}, bndOr ρ hi d K = bndOr ρ' hi d K := bo2 (by simp +contextual)
    cases mx with
    | none => simp only [e1, e2, e3]
    | some w =>
      have e4 := ev2 (x := w) (by simp +contextual [opRo])
      simp only [e1, e2, e3, e4]
  case sliceA n sz x lo hi =>
    rw [ev2 (x := x) (by simp +contextual)]
    simp only [bo2 (x := lo) (by simp +contextual), bo2 (x := hi) (by simp +contextual)]
  case mkSlice sz bytes zero l c => rw [ev2 (x := l) (by simp +contextual), ev2 (x := c) (by simp +contextual)]
  case box x => rw [ev2 (x := x) (by simp)]
  case build zero parts =>
    have e1 : ∀ p ∈ parts, ev ρ p.2.2 = ev ρ' p.2.2 := fun p hp => ev2 fun t ht => List.mem_flatMap.2 ⟨p, hp, ht⟩
    have e2 : parts.map (fun p => (p.1, (ev ρ p.2.2).cells)) = parts.map fun p => (p.1, (ev ρ' p.2.2).cells) := List.map_congr_left fun p hp => by rw [e1 p hp]
    have e3 : (∀ p ∈ parts, (ev ρ p.2.2).cells.length = p.2.1 ∧ allOne (ev ρ p.2.2).cells = true ∧ p.1 + p.2.1 ≤ zero.length) = ∀ p ∈ parts, (ev ρ' p.2.2).cells.length = p.2.1 ∧ allOne (ev ρ' p.2.2).cells = true ∧ p.1 + p.2.1 ≤ zero.length :=
      propext ⟨fun h p hp => by rw [← e1 p hp]; exact h p hp, fun h p hp => by rw [e1 p hp]; exact h p hp⟩
    rw [e2, e3]
  case buildSlice k zero len parts =>
    have e1 : ∀ p ∈ parts, ev ρ p.2 = ev ρ' p.2 := fun p hp => ev2 fun t ht => List.mem_flatMap.2 ⟨p, hp, ht⟩
    have e2 : parts.map (fun p => (p.1 * k.getD 1, (ev ρ p.2).cells)) = parts.map fun p => (p.1 * k.getD 1, (ev ρ' p.2).cells) := List.map_congr_left fun p hp => by rw [e1 p hp]
    have e3 : (∀ p ∈ parts, (ev ρ p.2).cells.length = k.getD 1 ∧ allOne (ev ρ p.2).cells = true ∧ p.1 < len) = ∀ p ∈ parts, (ev ρ' p.2).cells.length = k.getD 1 ∧ allOne (ev ρ' p.2).cells = true ∧ p.1 < len :=
      propext ⟨fun h p hp => by rw [← e1 p hp]; exact h p hp, fun h p hp => by rw [e1 p hp]; exact h p hp⟩
    rw [e2, e3]
  case extract i x => rw [ev2 (x := x) (by simp)]
  case iface t x => rw [ev2 (x := x) (by simp)]
  case mkFunc f xs =>
    have e1 : xs.map (ev ρ) = xs.map (ev ρ') := List.map_congr_left fun p hp => ev2 fun t ht => List.mem_flatMap.2 ⟨p, hp, ht⟩
    rw [e1]
  case lenS x => rw [ev2 (x := x) (by simp)]
  case lenL x => rw [ev2 (x := x) (by simp)]
  case cap x => rw [ev2 (x := x) (by simp)]
  case append mu k bytes zero x y => rw [ev2 (x := x) (by simp +contextual), ev2 (x := y) (by simp +contextual)]
  case copy k x y => rw [ev2 (x := x) (by simp +contextual), ev2 (x := y) (by simp +contextual)]
  case clear k zero x => rw [ev2 (x := x) (by simp)]
  case mx x y => rw [ev2 (x := x) (by simp +contextual), ev2 (x := y) (by simp +contextual)]
  case mn x y => rw [ev2 (x := x) (by simp +contextual), ev2 (x := y) (by simp +contextual)]
  case lookup kk ok zero mp key => rw [ev2 (x := mp) (by simp +contextual), ev2 (x := key) (by simp +contextual)]
  case mapUpd kk mp key x => rw [ev2 (x := mp) (by simp +contextual), ev2 (x := key) (by simp +contextual), ev2 (x := x) (by simp +contextual)]

/-- What an operation that only reckons gives, it gives whatever the heap. -/
def Det (no : NOp) (ρ : Regs) (m : Heap) (r : AV) : Prop := vop no ρ m fun y m' => y = r ∧ m' = m

theorem bnd_det {x : AV} {K : Int → Prop} (h : bnd x K) : ∃ k n, x = .sc (.int k n) ∧ K n := by
  unfold bnd at h
  split at h
  · exact ⟨_, _, rfl, h⟩
  · exact h.elim
theorem bnd_mk {k : IntKind} {n : Int} {K : Int → Prop} (h : K n) : bnd (.sc (.int k n)) K := h
theorem bndOr_det {ρ : Regs} {x : Option Opd} {d : Int} {K : Int → Prop} (h : bndOr ρ x d K) : ∃ n, K n ∧ ∀ K' : Int → Prop, K' n → bndOr ρ x d K' := by
  cases x with
  | none => exact ⟨d, h, fun _ h => h⟩
  | some y =>
    obtain ⟨k, n, h1, h2⟩ := bnd_det h
    refine ⟨n, h2, fun K' h => ?_⟩
    simp only [bndOr, h1]
    exact h

theorem eqTest_det {c : EqC} {x y : AV} {K : Bool → Prop} (hc : c ≠ .slice) (h : eqTest c x y K) : ∃ b, K b ∧ ∀ K' : Bool → Prop, K' b → eqTest c x y K' := by
  unfold eqTest at h
  split at h <;> try (exact h.elim)
  all_goals first
    | exact ⟨_, h, fun K' h' => by simp only [eqTest]; exact h'⟩
    | exact absurd rfl hc
    | (obtain ⟨h1, h2, b, h3, h4⟩ := h; exact ⟨b, h4, fun K' h' => by simp only [eqTest]; exact ⟨h1, h2, b, h3, h'⟩⟩)

theorem vbin_det {op : BinOp} {c : EqC} {x y : AV} {K : AV → Prop} (hc : c ≠ .slice) (h : vbin op c x y K) : ∃ r, K r ∧ ∀ K' : AV → Prop, K' r → vbin op c x y K' := by
  by_cases hco : c = .other
  · subst hco
    have e : ∀ K : AV → Prop, vbin op .other x y K = vsc op x y K := fun K => by cases op <;> rfl
    simp only [e] at h ⊢
    unfold vsc at h ⊢
    split at h <;> try (exact h.elim)
    obtain ⟨r, h1, h2⟩ := h
    exact ⟨.sc r, h2, fun K' h' => ⟨r, h1, h'⟩⟩
  · have e1 : ∀ K : AV → Prop, vbin .eql c x y K = eqTest c x y fun b => K (bo b) := fun K => by cases c <;> first | rfl | exact absurd rfl hco
    have e2 : ∀ K : AV → Prop, vbin .neq c x y K = eqTest c x y fun b => K (bo (!b)) := fun K => by cases c <;> first | rfl | exact absurd rfl hco
    cases op
    case eql =>
      rw [e1] at h
      obtain ⟨b, h1, h2⟩ := eqTest_det hc h
      exact ⟨_, h1, fun K' h' => by rw [e1]; exact h2 (fun b => K' (bo b)) h'⟩
    case neq =>
      rw [e2] at h
      obtain ⟨b, h1, h2⟩ := eqTest_det hc h
      exact ⟨_, h1, fun K' h' => by rw [e2]; exact h2 (fun b => K' (bo (!b))) h'⟩
    all_goals (cases c <;> first | exact absurd rfl hco | exact h.elim)

theorem vun_det {op : UnOp} {x : AV} {K : AV → Prop} (h : vun op x K) : ∃ r, K r ∧ ∀ K' : AV → Prop, K' r → vun op x K' := by
  unfold vun at h
  split at h <;> try (exact h.elim)
  all_goals exact ⟨_, h, fun K' h' => by simp only [vun]; exact h'⟩

theorem allInt_det {x y : AV} {K : IntKind → Int → Int → Prop} (h : allInt x y K) : ∃ k a b, x = .sc (.int k a) ∧ y = .sc (.int k b) ∧ K k a b := by
  unfold allInt at h
  split at h
  · obtain ⟨rfl, h⟩ := h; exact ⟨_, _, _, rfl, rfl, h⟩
  · exact h.elim

/-- An operation that only reckons. -/
theorem pure_det {no : NOp} {ρ : Regs} {m : Heap} {K : AV → Heap → Prop} (hc : clsN no = 0) (h : vop no ρ m K) : ∃ r, K r m ∧ ∀ (m' : Heap) (K' : AV → Heap → Prop), K' r m' → vop no ρ m' K' := by
  cases no <;> simp only [clsN] at hc <;> (try (cases hc; done)) <;> simp only [vop] at h ⊢
  case move x => exact ⟨_, h, fun _ _ h' => h'⟩
  case pick c a b => obtain ⟨t, h1, h2⟩ := h; exact ⟨_, h2, fun _ _ h' => ⟨t, h1, h'⟩⟩
  case nilCheck x => obtain ⟨h1, h2⟩ := h; exact ⟨_, h2, fun _ _ h' => ⟨h1, h'⟩⟩
  case bin op c x y =>
    have hne : c ≠ .slice := by rintro rfl; cases hc
    obtain ⟨r, h1, h2⟩ := vbin_det hne h
    exact ⟨r, h1, fun _ K' h' => h2 _ h'⟩
  case un op x =>
    obtain ⟨r, h1, h2⟩ := vun_det h
    exact ⟨r, h1, fun _ K' h' => h2 _ h'⟩
  case conv k x => split at h <;> first | (exact h.elim) | exact ⟨_, h, fun _ _ h' => h'⟩
  case same x => split at h <;> first | (exact h.elim) | exact ⟨_, h, fun _ _ h' => h'⟩
  case field k off x => split at h <;> first | (exact h.elim) | (obtain ⟨y, h1, h2⟩ := h; exact ⟨y, h2, fun _ _ h' => ⟨y, h1, h'⟩⟩)
  case fieldAddr off x => split at h <;> first | (exact h.elim) | exact ⟨_, h, fun _ _ h' => h'⟩
  case idxAddr sz x i =>
    obtain ⟨k, n, e, h0, h⟩ := bnd_det h
    simp only [e]
    split at h <;> first | (exact h.elim) | (obtain ⟨y, h1, h2, h3⟩ := h; exact ⟨_, h3, fun _ _ h' => bnd_mk ⟨h0, y, h1, h2, h'⟩⟩) | (obtain ⟨h1, h2⟩ := h; exact ⟨_, h2, fun _ _ h' => bnd_mk ⟨h0, h1, h'⟩⟩)
  case idxArr len sz x i =>
    obtain ⟨k, n, e, h0, h1, h⟩ := bnd_det h
    simp only [e]
    split at h <;> first | (exact h.elim) | exact ⟨_, h, fun _ _ h' => bnd_mk ⟨h0, h1, h'⟩⟩
  case idxStr x i =>
    obtain ⟨k, n, e, h0, h⟩ := bnd_det h
    simp only [e]
    split at h <;> first | (exact h.elim) | (obtain ⟨y, h1, h2⟩ := h; exact ⟨_, h2, fun _ _ h' => bnd_mk ⟨h0, y, h1, h'⟩⟩)
  case idxAgg len kk x i =>
    obtain ⟨k, n, e, h0, h1, h⟩ := bnd_det h
    simp only [e]
    split at h <;> first | (exact h.elim) | (obtain ⟨y, h2, h3⟩ := h; exact ⟨_, h3, fun _ _ h' => bnd_mk ⟨h0, h1, y, h2, h'⟩⟩)
  case sliceS x lo hi =>
    split at h <;> try (exact h.elim)
    obtain ⟨l, h, f1⟩ := bndOr_det h
    obtain ⟨hh, ⟨a1, a2, a3, hK⟩, f2⟩ := bndOr_det h
    exact ⟨_, hK, fun _ K' h' => f1 _ (f2 _ ⟨a1, a2, a3, h'⟩)⟩
  case sliceL sz x lo hi mx =>
    split at h <;> try (exact h.elim)
    · obtain ⟨l, h, f1⟩ := bndOr_det h
      obtain ⟨hh, h, f2⟩ := bndOr_det h
      cases mx with
      | none =>
        obtain ⟨a1, a2, a3, a4, hK⟩ := h
        exact ⟨_, hK, fun _ K' h' => f1 _ (f2 _ ⟨a1, a2, a3, a4, h'⟩)⟩
      | some w =>
        obtain ⟨k, c, e, a1, a2, a3, a4, a5, hK⟩ := bnd_det h
        exact ⟨_, hK, fun _ K' h' => f1 _ (f2 _ (by simp only [e]; exact bnd_mk ⟨a1, a2, a3, a4, a5, h'⟩))⟩
    · obtain ⟨l, h, f1⟩ := bndOr_det h
      obtain ⟨hh, h, f2⟩ := bndOr_det h
      cases mx with
      | none =>
        obtain ⟨a1, a2, a3, hK⟩ := h
        exact ⟨_, hK, fun _ K' h' => f1 _ (f2 _ ⟨a1, a2, a3, h'⟩)⟩
      | some w =>
        obtain ⟨k, c, e, a1, a2, a3, a4, hK⟩ := bnd_det h
        exact ⟨_, hK, fun _ K' h' => f1 _ (f2 _ (by simp only [e]; exact bnd_mk ⟨a1, a2, a3, a4, h'⟩))⟩
  case sliceA n sz x lo hi =>
    split at h <;> try (exact h.elim)
    obtain ⟨l, h, f1⟩ := bndOr_det h
    obtain ⟨hh, ⟨a1, a2, a3, a4, hK⟩, f2⟩ := bndOr_det h
    exact ⟨_, hK, fun _ K' h' => f1 _ (f2 _ ⟨a1, a2, a3, a4, h'⟩)⟩
  case build zero parts => obtain ⟨h1, h2⟩ := h; exact ⟨_, h2, fun _ _ h' => ⟨h1, h'⟩⟩
  case buildSlice k zero len parts => obtain ⟨h1, es, h2, h3⟩ := h; exact ⟨_, h3, fun _ _ h' => ⟨h1, es, h2, h'⟩⟩
  case extract i x => split at h <;> first | (exact h.elim) | (obtain ⟨y, h1, h2⟩ := h; exact ⟨y, h2, fun _ _ h' => ⟨y, h1, h'⟩⟩)
  case iface t x => exact ⟨_, h, fun _ _ h' => h'⟩
  case mkFunc f cap => exact ⟨_, h, fun _ _ h' => h'⟩
  case lenS x => split at h <;> first | (exact h.elim) | exact ⟨_, h, fun _ _ h' => h'⟩
  case lenL x => split at h <;> first | (exact h.elim) | exact ⟨_, h, fun _ _ h' => h'⟩
  case lenArr n => exact ⟨_, h, fun _ _ h' => h'⟩
  case mx x y =>
    obtain ⟨k, a, b, h1, h2, h3⟩ := allInt_det h
    exact ⟨_, h3, fun _ K' h' => by rw [h1, h2]; exact ⟨rfl, h'⟩⟩
  case mn x y =>
    obtain ⟨k, a, b, h1, h2, h3⟩ := allInt_det h
    exact ⟨_, h3, fun _ K' h' => by rw [h1, h2]; exact ⟨rfl, h'⟩⟩

theorem read_det {no : NOp} {ρ : Regs} {m : Heap} {K : AV → Heap → Prop} (hc : clsN no = 1) (h : vop no ρ m K) : ∃ r, K r m ∧ ∀ (K' : AV → Heap → Prop), K' r m → vop no ρ m K' := by
  cases no <;> simp only [clsN] at hc <;> (try (cases hc; done)) <;> simp only [vop] at h ⊢
  case bin op c x y => cases c <;> cases hc
  case load k x => obtain ⟨cs, h1, y, h2, h3⟩ := h; exact ⟨y, h3, fun _ h' => ⟨cs, h1, y, h2, h'⟩⟩
  case b2s x => obtain ⟨ys, h1, bs, h2, h3⟩ := h; exact ⟨_, h3, fun _ h' => ⟨ys, h1, bs, h2, h'⟩⟩

theorem det_of {no : NOp} {ρ : Regs} {m : Heap} {K : AV → Heap → Prop} (hc : clsN no ≠ 2) (h : vop no ρ m K) : ∃ r, K r m ∧ Det no ρ m r := by
  have : clsN no = 0 ∨ clsN no = 1 := by
    have hv : clsN no = 0 ∨ clsN no = 1 ∨ clsN no = 2 := by unfold clsN; split <;> simp
    rcases hv with h | h | h
    · exact .inl h
    · exact .inr h
    · exact absurd h hc
  rcases this with h0 | h1
  · obtain ⟨r, a, b⟩ := pure_det h0 h
    exact ⟨r, a, b m _ ⟨rfl, rfl⟩⟩
  · obtain ⟨r, a, b⟩ := read_det h1 h
    exact ⟨r, a, b _ ⟨rfl, rfl⟩⟩

end Go.Proofs.Ytceahampebofbaa.Moi
