/- From a row's readings to plain values, and back: what a claim needs of the walk. -/
import Derived.Test.YtceahampebofbaaMoiQ
import Derived.ProofKit
import Derived.OpenShut
import Derived.Carry
import Derived.ReadAgain
import Derived.SizedLaws
set_option linter.unusedVariables false
set_option linter.unusedSimpArgs false
namespace Go.Proofs.Ytceahampebofbaa.Moi
open Go Go.RowKit Go.ChangeShapes

section
variable {P : Program}

def plainTy (P : Program) (t : TypeId) : Bool :=
  match P.underlying t with
  | some .bool | some (.int _) | some .string | some (.struct _) | some (.array _ _) => true
  | some (.pointer e) | some (.slice e) => decide (0 < P.cellsOf e)
  | _ => false
def aggTy (P : Program) (t : TypeId) : Bool := match P.underlying t with
  | some (.struct _) | some (.array _ _) => true
  | _ => false
/-- An element, off its cells. -/
def mkEl (agg : Bool) (cs : List AV) : AV := if agg then .agg cs else cs.headD .top

/-- What the cells of a value of a type are that came in. -/
inductive Shape (P : Program) (N : Nat → Prop) : TypeId → List AV → Prop
  | bool {t : TypeId} (b : Bool) : P.underlying t = some .bool → Shape P N t [bo b]
  | int {t : TypeId} {k : IntKind} (n : Int) : P.underlying t = some (.int k) → (Lit.int k n).wf = true → Shape P N t [.sc (.int k n)]
  | str {t : TypeId} (s : ByteArray) : P.underlying t = some .string → s.size ≤ 140737488351232 → N s.size → Shape P N t [.sc (.string s)]
  | pnil {t e : TypeId} : P.underlying t = some (.pointer e) → Shape P N t [.sc (.pointer none)]
  | ptr {t e : TypeId} {cs : List AV} : P.underlying t = some (.pointer e) → Shape P N e cs → Shape P N t [.vptr cs]
  | snil {t e : TypeId} : P.underlying t = some (.slice e) → Shape P N t [.lst [] .nil]
  | slc {t e : TypeId} (es : List (List AV)) : P.underlying t = some (.slice e) → es.length * P.bytesOf e ≤ 140737488351232 → N es.length → (∀ c ∈ es, Shape P N e c) → (∀ c ∈ es, c.length = P.cellsOf e) → Shape P N t [.lst (es.map (mkEl (aggTy P e))) .any]
  | struct {t : TypeId} {fs : Array Field} (css : List (List AV)) : P.underlying t = some (.struct fs) → css.length = fs.size → (∀ (i : Nat) f c, fs[i]? = some f → css[i]? = some c → Shape P N f.type c) → Shape P N t css.flatten
  | arr {t e : TypeId} {n : Nat} (css : List (List AV)) : P.underlying t = some (.array n e) → css.length = n → (∀ c ∈ css, Shape P N e c) → Shape P N t css.flatten
  | other {t : TypeId} (vs : List Value) : plainTy P t = false → Shape P N t (vs.map .sc)

def ghost0 (W : World) : Ghost := ⟨W, fun _ => none, fun _ => none, fun b o => W.cell? ⟨b, o, none⟩, 0⟩

theorem sat0 (W : World) : Sat (ghost0 W) [] W :=
  ⟨.refl _ _, .nil, fun _ _ => ⟨rfl, rfl⟩, fun _ _ _ h => h, fun _ _ h => by simp at h, fun _ _ _ _ _ _ h => by simp at h, fun _ _ _ _ _ h => by simp at h⟩

theorem trod_single {H : Type} {enc : TypeId × Value → H} {W : World} {fuel : Nat} {t : TypeId} {cs : List Value} {x : DataW H × List MemPlace} (h : DataW.trod enc P W 0 (fun _ => true) true fuel t cs = some x) (ha : aggTy P t = false) : cs.length = 1 := by
  cases fuel with
  | zero => simp [DataW.trod] at h
  | succ n =>
    unfold DataW.trod at h
    unfold aggTy at ha
    split at h <;> first | rfl | (rename_i hu; rw [hu] at ha; cases ha) | cases h

def LRep (γ : Ghost) (xs : List AV) (vs : List Value) : Prop := xs.length = vs.length ∧ ∀ (j : Nat) (x : AV) (v : Value), xs[j]? = some x → vs[j]? = some v → Rep γ x v

theorem LRep.one {γ : Ghost} {x : AV} {v : Value} (h : Rep γ x v) : LRep γ [x] [v] := ⟨rfl, fun j y u hy hu => by
  match j, hy, hu with
  | 0, hy, hu => simp at hy hu; subst hy hu; exact h
  | j + 1, hy, hu => simp at hy⟩
theorem LRep.scs {γ : Ghost} (vs : List Value) : LRep γ (vs.map .sc) vs := ⟨by simp, fun j y u hy hu => by
  simp [hu] at hy; subst hy; exact .sc u⟩
theorem LRep.append {γ : Ghost} {a b : List AV} {u v : List Value} (h : LRep γ a u) (k : LRep γ b v) : LRep γ (a ++ b) (u ++ v) := by
  refine ⟨by simp [h.1, k.1], fun j x y hx hy => ?_⟩
  rw [List.getElem?_append] at hx hy
  by_cases hj : j < a.length
  · rw [if_pos hj] at hx; rw [if_pos (by rw [← h.1]; exact hj)] at hy; exact h.2 j x y hx hy
  · rw [if_neg hj] at hx; rw [if_neg (by rw [← h.1]; exact hj)] at hy
    rw [← h.1] at hy
    exact k.2 _ x y hx hy

theorem cells_none {W : World} {a : Addr} {n : Nat} {cs : List Value} (h : W.cells? 0 a n = some cs) (hn : 0 < n) : a.spot = none := by
  obtain ⟨_, h1, h2⟩ := World.cells?_some h
  have := h2 0 hn
  rw [show a.add 0 = a by simp [Addr.add]] at this
  cases hs : a.spot with
  | none => rfl
  | some s =>
    have : W.cell? a = none := by
      unfold World.cell?
      split
      · simp [hs]
      · rfl
    rw [‹W.cell? a = cs[0]?›] at this
    simp at this
    subst this
    simp at h1
    omega

theorem Addr.add_eq {a : Addr} (h : a.spot = none) (i : Nat) : a.add i = ⟨a.block, a.off + i, none⟩ := by
  unfold Addr.add
  split
  · rename_i hi; subst hi; cases a; simp_all
  · rfl

variable {H : Type} {enc : TypeId × Value → H} {T : TypeId → Prop}

theorem rows_struct {P : Program} {cs : List Value} (γ : Ghost) : ∀ (fs : List Field) (off : Nat) (css : List (List AV)), css.length = fs.length → cs.length = off + (fs.map fun f => P.cellsOf f.type).sum →
    (∀ (i : Nat) (f : Field) (c : List AV), fs[i]? = some f → css[i]? = some c → LRep γ c ((cs.drop (off + ((fs.take i).map fun f => P.cellsOf f.type).sum)).take (P.cellsOf f.type))) → LRep γ css.flatten (cs.drop off)
  | [], off, css, h1, h2, h3 => by
    have : css = [] := List.eq_nil_of_length_eq_zero (by simpa using h1)
    subst this
    have : cs.drop off = [] := by simp at h2 ⊢; omega
    rw [this]
    exact ⟨rfl, fun j x v hx => by simp at hx⟩
  | f :: fs, off, css, h1, h2, h3 => by
    cases css with
    | nil => simp at h1
    | cons c css =>
      have e : cs.drop off = (cs.drop off).take (P.cellsOf f.type) ++ cs.drop (off + P.cellsOf f.type) := by
        rw [← List.drop_drop, List.take_append_drop]
      rw [e, List.flatten_cons]
      have hh := h3 0 f c rfl rfl
      simp at hh
      refine hh.append (rows_struct (P := P) (cs := cs) γ fs (off + P.cellsOf f.type) css (by simpa using h1) (by simp at h2; omega) fun i f' c' hf hc => ?_)
      have := h3 (i + 1) f' c' (by simpa using hf) (by simpa using hc)
      simpa [Nat.add_assoc] using this

theorem weights_all {e : TypeId} {d : DataW H} {n : Nat} : ∀ {l : List (DataW H)}, d ∈ l → n ∈ d.weights P e → n ∈ DataW.weightsAll P e l
  | [], h, _ => by simp at h
  | a :: l, h, hn => by
    simp only [DataW.weightsAll, List.mem_append]
    rcases List.mem_cons.1 h with rfl | h
    · exact .inl hn
    · exact .inr (weights_all h hn)

/-- What is said of a reading's size holds of its parts. -/
structure SmallC (small : DataW H → Prop) (N : Nat → Prop) : Prop where
  str : ∀ b, small (.lit (.string b)) → N b.length
  slc : ∀ e s, small (.slice e s) → N e.length ∧ ∀ d ∈ e, small d
  ptr : ∀ d, small (.ptr d) → small d
  agg : ∀ ps, small (.agg ps) → ∀ d ∈ ps, small d
theorem SmallC.all : SmallC (H := H) (fun _ => True) (fun _ => True) := ⟨fun _ _ => trivial, fun _ _ _ => ⟨trivial, fun _ _ => trivial⟩, fun _ _ => trivial, fun _ _ _ _ => trivial⟩

theorem shape_of {small : DataW H → Prop} {N : Nat → Prop} (S : SmallC small N) (K : Kids P T) (W : World) : ∀ (fuel : Nat) (t : TypeId) (cs : List Value) (x : DataW H × List MemPlace), T t → small x.1 → (∀ n ∈ x.1.weights P t, n ≤ 140737488351232) → DataW.trod enc P W 0 (fun _ => true) true fuel t cs = some x → ∃ xs, Shape P N t xs ∧ LRep (ghost0 W) xs cs := by
  intro fuel
  induction fuel with
  | zero => intro t cs x _ _ _ h; simp [DataW.trod] at h
  | succ fuel ih =>
    intro t cs x hT hsm hz h
    by_cases hp : plainTy P t = false
    · exact ⟨cs.map .sc, .other cs hp, .scs cs⟩
    · unfold plainTy at hp
      split at hp
      · rename_i hu
        obtain ⟨b, rfl, _⟩ := DataW.trod_bool hu h
        exact ⟨_, .bool b hu, .one (.sc _)⟩
      · rename_i k hu
        obtain ⟨n, rfl, _, hw⟩ := DataW.trod_int hu h
        exact ⟨_, .int n hu hw, .one (.sc _)⟩
      · rename_i hu
        obtain ⟨s, rfl, hx, hw⟩ := DataW.trod_string hu h
        subst hx
        exact ⟨_, .str s hu (by simpa [DataW.weights] using hz) (by simpa using S.str _ hsm), .one (.sc _)⟩
      · rename_i fs hu
        obtain ⟨xs, n, hn, rfl, hlen, hxs, hf⟩ := DataW.trod_struct hu h
        obtain rfl : fuel = n := by omega
        obtain ⟨hTf, hsum, hoff⟩ := K.struct hT hu
        have each : ∀ (i : Nat) (hi : i < fs.size), ∃ c, Shape P N fs[i].type c ∧ LRep (ghost0 W) c ((cs.drop fs[i].offset).take (P.cellsOf fs[i].type)) := fun i hi => by
          have h1 := hf i fs[i] (by simp [hi])
          rw [show xs[i]? = some xs[i] by simp [hxs, hi]] at h1
          refine ih _ _ _ (hTf _ (by simp)) (S.agg _ hsm _ (List.mem_map.2 ⟨xs[i], by simp, rfl⟩)) (fun n hn => hz n ?_) h1
          simp only [DataW.weights, hu]
          exact DataW.weights_mem_each (j := i) (t := fs[i].type) (d := xs[i].1) (by simp [hi]) (by simp [hxs, hi]) n hn
        let css : List (List AV) := (List.range fs.size).map fun i => if hi : i < fs.size then (each i hi).choose else []
        have hcss : ∀ (i : Nat) f c, fs[i]? = some f → css[i]? = some c → Shape P N f.type c ∧ LRep (ghost0 W) c ((cs.drop f.offset).take (P.cellsOf f.type)) := fun i f c hfi hci => by
          obtain ⟨hi, rfl⟩ := Array.getElem?_eq_some_iff.1 hfi
          simp only [css, List.getElem?_map, List.getElem?_range hi, Option.map_some, Option.some.injEq, dif_pos hi] at hci
          subst hci
          exact (each i hi).choose_spec
        refine ⟨css.flatten, .struct css hu (by simp [css]) (fun i f c a b => (hcss i f c a b).1), ?_⟩
        have := rows_struct (P := P) (cs := cs) (ghost0 W) fs.toList 0 css (by simp [css]) (by rw [hlen, hsum]; simp) (fun i f c hfi hci => by
          have := (hcss i f c (by simpa using hfi) hci).2
          rw [hoff i f hfi] at this
          simpa using this)
        simpa using this
      · rename_i n e hu
        obtain ⟨xs, m, hn, rfl, hlen, hxs, hf⟩ := DataW.trod_array hu h
        obtain rfl : fuel = m := by omega
        obtain ⟨hTe, hsum⟩ := K.array hT hu
        have each : ∀ (i : Nat), i < n → ∃ c, Shape P N e c ∧ LRep (ghost0 W) c ((cs.drop (i * P.cellsOf e)).take (P.cellsOf e)) := fun i hi => by
          have h1 := hf i hi
          rw [show xs[i]? = some xs[i] by simp [hxs, hi]] at h1
          refine ih _ _ _ hTe (S.agg _ hsm _ (List.mem_map.2 ⟨xs[i], by simp, rfl⟩)) (fun n hn => hz n ?_) h1
          simp only [DataW.weights, hu]
          exact weights_all (d := xs[i].1) (List.mem_map.2 ⟨xs[i], by simp, rfl⟩) hn
        let css : List (List AV) := (List.range n).map fun i => if hi : i < n then (each i hi).choose else []
        have hcss : ∀ (i : Nat) c, css[i]? = some c → Shape P N e c ∧ LRep (ghost0 W) c ((cs.drop (i * P.cellsOf e)).take (P.cellsOf e)) := fun i c hci => by
          have hi : i < n := by
            have := (List.getElem?_eq_some_iff.1 hci).1
            simpa [css] using this
          simp only [css, List.getElem?_map, List.getElem?_range hi, Option.map_some, Option.some.injEq, dif_pos hi] at hci
          subst hci
          exact (each i hi).choose_spec
        have hlc : ∀ (k : Nat) (css : List (List AV)), cs.length = (k + css.length) * P.cellsOf e → (∀ (i : Nat) c, css[i]? = some c → LRep (ghost0 W) c ((cs.drop ((k + i) * P.cellsOf e)).take (P.cellsOf e))) → LRep (ghost0 W) css.flatten (cs.drop (k * P.cellsOf e)) := by
          intro k css
          induction css generalizing k with
          | nil =>
            intro h1 h2
            have : cs.drop (k * P.cellsOf e) = [] := by simp at h1 ⊢; omega
            rw [this]
            exact ⟨rfl, fun j x v hx => by simp at hx⟩
          | cons c css ihc =>
            intro h1 h2
            have e1 : cs.drop (k * P.cellsOf e) = (cs.drop (k * P.cellsOf e)).take (P.cellsOf e) ++ cs.drop ((k + 1) * P.cellsOf e) := by
              rw [Nat.succ_mul, ← List.drop_drop, List.take_append_drop]
            rw [e1, List.flatten_cons]
            have h0 := h2 0 c rfl
            simp at h0
            refine h0.append (ihc (k + 1) (by rw [h1]; simp only [List.length_cons]; congr 1; omega) fun i c' hc => ?_)
            have := h2 (i + 1) c' (by simpa using hc)
            rw [show k + 1 + i = k + (i + 1) by omega]
            exact this
        refine ⟨css.flatten, .arr css hu (by simp [css]) (fun c hc => ?_), ?_⟩
        · obtain ⟨i, hi⟩ := List.getElem?_of_mem hc
          exact (hcss i c hi).1
        · have := hlc 0 css (by rw [hlen, hsum]; simp [css]) (fun i c hc => by simpa using (hcss i c hc).2)
          simpa using this
      · rename_i e hu
        have hpos : 0 < P.cellsOf e := by simp at hp; omega
        rcases DataW.trod_pointer hu h with ⟨rfl, _⟩ | ⟨a, cs', y, n, hn, rfl, hx, hc, hy⟩
        · exact ⟨_, .pnil hu, .one (.sc _)⟩
        · obtain rfl : fuel = n := by omega
          subst hx
          obtain ⟨xs, h1, h2⟩ := ih _ _ _ (K.pointer hT hu) (S.ptr _ hsm) (fun n hn => hz n (by simp only [DataW.weights, hu]; exact hn)) hy
          have hsp := cells_none hc hpos
          obtain ⟨_, hl, hcell⟩ := World.cells?_some hc
          refine ⟨_, .ptr hu h1, .one ?_⟩
          have ha : a = ⟨a.block, a.off, none⟩ := by cases a; simp_all
          rw [ha]
          refine .vptr xs _ _ (fun j => cs'.getD j undef) (fun j z hz => ?_) (fun j z hz => ?_)
          · have hj : j < xs.length := (List.getElem?_eq_some_iff.1 hz).1
            have hj' : j < cs'.length := by rw [← h2.1]; exact hj
            have := hcell j (by omega)
            rw [Addr.add_eq hsp] at this
            show W.cell? _ = _
            rw [this]
            simp [hj']
          · have hj : j < xs.length := (List.getElem?_eq_some_iff.1 hz).1
            have hj' : j < cs'.length := by rw [← h2.1]; exact hj
            have := h2.2 j z cs'[j] hz (by simp [hj'])
            simpa [hj'] using this
      · rename_i e hu
        have hpos : 0 < P.cellsOf e := by simp at hp; omega
        rcases DataW.trod_slice hu h with ⟨rfl, _⟩ | ⟨a, len, cap, elems, rest, n, hn, rfl, hx, hb, hlc, hcm, hel, hat, _, _⟩
        · exact ⟨_, .snil hu, .one .lnil⟩
        · obtain rfl : fuel = n := by omega
          have each : ∀ (i : Nat), i < len → ∃ c cs', Shape P N e c ∧ LRep (ghost0 W) c cs' ∧ W.cells? 0 (a.add (i * P.cellsOf e)) (P.cellsOf e) = some cs' ∧ (aggTy P e = false → c.length = 1) := fun i hi => by
            have h1 := hat i hi
            rw [show elems[i]? = some elems[i] by simp [hel, hi], Option.bind_eq_some_iff] at h1
            obtain ⟨cs', hc, ht⟩ := h1
            obtain ⟨xs, h2, h3⟩ := ih _ _ _ (K.slice hT hu) ((S.slc _ _ (hx ▸ hsm)).2 _ (List.mem_map.2 ⟨elems[i], by simp, rfl⟩)) (fun n hn => hz n (by
              rw [hx]
              simp only [DataW.weights, hu, List.mem_cons, List.mem_append]
              exact .inr (.inl (weights_all (List.mem_map.2 ⟨elems[i], by simp, rfl⟩) hn)))) ht
            exact ⟨xs, cs', h2, h3, hc, fun ha => by rw [h3.1]; exact trod_single ht ha⟩
          let css : List (List AV) := (List.range len).map fun i => if hi : i < len then (each i hi).choose else []
          have hcss : ∀ (i : Nat) c, css[i]? = some c → ∃ cs', Shape P N e c ∧ LRep (ghost0 W) c cs' ∧ W.cells? 0 (a.add (i * P.cellsOf e)) (P.cellsOf e) = some cs' ∧ (aggTy P e = false → c.length = 1) := fun i c hci => by
            have hi : i < len := by
              have := (List.getElem?_eq_some_iff.1 hci).1
              simpa [css] using this
            simp only [css, List.getElem?_map, List.getElem?_range hi, Option.map_some, Option.some.injEq, dif_pos hi] at hci
            subst hci
            exact (each i hi).choose_spec
          have hlen : css.length = len := by simp [css]
          have hcl : ∀ c ∈ css, c.length = P.cellsOf e := fun c hc => by
            obtain ⟨i, hi⟩ := List.getElem?_of_mem hc
            obtain ⟨cs', _, h2, h3, _⟩ := hcss i c hi
            rw [h2.1]
            exact (World.cells?_some h3).2.1
          have hbytes : css.length * P.bytesOf e ≤ 140737488351232 := by
            have := hz ((elems.length + rest.length) * P.bytesOf e) (by rw [hx]; simp [DataW.weights, hu])
            refine Nat.le_trans (Nat.mul_le_mul_right _ ?_) this
            omega
          refine ⟨_, .slc css hu hbytes (by have := (S.slc _ _ (hx ▸ hsm)).1; rw [List.length_map, hel] at this; rw [hlen]; exact this) (fun c hc => ?_) hcl, .one ?_⟩
          · obtain ⟨i, hi⟩ := List.getElem?_of_mem hc
            obtain ⟨cs', h1, _, _⟩ := hcss i c hi
            exact h1
          · by_cases h0 : len = 0
            · subst h0
              have : css = [] := List.eq_nil_of_length_eq_zero hlen
              rw [this]
              exact .lemp _ _ hcm
            · have hsp : a.spot = none := by
                obtain ⟨c, cs', _, _, h3, _⟩ := each 0 (by omega)
                rw [show a.add (0 * P.cellsOf e) = a by simp [Addr.add]] at h3
                exact cells_none h3 hpos
              have ha : a = ⟨a.block, a.off, none⟩ := by cases a; simp_all
              rw [ha]
              have hme : ∀ c ∈ css, (mkEl (aggTy P e) c).cells = c := fun c hc => by
                unfold mkEl
                by_cases hg : aggTy P e = true
                · rw [if_pos hg]; rfl
                · rw [if_neg hg]
                  obtain ⟨i, hi⟩ := List.getElem?_of_mem hc
                  obtain ⟨cs', h1, _, _, h4⟩ := hcss i c hi
                  have hone := h4 (by simpa using hg)
                  match c, hone with
                  | [y], _ =>
                    show y.cells = [y]
                    unfold aggTy at hg
                    generalize hc1 : [y] = c1 at h1
                    cases h1 with
                    | struct css' hu' => rw [hu'] at hg; simp at hg
                    | arr css' hu' => rw [hu'] at hg; simp at hg
                    | other vs hpl =>
                      match vs, hc1 with
                      | [v], hc1 => cases hc1; rfl
                    | _ => cases hc1; rfl
              rw [show len = (css.map (mkEl (aggTy P e))).length by simp [hlen]]
              refine .lst _ _ _ _ _ (P.cellsOf e) (fun j => (W.cell? ⟨a.block, a.off + j, none⟩).getD undef) (by simp [hlen, hlc]) hcm (fun y hy => ?_) trivial (fun i y j z hy hz => ?_) (fun i y j z hy hz => ?_)
              · obtain ⟨c, hc, rfl⟩ := List.mem_map.1 hy
                rw [hme c hc]; exact hcl c hc
              all_goals
                simp only [List.getElem?_map, Option.map_eq_some_iff] at hy
                obtain ⟨c, hc, rfl⟩ := hy
                rw [hme c (List.mem_of_getElem? hc)] at hz
                obtain ⟨cs', h1, h2, h3, _⟩ := hcss i c hc
                obtain ⟨_, h4, h5⟩ := World.cells?_some h3
                have hj : j < c.length := (List.getElem?_eq_some_iff.1 hz).1
                have hj' : j < cs'.length := by rw [← h2.1]; exact hj
                have h6 := h5 j (by omega)
                rw [Addr.add_eq (a := a) hsp, Addr.add_eq rfl, show cs'[j]? = some cs'[j] by simp [hj']] at h6
                rw [Nat.add_assoc] at h6
              · show W.cell? _ = _
                rw [h6]; rfl
              · rw [h6]
                exact h2.2 j z cs'[j] hz (by simp [hj'])
      · exact absurd rfl hp

/-! ### The arguments of a claim -/
def ArgShape (P : Program) (N : Nat → Prop) : List TypeId → List AV → Prop
  | [], [] => True
  | t :: ts, x :: xs => (∃ cs, Shape P N t cs ∧ x = mkEl (aggTy P t) cs) ∧ ArgShape P N ts xs
  | _, _ => False

theorem okWide_cells {W : World} {r : Reach} {b0 : Nat} {t : TypeId} {v : Value} (h : Value.okWide P W r b0 t v) : if aggTy P t then ∃ cs, v = .agg cs else v.cells = #[v] := by
  unfold Value.okWide at h
  unfold aggTy
  split at h
  · rename_i hu; rw [hu]; obtain ⟨cs, rfl, _⟩ := h; exact ⟨cs, rfl⟩
  · rename_i hu; rw [hu]; obtain ⟨cs, rfl, _⟩ := h; exact ⟨cs, rfl⟩
  · rename_i hu1 hu2
    split
    · rename_i hu; exact (hu1 _ hu).elim
    · rename_i hu; exact (hu2 _ _ hu).elim
    · show v.cells = #[v]
      cases v with
      | agg us =>
        unfold Cell.okWide at h
        split at h <;> first | (rename_i hv; cases hv; done) | skip
        all_goals
          unfold Cell.ok at h
          split at h <;> first | (rename_i hv; cases hv; done) | exact h.elim | skip
      | _ => rfl

theorem shapes_of {small : DataW H → Prop} {N : Nat → Prop} (S : SmallC small N) (K : Kids P T) (W : World) {base : Nat} {r : Reach} : ∀ (ts : List TypeId) (vs : List Value) (ds : List (DataW H)) (ps : List MemPlace), (∀ t ∈ ts, T t) → (∀ d ∈ ds, small d) → (∀ n ∈ DataW.weightsEach P ts ds, n ≤ 140737488351232) → DataW.TrodAll enc P W 0 (fun _ => true) true ts vs ds ps →
    (∀ (j : Nat) (t : TypeId) (v : Value), ts[j]? = some t → vs[j]? = some v → Value.okWide P W r base t v) → ∃ xs, ArgShape P N ts xs ∧ LRep (ghost0 W) xs vs
  | [], [], [], _, _, _, _, h, _ => ⟨[], trivial, rfl, fun j x v hx => by simp at hx⟩
  | t :: ts, v :: vs, d :: ds, _, hT, hds, hz, ⟨p, q, h1, h2, _⟩, hv => by
    obtain ⟨xs, e1, e2⟩ := shapes_of S K W ts vs ds q (fun t ht => hT t (by simp [ht])) (fun d hd => hds d (by simp [hd])) (fun n hn => hz n (by simp only [DataW.weightsEach, List.mem_append]; exact .inr hn)) h2 fun j t v a b => hv (j + 1) t v (by simpa using a) (by simpa using b)
    obtain ⟨fuel, hf⟩ := h1
    obtain ⟨cs, f1, f2⟩ := shape_of S K W fuel t v.cells.toList _ (hT t (by simp)) (hds d (by simp)) (fun n hn => hz n (by simp only [DataW.weightsEach, List.mem_append]; exact .inl hn)) hf
    have hok := okWide_cells (hv 0 t v rfl rfl)
    refine ⟨mkEl (aggTy P t) cs :: xs, ⟨⟨cs, f1, rfl⟩, e1⟩, ?_⟩
    have h0 : Rep (ghost0 W) (mkEl (aggTy P t) cs) v := by
      unfold mkEl
      by_cases hg : aggTy P t = true
      · rw [if_pos hg] at hok ⊢
        obtain ⟨us, rfl⟩ := hok
        refine .agg _ _ (by simpa [Value.cells] using f2.1.symm) fun j y hy => ?_
        have hj : j < us.size := by have := (List.getElem?_eq_some_iff.1 hy).1; have := f2.1; simp [Value.cells] at this; omega
        have := f2.2 j y us[j] hy (by simp [Value.cells, hj])
        rw [Array.getD_eq_getD_getElem?]; simpa [hj] using this
      · rw [if_neg hg] at hok ⊢
        rw [hok] at f2
        have hl := f2.1
        match cs, hl with
        | [y], _ => exact f2.2 0 y v rfl rfl
    exact LRep.append (.one h0) e2
  | [], [], _ :: _, _, _, _, _, h, _ => h.elim
  | [], _ :: _, _, _, _, _, _, h, _ => h.elim
  | _ :: _, [], _, _, _, _, _, h, _ => h.elim
  | _ :: _, _ :: _, [], _, _, _, _, h, _ => h.elim

theorem trodAll_below (hl : laidOutB P = true) {W W' : World} (hb : Below W.heap.size W W') {sp : Nat → Bool} : ∀ (ts : List TypeId) (vs : List Value) (ds : List (DataW H)) (ps : List MemPlace), (∀ t ∈ ts, P.readableRec t = true ∧ t < P.types.size) →
    DataW.TrodAll enc P W 0 (fun _ => true) true ts vs ds ps → (∀ x ∈ ps, x.block < W.heap.size) → (∀ x ∈ ps, sp x.block = true) → DataW.TrodAll enc P W' 0 sp true ts vs ds ps
  | [], [], [], _, _, h, _, _ => h
  | t :: ts, v :: vs, d :: ds, _, hT, ⟨p, q, h1, h2, e⟩, hlt, hsp => by
    subst e
    refine ⟨p, q, ?_, trodAll_below hl hb ts vs ds q (fun t ht => hT t (by simp [ht])) h2 (fun x hx => hlt x (by simp [hx])) (fun x hx => hsp x (by simp [hx])), rfl⟩
    exact WideElems.Trod_stays hl (hT t (by simp)).1 (hT t (by simp)).2 h1 (fun x hx => hb.same (hlt x (by simp [hx]))) (fun x hx => hsp x (by simp [hx]))
  | [], [], _ :: _, _, _, h, _, _ => h.elim
  | [], _ :: _, _, _, _, h, _, _ => h.elim
  | _ :: _, [], _, _, _, h, _, _ => h.elim
  | _ :: _, _ :: _, [], _, _, h, _, _ => h.elim

theorem trodAll_lens {W : World} {sp : Nat → Bool} : ∀ {ts : List TypeId} {vs : List Value} {ds : List (DataW H)} {ps : List MemPlace}, DataW.TrodAll enc P W 0 sp true ts vs ds ps → ds.length = ts.length
  | [], [], [], _, _ => rfl
  | _ :: _, _ :: _, _ :: _, _, ⟨_, _, _, h2, _⟩ => by simp [trodAll_lens h2]
  | [], [], _ :: _, _, h => h.elim
  | [], _ :: _, _, _, h => h.elim
  | _ :: _, [], _, _, h => h.elim
  | _ :: _, _ :: _, [], _, h => h.elim

/-- A claim 'whatever the input: true; the input reads as it did' off a call on plain values. -/
theorem contract_of (hl : laidOutB P = true) (hmr : mapsRowed P = true) {f : FuncId} {fn : Func} {s : ChangeSpec} {tb : TypeId} (hcall : ∀ vs w, (callFunc f vs).run P w = .ok (.enter f vs) w)
    (hts : ∀ t ∈ fn.params.toList, P.readableRec t = true ∧ t < P.types.size) (hres : fn.resultTypes = #[tb]) (htb : P.underlying tb = some .bool) (hvars : s.vars = [])
    (hfn : ∀ (H : Type) (ds : List (DataW H)), ds.length = fn.params.size → s.fn H ds = { results := [.lit (.bool true)], args := ds })
    {N : Nat → Prop} (hlaw : ∀ xs, ArgShape P N fn.params.toList xs → ACall P f xs [] (fun x _ => x = bo true) (fun _ _ => False))
    (enc : TypeId × Value → H) (W : World) (base : Nat) (args : Array Value) (ds gs : List (DataW H)) (before : List MemPlace)
    (hval : ∀ (j : Nat) t v, fn.params[j]? = some t → args[j]? = some v → Value.okWide P W .any base t v)
    (hW : DataW.Whole enc P fn.params.toList s.vars false W args.toList ds gs before) (hz : (DataW.weightsEach P (fn.params.toList ++ s.plain.varTypes P) (ds ++ gs)).all (· ≤ reachBytes) = true) {small : DataW H → Prop} (S : SmallC small N) (hsm : ∀ d ∈ ds, small d) :
    Calls P f args W fun e W' => ∃ v, e = .returned v ∧ s.post enc P fn false true false false W args v W' := by
  have hlt := hW.lt
  have hW0 := hW
  obtain ⟨p, q, hA, hV, hbef, hfz, hnd⟩ := hW
  rw [hvars] at hV
  obtain ⟨rfl, rfl⟩ := trodVars_none hV
  simp only [List.append_nil] at hbef
  subst hbef
  have K := kids_rows hl hmr
  have hz' : ∀ n ∈ DataW.weightsEach P fn.params.toList ds, n ≤ 140737488351232 := fun n hn => by
    have e : s.plain.varTypes P = [] := by unfold DataSpec.varTypes ChangeSpec.plain; rw [hvars]; rfl
    rw [e, List.append_nil, List.append_nil] at hz
    have := List.all_eq_true.1 hz n hn
    exact of_decide_eq_true this
  obtain ⟨xs, hsh, hrep⟩ := shapes_of S K W fn.params.toList args.toList ds before (fun t ht => (hts t ht).2) hsm hz' hA (fun j t v a b => hval j t v (by simpa using a) (by simpa using b))
  have hcallres := hlaw xs hsh (ghost0 W) [] args W ⟨by simpa using hrep.1.symm, fun j x hx => by
    have hj : j < args.size := by have := (List.getElem?_eq_some_iff.1 hx).1; have := hrep.1; simp at this; omega
    have := hrep.2 j x args[j] hx (by simp [hj])
    rw [Array.getD_eq_getD_getElem?]; simpa [hj] using this⟩ (by simpa using sat0 W)
  unfold CallRes at hcallres
  rw [hcall] at hcallres
  refine hcallres.mono fun e W' h => ?_
  cases e with
  | outgrown => exact h.elim
  | panicked ch => obtain ⟨pv, _, γ', x, m', _, _, _, h⟩ := h; exact h.elim
  | returned v =>
    obtain ⟨γ', x, m', hle, hr, hs, rfl⟩ := h
    obtain rfl : v = .bool true := hr.sc_inv
    have hb : Below W.heap.size W W' := by
      have := hs.below
      rw [hle.w0] at this
      exact this
    have hlen : ds.length = fn.params.size := by
      have := trodAll_lens hA
      simpa using this
    have hfn' := hfn H ds hlen
    refine ⟨_, rfl, ?_⟩
    have hargs : ∀ sp : Nat → Bool, (∀ p ∈ before, sp p.block = true) → DataW.TrodAll enc P W' 0 sp true fn.params.toList args.toList (s.fn H (ds ++ [])).args before := fun sp hsp => by
      rw [List.append_nil, hfn']
      exact trodAll_below hl hb _ _ _ _ hts hA hlt hsp
    have hresT : ∀ (b : Nat) (sp : Nat → Bool) (hd : Bool), DataW.TrodAll enc P W' b sp hd fn.resultTypes.toList ((Value.bool true).resultList fn.resultTypes.size) (s.fn H (ds ++ [])).results [] := fun b sp hd => by
      rw [List.append_nil, hfn', hres]
      exact trodAll_cons_mk (shut_bool htb _) trodAll_mk0
    have hvarsT : ∀ sp : Nat → Bool, DataW.TrodVars enc P W' sp s.vars (s.fn H (ds ++ [])).vars [] := fun sp => by
      rw [List.append_nil, hfn', hvars]
      rfl
    have hold : ∀ p ∈ before, (fun b => decide (b < W.heap.size)) p.block = true := fun p hp => by simpa using hlt p hp
    refine ⟨ds, [], before, [], before, [], hW0, hresT _ _ _, hargs _ hold, hvarsT _, World.keptBut_mono (fun p hp => ⟨hp, ?_⟩) (hb.frame (· ∈ before)), fun _ => ?_⟩
    · exact Or.inr (Or.inl hp)
    · refine ⟨ok_one hres rfl (okWide_bool_mk htb _), _, _, ([] ++ before) ++ [], ⟨[] ++ before, [], trodAll_append (hargs _ (fun _ _ => rfl)) (hresT _ _ _), hvarsT _, rfl, ?_, ?_⟩, ?_⟩
      · intro b off hp
        have hp' : MemPlace.cell b off ∈ before := by simpa using hp
        have := hlt _ hp'
        rw [hb.frozen (p := ⟨b, off, none⟩) this]
        exact hfz b off hp'
      · intro ha
        have := hnd ha
        simpa using this
      · intro p hp _
        simpa using hp

end
end Go.Proofs.Ytceahampebofbaa.Moi
