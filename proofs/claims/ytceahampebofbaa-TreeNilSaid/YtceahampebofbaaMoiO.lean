/- Regions: what the thought says, the machine does, in whatever order. -/
import Derived.Test.YtceahampebofbaaMoiN
set_option linter.unusedVariables false
set_option linter.unusedSimpArgs false
namespace Go.Proofs.Ytceahampebofbaa.Moi
open Go Go.RowKit

section
variable {P : Program} {mu : Bool} {n : Nat}

/-! ### One order -/
def gOk (n : Nat) (g : Option (Nat × Bool)) : Bool := match g with
  | some (s, _) => decide (s < n)
  | none => true
def normIns (P : Program) (mu : Bool) (n : Nat) (ops : Array Oper) (o : Oper) : Option NI :=
  match normG ops o with
  | some g => if normD n o && gOk n g then some ⟨o.dst, g, normI P mu o, []⟩ else none
  | none => none

theorem normIns_ok {ops : Array Oper} {o : Oper} {i : NI} (h : normIns P mu n ops o = some i) : normG ops o = some i.g ∧ normD n o = true ∧ (∀ s w, i.g = some (s, w) → s < n) ∧ i.o = normI P mu o ∧ i.d = o.dst ∧ i.chk = [] := by
  unfold normIns at h
  split at h
  · rename_i g hg
    split at h
    · rename_i hc
      simp only [Bool.and_eq_true] at hc
      obtain rfl := Option.some.inj h
      refine ⟨hg, hc.1, fun s w hs => ?_, rfl, rfl, rfl⟩
      have := hc.2
      simp only at hs
      rw [hs] at this
      simpa [gOk] using this
    · cases h
  · cases h

theorem dst_lt {o : Oper} (h : normD n o = true) : ∀ j, o.dst = some j → j < n := fun j hj => by simpa [normD, hj] using h

/-- What a list of instructions ends in. -/
def Ends (n : Nat) (γ : Ghost) (mf : Heap) (K : Regs → Heap → Prop) (a : Act) (w : World) : Prop :=
  ∃ γ' ρ' m', γ.le γ' ∧ RegsBut γ' n (fun _ => False) ρ' a.tmps ∧ a.defers = [] ∧ Sat γ' (m' ++ mf) w ∧ K ρ' m'
def Bursts (γ : Ghost) (mf : Heap) (E : AV → Heap → Prop) (ch : List PanicEntry) (w : World) : Prop :=
  ∃ pv, ch = [{ v := pv, recovered := false }] ∧ Fin γ mf E pv w

theorem put_defers (a : Act) (d : Option Nat) (v : Value) : (a.put d v).defers = a.defers := by cases d <;> rfl

theorem RegsBut.mono {γ γ' : Ghost} {S : Nat → Prop} {ρ : Regs} {tmps : Array Value} (h : RegsBut γ n S ρ tmps) (hl : γ.le γ') : RegsBut γ' n S ρ tmps := ⟨h.1, fun i hi => (h.2 i hi).mono hl⟩

theorem list_ok {E : AV → Heap → Prop} {ops : Array Oper} {K : Regs → Heap → Prop} {Q : Exit → Act → World → Prop} : ∀ (l : List Oper) (nis : List NI), l.mapM (normIns P mu n ops) = some nis →
    ∀ (γ : Ghost) (mf : Heap) (ρ : Regs) (m : Heap) (a : Act) (w : World), RegsBut γ n (fun _ => False) ρ a.tmps → a.defers = [] → Sat γ (m ++ mf) w → vlist P E nis ρ m K →
      (∀ a' w', Ends n γ mf K a' w' → Q .normal a' w') → (∀ ch a' w', a'.defers = [] → Bursts γ mf E ch w' → Q (.panic ch) a' w') → wpList P ops Q l a w
  | [], nis, hn, γ, mf, ρ, m, a, w, hr, hd, hs, hv, hQ, hE => by
    simp at hn; subst hn
    exact hQ a w ⟨γ, ρ, m, .refl γ, hr, hd, hs, hv⟩
  | o :: l, nis, hn, γ, mf, ρ, m, a, w, hr, hd, hs, hv, hQ, hE => by
    simp only [List.mapM_cons, Option.bind_eq_bind, Option.bind_eq_some_iff, Option.pure_def, Option.some.injEq] at hn
    obtain ⟨i, hi, nis', hn', rfl⟩ := hn
    obtain ⟨h1, h2, h3, h4, h5, h6⟩ := normIns_ok hi
    have step : StepTo P ops o a w (wpList P ops Q l) Q := by
      refine step_ins (E := E) (mu := mu) (K := fun x m' => vlist P E nis' (putR ρ i.d x) m' K) (Kskip := vlist P E nis' (putR ρ i.d uv) m K) h1 h2 h3 hr hs ?_ (fun γ' x m' v w' e1 e2 e3 e4 => ?_) (fun hk => ?_) (fun γ' x m' v w' e1 e2 e3 e4 => ?_)
      · simp only [vlist, vins, h6, List.not_mem_nil, false_implies, implies_true, true_and] at hv
        rw [← h4]
        exact hv
      · refine list_ok l nis' hn' γ' mf (putR ρ i.d x) m' _ w' ?_ (by rw [put_defers]; exact hd) e3 e4 (fun a'' w'' ⟨γ2, ρ2, m2, f1, f2⟩ => hQ a'' w'' ⟨γ2, ρ2, m2, e1.trans f1, f2⟩)
          (fun ch a'' w'' hda ⟨pv, f0, γ2, x2, m2, f1, f2⟩ => hE ch a'' w'' hda ⟨pv, f0, γ2, x2, m2, e1.trans f1, f2⟩)
        rw [h5]
        exact (hr.mono e1).put (dst_lt h2) e2
      · refine list_ok l nis' hn' γ mf (putR ρ i.d uv) m _ w ?_ (by rw [put_defers]; exact hd) hs hk hQ hE
        rw [h5]
        exact hr.put (dst_lt h2) .undef_uv
      · exact hE _ a w' hd ⟨v, rfl, γ', x, m', e1, e2, e3, e4⟩
    unfold StepTo at step
    unfold wpList
    split
    · rename_i hw; rw [if_pos hw] at step; exact .inl step
    · rename_i hw; rw [if_neg hw] at step; exact step

/-! ### An open order -/
variable {ops : Array Oper} {N : Nat → NI} {c : List Nat}

theorem draw_ok (F : RegFacts P mu n ops N c) {E : AV → Heap → Prop} {K : Regs → Heap → Prop} {Q : Exit → Act → World → Prop} : ∀ (fuel : Nat) (listed : Array Bool) (pd rest : List Nat) (γ : Ghost) (mf : Heap) (ρ : Regs) (m : Heap) (a : Act) (w : World),
    listed.size = ops.size → pd ++ rest = c → (∀ j, Lst listed j → j ∈ pd) → (∀ j ∈ pd, cls (N j).o = 2 → Lst listed j) → (∀ j, Lst listed j → ∀ x, pre ops j x = true → Lst listed x) →
    (c.filter fun j => !listed.getD j false).length ≤ fuel → RegsBut γ n (fun s => ∃ j ∈ pd, ¬ Lst listed j ∧ (N j).d = some s) ρ a.tmps → a.defers = [] → Sat γ (m ++ mf) w → (∀ j ∈ pd, ¬ Lst listed j → Pend (N j) ρ m) → vlist P E (rest.map N) ρ m K →
    (∀ a' w', Ends n γ mf K a' w' → Q .normal a' w') → (∀ ch a' w', a'.defers = [] → Bursts γ mf E ch w' → Q (.panic ch) a' w') → wpAny P .any ops Q fuel listed a w := by
  -- where nothing is ready, all has been run
  have allDone : ∀ (listed : Array Bool) (pd rest : List Nat) (γ : Ghost) (mf : Heap) (ρ : Regs) (m : Heap) (a : Act) (w : World), listed.size = ops.size → pd ++ rest = c → (∀ j, Lst listed j → j ∈ pd) →
      RegsBut γ n (fun s => ∃ j ∈ pd, ¬ Lst listed j ∧ (N j).d = some s) ρ a.tmps → a.defers = [] → Sat γ (m ++ mf) w → vlist P E (rest.map N) ρ m K → (∀ j ∈ c, Lst listed j) → Ends n γ mf K a w := by
    intro listed pd rest γ mf ρ m a w hsz hc hl hr hd hs hv hall
    have hrest : rest = [] := by
      cases rest with
      | nil => rfl
      | cons x r =>
        have hx : x ∈ c := by rw [← hc]; simp
        have h1 := hl x (hall x hx)
        have hnd := F.nodup
        rw [← hc] at hnd
        exact absurd rfl ((List.nodup_append.1 hnd).2.2 x h1 x (by simp))
    subst hrest
    simp only [List.append_nil] at hc
    subst hc
    exact ⟨γ, ρ, m, .refl γ, ⟨hr.1, fun i _ => hr.2 i fun ⟨j, h1, h2, _⟩ => h2 (hall j h1)⟩, hd, hs, hv⟩
  have noneReady : ∀ (listed : Array Bool), listed.size = ops.size → Region.ready .any ops listed = [] → ∀ j ∈ c, Lst listed j := by
    intro listed hsz hr
    -- the first that has not been run could be
    have key : ∀ (r p : List Nat), p ++ r = c → (∀ j ∈ p, Lst listed j) → ∀ j ∈ c, Lst listed j := by
      intro r
      induction r with
      | nil => intro p hp hj; simp only [List.append_nil] at hp; subst hp; exact hj
      | cons x r ih =>
        intro p hp hj
        by_cases hx : Lst listed x
        · refine ih (p ++ [x]) (by rw [← hp]; simp) fun j hjm => ?_
          simp only [List.mem_append, List.mem_singleton] at hjm
          rcases hjm with h | rfl
          · exact hj j h
          · exact hx
        · exfalso
          have hxc : x ∈ c := by rw [← hp]; simp
          have hxs := (F.mem x).1 hxc
          have : x ∈ Region.ready .any ops listed := (ready_iff hsz).2 ⟨hxs, hx, fun o ho e he hb => by
            obtain ⟨h1, h2⟩ := F.edge x o e ho he hb
            have hec : e.on ∈ c := (F.mem _).2 h1
            rw [← hp] at hec
            simp only [List.mem_append, List.mem_cons] at hec
            rcases hec with h | h | h
            · exact hj _ h
            · exact absurd h h2
            · have hpw := F.pw
              rw [← hp] at hpw
              have := (List.pairwise_cons.1 (List.pairwise_append.1 hpw).2.1).1 _ h
              exact absurd rfl (this.topo o e ho he hb)⟩
          rw [hr] at this
          cases this
    exact key c [] rfl (by simp)
  intro fuel
  induction fuel with
  | zero =>
    intro listed pd rest γ mf ρ m a w hsz hc hl he hcl hf hr hd hs hp hv hQ hE
    have hall : ∀ j ∈ c, Lst listed j := fun j hj => by
      have h0 : (c.filter fun j => !listed.getD j false) = [] := List.eq_nil_of_length_eq_zero (by omega)
      rw [List.filter_eq_nil_iff] at h0
      have := h0 j hj
      simpa [Lst] using this
    refine ⟨?_, hQ a w (allDone listed pd rest γ mf ρ m a w hsz hc hl hr hd hs hv hall)⟩
    cases hrd : Region.ready .any ops listed with
    | nil => rfl
    | cons i r =>
      have hi : i ∈ Region.ready .any ops listed := by rw [hrd]; simp
      obtain ⟨h1, h2, _⟩ := (ready_iff hsz).1 hi
      exact absurd (hall i ((F.mem i).2 h1)) h2
  | succ fuel ih =>
    intro listed pd rest γ mf ρ m a w hsz hc hl he hcl hf hr hd hs hp hv hQ hE
    refine ⟨fun hrd => hQ a w (allDone listed pd rest γ mf ρ m a w hsz hc hl hr hd hs hv (noneReady listed hsz hrd)), fun i hi => ?_⟩
    obtain ⟨his, hil, hie⟩ := (ready_iff hsz).1 hi
    have hpre : ∀ x, pre ops i x = true → Lst listed x := fun x hx => by
      obtain ⟨o, e, h1, h2, h3, h4⟩ := pre_spec hx
      have := hie o h1 e h2 h3
      rcases h4 with rfl | h4
      · exact this
      · exact hcl _ this x h4
    obtain ⟨o, ho⟩ : ∃ o, ops[i]? = some o := ⟨ops[i], by simp [his]⟩
    obtain ⟨I1, I2, I3, I4, I5⟩ := F.ins i o ho
    have hic : i ∈ c := (F.mem i).2 his
    -- i has been thought of, or comes next
    have hadv : ∃ pd' rest' ρ', pd' ++ rest' = c ∧ (∀ j ∈ pd, j ∈ pd') ∧ RegsBut γ n (fun s => ∃ j ∈ pd', ¬ Lst listed j ∧ (N j).d = some s) ρ' a.tmps ∧ (∀ j ∈ pd', cls (N j).o = 2 → Lst listed j) ∧ (∀ j ∈ pd', ¬ Lst listed j → Pend (N j) ρ' m) ∧
        vlist P E (rest'.map N) ρ' m K ∧ ((i ∈ pd' ∧ cls (N i).o ≠ 2) ∨ ∃ r2, rest' = i :: r2 ∧ cls (N i).o = 2) := by
      have hic' := hic
      rw [← hc] at hic'
      rcases List.mem_append.1 hic' with h | h
      · exact ⟨pd, rest, ρ, hc, fun j hj => hj, hr, he, hp, hv, .inl ⟨h, fun h2 => hil (he i h h2)⟩⟩
      · exact advance F hpre rest pd ρ hc hl h hr he hp hv
    clear hr he hp hv
    obtain ⟨pd', rest', ρ', hc', hsub, hr, he, hp, hv, hcase⟩ := hadv
    have hl' : ∀ j, Lst listed j → j ∈ pd' := fun j hj => hsub j (hl j hj)
    -- no register that it looks at is one of those that are still to be written
    have hnames : ∀ t ∈ names (N i), ¬ ∃ j ∈ pd', ¬ Lst listed j ∧ (N j).d = some t := by
      rintro t ht ⟨j, hj, hjl, hjd⟩
      have hjc : j ∈ c := by rw [← hc']; simp [hj]
      by_cases hji : j = i
      · subst hji; exact F.self j his t hjd ht
      · rcases pairwise_or F.pw hjc hic hji with h | h
        · exact hjl (hpre j (h.raw t hjd ht))
        · exact (h.war t hjd).elim (fun k => k.1 ht) fun k => hjl (he j hj k.1)
    let ρt : Regs := fun s => @ite AV (∃ j ∈ pd', ¬ Lst listed j ∧ (N j).d = some s) (Classical.propDecidable _) .top (ρ' s)
    have hρt : ∀ t ∈ names (N i), ρ' t = ρt t := fun t ht => by simp only [ρt]; rw [if_neg (hnames t ht)]
    have hrt : RegsBut γ n (fun _ => False) ρt a.tmps := ⟨hr.1, fun s _ => by
      by_cases hx : ∃ j ∈ pd', ¬ Lst listed j ∧ (N j).d = some s
      · simp only [ρt]; rw [if_pos hx]; exact .top _
      · simp only [ρt]; rw [if_neg hx]; exact hr.2 s hx⟩
    have hsz' : (listed.setIfInBounds i true).size = ops.size := by simp [hsz]
    have hset : ∀ j, Lst (listed.setIfInBounds i true) j ↔ (j = i ∨ Lst listed j) := fun j => Lst.set (by rw [hsz]; exact his)
    have hcl' : ∀ j, Lst (listed.setIfInBounds i true) j → ∀ x, pre ops j x = true → Lst (listed.setIfInBounds i true) x := fun j hj x hx => by
      rw [hset] at hj ⊢
      rcases hj with rfl | hj
      · exact .inr (hpre x hx)
      · exact .inr (hcl j hj x hx)
    have hfuel : (c.filter fun j => !(listed.setIfInBounds i true).getD j false).length ≤ fuel := by
      have hsubl : (c.filter fun j => !(listed.setIfInBounds i true).getD j false) = (c.filter fun j => !listed.getD j false).filter (fun j => j != i) := by
        rw [List.filter_filter]
        refine List.filter_congr fun j _ => ?_
        have := hset j
        unfold Lst at this
        by_cases hji : j = i
        · subst hji; simp at this; simp [this]
        · simp only [hji, false_or] at this
          have e : (listed.setIfInBounds i true).getD j false = listed.getD j false := Bool.eq_iff_iff.2 this
          rw [e]; simp [hji]
      rw [hsubl]
      have hmem : i ∈ c.filter fun j => !listed.getD j false := by
        rw [List.mem_filter]; exact ⟨hic, by unfold Lst at hil; simpa using hil⟩
      have hlt : ((c.filter fun j => !listed.getD j false).filter fun j => j != i).length < (c.filter fun j => !listed.getD j false).length :=
        List.length_filter_lt_length_iff_exists.2 ⟨i, hmem, by simp⟩
      omega
    have step : StepTo P ops o a w (wpAny P .any ops Q fuel (listed.setIfInBounds i true)) Q := by
      rcases hcase with ⟨hipd, hicls⟩ | ⟨r2, rfl, hicls⟩
      · -- it has been thought of
        obtain ⟨r, hrd, hg⟩ := hp i hipd hil
        have next : ∀ γ' v w', γ.le γ' → Rep γ' r v → Sat γ' (m ++ mf) w' → wpAny P .any ops Q fuel (listed.setIfInBounds i true) (a.put o.dst v) w' := fun γ' v w' e1 e2 e3 => by
          refine ih _ pd' rest' γ' mf ρ' m _ w' hsz' hc' (fun j hj => ?_) (fun j hj h2 => (hset j).2 (.inr (he j hj h2))) hcl' hfuel ?_ (by rw [put_defers]; exact hd) e3 (fun j hj hjl => hp j hj fun h => hjl ((hset j).2 (.inr h))) hv
            (fun a'' w'' ⟨γ2, ρ2, m2, f1, f2⟩ => hQ a'' w'' ⟨γ2, ρ2, m2, e1.trans f1, f2⟩) (fun ch a'' w'' hda ⟨pv, f0, γ2, x2, m2, f1, f2⟩ => hE ch a'' w'' hda ⟨pv, f0, γ2, x2, m2, e1.trans f1, f2⟩)
          · rw [hset] at hj
            rcases hj with rfl | hj
            · exact hipd
            · exact hl' j hj
          · have hbig : RegsBut γ' n (fun s => (∃ j ∈ pd', ¬ Lst (listed.setIfInBounds i true) j ∧ (N j).d = some s) ∨ o.dst = some s ∧ False) (putR ρ' o.dst r) (a.put o.dst v).tmps := by
              refine ⟨by cases o.dst <;> simp [Act.put, hr.1], fun s hsn => ?_⟩
              by_cases hds : o.dst = some s
              · rw [hds]
                have hsn' := dst_lt I2 s hds
                simp only [Moi.putR, upd, if_pos, Act.put, Array.getD_eq_getD_getElem?]
                rw [Array.getElem?_setIfInBounds_self_of_lt (by rw [hr.1]; exact hsn')]
                exact e2
              · rw [putR_ne hds]
                have h1 := (hr.mono e1).2 s fun ⟨j, h1, h2, h3⟩ => hsn (.inl ⟨j, h1, fun h => by
                  rcases (hset j).1 h with rfl | h
                  · exact hds (I5 ▸ h3)
                  · exact h2 h, h3⟩)
                cases hdd : o.dst with
                | none => exact h1
                | some d =>
                  have hne : d ≠ s := fun e => hds (by rw [hdd, e])
                  simp only [Act.put, Array.getD_eq_getD_getElem?] at h1 ⊢
                  rw [Array.getElem?_setIfInBounds_ne hne]; exact h1
            refine ⟨hbig.1, fun s hsn => ?_⟩
            have := hbig.2 s (by simpa using hsn)
            have heq : Moi.putR ρ' o.dst r s = ρ' s := by
              by_cases hds : o.dst = some s
              · rw [hds, putR_same, hrd s (by rw [I5]; exact hds)]
              · exact putR_ne hds
            rw [heq] at this
            exact this
        refine step_ins (E := E) (mu := mu) (g := (N i).g) (K := fun x m' => x = r ∧ m' = m) (Kskip := r = uv) I1 I2 I3 hrt hs ?_ (fun γ' x m' v w' e1 e2 e3 e4 => ?_) (fun hk => ?_) (fun γ' x m' v w' e1 e2 e3 e4 => ?_)
        · rw [guarded_congr (ρ' := ρ') fun s wt hsw => (hρt s (guard_names hsw)).symm]
          refine guarded_mono hg (fun ⟨no, e, hdet⟩ => ?_) id
          have e' : normI P mu o = .op no := by rw [← I4.resolve_right fun ⟨x, h, _⟩ => hicls (by rw [h]; rfl)]; exact e
          rw [e']
          unfold Det at hdet
          show vop no ρt m _
          rw [vop_congr (ρ' := ρ') fun t ht => (hρt t (regs_names e t ht)).symm]
          exact hdet
        · obtain ⟨rfl, rfl⟩ := e4
          exact next γ' v w' e1 e2 e3
        · refine next γ undef w (.refl γ) ?_ hs
          rw [hk]; exact .undef_uv
        · exact hE _ a w' hd ⟨v, rfl, γ', x, m', e1, e2, e3, e4⟩
      · -- it acts
        simp only [List.map_cons, vlist, vins] at hv
        have hrel : ∀ j ∈ pd', Rel ops N j i := by
          have hpw := F.pw
          rw [← hc'] at hpw
          exact fun j hj => (List.pairwise_append.1 hpw).2.2 j hj i (by simp)
        have pends : ∀ x m', (∀ r ∈ (N i).chk, rereads r (putR ρ' (N i).d x) m') → ∀ j ∈ pd', ¬ Lst listed j → Pend (N j) (putR ρ' (N i).d x) m' := fun x m' e4 j hj hjl' => by
          have hpj := hp j hj hjl'
          have hpj' : Pend (N j) (putR ρ' (N i).d x) m := hpj.putR fun t ht => ((hrel j hj).war t ht).resolve_right fun k => hjl' (hpre j k.2)
          have hcj : cls (N j).o ≠ 2 := fun h => hjl' (he j hj h)
          have h01 : cls (N j).o = 0 ∨ cls (N j).o = 1 := by
            cases hoj : (N j).o with
            | op no =>
              rw [hoj] at hcj
              have hv3 : clsN no = 0 ∨ clsN no = 1 ∨ clsN no = 2 := by unfold clsN; split <;> simp
              rcases hv3 with h | h | h
              · exact .inl h
              · exact .inr h
              · exact absurd h hcj
            | _ => rw [hoj] at hcj; exact absurd rfl hcj
          rcases h01 with h0 | h1
          · exact hpj'.heap0 h0
          · have hnp : pre ops i j = false := by
              cases hb : pre ops i j with
              | false => rfl
              | true => exact absurd (hpre j hb) hjl'
            obtain ⟨no, hno⟩ : ∃ no, (N j).o = .op no := by
              cases hoj : (N j).o with
              | op no => exact ⟨no, rfl⟩
              | call f xs => rw [hoj] at h1; cases h1
              | panic y => rw [hoj] at h1; cases h1
            obtain ⟨rd, q1, q2, q3, q4⟩ := (hrel j hj).chk hicls h1 hnp no hno
            exact hpj'.heap1 h1 q2 (by rw [hno, q3]) q4 (e4 rd q1)
        have next : ∀ γ' x m' v w', γ.le γ' → Rep γ' x v → Sat γ' (m' ++ mf) w' → (∀ j ∈ pd', ¬ Lst listed j → Pend (N j) (putR ρ' (N i).d x) m') → vlist P E (r2.map N) (putR ρ' (N i).d x) m' K → wpAny P .any ops Q fuel (listed.setIfInBounds i true) (a.put o.dst v) w' :=
          fun γ' x m' v w' e1 e2 e3 e4 e5 => by
          refine ih _ (pd' ++ [i]) r2 γ' mf (putR ρ' (N i).d x) m' _ w' hsz' (by rw [← hc']; simp) (fun j hj => ?_) (fun j hj h2 => ?_) hcl' hfuel ?_ (by rw [put_defers]; exact hd) e3 (fun j hj hjl => ?_) e5
            (fun a'' w'' ⟨γ2, ρ2, m2, f1, f2⟩ => hQ a'' w'' ⟨γ2, ρ2, m2, e1.trans f1, f2⟩) (fun ch a'' w'' hda ⟨pv, f0, γ2, x2, m2, f1, f2⟩ => hE ch a'' w'' hda ⟨pv, f0, γ2, x2, m2, e1.trans f1, f2⟩)
          · rw [hset] at hj
            rcases hj with rfl | hj
            · simp
            · simp [hl' j hj]
          · simp only [List.mem_append, List.mem_singleton] at hj
            rw [hset]
            rcases hj with hj | rfl
            · exact .inr (he j hj h2)
            · exact .inl rfl
          · rw [I5]
            refine ⟨((hr.mono e1).put (dst_lt I2) e2).1, fun s hsn => ((hr.mono e1).put (dst_lt I2) e2).2 s fun ⟨j, h1, h2, h3⟩ => hsn ⟨j, by simp [h1], fun h => ?_, h3⟩⟩
            rcases (hset j).1 h with rfl | h
            · -- i is not among those that were thought of
              have hnd := F.nodup
              rw [← hc'] at hnd
              exact (List.nodup_append.1 hnd).2.2 j h1 j (by simp) rfl
            · exact h2 h
          · simp only [List.mem_append, List.mem_singleton] at hj
            rcases hj with hj | rfl
            · exact e4 j hj fun h => hjl ((hset j).2 (.inr h))
            · exact absurd ((hset j).2 (.inl rfl)) hjl
        refine step_ins (E := E) (mu := mu) (g := (N i).g) (K := fun x m' => (∀ r ∈ (N i).chk, rereads r (putR ρ' (N i).d x) m') ∧ vlist P E (r2.map N) (putR ρ' (N i).d x) m' K) (Kskip := vlist P E (r2.map N) (putR ρ' (N i).d uv) m K) I1 I2 I3 hrt hs ?_
          (fun γ' x m' v w' e1 e2 e3 e4 => next γ' x m' v w' e1 e2 e3 (pends x m' e4.1) e4.2) (fun hk => ?_) (fun γ' x m' v w' e1 e2 e3 e4 => hE _ a w' hd ⟨v, rfl, γ', x, m', e1, e2, e3, e4⟩)
        · rw [guarded_congr (ρ' := ρ') fun s wt hsw => (hρt s (guard_names hsw)).symm]
          refine guarded_mono hv (fun h => ?_) id
          rcases I4 with I4 | ⟨x, I4, I6⟩
          case inr =>
            rw [I4] at h
            rw [I6]
            show vop (.move x) ρt m _
            simp only [vop] at h ⊢
            rw [ev_congr (ρ := ρt) (ρ' := ρ') fun t ht => (hρt t (regs_names I4 t (by simpa only [regsN] using ht))).symm]
            exact h
          rw [← I4]
          have hev : ∀ x : Opd, (∀ t ∈ opR x, t ∈ regsI (N i).o) → ev ρt x = ev ρ' x := fun x hx => ev_congr fun t ht => (hρt t (by simp only [names, List.mem_append]; exact .inr (hx t ht))).symm
          split at h
          · rename_i no hno
            show vop no ρt m _
            rw [vop_congr (ρ' := ρ') fun t ht => (hρt t (regs_names hno t ht)).symm]
            exact h
          · rename_i f args hno
            rw [hno] at hev
            have hm : args.map (ev ρt) = args.map (ev ρ') := List.map_congr_left fun x hx => hev x fun t ht => by
              simp only [regsI, List.mem_append, List.mem_flatMap]; exact .inr ⟨x, hx, ht⟩
            show ∃ fid caps, ev ρt f = .clos fid caps ∧ _
            rw [hm, hev f fun t ht => by simp only [regsI, List.mem_append]; exact .inl ht]
            exact h
          · rename_i x hno
            rw [hno] at hev
            show ∃ t y, ev ρt x = .iface t y ∧ _
            rw [hev x fun t ht => by simpa only [regsI] using ht]
            exact h
        · refine next γ uv m undef w (.refl γ) .undef_uv hs (fun j hj hjl => (hp j hj hjl).putR fun t ht => ((hrel j hj).war t ht).resolve_right fun k => hjl (hpre j k.2)) hk
    show wpOp P ops Q i _ a w
    unfold wpOp
    rw [ho]
    simp only
    unfold StepTo at step
    split
    · rename_i hw; rw [if_pos hw] at step; exact .inl step
    · rename_i hw; rw [if_neg hw] at step; exact step

end
end Go.Proofs.Ytceahampebofbaa.Moi
