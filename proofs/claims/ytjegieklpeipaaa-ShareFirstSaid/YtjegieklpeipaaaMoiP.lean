/- A region whose order is open: the order that is thought of, checked by reckoning. -/
import Derived.Test.YtjegieklpeipaaaMoiO
set_option linter.unusedVariables false
set_option linter.unusedSimpArgs false
namespace Go.Proofs.Ytjegieklpeipaaa.Moi
open Go Go.RowKit

def badNI : NI := ⟨none, none, .op .bad, []⟩

def befores (c : List Nat) (y : Nat) : List Nat := c.takeWhile (fun x => !(Nat.beq x y))
def rdOf (B : Nat → NI) (x : Nat) : Option Rd :=
  match (B x).o, (B x).d with
  | .op no, some d => some ⟨d, (B x).g, no⟩
  | _, _ => none
def chkOf (ops : Array Oper) (B : Nat → NI) (c : List Nat) (y : Nat) : List Rd :=
  if Nat.beq (cls (B y).o) 2 then (befores c y).filterMap fun x => if Nat.beq (cls (B x).o) 1 && !(pre ops y x) then rdOf B x else none else []
def withChk (ops : Array Oper) (B : Nat → NI) (c : List Nat) (y : Nat) : NI := ⟨(B y).d, (B y).g, (B y).o, chkOf ops B c y⟩

def isO (d : Nat) : Option Nat → Bool
  | some e => Nat.beq d e
  | none => false
def hasN (d : Nat) : List Nat → Bool
  | [] => false
  | e :: l => Nat.beq d e || hasN d l

def topoB (ops : Array Oper) (x y : Nat) : Bool := match ops[x]? with
  | some o => o.after.toList.all fun e => !(Region.binds .any e) || !(Nat.beq e.on y)
  | none => true
def warB (ops : Array Oper) (B : Nat → NI) (x y : Nat) : Bool := match (B y).d with
  | some d => (!(hasN d (names (B x))) && !(isO d (B x).d)) || (Nat.beq (cls (B y).o) 2 && pre ops y x)
  | none => true
def rawB (ops : Array Oper) (B : Nat → NI) (x y : Nat) : Bool := match (B x).d with
  | some d => !(hasN d (names (B y))) || pre ops y x
  | none => true
def relB (ops : Array Oper) (B : Nat → NI) (x y : Nat) : Bool :=
  topoB ops x y && (!(Nat.beq (cls (B x).o) 2) || pre ops y x) && warB ops B x y && rawB ops B x y && (!(Nat.beq (cls (B y).o) 2) || !(Nat.beq (cls (B x).o) 1) || pre ops y x || (B x).d.isSome)

def pairsB (R : Nat → Nat → Bool) : List Nat → Bool
  | [] => true
  | x :: l => l.all (R x) && pairsB R l

def selfB (B : Nat → NI) (x : Nat) : Bool := match (B x).d with
  | some d => !(hasN d (names (B x)))
  | none => true
def edgeB (ops : Array Oper) (x : Nat) : Bool := match ops[x]? with
  | some o => o.after.toList.all fun e => !(Region.binds .any e) || (Nat.blt e.on ops.size && !(Nat.beq e.on x))
  | none => true
def nodupB : List Nat → Bool
  | [] => true
  | x :: l => !(hasN x l) && nodupB l

def regionB (ops : Array Oper) (B : Nat → NI) (c : List Nat) : Bool :=
  nodupB c && c.all (fun x => Nat.blt x ops.size) && Nat.beq c.length ops.size && (List.range ops.size).all (fun x => hasN x c) && pairsB (relB ops B) c && c.all (selfB B) && c.all (edgeB ops)

theorem hasN_iff {d : Nat} : ∀ {l : List Nat}, hasN d l = true ↔ d ∈ l
  | [] => by simp [hasN]
  | e :: l => by simp [hasN, hasN_iff]
theorem hasN_false {d : Nat} {l : List Nat} (h : (!(hasN d l)) = true) : d ∉ l := fun k => by
  rw [hasN_iff.2 k] at h; cases h
theorem isO_false {d : Nat} {o : Option Nat} (h : (!(isO d o)) = true) : o ≠ some d := fun k => by
  rw [k] at h; simp [isO] at h
theorem nodupB_ok : ∀ {l : List Nat}, nodupB l = true → l.Nodup
  | [], _ => .nil
  | x :: l, h => by
    simp only [nodupB, Bool.and_eq_true] at h
    exact List.nodup_cons.2 ⟨hasN_false h.1, nodupB_ok h.2⟩
theorem pairsB_ok {R : Nat → Nat → Bool} : ∀ {l : List Nat}, pairsB R l = true → l.Pairwise fun x y => R x y = true
  | [], _ => .nil
  | x :: l, h => by
    simp only [pairsB, Bool.and_eq_true, List.all_eq_true] at h
    exact List.pairwise_cons.2 ⟨h.1, pairsB_ok h.2⟩

theorem befores_pw : ∀ {c : List Nat}, c.Nodup → c.Pairwise fun x y => x ∈ befores c y
  | [], _ => .nil
  | x :: l, h => by
    rw [List.nodup_cons] at h
    have step : ∀ z y, y ∈ l → (z = x ∨ z ∈ befores l y) → z ∈ befores (x :: l) y := fun z y hy hz => by
      have hne : x ≠ y := fun e => h.1 (e ▸ hy)
      unfold befores
      have hb : Nat.beq x y = false := by
        cases hb : Nat.beq x y with
        | false => rfl
        | true => exact absurd (Nat.eq_of_beq_eq_true hb) hne
      rw [List.takeWhile_cons, if_pos (by simp [hb])]
      exact List.mem_cons.2 hz
    refine List.pairwise_cons.2 ⟨fun y hy => step x y hy (.inl rfl), ?_⟩
    exact (befores_pw h.2).imp_of_mem fun {a b} _ hb hab => step a b hb (.inr hab)

section
variable {P : Program} {mu : Bool} {n : Nat}

theorem mapM_get {α β : Type} {f : α → Option β} : ∀ {l : List α} {r : List β}, l.mapM f = some r → ∀ (i : Nat) (x : α), l[i]? = some x → ∃ y, r[i]? = some y ∧ f x = some y
  | [], r, h, i, x, k => by simp at k
  | a :: l, r, h, i, x, k => by
    simp only [List.mapM_cons, Option.bind_eq_bind, Option.bind_eq_some_iff, Option.pure_def, Option.some.injEq] at h
    obtain ⟨y, hy, r', hr, rfl⟩ := h
    cases i with
    | zero => simp at k; subst k; exact ⟨y, by simp, hy⟩
    | succ i => simpa using mapM_get hr i x (by simpa using k)

theorem nbeq_false {x y : Nat} (h : Nat.beq x y = false) : x ≠ y := fun e => by subst e; simp at h
theorem nbeq_ne {x y : Nat} (h : x ≠ y) : Nat.beq x y = false := by
  cases hb : Nat.beq x y with
  | false => rfl
  | true => exact absurd (Nat.eq_of_beq_eq_true hb) h

/-- A register that is set anew behind all that looks at it as it was: an act. -/
def setB (ops : Array Oper) (nis : List NI) (i : Nat) : NI := match (nis.getD i badNI).o, (nis.getD i badNI).d with
  | .op (.move x), some d => if (List.range nis.length).any (fun j => hasN d (names (nis.getD j badNI)) && pre ops i j) then ⟨some d, (nis.getD i badNI).g, .op (.set x), (nis.getD i badNI).chk⟩ else nis.getD i badNI
  | _, _ => nis.getD i badNI
theorem setB_spec (ops : Array Oper) (nis : List NI) (i : Nat) : setB ops nis i = nis.getD i badNI ∨ ∃ x d, (nis.getD i badNI).o = .op (.move x) ∧ (nis.getD i badNI).d = some d ∧ setB ops nis i = ⟨some d, (nis.getD i badNI).g, .op (.set x), (nis.getD i badNI).chk⟩ := by
  unfold setB
  split
  · rename_i x d h1 h2
    split
    · exact .inr ⟨x, d, h1, h2, rfl⟩
    · exact .inl rfl
  · exact .inl rfl

theorem regFacts {ops : Array Oper} {nis : List NI} {c : List Nat} (hm : ops.toList.mapM (normIns P mu n ops) = some nis) (h : regionB ops (setB ops nis) c = true) :
    RegFacts P mu n ops (withChk ops (setB ops nis) c) c := by
  have hBs := setB_spec ops nis
  generalize hB : setB ops nis = B at h hBs ⊢
  simp only [regionB, Bool.and_eq_true] at h
  obtain ⟨⟨⟨⟨⟨⟨h1, h2⟩, h0⟩, h3⟩, h4⟩, h5⟩, h6⟩ := h
  have nd := nodupB_ok h1
  have hlt : ∀ x ∈ c, x < ops.size := fun x hx => by
    have := List.all_eq_true.1 h2 x hx
    simpa using this
  have hmem : ∀ i, i ∈ c ↔ i < ops.size := fun i => ⟨hlt i, fun hi => hasN_iff.1 (List.all_eq_true.1 h3 i (List.mem_range.2 hi))⟩
  have hnames : ∀ y, names (withChk ops B c y) = names (B y) := fun y => rfl
  refine ⟨hmem, nd, ?_, fun i o ho => ?_, fun i o e ho he hb => ?_, fun i hi d hd => ?_⟩
  · have hboth := List.pairwise_and_iff.2 ⟨pairsB_ok h4, befores_pw nd⟩
    refine hboth.imp ?_
    intro x y ⟨hr, hbf⟩
    simp only [relB, Bool.and_eq_true] at hr
    obtain ⟨⟨⟨⟨r1, r2⟩, r3⟩, r4⟩, r5⟩ := hr
    refine ⟨fun o e ho he hb hy => ?_, fun hc => ?_, fun d hd => ?_, fun d hd hn => ?_, fun hc1 hc2 hp no hno => ?_⟩
    · unfold topoB at r1
      rw [ho] at r1
      have := List.all_eq_true.1 r1 e he
      simp [hb, hy] at this
    · have hc' : cls (B x).o = 2 := hc
      simpa [hc'] using r2
    · have hd' : (B y).d = some d := hd
      unfold warB at r3
      rw [hd'] at r3
      simp only [Bool.or_eq_true, Bool.and_eq_true] at r3
      rcases r3 with r3 | r3
      · exact .inl ⟨hasN_false r3.1, isO_false r3.2⟩
      · exact .inr ⟨Nat.eq_of_beq_eq_true r3.1, r3.2⟩
    · have hd' : (B x).d = some d := hd
      unfold rawB at r4
      rw [hd'] at r4
      simp only [Bool.or_eq_true] at r4
      rcases r4 with r4 | r4
      · exact absurd hn (hasN_false r4)
      · exact r4
    · have hc1' : cls (B y).o = 2 := hc1
      have hc2' : cls (B x).o = 1 := hc2
      have hno' : (B x).o = .op no := hno
      simp [hc1', hc2', hp] at r5
      obtain ⟨d, hd⟩ := Option.isSome_iff_exists.1 r5
      refine ⟨⟨d, (B x).g, no⟩, ?_, rfl, rfl, hd⟩
      show _ ∈ chkOf ops B c y
      unfold chkOf
      rw [if_pos (by simp [hc1'])]
      refine List.mem_filterMap.2 ⟨x, hbf, ?_⟩
      rw [if_pos (by simp [hc2', hp])]
      unfold rdOf
      rw [hno', hd]
  · have hl : ops.toList[i]? = some o := by simpa using ho
    have hni : normIns P mu n ops o = some (nis.getD i badNI) := by
      obtain ⟨y, hy, hf⟩ := mapM_get hm i o hl
      rw [hf]
      simp [hy]
    obtain ⟨a1, a2, a3, a4, a5, a6⟩ := normIns_ok hni
    rcases hBs i with hb | ⟨x, d, h1, h2, hb⟩
    · show normG ops o = some (B i).g ∧ normD n o = true ∧ (∀ s w, (B i).g = some (s, w) → s < n) ∧ ((B i).o = normI P mu o ∨ _) ∧ (B i).d = o.dst
      rw [hb]
      exact ⟨a1, a2, a3, .inl a4, a5⟩
    · show normG ops o = some (B i).g ∧ normD n o = true ∧ (∀ s w, (B i).g = some (s, w) → s < n) ∧ ((B i).o = normI P mu o ∨ ∃ x, (B i).o = .op (.set x) ∧ normI P mu o = .op (.move x)) ∧ (B i).d = o.dst
      rw [hb]
      exact ⟨a1, a2, a3, .inr ⟨x, rfl, by rw [← a4, h1]⟩, by rw [← a5, h2]⟩
  · have hi : i < ops.size := (Array.getElem?_eq_some_iff.1 ho).1
    have := List.all_eq_true.1 h6 i ((hmem i).2 hi)
    unfold edgeB at this
    rw [ho] at this
    have := List.all_eq_true.1 this e he
    simp [hb] at this
    exact ⟨this.1, nbeq_false this.2⟩
  · have := List.all_eq_true.1 h5 i ((hmem i).2 hi)
    unfold selfB at this
    have hd' : (B i).d = some d := hd
    rw [hd'] at this
    exact hasN_false this

/-! ### The order -/
def masksOf (ops : Array Oper) : List Nat := (Region.before ops).toList

/-- What may be thought of next: first what only reckons or reads. -/
def pickC (bf : List Nat) (B : Nat → NI) (done : Nat) (acts : Bool) : List Nat → Option Nat
  | [] => none
  | x :: l => if !(done.testBit x) && Nat.beq ((bf.getD x 0) &&& done) (bf.getD x 0) && (acts || !(Nat.beq (cls (B x).o) 2)) then some x else pickC bf B done acts l
def canonGo (bf : List Nat) (B : Nat → NI) (l : List Nat) : Nat → Nat → List Nat
  | 0, _ => []
  | f + 1, done => match pickC bf B done false l with
    | some x => x :: canonGo bf B l f (done ||| 2 ^ x)
    | none => match pickC bf B done true l with
      | some x => x :: canonGo bf B l f (done ||| 2 ^ x)
      | none => []
def canon (ops : Array Oper) (B : Nat → NI) : List Nat := canonGo (masksOf ops) B (List.range ops.size) ops.size 0

def normRegion (P : Program) (mu : Bool) (n : Nat) (ops : Array Oper) (draw : Bool) : List NI :=
  match ops.toList.mapM (normIns P mu n ops) with
  | some nis => match draw with
    | false => nis
    | true => match canon ops (setB ops nis) with
      | c => match regionB ops (setB ops nis) c with
        | true => c.map (withChk ops (setB ops nis) c)
        | false => [badNI]
  | none => [badNI]

theorem vlist_bad {E : AV → Heap → Prop} {ρ : Regs} {m : Heap} {K : Regs → Heap → Prop} (h : vlist P E [badNI] ρ m K) : False := h

end
end Go.Proofs.Ytjegieklpeipaaa.Moi
