/- Collecting: what is asked next. -/
import Derived.Test.YtkbpnnbdfikjhaaGreatK08Heap1
namespace Go.Proofs.YtkbpnnbdfikjhaaGreat
open Go Go.Aw
set_option linter.unusedVariables false
set_option linter.unusedSimpArgs false
set_option maxRecDepth 10000

inductive CPart where
  | locks | epochs | pins | heads | ages | passes | olders | cuts | nexts | drops | lives | unlinks | again | clears | unlocks | done
  deriving DecidableEq
def CPart.num : CPart → Int
  | .locks => 1 | .epochs => 2 | .pins => 3 | .heads => 4 | .ages => 5 | .passes => 6 | .olders => 7 | .cuts => 8 | .nexts => 9 | .drops => 10
  | .lives => 11 | .unlinks => 12 | .again => 13 | .clears => 14 | .unlocks => 15 | .done => 16

/-- the office -/
structure Off where
  next : Int
  limbo : List Int
structure Col where
  part : CPart
  pin : Int
  least : Int
  head : Int
  at_ : Int
  older : Int
  gone : Int

/-- a row of numbers that is grown and cut -/
def LimboAt (σ : Sto) (x : AV) (l : List Int) (F : List Nat) : Prop :=
  (x = .slice .clip [] ∧ l = [] ∧ F = []) ∨ ∃ b pre, x = .mslice b pre.length l.length 1 ∧ σ b = some (.cells ((pre ++ l).map u)) ∧ F = [b]
structure OffAt (σ : Sto) (ob : Nat) (c : Cfg) (o : Off) (mo x : AV) (F : List Nat) : Prop where
  top : σ ob = some (.cells [i64 c.cap, i64 c.pins, i64 c.shelves, i64 c.queue, i64 c.watchers, u c.seed, mo, i64 o.next, x])
  limbo : LimboAt σ x o.limbo F
  nf : ob ∉ F
theorem LimboAt.sub {σ σ' : Sto} {x : AV} {l : List Int} {F : List Nat} (h : LimboAt σ x l F) (hs : ∀ y ∈ F, ∀ o, σ y = some o → σ' y = some o) : LimboAt σ' x l F := by
  rcases h with h | ⟨b, pre, h1, h2, rfl⟩
  · exact .inl h
  · exact .inr ⟨b, pre, h1, hs b (by simp) _ h2, rfl⟩
theorem OffAt.sub {σ σ' : Sto} {ob : Nat} {c : Cfg} {o : Off} {mo x : AV} {F : List Nat} (h : OffAt σ ob c o mo x F) (hs : ∀ y ∈ ob :: F, ∀ o, σ y = some o → σ' y = some o) : OffAt σ' ob c o mo x F :=
  ⟨hs ob (by simp) _ h.top, h.limbo.sub fun y hy => hs y (by simp [hy]), h.nf⟩
theorem OffAt.of_sub {σ σ' : Sto} {ob : Nat} {c : Cfg} {o : Off} {mo x : AV} {F : List Nat} (h : OffAt σ ob c o mo x F) (hs : Sub σ σ') : OffAt σ' ob c o mo x F := h.sub fun y _ o => hs y o
abbrev rowCol (ob : Nat) (x : Col) : List AV := [.ptr ob 0, i64 x.part.num, i64 x.pin, u x.least, u x.head, u x.at_, u x.older, i64 x.gone]

/-- the next act -/
def Col.act (c : Cfg) (o : Off) (x : Col) : Option A := match x.part with
  | .locks => some .lock
  | .epochs => some (.load 1 0)
  | .pins | .again => some (.load 1 (c.pin x.pin))
  | .heads => some (.load 1 (c.head o.next))
  | .ages => some (.load x.at_ 0)
  | .passes | .olders => some (.load x.at_ 1)
  | .cuts => some (.store x.at_ 1 0)
  | .nexts => some (.load x.older 1)
  | .drops => some (.drop x.older)
  | .lives => some (.load x.at_ 2)
  | .unlinks => some (.store 1 (c.head o.next) 0)
  | .clears => match o.limbo with
    | b :: _ => some (.drop b)
    | [] => none
  | .unlocks => some .unlock
  | .done => none

def actAV : Option A → AV
  | some a => .tuple [.agg (encA a), boo true]
  | none => .tuple [.agg (rowA 0 0 0 0 0 ⟨#[]⟩), boo false]

theorem control_spec (σ : Sto) (i : Int) : ACalls Tryz.prog 37 [i64 i] σ (fun r σ' => r = actAV (some (.load 1 i)) ∧ σ' = σ) := by
  refine ACalls.ro fun q hq => fn_of Tab.mixed Tryz.func37 rfl rfl rfl ?_
  simp -implicitDefEqProofs
  refine alloc fun b1 hb1 => ?_
  simp -implicitDefEqProofs
  refine hq _ _ rfl ?_
  repeat first | exact Sub.refl _ | refine sub_set ?_ hb1

theorem cload_spec (σ : Sto) (b i : Int) : ACalls Tryz.prog 50 [u b, i64 i] σ (fun r σ' => r = actAV (some (.load b i)) ∧ σ' = σ) := by
  refine ACalls.ro fun q hq => fn_of Tab.mixed Tryz.func50 rfl rfl rfl ?_
  simp -implicitDefEqProofs
  refine alloc fun b1 hb1 => ?_
  simp -implicitDefEqProofs
  refine hq _ _ rfl ?_
  repeat first | exact Sub.refl _ | refine sub_set ?_ hb1

def CPart.version : CPart → Bool
  | .ages | .passes | .olders | .cuts | .nexts | .drops | .lives | .clears => true
  | _ => false

theorem onVersion_spec (σ : Sto) (xb ob : Nat) (x : Col) (c : Cfg) (o : Off) (mo lx : AV) (F : List Nat) (hx : σ xb = some (.cells (rowCol ob x))) (ho : OffAt σ ob c o mo lx F)
    (hp : x.part.version = true) (hl : x.part = .clears → o.limbo ≠ []) :
    ACalls Tryz.prog 39 [.ptr xb 0] σ (fun r σ' => r = actAV (x.act c o) ∧ σ' = σ) := by
  obtain ⟨part, pin, least, head, at_, older, gone⟩ := x
  have h1 := ho.top
  cases part <;> first | (simp [CPart.version] at hp; done) | skip
  case clears =>
    obtain ⟨b, l, hbl⟩ : ∃ b l, o.limbo = b :: l := by
      cases hll : o.limbo with
      | nil => exact absurd hll (hl rfl)
      | cons b l => exact ⟨b, l, rfl⟩
    rcases ho.limbo with ⟨_, h2, _⟩ | ⟨lb, pre, rfl, h2, _⟩
    · rw [hbl] at h2; cases h2
    · rw [hbl] at h2 h1
      have h3 : (pre.map u ++ u b :: l.map u)[pre.length]? = some (u b) := by rw [List.getElem?_append_right (by simp)]; simp
      simp only [List.map_append, List.map_cons] at h2
      refine ACalls.ro fun q hq => fn_of Tab.mixed Tryz.func39 rfl rfl rfl ?_
      simp -implicitDefEqProofs
      refine alloc fun b1 hb1 => ?_
      have n1 := ne_of hx hb1
      have n2 := ne_of h1 hb1
      have n3 := ne_of h2 hb1
      simp -implicitDefEqProofs [hx, h1, h2, n1, n2, n3, h3, CPart.num]
      refine hq _ _ (by simp [Col.act, actAV, hbl, encA]) ?_
      repeat first | exact Sub.refl _ | refine sub_set ?_ hb1
  all_goals
    refine ACalls.ro fun q hq => fn_of Tab.mixed Tryz.func39 rfl rfl rfl ?_
    simp -implicitDefEqProofs
    refine alloc fun b1 hb1 => ?_
    have n1 := ne_of hx hb1
    simp -implicitDefEqProofs [hx, n1, CPart.num]
    try
      refine (cload_spec _ _ _).mono ?_
      rintro r σ' ⟨rfl, rfl⟩
      simp -implicitDefEqProofs [actAV, encA]
    refine hq _ _ (by simp [Col.act, actAV, encA]) ?_
    repeat first | exact Sub.refl _ | refine sub_set ?_ hb1

theorem colact_spec (σ : Sto) (xb ob : Nat) (x : Col) (c : Cfg) (hc : c.right = true) (o : Off) (mo lx : AV) (F : List Nat) (hx : σ xb = some (.cells (rowCol ob x))) (ho : OffAt σ ob c o mo lx F)
    (hp : (x.part = .pins ∨ x.part = .again) → 0 ≤ x.pin ∧ x.pin < c.pins) (hn : 0 ≤ o.next ∧ o.next < c.shelves) (hl : x.part = .clears → o.limbo ≠ []) :
    ACalls Tryz.prog 23 [.ptr xb 0] σ (fun r σ' => r = actAV (x.act c o) ∧ σ' = σ) := by
  have hov := fun σ => onVersion_spec σ xb ob x c o mo lx F
  obtain ⟨part, pin, least, head, at_, older, gone⟩ := x
  have h1 := ho.top
  have fin : ∀ (b1 b2 : Nat) (o1 o2 o3 : AObj) , σ b1 = none → σ b2 = none → Sub σ (((σ.set b1 o1).set b2 o2).set b1 o3) := fun b1 b2 o1 o2 o3 h1 h2 => sub_set (sub_set (sub_set (Sub.refl σ) h1) h2) h1
  have pre : ∀ (q : AV → Sto → Prop) (b1 b2 : Nat), σ b1 = none → σ b2 = none → True := fun _ _ _ _ _ => trivial
  cases part <;>
  (refine ACalls.ro fun q hq => fn_of Tab.mixed Tryz.func23 rfl rfl rfl ?_
   simp -implicitDefEqProofs
   refine alloc fun b1 hb1 => ?_
   have n1 := ne_of hx hb1
   have n2 := ne_of h1 hb1
   simp -implicitDefEqProofs [hx, h1, n1, n2, CPart.num])
  case done => 
    refine hq _ _ (by simp [Col.act, actAV, encA]) ?_
    repeat first | exact Sub.refl _ | refine sub_set ?_ hb1
  all_goals
    refine alloc fun b2 hb2 => ?_
    obtain ⟨n21, hb2'⟩ := none_of_set hb2
    have n3 := ne_of hx hb2'
    have n4 := ne_of h1 hb2'
    simp -implicitDefEqProofs [hx, h1, n1, n2, n3, n4, n21, Ne.symm n21, CPart.num]
  case locks => exact hq _ _ (by simp [Col.act, actAV, encA]) (fin _ _ _ _ _ hb1 hb2')
  case unlocks => exact hq _ _ (by simp [Col.act, actAV, encA]) (fin _ _ _ _ _ hb1 hb2')
  case epochs =>
    refine (control_spec _ _).mono ?_
    rintro r σ' ⟨rfl, rfl⟩
    simp -implicitDefEqProofs [actAV, encA, n21, Ne.symm n21]
    exact hq _ _ (by simp [Col.act, actAV, encA]) (fin _ _ _ _ _ hb1 hb2')
  case pins =>
    refine drawP [5, 6] (by kernel_rfl) ?_
    simp -implicitDefEqProofs [hx, n1, n3]
    refine read (i64 (c.pin pin)) (fun _ => True) trivial (fun _ _ _ h => h) (fun σ _ => ?_) ?_
    · simp -implicitDefEqProofs
      exact pin_spec σ c hc pin (hp (by simp)).1 (hp (by simp)).2
    simp -implicitDefEqProofs
    refine read (actAV (some (.load 1 (c.pin pin)))) (fun _ => True) trivial (fun _ _ _ h => h) (fun σ _ => ?_) ?_
    · simp -implicitDefEqProofs
      exact control_spec σ _
    simp -implicitDefEqProofs [actAV, encA, n21, Ne.symm n21]
    exact hq _ _ (by simp [Col.act, actAV, encA]) (fin _ _ _ _ _ hb1 hb2')
  case again =>
    refine drawP [5, 6] (by kernel_rfl) ?_
    simp -implicitDefEqProofs [hx, n1, n3]
    refine read (i64 (c.pin pin)) (fun _ => True) trivial (fun _ _ _ h => h) (fun σ _ => ?_) ?_
    · simp -implicitDefEqProofs
      exact pin_spec σ c hc pin (hp (by simp)).1 (hp (by simp)).2
    simp -implicitDefEqProofs
    refine read (actAV (some (.load 1 (c.pin pin)))) (fun _ => True) trivial (fun _ _ _ h => h) (fun σ _ => ?_) ?_
    · simp -implicitDefEqProofs
      exact control_spec σ _
    simp -implicitDefEqProofs [actAV, encA, n21, Ne.symm n21]
    exact hq _ _ (by simp [Col.act, actAV, encA]) (fin _ _ _ _ _ hb1 hb2')
  case heads =>
    refine drawP [8, 9] (by kernel_rfl) ?_
    simp -implicitDefEqProofs [hx, h1, n1, n2, n3, n4]
    refine read (i64 (c.head o.next)) (fun _ => True) trivial (fun _ _ _ h => h) (fun σ _ => ?_) ?_
    · simp -implicitDefEqProofs
      exact head_spec σ c hc o.next hn.1 hn.2
    simp -implicitDefEqProofs
    refine read (actAV (some (.load 1 (c.head o.next)))) (fun _ => True) trivial (fun _ _ _ h => h) (fun σ _ => ?_) ?_
    · simp -implicitDefEqProofs
      exact control_spec σ _
    simp -implicitDefEqProofs [actAV, encA, n21, Ne.symm n21]
    exact hq _ _ (by simp [Col.act, actAV, encA]) (fin _ _ _ _ _ hb1 hb2')
  case unlinks =>
    refine drawP [8] (by kernel_rfl) ?_
    simp -implicitDefEqProofs [hx, h1, n1, n2, n3, n4]
    refine read (i64 (c.head o.next)) (fun _ => True) trivial (fun _ _ _ h => h) (fun σ _ => ?_) ?_
    · simp -implicitDefEqProofs
      exact head_spec σ c hc o.next hn.1 hn.2
    simp -implicitDefEqProofs [actAV, encA, n21, Ne.symm n21]
    exact hq _ _ (by simp [Col.act, actAV, encA]) (fin _ _ _ _ _ hb1 hb2')
  case clears =>
    obtain ⟨b, l, hbl⟩ : ∃ b l, o.limbo = b :: l := by
      cases hll : o.limbo with
      | nil => exact absurd hll (hl rfl)
      | cons b l => exact ⟨b, l, rfl⟩
    refine (hov _ (by rw [set_ne n3, set_ne n1]; exact hx) (ho.of_sub (sub_set (sub_set (Sub.refl σ) hb1) hb2')) rfl hl).mono ?_
    rintro r σ' ⟨rfl, rfl⟩
    simp -implicitDefEqProofs [Col.act, hbl, actAV, encA, n21, Ne.symm n21]
    exact hq _ _ (by simp [Col.act, actAV, encA, hbl]) (fin _ _ _ _ _ hb1 hb2')
  all_goals
    refine (hov _ (by rw [set_ne n3, set_ne n1]; exact hx) (ho.of_sub (sub_set (sub_set (Sub.refl σ) hb1) hb2')) rfl (fun h => by cases h)).mono ?_
    rintro r σ' ⟨rfl, rfl⟩
    simp -implicitDefEqProofs [Col.act, actAV, encA, n21, Ne.symm n21]
    exact hq _ _ (by simp [Col.act, actAV, encA]) (fin _ _ _ _ _ hb1 hb2')
end Go.Proofs.YtkbpnnbdfikjhaaGreat

/- Collecting: what an answer does. -/
namespace Go.Proofs.YtkbpnnbdfikjhaaGreat
open Go Go.Aw
set_option linter.unusedVariables false
set_option linter.unusedSimpArgs false
set_option maxRecDepth 10000

abbrev rowO (c : Cfg) (mo : AV) (next : Int) (lx : AV) : List AV := [i64 c.cap, i64 c.pins, i64 c.shelves, i64 c.queue, i64 c.watchers, u c.seed, mo, i64 next, lx]

/-! ### plain -/
def Off.step (c : Cfg) (o : Off) : Off := { o with next := if o.next + 1 = c.shelves then 0 else o.next + 1 }
def Col.next (o : Off) (x : Col) : Col := { x with pin := 0, part := if o.limbo = [] then .unlocks else .again }
def Col.down (c : Cfg) (o : Off) (x : Col) (w : Int) : Col × Off :=
  if w = 0 then (Col.next o { x with at_ := w }, o.step c) else ({ x with at_ := w, part := .ages }, o)
def Col.base (c : Cfg) (o : Off) (x : Col) : Col × Off :=
  if x.at_ = x.head then ({ x with part := .lives }, o) else (Col.next o x, o.step c)
def Col.scan (c : Cfg) (x : Col) (w : Int) : Col :=
  let least := if w = 0 then x.least else min x.least (w - 1)
  if x.pin + 1 = c.pins then { x with least, pin := x.pin + 1, part := .heads } else { x with least, pin := x.pin + 1 }
def Col.rescan (c : Cfg) (x : Col) (w : Int) : Col :=
  if w ≠ 0 then { x with pin := x.pin + 1, part := .unlocks } else if x.pin + 1 = c.pins then { x with pin := x.pin + 1, part := .clears } else { x with pin := x.pin + 1 }

theorem scan_spec (σ : Sto) (xb ob : Nat) (x : Col) (c : Cfg) (hc : c.right = true) (mo lx : AV) (nx w : Int) (hx : σ xb = some (.cells (rowCol ob x))) (ho : σ ob = some (.cells (rowO c mo nx lx)))
    (hp : 0 ≤ x.pin ∧ x.pin < c.pins) (hw : 0 ≤ w ∧ w < 18446744073709551616) (hpt : x.part = .pins) :
    ACalls Tryz.prog 153 [.ptr xb 0, u w] σ (fun r σ' => r = .tuple [] ∧ σ' = σ.set xb (.cells (rowCol ob (x.scan c w)))) := by
  obtain ⟨part, pin, least, head, at_, older, gone⟩ := x
  obtain ⟨h1, h2, -, -, -⟩ := c.bounds hc
  simp only at hp hpt
  subst hpt
  have hne : ob ≠ xb := fun e => by rw [e, hx] at ho; simp at ho
  have hwp : IntKind.i64.wrap (pin + 1) = pin + 1 := wrap_i64 (by omega) (by omega)
  refine ACalls.q fun q hq => fn_of Tab.mixed Tryz.func153 rfl rfl rfl ?_
  by_cases hw0 : w = 0 <;> by_cases hpc : pin + 1 = c.pins
  · simp -implicitDefEqProofs [hx, hw0, hwp]
    refine draw (by kernel_rfl) ?_
    simp -implicitDefEqProofs [ho, hne, hpc, CPart.num]
    exact hq _ _ ⟨rfl, by simp [Col.scan, hw0, hpc, CPart.num, rowCol]⟩
  · simp -implicitDefEqProofs [hx, hw0, hwp]
    refine draw (by kernel_rfl) ?_
    simp -implicitDefEqProofs [ho, hne, hpc, CPart.num]
    exact hq _ _ ⟨rfl, by simp [Col.scan, hw0, hpc, CPart.num, rowCol]⟩
  · have hww : IntKind.u64.wrap (w - 1) = w - 1 := wrap_u64 (by omega) (by omega)
    have hmin : (if w - 1 < least then w - 1 else least) = min least (w - 1) := by omega
    simp -implicitDefEqProofs [hx, hw0, hwp, hww, hmin]
    refine draw (by kernel_rfl) ?_
    simp -implicitDefEqProofs [ho, hne, hpc, CPart.num]
    exact hq _ _ ⟨rfl, by simp [Col.scan, hw0, hpc, CPart.num, rowCol]⟩
  · have hww : IntKind.u64.wrap (w - 1) = w - 1 := wrap_u64 (by omega) (by omega)
    have hmin : (if w - 1 < least then w - 1 else least) = min least (w - 1) := by omega
    simp -implicitDefEqProofs [hx, hw0, hwp, hww, hmin]
    refine draw (by kernel_rfl) ?_
    simp -implicitDefEqProofs [ho, hne, hpc, CPart.num]
    exact hq _ _ ⟨rfl, by simp [Col.scan, hw0, hpc, CPart.num, rowCol]⟩

theorem rescan_spec (σ : Sto) (xb ob : Nat) (x : Col) (c : Cfg) (hc : c.right = true) (mo lx : AV) (nx w : Int) (hx : σ xb = some (.cells (rowCol ob x))) (ho : σ ob = some (.cells (rowO c mo nx lx)))
    (hp : 0 ≤ x.pin ∧ x.pin < c.pins) :
    ACalls Tryz.prog 155 [.ptr xb 0, u w] σ (fun r σ' => r = .tuple [] ∧ σ' = σ.set xb (.cells (rowCol ob (x.rescan c w)))) := by
  obtain ⟨part, pin, least, head, at_, older, gone⟩ := x
  obtain ⟨h1, h2, -, -, -⟩ := c.bounds hc
  simp only at hp
  have hne : ob ≠ xb := fun e => by rw [e, hx] at ho; simp at ho
  have hwp : IntKind.i64.wrap (pin + 1) = pin + 1 := wrap_i64 (by omega) (by omega)
  refine ACalls.q fun q hq => fn_of Tab.mixed Tryz.func155 rfl rfl rfl ?_
  by_cases hw0 : w = 0
  · by_cases hpc : pin + 1 = c.pins
    · simp -implicitDefEqProofs [hx, hw0, hwp]
      refine draw (by kernel_rfl) ?_
      simp -implicitDefEqProofs [ho, hne, hpc, CPart.num]
      exact hq _ _ ⟨rfl, by simp [Col.rescan, hw0, hpc, CPart.num, rowCol]⟩
    · simp -implicitDefEqProofs [hx, hw0, hwp]
      refine draw (by kernel_rfl) ?_
      simp -implicitDefEqProofs [ho, hne, hpc, CPart.num]
      exact hq _ _ ⟨rfl, by simp [Col.rescan, hw0, hpc, CPart.num, rowCol]⟩
  · simp -implicitDefEqProofs [hx, hw0, hwp]
    exact hq _ _ ⟨rfl, by simp [Col.rescan, hw0, CPart.num, rowCol]⟩

theorem colnext_spec (σ : Sto) (xb ob : Nat) (x : Col) (c : Cfg) (hc : c.right = true) (o : Off) (mo lx : AV) (F : List Nat) (hx : σ xb = some (.cells (rowCol ob x))) (ho : OffAt σ ob c o mo lx F)
    (hn : 0 ≤ o.next ∧ o.next < c.shelves) :
    ACalls Tryz.prog 157 [.ptr xb 0] σ (fun r σ' => r = .tuple [] ∧ σ' = (σ.set ob (.cells (rowO c mo (o.step c).next lx))).set xb (.cells (rowCol ob (Col.next o x)))) := by
  obtain ⟨part, pin, least, head, at_, older, gone⟩ := x
  obtain ⟨-, -, h3, -, -⟩ := c.bounds hc
  have h1 := ho.top
  have hne : ob ≠ xb := fun e => by rw [e, hx] at h1; simp at h1
  have hwp : IntKind.i64.wrap (o.next + 1) = o.next + 1 := wrap_i64 (by omega) (by omega)
  have hlen : (o.limbo = [] ∧ lx = .slice .clip []) ∨ ∃ b pre, lx = .mslice b pre o.limbo.length 1 := by
    rcases ho.limbo with ⟨rfl, h2, _⟩ | ⟨b, pre, rfl, _, _⟩
    · exact .inl ⟨h2, rfl⟩
    · exact .inr ⟨b, _, rfl⟩
  by_cases hl : o.limbo = [] <;> by_cases hs : o.next + 1 = c.shelves
  all_goals
    rcases hlen with ⟨hl', rfl⟩ | ⟨b, pre, rfl⟩
    all_goals
      first
      | (exact absurd hl' hl)
      | (refine ACalls.q fun q hq => fn_of Tab.mixed Tryz.func157 rfl rfl rfl ?_
         simp -implicitDefEqProofs [hx, h1, hwp]
         refine draw (by kernel_rfl) ?_
         simp -implicitDefEqProofs [hx, hne, Ne.symm hne, hs, hl, CPart.num]
         exact hq _ _ ⟨rfl, by simp [Col.next, Off.step, hs, hl, CPart.num, rowCol]⟩)

/-- the store behind a step: the office's row, the collector's row -/
def upd (σ : Sto) (ob xb : Nat) (c : Cfg) (mo : AV) (nx : Int) (lx : AV) (x : Col) : Sto := (σ.set ob (.cells (rowO c mo nx lx))).set xb (.cells (rowCol ob x))

theorem set_self {σ : Sto} {b : Nat} {o : AObj} (h : σ b = some o) : σ.set b o = σ := by
  funext y; simp only [Sto.set]; split
  · rename_i e; subst e; exact h.symm
  · rfl

theorem OffAt.nx {σ : Sto} {ob xb : Nat} {c : Cfg} {o : Off} {mo lx : AV} {F : List Nat} {x : Col} (h : OffAt σ ob c o mo lx F) (hx : σ xb = some (.cells (rowCol ob x))) : xb ∉ ob :: F := by
  have h1 := h.top
  intro hm
  rcases List.mem_cons.1 hm with rfl | hm
  · rw [hx] at h1; simp at h1
  · rcases h.limbo with ⟨_, _, rfl⟩ | ⟨b, pre, _, h2, rfl⟩
    · cases hm
    · rw [List.mem_singleton.1 hm] at hx
      rw [hx] at h2
      injection h2 with h2
      injection h2 with h2
      have := congrArg (·[0]?) h2
      simp only [List.getElem?_map] at this
      cases hq : (pre ++ o.limbo)[0]? with
      | none => rw [hq] at this; simp at this
      | some n => rw [hq] at this; simp [u] at this

theorem OffAt.set_x {σ : Sto} {ob xb : Nat} {c : Cfg} {o : Off} {mo lx : AV} {F : List Nat} {x : Col} (h : OffAt σ ob c o mo lx F) (hx : σ xb = some (.cells (rowCol ob x))) (y : AObj) : OffAt (σ.set xb y) ob c o mo lx F :=
  h.sub fun z hz p hp => by rw [set_ne (show z ≠ xb from fun e => h.nx hx (e ▸ hz))]; exact hp

theorem upd_set {σ : Sto} {ob xb : Nat} {c : Cfg} {mo lx : AV} {nx : Int} {x : Col} {y : AObj} (hne : ob ≠ xb) : upd (σ.set xb y) ob xb c mo nx lx x = upd σ ob xb c mo nx lx x := by
  funext z; simp only [upd, Sto.set]; by_cases h1 : z = xb <;> simp [h1]

theorem down_spec (σ : Sto) (xb ob : Nat) (x : Col) (c : Cfg) (hc : c.right = true) (o : Off) (mo lx : AV) (F : List Nat) (w : Int) (hx : σ xb = some (.cells (rowCol ob x))) (ho : OffAt σ ob c o mo lx F)
    (hn : 0 ≤ o.next ∧ o.next < c.shelves) :
    ACalls Tryz.prog 154 [.ptr xb 0, u w] σ (fun r σ' => r = .tuple [] ∧ σ' = upd σ ob xb c mo (x.down c o w).2.next lx (x.down c o w).1) := by
  obtain ⟨part, pin, least, head, at_, older, gone⟩ := x
  have hne : ob ≠ xb := fun e => ho.nx hx (by simp [e])
  refine ACalls.q fun q hq => fn_of Tab.mixed Tryz.func154 rfl rfl rfl ?_
  by_cases hw : w = 0
  · simp -implicitDefEqProofs [hx, hw]
    refine (colnext_spec _ xb ob ⟨.ages, pin, least, head, 0, older, gone⟩ c hc o mo lx F (by simp [Sto.set, CPart.num, rowCol]) (ho.set_x hx _) hn).mono ?_
    rintro r σ' ⟨rfl, rfl⟩
    simp -implicitDefEqProofs
    refine hq _ _ ⟨rfl, ?_⟩
    have := upd_set (σ := σ) (c := c) (mo := mo) (lx := lx) (nx := (o.step c).next) (x := Col.next o ⟨.ages, pin, least, head, 0, older, gone⟩)
      (y := .cells [.ptr ob 0, i64 5, i64 pin, u least, u head, u 0, u older, i64 gone]) hne
    simpa [upd, Col.down, hw, Col.next] using this
  · simp -implicitDefEqProofs [hx, hw]
    refine hq _ _ ⟨rfl, ?_⟩
    have h1 : σ.set ob (.cells (rowO c mo o.next lx)) = σ := set_self ho.top
    simp only [upd, Col.down, hw, if_false, h1]
    rfl

theorem base_spec (σ : Sto) (xb ob : Nat) (x : Col) (c : Cfg) (hc : c.right = true) (o : Off) (mo lx : AV) (F : List Nat) (hx : σ xb = some (.cells (rowCol ob x))) (ho : OffAt σ ob c o mo lx F)
    (hn : 0 ≤ o.next ∧ o.next < c.shelves) :
    ACalls Tryz.prog 152 [.ptr xb 0] σ (fun r σ' => r = .tuple [] ∧ σ' = upd σ ob xb c mo (x.base c o).2.next lx (x.base c o).1) := by
  have hnx := colnext_spec σ xb ob x c hc o mo lx F hx ho hn
  obtain ⟨part, pin, least, head, at_, older, gone⟩ := x
  refine ACalls.q fun q hq => fn_of Tab.mixed Tryz.func152 rfl rfl rfl ?_
  by_cases hw : at_ = head
  · simp -implicitDefEqProofs
    refine draw (by kernel_rfl) ?_
    simp -implicitDefEqProofs [hx, hw]
    refine hq _ _ ⟨rfl, ?_⟩
    have h1 : σ.set ob (.cells (rowO c mo o.next lx)) = σ := set_self ho.top
    simp only [upd, Col.base, hw, if_true, h1]
    rfl
  · simp -implicitDefEqProofs
    refine draw (by kernel_rfl) ?_
    simp -implicitDefEqProofs [hx, hw]
    refine ⟨rfl, _, rfl, wpc_sound Tab.mixed _ _ _ _ ?_⟩
    simp -implicitDefEqProofs
    refine hnx.mono ?_
    rintro r σ' ⟨rfl, rfl⟩
    simp -implicitDefEqProofs
    refine hq _ _ ⟨rfl, ?_⟩
    simp [upd, Col.base, hw]
end Go.Proofs.YtkbpnnbdfikjhaaGreat

/- Collecting: taking an answer. -/
namespace Go.Proofs.YtkbpnnbdfikjhaaGreat
open Go Go.Aw
set_option linter.unusedVariables false
set_option linter.unusedSimpArgs false
set_option maxRecDepth 10000

def Col.take (c : Cfg) (o : Off) (x : Col) (w : Int) : Col × Off := match x.part with
  | .locks => ({ x with part := .epochs }, o)
  | .epochs => ({ x with least := w, part := .pins }, o)
  | .pins => (x.scan c w, o)
  | .heads => Col.down c o { x with head := w } w
  | .ages => ({ x with part := if x.least < w then .passes else .olders }, o)
  | .passes => x.down c o w
  | .again => (x.rescan c w, o)
  | .unlocks => ({ x with part := .done }, o)
  | .olders => if w = 0 then Col.base c o { x with older := w, part := .cuts } else ({ x with older := w, part := .cuts }, o)
  | .cuts => ({ x with part := .nexts }, o)
  | .nexts => ({ x with part := .drops, pin := 0, least := w }, o)
  | .drops => if x.least = 0 then Col.base c o { x with gone := IntKind.i64.wrap (x.gone + 1), older := x.least, part := .nexts }
      else ({ x with gone := IntKind.i64.wrap (x.gone + 1), older := x.least, part := .nexts }, o)
  | .lives => if w = 0 then ({ x with part := .unlinks }, o) else (Col.next o { x with part := .unlinks }, o.step c)
  | .unlinks => (Col.next { o with limbo := o.limbo ++ [x.at_] } x, Off.step c { o with limbo := o.limbo ++ [x.at_] })
  | .clears => ({ x with gone := IntKind.i64.wrap (x.gone + 1), part := if o.limbo.tail = [] then .unlocks else .clears }, { o with limbo := o.limbo.tail })
  | .done => (x, o)

structure ColAt (σ : Sto) (xb ob : Nat) (c : Cfg) (x : Col) (o : Off) (mo lx : AV) (F : List Nat) : Prop where
  row : σ xb = some (.cells (rowCol ob x))
  off : OffAt σ ob c o mo lx F
theorem ColAt.ne {σ : Sto} {xb ob : Nat} {c : Cfg} {x : Col} {o : Off} {mo lx : AV} {F : List Nat} (h : ColAt σ xb ob c x o mo lx F) : ob ≠ xb := fun e => h.off.nx h.row (by simp [e])
theorem ColAt.of_sub {σ σ' : Sto} {xb ob : Nat} {c : Cfg} {x : Col} {o : Off} {mo lx : AV} {F : List Nat} (h : ColAt σ xb ob c x o mo lx F) (hs : Sub σ σ') : ColAt σ' xb ob c x o mo lx F :=
  ⟨hs _ _ h.row, h.off.of_sub hs⟩

theorem step_limbo (c : Cfg) (o : Off) : (o.step c).limbo = o.limbo := rfl
theorem down_limbo (c : Cfg) (o : Off) (x : Col) (w : Int) : (x.down c o w).2.limbo = o.limbo := by simp only [Col.down]; split <;> rfl
theorem base_limbo (c : Cfg) (o : Off) (x : Col) : (x.base c o).2.limbo = o.limbo := by simp only [Col.base]; split <;> rfl

theorem ColAt.upd {σ : Sto} {xb ob : Nat} {c : Cfg} {x x' : Col} {o o' : Off} {mo lx : AV} {F : List Nat} (h : ColAt σ xb ob c x o mo lx F) (hl : o'.limbo = o.limbo) :
    ColAt (upd σ ob xb c mo o'.next lx x') xb ob c x' o' mo lx F ∧ Out (xb :: ob :: F) σ (Proofs.YtkbpnnbdfikjhaaGreat.upd σ ob xb c mo o'.next lx x') := by
  have hn := h.off.nx h.row
  refine ⟨⟨by simp [Proofs.YtkbpnnbdfikjhaaGreat.upd, Sto.set], ⟨by simp [Proofs.YtkbpnnbdfikjhaaGreat.upd, Sto.set, h.ne], ?_, h.off.nf⟩⟩, ?_⟩
  · rw [hl]
    refine h.off.limbo.sub fun y hy p hp => ?_
    have h1 : y ≠ xb := fun e => hn (by rw [← e]; simp [hy])
    have h2 : y ≠ ob := fun e => h.off.nf (e ▸ hy)
    simp [Proofs.YtkbpnnbdfikjhaaGreat.upd, Sto.set, h1, h2, hp]
  · exact (Out.set (by simp)).trans (Out.set (by simp))

/-- what a taking leaves -/
def Taken (σ σ' : Sto) (xb ob : Nat) (c : Cfg) (mo : AV) (F : List Nat) (y : Col × Off) : Prop :=
  ∃ lx' F', ColAt σ' xb ob c y.1 y.2 mo lx' F' ∧ Out (xb :: ob :: F) σ σ' ∧ ∀ z ∈ F', z ∈ F ∨ σ z = none

theorem ColAt.taken {σ σ' : Sto} {xb ob : Nat} {c : Cfg} {x x' : Col} {o o' : Off} {mo lx : AV} {F : List Nat} (h : ColAt σ xb ob c x o mo lx F) (hl : o'.limbo = o.limbo) (hs : Sub σ σ') :
    Taken σ (Proofs.YtkbpnnbdfikjhaaGreat.upd σ' ob xb c mo o'.next lx x') xb ob c mo F (x', o') := by
  obtain ⟨h1, h2⟩ := (h.of_sub hs).upd (x' := x') hl
  exact ⟨lx, F, h1, (Out.of_sub hs).trans h2, fun z hz => .inl hz⟩

/-- only the collector's row is new -/
theorem ColAt.row' {σ : Sto} {xb ob : Nat} {c : Cfg} {x x' : Col} {o : Off} {mo lx : AV} {F : List Nat} (h : ColAt σ xb ob c x o mo lx F) : σ.set xb (.cells (rowCol ob x')) = Proofs.YtkbpnnbdfikjhaaGreat.upd σ ob xb c mo o.next lx x' := by
  have h1 : σ.set ob (.cells (rowO c mo o.next lx)) = σ := set_self h.off.top
  simp only [Proofs.YtkbpnnbdfikjhaaGreat.upd, h1]

theorem takeBase_spec (σ : Sto) (xb ob : Nat) (x : Col) (c : Cfg) (hc : c.right = true) (o : Off) (mo lx : AV) (F : List Nat) (w : Int) (h : ColAt σ xb ob c x o mo lx F)
    (hn : 0 ≤ o.next ∧ o.next < c.shelves)
    (hp : x.part = .olders ∨ x.part = .cuts ∨ x.part = .nexts ∨ x.part = .drops ∨ x.part = .lives) :
    ACalls Tryz.prog 156 [.ptr xb 0, u w] σ (fun r σ' => r = .tuple [] ∧ Taken σ σ' xb ob c mo F (x.take c o w)) := by
  obtain ⟨part, pin, least, head, at_, older, gone⟩ := x
  have hx := h.row
  have hne := h.ne
  have ht := fun (x' : Col) (o' : Off) (hl : o'.limbo = o.limbo) => h.taken (x' := x') hl (Sub.refl σ)
  cases part <;> first | (simp at hp; done) | skip
  case cuts =>
    refine ACalls.q fun q hq => fn_of Tab.mixed Tryz.func156 rfl rfl rfl ?_
    simp -implicitDefEqProofs [hx, CPart.num]
    refine hq _ _ ⟨rfl, ?_⟩
    have := ht ⟨.nexts, pin, least, head, at_, older, gone⟩ o rfl
    rw [← h.row'] at this
    simpa [CPart.num, rowCol, Col.take] using this
  case nexts =>
    refine ACalls.q fun q hq => fn_of Tab.mixed Tryz.func156 rfl rfl rfl ?_
    simp -implicitDefEqProofs [hx, CPart.num]
    refine hq _ _ ⟨rfl, ?_⟩
    have := ht ⟨.drops, 0, w, head, at_, older, gone⟩ o rfl
    rw [← h.row'] at this
    simpa [CPart.num, rowCol, Col.take] using this
  case olders =>
    refine ACalls.q fun q hq => fn_of Tab.mixed Tryz.func156 rfl rfl rfl ?_
    by_cases hw : w = 0
    · simp -implicitDefEqProofs [hx, CPart.num, hw]
      refine (base_spec _ xb ob ⟨.cuts, pin, least, head, at_, 0, gone⟩ c hc o mo lx F (by simp [Sto.set, CPart.num, rowCol]) (h.off.set_x hx _) hn).mono ?_
      rintro r σ' ⟨rfl, rfl⟩
      simp -implicitDefEqProofs
      refine hq _ _ ⟨rfl, ?_⟩
      rw [upd_set hne]
      have := ht (Col.base c o ⟨.cuts, pin, least, head, at_, 0, gone⟩).1 (Col.base c o ⟨.cuts, pin, least, head, at_, 0, gone⟩).2 (base_limbo _ _ _)
      simpa [Col.take, hw] using this
    · simp -implicitDefEqProofs [hx, CPart.num, hw]
      refine hq _ _ ⟨rfl, ?_⟩
      have := ht ⟨.cuts, pin, least, head, at_, w, gone⟩ o rfl
      rw [← h.row'] at this
      simpa [CPart.num, rowCol, Col.take, hw] using this
  case drops =>
    refine ACalls.q fun q hq => fn_of Tab.mixed Tryz.func156 rfl rfl rfl ?_
    by_cases hw : least = 0
    · simp -implicitDefEqProofs [hx, CPart.num, hw]
      refine (base_spec _ xb ob ⟨.nexts, pin, 0, head, at_, 0, IntKind.i64.wrap (gone + 1)⟩ c hc o mo lx F (by simp [Sto.set, CPart.num, rowCol]) (h.off.set_x hx _) hn).mono ?_
      rintro r σ' ⟨rfl, rfl⟩
      simp -implicitDefEqProofs
      refine hq _ _ ⟨rfl, ?_⟩
      rw [upd_set hne]
      have := ht (Col.base c o ⟨.nexts, pin, 0, head, at_, 0, IntKind.i64.wrap (gone + 1)⟩).1 (Col.base c o ⟨.nexts, pin, 0, head, at_, 0, IntKind.i64.wrap (gone + 1)⟩).2 (base_limbo _ _ _)
      simpa [Col.take, hw] using this
    · simp -implicitDefEqProofs [hx, CPart.num, hw]
      refine hq _ _ ⟨rfl, ?_⟩
      have := ht ⟨.nexts, pin, least, head, at_, least, IntKind.i64.wrap (gone + 1)⟩ o rfl
      rw [← h.row'] at this
      simpa [CPart.num, rowCol, Col.take, hw] using this
  case lives =>
    refine ACalls.q fun q hq => fn_of Tab.mixed Tryz.func156 rfl rfl rfl ?_
    by_cases hw : w = 0
    · simp -implicitDefEqProofs [hx, CPart.num, hw]
      refine hq _ _ ⟨rfl, ?_⟩
      have := ht ⟨.unlinks, pin, least, head, at_, older, gone⟩ o rfl
      rw [← h.row'] at this
      simpa [CPart.num, rowCol, Col.take, hw] using this
    · simp -implicitDefEqProofs [hx, CPart.num, hw]
      refine (colnext_spec _ xb ob ⟨.unlinks, pin, least, head, at_, older, gone⟩ c hc o mo lx F (by simp [Sto.set, CPart.num, rowCol]) (h.off.set_x hx _) hn).mono ?_
      rintro r σ' ⟨rfl, rfl⟩
      simp -implicitDefEqProofs
      refine hq _ _ ⟨rfl, ?_⟩
      have h2 := upd_set (σ := σ) (c := c) (mo := mo) (lx := lx) (nx := (o.step c).next) (x := Col.next o ⟨.unlinks, pin, least, head, at_, older, gone⟩)
        (y := .cells [.ptr ob 0, i64 12, i64 pin, u least, u head, u at_, u older, i64 gone]) hne
      simp only [upd] at h2
      rw [h2]
      have := ht (Col.next o ⟨.unlinks, pin, least, head, at_, older, gone⟩) (o.step c) rfl
      simpa [Col.take, hw, upd] using this
end Go.Proofs.YtkbpnnbdfikjhaaGreat

/- Collecting: taking an answer, where the limbo grows or is cut. -/
namespace Go.Proofs.YtkbpnnbdfikjhaaGreat
open Go Go.Aw
set_option linter.unusedVariables false
set_option linter.unusedSimpArgs false
set_option maxRecDepth 10000

theorem unl_fin {σ σa : Sto} {xb ob : Nat} {c : Cfg} {x : Col} {o : Off} {mo lx lx' : AV} {F F' : List Nat} {l : List Int} (h : ColAt σ xb ob c x o mo lx F)
    (hxa : σa xb = some (.cells (rowCol ob x))) (hlim : LimboAt σa lx' l F') (hnf : ob ∉ F') (hout : Out (xb :: ob :: F) σ σa) (hF : ∀ z ∈ F', z ∈ F ∨ σ z = none) (x' : Col) (nx : Int) :
    OffAt (σa.set ob (.cells (rowO c mo o.next lx'))) ob c { o with limbo := l } mo lx' F' ∧ (σa.set ob (.cells (rowO c mo o.next lx'))) xb = some (.cells (rowCol ob x)) ∧
    Taken σ (((σa.set ob (.cells (rowO c mo o.next lx'))).set ob (.cells (rowO c mo nx lx'))).set xb (.cells (rowCol ob x'))) xb ob c mo F (x', ⟨nx, l⟩) := by
  have hne := h.ne
  have hoff : OffAt (σa.set ob (.cells (rowO c mo o.next lx'))) ob c { o with limbo := l } mo lx' F' :=
    ⟨by simp [Sto.set], hlim.sub fun y hy p hp => by rw [set_ne (show y ≠ ob from fun e => hnf (e ▸ hy))]; exact hp, hnf⟩
  have hxr : (σa.set ob (.cells (rowO c mo o.next lx'))) xb = some (.cells (rowCol ob x)) := by rw [set_ne (Ne.symm hne)]; exact hxa
  have hc : ColAt (σa.set ob (.cells (rowO c mo o.next lx'))) xb ob c x { o with limbo := l } mo lx' F' := ⟨hxr, hoff⟩
  obtain ⟨k1, k2⟩ := hc.upd (x' := x') (o' := ⟨nx, l⟩) rfl
  refine ⟨hoff, hxr, lx', F', k1, ?_, hF⟩
  exact ((hout.trans (Out.set (by simp))).trans (Out.set (by simp))).trans (Out.set (by simp))

theorem clr_fin {σ σ' : Sto} {xb ob : Nat} {c : Cfg} {x : Col} {o : Off} {mo lx lx' : AV} {F : List Nat} {l : List Int} (h : ColAt σ xb ob c x o mo lx F) (x' : Col)
    (e1 : σ' xb = some (.cells (rowCol ob x'))) (e2 : σ' ob = some (.cells (rowO c mo o.next lx'))) (e3 : ∀ y, y ≠ xb → y ≠ ob → σ' y = σ y) (hlim : LimboAt σ lx' l F) :
    Taken σ σ' xb ob c mo F (x', { o with limbo := l }) := by
  have hn := h.off.nx h.row
  refine ⟨lx', F, ⟨e1, ⟨e2, hlim.sub fun y hy p hp => ?_, h.off.nf⟩⟩, fun y p hy hp => ?_, fun z hz => .inl hz⟩
  · rw [e3 y (fun e => hn (by rw [← e]; simp [hy])) (fun e => h.off.nf (e ▸ hy))]; exact hp
  · simp only [List.mem_cons, not_or] at hy
    rw [e3 y hy.1 hy.2.1]; exact hp

theorem takeBase2_spec (σ : Sto) (xb ob : Nat) (x : Col) (c : Cfg) (hc : c.right = true) (o : Off) (mo lx : AV) (F : List Nat) (w : Int) (h : ColAt σ xb ob c x o mo lx F)
    (hn : 0 ≤ o.next ∧ o.next < c.shelves) (hsz : o.limbo.length ≤ 1000000)
    (hp : x.part = .unlinks ∨ (x.part = .clears ∧ o.limbo ≠ [])) :
    ACalls Tryz.prog 156 [.ptr xb 0, u w] σ (fun r σ' => r = .tuple [] ∧ Taken σ σ' xb ob c mo F (x.take c o w)) := by
  obtain ⟨part, pin, least, head, at_, older, gone⟩ := x
  have hx := h.row
  have ho := h.off.top
  have hne := h.ne
  have hnx := h.off.nx hx
  cases part <;> first | (simp at hp; done) | skip
  case unlinks =>
    rcases h.off.limbo with ⟨rfl, hl, rfl⟩ | ⟨b, pre, rfl, hb, rfl⟩
    · refine ACalls.q fun q hq => fn_of Tab.mixed Tryz.func156 rfl rfl rfl ?_
      simp -implicitDefEqProofs [hx, CPart.num]
      refine draw (by kernel_rfl) ?_
      simp -implicitDefEqProofs [hx, ho, CPart.num]
      intro b2 hb2
      have nb2 := ne_of hx hb2
      have nob := ne_of ho hb2
      simp -implicitDefEqProofs [aAppendM]
      intro b3 hb3
      have hb3' : (σ.set b2 (.cells [u at_])) b3 = none := hb3
      obtain ⟨n32, hb3''⟩ := none_of_set hb3'
      have nb3 := ne_of hx hb3''
      have nob3 := ne_of ho hb3''
      simp -implicitDefEqProofs [ho, hx, nb2, nob, nb3, nob3]
      have hfin := fun x' nx => unl_fin (σa := (σ.set b2 (.cells [u at_])).set b3 (.cells [u at_])) (lx' := .mslice b3 0 1 1) (F' := [b3]) (l := o.limbo ++ [at_]) h
        (by simp [Sto.set, nb2, nb3, hx]) (.inr ⟨b3, [], by simp [hl], by simp [Sto.set, hl], rfl⟩) (by simp [nob3]) (Out.of_sub (sub_set (sub_set (Sub.refl σ) hb2) hb3'')) (fun z hz => .inr (by rw [List.mem_singleton.1 hz]; exact hb3'')) x' nx
      refine (colnext_spec _ xb ob ⟨.unlinks, pin, least, head, at_, older, gone⟩ c hc { o with limbo := o.limbo ++ [at_] } mo (.mslice b3 0 1 1) [b3] (hfin ⟨.unlinks, pin, least, head, at_, older, gone⟩ 0).2.1 (hfin ⟨.unlinks, pin, least, head, at_, older, gone⟩ 0).1 hn).mono ?_
      rintro r σ' ⟨rfl, rfl⟩
      simp -implicitDefEqProofs
      refine hq _ _ ⟨rfl, ?_⟩
      have := (hfin (Col.next { o with limbo := o.limbo ++ [at_] } ⟨.unlinks, pin, least, head, at_, older, gone⟩) (Off.step c { o with limbo := o.limbo ++ [at_] }).next).2.2
      simpa [Col.take, Off.step] using this
    · have hbx : b ≠ xb := fun e => hnx (by simp [e])
      have hbo : b ≠ ob := fun e => h.off.nf (by simp [e])
      refine ACalls.q fun q hq => fn_of Tab.mixed Tryz.func156 rfl rfl rfl ?_
      simp -implicitDefEqProofs [hx, CPart.num]
      refine draw (by kernel_rfl) ?_
      simp -implicitDefEqProofs [hx, ho, CPart.num]
      intro b2 hb2
      have nb2 := ne_of hx hb2
      have nob := ne_of ho hb2
      have nbb := ne_of hb hb2
      simp -implicitDefEqProofs [aAppendM, nbb, hb]
      refine ⟨by omega, ?_, ?_⟩
      · simp -implicitDefEqProofs [ho, hx, nob, Ne.symm hbo, Ne.symm hbx]
        have hfin := fun x' nx => unl_fin (σa := (σ.set b2 (.cells [u at_])).set b (.cells (pre.map u ++ (o.limbo.map u ++ [u at_])))) (lx' := .mslice b pre.length (o.limbo.length + 1) 1) (F' := [b]) (l := o.limbo ++ [at_]) h
          (by simp [Sto.set, nb2, Ne.symm hbx, hx]) (.inr ⟨b, pre, by simp, by simp [Sto.set], rfl⟩) (by simp [Ne.symm hbo]) ((Out.of_sub (sub_set (Sub.refl σ) hb2)).trans (Out.set (by simp))) (fun z hz => .inl hz) x' nx
        refine (colnext_spec _ xb ob ⟨.unlinks, pin, least, head, at_, older, gone⟩ c hc { o with limbo := o.limbo ++ [at_] } mo (.mslice b pre.length (o.limbo.length + 1) 1) [b] (hfin ⟨.unlinks, pin, least, head, at_, older, gone⟩ 0).2.1 (hfin ⟨.unlinks, pin, least, head, at_, older, gone⟩ 0).1 hn).mono ?_
        rintro r σ' ⟨rfl, rfl⟩
        simp -implicitDefEqProofs
        refine hq _ _ ⟨rfl, ?_⟩
        have := (hfin (Col.next { o with limbo := o.limbo ++ [at_] } ⟨.unlinks, pin, least, head, at_, older, gone⟩) (Off.step c { o with limbo := o.limbo ++ [at_] }).next).2.2
        simpa [Col.take, Off.step] using this
      · intro b3 hb3
        have hb3' : (σ.set b2 (.cells [u at_])) b3 = none := hb3
        obtain ⟨n32, hb3''⟩ := none_of_set hb3'
        have nb3 := ne_of hx hb3''
        have nob3 := ne_of ho hb3''
        simp -implicitDefEqProofs [ho, hx, nob, nob3]
        have hfin := fun x' nx => unl_fin (σa := (σ.set b2 (.cells [u at_])).set b3 (.cells (o.limbo.map u ++ [u at_]))) (lx' := .mslice b3 0 (o.limbo.length + 1) 1) (F' := [b3]) (l := o.limbo ++ [at_]) h
          (by simp [Sto.set, nb2, nb3, hx]) (.inr ⟨b3, [], by simp, by simp [Sto.set], rfl⟩) (by simp [nob3]) (Out.of_sub (sub_set (sub_set (Sub.refl σ) hb2) hb3'')) (fun z hz => .inr (by rw [List.mem_singleton.1 hz]; exact hb3'')) x' nx
        refine (colnext_spec _ xb ob ⟨.unlinks, pin, least, head, at_, older, gone⟩ c hc { o with limbo := o.limbo ++ [at_] } mo (.mslice b3 0 (o.limbo.length + 1) 1) [b3] (hfin ⟨.unlinks, pin, least, head, at_, older, gone⟩ 0).2.1 (hfin ⟨.unlinks, pin, least, head, at_, older, gone⟩ 0).1 hn).mono ?_
        rintro r σ' ⟨rfl, rfl⟩
        simp -implicitDefEqProofs
        refine hq _ _ ⟨rfl, ?_⟩
        have := (hfin (Col.next { o with limbo := o.limbo ++ [at_] } ⟨.unlinks, pin, least, head, at_, older, gone⟩) (Off.step c { o with limbo := o.limbo ++ [at_] }).next).2.2
        simpa [Col.take, Off.step] using this
  case clears =>
    obtain ⟨d, l, hl⟩ : ∃ d l, o.limbo = d :: l := by
      cases hll : o.limbo with
      | nil => simp [hll] at hp
      | cons d l => exact ⟨d, l, rfl⟩
    rcases h.off.limbo with ⟨_, hl', _⟩ | ⟨b, pre, rfl, hb, rfl⟩
    · rw [hl] at hl'; cases hl'
    · have hbx : b ≠ xb := fun e => hnx (by simp [e])
      have hbo : b ≠ ob := fun e => h.off.nf (by simp [e])
      rw [hl] at ho
      simp only [List.length_cons] at ho
      by_cases hl0 : l = []
      · refine ACalls.q fun q hq => fn_of Tab.mixed Tryz.func156 rfl rfl rfl ?_
        simp -implicitDefEqProofs [hx, CPart.num]
        refine draw (by kernel_rfl) ?_
        simp -implicitDefEqProofs [hx, ho, hne, Ne.symm hne, hl0, CPart.num]
        refine hq _ _ ⟨rfl, ?_⟩
        have ht : Col.take c o ⟨.clears, pin, least, head, at_, older, gone⟩ w = (⟨.unlocks, pin, least, head, at_, older, IntKind.i64.wrap (gone + 1)⟩, { o with limbo := [] }) := by
          simp [Col.take, hl, hl0]
        rw [ht]
        refine clr_fin (lx' := .mslice b (pre.length + 1) 0 1) h _ ?_ ?_ (fun y h1 h2 => by simp [Sto.set, h1, h2]) (.inr ⟨b, pre ++ [d], by simp, by rw [hb, hl, hl0]; simp, rfl⟩)
        · simp [Sto.set, rowCol, CPart.num]
        · simp [Sto.set, hne, Ne.symm hne]
      · refine ACalls.q fun q hq => fn_of Tab.mixed Tryz.func156 rfl rfl rfl ?_
        simp -implicitDefEqProofs [hx, CPart.num]
        refine draw (by kernel_rfl) ?_
        simp -implicitDefEqProofs [hx, ho, hne, Ne.symm hne, hl0, CPart.num]
        refine ⟨by omega, hq _ _ ⟨rfl, ?_⟩⟩
        have ht : Col.take c o ⟨.clears, pin, least, head, at_, older, gone⟩ w = (⟨.clears, pin, least, head, at_, older, IntKind.i64.wrap (gone + 1)⟩, { o with limbo := l }) := by
          simp [Col.take, hl, hl0]
        rw [ht]
        refine clr_fin (lx' := .mslice b (pre.length + 1) l.length 1) h _ ?_ ?_ (fun y h1 h2 => by simp [Sto.set, h1, h2]) (.inr ⟨b, pre ++ [d], by simp, by rw [hb, hl]; simp, rfl⟩)
        · simp [Sto.set, rowCol, CPart.num, hne, Ne.symm hne]
        · simp [Sto.set]
end Go.Proofs.YtkbpnnbdfikjhaaGreat

/- Collecting: taking an answer, all parts. -/
namespace Go.Proofs.YtkbpnnbdfikjhaaGreat
open Go Go.Aw
set_option linter.unusedVariables false
set_option linter.unusedSimpArgs false
set_option maxRecDepth 10000

abbrev rowG (w : Int) (t : ByteArray) : List AV := [u w, str t]

theorem Taken.of_sub {σ σ1 σ' : Sto} {xb ob : Nat} {c : Cfg} {mo : AV} {F : List Nat} {y : Col × Off} (hs : Sub σ σ1) (h : Taken σ1 σ' xb ob c mo F y) : Taken σ σ' xb ob c mo F y := by
  obtain ⟨lx', F', h1, h2, h3⟩ := h
  refine ⟨lx', F', h1, (Out.of_sub hs).trans h2, fun z hz => (h3 z hz).imp id fun hn => ?_⟩
  cases hσ : σ z with
  | none => rfl
  | some o => rw [hs z o hσ] at hn; cases hn

theorem coltake_spec (σ : Sto) (xb ob : Nat) (x : Col) (c : Cfg) (hc : c.right = true) (o : Off) (mo lx : AV) (F : List Nat) (w : Int) (t : ByteArray) (h : ColAt σ xb ob c x o mo lx F)
    (hn : 0 ≤ o.next ∧ o.next < c.shelves) (hsz : o.limbo.length ≤ 1000000) (hw : 0 ≤ w ∧ w < 18446744073709551616)
    (hp : x.part = .pins ∨ x.part = .again → 0 ≤ x.pin ∧ x.pin < c.pins) (hl : x.part = .clears → o.limbo ≠ []) (hd : x.part ≠ .done) :
    ACalls Tryz.prog 151 [.ptr xb 0, .agg (rowG w t)] σ (fun r σ' => r = .tuple [] ∧ Taken σ σ' xb ob c mo F (x.take c o w)) := by
  have htb := fun σ (h : ColAt σ xb ob c x o mo lx F) => takeBase_spec σ xb ob x c hc o mo lx F w h hn
  have htb2 := fun σ (h : ColAt σ xb ob c x o mo lx F) => takeBase2_spec σ xb ob x c hc o mo lx F w h hn hsz
  have hsc := fun σ (h : ColAt σ xb ob c x o mo lx F) => scan_spec σ xb ob x c hc mo lx o.next w h.row h.off.top
  have hrs := fun σ (h : ColAt σ xb ob c x o mo lx F) => rescan_spec σ xb ob x c hc mo lx o.next w h.row h.off.top
  have hdn := fun σ (h : ColAt σ xb ob c x o mo lx F) => down_spec σ xb ob x c hc o mo lx F w h.row h.off hn
  obtain ⟨part, pin, least, head, at_, older, gone⟩ := x
  have hx := h.row
  cases part <;> first | (simp at hd; done) | skip
  all_goals
    refine ACalls.q fun q hq => fn_of Tab.mixed Tryz.func151 rfl rfl rfl ?_
    simp -implicitDefEqProofs
    refine alloc fun b1 hb1 => ?_
    have n1 := ne_of hx hb1
    have hs1 : Sub σ (σ.set b1 (.cells (rowG w t))) := sub_set (Sub.refl σ) hb1
    have h1 := h.of_sub hs1
    simp -implicitDefEqProofs [hx, n1, Ne.symm n1, CPart.num]
    have hg : (σ.set b1 (.cells (rowG w t))) b1 = some (.cells (rowG w t)) := by simp [Sto.set]
    generalize σ.set b1 (.cells (rowG w t)) = σ1 at h1 hs1 hg ⊢
  case locks =>
    refine hq _ _ ⟨rfl, ?_⟩
    have ht := (h1.taken (x' := ⟨.epochs, pin, least, head, at_, older, gone⟩) (o' := o) rfl (Sub.refl σ1)).of_sub hs1
    rw [← h1.row'] at ht
    simpa [CPart.num, rowCol, Col.take] using ht
  case epochs =>
    refine hq _ _ ⟨rfl, ?_⟩
    have ht := (h1.taken (x' := ⟨.pins, pin, w, head, at_, older, gone⟩) (o' := o) rfl (Sub.refl σ1)).of_sub hs1
    rw [← h1.row'] at ht
    simpa [CPart.num, rowCol, Col.take] using ht
  case unlocks =>
    refine hq _ _ ⟨rfl, ?_⟩
    have ht := (h1.taken (x' := ⟨.done, pin, least, head, at_, older, gone⟩) (o' := o) rfl (Sub.refl σ1)).of_sub hs1
    rw [← h1.row'] at ht
    simpa [CPart.num, rowCol, Col.take] using ht
  case pins =>
    refine (hsc σ1 h1 (hp (.inl rfl)) hw rfl).mono ?_
    rintro r σ' ⟨rfl, rfl⟩
    simp -implicitDefEqProofs
    refine hq _ _ ⟨rfl, ?_⟩
    have ht := (h1.taken (x' := Col.scan c ⟨.pins, pin, least, head, at_, older, gone⟩ w) (o' := o) rfl (Sub.refl σ1)).of_sub hs1
    rw [← h1.row'] at ht
    simpa [CPart.num, rowCol, Col.take] using ht
  case again =>
    refine (hrs σ1 h1 (hp (.inr rfl))).mono ?_
    rintro r σ' ⟨rfl, rfl⟩
    simp -implicitDefEqProofs
    refine hq _ _ ⟨rfl, ?_⟩
    have ht := (h1.taken (x' := Col.rescan c ⟨.again, pin, least, head, at_, older, gone⟩ w) (o' := o) rfl (Sub.refl σ1)).of_sub hs1
    rw [← h1.row'] at ht
    simpa [CPart.num, rowCol, Col.take] using ht
  case passes =>
    refine (hdn σ1 h1).mono ?_
    rintro r σ' ⟨rfl, rfl⟩
    simp -implicitDefEqProofs
    refine hq _ _ ⟨rfl, ?_⟩
    exact (h1.taken (o' := (Col.down c o ⟨.passes, pin, least, head, at_, older, gone⟩ w).2) (down_limbo _ _ _ _) (Sub.refl σ1)).of_sub hs1
  case heads =>
    have hx1 := h1.row
    refine (down_spec _ xb ob ⟨.heads, pin, least, w, at_, older, gone⟩ c hc o mo lx F w (by simp [Sto.set, CPart.num, rowCol]) (h1.off.set_x hx1 _) hn).mono ?_
    rintro r σ' ⟨rfl, rfl⟩
    simp -implicitDefEqProofs
    refine hq _ _ ⟨rfl, ?_⟩
    rw [upd_set h1.ne]
    exact (h1.taken (o' := (Col.down c o ⟨.heads, pin, least, w, at_, older, gone⟩ w).2) (down_limbo _ _ _ _) (Sub.refl σ1)).of_sub hs1
  case ages =>
    have n1' : b1 ≠ xb := Ne.symm n1
    refine draw (by kernel_rfl) ?_
    by_cases hlt : least < w
    · simp -implicitDefEqProofs [hg, n1', hlt]
      refine hq _ _ ⟨rfl, ?_⟩
      have ht := (h1.taken (x' := ⟨.passes, pin, least, head, at_, older, gone⟩) (o' := o) rfl (Sub.refl σ1)).of_sub hs1
      rw [← h1.row'] at ht
      simpa [CPart.num, rowCol, Col.take, hlt] using ht
    · simp -implicitDefEqProofs [hg, n1', hlt]
      refine hq _ _ ⟨rfl, ?_⟩
      have ht := (h1.taken (x' := ⟨.olders, pin, least, head, at_, older, gone⟩) (o' := o) rfl (Sub.refl σ1)).of_sub hs1
      rw [← h1.row'] at ht
      simpa [CPart.num, rowCol, Col.take, hlt] using ht
  case unlinks =>
    refine (htb2 σ1 h1 (.inl rfl)).mono ?_
    rintro r σ' ⟨rfl, ht⟩
    simp -implicitDefEqProofs
    exact hq _ _ ⟨rfl, ht.of_sub hs1⟩
  case clears =>
    refine (htb2 σ1 h1 (.inr ⟨rfl, hl rfl⟩)).mono ?_
    rintro r σ' ⟨rfl, ht⟩
    simp -implicitDefEqProofs
    exact hq _ _ ⟨rfl, ht.of_sub hs1⟩
  all_goals
    refine (htb σ1 h1 (by simp)).mono ?_
    rintro r σ' ⟨rfl, ht⟩
    simp -implicitDefEqProofs
    exact hq _ _ ⟨rfl, ht.of_sub hs1⟩
end Go.Proofs.YtkbpnnbdfikjhaaGreat

/- Collecting: made, told. -/
namespace Go.Proofs.YtkbpnnbdfikjhaaGreat
open Go Go.Aw
set_option linter.unusedVariables false
set_option linter.unusedSimpArgs false
set_option maxRecDepth 10000

/-- what a call came to -/
abbrev rowT (code : Int) (pairs : AV) (mark : Int) : List AV := [i64 code, i64 0, i64 0, boo false, str ⟨#[]⟩, pairs, i64 0, .slice .clip [], i64 mark, u 0]

def Col.new : Col := ⟨.locks, 0, 0, 0, 0, 0, 0⟩

theorem colnew_spec (σ : Sto) (ob : Nat) (c : Cfg) (hc : c.right = true) (o : Off) (mo lx : AV) (F : List Nat) (h : OffAt σ ob c o mo lx F) :
    ACalls Tryz.prog 12 [.ptr ob 0] σ (fun r σ' => ∃ xb, r = .ptr xb 0 ∧ σ xb = none ∧ ColAt σ' xb ob c Col.new o mo lx F ∧ Sub σ σ') := by
  have ho := h.top
  refine ACalls.q fun q hq => fn_of Tab.mixed Tryz.func12 rfl rfl rfl ?_
  simp -implicitDefEqProofs [ho]
  refine (cright_spec _ c).mono ?_
  rintro r σ' ⟨rfl, rfl⟩
  simp -implicitDefEqProofs [hc]
  refine alloc fun xb hxb => ?_
  simp -implicitDefEqProofs
  have hs := sub_set' (o := .cells (rowCol ob Col.new)) (Sub.refl _) hxb
  exact hq _ _ ⟨xb, rfl, hxb, ⟨by simp [Sto.set, Col.new, CPart.num, rowCol], h.of_sub hs⟩, hs⟩

theorem colresult_spec (σ : Sto) (xb ob : Nat) (x : Col) (hx : σ xb = some (.cells (rowCol ob x))) (hp : x.part = .done) :
    ACalls Tryz.prog 22 [.ptr xb 0] σ (fun r σ' => r = .tuple [.agg (rowT 0 (.slice .clip []) 1), boo true] ∧ σ' = σ) := by
  obtain ⟨part, pin, least, head, at_, older, gone⟩ := x
  simp only at hp; subst hp
  refine ACalls.ro fun q hq => fn_of Tab.mixed Tryz.func22 rfl rfl rfl ?_
  simp -implicitDefEqProofs
  refine alloc fun b1 hb1 => ?_
  have n1 := ne_of hx hb1
  simp -implicitDefEqProofs [hx, n1, CPart.num]
  refine hq _ _ rfl ?_
  repeat first | exact Sub.refl _ | refine sub_set ?_ hb1

theorem colgone_spec (σ : Sto) (xb ob : Nat) (x : Col) (hx : σ xb = some (.cells (rowCol ob x))) :
    ACalls Tryz.prog 24 [.ptr xb 0] σ (fun r σ' => r = i64 x.gone ∧ σ' = σ) := by
  refine ACalls.ro fun q hq => fn_of Tab.mixed Tryz.func24 rfl rfl rfl ?_
  simp -implicitDefEqProofs [hx]
  exact hq _ _ rfl (Sub.refl σ)
end Go.Proofs.YtkbpnnbdfikjhaaGreat
