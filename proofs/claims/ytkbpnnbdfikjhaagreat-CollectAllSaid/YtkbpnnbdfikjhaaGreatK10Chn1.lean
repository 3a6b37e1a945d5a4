/- Reading a chain. -/
import Derived.Test.YtkbpnnbdfikjhaaGreatK09Col1
import Derived.Test.YtkbpnnbdfikjhaaGreatK08Heap1
namespace Go.Proofs.YtkbpnnbdfikjhaaGreat
open Go Go.Aw
set_option linter.unusedVariables false
set_option linter.unusedSimpArgs false
set_option maxRecDepth 10000

/-- what is left of the store is told; the rest is forgotten -/
theorem ACalls.to {f : FuncId} {args : List AV} {σ τ : Sto} {p : AV → Prop} (h : ∀ q : AV → Sto → Prop, (∀ r σ', p r → Sub τ σ' → q r σ') → ACalls Tryz.prog f args σ q) :
    ACalls Tryz.prog f args σ (fun r σ' => p r ∧ σ' = τ) :=
  ACalls.drop (h _ fun r σ' hp hs => ⟨τ, hs, hp, rfl⟩)

inductive VPart where
  | head | epoch | next | live | text | done
  deriving DecidableEq
def VPart.num : VPart → Int
  | .head => 1 | .epoch => 2 | .next => 3 | .live => 4 | .text => 5 | .done => 6
structure Chn where
  cell : Int
  epoch : Int
  block : Int
  part : VPart
  has : Bool
  text : ByteArray
  vblock : Int
  passed : Int
abbrev rowV (x : Chn) : List AV := [i64 x.cell, u x.epoch, u x.block, i64 x.part.num, boo x.has, str x.text, u x.vblock, i64 x.passed]

def Chn.act (x : Chn) : Option A := match x.part with
  | .head => some (.load 1 x.cell)
  | .epoch => some (.load x.block 0)
  | .next => some (.load x.block 1)
  | .live => some (.load x.block 2)
  | .text => some (.words x.block)
  | .done => none
def Chn.fin (x : Chn) (h : Bool) (s : ByteArray) : Chn := { x with has := h, text := s, vblock := x.block, part := .done }
def Chn.take (x : Chn) (w : Int) (t : ByteArray) : Chn := match x.part with
  | .head => if w = 0 then Chn.fin { x with block := w } false ⟨#[]⟩ else { x with block := w, part := .epoch }
  | .next => if w = 0 then Chn.fin { x with block := w, passed := IntKind.i64.wrap (x.passed + 1) } false ⟨#[]⟩ else { x with block := w, part := .epoch, passed := IntKind.i64.wrap (x.passed + 1) }
  | .epoch => if x.epoch < w then { x with part := .next } else { x with part := .live }
  | .live => if w = 0 then x.fin false ⟨#[]⟩ else { x with part := .text }
  | .text => x.fin true t
  | .done => x
def Chn.new (c : Cfg) (s e : Int) : Chn := ⟨c.head s, e, 0, .head, false, ⟨#[]⟩, 0, 0⟩

theorem chnnew_spec (σ : Sto) (c : Cfg) (hc : c.right = true) (s e : Int) (h0 : 0 ≤ s) (hs : s < c.shelves) :
    ACalls Tryz.prog 111 [.agg (rowC c), i64 s, u e] σ (fun r σ' => ∃ b, r = .ptr b 0 ∧ σ b = none ∧ σ' b = some (.cells (rowV (Chn.new c s e))) ∧ Sub σ σ') := by
  obtain ⟨h1, h2, h3, h4, h5⟩ := c.bounds hc
  refine ACalls.q fun q hq => fn_of Tab.mixed Tryz.func111 rfl rfl rfl ?_
  simp -implicitDefEqProofs
  refine alloc fun b1 hb1 => ?_
  simp -implicitDefEqProofs
  refine (head_spec _ c hc s h0 hs).mono ?_
  rintro r σ' ⟨rfl, rfl⟩
  simp -implicitDefEqProofs
  refine alloc fun b2 hb2 => ?_
  obtain ⟨n21, hb2'⟩ := none_of_set hb2
  simp -implicitDefEqProofs [show (0 : Int) ≤ c.head s by simp only [Cfg.head]; omega]
  refine hq _ _ ⟨b2, rfl, hb2', by simp [Sto.set, Chn.new, VPart.num, rowV], ?_⟩
  repeat first | exact Sub.refl _ | refine sub_set ?_ hb1 | refine sub_set ?_ hb2'

theorem rl_set2 {s : Nat} {st : List Nat} {b : Nat} {σ : Sto} {o o' : AObj} : Rl (s :: st) b (σ.set b o) (σ.set b o') := by
  have := rl_set (s := s) (st := st) (b := b) (σ := σ.set b o) (o := o')
  rwa [set_set] at this

theorem chnact_spec (σ : Sto) (b : Nat) (x : Chn) (hx : σ b = some (.cells (rowV x))) :
    ACalls Tryz.prog 107 [.ptr b 0] σ (fun r σ' => r = actAV x.act ∧ σ' = σ) := by
  obtain ⟨cell, epoch, block, part, has, text, vblock, passed⟩ := x
  cases part <;>
  (refine ACalls.ro fun q hq => fn_of Tab.mixed Tryz.func107 rfl rfl rfl ?_
   simp -implicitDefEqProofs
   refine alloc fun b1 hb1 => ?_
   have n1 := ne_of hx hb1
   simp -implicitDefEqProofs [hx, n1]
   refine alloc fun b2 hb2 => ?_
   obtain ⟨n21, hb2'⟩ := none_of_set hb2
   have n2 := ne_of hx hb2'
   simp -implicitDefEqProofs [hx, n1, n2, n21, Ne.symm n21, VPart.num]
   try
     refine drawW [3] [5] b2 [0,1,2,3,4,5,6,7] (by kernel_rfl) ?_
     simp -implicitDefEqProofs [hx, n1, n2, n21, Ne.symm n21, VPart.num]
     refine readB (i64 cell) b _ (by exact n2) (by rw [set_ne n2, set_ne n1]; exact hx) (fun σ l h => by simp -implicitDefEqProofs [h]) ?_
     simp -implicitDefEqProofs [hx, n1, n2, n21, Ne.symm n21, VPart.num]
     refine ⟨?_, rl_set2⟩
   refine hq _ _ (by simp [Chn.act, actAV, encA]) ?_
   repeat first | exact Sub.refl _ | refine sub_set ?_ hb1 | refine sub_set ?_ hb2')

theorem chnend_spec (σ : Sto) (b : Nat) (x : Chn) (hx : σ b = some (.cells (rowV x))) (h : Bool) (s : ByteArray) :
    ACalls Tryz.prog 118 [.ptr b 0, boo h, str s] σ (fun r σ' => r = .tuple [] ∧ σ' = σ.set b (.cells (rowV (x.fin h s)))) := by
  obtain ⟨cell, epoch, block, part, has, text, vblock, passed⟩ := x
  refine ACalls.q fun q hq => fn_of Tab.mixed Tryz.func118 rfl rfl rfl ?_
  simp -implicitDefEqProofs [hx]
  exact hq _ _ ⟨rfl, by simp [Chn.fin, VPart.num, rowV]⟩

theorem chnresult_spec (σ : Sto) (b : Nat) (x : Chn) (hx : σ b = some (.cells (rowV x))) :
    ACalls Tryz.prog 119 [.ptr b 0] σ (fun r σ' => r = (if x.part = .done then .tuple [.agg [boo x.has, str x.text, u x.vblock], boo true] else .tuple [.agg [boo false, str ⟨#[]⟩, u 0], boo false]) ∧ σ' = σ) := by
  obtain ⟨cell, epoch, block, part, has, text, vblock, passed⟩ := x
  cases part <;>
  (refine ACalls.ro fun q hq => fn_of Tab.mixed Tryz.func119 rfl rfl rfl ?_
   simp -implicitDefEqProofs
   refine alloc fun b1 hb1 => ?_
   have n1 := ne_of hx hb1
   simp -implicitDefEqProofs [hx, n1, VPart.num]
   refine hq _ _ (by simp) ?_
   repeat first | exact Sub.refl _ | refine sub_set ?_ hb1)

theorem chntake_spec (σ : Sto) (b : Nat) (x : Chn) (hx : σ b = some (.cells (rowV x))) (w : Int) (t : ByteArray) (hd : x.part ≠ .done) :
    ACalls Tryz.prog 112 [.ptr b 0, .agg (rowG w t)] σ (fun r σ' => r = .tuple [] ∧ σ' = σ.set b (.cells (rowV (x.take w t)))) := by
  have hend := fun σ (y : Chn) (hy : σ b = some (.cells (rowV y))) h s => chnend_spec σ b y hy h s
  obtain ⟨cell, epoch, block, part, has, text, vblock, passed⟩ := x
  have hsub : ∀ (b1 : Nat) (o1 o2 : AObj), σ b1 = none → b ≠ b1 → Sub (σ.set b o2) ((σ.set b1 o1).set b o2) := fun b1 o1 o2 h1 n1 y p hy => by
    simp only [Sto.set] at hy ⊢
    by_cases hyb : y = b
    · simpa [hyb] using hy
    · simp only [hyb, if_false] at hy ⊢
      rw [if_neg (ne_of hy h1)]; exact hy
  cases part <;> first | (simp at hd; done) | skip
  case head =>
    by_cases hw : w = 0
    · refine ACalls.to fun q hq => fn_of Tab.mixed Tryz.func112 rfl rfl rfl ?_
      simp -implicitDefEqProofs
      refine alloc fun b1 hb1 => ?_
      have n1 := ne_of hx hb1
      simp -implicitDefEqProofs [hx, n1, Ne.symm n1, VPart.num, hw]
      refine (hend _ ⟨cell, epoch, 0, .epoch, has, text, vblock, passed⟩ (by simp [Sto.set, VPart.num, rowV]) false ⟨#[]⟩).mono ?_
      rintro r σ' ⟨rfl, rfl⟩
      simp -implicitDefEqProofs
      refine hq _ _ rfl ?_
      rw [show Chn.take ⟨cell, epoch, block, .head, has, text, vblock, passed⟩ w t = Chn.fin ⟨cell, epoch, 0, .epoch, has, text, vblock, passed⟩ false ⟨#[]⟩ from by simp [Chn.take, hw, Chn.fin]]
      exact hsub _ _ _ hb1 n1
    · refine ACalls.to fun q hq => fn_of Tab.mixed Tryz.func112 rfl rfl rfl ?_
      simp -implicitDefEqProofs
      refine alloc fun b1 hb1 => ?_
      have n1 := ne_of hx hb1
      simp -implicitDefEqProofs [hx, n1, Ne.symm n1, VPart.num, hw]
      refine hq _ _ rfl ?_
      rw [show Chn.take ⟨cell, epoch, block, .head, has, text, vblock, passed⟩ w t = ⟨cell, epoch, w, .epoch, has, text, vblock, passed⟩ from by simp [Chn.take, hw]]
      exact hsub _ _ _ hb1 n1
  case next =>
    by_cases hw : w = 0
    · refine ACalls.to fun q hq => fn_of Tab.mixed Tryz.func112 rfl rfl rfl ?_
      simp -implicitDefEqProofs
      refine alloc fun b1 hb1 => ?_
      have n1 := ne_of hx hb1
      simp -implicitDefEqProofs [hx, n1, Ne.symm n1, VPart.num, hw]
      refine (hend _ ⟨cell, epoch, 0, .epoch, has, text, vblock, IntKind.i64.wrap (passed + 1)⟩ (by simp [Sto.set, VPart.num, rowV]) false ⟨#[]⟩).mono ?_
      rintro r σ' ⟨rfl, rfl⟩
      simp -implicitDefEqProofs
      refine hq _ _ rfl ?_
      rw [show Chn.take ⟨cell, epoch, block, .next, has, text, vblock, passed⟩ w t = Chn.fin ⟨cell, epoch, 0, .epoch, has, text, vblock, IntKind.i64.wrap (passed + 1)⟩ false ⟨#[]⟩ from by simp [Chn.take, hw, Chn.fin]]
      exact hsub _ _ _ hb1 n1
    · refine ACalls.to fun q hq => fn_of Tab.mixed Tryz.func112 rfl rfl rfl ?_
      simp -implicitDefEqProofs
      refine alloc fun b1 hb1 => ?_
      have n1 := ne_of hx hb1
      simp -implicitDefEqProofs [hx, n1, Ne.symm n1, VPart.num, hw]
      refine hq _ _ rfl ?_
      rw [show Chn.take ⟨cell, epoch, block, .next, has, text, vblock, passed⟩ w t = ⟨cell, epoch, w, .epoch, has, text, vblock, IntKind.i64.wrap (passed + 1)⟩ from by simp [Chn.take, hw]]
      exact hsub _ _ _ hb1 n1
  case epoch =>
    by_cases he : epoch < w
    · refine ACalls.to fun q hq => fn_of Tab.mixed Tryz.func112 rfl rfl rfl ?_
      simp -implicitDefEqProofs
      refine alloc fun b1 hb1 => ?_
      have n1 := ne_of hx hb1
      simp -implicitDefEqProofs [hx, n1, Ne.symm n1, VPart.num]
      refine draw (by kernel_rfl) ?_
      simp -implicitDefEqProofs [hx, n1, Ne.symm n1, VPart.num, he]
      refine hq _ _ rfl ?_
      rw [show Chn.take ⟨cell, epoch, block, .epoch, has, text, vblock, passed⟩ w t = ⟨cell, epoch, block, .next, has, text, vblock, passed⟩ from by simp [Chn.take, he]]
      exact hsub _ _ _ hb1 n1
    · refine ACalls.to fun q hq => fn_of Tab.mixed Tryz.func112 rfl rfl rfl ?_
      simp -implicitDefEqProofs
      refine alloc fun b1 hb1 => ?_
      have n1 := ne_of hx hb1
      simp -implicitDefEqProofs [hx, n1, Ne.symm n1, VPart.num]
      refine draw (by kernel_rfl) ?_
      simp -implicitDefEqProofs [hx, n1, Ne.symm n1, VPart.num, he]
      refine hq _ _ rfl ?_
      rw [show Chn.take ⟨cell, epoch, block, .epoch, has, text, vblock, passed⟩ w t = ⟨cell, epoch, block, .live, has, text, vblock, passed⟩ from by simp [Chn.take, he]]
      exact hsub _ _ _ hb1 n1
  case live =>
    by_cases hw : w = 0
    · refine ACalls.to fun q hq => fn_of Tab.mixed Tryz.func112 rfl rfl rfl ?_
      simp -implicitDefEqProofs
      refine alloc fun b1 hb1 => ?_
      have n1 := ne_of hx hb1
      simp -implicitDefEqProofs [hx, n1, Ne.symm n1, VPart.num, hw]
      refine (hend _ ⟨cell, epoch, block, .text, has, text, vblock, passed⟩ (by simp [Sto.set, VPart.num, rowV]) false ⟨#[]⟩).mono ?_
      rintro r σ' ⟨rfl, rfl⟩
      simp -implicitDefEqProofs
      refine hq _ _ rfl ?_
      rw [show Chn.take ⟨cell, epoch, block, .live, has, text, vblock, passed⟩ w t = Chn.fin ⟨cell, epoch, block, .text, has, text, vblock, passed⟩ false ⟨#[]⟩ from by simp [Chn.take, hw, Chn.fin]]
      exact hsub _ _ _ hb1 n1
    · refine ACalls.to fun q hq => fn_of Tab.mixed Tryz.func112 rfl rfl rfl ?_
      simp -implicitDefEqProofs
      refine alloc fun b1 hb1 => ?_
      have n1 := ne_of hx hb1
      simp -implicitDefEqProofs [hx, n1, Ne.symm n1, VPart.num, hw]
      refine hq _ _ rfl ?_
      rw [show Chn.take ⟨cell, epoch, block, .live, has, text, vblock, passed⟩ w t = ⟨cell, epoch, block, .text, has, text, vblock, passed⟩ from by simp [Chn.take, hw]]
      exact hsub _ _ _ hb1 n1
  case text =>
    refine ACalls.to fun q hq => fn_of Tab.mixed Tryz.func112 rfl rfl rfl ?_
    simp -implicitDefEqProofs
    refine alloc fun b1 hb1 => ?_
    have n1 := ne_of hx hb1
    simp -implicitDefEqProofs [hx, n1, Ne.symm n1, VPart.num]
    refine (hend _ ⟨cell, epoch, block, .text, has, text, vblock, passed⟩ (by rw [set_ne n1]; exact hx) true t).mono ?_
    rintro r σ' ⟨rfl, rfl⟩
    simp -implicitDefEqProofs
    refine hq _ _ rfl ?_
    exact hsub _ _ _ hb1 n1
end Go.Proofs.YtkbpnnbdfikjhaaGreat

/- Pinning an epoch: where nobody has a pin. -/
namespace Go.Proofs.YtkbpnnbdfikjhaaGreat
open Go Go.Aw
set_option linter.unusedVariables false
set_option linter.unusedSimpArgs false
set_option maxRecDepth 10000

inductive PPart where
  | looks | tries | checks | done
  deriving DecidableEq
def PPart.num : PPart → Int
  | .looks => 1 | .tries => 2 | .checks => 3 | .done => 5
structure Pn where
  first : Int
  part : PPart
  pin : Int
  epoch : Int
abbrev rowP (c : Cfg) (x : Pn) : List AV := [i64 c.cap, i64 c.pins, i64 c.shelves, i64 c.queue, i64 c.watchers, u c.seed, i64 x.first, i64 0, i64 x.part.num, i64 x.pin, u x.epoch, boo false]

def Pn.act (c : Cfg) (x : Pn) : Option A := match x.part with
  | .looks | .checks => some (.load 1 0)
  | .tries => some (.swap 1 (c.pin x.first) (x.epoch + 1))
  | .done => none
def Pn.take (x : Pn) (w : Int) : Pn := match x.part with
  | .looks => { x with epoch := w, part := .tries }
  | .tries => { x with part := .checks }
  | .checks => { x with pin := x.first, part := .done }
  | .done => x
def Pn.new (c : Cfg) (t : Int) : Pn := ⟨t.tmod c.pins, .looks, 0, 0⟩

theorem pnnew_spec (σ : Sto) (c : Cfg) (hc : c.right = true) (t : Int) (h0 : 0 ≤ t) :
    ACalls Tryz.prog 33 [.agg (rowC c), i64 t] σ (fun r σ' => ∃ b, r = .ptr b 0 ∧ σ b = none ∧ σ' b = some (.cells (rowP c (Pn.new c t))) ∧ Sub σ σ') := by
  obtain ⟨h1, h2, h3, h4, h5⟩ := c.bounds hc
  refine ACalls.q fun q hq => fn_of Tab.mixed Tryz.func33 rfl rfl rfl ?_
  simp -implicitDefEqProofs
  refine alloc fun b1 hb1 => ?_
  simp -implicitDefEqProofs
  refine (cright_spec _ c).mono ?_
  rintro r σ' ⟨rfl, rfl⟩
  simp -implicitDefEqProofs [hc, show ¬ t < 0 by omega]
  refine draw (by kernel_rfl) ?_
  simp -implicitDefEqProofs
  refine ⟨by omega, ?_⟩
  refine alloc fun b2 hb2 => ?_
  obtain ⟨n21, hb2'⟩ := none_of_set hb2
  simp -implicitDefEqProofs
  refine hq _ _ ⟨b2, rfl, hb2', by simp [Sto.set, Pn.new, PPart.num, rowP], ?_⟩
  repeat first | exact Sub.refl _ | refine sub_set ?_ hb1 | refine sub_set ?_ hb2'

theorem pncell_spec (σ : Sto) (b : Nat) (c : Cfg) (hc : c.right = true) (x : Pn) (l : List AV) (hx : σ b = some (.cells (rowP c x ++ l))) (h0 : 0 ≤ x.first) (hf : x.first < c.pins) :
    ACalls Tryz.prog 115 [.ptr b 0] σ (fun r σ' => r = i64 (c.pin x.first) ∧ σ' = σ) := by
  obtain ⟨h1, h2, h3, h4, h5⟩ := c.bounds hc
  have e1 : x.first.tmod c.pins = x.first := Int.tmod_eq_of_lt h0 hf
  have e2 : IntKind.i64.wrap x.first = x.first := wrap_i64 (by omega) (by omega)
  refine ACalls.ro fun q hq => fn_of Tab.mixed Tryz.func115 rfl rfl rfl ?_
  simp -implicitDefEqProofs
  refine drawP [19] (by kernel_rfl) ?_
  simp -implicitDefEqProofs [hx]
  refine ⟨by omega, ?_⟩
  rw [e2, e1]
  refine read (i64 (c.pin x.first)) (fun _ => True) trivial (fun _ _ _ h => h) (fun σ _ => ?_) ?_
  · simp -implicitDefEqProofs
    exact pin_spec σ c hc x.first h0 hf
  simp -implicitDefEqProofs
  exact hq _ _ rfl (Sub.refl _)

theorem pnact_spec (σ : Sto) (b : Nat) (c : Cfg) (hc : c.right = true) (x : Pn) (hx : σ b = some (.cells (rowP c x))) (h0 : 0 ≤ x.first) (hf : x.first < c.pins) (he : 0 ≤ x.epoch ∧ x.epoch + 1 < 18446744073709551616) :
    ACalls Tryz.prog 106 [.ptr b 0] σ (fun r σ' => r = actAV (x.act c) ∧ σ' = σ) := by
  have hcell := fun σ l hx => pncell_spec σ b c hc x l hx h0 hf
  have e1 : IntKind.u64.wrap (x.epoch + 1) = x.epoch + 1 := wrap_u64 (by omega) (by omega)
  obtain ⟨first, part, pin, epoch⟩ := x
  cases part
  case tries =>
    refine ACalls.ro fun q hq => fn_of Tab.mixed Tryz.func106 rfl rfl rfl ?_
    simp -implicitDefEqProofs
    refine alloc fun b1 hb1 => ?_
    have n1 := ne_of hx hb1
    simp -implicitDefEqProofs [hx, n1]
    refine alloc fun b2 hb2 => ?_
    obtain ⟨n21, hb2'⟩ := none_of_set hb2
    have n2 := ne_of hx hb2'
    simp -implicitDefEqProofs [hx, n1, n2, n21, Ne.symm n21, PPart.num]
    refine drawP [1] (by kernel_rfl) ?_
    simp -implicitDefEqProofs
    refine read (i64 (c.pin first)) (fun σ => ∃ l, σ b = some (.cells (rowP c ⟨first, .tries, pin, epoch⟩ ++ l))) ⟨[], by rw [set_ne n2, set_ne n1, List.append_nil]; exact hx⟩
      (fun _ _ hk ⟨l, h⟩ => by obtain ⟨l', h'⟩ := hk.cells _ _ h; exact ⟨l ++ l', by rw [h', List.append_assoc]⟩) (fun σ ⟨l, h⟩ => ?_) ?_
    · simp -implicitDefEqProofs
      exact hcell σ l h
    simp -implicitDefEqProofs [hx, n1, n2, n21, Ne.symm n21, PPart.num, e1]
    refine drawW [0, 1] [4] b1 [0, 1, 2, 3, 4, 5] (by kernel_rfl) ?_
    simp -implicitDefEqProofs
    refine readB _ b2 _ n21 (by simp [Sto.set]; rfl) (fun σ l h => by simp -implicitDefEqProofs [h]; rfl) ?_
    simp -implicitDefEqProofs
    refine readB _ b2 _ n21 (by simp [Sto.set]; rfl) (fun σ l h => by simp -implicitDefEqProofs [h]; rfl) ?_
    simp -implicitDefEqProofs [n21, Ne.symm n21]
    refine ⟨?_, rl_set⟩
    refine hq _ _ (by simp [Pn.act, actAV, encA]) ?_
    repeat first | exact Sub.refl _ | refine sub_set ?_ hb1 | refine sub_set ?_ hb2'
  all_goals
    refine ACalls.ro fun q hq => fn_of Tab.mixed Tryz.func106 rfl rfl rfl ?_
    simp -implicitDefEqProofs
    refine alloc fun b1 hb1 => ?_
    have n1 := ne_of hx hb1
    simp -implicitDefEqProofs [hx, n1]
    refine alloc fun b2 hb2 => ?_
    obtain ⟨n21, hb2'⟩ := none_of_set hb2
    have n2 := ne_of hx hb2'
    simp -implicitDefEqProofs [hx, n1, n2, n21, Ne.symm n21, PPart.num]
    refine drawW [0, 1] [4] b1 [0, 1, 2, 3, 4, 5] (by kernel_rfl) ?_
    simp -implicitDefEqProofs
    refine readB _ b2 _ n21 (by simp [Sto.set]; rfl) (fun σ l h => by simp -implicitDefEqProofs [h]; rfl) ?_
    simp -implicitDefEqProofs
    refine readB _ b2 _ n21 (by simp [Sto.set]; rfl) (fun σ l h => by simp -implicitDefEqProofs [h]; rfl) ?_
    simp -implicitDefEqProofs [n21, Ne.symm n21]
    refine ⟨?_, rl_set⟩
    refine hq _ _ (by simp [Pn.act, actAV, encA]) ?_
    repeat first | exact Sub.refl _ | refine sub_set ?_ hb1 | refine sub_set ?_ hb2'

theorem swapped_spec (σ : Sto) (b : Nat) (c : Cfg) (x : Pn) (hx : σ b = some (.cells (rowP c x))) :
    ACalls Tryz.prog 116 [.ptr b 0, u 0] σ (fun r σ' => r = .tuple [] ∧ σ' = σ.set b (.cells (rowP c { x with part := .checks }))) := by
  obtain ⟨first, part, pin, epoch⟩ := x
  refine ACalls.q fun q hq => fn_of Tab.mixed Tryz.func116 rfl rfl rfl ?_
  simp -implicitDefEqProofs [hx]
  exact hq _ _ ⟨rfl, by simp [PPart.num, rowP]⟩

theorem pntake_spec (σ : Sto) (b : Nat) (c : Cfg) (hc : c.right = true) (x : Pn) (hx : σ b = some (.cells (rowP c x))) (h0 : 0 ≤ x.first) (hf : x.first < c.pins) (w : Int) (t : ByteArray)
    (hw : match x.part with | .tries => w = 0 | .checks => w = x.epoch | _ => True) :
    ACalls Tryz.prog 109 [.ptr b 0, .agg (rowG w t)] σ (fun r σ' => r = .tuple [] ∧ σ' = σ.set b (.cells (rowP c (x.take w)))) := by
  obtain ⟨h1, h2, h3, h4, h5⟩ := c.bounds hc
  have e1 : x.first.tmod c.pins = x.first := Int.tmod_eq_of_lt h0 hf
  have e2 : IntKind.i64.wrap x.first = x.first := wrap_i64 (by omega) (by omega)
  have hsub : ∀ (b1 : Nat) (o1 o2 : AObj), σ b1 = none → b ≠ b1 → Sub (σ.set b o2) ((σ.set b1 o1).set b o2) := fun b1 o1 o2 h1 n1 y p hy => by
    simp only [Sto.set] at hy ⊢
    by_cases hyb : y = b
    · simpa [hyb] using hy
    · simp only [hyb, if_false] at hy ⊢
      rw [if_neg (ne_of hy h1)]; exact hy
  obtain ⟨first, part, pin, epoch⟩ := x
  cases part
  case looks =>
    refine ACalls.to fun q hq => fn_of Tab.mixed Tryz.func109 rfl rfl rfl ?_
    simp -implicitDefEqProofs
    refine alloc fun b1 hb1 => ?_
    have n1 := ne_of hx hb1
    simp -implicitDefEqProofs [hx, n1, Ne.symm n1, PPart.num]
    refine hq _ _ rfl ?_
    simp only [Pn.take, PPart.num]
    exact hsub _ _ _ hb1 n1
  case tries =>
    simp only at hw; subst hw
    refine ACalls.to fun q hq => fn_of Tab.mixed Tryz.func109 rfl rfl rfl ?_
    simp -implicitDefEqProofs
    refine alloc fun b1 hb1 => ?_
    have n1 := ne_of hx hb1
    simp -implicitDefEqProofs [hx, n1, Ne.symm n1, PPart.num]
    refine (swapped_spec _ b c ⟨first, .tries, pin, epoch⟩ (by rw [set_ne n1]; exact hx)).mono ?_
    rintro r σ' ⟨rfl, rfl⟩
    simp -implicitDefEqProofs
    refine hq _ _ rfl ?_
    simp only [Pn.take, PPart.num]
    exact hsub _ _ _ hb1 n1
  case checks =>
    simp only at hw; subst hw
    refine ACalls.to fun q hq => fn_of Tab.mixed Tryz.func109 rfl rfl rfl ?_
    simp -implicitDefEqProofs
    refine alloc fun b1 hb1 => ?_
    have n1 := ne_of hx hb1
    simp -implicitDefEqProofs [hx, n1, Ne.symm n1, PPart.num]
    refine draw (by kernel_rfl) ?_
    simp -implicitDefEqProofs [hx, n1, Ne.symm n1, PPart.num]
    refine draw (by kernel_rfl) ?_
    simp -implicitDefEqProofs [hx, n1, Ne.symm n1, PPart.num, e2, e1]
    refine ⟨by omega, ?_⟩
    refine hq _ _ rfl ?_
    simp only [Pn.take, PPart.num]
    exact hsub _ _ _ hb1 n1
  case done =>
    refine ACalls.to fun q hq => fn_of Tab.mixed Tryz.func109 rfl rfl rfl ?_
    simp -implicitDefEqProofs
    refine alloc fun b1 hb1 => ?_
    have n1 := ne_of hx hb1
    simp -implicitDefEqProofs [hx, n1, Ne.symm n1, PPart.num]
    refine hq _ _ rfl ?_
    simp only [Pn.take]
    have := hsub b1 (.cells (rowG w t)) (.cells (rowP c ⟨first, .done, pin, epoch⟩)) hb1 n1
    intro y p hy
    simp only [Sto.set] at hy ⊢
    split at hy
    · rename_i hyb; subst hyb; rw [if_neg n1, hx]; exact hy
    · rw [if_neg (ne_of hy hb1)]; exact hy

theorem pnresult_spec (σ : Sto) (b : Nat) (c : Cfg) (x : Pn) (hx : σ b = some (.cells (rowP c x))) :
    ACalls Tryz.prog 117 [.ptr b 0] σ (fun r σ' => r = (if x.part = .done then .tuple [.agg [i64 x.pin, u x.epoch, boo false], boo true] else .tuple [.agg [i64 0, u 0, boo false], boo false]) ∧ σ' = σ) := by
  obtain ⟨first, part, pin, epoch⟩ := x
  cases part <;>
  (refine ACalls.ro fun q hq => fn_of Tab.mixed Tryz.func117 rfl rfl rfl ?_
   simp -implicitDefEqProofs
   refine alloc fun b1 hb1 => ?_
   have n1 := ne_of hx hb1
   simp -implicitDefEqProofs [hx, n1, PPart.num]
   refine hq _ _ (by simp) ?_
   repeat first | exact Sub.refl _ | refine sub_set ?_ hb1)

theorem pnfree_spec (σ : Sto) (c : Cfg) (hc : c.right = true) (i : Int) (h0 : 0 ≤ i) (hi : i < c.pins) :
    ACalls Tryz.prog 108 [.agg (rowC c), i64 i] σ (fun r σ' => r = .agg (encA (.store 1 (c.pin i) 0)) ∧ σ' = σ) := by
  obtain ⟨h1, h2, h3, h4, h5⟩ := c.bounds hc
  refine ACalls.ro fun q hq => fn_of Tab.mixed Tryz.func108 rfl rfl rfl ?_
  simp -implicitDefEqProofs
  refine alloc fun b1 hb1 => ?_
  simp -implicitDefEqProofs
  refine alloc fun b2 hb2 => ?_
  obtain ⟨n21, hb2'⟩ := none_of_set hb2
  simp -implicitDefEqProofs [n21, Ne.symm n21]
  refine (pin_spec _ c hc i h0 hi).mono ?_
  rintro r σ' ⟨rfl, rfl⟩
  simp -implicitDefEqProofs [n21, Ne.symm n21, show (0 : Int) ≤ c.pin i by simp only [Cfg.pin]; omega]
  refine hq _ _ (by simp [encA]) ?_
  repeat first | exact Sub.refl _ | refine sub_set ?_ hb1 | refine sub_set ?_ hb2'
end Go.Proofs.YtkbpnnbdfikjhaaGreat

/- The sum of a text, and the way of a sum. -/
namespace Go.Proofs.YtkbpnnbdfikjhaaGreat
open Go Go.Aw
set_option linter.unusedVariables false
set_option linter.unusedSimpArgs false
set_option maxRecDepth 10000

def xorI (a b : Int) : Int := IntKind.u64.wrap (BitVec.ofInt IntKind.u64.bits a ^^^ BitVec.ofInt IntKind.u64.bits b).toNat
def moreF (n c : Int) : Int := xorI (IntKind.u64.wrap (xorI n c * 1099511628211)) (IntKind.u64.wrap (xorI n c * 1099511628211) / 2 ^ 29)
def sumF (seed : Int) (l : List UInt8) : Int := l.foldl (fun n c => moreF n c.toNat) (xorI seed 14695981039346656037)

theorem wrap_range (n : Int) : 0 ≤ IntKind.u64.wrap n ∧ IntKind.u64.wrap n < 18446744073709551616 := by
  simp only [IntKind.wrap, IntKind.signed, IntKind.bits]
  simp
  omega

theorem more_range (n c : Int) : 0 ≤ moreF n c ∧ moreF n c < 18446744073709551616 := wrap_range _

theorem sum_range (seed : Int) (l : List UInt8) : 0 ≤ sumF seed l ∧ sumF seed l < 18446744073709551616 := by
  unfold sumF
  have : ∀ (l : List UInt8) (n : Int), (0 ≤ n ∧ n < 18446744073709551616) → 0 ≤ l.foldl (fun n c => moreF n c.toNat) n ∧ l.foldl (fun n c => moreF n c.toNat) n < 18446744073709551616 := by
    intro l
    induction l with
    | nil => intro n h; exact h
    | cons c l ih => intro n h; exact ih _ (more_range _ _)
  exact this l _ (wrap_range _)

theorem more_spec (σ : Sto) (n c : Int) (hc : 0 ≤ c ∧ c < 256) : ACalls Tryz.prog 78 [u n, .sc (.int .u8 c)] σ (fun r σ' => r = u (moreF n c) ∧ σ' = σ) := by
  have e1 : IntKind.u64.wrap c = c := wrap_u64 (by omega) (by omega)
  refine ACalls.q fun q hq => fn_of Tab.mixed Tryz.func78 rfl rfl rfl ?_
  simp -implicitDefEqProofs [e1]
  refine ⟨by decide, ?_⟩
  exact hq _ _ ⟨rfl, rfl⟩

theorem sum_spec (σ : Sto) (seed : Int) (s : ByteArray) (hs : s.size ≤ 4096) : ACalls Tryz.prog 56 [u seed, str s] σ (fun r σ' => r = u (sumF seed s.data.toList) ∧ σ' = σ) := by
  refine ACalls.q fun q hq => fn_of Tab.mixed Tryz.func56 rfl rfl rfl ?_
  simp -implicitDefEqProofs
  refine wpc_loop (fun e σ' => ∃ i : Nat, i ≤ s.size ∧ e.length = 21 ∧ gt e 1 = str s ∧ gt e 5 = u (sumF seed (s.data.toList.take i)) ∧ gt e 10 = i64 s.size ∧ gt e 11 = i64 i ∧ σ' = σ)
    (fun e _ => (s.size - intAt e 11).toNat) ⟨0, by omega, rfl, rfl, rfl, rfl, rfl, rfl⟩ ?_
  rintro e σ' ⟨i, h1, hlen, g1, g5, g10, g11, rfl⟩
  by_cases hi : i < s.size
  · have hlt : i < s.data.toList.length := by simpa using hi
    have hlt' : i < s.data.size := hi
    have h3 : s.data[i]? = some s.data[i] := Array.getElem?_eq_getElem hlt'
    have h4 : s.data.toList.take (i + 1) = s.data.toList.take i ++ [s.data[i]] := by rw [List.take_add_one]; simp [h3]
    have hb := s.data[i].toNat_lt
    have e1 : IntKind.i64.wrap ((i : Int) + 1) = ((i + 1 : Nat) : Int) := wrap_i64 (by omega) (by omega)
    simp -implicitDefEqProofs [hlen, g1, g5, g10, g11, show (i : Int) < s.size by omega, h3]
    refine (more_spec σ' _ _ (by omega)).mono ?_
    rintro r σ' ⟨rfl, rfl⟩
    simp -implicitDefEqProofs [hlen, g1, g5, g10, g11, e1]
    refine ⟨⟨i + 1, by omega, ?_, by simp⟩, ?_⟩
    · rw [h4]; simp [sumF]
    · simp [intAt, g11, hlen]
      omega
  · have : i = s.size := by omega
    subst this
    simp -implicitDefEqProofs [hlen, g1, g5, g10, g11]
    exact hq _ _ ⟨by rw [List.take_of_length_le (by simp)], rfl⟩

theorem restU_spec (σ : Sto) (n by' : Int) (h0 : 0 ≤ n ∧ n < 18446744073709551616) (h1 : 1 ≤ by' ∧ by' ≤ 64) :
    ACalls Tryz.prog 150 [u n, u by'] σ (fun r σ' => r = u (n % by') ∧ σ' = σ) := by
  have e0 : n.tdiv by' = n / by' := Int.tdiv_eq_ediv_of_nonneg h0.1
  have d0 : 0 ≤ n / by' := Int.ediv_nonneg h0.1 (by omega)
  have d1 := Int.mul_ediv_add_emod n by'
  have d2 := Int.emod_nonneg n (show by' ≠ 0 by omega)
  have d3 := Int.emod_lt_of_pos n (show 0 < by' by omega)
  have d4 : n / by' ≤ n := Int.ediv_le_self _ h0.1
  have d5 : n / by' * by' = n - n % by' := by rw [Int.mul_comm]; omega
  have e1 : IntKind.u64.wrap (n / by') = n / by' := wrap_u64 d0 (by omega)
  have e2 : IntKind.u64.wrap (n - n % by') = n - n % by' := wrap_u64 (by rw [← d5]; exact Int.mul_nonneg d0 (by omega)) (by omega)
  have e3 : IntKind.u64.wrap (n - (n - n % by')) = n % by' := by rw [show n - (n - n % by') = n % by' by omega]; exact wrap_u64 d2 (by omega)
  refine ACalls.q fun q hq => fn_of Tab.mixed Tryz.func150 rfl rfl rfl ?_
  simp -implicitDefEqProofs [e0, e1, d5, e2, e3]
  exact ⟨by omega, hq _ _ ⟨rfl, rfl⟩⟩

theorem restI_spec (σ : Sto) (n by' : Int) (h0 : 0 ≤ n ∧ n < by') (h1 : 1 ≤ by' ∧ by' ≤ 64) :
    ACalls Tryz.prog 149 [i64 n, i64 by'] σ (fun r σ' => r = i64 n ∧ σ' = σ) := by
  have e0 : n.tdiv by' = 0 := Int.tdiv_eq_zero_of_lt h0.1 h0.2
  have e1 : IntKind.i64.wrap n = n := wrap_i64 (by omega) (by omega)
  refine ACalls.q fun q hq => fn_of Tab.mixed Tryz.func149 rfl rfl rfl ?_
  simp -implicitDefEqProofs [e0, e1, show IntKind.i64.wrap 0 = 0 from rfl]
  exact ⟨by omega, hq _ _ ⟨rfl, rfl⟩⟩

theorem start_spec (σ : Sto) (n w : Int) (h0 : 0 ≤ n ∧ n < 18446744073709551616) (h1 : 1 ≤ w ∧ w ≤ 64) :
    ACalls Tryz.prog 148 [u n, i64 w] σ (fun r σ' => r = i64 (n % w) ∧ σ' = σ) := by
  have d2 := Int.emod_nonneg n (show w ≠ 0 by omega)
  have d3 := Int.emod_lt_of_pos n (show 0 < w by omega)
  have e1 : IntKind.u64.wrap w = w := wrap_u64 (by omega) (by omega)
  have e2 : IntKind.i64.wrap (n % w) = n % w := wrap_i64 (by omega) (by omega)
  refine ACalls.q fun q hq => fn_of Tab.mixed Tryz.func148 rfl rfl rfl ?_
  simp -implicitDefEqProofs [e1, show ¬ w < 1 by omega]
  refine (restU_spec σ n w h0 h1).mono ?_
  rintro r σ' ⟨rfl, rfl⟩
  simp -implicitDefEqProofs [e2]
  exact hq _ _ ⟨rfl, rfl⟩

/-- the i-th place of the way -/
def placeF (n w i : Int) : Int := if i < w - n % w then n % w + i else i - (w - n % w)
theorem place_range {n w i : Int} (h1 : 1 ≤ w) (h2 : 0 ≤ i ∧ i < w) : 0 ≤ placeF n w i ∧ placeF n w i < w := by
  have d2 := Int.emod_nonneg n (show w ≠ 0 by omega)
  have d3 := Int.emod_lt_of_pos n (show 0 < w by omega)
  unfold placeF; split <;> omega
theorem place_inj {n w i j : Int} (h1 : 1 ≤ w) (h2 : 0 ≤ i ∧ i < w) (h3 : 0 ≤ j ∧ j < w) (h : placeF n w i = placeF n w j) : i = j := by
  have d2 := Int.emod_nonneg n (show w ≠ 0 by omega)
  have d3 := Int.emod_lt_of_pos n (show 0 < w by omega)
  unfold placeF at h; split at h <;> split at h <;> omega
theorem place_surj {n w s : Int} (h1 : 1 ≤ w) (h2 : 0 ≤ s ∧ s < w) : ∃ i, (0 ≤ i ∧ i < w) ∧ placeF n w i = s := by
  have d2 := Int.emod_nonneg n (show w ≠ 0 by omega)
  have d3 := Int.emod_lt_of_pos n (show 0 < w by omega)
  by_cases h : n % w ≤ s
  · exact ⟨s - n % w, by omega, by unfold placeF; rw [if_pos (by omega)]; omega⟩
  · exact ⟨s + (w - n % w), by omega, by unfold placeF; rw [if_neg (by omega)]; omega⟩

theorem place_spec (σ : Sto) (n w i : Int) (h0 : 0 ≤ n ∧ n < 18446744073709551616) (h1 : 1 ≤ w ∧ w ≤ 64) (h2 : 0 ≤ i ∧ i < w) :
    ACalls Tryz.prog 147 [u n, i64 w, i64 i] σ (fun r σ' => r = i64 (placeF n w i) ∧ σ' = σ) := by
  have d2 := Int.emod_nonneg n (show w ≠ 0 by omega)
  have d3 := Int.emod_lt_of_pos n (show 0 < w by omega)
  have e2 : IntKind.i64.wrap (w - n % w) = w - n % w := wrap_i64 (by omega) (by omega)
  have e3 : IntKind.i64.wrap (n % w) = n % w := wrap_i64 (by omega) (by omega)
  have e4 : IntKind.i64.wrap (n % w + i) = n % w + i := wrap_i64 (by omega) (by omega)
  have e5 : IntKind.i64.wrap (i - (w - n % w)) = i - (w - n % w) := wrap_i64 (by omega) (by omega)
  refine ACalls.q fun q hq => fn_of Tab.mixed Tryz.func147 rfl rfl rfl ?_
  simp -implicitDefEqProofs [show ¬ i < 0 by omega, show ¬ w ≤ i by omega]
  refine (start_spec σ n w h0 h1).mono ?_
  rintro r σ' ⟨rfl, rfl⟩
  by_cases hl : i < w - n % w
  · simp -implicitDefEqProofs [e2, hl, show w - (w - n % w) = n % w by omega, e3, e4]
    exact hq _ _ ⟨by rw [placeF, if_pos hl], rfl⟩
  · simp -implicitDefEqProofs [e2, hl, e5]
    refine (restI_spec σ' _ w (by omega) h1).mono ?_
    rintro r σ' ⟨rfl, rfl⟩
    simp -implicitDefEqProofs
    exact hq _ _ ⟨by rw [placeF, if_neg hl], rfl⟩
end Go.Proofs.YtkbpnnbdfikjhaaGreat

/- Finding a key's shelf. -/
namespace Go.Proofs.YtkbpnnbdfikjhaaGreat
open Go Go.Aw
set_option linter.unusedVariables false
set_option linter.unusedSimpArgs false
set_option maxRecDepth 10000

structure Fnd where
  key : ByteArray
  i : Int
  block : Int
  kind : Int
  shelf : Int
abbrev rowF (c : Cfg) (x : Fnd) : List AV := [i64 c.cap, i64 c.pins, i64 c.shelves, i64 c.queue, i64 c.watchers, u c.seed, str x.key, u (sumF c.seed x.key.data.toList), i64 x.i, u x.block, i64 x.kind, i64 x.shelf, boo true]
def Fnd.at_ (c : Cfg) (x : Fnd) : Int := placeF (sumF c.seed x.key.data.toList) c.shelves x.i

def Fnd.act (c : Cfg) (x : Fnd) : Option A := if x.kind = 0 then if x.block = 0 then some (.load 1 (c.key (x.at_ c))) else some (.words x.block) else none
def Fnd.take (c : Cfg) (x : Fnd) (w : Int) (t : ByteArray) : Fnd :=
  if x.block = 0 then if w = 0 then { x with kind := 2, shelf := x.at_ c } else { x with block := w }
  else if t = x.key then { x with kind := 1, shelf := x.at_ c }
  else if x.i + 1 = c.shelves then { x with block := 0, i := x.i + 1, kind := 3, shelf := 0 } else { x with block := 0, i := x.i + 1 }
def Fnd.new (k : ByteArray) : Fnd := ⟨k, 0, 0, 0, 0⟩

theorem fndnew_spec (σ : Sto) (c : Cfg) (hc : c.right = true) (k : ByteArray) (hk : k.size ≤ 4096) :
    ACalls Tryz.prog 45 [.agg (rowC c), str k] σ (fun r σ' => ∃ b, r = .ptr b 0 ∧ σ b = none ∧ σ' b = some (.cells (rowF c (Fnd.new k))) ∧ Sub σ σ') := by
  refine ACalls.q fun q hq => fn_of Tab.mixed Tryz.func45 rfl rfl rfl ?_
  simp -implicitDefEqProofs
  refine alloc fun b1 hb1 => ?_
  simp -implicitDefEqProofs
  refine drawP [5, 7] (by kernel_rfl) ?_
  simp -implicitDefEqProofs
  refine read (u (sumF c.seed k.data.toList)) (fun _ => True) trivial (fun _ _ _ h => h) (fun σ _ => ?_) ?_
  · simp -implicitDefEqProofs
    exact sum_spec σ c.seed k hk
  simp -implicitDefEqProofs
  refine read (boo true) (fun _ => True) trivial (fun _ _ _ h => h) (fun σ _ => ?_) ?_
  · simp -implicitDefEqProofs
    have := cright_spec σ c
    rw [hc] at this
    exact this
  simp -implicitDefEqProofs
  refine alloc fun b2 hb2 => ?_
  obtain ⟨n21, hb2'⟩ := none_of_set hb2
  simp -implicitDefEqProofs
  refine hq _ _ ⟨b2, rfl, hb2', by simp [Sto.set, Fnd.new, rowF], ?_⟩
  repeat first | exact Sub.refl _ | refine sub_set ?_ hb1 | refine sub_set ?_ hb2'

theorem fndover_spec (σ : Sto) (b : Nat) (c : Cfg) (x : Fnd) (hx : σ b = some (.cells (rowF c x))) (hk : x.kind = 0 → x.shelf = 0) :
    ACalls Tryz.prog 144 [.ptr b 0] σ (fun r σ' => r = boo (!decide (x.kind = 0)) ∧ σ' = σ) := by
  obtain ⟨key, i, block, kind, shelf⟩ := x
  simp only at hk
  by_cases h0 : kind = 0
  · have hs := hk h0
    subst h0 hs
    refine ACalls.q fun q hq => fn_of Tab.mixed Tryz.func144 rfl rfl rfl ?_
    simp -implicitDefEqProofs [hx]
    exact hq _ _ ⟨by simp, rfl⟩
  · refine ACalls.q fun q hq => fn_of Tab.mixed Tryz.func144 rfl rfl rfl ?_
    simp -implicitDefEqProofs [hx, h0]
    exact hq _ _ ⟨by simp [h0], rfl⟩

theorem fndshelf_spec (σ : Sto) (b : Nat) (c : Cfg) (hc : c.right = true) (x : Fnd) (l : List AV) (hx : σ b = some (.cells (rowF c x ++ l))) (hi : 0 ≤ x.i ∧ x.i < c.shelves) :
    ACalls Tryz.prog 145 [.ptr b 0] σ (fun r σ' => r = i64 (x.at_ c) ∧ σ' = σ) := by
  obtain ⟨h1, h2, h3, h4, h5⟩ := c.bounds hc
  have hp := fun σ => place_spec σ (sumF c.seed x.key.data.toList) c.shelves x.i (sum_range _ _) h3 hi
  refine ACalls.q fun q hq => fn_of Tab.mixed Tryz.func145 rfl rfl rfl ?_
  simp -implicitDefEqProofs
  refine drawP [13] (by kernel_rfl) ?_
  simp -implicitDefEqProofs [hx]
  refine read (i64 (x.at_ c)) (fun _ => True) trivial (fun _ _ _ h => h) (fun σ _ => ?_) ?_
  · simp -implicitDefEqProofs
    exact hp σ
  simp -implicitDefEqProofs
  exact hq _ _ ⟨rfl, rfl⟩

theorem fndact_spec (σ : Sto) (b : Nat) (c : Cfg) (hc : c.right = true) (x : Fnd) (hx : σ b = some (.cells (rowF c x))) (hk : x.kind = 0 → x.shelf = 0 ∧ 0 ≤ x.i ∧ x.i < c.shelves) :
    ACalls Tryz.prog 136 [.ptr b 0] σ (fun r σ' => r = actAV (x.act c) ∧ σ' = σ) := by
  obtain ⟨h1, h2, h3, h4, h5⟩ := c.bounds hc
  have hov := fun σ hx => fndover_spec σ b c x hx (fun h => (hk h).1)
  have hsh := fun σ l hx hi => fndshelf_spec σ b c hc x l hx hi
  by_cases h0 : x.kind = 0
  · obtain ⟨k1, k2⟩ := hk h0
    have hpl := place_range (n := sumF c.seed x.key.data.toList) h3.1 k2
    have hky := fun σ => key_spec σ c hc (x.at_ c) hpl.1 hpl.2
    by_cases hb0 : x.block = 0
    · refine ACalls.ro fun q hq => fn_of Tab.mixed Tryz.func136 rfl rfl rfl ?_
      simp -implicitDefEqProofs
      refine alloc fun b1 hb1 => ?_
      have n1 := ne_of hx hb1
      simp -implicitDefEqProofs
      refine (hov _ (by rw [set_ne n1]; exact hx)).mono ?_
      rintro r σ' ⟨rfl, rfl⟩
      simp -implicitDefEqProofs [hx, n1, h0, hb0]
      refine drawP [5, 6] (by kernel_rfl) ?_
      simp -implicitDefEqProofs [hx, n1, h0, hb0]
      refine read (i64 (x.at_ c)) (fun σ => ∃ l, σ b = some (.cells (rowF c x ++ l))) ⟨[], by rw [set_ne n1, List.append_nil]; exact hx⟩
        (fun _ _ hk ⟨l, h⟩ => by obtain ⟨l', h'⟩ := hk.cells _ _ h; exact ⟨l ++ l', by rw [h', List.append_assoc]⟩) (fun σ ⟨l, h⟩ => ?_) ?_
      · simp -implicitDefEqProofs
        exact hsh σ l h k2
      simp -implicitDefEqProofs
      refine read (i64 (c.key (x.at_ c))) (fun _ => True) trivial (fun _ _ _ h => h) (fun σ _ => ?_) ?_
      · simp -implicitDefEqProofs
        exact hky σ
      simp -implicitDefEqProofs
      refine hq _ _ (by simp [Fnd.act, actAV, encA, h0, hb0]) ?_
      repeat first | exact Sub.refl _ | refine sub_set ?_ hb1
    · refine ACalls.ro fun q hq => fn_of Tab.mixed Tryz.func136 rfl rfl rfl ?_
      simp -implicitDefEqProofs
      refine alloc fun b1 hb1 => ?_
      have n1 := ne_of hx hb1
      simp -implicitDefEqProofs
      refine (hov _ (by rw [set_ne n1]; exact hx)).mono ?_
      rintro r σ' ⟨rfl, rfl⟩
      simp -implicitDefEqProofs [hx, n1, h0, hb0]
      refine hq _ _ (by simp [Fnd.act, actAV, encA, h0, hb0]) ?_
      repeat first | exact Sub.refl _ | refine sub_set ?_ hb1
  · refine ACalls.ro fun q hq => fn_of Tab.mixed Tryz.func136 rfl rfl rfl ?_
    simp -implicitDefEqProofs
    refine alloc fun b1 hb1 => ?_
    have n1 := ne_of hx hb1
    simp -implicitDefEqProofs
    refine (hov _ (by rw [set_ne n1]; exact hx)).mono ?_
    rintro r σ' ⟨rfl, rfl⟩
    simp -implicitDefEqProofs [hx, n1, h0]
    refine hq _ _ (by simp [Fnd.act, actAV, encA, h0]) ?_
    repeat first | exact Sub.refl _ | refine sub_set ?_ hb1

theorem fndresult_spec (σ : Sto) (b : Nat) (c : Cfg) (x : Fnd) (hx : σ b = some (.cells (rowF c x))) (hk : x.kind = 0 → x.shelf = 0) :
    ACalls Tryz.prog 146 [.ptr b 0] σ (fun r σ' => r = (if x.kind = 0 then .tuple [.agg [i64 0, i64 0], boo false] else .tuple [.agg [i64 x.kind, i64 x.shelf], boo true]) ∧ σ' = σ) := by
  obtain ⟨key, i, block, kind, shelf⟩ := x
  simp only at hk
  by_cases h0 : kind = 0
  · have hs := hk h0
    subst h0 hs
    refine ACalls.ro fun q hq => fn_of Tab.mixed Tryz.func146 rfl rfl rfl ?_
    simp -implicitDefEqProofs
    refine alloc fun b1 hb1 => ?_
    have n1 := ne_of hx hb1
    simp -implicitDefEqProofs [hx, n1]
    refine hq _ _ (by simp) ?_
    repeat first | exact Sub.refl _ | refine sub_set ?_ hb1
  · refine ACalls.ro fun q hq => fn_of Tab.mixed Tryz.func146 rfl rfl rfl ?_
    simp -implicitDefEqProofs
    refine alloc fun b1 hb1 => ?_
    have n1 := ne_of hx hb1
    simp -implicitDefEqProofs [hx, n1, h0]
    refine hq _ _ (by simp [h0]) ?_
    repeat first | exact Sub.refl _ | refine sub_set ?_ hb1

theorem fndtake_spec (σ : Sto) (b : Nat) (c : Cfg) (hc : c.right = true) (x : Fnd) (hx : σ b = some (.cells (rowF c x))) (h0 : x.kind = 0) (hk : x.shelf = 0 ∧ 0 ≤ x.i ∧ x.i < c.shelves) (w : Int) (t : ByteArray) :
    ACalls Tryz.prog 139 [.ptr b 0, .agg (rowG w t)] σ (fun r σ' => r = .tuple [] ∧ σ' = σ.set b (.cells (rowF c (x.take c w t)))) := by
  obtain ⟨h1, h2, h3, h4, h5⟩ := c.bounds hc
  obtain ⟨k1, k2⟩ := hk
  have hov := fun σ hx => fndover_spec σ b c x hx (fun h => k1)
  have hsh := fun σ l hx hi => fndshelf_spec σ b c hc x l hx hi
  have e1 : IntKind.i64.wrap (x.i + 1) = x.i + 1 := wrap_i64 (by omega) (by omega)
  have e2 : IntKind.i64.wrap c.shelves = c.shelves := wrap_i64 (by omega) (by omega)
  have hsub : ∀ (b1 : Nat) (o1 o2 : AObj), σ b1 = none → b ≠ b1 → Sub (σ.set b o2) ((σ.set b1 o1).set b o2) := fun b1 o1 o2 h1 n1 y p hy => by
    simp only [Sto.set] at hy ⊢
    by_cases hyb : y = b
    · simpa [hyb] using hy
    · simp only [hyb, if_false] at hy ⊢
      rw [if_neg (ne_of hy h1)]; exact hy
  by_cases hb0 : x.block = 0
  · by_cases hw : w = 0
    · refine ACalls.to fun q hq => fn_of Tab.mixed Tryz.func139 rfl rfl rfl ?_
      simp -implicitDefEqProofs
      refine alloc fun b1 hb1 => ?_
      have n1 := ne_of hx hb1
      simp -implicitDefEqProofs
      refine (hov _ (by rw [set_ne n1]; exact hx)).mono ?_
      rintro r σ' ⟨rfl, rfl⟩
      simp -implicitDefEqProofs [h0]
      refine wpc_loop (fun e s => e = _ ∧ s = _) (fun _ _ => 0) ⟨rfl, rfl⟩ ?_
      rintro e s ⟨rfl, rfl⟩
      simp -implicitDefEqProofs [hx, n1, Ne.symm n1, h0, hb0, hw]
      refine (hsh _ [] (by rw [set_ne n1, List.append_nil]; exact hx) k2).mono ?_
      rintro r σ' ⟨rfl, rfl⟩
      simp -implicitDefEqProofs [hx, n1, Ne.symm n1, h0, hb0, hw]
      refine hq _ _ rfl ?_
      rw [show Fnd.take c x w t = ⟨x.key, x.i, 0, 2, x.at_ c⟩ from by simp [Fnd.take, h0, hb0, hw]]
      exact hsub _ _ _ hb1 n1
    · refine ACalls.to fun q hq => fn_of Tab.mixed Tryz.func139 rfl rfl rfl ?_
      simp -implicitDefEqProofs
      refine alloc fun b1 hb1 => ?_
      have n1 := ne_of hx hb1
      simp -implicitDefEqProofs
      refine (hov _ (by rw [set_ne n1]; exact hx)).mono ?_
      rintro r σ' ⟨rfl, rfl⟩
      simp -implicitDefEqProofs [h0]
      refine wpc_loop (fun e s => e = _ ∧ s = _) (fun _ _ => 0) ⟨rfl, rfl⟩ ?_
      rintro e s ⟨rfl, rfl⟩
      simp -implicitDefEqProofs [hx, n1, Ne.symm n1, h0, hb0, hw]
      refine hq _ _ rfl ?_
      rw [show Fnd.take c x w t = ⟨x.key, x.i, w, 0, x.shelf⟩ from by simp [Fnd.take, h0, hb0, hw]]
      exact hsub _ _ _ hb1 n1
  · by_cases ht : t = x.key
    · refine ACalls.to fun q hq => fn_of Tab.mixed Tryz.func139 rfl rfl rfl ?_
      simp -implicitDefEqProofs
      refine alloc fun b1 hb1 => ?_
      have n1 := ne_of hx hb1
      simp -implicitDefEqProofs
      refine (hov _ (by rw [set_ne n1]; exact hx)).mono ?_
      rintro r σ' ⟨rfl, rfl⟩
      simp -implicitDefEqProofs [h0]
      refine wpc_loop (fun e s => e = _ ∧ s = _) (fun _ _ => 0) ⟨rfl, rfl⟩ ?_
      rintro e s ⟨rfl, rfl⟩
      simp -implicitDefEqProofs [hx, n1, Ne.symm n1, h0, hb0, ht]
      refine draw (by kernel_rfl) ?_
      simp -implicitDefEqProofs [hx, n1, Ne.symm n1, h0, hb0, ht]
      refine (hsh _ [] (by rw [set_ne n1, List.append_nil]; exact hx) k2).mono ?_
      rintro r σ' ⟨rfl, rfl⟩
      simp -implicitDefEqProofs [hx, n1, Ne.symm n1, h0, hb0, ht]
      refine hq _ _ rfl ?_
      rw [show Fnd.take c x w t = ⟨x.key, x.i, x.block, 1, x.at_ c⟩ from by simp [Fnd.take, h0, hb0, ht]]
      exact hsub _ _ _ hb1 n1
    · by_cases hi : x.i + 1 = c.shelves
      · refine ACalls.to fun q hq => fn_of Tab.mixed Tryz.func139 rfl rfl rfl ?_
        simp -implicitDefEqProofs
        refine alloc fun b1 hb1 => ?_
        have n1 := ne_of hx hb1
        simp -implicitDefEqProofs
        refine (hov _ (by rw [set_ne n1]; exact hx)).mono ?_
        rintro r σ' ⟨rfl, rfl⟩
        simp -implicitDefEqProofs [h0]
        refine wpc_loop (fun e s => e = _ ∧ s = _) (fun _ _ => 0) ⟨rfl, rfl⟩ ?_
        rintro e s ⟨rfl, rfl⟩
        simp -implicitDefEqProofs [hx, n1, Ne.symm n1, h0, hb0, ht, hi]
        refine draw (by kernel_rfl) ?_
        simp -implicitDefEqProofs [hx, n1, Ne.symm n1, h0, hb0, ht, hi, e1, e2]
        refine draw (by kernel_rfl) ?_
        simp -implicitDefEqProofs [hx, n1, Ne.symm n1, h0, hb0, ht, hi, e1, e2]
        refine hq _ _ rfl ?_
        rw [show Fnd.take c x w t = ⟨x.key, c.shelves, 0, 3, 0⟩ from by simp [Fnd.take, h0, hb0, ht, hi]]
        exact hsub _ _ _ hb1 n1
      · refine ACalls.to fun q hq => fn_of Tab.mixed Tryz.func139 rfl rfl rfl ?_
        simp -implicitDefEqProofs
        refine alloc fun b1 hb1 => ?_
        have n1 := ne_of hx hb1
        simp -implicitDefEqProofs
        refine (hov _ (by rw [set_ne n1]; exact hx)).mono ?_
        rintro r σ' ⟨rfl, rfl⟩
        simp -implicitDefEqProofs [h0]
        refine wpc_loop (fun e s => e = _ ∧ s = _) (fun _ _ => 0) ⟨rfl, rfl⟩ ?_
        rintro e s ⟨rfl, rfl⟩
        simp -implicitDefEqProofs [hx, n1, Ne.symm n1, h0, hb0, ht, hi]
        refine draw (by kernel_rfl) ?_
        simp -implicitDefEqProofs [hx, n1, Ne.symm n1, h0, hb0, ht, hi, e1, e2]
        refine draw (by kernel_rfl) ?_
        simp -implicitDefEqProofs [hx, n1, Ne.symm n1, h0, hb0, ht, hi, e1, e2]
        refine hq _ _ rfl ?_
        rw [show Fnd.take c x w t = ⟨x.key, x.i + 1, 0, 0, x.shelf⟩ from by simp [Fnd.take, h0, hb0, ht, hi]]
        exact hsub _ _ _ hb1 n1
end Go.Proofs.YtkbpnnbdfikjhaaGreat
