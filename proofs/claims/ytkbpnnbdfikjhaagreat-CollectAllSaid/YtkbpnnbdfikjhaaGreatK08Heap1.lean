/- The heap of blocks: what it is, and what its methods answer. -/
import Derived.Test.YtkbpnnbdfikjhaaGreatK07Simp
namespace Go.Proofs.YtkbpnnbdfikjhaaGreat
open Go Go.Aw
set_option linter.unusedVariables false
set_option linter.unusedSimpArgs false

/-! ### plain -/
structure Blk where
  cells : List Int
  text : ByteArray

structure Hp where
  blocks : List (Int × Blk)
  last : Int
  locked : Bool
  faults : Int

def hfind : List (Int × Blk) → Int → Option Blk
  | [], _ => none
  | (i, x) :: l, b => if b = i then some x else hfind l b
def hset : List (Int × Blk) → Int → Blk → List (Int × Blk)
  | [], _, _ => []
  | (i, x) :: l, b, y => if b = i then (i, y) :: l else (i, x) :: hset l b y
def hdrop : List (Int × Blk) → Int → List (Int × Blk)
  | [], _ => []
  | (i, x) :: l, b => if b = i then l else (i, x) :: hdrop l b

/-! ### in the store -/
abbrev u (n : Int) : AV := .sc (.int .u64 n)
abbrev i64 (n : Int) : AV := .sc (.int .i64 n)
abbrev str (s : ByteArray) : AV := .sc (.string s)
abbrev boo (b : Bool) : AV := .sc (.bool b)

def ent (c : Nat) (x : Int × Blk) : Value × AV := (.int .u64 x.1, .agg [.mslice c 0 x.2.cells.length 1, str x.2.text])
def ents : List Nat → List (Int × Blk) → List (Value × AV)
  | c :: cs, x :: l => ent c x :: ents cs l
  | _, _ => []

/-- the blocks' cells -/
def Rows (σ : Sto) : List Nat → List (Int × Blk) → Prop
  | [], [] => True
  | c :: cs, x :: l => σ c = some (.cells (x.2.cells.map u)) ∧ c ∉ cs ∧ Rows σ cs l
  | _, _ => False

structure HpAt (σ : Sto) (hb m : Nat) (bs : List Nat) (H : Hp) : Prop where
  top : σ hb = some (.cells [.sc (.map (some m)), u H.last, boo H.locked, i64 H.faults])
  map : σ m = some (.map (ents bs H.blocks))
  rows : Rows σ bs H.blocks
  nm : m ∉ bs
  nb : hb ∉ bs
  ne : hb ≠ m

/-- the claims outside some blocks stand -/
def Out (F : List Nat) (σ σ' : Sto) : Prop := ∀ x o, x ∉ F → σ x = some o → σ' x = some o
theorem Out.refl (F : List Nat) (σ : Sto) : Out F σ σ := fun _ _ _ h => h

theorem mget_ents {b : Int} : ∀ (bs : List Nat) (l : List (Int × Blk)), bs.length = l.length →
    (hfind l b = none ∧ mget (ents bs l) (.int .u64 b) = none) ∨ ∃ (j : Nat) (c : Nat) (x : Blk), (l[j]? = some (b, x) ∧ ∀ p, p < j → ∀ z, l[p]? = some z → z.1 ≠ b) ∧ bs[j]? = some c ∧ hfind l b = some x ∧
      mget (ents bs l) (.int .u64 b) = some (.agg [.mslice c 0 x.cells.length 1, str x.text])
  | [], [], _ => .inl ⟨rfl, rfl⟩
  | c :: cs, (i, x) :: l, h => by
    by_cases hi : b = i
    · subst hi
      exact .inr ⟨0, c, x, ⟨rfl, by omega⟩, rfl, by simp [hfind], by simp [ents, ent, mget, valEq]⟩
    · rcases mget_ents (b := b) cs l (by simpa using h) with ⟨h1, h2⟩ | ⟨j, c', x', h1, h2, h3, h4⟩
      · exact .inl ⟨by simp [hfind, hi, h1], by simp [ents, ent, mget, valEq, hi, h2]⟩
      · exact .inr ⟨j + 1, c', x', ⟨by simpa using h1.1, fun p hp z hz => by
          cases p with
          | zero => simp at hz; subst hz; exact fun e => hi e.symm
          | succ p => exact h1.2 p (by omega) z (by simpa using hz)⟩, by simpa using h2, by simp [hfind, hi, h3], by simp [ents, ent, mget, valEq, hi, h4]⟩

theorem keys_ents : ∀ (bs : List Nat) (l : List (Int × Blk)), keysOK (.int .u64) (ents bs l)
  | [], _ => by simp [ents, keysOK]
  | _ :: _, [] => by simp [ents, keysOK]
  | c :: cs, x :: l => by
    intro e he
    simp only [ents, List.mem_cons] at he
    rcases he with rfl | he
    · simp [ent, keyV]
    · exact keys_ents cs l e he

theorem Rows.len {σ : Sto} : ∀ {bs : List Nat} {l : List (Int × Blk)}, Rows σ bs l → bs.length = l.length
  | [], [], _ => rfl
  | c :: cs, x :: l, h => by simp [Rows.len h.2.2]
theorem Rows.at {σ : Sto} : ∀ {bs : List Nat} {l : List (Int × Blk)}, Rows σ bs l → ∀ {j c : Nat} {x : Int × Blk}, bs[j]? = some c → l[j]? = some x → σ c = some (.cells (x.2.cells.map u))
  | [], [], _, j, c, x, h, _ => by simp at h
  | c0 :: cs, x0 :: l, h, 0, c, x, h1, h2 => by simp at h1 h2; subst h1; subst h2; exact h.1
  | c0 :: cs, x0 :: l, h, j + 1, c, x, h1, h2 => h.2.2.at (by simpa using h1) (by simpa using h2)

theorem ne_of {σ : Sto} {b c : Nat} {o : AObj} (h : σ b = some o) (hc : σ c = none) : b ≠ c := fun e => by rw [e, hc] at h; cases h

/-- a claim stands behind a change elsewhere -/
theorem set_ne {σ : Sto} {b x : Nat} {o : AObj} (h : x ≠ b) : (σ.set b o) x = σ x := by simp [Sto.set, h]

theorem sub_set' {σ σ1 : Sto} {b : Nat} {o : AObj} (h : Sub σ σ1) (hb : σ1 b = none) : Sub σ (σ1.set b o) := fun x p hx => by
  have h1 := h x p hx
  rw [set_ne (ne_of h1 hb)]; exact h1

theorem wrap_u64 {n : Int} (h1 : 0 ≤ n) (h2 : n < 18446744073709551616) : IntKind.u64.wrap n = n := by
  simp only [IntKind.wrap, IntKind.signed, IntKind.bits]
  simp
  omega

theorem splice_same {α : Type} (L : List α) (i : Nat) (a : α) (h : L[i]? = some a) : L.take i ++ a :: L.drop (i + 1) = L := by
  obtain ⟨hi, rfl⟩ := List.getElem?_eq_some_iff.1 h
  rw [← List.drop_eq_getElem_cons hi]
  exact List.take_append_drop i L

/-! ### the methods -/
/-- the claim on an answer behind a name: simp does not go into it -/
theorem ACalls.q {f : FuncId} {args : List AV} {σ : Sto} {p : AV → Sto → Prop} (h : ∀ q : AV → Sto → Prop, (∀ r σ', p r σ' → q r σ') → ACalls Tryz.prog f args σ q) : ACalls Tryz.prog f args σ p := h p fun _ _ h => h

/-- a block stands at a place, first of its name -/
def At (l : List (Int × Blk)) (j : Nat) (b : Int) (x : Blk) : Prop := l[j]? = some (b, x) ∧ ∀ p, p < j → ∀ z, l[p]? = some z → z.1 ≠ b

theorem block_spec (σ : Sto) (hb m : Nat) (bs : List Nat) (H : Hp) (h : HpAt σ hb m bs H) (b : Int) (x : Blk) (hx : hfind H.blocks b = some x) :
    ACalls Tryz.prog 79 [.ptr hb 0, u b] σ (fun r σ' => (∃ (j c : Nat), bs[j]? = some c ∧ At H.blocks j b x ∧ r = .tuple [.agg [.mslice c 0 x.cells.length 1, str x.text], i64 0]) ∧ Sub σ σ') := by
  have h1 := h.top
  have h2 := h.map
  have h3 := keys_ents bs H.blocks
  obtain ⟨j, c, g1, g2, g4⟩ : ∃ (j c : Nat), bs[j]? = some c ∧ At H.blocks j b x ∧ mget (ents bs H.blocks) (.int .u64 b) = some (.agg [.mslice c 0 x.cells.length 1, str x.text]) := by
    rcases mget_ents (b := b) bs H.blocks h.rows.len with ⟨h4, _⟩ | ⟨j, c, x', g1, g2, g3, g4⟩
    · rw [h4] at hx; cases hx
    · rw [g3] at hx; cases hx; exact ⟨j, c, g2, g1, g4⟩
  refine ACalls.q fun q hq => fn_of Tab.mixed Tryz.func79 rfl rfl rfl ?_
  simp -implicitDefEqProofs
  refine alloc fun b1 hb1 => ?_
  have n1 := ne_of h1 hb1
  have n2 := ne_of h2 hb1
  simp -implicitDefEqProofs [h1, h2, n1, n2, aLookup, g4, h3, u]
  refine alloc fun b2 hb2 => ?_
  obtain ⟨n3, hb2'⟩ := none_of_set hb2
  simp -implicitDefEqProofs [h1, h2, n1, n2, n3, Ne.symm n3, str]
  exact hq _ _ ⟨⟨j, c, g1, g2, rfl⟩, sub_set (sub_set (sub_set (Sub.refl σ) hb1) hb2') hb1⟩

theorem cell_spec (σ : Sto) (hb m : Nat) (bs : List Nat) (H : Hp) (h : HpAt σ hb m bs H) (b i : Int) (x : Blk) (hx : hfind H.blocks b = some x) (h0 : 0 ≤ i) (hi : i < x.cells.length) :
    ACalls Tryz.prog 57 [.ptr hb 0, u b, i64 i] σ (fun r σ' => (∃ (j c : Nat), bs[j]? = some c ∧ At H.blocks j b x ∧ r = .tuple [.ptr c i.toNat, i64 0]) ∧ Sub σ σ') := by
  refine ACalls.q fun q hq => fn_of Tab.mixed Tryz.func57 rfl rfl rfl ?_
  simp -implicitDefEqProofs
  refine (block_spec σ hb m bs H h b x hx).mono ?_
  rintro r σ1 ⟨⟨j, c, g1, g2, rfl⟩, hs1⟩
  simp -implicitDefEqProofs [i64, str]
  refine alloc fun b1 hb1 => ?_
  simp -implicitDefEqProofs [show ¬ i < 0 by omega, show ¬ ((x.cells.length : Int) ≤ i) by omega]
  exact ⟨⟨h0, by omega⟩, hq _ _ ⟨⟨j, c, g1, g2, rfl⟩, sub_set' hs1 hb1⟩⟩

/-- a store into a block's cell -/
def Hp.put (H : Hp) (b : Int) (i : Nat) (w : Int) : Hp := match hfind H.blocks b with
  | some x => { H with blocks := hset H.blocks b { x with cells := x.cells.set i w } }
  | none => H

theorem length_hset (b : Int) (y : Blk) : ∀ l : List (Int × Blk), (hset l b y).length = l.length
  | [] => rfl
  | (i, x) :: l => by simp only [hset]; split <;> simp [length_hset b y l]

theorem load_cw {cs : List Int} {i : Nat} {w : Int} (h : cs[i]? = some w) : loadAV Tryz.prog 22 (cs.map u) i = some (u w) := by
  simp [loadAV, h]

theorem bump_spec (σ : Sto) (hb m : Nat) (bs : List Nat) (H : Hp) (h : HpAt σ hb m bs H) (b i : Int) (x : Blk) (hx : hfind H.blocks b = some x) (h0 : 0 ≤ i) (w : Int) (hi : x.cells[i.toNat]? = some w) (hw : 0 ≤ w ∧ w < 18446744073709551616) :
    ACalls Tryz.prog 46 [.ptr hb 0, u b, i64 i, u 0] σ (fun r σ' => r = .tuple [u w, i64 0] ∧ Sub σ σ') := by
  have hlt : i.toNat < x.cells.length := (List.getElem?_eq_some_iff.1 hi).1
  refine ACalls.q fun q hq => fn_of Tab.mixed Tryz.func46 rfl rfl rfl ?_
  simp -implicitDefEqProofs
  refine (cell_spec σ hb m bs H h b i x hx h0 (by omega)).mono ?_
  rintro r σ1 ⟨⟨j, c, g1, g2, rfl⟩, hs1⟩
  have hc := hs1 c _ (h.rows.at g1 g2.1)
  have hl := load_cw hi
  simp -implicitDefEqProofs [i64, u] at hl ⊢
  simp -implicitDefEqProofs [hc, hl, u]
  refine ⟨by omega, hq _ _ ⟨rfl, fun y o hy => ?_⟩⟩
  have hy1 := hs1 y o hy
  by_cases hyc : y = c
  · subst hyc
    rw [hc] at hy1; cases hy1
    simp only [Sto.set, if_true, wrap_u64 hw.1 hw.2]
    rw [show AV.sc (.int .u64 w) = u w from rfl, splice_same _ _ _ (by simp [hl])]
  · rw [set_ne hyc]; exact hy1

theorem load_spec (σ : Sto) (hb m : Nat) (bs : List Nat) (H : Hp) (h : HpAt σ hb m bs H) (b i : Int) (x : Blk) (hx : hfind H.blocks b = some x) (h0 : 0 ≤ i) (w : Int) (hi : x.cells[i.toNat]? = some w) (hw : 0 ≤ w ∧ w < 18446744073709551616) :
    ACalls Tryz.prog 34 [.ptr hb 0, u b, i64 i] σ (fun r σ' => r = .tuple [u w, i64 0] ∧ Sub σ σ') := by
  refine ACalls.q fun q hq => fn_of Tab.mixed Tryz.func34 rfl rfl rfl ?_
  simp -implicitDefEqProofs
  refine (bump_spec σ hb m bs H h b i x hx h0 w hi hw).mono ?_
  rintro r σ1 ⟨rfl, hs1⟩
  simp -implicitDefEqProofs [i64, u]
  exact hq _ _ ⟨rfl, hs1⟩

theorem Rows.sub {σ σ' : Sto} : ∀ {bs : List Nat} {l : List (Int × Blk)}, (∀ x ∈ bs, ∀ o, σ x = some o → σ' x = some o) → Rows σ bs l → Rows σ' bs l
  | [], [], _, h => h
  | c :: cs, x :: l, hs, h => ⟨hs c (by simp) _ h.1, h.2.1, h.2.2.sub fun y hy => hs y (by simp [hy])⟩
theorem HpAt.sub {σ σ' : Sto} {hb m : Nat} {bs : List Nat} {H : Hp} (h : HpAt σ hb m bs H) (hs : ∀ x ∈ hb :: m :: bs, ∀ o, σ x = some o → σ' x = some o) : HpAt σ' hb m bs H :=
  ⟨hs hb (by simp) _ h.top, hs m (by simp) _ h.map, h.rows.sub fun x hx => hs x (by simp [hx]), h.nm, h.nb, h.ne⟩
theorem HpAt.of_sub {σ σ' : Sto} {hb m : Nat} {bs : List Nat} {H : Hp} (h : HpAt σ hb m bs H) (hs : Sub σ σ') : HpAt σ' hb m bs H := h.sub fun x _ o => hs x o
theorem Out.of_sub {F : List Nat} {σ σ' : Sto} (h : Sub σ σ') : Out F σ σ' := fun x o _ hx => h x o hx
theorem Out.trans {F : List Nat} {σ σ1 σ2 : Sto} (h : Out F σ σ1) (h' : Out F σ1 σ2) : Out F σ σ2 := fun x o hn hx => h' x o hn (h x o hn hx)

theorem ents_hset {b : Int} {x y : Blk} (hl : x.cells.length = y.cells.length) (ht : x.text = y.text) : ∀ (bs : List Nat) (l : List (Int × Blk)), hfind l b = some x → ents bs (hset l b y) = ents bs l
  | [], l, _ => by cases l <;> rfl
  | _ :: _, [], _ => rfl
  | c :: cs, (i, z) :: l, h => by
    simp only [hfind] at h
    simp only [hset]
    split
    · rename_i hb
      rw [if_pos hb] at h; cases h
      simp [ents, ent, hl, ht]
    · rename_i hb
      rw [if_neg hb] at h
      simp [ents, ents_hset hl ht cs l h]

theorem Rows.set {σ : Sto} {b : Int} {x y : Blk} : ∀ {bs : List Nat} {l : List (Int × Blk)} {j c : Nat}, Rows σ bs l → bs[j]? = some c → l[j]? = some (b, x) → (∀ p, p < j → ∀ z, l[p]? = some z → z.1 ≠ b) →
    Rows (σ.set c (.cells (y.cells.map u))) bs (hset l b y)
  | [], [], j, c, _, h, _, _ => by simp at h
  | c0 :: cs, (i, z) :: l, 0, c, h, h1, h2, h3 => by
    simp at h1 h2
    obtain ⟨rfl, rfl⟩ := h2
    subst h1
    simp only [hset, if_true]
    exact ⟨by simp [Sto.set], h.2.1, h.2.2.sub fun x hx o ho => by
      have hxc : x ≠ c0 := fun e => h.2.1 (e ▸ hx)
      rw [set_ne hxc]; exact ho⟩
  | c0 :: cs, (i, z) :: l, j + 1, c, h, h1, h2, h3 => by
    have hne : i ≠ b := h3 0 (by omega) (i, z) rfl
    have h1' : cs[j]? = some c := by simpa using h1
    have hc : c0 ≠ c := fun e => h.2.1 (e ▸ List.mem_of_getElem? h1')
    simp only [hset, if_neg (Ne.symm hne)]
    exact ⟨by rw [set_ne hc]; exact h.1, h.2.1, h.2.2.set h1' (by simpa using h2) fun p hp z hz => h3 (p + 1) (by omega) z (by simpa using hz)⟩

theorem HpAt.put {σ : Sto} {hb m : Nat} {bs : List Nat} {H : Hp} (h : HpAt σ hb m bs H) {b : Int} {x y : Blk} {j c : Nat} (hx : hfind H.blocks b = some x) (h1 : bs[j]? = some c) (h2 : H.blocks[j]? = some (b, x))
    (h3 : ∀ p, p < j → ∀ z, H.blocks[p]? = some z → z.1 ≠ b) (hl : x.cells.length = y.cells.length) (ht : x.text = y.text) :
    HpAt (σ.set c (.cells (y.cells.map u))) hb m bs { H with blocks := hset H.blocks b y } := by
  have hm := List.mem_of_getElem? h1
  refine ⟨?_, ?_, h.rows.set h1 h2 h3, h.nm, h.nb, h.ne⟩
  · rw [set_ne (show hb ≠ c from fun e => h.nb (by rw [e]; exact hm))]; exact h.top
  · rw [set_ne (show m ≠ c from fun e => h.nm (by rw [e]; exact hm))]
    simp only
    rw [ents_hset hl ht _ _ hx]; exact h.map

theorem Out.set {F : List Nat} {σ : Sto} {b : Nat} {o : AObj} (h : b ∈ F) : Out F σ (σ.set b o) := fun x p hx hp => by
  rw [set_ne (show x ≠ b from fun e => hx (by rw [e]; exact h))]; exact hp
theorem HpAt.head {σ : Sto} {hb m : Nat} {bs : List Nat} {H : Hp} (h : HpAt σ hb m bs H) (l : Int) (k : Bool) (f : Int) :
    HpAt (σ.set hb (.cells [.sc (.map (some m)), u l, boo k, i64 f])) hb m bs { H with last := l, locked := k, faults := f } :=
  ⟨by simp [Sto.set], by rw [set_ne (Ne.symm h.ne)]; exact h.map, h.rows.sub fun x hx o ho => by rw [set_ne (show x ≠ hb from fun e => h.nb (e ▸ hx))]; exact ho, h.nm, h.nb, h.ne⟩

theorem store_spec (σ : Sto) (hb m : Nat) (bs : List Nat) (H : Hp) (h : HpAt σ hb m bs H) (b i w : Int) (x : Blk) (hx : hfind H.blocks b = some x) (h0 : 0 ≤ i) (hi : i < x.cells.length) :
    ACalls Tryz.prog 72 [.ptr hb 0, u b, i64 i, u w] σ (fun r σ' => r = i64 0 ∧ HpAt σ' hb m bs { H with blocks := hset H.blocks b { x with cells := x.cells.set i.toNat w } } ∧ Out (hb :: m :: bs) σ σ') := by
  have hlt : i.toNat < x.cells.length := by omega
  refine ACalls.q fun q hq => fn_of Tab.mixed Tryz.func72 rfl rfl rfl ?_
  simp -implicitDefEqProofs
  refine (cell_spec σ hb m bs H h b i x hx h0 hi).mono ?_
  rintro r σ1 ⟨⟨j, c, g1, g2, rfl⟩, hs1⟩
  have h1 := h.of_sub hs1
  have hc := h1.rows.at g1 g2.1
  simp -implicitDefEqProofs [i64, hc, u]
  have hp := h1.put (y := { x with cells := x.cells.set i.toNat w }) hx g1 g2.1 g2.2 (by simp) rfl
  have he : (x.cells.map u).take i.toNat ++ u w :: (x.cells.map u).drop (i.toNat + 1) = (x.cells.set i.toNat w).map u := by
    rw [List.map_set, List.set_eq_take_append_cons_drop, if_pos (by simpa using hlt)]
  rw [← he] at hp
  have hm : c ∈ hb :: m :: bs := by simp [List.mem_of_getElem? g1]
  exact ⟨by omega, hq _ _ ⟨rfl, hp, (Out.of_sub hs1).trans (Out.set hm)⟩⟩

theorem swap_spec (σ : Sto) (hb m : Nat) (bs : List Nat) (H : Hp) (h : HpAt σ hb m bs H) (b i : Int) (w : Int) (x : Blk) (hx : hfind H.blocks b = some x) (h0 : 0 ≤ i) (v : Int) (hi : x.cells[i.toNat]? = some v) :
    ACalls Tryz.prog 73 [.ptr hb 0, u b, i64 i, u 0, u w] σ (fun r σ' => r = .tuple [u v, i64 0] ∧
      HpAt σ' hb m bs (if v = 0 then { H with blocks := hset H.blocks b { x with cells := x.cells.set i.toNat w } } else H) ∧ Out (hb :: m :: bs) σ σ') := by
  have hlt : i.toNat < x.cells.length := (List.getElem?_eq_some_iff.1 hi).1
  refine ACalls.q fun q hq => fn_of Tab.mixed Tryz.func73 rfl rfl rfl ?_
  simp -implicitDefEqProofs
  refine (cell_spec σ hb m bs H h b i x hx h0 (by omega)).mono ?_
  rintro r σ1 ⟨⟨j, c, g1, g2, rfl⟩, hs1⟩
  have h1 := h.of_sub hs1
  have hc := h1.rows.at g1 g2.1
  have hl := load_cw hi
  simp -implicitDefEqProofs [i64, u] at hl ⊢
  simp -implicitDefEqProofs [i64, hc, hl, u]
  by_cases hv : v = 0
  · simp -implicitDefEqProofs [hv, hc]
    have hp := h1.put (y := { x with cells := x.cells.set i.toNat w }) hx g1 g2.1 g2.2 (by simp) rfl
    have he : (x.cells.map u).take i.toNat ++ u w :: (x.cells.map u).drop (i.toNat + 1) = (x.cells.set i.toNat w).map u := by
      rw [List.map_set, List.set_eq_take_append_cons_drop, if_pos (by simpa using hlt)]
    rw [← he] at hp
    have hm : c ∈ hb :: m :: bs := by simp [List.mem_of_getElem? g1]
    exact ⟨by omega, hq _ _ ⟨by rw [hv], by rw [if_pos hv]; exact hp, (Out.of_sub hs1).trans (Out.set hm)⟩⟩
  · simp -implicitDefEqProofs [hv]
    exact hq _ _ ⟨rfl, by rw [if_neg hv]; exact h1, Out.of_sub hs1⟩

theorem words_spec (σ : Sto) (hb m : Nat) (bs : List Nat) (H : Hp) (h : HpAt σ hb m bs H) (b : Int) (x : Blk) (hx : hfind H.blocks b = some x) :
    ACalls Tryz.prog 74 [.ptr hb 0, u b] σ (fun r σ' => r = .tuple [str x.text, i64 0] ∧ Sub σ σ') := by
  refine ACalls.q fun q hq => fn_of Tab.mixed Tryz.func74 rfl rfl rfl ?_
  simp -implicitDefEqProofs
  refine (block_spec σ hb m bs H h b x hx).mono ?_
  rintro r σ1 ⟨⟨j, c, g1, g2, rfl⟩, hs1⟩
  simp -implicitDefEqProofs [i64, str]
  refine alloc fun b1 hb1 => ?_
  simp -implicitDefEqProofs
  exact hq _ _ ⟨rfl, sub_set' hs1 hb1⟩

theorem lock_spec (σ : Sto) (hb m : Nat) (bs : List Nat) (H : Hp) (h : HpAt σ hb m bs H) (hl : H.locked = false) :
    ACalls Tryz.prog 76 [.ptr hb 0] σ (fun r σ' => r = boo true ∧ HpAt σ' hb m bs { H with locked := true } ∧ Out (hb :: m :: bs) σ σ') := by
  have h1 := h.top
  rw [hl] at h1
  refine ACalls.q fun q hq => fn_of Tab.mixed Tryz.func76 rfl rfl rfl ?_
  simp -implicitDefEqProofs [h1, boo]
  exact hq _ _ ⟨rfl, h.head _ true _, Out.set (by simp)⟩

theorem unlock_spec (σ : Sto) (hb m : Nat) (bs : List Nat) (H : Hp) (h : HpAt σ hb m bs H) (hl : H.locked = true) :
    ACalls Tryz.prog 77 [.ptr hb 0] σ (fun r σ' => r = boo true ∧ HpAt σ' hb m bs { H with locked := false } ∧ Out (hb :: m :: bs) σ σ') := by
  have h1 := h.top
  rw [hl] at h1
  refine ACalls.q fun q hq => fn_of Tab.mixed Tryz.func77 rfl rfl rfl ?_
  simp -implicitDefEqProofs [h1, boo]
  exact hq _ _ ⟨rfl, h.head _ false _, Out.set (by simp)⟩

theorem locked_spec (σ : Sto) (hb m : Nat) (bs : List Nat) (H : Hp) (h : HpAt σ hb m bs H) :
    ACalls Tryz.prog 25 [.ptr hb 0] σ (fun r σ' => r = boo H.locked ∧ σ' = σ) := by
  have h1 := h.top
  refine ACalls.q fun q hq => fn_of Tab.mixed Tryz.func25 rfl rfl rfl ?_
  simp -implicitDefEqProofs [h1, boo]
  exact hq _ _ ⟨rfl, rfl⟩

theorem faults_spec (σ : Sto) (hb m : Nat) (bs : List Nat) (H : Hp) (h : HpAt σ hb m bs H) :
    ACalls Tryz.prog 17 [.ptr hb 0] σ (fun r σ' => r = i64 H.faults ∧ σ' = σ) := by
  have h1 := h.top
  refine ACalls.q fun q hq => fn_of Tab.mixed Tryz.func17 rfl rfl rfl ?_
  simp -implicitDefEqProofs [h1, i64]
  exact hq _ _ ⟨rfl, rfl⟩
end Go.Proofs.YtkbpnnbdfikjhaaGreat

/- The heap of blocks: making, dropping. -/
namespace Go.Proofs.YtkbpnnbdfikjhaaGreat
open Go Go.Aw
set_option linter.unusedVariables false
set_option linter.unusedSimpArgs false

theorem mput_ents {b : Int} {x : AV} : ∀ (bs : List Nat) (l : List (Int × Blk)), bs.length = l.length → hfind l b = none → mput (ents bs l) (.int .u64 b) x = ents bs l ++ [(.int .u64 b, x)]
  | [], [], _, _ => rfl
  | c :: cs, (i, z) :: l, hl, h => by
    simp only [hfind] at h
    split at h
    · cases h
    · rename_i hb
      simp [ents, ent, mput, valEq, hb, mput_ents cs l (by simpa using hl) h]
theorem ents_app {c : Nat} {x : Int × Blk} : ∀ (bs : List Nat) (l : List (Int × Blk)), bs.length = l.length → ents (bs ++ [c]) (l ++ [x]) = ents bs l ++ [ent c x]
  | [], [], _ => rfl
  | c0 :: cs, z :: l, hl => by simp [ents, ents_app cs l (by simpa using hl)]
theorem Rows.app {σ : Sto} {c : Nat} {x : Int × Blk} : ∀ {bs : List Nat} {l : List (Int × Blk)}, Rows σ bs l → σ c = some (.cells (x.2.cells.map u)) → c ∉ bs → Rows σ (bs ++ [c]) (l ++ [x])
  | [], [], _, h, _ => ⟨h, by simp, trivial⟩
  | c0 :: cs, z :: l, hr, h, hn => by
    rw [List.mem_cons, not_or] at hn
    refine ⟨hr.1, ?_, hr.2.2.app h hn.2⟩
    exact fun hm => (List.mem_append.1 hm).elim hr.2.1 fun e => hn.1 (List.mem_singleton.1 e).symm
theorem Rows.claimed {σ : Sto} : ∀ {bs : List Nat} {l : List (Int × Blk)}, Rows σ bs l → ∀ c ∈ bs, σ c ≠ none
  | c0 :: cs, z :: l, hr, c, hc => by
    rcases List.mem_cons.1 hc with rfl | hc
    · rw [hr.1]; simp
    · exact hr.2.2.claimed c hc

theorem zeros_u (n : Nat) : zeros [u 0] n = (List.replicate n 0).map u := by
  induction n with
  | zero => rfl
  | succ n ih => simp [zeros, ih, List.replicate_succ]

theorem make_spec (σ : Sto) (hb m : Nat) (bs : List Nat) (H : Hp) (h : HpAt σ hb m bs H) (n : Int) (t : ByteArray) (h0 : 0 ≤ n) (hn : n ≤ 256) (hl : 0 ≤ H.last ∧ H.last < 18446744073709551615) (hf : hfind H.blocks (H.last + 1) = none) :
    ACalls Tryz.prog 27 [.ptr hb 0, i64 n, str t] σ (fun r σ' => r = u (H.last + 1) ∧ ∃ c, σ c = none ∧ HpAt σ' hb m (bs ++ [c]) { H with blocks := H.blocks ++ [(H.last + 1, ⟨List.replicate n.toNat 0, t⟩)], last := H.last + 1 } ∧ Out (hb :: m :: bs) σ σ') := by
  have h1 := h.top
  have h2 := h.map
  have h3 := keys_ents bs H.blocks
  have hw : IntKind.u64.wrap (H.last + 1) = H.last + 1 := wrap_u64 (by omega) (by omega)
  have hhd := h.head (H.last + 1) H.locked H.faults
  have hmp := fun (x : AV) => mput_ents (x := x) bs H.blocks h.rows.len hf
  refine ACalls.q fun q hq => fn_of Tab.mixed Tryz.func27 rfl rfl rfl ?_
  simp -implicitDefEqProofs [i64, show ¬ n < 0 by omega, show ¬ 256 < n by omega]
  simp -implicitDefEqProofs [h1, i64, u, hw]
  generalize hσ1 : σ.set hb (.cells [.sc (.map (some m)), u (H.last + 1), boo H.locked, i64 H.faults]) = σ1 at hhd ⊢
  have k1 := hhd.top
  have k2 := hhd.map
  refine drawBy [0,1,2,3,4,5,6,7,8,10,9,11,12] (by kernel_rfl) (by kernel_rfl) ?_
  simp -implicitDefEqProofs [k1]
  refine ⟨h0, by omega, fun c hc => ?_⟩
  have n1 := ne_of k1 hc
  have n2 := ne_of k2 hc
  have h3' : keysOK (Kd.int IntKind.u64) (ents bs H.blocks) := h3
  simp only at k2
  simp -implicitDefEqProofs [aMapUpdate, n2, k2, h3', hmp, k1, n1, h.ne]
  have hcn : c ∉ bs := fun hm => hhd.rows.claimed c hm hc
  refine hq _ _ ⟨rfl, c, ?_, ⟨?_, ?_, ?_, ?_, ?_, h.ne⟩, ?_⟩
  · rw [← hσ1] at hc; exact (none_of_set hc).2
  · rw [set_ne h.ne, set_ne n1]; exact k1
  · rw [ents_app _ _ h.rows.len]
    simp [Sto.set, ent]
  · refine Rows.app (hhd.rows.sub fun x hx o ho => ?_) ?_ hcn
    · rw [set_ne (show x ≠ m from fun e => h.nm (e ▸ hx)), set_ne (show x ≠ c from fun e => hcn (e ▸ hx))]; exact ho
    · rw [set_ne (Ne.symm n2)]
      have := zeros_u n.toNat
      simp only [Sto.set, if_true, this]
  · exact fun hm => (List.mem_append.1 hm).elim h.nm fun e => n2 (List.mem_singleton.1 e)
  · exact fun hm => (List.mem_append.1 hm).elim h.nb fun e => n1 (List.mem_singleton.1 e)
  · rw [← hσ1] at hc ⊢
    have hc0 := (none_of_set hc).2
    exact ((Out.set (by simp)).trans (Out.of_sub (sub_set' (Sub.refl _) hc))).trans (Out.set (by simp))

theorem mdel_ents {b : Int} : ∀ (bs : List Nat) (l : List (Int × Blk)) (j : Nat) (x : Blk), bs.length = l.length → At l j b x →
    mdel (ents bs l) (.int .u64 b) = ents (bs.eraseIdx j) (hdrop l b)
  | [], [], j, x, _, h => by have := h.1; simp at this
  | c :: cs, (i, z) :: l, 0, x, hl, h => by
    have h1 := h.1
    simp at h1
    obtain ⟨rfl, rfl⟩ := h1
    simp [ents, ent, mdel, valEq, hdrop]
  | c :: cs, (i, z) :: l, j + 1, x, hl, h => by
    have hne : i ≠ b := h.2 0 (by omega) (i, z) rfl
    have ih := mdel_ents cs l j x (by simpa using hl) ⟨by simpa using h.1, fun p hp z hz => h.2 (p + 1) (by omega) z (by simpa using hz)⟩
    simp [ents, ent, mdel, valEq, hdrop, Ne.symm hne, ih]

theorem Rows.erase {σ : Sto} {b : Int} {x : Blk} : ∀ {bs : List Nat} {l : List (Int × Blk)} {j : Nat}, Rows σ bs l → At l j b x → Rows σ (bs.eraseIdx j) (hdrop l b)
  | [], [], j, _, h => by have := h.1; simp at this
  | c :: cs, (i, z) :: l, 0, hr, h => by
    have h1 := h.1
    simp at h1
    obtain ⟨rfl, rfl⟩ := h1
    simpa [hdrop] using hr.2.2
  | c :: cs, (i, z) :: l, j + 1, hr, h => by
    have hne : i ≠ b := h.2 0 (by omega) (i, z) rfl
    have ih := hr.2.2.erase (j := j) ⟨by simpa using h.1, fun p hp z hz => h.2 (p + 1) (by omega) z (by simpa using hz)⟩
    simp only [hdrop, if_neg (Ne.symm hne), List.eraseIdx_cons_succ]
    exact ⟨hr.1, fun hm => hr.2.1 (List.mem_of_mem_eraseIdx hm), ih⟩

theorem drop_spec (σ : Sto) (hb m : Nat) (bs : List Nat) (H : Hp) (h : HpAt σ hb m bs H) (b : Int) (x : Blk) (hx : hfind H.blocks b = some x) :
    ACalls Tryz.prog 75 [.ptr hb 0, u b] σ (fun r σ' => r = i64 0 ∧ (∃ bs', (∀ c ∈ bs', c ∈ bs) ∧ HpAt σ' hb m bs' { H with blocks := hdrop H.blocks b }) ∧ Out (hb :: m :: bs) σ σ') := by
  refine ACalls.q fun q hq => fn_of Tab.mixed Tryz.func75 rfl rfl rfl ?_
  simp -implicitDefEqProofs
  refine (block_spec σ hb m bs H h b x hx).mono ?_
  rintro r σ1 ⟨⟨j, c, g1, g2, rfl⟩, hs1⟩
  simp -implicitDefEqProofs
  refine alloc fun b1 hb1 => ?_
  have hh := h.of_sub (sub_set' (o := .cells [.mslice c 0 x.cells.length 1, str x.text]) hs1 hb1)
  have k1 := hh.top
  have k2 := hh.map
  have h3 := keys_ents bs H.blocks
  have hmd := mdel_ents bs H.blocks j x h.rows.len g2
  have n1 := ne_of (hs1 _ _ h.top) hb1
  have n2 := ne_of (hs1 _ _ h.map) hb1
  simp -implicitDefEqProofs [n1, n2] at k1 k2
  simp -implicitDefEqProofs [aDelete, n1, n2, k1, k2, h3, hmd]
  refine hq _ _ ⟨rfl, ⟨bs.eraseIdx j, fun c hc => List.mem_of_mem_eraseIdx hc, ⟨?_, ?_, ?_, ?_, ?_, h.ne⟩⟩, ?_⟩
  · rw [set_ne h.ne]; exact hh.top
  · simp [Sto.set]
  · refine (hh.rows.erase g2).sub fun y hy o ho => ?_
    rw [set_ne (show y ≠ m from fun e => h.nm (e ▸ List.mem_of_mem_eraseIdx hy))]; exact ho
  · exact fun hm => h.nm (List.mem_of_mem_eraseIdx hm)
  · exact fun hm => h.nb (List.mem_of_mem_eraseIdx hm)
  · exact (Out.of_sub (sub_set' hs1 hb1)).trans (Out.set (by simp))

theorem new_heap_spec (σ : Sto) : ACalls Tryz.prog 26 [] σ (fun r σ' => ∃ hb m, r = .ptr hb 0 ∧ σ hb = none ∧ σ m = none ∧ HpAt σ' hb m [] ⟨[], 0, false, 0⟩ ∧ Sub σ σ') := by
  refine ACalls.q fun q hq => fn_of Tab.mixed Tryz.func26 rfl rfl rfl ?_
  simp -implicitDefEqProofs
  intro m hm
  refine alloc fun hb hhb => ?_
  obtain ⟨n1, hhb'⟩ := none_of_set hhb
  simp -implicitDefEqProofs [aClear, Ne.symm n1]
  refine hq _ _ ⟨hb, m, rfl, hhb', hm, ⟨?_, ?_, trivial, by simp, by simp, n1⟩, ?_⟩
  · simp [Sto.set, n1]
  · simp [Sto.set, ents]
  · exact sub_set (sub_set (sub_set (Sub.refl σ) hm) hhb') hm
end Go.Proofs.YtkbpnnbdfikjhaaGreat

/- Acts. -/
namespace Go.Proofs.YtkbpnnbdfikjhaaGreat
open Go Go.Aw
set_option linter.unusedVariables false
set_option linter.unusedSimpArgs false
set_option maxRecDepth 10000

inductive A where
  | load (b i : Int)
  | store (b i w : Int)
  | swap (b i w : Int)
  | make (n : Int) (t : ByteArray)
  | words (b : Int)
  | drop (b : Int)
  | lock
  | unlock

def noText : ByteArray := ⟨#[]⟩
abbrev rowA (k b i o n : Int) (t : ByteArray) : List AV := [i64 k, u b, i64 i, u o, u n, str t]
def encA : A → List AV
  | .load b i => rowA 1 b i 0 0 ⟨#[]⟩
  | .store b i w => rowA 2 b i 0 w ⟨#[]⟩
  | .swap b i w => rowA 3 b i 0 w ⟨#[]⟩
  | .make n t => rowA 5 0 n 0 0 t
  | .words b => rowA 6 b 0 0 0 ⟨#[]⟩
  | .drop b => rowA 7 b 0 0 0 ⟨#[]⟩
  | .lock => rowA 8 0 0 0 0 ⟨#[]⟩
  | .unlock => rowA 9 0 0 0 0 ⟨#[]⟩
def A.ok : A → Prop
  | .load _ i => 0 ≤ i
  | .store _ i _ => 0 ≤ i
  | .swap _ i _ => 0 ≤ i
  | .make n t => 0 ≤ n ∧ t.size ≤ 4096
  | _ => True

theorem size0 : ((⟨#[]⟩ : ByteArray).size : Int) = 0 := rfl

theorem right_spec (σ : Sto) (a : A) (h : a.ok) :
    ACalls Tryz.prog 70 [.agg (encA a)] σ (fun r σ' => r = boo true ∧ Sub σ σ') := by
  cases a with
  | load b i =>
    have h1 : ¬ i < 0 := by simp only [A.ok] at h; omega
    refine ACalls.q fun q hq => fn_of Tab.mixed Tryz.func70 rfl rfl rfl ?_
    simp -implicitDefEqProofs [encA]
    refine alloc fun b1 hb1 => ?_
    simp -implicitDefEqProofs [h1, size0]
    refine alloc fun b2 hb2 => ?_
    obtain ⟨n1, hb2'⟩ := none_of_set hb2
    simp -implicitDefEqProofs [n1, Ne.symm n1]
    refine hq _ _ ⟨rfl, ?_⟩
    repeat first | exact Sub.refl _ | refine sub_set ?_ hb1 | refine sub_set ?_ hb2'
  | store b i w =>
    have h1 : ¬ i < 0 := by simp only [A.ok] at h; omega
    refine ACalls.q fun q hq => fn_of Tab.mixed Tryz.func70 rfl rfl rfl ?_
    simp -implicitDefEqProofs [encA]
    refine alloc fun b1 hb1 => ?_
    simp -implicitDefEqProofs [h1, size0]
    refine alloc fun b2 hb2 => ?_
    obtain ⟨n1, hb2'⟩ := none_of_set hb2
    simp -implicitDefEqProofs [n1, Ne.symm n1]
    refine hq _ _ ⟨rfl, ?_⟩
    repeat first | exact Sub.refl _ | refine sub_set ?_ hb1 | refine sub_set ?_ hb2'
  | swap b i w =>
    have h1 : ¬ i < 0 := by simp only [A.ok] at h; omega
    refine ACalls.q fun q hq => fn_of Tab.mixed Tryz.func70 rfl rfl rfl ?_
    simp -implicitDefEqProofs [encA]
    refine alloc fun b1 hb1 => ?_
    simp -implicitDefEqProofs [h1, size0]
    refine alloc fun b2 hb2 => ?_
    obtain ⟨n1, hb2'⟩ := none_of_set hb2
    simp -implicitDefEqProofs [n1, Ne.symm n1]
    refine hq _ _ ⟨rfl, ?_⟩
    repeat first | exact Sub.refl _ | refine sub_set ?_ hb1 | refine sub_set ?_ hb2'
  | make n t =>
    have h1 : ¬ n < 0 := by simp only [A.ok] at h; omega
    have h2 : ¬ 4096 < (t.size : Int) := by simp only [A.ok] at h; omega
    refine ACalls.q fun q hq => fn_of Tab.mixed Tryz.func70 rfl rfl rfl ?_
    simp -implicitDefEqProofs [encA]
    refine alloc fun b1 hb1 => ?_
    simp -implicitDefEqProofs [h1, h2]
    refine alloc fun b2 hb2 => ?_
    obtain ⟨n1, hb2'⟩ := none_of_set hb2
    simp -implicitDefEqProofs [n1, Ne.symm n1]
    refine hq _ _ ⟨rfl, ?_⟩
    repeat first | exact Sub.refl _ | refine sub_set ?_ hb1 | refine sub_set ?_ hb2'
  | words b =>
    refine ACalls.q fun q hq => fn_of Tab.mixed Tryz.func70 rfl rfl rfl ?_
    simp -implicitDefEqProofs [encA]
    refine alloc fun b1 hb1 => ?_
    simp -implicitDefEqProofs [size0]
    refine alloc fun b2 hb2 => ?_
    obtain ⟨n1, hb2'⟩ := none_of_set hb2
    simp -implicitDefEqProofs [n1, Ne.symm n1]
    refine hq _ _ ⟨rfl, ?_⟩
    repeat first | exact Sub.refl _ | refine sub_set ?_ hb1 | refine sub_set ?_ hb2'
  | drop b =>
    refine ACalls.q fun q hq => fn_of Tab.mixed Tryz.func70 rfl rfl rfl ?_
    simp -implicitDefEqProofs [encA]
    refine alloc fun b1 hb1 => ?_
    simp -implicitDefEqProofs [size0]
    refine alloc fun b2 hb2 => ?_
    obtain ⟨n1, hb2'⟩ := none_of_set hb2
    simp -implicitDefEqProofs [n1, Ne.symm n1]
    refine hq _ _ ⟨rfl, ?_⟩
    repeat first | exact Sub.refl _ | refine sub_set ?_ hb1 | refine sub_set ?_ hb2'
  | lock =>
    refine ACalls.q fun q hq => fn_of Tab.mixed Tryz.func70 rfl rfl rfl ?_
    simp -implicitDefEqProofs [encA]
    refine alloc fun b1 hb1 => ?_
    simp -implicitDefEqProofs [size0]
    refine alloc fun b2 hb2 => ?_
    obtain ⟨n1, hb2'⟩ := none_of_set hb2
    simp -implicitDefEqProofs [n1, Ne.symm n1]
    refine hq _ _ ⟨rfl, ?_⟩
    repeat first | exact Sub.refl _ | refine sub_set ?_ hb1 | refine sub_set ?_ hb2'
  | unlock =>
    refine ACalls.q fun q hq => fn_of Tab.mixed Tryz.func70 rfl rfl rfl ?_
    simp -implicitDefEqProofs [encA]
    refine alloc fun b1 hb1 => ?_
    simp -implicitDefEqProofs [size0]
    refine alloc fun b2 hb2 => ?_
    obtain ⟨n1, hb2'⟩ := none_of_set hb2
    simp -implicitDefEqProofs [n1, Ne.symm n1]
    refine hq _ _ ⟨rfl, ?_⟩
    repeat first | exact Sub.refl _ | refine sub_set ?_ hb1 | refine sub_set ?_ hb2'

/-- may it go on? -/
def A.ready (a : A) (H : Hp) : Bool := match a with
  | .lock => !H.locked
  | _ => true

theorem ready_spec (σ : Sto) (hb m : Nat) (bs : List Nat) (H : Hp) (h : HpAt σ hb m bs H) (a : A) (ha : a.ok) :
    ACalls Tryz.prog 54 [.ptr hb 0, .agg (encA a)] σ (fun r σ' => r = boo (a.ready H) ∧ Sub σ σ') := by
  have key : ∀ (k b i o n : Int) (t : ByteArray), encA a = rowA k b i o n t → k ≠ 10 → (a.ready H = if k = 8 then !H.locked else true) →
      ACalls Tryz.prog 54 [.ptr hb 0, .agg (encA a)] σ (fun r σ' => r = boo (a.ready H) ∧ Sub σ σ') := by
    intro k b i o n t he hk hr
    have hrt := fun σ => right_spec σ a ha
    rw [he] at hrt
    rw [he]
    refine ACalls.q fun q hq => fn_of Tab.mixed Tryz.func54 rfl rfl rfl ?_
    simp -implicitDefEqProofs
    refine alloc fun b1 hb1 => ?_
    simp -implicitDefEqProofs
    refine (hrt _).mono ?_
    rintro r σ1 ⟨rfl, hs1⟩
    have k1 := hs1 b1 (.cells (rowA k b i o n t)) (by simp)
    have hs : Sub σ σ1 := (sub_set (Sub.refl σ) hb1).trans hs1
    by_cases h8 : k = 8
    · rw [if_pos h8] at hr
      simp -implicitDefEqProofs [k1, h8]
      refine (locked_spec σ1 hb m bs H (h.of_sub hs)).mono ?_
      rintro r σ2 ⟨rfl, rfl⟩
      simp -implicitDefEqProofs
      exact hq _ _ ⟨by rw [hr], hs⟩
    · rw [if_neg h8] at hr
      simp -implicitDefEqProofs [k1, h8, hk]
      exact hq _ _ ⟨by rw [hr], hs⟩
  cases a <;> exact key _ _ _ _ _ _ rfl (by decide) rfl

/-- what an act does: the heap behind it, the word and the text that it is answered; none: it would be a fault -/
def A.act (H : Hp) : A → Option (Hp × Int × ByteArray)
  | .load b i => (hfind H.blocks b).bind fun x => (x.cells[i.toNat]?).map fun w => (H, w, ⟨#[]⟩)
  | .store b i w => (hfind H.blocks b).bind fun x => if i < x.cells.length then some ({ H with blocks := hset H.blocks b { x with cells := x.cells.set i.toNat w } }, 0, ⟨#[]⟩) else none
  | .swap b i w => (hfind H.blocks b).bind fun x => (x.cells[i.toNat]?).map fun v =>
      (if v = 0 then { H with blocks := hset H.blocks b { x with cells := x.cells.set i.toNat w } } else H, v, ⟨#[]⟩)
  | .make n t => if n ≤ 256 ∧ (0 ≤ H.last ∧ H.last < 18446744073709551615) ∧ (hfind H.blocks (H.last + 1)).isNone = true then
      some ({ H with blocks := H.blocks ++ [(H.last + 1, ⟨List.replicate n.toNat 0, t⟩)], last := H.last + 1 }, H.last + 1, ⟨#[]⟩) else none
  | .words b => (hfind H.blocks b).map fun x => (H, 0, x.text)
  | .drop b => (hfind H.blocks b).map fun _ => ({ H with blocks := hdrop H.blocks b }, 0, ⟨#[]⟩)
  | .lock => if H.locked = false then some ({ H with locked := true }, 1, ⟨#[]⟩) else none
  | .unlock => if H.locked = true then some ({ H with locked := false }, 0, ⟨#[]⟩) else none

/-- words are words -/
def WordsOK (H : Hp) : Prop := ∀ b x, hfind H.blocks b = some x → ∀ w ∈ x.cells, 0 ≤ w ∧ w < 18446744073709551616

theorem HpAt.claimed {σ : Sto} {hb m : Nat} {bs : List Nat} {H : Hp} (h : HpAt σ hb m bs H) {x : Nat} (hx : σ x = none) : x ∉ hb :: m :: bs := by
  intro hm
  rcases List.mem_cons.1 hm with rfl | hm
  · rw [h.top] at hx; cases hx
  · rcases List.mem_cons.1 hm with rfl | hm
    · rw [h.map] at hx; cases hx
    · exact h.rows.claimed x hm hx
theorem Out.sub_of {σ σ1 σ' : Sto} {F : List Nat} (hs : Sub σ σ1) (h : Out F σ1 σ') : Out F σ σ' := (Out.of_sub hs).trans h

theorem do_fin {σ σ1 σ2 σ' : Sto} {hb m : Nat} {bs bs' : List Nat} {H H' : Hp} {b2 b3 : Nat} {o2 o3 : AObj} (h : HpAt σ hb m bs H) (hs : Sub σ σ1) (f2 : σ b2 = none) (f3 : σ b3 = none)
    (k2 : σ1 b2 = some o2) (k3 : σ1 b3 = some o3) (h2 : HpAt σ2 hb m bs' H') (hbs : ∀ c ∈ bs', c ∈ bs ∨ σ1 c = none) (hout : Out (hb :: m :: bs) σ1 σ2)
    (hσ : ∀ x, x ≠ b2 → x ≠ b3 → σ' x = σ2 x) : (∃ bs', (∀ c ∈ bs', c ∈ bs ∨ σ c = none) ∧ HpAt σ' hb m bs' H') ∧ Out (hb :: m :: bs) σ σ' := by
  have key : ∀ b, σ b = none → ∀ o, σ1 b = some o → b ∉ hb :: m :: bs' := by
    intro b hb0 o ho hm
    rcases List.mem_cons.1 hm with rfl | hm
    · rw [h.top] at hb0; cases hb0
    · rcases List.mem_cons.1 hm with rfl | hm
      · rw [h.map] at hb0; cases hb0
      · rcases hbs b hm with hm | hm
        · exact h.rows.claimed b hm hb0
        · rw [ho] at hm; cases hm
  have m2 := key b2 f2 _ k2
  have m3 := key b3 f3 _ k3
  refine ⟨⟨bs', fun c hc => ?_, h2.sub fun x hx o ho => ?_⟩, fun x o hx ho => ?_⟩
  · rcases hbs c hc with hc | hc
    · exact .inl hc
    · refine .inr ?_
      cases hσc : σ c with
      | none => rfl
      | some o => rw [hs c o hσc] at hc; cases hc
  · rw [hσ x (fun e => m2 (e ▸ hx)) (fun e => m3 (e ▸ hx))]; exact ho
  · rw [hσ x (ne_of ho f2) (ne_of ho f3)]; exact hout x o hx (hs x o ho)

theorem do_spec (σ : Sto) (hb m : Nat) (bs : List Nat) (H : Hp) (h : HpAt σ hb m bs H) (hw : WordsOK H) (a : A) (ha : a.ok) (H' : Hp) (w : Int) (t : ByteArray) (hd : a.act H = some (H', w, t)) :
    ACalls Tryz.prog 55 [.ptr hb 0, .agg (encA a)] σ (fun r σ' => r = .agg [u w, str t] ∧
      (∃ bs', (∀ c ∈ bs', c ∈ bs ∨ σ c = none) ∧ HpAt σ' hb m bs' H') ∧ Out (hb :: m :: bs) σ σ') := by
  cases a with
  | load b i =>
    simp only [A.act, Option.bind_eq_some_iff, Option.map_eq_some_iff] at hd
    obtain ⟨x, hx, v, hv, he⟩ := hd
    cases he
    simp only [A.ok] at ha
    refine ACalls.q fun q hq => fn_of Tab.mixed Tryz.func55 rfl rfl rfl ?_
    simp -implicitDefEqProofs [encA]
    refine alloc fun b1 hb1 => ?_
    simp -implicitDefEqProofs
    refine alloc fun b2 hb2 => ?_
    simp -implicitDefEqProofs
    refine alloc fun b3 hb3 => ?_
    obtain ⟨n21, hb2'⟩ := none_of_set hb2
    obtain ⟨n32, hb3'⟩ := none_of_set hb3
    obtain ⟨n31, hb3'⟩ := none_of_set hb3'
    simp -implicitDefEqProofs [n21, n32, n31, Ne.symm n21, Ne.symm n32, Ne.symm n31]
    generalize hσ0 : (Sto.set _ b3 _) = σ0
    have hs0 : Sub σ σ0 := by rw [← hσ0]; exact sub_set (sub_set (sub_set (Sub.refl σ) hb1) hb2') hb3'
    have j1 : σ0 b1 = some (.cells (encA (.load b i))) := by rw [← hσ0]; simp [n21, n31, Ne.symm n21, Ne.symm n31, encA]
    have j2 : σ0 b2 = some (.cells [u 0, str ⟨#[]⟩]) := by rw [← hσ0]; simp [n32, Ne.symm n32]
    have j3 : σ0 b3 = some (.cells [u 0, str ⟨#[]⟩]) := by rw [← hσ0]; simp
    refine (right_spec σ0 (.load b i) ha).mono ?_
    rintro r σ1 ⟨rfl, hs1⟩
    have k1 := hs1 _ _ j1
    have k2 := hs1 _ _ j2
    have k3 := hs1 _ _ j3
    simp only [encA] at k1
    have hh := h.of_sub (hs0.trans hs1)
    simp -implicitDefEqProofs [k1, k2, k3]
    refine (load_spec σ1 hb m bs H hh b i x hx ha w hv (hw b x hx w (List.mem_of_getElem? hv))).mono ?_
    rintro r σ2 ⟨rfl, hs2⟩
    have o1 := hs2 _ _ k1
    have o2 := hs2 _ _ k2
    have o3 := hs2 _ _ k3
    have hout : Out (hb :: m :: bs) σ1 σ2 := Out.of_sub hs2
    have h2 := hh.of_sub hs2
    have hbs : ∀ c ∈ bs, c ∈ bs ∨ σ1 c = none := fun c hc => .inl hc
    simp -implicitDefEqProofs [o1, o2, o3, n32, Ne.symm n32]
    exact hq _ _ ⟨rfl, do_fin h (hs0.trans hs1) hb2' hb3' k2 k3 h2 hbs hout fun x h2 h3 => by simp [Sto.set, h2, h3]⟩
  | store b i w0 =>
    simp only [A.act, Option.bind_eq_some_iff] at hd
    obtain ⟨x, hx, hv⟩ := hd
    split at hv
    case isFalse => cases hv
    rename_i hlt
    cases hv
    simp only [A.ok] at ha
    refine ACalls.q fun q hq => fn_of Tab.mixed Tryz.func55 rfl rfl rfl ?_
    simp -implicitDefEqProofs [encA]
    refine alloc fun b1 hb1 => ?_
    simp -implicitDefEqProofs
    refine alloc fun b2 hb2 => ?_
    simp -implicitDefEqProofs
    refine alloc fun b3 hb3 => ?_
    obtain ⟨n21, hb2'⟩ := none_of_set hb2
    obtain ⟨n32, hb3'⟩ := none_of_set hb3
    obtain ⟨n31, hb3'⟩ := none_of_set hb3'
    simp -implicitDefEqProofs [n21, n32, n31, Ne.symm n21, Ne.symm n32, Ne.symm n31]
    generalize hσ0 : (Sto.set _ b3 _) = σ0
    have hs0 : Sub σ σ0 := by rw [← hσ0]; exact sub_set (sub_set (sub_set (Sub.refl σ) hb1) hb2') hb3'
    have j1 : σ0 b1 = some (.cells (encA (.store b i w0))) := by rw [← hσ0]; simp [n21, n31, Ne.symm n21, Ne.symm n31, encA]
    have j2 : σ0 b2 = some (.cells [u 0, str ⟨#[]⟩]) := by rw [← hσ0]; simp [n32, Ne.symm n32]
    have j3 : σ0 b3 = some (.cells [u 0, str ⟨#[]⟩]) := by rw [← hσ0]; simp
    refine (right_spec σ0 (.store b i w0) ha).mono ?_
    rintro r σ1 ⟨rfl, hs1⟩
    have k1 := hs1 _ _ j1
    have k2 := hs1 _ _ j2
    have k3 := hs1 _ _ j3
    simp only [encA] at k1
    have hh := h.of_sub (hs0.trans hs1)
    simp -implicitDefEqProofs [k1, k2, k3]
    refine (store_spec σ1 hb m bs H hh b i w0 x hx ha hlt).mono ?_
    rintro r σ2 ⟨rfl, h2, hout⟩
    have o1 := hout b1 _ (h.claimed hb1) k1
    have o2 := hout b2 _ (h.claimed hb2') k2
    have o3 := hout b3 _ (h.claimed hb3') k3
    have hbs : ∀ c ∈ bs, c ∈ bs ∨ σ1 c = none := fun c hc => .inl hc
    simp -implicitDefEqProofs [o1, o2, o3, n32, Ne.symm n32]
    exact hq _ _ ⟨rfl, do_fin h (hs0.trans hs1) hb2' hb3' k2 k3 h2 hbs hout fun x h2 h3 => by simp [Sto.set, h2, h3]⟩
  | swap b i w0 =>
    simp only [A.act, Option.bind_eq_some_iff, Option.map_eq_some_iff] at hd
    obtain ⟨x, hx, v, hv, he⟩ := hd
    cases he
    simp only [A.ok] at ha
    refine ACalls.q fun q hq => fn_of Tab.mixed Tryz.func55 rfl rfl rfl ?_
    simp -implicitDefEqProofs [encA]
    refine alloc fun b1 hb1 => ?_
    simp -implicitDefEqProofs
    refine alloc fun b2 hb2 => ?_
    simp -implicitDefEqProofs
    refine alloc fun b3 hb3 => ?_
    obtain ⟨n21, hb2'⟩ := none_of_set hb2
    obtain ⟨n32, hb3'⟩ := none_of_set hb3
    obtain ⟨n31, hb3'⟩ := none_of_set hb3'
    simp -implicitDefEqProofs [n21, n32, n31, Ne.symm n21, Ne.symm n32, Ne.symm n31]
    generalize hσ0 : (Sto.set _ b3 _) = σ0
    have hs0 : Sub σ σ0 := by rw [← hσ0]; exact sub_set (sub_set (sub_set (Sub.refl σ) hb1) hb2') hb3'
    have j1 : σ0 b1 = some (.cells (encA (.swap b i w0))) := by rw [← hσ0]; simp [n21, n31, Ne.symm n21, Ne.symm n31, encA]
    have j2 : σ0 b2 = some (.cells [u 0, str ⟨#[]⟩]) := by rw [← hσ0]; simp [n32, Ne.symm n32]
    have j3 : σ0 b3 = some (.cells [u 0, str ⟨#[]⟩]) := by rw [← hσ0]; simp
    refine (right_spec σ0 (.swap b i w0) ha).mono ?_
    rintro r σ1 ⟨rfl, hs1⟩
    have k1 := hs1 _ _ j1
    have k2 := hs1 _ _ j2
    have k3 := hs1 _ _ j3
    simp only [encA] at k1
    have hh := h.of_sub (hs0.trans hs1)
    simp -implicitDefEqProofs [k1, k2, k3]
    refine (swap_spec σ1 hb m bs H hh b i w0 x hx ha w hv).mono ?_
    rintro r σ2 ⟨rfl, h2, hout⟩
    have o1 := hout b1 _ (h.claimed hb1) k1
    have o2 := hout b2 _ (h.claimed hb2') k2
    have o3 := hout b3 _ (h.claimed hb3') k3
    have hbs : ∀ c ∈ bs, c ∈ bs ∨ σ1 c = none := fun c hc => .inl hc
    simp -implicitDefEqProofs [o1, o2, o3, n32, Ne.symm n32]
    exact hq _ _ ⟨rfl, do_fin h (hs0.trans hs1) hb2' hb3' k2 k3 h2 hbs hout fun x h2 h3 => by simp [Sto.set, h2, h3]⟩
  | make n t0 =>
    simp only [A.act] at hd
    split at hd
    case isFalse => cases hd
    rename_i hc
    cases hd
    simp only [A.ok] at ha
    refine ACalls.q fun q hq => fn_of Tab.mixed Tryz.func55 rfl rfl rfl ?_
    simp -implicitDefEqProofs [encA]
    refine alloc fun b1 hb1 => ?_
    simp -implicitDefEqProofs
    refine alloc fun b2 hb2 => ?_
    simp -implicitDefEqProofs
    refine alloc fun b3 hb3 => ?_
    obtain ⟨n21, hb2'⟩ := none_of_set hb2
    obtain ⟨n32, hb3'⟩ := none_of_set hb3
    obtain ⟨n31, hb3'⟩ := none_of_set hb3'
    simp -implicitDefEqProofs [n21, n32, n31, Ne.symm n21, Ne.symm n32, Ne.symm n31]
    generalize hσ0 : (Sto.set _ b3 _) = σ0
    have hs0 : Sub σ σ0 := by rw [← hσ0]; exact sub_set (sub_set (sub_set (Sub.refl σ) hb1) hb2') hb3'
    have j1 : σ0 b1 = some (.cells (encA (.make n t0))) := by rw [← hσ0]; simp [n21, n31, Ne.symm n21, Ne.symm n31, encA]
    have j2 : σ0 b2 = some (.cells [u 0, str ⟨#[]⟩]) := by rw [← hσ0]; simp [n32, Ne.symm n32]
    have j3 : σ0 b3 = some (.cells [u 0, str ⟨#[]⟩]) := by rw [← hσ0]; simp
    refine (right_spec σ0 (.make n t0) ha).mono ?_
    rintro r σ1 ⟨rfl, hs1⟩
    have k1 := hs1 _ _ j1
    have k2 := hs1 _ _ j2
    have k3 := hs1 _ _ j3
    simp only [encA] at k1
    have hh := h.of_sub (hs0.trans hs1)
    simp -implicitDefEqProofs [k1, k2, k3]
    refine (make_spec σ1 hb m bs H hh n t0 ha.1 hc.1 hc.2.1 (by simpa using hc.2.2)).mono ?_
    rintro r σ2 ⟨rfl, c, hc0, h2, hout⟩
    have o1 := hout b1 _ (h.claimed hb1) k1
    have o2 := hout b2 _ (h.claimed hb2') k2
    have o3 := hout b3 _ (h.claimed hb3') k3
    have hbs : ∀ x ∈ bs ++ [c], x ∈ bs ∨ σ1 x = none := fun x hx => (List.mem_append.1 hx).imp id fun e => by rw [List.mem_singleton.1 e]; exact hc0
    simp -implicitDefEqProofs [o1, o2, o3, n32, Ne.symm n32]
    exact hq _ _ ⟨rfl, do_fin h (hs0.trans hs1) hb2' hb3' k2 k3 h2 hbs hout fun x h2 h3 => by simp [Sto.set, h2, h3]⟩
  | words b =>
    simp only [A.act, Option.map_eq_some_iff] at hd
    obtain ⟨x, hx, he⟩ := hd
    cases he
    simp only [A.ok] at ha
    refine ACalls.q fun q hq => fn_of Tab.mixed Tryz.func55 rfl rfl rfl ?_
    simp -implicitDefEqProofs [encA]
    refine alloc fun b1 hb1 => ?_
    simp -implicitDefEqProofs
    refine alloc fun b2 hb2 => ?_
    simp -implicitDefEqProofs
    refine alloc fun b3 hb3 => ?_
    obtain ⟨n21, hb2'⟩ := none_of_set hb2
    obtain ⟨n32, hb3'⟩ := none_of_set hb3
    obtain ⟨n31, hb3'⟩ := none_of_set hb3'
    simp -implicitDefEqProofs [n21, n32, n31, Ne.symm n21, Ne.symm n32, Ne.symm n31]
    generalize hσ0 : (Sto.set _ b3 _) = σ0
    have hs0 : Sub σ σ0 := by rw [← hσ0]; exact sub_set (sub_set (sub_set (Sub.refl σ) hb1) hb2') hb3'
    have j1 : σ0 b1 = some (.cells (encA (.words b))) := by rw [← hσ0]; simp [n21, n31, Ne.symm n21, Ne.symm n31, encA]
    have j2 : σ0 b2 = some (.cells [u 0, str ⟨#[]⟩]) := by rw [← hσ0]; simp [n32, Ne.symm n32]
    have j3 : σ0 b3 = some (.cells [u 0, str ⟨#[]⟩]) := by rw [← hσ0]; simp
    refine (right_spec σ0 (.words b) ha).mono ?_
    rintro r σ1 ⟨rfl, hs1⟩
    have k1 := hs1 _ _ j1
    have k2 := hs1 _ _ j2
    have k3 := hs1 _ _ j3
    simp only [encA] at k1
    have hh := h.of_sub (hs0.trans hs1)
    simp -implicitDefEqProofs [k1, k2, k3]
    refine (words_spec σ1 hb m bs H hh b x hx).mono ?_
    rintro r σ2 ⟨rfl, hs2⟩
    have o1 := hs2 _ _ k1
    have o2 := hs2 _ _ k2
    have o3 := hs2 _ _ k3
    have hout : Out (hb :: m :: bs) σ1 σ2 := Out.of_sub hs2
    have h2 := hh.of_sub hs2
    have hbs : ∀ c ∈ bs, c ∈ bs ∨ σ1 c = none := fun c hc => .inl hc
    simp -implicitDefEqProofs [o1, o2, o3, n32, Ne.symm n32]
    exact hq _ _ ⟨rfl, do_fin h (hs0.trans hs1) hb2' hb3' k2 k3 h2 hbs hout fun x h2 h3 => by simp [Sto.set, h2, h3]⟩
  | drop b =>
    simp only [A.act, Option.map_eq_some_iff] at hd
    obtain ⟨x, hx, he⟩ := hd
    cases he
    simp only [A.ok] at ha
    refine ACalls.q fun q hq => fn_of Tab.mixed Tryz.func55 rfl rfl rfl ?_
    simp -implicitDefEqProofs [encA]
    refine alloc fun b1 hb1 => ?_
    simp -implicitDefEqProofs
    refine alloc fun b2 hb2 => ?_
    simp -implicitDefEqProofs
    refine alloc fun b3 hb3 => ?_
    obtain ⟨n21, hb2'⟩ := none_of_set hb2
    obtain ⟨n32, hb3'⟩ := none_of_set hb3
    obtain ⟨n31, hb3'⟩ := none_of_set hb3'
    simp -implicitDefEqProofs [n21, n32, n31, Ne.symm n21, Ne.symm n32, Ne.symm n31]
    generalize hσ0 : (Sto.set _ b3 _) = σ0
    have hs0 : Sub σ σ0 := by rw [← hσ0]; exact sub_set (sub_set (sub_set (Sub.refl σ) hb1) hb2') hb3'
    have j1 : σ0 b1 = some (.cells (encA (.drop b))) := by rw [← hσ0]; simp [n21, n31, Ne.symm n21, Ne.symm n31, encA]
    have j2 : σ0 b2 = some (.cells [u 0, str ⟨#[]⟩]) := by rw [← hσ0]; simp [n32, Ne.symm n32]
    have j3 : σ0 b3 = some (.cells [u 0, str ⟨#[]⟩]) := by rw [← hσ0]; simp
    refine (right_spec σ0 (.drop b) ha).mono ?_
    rintro r σ1 ⟨rfl, hs1⟩
    have k1 := hs1 _ _ j1
    have k2 := hs1 _ _ j2
    have k3 := hs1 _ _ j3
    simp only [encA] at k1
    have hh := h.of_sub (hs0.trans hs1)
    simp -implicitDefEqProofs [k1, k2, k3]
    refine (drop_spec σ1 hb m bs H hh b x hx).mono ?_
    rintro r σ2 ⟨rfl, ⟨bs', hbs', h2⟩, hout⟩
    have o1 := hout b1 _ (h.claimed hb1) k1
    have o2 := hout b2 _ (h.claimed hb2') k2
    have o3 := hout b3 _ (h.claimed hb3') k3
    have hbs : ∀ c ∈ bs', c ∈ bs ∨ σ1 c = none := fun c hc => .inl (hbs' c hc)
    simp -implicitDefEqProofs [o1, o2, o3, n32, Ne.symm n32]
    exact hq _ _ ⟨rfl, do_fin h (hs0.trans hs1) hb2' hb3' k2 k3 h2 hbs hout fun x h2 h3 => by simp [Sto.set, h2, h3]⟩
  | lock =>
    simp only [A.act] at hd
    split at hd
    case isFalse => cases hd
    rename_i hc
    cases hd
    simp only [A.ok] at ha
    refine ACalls.q fun q hq => fn_of Tab.mixed Tryz.func55 rfl rfl rfl ?_
    simp -implicitDefEqProofs [encA]
    refine alloc fun b1 hb1 => ?_
    simp -implicitDefEqProofs
    refine alloc fun b2 hb2 => ?_
    simp -implicitDefEqProofs
    refine alloc fun b3 hb3 => ?_
    obtain ⟨n21, hb2'⟩ := none_of_set hb2
    obtain ⟨n32, hb3'⟩ := none_of_set hb3
    obtain ⟨n31, hb3'⟩ := none_of_set hb3'
    simp -implicitDefEqProofs [n21, n32, n31, Ne.symm n21, Ne.symm n32, Ne.symm n31]
    generalize hσ0 : (Sto.set _ b3 _) = σ0
    have hs0 : Sub σ σ0 := by rw [← hσ0]; exact sub_set (sub_set (sub_set (Sub.refl σ) hb1) hb2') hb3'
    have j1 : σ0 b1 = some (.cells (encA (.lock))) := by rw [← hσ0]; simp [n21, n31, Ne.symm n21, Ne.symm n31, encA]
    have j2 : σ0 b2 = some (.cells [u 0, str ⟨#[]⟩]) := by rw [← hσ0]; simp [n32, Ne.symm n32]
    have j3 : σ0 b3 = some (.cells [u 0, str ⟨#[]⟩]) := by rw [← hσ0]; simp
    refine (right_spec σ0 (.lock) ha).mono ?_
    rintro r σ1 ⟨rfl, hs1⟩
    have k1 := hs1 _ _ j1
    have k2 := hs1 _ _ j2
    have k3 := hs1 _ _ j3
    simp only [encA] at k1
    have hh := h.of_sub (hs0.trans hs1)
    simp -implicitDefEqProofs [k1, k2, k3]
    refine (lock_spec σ1 hb m bs H hh hc).mono ?_
    rintro r σ2 ⟨rfl, h2, hout⟩
    have o1 := hout b1 _ (h.claimed hb1) k1
    have o2 := hout b2 _ (h.claimed hb2') k2
    have o3 := hout b3 _ (h.claimed hb3') k3
    have hbs : ∀ c ∈ bs, c ∈ bs ∨ σ1 c = none := fun c hc => .inl hc
    simp -implicitDefEqProofs [o1, o2, o3, n32, Ne.symm n32]
    exact hq _ _ ⟨rfl, do_fin h (hs0.trans hs1) hb2' hb3' k2 k3 h2 hbs hout fun x h2 h3 => by simp [Sto.set, h2, h3]⟩
  | unlock =>
    simp only [A.act] at hd
    split at hd
    case isFalse => cases hd
    rename_i hc
    cases hd
    simp only [A.ok] at ha
    refine ACalls.q fun q hq => fn_of Tab.mixed Tryz.func55 rfl rfl rfl ?_
    simp -implicitDefEqProofs [encA]
    refine alloc fun b1 hb1 => ?_
    simp -implicitDefEqProofs
    refine alloc fun b2 hb2 => ?_
    simp -implicitDefEqProofs
    refine alloc fun b3 hb3 => ?_
    obtain ⟨n21, hb2'⟩ := none_of_set hb2
    obtain ⟨n32, hb3'⟩ := none_of_set hb3
    obtain ⟨n31, hb3'⟩ := none_of_set hb3'
    simp -implicitDefEqProofs [n21, n32, n31, Ne.symm n21, Ne.symm n32, Ne.symm n31]
    generalize hσ0 : (Sto.set _ b3 _) = σ0
    have hs0 : Sub σ σ0 := by rw [← hσ0]; exact sub_set (sub_set (sub_set (Sub.refl σ) hb1) hb2') hb3'
    have j1 : σ0 b1 = some (.cells (encA (.unlock))) := by rw [← hσ0]; simp [n21, n31, Ne.symm n21, Ne.symm n31, encA]
    have j2 : σ0 b2 = some (.cells [u 0, str ⟨#[]⟩]) := by rw [← hσ0]; simp [n32, Ne.symm n32]
    have j3 : σ0 b3 = some (.cells [u 0, str ⟨#[]⟩]) := by rw [← hσ0]; simp
    refine (right_spec σ0 (.unlock) ha).mono ?_
    rintro r σ1 ⟨rfl, hs1⟩
    have k1 := hs1 _ _ j1
    have k2 := hs1 _ _ j2
    have k3 := hs1 _ _ j3
    simp only [encA] at k1
    have hh := h.of_sub (hs0.trans hs1)
    simp -implicitDefEqProofs [k1, k2, k3]
    refine (unlock_spec σ1 hb m bs H hh hc).mono ?_
    rintro r σ2 ⟨rfl, h2, hout⟩
    have o1 := hout b1 _ (h.claimed hb1) k1
    have o2 := hout b2 _ (h.claimed hb2') k2
    have o3 := hout b3 _ (h.claimed hb3') k3
    have hbs : ∀ c ∈ bs, c ∈ bs ∨ σ1 c = none := fun c hc => .inl hc
    simp -implicitDefEqProofs [o1, o2, o3, n32, Ne.symm n32]
    exact hq _ _ ⟨rfl, do_fin h (hs0.trans hs1) hb2' hb3' k2 k3 h2 hbs hout fun x h2 h3 => by simp [Sto.set, h2, h3]⟩
end Go.Proofs.YtkbpnnbdfikjhaaGreat

/- Where everything stands. -/
namespace Go.Proofs.YtkbpnnbdfikjhaaGreat
open Go Go.Aw
set_option linter.unusedVariables false
set_option linter.unusedSimpArgs false
set_option maxRecDepth 10000

/-- a function that only looks: what it made is forgotten -/
theorem ACalls.ro {f : FuncId} {args : List AV} {σ : Sto} {p : AV → Prop} (h : ∀ q : AV → Sto → Prop, (∀ r σ', p r → Sub σ σ' → q r σ') → ACalls Tryz.prog f args σ q) :
    ACalls Tryz.prog f args σ (fun r σ' => p r ∧ σ' = σ) :=
  ACalls.drop (h _ fun r σ' hp hs => ⟨σ, hs, hp, rfl⟩)
theorem ACalls.same {f : FuncId} {args : List AV} {σ : Sto} {p : AV → Prop} (h : ACalls Tryz.prog f args σ (fun r σ' => p r ∧ Sub σ σ')) : ACalls Tryz.prog f args σ (fun r σ' => p r ∧ σ' = σ) :=
  ACalls.drop (h.mono fun r σ' ⟨hp, hs⟩ => ⟨σ, hs, hp, rfl⟩)

structure Cfg where
  cap : Int
  pins : Int
  shelves : Int
  queue : Int
  watchers : Int
  seed : Int

abbrev rowC (c : Cfg) : List AV := [i64 c.cap, i64 c.pins, i64 c.shelves, i64 c.queue, i64 c.watchers, u c.seed]
def within (n a b : Int) : Bool := decide (a ≤ n) && decide (n ≤ b)
def Cfg.right (c : Cfg) : Bool := within c.cap 1 32 && within c.pins 1 8 && within c.shelves 1 64 && within c.queue 0 64 && within c.watchers 0 8
def Cfg.ring (c : Cfg) : Int := 3 + c.pins
def Cfg.base (c : Cfg) : Int := 3 + c.pins + c.cap
def Cfg.pin (c : Cfg) (i : Int) : Int := 3 + i
def Cfg.key (c : Cfg) (s : Int) : Int := 3 + c.pins + c.cap + 2 * s
def Cfg.head (c : Cfg) (s : Int) : Int := 3 + c.pins + c.cap + 2 * s + 1
def Cfg.size (c : Cfg) : Int := 3 + c.pins + c.cap + 2 * c.shelves

theorem Cfg.bounds {c : Cfg} (h : c.right = true) : (1 ≤ c.cap ∧ c.cap ≤ 32) ∧ (1 ≤ c.pins ∧ c.pins ≤ 8) ∧ (1 ≤ c.shelves ∧ c.shelves ≤ 64) ∧ (0 ≤ c.queue ∧ c.queue ≤ 64) ∧ (0 ≤ c.watchers ∧ c.watchers ≤ 8) := by
  simp only [Cfg.right, within, Bool.and_eq_true, decide_eq_true_eq] at h
  obtain ⟨⟨⟨⟨h1, h2⟩, h3⟩, h4⟩, h5⟩ := h
  exact ⟨h1, h2, h3, h4, h5⟩

theorem within_spec (σ : Sto) (n a b : Int) : ACalls Tryz.prog 21 [i64 n, i64 a, i64 b] σ (fun r σ' => r = boo (within n a b) ∧ σ' = σ) := by
  refine ACalls.q fun q hq => fn_of Tab.mixed Tryz.func21 rfl rfl rfl ?_
  by_cases h1 : a ≤ n
  · simp -implicitDefEqProofs [h1]
    exact hq _ _ ⟨by simp [within, h1], rfl⟩
  · simp -implicitDefEqProofs [h1]
    exact hq _ _ ⟨by simp [within, h1], rfl⟩

theorem cright_spec (σ : Sto) (c : Cfg) : ACalls Tryz.prog 5 [.agg (rowC c)] σ (fun r σ' => r = boo c.right ∧ σ' = σ) := by
  refine ACalls.ro fun q hq => fn_of Tab.mixed Tryz.func5 rfl rfl rfl ?_
  simp -implicitDefEqProofs
  refine alloc fun b1 hb1 => ?_
  have hs := sub_set (o := .cells (rowC c)) (Sub.refl σ) hb1
  simp -implicitDefEqProofs
  refine (within_spec _ _ _ _).mono ?_
  rintro r σ' ⟨rfl, rfl⟩
  cases h1 : within c.cap 1 32
  · simp -implicitDefEqProofs
    exact hq _ _ (by simp [Cfg.right, h1]) hs
  simp -implicitDefEqProofs
  refine (within_spec _ _ _ _).mono ?_
  rintro r σ' ⟨rfl, rfl⟩
  cases h2 : within c.pins 1 8
  · simp -implicitDefEqProofs
    exact hq _ _ (by simp [Cfg.right, h2]) hs
  simp -implicitDefEqProofs
  refine (within_spec _ _ _ _).mono ?_
  rintro r σ' ⟨rfl, rfl⟩
  cases h3 : within c.shelves 1 64
  · simp -implicitDefEqProofs
    exact hq _ _ (by simp [Cfg.right, h3]) hs
  simp -implicitDefEqProofs
  refine (within_spec _ _ _ _).mono ?_
  rintro r σ' ⟨rfl, rfl⟩
  cases h4 : within c.queue 0 64
  · simp -implicitDefEqProofs
    exact hq _ _ (by simp [Cfg.right, h4]) hs
  simp -implicitDefEqProofs
  refine (within_spec _ _ _ _).mono ?_
  rintro r σ' ⟨rfl, rfl⟩
  simp -implicitDefEqProofs
  exact hq _ _ (by simp [Cfg.right, h1, h2, h3, h4]) hs

theorem ring_spec (σ : Sto) (c : Cfg) (h : c.right = true) : ACalls Tryz.prog 51 [.agg (rowC c)] σ (fun r σ' => r = i64 c.ring ∧ σ' = σ) := by
  obtain ⟨h1, h2, h3, h4, h5⟩ := c.bounds h
  refine ACalls.ro fun q hq => fn_of Tab.mixed Tryz.func51 rfl rfl rfl ?_
  simp -implicitDefEqProofs
  refine alloc fun b1 hb1 => ?_
  simp -implicitDefEqProofs
  rw [wrap_i64 (by omega) (by omega)]
  exact hq _ _ rfl (sub_set (Sub.refl σ) hb1)

theorem shelves_spec (σ : Sto) (c : Cfg) (h : c.right = true) : ACalls Tryz.prog 40 [.agg (rowC c)] σ (fun r σ' => r = i64 c.base ∧ σ' = σ) := by
  obtain ⟨h1, h2, h3, h4, h5⟩ := c.bounds h
  refine ACalls.ro fun q hq => fn_of Tab.mixed Tryz.func40 rfl rfl rfl ?_
  simp -implicitDefEqProofs
  refine alloc fun b1 hb1 => ?_
  simp -implicitDefEqProofs
  refine drawP [1] (by kernel_rfl) ?_
  simp -implicitDefEqProofs
  refine read (i64 c.ring) (fun _ => True) trivial (fun _ _ _ h => h) (fun σ _ => ?_) ?_
  · simp -implicitDefEqProofs
    exact ring_spec σ c h
  simp -implicitDefEqProofs
  rw [wrap_i64 (by simp only [Cfg.ring]; omega) (by simp only [Cfg.ring]; omega)]
  exact hq _ _ rfl (sub_set (Sub.refl σ) hb1)

theorem size_spec (σ : Sto) (c : Cfg) (h : c.right = true) : ACalls Tryz.prog 28 [.agg (rowC c)] σ (fun r σ' => r = i64 c.size ∧ σ' = σ) := by
  obtain ⟨h1, h2, h3, h4, h5⟩ := c.bounds h
  refine ACalls.ro fun q hq => fn_of Tab.mixed Tryz.func28 rfl rfl rfl ?_
  simp -implicitDefEqProofs
  refine alloc fun b1 hb1 => ?_
  simp -implicitDefEqProofs
  refine (cright_spec _ c).mono ?_
  rintro r σ' ⟨rfl, rfl⟩
  simp -implicitDefEqProofs [h]
  refine drawP [1] (by kernel_rfl) ?_
  simp -implicitDefEqProofs
  refine read (i64 c.base) (fun _ => True) trivial (fun _ _ _ h => h) (fun σ _ => ?_) ?_
  · simp -implicitDefEqProofs
    exact shelves_spec σ c h
  simp -implicitDefEqProofs
  rw [wrap_i64 (n := 2 * c.shelves) (by omega) (by omega), wrap_i64 (by simp only [Cfg.base]; omega) (by simp only [Cfg.base]; omega)]
  exact hq _ _ rfl (sub_set (Sub.refl σ) hb1)

theorem pin_spec (σ : Sto) (c : Cfg) (h : c.right = true) (i : Int) (h0 : 0 ≤ i) (hi : i < c.pins) : ACalls Tryz.prog 38 [.agg (rowC c), i64 i] σ (fun r σ' => r = i64 (c.pin i) ∧ σ' = σ) := by
  obtain ⟨h1, h2, h3, h4, h5⟩ := c.bounds h
  refine ACalls.ro fun q hq => fn_of Tab.mixed Tryz.func38 rfl rfl rfl ?_
  simp -implicitDefEqProofs
  refine alloc fun b1 hb1 => ?_
  simp -implicitDefEqProofs
  refine (cright_spec _ c).mono ?_
  rintro r σ' ⟨rfl, rfl⟩
  simp -implicitDefEqProofs [h]
  rw [wrap_i64 (by omega) (by omega)]
  refine (within_spec _ _ _ _).mono ?_
  rintro r σ' ⟨rfl, rfl⟩
  have hw : within i 0 (c.pins - 1) = true := by simp [within]; omega
  simp -implicitDefEqProofs [hw]
  rw [wrap_i64 (by omega) (by omega)]
  exact hq _ _ rfl (sub_set (Sub.refl σ) hb1)

theorem key_spec (σ : Sto) (c : Cfg) (h : c.right = true) (i : Int) (h0 : 0 ≤ i) (hi : i < c.shelves) : ACalls Tryz.prog 47 [.agg (rowC c), i64 i] σ (fun r σ' => r = i64 (c.key i) ∧ σ' = σ) := by
  obtain ⟨h1, h2, h3, h4, h5⟩ := c.bounds h
  refine ACalls.ro fun q hq => fn_of Tab.mixed Tryz.func47 rfl rfl rfl ?_
  simp -implicitDefEqProofs
  refine alloc fun b1 hb1 => ?_
  simp -implicitDefEqProofs
  refine (cright_spec _ c).mono ?_
  rintro r σ' ⟨rfl, rfl⟩
  simp -implicitDefEqProofs [h]
  rw [wrap_i64 (by omega) (by omega)]
  refine (within_spec _ _ _ _).mono ?_
  rintro r σ' ⟨rfl, rfl⟩
  have hw : within i 0 (c.shelves - 1) = true := by simp [within]; omega
  simp -implicitDefEqProofs [hw]
  refine (shelves_spec _ c h).mono ?_
  rintro r σ' ⟨rfl, rfl⟩
  simp -implicitDefEqProofs
  rw [wrap_i64 (n := 2 * i) (by omega) (by omega), wrap_i64 (by simp only [Cfg.base]; omega) (by simp only [Cfg.base]; omega)]
  exact hq _ _ rfl (sub_set (Sub.refl σ) hb1)

theorem head_spec (σ : Sto) (c : Cfg) (h : c.right = true) (i : Int) (h0 : 0 ≤ i) (hi : i < c.shelves) : ACalls Tryz.prog 35 [.agg (rowC c), i64 i] σ (fun r σ' => r = i64 (c.head i) ∧ σ' = σ) := by
  obtain ⟨h1, h2, h3, h4, h5⟩ := c.bounds h
  refine ACalls.ro fun q hq => fn_of Tab.mixed Tryz.func35 rfl rfl rfl ?_
  simp -implicitDefEqProofs
  refine alloc fun b1 hb1 => ?_
  simp -implicitDefEqProofs
  refine (key_spec _ c h i h0 hi).mono ?_
  rintro r σ' ⟨rfl, rfl⟩
  simp -implicitDefEqProofs [show (0 : Int) ≤ c.key i by simp only [Cfg.key]; omega]
  rw [wrap_i64 (by simp only [Cfg.key]; omega) (by simp only [Cfg.key]; omega)]
  exact hq _ _ rfl (sub_set (Sub.refl σ) hb1)
end Go.Proofs.YtkbpnnbdfikjhaaGreat
