/- Rows of pairs, rising by their keys. -/
import Derived.Test.YtkbpnnbdfikjhaaGreatK02Sound
import Derived.Test.YtkbpnnbdfikjhaaGreatK10Chn1
import Derived.Test.YtkbpnnbdfikjhaaGreatK11Ver1
import Derived.Test.YtkbpnnbdfikjhaaGreatK09Col1
set_option linter.unusedVariables false
set_option linter.unusedSimpArgs false
namespace Go.Proofs.YtkbpnnbdfikjhaaGreat
open Go

/-- a text comes ahead of another one -/
def bl (a b : ByteArray) : Bool := Op.bytesLess a.toList b.toList

theorem lless_irrefl : ∀ (a : List UInt8), Op.bytesLess a a = false
  | [] => rfl
  | x :: a => by simp [Op.bytesLess, lless_irrefl a]
theorem lless_trans : ∀ (a b c : List UInt8), Op.bytesLess a b = true → Op.bytesLess b c = true → Op.bytesLess a c = true
  | [], [], c, h, _ => by simp [Op.bytesLess] at h
  | [], _ :: _, [], _, h => by simp [Op.bytesLess] at h
  | [], _ :: _, _ :: _, _, _ => by simp [Op.bytesLess]
  | _ :: _, [], c, h, _ => by simp [Op.bytesLess] at h
  | _ :: _, _ :: _, [], _, h => by simp [Op.bytesLess] at h
  | x :: a, y :: b, z :: c, h1, h2 => by
    have ih := lless_trans a b c
    simp only [Op.bytesLess, Bool.or_eq_true, Bool.and_eq_true, decide_eq_true_eq, beq_iff_eq] at h1 h2 ⊢
    rcases h1 with h1 | ⟨rfl, h1⟩
    · rcases h2 with h2 | ⟨rfl, h2⟩
      · exact .inl (by simp only [UInt8.lt_iff_toNat_lt] at *; omega)
      · exact .inl h1
    · rcases h2 with h2 | ⟨rfl, h2⟩
      · exact .inl h2
      · exact .inr ⟨rfl, ih h1 h2⟩
theorem lless_total : ∀ (a b : List UInt8), Op.bytesLess a b = false → Op.bytesLess b a = false → a = b
  | [], [], _, _ => rfl
  | [], _ :: _, h, _ => by simp [Op.bytesLess] at h
  | _ :: _, [], _, h => by simp [Op.bytesLess] at h
  | x :: a, y :: b, h1, h2 => by
    have ih := lless_total a b
    simp only [Op.bytesLess, Bool.or_eq_false_iff, Bool.and_eq_false_iff, decide_eq_false_iff_not, beq_eq_false_iff_ne] at h1 h2
    have hxy : x = y := by
      have g1 := h1.1
      have g2 := h2.1
      simp only [UInt8.lt_iff_toNat_lt] at g1 g2
      exact UInt8.toNat_inj.1 (by omega)
    subst hxy
    have k1 : Op.bytesLess a b = false := h1.2.resolve_left (by simp)
    have k2 : Op.bytesLess b a = false := h2.2.resolve_left (by simp)
    rw [ih k1 k2]
theorem bl_irrefl (a : ByteArray) : bl a a = false := lless_irrefl _
theorem bl_trans {a b c : ByteArray} (h : bl a b = true) (h' : bl b c = true) : bl a c = true := lless_trans _ _ _ h h'
theorem bl_total {a b : ByteArray} (h : bl a b = false) (h' : bl b a = false) : a = b := Go.Aw.toList_inj (lless_total _ _ h h')
theorem bl_asymm {a b : ByteArray} (h : bl a b = true) : bl b a = false := by
  cases hb : bl b a with
  | false => rfl
  | true => have := bl_trans h hb; rw [bl_irrefl] at this; cases this

abbrev Pr := ByteArray × ByteArray
/-- rising by the keys -/
def Srt (l : List Pr) : Prop := l.Pairwise fun x y => bl x.1 y.1 = true
def tput : List Pr → ByteArray → ByteArray → List Pr
  | [], k, v => [(k, v)]
  | x :: l, k, v => if bl x.1 k = true then x :: tput l k v else if x.1 = k then (k, v) :: l else (k, v) :: x :: l

theorem mem_tput {k v : ByteArray} {p : Pr} : ∀ {l : List Pr}, Srt l → (p ∈ tput l k v ↔ p = (k, v) ∨ (p ∈ l ∧ p.1 ≠ k))
  | [], _ => by simp [tput]
  | x :: l, h => by
    have hs := List.pairwise_cons.1 h
    have ih := mem_tput (k := k) (v := v) (p := p) hs.2
    simp only [tput]
    split
    · rename_i hx
      have hne : x.1 ≠ k := fun e => by rw [e, bl_irrefl] at hx; cases hx
      simp only [List.mem_cons, ih]
      constructor
      · rintro (rfl | h | h)
        · exact .inr ⟨.inl rfl, hne⟩
        · exact .inl h
        · exact .inr ⟨.inr h.1, h.2⟩
      · rintro (h | ⟨rfl | h, h'⟩)
        · exact .inr (.inl h)
        · exact .inl rfl
        · exact .inr (.inr ⟨h, h'⟩)
    · rename_i hx
      have hgt : ∀ y ∈ l, x.1 = k ∨ bl k x.1 = true → y.1 ≠ k := fun y hy hk e => by
        have h1 := hs.1 y hy
        rw [e] at h1
        exact hx h1
      split
      · rename_i he
        simp only [List.mem_cons]
        constructor
        · rintro (h | h)
          · exact .inl h
          · exact .inr ⟨.inr h, hgt p h (.inl he)⟩
        · rintro (h | ⟨rfl | h, h'⟩)
          · exact .inl h
          · exact absurd he h'
          · exact .inr h
      · rename_i he
        have hk : bl k x.1 = true := by
          cases hb : bl k x.1 with
          | true => rfl
          | false => exact absurd (bl_total (by simpa using hx) hb) he
        simp only [List.mem_cons]
        constructor
        · rintro (h | rfl | h)
          · exact .inl h
          · exact .inr ⟨.inl rfl, he⟩
          · exact .inr ⟨.inr h, hgt p h (.inr hk)⟩
        · rintro (h | ⟨rfl | h, h'⟩)
          · exact .inl h
          · exact .inr (.inl rfl)
          · exact .inr (.inr h)

theorem srt_tput {k v : ByteArray} : ∀ {l : List Pr}, Srt l → Srt (tput l k v)
  | [], _ => by simp [tput, Srt]
  | x :: l, h => by
    have hs := List.pairwise_cons.1 h
    have ih := srt_tput (k := k) (v := v) hs.2
    simp only [tput]
    split
    · rename_i hx
      refine List.pairwise_cons.2 ⟨fun y hy => ?_, ih⟩
      rcases (mem_tput hs.2).1 hy with rfl | ⟨h1, _⟩
      · exact hx
      · exact hs.1 y h1
    · rename_i hx
      split
      · rename_i he
        refine List.pairwise_cons.2 ⟨fun y hy => ?_, hs.2⟩
        have := hs.1 y hy
        rw [he] at this; exact this
      · rename_i he
        have hk : bl k x.1 = true := by
          cases hb : bl k x.1 with
          | true => rfl
          | false => exact absurd (bl_total (by simpa using hx) hb) he
        refine List.pairwise_cons.2 ⟨fun y hy => ?_, h⟩
        rcases List.mem_cons.1 hy with rfl | hy
        · exact hk
        · exact bl_trans hk (hs.1 y hy)

theorem srt_ext : ∀ {a b : List Pr}, Srt a → Srt b → (∀ p, p ∈ a ↔ p ∈ b) → a = b
  | [], [], _, _, _ => rfl
  | [], y :: b, _, _, h => by have := (h y).2 (by simp); simp at this
  | x :: a, [], _, _, h => by have := (h x).1 (by simp); simp at this
  | x :: a, y :: b, ha, hb, h => by
    have h1 := List.pairwise_cons.1 ha
    have h2 := List.pairwise_cons.1 hb
    have hxy : x = y := by
      rcases List.mem_cons.1 ((h x).1 (by simp)) with e | hx
      · exact e
      · rcases List.mem_cons.1 ((h y).2 (by simp)) with e | hy
        · exact e.symm
        · have g1 := h1.1 y hy
          have g2 := h2.1 x hx
          rw [bl_asymm g1] at g2; cases g2
    subst hxy
    congr 1
    refine srt_ext h1.2 h2.2 fun p => ?_
    constructor
    · intro hp
      rcases List.mem_cons.1 ((h p).1 (by simp [hp])) with rfl | h'
      · have := h1.1 p hp; rw [bl_irrefl] at this; cases this
      · exact h'
    · intro hp
      rcases List.mem_cons.1 ((h p).2 (by simp [hp])) with rfl | h'
      · have := h2.1 p hp; rw [bl_irrefl] at this; cases this
      · exact h'

theorem tput_at {k v : ByteArray} : ∀ {l : List Pr} {i : Nat}, Srt l → i ≤ l.length → (∀ p x, p < i → l[p]? = some x → bl x.1 k = true) → (∀ p x, i ≤ p → l[p]? = some x → bl x.1 k = false) →
    tput l k v = l.take i ++ (k, v) :: l.drop (if (l[i]?).map (·.1) = some k then i + 1 else i)
  | [], i, _, hi, _, _ => by
    have : i = 0 := by simpa using hi
    subst this; simp [tput]
  | x :: l, 0, h, _, _, h2 => by
    have hx := h2 0 x (by omega) rfl
    simp only [tput, hx, Bool.false_eq_true, if_false, List.getElem?_cons_zero, Option.map_some, Option.some.injEq, List.take_zero, List.nil_append]
    by_cases he : x.1 = k
    · simp [he]
    · simp [he]
  | x :: l, i + 1, h, hi, h1, h2 => by
    have hx := h1 0 x (by omega) rfl
    have ih := tput_at (k := k) (v := v) (l := l) (i := i) (List.pairwise_cons.1 h).2 (by simpa using hi) (fun p y hp hy => h1 (p + 1) y (by omega) (by simpa using hy)) (fun p y hp hy => h2 (p + 1) y (by omega) (by simpa using hy))
    simp only [tput, hx, if_true, ih, List.getElem?_cons_succ, List.take_succ_cons, List.cons_append, List.cons.injEq, true_and]
    split <;> simp

/-- all pairs of a row, put in -/
def pairsOf (l : List Pr) : List Pr := l.foldl (fun t e => tput t e.1 e.2) []
theorem pairsOf_spec : ∀ (l t : List Pr), Srt t → (l.map (·.1)).Nodup → (∀ p ∈ t, p.1 ∉ l.map (·.1)) →
    Srt (l.foldl (fun t e => tput t e.1 e.2) t) ∧ ∀ p, p ∈ l.foldl (fun t e => tput t e.1 e.2) t ↔ p ∈ t ∨ p ∈ l
  | [], t, ht, _, _ => ⟨ht, fun p => by simp⟩
  | e :: l, t, ht, hn, hd => by
    have hn' := List.nodup_cons.1 hn
    have h1 := pairsOf_spec l (tput t e.1 e.2) (srt_tput ht) hn'.2 (fun p hp => by
      rcases (mem_tput ht).1 hp with rfl | ⟨h1, h2⟩
      · exact hn'.1
      · exact fun h => hd p h1 (by simp only [List.map_cons, List.mem_cons]; exact .inr h))
    refine ⟨h1.1, fun p => ?_⟩
    rw [List.foldl_cons, h1.2 p, mem_tput ht]
    simp only [List.mem_cons]
    constructor
    · rintro ((rfl | ⟨h, _⟩) | h)
      · exact .inr (.inl rfl)
      · exact .inl h
      · exact .inr (.inr h)
    · rintro (h | rfl | h)
      · refine .inl (.inr ⟨h, fun e' => hd p h ?_⟩)
        rw [e']; simp
      · exact .inl (.inl rfl)
      · exact .inr h
theorem pairsOf_perm {a b : List Pr} (h : ∀ p, p ∈ a ↔ p ∈ b) (ha : (a.map (·.1)).Nodup) (hb : (b.map (·.1)).Nodup) : pairsOf a = pairsOf b := by
  have h1 := pairsOf_spec a [] (by simp [Srt]) ha (by simp)
  have h2 := pairsOf_spec b [] (by simp [Srt]) hb (by simp)
  refine srt_ext h1.1 h2.1 fun p => ?_
  have e1 := h1.2 p
  have e2 := h2.2 p
  simp only [List.not_mem_nil, false_or] at e1 e2
  exact e1.trans ((h p).trans e2.symm)
end Go.Proofs.YtkbpnnbdfikjhaaGreat

/- A view: begun, asked, told. -/
namespace Go.Proofs.YtkbpnnbdfikjhaaGreat
open Go Go.Aw
set_option linter.unusedVariables false
set_option linter.unusedSimpArgs false
set_option maxRecDepth 10000

inductive VSt where
  | pins (p : Pn) | keys | texts | reads (x : Chn) | frees | done
def VSt.num : VSt → Int
  | .pins _ => 1 | .keys => 2 | .texts => 3 | .reads _ => 4 | .frees => 5 | .done => 6
structure Vw where
  st : VSt
  acts : Int
  pin : Int
  epoch : Int
  shelf : Int
  block : Int
  key : ByteArray
  seen : List Pr
  pairs : List Pr
  mark : Int
abbrev encPr (x : Pr) : List AV := [str x.1, str x.2]
def encSeen (l : List Pr) : List (Value × AV) := l.map fun x => (.string x.1, .agg (encPr x))
abbrev rowVw (c : Cfg) (part acts : Int) (pa : AV) (pin epoch shelf block : Int) (key : ByteArray) (ca : AV) (m : Nat) (pairs : AV) (mark : Int) : List AV :=
  [i64 c.cap, i64 c.pins, i64 c.shelves, i64 c.queue, i64 c.watchers, u c.seed, i64 part, i64 acts, pa, i64 pin, u epoch, boo false, i64 shelf, u block, str key, ca, .sc (.map (some m)),
    i64 0, i64 0, i64 0, boo false, str ⟨#[]⟩, pairs, i64 0, .slice .clip [], i64 mark, u 0]

/-- what belongs to a state -/
def VwPart (c : Cfg) (σ : Sto) (x : Vw) (pa ca : AV) (m : Nat) (F : List Nat) : Prop := match x.st with
  | .pins p => ∃ pb, pa = .ptr pb 0 ∧ σ pb = some (.cells (rowP c p)) ∧ σ m = some (.map (encSeen x.seen)) ∧ F = [m, pb]
  | .reads y => ∃ cb, ca = .ptr cb 0 ∧ σ cb = some (.cells (rowV y)) ∧ σ m = some (.map (encSeen x.seen)) ∧ F = [m, cb]
  | .done => F = []
  | _ => σ m = some (.map (encSeen x.seen)) ∧ F = [m]
structure VwAt (σ : Sto) (b : Nat) (c : Cfg) (x : Vw) (F : List Nat) : Prop where
  row : ∃ pa ca m tp, σ b = some (.cells (rowVw c x.st.num x.acts pa x.pin x.epoch x.shelf x.block x.key ca m (.slice tp (x.pairs.map encPr)) x.mark)) ∧ VwPart c σ x pa ca m F
  nb : b ∉ F
theorem VwPart.sub {c : Cfg} {σ σ' : Sto} {x : Vw} {pa ca : AV} {m : Nat} {F : List Nat} (h : VwPart c σ x pa ca m F) (hs : ∀ y ∈ F, ∀ o, σ y = some o → σ' y = some o) : VwPart c σ' x pa ca m F := by
  obtain ⟨st, acts, pin, epoch, shelf, block, key, seen, pairs, mark⟩ := x
  cases st <;> simp only [VwPart] at h ⊢ <;> try exact h
  · obtain ⟨fb, h1, h2, h3, rfl⟩ := h
    exact ⟨fb, h1, hs fb (by simp) _ h2, hs m (by simp) _ h3, rfl⟩
  · obtain ⟨h3, rfl⟩ := h
    exact ⟨hs m (by simp) _ h3, rfl⟩
  · obtain ⟨h3, rfl⟩ := h
    exact ⟨hs m (by simp) _ h3, rfl⟩
  · obtain ⟨fb, h1, h2, h3, rfl⟩ := h
    exact ⟨fb, h1, hs fb (by simp) _ h2, hs m (by simp) _ h3, rfl⟩
  · obtain ⟨h3, rfl⟩ := h
    exact ⟨hs m (by simp) _ h3, rfl⟩
theorem VwAt.sub {σ σ' : Sto} {b : Nat} {c : Cfg} {x : Vw} {F : List Nat} (h : VwAt σ b c x F) (hs : ∀ y ∈ b :: F, ∀ o, σ y = some o → σ' y = some o) : VwAt σ' b c x F := by
  obtain ⟨pa, ca, m, tp, h1, h2⟩ := h.row
  exact ⟨⟨pa, ca, m, tp, hs b (by simp) _ h1, h2.sub fun y hy => hs y (by simp [hy])⟩, h.nb⟩
theorem VwAt.of_sub {σ σ' : Sto} {b : Nat} {c : Cfg} {x : Vw} {F : List Nat} (h : VwAt σ b c x F) (hs : Sub σ σ') : VwAt σ' b c x F := h.sub fun y _ o => hs y o

def Vw.new (c : Cfg) (t : Int) : Vw := ⟨.pins (Pn.new c t), 0, 0, 0, 0, 0, ⟨#[]⟩, [], [], 0⟩

theorem vwnew_spec (σ : Sto) (c : Cfg) (hc : c.right = true) (t : Int) (h0 : 0 ≤ t) :
    ACalls Tryz.prog 13 [.agg (rowC c), i64 t] σ (fun r σ' => ∃ b F, r = .ptr b 0 ∧ σ b = none ∧ VwAt σ' b c (Vw.new c t) F ∧ Sub σ σ' ∧ ∀ z ∈ F, σ z = none) := by
  have hpn := fun σ => pnnew_spec σ c hc t h0
  refine ACalls.q fun q hq => fn_of Tab.mixed Tryz.func13 rfl rfl rfl ?_
  simp -implicitDefEqProofs
  refine alloc fun b1 hb1 => ?_
  simp -implicitDefEqProofs
  refine (cright_spec _ c).mono ?_
  rintro r σ' ⟨rfl, rfl⟩
  simp -implicitDefEqProofs [hc, show ¬ t < 0 by omega]
  refine drawW [0, 1] [1003] (b1 + 1) (List.range 8) (by kernel_rfl) ?_
  simp -implicitDefEqProofs
  refine readB (st := [1003]) (.agg (rowC c)) b1 (rowC c) (by omega) (by simp [Sto.set]) (fun σ l h => by simp -implicitDefEqProofs [h]) ?_
  simp -implicitDefEqProofs
  refine readB (st := [1003]) (.agg (rowC c)) b1 (rowC c) (by omega) (by simp [Sto.set]) (fun σ l h => by simp -implicitDefEqProofs [h]) ?_
  simp -implicitDefEqProofs
  refine alc (rowP c (Pn.new c t)) (fun σ k hk => ?_) fun b2 hb2 => ?_
  · simp -implicitDefEqProofs
    refine ACalls.drop ((hpn σ).mono ?_)
    rintro r σ' ⟨b, rfl, h1, h2, h3⟩
    refine ⟨σ.set b (.cells (rowP c (Pn.new c t))), fun y o hy => ?_, hk b h1⟩
    by_cases hyb : y = b
    · subst hyb; simp [Sto.set] at hy; rw [h2, hy]
    · rw [set_ne hyb] at hy; exact h3 y o hy
  obtain ⟨n21, f2⟩ := none_of_set hb2
  simp -implicitDefEqProofs
  intro b3 hb3
  refine alloc fun b4 hb4 => ?_
  have n32 : b3 ≠ b2 := fun e => by rw [if_pos e] at hb3; cases hb3
  rw [if_neg n32] at hb3
  have n31 : b3 ≠ b1 := fun e => by rw [if_pos e] at hb3; cases hb3
  rw [if_neg n31] at hb3
  have f3 : σ b3 = none := hb3
  obtain ⟨n43, hb4'⟩ := none_of_set hb4
  obtain ⟨n42, hb4a⟩ := none_of_set hb4'
  obtain ⟨n41, f4⟩ := none_of_set hb4a
  simp -implicitDefEqProofs
  refine hq _ _ ⟨b4, [b3, b2], rfl, f4, ⟨⟨.ptr b2 0, .sc (.pointer none), b3, .clip, by simp [Sto.set, Vw.new, VSt.num, rowVw], b2, rfl, ?_, ?_, rfl⟩, by simp [n43, n42]⟩, ?_, by simp [f2, f3]⟩
  · rw [set_ne (Ne.symm n42), set_ne (Ne.symm n32)]; simp [Sto.set]
  · rw [set_ne (Ne.symm n43)]; simp [Sto.set, encSeen, Vw.new]
  · repeat first | exact Sub.refl _ | refine sub_set ?_ hb1 | refine sub_set ?_ f2 | refine sub_set ?_ f3 | refine sub_set ?_ f4

/-- the next act -/
def Vw.act (c : Cfg) (x : Vw) : Option A := match x.st with
  | .pins p => p.act c
  | .keys => some (.load 1 (c.key x.shelf))
  | .texts => some (.words x.block)
  | .reads y => y.act
  | .frees => some (.store 1 (c.pin x.pin) 0)
  | .done => none
/-- what a state must be -/
def VOk (c : Cfg) (x : Vw) : Prop := (0 ≤ x.acts ∧ x.acts ≤ 1000000) ∧ match x.st with
  | .pins p => (0 ≤ p.first ∧ p.first < c.pins) ∧ (0 ≤ p.epoch ∧ p.epoch + 1 < 18446744073709551616) ∧ p.part ≠ .done ∧ x.shelf = 0
  | .keys | .texts => 0 ≤ x.shelf ∧ x.shelf < c.shelves
  | .reads y => (0 ≤ x.shelf ∧ x.shelf < c.shelves) ∧ y.part ≠ .done
  | .frees => 0 ≤ x.pin ∧ x.pin < c.pins
  | .done => True

theorem vwact_spec (σ : Sto) (b : Nat) (c : Cfg) (hc : c.right = true) (x : Vw) (F : List Nat) (h : VwAt σ b c x F) (ho : VOk c x) :
    ACalls Tryz.prog 103 [.ptr b 0] σ (fun r σ' => r = actAV (x.act c) ∧ σ' = σ) := by
  obtain ⟨hac, hst⟩ := ho
  obtain ⟨pa, ca, m, tp, hx, hp⟩ := h.row
  obtain ⟨st, acts, pin, epoch, shelf, block, key, seen, pairs, mark⟩ := x
  cases st
  case pins p =>
    obtain ⟨pb, rfl, hpb, hm, rfl⟩ := hp
    obtain ⟨p1, p2, p3, p4⟩ := hst
    have hpa := fun σ hx => pnact_spec σ pb c hc p hx p1.1 p1.2 p2
    obtain ⟨a, ha⟩ : ∃ a, p.act c = some a := by obtain ⟨_, part, _, _⟩ := p; cases part <;> first | exact ⟨_, rfl⟩ | exact absurd rfl p3
    obtain ⟨ek, eb, ei, eo, en, et, ea⟩ := encA_row a
    simp only [ha, actAV, ea] at hpa
    refine ACalls.ro fun q hq => fn_of Tab.mixed Tryz.func103 rfl rfl rfl ?_
    simp -implicitDefEqProofs
    refine alloc fun b1 hb1 => ?_
    have n1 := ne_of hx hb1
    simp -implicitDefEqProofs [hx, n1, VSt.num]
    refine (hpa _ (by rw [set_ne (ne_of hpb hb1)]; exact hpb)).mono ?_
    rintro r σ' ⟨rfl, rfl⟩
    simp -implicitDefEqProofs
    refine hq _ _ (by simp [Vw.act, ha, actAV, ea]) ?_
    repeat first | exact Sub.refl _ | refine sub_set ?_ hb1
  case reads y =>
    obtain ⟨cb, rfl, hcb, hm, rfl⟩ := hp
    obtain ⟨p1, p2⟩ := hst
    have hya := fun σ hx => chnact_spec σ cb y hx
    obtain ⟨a, ha⟩ : ∃ a, y.act = some a := by obtain ⟨_, _, _, part, _, _, _, _⟩ := y; cases part <;> first | exact ⟨_, rfl⟩ | exact absurd rfl p2
    obtain ⟨ek, eb, ei, eo, en, et, ea⟩ := encA_row a
    simp only [ha, actAV, ea] at hya
    refine ACalls.ro fun q hq => fn_of Tab.mixed Tryz.func103 rfl rfl rfl ?_
    simp -implicitDefEqProofs
    refine alloc fun b1 hb1 => ?_
    have n1 := ne_of hx hb1
    simp -implicitDefEqProofs [hx, n1, VSt.num]
    refine (hya _ (by rw [set_ne (ne_of hcb hb1)]; exact hcb)).mono ?_
    rintro r σ' ⟨rfl, rfl⟩
    simp -implicitDefEqProofs
    refine hq _ _ (by simp [Vw.act, ha, actAV, ea]) ?_
    repeat first | exact Sub.refl _ | refine sub_set ?_ hb1
  case keys =>
    have hkey := fun σ => key_spec σ c hc shelf hst.1 hst.2
    refine ACalls.ro fun q hq => fn_of Tab.mixed Tryz.func103 rfl rfl rfl ?_
    simp -implicitDefEqProofs
    refine alloc fun b1 hb1 => ?_
    have n1 := ne_of hx hb1
    simp -implicitDefEqProofs [hx, n1, VSt.num]
    refine drawP [8] (by kernel_rfl) ?_
    simp -implicitDefEqProofs [hx, n1]
    refine read (i64 (c.key shelf)) (fun _ => True) trivial (fun _ _ _ h => h) (fun σ _ => ?_) ?_
    · simp -implicitDefEqProofs
      exact hkey σ
    simp -implicitDefEqProofs
    refine hq _ _ (by simp [Vw.act, actAV, encA]) ?_
    repeat first | exact Sub.refl _ | refine sub_set ?_ hb1
  case frees =>
    have hfree := fun σ => pnfree_spec σ c hc pin hst.1 hst.2
    refine ACalls.ro fun q hq => fn_of Tab.mixed Tryz.func103 rfl rfl rfl ?_
    simp -implicitDefEqProofs
    refine alloc fun b1 hb1 => ?_
    have n1 := ne_of hx hb1
    simp -implicitDefEqProofs [hx, n1, VSt.num]
    refine drawP [9] (by kernel_rfl) ?_
    simp -implicitDefEqProofs [hx, n1]
    refine read (.agg (encA (.store 1 (c.pin pin) 0))) (fun _ => True) trivial (fun _ _ _ h => h) (fun σ _ => ?_) ?_
    · simp -implicitDefEqProofs
      exact hfree σ
    simp -implicitDefEqProofs [encA]
    refine hq _ _ (by simp [Vw.act, actAV, encA]) ?_
    repeat first | exact Sub.refl _ | refine sub_set ?_ hb1
  all_goals
    refine ACalls.ro fun q hq => fn_of Tab.mixed Tryz.func103 rfl rfl rfl ?_
    simp -implicitDefEqProofs
    refine alloc fun b1 hb1 => ?_
    have n1 := ne_of hx hb1
    simp -implicitDefEqProofs [hx, n1, VSt.num]
    refine hq _ _ (by simp [Vw.act, actAV, encA]) ?_
    repeat first | exact Sub.refl _ | refine sub_set ?_ hb1
end Go.Proofs.YtkbpnnbdfikjhaaGreat

/- A view: its helpers, and what it tells. -/
namespace Go.Proofs.YtkbpnnbdfikjhaaGreat
open Go Go.Aw
set_option linter.unusedVariables false
set_option linter.unusedSimpArgs false
set_option maxRecDepth 10000

theorem vwnext_spec (σ : Sto) (b : Nat) (c : Cfg) (hc : c.right = true) (part acts : Int) (pa : AV) (pin epoch shelf block : Int) (key : ByteArray) (ca : AV) (m : Nat) (pairs : AV) (mark : Int)
    (hx : σ b = some (.cells (rowVw c part acts pa pin epoch shelf block key ca m pairs mark))) (hs : 0 ≤ shelf ∧ shelf < c.shelves) :
    ACalls Tryz.prog 105 [.ptr b 0] σ (fun r σ' => r = .tuple [] ∧ σ' = σ.set b (.cells (rowVw c (if shelf + 1 = c.shelves then 5 else 2) acts pa pin epoch (shelf + 1) block key ca m pairs mark))) := by
  obtain ⟨h1, h2, h3, h4, h5⟩ := c.bounds hc
  have e1 : IntKind.i64.wrap (shelf + 1) = shelf + 1 := wrap_i64 (by omega) (by omega)
  have e2 : IntKind.i64.wrap c.shelves = c.shelves := wrap_i64 (by omega) (by omega)
  by_cases he : shelf + 1 = c.shelves
  · refine ACalls.q fun q hq => fn_of Tab.mixed Tryz.func105 rfl rfl rfl ?_
    simp -implicitDefEqProofs [hx, e1]
    refine draw (by kernel_rfl) ?_
    simp -implicitDefEqProofs [hx, e1, he, e2]
    exact hq _ _ ⟨rfl, by simp [he]⟩
  · refine ACalls.q fun q hq => fn_of Tab.mixed Tryz.func105 rfl rfl rfl ?_
    simp -implicitDefEqProofs [hx, e1]
    refine draw (by kernel_rfl) ?_
    simp -implicitDefEqProofs [hx, e1, he]
    exact hq _ _ ⟨rfl, by simp [he]⟩

theorem vwpinned_spec (σ : Sto) (b pb : Nat) (c : Cfg) (p : Pn) (part acts pin epoch shelf block : Int) (key : ByteArray) (ca : AV) (m : Nat) (pairs : AV) (mark : Int)
    (hx : σ b = some (.cells (rowVw c part acts (.ptr pb 0) pin epoch shelf block key ca m pairs mark))) (hp : σ pb = some (.cells (rowP c p))) (hbp : b ≠ pb) :
    ACalls Tryz.prog 110 [.ptr b 0] σ (fun r σ' => r = .tuple [] ∧ σ' = if p.part = .done then σ.set b (.cells (rowVw c 2 acts (.ptr pb 0) p.pin p.epoch shelf block key ca m pairs acts)) else σ) := by
  have hr := fun σ hp => pnresult_spec σ pb c p hp
  by_cases hd : p.part = .done
  · simp only [hd, if_true] at hr ⊢
    refine ACalls.to fun q hq => fn_of Tab.mixed Tryz.func110 rfl rfl rfl ?_
    simp -implicitDefEqProofs [hx]
    refine (hr _ hp).mono ?_
    rintro r σ' ⟨rfl, rfl⟩
    simp -implicitDefEqProofs
    refine alloc fun b1 hb1 => ?_
    have n1 := ne_of hx hb1
    simp -implicitDefEqProofs
    refine draw (by kernel_rfl) ?_
    simp -implicitDefEqProofs [hx, n1, Ne.symm n1]
    refine hq _ _ rfl ?_
    intro y o hy
    simp only [Sto.set] at hy ⊢
    by_cases hyb : y = b
    · simpa [hyb] using hy
    · simp only [hyb, if_false] at hy ⊢
      rw [if_neg (ne_of hy hb1)]; exact hy
  · simp only [hd, if_false] at hr ⊢
    refine ACalls.ro fun q hq => fn_of Tab.mixed Tryz.func110 rfl rfl rfl ?_
    simp -implicitDefEqProofs [hx]
    refine (hr _ hp).mono ?_
    rintro r σ' ⟨rfl, rfl⟩
    simp -implicitDefEqProofs
    refine alloc fun b1 hb1 => ?_
    simp -implicitDefEqProofs
    exact hq _ _ rfl (sub_set' (Sub.refl _) hb1)

theorem sub_set2 {σ τ : Sto} {x : Nat} {o : AObj} (h : Sub σ τ) : Sub (σ.set x o) (τ.set x o) := fun y p hy => by
  simp only [Sto.set] at hy ⊢
  split
  · rename_i e; rw [if_pos e] at hy; exact hy
  · rename_i e; rw [if_neg e] at hy; exact h y p hy

/-- a key's value is seen -/
def sput : List Pr → ByteArray → ByteArray → List Pr
  | [], k, v => [(k, v)]
  | x :: l, k, v => if k = x.1 then (x.1, v) :: l else x :: sput l k v

theorem keys_seen (l : List Pr) : keysOK .str (encSeen l) := by
  intro e he
  simp only [encSeen, List.mem_map] at he
  obtain ⟨x, _, rfl⟩ := he
  simp [keyV]
theorem mput_seen (k v : ByteArray) : ∀ (l : List Pr), mput (encSeen l) (.string k) (.agg [str k, str v]) = encSeen (sput l k v)
  | [] => rfl
  | x :: l => by
    have ih := mput_seen k v l
    simp only [encSeen, List.map_cons, mput, valEq, sput, decide_eq_true_eq] at ih ⊢
    by_cases h : k = x.1
    · rw [if_pos h, if_pos h]; simp [h]
    · rw [if_neg h, if_neg h]; simp [ih]

theorem vwread_spec (σ : Sto) (b cb : Nat) (c : Cfg) (hc : c.right = true) (y : Chn) (part acts : Int) (pa : AV) (pin epoch shelf block : Int) (key : ByteArray) (m : Nat) (pairs : AV) (mark : Int) (seen : List Pr)
    (hx : σ b = some (.cells (rowVw c part acts pa pin epoch shelf block key (.ptr cb 0) m pairs mark))) (hy : σ cb = some (.cells (rowV y))) (hm : σ m = some (.map (encSeen seen))) (hbc : b ≠ cb) (hs : 0 ≤ shelf ∧ shelf < c.shelves) :
    ACalls Tryz.prog 113 [.ptr b 0] σ (fun r σ' => r = .tuple [] ∧ σ' = if y.part = .done then
      (if y.has = true then σ.set m (.map (encSeen (sput seen key y.text))) else σ).set b (.cells (rowVw c (if shelf + 1 = c.shelves then 5 else 2) acts pa pin epoch (shelf + 1) block key (.ptr cb 0) m pairs mark)) else σ) := by
  have hr := fun σ hp => chnresult_spec σ cb y hp
  have hbm : b ≠ m := fun e => by rw [e, hm] at hx; cases hx
  have hput := mput_seen key y.text seen
  have hks := keys_seen seen
  by_cases hd : y.part = .done
  · simp only [hd, if_true] at hr ⊢
    by_cases hh : y.has = true
    · simp only [hh, if_true] at hr ⊢
      refine ACalls.to fun q hq => fn_of Tab.mixed Tryz.func113 rfl rfl rfl ?_
      simp -implicitDefEqProofs [hx]
      refine (hr _ hy).mono ?_
      rintro r σ' ⟨rfl, rfl⟩
      simp -implicitDefEqProofs
      refine alloc fun b1 hb1 => ?_
      have n1 := ne_of hx hb1
      have m1 := ne_of hm hb1
      simp -implicitDefEqProofs
      refine draw (by kernel_rfl) ?_
      simp -implicitDefEqProofs [hx, hm, n1, Ne.symm n1, m1, aMapUpdate]
      refine ⟨hks, ?_⟩
      rw [show mput (encSeen seen) (Value.string key) (AV.agg [AV.sc (Value.string key), AV.sc (Value.string y.text)]) = _ from hput]
      refine (vwnext_spec _ b c hc part acts pa pin epoch shelf block key (.ptr cb 0) m pairs mark (by rw [set_ne hbm, set_ne n1]; exact hx) hs).mono ?_
      rintro r σ2 ⟨rfl, rfl⟩
      simp -implicitDefEqProofs
      refine hq _ _ rfl ?_
      exact sub_set2 (sub_set2 (sub_set' (Sub.refl _) hb1))
    · simp only [hh, if_false] at hr ⊢
      refine ACalls.to fun q hq => fn_of Tab.mixed Tryz.func113 rfl rfl rfl ?_
      simp -implicitDefEqProofs [hx]
      refine (hr _ hy).mono ?_
      rintro r σ' ⟨rfl, rfl⟩
      simp -implicitDefEqProofs
      refine alloc fun b1 hb1 => ?_
      have n1 := ne_of hx hb1
      simp -implicitDefEqProofs [hh]
      refine (vwnext_spec _ b c hc part acts pa pin epoch shelf block key (.ptr cb 0) m pairs mark (by rw [set_ne n1]; exact hx) hs).mono ?_
      rintro r σ2 ⟨rfl, rfl⟩
      simp -implicitDefEqProofs
      refine hq _ _ rfl ?_
      exact sub_set2 (sub_set' (Sub.refl _) hb1)
  · simp only [hd, if_false] at hr ⊢
    refine ACalls.ro fun q hq => fn_of Tab.mixed Tryz.func113 rfl rfl rfl ?_
    simp -implicitDefEqProofs [hx]
    refine (hr _ hy).mono ?_
    rintro r σ' ⟨rfl, rfl⟩
    simp -implicitDefEqProofs
    refine alloc fun b1 hb1 => ?_
    simp -implicitDefEqProofs
    exact hq _ _ rfl (sub_set' (Sub.refl _) hb1)

theorem vwresult_spec (σ : Sto) (b : Nat) (c : Cfg) (x : Vw) (F : List Nat) (h : VwAt σ b c x F) (hl : x.pairs.length ≤ 1000) :
    ACalls Tryz.prog 14 [.ptr b 0] σ (fun r σ' => (if x.st.num = 6 then ∃ t, r = .tuple [.agg (rowT 0 (.slice t (x.pairs.map encPr)) x.mark), boo true] else ∃ tt, r = .tuple [tt, boo false]) ∧ σ' = σ) := by
  obtain ⟨pa, ca, m, tp, hx, hp⟩ := h.row
  obtain ⟨st, acts, pin, epoch, shelf, block, key, seen, pairs, mark⟩ := x
  have h3 : ∀ r ∈ pairs.map encPr, r.length = 2 := fun r hr => by obtain ⟨x, _, rfl⟩ := List.mem_map.1 hr; rfl
  have h4 : ∀ r ∈ pairs.map encPr, r.all AV.one = true := fun r hr => by obtain ⟨x, _, rfl⟩ := List.mem_map.1 hr; rfl
  cases st
  case done =>
    refine ACalls.ro fun q hq => fn_of Tab.mixed Tryz.func14 rfl rfl rfl ?_
    simp -implicitDefEqProofs
    refine alloc fun b1 hb1 => ?_
    have n1 := ne_of hx hb1
    simp -implicitDefEqProofs [hx, n1, VSt.num]
    refine alloc fun b2 hb2 => ?_
    obtain ⟨n21, f2⟩ := none_of_set hb2
    simp -implicitDefEqProofs [n21, Ne.symm n21]
    refine aAppend_own Tab.elem46 (by omega) (by simp at hl ⊢; omega) (by simp) h3 h4 trivial fun tok σ' ho hm => ?_
    have g1 := hm.keep b1 _ (by simp [fp]) (show _ = some _ by rw [set_ne (Ne.symm n21)]; simp [Sto.set]; rfl)
    have g2 := hm.keep b2 _ (by simp [fp]) (show _ = some _ by simp [Sto.set]; rfl)
    simp -implicitDefEqProofs [g1, g2, n21, Ne.symm n21]
    refine hq _ _ (by simp [VSt.num]) fun y o hy => ?_
    rw [set_ne (ne_of hy hb1), set_ne (ne_of hy f2)]
    exact hm.keep y o (by simp [fp]) (by rw [set_ne (ne_of hy f2), set_ne (ne_of hy hb1)]; exact hy)
  all_goals
    refine ACalls.ro fun q hq => fn_of Tab.mixed Tryz.func14 rfl rfl rfl ?_
    simp -implicitDefEqProofs
    refine alloc fun b1 hb1 => ?_
    have n1 := ne_of hx hb1
    simp -implicitDefEqProofs [hx, n1, VSt.num]
    refine hq _ _ (by simp [VSt.num]) ?_
    repeat first | exact Sub.refl _ | refine sub_set ?_ hb1
end Go.Proofs.YtkbpnnbdfikjhaaGreat
