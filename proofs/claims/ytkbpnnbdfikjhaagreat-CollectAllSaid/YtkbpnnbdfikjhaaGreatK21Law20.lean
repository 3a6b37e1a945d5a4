/- Plain: how many blocks there are. -/
import Derived.Test.YtkbpnnbdfikjhaaGreatK19Law11
import Derived.Test.YtkbpnnbdfikjhaaGreatK16Same1
import Derived.Test.YtkbpnnbdfikjhaaGreatK20Law16
namespace Go.Proofs.YtkbpnnbdfikjhaaGreat
open Go Go.Aw
set_option linter.unusedVariables false
set_option linter.unusedSimpArgs false

theorem hset_len {b : Int} {y : Blk} : ∀ (l : List (Int × Blk)), (hset l b y).length = l.length
  | [] => rfl
  | (i, x) :: l => by
    simp only [hset]
    split
    · rfl
    · simp [hset_len l]
theorem hdrop_len {b : Int} {x : Blk} : ∀ (l : List (Int × Blk)), hfind l b = some x → (hdrop l b).length + 1 = l.length
  | [], h => by simp [hfind] at h
  | (i, y) :: l, h => by
    simp only [hfind] at h
    simp only [hdrop]
    split
    · rfl
    · rename_i hne
      rw [if_neg hne] at h
      simp [hdrop_len l h]
def A.plain : A → Prop
  | .make _ _ => False
  | .drop _ => False
  | _ => True
def A.keeps : A → Prop
  | .drop _ => False
  | _ => True
theorem act_plain {a : A} (ha : a.plain) {H H' : Hp} {w : Int} {t : ByteArray} (h : a.act H = some (H', w, t)) : H'.blocks.length = H.blocks.length ∧ H'.last = H.last := by
  cases a with
  | make _ _ => exact ha.elim
  | drop _ => exact ha.elim
  | load b i =>
    simp only [A.act] at h
    cases hb : hfind H.blocks b with
    | none => rw [hb] at h; cases h
    | some x =>
      rw [hb, Option.bind_some] at h
      cases hx : x.cells[i.toNat]? with
      | none => rw [hx] at h; cases h
      | some v => rw [hx] at h; cases h; exact ⟨rfl, rfl⟩
  | store b i v =>
    simp only [A.act] at h
    cases hb : hfind H.blocks b with
    | none => rw [hb] at h; cases h
    | some x =>
      rw [hb, Option.bind_some] at h
      split at h
      · cases h; exact ⟨hset_len _, rfl⟩
      · cases h
  | swap b i v =>
    simp only [A.act] at h
    cases hb : hfind H.blocks b with
    | none => rw [hb] at h; cases h
    | some x =>
      rw [hb, Option.bind_some] at h
      cases hx : x.cells[i.toNat]? with
      | none => rw [hx] at h; cases h
      | some v =>
        rw [hx] at h
        simp only [Option.map_some, Option.some.injEq, Prod.mk.injEq] at h
        obtain ⟨rfl, -, -⟩ := h
        split
        · exact ⟨hset_len _, rfl⟩
        · exact ⟨rfl, rfl⟩
  | words b =>
    simp only [A.act] at h
    cases hb : hfind H.blocks b with
    | none => rw [hb] at h; cases h
    | some x => rw [hb] at h; cases h; exact ⟨rfl, rfl⟩
  | lock =>
    simp only [A.act] at h
    split at h <;> cases h
    exact ⟨rfl, rfl⟩
  | unlock =>
    simp only [A.act] at h
    split at h <;> cases h
    exact ⟨rfl, rfl⟩
theorem act_keeps {a : A} (ha : a.keeps) {H H' : Hp} {w : Int} {t : ByteArray} (h : a.act H = some (H', w, t)) : (H'.blocks.length : Int) - H'.last = H.blocks.length - H.last := by
  cases a with
  | drop _ => exact ha.elim
  | make n t =>
    simp only [A.act] at h
    split at h
    · cases h; simp; omega
    · cases h
  | load b i => obtain ⟨h1, h2⟩ := act_plain (a := .load b i) trivial h; rw [h1, h2]
  | store b i v => obtain ⟨h1, h2⟩ := act_plain (a := .store b i v) trivial h; rw [h1, h2]
  | swap b i v => obtain ⟨h1, h2⟩ := act_plain (a := .swap b i v) trivial h; rw [h1, h2]
  | words b => obtain ⟨h1, h2⟩ := act_plain (a := .words b) trivial h; rw [h1, h2]
  | lock => obtain ⟨h1, h2⟩ := act_plain (a := .lock) trivial h; rw [h1, h2]
  | unlock => obtain ⟨h1, h2⟩ := act_plain (a := .unlock) trivial h; rw [h1, h2]
theorem act_drop {b : Int} {H H' : Hp} {w : Int} {t : ByteArray} (h : (A.drop b).act H = some (H', w, t)) : H'.blocks.length + 1 = H.blocks.length := by
  simp only [A.act] at h
  cases hb : hfind H.blocks b with
  | none => rw [hb] at h; cases h
  | some x => rw [hb] at h; cases h; exact hdrop_len _ hb

/-- runs that make and drop nothing -/
theorem run_plain {R : Rtn} (hp : ∀ s a, R.act s = some a → a.plain) : ∀ (k : Nat) (x : Hp × R.S), (R.run k x).2.1.blocks.length = x.1.blocks.length
  | 0, x => rfl
  | k + 1, x => by
    cases hs : R.step x with
    | none => rw [(show (R.run (k + 1) x) = (0, x) by simp only [Rtn.run, hs])]
    | some y =>
      simp only [Rtn.run, hs]
      rw [run_plain hp k y]
      unfold Rtn.step at hs
      cases ha : R.act x.2 with
      | none => rw [ha] at hs; cases hs
      | some a =>
        rw [ha, Option.bind_some] at hs
        split at hs
        · cases hz : a.act x.1 with
          | none => rw [hz] at hs; cases hs
          | some z => rw [hz] at hs; simp only [Option.map_some, Option.some.injEq] at hs; subst hs; exact (act_plain (hp _ _ ha) hz).1
        · cases hs
/-- runs that drop nothing -/
theorem run_keeps {R : Rtn} {I : Nat → Hp → R.S → Prop} (hR : Ranked R I) (hp : ∀ s a, R.ok s → R.act s = some a → a.keeps) : ∀ (k n : Nat) (x : Hp × R.S), I n x.1 x.2 → ((R.run k x).2.1.blocks.length : Int) - (R.run k x).2.1.last = x.1.blocks.length - x.1.last
  | 0, n, x, _ => rfl
  | k + 1, n, x, hI => by
    obtain ⟨-, hok, h3⟩ := hR n _ _ hI
    cases ha : R.act x.2 with
    | none =>
      have hs : R.step x = none := by unfold Rtn.step; rw [ha]; rfl
      rw [show (R.run (k + 1) x) = (0, x) by simp only [Rtn.run, hs]]
    | some a =>
      obtain ⟨-, g2, H', w, t, g3, -, m, -, g5⟩ := h3 a ha
      have hs : R.step x = some (H', R.take x.2 w t) := by unfold Rtn.step; rw [ha, Option.bind_some, if_pos g2, g3]; rfl
      simp only [Rtn.run, hs]
      rw [run_keeps hR hp k m (H', R.take x.2 w t) g5]
      exact act_keeps (hp _ _ hok ha) g3
theorem view_plain (c : Cfg) (s : (viewR c).S) (a : A) (h : (viewR c).act s = some a) : a.plain := by
  obtain ⟨st, acts, pin, epoch, shelf, block, key, seen, pairs, mark⟩ := s
  cases st with
  | pins p =>
    have h : p.act c = some a := h
    obtain ⟨p1, p2, p3, p4⟩ := p
    cases p2 <;> cases h <;> exact trivial
  | reads y =>
    have h : y.act = some a := h
    obtain ⟨cell, ye, yb, part, has, text, vb, passed⟩ := y
    cases part <;> cases h <;> exact trivial
  | keys => cases h; exact trivial
  | texts => cases h; exact trivial
  | frees => cases h; exact trivial
  | done => cases h
theorem lay_keeps (c : Cfg) (ep : Int) (s : (layR c ep).S) (a : A) (hok : (layR c ep).ok s) (h : (layR c ep).act s = some a) : a.keeps := by
  obtain ⟨l, st, kind, shelf, block, laid⟩ := s
  cases st with
  | finds f =>
    have h : f.act c = some a := h
    unfold Fnd.act at h
    split at h
    · split at h <;> cases h <;> exact trivial
    · cases h
  | makes la i k =>
    obtain ⟨-, -, -, q1, q2, q3, q4, q5, q6⟩ := hok
    have h : verAct la i k = some a := h
    cases hl : la[i]? with
    | none => simp [verAct, hl] at h
    | some b =>
      by_cases hi : i = 0
      · subst hi
        obtain ⟨t, rfl⟩ := q3 b hl
        simp only [verAct, hl, Option.some.injEq] at h
        subst h; exact trivial
      · obtain ⟨j, w, rfl⟩ := q4 i b (by omega) hl
        simp only [verAct, hl, Option.some.injEq] at h
        subst h; exact trivial
  | keys =>
    clear hok
    cases l with
    | nil => cases h
    | cons ch r => cases h; exact trivial
  | heads => cases h; exact trivial
  | links => cases h; exact trivial
  | names => cases h; exact trivial
  | stamps => cases h; exact trivial
  | done => cases h
end Go.Proofs.YtkbpnnbdfikjhaaGreat

/- Plain: a collection where nobody has a pin, to the letter. -/
namespace Go.Proofs.YtkbpnnbdfikjhaaGreat
open Go Go.Aw
set_option linter.unusedVariables false
set_option linter.unusedSimpArgs false

/-- what is left of a chain -/
def trim : List Ver → List Ver
  | [] => []
  | v :: _ => if v.live = true then [v] else []
/-- what a part has of the heap; nobody has a pin, and no version is too late -/
def ColT (c : Cfg) (A0 : AH) (s0 s1 : Int) (N : Nat) (A : AH) (H : Hp) (x : Col) (o : Off) (n : Nat) : Prop := match x.part with
  | .locks => H.locked = false ∧ A.ch s0 = A0.ch s0 ∧ o.next = s0 ∧ o.limbo = [] ∧ H.blocks.length = N ∧ x.pin = 0 ∧ 2 * (A0.ch s0).length + 2 * c.pins.toNat + 8 ≤ n
  | .epochs => H.locked = true ∧ A.ch s0 = A0.ch s0 ∧ o.next = s0 ∧ o.limbo = [] ∧ H.blocks.length = N ∧ x.pin = 0 ∧ 2 * (A0.ch s0).length + 2 * c.pins.toNat + 7 ≤ n
  | .pins => H.locked = true ∧ A.ch s0 = A0.ch s0 ∧ o.next = s0 ∧ o.limbo = [] ∧ H.blocks.length = N ∧ (0 ≤ x.pin ∧ x.pin < c.pins) ∧ x.least = A0.E ∧ 2 * (A0.ch s0).length + c.pins.toNat + (c.pins - x.pin).toNat + 6 ≤ n
  | .heads => H.locked = true ∧ A.ch s0 = A0.ch s0 ∧ o.next = s0 ∧ o.limbo = [] ∧ H.blocks.length = N ∧ x.least = A0.E ∧ 2 * (A0.ch s0).length + c.pins.toNat + 6 ≤ n
  | .ages => H.locked = true ∧ A.ch s0 = A0.ch s0 ∧ o.next = s0 ∧ o.limbo = [] ∧ H.blocks.length = N ∧ x.least = A0.E ∧ ∃ v post, A0.ch s0 = v :: post ∧ x.at_ = v.id ∧ x.head = v.id ∧ 2 * post.length + c.pins.toNat + 7 ≤ n
  | .olders => H.locked = true ∧ A.ch s0 = A0.ch s0 ∧ o.next = s0 ∧ o.limbo = [] ∧ H.blocks.length = N ∧ ∃ v post, A0.ch s0 = v :: post ∧ x.at_ = v.id ∧ x.head = v.id ∧ 2 * post.length + c.pins.toNat + 6 ≤ n
  | .cuts => H.locked = true ∧ A.ch s0 = A0.ch s0 ∧ o.next = s0 ∧ o.limbo = [] ∧ H.blocks.length = N ∧ ∃ v post, A0.ch s0 = v :: post ∧ x.at_ = v.id ∧ x.head = v.id ∧ post ≠ [] ∧ x.older = headW post ∧ 2 * post.length + c.pins.toNat + 5 ≤ n
  | .nexts => H.locked = true ∧ o.next = s0 ∧ o.limbo = [] ∧ ∃ v post rest, A0.ch s0 = v :: post ∧ A.ch s0 = [v] ∧ x.at_ = v.id ∧ x.head = v.id ∧ rest ≠ [] ∧ x.older = headW rest ∧ Linked (hfind H.blocks) rest ∧ (∀ u ∈ rest, A.own u.id = .none) ∧ (rest.map (·.id)).Nodup ∧
      H.blocks.length + post.length = N + rest.length ∧ 2 * rest.length + c.pins.toNat + 4 ≤ n
  | .drops => H.locked = true ∧ o.next = s0 ∧ o.limbo = [] ∧ ∃ v post u rest, A0.ch s0 = v :: post ∧ A.ch s0 = [v] ∧ x.at_ = v.id ∧ x.head = v.id ∧ x.older = u.id ∧ Linked (hfind H.blocks) (u :: rest) ∧ (∀ w ∈ u :: rest, A.own w.id = .none) ∧ ((u :: rest).map (·.id)).Nodup ∧
      x.least = headW rest ∧ H.blocks.length + post.length = N + rest.length + 1 ∧ 2 * rest.length + c.pins.toNat + 5 ≤ n
  | .lives => H.locked = true ∧ o.next = s0 ∧ o.limbo = [] ∧ ∃ v post, A0.ch s0 = v :: post ∧ A.ch s0 = [v] ∧ x.at_ = v.id ∧ H.blocks.length + post.length = N ∧ c.pins.toNat + 4 ≤ n
  | .unlinks => H.locked = true ∧ o.next = s0 ∧ o.limbo = [] ∧ ∃ v post, A0.ch s0 = v :: post ∧ A.ch s0 = [v] ∧ x.at_ = v.id ∧ v.live = false ∧ H.blocks.length + post.length = N ∧ c.pins.toNat + 3 ≤ n
  | .again => H.locked = true ∧ o.next = s1 ∧ A.ch s0 = trim (A0.ch s0) ∧ (∃ v, A.limbo = [v]) ∧ (0 ≤ x.pin ∧ x.pin < c.pins) ∧ H.blocks.length + (A0.ch s0).length = N + (trim (A0.ch s0)).length + 1 ∧ (c.pins - x.pin).toNat + 2 ≤ n
  | .clears => H.locked = true ∧ o.next = s1 ∧ A.ch s0 = trim (A0.ch s0) ∧ (∃ v, A.limbo = [v]) ∧ H.blocks.length + (A0.ch s0).length = N + (trim (A0.ch s0)).length + 1 ∧ 2 ≤ n
  | .unlocks => H.locked = true ∧ o.next = s1 ∧ A.ch s0 = trim (A0.ch s0) ∧ A.limbo = [] ∧ H.blocks.length + (A0.ch s0).length = N + (trim (A0.ch s0)).length ∧ 1 ≤ n
  | .done => H.locked = false ∧ o.next = s1 ∧ A.ch s0 = trim (A0.ch s0) ∧ A.limbo = [] ∧ H.blocks.length + (A0.ch s0).length = N + (trim (A0.ch s0)).length
  | .passes => False
def ColJ (c : Cfg) (A0 : AH) (s0 s1 : Int) (N : Nat) (K : Int) (n : Nat) (H : Hp) (s : Col × Off) : Prop :=
  ∃ A, ColK c A0.E False A0 K H s.2 A ∧ (∀ j, j ≠ s0 → A.ch j = A0.ch j) ∧ ColT c A0 s0 s1 N A H s.1 s.2 n
/-- nobody has a pin -/
structure Free (c : Cfg) (A0 : AH) (s0 s1 : Int) : Prop where
  pin : ∀ i, 0 ≤ i → i < c.pins → A0.pin i = 0
  le : 0 ≤ A0.E ∧ A0.E < 1000000000
  ep : ∀ v ∈ A0.ch s0, v.e ≤ A0.E
  s1 : s1 = if s0 + 1 = c.shelves then 0 else s0 + 1

variable {c : Cfg} {A0 : AH} {s0 s1 : Int} {N : Nat} {K : Int}

/-- a shelf is done -/
theorem ColJ.next {H : Hp} {o : Off} {A : AH} {x : Col} {n : Nat} (hc : c.right = true) (hF : Free c A0 s0 s1) (h : ColK c A0.E False A0 K H o A) (ho : ∀ j, j ≠ s0 → A.ch j = A0.ch j) (hl : H.locked = true) (hn : o.next = s0) (hch : A.ch s0 = trim (A0.ch s0))
    (hw : (A.limbo = [] ∧ H.blocks.length + (A0.ch s0).length = N + (trim (A0.ch s0)).length) ∨ ((∃ v, A.limbo = [v]) ∧ H.blocks.length + (A0.ch s0).length = N + (trim (A0.ch s0)).length + 1)) (hr : c.pins.toNat + 3 ≤ n) :
    ∃ m, m < n ∧ ColJ c A0 s0 s1 N K m H (Col.next o x, o.step c) := by
  obtain ⟨b1, b2, b3, -, -⟩ := c.bounds hc
  have hst : (o.step c).next = s1 := by simp only [Off.step]; rw [hn, hF.s1]
  rcases hw with ⟨h1, h2⟩ | ⟨⟨v, h1⟩, h2⟩
  · have hz : o.limbo = [] := by rw [← h.lim, h1]; rfl
    refine ⟨1, by omega, A, h.step hc, ho, ?_⟩
    simp only [Col.next, hz, if_true, ColT]
    exact ⟨hl, hst, hch, h1, h2, by omega⟩
  · have hz : o.limbo ≠ [] := by rw [← h.lim, h1]; simp
    refine ⟨n - 1, by omega, A, h.step hc, ho, ?_⟩
    simp only [Col.next, hz, if_false, ColT]
    exact ⟨hl, hst, hch, ⟨v, h1⟩, by omega, h2, by omega⟩

theorem colj_ranked (hc : c.right = true) (hF : Free c A0 s0 s1) (hK0 : K < 1000000000) (ob : Nat) (mo : AV) : Ranked (colR c ob mo) (ColJ c A0 s0 s1 N K) := by
  obtain ⟨b1, b2, b3, -, -⟩ := c.bounds hc
  have hpz := hF.pin
  have hle0 := hF.le
  rintro n H ⟨⟨part, pin, least, head, at_, older, gone⟩, o⟩ ⟨G, hK, hO, hS⟩
  replace hS : ColT c A0 s0 s1 N G H ⟨part, pin, least, head, at_, older, gone⟩ o n := hS
  replace hK : ColK c A0.E False A0 K H o G := hK
  have hg := hK.hg
  have hnx := hK.nx
  have hE := hK.lat.E
  have hpin := hK.lat.pin
  have hlast := hK.last
  have hP0 : ∀ i, 0 ≤ i → i < c.pins → G.pin i = 0 := fun i i0 i1 => by rw [hpin]; exact hpz i i0 i1
  refine ⟨hg.wordsOK, ⟨fun hp => ?_, hnx, fun hp => ?_, ?_⟩, fun a ha => ?_⟩
  · rcases hp with rfl | rfl
    · obtain ⟨-, -, -, -, -, h, -⟩ := hS; exact h
    · obtain ⟨-, -, -, -, h, -⟩ := hS; exact h
  · simp only at hp; subst hp
    obtain ⟨-, -, -, ⟨v, h⟩, -⟩ := hS
    rw [← hK.lim, h]; simp
  · show o.limbo.length ≤ 1000000
    have : o.limbo.length = G.limbo.length := by rw [← hK.lim]; simp
    cases part <;> simp only [ColT] at hS <;> first
      | (obtain ⟨_, _, _, h, _⟩ := hS; rw [h]; simp; done)
      | (obtain ⟨_, _, h, _⟩ := hS; rw [h]; simp; done)
      | (obtain ⟨_, _, _, ⟨v, h⟩, _⟩ := hS; rw [this, h]; simp; done)
      | (obtain ⟨_, _, _, h, _⟩ := hS; rw [this, h]; simp; done)
  have hKl : ∀ l, ColK c A0.E False A0 K { H with locked := l } o G := fun l => ⟨hg.lock l, hK.lat, hK.lim, hnx, hK.last, hK.flt⟩
  have keepK : ∀ {H' : Hp}, HG c H' G → H'.last = H.last → H'.faults = H.faults → ColK c A0.E False A0 K H' o G := fun h1 h2 h3 => ⟨h1, hK.lat, hK.lim, hnx, by rw [h2]; exact hK.last, by rw [h3]; exact hK.flt⟩
  have limn : o.limbo = [] → G.limbo = [] := fun h => by
    have := hK.lim
    rw [h] at this
    exact List.map_eq_nil_iff.1 this
  cases part
  case passes => exact hS.elim
  case locks =>
    cases ha
    obtain ⟨h1, h2, h3, h4, h5, h0, h6⟩ := hS
    refine ⟨trivial, by simp [A.ready, h1], _, 1, _, by simp only [A.act, h1, if_true]; rfl, ⟨by omega, by simp⟩, n - 1, by omega, ?_⟩
    show ColJ c A0 s0 s1 N K (n - 1) _ (⟨.epochs, pin, least, head, at_, older, gone⟩, o)
    exact ⟨G, hKl true, hO, rfl, h2, h3, h4, h5, h0, by omega⟩
  case epochs =>
    cases ha
    obtain ⟨h1, h2, h3, h4, h5, h0, h6⟩ := hS
    simp only at h0; subst h0
    refine ⟨by simp [A.ok], rfl, H, G.E, _, hg.loadE, ⟨ep_w hg, by simp⟩, n - 1, by omega, ?_⟩
    show ColJ c A0 s0 s1 N K (n - 1) H (⟨.pins, 0, G.E, head, at_, older, gone⟩, o)
    exact ⟨G, hK, hO, h1, h2, h3, h4, h5, ⟨by simp only; omega, by simp only; omega⟩, hE, by simp only; omega⟩
  case pins =>
    cases ha
    obtain ⟨h1, h2, h3, h4, h5, h6, h7, h8⟩ := hS
    simp only at h6 h7 h8
    refine ⟨by simp only [A.ok, Cfg.pin]; omega, rfl, H, G.pin pin, _, hg.loadPin h6.1 h6.2, ⟨pin_w hg h6.1 h6.2, by simp⟩, n - 1, by omega, ?_⟩
    show ColJ c A0 s0 s1 N K (n - 1) _ (Col.scan c ⟨.pins, pin, least, head, at_, older, gone⟩ (G.pin pin), o)
    rw [hP0 pin h6.1 h6.2]
    by_cases hlast' : pin + 1 = c.pins
    · simp only [Col.scan, hlast', if_true]
      exact ⟨G, hK, hO, h1, h2, h3, h4, h5, h7, by omega⟩
    · simp only [Col.scan, hlast', if_false, if_true]
      exact ⟨G, hK, hO, h1, h2, h3, h4, h5, ⟨by simp only; omega, by simp only; omega⟩, h7, by simp only; omega⟩
  case heads =>
    cases ha
    obtain ⟨h1, h2, h3, h4, h5, h6, h7⟩ := hS
    simp only at h6; subst h6
    subst h3
    refine ⟨by simp only [A.ok, Cfg.head]; omega, rfl, H, _, _, hg.loadHead hnx.1 hnx.2, ⟨headW_w hg hnx.1 hnx.2, by simp⟩, ?_⟩
    show ∃ m, m < n ∧ ColJ c A0 o.next s1 N K m H (Col.down c o ⟨.heads, pin, A0.E, headW (G.ch o.next), at_, older, gone⟩ (headW (G.ch o.next)))
    have hz := headW_zero hg hnx.1 hnx.2 (l := G.ch o.next) (fun _ h => h)
    by_cases h0 : headW (G.ch o.next) = 0
    · simp only [Col.down, h0, if_true]
      have hcz := hz.1 h0
      rw [h2] at hcz
      exact ColJ.next hc hF hK hO h1 rfl (by rw [h2, hcz]; rfl) (.inl ⟨limn h4, by rw [hcz]; simp [trim, h5]⟩) (by omega)
    · simp only [Col.down, h0, if_false]
      cases hch : A0.ch o.next with
      | nil => rw [h2, hch] at h0; exact absurd rfl h0
      | cons v post =>
        rw [hch] at h7
        simp only [List.length_cons] at h7
        exact ⟨n - 1, by omega, G, hK, hO, h1, h2, rfl, h4, h5, rfl, v, post, hch, by rw [h2, hch]; rfl, by rw [h2, hch]; rfl, by omega⟩
  case ages =>
    cases ha
    obtain ⟨h1, h2, h3, h4, h5, h6, v, post, e, hv, hh, h7⟩ := hS
    simp only at h6 hv hh; subst h6; subst hv
    subst h3
    have e' : G.ch o.next = [] ++ v :: post := by rw [h2, e]; rfl
    have hat := hg.at hnx.1 hnx.2 e'
    obtain ⟨l0, l1, l2, l3⟩ := HG.loadV hat
    have hw := wof hg hat (w := v.e) (by simp [Ver.blk])
    refine ⟨by simp [A.ok], rfl, H, _, _, l0, ⟨hw, by simp⟩, n - 1, by omega, ?_⟩
    show ColJ c A0 o.next s1 N K (n - 1) H (⟨if A0.E < v.e then .passes else .olders, pin, A0.E, head, v.id, older, gone⟩, o)
    rw [if_neg (by have := hF.ep v (by rw [e]; simp); omega)]
    exact ⟨G, hK, hO, h1, h2, rfl, h4, h5, v, post, e, rfl, hh, by omega⟩
  case olders =>
    cases ha
    obtain ⟨h1, h2, h3, h4, h5, v, post, e, hv, hh, h7⟩ := hS
    simp only at hv hh; subst hv
    subst h3
    have e' : G.ch o.next = [] ++ v :: post := by rw [h2, e]; rfl
    have hat := hg.at hnx.1 hnx.2 e'
    obtain ⟨l0, l1, l2, l3⟩ := HG.loadV hat
    have hw := wof hg hat (w := headW post) (by simp [Ver.blk])
    refine ⟨by simp [A.ok], rfl, H, _, _, l1, ⟨hw, by simp⟩, n - 1, by omega, ?_⟩
    have hz := headW_zero hg hnx.1 hnx.2 (l := post) (fun u hu => by rw [e']; simp [hu])
    show ColJ c A0 o.next s1 N K (n - 1) H (if headW post = 0 then Col.base c o ⟨.cuts, pin, least, head, v.id, headW post, gone⟩ else (⟨.cuts, pin, least, head, v.id, headW post, gone⟩, o))
    by_cases h0 : headW post = 0
    · rw [if_pos h0]
      have hp := hz.1 h0
      subst hp
      simp only [Col.base, hh, if_true]
      exact ⟨G, hK, hO, h1, rfl, h4, v, [], e, by rw [h2, e], rfl, by simpa using h5, by omega⟩
    · rw [if_neg h0]
      exact ⟨G, hK, hO, h1, h2, rfl, h4, h5, v, post, e, rfl, hh, fun e' => h0 (hz.2 e'), rfl, by omega⟩
  case cuts =>
    cases ha
    obtain ⟨h1, h2, h3, h4, h5, v, post, e, hv, hh, hp, ho, h7⟩ := hS
    simp only at hv hh ho; subst hv
    subst h3
    have e' : G.ch o.next = [] ++ v :: post := by rw [h2, e]; rfl
    obtain ⟨H', a1, a2, a3, a4, a5, a6, a7, a8⟩ := hg.cut hnx.1 hnx.2 e'
    refine ⟨by simp [A.ok], rfl, H', _, _, a1, ⟨by omega, by simp⟩, n - 1, by omega, ?_⟩
    show ColJ c A0 o.next s1 N K (n - 1) H' (⟨.nexts, pin, least, head, v.id, older, gone⟩, o)
    have hlen := (act_plain (a := .store v.id 1 0) trivial a1).1
    refine ⟨_, ⟨a2, hK.lat.trans (Later.cut c A0.E False e' (hF.ep v (by rw [e]; simp))), hK.lim, hnx, by rw [a4]; exact hK.last, by rw [a5]; exact hK.flt⟩, fun j hj => by simp only [AH.cut, hj, if_false]; exact hO j hj, by rw [a3]; exact h1, rfl, h4, v, post, post, e, by simp [AH.cut], rfl, hh, hp, ho, a6, a7, a8, by rw [hlen, h5], by omega⟩
  case nexts =>
    cases ha
    obtain ⟨h1, h3, h4, v, post, rest, e, e1, hv, hh, hr, ho, hL', hown, hnod, h5, h7⟩ := hS
    simp only at hv hh ho; subst hv
    cases rest with
    | nil => exact absurd rfl hr
    | cons u rest =>
      simp only [headW] at ho; subst ho
      obtain ⟨l0, l1, l2, l3⟩ := HG.loadV hL'.1
      have hw := wof hg hL'.1 (w := headW rest) (by simp [Ver.blk])
      simp only [List.length_cons] at h5 h7
      refine ⟨by simp [A.ok], rfl, H, _, _, l1, ⟨hw, by simp⟩, n - 1, by omega, ?_⟩
      show ColJ c A0 s0 s1 N K (n - 1) H (⟨.drops, 0, headW rest, head, v.id, u.id, gone⟩, o)
      exact ⟨G, hK, hO, h1, h3, h4, v, post, u, rest, e, e1, rfl, hh, rfl, hL', hown, hnod, rfl, by omega, by omega⟩
  case drops =>
    cases ha
    obtain ⟨h1, h3, h4, v, post, u, rest, e, e1, hv, hh, ho, hL', hown, hnod, hl, h5, h7⟩ := hS
    simp only at hv hh ho hl; subst hv; subst ho; subst hl
    obtain ⟨H', a1, a2, a3, a4, a5, a6⟩ := hg.dropN hL'.1 (hown u (by simp))
    have hlen := act_drop a1
    have hnod' := List.nodup_cons.1 (by simpa using hnod : (u.id :: rest.map (·.id)).Nodup)
    have key : ∀ (l : List Ver), (∀ w ∈ l, w.id ≠ u.id) → Linked (hfind H.blocks) l → Linked (hfind H'.blocks) l := by
      intro l
      induction l with
      | nil => intro _ _; trivial
      | cons w r ih => intro hne hl; exact ⟨a6 _ _ (hne w (by simp)) hl.1, ih (fun z hz => hne z (by simp [hz])) hl.2⟩
    have hLr : Linked (hfind H'.blocks) rest := key rest (fun w hw e' => hnod'.1 (List.mem_map.2 ⟨w, hw, e'⟩)) hL'.2
    have hK' := keepK a2 a4 a5
    have hz : headW rest = 0 ↔ rest = [] := by
      cases rest with
      | nil => simp [headW]
      | cons w r =>
        simp only [headW, reduceCtorEq, iff_false]
        intro e'
        have := (hg.idof hL'.2.1).1
        omega
    refine ⟨by simp [A.ok], rfl, H', _, _, a1, ⟨by omega, by simp⟩, n - 1, by omega, ?_⟩
    show ColJ c A0 s0 s1 N K (n - 1) H' (if headW rest = 0 then Col.base c o ⟨.nexts, pin, headW rest, head, v.id, headW rest, IntKind.i64.wrap (gone + 1)⟩ else (⟨.nexts, pin, headW rest, head, v.id, headW rest, IntKind.i64.wrap (gone + 1)⟩, o))
    by_cases h0 : headW rest = 0
    · rw [if_pos h0]
      have hr := hz.1 h0
      subst hr
      simp only [Col.base, hh, if_true]
      simp only [List.length_nil] at h5
      exact ⟨G, hK', hO, by rw [a3]; exact h1, h3, h4, v, post, e, e1, rfl, by omega, by omega⟩
    · rw [if_neg h0]
      exact ⟨G, hK', hO, by rw [a3]; exact h1, h3, h4, v, post, rest, e, e1, rfl, hh, fun e' => h0 (hz.2 e'), rfl, hLr, fun w hw => hown w (by simp [hw]), hnod'.2, by omega, by omega⟩
  case lives =>
    cases ha
    obtain ⟨h1, h3, h4, v, post, e, e1, hv, h5, h7⟩ := hS
    simp only at hv; subst hv
    subst h3
    have hat := hg.at (pre := []) hnx.1 hnx.2 e1
    obtain ⟨l0, l1, l2, l3⟩ := HG.loadV hat
    have hw := wof hg hat (w := liveW v.live) (by simp [Ver.blk])
    refine ⟨by simp [A.ok], rfl, H, _, _, l2, ⟨hw, by simp⟩, ?_⟩
    show ∃ m, m < n ∧ ColJ c A0 o.next s1 N K m H (if liveW v.live = 0 then (⟨.unlinks, pin, least, head, v.id, older, gone⟩, o) else (Col.next o ⟨.unlinks, pin, least, head, v.id, older, gone⟩, o.step c))
    by_cases hl : v.live = true
    · rw [if_neg (by simp [liveW, hl])]
      exact ColJ.next hc hF hK hO h1 rfl (by rw [e1, e]; simp [trim, hl]) (.inl ⟨limn h4, by rw [e]; simp only [trim, hl, if_true, List.length_cons, List.length_nil]; omega⟩) (by omega)
    · rw [if_pos (by simp [liveW, hl])]
      exact ⟨n - 1, by omega, G, hK, hO, h1, rfl, h4, v, post, e, e1, rfl, by simpa using hl, h5, by omega⟩
  case unlinks =>
    cases ha
    obtain ⟨h1, h3, h4, v, post, e, e1, hv, hl, h5, h7⟩ := hS
    simp only at hv; subst hv
    subst h3
    obtain ⟨H', a1, a2, a3, a4, a5⟩ := hg.unlink hc hnx.1 hnx.2 e1
    have hlen := (act_plain (a := .store 1 (c.head o.next) 0) trivial a1).1
    refine ⟨by simp only [A.ok, Cfg.head]; omega, rfl, H', _, _, a1, ⟨by omega, by simp⟩, ?_⟩
    show ∃ m, m < n ∧ ColJ c A0 o.next s1 N K m H' (Col.next { o with limbo := o.limbo ++ [v.id] } ⟨.unlinks, pin, least, head, v.id, older, gone⟩, Off.step c { o with limbo := o.limbo ++ [v.id] })
    have hK' : ColK c A0.E False A0 K H' { o with limbo := o.limbo ++ [v.id] } (G.unlink o.next v) :=
      ⟨a2, hK.lat.trans (Later.unlink c A0.E False e1 (hF.ep v (by rw [e]; simp)) hl), by simp [AH.unlink, hK.lim], hnx, by rw [a4]; exact hK.last, by rw [a5]; exact hK.flt⟩
    have ht : trim (A0.ch o.next) = [] := by rw [e]; simp [trim, hl]
    exact ColJ.next hc hF hK' (fun j hj => by simp only [AH.unlink, hj, if_false]; exact hO j hj) (by rw [a3]; exact h1) rfl (by rw [ht]; simp [AH.unlink]) (.inr ⟨⟨v, by simp [AH.unlink, limn h4]⟩, by rw [ht, e]; simp only [List.length_cons, List.length_nil]; omega⟩) (by omega)
  case again =>
    cases ha
    obtain ⟨h1, h2, h3, h4, h5, h6, h7⟩ := hS
    simp only at h5 h7
    refine ⟨by simp only [A.ok, Cfg.pin]; omega, rfl, H, _, _, hg.loadPin h5.1 h5.2, ⟨pin_w hg h5.1 h5.2, by simp⟩, n - 1, by omega, ?_⟩
    show ColJ c A0 s0 s1 N K (n - 1) H (Col.rescan c ⟨.again, pin, least, head, at_, older, gone⟩ (G.pin pin), o)
    rw [hP0 pin h5.1 h5.2]
    by_cases hl : pin + 1 = c.pins
    · simp only [Col.rescan, hl, ne_eq, not_true_eq_false, if_false, if_true]
      exact ⟨G, hK, hO, h1, h2, h3, h4, h6, by omega⟩
    · simp only [Col.rescan, hl, ne_eq, not_true_eq_false, if_false]
      exact ⟨G, hK, hO, h1, h2, h3, h4, ⟨by simp only; omega, by simp only; omega⟩, h6, by simp only; omega⟩
  case clears =>
    obtain ⟨h1, h2, h3, ⟨v, hlm⟩, h5, h7⟩ := hS
    have hol : o.limbo = [v.id] := by rw [← hK.lim, hlm]; rfl
    have ha' : a = A.drop v.id := by
      have : (Col.act c o ⟨.clears, pin, least, head, at_, older, gone⟩) = some a := ha
      simp only [Col.act, hol, Option.some.injEq] at this
      exact this.symm
    subst ha'
    obtain ⟨u1, u2⟩ := hg.unlimbo hlm
    have hbv := (hg.lim v (by rw [hlm]; simp)).2
    obtain ⟨H', a1, a2, a3, a4, a5, a6⟩ := u1.dropN hbv u2
    have hlen := act_drop a1
    refine ⟨by simp [A.ok], rfl, H', _, _, a1, ⟨by omega, by simp⟩, n - 1, by omega, ?_⟩
    show ColJ c A0 s0 s1 N K (n - 1) H' (⟨if o.limbo.tail = [] then .unlocks else .clears, pin, least, head, at_, older, IntKind.i64.wrap (gone + 1)⟩, { o with limbo := o.limbo.tail })
    have hK' : ColK c A0.E False A0 K H' { o with limbo := o.limbo.tail } (G.unlimbo v []) :=
      ⟨a2, hK.lat.trans (Later.unlimbo c A0.E (fun h => h)), by simp [AH.unlimbo, hol], hnx, by rw [a4]; exact hK.last, by rw [a5]; exact hK.flt⟩
    rw [if_pos (by rw [hol]; rfl)]
    exact ⟨_, hK', fun j hj => by simp only [AH.unlimbo]; exact hO j hj, by rw [a3]; exact h1, h2, h3, rfl, by omega, by omega⟩
  case unlocks =>
    cases ha
    obtain ⟨h1, h2, h3, h4, h5, h7⟩ := hS
    refine ⟨trivial, rfl, _, 0, _, by simp only [A.act, h1, if_true]; rfl, ⟨by omega, by simp⟩, n - 1, by omega, ?_⟩
    show ColJ c A0 s0 s1 N K (n - 1) _ (⟨.done, pin, least, head, at_, older, gone⟩, o)
    exact ⟨G, hKl false, hO, rfl, h2, h3, h4, h5⟩
  case done => cases ha

/-- a whole collection -/
theorem colj_run (hc : c.right = true) (hF : Free c A0 s0 s1) (hK0 : K < 1000000000) (ob : Nat) (mo : AV) {H : Hp} {o : Off} (hg : HG c H A0) (hl : H.locked = false) (hlim : A0.limbo = []) (hol : o.limbo = []) (ho : o.next = s0) (hs : 0 ≤ s0 ∧ s0 < c.shelves)
    (hK : H.last = K) (hf : H.faults = 0) (hch : (A0.ch s0).length ≤ 1000) :
    (∃ I, Ranked (colR c ob mo) I ∧ I 10000 H (Col.new, o)) ∧ (colR c ob mo).act ((colR c ob mo).run 10000 (H, (Col.new, o))).2.2 = none ∧
    ∃ A', HG c ((colR c ob mo).run 10000 (H, (Col.new, o))).2.1 A' ∧ Later c A0.E False A0 A' ∧ ((colR c ob mo).run 10000 (H, (Col.new, o))).2.2.2.limbo = [] ∧ ((colR c ob mo).run 10000 (H, (Col.new, o))).2.2.2.next = s1 ∧
      ((colR c ob mo).run 10000 (H, (Col.new, o))).2.1.last = K ∧ ((colR c ob mo).run 10000 (H, (Col.new, o))).2.1.faults = 0 ∧ ((colR c ob mo).run 10000 (H, (Col.new, o))).2.1.locked = false ∧ A'.limbo = [] ∧
      (∀ j, j ≠ s0 → A'.ch j = A0.ch j) ∧ A'.ch s0 = trim (A0.ch s0) ∧ ((colR c ob mo).run 10000 (H, (Col.new, o))).2.1.blocks.length + (A0.ch s0).length = H.blocks.length + (trim (A0.ch s0)).length := by
  obtain ⟨b1, b2, b3, -, -⟩ := c.bounds hc
  have hR := colj_ranked (N := H.blocks.length) (K := K) hc hF hK0 ob mo
  have h0 : ColJ c A0 s0 s1 H.blocks.length K 10000 H (Col.new, o) := ⟨A0, ⟨hg, Later.refl _ _ _ _, by rw [hlim, hol]; rfl, by rw [ho]; exact hs, hK, hf⟩, fun _ _ => rfl, hl, rfl, ho, hol, rfl, rfl, by omega⟩
  obtain ⟨⟨m, A', hK', hO', hS'⟩, h2⟩ := hR.run 10000 10000 (H, (Col.new, o)) h0
  have hact := h2 (Nat.le_refl _)
  refine ⟨⟨_, hR, h0⟩, hact, ?_⟩
  generalize ((colR c ob mo).run 10000 (H, (Col.new, o))) = y at *
  obtain ⟨k, H', ⟨part, pin, least, head, at_, older, gone⟩, o'⟩ := y
  cases part <;> first
    | (exfalso; cases hact; done)
    | (exfalso; exact hS'.elim)
    | (obtain ⟨q1, q2, q3, q4, q5⟩ := hS'
       refine ⟨A', hK'.hg, hK'.lat, ?_, q2, hK'.last, hK'.flt, q1, q4, hO', q3, q5⟩
       have := hK'.lim; rw [q4] at this; exact this.symm)
    | (exfalso
       obtain ⟨_, _, _, ⟨v, hv⟩, _⟩ := hS'
       have hol' := hK'.lim
       rw [hv] at hol'
       have : (Col.act c o' ⟨.clears, pin, least, head, at_, older, gone⟩) = none := hact
       have hol2 : o'.limbo = [v.id] := hol'.symm
       simp [Col.act, hol2] at this)
end Go.Proofs.YtkbpnnbdfikjhaaGreat

/- Plain: shelves counted, and where a key finds its shelf. -/
namespace Go.Proofs.YtkbpnnbdfikjhaaGreat
open Go Go.Aw
set_option linter.unusedVariables false
set_option linter.unusedSimpArgs false

/-! ### sums over shelves -/
def shL (c : Cfg) : List Int := (List.range c.shelves.toNat).map Int.ofNat
theorem shL_mem {c : Cfg} {s : Int} : s ∈ shL c ↔ 0 ≤ s ∧ s < c.shelves := by
  simp only [shL, List.mem_map, List.mem_range]
  exact ⟨fun ⟨i, h, e⟩ => by simp only [Int.ofNat_eq_natCast] at e; omega, fun h => ⟨s.toNat, by omega, by simp only [Int.ofNat_eq_natCast]; omega⟩⟩
theorem shL_nodup (c : Cfg) : (shL c).Nodup := by
  unfold shL
  refine List.Pairwise.map _ (fun a b (h : a ≠ b) e => h ?_) List.nodup_range
  simp only [Int.ofNat_eq_natCast] at e
  omega
def sumS (c : Cfg) (f : Int → Nat) : Nat := ((shL c).map f).sum
theorem sum_add (f g : Int → Nat) : ∀ l : List Int, (l.map fun s => f s + g s).sum = (l.map f).sum + (l.map g).sum
  | [] => rfl
  | s :: l => by simp only [List.map_cons, List.sum_cons, sum_add f g l]; omega
theorem sum_congr {f g : Int → Nat} : ∀ l : List Int, (∀ s ∈ l, f s = g s) → (l.map f).sum = (l.map g).sum
  | [], _ => rfl
  | s :: l, h => by simp only [List.map_cons, List.sum_cons, h s (by simp), sum_congr l fun x hx => h x (by simp [hx])]
theorem sum_upd {f g : Int → Nat} {s0 : Int} : ∀ l : List Int, l.Nodup → s0 ∈ l → (∀ s ∈ l, s ≠ s0 → f s = g s) → (l.map f).sum + g s0 = (l.map g).sum + f s0
  | [], _, h, _ => by simp at h
  | s :: l, hn, h, hs => by
    have h1 := List.nodup_cons.1 hn
    simp only [List.map_cons, List.sum_cons]
    by_cases e : s = s0
    · subst e
      rw [sum_congr l fun x hx => hs x (by simp [hx]) fun e => h1.1 (by rw [← e]; exact hx)]; omega
    · have hm : s0 ∈ l := by
        rcases List.mem_cons.1 h with h | h
        · exact absurd h.symm e
        · exact h
      have := sum_upd l h1.2 hm fun x hx => hs x (by simp [hx])
      rw [hs s (by simp) e]; omega
theorem sumS_add (c : Cfg) (f g : Int → Nat) : sumS c (fun s => f s + g s) = sumS c f + sumS c g := sum_add f g _
theorem sumS_congr {c : Cfg} {f g : Int → Nat} (h : ∀ s, 0 ≤ s → s < c.shelves → f s = g s) : sumS c f = sumS c g := sum_congr _ fun s hs => h s (shL_mem.1 hs).1 (shL_mem.1 hs).2
theorem sumS_upd {c : Cfg} {f g : Int → Nat} {s0 : Int} (h0 : 0 ≤ s0 ∧ s0 < c.shelves) (h : ∀ s, s ≠ s0 → f s = g s) : sumS c f + g s0 = sumS c g + f s0 := sum_upd _ (shL_nodup c) (shL_mem.2 h0) fun s _ hs => h s hs
theorem sumS_zero (c : Cfg) : sumS c (fun _ => 0) = 0 := by
  unfold sumS
  generalize shL c = l
  induction l with
  | nil => rfl
  | cons a l ih => simpa using ih
/-- one at one shelf -/
theorem sumS_one {c : Cfg} {s0 : Int} (h0 : 0 ≤ s0 ∧ s0 < c.shelves) (k : Nat) : sumS c (fun s => if s = s0 then k else 0) = k := by
  have := sumS_upd (f := fun s => if s = s0 then k else 0) (g := fun _ => 0) h0 (fun s hs => by simp [hs])
  rw [sumS_zero] at this
  simpa using this

/-! ### the texts of keys -/
def txts (c : Cfg) (T : Int → Option ByteArray) : List ByteArray := (shL c).filterMap T
theorem txts_mem {c : Cfg} {T : Int → Option ByteArray} {t : ByteArray} : t ∈ txts c T ↔ ∃ s, (0 ≤ s ∧ s < c.shelves) ∧ T s = some t := by
  simp only [txts, List.mem_filterMap]
  exact ⟨fun ⟨s, h, e⟩ => ⟨s, shL_mem.1 h, e⟩, fun ⟨s, h, e⟩ => ⟨s, shL_mem.2 h, e⟩⟩
theorem filterMap_same {f g : Int → Option ByteArray} : ∀ l : List Int, (∀ s ∈ l, f s = g s) → l.filterMap f = l.filterMap g
  | [], _ => rfl
  | s :: l, h => by
    have ih := filterMap_same l fun x hx => h x (by simp [hx])
    rw [List.filterMap_cons, List.filterMap_cons, h s (by simp), ih]
theorem filterMap_upd {T : Int → Option ByteArray} {s0 : Int} {k : ByteArray} (hz : T s0 = none) : ∀ l : List Int, l.Nodup → s0 ∈ l → (l.filterMap fun s => if s = s0 then some k else T s).Perm (k :: l.filterMap T)
  | [], _, h => by simp at h
  | s :: l, hn, h => by
    have h1 := List.nodup_cons.1 hn
    by_cases e : s = s0
    · subst e
      rw [List.filterMap_cons_some (b := k) (by simp), List.filterMap_cons_none hz]
      have : (l.filterMap fun x => if x = s then some k else T x) = l.filterMap T := filterMap_same _ fun x hx => by
        rw [if_neg (fun e => h1.1 (by rw [← e]; exact hx))]
      rw [this]
    · have hm : s0 ∈ l := by
        rcases List.mem_cons.1 h with h | h
        · exact absurd h.symm e
        · exact h
      have ih := filterMap_upd (k := k) hz l h1.2 hm
      cases ht : T s with
      | none => rw [List.filterMap_cons_none (by simp [e, ht]), List.filterMap_cons_none ht]; exact ih
      | some t =>
        rw [List.filterMap_cons_some (b := t) (by simp [e, ht]), List.filterMap_cons_some ht]
        exact (ih.cons t).trans (List.Perm.swap k t _)
theorem txts_upd {c : Cfg} {T : Int → Option ByteArray} {s0 : Int} {k : ByteArray} (h0 : 0 ≤ s0 ∧ s0 < c.shelves) (hz : T s0 = none) : (txts c fun s => if s = s0 then some k else T s).Perm (k :: txts c T) :=
  filterMap_upd hz _ (shL_nodup c) (shL_mem.2 h0)
theorem filterMap_inj {T : Int → Option ByteArray} : ∀ l : List Int, (l.filterMap T).Nodup → ∀ s s' t, s ∈ l → s' ∈ l → T s = some t → T s' = some t → s = s'
  | [], _, s, s', t, h, _, _, _ => by simp at h
  | x :: l, hn, s, s', t, h, h', e, e' => by
    cases hx : T x with
    | none =>
      rw [List.filterMap_cons_none hx] at hn
      have n1 : s ≠ x := fun q => by rw [q, hx] at e; cases e
      have n2 : s' ≠ x := fun q => by rw [q, hx] at e'; cases e'
      exact filterMap_inj l hn s s' t ((List.mem_cons.1 h).resolve_left n1) ((List.mem_cons.1 h').resolve_left n2) e e'
    | some u =>
      rw [List.filterMap_cons_some hx] at hn
      have h1 := List.nodup_cons.1 hn
      have out : ∀ y ∈ l, T y = some u → False := fun y hy hu => h1.1 (List.mem_filterMap.2 ⟨y, hy, hu⟩)
      rcases List.mem_cons.1 h with ha | ha
      · subst ha
        rcases List.mem_cons.1 h' with hb | hb
        · exact hb.symm
        · rw [hx] at e; cases e; exact (out s' hb e').elim
      · rcases List.mem_cons.1 h' with hb | hb
        · subst hb
          rw [hx] at e'; cases e'; exact (out s ha e).elim
        · exact filterMap_inj l h1.2 s s' t ha hb e e'
theorem txts_inj {c : Cfg} {T : Int → Option ByteArray} (hn : (txts c T).Nodup) {s s' : Int} {t : ByteArray} (h : 0 ≤ s ∧ s < c.shelves) (h' : 0 ≤ s' ∧ s' < c.shelves) (e : T s = some t) (e' : T s' = some t) : s = s' :=
  filterMap_inj _ hn s s' t (shL_mem.2 h) (shL_mem.2 h') e e'

/-! ### where a key finds its shelf -/
/-- which way it went -/
theorem probe_case {c : Cfg} {T : Int → Option ByteArray} {k : ByteArray} : ∀ (f : Nat) (i : Int), 0 ≤ i → i + f = c.shelves → 0 < f →
    (∃ j, (i ≤ j ∧ j < c.shelves) ∧ probe c T k f i = (1, spotAt c k j) ∧ T (spotAt c k j) = some k) ∨
    (∃ j, (i ≤ j ∧ j < c.shelves) ∧ probe c T k f i = (2, spotAt c k j) ∧ T (spotAt c k j) = none ∧ ∀ x, i ≤ x → x < j → ∃ t, T (spotAt c k x) = some t ∧ t ≠ k) ∨
    (probe c T k f i = (3, 0) ∧ ∀ x, i ≤ x → x < c.shelves → ∃ t, T (spotAt c k x) = some t ∧ t ≠ k)
  | 0, i, _, _, h => by omega
  | f + 1, i, h0, hf, _ => by
    simp only [probe]
    cases hT : T (spotAt c k i) with
    | none => exact .inr (.inl ⟨i, by omega, rfl, hT, fun x h1 h2 => by omega⟩)
    | some t =>
      simp only
      by_cases hk : t = k
      · rw [if_pos hk]; exact .inl ⟨i, by omega, rfl, by rw [hT, hk]⟩
      rw [if_neg hk]
      by_cases hl : i + 1 = c.shelves
      · rw [if_pos hl]
        refine .inr (.inr ⟨rfl, fun x h1 h2 => ?_⟩)
        have : x = i := by omega
        subst this; exact ⟨t, hT, hk⟩
      rw [if_neg hl]
      rcases probe_case (c := c) (T := T) (k := k) f (i + 1) (by omega) (by omega) (by omega) with ⟨j, h1, h2, h3⟩ | ⟨j, h1, h2, h3, h4⟩ | ⟨h2, h4⟩
      · exact .inl ⟨j, by omega, h2, h3⟩
      · refine .inr (.inl ⟨j, by omega, h2, h3, fun x x1 x2 => ?_⟩)
        by_cases e : x = i
        · subst e; exact ⟨t, hT, hk⟩
        · exact h4 x (by omega) x2
      · refine .inr (.inr ⟨h2, fun x x1 x2 => ?_⟩)
        by_cases e : x = i
        · subst e; exact ⟨t, hT, hk⟩
        · exact h4 x (by omega) x2

/-- keys stand where they are found -/
structure Prb (c : Cfg) (T : Int → Option ByteArray) (S : List ByteArray) : Prop where
  nd : (txts c T).Nodup
  ns : S.Nodup
  mem : ∀ t, t ∈ txts c T ↔ t ∈ S
  way : ∀ s t, 0 ≤ s → s < c.shelves → T s = some t → ∃ j, (0 ≤ j ∧ j < c.shelves) ∧ s = spotAt c t j ∧ ∀ i, 0 ≤ i → i < j → T (spotAt c t i) ≠ none

theorem Prb.len {c : Cfg} {T : Int → Option ByteArray} {S : List ByteArray} (h : Prb c T S) : (txts c T).length = S.length := by
  have h1 := nodup_len _ S h.nd fun x hx => (h.mem x).1 hx
  have h2 := nodup_len S _ h.ns fun x hx => (h.mem x).2 hx
  omega

variable {c : Cfg}
/-- a key more -/
theorem Prb.key (hc : c.right = true) {T : Int → Option ByteArray} {S : List ByteArray} (h : Prb c T S) (ch : Ch) (hS : ((putK S ch.key).length : Int) ≤ c.shelves) :
    Prb c (kt1 T ch (spot c T ch.key)) (putK S ch.key) ∧ (spot c T ch.key).1 ≠ 3 ∧ (0 ≤ (spot c T ch.key).2 ∧ (spot c T ch.key).2 < c.shelves) ∧
      (txts c (kt1 T ch (spot c T ch.key))).length + 1 = (txts c T).length + (cst1 (spot c T ch.key)).toNat := by
  obtain ⟨b1, b2, b3, -, -⟩ := c.bounds hc
  rcases probe_case (c := c) (T := T) (k := ch.key) c.shelves.toNat 0 (by omega) (by omega) (by omega) with ⟨j, h1, h2, h3⟩ | ⟨j, h1, h2, h3, h4⟩ | ⟨h2, h4⟩
  · have hp : spot c T ch.key = (1, spotAt c ch.key j) := h2
    have hr := spotAt_range hc (k := ch.key) (i := j) (by omega) h1.2
    have hk : ch.key ∈ S := (h.mem _).1 (txts_mem.2 ⟨_, hr, h3⟩)
    have hput : putK S ch.key = S := by unfold putK; rw [if_pos (any_mem.2 hk)]
    rw [hp, hput]
    simp only [kt1, show ¬ ((1 : Int) = 2) by omega, if_false, cst1, show ¬ ((1 : Int) = 3) by omega]
    exact ⟨h, by omega, hr, by omega⟩
  · have hp : spot c T ch.key = (2, spotAt c ch.key j) := h2
    have hr := spotAt_range hc (k := ch.key) (i := j) (by omega) h1.2
    have hnk : ch.key ∉ S := fun hin => by
      obtain ⟨s, hs, e⟩ := txts_mem.1 ((h.mem _).2 hin)
      obtain ⟨j', hj', e', hw⟩ := h.way s _ hs.1 hs.2 e
      subst e'
      rcases Int.lt_trichotomy j j' with hl | hl | hl
      · exact hw j (by omega) hl h3
      · subst hl; rw [h3] at e; cases e
      · obtain ⟨t, e2, hne⟩ := h4 j' (by omega) hl
        rw [e] at e2; cases e2; exact hne rfl
    have hput : putK S ch.key = S ++ [ch.key] := by unfold putK; rw [if_neg (fun q => hnk (any_mem.1 q))]
    have hperm := txts_upd (c := c) (k := ch.key) hr h3
    rw [hp]
    simp only [kt1, if_true, cst1, show ¬ ((2 : Int) = 3) by omega, if_false]
    refine ⟨⟨?_, putK_nodup h.ns, fun t => ?_, fun s t s0 s1 e => ?_⟩, by omega, hr, ?_⟩
    · rw [hperm.nodup_iff, List.nodup_cons]
      exact ⟨fun hin => hnk ((h.mem _).1 hin), h.nd⟩
    · rw [hperm.mem_iff, List.mem_cons, h.mem, putK_mem]
    · by_cases es : s = spotAt c ch.key j
      · subst es
        rw [if_pos rfl] at e
        cases e
        refine ⟨j, by omega, rfl, fun i i0 i1 => ?_⟩
        obtain ⟨u, e2, -⟩ := h4 i i0 i1
        split
        · simp
        · rw [e2]; simp
      · rw [if_neg es] at e
        obtain ⟨j', hj', e', hw⟩ := h.way s t s0 s1 e
        refine ⟨j', hj', e', fun i i0 i1 => ?_⟩
        have := hw i i0 i1
        split
        · simp
        · exact this
    · rw [hperm.length_eq]; simp only [List.length_cons]; omega
  · -- no shelf is wanting
    exfalso
    let L := (shL c).map fun i => spotAt c ch.key i
    have hLn : L.Nodup := by
      refine List.pairwise_map.2 ?_
      refine (shL_nodup c).imp_of_mem fun {a b} ha hb hab e => hab ?_
      exact place_inj (by omega) (shL_mem.1 ha) (shL_mem.1 hb) e
    have hall : ∀ s ∈ L, (0 ≤ s ∧ s < c.shelves) ∧ ∃ t, T s = some t ∧ t ≠ ch.key := fun s hs => by
      obtain ⟨i, hi, rfl⟩ := List.mem_map.1 hs
      have hi' := shL_mem.1 hi
      exact ⟨spotAt_range hc hi'.1 hi'.2, h4 i hi'.1 hi'.2⟩
    have gen : ∀ l : List Int, l.Nodup → (∀ s ∈ l, (0 ≤ s ∧ s < c.shelves) ∧ ∃ t, T s = some t ∧ t ≠ ch.key) → (l.filterMap T).Nodup ∧ (l.filterMap T).length = l.length ∧ ∀ t ∈ l.filterMap T, t ∈ S ∧ t ≠ ch.key := by
      intro l
      induction l with
      | nil => intro _ _; simp
      | cons s l ih =>
        intro hn hs
        have h1 := List.nodup_cons.1 hn
        obtain ⟨i1, i2, i3⟩ := ih h1.2 fun x hx => hs x (by simp [hx])
        obtain ⟨hr, t, e, hne⟩ := hs s (by simp)
        rw [List.filterMap_cons_some e]
        refine ⟨List.nodup_cons.2 ⟨fun hin => ?_, i1⟩, by simp [i2], fun u hu => ?_⟩
        · obtain ⟨s', hs', e'⟩ := List.mem_filterMap.1 hin
          have := txts_inj h.nd hr (hs s' (by simp [hs'])).1 e e'
          exact h1.1 (by rw [this]; exact hs')
        · rcases List.mem_cons.1 hu with rfl | hu
          · exact ⟨(h.mem _).1 (txts_mem.2 ⟨s, hr, e⟩), hne⟩
          · exact i3 u hu
    obtain ⟨g1, g2, g3⟩ := gen L hLn hall
    have hlen : L.length = c.shelves.toNat := by show ((shL c).map _).length = _; rw [List.length_map, shL, List.length_map, List.length_range]
    have := nodup_len (ch.key :: L.filterMap T) (putK S ch.key) (List.nodup_cons.2 ⟨fun hin => (g3 _ hin).2 rfl, g1⟩) fun x hx => by
      rcases List.mem_cons.1 hx with rfl | hx
      · exact putK_mem.2 (.inl rfl)
      · exact putK_mem.2 (.inr (g3 x hx).1)
    simp only [List.length_cons, g2, hlen] at this
    omega
end Go.Proofs.YtkbpnnbdfikjhaaGreat

/- Plain: one heap, laid on, collected and read. -/
namespace Go.Proofs.YtkbpnnbdfikjhaaGreat
open Go Go.Aw
set_option linter.unusedVariables false
set_option linter.unusedSimpArgs false
variable {c : Cfg}

def putL (S : List ByteArray) (l : List Ch) : List ByteArray := l.foldl (fun S ch => putK S ch.key) S
theorem putK_len (S : List ByteArray) (k : ByteArray) : S.length ≤ (putK S k).length := by unfold putK; split <;> simp
theorem putL_len : ∀ (l : List Ch) (S : List ByteArray), S.length ≤ (putL S l).length
  | [], S => Nat.le_refl _
  | ch :: l, S => Nat.le_trans (putK_len S ch.key) (putL_len l (putK S ch.key))
theorem keysL_app (a b : List Ch) : keysL (a ++ b) = putL (keysL a) b := by simp [keysL, putL]

/-- a whole row, counted -/
theorem lay_count (hc : c.right = true) (ep : Int) : ∀ (l : List Ch) (T : Int → Option ByteArray) (S : List ByteArray), Prb c T S → ((putL S l).length : Int) ≤ c.shelves →
    Prb c (ktA c T l) (putL S l) ∧ (((sumS c fun s => (nvA c ep T l s).length) + (txts c (ktA c T l)).length : Nat) : Int) = (txts c T).length + cst c T l
  | [], T, S, h, _ => ⟨h, by simp only [nvA, List.length_nil, ktA, cst]; rw [sumS_zero]; simp⟩
  | ch :: l, T, S, h, hS => by
    have hS1 : ((putK S ch.key).length : Int) ≤ c.shelves := by
      have := putL_len l (putK S ch.key)
      have : ((putL (putK S ch.key) l).length : Int) ≤ c.shelves := hS
      omega
    obtain ⟨p1, p2, p3, p4⟩ := h.key hc ch hS1
    obtain ⟨q1, q2⟩ := lay_count hc ep l _ _ p1 hS
    refine ⟨q1, ?_⟩
    have hone : sumS c (fun s => (nv1 ep ch (spot c T ch.key) s).length) = 1 := by
      rw [← sumS_one p3 1]
      refine sumS_congr fun s _ _ => ?_
      simp only [nv1]
      by_cases e : s = (spot c T ch.key).2 <;> simp [e, p2]
    have hc1 := cst1_le (spot c T ch.key)
    simp only [nvA, List.length_append, ktA, cst]
    rw [sumS_add, hone]
    omega

/-- one heap that nobody else is at -/
structure AI (c : Cfg) (H : Hp) (o : Off) (laid : Nat) (cs : List Ch) (A : AH) : Prop where
  hg : HG c H A
  fr : H.locked = false ∧ H.faults = 0 ∧ H.last ≤ 1 + 12 * (laid : Int)
  E : A.E = laid
  pz : ∀ i, 0 ≤ i → i < c.pins → A.pin i = 0
  lim : A.limbo = [] ∧ o.limbo = []
  nx : 0 ≤ o.next ∧ o.next < c.shelves
  ep : ∀ s, 0 ≤ s → s < c.shelves → ∀ v ∈ A.ch s, v.e ≤ laid
  len : ∀ s, 0 ≤ s → s < c.shelves → (A.ch s).length ≤ 6 * laid
  kn : ∀ s, 0 ≤ s → s < c.shelves → A.key s = none → A.ch s = []
  bl : H.blocks.length = 1 + (txts c (kt A)).length + sumS c fun s => (A.ch s).length
  pr : Prb c (kt A) (keysL cs)
  lb : laid ≤ 12

theorem AI.init (hc : c.right = true) : AI c (Hp.laid c.size) ⟨0, []⟩ 0 [] AH.init := by
  obtain ⟨b1, b2, b3, -, -⟩ := c.bounds hc
  have hz : txts c (kt AH.init) = [] := by
    unfold txts
    generalize shL c = l
    induction l with
    | nil => rfl
    | cons s l ih => rw [List.filterMap_cons_none (by rfl)]; exact ih
  refine ⟨HG.init hc, ⟨rfl, rfl, by simp [Hp.laid]⟩, rfl, fun _ _ _ => rfl, ⟨rfl, rfl⟩, by simp only; omega, fun s _ _ v hv => by simp [AH.init] at hv, fun s _ _ => by simp [AH.init], fun s _ _ _ => rfl, ?_, ⟨by rw [hz]; simp, by simp [keysL], fun t => by rw [hz]; simp [keysL], fun s t _ _ e => by simp [kt, AH.init] at e⟩, by omega⟩
  rw [hz]
  have : sumS c (fun s => (AH.init.ch s).length) = 0 := sumS_zero c
  rw [this]; rfl

def nextS (c : Cfg) (s : Int) : Int := if s + 1 = c.shelves then 0 else s + 1
theorem trim_sub : ∀ (l : List Ver) (v : Ver), v ∈ trim l → v ∈ l
  | [], v, h => h
  | w :: l, v, h => by
    simp only [trim] at h
    split at h
    · rw [List.mem_singleton.1 h]; simp
    · simp at h
theorem trim_len (l : List Ver) : (trim l).length ≤ l.length := by
  cases l with
  | nil => exact Nat.le_refl _
  | cons w l => simp only [trim]; split <;> simp

/-- a collection -/
theorem AI.col {H : Hp} {o : Off} {laid : Nat} {cs : List Ch} {A : AH} (hc : c.right = true) (hI : AI c H o laid cs A) (ob : Nat) (mo : AV) :
    (∃ I, Ranked (colR c ob mo) I ∧ I 10000 H (Col.new, o)) ∧ (colR c ob mo).act ((colR c ob mo).run 10000 (H, (Col.new, o))).2.2 = none ∧
    ∃ A', AI c ((colR c ob mo).run 10000 (H, (Col.new, o))).2.1 ((colR c ob mo).run 10000 (H, (Col.new, o))).2.2.2 laid cs A' ∧ (∀ j, j ≠ o.next → A'.ch j = A.ch j) ∧ A'.ch o.next = trim (A.ch o.next) ∧
      ((colR c ob mo).run 10000 (H, (Col.new, o))).2.2.2.next = nextS c o.next ∧ (∀ s, 0 ≤ s → s < c.shelves → obs A'.E A' s = obs A.E A s) := by
  obtain ⟨b1, b2, b3, -, -⟩ := c.bounds hc
  have hE := hI.E
  have hlb := hI.lb
  have hF : Free c A o.next (nextS c o.next) := ⟨hI.pz, by omega, fun v hv => by rw [hE]; exact hI.ep _ hI.nx.1 hI.nx.2 v hv, rfl⟩
  obtain ⟨g1, g2, A', a1, a2, a3, a4, a5, a6, a7, a8, a9, a10, a11⟩ := colj_run (K := H.last) hc hF (by have := hI.fr.2.2; omega) ob mo hI.hg hI.fr.1 hI.lim.1 hI.lim.2 rfl hI.nx rfl hI.fr.2.1 (by have := hI.len _ hI.nx.1 hI.nx.2; omega)
  have hkt : kt A' = kt A := by funext s; simp only [kt, a2.key]
  refine ⟨g1, g2, A', ⟨a1, ⟨a7, a6, by rw [a5]; exact hI.fr.2.2⟩, a2.E.trans hE, fun i i0 i1 => by rw [a2.pin]; exact hI.pz i i0 i1, ⟨a8, a3⟩, ?_, fun s s0 s1 v hv => ?_, fun s s0 s1 => ?_, fun s s0 s1 hn => ?_, ?_, by rw [hkt]; exact hI.pr, hlb⟩, a9, a10, a4, fun s s0 s1 => ?_⟩
  · rw [a4]; unfold nextS; have := hI.nx; split <;> omega
  · by_cases e : s = o.next
    · subst e; rw [a10] at hv; exact hI.ep _ s0 s1 v (trim_sub _ _ hv)
    · rw [a9 s e] at hv; exact hI.ep s s0 s1 v hv
  · by_cases e : s = o.next
    · subst e; rw [a10]; exact Nat.le_trans (trim_len _) (hI.len _ s0 s1)
    · rw [a9 s e]; exact hI.len s s0 s1
  · have h0 : A.key s = none := by rw [← a2.key]; exact hn
    have h1 := hI.kn s s0 s1 h0
    by_cases e : s = o.next
    · subst e; rw [a10, h1]; rfl
    · rw [a9 s e]; exact h1
  · rw [hkt]
    have h1 := sumS_upd (c := c) (f := fun s => (A'.ch s).length) (g := fun s => (A.ch s).length) hI.nx (fun s hs => by rw [a9 s hs])
    simp only [a10] at h1
    have h2 := hI.bl
    omega
  · rw [a2.E]
    have h1 := a2.rd s s0 s1 A.E (Int.le_refl _)
    simp only [obs, a2.key]
    cases A.key s with
    | none => rfl
    | some p => simp only; rw [h1]

/-- a row is laid -/
theorem AI.lay {H : Hp} {o : Off} {laid : Nat} {cs : List Ch} {A : AH} (hc : c.right = true) (hI : AI c H o laid cs A) (hl : laid < 12) {l : List Ch} (hlen : l.length ≤ 6) (hsz : ∀ ch ∈ l, ch.key.size ≤ 4096 ∧ ch.value.size ≤ 4096) (hk : ((keysL (cs ++ l)).length : Int) ≤ c.shelves) :
    (∃ I, Ranked (layR c (laid + 1)) I ∧ I 2000 H (Ly.new l)) ∧ ∃ A', AI c ((layR c (laid + 1)).run 10000 (H, Ly.new l)).2.1 o (laid + 1) (cs ++ l) A' := by
  obtain ⟨b1, b2, b3, -, -⟩ := c.bounds hc
  have hE := hI.E
  have hfr := hI.fr
  obtain ⟨I1, r1, i1, A', a1, a2, a3, a4, a5, a6, a7, a8⟩ := lay_run (M := laid) (ep := (laid : Int) + 1) hc (by omega) (by omega) hI.hg hfr.1 hfr.2.1 hlen hsz (by omega)
  have hcst := cst_le c l (kt A)
  have hbal := run_keeps r1 (fun s a => lay_keeps c _ s a) 10000 2000 (H, Ly.new l) i1
  rw [keysL_app] at hk
  obtain ⟨q1, q2⟩ := lay_count hc ((laid : Int) + 1) l (kt A) (keysL cs) hI.pr hk
  have hcl : ∀ s, (A'.ch s).length = (nvA c (laid + 1) (kt A) l s).length + (A.ch s).length := fun s => by
    have := congrArg List.length (a5 s)
    simpa [core] using this
  refine ⟨⟨I1, r1, i1⟩, A', a1, ⟨a6, a7, by rw [a8]; omega⟩, by rw [a3]; push_cast; rfl, fun i i0 i1 => by rw [a2.pin]; exact hI.pz i i0 i1, ⟨a2.limbo.trans hI.lim.1, hI.lim.2⟩, hI.nx, fun s s0 s1 v hv => ?_, fun s s0 s1 => ?_, fun s s0 s1 hn => ?_, ?_, by rw [a4, keysL_app]; exact q1, by omega⟩
  · have hm : (v.e, v.live, v.text) ∈ core (A'.ch s) := List.mem_map.2 ⟨v, hv, rfl⟩
    rw [a5 s] at hm
    rcases List.mem_append.1 hm with hm | hm
    · have := nvA_ep c ((laid : Int) + 1) s l (kt A) _ hm
      simp only at this
      push_cast; omega
    · obtain ⟨w, hw, e⟩ := List.mem_map.1 hm
      simp only [Prod.mk.injEq] at e
      have := hI.ep s s0 s1 w hw
      push_cast; omega
  · have h1 := hcl s
    have h2 := nvA_len c ((laid : Int) + 1) s l (kt A)
    have h3 := hI.len s s0 s1
    omega
  · have h1 : ktA c (kt A) l s = none := by rw [← a4]; simp [kt, hn]
    obtain ⟨h2, h3⟩ := nvA_none (c := c) (ep := (laid : Int) + 1) l (kt A) h1
    have h4 : A.key s = none := by simpa [kt] using h2
    have h5 := a5 s
    rw [h3, hI.kn s s0 s1 h4] at h5
    exact core_nil h5
  · have h1 : sumS c (fun s => (A'.ch s).length) = sumS c (fun s => (nvA c (laid + 1) (kt A) l s).length) + sumS c (fun s => (A.ch s).length) := by
      rw [← sumS_add]; exact sumS_congr fun s _ _ => hcl s
    rw [a4, h1]
    have h2 := hI.bl
    rw [a8] at hbal
    simp only at hbal
    omega

/-- a view, whole -/
theorem AI.view {H : Hp} {o : Off} {laid : Nat} {cs : List Ch} {A : AH} (hc : c.right = true) (hI : AI c H o laid cs A) {i : Int} (hi : 0 ≤ i ∧ i < c.pins) :
    (∃ I, Ranked (viewR c) I ∧ I 10000 H (vw0 i)) ∧ ((viewR c).run 10000 (H, vw0 i)).2.2.st = .done ∧ AI c ((viewR c).run 10000 (H, vw0 i)).2.1 o laid cs A ∧
      ((viewR c).run 10000 (H, vw0 i)).2.2.pairs = pairsOf (sofar (obs A.E A) c.shelves.toNat) := by
  obtain ⟨b1, b2, b3, -, -⟩ := c.bounds hc
  have hE := hI.E
  have hlb := hI.lb
  have hfr := hI.fr
  obtain ⟨I, r, i1, d, g, p, q1, q2, q3⟩ := view_whole (K := H.last) (CL := 72) (O := obs A.E A) hc hi hI.hg (hI.pz i hi.1 hi.2) (by omega) rfl (by omega) hfr.2.1 hfr.1 (fun _ _ _ => rfl) (fun s s0 s1 => by have := hI.len s s0 s1; omega) (full_le hc)
  refine ⟨⟨I, r, i1⟩, d, ⟨g, ⟨q3, q2, by rw [q1]; exact hfr.2.2⟩, hE, hI.pz, hI.lim, hI.nx, hI.ep, hI.len, hI.kn, ?_, hI.pr, hlb⟩, p⟩
  rw [run_plain (view_plain c)]
  exact hI.bl
end Go.Proofs.YtkbpnnbdfikjhaaGreat

/- Plain: passes over all shelves, and what is there behind them. -/
namespace Go.Proofs.YtkbpnnbdfikjhaaGreat
open Go Go.Aw
set_option linter.unusedVariables false
set_option linter.unusedSimpArgs false
variable {c : Cfg}

def Tr (l : List Ver) : Prop := l.length ≤ 1 ∧ ∀ v ∈ l, v.live = true
theorem trim_tr (l : List Ver) : Tr (trim l) := by
  cases l with
  | nil => exact ⟨by simp [trim], by simp [trim]⟩
  | cons v l =>
    simp only [trim]
    split
    · rename_i h; exact ⟨by simp, fun w hw => by rw [List.mem_singleton.1 hw]; exact h⟩
    · exact ⟨by simp, by simp⟩
/-- amid a pass over all shelves -/
structure AF (c : Cfg) (H : Hp) (o : Off) (laid : Nat) (cs : List Ch) (st : Int) (i : Nat) (O : Int → Option Pr) (A : AH) : Prop where
  ai : AI c H o laid cs A
  s0 : 0 ≤ st ∧ st < c.shelves
  nx : o.next = if st + i < c.shelves then st + i else st + i - c.shelves
  tr : ∀ s, 0 ≤ s → s < c.shelves → (st ≤ s ∧ s < st + i) ∨ s < st + i - c.shelves → Tr (A.ch s)
  ob : ∀ s, 0 ≤ s → s < c.shelves → obs A.E A s = O s
theorem AF.start {H : Hp} {o : Off} {laid : Nat} {cs : List Ch} {A : AH} (h : AI c H o laid cs A) : AF c H o laid cs o.next 0 (obs A.E A) A :=
  ⟨h, h.nx, by rw [if_pos (by have := h.nx; omega)]; omega, fun s _ _ hs => by have := h.nx; omega, fun _ _ _ => rfl⟩
theorem AF.pass {H : Hp} {o : Off} {laid : Nat} {cs : List Ch} {st : Int} {i : Nat} {O : Int → Option Pr} {A : AH} (hc : c.right = true) (h : AF c H o laid cs st i O A) (hi : (i : Int) < c.shelves) (ob : Nat) (mo : AV) :
    (∃ I, Ranked (colR c ob mo) I ∧ I 10000 H (Col.new, o)) ∧ (colR c ob mo).act ((colR c ob mo).run 10000 (H, (Col.new, o))).2.2 = none ∧
    ∃ A', AF c ((colR c ob mo).run 10000 (H, (Col.new, o))).2.1 ((colR c ob mo).run 10000 (H, (Col.new, o))).2.2.2 laid cs st (i + 1) O A' := by
  obtain ⟨g1, g2, A', a1, a2, a3, a4, a5⟩ := h.ai.col hc ob mo
  have hs0 := h.s0
  have hnx := h.nx
  refine ⟨g1, g2, A', a1, hs0, ?_, fun s s0 s1 hs => ?_, fun s s0 s1 => (a5 s s0 s1).trans (h.ob s s0 s1)⟩
  · rw [a4, nextS, hnx]
    push_cast
    split <;> split <;> split <;> omega
  · by_cases e : s = o.next
    · subst e; rw [a3]; exact trim_tr _
    · rw [a2 s e]
      refine h.tr s s0 s1 ?_
      rw [hnx] at e
      push_cast at hs
      split at e <;> omega
theorem AF.all {H : Hp} {o : Off} {laid : Nat} {cs : List Ch} {st : Int} {O : Int → Option Pr} {A : AH} (h : AF c H o laid cs st c.shelves.toNat O A) : ∀ s, 0 ≤ s → s < c.shelves → Tr (A.ch s) := fun s s0 s1 => by
  have hs0 := h.s0
  exact h.tr s s0 s1 (by omega)

/-! ### what a view tells is counted -/
theorem sput_new {k v : ByteArray} : ∀ {l : List Pr}, k ∉ l.map (·.1) → sput l k v = l ++ [(k, v)]
  | [], _ => rfl
  | x :: l, h => by
    simp only [List.map_cons, List.mem_cons, not_or] at h
    simp only [sput, h.1, if_false, List.cons_append, sput_new h.2]
theorem sofar_mem {O : Int → Option Pr} {t : ByteArray} : ∀ k : Nat, t ∈ (sofar O k).map (·.1) → ∃ s : Int, 0 ≤ s ∧ s < k ∧ ∃ x, O s = some (t, x)
  | 0, h => by simp [sofar] at h
  | k + 1, h => by
    have old : t ∈ (sofar O k).map (·.1) → ∃ s : Int, 0 ≤ s ∧ s < ((k + 1 : Nat) : Int) ∧ ∃ x, O s = some (t, x) := fun h => by
      obtain ⟨s, s0, s1, x⟩ := sofar_mem k h
      exact ⟨s, s0, by push_cast; omega, x⟩
    cases hO : O k with
    | none => simp only [sofar, hO, see] at h; exact old h
    | some p =>
      simp only [sofar, hO, see] at h
      rcases sput_keys (k := p.1) (v := p.2) (sofar O k) with e | ⟨_, e⟩
      · rw [e] at h; exact old h
      · rw [e] at h
        rcases List.mem_append.1 h with h | h
        · exact old h
        · rw [List.mem_singleton.1 h]; exact ⟨k, by omega, by push_cast; omega, p.2, hO⟩
theorem sofar_count {O : Int → Option Pr} {n : Nat} (hd : ∀ s s' t x x', 0 ≤ s → s < (n : Int) → 0 ≤ s' → s' < (n : Int) → O s = some (t, x) → O s' = some (t, x') → s = s') :
    ∀ k : Nat, k ≤ n → (sofar O k).length = ((List.range k).map fun i : Nat => if (O (i : Int)).isSome = true then 1 else 0).sum
  | 0, _ => rfl
  | k + 1, hk => by
    have ih := sofar_count hd k (by omega)
    rw [List.range_succ, List.map_append, List.sum_append, ← ih]
    cases hO : O k with
    | none => simp [sofar, hO, see]
    | some p =>
      have hn : p.1 ∉ (sofar O k).map (·.1) := fun hin => by
        obtain ⟨s, s0, s1, x, e⟩ := sofar_mem k hin
        have := hd s k p.1 x p.2 s0 (by omega) (by omega) (by omega) e hO
        omega
      simp [sofar, hO, see, sput_new hn]
theorem pairsOf_len {l : List Pr} (h : (l.map (·.1)).Nodup) : (pairsOf l).length = l.length := by
  have h1 := pairsOf_spec l [] (by simp [Srt]) h (by simp)
  have e1 := h1.2
  simp only [List.not_mem_nil, false_or] at e1
  have n1 : (pairsOf l).Nodup := h1.1.imp fun {a b} hab e => by rw [e, bl_irrefl] at hab; cases hab
  have n2 : l.Nodup := (List.pairwise_map.1 h).imp fun {a b} hab e => hab (by rw [e])
  have l1 := nodup_len _ l n1 fun x hx => (e1 x).1 hx
  have l2 := nodup_len l (pairsOf l) n2 fun x hx => (e1 x).2 hx
  omega
/-- as many pairs are told as there are versions -/
theorem AI.told {H : Hp} {o : Off} {laid : Nat} {cs : List Ch} {A : AH} (hc : c.right = true) (h : AI c H o laid cs A) (ht : ∀ s, 0 ≤ s → s < c.shelves → Tr (A.ch s)) : (pairsOf (sofar (obs A.E A) c.shelves.toNat)).length = sumS c fun s => (A.ch s).length := by
  obtain ⟨b1, b2, b3, -, -⟩ := c.bounds hc
  have hcn : ((c.shelves.toNat : Nat) : Int) = c.shelves := by omega
  have hobs : ∀ s t x, obs A.E A s = some (t, x) → kt A s = some t := fun s t x e => by
    simp only [obs] at e
    cases hk : A.key s with
    | none => rw [hk] at e; cases e
    | some p =>
      rw [hk] at e
      simp only at e
      cases hr : rd A.E (A.ch s) with
      | none => rw [hr] at e; cases e
      | some y => rw [hr] at e; simp only [Option.map_some, Option.some.injEq, Prod.mk.injEq] at e; simp [kt, hk, e.1]
  rw [pairsOf_len (sofar_ok _ _).2, sofar_count (n := c.shelves.toNat) (fun s s' t x x' s0 s1 s0' s1' e e' => txts_inj h.pr.nd ⟨s0, by omega⟩ ⟨s0', by omega⟩ (hobs _ _ _ e) (hobs _ _ _ e')) _ (Nat.le_refl _)]
  have hsum : sumS c (fun s => (A.ch s).length) = sumS c (fun s => if (obs A.E A s).isSome = true then 1 else 0) := by
    refine sumS_congr fun s s0 s1 => ?_
    obtain ⟨t1, t2⟩ := ht s s0 s1
    cases hch : A.ch s with
    | nil =>
      simp only [obs, hch, rd, List.length_nil]
      cases A.key s <;> simp
    | cons v r =>
      rw [hch] at t1 t2
      have hr : r = [] := by
        cases r with
        | nil => rfl
        | cons w r => simp only [List.length_cons] at t1; omega
      subst hr
      have hl := t2 v (by simp)
      have he : v.e ≤ A.E := by rw [h.E]; exact h.ep s s0 s1 v (by rw [hch]; simp)
      cases hk : A.key s with
      | none => rw [h.kn s s0 s1 hk] at hch; cases hch
      | some p => simp [obs, hk, hch, rd, he, hl]
  rw [hsum]
  unfold sumS shL
  rw [List.map_map]
  rfl
end Go.Proofs.YtkbpnnbdfikjhaaGreat
