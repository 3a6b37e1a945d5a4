/- Plain: a collection goes on to its end. -/
import Derived.Test.YtkbpnnbdfikjhaaGreatK17Law1
namespace Go.Proofs.YtkbpnnbdfikjhaaGreat
open Go Go.Aw
set_option linter.unusedVariables false
set_option linter.unusedSimpArgs false

def cN (c : Cfg) (L : Nat) : Nat := c.pins.toNat + L + 3
def cB (c : Cfg) (L : Nat) : Nat := cN c (L + 1) + 3
/-- what a part has of the heap -/
def ColS (c : Cfg) (M : Int) (P : Prop) (A : AH) (L : Nat) (H : Hp) (x : Col) (o : Off) (n : Nat) : Prop := match x.part with
  | .locks => H.locked = false ∧ A.limbo.length ≤ L ∧ x.pin = 0 ∧ cB c L + 2 * (A.ch o.next).length + c.pins.toNat + 9 ≤ n
  | .epochs => H.locked = true ∧ A.limbo.length ≤ L ∧ x.pin = 0 ∧ cB c L + 2 * (A.ch o.next).length + c.pins.toNat + 8 ≤ n
  | .pins => H.locked = true ∧ A.limbo.length ≤ L ∧ (0 ≤ x.pin ∧ x.pin < c.pins) ∧ (x.least = M ∨ (x.least = A.E ∧ ∀ i, 0 ≤ i → i < x.pin → A.pin i = 0)) ∧ cB c L + 2 * (A.ch o.next).length + (c.pins - x.pin).toNat + 7 ≤ n
  | .heads => H.locked = true ∧ A.limbo.length ≤ L ∧ x.least = M ∧ cB c L + 2 * (A.ch o.next).length + 6 ≤ n
  | .ages => H.locked = true ∧ A.limbo.length ≤ L ∧ x.least = M ∧ ∃ pre v post, A.ch o.next = pre ++ v :: post ∧ v.id = x.at_ ∧ x.head = headW (A.ch o.next) ∧ cB c L + 2 * post.length + 4 ≤ n
  | .passes => H.locked = true ∧ A.limbo.length ≤ L ∧ x.least = M ∧ ∃ pre v post, A.ch o.next = pre ++ v :: post ∧ v.id = x.at_ ∧ x.head = headW (A.ch o.next) ∧ cB c L + 2 * post.length + 3 ≤ n
  | .olders => H.locked = true ∧ A.limbo.length ≤ L ∧ ∃ pre v post, A.ch o.next = pre ++ v :: post ∧ v.id = x.at_ ∧ v.e ≤ M ∧ x.head = headW (A.ch o.next) ∧ cB c L + 2 * post.length + 2 ≤ n
  | .cuts => H.locked = true ∧ A.limbo.length ≤ L ∧ ∃ pre v post, A.ch o.next = pre ++ v :: post ∧ v.id = x.at_ ∧ v.e ≤ M ∧ x.head = headW (A.ch o.next) ∧ post ≠ [] ∧ x.older = headW post ∧ cB c L + 2 * post.length + 1 ≤ n
  | .nexts => H.locked = true ∧ A.limbo.length ≤ L ∧ ∃ pre v rest, A.ch o.next = pre ++ [v] ∧ v.id = x.at_ ∧ v.e ≤ M ∧ x.head = headW (A.ch o.next) ∧ rest ≠ [] ∧ x.older = headW rest ∧ Linked (hfind H.blocks) rest ∧
      (∀ u ∈ rest, A.own u.id = .none) ∧ (rest.map (·.id)).Nodup ∧ cB c L + 2 * rest.length ≤ n
  | .drops => H.locked = true ∧ A.limbo.length ≤ L ∧ ∃ pre v u rest, A.ch o.next = pre ++ [v] ∧ v.id = x.at_ ∧ v.e ≤ M ∧ x.head = headW (A.ch o.next) ∧ x.older = u.id ∧ Linked (hfind H.blocks) (u :: rest) ∧
      (∀ w ∈ u :: rest, A.own w.id = .none) ∧ ((u :: rest).map (·.id)).Nodup ∧ x.least = headW rest ∧ cB c L + 2 * rest.length + 1 ≤ n
  | .lives => H.locked = true ∧ A.limbo.length ≤ L ∧ ∃ v, A.ch o.next = [v] ∧ v.id = x.at_ ∧ v.e ≤ M ∧ cN c (L + 1) + 2 ≤ n
  | .unlinks => H.locked = true ∧ A.limbo.length ≤ L ∧ ∃ v, A.ch o.next = [v] ∧ v.id = x.at_ ∧ v.e ≤ M ∧ v.live = false ∧ cN c (L + 1) + 1 ≤ n
  | .again => H.locked = true ∧ A.limbo.length ≤ L + 1 ∧ o.limbo ≠ [] ∧ (0 ≤ x.pin ∧ x.pin < c.pins) ∧ (∀ i, 0 ≤ i → i < x.pin → A.pin i = 0) ∧ (c.pins - x.pin).toNat + A.limbo.length + 2 ≤ n
  | .clears => H.locked = true ∧ A.limbo.length ≤ L + 1 ∧ o.limbo ≠ [] ∧ ¬ P ∧ A.limbo.length + 1 ≤ n
  | .unlocks => H.locked = true ∧ A.limbo.length ≤ L + 1 ∧ 1 ≤ n
  | .done => H.locked = false ∧ A.limbo.length ≤ L + 1
structure ColK (c : Cfg) (M : Int) (P : Prop) (A0 : AH) (K : Int) (H : Hp) (o : Off) (A : AH) : Prop where
  hg : HG c H A
  lat : Later c M P A0 A
  lim : A.limbo.map (·.id) = o.limbo
  nx : 0 ≤ o.next ∧ o.next < c.shelves
  last : H.last = K
  flt : H.faults = 0
def ColI (c : Cfg) (M : Int) (P : Prop) (A0 : AH) (K : Int) (L : Nat) (n : Nat) (H : Hp) (s : Col × Off) : Prop := ∃ A, ColK c M P A0 K H s.2 A ∧ ColS c M P A L H s.1 s.2 n
/-- the pins -/
structure Pins (c : Cfg) (M : Int) (P : Prop) (A0 : AH) : Prop where
  one : P → ∃ i, 0 ≤ i ∧ i < c.pins ∧ A0.pin i = M + 1
  all : ∀ i, 0 ≤ i → i < c.pins → A0.pin i ≠ 0 → A0.pin i = M + 1 ∧ P
  non : ¬ P → M = A0.E
  le : 0 ≤ M ∧ M ≤ A0.E ∧ A0.E < 1000000000

variable {c : Cfg} {M : Int} {P : Prop} {A0 : AH} {K : Int} {L : Nat}

theorem ColK.step {H : Hp} {o : Off} {A : AH} (hc : c.right = true) (h : ColK c M P A0 K H o A) : ColK c M P A0 K H (o.step c) A := by
  obtain ⟨b1, b2, b3, -, -⟩ := c.bounds hc
  refine ⟨h.hg, h.lat, h.lim, ?_, h.last, h.flt⟩
  have := h.nx
  simp only [Off.step]
  split <;> omega
/-- a shelf is done -/
theorem ColI.next {H : Hp} {o : Off} {A : AH} {x : Col} {n : Nat} (hc : c.right = true) (h : ColK c M P A0 K H o A) (hl : H.locked = true) (hL : A.limbo.length ≤ L + 1) (hn : cN c A.limbo.length ≤ n) :
    ∃ m, m < n ∧ ColI c M P A0 K L m H (Col.next o x, o.step c) := by
  obtain ⟨b1, b2, b3, -, -⟩ := c.bounds hc
  have hlen : A.limbo.length = o.limbo.length := by rw [← h.lim]; simp
  by_cases hz : o.limbo = []
  · exact ⟨1, by simp only [cN] at hn; omega, A, h.step hc, by simp only [Col.next, hz, if_true, ColS]; exact ⟨hl, hL, by omega⟩⟩
  · refine ⟨n - 1, by simp only [cN] at hn; omega, A, h.step hc, ?_⟩
    simp only [Col.next, hz, if_false, ColS]
    refine ⟨hl, hL, hz, by omega, fun i h0 h1 => by omega, ?_⟩
    simp only [cN] at hn
    omega
/-- the base is met -/
theorem ColI.base {H : Hp} {o : Off} {A : AH} {x : Col} {n : Nat} (hc : c.right = true) (h : ColK c M P A0 K H o A) (hl : H.locked = true) (hL : A.limbo.length ≤ L) {pre : List Ver} {v : Ver} (e : A.ch o.next = pre ++ [v]) (hv : v.id = x.at_) (hM : v.e ≤ M)
    (hh : x.head = headW (A.ch o.next)) (hn : cB c L ≤ n) : ∃ m, m < n ∧ ColI c M P A0 K L m H (Col.base c o x) := by
  by_cases ha : x.at_ = x.head
  · have hp : pre = [] := by
      cases pre with
      | nil => rfl
      | cons p pre =>
        have hnod := h.hg.nod o.next h.nx.1 h.nx.2
        rw [hh, e] at ha
        rw [e] at hnod
        simp only [List.cons_append, List.map_cons, List.nodup_cons] at hnod
        refine absurd ?_ hnod.1
        refine List.mem_map.2 ⟨v, by simp, ?_⟩
        rw [hv, ha]; rfl
    subst hp
    refine ⟨n - 1, by simp only [cB, cN] at hn; omega, A, by simp only [Col.base, ha, if_true]; exact h, ?_⟩
    simp only [Col.base, ha, if_true, ColS]
    exact ⟨hl, hL, v, e, by rw [hv, ha], hM, by simp only [cB] at hn; omega⟩
  · simp only [Col.base, ha, if_false]
    exact ColI.next hc h hl (by omega) (by simp only [cB, cN] at hn ⊢; omega)

theorem headW_zero {H : Hp} {A : AH} (h : HG c H A) {s : Int} (h0 : 0 ≤ s) (hi : s < c.shelves) {l : List Ver} (hl : ∀ v ∈ l, v ∈ A.ch s) : headW l = 0 ↔ l = [] := by
  cases l with
  | nil => simp [headW]
  | cons v r =>
    simp only [headW, reduceCtorEq, iff_false]
    intro e
    have := h.own s v h0 hi (hl v (by simp))
    rw [e, h.zero] at this; cases this
end Go.Proofs.YtkbpnnbdfikjhaaGreat

/- Plain: each act of a collection. -/
namespace Go.Proofs.YtkbpnnbdfikjhaaGreat
open Go Go.Aw
set_option linter.unusedVariables false
set_option linter.unusedSimpArgs false
variable {c : Cfg} {M : Int} {P : Prop} {A0 : AH} {K : Int} {L : Nat}

theorem wof {H : Hp} {G : AH} (h : HG c H G) {b w : Int} {x : Blk} (hx : hfind H.blocks b = some x) (hw : w ∈ x.cells) : 0 ≤ w ∧ w < 18446744073709551616 := h.wordsOK b x hx w hw
theorem headW_w {H : Hp} {G : AH} (h : HG c H G) {s : Int} (h0 : 0 ≤ s) (hi : s < c.shelves) : 0 ≤ headW (G.ch s) ∧ headW (G.ch s) < 18446744073709551616 := by
  obtain ⟨cs, t, h1, h2, h3⟩ := h.ctl1
  exact h3 _ (List.mem_of_getElem? (h2.head s h0 hi))
theorem keyW_w {H : Hp} {G : AH} (h : HG c H G) {s : Int} (h0 : 0 ≤ s) (hi : s < c.shelves) : 0 ≤ keyW (G.key s) ∧ keyW (G.key s) < 18446744073709551616 := by
  obtain ⟨cs, t, h1, h2, h3⟩ := h.ctl1
  exact h3 _ (List.mem_of_getElem? (h2.key s h0 hi))
theorem pin_w {H : Hp} {G : AH} (h : HG c H G) {s : Int} (h0 : 0 ≤ s) (hi : s < c.pins) : 0 ≤ G.pin s ∧ G.pin s < 18446744073709551616 := by
  obtain ⟨cs, t, h1, h2, h3⟩ := h.ctl1
  exact h3 _ (List.mem_of_getElem? (h2.pin s h0 hi))
theorem ep_w {H : Hp} {G : AH} (h : HG c H G) : 0 ≤ G.E ∧ G.E < 18446744073709551616 := by
  obtain ⟨cs, t, h1, h2, h3⟩ := h.ctl1
  exact h3 _ (List.mem_of_getElem? h2.ep)
theorem HG.lock {H : Hp} {G : AH} (h : HG c H G) (l : Bool) : HG c { H with locked := l } G := ⟨h.ids, h.last, h.words, h.ctl, h.key, h.ver, h.own, h.nod, h.lim, h.limn, h.one, h.zero, h.fresh⟩
theorem HG.idw {H : Hp} {G : AH} (h : HG c H G) {b : Int} {x : Blk} (hx : hfind H.blocks b = some x) (hK : H.last < 1000000000) : 0 ≤ b ∧ b < 18446744073709551616 := by
  have := h.idof hx; omega

theorem col_ranked (hc : c.right = true) (hP : Pins c M P A0) (hL : L ≤ 1000) (hK0 : K < 1000000000) (ob : Nat) (mo : AV) : Ranked (colR c ob mo) (ColI c M P A0 K L) := by
  obtain ⟨b1, b2, b3, -, -⟩ := c.bounds hc
  obtain ⟨M0, M1, M2⟩ := hP.le
  rintro n H ⟨⟨part, pin, least, head, at_, older, gone⟩, o⟩ ⟨G, hK, hS⟩
  replace hS : ColS c M P G L H ⟨part, pin, least, head, at_, older, gone⟩ o n := hS
  replace hK : ColK c M P A0 K H o G := hK
  have hg := hK.hg
  have hnx := hK.nx
  have hlim : G.limbo.length = o.limbo.length := by rw [← hK.lim]; simp
  have hE := hK.lat.E
  have hpin := hK.lat.pin
  have hlast := hK.last
  refine ⟨hg.wordsOK, ⟨fun hp => ?_, hnx, fun hp => ?_, ?_⟩, fun a ha => ?_⟩
  · rcases hp with rfl | rfl
    · exact hS.2.2.1
    · exact hS.2.2.2.1
  · simp only at hp; subst hp; exact hS.2.2.1
  · have : G.limbo.length ≤ L + 1 := by
      cases part <;> first | exact Nat.le_succ_of_le hS.2.1 | exact hS.2.1 | exact hS.2
    simp only; omega
  have hKl : ∀ l, ColK c M P A0 K { H with locked := l } o G := fun l => ⟨hg.lock l, hK.lat, hK.lim, hnx, hK.last, hK.flt⟩
  have keepK : ∀ {H' : Hp}, HG c H' G → H'.last = H.last → H'.faults = H.faults → ColK c M P A0 K H' o G := fun h1 h2 h3 => ⟨h1, hK.lat, hK.lim, hnx, by rw [h2]; exact hK.last, by rw [h3]; exact hK.flt⟩
  cases part
  case locks =>
    cases ha
    obtain ⟨h1, h2, h0, h3⟩ := hS
    refine ⟨trivial, by simp [A.ready, h1], _, 1, _, by simp only [A.act, h1, if_true]; rfl, ⟨by omega, by simp⟩, n - 1, by omega, ?_⟩
    show ColI c M P A0 K L (n - 1) _ (⟨.epochs, pin, least, head, at_, older, gone⟩, o)
    exact ⟨G, hKl true, rfl, h2, h0, show cB c L + 2 * (G.ch o.next).length + c.pins.toNat + 8 ≤ n - 1 by omega⟩
  case epochs =>
    cases ha
    obtain ⟨h1, h2, h0, h3⟩ := hS
    simp only at h0; subst h0
    refine ⟨by simp [A.ok], rfl, H, G.E, _, hg.loadE, ⟨ep_w hg, by simp⟩, n - 1, by omega, ?_⟩
    show ColI c M P A0 K L (n - 1) _ (⟨.pins, 0, G.E, head, at_, older, gone⟩, o)
    exact ⟨G, hK, h1, h2, ⟨by simp only; omega, by simp only; omega⟩, .inr ⟨rfl, fun i i0 i1 => absurd i1 (by simp only; omega)⟩, show cB c L + 2 * (G.ch o.next).length + (c.pins - 0).toNat + 7 ≤ n - 1 by omega⟩
  case pins =>
    cases ha
    obtain ⟨h1, h2, h3, h4, h5⟩ := hS
    have hw := pin_w hg h3.1 h3.2
    refine ⟨by simp only [A.ok, Cfg.pin]; simp only at h3; omega, rfl, H, G.pin pin, _, hg.loadPin h3.1 h3.2, ⟨hw, by simp⟩, n - 1, by omega, ?_⟩
    show ColI c M P A0 K L (n - 1) _ (Col.scan c ⟨.pins, pin, least, head, at_, older, gone⟩ (G.pin pin), o)
    refine ⟨G, hK, ?_⟩
    show ColS c M P G L H (Col.scan c ⟨.pins, pin, least, head, at_, older, gone⟩ (G.pin pin)) o (n - 1)
    simp only at h3 h4 h5
    have hle : (if G.pin pin = 0 then least else min least (G.pin pin - 1)) = M ∨ ((if G.pin pin = 0 then least else min least (G.pin pin - 1)) = G.E ∧ ∀ i, 0 ≤ i → i < pin + 1 → G.pin i = 0) := by
      by_cases hz : G.pin pin = 0
      · rw [if_pos hz]
        rcases h4 with h4 | ⟨h4, h4'⟩
        · exact .inl h4
        · exact .inr ⟨h4, fun i i0 i1 => by
            by_cases hi : i = pin
            · rw [hi]; exact hz
            · exact h4' i i0 (by omega)⟩
      · rw [if_neg hz]
        left
        rw [hpin] at hz ⊢
        rw [(hP.all pin h3.1 h3.2 hz).1]
        rcases h4 with h4 | ⟨h4, _⟩
        · rw [h4]; omega
        · rw [h4, hE]; omega
    by_cases hlast' : pin + 1 = c.pins
    · simp only [Col.scan, hlast', if_true, ColS]
      refine ⟨h1, h2, ?_, by omega⟩
      rcases hle with hle | ⟨hle, hz⟩
      · exact hle
      · rw [hle, hE]
        refine (hP.non fun hp => ?_).symm
        obtain ⟨i, i0, i1, hi⟩ := hP.one hp
        have := hz i i0 (by omega)
        rw [hpin] at this; omega
    · simp only [Col.scan, hlast', if_false, ColS]
      exact ⟨h1, h2, by omega, hle, by omega⟩
  case heads =>
    cases ha
    obtain ⟨h1, h2, h3, h4⟩ := hS
    simp only at h3; subst h3
    refine ⟨by simp only [A.ok, Cfg.head]; omega, rfl, H, _, _, hg.loadHead hnx.1 hnx.2, ⟨headW_w hg hnx.1 hnx.2, by simp⟩, ?_⟩
    show ∃ m, m < n ∧ ColI c least P A0 K L m H (Col.down c o ⟨.heads, pin, least, headW (G.ch o.next), at_, older, gone⟩ (headW (G.ch o.next)))
    have hz := headW_zero hg hnx.1 hnx.2 (l := G.ch o.next) (fun _ h => h)
    by_cases h0 : headW (G.ch o.next) = 0
    · simp only [Col.down, h0, if_true]
      exact ColI.next hc hK h1 (by omega) (by simp only [cB, cN] at h4 ⊢; omega)
    · simp only [Col.down, h0, if_false]
      cases hch : G.ch o.next with
      | nil => rw [hch] at h0; exact absurd rfl h0
      | cons v post =>
        rw [hch] at h4
        simp only [List.length_cons] at h4
        exact ⟨n - 1, by omega, G, hK, h1, h2, rfl, [], v, post, hch, rfl, by rw [hch], by omega⟩
  case ages =>
    cases ha
    obtain ⟨h1, h2, h3, pre, v, post, e, hv, hh, h4⟩ := hS
    simp only at h3 hv hh; subst h3; subst hv
    have hat := hg.at hnx.1 hnx.2 e
    obtain ⟨l0, l1, l2, l3⟩ := HG.loadV hat
    have hw := wof hg hat (w := v.e) (by simp [Ver.blk])
    refine ⟨by simp [A.ok], rfl, H, _, _, l0, ⟨hw, by simp⟩, n - 1, by omega, ?_⟩
    show ColI c least P A0 K L (n - 1) H (⟨if least < v.e then .passes else .olders, pin, least, head, v.id, older, gone⟩, o)
    by_cases hlt : least < v.e
    · rw [if_pos hlt]
      exact ⟨G, hK, h1, h2, rfl, pre, v, post, e, rfl, hh, by omega⟩
    · rw [if_neg hlt]
      exact ⟨G, hK, h1, h2, pre, v, post, e, rfl, by omega, hh, by omega⟩
  case passes =>
    cases ha
    obtain ⟨h1, h2, h3, pre, v, post, e, hv, hh, h4⟩ := hS
    simp only at h3 hv hh; subst h3; subst hv
    have hat := hg.at hnx.1 hnx.2 e
    obtain ⟨l0, l1, l2, l3⟩ := HG.loadV hat
    have hw := wof hg hat (w := headW post) (by simp [Ver.blk])
    refine ⟨by simp [A.ok], rfl, H, _, _, l1, ⟨hw, by simp⟩, ?_⟩
    show ∃ m, m < n ∧ ColI c least P A0 K L m H (Col.down c o ⟨.passes, pin, least, head, v.id, older, gone⟩ (headW post))
    have hz := headW_zero hg hnx.1 hnx.2 (l := post) (fun u hu => by rw [e]; simp [hu])
    by_cases h0 : headW post = 0
    · simp only [Col.down, h0, if_true]
      exact ColI.next hc hK h1 (by omega) (by simp only [cB, cN] at h4 ⊢; omega)
    · simp only [Col.down, h0, if_false]
      cases post with
      | nil => exact absurd rfl h0
      | cons u post =>
        simp only [List.length_cons] at h4
        exact ⟨n - 1, by omega, G, hK, h1, h2, rfl, pre ++ [v], u, post, by rw [e]; simp, rfl, hh, by omega⟩
  case olders =>
    cases ha
    obtain ⟨h1, h2, pre, v, post, e, hv, hM, hh, h4⟩ := hS
    simp only at hv hh; subst hv
    have hat := hg.at hnx.1 hnx.2 e
    obtain ⟨l0, l1, l2, l3⟩ := HG.loadV hat
    have hw := wof hg hat (w := headW post) (by simp [Ver.blk])
    refine ⟨by simp [A.ok], rfl, H, _, _, l1, ⟨hw, by simp⟩, ?_⟩
    have hz := headW_zero hg hnx.1 hnx.2 (l := post) (fun u hu => by rw [e]; simp [hu])
    show ∃ m, m < n ∧ ColI c M P A0 K L m H (if headW post = 0 then Col.base c o ⟨.cuts, pin, least, head, v.id, headW post, gone⟩ else (⟨.cuts, pin, least, head, v.id, headW post, gone⟩, o))
    by_cases h0 : headW post = 0
    · rw [if_pos h0]
      have hp := hz.1 h0
      subst hp
      exact ColI.base hc hK h1 h2 e rfl hM hh (by omega)
    · rw [if_neg h0]
      exact ⟨n - 1, by omega, G, hK, h1, h2, pre, v, post, e, rfl, hM, hh, fun e' => h0 (hz.2 e'), rfl, by omega⟩
  case cuts =>
    cases ha
    obtain ⟨h1, h2, pre, v, post, e, hv, hM, hh, hp, ho, h4⟩ := hS
    simp only at hv hh ho; subst hv
    obtain ⟨H', a1, a2, a3, a4, a5, a6, a7, a8⟩ := hg.cut hnx.1 hnx.2 e
    refine ⟨by simp [A.ok], rfl, H', _, _, a1, ⟨by omega, by simp⟩, n - 1, by omega, ?_⟩
    show ColI c M P A0 K L (n - 1) H' (⟨.nexts, pin, least, head, v.id, older, gone⟩, o)
    refine ⟨_, ⟨a2, hK.lat.trans (Later.cut c M P e hM), hK.lim, hnx, by rw [a4]; exact hK.last, by rw [a5]; exact hK.flt⟩, by rw [a3]; exact h1, h2, pre, v, post, by simp [AH.cut], rfl, hM, ?_, hp, ho, a6, a7, a8, by omega⟩
    rw [hh, e]
    simp only [AH.cut, if_true]
    exact headW_app pre v post
  case nexts =>
    cases ha
    obtain ⟨h1, h2, pre, v, rest, e, hv, hM, hh, hr, ho, hL', hown, hnod, h4⟩ := hS
    simp only at hv hh ho; subst hv
    cases rest with
    | nil => exact absurd rfl hr
    | cons u rest =>
      simp only [headW] at ho; subst ho
      obtain ⟨l0, l1, l2, l3⟩ := HG.loadV hL'.1
      have hw := wof hg hL'.1 (w := headW rest) (by simp [Ver.blk])
      refine ⟨by simp [A.ok], rfl, H, _, _, l1, ⟨hw, by simp⟩, n - 1, by simp only [cB, cN] at h4; omega, ?_⟩
      show ColI c M P A0 K L (n - 1) H (⟨.drops, 0, headW rest, head, v.id, u.id, gone⟩, o)
      simp only [List.length_cons] at h4
      exact ⟨G, hK, h1, h2, pre, v, u, rest, e, rfl, hM, hh, rfl, hL', hown, hnod, rfl, by omega⟩
  case drops =>
    cases ha
    obtain ⟨h1, h2, pre, v, u, rest, e, hv, hM, hh, ho, hL', hown, hnod, hl, h4⟩ := hS
    simp only at hv hh ho hl; subst hv; subst ho; subst hl
    obtain ⟨H', a1, a2, a3, a4, a5, a6⟩ := hg.dropN hL'.1 (hown u (by simp))
    have hnod' := List.nodup_cons.1 (by simpa using hnod : (u.id :: rest.map (·.id)).Nodup)
    have key : ∀ (l : List Ver), (∀ w ∈ l, w.id ≠ u.id) → Linked (hfind H.blocks) l → Linked (hfind H'.blocks) l := by
      intro l
      induction l with
      | nil => intro _ _; trivial
      | cons w r ih => intro hne hl; exact ⟨a6 _ _ (hne w (by simp)) hl.1, ih (fun z hz => hne z (by simp [hz])) hl.2⟩
    have hLr : Linked (hfind H'.blocks) rest := key rest (fun w hw e' => hnod'.1 (List.mem_map.2 ⟨w, hw, e'⟩)) hL'.2
    have hK' := keepK a2 a4 a5
    have hz : headW rest = 0 ↔ rest = [] := by
      cases rest with
      | nil => simp [headW]
      | cons w r =>
        simp only [headW, reduceCtorEq, iff_false]
        intro e'
        have := (hg.idof hL'.2.1).1
        omega
    refine ⟨by simp [A.ok], rfl, H', _, _, a1, ⟨by omega, by simp⟩, ?_⟩
    show ∃ m, m < n ∧ ColI c M P A0 K L m H' (if headW rest = 0 then Col.base c o ⟨.nexts, pin, headW rest, head, v.id, headW rest, IntKind.i64.wrap (gone + 1)⟩ else (⟨.nexts, pin, headW rest, head, v.id, headW rest, IntKind.i64.wrap (gone + 1)⟩, o))
    by_cases h0 : headW rest = 0
    · rw [if_pos h0]
      exact ColI.base hc hK' (by rw [a3]; exact h1) h2 e rfl hM hh (by omega)
    · rw [if_neg h0]
      exact ⟨n - 1, by omega, G, hK', by rw [a3]; exact h1, h2, pre, v, rest, e, rfl, hM, hh, fun e' => h0 (hz.2 e'), rfl, hLr, fun w hw => hown w (by simp [hw]), hnod'.2, by omega⟩
  case lives =>
    cases ha
    obtain ⟨h1, h2, v, e, hv, hM, h4⟩ := hS
    simp only at hv; subst hv
    have hat := hg.at (pre := []) hnx.1 hnx.2 e
    obtain ⟨l0, l1, l2, l3⟩ := HG.loadV hat
    have hw := wof hg hat (w := liveW v.live) (by simp [Ver.blk])
    refine ⟨by simp [A.ok], rfl, H, _, _, l2, ⟨hw, by simp⟩, ?_⟩
    show ∃ m, m < n ∧ ColI c M P A0 K L m H (if liveW v.live = 0 then (⟨.unlinks, pin, least, head, v.id, older, gone⟩, o) else (Col.next o ⟨.unlinks, pin, least, head, v.id, older, gone⟩, o.step c))
    by_cases hl : v.live = true
    · rw [if_neg (by simp [liveW, hl])]
      exact ColI.next hc hK h1 (by omega) (by simp only [cN] at h4 ⊢; omega)
    · rw [if_pos (by simp [liveW, hl])]
      exact ⟨n - 1, by omega, G, hK, h1, h2, v, e, rfl, hM, by simpa using hl, by omega⟩
  case unlinks =>
    cases ha
    obtain ⟨h1, h2, v, e, hv, hM, hl, h4⟩ := hS
    simp only at hv; subst hv
    obtain ⟨H', a1, a2, a3, a4, a5⟩ := hg.unlink hc hnx.1 hnx.2 e
    refine ⟨by simp only [A.ok, Cfg.head]; omega, rfl, H', _, _, a1, ⟨by omega, by simp⟩, ?_⟩
    show ∃ m, m < n ∧ ColI c M P A0 K L m H' (Col.next { o with limbo := o.limbo ++ [v.id] } ⟨.unlinks, pin, least, head, v.id, older, gone⟩, Off.step c { o with limbo := o.limbo ++ [v.id] })
    have hK' : ColK c M P A0 K H' { o with limbo := o.limbo ++ [v.id] } (G.unlink o.next v) :=
      ⟨a2, hK.lat.trans (Later.unlink c M P e hM hl), by simp [AH.unlink, hK.lim], hnx, by rw [a4]; exact hK.last, by rw [a5]; exact hK.flt⟩
    exact ColI.next hc hK' (by rw [a3]; exact h1) (by simp [AH.unlink]; omega) (by simp only [cN, AH.unlink, List.length_append, List.length_singleton] at h4 ⊢; omega)
  case again =>
    cases ha
    obtain ⟨h1, h2, hne, h3, hz, h4⟩ := hS
    simp only at h3 hz h4
    refine ⟨by simp only [A.ok, Cfg.pin]; omega, rfl, H, _, _, hg.loadPin h3.1 h3.2, ⟨pin_w hg h3.1 h3.2, by simp⟩, n - 1, by omega, ?_⟩
    show ColI c M P A0 K L (n - 1) H (Col.rescan c ⟨.again, pin, least, head, at_, older, gone⟩ (G.pin pin), o)
    by_cases hw : G.pin pin = 0
    · by_cases hl : pin + 1 = c.pins
      · simp only [Col.rescan, hw, hl, ne_eq, not_true_eq_false, if_false, if_true]
        refine ⟨G, hK, h1, h2, hne, fun hp => ?_, by omega⟩
        obtain ⟨i, i0, i1, hi⟩ := hP.one hp
        rw [← hpin] at hi
        by_cases hip : i = pin
        · rw [hip, hw] at hi; omega
        · rw [hz i i0 (by omega)] at hi; omega
      · simp only [Col.rescan, hw, hl, ne_eq, not_true_eq_false, if_false]
        refine ⟨G, hK, h1, h2, hne, ⟨by simp only; omega, by simp only; omega⟩, fun i i0 i1 => ?_, by simp only; omega⟩
        by_cases hip : i = pin
        · rw [hip]; exact hw
        · exact hz i i0 (by simp only at i1; omega)
    · simp only [Col.rescan, hw, ne_eq, not_false_eq_true, if_true]
      exact ⟨G, hK, h1, h2, by omega⟩
  case clears =>
    obtain ⟨h1, h2, hne, hnp, h4⟩ := hS
    cases hlm : G.limbo with
    | nil => have := hK.lim; rw [hlm] at this; exact absurd this.symm hne
    | cons v r =>
      have hol : o.limbo = v.id :: r.map (·.id) := by rw [← hK.lim, hlm]; rfl
      have ha' : a = A.drop v.id := by
        have : (Col.act c o ⟨.clears, pin, least, head, at_, older, gone⟩) = some a := ha
        simp only [Col.act, hol, Option.some.injEq] at this
        exact this.symm
      subst ha'
      obtain ⟨u1, u2⟩ := hg.unlimbo hlm
      have hbv := (hg.lim v (by rw [hlm]; simp)).2
      obtain ⟨H', a1, a2, a3, a4, a5, a6⟩ := u1.dropN hbv u2
      refine ⟨by simp [A.ok], rfl, H', _, _, a1, ⟨by omega, by simp⟩, n - 1, by omega, ?_⟩
      show ColI c M P A0 K L (n - 1) H' (⟨if o.limbo.tail = [] then .unlocks else .clears, pin, least, head, at_, older, IntKind.i64.wrap (gone + 1)⟩, { o with limbo := o.limbo.tail })
      have hK' : ColK c M P A0 K H' { o with limbo := o.limbo.tail } (G.unlimbo v r) :=
        ⟨a2, hK.lat.trans (Later.unlimbo c M hnp), by simp [AH.unlimbo, hol], hnx, by rw [a4]; exact hK.last, by rw [a5]; exact hK.flt⟩
      rw [hlm] at h2 h4
      simp only [List.length_cons] at h2 h4
      by_cases hr : o.limbo.tail = []
      · rw [if_pos hr]
        exact ⟨_, hK', by rw [a3]; exact h1, by simp only [AH.unlimbo]; omega, by omega⟩
      · rw [if_neg hr]
        exact ⟨_, hK', by rw [a3]; exact h1, by simp only [AH.unlimbo]; omega, hr, hnp, by simp only [AH.unlimbo]; omega⟩
  case unlocks =>
    cases ha
    obtain ⟨h1, h2, h4⟩ := hS
    refine ⟨trivial, rfl, _, 0, _, by simp only [A.act, h1, if_true]; rfl, ⟨by omega, by simp⟩, n - 1, by omega, ?_⟩
    show ColI c M P A0 K L (n - 1) _ (⟨.done, pin, least, head, at_, older, gone⟩, o)
    exact ⟨G, hKl false, rfl, h2⟩
  case done => cases ha
end Go.Proofs.YtkbpnnbdfikjhaaGreat

/- Plain: what a view sees. -/
namespace Go.Proofs.YtkbpnnbdfikjhaaGreat
open Go Go.Aw
set_option linter.unusedVariables false
set_option linter.unusedSimpArgs false
variable {c : Cfg} {M : Int} {P : Prop} {A0 : AH} {K : Int} {L : Nat}

theorem col_run (hc : c.right = true) (hP : Pins c M P A0) (hL : L ≤ 1000) (hK0 : K < 1000000000) (ob : Nat) (mo : AV) {H : Hp} {o : Off} (hg : HG c H A0) (hl : H.locked = false) (hlim : A0.limbo.map (·.id) = o.limbo) (hnx : 0 ≤ o.next ∧ o.next < c.shelves)
    (hK : H.last = K) (hf : H.faults = 0) (hch : (A0.ch o.next).length ≤ 1000) (hLl : A0.limbo.length ≤ L) :
    ∃ A', HG c ((colR c ob mo).run 10000 (H, (Col.new, o))).2.1 A' ∧ Later c M P A0 A' ∧ A'.limbo.map (·.id) = ((colR c ob mo).run 10000 (H, (Col.new, o))).2.2.2.limbo ∧
      (0 ≤ ((colR c ob mo).run 10000 (H, (Col.new, o))).2.2.2.next ∧ ((colR c ob mo).run 10000 (H, (Col.new, o))).2.2.2.next < c.shelves) ∧
      ((colR c ob mo).run 10000 (H, (Col.new, o))).2.1.last = K ∧ ((colR c ob mo).run 10000 (H, (Col.new, o))).2.1.faults = 0 ∧ ((colR c ob mo).run 10000 (H, (Col.new, o))).2.1.locked = false ∧ A'.limbo.length ≤ L + 1 := by
  obtain ⟨b1, b2, b3, -, -⟩ := c.bounds hc
  have h0 : ColI c M P A0 K L 10000 H (Col.new, o) := ⟨A0, ⟨hg, Later.refl _ _ _ _, hlim, hnx, hK, hf⟩, hl, hLl, rfl, by simp only [cB, cN]; omega⟩
  obtain ⟨⟨m, A', hK', hS'⟩, h2⟩ := (col_ranked hc hP hL hK0 ob mo).run 10000 10000 (H, (Col.new, o)) h0
  have hact := h2 (Nat.le_refl _)
  generalize ((colR c ob mo).run 10000 (H, (Col.new, o))) = y at *
  obtain ⟨k, H', ⟨part, pin, least, head, at_, older, gone⟩, o'⟩ := y
  refine ⟨A', hK'.hg, hK'.lat, hK'.lim, hK'.nx, hK'.last, hK'.flt, ?_⟩
  cases part <;> first
    | exact ⟨hS'.1, hS'.2⟩
    | (exfalso; cases hact; done)
    | (exfalso
       obtain ⟨_, _, hne, _⟩ := hS'
       have hne' : o'.limbo ≠ [] := hne
       cases hll : o'.limbo with
       | nil => exact hne' hll
       | cons b l =>
         have : (Col.act c o' ⟨.clears, pin, least, head, at_, older, gone⟩) = none := hact
         simp [Col.act, hll] at this)

/-! ### what is seen -/
def obs (M : Int) (A : AH) (s : Int) : Option Pr := match A.key s with
  | none => none
  | some (_, t) => (rd M (A.ch s)).map fun x => (t, x)
def see (acc : List Pr) : Option Pr → List Pr
  | none => acc
  | some p => sput acc p.1 p.2
def sofar (O : Int → Option Pr) : Nat → List Pr
  | 0 => []
  | n + 1 => see (sofar O n) (O n)
theorem sput_keys {k v : ByteArray} : ∀ (l : List Pr), (sput l k v).map (·.1) = l.map (·.1) ∨ (k ∉ l.map (·.1) ∧ (sput l k v).map (·.1) = l.map (·.1) ++ [k])
  | [] => .inr ⟨by simp, rfl⟩
  | x :: l => by
    have ih := sput_keys (k := k) (v := v) l
    simp only [sput]
    by_cases h : k = x.1
    · subst h; left; simp
    · rw [if_neg h]
      rcases ih with ih | ⟨ih1, ih2⟩
      · left; simp [ih]
      · refine .inr ⟨fun hin => ?_, by simp [ih2]⟩
        simp only [List.map_cons, List.mem_cons] at hin
        exact hin.elim h ih1
theorem sofar_ok (O : Int → Option Pr) : ∀ n, (sofar O n).length ≤ n ∧ ((sofar O n).map (·.1)).Nodup
  | 0 => by simp [sofar]
  | n + 1 => by
    obtain ⟨h1, h2⟩ := sofar_ok O n
    cases hO : O n with
    | none => simp only [sofar, hO, see]; exact ⟨by omega, h2⟩
    | some p =>
      have hk := sput_keys (k := p.1) (v := p.2) (sofar O n)
      have hlen : (sput (sofar O n) p.1 p.2).length = ((sput (sofar O n) p.1 p.2).map (·.1)).length := by simp
      simp only [sofar, hO, see]
      rw [hlen]
      rcases hk with hk | ⟨hn, hk⟩
      · rw [hk]; exact ⟨by simp; omega, h2⟩
      · rw [hk]
        refine ⟨by simpa using h1, ?_⟩
        refine List.nodup_append.2 ⟨h2, by simp, fun a ha b hb => ?_⟩
        simp only [List.mem_singleton] at hb
        subst hb
        exact fun e => hn (by rw [← e]; exact ha)

/-- where a chain is read, with what is left of it -/
def AtR (M : Int) (A : AH) (s : Int) (v : Ver) (r : Nat) : Prop := (∃ pre post, A.ch s = pre ++ v :: post ∧ (∀ u ∈ pre, M < u.e) ∧ post.length ≤ r) ∨ (v ∈ A.limbo ∧ (M < v.e ∨ v.live = false) ∧ rd M (A.ch s) = none)
theorem AtX.r {M : Int} {A : AH} {s : Int} {v : Ver} (h : AtX M A s v) : AtR M A s v (A.ch s).length := by
  rcases h with ⟨pre, post, h1, h2⟩ | h
  · exact .inl ⟨pre, post, h1, h2, by rw [h1]; simp; omega⟩
  · exact .inr h
theorem AtR.x {M : Int} {A : AH} {s : Int} {v : Ver} {r : Nat} (h : AtR M A s v r) : AtX M A s v := by
  rcases h with ⟨pre, post, h1, h2, _⟩ | h
  · exact .inl ⟨pre, post, h1, h2⟩
  · exact .inr h

/-- the next of a version, read -/
theorem AtR.next {H : Hp} {A : AH} (h : HG c H A) {s : Int} (h0 : 0 ≤ s) (hi : s < c.shelves) {v : Ver} {r : Nat} (hv : AtR M A s v r) :
    ∃ nx, hfind H.blocks v.id = some (v.blk nx) ∧ (M < v.e → (nx = 0 ∧ rd M (A.ch s) = none) ∨ (nx ≠ 0 ∧ 1 ≤ r ∧ ∃ u, u.id = nx ∧ AtR M A s u (r - 1))) ∧ (v.e ≤ M → rd M (A.ch s) = if v.live = true then some v.text else none) := by
  rcases hv with ⟨pre, post, e, hpre, hr⟩ | ⟨hl, hd, hn⟩
  · refine ⟨headW post, h.at h0 hi e, fun hM => ?_, fun hM => ?_⟩
    · cases post with
      | nil =>
        refine .inl ⟨rfl, ?_⟩
        rw [e, rd_skip hpre]
        simp [rd]; omega
      | cons u post =>
        refine .inr ⟨?_, by simp at hr; omega, u, rfl, .inl ⟨pre ++ [v], post, by rw [e]; simp, fun w hw => ?_, by simp at hr; omega⟩⟩
        · intro e0
          exact absurd ((headW_zero h h0 hi (l := u :: post) (fun w hw => by rw [e]; exact List.mem_append_right _ (List.mem_cons_of_mem _ hw))).1 e0) (by simp)
        · rcases List.mem_append.1 hw with hw | hw
          · exact hpre w hw
          · rw [List.mem_singleton.1 hw]; exact hM
    · rw [e, rd_skip hpre]
      simp [rd, hM]
  · refine ⟨0, (h.lim v hl).2, fun hM => .inl ⟨rfl, hn⟩, fun hM => ?_⟩
    rcases hd with hd | hd
    · omega
    · rw [hn]; simp [hd]
end Go.Proofs.YtkbpnnbdfikjhaaGreat

/- Plain: each act of a view. -/
namespace Go.Proofs.YtkbpnnbdfikjhaaGreat
open Go Go.Aw
set_option linter.unusedVariables false
set_option linter.unusedSimpArgs false
variable {c : Cfg} {M i : Int} {G : AH} {O : Int → Option Pr} {K : Int} {CL : Nat}

def rest (c : Cfg) (CL : Nat) (s : Int) : Nat := (c.shelves - s - 1).toNat * (2 * CL + 8) + 2
theorem rest_next {c : Cfg} {CL : Nat} {s : Int} (h : s + 1 < c.shelves) : rest c CL s = rest c CL (s + 1) + (2 * CL + 8) := by
  simp only [rest]
  rw [show (c.shelves - s - 1).toNat = (c.shelves - (s + 1) - 1).toNat + 1 by omega, Nat.add_mul]
  omega
/-- amid a chain -/
def RdS (c : Cfg) (M : Int) (A : AH) (CL : Nat) (s : Int) (y : Chn) (n : Nat) : Prop := match y.part with
  | .head => rest c CL s + 2 * CL + 5 ≤ n
  | .epoch => ∃ v r, v.id = y.block ∧ AtR M A s v r ∧ rest c CL s + 2 * r + 4 ≤ n
  | .next => ∃ v r, v.id = y.block ∧ AtR M A s v r ∧ M < v.e ∧ rest c CL s + 2 * r + 3 ≤ n
  | .live => ∃ v r, v.id = y.block ∧ AtR M A s v r ∧ v.e ≤ M ∧ rest c CL s + 3 ≤ n
  | .text => ∃ v r, v.id = y.block ∧ AtR M A s v r ∧ v.e ≤ M ∧ v.live = true ∧ rest c CL s + 2 ≤ n
  | .done => False
def VwS (c : Cfg) (M i : Int) (A : AH) (O : Int → Option Pr) (CL : Nat) (H : Hp) (x : Vw) (n : Nat) : Prop := match x.st with
  | .pins _ => False
  | .keys => HG c H A ∧ x.pin = i ∧ x.epoch = M ∧ (0 ≤ x.shelf ∧ x.shelf < c.shelves) ∧ x.seen = sofar O x.shelf.toNat ∧ rest c CL x.shelf + 2 * CL + 8 ≤ n
  | .texts => HG c H A ∧ x.pin = i ∧ x.epoch = M ∧ (0 ≤ x.shelf ∧ x.shelf < c.shelves) ∧ x.seen = sofar O x.shelf.toNat ∧ (∃ t, A.key x.shelf = some (x.block, t)) ∧ rest c CL x.shelf + 2 * CL + 7 ≤ n
  | .reads y => HG c H A ∧ x.pin = i ∧ x.epoch = M ∧ (0 ≤ x.shelf ∧ x.shelf < c.shelves) ∧ x.seen = sofar O x.shelf.toNat ∧ (∃ k, A.key x.shelf = some (k, x.key)) ∧ y.cell = c.head x.shelf ∧ y.epoch = M ∧ RdS c M A CL x.shelf y n
  | .frees => HG c H A ∧ x.pin = i ∧ x.seen = sofar O c.shelves.toNat ∧ 1 ≤ n
  | .done => HG c H (A.setPin i 0) ∧ x.pairs = pairsOf (sofar O c.shelves.toNat)
def VwI (c : Cfg) (M i : Int) (A : AH) (O : Int → Option Pr) (K : Int) (CL : Nat) (n : Nat) (H : Hp) (x : Vw) : Prop :=
  (0 ≤ x.acts ∧ x.acts + (n : Int) ≤ 1000000) ∧ H.last = K ∧ H.faults = 0 ∧ H.locked = false ∧ VwS c M i A O CL H x n

theorem VwI.next {H : Hp} {x : Vw} {m : Nat} (ha : 0 ≤ x.acts ∧ x.acts + (m : Int) ≤ 1000000) (hK : H.last = K) (hf : H.faults = 0) (hl : H.locked = false) (hg : HG c H G) (hp : x.pin = i) (he : x.epoch = M) (hs : 0 ≤ x.shelf ∧ x.shelf < c.shelves)
    (hseen : x.seen = sofar O (x.shelf.toNat + 1)) (hm : rest c CL x.shelf ≤ m) : VwI c M i G O K CL m H (Vw.next c x) := by
  obtain ⟨st, acts, pin, epoch, shelf, block, key, seen, pairs, mark⟩ := x
  simp only at ha hp he hs hseen hm
  by_cases h : shelf + 1 = c.shelves
  · refine ⟨ha, hK, hf, hl, ?_⟩
    simp only [Vw.next, h, if_true, VwS]
    refine ⟨hg, hp, ?_, by simp only [rest] at hm; omega⟩
    rw [hseen, ← h]; congr 1; omega
  · refine ⟨ha, hK, hf, hl, ?_⟩
    simp only [Vw.next, h, if_false, VwS]
    have := rest_next (CL := CL) (s := shelf) (c := c) (by omega)
    refine ⟨hg, hp, he, by omega, ?_, by omega⟩
    rw [hseen]; congr 1; omega

theorem view_ranked (hc : c.right = true) (hi : 0 ≤ i ∧ i < c.pins) (hO : ∀ s, 0 ≤ s → s < c.shelves → O s = obs M G s) (hCL : ∀ s, 0 ≤ s → s < c.shelves → (G.ch s).length ≤ CL) (hK0 : K < 1000000000) :
    Ranked (viewR c) (VwI c M i G O K CL) := by
  obtain ⟨b1, b2, b3, -, -⟩ := c.bounds hc
  rintro n H ⟨st, acts, pin, epoch, shelf, block, key, seen, pairs, mark⟩ ⟨⟨ha0, ha1⟩, hK, hf, hl, hS⟩
  simp only at ha0 ha1
  cases st
  case pins p => exact hS.elim
  case done =>
    obtain ⟨hg, _⟩ := hS
    exact ⟨hg.wordsOK, ⟨⟨ha0, by simp only; omega⟩, trivial⟩, fun a ha => by cases ha⟩
  case frees =>
    obtain ⟨hg, hp, hsn, hn⟩ := hS
    simp only at hp hsn; subst hp
    refine ⟨hg.wordsOK, ⟨⟨ha0, by simp only; omega⟩, hi⟩, fun a ha => ?_⟩
    cases ha
    obtain ⟨H', a1, a2, a3, a4, a5, -⟩ := hg.setPin hc hi.1 hi.2 (w := 0) (by omega)
    refine ⟨by simp only [A.ok, Cfg.pin]; omega, rfl, H', _, _, a1, ?_, n - 1, by omega, ?_⟩
    · have := sofar_ok O c.shelves.toNat
      show seen.length ≤ 900 ∧ (seen.map (·.1)).Nodup
      rw [hsn]; exact ⟨by omega, this.2⟩
    · show VwI c M pin G O K CL (n - 1) H' ⟨.done, acts + 1, pin, epoch, shelf, block, key, seen, pairsOf seen, mark⟩
      exact ⟨⟨by simp only; omega, by simp only; omega⟩, by rw [a4]; exact hK, by rw [a5]; exact hf, by rw [a3]; exact hl, a2, by rw [hsn]⟩
  case keys =>
    obtain ⟨hg, hp, he, hs, hsn, hn⟩ := hS
    simp only at hp he hs hsn hn
    refine ⟨hg.wordsOK, ⟨⟨ha0, by simp only; omega⟩, hs⟩, fun a ha => ?_⟩
    cases ha
    refine ⟨by simp only [A.ok, Cfg.key]; omega, rfl, H, _, _, hg.loadKey hs.1 hs.2, trivial, n - 1, by omega, ?_⟩
    show VwI c M i G O K CL (n - 1) H (if keyW (G.key shelf) = 0 then Vw.next c ⟨.keys, acts + 1, pin, epoch, shelf, keyW (G.key shelf), key, seen, pairs, mark⟩ else ⟨.texts, acts + 1, pin, epoch, shelf, keyW (G.key shelf), key, seen, pairs, mark⟩)
    cases hk : G.key shelf with
    | none =>
      rw [if_pos (show keyW none = 0 from rfl)]
      refine VwI.next ⟨by simp only; omega, by simp only; omega⟩ hK hf hl hg hp he hs ?_ (by simp only; omega)
      have h1 := hO shelf hs.1 hs.2
      simp only [obs, hk] at h1
      simp only [sofar]
      rw [show ((shelf.toNat : Nat) : Int) = shelf by omega, h1]
      exact hsn
    | some kt =>
      obtain ⟨k, t⟩ := kt
      obtain ⟨_, cs, hb⟩ := hg.key shelf k t hs.1 hs.2 hk
      have hk1 := (hg.idof hb).1
      rw [if_neg (by simp only [keyW]; omega)]
      exact ⟨⟨by simp only; omega, by simp only; omega⟩, hK, hf, hl, hg, hp, he, hs, hsn, ⟨t, hk⟩, by simp only; omega⟩
  case texts =>
    obtain ⟨hg, hp, he, hs, hsn, ⟨t, hk⟩, hn⟩ := hS
    simp only at hp he hs hsn hn hk
    refine ⟨hg.wordsOK, ⟨⟨ha0, by simp only; omega⟩, hs⟩, fun a ha => ?_⟩
    cases ha
    obtain ⟨_, cs, hb⟩ := hg.key shelf block t hs.1 hs.2 hk
    refine ⟨trivial, rfl, H, 0, t, by simp [A.act, hb], trivial, n - 1, by omega, ?_⟩
    show VwI c M i G O K CL (n - 1) H ⟨.reads (Chn.new c shelf epoch), acts + 1, pin, epoch, shelf, block, t, seen, pairs, mark⟩
    exact ⟨⟨by simp only; omega, by simp only; omega⟩, hK, hf, hl, hg, hp, he, hs, hsn, ⟨block, hk⟩, rfl, he, show rest c CL shelf + 2 * CL + 5 ≤ n - 1 by omega⟩
  case reads y =>
    obtain ⟨hg, hp, he, hs, hsn, ⟨k, hk⟩, hcell, hep, hR⟩ := hS
    simp only at hp he hs hsn hk hcell
    obtain ⟨cell, ye, yb, part, has, text, vb, passed⟩ := y
    simp only at hcell hep
    subst hcell; subst hep
    replace hR : RdS c ye G CL shelf ⟨c.head shelf, ye, yb, part, has, text, vb, passed⟩ n := hR
    have hOs := hO shelf hs.1 hs.2
    simp only [obs, hk] at hOs
    -- the answer is there
    have fin : ∀ (m : Nat) (w : Int) (t : ByteArray) (y' : Chn), rest c CL shelf ≤ m → m < n → (Chn.take ⟨c.head shelf, ye, yb, part, has, text, vb, passed⟩ w t) = y' → y'.part = .done → (rd ye (G.ch shelf) = if y'.has = true then some y'.text else none) →
        VwI c ye i G O K CL m H (Vw.take c ⟨.reads ⟨c.head shelf, ye, yb, part, has, text, vb, passed⟩, acts, pin, epoch, shelf, block, key, seen, pairs, mark⟩ w t) := by
      intro m w t y' hm hmn hy hd hr
      simp only [Vw.take, hy, hd, if_true]
      refine VwI.next ⟨by simp only; omega, by simp only; omega⟩ hK hf hl hg hp he hs ?_ hm
      simp only [sofar]
      rw [show ((shelf.toNat : Nat) : Int) = shelf by omega, hOs, hr, hsn]
      by_cases hh : y'.has = true
      · simp [hh, see]
      · simp [hh, see]
    have go : ∀ (m : Nat) (w : Int) (t : ByteArray) (y' : Chn), m < n → (Chn.take ⟨c.head shelf, ye, yb, part, has, text, vb, passed⟩ w t) = y' → y'.part ≠ .done → y'.cell = c.head shelf → y'.epoch = ye → RdS c ye G CL shelf y' m →
        VwI c ye i G O K CL m H (Vw.take c ⟨.reads ⟨c.head shelf, ye, yb, part, has, text, vb, passed⟩, acts, pin, epoch, shelf, block, key, seen, pairs, mark⟩ w t) := by
      intro m w t y' hmn hy hd hc' he' hr
      simp only [Vw.take, hy, hd, if_false]
      exact ⟨⟨by simp only; omega, by simp only; omega⟩, hK, hf, hl, hg, hp, he, hs, hsn, ⟨k, hk⟩, hc', he', hr⟩
    have hpn : part ≠ .done := fun e => by subst e; exact hR.elim
    refine ⟨hg.wordsOK, ⟨⟨ha0, by simp only; omega⟩, hs, hpn⟩, fun a ha => ?_⟩
    cases part
    case done => exact absurd rfl hpn
    case head =>
      cases ha
      have hn : rest c CL shelf + 2 * CL + 5 ≤ n := hR
      refine ⟨by simp only [A.ok, Cfg.head]; omega, rfl, H, _, _, hg.loadHead hs.1 hs.2, trivial, n - 1, by omega, ?_⟩
      cases hch : G.ch shelf with
      | nil => exact fin (n - 1) 0 _ _ (by omega) (by omega) rfl (by simp [Chn.take, Chn.fin]) (by simp [hch, rd, Chn.take, Chn.fin])
      | cons v post =>
        have hz : headW (v :: post) ≠ 0 := fun e0 => absurd ((headW_zero hg hs.1 hs.2 (l := v :: post) (fun w hw => by rw [hch]; exact hw)).1 e0) (by simp)
        have hlen := hCL shelf hs.1 hs.2
        rw [hch] at hlen
        simp only [List.length_cons] at hlen
        refine go (n - 1) _ _ ⟨c.head shelf, ye, v.id, .epoch, has, text, vb, passed⟩ (by omega) (by simp only [Chn.take]; rw [if_neg hz]; rfl) (by simp) rfl rfl ?_
        exact ⟨v, post.length, rfl, .inl ⟨[], post, hch, by simp, Nat.le_refl _⟩, by omega⟩
    case epoch =>
      cases ha
      obtain ⟨v, r, hv, hat, hn⟩ := hR
      simp only at hv; subst hv
      obtain ⟨nx, hb, h1, h2⟩ := hat.next hg hs.1 hs.2
      obtain ⟨l0, l1, l2, l3⟩ := HG.loadV hb
      refine ⟨by simp [A.ok], rfl, H, _, _, l0, trivial, n - 1, by omega, ?_⟩
      by_cases hM : ye < v.e
      · exact go (n - 1) _ _ ⟨c.head shelf, ye, v.id, .next, has, text, vb, passed⟩ (by omega) (by simp [Chn.take, hM]) (by simp) rfl rfl ⟨v, r, rfl, hat, hM, by omega⟩
      · exact go (n - 1) _ _ ⟨c.head shelf, ye, v.id, .live, has, text, vb, passed⟩ (by omega) (by simp [Chn.take, hM]) (by simp) rfl rfl ⟨v, r, rfl, hat, by omega, by omega⟩
    case next =>
      cases ha
      obtain ⟨v, r, hv, hat, hM, hn⟩ := hR
      simp only at hv; subst hv
      obtain ⟨nx, hb, h1, h2⟩ := hat.next hg hs.1 hs.2
      obtain ⟨l0, l1, l2, l3⟩ := HG.loadV hb
      refine ⟨by simp [A.ok], rfl, H, _, _, l1, trivial, n - 1, by omega, ?_⟩
      rcases h1 hM with ⟨rfl, hr⟩ | ⟨hz, hr1, u, hu, hat'⟩
      · exact fin (n - 1) 0 _ _ (by omega) (by omega) rfl (by simp [Chn.take, Chn.fin]) (by simp [hr, Chn.take, Chn.fin])
      · exact go (n - 1) _ _ ⟨c.head shelf, ye, nx, .epoch, has, text, vb, _⟩ (by omega) (by simp only [Chn.take]; rw [if_neg hz]) (by simp) rfl rfl ⟨u, r - 1, hu, hat', by omega⟩
    case live =>
      cases ha
      obtain ⟨v, r, hv, hat, hM, hn⟩ := hR
      simp only at hv; subst hv
      obtain ⟨nx, hb, h1, h2⟩ := hat.next hg hs.1 hs.2
      obtain ⟨l0, l1, l2, l3⟩ := HG.loadV hb
      have hr := h2 hM
      refine ⟨by simp [A.ok], rfl, H, _, _, l2, trivial, n - 1, by omega, ?_⟩
      by_cases hl' : v.live = true
      · exact go (n - 1) _ _ ⟨c.head shelf, ye, v.id, .text, has, text, vb, passed⟩ (by omega) (by simp [Chn.take, liveW, hl']) (by simp) rfl rfl ⟨v, r, rfl, hat, hM, hl', by omega⟩
      · exact fin (n - 1) _ _ _ (by omega) (by omega) rfl (by simp [Chn.take, Chn.fin, liveW, hl']) (by rw [hr]; simp [Chn.take, Chn.fin, liveW, hl'])
    case text =>
      cases ha
      obtain ⟨v, r, hv, hat, hM, hl', hn⟩ := hR
      simp only at hv; subst hv
      obtain ⟨nx, hb, h1, h2⟩ := hat.next hg hs.1 hs.2
      obtain ⟨l0, l1, l2, l3⟩ := HG.loadV hb
      have hr := h2 hM
      refine ⟨trivial, rfl, H, _, _, l3, trivial, n - 1, by omega, ?_⟩
      exact fin (n - 1) _ _ _ (by omega) (by omega) rfl (by simp [Chn.take, Chn.fin]) (by rw [hr]; simp [Chn.take, Chn.fin, hl'])
end Go.Proofs.YtkbpnnbdfikjhaaGreat

/- Plain: a view from its start; a view between whose acts others act. -/
namespace Go.Proofs.YtkbpnnbdfikjhaaGreat
open Go Go.Aw
set_option linter.unusedVariables false
set_option linter.unusedSimpArgs false
variable {c : Cfg} {M i : Int} {G : AH} {O : Int → Option Pr} {K : Int} {CL : Nat}

def full (c : Cfg) (CL : Nat) : Nat := rest c CL 0 + 2 * CL + 8
theorem rest_le {c : Cfg} {CL : Nat} {s : Int} (h : 0 ≤ s) : rest c CL s ≤ rest c CL 0 := by
  simp only [rest]
  exact Nat.add_le_add_right (Nat.mul_le_mul_right _ (by omega)) _

/-- others acted -/
theorem VwI.later {n : Nat} {H H' : Hp} {x : Vw} {A' : AH} {K' : Int} (h : VwI c M i G O K CL n H x) (nd : x.st ≠ .done) (hg : HG c H' A') (hK : H'.last = K') (hf : H'.faults = 0) (hl : H'.locked = false) (hkey : ∀ s k t, G.key s = some (k, t) → A'.key s = some (k, t))
    (hat : ∀ s v, 0 ≤ s → s < c.shelves → AtX M G s v → AtX M A' s v) (hCL : ∀ s, 0 ≤ s → s < c.shelves → (A'.ch s).length ≤ CL) (ha : x.acts + (full c CL : Int) ≤ 1000000) : VwI c M i A' O K' CL (full c CL) H' x := by
  obtain ⟨st, acts, pin, epoch, shelf, block, key, seen, pairs, mark⟩ := x
  obtain ⟨⟨a0, a1⟩, -, -, -, hS⟩ := h
  refine ⟨⟨a0, ha⟩, hK, hf, hl, ?_⟩
  cases st
  case pins p => exact hS.elim
  case done => exact absurd rfl nd
  case frees =>
    obtain ⟨_, h1, h2, h3⟩ := hS
    exact ⟨hg, h1, h2, by simp only [full, rest]; omega⟩
  case keys =>
    obtain ⟨_, h1, h2, h3, h4, h5⟩ := hS
    have := rest_le (c := c) (CL := CL) h3.1
    exact ⟨hg, h1, h2, h3, h4, by simp only [full] at *; omega⟩
  case texts =>
    obtain ⟨_, h1, h2, h3, h4, ⟨t, h5⟩, h6⟩ := hS
    have := rest_le (c := c) (CL := CL) h3.1
    exact ⟨hg, h1, h2, h3, h4, ⟨t, hkey _ _ _ h5⟩, by simp only [full] at *; omega⟩
  case reads y =>
    obtain ⟨_, h1, h2, h3, h4, ⟨k, h5⟩, h6, h7, h8⟩ := hS
    have hle := rest_le (c := c) (CL := CL) h3.1
    refine ⟨hg, h1, h2, h3, h4, ⟨k, hkey _ _ _ h5⟩, h6, h7, ?_⟩
    simp only at h3 h8 hle ⊢
    obtain ⟨cell, ye, yb, part, has, text, vb, passed⟩ := y
    have tr : ∀ v r, AtR M G shelf v r → AtR M A' shelf v CL := fun v r hv => by
      have := (hat shelf v h3.1 h3.2 hv.x).r
      rcases this with ⟨pre, post, e1, e2, e3⟩ | h
      · exact .inl ⟨pre, post, e1, e2, by have := hCL shelf h3.1 h3.2; omega⟩
      · exact .inr h
    cases part
    case done => exact h8.elim
    case head => exact show rest c CL shelf + 2 * CL + 5 ≤ full c CL by simp only [full]; omega
    case epoch =>
      obtain ⟨v, r, g1, g2, g3⟩ := h8
      exact ⟨v, CL, g1, tr v r g2, by simp only [full]; omega⟩
    case next =>
      obtain ⟨v, r, g1, g2, g3, g4⟩ := h8
      exact ⟨v, CL, g1, tr v r g2, g3, by simp only [full]; omega⟩
    case live =>
      obtain ⟨v, r, g1, g2, g3, g4⟩ := h8
      exact ⟨v, CL, g1, tr v r g2, g3, by simp only [full]; omega⟩
    case text =>
      obtain ⟨v, r, g1, g2, g3, g4, g5⟩ := h8
      exact ⟨v, CL, g1, tr v r g2, g3, g4, by simp only [full]; omega⟩

/-! ### the start -/
def vw0 (i : Int) : Vw := ⟨.pins ⟨i, .looks, 0, 0⟩, 0, 0, 0, 0, 0, ⟨#[]⟩, [], [], 0⟩
def vw1 (i E : Int) : Vw := ⟨.pins ⟨i, .tries, 0, E⟩, 1, 0, 0, 0, 0, ⟨#[]⟩, [], [], 0⟩
def vw2 (i E : Int) : Vw := ⟨.pins ⟨i, .checks, 0, E⟩, 2, 0, 0, 0, 0, ⟨#[]⟩, [], [], 0⟩
def vw3 (i E : Int) : Vw := ⟨.keys, 3, i, E, 0, 0, ⟨#[]⟩, [], [], 3⟩
theorem vw_new (c : Cfg) (t : Int) : Vw.new c t = vw0 (t.tmod c.pins) := rfl

/-- from the start on -/
def VwJ (c : Cfg) (i : Int) (G : AH) (O : Int → Option Pr) (K : Int) (CL : Nat) (H H1 : Hp) (n : Nat) (H' : Hp) (x : Vw) : Prop :=
  ((H', x) = (H, vw0 i) ∧ full c CL + 3 ≤ n) ∨ ((H', x) = (H, vw1 i G.E) ∧ full c CL + 2 ≤ n) ∨ ((H', x) = (H1, vw2 i G.E) ∧ full c CL + 1 ≤ n) ∨ VwI c G.E i (G.setPin i (G.E + 1)) O K CL n H' x

theorem Rtn.run_succ {R : Rtn} {k : Nat} {x y : Hp × R.S} (h : R.step x = some y) : R.run (k + 1) x = ((R.run k y).1 + 1, (R.run k y).2) := by simp only [Rtn.run, h]

theorem view_start (hc : c.right = true) (hi : 0 ≤ i ∧ i < c.pins) {H : Hp} (hg : HG c H G) (hz : G.pin i = 0) (hE : G.E < 1000000000) (hK : H.last = K) (hK0 : K < 1000000000) (hf : H.faults = 0) (hl : H.locked = false)
    (hO : ∀ s, 0 ≤ s → s < c.shelves → O s = obs G.E G s) (hCL : ∀ s, 0 ≤ s → s < c.shelves → (G.ch s).length ≤ CL) (hB : full c CL ≤ 100000) :
    ∃ H1, HG c H1 (G.setPin i (G.E + 1)) ∧ Ranked (viewR c) (VwJ c i G O K CL H H1) ∧ VwI c G.E i (G.setPin i (G.E + 1)) O K CL (full c CL) H1 (vw3 i G.E) ∧
      (viewR c).run 3 (H, vw0 i) = (3, (H1, vw3 i G.E)) := by
  obtain ⟨b1, b2, b3, -, -⟩ := c.bounds hc
  obtain ⟨e0, e1⟩ := ep_w hg
  obtain ⟨H1, -, a2, a3, a4, a5, a6⟩ := hg.setPin hc hi.1 hi.2 (w := G.E + 1) (by omega)
  have a6' := a6 hz
  have hv3 : VwI c G.E i (G.setPin i (G.E + 1)) O K CL (full c CL) H1 (vw3 i G.E) := by
    refine ⟨⟨by simp [vw3], by simp only [vw3]; omega⟩, by rw [a4]; exact hK, by rw [a5]; exact hf, by rw [a3]; exact hl, a2, rfl, rfl, ⟨by simp [vw3], by simp only [vw3]; omega⟩, rfl, ?_⟩
    simp only [vw3, full]; omega
  have l0 := hg.loadE
  have l1 := a2.loadE
  have t0 : Vw.take c (vw0 i) G.E ⟨#[]⟩ = vw1 i G.E := by simp [Vw.take, vw0, vw1, Pn.take]
  have t1 : Vw.take c (vw1 i G.E) 0 ⟨#[]⟩ = vw2 i G.E := by simp [Vw.take, vw1, vw2, Pn.take]
  have t2 : Vw.take c (vw2 i G.E) G.E ⟨#[]⟩ = vw3 i G.E := by simp [Vw.take, vw2, vw3, Pn.take]
  refine ⟨H1, a2, ?_, hv3, ?_⟩
  · intro n H' x hx
    rcases hx with ⟨hx, hn⟩ | ⟨hx, hn⟩ | ⟨hx, hn⟩ | hx
    · cases hx
      refine ⟨hg.wordsOK, ⟨by simp [vw0], ⟨hi, by simp, by simp, rfl⟩⟩, fun a ha => ?_⟩
      cases ha
      refine ⟨by simp [A.ok], rfl, H, G.E, _, l0, trivial, n - 1, by omega, ?_⟩
      show VwJ c i G O K CL H H1 (n - 1) H (Vw.take c (vw0 i) G.E ⟨#[]⟩)
      rw [t0]
      exact .inr (.inl ⟨rfl, by omega⟩)
    · cases hx
      refine ⟨hg.wordsOK, ⟨by simp [vw1], ⟨hi, by simp only; omega, by simp, rfl⟩⟩, fun a ha => ?_⟩
      cases ha
      refine ⟨by simp only [A.ok, Cfg.pin]; omega, rfl, H1, 0, _, a6', rfl, n - 1, by omega, ?_⟩
      show VwJ c i G O K CL H H1 (n - 1) H1 (Vw.take c (vw1 i G.E) 0 ⟨#[]⟩)
      rw [t1]
      exact .inr (.inr (.inl ⟨rfl, by omega⟩))
    · cases hx
      refine ⟨a2.wordsOK, ⟨by simp [vw2], ⟨hi, by simp only; omega, by simp, rfl⟩⟩, fun a ha => ?_⟩
      cases ha
      refine ⟨by simp [A.ok], rfl, H1, G.E, _, l1, rfl, full c CL, by omega, ?_⟩
      show VwJ c i G O K CL H H1 (full c CL) H1 (Vw.take c (vw2 i G.E) G.E ⟨#[]⟩)
      rw [t2]
      exact .inr (.inr (.inr hv3))
    · obtain ⟨r1, r2, r3⟩ := view_ranked (K := K) hc hi (G := G.setPin i (G.E + 1)) (M := G.E) (O := O) (CL := CL) (fun s s0 s1 => by rw [hO s s0 s1]; rfl) hCL hK0 n H' x hx
      refine ⟨r1, r2, fun a ha => ?_⟩
      obtain ⟨q1, q2, H2, w, t, q3, q4, m, q5, q6⟩ := r3 a ha
      exact ⟨q1, q2, H2, w, t, q3, q4, m, q5, .inr (.inr (.inr q6))⟩
  · have s0 : (viewR c).step (H, vw0 i) = some (H, vw1 i G.E) := by
      show ((Vw.act c (vw0 i)).bind _) = _
      rw [show Vw.act c (vw0 i) = some (A.load 1 0) from rfl]
      simp only [Option.bind_some, A.ready, if_true, l0, Option.map_some]
      rw [← t0]; rfl
    have s1 : (viewR c).step (H, vw1 i G.E) = some (H1, vw2 i G.E) := by
      show ((Vw.act c (vw1 i G.E)).bind _) = _
      rw [show Vw.act c (vw1 i G.E) = some (A.swap 1 (c.pin i) (G.E + 1)) from rfl]
      simp only [Option.bind_some, A.ready, if_true, a6', Option.map_some]
      rw [← t1]; rfl
    have s2 : (viewR c).step (H1, vw2 i G.E) = some (H1, vw3 i G.E) := by
      show ((Vw.act c (vw2 i G.E)).bind _) = _
      rw [show Vw.act c (vw2 i G.E) = some (A.load 1 0) from rfl]
      have l1' : (A.load 1 0).act H1 = some (H1, G.E, ⟨#[]⟩) := l1
      simp only [Option.bind_some, A.ready, if_true, l1', Option.map_some]
      rw [← t2]; rfl
    have e1 : (viewR c).run 1 (H1, vw2 i G.E) = (1, (H1, vw3 i G.E)) := Rtn.run_succ (k := 0) s2
    have e2 : (viewR c).run 2 (H, vw1 i G.E) = (2, (H1, vw3 i G.E)) := (Rtn.run_succ (k := 1) s1).trans (congrArg (fun z : Nat × (Hp × (viewR c).S) => (z.1 + 1, z.2)) e1)
    exact (Rtn.run_succ (k := 2) s0).trans (congrArg (fun z : Nat × (Hp × (viewR c).S) => (z.1 + 1, z.2)) e2)
end Go.Proofs.YtkbpnnbdfikjhaaGreat
