/- Plain: heaps as functions, and what stands in them. -/
import Derived.Test.YtkbpnnbdfikjhaaGreatK15View3
namespace Go.Proofs.YtkbpnnbdfikjhaaGreat
open Go Go.Aw
set_option linter.unusedVariables false
set_option linter.unusedSimpArgs false

/-! ### blocks, found -/
theorem hfind_hset {b b' : Int} {y : Blk} : ∀ (l : List (Int × Blk)), hfind (hset l b y) b' = if b' = b then (hfind l b).map (fun _ => y) else hfind l b'
  | [] => by simp [hset, hfind]
  | (i, x) :: l => by
    have ih := hfind_hset (b := b) (b' := b') (y := y) l
    simp only [hset]
    by_cases hb : b = i
    · subst hb
      by_cases h : b' = b
      · simp [hfind, h]
      · simp [hfind, h]
    · by_cases h : b' = b
      · subst h; simp [hfind, hb, ih]
      · simp only [hb, if_false, hfind, ih, h]
theorem hfind_hdrop {b b' : Int} (h : b' ≠ b) : ∀ (l : List (Int × Blk)), hfind (hdrop l b) b' = hfind l b'
  | [] => rfl
  | (i, x) :: l => by
    have ih := hfind_hdrop h l
    simp only [hdrop]
    by_cases hb : b = i
    · subst hb; simp [hfind, h]
    · simp only [hb, if_false, hfind, ih]
theorem hfind_snoc {n b : Int} {x : Blk} : ∀ (l : List (Int × Blk)), hfind (l ++ [(n, x)]) b = (hfind l b).or (if b = n then some x else none)
  | [] => by simp [hfind]
  | (i, y) :: l => by
    have ih := hfind_snoc (n := n) (b := b) (x := x) l
    simp only [List.cons_append, hfind, ih]
    split <;> simp
theorem hfind_mem {b : Int} {x : Blk} : ∀ (l : List (Int × Blk)), hfind l b = some x → (b, x) ∈ l
  | [], h => by simp [hfind] at h
  | (i, y) :: l, h => by
    simp only [hfind] at h
    split at h
    · rename_i e; subst e; cases h; simp
    · exact List.mem_cons_of_mem _ (hfind_mem l h)
theorem hdrop_sub {b : Int} {z : Int × Blk} : ∀ (l : List (Int × Blk)), z ∈ hdrop l b → z ∈ l
  | [], h => h
  | (i, y) :: l, h => by
    simp only [hdrop] at h
    split at h
    · exact List.mem_cons_of_mem _ h
    · rcases List.mem_cons.1 h with h | h
      · simp [h]
      · exact List.mem_cons_of_mem _ (hdrop_sub l h)
theorem hset_ids {b : Int} {y : Blk} {z : Int × Blk} : ∀ (l : List (Int × Blk)), z ∈ hset l b y → ∃ w ∈ l, w.1 = z.1
  | [], h => by simp [hset] at h
  | (i, x) :: l, h => by
    simp only [hset] at h
    split at h
    · rcases List.mem_cons.1 h with h | h
      · exact ⟨(i, x), by simp, by rw [h]⟩
      · exact ⟨z, by simp [h], rfl⟩
    · rcases List.mem_cons.1 h with h | h
      · exact ⟨(i, x), by simp, by rw [h]⟩
      · obtain ⟨w, hw, e⟩ := hset_ids l h
        exact ⟨w, by simp [hw], e⟩

theorem hset_mem {b : Int} {y : Blk} {z : Int × Blk} : ∀ (l : List (Int × Blk)), z ∈ hset l b y → z ∈ l ∨ z.2 = y
  | [], h => by simp [hset] at h
  | (i, x) :: l, h => by
    simp only [hset] at h
    split at h
    · rcases List.mem_cons.1 h with h | h
      · right; rw [h]
      · left; simp [h]
    · rcases List.mem_cons.1 h with h | h
      · left; simp [h]
      · rcases hset_mem l h with h | h
        · left; simp [h]
        · exact .inr h

/-! ### what stands in a heap -/
structure Ver where
  id : Int
  e : Int
  live : Bool
  text : ByteArray
  deriving DecidableEq
def headW : List Ver → Int
  | [] => 0
  | v :: _ => v.id
def liveW (b : Bool) : Int := if b = true then 1 else 0
abbrev Ver.blk (v : Ver) (next : Int) : Blk := ⟨[v.e, next, liveW v.live], v.text⟩
def Linked (φ : Int → Option Blk) : List Ver → Prop
  | [] => True
  | v :: r => φ v.id = some (v.blk (headW r)) ∧ Linked φ r

inductive Tag where
  | ctl | key (s : Int) | ver (s : Int) | limbo | new | none
  deriving DecidableEq
structure AH where
  E : Int
  pin : Int → Int
  key : Int → Option (Int × ByteArray)
  ch : Int → List Ver
  limbo : List Ver
  own : Int → Tag
def keyW : Option (Int × ByteArray) → Int
  | some (k, _) => k
  | .none => 0

/-- the control block -/
structure Ctl (c : Cfg) (A : AH) (cs : List Int) : Prop where
  len : (cs.length : Int) = c.size
  ep : cs[0]? = some A.E
  pin : ∀ i, 0 ≤ i → i < c.pins → cs[(c.pin i).toNat]? = some (A.pin i)
  key : ∀ s, 0 ≤ s → s < c.shelves → cs[(c.key s).toNat]? = some (keyW (A.key s))
  head : ∀ s, 0 ≤ s → s < c.shelves → cs[(c.head s).toNat]? = some (headW (A.ch s))
/-- a heap is so -/
structure HG (c : Cfg) (H : Hp) (A : AH) : Prop where
  ids : ∀ z ∈ H.blocks, 1 ≤ z.1 ∧ z.1 ≤ H.last
  last : 1 ≤ H.last
  words : ∀ z ∈ H.blocks, ∀ w ∈ z.2.cells, 0 ≤ w ∧ w < 18446744073709551616
  ctl : ∃ cs t, hfind H.blocks 1 = some ⟨cs, t⟩ ∧ Ctl c A cs
  key : ∀ s k t, 0 ≤ s → s < c.shelves → A.key s = some (k, t) → A.own k = .key s ∧ ∃ cs, hfind H.blocks k = some ⟨cs, t⟩
  ver : ∀ s, 0 ≤ s → s < c.shelves → Linked (hfind H.blocks) (A.ch s)
  own : ∀ s v, 0 ≤ s → s < c.shelves → v ∈ A.ch s → A.own v.id = .ver s
  nod : ∀ s, 0 ≤ s → s < c.shelves → ((A.ch s).map (·.id)).Nodup
  lim : ∀ v ∈ A.limbo, A.own v.id = .limbo ∧ hfind H.blocks v.id = some (v.blk 0)
  limn : (A.limbo.map (·.id)).Nodup
  one : A.own 1 = .ctl
  zero : A.own 0 = .none
  fresh : ∀ b, H.last < b → A.own b = .none

theorem HG.wordsOK {c : Cfg} {H : Hp} {A : AH} (h : HG c H A) : WordsOK H := fun b x hb => h.words _ (hfind_mem _ hb)
theorem HG.idof {c : Cfg} {H : Hp} {A : AH} (h : HG c H A) {b : Int} {x : Blk} (hb : hfind H.blocks b = some x) : 1 ≤ b ∧ b ≤ H.last := h.ids _ (hfind_mem _ hb)
theorem Linked.mono {φ φ' : Int → Option Blk} : ∀ {l : List Ver}, Linked φ l → (∀ v ∈ l, φ' v.id = φ v.id) → Linked φ' l
  | [], _, _ => trivial
  | v :: r, h, hs => ⟨by rw [hs v (by simp)]; exact h.1, h.2.mono fun u hu => hs u (by simp [hu])⟩
theorem Linked.at {φ : Int → Option Blk} : ∀ {pre : List Ver} {v : Ver} {post : List Ver}, Linked φ (pre ++ v :: post) → φ v.id = some (v.blk (headW post))
  | [], v, post, h => h.1
  | u :: pre, v, post, h => Linked.at (pre := pre) h.2

/-- one cell of the control block is written -/
theorem HG.ctl_set {c : Cfg} {H : Hp} {A A' : AH} (h : HG c H A) {cs : List Int} {t : ByteArray} (h1 : hfind H.blocks 1 = some ⟨cs, t⟩) (cs' : List Int) (hw : ∀ w ∈ cs', 0 ≤ w ∧ w < 18446744073709551616)
    (hC : Ctl c A' cs') (hkey : ∀ s k t, 0 ≤ s → s < c.shelves → A'.key s = some (k, t) → A'.own k = .key s ∧ ∃ cs, hfind H.blocks k = some ⟨cs, t⟩)
    (hver : ∀ s, 0 ≤ s → s < c.shelves → Linked (hfind H.blocks) (A'.ch s)) (hown : ∀ s v, 0 ≤ s → s < c.shelves → v ∈ A'.ch s → A'.own v.id = .ver s) (hnod : ∀ s, 0 ≤ s → s < c.shelves → ((A'.ch s).map (·.id)).Nodup)
    (hlim : ∀ v ∈ A'.limbo, A'.own v.id = .limbo ∧ hfind H.blocks v.id = some (v.blk 0)) (hlimn : (A'.limbo.map (·.id)).Nodup) (hone : A'.own 1 = .ctl) (hzero : A'.own 0 = .none) (hfresh : ∀ b, H.last < b → A'.own b = .none) :
    HG c { H with blocks := hset H.blocks 1 ⟨cs', t⟩ } A' := by
  have hf : ∀ b, b ≠ 1 → hfind (hset H.blocks 1 ⟨cs', t⟩) b = hfind H.blocks b := fun b hb => by rw [hfind_hset, if_neg hb]
  have hf1 : hfind (hset H.blocks 1 ⟨cs', t⟩) 1 = some ⟨cs', t⟩ := by rw [hfind_hset, if_pos rfl, h1]; rfl
  refine ⟨fun z hz => ?_, h.last, fun z hz w hw' => ?_, ⟨cs', t, hf1, hC⟩, fun s k t' g1 g2 g3 => ?_, fun s g1 g2 => ?_, hown, hnod, fun v hv => ?_, hlimn, hone, hzero, hfresh⟩
  · obtain ⟨w, hw', e⟩ := hset_ids _ hz
    rw [← e]; exact h.ids w hw'
  · rcases hset_mem _ hz with h' | h'
    · exact h.words z h' w hw'
    · rw [h'] at hw'; exact hw w hw'
  · obtain ⟨q1, cs2, q2⟩ := hkey s k t' g1 g2 g3
    refine ⟨q1, cs2, ?_⟩
    show hfind (hset H.blocks 1 ⟨cs', t⟩) k = _
    rw [hf k (fun e => by rw [e, hone] at q1; cases q1)]; exact q2
  · refine (hver s g1 g2).mono fun v hv => hf v.id fun e => ?_
    have := hown s v g1 g2 hv
    rw [e, hone] at this; cases this
  · obtain ⟨q1, q2⟩ := hlim v hv
    refine ⟨q1, ?_⟩
    show hfind (hset H.blocks 1 ⟨cs', t⟩) v.id = _
    rw [hf _ (fun e => by rw [e, hone] at q1; cases q1)]; exact q2
/-- blocks that are nobody's change -/
theorem HG.frame {c : Cfg} {H H' : Hp} {A : AH} (h : HG c H A) (hids : ∀ z ∈ H'.blocks, 1 ≤ z.1 ∧ z.1 ≤ H'.last) (hlast : H.last ≤ H'.last) (hw : ∀ z ∈ H'.blocks, ∀ w ∈ z.2.cells, 0 ≤ w ∧ w < 18446744073709551616)
    (hf : ∀ b x, A.own b ≠ .none → hfind H.blocks b = some x → hfind H'.blocks b = some x) : HG c H' A := by
  obtain ⟨cs, t, h1, h2⟩ := h.ctl
  refine ⟨hids, Int.le_trans h.last hlast, hw, ⟨cs, t, hf 1 _ (by rw [h.one]; simp) h1, h2⟩, fun s k t' g1 g2 g3 => ?_, fun s g1 g2 => ?_, h.own, h.nod, fun v hv => ?_, h.limn, h.one, h.zero, fun b hb => h.fresh b (by omega)⟩
  · obtain ⟨q1, cs2, q2⟩ := h.key s k t' g1 g2 g3
    exact ⟨q1, cs2, hf k _ (by rw [q1]; simp) q2⟩
  · have key : ∀ (l : List Ver), (∀ v ∈ l, A.own v.id = .ver s) → Linked (hfind H.blocks) l → Linked (hfind H'.blocks) l := by
      intro l
      induction l with
      | nil => intro _ _; trivial
      | cons v r ih =>
        intro ho hl
        exact ⟨hf v.id _ (by rw [ho v (by simp)]; simp) hl.1, ih (fun u hu => ho u (by simp [hu])) hl.2⟩
    exact key _ (fun v hv => h.own s v g1 g2 hv) (h.ver s g1 g2)
  · obtain ⟨q1, q2⟩ := h.lim v hv
    exact ⟨q1, hf _ _ (by rw [q1]; simp) q2⟩
end Go.Proofs.YtkbpnnbdfikjhaaGreat

/- Plain: what each act makes of what stands in a heap. -/
namespace Go.Proofs.YtkbpnnbdfikjhaaGreat
open Go Go.Aw
set_option linter.unusedVariables false
set_option linter.unusedSimpArgs false

theorem set_get {cs : List Int} {j k : Nat} {w : Int} (h : j < cs.length) : (cs.set j w)[k]? = if k = j then some w else cs[k]? := by
  rw [List.getElem?_set]
  by_cases e : j = k
  · subst e; simp [h]
  · rw [if_neg e, if_neg (Ne.symm e)]
def AH.setPin (G : AH) (i w : Int) : AH := { G with pin := fun j => if j = i then w else G.pin j }
def AH.setE (G : AH) (w : Int) : AH := { G with E := w }
def AH.setKey (G : AH) (s k : Int) (t : ByteArray) : AH := { G with key := fun j => if j = s then some (k, t) else G.key j, own := fun b => if b = k then .key s else G.own b }
def AH.push (G : AH) (s : Int) (v : Ver) : AH := { G with ch := fun j => if j = s then v :: G.ch s else G.ch j, own := fun b => if b = v.id then .ver s else G.own b }

theorem Ctl.setPin {c : Cfg} (hc : c.right = true) {G : AH} {cs : List Int} (h : Ctl c G cs) {i w : Int} (h0 : 0 ≤ i) (hi : i < c.pins) : Ctl c (G.setPin i w) (cs.set (c.pin i).toNat w) := by
  obtain ⟨b1, b2, b3, -, -⟩ := c.bounds hc
  have hl := h.len
  have hlt : (c.pin i).toNat < cs.length := by simp only [Cfg.pin, Cfg.size] at *; omega
  refine ⟨by simpa using hl, ?_, fun j j0 j1 => ?_, fun s s0 s1 => ?_, fun s s0 s1 => ?_⟩
  · rw [set_get hlt, if_neg (by simp only [Cfg.pin]; omega)]; exact h.ep
  · rw [set_get hlt]
    by_cases e : j = i
    · subst e; simp [AH.setPin]
    · rw [if_neg (by simp only [Cfg.pin]; omega)]
      simp only [AH.setPin, e, if_false]; exact h.pin j j0 j1
  · rw [set_get hlt, if_neg (by simp only [Cfg.pin, Cfg.key]; omega)]; exact h.key s s0 s1
  · rw [set_get hlt, if_neg (by simp only [Cfg.pin, Cfg.head]; omega)]; exact h.head s s0 s1
theorem Ctl.setE {c : Cfg} (hc : c.right = true) {G : AH} {cs : List Int} (h : Ctl c G cs) {w : Int} : Ctl c (G.setE w) (cs.set 0 w) := by
  obtain ⟨b1, b2, b3, -, -⟩ := c.bounds hc
  have hl := h.len
  have hlt : 0 < cs.length := by simp only [Cfg.size] at *; omega
  refine ⟨by simpa using hl, ?_, fun j j0 j1 => ?_, fun s s0 s1 => ?_, fun s s0 s1 => ?_⟩
  · rw [set_get hlt, if_pos rfl]; rfl
  · rw [set_get hlt, if_neg (by simp only [Cfg.pin]; omega)]; exact h.pin j j0 j1
  · rw [set_get hlt, if_neg (by simp only [Cfg.key]; omega)]; exact h.key s s0 s1
  · rw [set_get hlt, if_neg (by simp only [Cfg.head]; omega)]; exact h.head s s0 s1
theorem Ctl.setKey {c : Cfg} (hc : c.right = true) {G : AH} {cs : List Int} (h : Ctl c G cs) {s k : Int} {t : ByteArray} (h0 : 0 ≤ s) (hi : s < c.shelves) : Ctl c (G.setKey s k t) (cs.set (c.key s).toNat k) := by
  obtain ⟨b1, b2, b3, -, -⟩ := c.bounds hc
  have hl := h.len
  have hlt : (c.key s).toNat < cs.length := by simp only [Cfg.key, Cfg.size] at *; omega
  refine ⟨by simpa using hl, ?_, fun j j0 j1 => ?_, fun j s0 s1 => ?_, fun j s0 s1 => ?_⟩
  · rw [set_get hlt, if_neg (by simp only [Cfg.key]; omega)]; exact h.ep
  · rw [set_get hlt, if_neg (by simp only [Cfg.pin, Cfg.key]; omega)]; exact h.pin j j0 j1
  · rw [set_get hlt]
    by_cases e : j = s
    · subst e; simp [AH.setKey, keyW]
    · rw [if_neg (by simp only [Cfg.key]; omega)]
      simp only [AH.setKey, e, if_false]; exact h.key j s0 s1
  · rw [set_get hlt, if_neg (by simp only [Cfg.key, Cfg.head]; omega)]; exact h.head j s0 s1
/-- a shelf's head is turned -/
theorem Ctl.setHead {c : Cfg} (hc : c.right = true) {G G' : AH} {cs : List Int} (h : Ctl c G cs) {s : Int} (h0 : 0 ≤ s) (hi : s < c.shelves) (e1 : G'.E = G.E) (e2 : G'.pin = G.pin) (e3 : G'.key = G.key) (e4 : ∀ j, j ≠ s → G'.ch j = G.ch j) :
    Ctl c G' (cs.set (c.head s).toNat (headW (G'.ch s))) := by
  obtain ⟨b1, b2, b3, -, -⟩ := c.bounds hc
  have hl := h.len
  have hlt : (c.head s).toNat < cs.length := by simp only [Cfg.head, Cfg.size] at *; omega
  refine ⟨by simpa using hl, ?_, fun j j0 j1 => ?_, fun j s0 s1 => ?_, fun j s0 s1 => ?_⟩
  · rw [set_get hlt, if_neg (by simp only [Cfg.head]; omega), e1]; exact h.ep
  · rw [set_get hlt, if_neg (by simp only [Cfg.pin, Cfg.head]; omega), e2]; exact h.pin j j0 j1
  · rw [set_get hlt, if_neg (by simp only [Cfg.key, Cfg.head]; omega), e3]; exact h.key j s0 s1
  · rw [set_get hlt]
    by_cases e : j = s
    · subst e; simp
    · rw [if_neg (by simp only [Cfg.head]; omega), e4 j e]; exact h.head j s0 s1

theorem mem_set_w {cs : List Int} {j : Nat} {w : Int} (hw : 0 ≤ w ∧ w < 18446744073709551616) (h : ∀ w ∈ cs, 0 ≤ w ∧ w < 18446744073709551616) : ∀ x ∈ cs.set j w, 0 ≤ x ∧ x < 18446744073709551616 := fun x hx => by
  rcases List.mem_or_eq_of_mem_set hx with h' | h'
  · exact h x h'
  · rw [h']; exact hw

/-- the control block's cells -/
theorem HG.ctl1 {c : Cfg} {H : Hp} {G : AH} (h : HG c H G) : ∃ cs t, hfind H.blocks 1 = some ⟨cs, t⟩ ∧ Ctl c G cs ∧ ∀ w ∈ cs, 0 ≤ w ∧ w < 18446744073709551616 := by
  obtain ⟨cs, t, h1, h2⟩ := h.ctl
  exact ⟨cs, t, h1, h2, h.wordsOK 1 _ h1⟩

theorem load1 {H : Hp} {cs : List Int} {t : ByteArray} {i w : Int} (h : hfind H.blocks 1 = some ⟨cs, t⟩) (hw : cs[i.toNat]? = some w) : (A.load 1 i).act H = some (H, w, ⟨#[]⟩) := by simp [A.act, h, hw]

theorem HG.loadE {c : Cfg} {H : Hp} {G : AH} (h : HG c H G) : (A.load 1 0).act H = some (H, G.E, ⟨#[]⟩) := by
  obtain ⟨cs, t, h1, h2, -⟩ := h.ctl1
  exact load1 (i := 0) h1 h2.ep
theorem HG.loadPin {c : Cfg} {H : Hp} {G : AH} (h : HG c H G) {i : Int} (h0 : 0 ≤ i) (hi : i < c.pins) : (A.load 1 (c.pin i)).act H = some (H, G.pin i, ⟨#[]⟩) := by
  obtain ⟨cs, t, h1, h2, -⟩ := h.ctl1
  exact load1 h1 (h2.pin i h0 hi)
theorem HG.loadKey {c : Cfg} {H : Hp} {G : AH} (h : HG c H G) {s : Int} (h0 : 0 ≤ s) (hi : s < c.shelves) : (A.load 1 (c.key s)).act H = some (H, keyW (G.key s), ⟨#[]⟩) := by
  obtain ⟨cs, t, h1, h2, -⟩ := h.ctl1
  exact load1 h1 (h2.key s h0 hi)
theorem HG.loadHead {c : Cfg} {H : Hp} {G : AH} (h : HG c H G) {s : Int} (h0 : 0 ≤ s) (hi : s < c.shelves) : (A.load 1 (c.head s)).act H = some (H, headW (G.ch s), ⟨#[]⟩) := by
  obtain ⟨cs, t, h1, h2, -⟩ := h.ctl1
  exact load1 h1 (h2.head s h0 hi)

/-- a pin is set -/
theorem HG.setPin {c : Cfg} (hc : c.right = true) {H : Hp} {G : AH} (h : HG c H G) {i w : Int} (h0 : 0 ≤ i) (hi : i < c.pins) (hw : 0 ≤ w ∧ w < 18446744073709551616) :
    ∃ H', (A.store 1 (c.pin i) w).act H = some (H', 0, ⟨#[]⟩) ∧ HG c H' (G.setPin i w) ∧ H'.locked = H.locked ∧ H'.last = H.last ∧ H'.faults = H.faults ∧ (G.pin i = 0 → (A.swap 1 (c.pin i) w).act H = some (H', 0, ⟨#[]⟩)) := by
  obtain ⟨b1, b2, b3, -, -⟩ := c.bounds hc
  obtain ⟨cs, t, h1, h2, h3⟩ := h.ctl1
  have hl := h2.len
  have hp := h2.pin i h0 hi
  have hlt : c.pin i < (cs.length : Int) := by simp only [Cfg.pin, Cfg.size] at *; omega
  refine ⟨{ H with blocks := hset H.blocks 1 ⟨cs.set (c.pin i).toNat w, t⟩ }, by simp [A.act, h1, hlt], ?_, rfl, rfl, rfl, fun hz => by simp [A.act, h1, hp, hz]⟩
  exact h.ctl_set h1 _ (mem_set_w hw h3) (h2.setPin hc h0 hi) h.key h.ver h.own h.nod h.lim h.limn h.one h.zero h.fresh
/-- the epoch is set -/
theorem HG.setE {c : Cfg} (hc : c.right = true) {H : Hp} {G : AH} (h : HG c H G) {w : Int} (hw : 0 ≤ w ∧ w < 18446744073709551616) :
    ∃ H', (A.store 1 0 w).act H = some (H', 0, ⟨#[]⟩) ∧ HG c H' (G.setE w) ∧ H'.locked = H.locked ∧ H'.last = H.last ∧ H'.faults = H.faults := by
  obtain ⟨b1, b2, b3, -, -⟩ := c.bounds hc
  obtain ⟨cs, t, h1, h2, h3⟩ := h.ctl1
  have hl := h2.len
  have hlt : (0 : Int) < (cs.length : Int) := by simp only [Cfg.size] at *; omega
  refine ⟨{ H with blocks := hset H.blocks 1 ⟨cs.set 0 w, t⟩ }, by simp only [A.act, h1, Option.bind_some]; rw [if_pos hlt]; rfl, ?_, rfl, rfl, rfl⟩
  exact h.ctl_set h1 _ (mem_set_w hw h3) (h2.setE hc) h.key h.ver h.own h.nod h.lim h.limn h.one h.zero h.fresh
end Go.Proofs.YtkbpnnbdfikjhaaGreat

/- Plain: blocks that are made, laid, cut and dropped. -/
namespace Go.Proofs.YtkbpnnbdfikjhaaGreat
open Go Go.Aw
set_option linter.unusedVariables false
set_option linter.unusedSimpArgs false

/-- a block is made -/
theorem HG.make {c : Cfg} {H : Hp} {G : AH} (h : HG c H G) {n : Int} {t : ByteArray} (h0 : 0 ≤ n) (hn : n ≤ 256) (hl : H.last < 1000000000) :
    ∃ H', (A.make n t).act H = some (H', H.last + 1, ⟨#[]⟩) ∧ HG c H' G ∧ H'.locked = H.locked ∧ H'.last = H.last + 1 ∧ H'.faults = H.faults ∧ hfind H'.blocks (H.last + 1) = some ⟨List.replicate n.toNat 0, t⟩ ∧ G.own (H.last + 1) = .none ∧
      ∀ b x, hfind H.blocks b = some x → hfind H'.blocks b = some x := by
  have hl1 := h.last
  have hnone : hfind H.blocks (H.last + 1) = none := by
    cases hf : hfind H.blocks (H.last + 1) with
    | none => rfl
    | some x => have := (h.idof hf).2; omega
  have hkeep : ∀ b x, hfind H.blocks b = some x → hfind (H.blocks ++ [(H.last + 1, ⟨List.replicate n.toNat 0, t⟩)]) b = some x := fun b x hx => by rw [hfind_snoc, hx]; rfl
  have hnew : hfind (H.blocks ++ [(H.last + 1, (⟨List.replicate n.toNat 0, t⟩ : Blk))]) (H.last + 1) = some ⟨List.replicate n.toNat 0, t⟩ := by rw [hfind_snoc, hnone]; simp
  refine ⟨{ H with blocks := H.blocks ++ [(H.last + 1, ⟨List.replicate n.toNat 0, t⟩)], last := H.last + 1 }, ?_, h.frame (fun z hz => ?_) (by simp; omega) (fun z hz w hw => ?_) fun b x _ hx => hkeep b x hx, rfl, rfl, rfl, hnew, h.fresh _ (by omega), hkeep⟩
  · simp only [A.act]
    rw [if_pos ⟨hn, ⟨by omega, by omega⟩, by rw [hnone]; rfl⟩]
  · rcases List.mem_append.1 hz with hz | hz
    · have := h.ids z hz; simp only; omega
    · simp only [List.mem_singleton] at hz; subst hz; simp only; omega
  · rcases List.mem_append.1 hz with hz | hz
    · exact h.words z hz w hw
    · simp only [List.mem_singleton] at hz; subst hz
      have := List.eq_of_mem_replicate hw
      omega
/-- a cell of a block that is nobody's is written -/
theorem HG.storeN {c : Cfg} {H : Hp} {G : AH} (h : HG c H G) {b i w : Int} {cs : List Int} {t : ByteArray} (hb : hfind H.blocks b = some ⟨cs, t⟩) (ho : G.own b = .none) (h0 : 0 ≤ i) (hi : i < cs.length) (hw : 0 ≤ w ∧ w < 18446744073709551616) :
    ∃ H', (A.store b i w).act H = some (H', 0, ⟨#[]⟩) ∧ HG c H' G ∧ H'.locked = H.locked ∧ H'.last = H.last ∧ H'.faults = H.faults ∧ hfind H'.blocks b = some ⟨cs.set i.toNat w, t⟩ ∧ ∀ b' x, b' ≠ b → hfind H.blocks b' = some x → hfind H'.blocks b' = some x := by
  have hf : ∀ b' x, b' ≠ b → hfind H.blocks b' = some x → hfind (hset H.blocks b ⟨cs.set i.toNat w, t⟩) b' = some x := fun b' x hne hx => by rw [hfind_hset, if_neg hne]; exact hx
  have hfb : hfind (hset H.blocks b ⟨cs.set i.toNat w, t⟩) b = some ⟨cs.set i.toNat w, t⟩ := by rw [hfind_hset, if_pos rfl, hb]; rfl
  refine ⟨{ H with blocks := hset H.blocks b ⟨cs.set i.toNat w, t⟩ }, ?_, h.frame (fun z hz => ?_) (by simp) (fun z hz w' hw' => ?_) (fun b' x ho' hx => hf b' x (fun e => ho' (by rw [e]; exact ho)) hx), rfl, rfl, rfl, hfb, hf⟩
  · simp only [A.act, hb, Option.bind_some]; rw [if_pos hi]
  · obtain ⟨w', hw', e⟩ := hset_ids _ hz
    rw [← e]; exact h.ids w' hw'
  · rcases hset_mem _ hz with h' | h'
    · exact h.words z h' w' hw'
    · rw [h'] at hw'; exact mem_set_w hw (h.wordsOK b _ hb) w' hw'
/-- a block that is nobody's is dropped -/
theorem HG.dropN {c : Cfg} {H : Hp} {G : AH} (h : HG c H G) {b : Int} {x : Blk} (hb : hfind H.blocks b = some x) (ho : G.own b = .none) :
    ∃ H', (A.drop b).act H = some (H', 0, ⟨#[]⟩) ∧ HG c H' G ∧ H'.locked = H.locked ∧ H'.last = H.last ∧ H'.faults = H.faults ∧ ∀ b' x, b' ≠ b → hfind H.blocks b' = some x → hfind H'.blocks b' = some x := by
  have hf : ∀ b' x, b' ≠ b → hfind H.blocks b' = some x → hfind (hdrop H.blocks b) b' = some x := fun b' x hne hx => by rw [hfind_hdrop hne]; exact hx
  refine ⟨{ H with blocks := hdrop H.blocks b }, by simp [A.act, hb], h.frame (fun z hz => h.ids z (hdrop_sub _ hz)) (by simp) (fun z hz => h.words z (hdrop_sub _ hz)) (fun b' x ho' hx => hf b' x (fun e => ho' (by rw [e]; exact ho)) hx), rfl, rfl, rfl, hf⟩
/-- a key is laid -/
theorem HG.setKey {c : Cfg} (hc : c.right = true) {H : Hp} {G : AH} (h : HG c H G) {s k : Int} {cs : List Int} {t : ByteArray} (h0 : 0 ≤ s) (hi : s < c.shelves) (hk : hfind H.blocks k = some ⟨cs, t⟩) (ho : G.own k = .none) (hw : k < 18446744073709551616) (hn : ∀ t, G.key s ≠ some t) :
    ∃ H', (A.store 1 (c.key s) k).act H = some (H', 0, ⟨#[]⟩) ∧ HG c H' (G.setKey s k t) ∧ H'.locked = H.locked ∧ H'.last = H.last ∧ H'.faults = H.faults := by
  obtain ⟨b1, b2, b3, -, -⟩ := c.bounds hc
  obtain ⟨cs1, t1, g1, g2, g3⟩ := h.ctl1
  have hl := g2.len
  have hlt : c.key s < (cs1.length : Int) := by simp only [Cfg.key, Cfg.size] at *; omega
  have hk1 := (h.idof hk).1
  refine ⟨{ H with blocks := hset H.blocks 1 ⟨cs1.set (c.key s).toNat k, t1⟩ }, by simp only [A.act, g1, Option.bind_some]; rw [if_pos hlt], ?_, rfl, rfl, rfl⟩
  have hown : ∀ b, G.own b ≠ .none → (G.setKey s k t).own b = G.own b := fun b hb => by
    simp only [AH.setKey]; rw [if_neg (fun e => hb (by rw [e]; exact ho))]
  refine h.ctl_set g1 _ (mem_set_w ⟨by omega, hw⟩ g3) (g2.setKey hc h0 hi) (fun s' k' t' q1 q2 q3 => ?_) h.ver (fun s' v q1 q2 q3 => ?_) h.nod (fun v hv => ?_) h.limn ?_ ?_ (fun b hb => ?_)
  · by_cases e : s' = s
    · subst e
      simp only [AH.setKey, if_true, Option.some.injEq, Prod.mk.injEq] at q3
      obtain ⟨rfl, rfl⟩ := q3
      exact ⟨by simp [AH.setKey], cs, hk⟩
    · simp only [AH.setKey, e, if_false] at q3
      obtain ⟨r1, r2⟩ := h.key s' k' t' q1 q2 q3
      exact ⟨by rw [hown _ (by rw [r1]; simp)]; exact r1, r2⟩
  · have r := h.own s' v q1 q2 q3
    rw [hown _ (by rw [r]; simp)]; exact r
  · obtain ⟨r1, r2⟩ := h.lim v hv
    exact ⟨by rw [hown _ (by rw [r1]; simp)]; exact r1, r2⟩
  · rw [hown _ (by rw [h.one]; simp)]; exact h.one
  · simp only [AH.setKey]; rw [if_neg (by omega)]; exact h.zero
  · have := (h.idof hk).2
    simp only [AH.setKey]; rw [if_neg (by omega)]; exact h.fresh b hb
/-- a version is laid -/
theorem HG.push {c : Cfg} (hc : c.right = true) {H : Hp} {G : AH} (h : HG c H G) {s : Int} {v : Ver} (h0 : 0 ≤ s) (hi : s < c.shelves) (hk : hfind H.blocks v.id = some (v.blk (headW (G.ch s)))) (ho : G.own v.id = .none) (hw : v.id < 18446744073709551616) :
    ∃ H', (A.store 1 (c.head s) v.id).act H = some (H', 0, ⟨#[]⟩) ∧ HG c H' (G.push s v) ∧ H'.locked = H.locked ∧ H'.last = H.last ∧ H'.faults = H.faults ∧ ∀ b x, b ≠ 1 → hfind H.blocks b = some x → hfind H'.blocks b = some x := by
  obtain ⟨b1, b2, b3, -, -⟩ := c.bounds hc
  obtain ⟨cs1, t1, g1, g2, g3⟩ := h.ctl1
  have hl := g2.len
  have hlt : c.head s < (cs1.length : Int) := by simp only [Cfg.head, Cfg.size] at *; omega
  have hk1 := (h.idof hk).1
  refine ⟨{ H with blocks := hset H.blocks 1 ⟨cs1.set (c.head s).toNat v.id, t1⟩ }, by simp only [A.act, g1, Option.bind_some]; rw [if_pos hlt], ?_, rfl, rfl, rfl, fun b x hb hx => by show hfind (hset _ _ _) b = _; rw [hfind_hset, if_neg hb]; exact hx⟩
  have hown : ∀ b, G.own b ≠ .none → (G.push s v).own b = G.own b := fun b hb => by
    simp only [AH.push]; rw [if_neg (fun e => hb (by rw [e]; exact ho))]
  have hC := g2.setHead hc (G' := G.push s v) h0 hi rfl rfl rfl (fun j hj => by simp [AH.push, hj])
  rw [show headW ((G.push s v).ch s) = v.id by simp [AH.push, headW]] at hC
  refine h.ctl_set g1 _ (mem_set_w ⟨by omega, hw⟩ g3) hC (fun s' k' t' q1 q2 q3 => ?_) (fun s' q1 q2 => ?_) (fun s' u q1 q2 q3 => ?_) (fun s' q1 q2 => ?_) (fun u hu => ?_) h.limn ?_ ?_ (fun b hb => ?_)
  · obtain ⟨r1, r2⟩ := h.key s' k' t' q1 q2 q3
    exact ⟨by rw [hown _ (by rw [r1]; simp)]; exact r1, r2⟩
  · by_cases e : s' = s
    · subst e
      simp only [AH.push, if_true]
      exact ⟨hk, h.ver s' q1 q2⟩
    · simp only [AH.push, e, if_false]; exact h.ver s' q1 q2
  · by_cases e : s' = s
    · subst e
      simp only [AH.push, if_true, List.mem_cons] at q3
      rcases q3 with rfl | q3
      · simp [AH.push]
      · have r := h.own s' u q1 q2 q3
        rw [hown _ (by rw [r]; simp)]; exact r
    · simp only [AH.push, e, if_false] at q3
      have r := h.own s' u q1 q2 q3
      rw [hown _ (by rw [r]; simp)]; exact r
  · by_cases e : s' = s
    · subst e
      simp only [AH.push, if_true, List.map_cons, List.nodup_cons]
      refine ⟨fun hin => ?_, h.nod s' q1 q2⟩
      obtain ⟨u, hu, e⟩ := List.mem_map.1 hin
      have r := h.own s' u q1 q2 hu
      rw [e, ho] at r; cases r
    · simp only [AH.push, e, if_false]; exact h.nod s' q1 q2
  · obtain ⟨r1, r2⟩ := h.lim u hu
    exact ⟨by rw [hown _ (by rw [r1]; simp)]; exact r1, r2⟩
  · rw [hown _ (by rw [h.one]; simp)]; exact h.one
  · simp only [AH.push]; rw [if_neg (by omega)]; exact h.zero
  · have := (h.idof hk).2
    simp only [AH.push]; rw [if_neg (by omega)]; exact h.fresh b hb
end Go.Proofs.YtkbpnnbdfikjhaaGreat

/- Plain: chains are cut and taken off. -/
namespace Go.Proofs.YtkbpnnbdfikjhaaGreat
open Go Go.Aw
set_option linter.unusedVariables false
set_option linter.unusedSimpArgs false

theorem headW_app (pre : List Ver) (v : Ver) (post : List Ver) : headW (pre ++ v :: post) = headW (pre ++ [v]) := by cases pre <;> rfl
theorem Linked.cut {φ φ' : Int → Option Blk} : ∀ {pre : List Ver} {v : Ver} {post : List Ver}, Linked φ (pre ++ v :: post) → (∀ u ∈ pre, φ' u.id = φ u.id) → φ' v.id = some (v.blk 0) → Linked φ' (pre ++ [v])
  | [], v, post, _, _, h => ⟨h, trivial⟩
  | u :: pre, v, post, h, hs, hv => by
    refine ⟨?_, Linked.cut h.2 (fun w hw => hs w (by simp [hw])) hv⟩
    have := h.1
    show φ' u.id = some (u.blk (headW (pre ++ [v])))
    rw [hs u (by simp), ← headW_app pre v post]
    exact this
theorem Linked.tail : ∀ {φ : Int → Option Blk} {pre post : List Ver}, Linked φ (pre ++ post) → Linked φ post
  | φ, [], post, h => h
  | φ, u :: pre, post, h => Linked.tail (pre := pre) h.2

def AH.cut (A : AH) (s : Int) (l post : List Ver) : AH := { A with ch := fun j => if j = s then l else A.ch j, own := fun b => if b ∈ post.map (·.id) then .none else A.own b }
def AH.unlink (A : AH) (s : Int) (v : Ver) : AH := { A with ch := fun j => if j = s then [] else A.ch j, limbo := A.limbo ++ [v], own := fun b => if b = v.id then .limbo else A.own b }
def AH.unlimbo (A : AH) (v : Ver) (r : List Ver) : AH := { A with limbo := r, own := fun b => if b = v.id then .none else A.own b }

/-- the version at a block is read -/
theorem HG.loadV {H : Hp} {v : Ver} {n : Int} (h : hfind H.blocks v.id = some (v.blk n)) :
    (A.load v.id 0).act H = some (H, v.e, ⟨#[]⟩) ∧ (A.load v.id 1).act H = some (H, n, ⟨#[]⟩) ∧ (A.load v.id 2).act H = some (H, liveW v.live, ⟨#[]⟩) ∧ (A.words v.id).act H = some (H, 0, v.text) := by
  simp [A.act, h, Ver.blk]

theorem HG.at {c : Cfg} {H : Hp} {G : AH} (h : HG c H G) {s : Int} (h0 : 0 ≤ s) (hi : s < c.shelves) {pre post : List Ver} {v : Ver} (e : G.ch s = pre ++ v :: post) : hfind H.blocks v.id = some (v.blk (headW post)) := by
  have := h.ver s h0 hi
  rw [e] at this
  exact this.at

theorem HG.cut {c : Cfg} {H : Hp} {G : AH} (h : HG c H G) {s : Int} (h0 : 0 ≤ s) (hi : s < c.shelves) {pre post : List Ver} {v : Ver} (e : G.ch s = pre ++ v :: post) :
    ∃ H', (A.store v.id 1 0).act H = some (H', 0, ⟨#[]⟩) ∧ HG c H' (G.cut s (pre ++ [v]) post) ∧ H'.locked = H.locked ∧ H'.last = H.last ∧ H'.faults = H.faults ∧ Linked (hfind H'.blocks) post ∧ (∀ u ∈ post, (G.cut s (pre ++ [v]) post).own u.id = .none) ∧ (post.map (·.id)).Nodup := by
  have hat := h.at h0 hi e
  have hnod := h.nod s h0 hi
  have hown := h.own s
  rw [e] at hnod
  simp only [List.map_append, List.map_cons] at hnod
  obtain ⟨n1, n2, n3⟩ := List.nodup_append.1 hnod
  obtain ⟨n4, n5⟩ := List.nodup_cons.1 n2
  have hvpre : ∀ u ∈ pre, u.id ≠ v.id := fun u hu e' => n3 u.id (List.mem_map.2 ⟨u, hu, rfl⟩) v.id (by simp) e'
  have hvpost : ∀ u ∈ post, u.id ≠ v.id := fun u hu e' => n4 (List.mem_map.2 ⟨u, hu, e'⟩)
  have hprepost : ∀ u ∈ pre, u.id ∉ post.map (·.id) := fun u hu hin => n3 u.id (List.mem_map.2 ⟨u, hu, rfl⟩) u.id (List.mem_cons_of_mem _ hin) rfl
  have hov : G.own v.id = .ver s := hown v h0 hi (by rw [e]; simp)
  have hopost : ∀ u ∈ post, G.own u.id = .ver s := fun u hu => hown u h0 hi (by rw [e]; simp [hu])
  have hf : ∀ b, b ≠ v.id → hfind (hset H.blocks v.id (v.blk 0)) b = hfind H.blocks b := fun b hb => by rw [hfind_hset, if_neg hb]
  have hfv : hfind (hset H.blocks v.id (v.blk 0)) v.id = some (v.blk 0) := by rw [hfind_hset, if_pos rfl, hat]; rfl
  have hO : ∀ b, G.own b ≠ .ver s → (G.cut s (pre ++ [v]) post).own b = G.own b := fun b hb => by
    simp only [AH.cut]
    rw [if_neg (fun hin => ?_)]
    obtain ⟨u, hu, e'⟩ := List.mem_map.1 hin
    exact hb (by rw [← e']; exact hopost u hu)
  obtain ⟨cs, t, c1, c2⟩ := h.ctl
  have hw := h.words _ (hfind_mem _ hat)
  refine ⟨{ H with blocks := hset H.blocks v.id (v.blk 0) }, by simp [A.act, hat, Ver.blk], ⟨fun z hz => ?_, h.last, fun z hz w hw' => ?_, ⟨cs, t, ?_, ?_⟩, fun s' k t' q1 q2 q3 => ?_, fun s' q1 q2 => ?_, fun s' u q1 q2 q3 => ?_, fun s' q1 q2 => ?_, fun u hu => ?_, h.limn, ?_, ?_, fun b hb => ?_⟩, rfl, rfl, rfl, ?_, fun u hu => ?_, n5⟩
  · obtain ⟨w, hw', e'⟩ := hset_ids _ hz
    rw [← e']; exact h.ids w hw'
  · rcases hset_mem _ hz with h' | h'
    · exact h.words z h' w hw'
    · rw [h'] at hw'
      simp only [Ver.blk, List.mem_cons, List.not_mem_nil, or_false] at hw'
      rcases hw' with rfl | rfl | rfl
      · exact hw _ (by simp [Ver.blk])
      · omega
      · exact hw _ (by simp [Ver.blk])
  · show hfind (hset _ _ _) 1 = _
    rw [hf 1 (fun e' => by rw [← e', h.one] at hov; cases hov)]; exact c1
  · refine ⟨c2.len, c2.ep, c2.pin, c2.key, fun j s0 s1 => ?_⟩
    by_cases ej : j = s
    · subst ej
      simp only [AH.cut, if_true]
      rw [← headW_app pre v post, ← e]; exact c2.head j s0 s1
    · simp only [AH.cut, ej, if_false]; exact c2.head j s0 s1
  · obtain ⟨r1, cs2, r2⟩ := h.key s' k t' q1 q2 q3
    refine ⟨by rw [hO _ (by rw [r1]; simp)]; exact r1, cs2, ?_⟩
    show hfind (hset _ _ _) k = _
    rw [hf k (fun e' => by rw [e', hov] at r1; cases r1)]; exact r2
  · by_cases es : s' = s
    · subst es
      simp only [AH.cut, if_true]
      have hL := h.ver s' q1 q2
      rw [e] at hL
      exact hL.cut (fun u hu => hf u.id (hvpre u hu)) hfv
    · simp only [AH.cut, es, if_false]
      refine (h.ver s' q1 q2).mono fun u hu => hf u.id fun e' => ?_
      have := hown
      have r := h.own s' u q1 q2 hu
      rw [e', hov] at r; cases r; exact es rfl
  · by_cases es : s' = s
    · subst es
      simp only [AH.cut, if_true, List.mem_append, List.mem_singleton] at q3
      simp only [AH.cut]
      rw [if_neg (fun hin => ?_)]
      · rcases q3 with q3 | rfl
        · exact h.own s' u q1 q2 (by rw [e]; simp [q3])
        · exact hov
      · rcases q3 with q3 | rfl
        · exact hprepost u q3 hin
        · exact n4 hin
    · simp only [AH.cut, es, if_false] at q3
      have r := h.own s' u q1 q2 q3
      rw [hO _ (by rw [r]; intro e'; cases e'; exact es rfl)]; exact r
  · by_cases es : s' = s
    · subst es
      simp only [AH.cut, if_true, List.map_append, List.map_cons, List.map_nil]
      refine List.nodup_append.2 ⟨n1, by simp, fun a ha b hb => ?_⟩
      simp only [List.mem_singleton] at hb
      subst hb
      obtain ⟨u, hu, rfl⟩ := List.mem_map.1 ha
      exact hvpre u hu
    · simp only [AH.cut, es, if_false]; exact h.nod s' q1 q2
  · obtain ⟨r1, r2⟩ := h.lim u hu
    refine ⟨by rw [hO _ (by rw [r1]; simp)]; exact r1, ?_⟩
    show hfind (hset _ _ _) u.id = _
    rw [hf _ (fun e' => by rw [e', hov] at r1; cases r1)]; exact r2
  · rw [hO _ (by rw [h.one]; simp)]; exact h.one
  · rw [hO _ (by rw [h.zero]; simp)]; exact h.zero
  · have r := h.fresh b hb
    rw [hO _ (by rw [r]; simp)]; exact r
  · have hL := h.ver s h0 hi
    rw [e] at hL
    exact (Linked.tail (pre := [v]) (Linked.tail (pre := pre) (post := v :: post) hL)).mono fun u hu => hf u.id (hvpost u hu)
  · simp only [AH.cut]; rw [if_pos (List.mem_map.2 ⟨u, hu, rfl⟩)]

theorem HG.unlink {c : Cfg} (hc : c.right = true) {H : Hp} {G : AH} (h : HG c H G) {s : Int} (h0 : 0 ≤ s) (hi : s < c.shelves) {v : Ver} (e : G.ch s = [v]) :
    ∃ H', (A.store 1 (c.head s) 0).act H = some (H', 0, ⟨#[]⟩) ∧ HG c H' (G.unlink s v) ∧ H'.locked = H.locked ∧ H'.last = H.last ∧ H'.faults = H.faults := by
  obtain ⟨b1, b2, b3, -, -⟩ := c.bounds hc
  obtain ⟨cs1, t1, g1, g2, g3⟩ := h.ctl1
  have hl := g2.len
  have hlt : c.head s < (cs1.length : Int) := by simp only [Cfg.head, Cfg.size] at *; omega
  have hov : G.own v.id = .ver s := h.own s v h0 hi (by rw [e]; simp)
  have hat := h.at (pre := []) h0 hi e
  have hO : ∀ b, G.own b ≠ .ver s → (G.unlink s v).own b = G.own b := fun b hb => by
    simp only [AH.unlink]; rw [if_neg (fun e' => hb (by rw [e']; exact hov))]
  have hC := g2.setHead hc (G' := G.unlink s v) h0 hi rfl rfl rfl (fun j hj => by simp [AH.unlink, hj])
  rw [show headW ((G.unlink s v).ch s) = 0 by simp [AH.unlink, headW]] at hC
  refine ⟨{ H with blocks := hset H.blocks 1 ⟨cs1.set (c.head s).toNat 0, t1⟩ }, by simp only [A.act, g1, Option.bind_some]; rw [if_pos hlt], ?_, rfl, rfl, rfl⟩
  refine h.ctl_set g1 _ (mem_set_w (by omega) g3) hC (fun s' k' t' q1 q2 q3 => ?_) (fun s' q1 q2 => ?_) (fun s' u q1 q2 q3 => ?_) (fun s' q1 q2 => ?_) (fun u hu => ?_) ?_ ?_ ?_ (fun b hb => ?_)
  · obtain ⟨r1, r2⟩ := h.key s' k' t' q1 q2 q3
    exact ⟨by rw [hO _ (by rw [r1]; simp)]; exact r1, r2⟩
  · by_cases es : s' = s
    · simp only [AH.unlink, es, if_true]; trivial
    · simp only [AH.unlink, es, if_false]; exact h.ver s' q1 q2
  · by_cases es : s' = s
    · simp [AH.unlink, es] at q3
    · simp only [AH.unlink, es, if_false] at q3
      have r := h.own s' u q1 q2 q3
      rw [hO _ (by rw [r]; intro e'; cases e'; exact es rfl)]; exact r
  · by_cases es : s' = s
    · simp [AH.unlink, es]
    · simp only [AH.unlink, es, if_false]; exact h.nod s' q1 q2
  · simp only [AH.unlink, List.mem_append, List.mem_singleton] at hu
    rcases hu with hu | rfl
    · obtain ⟨r1, r2⟩ := h.lim u hu
      exact ⟨by rw [hO _ (by rw [r1]; simp)]; exact r1, r2⟩
    · exact ⟨by simp [AH.unlink], hat⟩
  · simp only [AH.unlink, List.map_append, List.map_cons, List.map_nil]
    refine List.nodup_append.2 ⟨h.limn, by simp, fun a ha b hb => ?_⟩
    simp only [List.mem_singleton] at hb
    subst hb
    obtain ⟨u, hu, rfl⟩ := List.mem_map.1 ha
    intro e'
    have r := (h.lim u hu).1
    rw [e', hov] at r; cases r
  · rw [hO _ (by rw [h.one]; simp)]; exact h.one
  · rw [hO _ (by rw [h.zero]; simp)]; exact h.zero
  · have r := h.fresh b hb
    rw [hO _ (by rw [r]; simp)]; exact r

theorem HG.unlimbo {c : Cfg} {H : Hp} {G : AH} (h : HG c H G) {v : Ver} {r : List Ver} (e : G.limbo = v :: r) : HG c H (G.unlimbo v r) ∧ (G.unlimbo v r).own v.id = .none := by
  have hov := (h.lim v (by rw [e]; simp)).1
  have hO : ∀ b, G.own b ≠ .limbo → (G.unlimbo v r).own b = G.own b := fun b hb => by
    simp only [AH.unlimbo]; rw [if_neg (fun e' => hb (by rw [e']; exact hov))]
  have hn := h.limn
  rw [e] at hn
  simp only [List.map_cons] at hn
  obtain ⟨n1, n2⟩ := List.nodup_cons.1 hn
  obtain ⟨cs, t, c1, c2⟩ := h.ctl
  refine ⟨⟨h.ids, h.last, h.words, ⟨cs, t, c1, ⟨c2.len, c2.ep, c2.pin, c2.key, c2.head⟩⟩, fun s' k t' q1 q2 q3 => ?_, h.ver, fun s' u q1 q2 q3 => ?_, h.nod, fun u hu => ?_, n2, ?_, ?_, fun b hb => ?_⟩, by simp [AH.unlimbo]⟩
  · obtain ⟨r1, r2⟩ := h.key s' k t' q1 q2 q3
    exact ⟨by rw [hO _ (by rw [r1]; simp)]; exact r1, r2⟩
  · have r' := h.own s' u q1 q2 q3
    rw [hO _ (by rw [r']; simp)]; exact r'
  · obtain ⟨r1, r2⟩ := h.lim u (by rw [e]; simp only [AH.unlimbo] at hu; simp [hu])
    refine ⟨?_, r2⟩
    simp only [AH.unlimbo]
    rw [if_neg (fun e' => n1 (List.mem_map.2 ⟨u, hu, e'⟩))]; exact r1
  · rw [hO _ (by rw [h.one]; simp)]; exact h.one
  · rw [hO _ (by rw [h.zero]; simp)]; exact h.zero
  · have r' := h.fresh b hb
    rw [hO _ (by rw [r']; simp)]; exact r'
end Go.Proofs.YtkbpnnbdfikjhaaGreat

/- Plain: what a collection leaves. -/
namespace Go.Proofs.YtkbpnnbdfikjhaaGreat
open Go Go.Aw
set_option linter.unusedVariables false
set_option linter.unusedSimpArgs false

/-! ### runs with a rank -/
def Ranked (R : Rtn) (I : Nat → Hp → R.S → Prop) : Prop := ∀ n H s, I n H s → WordsOK H ∧ R.ok s ∧ ∀ a, R.act s = some a → a.ok ∧ a.ready H = true ∧ ∃ H' w t, a.act H = some (H', w, t) ∧ R.okT s w t ∧ ∃ m, m < n ∧ I m H' (R.take s w t)
theorem Ranked.good {R : Rtn} {I : Nat → Hp → R.S → Prop} (h : Ranked R I) : Good R (fun H s => ∃ n, I n H s) := by
  rintro H s ⟨n, hn⟩
  obtain ⟨h1, h2, h3⟩ := h n H s hn
  refine ⟨h1, h2, fun a ha => ?_⟩
  obtain ⟨g1, g2, H', w, t, g3, g4, m, _, g5⟩ := h3 a ha
  exact ⟨g1, fun _ => ⟨H', w, t, g3, g4, m, g5⟩⟩
theorem Ranked.run {R : Rtn} {I : Nat → Hp → R.S → Prop} (h : Ranked R I) : ∀ (k n : Nat) (x : Hp × R.S), I n x.1 x.2 → (∃ m, I m (R.run k x).2.1 (R.run k x).2.2) ∧ (n ≤ k → R.act (R.run k x).2.2 = none)
  | 0, n, x, hx => by
    refine ⟨⟨n, hx⟩, fun hn => ?_⟩
    cases ha : R.act x.2 with
    | none => exact ha
    | some a =>
      obtain ⟨_, _, h3⟩ := h n _ _ hx
      obtain ⟨_, _, _, _, _, _, _, m, hm, _⟩ := h3 a ha
      omega
  | k + 1, n, x, hx => by
    obtain ⟨_, _, h3⟩ := h n _ _ hx
    cases ha : R.act x.2 with
    | none =>
      have hs : R.step x = none := by simp [Rtn.step, ha]
      simp only [Rtn.run, hs]
      exact ⟨⟨n, hx⟩, fun _ => ha⟩
    | some a =>
      obtain ⟨_, g2, H', w, t, g3, _, m, hm, g5⟩ := h3 a ha
      have hs : R.step x = some (H', R.take x.2 w t) := by simp [Rtn.step, ha, g2, g3]
      simp only [Rtn.run, hs]
      obtain ⟨q1, q2⟩ := Ranked.run h k m (H', R.take x.2 w t) g5
      exact ⟨q1, fun hn => q2 (by omega)⟩

/-! ### reading a chain -/
def rd (e : Int) : List Ver → Option ByteArray
  | [] => none
  | v :: r => if v.e ≤ e then (if v.live = true then some v.text else none) else rd e r
theorem rd_skip {e : Int} : ∀ {pre l : List Ver}, (∀ u ∈ pre, e < u.e) → rd e (pre ++ l) = rd e l
  | [], l, _ => rfl
  | u :: pre, l, h => by
    have := h u (by simp)
    simp only [List.cons_append, rd]
    rw [if_neg (by omega)]
    exact rd_skip fun w hw => h w (by simp [hw])
theorem rd_cut {e : Int} {v : Ver} {post : List Ver} (h : v.e ≤ e) : ∀ (pre : List Ver), rd e (pre ++ v :: post) = rd e (pre ++ [v])
  | [] => by simp [rd, h]
  | u :: pre => by simp only [List.cons_append, rd, rd_cut h pre]

/-- a version that is still of use to who reads at M -/
def AtX (M : Int) (A : AH) (s : Int) (v : Ver) : Prop := (∃ pre post, A.ch s = pre ++ v :: post ∧ ∀ u ∈ pre, M < u.e) ∨ (v ∈ A.limbo ∧ (M < v.e ∨ v.live = false) ∧ rd M (A.ch s) = none)

/-- what a collection keeps -/
structure Later (c : Cfg) (M : Int) (P : Prop) (A0 A : AH) : Prop where
  E : A.E = A0.E
  pin : A.pin = A0.pin
  key : A.key = A0.key
  rd : ∀ s, 0 ≤ s → s < c.shelves → ∀ e, M ≤ e → rd e (A.ch s) = rd e (A0.ch s)
  len : ∀ s, 0 ≤ s → s < c.shelves → (A.ch s).length ≤ (A0.ch s).length
  at_ : P → ∀ s v, 0 ≤ s → s < c.shelves → AtX M A0 s v → AtX M A s v
theorem Later.refl (c : Cfg) (M : Int) (P : Prop) (A : AH) : Later c M P A A := ⟨rfl, rfl, rfl, fun _ _ _ _ _ => rfl, fun _ _ _ => Nat.le_refl _, fun _ _ _ _ _ h => h⟩
theorem Later.trans {c : Cfg} {M : Int} {P : Prop} {A B C : AH} (h : Later c M P A B) (h' : Later c M P B C) : Later c M P A C :=
  ⟨h'.E.trans h.E, h'.pin.trans h.pin, h'.key.trans h.key, fun s a b e he => (h'.rd s a b e he).trans (h.rd s a b e he), fun s a b => Nat.le_trans (h'.len s a b) (h.len s a b), fun p s v a b hv => h'.at_ p s v a b (h.at_ p s v a b hv)⟩

theorem split_at {pre post pre' post' : List Ver} {v u : Ver} {M : Int} (e : pre ++ v :: post = pre' ++ u :: post') (hpre : ∀ w ∈ pre', M < w.e) (hv : v.e ≤ M) : ∃ q, pre ++ [v] = pre' ++ u :: q := by
  induction pre' generalizing pre with
  | nil =>
    cases pre with
    | nil => simp only [List.nil_append, List.cons.injEq] at e; exact ⟨[], by simp [e.1]⟩
    | cons w pre => simp only [List.cons_append, List.nil_append, List.cons.injEq] at e; exact ⟨pre ++ [v], by simp [e.1]⟩
  | cons w pre' ih =>
    cases pre with
    | nil =>
      simp only [List.nil_append, List.cons_append, List.cons.injEq] at e
      have := hpre w (by simp)
      rw [← e.1] at this; omega
    | cons y pre =>
      simp only [List.cons_append, List.cons.injEq] at e
      obtain ⟨q, hq⟩ := ih e.2 (fun z hz => hpre z (by simp [hz]))
      exact ⟨q, by simp [e.1, hq]⟩
theorem Later.cut (c : Cfg) (M : Int) (P : Prop) {A : AH} {s : Int} {pre post : List Ver} {v : Ver} (e : A.ch s = pre ++ v :: post) (hv : v.e ≤ M) : Later c M P A (A.cut s (pre ++ [v]) post) := by
  refine ⟨rfl, rfl, rfl, fun j _ _ e' he => ?_, fun j _ _ => ?_, fun _ j u _ _ hu => ?_⟩
  · by_cases ej : j = s
    · subst ej; simp only [AH.cut, if_true]; rw [e]; exact (rd_cut (by omega) pre).symm
    · simp [AH.cut, ej]
  · by_cases ej : j = s
    · subst ej; simp only [AH.cut, if_true, e]; simp
    · simp [AH.cut, ej]
  · by_cases ej : j = s
    · subst ej
      rcases hu with ⟨p, q, h1, h2⟩ | ⟨h1, h2, h3⟩
      · rw [e] at h1
        obtain ⟨q', hq⟩ := split_at h1 h2 hv
        exact .inl ⟨p, q', by simp only [AH.cut, if_true]; exact hq, h2⟩
      · exact .inr ⟨h1, h2, by simp only [AH.cut, if_true]; rw [← rd_cut hv pre (post := post), ← e]; exact h3⟩
    · rcases hu with ⟨p, q, h1, h2⟩ | ⟨h1, h2, h3⟩
      · exact .inl ⟨p, q, by simp only [AH.cut, ej, if_false]; exact h1, h2⟩
      · exact .inr ⟨h1, h2, by simp only [AH.cut, ej, if_false]; exact h3⟩
theorem Later.unlink (c : Cfg) (M : Int) (P : Prop) {A : AH} {s : Int} {v : Ver} (e : A.ch s = [v]) (hv : v.e ≤ M) (hl : v.live = false) : Later c M P A (A.unlink s v) := by
  refine ⟨rfl, rfl, rfl, fun j _ _ e' he => ?_, fun j _ _ => ?_, fun _ j u _ _ hu => ?_⟩
  · by_cases ej : j = s
    · subst ej; simp [AH.unlink, e, Proofs.YtkbpnnbdfikjhaaGreat.rd, hl]
    · simp [AH.unlink, ej]
  · by_cases ej : j = s
    · subst ej; simp [AH.unlink]
    · simp [AH.unlink, ej]
  · by_cases ej : j = s
    · subst ej
      rcases hu with ⟨p, q, h1, h2⟩ | ⟨h1, h2, h3⟩
      · right
        rw [e] at h1
        cases p with
        | nil =>
          simp only [List.nil_append, List.cons.injEq] at h1
          refine ⟨by simp [AH.unlink, h1.1], .inr (by rw [← h1.1]; exact hl), by simp only [AH.unlink, if_true]; rfl⟩
        | cons w p => simp at h1
      · exact .inr ⟨by simp [AH.unlink, h1], h2, by simp only [AH.unlink, if_true]; rfl⟩
    · rcases hu with ⟨p, q, h1, h2⟩ | ⟨h1, h2, h3⟩
      · exact .inl ⟨p, q, by simp only [AH.unlink, ej, if_false]; exact h1, h2⟩
      · exact .inr ⟨by simp [AH.unlink, h1], h2, by simp only [AH.unlink, ej, if_false]; exact h3⟩
theorem Later.unlimbo (c : Cfg) (M : Int) {P : Prop} (hP : ¬ P) {A : AH} {v : Ver} {r : List Ver} : Later c M P A (A.unlimbo v r) :=
  ⟨rfl, rfl, rfl, fun _ _ _ _ _ => rfl, fun _ _ _ => Nat.le_refl _, fun p => absurd p hP⟩
end Go.Proofs.YtkbpnnbdfikjhaaGreat
