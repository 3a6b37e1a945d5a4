/- Plain: what a laying leaves. -/
import Derived.Test.YtkbpnnbdfikjhaaGreatK18Law6
namespace Go.Proofs.YtkbpnnbdfikjhaaGreat
open Go Go.Aw
set_option linter.unusedVariables false
set_option linter.unusedSimpArgs false

def kt (G : AH) (s : Int) : Option ByteArray := (G.key s).map (·.2)
abbrev Cr := Int × Bool × ByteArray
def core (l : List Ver) : List Cr := l.map fun v => (v.e, v.live, v.text)
def spotAt (c : Cfg) (k : ByteArray) (i : Int) : Int := placeF (sumF c.seed k.data.toList) c.shelves i
def probe (c : Cfg) (T : Int → Option ByteArray) (k : ByteArray) : Nat → Int → Int × Int
  | 0, _ => (3, 0)
  | f + 1, i => match T (spotAt c k i) with
    | none => (2, spotAt c k i)
    | some t => if t = k then (1, spotAt c k i) else if i + 1 = c.shelves then (3, 0) else probe c T k f (i + 1)
def spot (c : Cfg) (T : Int → Option ByteArray) (k : ByteArray) : Int × Int := probe c T k c.shelves.toNat 0
def txt (ch : Ch) : ByteArray := if ch.has = true then ch.value else ⟨#[]⟩
def kt1 (T : Int → Option ByteArray) (ch : Ch) (p : Int × Int) : Int → Option ByteArray := if p.1 = 2 then fun s => if s = p.2 then some ch.key else T s else T
def nv1 (ep : Int) (ch : Ch) (p : Int × Int) (s : Int) : List Cr := if p.1 ≠ 3 ∧ s = p.2 then [(ep, ch.has, txt ch)] else []
def ktA (c : Cfg) : (Int → Option ByteArray) → List Ch → (Int → Option ByteArray)
  | T, [] => T
  | T, ch :: l => ktA c (kt1 T ch (spot c T ch.key)) l
def nvA (c : Cfg) (ep : Int) : (Int → Option ByteArray) → List Ch → Int → List Cr
  | _, [], _ => []
  | T, ch :: l, s => nvA c ep (kt1 T ch (spot c T ch.key)) l s ++ nv1 ep ch (spot c T ch.key) s

/-- what a laying keeps -/
structure Grown (M : Int) (A0 A : AH) : Prop where
  pin : A.pin = A0.pin
  limbo : A.limbo = A0.limbo
  key : ∀ s k t, A0.key s = some (k, t) → A.key s = some (k, t)
  at_ : ∀ s v, AtX M A0 s v → AtX M A s v
theorem Grown.refl (M : Int) (A : AH) : Grown M A A := ⟨rfl, rfl, fun _ _ _ h => h, fun _ _ h => h⟩
theorem Grown.trans {M : Int} {A B C : AH} (h : Grown M A B) (h' : Grown M B C) : Grown M A C := ⟨h'.pin.trans h.pin, h'.limbo.trans h.limbo, fun s k t e => h'.key s k t (h.key s k t e), fun s v e => h'.at_ s v (h.at_ s v e)⟩
theorem Grown.push {M : Int} {A : AH} {s : Int} {v : Ver} (h : M < v.e) : Grown M A (A.push s v) := by
  refine ⟨rfl, rfl, fun _ _ _ h => h, fun j u hu => ?_⟩
  by_cases e : j = s
  · subst e
    rcases hu with ⟨pre, post, h1, h2⟩ | ⟨h1, h2, h3⟩
    · refine .inl ⟨v :: pre, post, by simp [AH.push, h1], fun w hw => ?_⟩
      rcases List.mem_cons.1 hw with rfl | hw
      · exact h
      · exact h2 w hw
    · refine .inr ⟨h1, h2, ?_⟩
      simp only [AH.push, if_true, rd]
      rw [if_neg (by omega)]; exact h3
  · rcases hu with ⟨pre, post, h1, h2⟩ | ⟨h1, h2, h3⟩
    · exact .inl ⟨pre, post, by simp [AH.push, e, h1], h2⟩
    · exact .inr ⟨h1, h2, by simp only [AH.push, e, if_false]; exact h3⟩
theorem Grown.setKey {M : Int} {A : AH} {s k : Int} {t : ByteArray} (h : A.key s = none) : Grown M A (A.setKey s k t) := by
  refine ⟨rfl, rfl, fun j k' t' e => ?_, fun _ _ h => h⟩
  have : j ≠ s := fun e' => by rw [e', h] at e; cases e
  simp [AH.setKey, this, e]
theorem kt_setKey {A : AH} {s k : Int} {t : ByteArray} : kt (A.setKey s k t) = fun j => if j = s then some t else kt A j := by
  funext j
  simp only [kt, AH.setKey]
  split <;> rfl

def cellsA (l : List A) (i : Nat) : List Int := (l.take i).foldl (fun cs a => match a with | .store _ j w => cs.set j.toNat w | _ => cs) [0, 0, 0]
theorem cellsA_end (ep n : Int) (h : Bool) (t : ByteArray) : cellsA (todo3 ep n h t) (todo3 ep n h t).length = [ep, n, liveW h] := by
  by_cases hn : n = 0
  · subst hn; cases h <;> rfl
  · cases h <;> simp [cellsA, todo3, todo2, todo1, hn, liveW]
theorem todo3_len (ep n : Int) (h : Bool) (t : ByteArray) : 2 ≤ (todo3 ep n h t).length ∧ (todo3 ep n h t).length ≤ 4 := by
  by_cases hn : n = 0 <;> cases h <;> simp [todo3, todo2, todo1, hn]
theorem todo3_at (ep n : Int) (h : Bool) (t : ByteArray) : (todo3 ep n h t)[0]? = some (.make 3 t) ∧ ∀ j a, 0 < j → (todo3 ep n h t)[j]? = some a → ∃ i w, a = .store 0 i w ∧ 0 ≤ i ∧ i < 3 ∧ (w = ep ∨ w = n ∨ w = 1) := by
  refine ⟨by by_cases hn : n = 0 <;> cases h <;> simp [todo3, todo2, todo1, hn], fun j a hj ha => ?_⟩
  match j, hj with
  | 1, _ => by_cases hn : n = 0 <;> cases h <;> simp [todo3, todo2, todo1, hn] at ha <;> subst ha <;> exact ⟨_, _, rfl, by omega, by omega, .inl rfl⟩
  | 2, _ => by_cases hn : n = 0 <;> cases h <;> simp [todo3, todo2, todo1, hn] at ha <;> subst ha <;> exact ⟨_, _, rfl, by omega, by omega, by simp⟩
  | 3, _ => by_cases hn : n = 0 <;> cases h <;> simp [todo3, todo2, todo1, hn] at ha <;> subst ha <;> exact ⟨_, _, rfl, by omega, by omega, by simp⟩
  | j + 4, _ =>
    have := (List.getElem?_eq_some_iff.1 ha).1
    have := (todo3_len ep n h t).2
    omega
theorem cellsA_succ {l : List A} {i : Nat} {b j w : Int} (h : l[i]? = some (.store b j w)) : cellsA l (i + 1) = (cellsA l i).set j.toNat w := by
  simp [cellsA, List.take_add_one, h]
theorem cellsA_one {l : List A} {n : Int} {t : ByteArray} (h : l[0]? = some (.make n t)) : cellsA l 1 = [0, 0, 0] := by
  simp [cellsA, List.take_add_one, h]
theorem cellsA_len (l : List A) (i : Nat) : (cellsA l i).length = 3 := by
  unfold cellsA
  generalize l.take i = m
  suffices ∀ (m : List A) (cs : List Int), (m.foldl (fun cs a => match a with | .store _ j w => cs.set j.toNat w | _ => cs) cs).length = cs.length by rw [this]; rfl
  intro m
  induction m with
  | nil => intro cs; rfl
  | cons a m ih => intro cs; rw [List.foldl_cons, ih]; cases a <;> simp
end Go.Proofs.YtkbpnnbdfikjhaaGreat

/- Plain: each act of a laying. -/
namespace Go.Proofs.YtkbpnnbdfikjhaaGreat
open Go Go.Aw
set_option linter.unusedVariables false
set_option linter.unusedSimpArgs false
variable {c : Cfg} {M ep : Int} {G0 : AH} {KT1 : Int → Option ByteArray} {NV : Int → List Cr} {KL : Int}

def lW (c : Cfg) : Nat := 2 * c.shelves.toNat + 14
def Todo (c : Cfg) (ep : Int) (T : Int → Option ByteArray) (G : AH) (l : List Ch) (KT1 : Int → Option ByteArray) (NV : Int → List Cr) : Prop := ktA c T l = KT1 ∧ ∀ s, nvA c ep T l s ++ core (G.ch s) = NV s
/-- how many blocks a laying makes -/
def cst1 (p : Int × Int) : Int := if p.1 = 3 then 0 else if p.1 = 2 then 2 else 1
def cst (c : Cfg) : (Int → Option ByteArray) → List Ch → Int
  | _, [] => 0
  | T, ch :: l => cst1 (spot c T ch.key) + cst c (kt1 T ch (spot c T ch.key)) l
theorem cst1_le (p : Int × Int) : 0 ≤ cst1 p ∧ cst1 p ≤ 2 := by unfold cst1; split <;> (try split) <;> omega
theorem cst_le (c : Cfg) : ∀ (l : List Ch) (T : Int → Option ByteArray), 0 ≤ cst c T l ∧ cst c T l ≤ 2 * l.length
  | [], T => by simp [cst]
  | ch :: l, T => by
    have h1 := cst1_le (spot c T ch.key)
    have h2 := cst_le c l (kt1 T ch (spot c T ch.key))
    simp only [cst, List.length_cons]
    omega
def LyS (c : Cfg) (ep : Int) (E0 : Int) (KT1 : Int → Option ByteArray) (NV : Int → List Cr) (KL : Int) (G : AH) (H : Hp) (x : Ly) (n : Nat) : Prop := match x.st with
  | .finds f => ∃ ch r, x.l = ch :: r ∧ G.E = E0 ∧ Todo c ep (kt G) G x.l KT1 NV ∧ f.key = ch.key ∧ (f.kind = 0 ∧ f.shelf = 0 ∧ 0 ≤ f.i ∧ f.i < c.shelves) ∧ probe c (kt G) ch.key (c.shelves - f.i).toNat f.i = spot c (kt G) ch.key ∧
      (f.block = 0 ∨ ∃ t, G.key (f.at_ c) = some (f.block, t)) ∧ H.last + cst c (kt G) x.l = KL ∧ lW c * r.length + 2 * (c.shelves - f.i).toNat + (if f.block = 0 then 1 else 0) + 12 ≤ n
  | .heads => ∃ ch r, x.l = ch :: r ∧ G.E = E0 ∧ Todo c ep (kt G) G x.l KT1 NV ∧ spot c (kt G) ch.key = (x.kind, x.shelf) ∧ (x.kind = 1 ∨ x.kind = 2) ∧ H.last + cst c (kt G) x.l = KL ∧ lW c * r.length + 11 ≤ n
  | .makes la i k => ∃ ch r, x.l = ch :: r ∧ G.E = E0 ∧ Todo c ep (kt G) G x.l KT1 NV ∧ spot c (kt G) ch.key = (x.kind, x.shelf) ∧ (x.kind = 1 ∨ x.kind = 2) ∧ la = todo3 ep (headW (G.ch x.shelf)) ch.has (txt ch) ∧ i < la.length ∧
      (i = 0 → H.last + cst c (kt G) x.l = KL) ∧ (i ≠ 0 → H.last + cst c (kt1 (kt G) ch (x.kind, x.shelf)) r + (x.kind - 1) = KL ∧ hfind H.blocks k = some ⟨cellsA la i, txt ch⟩ ∧ G.own k = .none) ∧ lW c * r.length + (la.length - i) + 6 ≤ n
  | .links => ∃ ch r, x.l = ch :: r ∧ G.E = E0 ∧ Todo c ep (kt G) G x.l KT1 NV ∧ spot c (kt G) ch.key = (x.kind, x.shelf) ∧ (x.kind = 1 ∨ x.kind = 2) ∧ H.last + cst c (kt1 (kt G) ch (x.kind, x.shelf)) r + (x.kind - 1) = KL ∧ hfind H.blocks x.block = some ⟨[ep, headW (G.ch x.shelf), liveW ch.has], txt ch⟩ ∧ G.own x.block = .none ∧ lW c * r.length + 6 ≤ n
  | .keys => ∃ ch r, x.l = ch :: r ∧ G.E = E0 ∧ x.kind = 2 ∧ Todo c ep (kt1 (kt G) ch (2, x.shelf)) G r KT1 NV ∧ G.key x.shelf = none ∧ H.last + cst c (kt1 (kt G) ch (2, x.shelf)) r + 1 = KL ∧ lW c * r.length + 5 ≤ n
  | .names => ∃ ch r, x.l = ch :: r ∧ G.E = E0 ∧ x.kind = 2 ∧ Todo c ep (kt1 (kt G) ch (2, x.shelf)) G r KT1 NV ∧ G.key x.shelf = none ∧ H.last + cst c (kt1 (kt G) ch (2, x.shelf)) r = KL ∧ (∃ cs, hfind H.blocks x.block = some ⟨cs, ch.key⟩) ∧ G.own x.block = .none ∧ lW c * r.length + 4 ≤ n
  | .stamps => G.E = E0 ∧ Todo c ep (kt G) G [] KT1 NV ∧ H.last = KL ∧ 1 ≤ n
  | .done => G.E = ep ∧ Todo c ep (kt G) G [] KT1 NV ∧ H.last = KL
def LSt.late : LSt → Int
  | .keys => 1
  | .names => 1
  | _ => 0
structure LyK (c : Cfg) (M : Int) (G0 : AH) (H : Hp) (x : Ly) (G : AH) : Prop where
  hg : HG c H G
  gr : Grown M G0 G
  unl : H.locked = false
  flt : H.faults = 0
  sh : 0 ≤ x.shelf ∧ x.shelf < c.shelves
  ld : 0 ≤ x.laid ∧ x.laid + x.l.length ≤ 1000 + x.st.late
  sz : ∀ ch ∈ x.l, ch.key.size ≤ 4096 ∧ ch.value.size ≤ 4096
def LyI (c : Cfg) (M ep : Int) (G0 : AH) (KT1 : Int → Option ByteArray) (NV : Int → List Cr) (KL : Int) (n : Nat) (H : Hp) (x : Ly) : Prop := ∃ G, LyK c M G0 H x G ∧ LyS c ep G0.E KT1 NV KL G H x n

/-- the next change is taken up -/
theorem LyI.start {H : Hp} {x : Ly} {G : AH} (hc : c.right = true) (h : LyK c M G0 H x G) (hld : x.laid + x.l.length ≤ 1000) (hE : G.E = G0.E) (ht : Todo c ep (kt G) G x.l KT1 NV) (hl : H.last + cst c (kt G) x.l = KL) {n : Nat} (hn : lW c * x.l.length + 1 ≤ n) :
    LyI c M ep G0 KT1 NV KL n H (Ly.start x) := by
  obtain ⟨b1, b2, b3, -, -⟩ := c.bounds hc
  obtain ⟨l, st, kind, shelf, block, laid⟩ := x
  have hld0 := h.ld.1
  simp only at hld hld0
  cases l with
  | nil => exact ⟨G, ⟨h.hg, h.gr, h.unl, h.flt, h.sh, ⟨hld0, show laid + (([] : List Ch).length : Int) ≤ 1000 + 0 by omega⟩, h.sz⟩, hE, ht, by simpa [cst] using hl, by omega⟩
  | cons ch r =>
    refine ⟨G, ⟨h.hg, h.gr, h.unl, h.flt, h.sh, ⟨hld0, show laid + ((ch :: r).length : Int) ≤ 1000 + 0 by omega⟩, h.sz⟩, ch, r, rfl, hE, ht, rfl, ⟨rfl, rfl, by simp [Fnd.new], by simp only [Fnd.new]; omega⟩, ?_, .inl rfl, hl, ?_⟩
    · simp only [Fnd.new, spot]; rw [show (c.shelves - 0).toNat = c.shelves.toNat by omega]
    · simp only [Fnd.new, if_true, List.length_cons] at hn ⊢
      rw [Nat.mul_succ] at hn
      simp only [lW] at hn ⊢
      omega
theorem LyI.change {H : Hp} {x : Ly} {G : AH} {ch : Ch} {r : List Ch} (hc : c.right = true) (h : LyK c M G0 H x G) (hx : x.l = ch :: r) (hE : G.E = G0.E) (ht : Todo c ep (kt G) G r KT1 NV) (hl : H.last + cst c (kt G) r = KL) {n : Nat} (hn : lW c * r.length + 1 ≤ n) :
    LyI c M ep G0 KT1 NV KL n H (Ly.change x) := by
  obtain ⟨l, st, kind, shelf, block, laid⟩ := x
  simp only at hx; subst hx
  have h1 := h.ld
  have h2 : st.late ≤ 1 := by cases st <;> simp [LSt.late]
  simp only [List.length_cons] at h1
  have h3 : (0 : Int) ≤ st.late := by cases st <;> simp [LSt.late]
  exact LyI.start hc (x := ⟨r, st, kind, shelf, block, laid⟩) ⟨h.hg, h.gr, h.unl, h.flt, h.sh, ⟨h1.1, by simp only; omega⟩, fun ch' hch => h.sz ch' (by simp [hch])⟩ (by simp only; omega) hE ht hl hn

theorem probe_step {T : Int → Option ByteArray} {k : ByteArray} {i : Int} (h0 : 0 ≤ i) (h : i < c.shelves) : probe c T k (c.shelves - i).toNat i = match T (spotAt c k i) with
    | none => (2, spotAt c k i)
    | some t => if t = k then (1, spotAt c k i) else if i + 1 = c.shelves then (3, 0) else probe c T k (c.shelves - (i + 1)).toNat (i + 1) := by
  rw [show (c.shelves - i).toNat = (c.shelves - (i + 1)).toNat + 1 by omega]
  rfl
theorem spotAt_range (hc : c.right = true) {k : ByteArray} {i : Int} (h0 : 0 ≤ i) (h : i < c.shelves) : 0 ≤ spotAt c k i ∧ spotAt c k i < c.shelves := by
  obtain ⟨b1, b2, b3, -, -⟩ := c.bounds hc
  exact place_range (by omega) ⟨h0, h⟩
end Go.Proofs.YtkbpnnbdfikjhaaGreat

/- Plain: each act of a laying, shown. -/
namespace Go.Proofs.YtkbpnnbdfikjhaaGreat
open Go Go.Aw
set_option linter.unusedVariables false
set_option linter.unusedSimpArgs false
variable {c : Cfg} {M ep : Int} {G0 : AH} {KT1 : Int → Option ByteArray} {NV : Int → List Cr} {KL : Int}

theorem probe_two {T : Int → Option ByteArray} {k : ByteArray} {s : Int} : ∀ (f : Nat) (i : Int) (q : Int), probe c T k f i = (2, q) → T q = none
  | 0, i, q, h => by simp [probe] at h
  | f + 1, i, q, h => by
    simp only [probe] at h
    cases hT : T (spotAt c k i) with
    | none => rw [hT] at h; simp only [Prod.mk.injEq, true_and] at h; rw [← h]; exact hT
    | some t =>
      rw [hT] at h
      simp only at h
      split at h
      · simp at h
      · split at h
        · simp at h
        · exact probe_two (s := s) f (i + 1) q h

theorem lay_ranked (hc : c.right = true) (hM : M < ep) (he : 0 ≤ ep ∧ ep < 1000000000) (hKL : KL < 1000000000) : Ranked (layR c ep) (LyI c M ep G0 KT1 NV KL) := by
  obtain ⟨b1, b2, b3, -, -⟩ := c.bounds hc
  rintro n H x ⟨G, hK, hS⟩
  have hg := hK.hg
  obtain ⟨l, st, kind, shelf, block, laid⟩ := x
  have hsh := hK.sh
  have hld := hK.ld
  have hlate : st.late ≤ 1 := by cases st <;> simp [LSt.late]
  have hsz := hK.sz
  simp only at hsh hld hsz
  have hll : (0 : Int) ≤ l.length := by omega
  have hwd : ∀ {w : Int}, 0 ≤ w → w < 1000000000 → 0 ≤ w ∧ w < 18446744073709551616 := fun h1 h2 => ⟨h1, by omega⟩
  cases st
  case done =>
    exact ⟨hg.wordsOK, ⟨hsh, fun ch hch => (hsz ch hch).1, ⟨hld.1, by simp only; omega⟩, trivial⟩, fun a ha => by cases ha⟩
  case stamps =>
    obtain ⟨hE, ht, hl, hn⟩ := hS
    refine ⟨hg.wordsOK, ⟨hsh, fun ch hch => (hsz ch hch).1, ⟨hld.1, by simp only; omega⟩, trivial⟩, fun a ha => ?_⟩
    cases ha
    obtain ⟨H', a1, a2, a3, a4, a5⟩ := hg.setE hc (w := ep) (by omega)
    refine ⟨by simp [A.ok], rfl, H', _, _, a1, ⟨trivial, by simp⟩, n - 1, by omega, ?_⟩
    show LyI c M ep G0 KT1 NV KL (n - 1) H' ⟨l, .done, kind, shelf, block, laid⟩
    refine ⟨G.setE ep, ⟨a2, hK.gr.trans ⟨rfl, rfl, fun _ _ _ h => h, fun _ _ h => h⟩, by rw [a3]; exact hK.unl, by rw [a5]; exact hK.flt, hsh, hld, hsz⟩, rfl, ht, by rw [a4]; exact hl⟩
  case finds f =>
    obtain ⟨ch, r, hl, hE, ht, hfk, hf, hpr, hb, hlast, hn⟩ := hS
    simp only at hl hlast ht
    subst hl
    refine ⟨hg.wordsOK, ⟨hsh, fun ch hch => (hsz ch hch).1, ⟨hld.1, by simp only; omega⟩, hf, by simp⟩, fun a ha => ?_⟩
    obtain ⟨fkey, fi, fb, fkind, fshelf⟩ := f
    simp only at hfk hf hpr hn
    obtain ⟨rfl, rfl, f0, f1⟩ := hf
    subst hfk
    have hat : Fnd.at_ c ⟨ch.key, fi, fb, 0, 0⟩ = spotAt c ch.key fi := rfl
    have hrng := spotAt_range hc (k := ch.key) f0 f1
    have hstep := probe_step (c := c) (T := kt G) (k := ch.key) f0 f1
    rw [hpr] at hstep
    by_cases hz : fb = 0
    · subst hz
      cases ha
      rw [if_pos rfl] at hn
      refine ⟨by simp only [A.ok, Cfg.key, hat]; omega, rfl, H, _, _, hg.loadKey (s := spotAt c ch.key fi) hrng.1 hrng.2, ⟨trivial, by simp⟩, n - 1, by omega, ?_⟩
      show LyI c M ep G0 KT1 NV KL (n - 1) H (Ly.look ⟨ch :: r, .finds ⟨ch.key, fi, 0, 0, 0⟩, kind, shelf, block, laid⟩ (Fnd.take c ⟨ch.key, fi, 0, 0, 0⟩ (keyW (G.key (spotAt c ch.key fi))) ⟨#[]⟩))
      cases hk : G.key (spotAt c ch.key fi) with
      | none =>
        simp only [keyW, Fnd.take, if_true, Ly.look, hat, show ¬ ((2 : Int) = 0) by omega, show ¬ ((2 : Int) = 3) by omega, if_false]
        have hkt : kt G (spotAt c ch.key fi) = none := by simp [kt, hk]
        rw [hkt] at hstep
        exact ⟨G, ⟨hg, hK.gr, hK.unl, hK.flt, hrng, hld, hsz⟩, ch, r, rfl, hE, ht, hstep, .inr rfl, hlast, by omega⟩
      | some q =>
        obtain ⟨k, t⟩ := q
        obtain ⟨_, cs, hbk⟩ := hg.key _ k t hrng.1 hrng.2 hk
        have hk1 := (hg.idof hbk).1
        have hk0 : ¬ k = 0 := by omega
        simp only [keyW, Fnd.take, if_true, Ly.look, hk0, if_false]
        exact ⟨G, ⟨hg, hK.gr, hK.unl, hK.flt, hsh, hld, hsz⟩, ch, r, rfl, hE, ht, rfl, ⟨rfl, rfl, f0, f1⟩, hpr, .inr ⟨t, hk⟩, hlast, by simp only [hk0, if_false]; omega⟩
    · have hb' := hb.resolve_left hz
      obtain ⟨t, hk⟩ := hb'
      rw [hat] at hk
      rw [if_neg hz] at hn
      have ha' : a = A.words fb := by
        have : Fnd.act c ⟨ch.key, fi, fb, 0, 0⟩ = some a := ha
        simp only [Fnd.act, if_true, hz, if_false, Option.some.injEq] at this
        exact this.symm
      subst ha'
      obtain ⟨_, cs, hbk⟩ := hg.key _ fb t hrng.1 hrng.2 hk
      refine ⟨trivial, rfl, H, 0, t, by simp [A.act, hbk], ⟨trivial, by simp⟩, n - 1, by omega, ?_⟩
      show LyI c M ep G0 KT1 NV KL (n - 1) H (Ly.look ⟨ch :: r, .finds ⟨ch.key, fi, fb, 0, 0⟩, kind, shelf, block, laid⟩ (Fnd.take c ⟨ch.key, fi, fb, 0, 0⟩ 0 t))
      have hkt : kt G (spotAt c ch.key fi) = some t := by simp [kt, hk]
      rw [hkt] at hstep
      by_cases hte : t = ch.key
      · simp only [hte, if_true] at hstep
        simp only [Fnd.take, hz, if_false, hte, if_true, Ly.look, hat, show ¬ ((1 : Int) = 0) by omega, show ¬ ((1 : Int) = 3) by omega]
        exact ⟨G, ⟨hg, hK.gr, hK.unl, hK.flt, hrng, hld, hsz⟩, ch, r, rfl, hE, ht, hstep, .inl rfl, hlast, by omega⟩
      · simp only [hte, if_false] at hstep
        by_cases hil : fi + 1 = c.shelves
        · simp only [hil, if_true] at hstep
          simp only [Fnd.take, hz, if_false, hte, hil, if_true, Ly.look, show ¬ ((3 : Int) = 0) by omega]
          refine LyI.change hc (x := ⟨ch :: r, .finds ⟨ch.key, fi, fb, 0, 0⟩, kind, shelf, block, laid⟩) hK rfl hE ⟨?_, fun s => ?_⟩ (by simpa only [cst, hstep, cst1, kt1, show ¬ ((3 : Int) = 2) by omega, if_true, if_false, Int.zero_add] using hlast) (by omega)
          · have := ht.1
            simp only [ktA, hstep, kt1, show ¬ ((3 : Int) = 2) by omega, if_false] at this
            exact this
          · have := ht.2 s
            simp only [nvA, hstep, kt1, nv1, show ¬ ((3 : Int) = 2) by omega, if_false, ne_eq, not_true_eq_false, false_and, List.append_nil] at this
            exact this
        · simp only [hil, if_false] at hstep
          simp only [Fnd.take, hz, if_false, hte, hil, Ly.look, if_true]
          exact ⟨G, ⟨hg, hK.gr, hK.unl, hK.flt, hsh, hld, hsz⟩, ch, r, rfl, hE, ht, rfl, ⟨rfl, rfl, by simp only; omega, by simp only; omega⟩, hstep.symm, .inl rfl, hlast, by simp only [if_true]; omega⟩
  case heads =>
    obtain ⟨ch, r, hl, hE, ht, hsp, hkd, hlast, hn⟩ := hS
    simp only at hl hlast ht hsp hkd
    subst hl
    refine ⟨hg.wordsOK, ⟨hsh, fun ch hch => (hsz ch hch).1, ⟨hld.1, by simp only; omega⟩, by simp⟩, fun a ha => ?_⟩
    cases ha
    refine ⟨by simp only [A.ok, Cfg.head]; omega, rfl, H, _, _, hg.loadHead hsh.1 hsh.2, ⟨trivial, by simp⟩, n - 1, by omega, ?_⟩
    have h3 := todo3_len ep (headW (G.ch shelf)) ch.has (txt ch)
    show LyI c M ep G0 KT1 NV KL (n - 1) H ⟨ch :: r, .makes (todo3 ep (headW (G.ch shelf)) ch.has (txt ch)) 0 0, kind, shelf, block, laid⟩
    exact ⟨G, ⟨hg, hK.gr, hK.unl, hK.flt, hsh, hld, hsz⟩, ch, r, rfl, hE, ht, hsp, hkd, rfl, by omega, fun _ => hlast, fun h => absurd rfl h, by omega⟩
  case makes la i k =>
    obtain ⟨ch, r, hl, hE, ht, hsp, hkd, hla, hil, hi0, hi1, hn⟩ := hS
    simp only at hl ht hsp hkd hla hi0
    subst hl
    have h3 := todo3_len ep (headW (G.ch shelf)) ch.has (txt ch)
    obtain ⟨t0, tj⟩ := todo3_at ep (headW (G.ch shelf)) ch.has (txt ch)
    rw [← hla] at h3 t0 tj
    have htx : (txt ch).size ≤ 4096 := by
      unfold txt
      split
      · exact (hsz ch (by simp)).2
      · exact Nat.zero_le _
    have hk0 : i ≠ 0 → k ≠ 0 := fun hi => by
      have := (hg.idof (hi1 hi).2.1).1
      omega
    refine ⟨hg.wordsOK, ⟨hsh, fun ch hch => (hsz ch hch).1, ⟨hld.1, by simp only; omega⟩, hil, by omega, fun a ha => ⟨_, by rw [t0] at ha; cases ha; rfl⟩, fun j a hj ha => ?_, hk0, by simp⟩, fun a ha => ?_⟩
    · obtain ⟨i', w, e, _⟩ := tj j a hj ha
      exact ⟨i', w, e⟩
    by_cases hi : i = 0
    · subst hi
      have ha' : a = A.make 3 (txt ch) := by
        have : verAct la 0 k = some a := ha
        simp only [verAct, t0, Option.some.injEq] at this
        exact this.symm
      subst ha'
      have hlast := hi0 rfl
      simp only [cst, hsp] at hlast
      have hcl := (cst_le c r (kt1 (kt G) ch (kind, shelf))).1
      have hc1 : cst1 (kind, shelf) = kind := by rcases hkd with rfl | rfl <;> rfl
      rw [hc1] at hlast
      obtain ⟨H', m1, m2, m3, m4, m5, m6, m7, m8⟩ := hg.make (n := 3) (t := txt ch) (by omega) (by omega) (by omega)
      have hl1 := hg.last
      refine ⟨⟨by omega, htx⟩, rfl, H', _, _, m1, ⟨fun _ => by omega, by simp⟩, n - 1, by omega, ?_⟩
      show LyI c M ep G0 KT1 NV KL (n - 1) H' (if 0 + 1 < la.length then ⟨ch :: r, .makes la (0 + 1) (H.last + 1), kind, shelf, block, laid⟩ else ⟨ch :: r, .links, kind, shelf, H.last + 1, laid⟩)
      rw [if_pos (by omega)]
      refine ⟨G, ⟨m2, hK.gr, by rw [m3]; exact hK.unl, by rw [m5]; exact hK.flt, hsh, hld, hsz⟩, ch, r, rfl, hE, ht, hsp, hkd, hla, by omega, fun h => by omega, fun _ => ⟨by simp only; rw [m4]; omega, ?_, m7⟩, by omega⟩
      rw [m6, cellsA_one t0]; rfl
    · obtain ⟨hlast, hbk, how⟩ := hi1 hi
      obtain ⟨b, hb⟩ : ∃ b, la[i]? = some b := ⟨_, List.getElem?_eq_getElem hil⟩
      obtain ⟨j, w, rfl, j0, j1, hw⟩ := tj i b (by omega) hb
      have ha' : a = A.store k j w := by
        have : verAct la i k = some a := ha
        simp only [verAct, hb, hi, if_false, Option.some.injEq] at this
        exact this.symm
      subst ha'
      have hhw := headW_w hg hsh.1 hsh.2
      have hww : 0 ≤ w ∧ w < 18446744073709551616 := by rcases hw with rfl | rfl | rfl <;> omega
      obtain ⟨H', m1, m2, m3, m4, m5, m6, m7⟩ := hg.storeN hbk how j0 (by rw [cellsA_len]; omega) hww
      rw [← cellsA_succ hb] at m6
      refine ⟨j0, rfl, H', _, _, m1, ⟨fun h => absurd h hi, by simp⟩, n - 1, by omega, ?_⟩
      show LyI c M ep G0 KT1 NV KL (n - 1) H' (if i + 1 < la.length then ⟨ch :: r, .makes la (i + 1) (if i = 0 then 0 else k), kind, shelf, block, laid⟩ else ⟨ch :: r, .links, kind, shelf, if i = 0 then 0 else k, laid⟩)
      rw [if_neg hi]
      by_cases hi2 : i + 1 < la.length
      · rw [if_pos hi2]
        exact ⟨G, ⟨m2, hK.gr, by rw [m3]; exact hK.unl, by rw [m5]; exact hK.flt, hsh, hld, hsz⟩, ch, r, rfl, hE, ht, hsp, hkd, hla, hi2, fun h => by omega, fun _ => ⟨by rw [m4]; exact hlast, m6, how⟩, by omega⟩
      · rw [if_neg hi2]
        have hend : i + 1 = la.length := by omega
        rw [hend, hla, cellsA_end] at m6
        exact ⟨G, ⟨m2, hK.gr, by rw [m3]; exact hK.unl, by rw [m5]; exact hK.flt, hsh, hld, hsz⟩, ch, r, rfl, hE, ht, hsp, hkd, by rw [m4]; exact hlast, m6, how, by omega⟩
  case links =>
    obtain ⟨ch, r, hl, hE, ht, hsp, hkd, hlast, hbk, how, hn⟩ := hS
    simp only at hl ht hsp hkd hlast hbk how
    subst hl
    refine ⟨hg.wordsOK, ⟨hsh, fun ch hch => (hsz ch hch).1, ⟨hld.1, by simp only; omega⟩, by simp⟩, fun a ha => ?_⟩
    cases ha
    have hid := hg.idof hbk
    have hcl := (cst_le c r (kt1 (kt G) ch (kind, shelf))).1
    have hk12 : 1 ≤ kind := by omega
    obtain ⟨H', m1, m2, m3, m4, m5, m6⟩ := hg.push hc (v := ⟨block, ep, ch.has, txt ch⟩) hsh.1 hsh.2 hbk how (by simp only; omega)
    refine ⟨by simp only [A.ok, Cfg.head]; omega, rfl, H', _, _, m1, ⟨trivial, by simp⟩, n - 1, by omega, ?_⟩
    have hgr : Grown M G0 (G.push shelf ⟨block, ep, ch.has, txt ch⟩) := hK.gr.trans (Grown.push hM)
    have hcore : ∀ s, core ((G.push shelf ⟨block, ep, ch.has, txt ch⟩).ch s) = (if s = shelf then [(ep, ch.has, txt ch)] else []) ++ core (G.ch s) := fun s => by
      by_cases e : s = shelf
      · subst e; simp [AH.push, core]
      · simp [AH.push, core, e]
    simp only [List.length_cons] at hld
    obtain ⟨t1, t2⟩ := ht
    simp only [ktA, nvA, hsp] at t1 t2
    have hnv : ∀ s, nv1 ep ch (kind, shelf) s = if s = shelf then [(ep, ch.has, txt ch)] else [] := fun s => by
      simp only [nv1]
      rcases hkd with rfl | rfl <;> simp
    have ht' : Todo c ep (kt1 (kt G) ch (kind, shelf)) (G.push shelf ⟨block, ep, ch.has, txt ch⟩) r KT1 NV := ⟨t1, fun s => by
      rw [hcore, ← List.append_assoc, ← hnv]; exact t2 s⟩
    show LyI c M ep G0 KT1 NV KL (n - 1) H' (if kind = 1 then Ly.change ⟨ch :: r, .links, kind, shelf, block, laid + 1⟩ else ⟨ch :: r, .keys, kind, shelf, block, laid + 1⟩)
    rcases hkd with rfl | rfl
    · rw [if_pos rfl]
      have hT : kt1 (kt G) ch (1, shelf) = kt (G.push shelf ⟨block, ep, ch.has, txt ch⟩) := by
        simp only [kt1, show ¬ ((1 : Int) = 2) by omega, if_false]; rfl
      rw [hT] at ht'
      -- one less is counted
      refine LyI.start hc (x := ⟨r, .links, 1, shelf, block, laid + 1⟩) ⟨m2, hgr, by rw [m3]; exact hK.unl, by rw [m5]; exact hK.flt, hsh, by simp only; omega, fun ch' hch => hsz ch' (by simp [hch])⟩ (by simp only; simp only [LSt.late] at hld; omega) hE ht' (by simp only at hlast ⊢; rw [m4, ← hT]; omega) (by simp only; omega)
    · rw [if_neg (by omega)]
      have hnk : G.key shelf = none := by
        have := probe_two (c := c) (T := kt G) (k := ch.key) (s := 0) _ _ _ hsp
        simpa [kt] using this
      exact ⟨_, ⟨m2, hgr, by rw [m3]; exact hK.unl, by rw [m5]; exact hK.flt, hsh, by simp only [List.length_cons, LSt.late] at hld ⊢; omega, hsz⟩, ch, r, rfl, hE, rfl, ht', hnk, by rw [m4]; show H.last + cst c (kt1 (kt G) ch (2, shelf)) r + 1 = KL; omega, by omega⟩
  case keys =>
    obtain ⟨ch, r, hl, hE, hkd, ht, hnk, hlast, hn⟩ := hS
    simp only at hl ht hkd hlast hnk
    subst hl
    refine ⟨hg.wordsOK, ⟨hsh, fun ch hch => (hsz ch hch).1, ⟨hld.1, by simp only; omega⟩, by simp⟩, fun a ha => ?_⟩
    cases ha
    have hcl := (cst_le c r (kt1 (kt G) ch (2, shelf))).1
    obtain ⟨H', m1, m2, m3, m4, m5, m6, m7, m8⟩ := hg.make (n := 0) (t := ch.key) (by omega) (by omega) (by omega)
    refine ⟨⟨by omega, (hsz ch (by simp)).1⟩, rfl, H', _, _, m1, ⟨trivial, by simp⟩, n - 1, by omega, ?_⟩
    show LyI c M ep G0 KT1 NV KL (n - 1) H' ⟨ch :: r, .names, kind, shelf, H.last + 1, laid⟩
    exact ⟨G, ⟨m2, hK.gr, by rw [m3]; exact hK.unl, by rw [m5]; exact hK.flt, hsh, hld, hsz⟩, ch, r, rfl, hE, hkd, ht, hnk, by simp only; rw [m4]; omega, ⟨_, m6⟩, m7, by omega⟩
  case names =>
    obtain ⟨ch, r, hl, hE, hkd, ht, hnk, hlast, ⟨cs, hbk⟩, how, hn⟩ := hS
    simp only at hl ht hkd hlast hnk hbk how
    subst hl
    refine ⟨hg.wordsOK, ⟨hsh, fun ch hch => (hsz ch hch).1, ⟨hld.1, by simp only; omega⟩, by simp⟩, fun a ha => ?_⟩
    cases ha
    have hid := hg.idof hbk
    have hcl := (cst_le c r (kt1 (kt G) ch (2, shelf))).1
    obtain ⟨H', m1, m2, m3, m4, m5⟩ := hg.setKey hc hsh.1 hsh.2 hbk how (by omega) (fun t => by rw [hnk]; simp)
    refine ⟨by simp only [A.ok, Cfg.key]; omega, rfl, H', _, _, m1, ⟨trivial, by simp⟩, n - 1, by omega, ?_⟩
    show LyI c M ep G0 KT1 NV KL (n - 1) H' (Ly.change ⟨ch :: r, .names, kind, shelf, block, laid⟩)
    have hT : kt1 (kt G) ch (2, shelf) = kt (G.setKey shelf block ch.key) := by rw [kt_setKey]; simp [kt1]
    rw [hT] at ht
    exact LyI.change hc (x := ⟨ch :: r, .names, kind, shelf, block, laid⟩) ⟨m2, hK.gr.trans (Grown.setKey hnk), by rw [m3]; exact hK.unl, by rw [m5]; exact hK.flt, hsh, hld, hsz⟩ rfl hE ht (by rw [m4, ← hT]; exact hlast) (by omega)
end Go.Proofs.YtkbpnnbdfikjhaaGreat

/- Plain: whole runs; what two heaps have in common. -/
namespace Go.Proofs.YtkbpnnbdfikjhaaGreat
open Go Go.Aw
set_option linter.unusedVariables false
set_option linter.unusedSimpArgs false
variable {c : Cfg} {M ep : Int} {G0 : AH}

theorem lay_run (hc : c.right = true) (hM : M < ep) (he : 0 ≤ ep ∧ ep < 1000000000) {H : Hp} (hg : HG c H G0) (hl : H.locked = false) (hf : H.faults = 0) {l : List Ch} (hlen : l.length ≤ 6) (hsz : ∀ ch ∈ l, ch.key.size ≤ 4096 ∧ ch.value.size ≤ 4096) (hlast : H.last + 12 < 1000000000) :
    ∃ I, Ranked (layR c ep) I ∧ I 2000 H (Ly.new l) ∧ ∃ G', HG c ((layR c ep).run 10000 (H, Ly.new l)).2.1 G' ∧ Grown M G0 G' ∧ G'.E = ep ∧ kt G' = ktA c (kt G0) l ∧ (∀ s, core (G'.ch s) = nvA c ep (kt G0) l s ++ core (G0.ch s)) ∧
      ((layR c ep).run 10000 (H, Ly.new l)).2.1.locked = false ∧ ((layR c ep).run 10000 (H, Ly.new l)).2.1.faults = 0 ∧ ((layR c ep).run 10000 (H, Ly.new l)).2.1.last = H.last + cst c (kt G0) l := by
  obtain ⟨b1, b2, b3, -, -⟩ := c.bounds hc
  have hR := lay_ranked (G0 := G0) (KT1 := ktA c (kt G0) l) (NV := fun s => nvA c ep (kt G0) l s ++ core (G0.ch s)) (KL := H.last + cst c (kt G0) l) hc hM he (by have := cst_le c l (kt G0); omega)
  have hI : LyI c M ep G0 (ktA c (kt G0) l) (fun s => nvA c ep (kt G0) l s ++ core (G0.ch s)) (H.last + cst c (kt G0) l) 2000 H (Ly.new l) := by
    refine LyI.start hc (x := ⟨l, .stamps, 0, 0, 0, 0⟩) ⟨hg, Grown.refl M G0, hl, hf, ⟨by simp, by simp only; omega⟩, ⟨by simp, by simp only [LSt.late]; omega⟩, hsz⟩ (by simp only; omega) rfl ⟨rfl, fun _ => rfl⟩ rfl ?_
    simp only [lW]
    have : (2 * c.shelves.toNat + 14) * l.length ≤ 142 * 6 := Nat.mul_le_mul (by omega) hlen
    omega
  obtain ⟨⟨m, G', hK, hS⟩, h2⟩ := hR.run 10000 2000 (H, Ly.new l) hI
  have hact := h2 (by omega)
  refine ⟨_, hR, hI, G', hK.hg, hK.gr, ?_⟩
  generalize (layR c ep).run 10000 (H, Ly.new l) = y at *
  obtain ⟨k, H', ⟨l', st, kind, shelf, block, laid⟩⟩ := y
  have hunl := hK.unl
  have hflt := hK.flt
  cases st
  case done =>
    obtain ⟨q1, ⟨q2, q3⟩, q4⟩ := hS
    exact ⟨q1, q2, fun s => by simpa [nvA] using q3 s, hunl, hflt, q4⟩
  case finds f =>
    exfalso
    obtain ⟨ch, r, _, _, _, _, hf', _⟩ := hS
    have : Fnd.act c f = none := hact
    unfold Fnd.act at this
    rw [if_pos hf'.1] at this
    split at this <;> cases this
  case makes la i k =>
    exfalso
    obtain ⟨ch, r, _, _, _, _, _, hla, hil, _⟩ := hS
    have : verAct la i k = none := hact
    unfold verAct at this
    rw [List.getElem?_eq_getElem hil] at this
    split at this <;> simp_all
  case keys =>
    exfalso
    obtain ⟨ch, r, hl', _⟩ := hS
    have : Ly.act c ep ⟨l', .keys, kind, shelf, block, laid⟩ = none := hact
    simp only at hl'
    subst hl'
    cases this
  all_goals (exfalso; cases hact)

/-! ### reading what was laid -/
def rdc (e : Int) : List Cr → Option ByteArray
  | [] => none
  | v :: r => if v.1 ≤ e then (if v.2.1 = true then some v.2.2 else none) else rdc e r
theorem rd_core (e : Int) : ∀ (l : List Ver), rd e l = rdc e (core l)
  | [] => rfl
  | v :: l => by simp only [rd, core, List.map_cons, rdc]; rw [rd_core e l]; rfl
theorem rdc_new {e ep : Int} : ∀ (n l : List Cr), (∀ v ∈ n, v.1 = ep) → rdc e (n ++ l) = if ep ≤ e then (match n with | [] => rdc e l | v :: _ => if v.2.1 = true then some v.2.2 else none) else rdc e l
  | [], l, _ => by simp
  | v :: n, l, h => by
    have hv := h v (by simp)
    by_cases he : ep ≤ e
    · simp [rdc, hv, he]
    · have := rdc_new (e := e) (ep := ep) n l (fun w hw => h w (by simp [hw]))
      rw [if_neg he] at this ⊢
      simp only [List.cons_append, rdc, hv]
      rw [if_neg he]; exact this
theorem nvA_ep (c : Cfg) (ep s : Int) : ∀ (l : List Ch) (T : Int → Option ByteArray), ∀ v ∈ nvA c ep T l s, v.1 = ep
  | [], T, v, h => by simp [nvA] at h
  | ch :: l, T, v, h => by
    simp only [nvA, List.mem_append] at h
    rcases h with h | h
    · exact nvA_ep c ep s l _ v h
    · simp only [nv1] at h
      split at h
      · simp only [List.mem_singleton] at h; rw [h]
      · simp at h
theorem nvA_len (c : Cfg) (ep s : Int) : ∀ (l : List Ch) (T : Int → Option ByteArray), (nvA c ep T l s).length ≤ l.length
  | [], T => by simp [nvA]
  | ch :: l, T => by
    have := nvA_len c ep s l (kt1 T ch (spot c T ch.key))
    have h1 : (nv1 ep ch (spot c T ch.key) s).length ≤ 1 := by simp only [nv1]; split <;> simp
    simp only [nvA, List.length_append, List.length_cons]; omega

/-- two heaps, read at M and later -/
structure Twin (c : Cfg) (M : Int) (A B : AH) : Prop where
  hE : A.E = B.E
  hk : kt A = kt B
  hr : ∀ s, 0 ≤ s → s < c.shelves → ∀ e, M ≤ e → rd e (A.ch s) = rd e (B.ch s)
theorem Twin.obs {A B : AH} (h : Twin c M A B) {s e : Int} (h0 : 0 ≤ s) (h1 : s < c.shelves) (he : M ≤ e) : Proofs.YtkbpnnbdfikjhaaGreat.obs e A s = Proofs.YtkbpnnbdfikjhaaGreat.obs e B s := by
  have h2 := congrFun h.hk s
  have h3 := h.hr s h0 h1 e he
  simp only [kt] at h2
  simp only [Proofs.YtkbpnnbdfikjhaaGreat.obs]
  rw [h3]
  cases ha : A.key s with
  | none => cases hb : B.key s with
    | none => rfl
    | some q => rw [ha, hb] at h2; cases h2
  | some p => cases hb : B.key s with
    | none => rw [ha, hb] at h2; cases h2
    | some q => rw [ha, hb] at h2; simp only [Option.map_some, Option.some.injEq] at h2; simp [h2]
theorem Twin.weaken {A B : AH} (h : Twin c M A B) {M' : Int} (hM : M ≤ M') : Twin c M' A B := ⟨h.hE, h.hk, fun s a b e he => h.hr s a b e (by omega)⟩
theorem Twin.later {A B A' : AH} {P : Prop} (h : Twin c M A B) (hl : Later c M P A A') : Twin c M A' B := by
  refine ⟨hl.E.trans h.hE, ?_, fun s a b e he => (hl.rd s a b e he).trans (h.hr s a b e he)⟩
  rw [← h.hk]; funext s; simp only [kt, hl.key]
theorem Twin.laid {A B A' B' : AH} (h : Twin c M A B) {ep : Int} {l : List Ch} (a1 : A'.E = ep) (a2 : kt A' = ktA c (kt A) l) (a3 : ∀ s, core (A'.ch s) = nvA c ep (kt A) l s ++ core (A.ch s))
    (b1 : B'.E = ep) (b2 : kt B' = ktA c (kt B) l) (b3 : ∀ s, core (B'.ch s) = nvA c ep (kt B) l s ++ core (B.ch s)) : Twin c M A' B' := by
  refine ⟨a1.trans b1.symm, by rw [a2, b2, h.hk], fun s s0 s1 e he => ?_⟩
  have hr := h.hr s s0 s1 e he
  rw [rd_core, rd_core] at hr ⊢
  rw [a3, b3, h.hk, rdc_new _ _ (nvA_ep c ep s l _), rdc_new _ _ (nvA_ep c ep s l _), hr]
end Go.Proofs.YtkbpnnbdfikjhaaGreat

/- Plain: a whole view; portions of one. -/
namespace Go.Proofs.YtkbpnnbdfikjhaaGreat
open Go Go.Aw
set_option linter.unusedVariables false
set_option linter.unusedSimpArgs false
variable {c : Cfg} {M i : Int} {G : AH} {O : Int → Option Pr} {K : Int} {CL : Nat}

theorem setPin_back {G : AH} {i w : Int} (h : G.pin i = 0) : (G.setPin i w).setPin i 0 = G := by
  obtain ⟨E, pin, key, ch, limbo, own⟩ := G
  simp only [AH.setPin, AH.mk.injEq, true_and, and_true]
  funext j
  by_cases e : j = i
  · subst e; simp only [if_true]; exact h.symm
  · simp [e]

theorem view_end (hc : c.right = true) (hi : 0 ≤ i ∧ i < c.pins) {n : Nat} {H : Hp} {x : Vw} (h : VwI c M i G O K CL n H x) (ha : (viewR c).act x = none) : x.st = .done := by
  obtain ⟨st, acts, pin, epoch, shelf, block, key, seen, pairs, mark⟩ := x
  obtain ⟨-, -, -, -, hS⟩ := h
  cases st
  case pins p => exact hS.elim
  case done => rfl
  case reads y =>
    obtain ⟨_, _, _, _, _, _, _, _, hR⟩ := hS
    obtain ⟨cell, ye, yb, part, has, text, vb, passed⟩ := y
    cases part
    case done => exact hR.elim
    all_goals cases ha
  all_goals cases ha

theorem view_whole (hc : c.right = true) (hi : 0 ≤ i ∧ i < c.pins) {H : Hp} (hg : HG c H G) (hz : G.pin i = 0) (hE : G.E < 1000000000) (hK : H.last = K) (hK0 : K < 1000000000) (hf : H.faults = 0) (hl : H.locked = false)
    (hO : ∀ s, 0 ≤ s → s < c.shelves → O s = obs G.E G s) (hCL : ∀ s, 0 ≤ s → s < c.shelves → (G.ch s).length ≤ CL) (hB : full c CL + 3 ≤ 10000) :
    ∃ I, Ranked (viewR c) I ∧ I 10000 H (vw0 i) ∧ ((viewR c).run 10000 (H, vw0 i)).2.2.st = .done ∧ HG c ((viewR c).run 10000 (H, vw0 i)).2.1 G ∧ ((viewR c).run 10000 (H, vw0 i)).2.2.pairs = pairsOf (sofar O c.shelves.toNat) ∧
      ((viewR c).run 10000 (H, vw0 i)).2.1.last = K ∧ ((viewR c).run 10000 (H, vw0 i)).2.1.faults = 0 ∧ ((viewR c).run 10000 (H, vw0 i)).2.1.locked = false := by
  obtain ⟨H1, h1, h2, h3, h4⟩ := view_start hc hi hg hz hE hK hK0 hf hl hO hCL (by omega)
  have hI : VwJ c i G O K CL H H1 10000 H (vw0 i) := .inl ⟨rfl, hB⟩
  obtain ⟨⟨m, hJ⟩, hend⟩ := h2.run 10000 10000 (H, vw0 i) hI
  have hact := hend (Nat.le_refl _)
  refine ⟨_, h2, hI, ?_⟩
  generalize (viewR c).run 10000 (H, vw0 i) = y at *
  obtain ⟨k, H', x⟩ := y
  have hV : VwI c G.E i (G.setPin i (G.E + 1)) O K CL m H' x := by
    rcases hJ with ⟨e, _⟩ | ⟨e, _⟩ | ⟨e, _⟩ | h
    · cases e; cases hact
    · cases e; cases hact
    · cases e; cases hact
    · exact h
  have hd : x.st = .done := view_end hc hi hV hact
  obtain ⟨-, q1, q2, q3, hS⟩ := hV
  simp only [VwS, hd] at hS
  rw [setPin_back hz] at hS
  exact ⟨hd, hS.1, hS.2, q1, q2, q3⟩

theorem sofar_congr {O O' : Int → Option Pr} : ∀ (n : Nat), (∀ s : Int, 0 ≤ s → s < n → O s = O' s) → sofar O n = sofar O' n
  | 0, _ => rfl
  | n + 1, h => by
    simp only [sofar]
    rw [sofar_congr n fun s h0 h1 => h s h0 (by omega), h n (by omega) (by omega)]

/-- so many acts more at most -/
theorem take_acts (c : Cfg) (x : Vw) (w : Int) (t : ByteArray) : (Vw.take c x w t).acts ≤ x.acts + 1 := by
  obtain ⟨st, acts, pin, epoch, shelf, block, key, seen, pairs, mark⟩ := x
  cases st <;> simp only [Vw.take]
  · split <;> simp
  · split <;> simp [Vw.next]
  · simp
  · split <;> simp [Vw.next]
  · simp
  · omega
theorem Rtn.run_none {R : Rtn} {k : Nat} {x : Hp × R.S} (h : R.step x = none) : R.run (k + 1) x = (0, x) := by simp only [Rtn.run, h]
theorem step_acts (c : Cfg) {x y : Hp × (viewR c).S} (hs : (viewR c).step x = some y) : Vw.acts y.2 ≤ Vw.acts x.2 + 1 := by
  unfold Rtn.step at hs
  cases ha : (viewR c).act x.2 with
  | none => rw [ha] at hs; cases hs
  | some a =>
    rw [ha] at hs
    simp only [Option.bind_some] at hs
    split at hs
    · rw [Option.map_eq_some_iff] at hs
      obtain ⟨z, _, rfl⟩ := hs
      exact take_acts c x.2 z.2.1 z.2.2
    · cases hs
theorem run_acts (c : Cfg) : ∀ (k : Nat) (x : Hp × (viewR c).S), Vw.acts ((viewR c).run k x).2.2 ≤ Vw.acts x.2 + k
  | 0, x => by show Vw.acts x.2 ≤ Vw.acts x.2 + ((0 : Nat) : Int); omega
  | k + 1, x => by
    cases hs : (viewR c).step x with
    | none =>
      have e : ((viewR c).run (k + 1) x).2.2 = x.2 := congrArg (fun z => z.2.2) (Rtn.run_none (k := k) hs)
      rw [e]; omega
    | some y =>
      have ih := run_acts c k y
      have h1 := step_acts c hs
      have e : ((viewR c).run (k + 1) x).2.2 = ((viewR c).run k y).2.2 := congrArg (fun z => z.2.2) (Rtn.run_succ (k := k) hs)
      rw [e]; omega

theorem probe_one {T : Int → Option ByteArray} {k : ByteArray} : ∀ (f : Nat) (j q : Int), probe c T k f j = (1, q) → T q ≠ none
  | 0, j, q, h => by simp [probe] at h
  | f + 1, j, q, h => by
    simp only [probe] at h
    cases hT : T (spotAt c k j) with
    | none => rw [hT] at h; simp at h
    | some t =>
      rw [hT] at h
      simp only at h
      split at h
      · simp only [Prod.mk.injEq, true_and] at h; rw [← h, hT]; simp
      · split at h
        · simp at h
        · exact probe_one f (j + 1) q h
theorem probe_kind {T : Int → Option ByteArray} {k : ByteArray} : ∀ (f : Nat) (j : Int), (probe c T k f j).1 = 1 ∨ (probe c T k f j).1 = 2 ∨ (probe c T k f j).1 = 3
  | 0, j => by simp [probe]
  | f + 1, j => by
    simp only [probe]
    cases T (spotAt c k j) with
    | none => simp
    | some t =>
      simp only
      split
      · simp
      · split
        · simp
        · exact probe_kind f (j + 1)
/-- where no key is, nothing was laid -/
theorem nvA_none {ep s : Int} : ∀ (l : List Ch) (T : Int → Option ByteArray), ktA c T l s = none → T s = none ∧ nvA c ep T l s = []
  | [], T, h => ⟨h, rfl⟩
  | ch :: l, T, h => by
    obtain ⟨h1, h2⟩ := nvA_none (ep := ep) l _ h
    have hT : T s = none := by
      by_cases hk : (spot c T ch.key).1 = 2
      · simp only [kt1, hk, if_true] at h1
        split at h1
        · cases h1
        · exact h1
      · simp only [kt1, hk, if_false] at h1; exact h1
    refine ⟨hT, ?_⟩
    simp only [nvA, h2, List.nil_append, nv1]
    rw [if_neg]
    rintro ⟨hk, hs⟩
    obtain ⟨k, q, hp⟩ : ∃ k q, spot c T ch.key = (k, q) := ⟨_, _, rfl⟩
    rw [hp] at hk hs h1
    simp only at hk hs
    subst hs
    rcases probe_kind (c := c) (T := T) (k := ch.key) c.shelves.toNat 0 with h | h | h
    · have : (probe c T ch.key c.shelves.toNat 0) = (1, s) := by
        have : probe c T ch.key c.shelves.toNat 0 = (k, s) := hp
        rw [this] at h ⊢; simp only at h; rw [h]
      exact probe_one _ _ _ this hT
    · have h' : probe c T ch.key c.shelves.toNat 0 = (k, s) := hp
      rw [h'] at h
      simp only at h
      subst h
      simp [kt1] at h1
    · have h' : probe c T ch.key c.shelves.toNat 0 = (k, s) := hp
      rw [h'] at h
      exact hk h
end Go.Proofs.YtkbpnnbdfikjhaaGreat
