/- Abstract values and stores, and what it means that a world answers to a store. -/
import Derived.Calls
import Derived.Control
import Derived.Tactics
import Derived.Orders
import Derived.Scope
import Derived.Laws.World
import Derived.RangeFuncRecord
import Derived.RangeFuncSeq
import Derived.RangeFuncLeaves
import Derived.RangeFuncCalls
import Derived.LoopNIn
import Derived.OrdersIn
import Derived.OwnWalkIn
import Derived.Laws.AppendOwn
import Derived.Laws.CopyRow
import Derived.Laws.Tables
namespace Go.Aw
open Go

/-- The right to append in place. -/
inductive Tok where
  | dead | clip | live (b es : Nat)

/-- Abstract values. -/
inductive AV where
  | any
  | sc (v : Value)
  | agg (cs : List AV)
  | slice (t : Tok) (rows : List (List AV))
  | ptr (b off : Nat)
  | iptr (row : List AV) (off : Nat)
  | func (fn : Fn) (first captured : List AV)
  | iface (t : TypeId) (v : AV)
  | tuple (vs : List AV)
  /-- a slice of n rows of es cells at a place of a block that is claimed -/
  | mslice (b off n es : Nat)

/-- What is claimed of a block: its first cells; or that its first m cells stand; or a map's entries; or a walk over a map that stands. -/
inductive AObj where
  | cells (cs : List AV)
  | top (m : Nat)
  | map (es : List (Value × AV))
  | iter (last : Option (Value × AV)) (left : List (Value × AV))
  /-- the record of a range over a function, ready; what its frame holds -/
  | loop (fn : FuncId) (ps : Array Tmp) (assign body : Code) (D : Nat) (e : List AV)

abbrev Sto := Nat → Option AObj
abbrev Env := List AV

def Sto.set (σ : Sto) (b : Nat) (o : AObj) : Sto := fun x => if x = b then some o else σ x
def Sto.del (σ : Sto) (b : Nat) : Sto := fun x => if x = b then none else σ x

def rd (σ : Sto) (b off : Nat) : Prop := σ b = none ∨ ∃ m, σ b = some (.top m) ∧ off < m

def tokOK (w : World) (t : Tok) (a : Option Addr) (n cap es : Nat) : Prop :=
  match t with
  | .dead => True
  | .clip => n = cap
  | .live b e => a = some ⟨b, 0, none⟩ ∧ e = es ∧ ∃ vs ty, w.heap[b]? = some (.cells vs ty (0, 0)) ∧ cap * e ≤ vs.size

inductive Rel (σ : Sto) (w : World) : AV → Value → Prop
  | any (v : Value) : Rel σ w .any v
  | sc (v : Value) : Rel σ w (.sc v) v
  | agg (cs : List AV) (vs : Array Value) (hl : cs.length = vs.size)
      (h : ∀ (i : Nat) (c : AV) (v : Value), cs[i]? = some c → vs[i]? = some v → Rel σ w c v) : Rel σ w (.agg cs) (.agg vs)
  | tuple (cs : List AV) (vs : Array Value) (hl : cs.length = vs.size)
      (h : ∀ (i : Nat) (c : AV) (v : Value), cs[i]? = some c → vs[i]? = some v → Rel σ w c v) : Rel σ w (.tuple cs) (.tuple vs)
  | ptr (b off : Nat) : Rel σ w (.ptr b off) (.pointer (some ⟨b, off, none⟩))
  | iptr (row : List AV) (off b base : Nat) (us : Nat → Value)
      (hc : ∀ (j : Nat) (c : AV), row[j]? = some c → rd σ b (base + j) ∧ w.cell? ⟨b, base + j, none⟩ = some (us j))
      (hr : ∀ (j : Nat) (c : AV), row[j]? = some c → Rel σ w c (us j)) : Rel σ w (.iptr row off) (.pointer (some ⟨b, base + off, none⟩))
  | slice (t : Tok) (rows : List (List AV)) (a : Option Addr) (n cap es : Nat) (us : Nat → Value)
      (hn : rows.length = n) (hcap : n ≤ cap) (hes : ∀ r ∈ rows, r.length = es) (ht : tokOK w t a n cap es)
      (hc : ∀ (p : Nat) (c : AV), rows.flatten[p]? = some c → ∃ b off, a = some ⟨b, off, none⟩ ∧ rd σ b (off + p) ∧ w.cell? ⟨b, off + p, none⟩ = some (us p))
      (hr : ∀ (p : Nat) (c : AV), rows.flatten[p]? = some c → Rel σ w c (us p)) : Rel σ w (.slice t rows) (.slice a n cap)
  | func (fn : Fn) (first captured : List AV) (vf vc : Array Value) (hl : first.length = vf.size) (hl' : captured.length = vc.size)
      (h : ∀ (i : Nat) (c : AV) (v : Value), first[i]? = some c → vf[i]? = some v → Rel σ w c v)
      (h' : ∀ (i : Nat) (c : AV) (v : Value), captured[i]? = some c → vc[i]? = some v → Rel σ w c v) : Rel σ w (.func fn first captured) (.func fn vf vc)
  | iface (t : TypeId) (c : AV) (v : Value) (h : Rel σ w c v) : Rel σ w (.iface t c) (.iface t v)
  | mslice (b off n es cap : Nat) (a : Option Addr) (hcap : n ≤ cap ∧ cap ≤ 9223372036854775807)
      (ha : 0 < cap → a = some ⟨b, off, none⟩ ∧ ∃ vs ty, w.heap[b]? = some (.cells vs ty (0, 0)) ∧ off + cap * es ≤ vs.size) : Rel σ w (.mslice b off n es) (.slice a n cap)

/-- keys and values of entries -/
def EntR (σ : Sto) (w : World) (es : List (Value × AV)) (l : List MapEntry) : Prop :=
  es.length = l.length ∧ ∀ (i : Nat) (k : Value) (c : AV) (e : MapEntry), es[i]? = some (k, c) → l[i]? = some e → e.key = k ∧ Rel σ w c e.val

/-- the entries' stamps -/
def Born (l : List MapEntry) (clock : Nat) : Prop := (∀ e ∈ l, e.born < clock) ∧ (l.map (·.born)).Nodup

/-- the record of a range over a function -/
def LoopR (σ : Sto) (w : World) (b : Nat) (fn : FuncId) (ps : Array Tmp) (assign body : Code) (D : Nat) (e : List AV) : Prop :=
  ∃ tmps, w.heap[b]? = some (.loop { state := .ready, pending := none, fn, tmps, params := ps, assign, body, defers := D }) ∧
    e.length = tmps.size ∧ ∀ (i : Nat) (c : AV) (v : Value), e[i]? = some c → tmps[i]? = some v → Rel σ w c v

structure St (σ : Sto) (w : World) : Prop where
  dom : ∀ b o, σ b = some o → b < w.heap.size
  cells : ∀ b cs, σ b = some (.cells cs) → ∃ vs ty, w.heap[b]? = some (.cells vs ty (0, 0)) ∧ cs.length ≤ vs.size ∧
    ∀ (j : Nat) (c : AV) (v : Value), cs[j]? = some c → vs[j]? = some v → Rel σ w c v
  top : ∀ b m, σ b = some (.top m) → ∃ vs ty, w.heap[b]? = some (.cells vs ty (0, 0)) ∧ m ≤ vs.size
  map : ∀ b es, σ b = some (.map es) → ∃ arr clock, w.heap[b]? = some (.map arr clock) ∧ EntR σ w es arr.toList ∧ Born arr.toList clock
  iter : ∀ b last left, σ b = some (.iter last left) → ∃ m seen arr clock, w.heap[b]? = some (.mapIter (some m) clock seen clock) ∧ σ m = none ∧
    w.heap[m]? = some (.map arr clock) ∧ Born arr.toList clock ∧
    EntR σ w left ((arr.filter fun e => !seen.contains e.born).toList) ∧
    ∀ k c, last = some (k, c) → ∃ e ∈ arr.toList, seen.back? = some e.born ∧ e.key = k ∧ Rel σ w c e.val
  loop : ∀ b fn ps assign body D e, σ b = some (.loop fn ps assign body D e) → LoopR σ w b fn ps assign body D e

structure Ext (σ : Sto) (w : World) (σ' : Sto) (w' : World) : Prop where
  size : w.heap.size ≤ w'.heap.size
  keep : ∀ b, b < w.heap.size → σ b = none → w'.heap[b]? = w.heap[b]? ∧ σ' b = none
  top : ∀ b m, σ b = some (.top m) → (∀ off, off < m → w'.cell? ⟨b, off, none⟩ = w.cell? ⟨b, off, none⟩) ∧
    (σ' b = none ∨ ∃ m', m ≤ m' ∧ σ' b = some (.top m'))
  shape : ∀ (b : Nat) (vs : Array Value) (ty : TypeId) (fr : Nat × Nat), w.heap[b]? = some (.cells vs ty fr) → ∃ vs' : Array Value, w'.heap[b]? = some (Obj.cells vs' ty fr) ∧ vs'.size = vs.size
  same : w'.os = w.os ∧ w'.output = w.output

theorem Ext.refl (σ : Sto) (w : World) : Ext σ w σ w :=
  ⟨Nat.le_refl _, fun _ _ h => ⟨rfl, h⟩, fun _ m h => ⟨fun _ _ => rfl, .inr ⟨m, Nat.le_refl _, h⟩⟩, fun _ vs _ _ h => ⟨vs, h, rfl⟩, rfl, rfl⟩

theorem cell_of_block {w w' : World} {b off : Nat} (h : w'.heap[b]? = w.heap[b]?) : w'.cell? ⟨b, off, none⟩ = w.cell? ⟨b, off, none⟩ := by
  simp [World.cell?, h]

theorem lt_of_cell {w : World} {b off : Nat} {v : Value} (h : w.cell? ⟨b, off, none⟩ = some v) : b < w.heap.size := by
  unfold World.cell? at h
  rcases Nat.lt_or_ge b w.heap.size with h' | h'
  · exact h'
  · simp [h'] at h

theorem Ext.trans {σ σ₁ σ₂ : Sto} {w w₁ w₂ : World} (h : Ext σ w σ₁ w₁) (h' : Ext σ₁ w₁ σ₂ w₂) (hd : ∀ b o, σ b = some o → b < w.heap.size) : Ext σ w σ₂ w₂ := by
  refine ⟨Nat.le_trans h.size h'.size, fun b hb hn => ?_, fun b m hm => ?_, fun b vs ty fr hv => ?_, h'.same.1.trans h.same.1, h'.same.2.trans h.same.2⟩
  · obtain ⟨e1, n1⟩ := h.keep b hb hn
    obtain ⟨e2, n2⟩ := h'.keep b (Nat.lt_of_lt_of_le hb h.size) n1
    exact ⟨e2.trans e1, n2⟩
  · obtain ⟨c1, d1⟩ := h.top b m hm
    rcases d1 with d1 | ⟨m', hle, d1⟩
    · obtain ⟨e2, n2⟩ := h'.keep b (Nat.lt_of_lt_of_le (hd _ _ hm) h.size) d1
      exact ⟨fun off ho => (cell_of_block e2).trans (c1 off ho), .inl n2⟩
    · obtain ⟨c2, d2⟩ := h'.top b m' d1
      refine ⟨fun off ho => (c2 off (Nat.lt_of_lt_of_le ho hle)).trans (c1 off ho), ?_⟩
      rcases d2 with d2 | ⟨m2, hle2, d2⟩
      · exact .inl d2
      · exact .inr ⟨m2, Nat.le_trans hle hle2, d2⟩
  · obtain ⟨v1, e1, s1⟩ := h.shape b vs ty fr hv
    obtain ⟨v2, e2, s2⟩ := h'.shape b v1 ty fr e1
    exact ⟨v2, e2, s2.trans s1⟩

theorem rd_ext {σ σ' : Sto} {w w' : World} (h : Ext σ w σ' w') {b off : Nat} {v : Value} (hr : rd σ b off) (hc : w.cell? ⟨b, off, none⟩ = some v) :
    rd σ' b off ∧ w'.cell? ⟨b, off, none⟩ = some v := by
  rcases hr with hn | ⟨m, hm, hlt⟩
  · obtain ⟨e, n⟩ := h.keep b (lt_of_cell hc) hn
    exact ⟨.inl n, (cell_of_block e).trans hc⟩
  · obtain ⟨c, d⟩ := h.top b m hm
    refine ⟨?_, (c off hlt).trans hc⟩
    rcases d with d | ⟨m', hle, d⟩
    · exact .inl d
    · exact .inr ⟨m', d, Nat.lt_of_lt_of_le hlt hle⟩

theorem tokOK_ext {σ σ' : Sto} {w w' : World} (h : Ext σ w σ' w') {t : Tok} {a : Option Addr} {n cap es : Nat} (ht : tokOK w t a n cap es) : tokOK w' t a n cap es := by
  cases t with
  | dead => trivial
  | clip => exact ht
  | live b e =>
    obtain ⟨ha, he, vs, ty, hb, hs⟩ := ht
    obtain ⟨vs', hb', hs'⟩ := h.shape b vs ty _ hb
    exact ⟨ha, he, vs', ty, hb', by omega⟩

theorem Rel.mono {σ σ' : Sto} {w w' : World} (h : Ext σ w σ' w') {x : AV} {v : Value} (hr : Rel σ w x v) : Rel σ' w' x v := by
  induction hr with
  | any v => exact .any v
  | sc v => exact .sc v
  | agg cs vs hl _ ih => exact .agg cs vs hl ih
  | tuple cs vs hl _ ih => exact .tuple cs vs hl ih
  | ptr b off => exact .ptr b off
  | iptr row off b base us hc _ ih => exact .iptr row off b base us (fun j c hj => rd_ext h (hc j c hj).1 (hc j c hj).2) ih
  | slice t rows a n cap es us hn hcap hes ht hc _ ih =>
    exact .slice t rows a n cap es us hn hcap hes (tokOK_ext h ht) (fun p c hp => by
      obtain ⟨b, off, ha, h1, h2⟩ := hc p c hp
      exact ⟨b, off, ha, rd_ext h h1 h2⟩) ih
  | func fn first captured vf vc hl hl' _ _ ih ih' => exact .func fn first captured vf vc hl hl' ih ih'
  | iface t c v _ ih => exact .iface t c v ih
  | mslice b off n es cap a hcap ha =>
    refine .mslice b off n es cap a hcap fun h0 => ?_
    obtain ⟨e, vs, ty, hb, hs⟩ := ha h0
    obtain ⟨vs', hb', hs'⟩ := h.shape b vs ty _ hb
    exact ⟨e, vs', ty, hb', by omega⟩

theorem EntR.mono {σ σ' : Sto} {w w' : World} (h : Ext σ w σ' w') {es : List (Value × AV)} {l : List MapEntry} (hr : EntR σ w es l) : EntR σ' w' es l :=
  ⟨hr.1, fun i k c e h1 h2 => ⟨(hr.2 i k c e h1 h2).1, ((hr.2 i k c e h1 h2).2).mono h⟩⟩

theorem LoopR.mono {σ σ' : Sto} {w w' : World} (h : Ext σ w σ' w') {b : Nat} {fn : FuncId} {ps : Array Tmp} {assign body : Code} {D : Nat} {e : List AV} (hw : w'.heap[b]? = w.heap[b]?) (hr : LoopR σ w b fn ps assign body D e) : LoopR σ' w' b fn ps assign body D e := by
  obtain ⟨tmps, h1, h2, h3⟩ := hr
  exact ⟨tmps, hw.trans h1, h2, fun i c v hc hv => (h3 i c v hc hv).mono h⟩

/-- What is claimed of a block is claimed of it behind a step that leaves the block (and, of a walk, its map) as it was. -/
theorem St.keepAt {σ σ' : Sto} {w w' : World} (hs : St σ w) (h : Ext σ w σ' w') {b : Nat} {o : AObj} (hb : σ b = some o) (hw : w'.heap[b]? = w.heap[b]?) :
    (∀ cs, o = .cells cs → ∃ vs ty, w'.heap[b]? = some (.cells vs ty (0, 0)) ∧ cs.length ≤ vs.size ∧ ∀ (j : Nat) (c : AV) (v : Value), cs[j]? = some c → vs[j]? = some v → Rel σ' w' c v) ∧
    (∀ m, o = .top m → ∃ vs ty, w'.heap[b]? = some (.cells vs ty (0, 0)) ∧ m ≤ vs.size) ∧
    (∀ es, o = .map es → ∃ arr clock, w'.heap[b]? = some (.map arr clock) ∧ EntR σ' w' es arr.toList ∧ Born arr.toList clock) ∧
    (∀ last left, o = .iter last left → ∃ m seen arr clock, w'.heap[b]? = some (.mapIter (some m) clock seen clock) ∧ σ' m = none ∧
      w'.heap[m]? = some (.map arr clock) ∧ Born arr.toList clock ∧
      EntR σ' w' left ((arr.filter fun e => !seen.contains e.born).toList) ∧
      ∀ k c, last = some (k, c) → ∃ e ∈ arr.toList, seen.back? = some e.born ∧ e.key = k ∧ Rel σ' w' c e.val) ∧
    (∀ fn ps assign body D e, o = .loop fn ps assign body D e → LoopR σ' w' b fn ps assign body D e) := by
  refine ⟨fun cs ho => ?_, fun m ho => ?_, fun es ho => ?_, fun last left ho => ?_, fun fn ps assign body D e ho => ?_⟩ <;> subst ho
  · obtain ⟨vs, ty, e, hl, hr⟩ := hs.cells b cs hb
    exact ⟨vs, ty, hw.trans e, hl, fun j c v hc hv => (hr j c v hc hv).mono h⟩
  · obtain ⟨vs, ty, e, hm⟩ := hs.top b m hb
    exact ⟨vs, ty, hw.trans e, hm⟩
  · obtain ⟨arr, clock, e, h1, h2⟩ := hs.map b es hb
    exact ⟨arr, clock, hw.trans e, h1.mono h, h2⟩
  · obtain ⟨m, seen, arr, clock, e, hn, hm, h1, h4, h5⟩ := hs.iter b last left hb
    have hlt : m < w.heap.size := (Array.getElem?_eq_some_iff.1 hm).1
    obtain ⟨k1, k2⟩ := h.keep m hlt hn
    refine ⟨m, seen, arr, clock, hw.trans e, k2, k1.trans hm, h1, h4.mono h, fun k c hk => ?_⟩
    obtain ⟨e0, g1, g2, g3, g4⟩ := h5 k c hk
    exact ⟨e0, g1, g2, g3, g4.mono h⟩
  · exact (hs.loop b fn ps assign body D e hb).mono h hw

/-- A store's claims, block by block: each block that is claimed behind a step either was so ahead of it and lies as it lay, or is told of. -/
theorem St.by_blocks {σ σ' : Sto} {w w' : World} (hs : St σ w) (h : Ext σ w σ' w') (hd : ∀ b o, σ' b = some o → b < w'.heap.size)
    (H : ∀ b o, σ' b = some o → (σ b = some o ∧ w'.heap[b]? = w.heap[b]?) ∨
      (∃ cs, o = .cells cs ∧ ∃ vs ty, w'.heap[b]? = some (.cells vs ty (0, 0)) ∧ cs.length ≤ vs.size ∧ ∀ (j : Nat) (c : AV) (v : Value), cs[j]? = some c → vs[j]? = some v → Rel σ' w' c v) ∨
      (∃ m, o = .top m ∧ ∃ vs ty, w'.heap[b]? = some (.cells vs ty (0, 0)) ∧ m ≤ vs.size) ∨
      (∃ es, o = .map es ∧ ∃ arr clock, w'.heap[b]? = some (.map arr clock) ∧ EntR σ' w' es arr.toList ∧ Born arr.toList clock) ∨
      (∃ last left, o = .iter last left ∧ ∃ m seen arr clock, w'.heap[b]? = some (.mapIter (some m) clock seen clock) ∧ σ' m = none ∧
        w'.heap[m]? = some (.map arr clock) ∧ Born arr.toList clock ∧
        EntR σ' w' left ((arr.filter fun e => !seen.contains e.born).toList) ∧
        ∀ k c, last = some (k, c) → ∃ e ∈ arr.toList, seen.back? = some e.born ∧ e.key = k ∧ Rel σ' w' c e.val) ∨
      (∃ fn ps assign body D e, o = .loop fn ps assign body D e ∧ LoopR σ' w' b fn ps assign body D e)) : St σ' w' := by
  refine ⟨hd, fun b cs hb => ?_, fun b m hb => ?_, fun b es hb => ?_, fun b last left hb => ?_, fun b fn ps assign body D ee hb => ?_⟩ <;> rcases H b _ hb with ⟨h1, h2⟩ | ⟨_, e, h1⟩ | ⟨_, e, h1⟩ | ⟨_, e, h1⟩ | ⟨_, _, e, h1⟩ | ⟨_, _, _, _, _, _, e, h1⟩ <;>
    first
    | (cases e; exact h1)
    | (cases e; done)
    | exact (hs.keepAt h h1 h2).1 _ rfl
    | exact (hs.keepAt h h1 h2).2.1 _ rfl
    | exact (hs.keepAt h h1 h2).2.2.1 _ rfl
    | exact (hs.keepAt h h1 h2).2.2.2.1 _ _ rfl
    | exact (hs.keepAt h h1 h2).2.2.2.2 _ _ _ _ _ _ rfl

/-- A store of fewer claims. -/
def Sub (σ' σ : Sto) : Prop := ∀ b o, σ' b = some o → σ b = some o
theorem Sub.refl (σ : Sto) : Sub σ σ := fun _ _ h => h
theorem Sub.trans {a b c : Sto} (h : Sub a b) (h' : Sub b c) : Sub a c := fun x o hx => h' x o (h x o hx)
theorem Sub.none {σ' σ : Sto} (h : Sub σ' σ) {b : Nat} (hn : σ b = none) : σ' b = none := by
  cases hs : σ' b with
  | none => rfl
  | some o => rw [h b o hs] at hn; cases hn

theorem Sub.ext {σ' σ : Sto} (h : Sub σ' σ) (w : World) : Ext σ w σ' w := by
  refine ⟨Nat.le_refl _, fun b _ hn => ⟨rfl, h.none hn⟩, fun b m hm => ⟨fun _ _ => rfl, ?_⟩, fun _ vs _ _ hv => ⟨vs, hv, rfl⟩, rfl, rfl⟩
  cases hs : σ' b with
  | none => exact .inl rfl
  | some o => have := h b o hs; rw [hm] at this; cases this; exact .inr ⟨m, Nat.le_refl _, rfl⟩

theorem St.sub {σ' σ : Sto} {w : World} (h : St σ w) (hs : Sub σ' σ) : St σ' w :=
  h.by_blocks (hs.ext w) (fun b o hb => h.dom b o (hs b o hb)) fun b o hb => .inl ⟨hs b o hb, rfl⟩

/-! ### Calls -/
def RelL (σ : Sto) (w : World) (cs : List AV) (vs : Array Value) : Prop :=
  cs.length = vs.size ∧ ∀ (i : Nat) (c : AV) (v : Value), cs[i]? = some c → vs[i]? = some v → Rel σ w c v

theorem RelL.mono {σ σ' : Sto} {w w' : World} (h : Ext σ w σ' w') {cs : List AV} {vs : Array Value} (hr : RelL σ w cs vs) : RelL σ' w' cs vs :=
  ⟨hr.1, fun i c v hc hv => (hr.2 i c v hc hv).mono h⟩

def ACalls (P : Program) (f : FuncId) (args : List AV) (σ : Sto) (Q : AV → Sto → Prop) : Prop :=
  ∀ (w : World) (vs : Array Value), St σ w → RelL σ w args vs →
    Calls P f vs w fun e w' => ∃ v r σ', e = .returned v ∧ Q r σ' ∧ St σ' w' ∧ Rel σ' w' r v ∧ Ext σ w σ' w'

theorem ACalls.mono {P : Program} {f : FuncId} {args : List AV} {σ : Sto} {Q Q' : AV → Sto → Prop} (h : ACalls P f args σ Q)
    (hq : ∀ r σ', Q r σ' → Q' r σ') : ACalls P f args σ Q' := fun w vs hs hr =>
  (h w vs hs hr).mono fun _ _ ⟨v, r, σ', he, q, hs', hr', hx⟩ => ⟨v, r, σ', he, hq _ _ q, hs', hr', hx⟩

/-- Claims of the store may be forgotten behind a call. -/
theorem ACalls.drop {P : Program} {f : FuncId} {args : List AV} {σ : Sto} {Q : AV → Sto → Prop}
    (h : ACalls P f args σ fun r σ' => ∃ σ₂, Sub σ₂ σ' ∧ Q r σ₂) : ACalls P f args σ Q := fun w vs hs hr =>
  (h w vs hs hr).mono fun _ w' ⟨v, r, _, he, ⟨σ₂, hsub, q⟩, hs', hr', hx⟩ =>
    ⟨v, r, σ₂, he, q, hs'.sub hsub, hr'.mono (hsub.ext w'), hx.trans (hsub.ext w') hs.dom⟩

/-- a call of yield -/
def AYield (P : Program) (l : Nat) (args : List AV) (σ : Sto) (Q : AV → Sto → Prop) : Prop :=
  ∀ (w : World) (vs : Array Value) (n : Nat), St σ w → RelL σ w args vs →
    YieldAt Fence.wide n P l vs w fun e w' => ∃ v r σ', e = .returned v ∧ Q r σ' ∧ St σ' w' ∧ Rel σ' w' r v ∧ Ext σ w σ' w'
theorem AYield.mono {P : Program} {l : Nat} {args : List AV} {σ : Sto} {Q Q' : AV → Sto → Prop} (h : AYield P l args σ Q)
    (hq : ∀ r σ', Q r σ' → Q' r σ') : AYield P l args σ Q' := fun w vs n hs hr => by
  obtain ⟨fn, tmps, assign, body, h1, h2⟩ := h w vs n hs hr
  exact ⟨fn, tmps, assign, body, h1, h2.mono fun _ _ ⟨v, r, σ', he, q, hs', hr', hx⟩ => ⟨v, r, σ', he, hq _ _ q, hs', hr', hx⟩⟩

/-! ### Frames -/
def MarkAt (N : Nat) (σ : Sto) (w : World) (d : Deferred) : Prop := ∃ b, d = { target := .collected b, args := #[] } ∧ N ≤ b ∧ σ b = none ∧ w.heap[b]? = some (.deferred (some []))
def Marks (N : Nat) (σ : Sto) (w : World) (ds : List Deferred) : Prop := ds.Nodup ∧ ∀ d ∈ ds, MarkAt N σ w d
theorem Marks.mono {N : Nat} {σ σ' : Sto} {w w' : World} (h : Ext σ w σ' w') {ds : List Deferred} (hm : Marks N σ w ds) : Marks N σ' w' ds := ⟨hm.1, fun d hd => by
  obtain ⟨b, h1, h2, h3, h4⟩ := hm.2 d hd
  obtain ⟨k1, k2⟩ := h.keep b (Array.getElem?_eq_some_iff.1 h4).1 h3
  exact ⟨b, h1, h2, k2, k1.trans h4⟩⟩

/-! ### A mark is taken -/
theorem quiet_heap {w : World} {D b : Nat} {o : Obj} (h : b ≠ D) : (w.putObj D o).heap[b]? = w.heap[b]? := World.putObj_heap_other h
/-- an object without cells that no claim but a record's speaks of -/
def Dull : Obj → Prop
  | .deferred _ | .loop _ => True
  | _ => False
theorem quiet_cell {w : World} {D : Nat} {x y : Obj} (hx : Dull x) (hy : Dull y) (hD : w.heap[D]? = some x) (b off : Nat) : (w.putObj D y).cell? ⟨b, off, none⟩ = w.cell? ⟨b, off, none⟩ := by
  by_cases h : b = D
  · subst h
    have h1 := World.putObj_heap_same (w := w) (r := b) (o := y) (Array.getElem?_eq_some_iff.1 hD).1
    cases x <;> cases y <;> simp [Dull] at hx hy <;> simp [World.cell?, h1, hD]
  · exact cell_of_block (quiet_heap h)
theorem Rel.quiet {σ : Sto} {w : World} {D : Nat} {x y : Obj} (hx : Dull x) (hy : Dull y) (hD : w.heap[D]? = some x) {c : AV} {v : Value} (hr : Rel σ w c v) : Rel σ (w.putObj D y) c v := by
  have hb : ∀ (b : Nat) (vs : Array Value) (ty : TypeId), w.heap[b]? = some (Obj.cells vs ty (0, 0)) → (w.putObj D y).heap[b]? = some (Obj.cells vs ty (0, 0)) := fun b vs ty h => by
    have hne : b ≠ D := fun e => by rw [e, hD] at h; cases h; exact hx
    exact (quiet_heap hne).trans h
  induction hr with
  | any v => exact .any v
  | sc v => exact .sc v
  | agg cs vs hl _ ih => exact .agg cs vs hl ih
  | tuple cs vs hl _ ih => exact .tuple cs vs hl ih
  | ptr b off => exact .ptr b off
  | iptr row off b base us hc _ ih => exact .iptr row off b base us (fun j c hj => ⟨(hc j c hj).1, (quiet_cell hx hy hD _ _).trans (hc j c hj).2⟩) ih
  | slice t rows a n cap es us hn hcap hes ht hc _ ih =>
    refine .slice t rows a n cap es us hn hcap hes ?_ (fun p c hp => by
      obtain ⟨b, off, ha, h1, h2⟩ := hc p c hp
      exact ⟨b, off, ha, h1, (quiet_cell hx hy hD _ _).trans h2⟩) ih
    cases t with
    | dead => trivial
    | clip => exact ht
    | live b e =>
      obtain ⟨ha, he, vs, ty, h1, hs⟩ := ht
      exact ⟨ha, he, vs, ty, hb _ _ _ h1, hs⟩
  | func fn first captured vf vc hl hl' _ _ ih ih' => exact .func fn first captured vf vc hl hl' ih ih'
  | iface t c v _ ih => exact .iface t c v ih
  | mslice b off n es cap a hcap ha =>
    refine .mslice b off n es cap a hcap fun h0 => ?_
    obtain ⟨e, vs, ty, h1, hs⟩ := ha h0
    exact ⟨e, vs, ty, hb _ _ _ h1, hs⟩
theorem St.quiet {σ : Sto} {w : World} {D : Nat} {x y : Obj} (hx : Dull x) (hy : Dull y) (hD : w.heap[D]? = some x) (hσ : σ D = none) (hs : St σ w) : St σ (w.putObj D y) := by
  have hb : ∀ (b : Nat) (o : Obj) (c : AObj), σ b = some c → w.heap[b]? = some o → (w.putObj D y).heap[b]? = some o := fun b o c hc h => by
    have hne : b ≠ D := fun e => by rw [e, hσ] at hc; cases hc
    exact (quiet_heap hne).trans h
  refine ⟨fun b o h => by rw [World.putObj_size]; exact hs.dom b o h, fun b cs h => ?_, fun b m h => ?_, fun b es h => ?_, fun b last left h => ?_, fun b fn ps assign body D' e h => ?_⟩
  · obtain ⟨vs, ty, h1, h2, h3⟩ := hs.cells b cs h
    exact ⟨vs, ty, hb _ _ _ h h1, h2, fun j c v hc hv => (h3 j c v hc hv).quiet hx hy hD⟩
  · obtain ⟨vs, ty, h1, h2⟩ := hs.top b m h
    exact ⟨vs, ty, hb _ _ _ h h1, h2⟩
  · obtain ⟨arr, clock, h1, h2, h3⟩ := hs.map b es h
    exact ⟨arr, clock, hb _ _ _ h h1, ⟨h2.1, fun i k c e h1' h2' => ⟨(h2.2 i k c e h1' h2').1, (h2.2 i k c e h1' h2').2.quiet hx hy hD⟩⟩, h3⟩
  · obtain ⟨m, seen, arr, clock, h1, h2, h3, h4, h5, h6⟩ := hs.iter b last left h
    have hne : m ≠ D := fun e => by rw [e, hD] at h3; cases h3; exact hx
    refine ⟨m, seen, arr, clock, hb _ _ _ h h1, h2, (quiet_heap hne).trans h3, h4, ⟨h5.1, fun i k c e h1' h2' => ⟨(h5.2 i k c e h1' h2').1, (h5.2 i k c e h1' h2').2.quiet hx hy hD⟩⟩, fun k c hk => ?_⟩
    obtain ⟨e0, g1, g2, g3, g4⟩ := h6 k c hk
    exact ⟨e0, g1, g2, g3, g4.quiet hx hy hD⟩
  · obtain ⟨tmps, h1, h2, h3⟩ := hs.loop b fn ps assign body D' e h
    exact ⟨tmps, hb _ _ _ h h1, h2, fun i c v hc hv => (h3 i c v hc hv).quiet hx hy hD⟩
theorem Ext.quiet {σ0 σ : Sto} {w0 w : World} {D : Nat} {x y : Obj} (hx' : Dull x) (hy : Dull y) (hD : w.heap[D]? = some x) (hN : w0.heap.size ≤ D) (hx : Ext σ0 w0 σ w) : Ext σ0 w0 σ (w.putObj D y) := by
  refine ⟨by rw [World.putObj_size]; exact hx.size, fun b hb hn => ?_, fun b m hm => ?_, fun b vs ty fr hv => ?_, hx.same⟩
  · obtain ⟨h1, h2⟩ := hx.keep b hb hn
    exact ⟨(quiet_heap (by omega)).trans h1, h2⟩
  · obtain ⟨h1, h2⟩ := hx.top b m hm
    exact ⟨fun off ho => (quiet_cell hx' hy hD _ _).trans (h1 off ho), h2⟩
  · obtain ⟨vs', h1, h2⟩ := hx.shape b vs ty fr hv
    have hne : b ≠ D := fun e => by rw [e, hD] at h1; cases h1; exact hx'
    exact ⟨vs', (quiet_heap hne).trans h1, h2⟩
/-- a block without cells is claimed -/
theorem Rel.claim {σ : Sto} {w : World} {l : Nat} {x : Obj} (hx : Dull x) (hl : w.heap[l]? = some x) (o : AObj) {c : AV} {v : Value} (hr : Rel σ w c v) : Rel (σ.set l o) w c v := by
  have hrd : ∀ (b off : Nat) (u : Value), rd σ b off → w.cell? ⟨b, off, none⟩ = some u → rd (σ.set l o) b off := fun b off u h hc => by
    have hne : b ≠ l := fun e => by
      subst e
      cases x <;> simp [Dull] at hx <;> simp [World.cell?, hl] at hc
    simpa [rd, Sto.set, hne] using h
  induction hr with
  | any v => exact .any v
  | sc v => exact .sc v
  | agg cs vs hl _ ih => exact .agg cs vs hl ih
  | tuple cs vs hl _ ih => exact .tuple cs vs hl ih
  | ptr b off => exact .ptr b off
  | iptr row off b base us hc _ ih => exact .iptr row off b base us (fun j c hj => ⟨hrd _ _ _ (hc j c hj).1 (hc j c hj).2, (hc j c hj).2⟩) ih
  | slice t rows a n cap es us hn hcap hes ht hc _ ih =>
    exact .slice t rows a n cap es us hn hcap hes ht (fun p c hp => by
      obtain ⟨b, off, ha, h1, h2⟩ := hc p c hp
      exact ⟨b, off, ha, hrd _ _ _ h1 h2, h2⟩) ih
  | func fn first captured vf vc hl hl' _ _ ih ih' => exact .func fn first captured vf vc hl hl' ih ih'
  | iface t c v _ ih => exact .iface t c v ih
  | mslice b off n es cap a hcap ha => exact .mslice b off n es cap a hcap ha
theorem St.claim_loop {σ : Sto} {w : World} {l : Nat} {fn : FuncId} {ps : Array Tmp} {assign body : Code} {D : Nat} {e : List AV} (hs : St σ w) (hn : σ l = none) (hr : LoopR σ w l fn ps assign body D e) : St (σ.set l (.loop fn ps assign body D e)) w := by
  obtain ⟨tmps, hl, hlen, hrr⟩ := hr
  have hx : Dull (.loop { state := .ready, pending := none, fn, tmps, params := ps, assign, body, defers := D }) := trivial
  have hne : ∀ (b : Nat) (c : AObj), (σ.set l (.loop fn ps assign body D e)) b = some c → (∀ fn ps assign body D e, c ≠ .loop fn ps assign body D e) → σ b = some c := fun b c h hc => by
    simp only [Sto.set] at h
    split at h
    · cases h; exact absurd rfl (hc _ _ _ _ _ _)
    · exact h
  refine ⟨fun b o h => ?_, fun b cs h => ?_, fun b m h => ?_, fun b es h => ?_, fun b last left h => ?_, fun b fn' ps' assign' body' D' e' h => ?_⟩
  · simp only [Sto.set] at h
    split at h
    · rename_i hb; subst hb; exact (Array.getElem?_eq_some_iff.1 hl).1
    · exact hs.dom b o h
  · obtain ⟨vs, ty, h1, h2, h3⟩ := hs.cells b cs (hne _ _ h (by intros; simp))
    exact ⟨vs, ty, h1, h2, fun j c v hc hv => (h3 j c v hc hv).claim hx hl _⟩
  · exact hs.top b m (hne _ _ h (by intros; simp))
  · obtain ⟨arr, clock, h1, h2, h3⟩ := hs.map b es (hne _ _ h (by intros; simp))
    exact ⟨arr, clock, h1, ⟨h2.1, fun i k c e h1' h2' => ⟨(h2.2 i k c e h1' h2').1, (h2.2 i k c e h1' h2').2.claim hx hl _⟩⟩, h3⟩
  · obtain ⟨m, seen, arr, clock, h1, h2, h3, h4, h5, h6⟩ := hs.iter b last left (hne _ _ h (by intros; simp))
    have hml : m ≠ l := fun e => by rw [e, hl] at h3; cases h3
    refine ⟨m, seen, arr, clock, h1, by simp [Sto.set, hml, h2], h3, h4, ⟨h5.1, fun i k c e h1' h2' => ⟨(h5.2 i k c e h1' h2').1, (h5.2 i k c e h1' h2').2.claim hx hl _⟩⟩, fun k c hk => ?_⟩
    obtain ⟨e0, g1, g2, g3, g4⟩ := h6 k c hk
    exact ⟨e0, g1, g2, g3, g4.claim hx hl _⟩
  · simp only [Sto.set] at h
    split at h
    · rename_i hb
      subst hb
      cases h
      exact ⟨tmps, hl, hlen, fun i c v hc hv => (hrr i c v hc hv).claim hx hl _⟩
    · obtain ⟨tmps', h1, h2, h3⟩ := hs.loop b fn' ps' assign' body' D' e' h
      exact ⟨tmps', h1, h2, fun i c v hc hv => (h3 i c v hc hv).claim hx hl _⟩
def EnvR (N : Nat) (σ : Sto) (w : World) (env : Env) (a : Act) : Prop :=
  env.length = a.tmps.size ∧ Marks N σ w a.defers ∧ ∀ (t : Nat) (c : AV) (v : Value), env[t]? = some c → a.tmps[t]? = some v → Rel σ w c v

theorem EnvR.mono {σ σ' : Sto} {w w' : World} (h : Ext σ w σ' w') {N : Nat} {env : Env} {a : Act} (hr : EnvR N σ w env a) : EnvR N σ' w' env a :=
  ⟨hr.1, hr.2.1.mono h, fun t c v hc hv => (hr.2.2 t c v hc hv).mono h⟩

def put (env : Env) (d : Option Tmp) (r : AV) : Env :=
  match d with
  | some d => env.set d r
  | none => env

theorem EnvR.put {σ : Sto} {w : World} {N : Nat} {env : Env} {a : Act} (h : EnvR N σ w env a) {d : Option Tmp} {r : AV} {v : Value} (hr : Rel σ w r v) :
    EnvR N σ w (put env d r) (a.put d v) := by
  cases d with
  | none => exact h
  | some d =>
    refine ⟨by simp [Aw.put, Act.put, h.1], h.2.1, fun t c u hc hu => ?_⟩
    simp only [Aw.put, Act.put, List.getElem?_set, Array.getElem?_setIfInBounds] at hc hu
    by_cases hd : d = t
    · subst hd
      simp only [if_true] at hc hu
      split at hc <;> split at hu <;> simp_all
    · simp only [hd, if_false] at hc hu
      exact h.2.2 t c u hc hu

/-- A constant. -/
def cv1 : Value → AV
  | .slice none 0 0 => .slice .clip []
  | v => .sc v
def cv : Value → AV
  | .agg cs => .agg (cs.toList.map cv1)
  | v => cv1 v

theorem rel_nil (σ : Sto) (w : World) : Rel σ w (.slice .clip []) (.slice none 0 0) :=
  .slice .clip [] none 0 0 0 (fun _ => undef) rfl (Nat.le_refl _) (by simp) rfl (by simp) (by simp)

theorem rel_cv1 (σ : Sto) (w : World) (v : Value) : Rel σ w (cv1 v) v := by
  unfold cv1
  split
  · exact rel_nil σ w
  · exact .sc v

theorem rel_cv (σ : Sto) (w : World) (v : Value) : Rel σ w (cv v) v := by
  unfold cv
  split
  · rename_i cs
    refine .agg _ _ (by simp) fun i c v hc hv => ?_
    simp only [List.getElem?_map, Array.getElem?_toList, hv, Option.map_some, Option.some.injEq] at hc
    subst hc
    exact rel_cv1 σ w v
  · exact rel_cv1 σ w _

def ev (env : Env) : Operand → AV
  | .tmp t => env.getD t .any
  | .const v => cv v
  | .global g => .ptr g 0
  | .func f => .func (.func f) [] []

theorem rel_ev {σ : Sto} {w : World} {N : Nat} {env : Env} {a : Act} (h : EnvR N σ w env a) (x : Operand) : Rel σ w (ev env x) (a.eval x) := by
  cases x with
  | const v => exact rel_cv σ w v
  | global g => exact .ptr g 0
  | func f => exact .func _ [] [] _ _ rfl rfl (by simp) (by simp)
  | tmp t =>
    simp only [ev, Act.eval]
    cases hc : env[t]? with
    | none => simp [List.getD, hc]; exact .any _
    | some c =>
      have hlt : t < a.tmps.size := by rw [← h.1]; exact (List.getElem?_eq_some_iff.1 hc).1
      have hv : a.tmps[t]? = some a.tmps[t] := by simp [hlt]
      simp only [List.getD, hc, Option.getD_some]
      have := h.2.2 t c _ hc hv
      simpa [Array.getD, hlt] using this

end Go.Aw

/- What each operation does to abstract values, and first laws of the store. -/
set_option linter.unusedSimpArgs false
set_option linter.unusedVariables false
namespace Go.Aw
open Go

/-! ### What the tables say of a type -/
def tyAgg (P : Program) (t : TypeId) : Option Bool := (P.underlying t).map fun | .struct _ => true | .array _ _ => true | _ => false
def tySize (P : Program) (t : TypeId) : Option Nat := (P.info? t).map (·.size)
/-- a slice type's element: its number, cells, bytes -/
def tyElem (P : Program) (t : TypeId) : Option (TypeId × Nat × Nat) :=
  match P.underlying t with
  | some (.slice e) => match P.info? e with
    | some i => match i.zero with
      | some z => if z.cells.size = i.size ∧ 0 < i.size then some (e, i.size, i.bytes) else none
      | none => none
    | none => none
  | _ => none
def tyZero (P : Program) (t : TypeId) : Option (List AV) := (P.info? t).bind fun i => i.zero.map fun z => z.cells.toList.map cv1
/-- a struct's field: type, place, cells -/
def tyField (P : Program) (t : TypeId) (i : Nat) : Option (TypeId × Nat × Nat) :=
  match P.underlying t with
  | some (.struct fs) => match fs[i]? with
    | some f => match P.info? f.type with
      | some j => if j.size = 0 then none else some (f.type, f.offset, j.size)
      | none => none
    | none => none
  | _ => none
/-- a struct's places: offset and cells of each field -/
def tyPlaces (P : Program) (t : TypeId) : Option (List (Nat × Nat)) :=
  match P.underlying t with
  | some (.struct fs) => fs.toList.mapM fun f => (P.info? f.type).map fun j => (f.offset, j.size)
  | _ => none
inductive Kd where
  | int (k : IntKind) | str | bool | ptr | func | iface | map | other
  deriving DecidableEq
def tyKd (P : Program) (t : TypeId) : Option Kd := (P.underlying t).map fun
  | .int k => .int k | .string => .str | .bool => .bool | .pointer _ => .ptr | .func _ _ _ => .func | .interface _ => .iface | .map _ _ => .map | _ => .other

def AV.cells : AV → Option (List AV)
  | .agg cs => some cs
  | .any => none
  | .tuple _ => none
  | .sc (.agg _) => none
  | .sc (.tuple _) => none
  | x => some [x]

/-- of one cell -/
def AV.one : AV → Bool
  | .agg _ => false
  | .any => false
  | .tuple _ => false
  | .sc (.agg _) => false
  | .sc (.tuple _) => false
  | _ => true

theorem AV.one_val {σ : Sto} {w : World} {x : AV} {v : Value} (h : Rel σ w x v) (h1 : x.one = true) : v.oneCell' = true ∧ v.cells = #[v] := by
  cases h <;> first | (simp [AV.one] at h1; done) | exact ⟨rfl, rfl⟩ | skip
  cases v <;> first | (simp [AV.one] at h1; done) | exact ⟨rfl, rfl⟩

theorem AV.cells_val {σ : Sto} {w : World} {x : AV} {v : Value} {cs : List AV} (h : Rel σ w x v) (hc : x.cells = some cs) : RelL σ w cs v.cells := by
  have key : ∀ (x : AV) (v : Value), Rel σ w x v → v.cells = #[v] → cs = [x] → RelL σ w cs v.cells := by
    intro x v hr hv hcs
    subst hcs
    rw [hv]
    refine ⟨rfl, fun i c u hc hu => ?_⟩
    match i, hc, hu with
    | 0, hc, hu => simp at hc hu; subst hc; subst hu; exact hr
    | i + 1, hc, hu => simp at hc
  cases h with
  | any v => simp [AV.cells] at hc
  | tuple => simp [AV.cells] at hc
  | agg cs' vs hl h => simp only [AV.cells, Option.some.injEq] at hc; subst hc; exact ⟨hl, h⟩
  | sc v =>
    cases v <;> first | (simp [AV.cells] at hc; done) | exact key _ _ (.sc _) rfl (by simpa [AV.cells] using hc.symm)
  | ptr b off => exact key _ _ (.ptr b off) rfl (by simpa [AV.cells] using hc.symm)
  | iptr row off b base us h1 h2 => exact key _ _ (.iptr row off b base us h1 h2) rfl (by simpa [AV.cells] using hc.symm)
  | slice t rows a n cap es us h1 h2 h3 h4 h5 h6 => exact key _ _ (.slice t rows a n cap es us h1 h2 h3 h4 h5 h6) rfl (by simpa [AV.cells] using hc.symm)
  | func fn f c vf vc h1 h2 h3 h4 => exact key _ _ (.func fn f c vf vc h1 h2 h3 h4) rfl (by simpa [AV.cells] using hc.symm)
  | mslice b off n es cap a h1 h2 => exact key _ _ (.mslice b off n es cap a h1 h2) rfl (by simpa [AV.cells] using hc.symm)
  | iface t c v h1 => exact key _ _ (.iface t c v h1) rfl (by simpa [AV.cells] using hc.symm)

/-! ### Pieces of lists -/
def asplice (L : List AV) (off : Nat) (cs : List AV) : List AV := L.take off ++ cs ++ L.drop (off + cs.length)

theorem rel_splice {σ : Sto} {w : World} {L : List AV} {vs : Array Value} {off : Nat} {cs : List AV} {us : List Value}
    (h : RelL σ w L vs) (hc : RelL σ w cs us.toArray) (hb : off + cs.length ≤ L.length) :
    RelL σ w (asplice L off cs) (vs.toList.take off ++ us ++ vs.toList.drop (off + us.length)).toArray := by
  have hlu : cs.length = us.length := by simpa using hc.1
  have hlv : L.length = vs.toList.length := by simpa using h.1
  refine ⟨by have h1 := h.1; rw [hlu] at hb; simp [asplice, hlu]; omega, fun i c v hi hv => ?_⟩
  simp only [asplice, List.append_assoc, List.getElem?_append, List.length_take, List.getElem?_take, List.getElem?_drop, List.getElem?_toArray] at hi hv
  rw [← hlu, ← hlv] at hv
  split at hi
  · rename_i h1
    rw [if_pos h1] at hv
    split at hi
    · rename_i h2
      rw [if_pos h2] at hv
      exact h.2 i c v hi (by simpa using hv)
    · cases hi
  · rename_i h1
    rw [if_neg h1] at hv
    split at hi
    · rename_i h2
      rw [if_pos h2] at hv
      exact hc.2 _ c v hi (by simpa using hv)
    · rename_i h2
      rw [if_neg h2] at hv
      exact h.2 _ c v hi (by simpa using hv)

/-- a prefix of a block's cells -/
def RelP (σ : Sto) (w : World) (cs : List AV) (vs : Array Value) : Prop :=
  cs.length ≤ vs.size ∧ ∀ (j : Nat) (c : AV) (v : Value), cs[j]? = some c → vs[j]? = some v → Rel σ w c v
theorem RelL.pre {σ : Sto} {w : World} {cs : List AV} {vs : Array Value} (h : RelL σ w cs vs) : RelP σ w cs vs := ⟨Nat.le_of_eq h.1, h.2⟩
theorem RelP.mono {σ σ' : Sto} {w w' : World} (h : Ext σ w σ' w') {cs : List AV} {vs : Array Value} (hr : RelP σ w cs vs) : RelP σ' w' cs vs :=
  ⟨hr.1, fun i c v hc hv => (hr.2 i c v hc hv).mono h⟩

theorem relP_splice {σ : Sto} {w : World} {L : List AV} {vs : Array Value} {off : Nat} {cs : List AV} {us : List Value}
    (h : RelP σ w L vs) (hc : RelL σ w cs us.toArray) (hb : off + cs.length ≤ L.length) :
    RelP σ w (asplice L off cs) (vs.toList.take off ++ us ++ vs.toList.drop (off + us.length)).toArray := by
  have hlu : cs.length = us.length := by simpa using hc.1
  have hlv : L.length ≤ vs.toList.length := by simpa using h.1
  refine ⟨by have h1 := h.1; rw [hlu] at hb; simp [asplice, hlu]; omega, fun i c v hi hv => ?_⟩
  simp only [asplice, List.append_assoc, List.getElem?_append, List.length_take, List.getElem?_take, List.getElem?_drop, List.getElem?_toArray] at hi hv
  rw [← hlu] at hv
  rw [show min off L.length = off by omega] at hi
  rw [show min off vs.toList.length = off by omega] at hv
  split at hi
  · rename_i h1
    simp only [if_pos h1] at hv hi
    exact h.2 i c v hi (by simpa using hv)
  · rename_i h1
    rw [if_neg h1] at hv
    split at hi
    · rename_i h2
      rw [if_pos h2] at hv
      exact hc.2 _ c v hi (by simpa using hv)
    · rename_i h2
      rw [if_neg h2] at hv
      exact h.2 _ c v hi (by simpa using hv)

/-- the cells that a load takes -/
def loadAV (P : Program) (t : TypeId) (cs : List AV) (off : Nat) : Option AV :=
  match tyAgg P t with
  | some true => match tySize P t with
    | some n => if off + n ≤ cs.length then some (.agg ((cs.drop off).take n)) else none
    | none => none
  | some false => cs[off]?
  | none => none

/-! ### Operations -/
def aAlloc (cs : Option (List AV)) (σ : Sto) (k : AV → Sto → Prop) : Prop :=
  match cs with
  | some cs => ∀ b, σ b = none → k (.ptr b 0) (σ.set b (.cells cs))
  | none => False

def afill (places : Nat → Option (Nat × Nat)) (cells : List AV) : List (Nat × AV) → Option (List AV)
  | [] => some cells
  | (i, x) :: rest =>
    match places i, x.cells with
    | some (off, size), some cs => if cs.length = size ∧ off + cs.length ≤ cells.length then afill places (asplice cells off cs) rest else none
    | _, _ => none

def aBuild (P : Program) (t : TypeId) (parts : List (Nat × AV)) (σ : Sto) (k : AV → Sto → Prop) : Prop :=
  match tyPlaces P t, tyZero P t with
  | some pl, some z => match afill (pl[·]?) z parts with
    | some cs => k (.agg cs) σ
    | none => False
  | _, _ => False

def chunk (es : Nat) (flat : List AV) : Nat → List (List AV)
  | 0 => []
  | n + 1 => flat.take es :: chunk es (flat.drop es) n

def zeros (z : List AV) : Nat → List AV
  | 0 => []
  | n + 1 => z ++ zeros z n

def aBuildSlice (P : Program) (t : TypeId) (n : Nat) (parts : List (Nat × AV)) (σ : Sto) (k : AV → Sto → Prop) : Prop :=
  match tyElem P t with
  | some (e, es, _) => match tyZero P e with
    | some z => n * es ≤ 1000 ∧ match afill (fun i => some (i * es, es)) (zeros z n) parts with
      | some cs => k (.slice .clip (chunk es cs n)) σ
      | none => False
    | none => False
  | none => False

def aLoad (P : Program) (t : TypeId) (x : AV) (σ : Sto) (k : AV → Sto → Prop) : Prop :=
  match x with
  | .ptr b off => match σ b with
    | some (.cells cs) => match loadAV P t cs off with
      | some r => k r σ
      | none => False
    | _ => False
  | .iptr row off => match loadAV P t row off with
    | some r => k r σ
    | none => False
  | _ => False

def aStore (P : Program) (t : TypeId) (a x : AV) (σ : Sto) (k : AV → Sto → Prop) : Prop :=
  match a with
  | .ptr b off => match σ b, x.cells, tySize P t with
    | some (.cells cs), some xs, some n => xs.length = n ∧ xs.all AV.one = true ∧ off + n ≤ cs.length ∧ k .any (σ.set b (.cells (asplice cs off xs)))
    | _, _, _ => False
  | _ => False

def aNil (x : AV) (σ : Sto) (k : AV → Sto → Prop) : Prop :=
  match x with
  | .ptr b o => k (.ptr b o) σ
  | .iptr r o => k (.iptr r o) σ
  | .func (.func f) a c => k (.func (.func f) a c) σ
  | .iface t x => k (.iface t x) σ
  | _ => False

def scInt (op : BinOp) (k : IntKind) (a b : Int) : Option (Value × Bool) :=
  match op with
  | .add => some (.int k (k.wrap (a + b)), true)
  | .sub => some (.int k (k.wrap (a - b)), true)
  | .mul => some (.int k (k.wrap (a * b)), true)
  | .quo => some (.int k (k.wrap (a.tdiv b)), false)
  | .rem => some (.int k (a.tmod b), false)
  | .eql => some (.bool (decide (a = b)), true)
  | .neq => some (.bool (!decide (a = b)), true)
  | .lss => some (.bool (decide (a < b)), true)
  | .leq => some (.bool (decide (a ≤ b)), true)
  | .gtr => some (.bool (decide (b < a)), true)
  | .geq => some (.bool (decide (b ≤ a)), true)
  | .and => some (.int k (k.wrap (BitVec.ofInt k.bits a &&& BitVec.ofInt k.bits b).toNat), true)
  | .or => some (.int k (k.wrap (BitVec.ofInt k.bits a ||| BitVec.ofInt k.bits b).toNat), true)
  | .xor => some (.int k (k.wrap (BitVec.ofInt k.bits a ^^^ BitVec.ofInt k.bits b).toNat), true)
  | _ => none

/-- a shift to the right, the count of whatever kind -/
def aShr (x y : AV) (σ : Sto) (k : AV → Sto → Prop) : Prop :=
  match x, y with
  | .sc (.int ka a), .sc (.int _ b) => (0 ≤ b ∧ b ≤ ka.bits) ∧ k (.sc (.int ka (a / 2 ^ b.toNat))) σ
  | _, _ => False

def scStr (op : BinOp) (a b : ByteArray) : Option Value :=
  match op with
  | .eql => some (.bool (decide (a = b)))
  | .neq => some (.bool (!decide (a = b)))
  | .lss => some (.bool (Op.bytesLess a.toList b.toList))
  | .geq => some (.bool (!Op.bytesLess a.toList b.toList))
  | _ => none

/-- a struct's fields that are numbers, bools and strings: places and kinds -/
def eqFs (P : Program) : List Field → Option (List (Nat × Kd))
  | [] => some []
  | f :: fs => if f.name = "_" then none else match tyKd P f.type, eqFs P fs with
    | some (.int k), some l => some ((f.offset, .int k) :: l)
    | some .bool, some l => some ((f.offset, .bool) :: l)
    | some .str, some l => some ((f.offset, .str) :: l)
    | _, _ => none
def tyEq (P : Program) (t : TypeId) : Option (List (Nat × Kd)) :=
  match P.underlying t with
  | some (.struct fs) => if P.stoodInHeld t = false ∧ P.eqGuardType P.depth t = false then eqFs P fs.toList else none
  | _ => none

def eqCell : Kd → AV → AV → Option Bool
  | .int _, .sc (.int k a), .sc (.int k' b) => if k = k' then some (decide (a = b)) else none
  | .bool, .sc (.bool a), .sc (.bool b) => some (a == b)
  | .str, .sc (.string a), .sc (.string b) => some (decide (a = b))
  | _, _, _ => none

def eqCells (xs ys : List AV) : List (Nat × Kd) → Option Bool
  | [] => some true
  | (o, d) :: l => match xs[o]?, ys[o]? with
    | some x, some y => match eqCell d x y, eqCells xs ys l with
      | some a, some b => some (a && b)
      | _, _ => none
    | _, _ => none

/-- equality where one side is nil -/
def aEq (P : Program) (t : TypeId) (lit : Bool) (x y : AV) : Option Bool :=
  match tyKd P t, x, y with
  | some .bool, .sc (.bool a), .sc (.bool b) => some (a == b)
  | some .ptr, .ptr _ _, .sc (.pointer none) => some false
  | some .ptr, .iptr _ _, .sc (.pointer none) => some false
  | some .ptr, .sc (.pointer none), .sc (.pointer none) => some true
  | some .map, .sc (.map (some _)), .sc (.map none) => some false
  | some .map, .sc (.map none), .sc (.map none) => some true
  | some .func, .func _ _ _, .sc .nilFunc => some false
  | some .func, .sc .nilFunc, .sc .nilFunc => some true
  | some .iface, .iface _ _, .sc .nilIface => some false
  | some .other, .agg xs, .agg ys => match tyEq P t with
    | some l => eqCells xs ys l
    | none => none
  | some .iface, .sc (.iface _ _), .sc .nilIface => some false
  | some .iface, .sc .nilIface, .sc .nilIface => if lit = true then some true else none
  | _, _, _ => none

def aBin (P : Program) (op : BinOp) (t : TypeId) (lit : Bool) (x y : AV) (σ : Sto) (k : AV → Sto → Prop) : Prop :=
  match x, y with
  | .sc (.int ka a), .sc (.int kb b) => ka = kb ∧ match scInt op ka a b with
    | some (v, true) => k (.sc v) σ
    | some (v, false) => b ≠ 0 ∧ k (.sc v) σ
    | none => False
  | .sc (.string a), .sc (.string b) => match op with
    | .add => a.size + b.size ≤ 4611686018427387904 ∧ k (.sc (.string (a ++ b))) σ
    | _ => match scStr op a b with
      | some v => k (.sc v) σ
      | none => False
  | x, y => match op with
    | .eql => match aEq P t lit x y with
      | some r => k (.sc (.bool r)) σ
      | none => False
    | .neq => match aEq P t lit x y with
      | some r => k (.sc (.bool !r)) σ
      | none => False
    | _ => False

def isLit : Operand → Bool
  | .const _ => true
  | _ => false

def isNil : Operand → Bool
  | .const (.slice none 0 0) => true
  | _ => false

/-- a slice against nil: nobody knows of an empty one -/
def aNilEq (P : Program) (op : BinOp) (t : TypeId) (x : AV) (σ : Sto) (k : AV → Sto → Prop) : Prop :=
  match x, op with
  | .slice _ rows, .eql => (tyElem P t).isSome = true ∧ ∀ b : Bool, (b = true → rows.flatten = []) → k (.sc (.bool b)) σ
  | .slice _ rows, .neq => (tyElem P t).isSome = true ∧ ∀ b : Bool, (b = true → rows.flatten = []) → k (.sc (.bool (!b))) σ
  | _, _ => False

def aUn (op : UnOp) (x : AV) (σ : Sto) (k : AV → Sto → Prop) : Prop :=
  match op, x with
  | .not, .sc (.bool b) => k (.sc (.bool !b)) σ
  | .neg, .sc (.int ki n) => k (.sc (.int ki (ki.wrap (0 - n)))) σ
  | _, _ => False

/-- a row of one byte -/
def rowByte : List AV → Option UInt8
  | [.sc (.int .u8 n)] => if 0 ≤ n ∧ n < 256 then some (UInt8.ofNat n.toNat) else none
  | _ => none
def rowsBytes : List (List AV) → Option (List UInt8)
  | [] => some []
  | r :: l => match rowByte r, rowsBytes l with
    | some b, some bs => some (b :: bs)
    | _, _ => none
/-- a slice of bytes -/
def tyBytes (P : Program) (t : TypeId) : Bool := match P.underlying t with
  | some (.slice e) => match P.underlying e with
    | some (.int .u8) => true
    | _ => false
  | _ => false

def aConv (P : Program) (s d : TypeId) (x : AV) (σ : Sto) (k : AV → Sto → Prop) : Prop :=
  (tyKd P s).isSome = true ∧ match tyKd P d, x with
  | some (.int ki), .sc (.int _ n) => k (.sc (.int ki (ki.wrap n))) σ
  | some .str, .sc (.string b) => k (.sc (.string b)) σ
  | some .str, .slice _ rows => tyBytes P s = true ∧ match rowsBytes rows with
    | some bs => k (.sc (.string ⟨bs.toArray⟩)) σ
    | none => False
  | _, _ => False

def oInt : Option AV → Option (Option Int)
  | none => some none
  | some (.sc (.int _ n)) => some (some n)
  | _ => none

def aSlice (P : Program) (t : TypeId) (x : AV) (lo hi mx : Option AV) (σ : Sto) (k : AV → Sto → Prop) : Prop :=
  match x with
  | .slice tok rows => match tyElem P t, oInt lo, oInt hi, oInt mx with
    | some (_, es, _), some lo, some hi, some mx =>
      let l := lo.getD 0
      let h := hi.getD rows.length
      (0 ≤ l ∧ l ≤ h ∧ h ≤ rows.length ∧ (match mx with | some m => m = h ∧ hi.isSome = true | none => True) ∧ ∀ r ∈ rows, r.length = es) ∧
      k (.slice (match mx, hi, tok with | some _, _, _ => .clip | none, none, .clip => .clip | _, _, _ => .dead) ((rows.take h.toNat).drop l.toNat)) σ
    | _, _, _, _ => False
  | .sc (.string s) => tyKd P t = some .str ∧ match oInt lo, oInt hi, mx with
    | some lo, some hi, none =>
      let l := lo.getD 0
      let h := hi.getD s.size
      (0 ≤ l ∧ l ≤ h ∧ h ≤ s.size) ∧ k (.sc (.string (s.extract l.toNat h.toNat))) σ
    | _, _, _ => False
  | _ => False

def aFieldAddr (P : Program) (s : TypeId) (x : AV) (f : Nat) (σ : Sto) (k : AV → Sto → Prop) : Prop :=
  match tyField P s f with
  | some (_, off, _) => match x with
    | .ptr b o => k (.ptr b (o + off)) σ
    | .iptr r o => k (.iptr r (o + off)) σ
    | _ => False
  | none => False

def aField (P : Program) (s : TypeId) (x : AV) (f : Nat) (σ : Sto) (k : AV → Sto → Prop) : Prop :=
  match tyField P s f, x with
  | some (t, off, _), .agg cs => match loadAV P t cs off with
    | some r => k r σ
    | none => False
  | _, _ => False

def aIndexAddr (P : Program) (t : TypeId) (x i : AV) (σ : Sto) (k : AV → Sto → Prop) : Prop :=
  match tyElem P t, x, i with
  | some (_, es, _), .slice _ rows, .sc (.int _ n) => 0 ≤ n ∧ match rows[n.toNat]? with
    | some r => r.length = es ∧ k (.iptr r 0) σ
    | none => False
  | _, _, _ => False

def aIndex (P : Program) (t : TypeId) (x i : AV) (σ : Sto) (k : AV → Sto → Prop) : Prop :=
  match x, i with
  | .sc (.string s), .sc (.int _ n) => tyKd P t = some .str ∧ 0 ≤ n ∧ match s.data.toList[n.toNat]? with
    | some b => k (.sc (.int .u8 b.toNat)) σ
    | none => False
  | _, _ => False

def aExtract (x : AV) (i : Nat) (σ : Sto) (k : AV → Sto → Prop) : Prop :=
  match x with
  | .tuple vs => match vs[i]? with
    | some r => k r σ
    | none => False
  | _ => False

/-! ### Arrays, slices that are written, maps -/
/-- the types whose slices are written: their slices are 'mslice' -/
def mutT : List TypeId := [62, 234, 220]
def isMut (t : TypeId) : Bool := mutT.contains t

/-- an array type: how many, an element's type and cells -/
def tyArr (P : Program) (t : TypeId) : Option (Nat × TypeId × Nat) :=
  match P.underlying t with
  | some (.array n e) => match P.info? e with
    | some i => some (n, e, i.size)
    | none => none
  | _ => none
def aBuildA (P : Program) (t : TypeId) (parts : List (Nat × AV)) (σ : Sto) (k : AV → Sto → Prop) : Prop :=
  match tyArr P t, tyZero P t with
  | some (_, _, es), some z => match afill (fun i => some (i * es, es)) z parts with
    | some cs => k (.agg cs) σ
    | none => False
  | _, _ => False
def aIndexAddrA (P : Program) (t : TypeId) (x i : AV) (σ : Sto) (k : AV → Sto → Prop) : Prop :=
  match tyArr P t, x, i with
  | some (n, _, es), .ptr b o, .sc (.int _ j) => (0 ≤ j ∧ j < n) ∧ k (.ptr b (o + j.toNat * es)) σ
  | _, _, _ => False
def aIndexA (P : Program) (t : TypeId) (x i : AV) (σ : Sto) (k : AV → Sto → Prop) : Prop :=
  match tyArr P t, x, i with
  | some (n, e, es), .agg cs, .sc (.int _ j) => (0 ≤ j ∧ j < n) ∧ match loadAV P e cs (j.toNat * es) with
    | some r => k r σ
    | none => False
  | _, _, _ => False

def aMakeSlice (P : Program) (t : TypeId) (l c : AV) (σ : Sto) (k : AV → Sto → Prop) : Prop :=
  match tyElem P t, l, c with
  | some (e, es, bytes), .sc (.int _ n), .sc (.int _ m) => match tyZero P e with
    | some z => n = m ∧ 0 ≤ n ∧ n ≤ 1073741824 ∧ bytes ≤ 4096 ∧ ∀ b, σ b = none → k (.mslice b 0 n.toNat es) (σ.set b (.cells (zeros z n.toNat)))
    | none => False
  | _, _, _ => False
def aBuildSliceM (P : Program) (t : TypeId) (n : Nat) (parts : List (Nat × AV)) (σ : Sto) (k : AV → Sto → Prop) : Prop :=
  match tyElem P t with
  | some (e, es, _) => match tyZero P e with
    | some z => n * es ≤ 1000 ∧ match afill (fun i => some (i * es, es)) (zeros z n) parts with
      | some cs => ∀ b, σ b = none → k (.mslice b 0 n es) (σ.set b (.cells cs))
      | none => False
    | none => False
  | none => False
def aIndexAddrM (P : Program) (t : TypeId) (x i : AV) (σ : Sto) (k : AV → Sto → Prop) : Prop :=
  match tyElem P t, x, i with
  | some (_, es, _), .mslice b off n es', .sc (.int _ j) => es' = es ∧ (0 ≤ j ∧ j < n) ∧ k (.ptr b (off + j.toNat * es)) σ
  | _, _, _ => False
def aSliceM (P : Program) (t : TypeId) (x : AV) (lo hi mx : Option AV) (σ : Sto) (k : AV → Sto → Prop) : Prop :=
  match tyElem P t, x, oInt lo, hi, mx with
  | some (_, es, _), .mslice b off n es', some lo, none, none => es' = es ∧ (0 ≤ lo.getD 0 ∧ lo.getD 0 ≤ n) ∧ k (.mslice b (off + (lo.getD 0).toNat * es) (n - (lo.getD 0).toNat) es) σ
  | _, _, _, _, _ => False
def aAppendM (P : Program) (t u : TypeId) (x y : AV) (σ : Sto) (k : AV → Sto → Prop) : Prop :=
  match tyElem P t, y with
  | some (_, es, bytes), .mslice b2 o2 n2 es2 => t = u ∧ bytes ≤ 4096 ∧ es2 = es ∧ o2 = 0 ∧ 0 < n2 ∧ match σ b2 with
    | some (.cells cs2) => cs2.length = n2 * es ∧ cs2.all AV.one = true ∧ match x with
      | .slice .clip [] => n2 ≤ 1073741824 ∧ ∀ b', σ b' = none → k (.mslice b' 0 n2 es) (σ.set b' (.cells cs2))
      | .mslice b off n es1 => es1 = es ∧ n + n2 ≤ 1073741824 ∧ b ≠ b2 ∧ match σ b with
        | some (.cells cs) => cs.length = off + n * es ∧ cs.all AV.one = true ∧ k (.mslice b off (n + n2) es) (σ.set b (.cells (cs ++ cs2))) ∧
          ∀ b', σ b' = none → k (.mslice b' 0 (n + n2) es) (σ.set b' (.cells (cs.drop off ++ cs2)))
        | _ => False
      | _ => False
    | _ => False
  | _, _ => False

/-- a map type: its keys' kind, its elements' zero -/
def tyMap (P : Program) (t : TypeId) : Option (Kd × TypeId) :=
  match P.underlying t with
  | some (.map k e) => match tyKd P k with
    | some (.int i) => some (.int i, e)
    | some .str => some (.str, e)
    | _ => none
  | _ => none
/-- a key's value -/
def keyV (d : Kd) : AV → Option Value
  | .sc (.int i n) => if d = .int i then some (.int i n) else none
  | .sc (.string s) => if d = .str then some (.string s) else none
  | _ => none
def valEq : Value → Value → Bool
  | .int i a, .int j b => decide (i = j) && decide (a = b)
  | .string a, .string b => decide (a = b)
  | _, _ => false
def mget : List (Value × AV) → Value → Option AV
  | [], _ => none
  | e :: es, k => if valEq k e.1 = true then some e.2 else mget es k
def mput : List (Value × AV) → Value → AV → List (Value × AV)
  | [], k, x => [(k, x)]
  | e :: es, k, x => if valEq k e.1 = true then (e.1, x) :: es else e :: mput es k x
def mdel : List (Value × AV) → Value → List (Value × AV)
  | [], _ => []
  | e :: es, k => if valEq k e.1 = true then es else e :: mdel es k
/-- keys of the kind -/
def keysOK (d : Kd) (es : List (Value × AV)) : Prop := ∀ e ∈ es, (keyV d (.sc e.1)).isSome = true

def zeroAV (P : Program) (t : TypeId) : Option AV := (P.info? t).bind fun i => i.zero.map cv

def aMakeMap (P : Program) (t : TypeId) (σ : Sto) (k : AV → Sto → Prop) : Prop := ∀ b, σ b = none → k (.sc (.map (some b))) (σ.set b (.map []))
def aLookup (P : Program) (t : TypeId) (x i : AV) (ok : Bool) (σ : Sto) (k : AV → Sto → Prop) : Prop :=
  match tyMap P t, x with
  | some (d, e), .sc (.map (some b)) => match σ b, keyV d i, zeroAV P e with
    | some (.map es), some key, some z => keysOK d es ∧ match mget es key with
      | some c => k (if ok = true then .tuple [c, .sc (.bool true)] else c) σ
      | none => k (if ok = true then .tuple [z, .sc (.bool false)] else z) σ
    | _, _, _ => False
  | _, _ => False
def aMapUpdate (P : Program) (t : TypeId) (x i y : AV) (σ : Sto) (k : AV → Sto → Prop) : Prop :=
  match tyMap P t, x with
  | some (d, _), .sc (.map (some b)) => match σ b, keyV d i with
    | some (.map es), some key => keysOK d es ∧ k .any (σ.set b (.map (mput es key y)))
    | _, _ => False
  | _, _ => False
def aDelete (P : Program) (t : TypeId) (x i : AV) (σ : Sto) (k : AV → Sto → Prop) : Prop :=
  match tyMap P t, x with
  | some (d, _), .sc (.map (some b)) => match σ b, keyV d i with
    | some (.map es), some key => keysOK d es ∧ k (.tuple []) (σ.set b (.map (mdel es key)))
    | _, _ => False
  | _, _ => False
def aClear (P : Program) (t : TypeId) (x : AV) (σ : Sto) (k : AV → Sto → Prop) : Prop :=
  match tyMap P t, x with
  | some _, .sc (.map (some b)) => match σ b with
    | some (.map _) => k (.tuple []) (σ.set b (.map []))
    | _ => False
  | _, _ => False
def aRange (P : Program) (t : TypeId) (x : AV) (σ : Sto) (k : AV → Sto → Prop) : Prop :=
  match tyMap P t, x with
  | some _, .sc (.map (some b)) => match σ b with
    | some (.map es) => ∀ b', σ b' = none → k (.ptr b' 0) ((σ.del b).set b' (.iter none es))
    | _ => False
  | _, _ => False
def aNext (x : AV) (isStr : Bool) (σ : Sto) (k : AV → Sto → Prop) : Prop :=
  match x, isStr with
  | .ptr b 0, false => match σ b with
    | some (.iter last left) => (left = [] → k (.tuple [.sc (.bool false)]) σ) ∧
      ∀ (i : Nat) (key : Value) (c : AV), left[i]? = some (key, c) → k (.tuple [.sc (.bool true), .sc key, c]) (σ.set b (.iter (some (key, c)) (left.eraseIdx i)))
    | _ => False
  | _, _ => False
def aEntry (x : AV) (σ : Sto) (k : AV → Sto → Prop) : Prop :=
  match x with
  | .ptr b 0 => match σ b with
    | some (.iter (some (key, c)) _) => k (.tuple [.sc key, c]) σ
    | _ => False
  | _ => False

/-- a method of a pointer type: its function -/
def tyMeth (P : Program) (t : TypeId) (name : String) : Option FuncId :=
  match P.info? t, P.underlying t with
  | some i, some (.pointer _) => match i.methods.find? (·.name == name) with
    | some m => if m.path.isEmpty = true then match m.func with
      | some (f, true) => some f
      | _ => none
      else none
    | none => none
  | _, _ => none

def callable (P : Program) (f : FuncId) : Bool :=
  match P.funcs[f]? with
  | some fn => fn.body.isSome && !(fn.name == "runtime.NumGoroutine")
  | none => false

def tokDel (σ : Sto) : Tok → Sto
  | .live b _ => σ.del b
  | _ => σ

def aAppend (P : Program) (t u : TypeId) (x y : AV) (σ : Sto) (k : AV → Sto → Prop) : Prop :=
  match tyElem P t, x, y with
  | some (_, es, bytes), .slice tok rows, .slice _ ys =>
    t = u ∧ bytes ≤ 4096 ∧ rows.length + ys.length ≤ 1073741824 ∧ (∀ r ∈ rows, r.length = es) ∧ (∀ r ∈ ys, r.length = es) ∧
    (∀ r ∈ ys, r.all AV.one = true) ∧
    (match tok with
      | .dead => False
      | .clip => True
      | .live b e => e = es ∧ σ b = some (.top (rows.length * es))) ∧
    (tok = .clip → ys = [] → k (.slice .clip rows) σ) ∧
    (∀ b', (tok = .live b' es ∨ σ b' = none ∧ ys ≠ []) → k (.slice (.live b' es) (rows ++ ys)) ((tokDel σ tok).set b' (.top ((rows.length + ys.length) * es))))
  | _, _, _ => False

def aBuiltin (P : Program) (b : Builtin) (ts : List TypeId) (args : List AV) (σ : Sto) (k : AV → Sto → Prop) : Prop :=
  match b, ts, args with
  | .len, [t], [.slice _ rows] => (tyElem P t).isSome = true ∧ k (.sc (.int .i64 rows.length)) σ
  | .len, [t], [.sc (.string s)] => tyKd P t = some .str ∧ k (.sc (.int .i64 s.size)) σ
  | .min, _, [.sc (.int ki a), .sc (.int _ b)] => k (.sc (.int ki (if b < a then b else a))) σ
  | .max, _, [.sc (.int ki a), .sc (.int _ b)] => k (.sc (.int ki (if a < b then b else a))) σ
  | .append, [t, u], [x, y] => if isMut t = true then aAppendM P t u x y σ k else aAppend P t u x y σ k
  | .delete, [t, _], [x, y] => aDelete P t x y σ k
  | .clear, [t], [x] => aClear P t x σ k
  | .len, [t], [.mslice _ _ n _] => (tyElem P t).isSome = true ∧ k (.sc (.int .i64 n)) σ
  | _, _, _ => False

def aCall (P : Program) (env : Env) (c : Call) (σ : Sto) (k : AV → Sto → Prop) : Prop :=
  match c.callee with
  | .builtin b => aBuiltin P b c.argTypes.toList (c.args.toList.map (ev env)) σ k
  | .value f => match ev env f with
    | .func (.func id) first captured => callable P id = true ∧ ACalls P id (first ++ c.args.toList.map (ev env) ++ captured) σ k
    | .func (.method name) [.iface t x] [] => match tyMeth P t name with
      | some id => callable P id = true ∧ ACalls P id (x :: c.args.toList.map (ev env)) σ k
      | none => False
    | .func (.yield l) [] [] => AYield P l (c.args.toList.map (ev env)) σ k
    | _ => False
  | .invoke x name => match ev env x with
    | .iface t x => match tyMeth P t name with
      | some id => callable P id = true ∧ ACalls P id (x :: c.args.toList.map (ev env)) σ k
      | none => False
    | _ => False

def aop (P : Program) (o : Oper) (env : Env) (σ : Sto) (k : AV → Sto → Prop) : Prop :=
  match o.op with
  | .move x => k (ev env x) σ
  | .assign x => k (ev env x) σ
  | .pick c a b => match ev env c with
    | .sc (.bool t) => k (if t = true then ev env a else ev env b) σ
    | _ => False
  | .alloc t => aAlloc (tyZero P t) σ k
  | .box _ x => aAlloc (ev env x).cells σ k
  | .build t parts => if (tyArr P t).isSome = true then aBuildA P t (parts.toList.map fun p => (p.1, ev env p.2)) σ k else aBuild P t (parts.toList.map fun p => (p.1, ev env p.2)) σ k
  | .buildSlice t n parts => if isMut t = true then aBuildSliceM P t n (parts.toList.map fun p => (p.1, ev env p.2)) σ k else aBuildSlice P t n (parts.toList.map fun p => (p.1, ev env p.2)) σ k
  | .load t a => aLoad P t (ev env a) σ k
  | .store t a x => aStore P t (ev env a) (ev env x) σ k
  | .nilCheck x => aNil (ev env x) σ k
  | .binOp op t x y _ => if op = .shr then aShr (ev env x) (ev env y) σ k else if isNil y = true then aNilEq P op t (ev env x) σ k else aBin P op t (isLit x || isLit y) (ev env x) (ev env y) σ k
  | .unOp op _ x => aUn op (ev env x) σ k
  | .convert s d x => aConv P s d (ev env x) σ k
  | .makeInterface t x => tyKd P t ≠ none ∧ tyKd P t ≠ some .iface ∧ k (.iface t (ev env x)) σ
  | .makeFunc fn first cap => k (.func fn (first.toList.map (ev env)) (cap.toList.map (ev env))) σ
  | .slice t x lo hi mx => if isMut t = true then aSliceM P t (ev env x) (lo.map (ev env)) (hi.map (ev env)) (mx.map (ev env)) σ k else aSlice P t (ev env x) (lo.map (ev env)) (hi.map (ev env)) (mx.map (ev env)) σ k
  | .fieldAddr s x f => aFieldAddr P s (ev env x) f σ k
  | .field s x f => aField P s (ev env x) f σ k
  | .indexAddr t x i => if isMut t = true then aIndexAddrM P t (ev env x) (ev env i) σ k else if (tyArr P t).isSome = true then aIndexAddrA P t (ev env x) (ev env i) σ k else aIndexAddr P t (ev env x) (ev env i) σ k
  | .index t x i => if (tyArr P t).isSome = true then aIndexA P t (ev env x) (ev env i) σ k else aIndex P t (ev env x) (ev env i) σ k
  | .extract x i => aExtract (ev env x) i σ k
  | .call c => aCall P env c σ k
  | .makeSlice t l c => aMakeSlice P t (ev env l) (ev env c) σ k
  | .makeMap t r => r = none ∧ aMakeMap P t σ k
  | .lookup t x i ok => aLookup P t (ev env x) (ev env i) ok σ k
  | .mapUpdate t m i x => aMapUpdate P t (ev env m) (ev env i) (ev env x) σ k
  | .range t x => aRange P t (ev env x) σ k
  | .next x s => aNext (ev env x) s σ k
  | .entry x => aEntry (ev env x) σ k
  | _ => False

/-! ### Soundness -/
/-- What an operation's abstract step promises. -/
def OpOK (P : Program) (o : Oper) (σ : Sto) (w : World) (a : Act) (k : AV → Sto → Prop) : Prop :=
  ∃ (v : Value) (r : AV) (σ' : Sto) (w' : World), ((execOp a.eval o).run P w = .ok (.value v) w' ∨ ((execOp a.eval o).run P w = .ok .skip w' ∧ v = undef)) ∧
    k r σ' ∧ St σ' w' ∧ Rel σ' w' r v ∧ Ext σ w σ' w'

theorem OpOK.same {P : Program} {o : Oper} {σ : Sto} {w : World} {a : Act} {k : AV → Sto → Prop} {v : Value} {r : AV} (hs : St σ w)
    (h : (execOp a.eval o).run P w = .ok (.value v) w) (hr : Rel σ w r v) (hk : k r σ) : OpOK P o σ w a k :=
  ⟨v, r, σ, w, .inl h, hk, hs, hr, Ext.refl σ w⟩

/-- A new block. -/
theorem St.new {σ : Sto} {w : World} (hs : St σ w) : σ w.heap.size = none := by
  cases h : σ w.heap.size with
  | none => rfl
  | some o => exact absurd (hs.dom _ _ h) (Nat.lt_irrefl _)

theorem heap_alloc_lt (w : World) (o : Obj) {b : Nat} (h : b < w.heap.size) : (w.alloc o).heap[b]? = w.heap[b]? := by
  simp only [World.alloc, Array.getElem?_push]; rw [if_neg (Nat.ne_of_lt h)]
theorem heap_alloc_at (w : World) (o : Obj) : (w.alloc o).heap[w.heap.size]? = some o := by unfold World.alloc; simp

theorem ext_alloc {σ : Sto} {w : World} (hs : St σ w) (o : Obj) (σ' : Sto) (h : ∀ b, b ≠ w.heap.size → σ' b = σ b) : Ext σ w σ' (w.alloc o) := by
  refine ⟨by simp, fun b hb hn => ⟨heap_alloc_lt w o hb, by rw [h b (Nat.ne_of_lt hb)]; exact hn⟩, fun b m hm => ?_, fun b vs ty fr hv => ⟨vs, ?_, rfl⟩, rfl, rfl⟩
  · have hb := hs.dom _ _ hm
    exact ⟨fun off _ => cell_of_block (heap_alloc_lt w o hb), .inr ⟨m, Nat.le_refl _, by rw [h b (Nat.ne_of_lt hb)]; exact hm⟩⟩
  · have hb : b < w.heap.size := (Array.getElem?_eq_some_iff.1 hv).1
    rw [heap_alloc_lt w o hb]; exact hv

/-- A new block of cells, claimed or not. -/
theorem St.alloc {σ σ' : Sto} {w : World} (hs : St σ w) (vs : Array Value) (ty : TypeId)
    (h : ∀ b, b ≠ w.heap.size → σ' b = σ b)
    (hn : σ' w.heap.size = none ∨ (∃ cs, σ' w.heap.size = some (.cells cs) ∧ RelP σ w cs vs) ∨ ∃ m, σ' w.heap.size = some (.top m) ∧ m ≤ vs.size) :
    St σ' (w.alloc (.cells vs ty)) := by
  have hx := ext_alloc hs (.cells vs ty) σ' h
  refine hs.by_blocks hx (fun b o hb => ?_) fun b o hb => ?_
  · by_cases hbe : b = w.heap.size
    · subst hbe; simp
    · rw [h b hbe] at hb; have := hs.dom _ _ hb; simp; omega
  · by_cases hbe : b = w.heap.size
    · subst hbe
      rcases hn with hn | ⟨cs', hn, hr⟩ | ⟨m, hn, hm⟩
      · rw [hn] at hb; cases hb
      · rw [hn] at hb; cases hb
        exact .inr (.inl ⟨_, rfl, vs, ty, heap_alloc_at w _, hr.1, fun j c v hc hv => (hr.2 j c v hc hv).mono hx⟩)
      · rw [hn] at hb; cases hb
        exact .inr (.inr (.inl ⟨_, rfl, vs, ty, heap_alloc_at w _, hm⟩))
    · rw [h b hbe] at hb
      exact .inl ⟨hb, heap_alloc_lt w _ (hs.dom _ _ hb)⟩

/-- A new map. -/
theorem St.alloc_map {σ σ' : Sto} {w : World} (hs : St σ w) (h : ∀ b, b ≠ w.heap.size → σ' b = σ b) (hn : σ' w.heap.size = some (.map [])) :
    St σ' (w.alloc (.map #[] 0)) := by
  have hx := ext_alloc hs (.map #[] 0) σ' h
  refine hs.by_blocks hx (fun b o hb => ?_) fun b o hb => ?_
  · by_cases hbe : b = w.heap.size
    · subst hbe; simp
    · rw [h b hbe] at hb; have := hs.dom _ _ hb; simp; omega
  · by_cases hbe : b = w.heap.size
    · subst hbe
      rw [hn] at hb; cases hb
      exact .inr (.inr (.inr (.inl ⟨_, rfl, #[], 0, heap_alloc_at w _, ⟨rfl, by simp⟩, ⟨by simp, by simp⟩⟩)))
    · rw [h b hbe] at hb
      exact .inl ⟨hb, heap_alloc_lt w _ (hs.dom _ _ hb)⟩

/-- The object at 'b' is written. -/
theorem ext_row {σ : Sto} {w : World} (hs : St σ w) {b : Nat} {cs cs' : List AV} {vs vs' : Array Value} {ty : TypeId} (hb : σ b = some (.cells cs))
    (hh : w.heap[b]? = some (.cells vs ty (0, 0))) (hz : vs'.size = vs.size) : Ext σ w (σ.set b (.cells cs')) (w.setRow b vs') := by
  refine ⟨by simp [World.setRow], fun b' hb' hn => ?_, fun b' m hm => ?_, fun b' us ty' fr hv => ?_, by simp [World.setRow], by simp [World.setRow]⟩
  · have hne : b' ≠ b := fun e => by rw [e, hb] at hn; cases hn
    exact ⟨setRow_other w b b' vs' hne, by simp [Sto.set, hne, hn]⟩
  · have hne : b' ≠ b := fun e => by rw [e, hb] at hm; cases hm
    exact ⟨fun off _ => cell_of_block (setRow_other w b b' vs' hne), .inr ⟨m, Nat.le_refl _, by simp [Sto.set, hne, hm]⟩⟩
  · by_cases hne : b' = b
    · subst hne
      rw [hh] at hv
      injection hv with hv
      injection hv with e1 e2 e3
      subst e1; subst e2; subst e3
      exact ⟨vs', setRow_heap w b' vs vs' ty (0, 0) hh, hz⟩
    · exact ⟨us, (setRow_other w b b' vs' hne).trans hv, rfl⟩

theorem St.row {σ : Sto} {w : World} (hs : St σ w) {b : Nat} {cs cs' : List AV} {vs vs' : Array Value} {ty : TypeId} (hb : σ b = some (.cells cs))
    (hh : w.heap[b]? = some (.cells vs ty (0, 0))) (hz : vs'.size = vs.size) (hr : RelP σ w cs' vs') : St (σ.set b (.cells cs')) (w.setRow b vs') := by
  have hx := ext_row hs (cs' := cs') hb hh hz
  refine hs.by_blocks hx (fun b' o hb' => ?_) fun b' o hb' => ?_
  · simp only [World.setRow, Array.size_modify]
    by_cases hne : b' = b
    · subst hne; exact hs.dom _ _ hb
    · simp only [Sto.set, hne, if_false] at hb'; exact hs.dom _ _ hb'
  · by_cases hne : b' = b
    · subst hne
      simp only [Sto.set, if_true, Option.some.injEq] at hb'
      subst hb'
      exact .inr (.inl ⟨_, rfl, vs', ty, setRow_heap w b' vs vs' ty (0, 0) hh, hr.1, fun j c v hc hv => (hr.2 j c v hc hv).mono hx⟩)
    · simp only [Sto.set, hne, if_false] at hb'
      exact .inl ⟨hb', setRow_other w b b' vs' hne⟩

end Go.Aw
