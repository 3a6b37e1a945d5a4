/- Abstract values and stores, and what it means that a world answers to a store. -/
import Derived.Calls
import Derived.Control
import Derived.Tactics
import Derived.Orders
import Derived.Scope
import Derived.Laws.World
namespace Go.Aw
open Go

/-- The right to append in place. -/
inductive Tok where
  | dead | clip | live (b es : Nat)

/-- Abstract values. -/
inductive AV where
  | any
  | sc (v : Value)
  | agg (cs : List AV)
  | slice (t : Tok) (rows : List (List AV))
  | ptr (b off : Nat)
  | iptr (row : List AV) (off : Nat)
  | func (fn : Fn) (first captured : List AV)
  | iface (t : TypeId) (v : AV)
  | tuple (vs : List AV)

inductive AObj where
  | cells (cs : List AV)
  | top (m : Nat)

abbrev Sto := Nat → Option AObj
abbrev Env := List AV

def Sto.set (σ : Sto) (b : Nat) (o : AObj) : Sto := fun x => if x = b then some o else σ x
def Sto.del (σ : Sto) (b : Nat) : Sto := fun x => if x = b then none else σ x

def rd (σ : Sto) (b off : Nat) : Prop := σ b = none ∨ ∃ m, σ b = some (.top m) ∧ off < m

def tokOK (w : World) (t : Tok) (a : Option Addr) (n cap es : Nat) : Prop :=
  match t with
  | .dead => True
  | .clip => n = cap
  | .live b e => a = some ⟨b, 0, none⟩ ∧ e = es ∧ ∃ vs ty, w.heap[b]? = some (.cells vs ty (0, 0)) ∧ cap * e ≤ vs.size

inductive Rel (σ : Sto) (w : World) : AV → Value → Prop
  | any (v : Value) : Rel σ w .any v
  | sc (v : Value) : Rel σ w (.sc v) v
  | agg (cs : List AV) (vs : Array Value) (hl : cs.length = vs.size)
      (h : ∀ (i : Nat) (c : AV) (v : Value), cs[i]? = some c → vs[i]? = some v → Rel σ w c v) : Rel σ w (.agg cs) (.agg vs)
  | tuple (cs : List AV) (vs : Array Value) (hl : cs.length = vs.size)
      (h : ∀ (i : Nat) (c : AV) (v : Value), cs[i]? = some c → vs[i]? = some v → Rel σ w c v) : Rel σ w (.tuple cs) (.tuple vs)
  | ptr (b off : Nat) : Rel σ w (.ptr b off) (.pointer (some ⟨b, off, none⟩))
  | iptr (row : List AV) (off b base : Nat) (us : Nat → Value)
      (hc : ∀ (j : Nat) (c : AV), row[j]? = some c → rd σ b (base + j) ∧ w.cell? ⟨b, base + j, none⟩ = some (us j))
      (hr : ∀ (j : Nat) (c : AV), row[j]? = some c → Rel σ w c (us j)) : Rel σ w (.iptr row off) (.pointer (some ⟨b, base + off, none⟩))
  | slice (t : Tok) (rows : List (List AV)) (a : Option Addr) (n cap es : Nat) (us : Nat → Value)
      (hn : rows.length = n) (hcap : n ≤ cap) (hes : ∀ r ∈ rows, r.length = es) (ht : tokOK w t a n cap es)
      (hc : ∀ (p : Nat) (c : AV), rows.flatten[p]? = some c → ∃ b off, a = some ⟨b, off, none⟩ ∧ rd σ b (off + p) ∧ w.cell? ⟨b, off + p, none⟩ = some (us p))
      (hr : ∀ (p : Nat) (c : AV), rows.flatten[p]? = some c → Rel σ w c (us p)) : Rel σ w (.slice t rows) (.slice a n cap)
  | func (fn : Fn) (first captured : List AV) (vf vc : Array Value) (hl : first.length = vf.size) (hl' : captured.length = vc.size)
      (h : ∀ (i : Nat) (c : AV) (v : Value), first[i]? = some c → vf[i]? = some v → Rel σ w c v)
      (h' : ∀ (i : Nat) (c : AV) (v : Value), captured[i]? = some c → vc[i]? = some v → Rel σ w c v) : Rel σ w (.func fn first captured) (.func fn vf vc)
  | iface (t : TypeId) (c : AV) (v : Value) (h : Rel σ w c v) : Rel σ w (.iface t c) (.iface t v)

structure St (σ : Sto) (w : World) : Prop where
  dom : ∀ b o, σ b = some o → b < w.heap.size
  cells : ∀ b cs, σ b = some (.cells cs) → ∃ vs ty, w.heap[b]? = some (.cells vs ty (0, 0)) ∧ cs.length = vs.size ∧
    ∀ (j : Nat) (c : AV) (v : Value), cs[j]? = some c → vs[j]? = some v → Rel σ w c v
  top : ∀ b m, σ b = some (.top m) → ∃ vs ty, w.heap[b]? = some (.cells vs ty (0, 0)) ∧ m ≤ vs.size

structure Ext (σ : Sto) (w : World) (σ' : Sto) (w' : World) : Prop where
  size : w.heap.size ≤ w'.heap.size
  keep : ∀ b, b < w.heap.size → σ b = none → w'.heap[b]? = w.heap[b]? ∧ σ' b = none
  top : ∀ b m, σ b = some (.top m) → (∀ off, off < m → w'.cell? ⟨b, off, none⟩ = w.cell? ⟨b, off, none⟩) ∧
    (σ' b = none ∨ ∃ m', m ≤ m' ∧ σ' b = some (.top m'))
  shape : ∀ (b : Nat) (vs : Array Value) (ty : TypeId) (fr : Nat × Nat), w.heap[b]? = some (.cells vs ty fr) → ∃ vs' : Array Value, w'.heap[b]? = some (Obj.cells vs' ty fr) ∧ vs'.size = vs.size
  same : w'.os = w.os ∧ w'.output = w.output

theorem Ext.refl (σ : Sto) (w : World) : Ext σ w σ w :=
  ⟨Nat.le_refl _, fun _ _ h => ⟨rfl, h⟩, fun _ m h => ⟨fun _ _ => rfl, .inr ⟨m, Nat.le_refl _, h⟩⟩, fun _ vs _ _ h => ⟨vs, h, rfl⟩, rfl, rfl⟩

theorem cell_of_block {w w' : World} {b off : Nat} (h : w'.heap[b]? = w.heap[b]?) : w'.cell? ⟨b, off, none⟩ = w.cell? ⟨b, off, none⟩ := by
  simp [World.cell?, h]

theorem lt_of_cell {w : World} {b off : Nat} {v : Value} (h : w.cell? ⟨b, off, none⟩ = some v) : b < w.heap.size := by
  unfold World.cell? at h
  rcases Nat.lt_or_ge b w.heap.size with h' | h'
  · exact h'
  · simp [h'] at h

theorem Ext.trans {σ σ₁ σ₂ : Sto} {w w₁ w₂ : World} (h : Ext σ w σ₁ w₁) (h' : Ext σ₁ w₁ σ₂ w₂) (hd : ∀ b o, σ b = some o → b < w.heap.size) : Ext σ w σ₂ w₂ := by
  refine ⟨Nat.le_trans h.size h'.size, fun b hb hn => ?_, fun b m hm => ?_, fun b vs ty fr hv => ?_, h'.same.1.trans h.same.1, h'.same.2.trans h.same.2⟩
  · obtain ⟨e1, n1⟩ := h.keep b hb hn
    obtain ⟨e2, n2⟩ := h'.keep b (Nat.lt_of_lt_of_le hb h.size) n1
    exact ⟨e2.trans e1, n2⟩
  · obtain ⟨c1, d1⟩ := h.top b m hm
    rcases d1 with d1 | ⟨m', hle, d1⟩
    · obtain ⟨e2, n2⟩ := h'.keep b (Nat.lt_of_lt_of_le (hd _ _ hm) h.size) d1
      exact ⟨fun off ho => (cell_of_block e2).trans (c1 off ho), .inl n2⟩
    · obtain ⟨c2, d2⟩ := h'.top b m' d1
      refine ⟨fun off ho => (c2 off (Nat.lt_of_lt_of_le ho hle)).trans (c1 off ho), ?_⟩
      rcases d2 with d2 | ⟨m2, hle2, d2⟩
      · exact .inl d2
      · exact .inr ⟨m2, Nat.le_trans hle hle2, d2⟩
  · obtain ⟨v1, e1, s1⟩ := h.shape b vs ty fr hv
    obtain ⟨v2, e2, s2⟩ := h'.shape b v1 ty fr e1
    exact ⟨v2, e2, s2.trans s1⟩

theorem rd_ext {σ σ' : Sto} {w w' : World} (h : Ext σ w σ' w') {b off : Nat} {v : Value} (hr : rd σ b off) (hc : w.cell? ⟨b, off, none⟩ = some v) :
    rd σ' b off ∧ w'.cell? ⟨b, off, none⟩ = some v := by
  rcases hr with hn | ⟨m, hm, hlt⟩
  · obtain ⟨e, n⟩ := h.keep b (lt_of_cell hc) hn
    exact ⟨.inl n, (cell_of_block e).trans hc⟩
  · obtain ⟨c, d⟩ := h.top b m hm
    refine ⟨?_, (c off hlt).trans hc⟩
    rcases d with d | ⟨m', hle, d⟩
    · exact .inl d
    · exact .inr ⟨m', d, Nat.lt_of_lt_of_le hlt hle⟩

theorem tokOK_ext {σ σ' : Sto} {w w' : World} (h : Ext σ w σ' w') {t : Tok} {a : Option Addr} {n cap es : Nat} (ht : tokOK w t a n cap es) : tokOK w' t a n cap es := by
  cases t with
  | dead => trivial
  | clip => exact ht
  | live b e =>
    obtain ⟨ha, he, vs, ty, hb, hs⟩ := ht
    obtain ⟨vs', hb', hs'⟩ := h.shape b vs ty _ hb
    exact ⟨ha, he, vs', ty, hb', by omega⟩

theorem Rel.mono {σ σ' : Sto} {w w' : World} (h : Ext σ w σ' w') {x : AV} {v : Value} (hr : Rel σ w x v) : Rel σ' w' x v := by
  induction hr with
  | any v => exact .any v
  | sc v => exact .sc v
  | agg cs vs hl _ ih => exact .agg cs vs hl ih
  | tuple cs vs hl _ ih => exact .tuple cs vs hl ih
  | ptr b off => exact .ptr b off
  | iptr row off b base us hc _ ih => exact .iptr row off b base us (fun j c hj => rd_ext h (hc j c hj).1 (hc j c hj).2) ih
  | slice t rows a n cap es us hn hcap hes ht hc _ ih =>
    exact .slice t rows a n cap es us hn hcap hes (tokOK_ext h ht) (fun p c hp => by
      obtain ⟨b, off, ha, h1, h2⟩ := hc p c hp
      exact ⟨b, off, ha, rd_ext h h1 h2⟩) ih
  | func fn first captured vf vc hl hl' _ _ ih ih' => exact .func fn first captured vf vc hl hl' ih ih'
  | iface t c v _ ih => exact .iface t c v ih

/-- A store of fewer claims. -/
def Sub (σ' σ : Sto) : Prop := ∀ b o, σ' b = some o → σ b = some o
theorem Sub.refl (σ : Sto) : Sub σ σ := fun _ _ h => h
theorem Sub.trans {a b c : Sto} (h : Sub a b) (h' : Sub b c) : Sub a c := fun x o hx => h' x o (h x o hx)
theorem Sub.none {σ' σ : Sto} (h : Sub σ' σ) {b : Nat} (hn : σ b = none) : σ' b = none := by
  cases hs : σ' b with
  | none => rfl
  | some o => rw [h b o hs] at hn; cases hn

theorem Sub.ext {σ' σ : Sto} (h : Sub σ' σ) (w : World) : Ext σ w σ' w := by
  refine ⟨Nat.le_refl _, fun b _ hn => ⟨rfl, h.none hn⟩, fun b m hm => ⟨fun _ _ => rfl, ?_⟩, fun _ vs _ _ hv => ⟨vs, hv, rfl⟩, rfl, rfl⟩
  cases hs : σ' b with
  | none => exact .inl rfl
  | some o => have := h b o hs; rw [hm] at this; cases this; exact .inr ⟨m, Nat.le_refl _, rfl⟩

theorem St.sub {σ' σ : Sto} {w : World} (h : St σ w) (hs : Sub σ' σ) : St σ' w :=
  ⟨fun b o hb => h.dom b o (hs b o hb),
   fun b cs hb => by
    obtain ⟨vs, ty, e, hl, hr⟩ := h.cells b cs (hs b _ hb)
    exact ⟨vs, ty, e, hl, fun j c v hc hv => (hr j c v hc hv).mono (hs.ext w)⟩,
   fun b m hb => h.top b m (hs b _ hb)⟩

/-! ### Calls -/
def RelL (σ : Sto) (w : World) (cs : List AV) (vs : Array Value) : Prop :=
  cs.length = vs.size ∧ ∀ (i : Nat) (c : AV) (v : Value), cs[i]? = some c → vs[i]? = some v → Rel σ w c v

theorem RelL.mono {σ σ' : Sto} {w w' : World} (h : Ext σ w σ' w') {cs : List AV} {vs : Array Value} (hr : RelL σ w cs vs) : RelL σ' w' cs vs :=
  ⟨hr.1, fun i c v hc hv => (hr.2 i c v hc hv).mono h⟩

def ACalls (P : Program) (f : FuncId) (args : List AV) (σ : Sto) (Q : AV → Sto → Prop) : Prop :=
  ∀ (w : World) (vs : Array Value), St σ w → RelL σ w args vs →
    Calls P f vs w fun e w' => ∃ v r σ', e = .returned v ∧ Q r σ' ∧ St σ' w' ∧ Rel σ' w' r v ∧ Ext σ w σ' w'

theorem ACalls.mono {P : Program} {f : FuncId} {args : List AV} {σ : Sto} {Q Q' : AV → Sto → Prop} (h : ACalls P f args σ Q)
    (hq : ∀ r σ', Q r σ' → Q' r σ') : ACalls P f args σ Q' := fun w vs hs hr =>
  (h w vs hs hr).mono fun _ _ ⟨v, r, σ', he, q, hs', hr', hx⟩ => ⟨v, r, σ', he, hq _ _ q, hs', hr', hx⟩

/-- Claims of the store may be forgotten behind a call. -/
theorem ACalls.drop {P : Program} {f : FuncId} {args : List AV} {σ : Sto} {Q : AV → Sto → Prop}
    (h : ACalls P f args σ fun r σ' => ∃ σ₂, Sub σ₂ σ' ∧ Q r σ₂) : ACalls P f args σ Q := fun w vs hs hr =>
  (h w vs hs hr).mono fun _ w' ⟨v, r, _, he, ⟨σ₂, hsub, q⟩, hs', hr', hx⟩ =>
    ⟨v, r, σ₂, he, q, hs'.sub hsub, hr'.mono (hsub.ext w'), hx.trans (hsub.ext w') hs.dom⟩

/-! ### Frames -/
def EnvR (σ : Sto) (w : World) (env : Env) (a : Act) : Prop :=
  env.length = a.tmps.size ∧ a.defers = [] ∧ ∀ (t : Nat) (c : AV) (v : Value), env[t]? = some c → a.tmps[t]? = some v → Rel σ w c v

theorem EnvR.mono {σ σ' : Sto} {w w' : World} (h : Ext σ w σ' w') {env : Env} {a : Act} (hr : EnvR σ w env a) : EnvR σ' w' env a :=
  ⟨hr.1, hr.2.1, fun t c v hc hv => (hr.2.2 t c v hc hv).mono h⟩

def put (env : Env) (d : Option Tmp) (r : AV) : Env :=
  match d with
  | some d => env.set d r
  | none => env

theorem EnvR.put {σ : Sto} {w : World} {env : Env} {a : Act} (h : EnvR σ w env a) {d : Option Tmp} {r : AV} {v : Value} (hr : Rel σ w r v) :
    EnvR σ w (put env d r) (a.put d v) := by
  cases d with
  | none => exact h
  | some d =>
    refine ⟨by simp [Aw.put, Act.put, h.1], h.2.1, fun t c u hc hu => ?_⟩
    simp only [Aw.put, Act.put, List.getElem?_set, Array.getElem?_setIfInBounds] at hc hu
    by_cases hd : d = t
    · subst hd
      simp only [if_true] at hc hu
      split at hc <;> split at hu <;> simp_all
    · simp only [hd, if_false] at hc hu
      exact h.2.2 t c u hc hu

/-- A constant. -/
def cv1 : Value → AV
  | .slice none 0 0 => .slice .clip []
  | v => .sc v
def cv : Value → AV
  | .agg cs => .agg (cs.toList.map cv1)
  | v => cv1 v

theorem rel_nil (σ : Sto) (w : World) : Rel σ w (.slice .clip []) (.slice none 0 0) :=
  .slice .clip [] none 0 0 0 (fun _ => undef) rfl (Nat.le_refl _) (by simp) rfl (by simp) (by simp)

theorem rel_cv1 (σ : Sto) (w : World) (v : Value) : Rel σ w (cv1 v) v := by
  unfold cv1
  split
  · exact rel_nil σ w
  · exact .sc v

theorem rel_cv (σ : Sto) (w : World) (v : Value) : Rel σ w (cv v) v := by
  unfold cv
  split
  · rename_i cs
    refine .agg _ _ (by simp) fun i c v hc hv => ?_
    simp only [List.getElem?_map, Array.getElem?_toList, hv, Option.map_some, Option.some.injEq] at hc
    subst hc
    exact rel_cv1 σ w v
  · exact rel_cv1 σ w _

def ev (env : Env) : Operand → AV
  | .tmp t => env.getD t .any
  | .const v => cv v
  | .global g => .ptr g 0
  | .func f => .func (.func f) [] []

theorem rel_ev {σ : Sto} {w : World} {env : Env} {a : Act} (h : EnvR σ w env a) (x : Operand) : Rel σ w (ev env x) (a.eval x) := by
  cases x with
  | const v => exact rel_cv σ w v
  | global g => exact .ptr g 0
  | func f => exact .func _ [] [] _ _ rfl rfl (by simp) (by simp)
  | tmp t =>
    simp only [ev, Act.eval]
    cases hc : env[t]? with
    | none => simp [List.getD, hc]; exact .any _
    | some c =>
      have hlt : t < a.tmps.size := by rw [← h.1]; exact (List.getElem?_eq_some_iff.1 hc).1
      have hv : a.tmps[t]? = some a.tmps[t] := by simp [hlt]
      simp only [List.getD, hc, Option.getD_some]
      have := h.2.2 t c _ hc hv
      simpa [Array.getD, hlt] using this

end Go.Aw
