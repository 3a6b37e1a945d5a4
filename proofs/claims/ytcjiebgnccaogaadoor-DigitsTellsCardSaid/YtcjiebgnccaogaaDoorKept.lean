/- Calls that leave all that was there as it was, and laws proved outside this layer, met as calls over abstract values. -/
import Derived.Test.YtcjiebgnccaogaaDoorSimp
import Derived.Below
import Derived.Maps.AppendAt
set_option linter.unusedSimpArgs false
set_option linter.unusedVariables false
namespace Go.Aw
open Go
variable {P : Program}

/-- what was there at the call is there as it was -/
structure Kept (w w' : World) : Prop where
  os : w'.os = w.os
  output : w'.output = w.output
  size : w.heap.size ≤ w'.heap.size
  block : ∀ k, k < w.heap.size → w'.heap[k]? = w.heap[k]?

theorem Kept.refl (w : World) : Kept w w := ⟨rfl, rfl, Nat.le_refl _, fun _ _ => rfl⟩
theorem Kept.trans {a b c : World} (h : Kept a b) (h' : Kept b c) : Kept a c :=
  ⟨h'.os.trans h.os, h'.output.trans h.output, Nat.le_trans h.size h'.size, fun k hk => (h'.block k (Nat.lt_of_lt_of_le hk h.size)).trans (h.block k hk)⟩
theorem Kept.alloc (w : World) (o : Obj) : Kept w (w.alloc o) := ⟨rfl, rfl, by simp, fun k hk => heap_alloc_lt w o hk⟩
theorem Kept.of_below {w w' : World} (h : RowKit.Below w.heap.size w w') : Kept w w' := ⟨h.os, h.output, h.size, h.block⟩

theorem Kept.ext {w w' : World} (h : Kept w w') {σ : Sto} (hs : St σ w) : Ext σ w σ w' := by
  refine ⟨h.size, fun b hb hn => ⟨h.block b hb, hn⟩, fun b m hm => ⟨fun off _ => cell_of_block (h.block b (hs.dom _ _ hm)), .inr ⟨m, Nat.le_refl _, hm⟩⟩, fun b vs ty fr hv => ⟨vs, ?_, rfl⟩, h.os, h.output⟩
  rw [h.block b (Array.getElem?_eq_some_iff.1 hv).1]; exact hv

theorem Kept.st {w w' : World} (h : Kept w w') {σ : Sto} (hs : St σ w) : St σ w' := by
  refine ⟨fun b o hb => Nat.lt_of_lt_of_le (hs.dom b o hb) h.size, fun b cs hb => ?_, fun b m hb => ?_⟩
  · obtain ⟨vs, ty, e, hl, hr⟩ := hs.cells b cs hb
    exact ⟨vs, ty, (h.block b (hs.dom _ _ hb)).trans e, hl, fun j c v hc hv => (hr j c v hc hv).mono (h.ext hs)⟩
  · obtain ⟨vs, ty, e, hm⟩ := hs.top b m hb
    exact ⟨vs, ty, (h.block b (hs.dom _ _ hb)).trans e, hm⟩

/-- A call that keeps what was there. -/
theorem ACalls.of_kept {f : FuncId} {args : List AV} {σ : Sto} {Q : AV → Sto → Prop}
    (h : ∀ (w : World) (vs : Array Value), St σ w → RelL σ w args vs → Calls P f vs w fun e w' => ∃ v r, e = .returned v ∧ Q r σ ∧ Kept w w' ∧ Rel σ w' r v) : ACalls P f args σ Q :=
  fun w vs hs hr => (h w vs hs hr).mono fun _ _ ⟨v, r, he, hq, hk, hrel⟩ => ⟨v, r, σ, he, hq, hk.st hs, hrel, hk.ext hs⟩

/-- One cell of a claimed block is written. -/
theorem St.set1 {σ : Sto} {w : World} (hs : St σ w) {b : Nat} {x y : AV} {v : Value} (hb : σ b = some (.cells [x])) (hy : Rel σ w y v) :
    St (σ.set b (.cells [y])) (w.setCell ⟨b, 0, none⟩ v) ∧ Ext σ w (σ.set b (.cells [y])) (w.setCell ⟨b, 0, none⟩ v) := by
  obtain ⟨vs, ty, e, hl, hr⟩ := hs.cells b _ hb
  have hz : vs.size = 1 := hl.symm
  have he : w.setCell ⟨b, 0, none⟩ v = w.setRow b (vs.setIfInBounds 0 v) := setCell_eq_setRow w b 0 vs ty (0, 0) v e
  have hrel : RelL σ w [y] (vs.setIfInBounds 0 v) := by
    refine ⟨by simp [hz], fun i c u hc hu => ?_⟩
    cases i with
    | zero =>
      simp at hc; subst hc
      rw [Array.getElem?_setIfInBounds_self_of_lt (by omega)] at hu
      cases hu; exact hy
    | succ i => simp at hc
  rw [he]
  exact ⟨hs.row hb e (by simp) hrel, ext_row hs hb e (by simp)⟩

/-- the value of a claimed cell -/
theorem St.cell {σ : Sto} {w : World} (hs : St σ w) {b j : Nat} {cs : List AV} {v : Value} (hb : σ b = some (.cells cs)) (hj : cs[j]? = some (.sc v)) : w.cell? ⟨b, j, none⟩ = some v := by
  obtain ⟨vs, ty, e, hl, hr⟩ := hs.cells b _ hb
  have hlt : j < vs.size := by rw [← hl]; exact (List.getElem?_eq_some_iff.1 hj).1
  have := hr j _ vs[j] hj (by simp [hlt])
  generalize hv : vs[j] = u at this
  cases this
  simp [World.cell?, e, hlt, hv]
theorem St.heap {σ : Sto} {w : World} (hs : St σ w) {b : Nat} {cs : List AV} (hb : σ b = some (.cells cs)) : ∃ vs ty, w.heap[b]? = some (.cells vs ty (0, 0)) := by
  obtain ⟨vs, ty, e, -, -⟩ := hs.cells b _ hb
  exact ⟨vs, ty, e⟩
theorem St.frozen {σ : Sto} {w : World} (hs : St σ w) {b j : Nat} {cs : List AV} (hb : σ b = some (.cells cs)) : w.frozen? ⟨b, j, none⟩ = false := by
  obtain ⟨vs, ty, e, -, -⟩ := hs.cells b _ hb
  simp [World.frozen?, e]

/-- the arguments of a call -/
theorem relL_one {σ : Sto} {w : World} {x : AV} {vs : Array Value} (h : RelL σ w [x] vs) : ∃ v, vs = #[v] ∧ Rel σ w x v := by
  obtain ⟨hl, h⟩ := h
  match vs, hl with
  | ⟨[v]⟩, _ => exact ⟨v, rfl, h 0 x v rfl rfl⟩
theorem relL_two {σ : Sto} {w : World} {x y : AV} {vs : Array Value} (h : RelL σ w [x, y] vs) : ∃ v u, vs = #[v, u] ∧ Rel σ w x v ∧ Rel σ w y u := by
  obtain ⟨hl, h⟩ := h
  match vs, hl with
  | ⟨[v, u]⟩, _ => exact ⟨v, u, rfl, h 0 x v rfl rfl, h 1 y u rfl rfl⟩
theorem relL_three {σ : Sto} {w : World} {x y z : AV} {vs : Array Value} (h : RelL σ w [x, y, z] vs) : ∃ v u t, vs = #[v, u, t] ∧ Rel σ w x v ∧ Rel σ w y u ∧ Rel σ w z t := by
  obtain ⟨hl, h⟩ := h
  match vs, hl with
  | ⟨[v, u, t]⟩, _ => exact ⟨v, u, t, rfl, h 0 x v rfl rfl, h 1 y u rfl rfl, h 2 z t rfl rfl⟩
theorem rel_sc {σ : Sto} {w : World} {v u : Value} (h : Rel σ w (.sc v) u) : u = v := by cases h; rfl
theorem rel_ptr {σ : Sto} {w : World} {b o : Nat} {u : Value} (h : Rel σ w (.ptr b o) u) : u = .pointer (some ⟨b, o, none⟩) := by cases h; rfl
theorem rel_iface {σ : Sto} {w : World} {t : TypeId} {x : AV} {u : Value} (h : Rel σ w (.iface t x) u) : ∃ v, u = .iface t v ∧ Rel σ w x v := by cases h with | iface _ _ v h => exact ⟨v, rfl, h⟩
theorem RelL.nil (σ : Sto) (w : World) : RelL σ w [] (#[] : Array Value) := ⟨rfl, fun i c v hc hv => by simp at hc⟩
theorem RelL.cons {σ : Sto} {w : World} {c : AV} {v : Value} {cs : List AV} {vs : List Value} (h : Rel σ w c v) (h' : RelL σ w cs vs.toArray) : RelL σ w (c :: cs) (v :: vs).toArray := by
  have hl := h'.1
  refine ⟨by simpa using hl, fun i c' v' hc hv => ?_⟩
  cases i with
  | zero => simp at hc hv; subst hc hv; exact h
  | succ i => simp at hc hv; exact h'.2 i c' v' hc (by simpa using hv)
theorem rel_pair {σ : Sto} {w : World} {x y : AV} {u v : Value} (h1 : Rel σ w x u) (h2 : Rel σ w y v) : Rel σ w (.tuple [x, y]) (.tuple #[u, v]) :=
  Rel.tuple _ _ rfl (RelL.cons (vs := [_]) h1 (RelL.cons (vs := []) h2 (RelL.nil _ _))).2
end Go.Aw
