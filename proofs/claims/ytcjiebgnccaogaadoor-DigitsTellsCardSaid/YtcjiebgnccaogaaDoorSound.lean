/- The operations on abstract values are sound, first part. -/
import Derived.Test.YtcjiebgnccaogaaDoorOps
set_option linter.unusedSimpArgs false
set_option linter.unusedVariables false
namespace Go.Aw
open Go

def SemOK (P : Program) (s : Sem Value) (σ : Sto) (w : World) (k : AV → Sto → Prop) : Prop :=
  ∃ (v : Value) (r : AV) (σ' : Sto) (w' : World), s.run P w = .ok v w' ∧ k r σ' ∧ St σ' w' ∧ Rel σ' w' r v ∧ Ext σ w σ' w'

theorem SemOK.same {P : Program} {s : Sem Value} {σ : Sto} {w : World} {k : AV → Sto → Prop} {v : Value} {r : AV} (hs : St σ w)
    (h : s.run P w = .ok v w) (hr : Rel σ w r v) (hk : k r σ) : SemOK P s σ w k := ⟨v, r, σ, w, h, hk, hs, hr, Ext.refl σ w⟩

theorem OpOK.of_sem {P : Program} {o : Oper} {σ : Sto} {w : World} {a : Act} {k : AV → Sto → Prop} {s : Sem Value}
    (h : execOp a.eval o = (do pure (.value (← s)))) (hs : SemOK P s σ w k) : OpOK P o σ w a k := by
  obtain ⟨v, r, σ', w', hr, hk, h1, h2, h3⟩ := hs
  refine ⟨v, r, σ', w', .inl ?_, hk, h1, h2, h3⟩
  rw [h, Sem.run_bind, hr]
  rfl

variable {P : Program} {σ : Sto} {w : World} {k : AV → Sto → Prop}

/-! ### loads -/
theorem run_isAgg {t : TypeId} {b : Bool} (h : tyAgg P t = some b) (w : World) : (isAgg t).run P w = .ok b w := by
  unfold tyAgg at h
  cases hu : P.underlying t with
  | none => rw [hu] at h; cases h
  | some d =>
    rw [hu] at h
    simp only [Option.map_some, Option.some.injEq] at h
    simp only [isAgg, Sem.run_bind, run_underlying hu, Result.andThen]
    cases d <;> simp_all

theorem run_sizeOf {t : TypeId} {n : Nat} (h : tySize P t = some n) (w : World) : (sizeOf t).run P w = .ok n w := by
  unfold tySize at h
  cases hi : P.info? t with
  | none => rw [hi] at h; cases h
  | some i =>
    rw [hi] at h
    simp only [Option.map_some, Option.some.injEq] at h
    simp [sizeOf, typeInfo, hi, h]

theorem add_at (b o n : Nat) : (⟨b, o, none⟩ : Addr).add n = ⟨b, o + n, none⟩ := Addr.add_lit b o n

theorem loadAV_sound {cs : List AV} {us : Nat → Value} {b base off : Nat} {t : TypeId} {r : AV}
    (hc : ∀ (j : Nat) (c : AV), cs[j]? = some c → w.cell? ⟨b, base + j, none⟩ = some (us j) ∧ Rel σ w c (us j))
    (h : loadAV P t cs off = some r) : ∃ u, (loadVar t ⟨b, base + off, none⟩).run P w = .ok u w ∧ Rel σ w r u := by
  unfold loadAV at h
  cases ha : tyAgg P t with
  | none => rw [ha] at h; cases h
  | some g =>
    rw [ha] at h
    cases g with
    | false =>
      obtain ⟨h1, h2⟩ := hc off r h
      exact ⟨us off, by simp [loadVar, run_isAgg ha, h1], h2⟩
    | true =>
      cases hz : tySize P t with
      | none => rw [hz] at h; cases h
      | some n =>
        rw [hz] at h
        simp only at h
        split at h
        · rename_i hle
          cases h
          have hl : (loadCells ⟨b, base + off, none⟩ n).run P w = .ok ((List.range n).map fun j => us (off + j)).toArray w := by
            refine run_loadCells w _ n _ fun j hj => ?_
            rw [add_at]
            obtain ⟨h1, _⟩ := hc (off + j) _ (List.getElem?_eq_getElem (by omega))
            rw [show base + off + j = base + (off + j) by omega]
            exact h1
          refine ⟨.agg ((List.range n).map fun j => us (off + j)).toArray, by simp [loadVar, run_isAgg ha, run_sizeOf hz, hl], .agg _ _ (by simp; omega) fun i c v hi hv => ?_⟩
          simp only [List.getElem?_take, List.getElem?_drop] at hi
          split at hi
          · rename_i hlt
            simp only [List.getElem?_toArray, List.getElem?_map, List.getElem?_range hlt, Option.map_some, Option.some.injEq] at hv
            subst hv
            exact (hc _ c hi).2
          · cases hi
        · cases h

theorem load_sound {t : TypeId} {x : AV} {v : Value} (hs : St σ w) (hx : Rel σ w x v) (h : aLoad P t x σ k) : SemOK P (Instr.loadAt t v) σ w k := by
  unfold aLoad at h
  split at h
  · rename_i b off
    cases hx
    split at h
    · rename_i cs hb
      split at h
      · rename_i r hr
        obtain ⟨vs, ty, hh, hl, hcs⟩ := hs.cells b cs hb
        obtain ⟨u, h1, h2⟩ := loadAV_sound (σ := σ) (w := w) (us := fun j => vs.getD j undef) (b := b) (base := 0) (fun j c hj => by
          have hlt : j < vs.size := by rw [← hl]; exact (List.getElem?_eq_some_iff.1 hj).1
          have hv : vs[j]? = some (vs.getD j undef) := by simp [Array.getD, hlt]
          exact ⟨by simp [World.cell?, hh, hlt, Array.getD], hcs j c _ hj hv⟩) hr
        rw [Nat.zero_add] at h1
        exact SemOK.same hs (by simpa [Instr.loadAt, Instr.sureAddr] using h1) h2 h
      · exact h.elim
    · exact h.elim
  · rename_i row off
    cases hx with
    | iptr _ _ b base us hc hr =>
      split at h
      · rename_i r hr'
        obtain ⟨u, h1, h2⟩ := loadAV_sound (σ := σ) (w := w) (us := us) (b := b) (base := base) (fun j c hj => ⟨(hc j c hj).2, hr j c hj⟩) hr'
        exact SemOK.same hs (by simpa [Instr.loadAt, Instr.sureAddr] using h1) h2 h
      · exact h.elim
  · exact h.elim

/-! ### new blocks -/
theorem alloc_sound {cs : Option (List AV)} {vs : Array Value} {ty : TypeId} {c : List AV} (hs : St σ w) (hc : cs = some c) (hr : RelL σ w c vs) (h : aAlloc cs σ k) :
    ∃ σ', k (.ptr w.heap.size 0) σ' ∧ St σ' (w.alloc (.cells vs ty)) ∧ Ext σ w σ' (w.alloc (.cells vs ty)) := by
  subst hc
  have hk := h w.heap.size hs.new
  refine ⟨_, hk, St.alloc hs vs ty (fun b hb => by simp [Sto.set, hb]) (.inr (.inl ⟨c, by simp [Sto.set], hr⟩)), ext_alloc hs _ _ fun b hb => by simp [Sto.set, hb]⟩

theorem box_sound {x : AV} {v : Value} {ty : TypeId} (hs : St σ w) (hx : Rel σ w x v) (h : aAlloc x.cells σ k) : SemOK P (Instr.box ty v) σ w k := by
  cases hc : x.cells with
  | none => rw [hc] at h; exact h.elim
  | some c =>
    obtain ⟨σ', h1, h2, h3⟩ := alloc_sound (ty := ty) hs hc (AV.cells_val hx hc) h
    exact ⟨_, _, σ', _, by simp [Instr.box, newVar, newRow], h1, h2, .ptr _ 0, h3⟩

theorem rel_zero (cs : Array Value) : RelL σ w (cs.toList.map cv1) cs := by
  refine ⟨by simp, fun i c v hc hv => ?_⟩
  simp only [List.getElem?_map, Array.getElem?_toList, hv, Option.map_some, Option.some.injEq] at hc
  subst hc
  exact rel_cv1 σ w v

theorem zero_spec {t : TypeId} {z : List AV} (h : tyZero P t = some z) : ∃ v, (∀ w, (zeroValue t).run P w = .ok v w) ∧ z = v.cells.toList.map cv1 := by
  unfold tyZero at h
  cases hi : P.info? t with
  | none => rw [hi] at h; cases h
  | some i =>
    rw [hi] at h
    simp only [Option.bind_some] at h
    cases hz : i.zero with
    | none => rw [hz] at h; cases h
    | some v =>
      rw [hz] at h
      simp only [Option.map_some, Option.some.injEq] at h
      exact ⟨v, fun w => by simp [zeroValue, typeInfo, hi, hz], h.symm⟩

theorem allocOp_sound {t : TypeId} (hs : St σ w) (h : aAlloc (tyZero P t) σ k) : SemOK P (Instr.alloc t true (.tuple #[])) σ w k := by
  cases hz : tyZero P t with
  | none => rw [hz] at h; exact h.elim
  | some z =>
    rw [hz] at h
    obtain ⟨v, hv, hzz⟩ := zero_spec hz
    obtain ⟨σ', h1, h2, h3⟩ := alloc_sound (ty := t) (vs := v.cells) hs rfl (by rw [hzz]; exact rel_zero _) h
    exact ⟨_, _, σ', _, by simp [Instr.alloc, hv, newVar, newRow], h1, h2, .ptr _ 0, h3⟩

/-! ### building -/
theorem foldl_set_size (l : List (Value × Nat)) (off : Nat) (arr : Array Value) : (l.foldl (fun cs (c : Value × Nat) => cs.setIfInBounds (off + c.2) c.1) arr).size = arr.size := by
  induction l generalizing arr with
  | nil => rfl
  | cons x l ih => simp [List.foldl_cons, ih]

theorem foldl_set_get (l : List Value) (off n : Nat) (arr : Array Value) (p : Nat) (hb : off + n + l.length ≤ arr.size) :
    ((l.zipIdx n).foldl (fun cs (c : Value × Nat) => cs.setIfInBounds (off + c.2) c.1) arr)[p]? =
      if off + n ≤ p ∧ p < off + n + l.length then l[p - (off + n)]? else arr[p]? := by
  induction l generalizing n arr with
  | nil => simp only [List.zipIdx_nil, List.foldl_nil, List.length_nil, Nat.add_zero]; rw [if_neg (by omega)]
  | cons x l ih =>
    simp only [List.zipIdx_cons, List.foldl_cons, List.length_cons] at hb ⊢
    rw [ih (n + 1) _ (by simp; omega), Array.getElem?_setIfInBounds]
    by_cases h1 : off + n = p
    · subst h1
      rw [if_neg (by omega), if_pos (by omega), if_pos (by omega)]
      simp
    · by_cases h2 : off + (n + 1) ≤ p ∧ p < off + (n + 1) + l.length
      · rw [if_pos h2, if_pos (by omega), show p - (off + n) = (p - (off + (n + 1))) + 1 by omega, List.getElem?_cons_succ]
      · rw [if_neg h2, if_neg h1, if_neg (by omega)]

theorem fill_sound (places : Nat → Option (Nat × Nat)) : ∀ (parts : List (Nat × AV)) (pv : List (Nat × Value)) (cells : List AV) (arr : Array Value) (out : List AV),
    parts.length = pv.length → (∀ (j : Nat) (p : Nat × AV) (q : Nat × Value), parts[j]? = some p → pv[j]? = some q → p.1 = q.1 ∧ Rel σ w p.2 q.2) → RelL σ w cells arr →
    afill places cells parts = some out → ∃ res, Instr.fill places arr pv = some res ∧ RelL σ w out res
  | [], [], cells, arr, out, _, _, hr, h => by
    simp only [afill, Option.some.injEq] at h; subst h
    exact ⟨arr, rfl, hr⟩
  | [], _ :: _, _, _, _, hl, _, _, _ => by cases hl
  | _ :: _, [], _, _, _, hl, _, _, _ => by cases hl
  | (i, x) :: parts, (i', v) :: pv, cells, arr, out, hl, hp, hr, h => by
    obtain ⟨h0, hxv⟩ := hp 0 _ _ rfl rfl
    simp only at h0 hxv
    subst h0
    simp only [afill] at h
    split at h
    · rename_i off size cs hpl hcs
      split at h
      · rename_i hcond
        have hv := AV.cells_val hxv hcs
        have hvs : v.cells.size = cs.length := hv.1.symm
        have hra : RelL σ w (asplice cells off cs) (v.cells.zipIdx.foldl (fun cs (c, j) => cs.setIfInBounds (off + j) c) arr) := by
          have hcl := hr.1
          have e : v.cells.zipIdx.foldl (fun cs (c, j) => cs.setIfInBounds (off + j) c) arr =
              (v.cells.toList.zipIdx 0).foldl (fun cs (c : Value × Nat) => cs.setIfInBounds (off + c.2) c.1) arr := by
            rw [← Array.foldl_toList, Array.toList_zipIdx]
          rw [e]
          have hb : off + 0 + v.cells.toList.length ≤ arr.size := by simp; omega
          refine ⟨by simp [asplice, foldl_set_size]; omega, fun p c u hc hu => ?_⟩
          rw [foldl_set_get _ off 0 arr p hb] at hu
          simp only [asplice, List.append_assoc, List.getElem?_append, List.length_take, List.getElem?_take, List.getElem?_drop] at hc
          simp only [Nat.add_zero, Array.length_toList, Array.getElem?_toList] at hu
          have hmin : min off cells.length = off := by omega
          rw [hmin] at hc
          by_cases h1 : p < off
          · rw [if_pos h1, if_pos h1] at hc
            rw [if_neg (by omega)] at hu
            exact hr.2 p c u hc hu
          · rw [if_neg h1] at hc
            by_cases h2 : p - off < cs.length
            · rw [if_pos h2] at hc
              rw [if_pos (by omega)] at hu
              exact hv.2 _ c u hc hu
            · rw [if_neg h2] at hc
              rw [if_neg (by omega)] at hu
              have : off + cs.length + (p - off - cs.length) = p := by omega
              rw [this] at hc
              exact hr.2 p c u hc hu
        obtain ⟨res, h1, h2⟩ := fill_sound places parts pv _ _ out (by simpa using hl) (fun j p q hj hq => hp (j + 1) p q (by simpa using hj) (by simpa using hq)) hra h
        refine ⟨res, ?_, h2⟩
        have hcl := hr.1
        simp only [Instr.fill, hpl]
        rw [if_neg (by simp; omega)]
        exact h1
      · cases h
    · cases h

end Go.Aw
