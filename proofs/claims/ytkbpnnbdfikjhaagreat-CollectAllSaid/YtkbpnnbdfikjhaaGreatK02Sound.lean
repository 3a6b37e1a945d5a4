/- The operations on abstract values are sound, first part. -/
import Derived.Test.YtkbpnnbdfikjhaaGreatK01Core
import Derived.Laws.IdiomStrings
import Derived.Laws.StructEq
set_option linter.unusedSimpArgs false
set_option linter.unusedVariables false
namespace Go.Aw
open Go

def SemOK (P : Program) (s : Sem Value) (σ : Sto) (w : World) (k : AV → Sto → Prop) : Prop :=
  ∃ (v : Value) (r : AV) (σ' : Sto) (w' : World), s.run P w = .ok v w' ∧ k r σ' ∧ St σ' w' ∧ Rel σ' w' r v ∧ Ext σ w σ' w'

theorem SemOK.same {P : Program} {s : Sem Value} {σ : Sto} {w : World} {k : AV → Sto → Prop} {v : Value} {r : AV} (hs : St σ w)
    (h : s.run P w = .ok v w) (hr : Rel σ w r v) (hk : k r σ) : SemOK P s σ w k := ⟨v, r, σ, w, h, hk, hs, hr, Ext.refl σ w⟩

theorem OpOK.of_sem {P : Program} {o : Oper} {σ : Sto} {w : World} {a : Act} {k : AV → Sto → Prop} {s : Sem Value}
    (h : execOp a.eval o = (do pure (.value (← s)))) (hs : SemOK P s σ w k) : OpOK P o σ w a k := by
  obtain ⟨v, r, σ', w', hr, hk, h1, h2, h3⟩ := hs
  refine ⟨v, r, σ', w', .inl ?_, hk, h1, h2, h3⟩
  rw [h, Sem.run_bind, hr]
  rfl

variable {P : Program} {σ : Sto} {w : World} {k : AV → Sto → Prop}

/-! ### loads -/
theorem run_isAgg {t : TypeId} {b : Bool} (h : tyAgg P t = some b) (w : World) : (isAgg t).run P w = .ok b w := by
  unfold tyAgg at h
  cases hu : P.underlying t with
  | none => rw [hu] at h; cases h
  | some d =>
    rw [hu] at h
    simp only [Option.map_some, Option.some.injEq] at h
    simp only [isAgg, Sem.run_bind, run_underlying hu, Result.andThen]
    cases d <;> simp_all

theorem run_sizeOf {t : TypeId} {n : Nat} (h : tySize P t = some n) (w : World) : (sizeOf t).run P w = .ok n w := by
  unfold tySize at h
  cases hi : P.info? t with
  | none => rw [hi] at h; cases h
  | some i =>
    rw [hi] at h
    simp only [Option.map_some, Option.some.injEq] at h
    simp [sizeOf, typeInfo, hi, h]

theorem add_at (b o n : Nat) : (⟨b, o, none⟩ : Addr).add n = ⟨b, o + n, none⟩ := Addr.add_lit b o n

theorem loadAV_sound {cs : List AV} {us : Nat → Value} {b base off : Nat} {t : TypeId} {r : AV}
    (hc : ∀ (j : Nat) (c : AV), cs[j]? = some c → w.cell? ⟨b, base + j, none⟩ = some (us j) ∧ Rel σ w c (us j))
    (h : loadAV P t cs off = some r) : ∃ u, (loadVar t ⟨b, base + off, none⟩).run P w = .ok u w ∧ Rel σ w r u := by
  unfold loadAV at h
  cases ha : tyAgg P t with
  | none => rw [ha] at h; cases h
  | some g =>
    rw [ha] at h
    cases g with
    | false =>
      obtain ⟨h1, h2⟩ := hc off r h
      exact ⟨us off, by simp [loadVar, run_isAgg ha, h1], h2⟩
    | true =>
      cases hz : tySize P t with
      | none => rw [hz] at h; cases h
      | some n =>
        rw [hz] at h
        simp only at h
        split at h
        · rename_i hle
          cases h
          have hl : (loadCells ⟨b, base + off, none⟩ n).run P w = .ok ((List.range n).map fun j => us (off + j)).toArray w := by
            refine run_loadCells w _ n _ fun j hj => ?_
            rw [add_at]
            obtain ⟨h1, _⟩ := hc (off + j) _ (List.getElem?_eq_getElem (by omega))
            rw [show base + off + j = base + (off + j) by omega]
            exact h1
          refine ⟨.agg ((List.range n).map fun j => us (off + j)).toArray, by simp [loadVar, run_isAgg ha, run_sizeOf hz, hl], .agg _ _ (by simp; omega) fun i c v hi hv => ?_⟩
          simp only [List.getElem?_take, List.getElem?_drop] at hi
          split at hi
          · rename_i hlt
            simp only [List.getElem?_toArray, List.getElem?_map, List.getElem?_range hlt, Option.map_some, Option.some.injEq] at hv
            subst hv
            exact (hc _ c hi).2
          · cases hi
        · cases h

theorem load_sound {t : TypeId} {x : AV} {v : Value} (hs : St σ w) (hx : Rel σ w x v) (h : aLoad P t x σ k) : SemOK P (Instr.loadAt t v) σ w k := by
  unfold aLoad at h
  split at h
  · rename_i b off
    cases hx
    split at h
    · rename_i cs hb
      split at h
      · rename_i r hr
        obtain ⟨vs, ty, hh, hl, hcs⟩ := hs.cells b cs hb
        obtain ⟨u, h1, h2⟩ := loadAV_sound (σ := σ) (w := w) (us := fun j => vs.getD j undef) (b := b) (base := 0) (fun j c hj => by
          have hlt : j < vs.size := Nat.lt_of_lt_of_le (List.getElem?_eq_some_iff.1 hj).1 hl
          have hv : vs[j]? = some (vs.getD j undef) := by simp [Array.getD, hlt]
          exact ⟨by simp [World.cell?, hh, hlt, Array.getD], hcs j c _ hj hv⟩) hr
        rw [Nat.zero_add] at h1
        exact SemOK.same hs (by simpa [Instr.loadAt, Instr.sureAddr] using h1) h2 h
      · exact h.elim
    · exact h.elim
  · rename_i row off
    cases hx with
    | iptr _ _ b base us hc hr =>
      split at h
      · rename_i r hr'
        obtain ⟨u, h1, h2⟩ := loadAV_sound (σ := σ) (w := w) (us := us) (b := b) (base := base) (fun j c hj => ⟨(hc j c hj).2, hr j c hj⟩) hr'
        exact SemOK.same hs (by simpa [Instr.loadAt, Instr.sureAddr] using h1) h2 h
      · exact h.elim
  · exact h.elim

/-! ### new blocks -/
theorem alloc_sound {cs : Option (List AV)} {vs : Array Value} {ty : TypeId} {c : List AV} (hs : St σ w) (hc : cs = some c) (hr : RelL σ w c vs) (h : aAlloc cs σ k) :
    ∃ σ', k (.ptr w.heap.size 0) σ' ∧ St σ' (w.alloc (.cells vs ty)) ∧ Ext σ w σ' (w.alloc (.cells vs ty)) := by
  subst hc
  have hk := h w.heap.size hs.new
  refine ⟨_, hk, St.alloc hs vs ty (fun b hb => by simp [Sto.set, hb]) (.inr (.inl ⟨c, by simp [Sto.set], hr.pre⟩)), ext_alloc hs _ _ fun b hb => by simp [Sto.set, hb]⟩

theorem box_sound {x : AV} {v : Value} {ty : TypeId} (hs : St σ w) (hx : Rel σ w x v) (h : aAlloc x.cells σ k) : SemOK P (Instr.box ty v) σ w k := by
  cases hc : x.cells with
  | none => rw [hc] at h; exact h.elim
  | some c =>
    obtain ⟨σ', h1, h2, h3⟩ := alloc_sound (ty := ty) hs hc (AV.cells_val hx hc) h
    exact ⟨_, _, σ', _, by simp [Instr.box, newVar, newRow], h1, h2, .ptr _ 0, h3⟩

theorem rel_zero (cs : Array Value) : RelL σ w (cs.toList.map cv1) cs := by
  refine ⟨by simp, fun i c v hc hv => ?_⟩
  simp only [List.getElem?_map, Array.getElem?_toList, hv, Option.map_some, Option.some.injEq] at hc
  subst hc
  exact rel_cv1 σ w v

theorem zero_spec {t : TypeId} {z : List AV} (h : tyZero P t = some z) : ∃ v, (∀ w, (zeroValue t).run P w = .ok v w) ∧ z = v.cells.toList.map cv1 := by
  unfold tyZero at h
  cases hi : P.info? t with
  | none => rw [hi] at h; cases h
  | some i =>
    rw [hi] at h
    simp only [Option.bind_some] at h
    cases hz : i.zero with
    | none => rw [hz] at h; cases h
    | some v =>
      rw [hz] at h
      simp only [Option.map_some, Option.some.injEq] at h
      exact ⟨v, fun w => by simp [zeroValue, typeInfo, hi, hz], h.symm⟩

theorem allocOp_sound {t : TypeId} (hs : St σ w) (h : aAlloc (tyZero P t) σ k) : SemOK P (Instr.alloc t true (.tuple #[])) σ w k := by
  cases hz : tyZero P t with
  | none => rw [hz] at h; exact h.elim
  | some z =>
    rw [hz] at h
    obtain ⟨v, hv, hzz⟩ := zero_spec hz
    obtain ⟨σ', h1, h2, h3⟩ := alloc_sound (ty := t) (vs := v.cells) hs rfl (by rw [hzz]; exact rel_zero _) h
    exact ⟨_, _, σ', _, by simp [Instr.alloc, hv, newVar, newRow], h1, h2, .ptr _ 0, h3⟩

/-! ### building -/
theorem foldl_set_size (l : List (Value × Nat)) (off : Nat) (arr : Array Value) : (l.foldl (fun cs (c : Value × Nat) => cs.setIfInBounds (off + c.2) c.1) arr).size = arr.size := by
  induction l generalizing arr with
  | nil => rfl
  | cons x l ih => simp [List.foldl_cons, ih]

theorem foldl_set_get (l : List Value) (off n : Nat) (arr : Array Value) (p : Nat) (hb : off + n + l.length ≤ arr.size) :
    ((l.zipIdx n).foldl (fun cs (c : Value × Nat) => cs.setIfInBounds (off + c.2) c.1) arr)[p]? =
      if off + n ≤ p ∧ p < off + n + l.length then l[p - (off + n)]? else arr[p]? := by
  induction l generalizing n arr with
  | nil => simp only [List.zipIdx_nil, List.foldl_nil, List.length_nil, Nat.add_zero]; rw [if_neg (by omega)]
  | cons x l ih =>
    simp only [List.zipIdx_cons, List.foldl_cons, List.length_cons] at hb ⊢
    rw [ih (n + 1) _ (by simp; omega), Array.getElem?_setIfInBounds]
    by_cases h1 : off + n = p
    · subst h1
      rw [if_neg (by omega), if_pos (by omega), if_pos (by omega)]
      simp
    · by_cases h2 : off + (n + 1) ≤ p ∧ p < off + (n + 1) + l.length
      · rw [if_pos h2, if_pos (by omega), show p - (off + n) = (p - (off + (n + 1))) + 1 by omega, List.getElem?_cons_succ]
      · rw [if_neg h2, if_neg h1, if_neg (by omega)]

theorem fill_sound (places : Nat → Option (Nat × Nat)) : ∀ (parts : List (Nat × AV)) (pv : List (Nat × Value)) (cells : List AV) (arr : Array Value) (out : List AV),
    parts.length = pv.length → (∀ (j : Nat) (p : Nat × AV) (q : Nat × Value), parts[j]? = some p → pv[j]? = some q → p.1 = q.1 ∧ Rel σ w p.2 q.2) → RelL σ w cells arr →
    afill places cells parts = some out → ∃ res, Instr.fill places arr pv = some res ∧ RelL σ w out res
  | [], [], cells, arr, out, _, _, hr, h => by
    simp only [afill, Option.some.injEq] at h; subst h
    exact ⟨arr, rfl, hr⟩
  | [], _ :: _, _, _, _, hl, _, _, _ => by cases hl
  | _ :: _, [], _, _, _, hl, _, _, _ => by cases hl
  | (i, x) :: parts, (i', v) :: pv, cells, arr, out, hl, hp, hr, h => by
    obtain ⟨h0, hxv⟩ := hp 0 _ _ rfl rfl
    simp only at h0 hxv
    subst h0
    simp only [afill] at h
    split at h
    · rename_i off size cs hpl hcs
      split at h
      · rename_i hcond
        have hv := AV.cells_val hxv hcs
        have hvs : v.cells.size = cs.length := hv.1.symm
        have hra : RelL σ w (asplice cells off cs) (v.cells.zipIdx.foldl (fun cs (c, j) => cs.setIfInBounds (off + j) c) arr) := by
          have hcl := hr.1
          have e : v.cells.zipIdx.foldl (fun cs (c, j) => cs.setIfInBounds (off + j) c) arr =
              (v.cells.toList.zipIdx 0).foldl (fun cs (c : Value × Nat) => cs.setIfInBounds (off + c.2) c.1) arr := by
            rw [← Array.foldl_toList, Array.toList_zipIdx]
          rw [e]
          have hb : off + 0 + v.cells.toList.length ≤ arr.size := by simp; omega
          refine ⟨by simp [asplice, foldl_set_size]; omega, fun p c u hc hu => ?_⟩
          rw [foldl_set_get _ off 0 arr p hb] at hu
          simp only [asplice, List.append_assoc, List.getElem?_append, List.length_take, List.getElem?_take, List.getElem?_drop] at hc
          simp only [Nat.add_zero, Array.length_toList, Array.getElem?_toList] at hu
          have hmin : min off cells.length = off := by omega
          rw [hmin] at hc
          by_cases h1 : p < off
          · rw [if_pos h1, if_pos h1] at hc
            rw [if_neg (by omega)] at hu
            exact hr.2 p c u hc hu
          · rw [if_neg h1] at hc
            by_cases h2 : p - off < cs.length
            · rw [if_pos h2] at hc
              rw [if_pos (by omega)] at hu
              exact hv.2 _ c u hc hu
            · rw [if_neg h2] at hc
              rw [if_neg (by omega)] at hu
              have : off + cs.length + (p - off - cs.length) = p := by omega
              rw [this] at hc
              exact hr.2 p c u hc hu
        obtain ⟨res, h1, h2⟩ := fill_sound places parts pv _ _ out (by simpa using hl) (fun j p q hj hq => hp (j + 1) p q (by simpa using hj) (by simpa using hq)) hra h
        refine ⟨res, ?_, h2⟩
        have hcl := hr.1
        simp only [Instr.fill, hpl]
        rw [if_neg (by simp; omega)]
        exact h1
      · cases h
    · cases h

end Go.Aw

/- The operations on abstract values are sound, second part: building and loading. -/
set_option linter.unusedSimpArgs false
set_option linter.unusedVariables false
namespace Go.Aw
open Go
variable {P : Program} {σ : Sto} {w : World} {k : AV → Sto → Prop}

theorem run_places : ∀ (fs : List Field) (pl : List (Nat × Nat)), fs.mapM (fun f => (P.info? f.type).map fun j => (f.offset, j.size)) = some pl →
    (fs.mapM (fun f => do pure (f.offset, ← sizeOf f.type)) : Sem (List (Nat × Nat))).run P w = .ok pl w
  | [], pl, h => by
    simp only [List.mapM_nil] at h
    cases h
    simp
  | f :: fs, pl, h => by
    simp only [List.mapM_cons] at h
    cases hi : P.info? f.type with
    | none => rw [hi] at h; cases h
    | some i =>
      rw [hi] at h
      simp only [Option.map_some, Option.bind_eq_bind, Option.bind_some] at h
      cases hr : fs.mapM (fun f => (P.info? f.type).map fun j => (f.offset, j.size)) with
      | none => rw [hr] at h; cases h
      | some pl' =>
        rw [hr] at h
        simp only [Option.bind_some, Option.pure_def, Option.some.injEq] at h
        subst h
        have ih := run_places fs pl' hr
        have hz : ∀ w, (sizeOf f.type).run P w = .ok i.size w := run_sizeOf (by simp [tySize, hi])
        simp only [List.mapM_cons, Sem.run_bind, hz, Result.andThen, Sem.run_pure]
        rw [ih]

def Parts (σ : Sto) (w : World) (ps : List (Nat × AV)) (pv : List (Nat × Value)) : Prop :=
  ps.length = pv.length ∧ ∀ (j : Nat) (p : Nat × AV) (q : Nat × Value), ps[j]? = some p → pv[j]? = some q → p.1 = q.1 ∧ Rel σ w p.2 q.2

theorem arr_spec {t : TypeId} {n : Nat} {e : TypeId} {es : Nat} (h : tyArr P t = some (n, e, es)) : P.underlying t = some (.array n e) ∧ ∀ w, (sizeOf e).run P w = .ok es w := by
  unfold tyArr at h
  split at h
  · rename_i n' e' hu
    cases hi : P.info? e' with
    | none => rw [hi] at h; cases h
    | some i =>
      rw [hi] at h
      simp only [Option.some.injEq, Prod.mk.injEq] at h
      obtain ⟨rfl, rfl, rfl⟩ := h
      exact ⟨hu, run_sizeOf (by simp [tySize, hi])⟩
  · cases h

theorem buildA_sound {t : TypeId} {ps : List (Nat × AV)} {pv : Array (Nat × Value)} (hs : St σ w) (hp : Parts σ w ps pv.toList) (h : aBuildA P t ps σ k) :
    SemOK P (Instr.build t pv) σ w k := by
  unfold aBuildA at h
  split at h
  · rename_i n e es z ha hz
    obtain ⟨hu, hsz⟩ := arr_spec ha
    split at h
    · rename_i cs hf
      obtain ⟨v, hv, hzz⟩ := zero_spec hz
      obtain ⟨res, h1, h2⟩ := fill_sound (σ := σ) (w := w) (fun i => some (i * es, es)) ps pv.toList z v.cells cs hp.1 hp.2 (by rw [hzz]; exact rel_zero _) hf
      refine SemOK.same hs (v := .agg res) ?_ (.agg _ _ h2.1 h2.2) h
      simp only [Instr.build, Sem.run_bind, hv, Result.andThen, run_underlying hu, hsz, h1]
      rfl
    · exact h.elim
  · exact h.elim

theorem build_sound {t : TypeId} {ps : List (Nat × AV)} {pv : Array (Nat × Value)} (hs : St σ w) (hp : Parts σ w ps pv.toList) (h : aBuild P t ps σ k) :
    SemOK P (Instr.build t pv) σ w k := by
  unfold aBuild at h
  split at h
  · rename_i pl z hpl hz
    split at h
    · rename_i cs hf
      obtain ⟨v, hv, hzz⟩ := zero_spec hz
      unfold tyPlaces at hpl
      split at hpl
      · rename_i fs hu
        have hpr := run_places (P := P) (w := w) fs.toList pl hpl
        obtain ⟨res, h1, h2⟩ := fill_sound (σ := σ) (w := w) (pl[·]?) ps pv.toList z v.cells cs hp.1 hp.2 (by rw [hzz]; exact rel_zero _) hf
        refine SemOK.same hs (v := .agg res) ?_ (.agg _ _ h2.1 h2.2) h
        have h1' : Instr.fill (fun x => pl.toArray[x]?) v.cells pv.toList = some res := by simpa using h1
        simp only [Instr.build, Sem.run_bind, hv, Result.andThen, run_underlying hu, Array.mapM_eq_mapM_toList, Sem.run_map, hpr, h1']
        rfl
      · cases hpl
    · exact h.elim
  · exact h.elim

theorem elem_spec {t e : TypeId} {es bytes : Nat} (h : tyElem P t = some (e, es, bytes)) :
    P.underlying t = some (.slice e) ∧ ∃ i z, P.info? e = some i ∧ i.zero = some z ∧ i.size = es ∧ i.bytes = bytes ∧ z.cells.size = es ∧ 0 < es := by
  unfold tyElem at h
  split at h
  · rename_i e' hu
    cases hi : P.info? e' with
    | none => rw [hi] at h; cases h
    | some i =>
      rw [hi] at h
      simp only at h
      cases hz : i.zero with
      | none => rw [hz] at h; cases h
      | some z =>
        rw [hz] at h
        simp only at h
        split at h
        · rename_i hc
          simp only [Option.some.injEq, Prod.mk.injEq] at h
          obtain ⟨rfl, rfl, rfl⟩ := h
          exact ⟨hu, i, z, hi, hz, rfl, rfl, hc.1, hc.2⟩
        · cases h
  · cases h

theorem length_zeros (z : List AV) (n : Nat) : (zeros z n).length = n * z.length := by
  induction n with
  | zero => simp [zeros]
  | succ n ih => simp [zeros, ih, Nat.succ_mul]; omega

theorem get_zeros (z : List AV) (hz : 0 < z.length) : ∀ (n p : Nat), p < n * z.length → (zeros z n)[p]? = z[p % z.length]?
  | 0, p, h => by simp at h
  | n + 1, p, h => by
    simp only [zeros, List.getElem?_append]
    by_cases hp : p < z.length
    · rw [if_pos hp, Nat.mod_eq_of_lt hp]
    · rw [if_neg hp, get_zeros z hz n _ (by rw [Nat.succ_mul] at h; omega), Nat.mod_eq_sub_mod (Nat.le_of_not_lt hp)]

theorem length_chunk (es : Nat) : ∀ (n : Nat) (l : List AV), (chunk es l n).length = n
  | 0, _ => rfl
  | n + 1, l => by simp [chunk, length_chunk es n]
theorem flatten_chunk (es : Nat) : ∀ (n : Nat) (l : List AV), l.length = n * es → (chunk es l n).flatten = l
  | 0, l, h => by simp at h; simp [chunk, h]
  | n + 1, l, h => by
    rw [Nat.succ_mul] at h
    simp only [chunk, List.flatten_cons]
    rw [flatten_chunk es n _ (by simp; omega), List.take_append_drop]
theorem rows_chunk (es : Nat) : ∀ (n : Nat) (l : List AV), l.length = n * es → ∀ r ∈ chunk es l n, r.length = es
  | 0, l, h, r, hr => by simp [chunk] at hr
  | n + 1, l, h, r, hr => by
    rw [Nat.succ_mul] at h
    simp only [chunk, List.mem_cons] at hr
    rcases hr with rfl | hr
    · simp; omega
    · exact rows_chunk es n _ (by simp; omega) r hr

/-- A slice over a new block, whole. -/
theorem new_slice {cs : List AV} {arr : Array Value} {e es n : Nat} (hs : St σ w) (hr : RelL σ w cs arr) (hn : cs.length = n * es) :
    Rel σ (w.alloc (.cells arr e)) (.slice .clip (chunk es cs n)) (.slice (some ⟨w.heap.size, 0, none⟩) n n) := by
  have hx := ext_alloc hs (.cells arr e) σ (fun _ _ => rfl)
  refine .slice .clip _ _ n n es (fun p => arr.getD p undef) (length_chunk es n cs) (Nat.le_refl _) (rows_chunk es n cs hn) rfl ?_ ?_
  · intro p c hp
    rw [flatten_chunk es n cs hn] at hp
    have hlt : p < arr.size := by rw [← hr.1]; exact (List.getElem?_eq_some_iff.1 hp).1
    refine ⟨_, 0, rfl, .inl hs.new, ?_⟩
    unfold World.cell?
    simp only [heap_alloc_at, Nat.zero_add]
    simp [Array.getD, hlt]
  · intro p c hp
    rw [flatten_chunk es n cs hn] at hp
    have hlt : p < arr.size := by rw [← hr.1]; exact (List.getElem?_eq_some_iff.1 hp).1
    exact (hr.2 p c _ hp (by simp [Array.getD, hlt])).mono hx

theorem buildSlice_sound {t : TypeId} {n : Nat} {ps : List (Nat × AV)} {pv : Array (Nat × Value)} (hs : St σ w) (hp : Parts σ w ps pv.toList)
    (h : aBuildSlice P t n ps σ k) : SemOK P (Instr.buildSlice t n pv) σ w k := by
  unfold aBuildSlice at h
  split at h
  · rename_i e es bytes he
    obtain ⟨hu, i, z, hi, hz, hsz, _, hzs, hpos⟩ := elem_spec he
    split at h
    · rename_i za hza
      obtain ⟨hle, h⟩ := h
      obtain ⟨v, hv, hzz⟩ := zero_spec hza
      have hvz : v = z := by
        have h1 := hv default
        simp [zeroValue, typeInfo, hi, hz] at h1
        exact h1.symm
      subst hvz
      split at h
      · rename_i cs hf
        have hzl : za.length = es := by rw [hzz]; simp [hzs]
        have hr0 : RelL σ w (zeros za n) ((Array.range (n * es)).map (v.cells[· % v.cells.size]!)) := by
          refine ⟨by simp [length_zeros, hzl], fun p c u hc hu => ?_⟩
          have hlt : p < n * za.length := by have := (List.getElem?_eq_some_iff.1 hc).1; rwa [length_zeros] at this
          rw [get_zeros za (by omega) n p hlt] at hc
          rw [hzl] at hlt hc
          have hu' : u = v.cells[p % v.cells.size]! := by simpa [hlt] using hu.symm
          have hm : p % es < v.cells.size := by rw [hzs]; exact Nat.mod_lt _ hpos
          rw [hzz] at hc
          have h2 := (rel_zero (σ := σ) (w := w) v.cells).2 (p % es) c (v.cells[p % es]) hc (by simp [hm])
          rw [hu', hzs]
          simpa [hm] using h2
        obtain ⟨res, h1, h2⟩ := fill_sound (σ := σ) (w := w) (fun i => some (i * es, es)) ps pv.toList _ _ cs hp.1 hp.2 hr0 hf
        have hcl : cs.length = n * es := by
          have : ∀ (ps : List (Nat × AV)) (a out : List AV), afill (fun i => some (i * es, es)) a ps = some out → out.length = a.length := by
            intro ps
            induction ps with
            | nil => intro a out h; simp only [afill, Option.some.injEq] at h; rw [h]
            | cons p ps ih =>
              intro a out h
              obtain ⟨j, x⟩ := p
              simp only [afill] at h
              split at h
              · split at h
                · rename_i hcond
                  rw [ih _ _ h]; simp [asplice]; omega
                · cases h
              · cases h
          rw [this _ _ _ hf, length_zeros, hzl]
        have hx := ext_alloc hs (.cells res e) σ (fun _ _ => rfl)
        refine ⟨.slice (some ⟨w.heap.size, 0, none⟩) n n, _, σ, w.alloc (.cells res e), ?_, h, St.alloc hs _ _ (fun _ _ => rfl) (.inl hs.new), new_slice hs h2 hcl, hx⟩
        have hbig : ¬ (n * es > 2 ^ 24) := by omega
        by_cases h0 : n * es = 0
        · have hn0 : n = 0 := by rcases Nat.mul_eq_zero.1 h0 with h | h <;> omega
          subst hn0
          rw [Nat.zero_mul] at h1
          have h1' : Instr.fill (fun i => some (i * es, es)) ((Array.range 0).map ((#[] : Array Value)[· % 0]!)) pv.toList = some res := by
            rw [show Array.range 0 = #[] from rfl] at h1 ⊢
            simpa using h1
          have hze : ∀ w, (sizeOf e).run P w = .ok es w := run_sizeOf (by simp [tySize, hi, hsz])
          simp only [Instr.buildSlice, Sem.run_bind, run_underlying hu, Result.andThen, hze, Nat.zero_mul, Sem.run_pure, if_true,
            show ¬ (0 > 2 ^ 24) by omega, if_false, Array.size_empty, h1', newRow, run_newObj, World.alloc_eq]
        · have hze : ∀ w, (sizeOf e).run P w = .ok es w := run_sizeOf (by simp [tySize, hi, hsz])
          simp only [Instr.buildSlice, Sem.run_bind, run_underlying hu, Result.andThen, hze, hbig, if_false, h0, hv,
            Sem.run_pure, h1, newRow, run_newObj, World.alloc_eq]
      · exact h.elim
    · exact h.elim
  · exact h.elim

theorem buildSliceM_sound {t : TypeId} {n : Nat} {ps : List (Nat × AV)} {pv : Array (Nat × Value)} (hs : St σ w) (hp : Parts σ w ps pv.toList)
    (h : aBuildSliceM P t n ps σ k) : SemOK P (Instr.buildSlice t n pv) σ w k := by
  unfold aBuildSliceM at h
  split at h
  · rename_i e es bytes he
    obtain ⟨hu, i, z, hi, hz, hsz, _, hzs, hpos⟩ := elem_spec he
    split at h
    · rename_i za hza
      obtain ⟨hle, h⟩ := h
      obtain ⟨v, hv, hzz⟩ := zero_spec hza
      have hvz : v = z := by
        have h1 := hv default
        simp [zeroValue, typeInfo, hi, hz] at h1
        exact h1.symm
      subst hvz
      split at h
      · rename_i cs hf
        have hzl : za.length = es := by rw [hzz]; simp [hzs]
        have hr0 : RelL σ w (zeros za n) ((Array.range (n * es)).map (v.cells[· % v.cells.size]!)) := by
          refine ⟨by simp [length_zeros, hzl], fun p c u hc hu => ?_⟩
          have hlt : p < n * za.length := by have := (List.getElem?_eq_some_iff.1 hc).1; rwa [length_zeros] at this
          rw [get_zeros za (by omega) n p hlt] at hc
          rw [hzl] at hlt hc
          have hu' : u = v.cells[p % v.cells.size]! := by simpa [hlt] using hu.symm
          have hm : p % es < v.cells.size := by rw [hzs]; exact Nat.mod_lt _ hpos
          rw [hzz] at hc
          have h2 := (rel_zero (σ := σ) (w := w) v.cells).2 (p % es) c (v.cells[p % es]) hc (by simp [hm])
          rw [hu', hzs]
          simpa [hm] using h2
        obtain ⟨res, h1, h2⟩ := fill_sound (σ := σ) (w := w) (fun i => some (i * es, es)) ps pv.toList _ _ cs hp.1 hp.2 hr0 hf
        have hcl : cs.length = n * es := by
          have : ∀ (ps : List (Nat × AV)) (a out : List AV), afill (fun i => some (i * es, es)) a ps = some out → out.length = a.length := by
            intro ps
            induction ps with
            | nil => intro a out h; simp only [afill, Option.some.injEq] at h; rw [h]
            | cons p ps ih =>
              intro a out h
              obtain ⟨j, x⟩ := p
              simp only [afill] at h
              split at h
              · split at h
                · rename_i hcond
                  rw [ih _ _ h]; simp [asplice]; omega
                · cases h
              · cases h
          rw [this _ _ _ hf, length_zeros, hzl]
        have hx := ext_alloc hs (.cells res e) (σ.set w.heap.size (.cells cs)) (fun b hb => by simp [Sto.set, hb])
        have hn63 : n ≤ 9223372036854775807 := by
          have : n * 1 ≤ n * es := Nat.mul_le_mul_left _ (by omega)
          omega
        refine ⟨.slice (some ⟨w.heap.size, 0, none⟩) n n, _, _, w.alloc (.cells res e), ?_, h _ hs.new, St.alloc hs _ _ (fun b hb => by simp [Sto.set, hb]) (.inr (.inl ⟨cs, by simp [Sto.set], h2.pre⟩)), .mslice _ _ _ _ n _ ⟨Nat.le_refl _, hn63⟩ (fun _ => ⟨rfl, res, e, heap_alloc_at w _, by have := h2.1; omega⟩), hx⟩
        have hbig : ¬ (n * es > 2 ^ 24) := by omega
        by_cases h0 : n * es = 0
        · have hn0 : n = 0 := by rcases Nat.mul_eq_zero.1 h0 with h | h <;> omega
          subst hn0
          rw [Nat.zero_mul] at h1
          have h1' : Instr.fill (fun i => some (i * es, es)) ((Array.range 0).map ((#[] : Array Value)[· % 0]!)) pv.toList = some res := by
            rw [show Array.range 0 = #[] from rfl] at h1 ⊢
            simpa using h1
          have hze : ∀ w, (sizeOf e).run P w = .ok es w := run_sizeOf (by simp [tySize, hi, hsz])
          simp only [Instr.buildSlice, Sem.run_bind, run_underlying hu, Result.andThen, hze, Nat.zero_mul, Sem.run_pure, if_true,
            show ¬ (0 > 2 ^ 24) by omega, if_false, Array.size_empty, h1', newRow, run_newObj, World.alloc_eq]
        · have hze : ∀ w, (sizeOf e).run P w = .ok es w := run_sizeOf (by simp [tySize, hi, hsz])
          simp only [Instr.buildSlice, Sem.run_bind, run_underlying hu, Result.andThen, hze, hbig, if_false, h0, hv,
            Sem.run_pure, h1, newRow, run_newObj, World.alloc_eq]
      · exact h.elim
    · exact h.elim
  · exact h.elim

theorem store_sound {t : TypeId} {a x : AV} {va vx : Value} (hs : St σ w) (ha : Rel σ w a va) (hx : Rel σ w x vx) (h : aStore P t a x σ k) :
    ∃ σ' w', (Instr.storeAt t va vx).run P w = .ok () w' ∧ k .any σ' ∧ St σ' w' ∧ Ext σ w σ' w' := by
  unfold aStore at h
  split at h
  · rename_i b off
    cases ha
    split at h
    · rename_i cs xs n hb hxc hz
      obtain ⟨hl, hone, hle, hk⟩ := h
      obtain ⟨vs, ty, hh, hcl, hcs⟩ := hs.cells b cs hb
      have hv := AV.cells_val hx hxc
      have hv' : RelL σ w xs vx.cells.toList.toArray := by simpa using hv
      have hsp := relP_splice (off := off) ⟨hcl, hcs⟩ hv' (by omega)
      have hvl := hv.1
      have h1 : ∀ u ∈ vx.cells.toList, u.oneCell' = true := by
        intro u hu
        obtain ⟨j, hj, rfl⟩ := List.getElem_of_mem hu
        have hjx : j < xs.length := by rw [hvl]; simpa using hj
        have h2 := hv.2 j xs[j] (vx.cells.toList[j]) (by simp [hjx]) (by simp at hj; simp [hj])
        exact (AV.one_val h2 (List.all_eq_true.1 hone _ (List.getElem_mem hjx))).1
      have hst := run_storeCells_at P b off ty vx.cells.toList 0 vs w hh (by simp; omega) h1
      rw [Nat.add_zero] at hst
      refine ⟨_, _, ?_, hk, St.row hs hb hh (by simp; omega) hsp, ext_row hs hb hh (by simp; omega)⟩
      simp only [Instr.storeAt, Instr.sureAddr, storeVar, Sem.run_bind, Sem.run_pure, Result.andThen, run_sizeOf hz]
      rw [if_neg (by simp; omega)]
      exact hst
    · exact h.elim
  · exact h.elim

end Go.Aw

/- The operations on abstract values are sound, third part: slices and fields. -/
set_option linter.unusedSimpArgs false
set_option linter.unusedVariables false
namespace Go.Aw
open Go
variable {P : Program} {σ : Sto} {w : World} {k : AV → Sto → Prop}

theorem kd_spec {t : TypeId} {d : Kd} (h : tyKd P t = some d) : ∃ u, P.underlying t = some u ∧ (match u with
    | .int k => Kd.int k | .string => .str | .bool => .bool | .pointer _ => .ptr | .func _ _ _ => .func | .interface _ => .iface | .map _ _ => .map | _ => .other) = d := by
  unfold tyKd at h
  cases hu : P.underlying t with
  | none => rw [hu] at h; cases h
  | some u => rw [hu] at h; simp only [Option.map_some, Option.some.injEq] at h; exact ⟨u, rfl, h⟩

theorem kd_str {t : TypeId} (h : tyKd P t = some .str) : P.underlying t = some .string := by
  obtain ⟨u, hu, hd⟩ := kd_spec h
  cases u <;> simp at hd
  exact hu
theorem kd_int {t : TypeId} {k : IntKind} (h : tyKd P t = some (.int k)) : P.underlying t = some (.int k) := by
  obtain ⟨u, hu, hd⟩ := kd_spec h
  cases u <;> simp at hd
  subst hd; exact hu
theorem kd_bool {t : TypeId} (h : tyKd P t = some .bool) : P.underlying t = some .bool := by
  obtain ⟨u, hu, hd⟩ := kd_spec h
  cases u <;> simp at hd
  exact hu
theorem kd_map {t : TypeId} (h : tyKd P t = some .map) : ∃ k e, P.underlying t = some (.map k e) := by
  obtain ⟨u, hu, hd⟩ := kd_spec h
  cases u <;> simp at hd
  exact ⟨_, _, hu⟩
theorem kd_ptr {t : TypeId} (h : tyKd P t = some .ptr) : ∃ e, P.underlying t = some (.pointer e) := by
  obtain ⟨u, hu, hd⟩ := kd_spec h
  cases u <;> simp at hd
  exact ⟨_, hu⟩
theorem kd_func {t : TypeId} (h : tyKd P t = some .func) : ∃ a b c, P.underlying t = some (.func a b c) := by
  obtain ⟨u, hu, hd⟩ := kd_spec h
  cases u <;> simp at hd
  exact ⟨_, _, _, hu⟩
theorem kd_iface {t : TypeId} (h : tyKd P t = some .iface) : ∃ a, P.underlying t = some (.interface a) := by
  obtain ⟨u, hu, hd⟩ := kd_spec h
  cases u <;> simp at hd
  exact ⟨_, hu⟩

/-! ### equality -/
theorem toList_inj {a b : ByteArray} (h : a.toList = b.toList) : a = b := by
  have e : ∀ (x : ByteArray), x.toList = x.data.toList := fun x => by
    have key : ∀ (n i : Nat) (acc : List UInt8), x.size - i = n → ByteArray.toList.loop x i acc = acc.reverse ++ x.data.toList.drop i := by
      intro n
      induction n with
      | zero =>
        intro i acc hi
        unfold ByteArray.toList.loop
        have : ¬ i < x.size := by omega
        rw [if_neg this, List.drop_eq_nil_of_le (by simpa using Nat.le_of_not_lt this)]
        simp
      | succ n ih =>
        intro i acc hi
        unfold ByteArray.toList.loop
        have hlt : i < x.size := by omega
        rw [if_pos hlt, ih (i + 1) _ (by omega)]
        have hl : i < x.data.toList.length := by simpa using hlt
        rw [List.drop_eq_getElem_cons hl]
        simp [ByteArray.get!, hlt]
    have := key (x.size - 0) 0 [] rfl
    simpa [ByteArray.toList] using this
  rw [e, e] at h
  cases a; cases b
  simp at h
  congr

theorem str_eq (a b : ByteArray) : (a.toList == b.toList) = decide (a = b) := by
  by_cases h : a = b
  · subst h; simp
  · have : a.toList ≠ b.toList := fun e => h (toList_inj e)
    simp [h, this]

theorem equal_step {t : TypeId} {x y : Value} {r : Bool} (h : ∀ d, (Op.equalIn (d + 2) t x y).run P w = .ok r w) : (Op.equal t x y).run P w = .ok r w := h 9998

theorem isAgg_kd {t : TypeId} {d : Kd} (h : tyKd P t = some d) (hd : d ≠ .other) (w : World) : (isAgg t).run P w = .ok false w := by
  obtain ⟨u, hu, hh⟩ := kd_spec h
  simp only [isAgg, Sem.run_bind, run_underlying hu, Result.andThen]
  cases u <;> simp_all

theorem eqCell_sound {t : TypeId} {x y : AV} {vx vy : Value} {r : Bool} {kd : Kd} (hx : Rel σ w x vx) (hy : Rel σ w y vy) (h : eqCell kd x y = some r)
    (hk : tyKd P t = some kd) (d : Nat) : kd ≠ .other ∧ (Op.equalIn (d + 1) t vx vy).run P w = .ok r w := by
  unfold eqCell at h
  split at h
  · split at h
    · cases hx; cases hy
      simp only [Option.some.injEq] at h; subst h
      rename_i hkk; subst hkk
      refine ⟨by simp, ?_⟩
      rw [run_equalIn_int w d t _ _ _ _ (kd_int hk)]
      rename_i a _ b _
      congr 1
    · cases h
  · cases hx; cases hy
    simp only [Option.some.injEq] at h; subst h
    exact ⟨by simp, run_equalIn_bool' w d t _ _ (kd_bool hk)⟩
  · cases hx; cases hy
    simp only [Option.some.injEq] at h; subst h
    exact ⟨by simp, by rw [run_equalIn_string w d t _ _ (kd_str hk), str_eq]⟩
  · cases h

theorem eqFields_sound {xs ys : List AV} {vs us : Array Value} (hx : RelL σ w xs vs) (hy : RelL σ w ys us) (d : Nat) : ∀ (fs : List Field) (l : List (Nat × Kd)) (r : Bool),
    eqFs P fs = some l → eqCells xs ys l = some r → (Op.eqFields (d + 1) vs us fs).run P w = .ok r w
  | [], l, r, hl, hr => by
    simp only [eqFs, Option.some.injEq] at hl; subst hl
    simp only [eqCells, Option.some.injEq] at hr; subst hr
    rfl
  | f :: fs, l, r, hl, hr => by
    have step : ∀ (kd : Kd) (l' : List (Nat × Kd)), f.name ≠ "_" → tyKd P f.type = some kd → eqFs P fs = some l' → eqCells xs ys ((f.offset, kd) :: l') = some r →
        (Op.eqFields (d + 1) vs us (f :: fs)).run P w = .ok r w := by
      intro kd l' hn hk hl' hr
      simp only [eqCells] at hr
      split at hr
      · rename_i x y h1 h2
        split at hr
        · rename_i a b ha hb
          simp only [Option.some.injEq] at hr
          have hlx : f.offset < vs.size := by rw [← hx.1]; exact (List.getElem?_eq_some_iff.1 h1).1
          have hly : f.offset < us.size := by rw [← hy.1]; exact (List.getElem?_eq_some_iff.1 h2).1
          obtain ⟨hne, he⟩ := eqCell_sound (P := P) (hx.2 _ x vs[f.offset] h1 (by simp [hlx])) (hy.2 _ y us[f.offset] h2 (by simp [hly])) ha hk d
          have hagg := isAgg_kd hk hne
          have ih := eqFields_sound hx hy d fs l' b hl' hb
          simp only [Op.eqFields, hn, ne_eq, not_false_eq_true, if_true, Sem.run_bind, part, hagg, Result.andThen, Bool.false_eq_true, if_false,
            Array.getElem?_eq_getElem hlx, Array.getElem?_eq_getElem hly, Sem.run_pure, he]
          cases a
          · simp only [Bool.not_false, if_true, Sem.run_pure]; rw [← hr]; simp
          · simp only [Bool.not_true, Bool.false_eq_true, if_false, ih]; rw [← hr]; simp
        · cases hr
      · cases hr
    simp only [eqFs] at hl
    split at hl
    · cases hl
    · rename_i hn
      split at hl
      · rename_i k l' h1 h2; cases hl; exact step _ l' hn h1 h2 hr
      · rename_i l' h1 h2; cases hl; exact step _ l' hn h1 h2 hr
      · rename_i l' h1 h2; cases hl; exact step _ l' hn h1 h2 hr
      · cases hl

theorem eq_sound {t : TypeId} {x y : AV} {vx vy : Value} {r : Bool} (hx : Rel σ w x vx) (hy : Rel σ w y vy) (xo yo : Operand) (h : aEq P t (isLit xo || isLit yo) x y = some r) :
    (do eqGuard .eql t xo yo vx vy; Go.binOp .eql t vx vy : Sem Value).run P w = .ok (.bool r) w ∧
    (do eqGuard .neq t xo yo vx vy; Go.binOp .neq t vx vy : Sem Value).run P w = .ok (.bool !r) w := by
  have key : ∀ (vx vy : Value), ((eqGuard .eql t xo yo vx vy).run P w = .ok () w ∧ (eqGuard .neq t xo yo vx vy).run P w = .ok () w) →
      (Go.binOp .eql t vx vy = (do pure (.bool (← Op.equal t vx vy))) ∧ Go.binOp .neq t vx vy = (do pure (.bool (!(← Op.equal t vx vy))))) →
      (∀ d, (Op.equalIn (d + 2) t vx vy).run P w = .ok r w) →
      (do eqGuard .eql t xo yo vx vy; Go.binOp .eql t vx vy : Sem Value).run P w = .ok (.bool r) w ∧
      (do eqGuard .neq t xo yo vx vy; Go.binOp .neq t vx vy : Sem Value).run P w = .ok (.bool !r) w := by
    intro vx vy hg hb he
    rw [Sem.run_bind, hg.1, Sem.run_bind, hg.2, hb.1, hb.2]
    simp only [Result.andThen, Sem.run_bind, equal_step he, Sem.run_pure, and_self]
  have key1 : ∀ (vx vy : Value), ((eqGuard .eql t xo yo vx vy).run P w = .ok () w ∧ (eqGuard .neq t xo yo vx vy).run P w = .ok () w) →
      (Go.binOp .eql t vx vy = (do pure (.bool (← Op.equal t vx vy))) ∧ Go.binOp .neq t vx vy = (do pure (.bool (!(← Op.equal t vx vy))))) →
      (∀ d, (Op.equalIn (d + 1) t vx vy).run P w = .ok r w) →
      (do eqGuard .eql t xo yo vx vy; Go.binOp .eql t vx vy : Sem Value).run P w = .ok (.bool r) w ∧
      (do eqGuard .neq t xo yo vx vy; Go.binOp .neq t vx vy : Sem Value).run P w = .ok (.bool !r) w := fun vx vy a b c => key vx vy a b fun d => c (d + 1)
  unfold aEq at h
  split at h
  case h_10 xs ys hk =>
    cases hx with
    | agg _ vs hlx hrx =>
      cases hy with
      | agg _ us hly hry =>
        split at h
        · rename_i l hl
          unfold tyEq at hl
          split at hl
          · rename_i fs hu
            split at hl
            · rename_i hc
              have hf : P.fieldsOf t = fs := by simp [Program.fieldsOf, hu]
              have hu' : P.underlying t = some (.struct (P.fieldsOf t)) := by rw [hf]; exact hu
              refine key _ _ ⟨run_eqGuard_agg w .eql t xo yo vs us hc.2, run_eqGuard_agg w .neq t xo yo vs us hc.2⟩ ⟨rfl, rfl⟩ (fun d => ?_)
              rw [run_equalIn_struct w (d + 1) t vs us hu' hc.1, hf]; exact eqFields_sound ⟨hlx, hrx⟩ ⟨hly, hry⟩ d _ _ _ hl h
            · cases hl
          · cases hl
        · cases h
  case h_12 hk =>
    split at h
    · rename_i hl
      simp only [Option.some.injEq] at h; subst h
      obtain ⟨_, hu⟩ := kd_iface hk; cases hx; cases hy
      have hg : ∀ op, op = .eql ∨ op = .neq → (eqGuard op t xo yo .nilIface .nilIface).run P w = .ok () w := by
        intro op hop
        rcases hop with rfl | rfl <;> (cases xo <;> cases yo <;> first | rfl | exact Bool.noConfusion hl)
      refine key1 _ _ ⟨hg _ (.inl rfl), hg _ (.inr rfl)⟩ ⟨rfl, rfl⟩ fun d => ?_
      simp only [Op.equalIn, Sem.run_bind, run_underlying hu, Result.andThen]; rfl
    · cases h
  all_goals first | (cases h; done) | skip
  all_goals (simp only [Option.some.injEq] at h; subst h)
  · rename_i hk; cases hx; cases hy
    refine key1 _ _ ⟨rfl, rfl⟩ ⟨rfl, rfl⟩ fun d => ?_
    simp only [Op.equalIn, Sem.run_bind, run_underlying (kd_bool hk), Result.andThen]; rfl
  · rename_i hk; obtain ⟨e, hu⟩ := kd_ptr hk; cases hx; cases hy
    refine key1 _ _ ⟨rfl, rfl⟩ ⟨rfl, rfl⟩ fun d => ?_
    simp only [Op.equalIn, Sem.run_bind, run_underlying hu, Result.andThen]; rfl
  · rename_i hk; obtain ⟨e, hu⟩ := kd_ptr hk; cases hx; cases hy
    refine key1 _ _ ⟨rfl, rfl⟩ ⟨rfl, rfl⟩ fun d => ?_
    simp only [Op.equalIn, Sem.run_bind, run_underlying hu, Result.andThen]; rfl
  · rename_i hk; obtain ⟨e, hu⟩ := kd_ptr hk; cases hx; cases hy
    refine key1 _ _ ⟨rfl, rfl⟩ ⟨rfl, rfl⟩ fun d => ?_
    simp only [Op.equalIn, Sem.run_bind, run_underlying hu, Result.andThen]; rfl
  · rename_i hk; obtain ⟨_, _, hu⟩ := kd_map hk; cases hx; cases hy
    refine key1 _ _ ⟨rfl, rfl⟩ ⟨rfl, rfl⟩ fun d => ?_
    simp only [Op.equalIn, Sem.run_bind, run_underlying hu, Result.andThen]; rfl
  · rename_i hk; obtain ⟨_, _, hu⟩ := kd_map hk; cases hx; cases hy
    refine key1 _ _ ⟨rfl, rfl⟩ ⟨rfl, rfl⟩ fun d => ?_
    simp only [Op.equalIn, Sem.run_bind, run_underlying hu, Result.andThen]; rfl
  · rename_i hk; obtain ⟨_, _, _, hu⟩ := kd_func hk; cases hx; cases hy
    refine key1 _ _ ⟨rfl, rfl⟩ ⟨rfl, rfl⟩ fun d => ?_
    simp only [Op.equalIn, Sem.run_bind, run_underlying hu, Result.andThen]; rfl
  · rename_i hk; obtain ⟨_, _, _, hu⟩ := kd_func hk; cases hx; cases hy
    refine key1 _ _ ⟨rfl, rfl⟩ ⟨rfl, rfl⟩ fun d => ?_
    simp only [Op.equalIn, Sem.run_bind, run_underlying hu, Result.andThen]; rfl
  · rename_i hk; obtain ⟨_, hu⟩ := kd_iface hk; cases hx; cases hy
    refine key1 _ _ ⟨rfl, rfl⟩ ⟨rfl, rfl⟩ fun d => ?_
    simp only [Op.equalIn, Sem.run_bind, run_underlying hu, Result.andThen]; rfl
  · rename_i hk; obtain ⟨_, hu⟩ := kd_iface hk; cases hx; cases hy
    refine key1 _ _ ⟨rfl, rfl⟩ ⟨rfl, rfl⟩ fun d => ?_
    simp only [Op.equalIn, Sem.run_bind, run_underlying hu, Result.andThen]; rfl

theorem nilEq_sound {op : BinOp} {t : TypeId} {x : AV} {vx : Value} (xo yo : Operand) (hs : St σ w) (hx : Rel σ w x vx) (h : aNilEq P op t x σ k) :
    SemOK P (do eqGuard op t xo yo vx (.slice none 0 0); Go.binOp op t vx (.slice none 0 0)) σ w k := by
  have key : ∀ (tok : Tok) (rows : List (List AV)) (a : Option Addr) (n cap : Nat), Rel σ w (.slice tok rows) (.slice a n cap) → (tyElem P t).isSome = true →
      (∀ d, (Op.equalIn (d + 2) t (.slice a n cap) (.slice none 0 0)).run P w = .ok a.isNone w) ∧ (a.isNone = true → rows.flatten = []) := by
    intro tok rows a n cap hr h0
    obtain ⟨⟨e, es, by'⟩, he⟩ := Option.isSome_iff_exists.1 h0
    have hu := (elem_spec he).1
    have one : ∀ d, (Op.equalIn (d + 1) t (.slice a n cap) (.slice none 0 0)).run P w = .ok a.isNone w := fun d => by
      simp only [Op.equalIn, Sem.run_bind, run_underlying hu, Result.andThen]
      cases a <;> rfl
    refine ⟨fun d => one (d + 1), fun ha => ?_⟩
    · cases a with
      | some _ => cases ha
      | none =>
        cases hr with
        | slice _ _ _ _ _ es us hn hcap hes ht hc hrel =>
          cases hf : rows.flatten with
          | nil => rfl
          | cons c l =>
            obtain ⟨_, _, hb, _⟩ := hc 0 c (by rw [hf]; rfl)
            cases hb
  unfold aNilEq at h
  split at h
  · rename_i tok rows
    obtain ⟨h0, h⟩ := h
    have hx' := hx
    cases hx with
    | slice _ _ a n cap es us hn hcap hes ht hc hrel =>
      obtain ⟨h1, h2⟩ := key tok rows a n cap hx' h0
      refine SemOK.same hs (v := .bool a.isNone) ?_ (.sc _) (h _ h2)
      have hg : (eqGuard .eql t xo yo (.slice a n cap) (.slice none 0 0)).run P w = .ok () w := rfl
      rw [Sem.run_bind, hg]
      simp only [Result.andThen, Go.binOp, Sem.run_bind, equal_step h1, Sem.run_pure]
  · rename_i tok rows
    obtain ⟨h0, h⟩ := h
    have hx' := hx
    cases hx with
    | slice _ _ a n cap es us hn hcap hes ht hc hrel =>
      obtain ⟨h1, h2⟩ := key tok rows a n cap hx' h0
      refine SemOK.same hs (v := .bool !a.isNone) ?_ (.sc _) (h _ h2)
      have hg : (eqGuard .neq t xo yo (.slice a n cap) (.slice none 0 0)).run P w = .ok () w := rfl
      rw [Sem.run_bind, hg]
      simp only [Result.andThen, Go.binOp, Sem.run_bind, equal_step h1, Sem.run_pure]
  · exact h.elim

theorem bin_sound {op : BinOp} {t : TypeId} {x y : AV} {vx vy : Value} (xo yo : Operand) (hs : St σ w) (hx : Rel σ w x vx) (hy : Rel σ w y vy) (h : aBin P op t (isLit xo || isLit yo) x y σ k) :
    SemOK P (do eqGuard op t xo yo vx vy; Go.binOp op t vx vy) σ w k := by
  unfold aBin at h
  split at h
  · rename_i ka a kb b
    cases hx; cases hy
    obtain ⟨rfl, h⟩ := h
    have hg : (eqGuard op t xo yo (.int ka a) (.int ka b)).run P w = .ok () w := by cases op <;> rfl
    split at h
    · rename_i v hv
      refine SemOK.same hs (v := v) ?_ (.sc v) h
      rw [Sem.run_bind, hg]
      simp only [Result.andThen]
      cases op <;> simp only [scInt, Option.some.injEq, Prod.mk.injEq, Bool.true_eq_false, Bool.false_eq_true, and_false, and_true, reduceCtorEq] at hv <;> subst hv <;>
        simp [Go.binOp, Op.intArith, Op.intCmp, Op.intBits] <;>
        first | rfl | (by_cases hh : a = b <;> simp [hh]) | skip
    · rename_i v hv
      obtain ⟨hb, h⟩ := h
      refine SemOK.same hs (v := v) ?_ (.sc v) h
      rw [Sem.run_bind, hg]
      simp only [Result.andThen]
      cases op <;> simp only [scInt, Option.some.injEq, Prod.mk.injEq, Bool.true_eq_false, Bool.false_eq_true, and_false, and_true, reduceCtorEq] at hv <;> subst hv <;>
        simp [Go.binOp, Op.intDiv, hb]
    · exact h.elim
  · rename_i a b
    cases hx; cases hy
    have hg : (eqGuard op t xo yo (.string a) (.string b)).run P w = .ok () w := by cases op <;> rfl
    split at h
    · obtain ⟨hle, h⟩ := h
      refine SemOK.same hs (v := .string (a ++ b)) ?_ (.sc _) h
      rw [Sem.run_bind, hg]
      have hmax : IntKind.i64.max = 9223372036854775807 := by decide
      have : ¬ (((a.size + b.size : Nat) : Int) > IntKind.i64.max) := by rw [hmax]; omega
      simp only [Result.andThen, Go.binOp, Op.stringOp]
      rw [if_neg this]
      rfl
    · split at h
      · rename_i v hv
        refine SemOK.same hs (v := v) ?_ (.sc v) h
        rw [Sem.run_bind, hg]
        simp only [Result.andThen]
        cases op <;> simp only [scStr, Option.some.injEq, reduceCtorEq] at hv <;> subst hv <;> simp [Go.binOp, Op.stringOp, ← str_eq]
      · exact h.elim
  · split at h
    · split at h
      · rename_i r hr
        refine SemOK.same hs (v := .bool r) ?_ (.sc _) h
        exact (eq_sound (P := P) hx hy xo yo hr).1
      · exact h.elim
    · split at h
      · rename_i r hr
        refine SemOK.same hs (v := .bool !r) ?_ (.sc _) h
        exact (eq_sound (P := P) hx hy xo yo hr).2
      · exact h.elim
    · exact h.elim

theorem un_sound {op : UnOp} {x : AV} {v : Value} (hs : St σ w) (hx : Rel σ w x v) (h : aUn op x σ k) : SemOK P (Op.unary op v) σ w k := by
  unfold aUn at h
  split at h
  · cases hx; exact SemOK.same hs (v := .bool !_) (by simp [Op.unary]) (.sc _) h
  · cases hx; exact SemOK.same hs (by simp [Op.unary, Op.intArith]) (.sc _) h
  · exact h.elim

theorem rowsBytes_spec : ∀ {rows : List (List AV)} {bs : List UInt8}, rowsBytes rows = some bs → rows.flatten = bs.map fun b => AV.sc (.int .u8 b.toNat)
  | [], bs, h => by simp only [rowsBytes, Option.some.injEq] at h; subst h; rfl
  | r :: l, bs, h => by
    simp only [rowsBytes] at h
    split at h
    · rename_i b bs' h1 h2
      cases h
      have ih := rowsBytes_spec h2
      unfold rowByte at h1
      split at h1
      · rename_i n
        split at h1
        · rename_i hn
          cases h1
          have e : n = ((UInt8.ofNat n.toNat).toNat : Int) := by simp; omega
          simp only [List.flatten_cons, List.map_cons, ih, List.cons_append, List.nil_append]
          rw [← e]
        · cases h1
      · cases h1
    · cases h

theorem conv_sound {s d : TypeId} {x : AV} {v : Value} (hs : St σ w) (hx : Rel σ w x v) (h : aConv P s d x σ k) : SemOK P (convert s d v) σ w k := by
  unfold aConv at h
  obtain ⟨h0, h⟩ := h
  obtain ⟨ds, hds⟩ := Option.isSome_iff_exists.1 h0
  obtain ⟨us, hus, _⟩ := kd_spec hds
  split at h
  · rename_i ki k' n hk
    cases hx
    exact SemOK.same hs (by cases us <;> simp [convert, run_underlying hus, run_underlying (kd_int hk), Conv.intToInt]) (.sc _) h
  · rename_i b hk
    cases hx
    exact SemOK.same hs (by cases us <;> simp [convert, run_underlying hus, run_underlying (kd_str hk)]) (.sc _) h
  · rename_i t rows hk
    obtain ⟨hb, h⟩ := h
    unfold tyBytes at hb
    split at hb
    · rename_i e hue
      split at hb
      · rename_i hu8
        split at h
        · rename_i bs hbs
          have hfl := rowsBytes_spec hbs
          cases hx with
          | slice _ _ a n cap es us hn hcap hes ht hc hr =>
            have hlen : ∀ {rows : List (List AV)} {bs : List UInt8}, rowsBytes rows = some bs → rows.length = bs.length := by
              intro rows
              induction rows with
              | nil => intro bs h; simp only [rowsBytes, Option.some.injEq] at h; subst h; rfl
              | cons r l ih =>
                intro bs h
                simp only [rowsBytes] at h
                split at h
                · rename_i b bs' h1 h2; cases h; simp [ih h2]
                · cases h
            obtain rfl : n = bs.length := by rw [← hn, hlen hbs]
            refine SemOK.same hs (v := .string ⟨bs.toArray⟩) ?_ (.sc _) h
            cases a with
            | none =>
              have : bs = [] := by
                cases bs with
                | nil => rfl
                | cons b bs =>
                  obtain ⟨_, _, ha, _⟩ := hc 0 (.sc (.int .u8 b.toNat)) (by rw [hfl]; rfl)
                  cases ha
              subst this
              simp [convert, run_underlying hue, run_underlying hu8, run_underlying (kd_str hk), Conv.bytesToString]
              rfl
            | some a =>
              by_cases hz : bs = []
              · subst hz
                rw [run_convert_bytes_back w s d e a cap [] hue hu8 (kd_str hk) (fun j hj => by simp at hj)]
              · obtain ⟨b0, off0, ha, -, -⟩ := hc 0 (.sc (.int .u8 (bs.head hz).toNat)) (by rw [hfl]; cases bs with | nil => exact absurd rfl hz | cons _ _ => rfl)
                cases ha
                rw [run_convert_bytes_back w s d e _ cap bs hue hu8 (kd_str hk) (fun j hj => ?_)]
                have hj' : rows.flatten[j]? = some (AV.sc (.int .u8 bs[j].toNat)) := by rw [hfl]; simp [hj]
                obtain ⟨b1, off1, ha, -, hcell⟩ := hc j _ hj'
                cases ha
                have := hr j _ hj'
                generalize us j = u at this hcell
                cases this
                rw [add_at]
                exact hcell
        · exact h.elim
      · cases hb
    · cases hb
  · exact h.elim

theorem fieldAddr_sound {s : TypeId} {x : AV} {v : Value} {f : Nat} (hs : St σ w) (hx : Rel σ w x v) (h : aFieldAddr P s x f σ k) : SemOK P (Instr.fieldAt s v f) σ w k := by
  unfold aFieldAddr at h
  split at h
  · rename_i t off sz hf
    unfold tyField at hf
    split at hf
    · rename_i fs hu
      split at hf
      · rename_i fd hfd
        split at hf
        · rename_i i hi
          split at hf
          · cases hf
          · rename_i hne
            simp only [Option.some.injEq, Prod.mk.injEq] at hf
            obtain ⟨rfl, rfl, rfl⟩ := hf
            have hsz : ∀ w, (sizeOf fd.type).run P w = .ok i.size w := run_sizeOf (by simp [tySize, hi])
            have hrun : ∀ b o, (Instr.fieldAt s (.pointer (some ⟨b, o, none⟩)) f).run P w = .ok (.pointer (some ⟨b, o + fd.offset, none⟩)) w := by
              intro b o
              simp [Instr.fieldAt, run_underlying hu, hfd, Instr.sureAddr, fieldPlace, hsz, hne, add_at]
            split at h
            · cases hx; exact SemOK.same hs (hrun _ _) (.ptr _ _) h
            · cases hx with
              | iptr _ _ b base us hc hr =>
                refine SemOK.same hs (hrun _ _) ?_ h
                rw [Nat.add_assoc]
                exact .iptr _ _ b base us hc hr
            · exact h.elim
        · cases hf
      · cases hf
    · cases hf
  · exact h.elim

theorem field_sound {s : TypeId} {x : AV} {v : Value} {f : Nat} (hs : St σ w) (hx : Rel σ w x v) (h : aField P s x f σ k) : SemOK P (Instr.field s v f) σ w k := by
  unfold aField at h
  split at h
  · rename_i t off sz cs hf
    split at h
    · rename_i r hr
      unfold tyField at hf
      split at hf
      · rename_i fs hu
        split at hf
        · rename_i fd hfd
          split at hf
          · rename_i i hi
            split at hf
            · cases hf
            · simp only [Option.some.injEq, Prod.mk.injEq] at hf
              obtain ⟨rfl, rfl, rfl⟩ := hf
              cases hx with
              | agg _ vs hl hrel =>
                unfold loadAV at hr
                cases ha : tyAgg P fd.type with
                | none => rw [ha] at hr; cases hr
                | some g =>
                  rw [ha] at hr
                  cases g with
                  | false =>
                    have hlt : fd.offset < vs.size := by rw [← hl]; exact (List.getElem?_eq_some_iff.1 hr).1
                    refine SemOK.same hs (v := vs[fd.offset]) ?_ (hrel fd.offset r _ hr (by simp [hlt])) h
                    simp [Instr.field, run_underlying hu, hfd, asAgg, part, run_isAgg ha, hlt]
                  | true =>
                    cases hz : tySize P fd.type with
                    | none => rw [hz] at hr; cases hr
                    | some n =>
                      rw [hz] at hr
                      simp only at hr
                      split at hr
                      · rename_i hle
                        cases hr
                        refine SemOK.same hs (v := .agg (vs.extract fd.offset (fd.offset + n))) ?_ (.agg _ _ (by simp; omega) fun i c v hc hv => ?_) h
                        · simp [Instr.field, run_underlying hu, hfd, asAgg, part, run_isAgg ha, run_sizeOf hz]
                        · simp only [List.getElem?_take, List.getElem?_drop] at hc
                          split at hc
                          · rename_i hlt
                            rw [Array.getElem?_extract_of_lt (by have := (List.getElem?_eq_some_iff.1 hc).1; omega)] at hv
                            exact hrel _ c v hc (by simpa [show fd.offset + i < vs.size by have := (List.getElem?_eq_some_iff.1 hc).1; omega] using hv)
                          · cases hc
                      · cases hr
          · cases hf
        · cases hf
      · cases hf
    · exact h.elim
  · exact h.elim

/-! ### slices -/
theorem flatten_get : ∀ (rows : List (List AV)) (es i j : Nat) (r : List AV) (c : AV), (∀ r ∈ rows, r.length = es) → rows[i]? = some r → r[j]? = some c →
    rows.flatten[i * es + j]? = some c
  | [], _, _, _, _, _, _, h, _ => by simp at h
  | r0 :: rows, es, 0, j, r, c, hes, h, hj => by
    simp at h; subst h
    have hlt : j < r0.length := (List.getElem?_eq_some_iff.1 hj).1
    simp only [Nat.zero_mul, Nat.zero_add, List.flatten_cons]
    rw [List.getElem?_append_left hlt]
    exact hj
  | r0 :: rows, es, i + 1, j, r, c, hes, h, hj => by
    have h0 : r0.length = es := hes r0 (by simp)
    simp only [List.getElem?_cons_succ] at h
    have ih := flatten_get rows es i j r c (fun r hr => hes r (by simp [hr])) h hj
    simp only [List.flatten_cons, List.getElem?_append]
    rw [if_neg (by rw [h0, Nat.succ_mul]; omega), h0, Nat.succ_mul, show i * es + es + j - es = i * es + j by omega]
    exact ih

theorem length_flatten_of (es : Nat) : ∀ (rows : List (List AV)), (∀ r ∈ rows, r.length = es) → rows.flatten.length = rows.length * es
  | [], _ => by simp
  | r :: rows, h => by
    rw [List.flatten_cons, List.length_append, length_flatten_of es rows (fun r hr => h r (by simp [hr])), h r (by simp), List.length_cons, Nat.succ_mul]; omega

theorem flatten_drop (es l : Nat) : ∀ (rows : List (List AV)) , (∀ r ∈ rows, r.length = es) → ∀ p, (rows.drop l).flatten[p]? = rows.flatten[l * es + p]? := by
  induction l with
  | zero => intro rows _ p; simp
  | succ l ih =>
    intro rows h p
    cases rows with
    | nil => simp
    | cons r rows =>
      simp only [List.drop_succ_cons, List.flatten_cons]
      rw [ih rows (fun r hr => h r (by simp [hr])) p, List.getElem?_append, h r (by simp), if_neg (by rw [Nat.succ_mul]; omega), Nat.succ_mul]
      congr 1; omega

theorem flatten_take_get (l : Nat) : ∀ (rows : List (List AV)) (p : Nat) (c : AV), (rows.take l).flatten[p]? = some c → rows.flatten[p]? = some c := by
  intro rows p c h
  have e : rows.flatten = (rows.take l).flatten ++ (rows.drop l).flatten := by rw [← List.flatten_append, List.take_append_drop]
  rw [e, List.getElem?_append, if_pos (List.getElem?_eq_some_iff.1 h).1]
  exact h

theorem indexAddr_sound {t : TypeId} {x i : AV} {vx vi : Value} (hs : St σ w) (hx : Rel σ w x vx) (hi : Rel σ w i vi) (h : aIndexAddr P t x i σ k) :
    SemOK P (Instr.indexAt t vx vi) σ w k := by
  unfold aIndexAddr at h
  split at h
  · rename_i e es bytes tok rows ki n he
    obtain ⟨hu, inf, z, hin, _, hsz, _, _, hpos⟩ := elem_spec he
    cases hi
    obtain ⟨h0, h⟩ := h
    split at h
    · rename_i r hr
      obtain ⟨hlen, h⟩ := h
      cases hx with
      | slice _ _ a nn cap es' us hn hcap hes ht hc hrel =>
        have hmem : r ∈ rows := List.mem_of_getElem? hr
        have hes' : es' = es := by rw [← hes r hmem, hlen]
        subst hes'
        have hlt : n.toNat < rows.length := (List.getElem?_eq_some_iff.1 hr).1
        have hr0 : 0 < r.length := by omega
        obtain ⟨b, off, rfl, _, _⟩ := hc (n.toNat * es' + 0) r[0] (flatten_get rows es' n.toNat 0 r _ hes hr (by simp [hr0]))
        have hsize : ∀ w, (sizeOf e).run P w = .ok es' w := run_sizeOf (by simp [tySize, hin, hsz])
        refine SemOK.same hs (v := .pointer (some ⟨b, off + n.toNat * es', none⟩)) ?_ ?_ h
        · have hb : 0 ≤ n ∧ n < (nn : Int) := by omega
          simp [Instr.indexAt, asIntOf, run_underlying hu, hsize, hb, add_at]
        · have := Rel.iptr (σ := σ) (w := w) r 0 b (off + n.toNat * es') (fun j => us (n.toNat * es' + j)) (fun j c hj => by
            obtain ⟨b', off', e1, h1, h2⟩ := hc (n.toNat * es' + j) c (flatten_get rows es' n.toNat j r c hes hr hj)
            cases e1
            rw [← Nat.add_assoc] at h1 h2
            exact ⟨h1, h2⟩) (fun j c hj => hrel _ c (flatten_get rows es' n.toNat j r c hes hr hj))
          simpa using this
    · exact h.elim
  · exact h.elim

theorem index_sound {t : TypeId} {x i : AV} {vx vi : Value} (hs : St σ w) (hx : Rel σ w x vx) (hi : Rel σ w i vi) (h : aIndex P t x i σ k) :
    SemOK P (Instr.index t vx vi) σ w k := by
  unfold aIndex at h
  split at h
  · rename_i s ki n
    cases hx; cases hi
    obtain ⟨hk, h0, h⟩ := h
    split at h
    · rename_i b hb
      refine SemOK.same hs (v := .int .u8 b.toNat) ?_ (.sc _) h
      have hlt : n.toNat < s.size := by have := (List.getElem?_eq_some_iff.1 hb).1; simpa using this
      have hb' : s[n.toNat]? = some b := by
        have h1 := (List.getElem?_eq_some_iff.1 hb).2
        simp only [Array.getElem_toList] at h1
        rw [getElem?_pos s n.toNat hlt]
        exact congrArg some h1
      simp [Instr.index, asIntOf, run_underlying (kd_str hk), h0, hb']
    · exact h.elim
  · exact h.elim

theorem extract_sound {x : AV} {v : Value} {i : Nat} (hs : St σ w) (hx : Rel σ w x v) (h : aExtract x i σ k) : SemOK P (Instr.extract v i) σ w k := by
  unfold aExtract at h
  split at h
  · split at h
    · rename_i vs r hr
      cases hx with
      | tuple _ us hl hrel =>
        have hlt : i < us.size := by rw [← hl]; exact (List.getElem?_eq_some_iff.1 hr).1
        exact SemOK.same hs (v := us[i]) (by simp [Instr.extract, hlt]) (hrel i r _ hr (by simp [hlt])) h
    · exact h.elim
  · exact h.elim

end Go.Aw

/- The operations on abstract values are sound, fourth part. -/
set_option linter.unusedSimpArgs false
set_option linter.unusedVariables false
namespace Go.Aw
open Go
variable {P : Program} {σ : Sto} {w : World} {k : AV → Sto → Prop}

/-! ### slicing -/
theorem oInt_spec {x : Option AV} {v : Option Value} (hr : (x = none ∧ v = none) ∨ ∃ a b, x = some a ∧ v = some b ∧ Rel σ w a b) {r : Option Int} (h : oInt x = some r) :
    (r = none ∧ v = none) ∨ ∃ k n, r = some n ∧ v = some (.int k n) := by
  rcases hr with ⟨rfl, rfl⟩ | ⟨a, b, rfl, rfl, hab⟩
  · simp only [oInt, Option.some.injEq] at h; exact .inl ⟨h.symm, rfl⟩
  · unfold oInt at h
    split at h
    · rename_i he; cases he
    · rename_i ki n he
      simp only [Option.some.injEq] at he h
      subst he; subst h
      cases hab
      exact .inr ⟨_, _, rfl, rfl⟩
    · cases h

theorem run_bound {k : IntKind} {n : Int} {y : Nat} {c : BoundsCode} (h : 0 ≤ n ∧ n ≤ y) : (Instr.sliceBound (.int k n) y c).run P w = .ok n.toNat w := by
  simp [Instr.sliceBound, asIntOf, h]

theorem slice_sound {t : TypeId} {x : AV} {v : Value} {lo hi mx : Option AV} {vl vh vm : Option Value} (hs : St σ w) (hx : Rel σ w x v)
    (hl : (lo = none ∧ vl = none) ∨ ∃ a b, lo = some a ∧ vl = some b ∧ Rel σ w a b)
    (hh : (hi = none ∧ vh = none) ∨ ∃ a b, hi = some a ∧ vh = some b ∧ Rel σ w a b)
    (hm : (mx = none ∧ vm = none) ∨ ∃ a b, mx = some a ∧ vm = some b ∧ Rel σ w a b)
    (h : aSlice P t x lo hi mx σ k) : SemOK P (Instr.sliceAt t v vl vh vm) σ w k := by
  unfold aSlice at h
  split at h
  · rename_i tok rows
    split at h
    · rename_i e es bytes lo' hi' mx' he e1 e2 e3
      obtain ⟨hu, inf, z, hin, _, hsz, _, _, hpos⟩ := elem_spec he
      have hsize : ∀ w, (sizeOf e).run P w = .ok es w := run_sizeOf (by simp [tySize, hin, hsz])
      obtain ⟨⟨hl0, hl1, hh1, hmx, hes⟩, hk⟩ := h
      cases hx with
      | slice _ _ a n cap es' us hn hcap hes' ht hc hrel =>
        have L := oInt_spec hl e1
        have H := oInt_spec hh e2
        have M := oInt_spec hm e3
        -- the numbers
        generalize hlv : lo'.getD 0 = l at *
        generalize hhv : hi'.getD rows.length = hgh at *
        obtain ⟨m, hmv⟩ : ∃ m : Nat, m = (match mx' with | some _ => hgh.toNat | none => cap) := ⟨_, rfl⟩
        have hbounds : (Instr.sliceBounds true n cap vl vh vm).run P w = .ok (l.toNat, hgh.toNat, m) w := by
          rcases M with ⟨rfl, rfl⟩ | ⟨km, mm, rfl, rfl⟩
          · simp only at hmv
            subst hmv
            rcases H with ⟨rfl, rfl⟩ | ⟨kh, hhh, rfl, rfl⟩
            · simp only [Option.getD_none] at hhv
              subst hhv
              rcases L with ⟨rfl, rfl⟩ | ⟨kl, ll, rfl, rfl⟩
              · simp only [Option.getD_none] at hlv; subst hlv
                simp [Instr.sliceBounds, hn]
              · simp only [Option.getD_some] at hlv; subst hlv
                simp [Instr.sliceBounds, run_bound (show 0 ≤ ll ∧ ll ≤ ((n : Nat) : Int) by omega), hn]
            · simp only [Option.getD_some] at hhv
              subst hhv
              have hb := run_bound (P := P) (w := w) (k := kh) (n := hhh) (y := m) (c := .sliceAcap) (by omega)
              rcases L with ⟨rfl, rfl⟩ | ⟨kl, ll, rfl, rfl⟩
              · simp only [Option.getD_none] at hlv; subst hlv
                simp [Instr.sliceBounds, hb]
              · simp only [Option.getD_some] at hlv; subst hlv
                simp [Instr.sliceBounds, hb, run_bound (show 0 ≤ ll ∧ ll ≤ ((hhh.toNat : Nat) : Int) by omega)]
          · simp only at hmx hmv
            obtain ⟨hmx, hsome⟩ := hmx
            subst hmv
            rcases H with ⟨rfl, rfl⟩ | ⟨kh, hhh, rfl, rfl⟩
            · simp at hsome
            · simp only [Option.getD_some] at hhv
              subst hhv
              subst hmx
              have hb1 := run_bound (P := P) (w := w) (k := km) (n := mm) (y := cap) (c := .slice3Acap) (by omega)
              have hb2 := run_bound (P := P) (w := w) (k := kh) (n := mm) (y := mm.toNat) (c := .slice3B) (by omega)
              rcases L with ⟨rfl, rfl⟩ | ⟨kl, ll, rfl, rfl⟩
              · simp only [Option.getD_none] at hlv; subst hlv
                simp [Instr.sliceBounds, hb1, hb2]
              · simp only [Option.getD_some] at hlv; subst hlv
                simp [Instr.sliceBounds, hb1, hb2, run_bound (show 0 ≤ ll ∧ ll ≤ ((mm.toNat : Nat) : Int) by omega)]
        have hmc : hgh.toNat ≤ m ∧ m ≤ cap := by
          rcases M with ⟨rfl, _⟩ | ⟨_, _, rfl, _⟩ <;> simp only at hmv <;> omega
        have hrun : (Instr.sliceAt t (.slice a n cap) vl vh vm).run P w =
            .ok (.slice (if m = l.toNat then a else a.map (·.add (l.toNat * es))) (hgh.toNat - l.toNat) (m - l.toNat)) w := by
          simp [Instr.sliceAt, Instr.slice, run_underlying hu, hbounds, hsize]
        have hflat : ∀ p c, ((rows.take hgh.toNat).drop l.toNat).flatten[p]? = some c → rows.flatten[l.toNat * es + p]? = some c := by
          intro p c hp
          rw [flatten_drop es l.toNat _ (fun r hr => hes r (List.mem_of_mem_take hr))] at hp
          exact flatten_take_get _ _ _ _ hp
        refine SemOK.same hs hrun ?_ hk
        refine .slice _ _ _ _ _ es (fun p => us (l.toNat * es + p)) (by simp; omega) (by omega) (fun r hr => hes r (List.mem_of_mem_take (List.mem_of_mem_drop hr))) ?_ ?_ (fun p c hp => hrel _ c (hflat p c hp))
        · -- the token
          rcases M with ⟨rfl, rfl⟩ | ⟨km, mm, rfl, rfl⟩
          · simp only at hmv ⊢
            rcases H with ⟨rfl, rfl⟩ | ⟨kh, hhh, rfl, rfl⟩
            · cases tok <;> simp only [tokOK] at ht ⊢
              simp only [Option.getD_none] at hhv
              omega
            · cases tok <;> simp [tokOK]
          · simp only at hmv ⊢
            show hgh.toNat - l.toNat = m - l.toNat
            rw [hmv]
        · intro p c hp
          obtain ⟨b, off, rfl, h1, h2⟩ := hc _ c (hflat p c hp)
          have hne : ¬ (m = l.toNat) := by
            have : p < ((rows.take hgh.toNat).drop l.toNat).flatten.length := (List.getElem?_eq_some_iff.1 hp).1
            rw [length_flatten_of es _ (fun r hr => hes r (List.mem_of_mem_take (List.mem_of_mem_drop hr)))] at this
            simp only [List.length_drop, List.length_take] at this
            intro e
            have h0 : min hgh.toNat rows.length - l.toNat = 0 := by omega
            rw [h0] at this; simp at this
          refine ⟨b, off + l.toNat * es, ?_, ?_, ?_⟩
          · rw [if_neg hne]; simp [add_at]
          · rw [Nat.add_assoc]; exact h1
          · rw [Nat.add_assoc]; exact h2
    · exact h.elim
  · rename_i s
    cases hx
    obtain ⟨hkd, h⟩ := h
    split at h
    · rename_i lo' hi' e1 e2
      obtain ⟨⟨hl0, hl1, hh1⟩, hk⟩ := h
      have L := oInt_spec hl e1
      have H := oInt_spec hh e2
      have M : vm = none := by
        rcases hm with ⟨_, h⟩ | ⟨_, _, h, _⟩
        · exact h
        · cases h
      subst M
      refine SemOK.same hs (v := .string (s.extract (lo'.getD 0).toNat (hi'.getD s.size).toNat)) ?_ (.sc _) hk
      rcases H with ⟨rfl, rfl⟩ | ⟨kh, hhh, rfl, rfl⟩
      · rcases L with ⟨rfl, rfl⟩ | ⟨kl, ll, rfl, rfl⟩
        · simp [Instr.sliceAt, Instr.slice, run_underlying (kd_str hkd), Instr.sliceBounds]
        · simp only [Option.getD_some, Option.getD_none] at hl0 hl1 hh1 ⊢
          simp [Instr.sliceAt, Instr.slice, run_underlying (kd_str hkd), Instr.sliceBounds, run_bound (show 0 ≤ ll ∧ ll ≤ ((s.size : Nat) : Int) by omega)]
      · simp only [Option.getD_some] at hl1 hh1 ⊢
        rcases L with ⟨rfl, rfl⟩ | ⟨kl, ll, rfl, rfl⟩
        · simp only [Option.getD_none] at hl0 hl1 ⊢
          simp [Instr.sliceAt, Instr.slice, run_underlying (kd_str hkd), Instr.sliceBounds, run_bound (show 0 ≤ hhh ∧ hhh ≤ ((s.size : Nat) : Int) by omega)]
        · simp only [Option.getD_some] at hl0 hl1 ⊢
          simp [Instr.sliceAt, Instr.slice, run_underlying (kd_str hkd), Instr.sliceBounds, run_bound (show 0 ≤ hhh ∧ hhh ≤ ((s.size : Nat) : Int) by omega),
            run_bound (show 0 ≤ ll ∧ ll ≤ ((hhh.toNat : Nat) : Int) by omega)]
    · exact h.elim
  · exact h.elim

/-! ### append -/
theorem run_append_room' (t ty e ty' : TypeId) (i : TypeInfo) (w : World) (ht : P.underlying t = some (.slice e)) (hi : P.info? e = some i)
    (g sLen sCap : Nat) (cur : Array Value) (hg : w.heap[g]? = some (.cells cur ty' (0, 0)))
    (a : Option Addr) (m c : Nat) (news : List Value) (hl : news.length = m * i.size) (hf : (Builtin.firstCells i.size m (.slice a m c)).run P w = .ok news.toArray w) (h1 : ∀ u ∈ news, u.oneCell' = true)
    (hroom : sLen + m ≤ sCap) (hfit : sLen * i.size + news.length ≤ cur.size) :
    (Builtin.append_ #[t, t] ty #[.slice (some ⟨g, 0, none⟩) sLen sCap, .slice a m c]).run P w =
      .ok (.slice (some ⟨g, 0, none⟩) (sLen + m) sCap) (w.setRow g (cur.toList.take (sLen * i.size) ++ news ++ cur.toList.drop (sLen * i.size + news.length)).toArray) := by
  have hst := run_storeCells_at P g (sLen * i.size) ty' news 0 cur w hg (by simpa using hfit) h1
  simp only [Nat.add_zero] at hst
  simp [Builtin.append_, run_underlying ht, sizeOf, typeInfo, hi, Builtin.lenOf, hroom, hf, Addr.add_lit, hst]

theorem run_append_grow' (t ty e : TypeId) (i : TypeInfo) (z : Value) (w : World) (ht : P.underlying t = some (.slice e)) (hi : P.info? e = some i) (hz : i.zero = some z)
    (s : Option Addr) (sLen sCap : Nat) (olds : List Value) (ho : ∀ w' : World, w'.heap = w.heap → (Builtin.firstCells i.size sLen (.slice s sLen sCap)).run P w' = .ok olds.toArray w')
    (a : Option Addr) (n c : Nat) (news : List Value) (hf : ∀ w' : World, w'.heap = w.heap → (Builtin.firstCells i.size n (.slice a n c)).run P w' = .ok news.toArray w')
    (hg : sCap < sLen + n) (h63 : sLen + n ≤ 9223372036854775807) (hfit : Builtin.nextslicecap (sLen + n) sCap * i.bytes ≤ 281474976710656) :
    (Builtin.append_ #[t, t] ty #[.slice s sLen sCap, .slice a n c]).run P w =
      .ok (.slice (some ⟨w.heap.size, 0, none⟩) (sLen + n) (grownCap w (sLen + n) sCap e))
        (w.drew.alloc (.cells (olds.toArray ++ news.toArray ++ Builtin.zeroCells z.cells (grownCap w (sLen + n) sCap e - (sLen + n))) e)) := by
  have hn : ¬ (sLen + n ≤ sCap) := by omega
  have h63' : ¬ (9223372036854775807 < ((sLen : Int) + (n : Int))) := by omega
  have h48' : ¬ (281474976710656 < Builtin.nextslicecap (sLen + n) sCap * i.bytes) := by omega
  have ho' := ho w.drew rfl
  have hf' := hf w.drew rfl
  simp [Builtin.append_, run_underlying ht, sizeOf, typeInfo, zeroValue, hi, hz, Builtin.lenOf, hn, h63', h48', Question.forced, ho', hf', newRow, grownCap]
  congr 2
  apply Array.ext'
  simp

theorem first_cells {tok : Tok} {rows : List (List AV)} {a : Option Addr} {n cap es : Nat} (hpos : 0 < es) (hx : Rel σ w (.slice tok rows) (.slice a n cap)) (hes : ∀ r ∈ rows, r.length = es) :
    ∃ vs : List Value, (∀ w' : World, w'.heap = w.heap → (Builtin.firstCells es n (.slice a n cap)).run P w' = .ok vs.toArray w') ∧ RelL σ w rows.flatten vs.toArray ∧ vs.length = n * es := by
  cases hx with
  | slice _ _ _ _ _ es' us hn hcap hes' ht hc hrel =>
    have hfl := length_flatten_of es rows hes
    refine ⟨(List.range (n * es)).map us, ?_, ⟨by simp [hfl, hn], ?_⟩, by simp⟩
    · intro w' hw'
      cases a with
      | none =>
        have hr : rows = [] := by
          cases rows with
          | nil => rfl
          | cons r rows =>
            have hr : r.length = es := hes r (by simp)
            have hlt : 0 < (r :: rows).flatten.length := by simp; omega
            obtain ⟨b, off, hb, _⟩ := hc 0 _ (List.getElem?_eq_getElem hlt)
            cases hb
        subst hr
        simp at hn
        subst hn
        simp [Builtin.firstCells]
      | some ad =>
        simp only [Builtin.firstCells]
        refine run_loadCells w' ad (n * es) us fun j hj => ?_
        have hlt : j < rows.flatten.length := by rw [hfl, hn]; exact hj
        obtain ⟨b, off, hb, _, h2⟩ := hc j _ (List.getElem?_eq_getElem hlt)
        cases hb
        rw [add_at, ← h2]
        exact cell_of_block (by rw [hw'])
    · intro p c v hp hv
      have hlt : p < n * es := by rw [← hn, ← hfl]; exact (List.getElem?_eq_some_iff.1 hp).1
      simp [hlt] at hv
      subst hv
      exact hrel p c hp

theorem cells_one {cs : List AV} {vs : List Value} (hr : RelL σ w cs vs.toArray) (h1 : ∀ c ∈ cs, AV.one c = true) : ∀ u ∈ vs, u.oneCell' = true := by
  intro u hu
  obtain ⟨j, hj, rfl⟩ := List.getElem_of_mem hu
  have hjx : j < cs.length := by have := hr.1; simp at this; omega
  have h2 := hr.2 j cs[j] vs[j] (by simp [hjx]) (by simp [hj])
  exact (AV.one_val h2 (h1 _ (List.getElem_mem hjx))).1

theorem ext_drew {σ σ' : Sto} {w w' : World} (h : Ext σ w.drew σ' w') : Ext σ w σ' w' := ⟨h.size, h.keep, h.top, h.shape, h.same⟩
theorem St.drew {σ : Sto} {w : World} (h : St σ w) : St σ w.drew := by
  have hx : Ext σ w σ w.drew := ⟨Nat.le_refl _, fun _ _ h => ⟨rfl, h⟩, fun _ m h => ⟨fun _ _ => rfl, .inr ⟨m, Nat.le_refl _, h⟩⟩, fun _ vs _ _ h => ⟨vs, h, rfl⟩, rfl, rfl⟩
  exact h.by_blocks hx h.dom fun b o hb => .inl ⟨hb, rfl⟩

end Go.Aw
