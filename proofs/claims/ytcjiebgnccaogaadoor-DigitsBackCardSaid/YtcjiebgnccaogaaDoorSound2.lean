/- The operations on abstract values are sound, second part: building and loading. -/
import Derived.Test.YtcjiebgnccaogaaDoorSound
set_option linter.unusedSimpArgs false
set_option linter.unusedVariables false
namespace Go.Aw
open Go
variable {P : Program} {σ : Sto} {w : World} {k : AV → Sto → Prop}

theorem run_places : ∀ (fs : List Field) (pl : List (Nat × Nat)), fs.mapM (fun f => (P.info? f.type).map fun j => (f.offset, j.size)) = some pl →
    (fs.mapM (fun f => do pure (f.offset, ← sizeOf f.type)) : Sem (List (Nat × Nat))).run P w = .ok pl w
  | [], pl, h => by
    simp only [List.mapM_nil] at h
    cases h
    simp
  | f :: fs, pl, h => by
    simp only [List.mapM_cons] at h
    cases hi : P.info? f.type with
    | none => rw [hi] at h; cases h
    | some i =>
      rw [hi] at h
      simp only [Option.map_some, Option.bind_eq_bind, Option.bind_some] at h
      cases hr : fs.mapM (fun f => (P.info? f.type).map fun j => (f.offset, j.size)) with
      | none => rw [hr] at h; cases h
      | some pl' =>
        rw [hr] at h
        simp only [Option.bind_some, Option.pure_def, Option.some.injEq] at h
        subst h
        have ih := run_places fs pl' hr
        have hz : ∀ w, (sizeOf f.type).run P w = .ok i.size w := run_sizeOf (by simp [tySize, hi])
        simp only [List.mapM_cons, Sem.run_bind, hz, Result.andThen, Sem.run_pure]
        rw [ih]

def Parts (σ : Sto) (w : World) (ps : List (Nat × AV)) (pv : List (Nat × Value)) : Prop :=
  ps.length = pv.length ∧ ∀ (j : Nat) (p : Nat × AV) (q : Nat × Value), ps[j]? = some p → pv[j]? = some q → p.1 = q.1 ∧ Rel σ w p.2 q.2

theorem build_sound {t : TypeId} {ps : List (Nat × AV)} {pv : Array (Nat × Value)} (hs : St σ w) (hp : Parts σ w ps pv.toList) (h : aBuild P t ps σ k) :
    SemOK P (Instr.build t pv) σ w k := by
  unfold aBuild at h
  split at h
  · rename_i pl z hpl hz
    split at h
    · rename_i cs hf
      obtain ⟨v, hv, hzz⟩ := zero_spec hz
      unfold tyPlaces at hpl
      split at hpl
      · rename_i fs hu
        have hpr := run_places (P := P) (w := w) fs.toList pl hpl
        obtain ⟨res, h1, h2⟩ := fill_sound (σ := σ) (w := w) (pl[·]?) ps pv.toList z v.cells cs hp.1 hp.2 (by rw [hzz]; exact rel_zero _) hf
        refine SemOK.same hs (v := .agg res) ?_ (.agg _ _ h2.1 h2.2) h
        have h1' : Instr.fill (fun x => pl.toArray[x]?) v.cells pv.toList = some res := by simpa using h1
        simp only [Instr.build, Sem.run_bind, hv, Result.andThen, run_underlying hu, Array.mapM_eq_mapM_toList, Sem.run_map, hpr, h1']
        rfl
      · cases hpl
    · exact h.elim
  · exact h.elim

theorem elem_spec {t e : TypeId} {es bytes : Nat} (h : tyElem P t = some (e, es, bytes)) :
    P.underlying t = some (.slice e) ∧ ∃ i z, P.info? e = some i ∧ i.zero = some z ∧ i.size = es ∧ i.bytes = bytes ∧ z.cells.size = es ∧ 0 < es := by
  unfold tyElem at h
  split at h
  · rename_i e' hu
    cases hi : P.info? e' with
    | none => rw [hi] at h; cases h
    | some i =>
      rw [hi] at h
      simp only at h
      cases hz : i.zero with
      | none => rw [hz] at h; cases h
      | some z =>
        rw [hz] at h
        simp only at h
        split at h
        · rename_i hc
          simp only [Option.some.injEq, Prod.mk.injEq] at h
          obtain ⟨rfl, rfl, rfl⟩ := h
          exact ⟨hu, i, z, hi, hz, rfl, rfl, hc.1, hc.2⟩
        · cases h
  · cases h

theorem length_zeros (z : List AV) (n : Nat) : (zeros z n).length = n * z.length := by
  induction n with
  | zero => simp [zeros]
  | succ n ih => simp [zeros, ih, Nat.succ_mul]; omega

theorem get_zeros (z : List AV) (hz : 0 < z.length) : ∀ (n p : Nat), p < n * z.length → (zeros z n)[p]? = z[p % z.length]?
  | 0, p, h => by simp at h
  | n + 1, p, h => by
    simp only [zeros, List.getElem?_append]
    by_cases hp : p < z.length
    · rw [if_pos hp, Nat.mod_eq_of_lt hp]
    · rw [if_neg hp, get_zeros z hz n _ (by rw [Nat.succ_mul] at h; omega), Nat.mod_eq_sub_mod (Nat.le_of_not_lt hp)]

theorem length_chunk (es : Nat) : ∀ (n : Nat) (l : List AV), (chunk es l n).length = n
  | 0, _ => rfl
  | n + 1, l => by simp [chunk, length_chunk es n]
theorem flatten_chunk (es : Nat) : ∀ (n : Nat) (l : List AV), l.length = n * es → (chunk es l n).flatten = l
  | 0, l, h => by simp at h; simp [chunk, h]
  | n + 1, l, h => by
    rw [Nat.succ_mul] at h
    simp only [chunk, List.flatten_cons]
    rw [flatten_chunk es n _ (by simp; omega), List.take_append_drop]
theorem rows_chunk (es : Nat) : ∀ (n : Nat) (l : List AV), l.length = n * es → ∀ r ∈ chunk es l n, r.length = es
  | 0, l, h, r, hr => by simp [chunk] at hr
  | n + 1, l, h, r, hr => by
    rw [Nat.succ_mul] at h
    simp only [chunk, List.mem_cons] at hr
    rcases hr with rfl | hr
    · simp; omega
    · exact rows_chunk es n _ (by simp; omega) r hr

/-- A slice over a new block, whole. -/
theorem new_slice {cs : List AV} {arr : Array Value} {e es n : Nat} (hs : St σ w) (hr : RelL σ w cs arr) (hn : cs.length = n * es) :
    Rel σ (w.alloc (.cells arr e)) (.slice .clip (chunk es cs n)) (.slice (some ⟨w.heap.size, 0, none⟩) n n) := by
  have hx := ext_alloc hs (.cells arr e) σ (fun _ _ => rfl)
  refine .slice .clip _ _ n n es (fun p => arr.getD p undef) (length_chunk es n cs) (Nat.le_refl _) (rows_chunk es n cs hn) rfl ?_ ?_
  · intro p c hp
    rw [flatten_chunk es n cs hn] at hp
    have hlt : p < arr.size := by rw [← hr.1]; exact (List.getElem?_eq_some_iff.1 hp).1
    refine ⟨_, 0, rfl, .inl hs.new, ?_⟩
    unfold World.cell?
    simp only [heap_alloc_at, Nat.zero_add]
    simp [Array.getD, hlt]
  · intro p c hp
    rw [flatten_chunk es n cs hn] at hp
    have hlt : p < arr.size := by rw [← hr.1]; exact (List.getElem?_eq_some_iff.1 hp).1
    exact (hr.2 p c _ hp (by simp [Array.getD, hlt])).mono hx

theorem buildSlice_sound {t : TypeId} {n : Nat} {ps : List (Nat × AV)} {pv : Array (Nat × Value)} (hs : St σ w) (hp : Parts σ w ps pv.toList)
    (h : aBuildSlice P t n ps σ k) : SemOK P (Instr.buildSlice t n pv) σ w k := by
  unfold aBuildSlice at h
  split at h
  · rename_i e es bytes he
    obtain ⟨hu, i, z, hi, hz, hsz, _, hzs, hpos⟩ := elem_spec he
    split at h
    · rename_i za hza
      obtain ⟨hle, h⟩ := h
      obtain ⟨v, hv, hzz⟩ := zero_spec hza
      have hvz : v = z := by
        have h1 := hv default
        simp [zeroValue, typeInfo, hi, hz] at h1
        exact h1.symm
      subst hvz
      split at h
      · rename_i cs hf
        have hzl : za.length = es := by rw [hzz]; simp [hzs]
        have hr0 : RelL σ w (zeros za n) ((Array.range (n * es)).map (v.cells[· % v.cells.size]!)) := by
          refine ⟨by simp [length_zeros, hzl], fun p c u hc hu => ?_⟩
          have hlt : p < n * za.length := by have := (List.getElem?_eq_some_iff.1 hc).1; rwa [length_zeros] at this
          rw [get_zeros za (by omega) n p hlt] at hc
          rw [hzl] at hlt hc
          have hu' : u = v.cells[p % v.cells.size]! := by simpa [hlt] using hu.symm
          have hm : p % es < v.cells.size := by rw [hzs]; exact Nat.mod_lt _ hpos
          rw [hzz] at hc
          have h2 := (rel_zero (σ := σ) (w := w) v.cells).2 (p % es) c (v.cells[p % es]) hc (by simp [hm])
          rw [hu', hzs]
          simpa [hm] using h2
        obtain ⟨res, h1, h2⟩ := fill_sound (σ := σ) (w := w) (fun i => some (i * es, es)) ps pv.toList _ _ cs hp.1 hp.2 hr0 hf
        have hcl : cs.length = n * es := by
          have : ∀ (ps : List (Nat × AV)) (a out : List AV), afill (fun i => some (i * es, es)) a ps = some out → out.length = a.length := by
            intro ps
            induction ps with
            | nil => intro a out h; simp only [afill, Option.some.injEq] at h; rw [h]
            | cons p ps ih =>
              intro a out h
              obtain ⟨j, x⟩ := p
              simp only [afill] at h
              split at h
              · split at h
                · rename_i hcond
                  rw [ih _ _ h]; simp [asplice]; omega
                · cases h
              · cases h
          rw [this _ _ _ hf, length_zeros, hzl]
        have hx := ext_alloc hs (.cells res e) σ (fun _ _ => rfl)
        refine ⟨.slice (some ⟨w.heap.size, 0, none⟩) n n, _, σ, w.alloc (.cells res e), ?_, h, St.alloc hs _ _ (fun _ _ => rfl) (.inl hs.new), new_slice hs h2 hcl, hx⟩
        have hbig : ¬ (n * es > 2 ^ 24) := by omega
        by_cases h0 : n * es = 0
        · have hn0 : n = 0 := by rcases Nat.mul_eq_zero.1 h0 with h | h <;> omega
          subst hn0
          rw [Nat.zero_mul] at h1
          have h1' : Instr.fill (fun i => some (i * es, es)) ((Array.range 0).map ((#[] : Array Value)[· % 0]!)) pv.toList = some res := by
            rw [show Array.range 0 = #[] from rfl] at h1 ⊢
            simpa using h1
          have hze : ∀ w, (sizeOf e).run P w = .ok es w := run_sizeOf (by simp [tySize, hi, hsz])
          simp only [Instr.buildSlice, Sem.run_bind, run_underlying hu, Result.andThen, hze, Nat.zero_mul, Sem.run_pure, if_true,
            show ¬ (0 > 2 ^ 24) by omega, if_false, Array.size_empty, h1', newRow, run_newObj, World.alloc_eq]
        · have hze : ∀ w, (sizeOf e).run P w = .ok es w := run_sizeOf (by simp [tySize, hi, hsz])
          simp only [Instr.buildSlice, Sem.run_bind, run_underlying hu, Result.andThen, hze, hbig, if_false, h0, hv,
            Sem.run_pure, h1, newRow, run_newObj, World.alloc_eq]
      · exact h.elim
    · exact h.elim
  · exact h.elim

theorem store_sound {t : TypeId} {a x : AV} {va vx : Value} (hs : St σ w) (ha : Rel σ w a va) (hx : Rel σ w x vx) (h : aStore P t a x σ k) :
    ∃ σ' w', (Instr.storeAt t va vx).run P w = .ok () w' ∧ k .any σ' ∧ St σ' w' ∧ Ext σ w σ' w' := by
  unfold aStore at h
  split at h
  · rename_i b off
    cases ha
    split at h
    · rename_i cs xs n hb hxc hz
      obtain ⟨hl, hone, hle, hk⟩ := h
      obtain ⟨vs, ty, hh, hcl, hcs⟩ := hs.cells b cs hb
      have hv := AV.cells_val hx hxc
      have hv' : RelL σ w xs vx.cells.toList.toArray := by simpa using hv
      have hsp := rel_splice (off := off) ⟨hcl, hcs⟩ hv' (by omega)
      have hvl := hv.1
      have h1 : ∀ u ∈ vx.cells.toList, u.oneCell' = true := by
        intro u hu
        obtain ⟨j, hj, rfl⟩ := List.getElem_of_mem hu
        have hjx : j < xs.length := by rw [hvl]; simpa using hj
        have h2 := hv.2 j xs[j] (vx.cells.toList[j]) (by simp [hjx]) (by simp at hj; simp [hj])
        exact (AV.one_val h2 (List.all_eq_true.1 hone _ (List.getElem_mem hjx))).1
      have hst := run_storeCells_at P b off ty vx.cells.toList 0 vs w hh (by simp; omega) h1
      rw [Nat.add_zero] at hst
      refine ⟨_, _, ?_, hk, St.row hs hb hh (by simp; omega) hsp, ext_row hs hb hh (by simp; omega)⟩
      simp only [Instr.storeAt, Instr.sureAddr, storeVar, Sem.run_bind, Sem.run_pure, Result.andThen, run_sizeOf hz]
      rw [if_neg (by simp; omega)]
      exact hst
    · exact h.elim
  · exact h.elim

end Go.Aw
