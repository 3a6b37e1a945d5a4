/- Appending to a slice is sound over abstract values. -/
import Derived.Test.YtkbpnnbdfikjhaaGreatK02Sound
import Derived.Laws.IdiomRangeMap
import Derived.Laws.MakeOwn
import Derived.MapKept
set_option linter.unusedSimpArgs false
set_option linter.unusedVariables false
namespace Go.Aw
open Go
variable {P : Program} {σ : Sto} {w : World} {k : AV → Sto → Prop}

theorem RelL.append {cs cs' : List AV} {vs vs' : List Value} (h : RelL σ w cs vs.toArray) (h' : RelL σ w cs' vs'.toArray) : RelL σ w (cs ++ cs') (vs ++ vs').toArray := by
  have hl : cs.length = vs.length := by simpa using h.1
  have hl' : cs'.length = vs'.length := by simpa using h'.1
  refine ⟨by simp [hl, hl'], fun i c v hc hv => ?_⟩
  simp only [List.getElem?_toArray, List.getElem?_append, ← hl] at hc hv
  split at hc
  · rename_i h1; rw [if_pos h1] at hv; exact h.2 i c v hc (by simpa using hv)
  · rename_i h1; rw [if_neg h1] at hv; exact h'.2 _ c v hc (by simpa using hv)

/-- A live slice at the head of a block that holds its cells. -/
theorem live_slice {σ : Sto} {w : World} {rows : List (List AV)} {b n cap es m : Nat} {arr : Array Value} {ty : TypeId} (vs : List Value) (hn : rows.length = n) (hcap : n ≤ cap)
    (hes : ∀ r ∈ rows, r.length = es) (hb : w.heap[b]? = some (.cells arr ty (0, 0))) (hsz : cap * es ≤ arr.size) (hσ : σ b = some (.top m)) (hm : n * es ≤ m)
    (hv : ∀ j, j < vs.length → arr[j]? = vs[j]?) (hr : RelL σ w rows.flatten vs.toArray) :
    Rel σ w (.slice (.live b es) rows) (.slice (some ⟨b, 0, none⟩) n cap) := by
  have hfl := length_flatten_of es rows hes
  rw [hn] at hfl
  have hvl : vs.length = n * es := by have := hr.1; rw [List.size_toArray] at this; omega
  refine .slice _ _ _ n cap es (fun p => vs.getD p undef) hn hcap hes ⟨rfl, rfl, arr, ty, hb, hsz⟩ ?_ ?_
  · intro p c hp
    have hlt : p < vs.length := by have := (List.getElem?_eq_some_iff.1 hp).1; omega
    refine ⟨b, 0, rfl, .inr ⟨m, hσ, by omega⟩, ?_⟩
    have := hv p hlt
    simp [World.cell?, hb, this, hlt, List.getD]
  · intro p c hp
    have hlt : p < vs.length := by have := (List.getElem?_eq_some_iff.1 hp).1; omega
    exact hr.2 p c _ hp (by simp [hlt, List.getD])

theorem append_sound {t u ty : TypeId} {x y : AV} {vx vy : Value} (hs : St σ w) (hx : Rel σ w x vx) (hy : Rel σ w y vy) (h : aAppend P t u x y σ k) :
    SemOK P (Builtin.append_ #[t, u] ty #[vx, vy]) σ w k := by
  unfold aAppend at h
  split at h
  · rename_i e es bytes tok rows tok2 ys he
    obtain ⟨rfl, hby, hlen, hes, hesy, hone, htk, hclip, hk⟩ := h
    obtain ⟨hu, i, z, hi, hz, hsz, hbb, hzs, hpos⟩ := elem_spec he
    have hx' := hx
    have hy' := hy
    cases hx with
    | slice _ _ a n cap es' us hn hcap hes' ht hc hrel =>
      cases hy with
      | slice _ _ a2 n2 cap2 es2 us2 hn2 hcap2 hes2 ht2 hc2 hrel2 =>
        obtain ⟨vs, hvrun, hvr, hvl⟩ := first_cells (P := P) hpos hx' hes
        obtain ⟨vs2, hv2run, hv2r, hv2l⟩ := first_cells (P := P) hpos hy' hesy
        have h1 := cells_one hv2r (fun c hcm => by
          obtain ⟨r, hr, hcr⟩ := List.mem_flatten.1 hcm
          exact List.all_eq_true.1 (hone r hr) c hcr)
        have hesall : ∀ r ∈ rows ++ ys, r.length = es := fun r hr => (List.mem_append.1 hr).elim (hes r) (hesy r)
        subst hsz
        by_cases hroom : n + n2 ≤ cap
        · -- room
          cases tok with
          | dead => exact htk.elim
          | clip =>
            have hc0 : n = cap := ht
            have hn0 : n2 = 0 := by omega
            have hys : ys = [] := List.eq_nil_of_length_eq_zero (by omega)
            subst hys
            refine SemOK.same hs (v := .slice a n cap) ?_ hx' (hclip rfl rfl)
            have hnil : vs2 = [] := List.eq_nil_of_length_eq_zero (by rw [hv2l, hn0, Nat.zero_mul])
            subst hnil
            have hf := hv2run w rfl
            rw [hn0] at hf
            cases a with
            | none => simp [Builtin.append_, run_underlying hu, sizeOf, typeInfo, hi, Builtin.lenOf, hn0, hcap, hf]
            | some ad => simp [Builtin.append_, run_underlying hu, sizeOf, typeInfo, hi, Builtin.lenOf, hn0, hcap, hf, storeCells]
          | live b e' =>
            obtain ⟨rfl, hσ⟩ := htk
            obtain ⟨rfl, _, arr, ty', hb, hcs⟩ := ht
            have hfit : n * i.size + vs2.length ≤ arr.size := by
              rw [hv2l, ← Nat.add_mul]; exact Nat.le_trans (Nat.mul_le_mul_right _ hroom) hcs
            have hrun := run_append_room' (P := P) t ty e ty' i w hu hi b n cap arr hb a2 n2 cap2 vs2 hv2l (hv2run w rfl) h1 hroom hfit
            have hkk := hk b (.inl rfl)
            generalize harr : (arr.toList.take (n * i.size) ++ vs2 ++ arr.toList.drop (n * i.size + vs2.length)).toArray = arr' at hrun
            have harrs : arr'.size = arr.size := by rw [← harr]; simp; omega
            have hset := setRow_heap w b arr arr' ty' (0, 0) hb
            -- the cells below stay
            have hkeep : ∀ j, j < n * i.size → arr'[j]? = arr[j]? := by
              intro j hj
              rw [← harr]
              simp only [List.getElem?_toArray, List.append_assoc, List.getElem?_append, List.length_take, Array.length_toList, List.getElem?_take, Array.getElem?_toList]
              rw [if_pos (by omega), if_pos hj]
            have hx2 : Ext σ w ((tokDel σ (.live b i.size)).set b (.top ((rows.length + ys.length) * i.size))) (w.setRow b arr') := by
              refine ⟨by simp [World.setRow], fun b' hb' hnn => ?_, fun b' m hm => ?_, fun b' us' ty2 fr hv => ?_, by simp [World.setRow], by simp [World.setRow]⟩
              · have hne : b' ≠ b := fun e => by rw [e, hσ] at hnn; cases hnn
                exact ⟨setRow_other w b b' arr' hne, by simp [Sto.set, tokDel, Sto.del, hne, hnn]⟩
              · by_cases hne : b' = b
                · subst hne
                  rw [hσ] at hm; cases hm
                  refine ⟨fun off ho => ?_, .inr ⟨_, ?_, by simp only [Sto.set, if_true]; rfl⟩⟩
                  · simp only [World.cell?, hset, hb]
                    simp [hkeep off (by rw [← hn]; exact ho)]
                  · exact Nat.mul_le_mul_right _ (Nat.le_add_right _ _)
                · exact ⟨fun off _ => cell_of_block (setRow_other w b b' arr' hne), .inr ⟨m, Nat.le_refl _, by simp [Sto.set, tokDel, Sto.del, hne, hm]⟩⟩
              · by_cases hne : b' = b
                · subst hne
                  rw [hb] at hv
                  injection hv with hv
                  injection hv with e1 e2 e3
                  subst e1; subst e2; subst e3
                  exact ⟨arr', hset, harrs⟩
                · exact ⟨us', (setRow_other w b b' arr' hne).trans hv, rfl⟩
            have hst : St ((tokDel σ (.live b i.size)).set b (.top ((rows.length + ys.length) * i.size))) (w.setRow b arr') := by
              refine hs.by_blocks hx2 (fun b' o hb' => ?_) fun b' o hb' => ?_
              · simp only [World.setRow, Array.size_modify]
                by_cases hne : b' = b
                · subst hne; exact hs.dom _ _ hσ
                · simp only [Sto.set, tokDel, Sto.del, hne, if_false] at hb'; exact hs.dom _ _ hb'
              · by_cases hne : b' = b
                · subst hne
                  simp only [Sto.set, if_true, Option.some.injEq] at hb'
                  subst hb'
                  refine .inr (.inr (.inl ⟨_, rfl, arr', ty', hset, ?_⟩))
                  rw [harrs, hn, hn2]
                  exact Nat.le_trans (Nat.mul_le_mul_right _ hroom) hcs
                · simp only [Sto.set, tokDel, Sto.del, hne, if_false] at hb'
                  exact .inl ⟨hb', setRow_other w b b' arr' hne⟩
            -- the old cells are the slice's
            have hold : ∀ j, j < vs.length → arr[j]? = vs[j]? := by
              intro j hj
              have hj2 : j < n * i.size := by omega
              have hlt : j < rows.flatten.length := by rw [length_flatten_of i.size rows hes, hn]; exact hj2
              have hrun1 := hvrun w rfl
              obtain ⟨b', off', hbe, _, h2⟩ := hc j _ (List.getElem?_eq_getElem hlt)
              cases hbe
              simp only [World.cell?, hb] at h2
              have hr2 := run_loadCells (P := P) w ⟨b, 0, none⟩ (n * i.size) us (fun p hp => by
                have hltp : p < rows.flatten.length := by rw [length_flatten_of i.size rows hes, hn]; exact hp
                obtain ⟨b', off', hbe, _, h2⟩ := hc p _ (List.getElem?_eq_getElem hltp)
                cases hbe
                rw [add_at]; exact h2)
              simp only [Builtin.firstCells, hr2, Result.ok.injEq, and_true] at hrun1
              have hvs : vs = (List.range (n * i.size)).map us := by
                have := congrArg Array.toList hrun1
                simpa using this.symm
              rw [hvs]
              simp at h2
              simp [hj2, h2]
            refine ⟨_, _, _, _, hrun, hkk, hst, ?_, hx2⟩
            refine live_slice (vs ++ vs2) (by simp [hn, hn2]) hroom hesall hset (by rw [harrs]; exact hcs) (by simp only [Sto.set, if_true]; rfl)
              (by rw [hn, hn2]; exact Nat.le_refl _) ?_ (by rw [List.flatten_append]; exact (RelL.append hvr hv2r).mono hx2)
            intro j hj
            by_cases hjl : j < vs.length
            · rw [hkeep j (by omega), hold j hjl, List.getElem?_append_left hjl]
            · rw [List.getElem?_append_right (by omega), ← harr]
              have hj' : j < (vs ++ vs2).length := hj
              simp only [List.length_append] at hj'
              simp only [List.getElem?_toArray, List.append_assoc, List.getElem?_append, List.length_take, Array.length_toList]
              rw [if_neg (by omega), if_pos (by omega)]
              congr 1; omega
        · -- growth
          have hys : ys ≠ [] := fun e => by subst e; simp at hn2; omega
          have hgrow : cap < n + n2 := by omega
          have hfit : Builtin.nextslicecap (n + n2) cap * i.bytes ≤ 281474976710656 := by
            refine growslice_fits hgrow ?_
            have : (n + n2) * i.bytes ≤ 1073741824 * 4096 := Nat.mul_le_mul (by omega) (by omega)
            omega
          have hrun := run_append_grow' (P := P) t ty e i z w hu hi hz a n cap vs hvrun a2 n2 cap2 vs2 hv2run hgrow (by omega) hfit
          have hcapge := grownCap_ge w (n + n2) cap e
          generalize hcp : grownCap w (n + n2) cap e = ncap at hrun hcapge
          generalize harr : vs.toArray ++ vs2.toArray ++ Builtin.zeroCells z.cells (ncap - (n + n2)) = arr at hrun
          have hasz : arr.size = ncap * i.size := by
            rw [← harr]
            simp only [Array.size_append, List.size_toArray, hvl, hv2l, size_zeroCells, hzs, ← Nat.add_mul]
            congr 1; omega
          have hkk := hk w.heap.size (.inr ⟨hs.new, hys⟩)
          have hsub : Sub (tokDel σ tok) σ := by
            cases tok with
            | dead => exact Sub.refl σ
            | clip => exact Sub.refl σ
            | live b e' =>
              intro b' o hb'
              simp only [tokDel, Sto.del] at hb'
              split at hb'
              · cases hb'
              · exact hb'
          have hs1 : St (tokDel σ tok) w.drew := (hs.drew).sub hsub
          have hnone : tokDel σ tok w.heap.size = none := hsub.none hs.new
          have hx1 : Ext σ w (tokDel σ tok) w.drew := by
            have := hsub.ext w
            exact ⟨this.size, this.keep, this.top, this.shape, this.same⟩
          have hx2 := ext_alloc hs1 (.cells arr e) ((tokDel σ tok).set w.heap.size (.top ((rows.length + ys.length) * i.size))) (fun b hb => by simp [Sto.set, show b ≠ w.heap.size from hb])
          have hst : St ((tokDel σ tok).set w.heap.size (.top ((rows.length + ys.length) * i.size))) (w.drew.alloc (.cells arr e)) := by
            refine St.alloc hs1 arr e (fun b hb => by simp [Sto.set, show b ≠ w.heap.size from hb]) (.inr (.inr ⟨(rows.length + ys.length) * i.size, by simp [Sto.set], ?_⟩))
            rw [hasz, hn, hn2]; exact Nat.mul_le_mul_right _ hcapge
          have hxx := hx1.trans hx2 hs.dom
          refine ⟨_, _, _, _, hrun, hkk, hst, ?_, hxx⟩
          refine live_slice (vs ++ vs2) (by simp [hn, hn2]) hcapge hesall (heap_alloc_at w.drew (.cells arr e)) (by rw [hasz]; exact Nat.le_refl _) (by simp only [Sto.set, if_true]; rfl)
            (by rw [hn, hn2]; exact Nat.le_refl _) ?_ (by rw [List.flatten_append]; exact (RelL.append hvr hv2r).mono hxx)
          intro j hj
          rw [← harr]
          have hj' : j < vs.length + vs2.length := by simpa using hj
          rw [Array.getElem?_append_left (by simp; omega)]
          rw [show vs.toArray ++ vs2.toArray = (vs ++ vs2).toArray from by simp]
          simp only [List.getElem?_toArray]
  · exact h.elim

end Go.Aw

/- Maps, arrays and slices that are written: sound over abstract values. -/
set_option linter.unusedSimpArgs false
set_option linter.unusedVariables false
namespace Go.Aw
open Go
variable {P : Program} {σ : Sto} {w : World} {k : AV → Sto → Prop}

theorem shr_sound {t : TypeId} {x y : AV} {vx vy : Value} (xo yo : Operand) (hs : St σ w) (hx : Rel σ w x vx) (hy : Rel σ w y vy) (h : aShr x y σ k) :
    SemOK P (do eqGuard .shr t xo yo vx vy; Go.binOp .shr t vx vy) σ w k := by
  unfold aShr at h
  split at h
  · cases hx; cases hy
    refine SemOK.same hs (v := .int _ _) ?_ (.sc _) h.2
    rw [eqGuard_shr]
    simp [binOp_shr, shift_shr _ _ _ _ h.1.1 h.1.2]
  · exact h.elim

theorem indexAddrA_sound {t : TypeId} {x i : AV} {vx vi : Value} (hs : St σ w) (hx : Rel σ w x vx) (hi : Rel σ w i vi) (h : aIndexAddrA P t x i σ k) :
    SemOK P (Instr.indexAt t vx vi) σ w k := by
  unfold aIndexAddrA at h
  split at h
  · rename_i n e es b o ki j ha
    obtain ⟨hu, hsz⟩ := arr_spec ha
    cases hx; cases hi
    refine SemOK.same hs (v := .pointer (some ⟨b, o + j.toNat * es, none⟩)) ?_ (.ptr _ _) h.2
    simp [Instr.indexAt, asIntOf, run_underlying hu, Instr.sureAddr, h.1, hsz, add_at]
  · exact h.elim

theorem indexA_sound {t : TypeId} {x i : AV} {vx vi : Value} (hs : St σ w) (hx : Rel σ w x vx) (hi : Rel σ w i vi) (h : aIndexA P t x i σ k) :
    SemOK P (Instr.index t vx vi) σ w k := by
  unfold aIndexA at h
  split at h
  · rename_i n e es cs ki j ha
    obtain ⟨hu, hsz⟩ := arr_spec ha
    obtain ⟨h0, h⟩ := h
    split at h
    · rename_i r hr
      have hes : tySize P e = some es := by
        unfold tyArr at ha
        rw [hu] at ha
        simp only at ha
        cases hi2 : P.info? e with
        | none => rw [hi2] at ha; cases ha
        | some i2 => rw [hi2] at ha; simp only [Option.some.injEq, Prod.mk.injEq] at ha; simp [tySize, hi2, ha.2.2]
      cases hi
      cases hx with
      | agg _ vs hl hrel =>
        unfold loadAV at hr
        cases hg : tyAgg P e with
        | none => rw [hg] at hr; cases hr
        | some g =>
          rw [hg] at hr
          cases g with
          | false =>
            have hlt : j.toNat * es < vs.size := by rw [← hl]; exact (List.getElem?_eq_some_iff.1 hr).1
            refine SemOK.same hs (v := vs[j.toNat * es]) ?_ (hrel _ r _ hr (by simp [hlt])) h
            simp [Instr.index, asIntOf, run_underlying hu, h0, hsz, part, run_isAgg hg, hlt]
          | true =>
            cases hz : tySize P e with
            | none => rw [hz] at hr; cases hr
            | some n' =>
              rw [hz] at hr hes
              obtain rfl : es = n' := by simpa using hes.symm
              simp only at hr
              split at hr
              · rename_i hle
                cases hr
                refine SemOK.same hs (v := .agg (vs.extract (j.toNat * es) (j.toNat * es + es))) ?_ (.agg _ _ (by simp; omega) fun i c v hc hv => ?_) h
                · simp [Instr.index, asIntOf, run_underlying hu, h0, hsz, part, run_isAgg hg, run_sizeOf hz]
                · simp only [List.getElem?_take, List.getElem?_drop] at hc
                  split at hc
                  · rename_i hlt
                    rw [Array.getElem?_extract_of_lt (by have := (List.getElem?_eq_some_iff.1 hc).1; omega)] at hv
                    exact hrel _ c v hc (by simpa [show j.toNat * es + i < vs.size by have := (List.getElem?_eq_some_iff.1 hc).1; omega] using hv)
                  · cases hc
              · cases hr
    · exact h.elim
  · exact h.elim

theorem indexAddrM_sound {t : TypeId} {x i : AV} {vx vi : Value} (hs : St σ w) (hx : Rel σ w x vx) (hi : Rel σ w i vi) (h : aIndexAddrM P t x i σ k) :
    SemOK P (Instr.indexAt t vx vi) σ w k := by
  unfold aIndexAddrM at h
  split at h
  · rename_i e es by' b off n es' ki j he
    obtain ⟨hu, inf, z, hin, _, hsz, _, _, hpos⟩ := elem_spec he
    have hsize : ∀ w, (sizeOf e).run P w = .ok es w := run_sizeOf (by simp [tySize, hin, hsz])
    cases hi
    obtain ⟨rfl, h0, h⟩ := h
    cases hx with
    | mslice _ _ _ _ cap a hcap hca =>
      obtain ⟨rfl, _⟩ := hca (by omega)
      refine SemOK.same hs (v := .pointer (some ⟨b, off + j.toNat * es', none⟩)) ?_ (.ptr _ _) h
      simp [Instr.indexAt, asIntOf, run_underlying hu, hsize, h0, add_at]
  · exact h.elim

theorem sliceM_sound {t : TypeId} {x : AV} {v : Value} {lo hi mx : Option AV} {vl vh vm : Option Value} (hs : St σ w) (hx : Rel σ w x v)
    (hl : (lo = none ∧ vl = none) ∨ ∃ a b, lo = some a ∧ vl = some b ∧ Rel σ w a b)
    (hh : (hi = none ∧ vh = none) ∨ ∃ a b, hi = some a ∧ vh = some b ∧ Rel σ w a b)
    (hm : (mx = none ∧ vm = none) ∨ ∃ a b, mx = some a ∧ vm = some b ∧ Rel σ w a b)
    (h : aSliceM P t x lo hi mx σ k) : SemOK P (Instr.sliceAt t v vl vh vm) σ w k := by
  unfold aSliceM at h
  split at h
  · rename_i e es by' b off n es' lo' he hlo
    obtain ⟨hu, inf, z, hin, _, hsz, _, _, hpos⟩ := elem_spec he
    have hsize : ∀ w, (sizeOf e).run P w = .ok es w := run_sizeOf (by simp [tySize, hin, hsz])
    obtain ⟨rfl, ⟨h0, h1⟩, h⟩ := h
    have L := oInt_spec hl hlo
    have Hh : vh = none := by rcases hh with ⟨_, h⟩ | ⟨_, _, h, _⟩; exact h; cases h
    have Hm : vm = none := by rcases hm with ⟨_, h⟩ | ⟨_, _, h, _⟩; exact h; cases h
    subst Hh; subst Hm
    cases hx with
    | mslice _ _ _ _ cap a hcap hca =>
      generalize hlv : lo'.getD 0 = l at *
      have hbounds : (Instr.sliceBounds true n cap vl none none).run P w = .ok (l.toNat, n, cap) w := by
        rcases L with ⟨rfl, rfl⟩ | ⟨kl, ll, rfl, rfl⟩
        · simp only [Option.getD_none] at hlv; subst hlv
          simp [Instr.sliceBounds]
        · simp only [Option.getD_some] at hlv; subst hlv
          simp [Instr.sliceBounds, run_bound (show 0 ≤ ll ∧ ll ≤ ((n : Nat) : Int) by omega)]
      have hrun : (Instr.sliceAt t (.slice a n cap) vl none none).run P w = .ok (.slice (if cap = l.toNat then a else a.map (·.add (l.toNat * es'))) (n - l.toNat) (cap - l.toNat)) w := by
        simp [Instr.sliceAt, Instr.slice, run_underlying hu, hbounds, hsize]
      refine SemOK.same hs hrun (.mslice _ _ _ _ _ _ ⟨by omega, by omega⟩ fun hc0 => ?_) h
      obtain ⟨rfl, vs, ty, hb, hsz'⟩ := hca (Nat.lt_of_lt_of_le hc0 (Nat.sub_le _ _))
      have hne : ¬ cap = l.toNat := fun e => by rw [e, Nat.sub_self] at hc0; exact absurd hc0 (Nat.lt_irrefl _)
      have hle : l.toNat ≤ cap := Nat.le_of_lt (Nat.lt_of_sub_pos hc0)
      refine ⟨by rw [if_neg hne]; simp [add_at], vs, ty, hb, ?_⟩
      have : l.toNat * es' + (cap - l.toNat) * es' = cap * es' := by rw [← Nat.add_mul, Nat.add_sub_cancel' hle]
      rw [Nat.add_assoc, this]; exact hsz'
  · exact h.elim

theorem makeSlice_sound {t : TypeId} {x y : AV} {vx vy : Value} (hs : St σ w) (hx : Rel σ w x vx) (hy : Rel σ w y vy) (h : aMakeSlice P t x y σ k) :
    SemOK P (Instr.makeSlice t vx vy) σ w k := by
  unfold aMakeSlice at h
  split at h
  · rename_i e es bytes k1 n k2 m he
    obtain ⟨hu, i, z, hi, hz, hsz, hbb, hzs, hpos⟩ := elem_spec he
    have hsize : ∀ w, (sizeOf e).run P w = .ok es w := run_sizeOf (by simp [tySize, hi, hsz])
    split at h
    · rename_i za hza
      obtain ⟨rfl, h0, hle, hby, h⟩ := h
      cases hx; cases hy
      obtain ⟨v, hv, hzz⟩ := zero_spec hza
      have hvz : v = z := by
        have h1 := hv default
        simp [zeroValue, typeInfo, hi, hz] at h1
        exact h1.symm
      subst hvz
      have hzl : za.length = es := by rw [hzz]; simp [hzs]
      subst hsz
      have hr0 : RelL σ w (zeros za n.toNat) (madeCells v.cells (n.toNat * i.size)) := by
        refine ⟨by simp [madeCells, length_zeros, hzl], fun p c u hc hu => ?_⟩
        have hlt : p < n.toNat * za.length := by have := (List.getElem?_eq_some_iff.1 hc).1; rwa [length_zeros] at this
        rw [get_zeros za (by omega) n.toNat p hlt] at hc
        rw [hzl] at hlt hc
        have hu' : u = v.cells[p % v.cells.size]! := by simpa [madeCells, hlt] using hu.symm
        have hm : p % i.size < v.cells.size := by rw [hzs]; exact Nat.mod_lt _ hpos
        rw [hzz] at hc
        have h2 := (rel_zero (σ := σ) (w := w) v.cells).2 (p % i.size) c (v.cells[p % i.size]) hc (by simp [hm])
        rw [hu', hzs]
        simpa [hm] using h2
      have hx := ext_alloc hs (.cells (madeCells v.cells (n.toNat * i.size)) e) (σ.set w.heap.size (.cells (zeros za n.toNat))) (fun b hb => by simp [Sto.set, hb])
      have hb48 : (i.bytes : Int) * n ≤ 281474976710656 := by
        have h1 : (i.bytes : Int) ≤ 4096 := by omega
        have : (i.bytes : Int) * n ≤ 4096 * 1073741824 := Int.mul_le_mul h1 hle h0 (by omega)
        omega
      have hrun := run_make (P := P) (w := w) t e i v hu hi hz k1 k2 n n h0 (Int.le_refl _) hb48 (by omega)
      exact ⟨.slice (some ⟨w.heap.size, 0, none⟩) n.toNat n.toNat, _, _, w.alloc (.cells (madeCells v.cells (n.toNat * i.size)) e), hrun, h _ hs.new,
        St.alloc hs _ _ (fun b hb => by simp [Sto.set, hb]) (.inr (.inl ⟨_, by simp [Sto.set], hr0.pre⟩)),
        .mslice _ _ _ _ n.toNat _ ⟨Nat.le_refl _, by omega⟩ (fun _ => ⟨rfl, _, e, heap_alloc_at w _, by have := hr0.1; simp [length_zeros, hzl] at this; omega⟩), hx⟩
    · exact h.elim
  · exact h.elim

/-! ### growing -/
theorem load_none (a : Addr) (w' : World) : (loadCells a 0).run P w' = .ok #[] w' := by
  have := run_loadCells (P := P) w' a 0 (fun _ => undef) (fun j hj => absurd hj (Nat.not_lt_zero _))
  simpa using this

theorem appendM_sound {t u ty : TypeId} {x y : AV} {vx vy : Value} (hs : St σ w) (hx : Rel σ w x vx) (hy : Rel σ w y vy) (h : aAppendM P t u x y σ k) :
    SemOK P (Builtin.append_ #[t, u] ty #[vx, vy]) σ w k := by
  unfold aAppendM at h
  split at h
  · rename_i e es bytes b2 o2 n2 es2 he
    obtain ⟨rfl, hby, rfl, rfl, hn2, h⟩ := h
    obtain ⟨hu, i, z, hi, hz, hsz, hbb, hzs, hpos⟩ := elem_spec he
    subst hsz
    split at h
    · rename_i cs2 hb2
      obtain ⟨hl2, hone2, h⟩ := h
      cases hy with
      | mslice _ _ _ _ cap2 a2 hcap2 hca2 =>
        obtain ⟨rfl, vs2', ty2', hh2, hsz2⟩ := hca2 (by omega)
        obtain ⟨arr2, ty2, hh2', hlen2, hrel2⟩ := hs.cells b2 cs2 hb2
        have hcc := hh2'.symm.trans hh2; injection hcc with hcc; injection hcc with e1 e2; subst e1
        -- the new cells
        obtain ⟨vs2, hvs2⟩ : ∃ vs2, vs2 = arr2.toList.take (n2 * i.size) := ⟨_, rfl⟩
        have hv2l : vs2.length = n2 * i.size := by rw [hvs2]; simp; omega
        have hv2run : ∀ w' : World, w'.heap = w.heap → (Builtin.firstCells i.size n2 (.slice (some ⟨b2, 0, none⟩) n2 cap2)).run P w' = .ok vs2.toArray w' := by
          intro w' hw'
          simp only [Builtin.firstCells]
          have := run_loadCells (P := P) w' ⟨b2, 0, none⟩ (n2 * i.size) (fun p => arr2.getD p undef) (fun j hj => by
            rw [add_at, cell_of_block (show w'.heap[b2]? = w.heap[b2]? by rw [hw'])]
            have hlt : j < arr2.size := by omega
            simp [World.cell?, hh2, hlt, Array.getD])
          rw [this]
          congr 1
          apply Array.ext'
          rw [hvs2]
          apply List.ext_getElem
          · simp; omega
          · intro j h1 h2
            have hlt : j < arr2.size := by simp at h1; omega
            simp [Array.getD, hlt]
        have hv2r : RelL σ w cs2 vs2.toArray := by
          refine ⟨by simp [hv2l, hl2], fun p c v hc hv => hrel2 p c v hc ?_⟩
          have hlt : p < n2 * i.size := by rw [← hl2]; exact (List.getElem?_eq_some_iff.1 hc).1
          rw [hvs2] at hv
          simpa [List.getElem?_take, hlt] using hv
        have h1 := cells_one hv2r (fun c hcm => List.all_eq_true.1 hone2 c hcm)
        have grow : ∀ (a : Option Addr) (n cap off b : Nat) (cs0 : List AV) (vs : List Value), (∀ w' : World, w'.heap = w.heap → (Builtin.firstCells i.size n (.slice a n cap)).run P w' = .ok vs.toArray w') →
            RelL σ w cs0 vs.toArray → vs.length = n * i.size → cap < n + n2 → n + n2 ≤ 1073741824 → (∀ b', σ b' = none → k (.mslice b' 0 (n + n2) i.size) (σ.set b' (.cells (cs0 ++ cs2)))) →
            SemOK P (Builtin.append_ #[t, t] ty #[.slice a n cap, .slice (some ⟨b2, 0, none⟩) n2 cap2]) σ w k := by
          intro a n cap off b cs0 vs hvrun hvr hvl hgrow hle hk
          have hfit : Builtin.nextslicecap (n + n2) cap * i.bytes ≤ 281474976710656 := by
            refine growslice_fits hgrow ?_
            have : (n + n2) * i.bytes ≤ 1073741824 * 4096 := Nat.mul_le_mul (by omega) (by omega)
            omega
          have hrun := run_append_grow' (P := P) t ty e i z w hu hi hz a n cap vs hvrun (some ⟨b2, 0, none⟩) n2 cap2 vs2 hv2run hgrow (by omega) hfit
          have hcapge := grownCap_ge w (n + n2) cap e
          have hcaple := grownCap_le_maxLen w (n + n2) cap e (by unfold maxLen; omega)
          unfold maxLen at hcaple
          generalize hcp : grownCap w (n + n2) cap e = ncap at hrun hcapge hcaple
          generalize harr : vs.toArray ++ vs2.toArray ++ Builtin.zeroCells z.cells (ncap - (n + n2)) = arr at hrun
          have hasz : arr.size = ncap * i.size := by
            rw [← harr]
            simp only [Array.size_append, List.size_toArray, hvl, hv2l, size_zeroCells, hzs, ← Nat.add_mul]
            congr 1; omega
          have hx2 := ext_alloc hs.drew (.cells arr e) (σ.set w.heap.size (.cells (cs0 ++ cs2))) (fun b hb => by simp [Sto.set, show b ≠ w.heap.size from hb])
          have hrl : RelP σ w.drew (cs0 ++ cs2) arr := by
            have hx0 : Ext σ w σ w.drew := ⟨Nat.le_refl _, fun _ _ h => ⟨rfl, h⟩, fun _ m h => ⟨fun _ _ => rfl, .inr ⟨m, Nat.le_refl _, h⟩⟩, fun _ vs _ _ h => ⟨vs, h, rfl⟩, rfl, rfl⟩
            have hr := (RelL.append hvr hv2r).mono hx0
            have hr1 := hr.1
            have hl1 : cs0.length = n * i.size := by have := hvr.1; rw [List.size_toArray] at this; omega
            refine ⟨by rw [← harr]; simp; omega, fun p c v hc hv => hr.2 p c v hc ?_⟩
            have hlt : p < (vs ++ vs2).length := by have := (List.getElem?_eq_some_iff.1 hc).1; simp at this ⊢; omega
            rw [← harr, Array.getElem?_append_left (by simpa using hlt)] at hv
            simpa using hv
          refine ⟨_, _, _, _, hrun, hk w.heap.size hs.new, St.alloc hs.drew arr e (fun b hb => by simp [Sto.set, show b ≠ w.heap.size from hb]) (.inr (.inl ⟨_, by simp [Sto.set], hrl⟩)), ?_, ext_drew hx2⟩
          refine .mslice _ _ _ _ _ _ ⟨hcapge, by omega⟩ fun _ => ⟨rfl, arr, e, heap_alloc_at w.drew (.cells arr e), ?_⟩
          rw [hasz]; omega
        split at h
        · -- nothing there
          obtain ⟨hle, h⟩ := h
          cases hx with
          | slice _ _ a n cap es' us hn hcap hes' ht hc hrel =>
            have hn0 : n = 0 := by simpa using hn.symm
            subst hn0
            have hc0 : 0 = cap := ht
            subst hc0
            have := grow a 0 0 0 0 [] [] (fun w' _ => by cases a <;> simp [Builtin.firstCells, load_none]) ⟨rfl, by simp⟩ (by simp) (by omega) (by omega) (by simpa using h)
            exact this
        · rename_i b off n es1
          obtain ⟨rfl, hle, hne, h⟩ := h
          split at h
          · rename_i cs hb
            obtain ⟨hlc, hone, hin, hgr⟩ := h
            obtain ⟨arr, ty', hh, hlen, hrel⟩ := hs.cells b cs hb
            cases hx with
            | mslice _ _ _ _ cap a hcap hca =>
              by_cases hroom : n + n2 ≤ cap
              · obtain ⟨rfl, vs0, ty0, hh0, hsz0⟩ := hca (by omega)
                have hcc := hh.symm.trans hh0; injection hcc with hcc; injection hcc with e1 e2; subst e1
                have hfit : off + n * i.size + vs2.length ≤ arr.size := by
                  rw [hv2l]
                  have : n * i.size + n2 * i.size ≤ cap * i.size := by rw [← Nat.add_mul]; exact Nat.mul_le_mul_right _ hroom
                  omega
                have hst := run_storeCells_at P b (off + n * i.size) ty' vs2 0 arr w hh (by simpa using hfit) h1
                simp only [Nat.add_zero] at hst
                generalize harr : (arr.toList.take (off + n * i.size) ++ vs2 ++ arr.toList.drop (off + n * i.size + vs2.length)).toArray = arr' at hst
                have harrs : arr'.size = arr.size := by rw [← harr]; simp; omega
                have hrun : (Builtin.append_ #[t, t] ty #[.slice (some ⟨b, off, none⟩) n cap, .slice (some ⟨b2, 0, none⟩) n2 cap2]).run P w =
                    .ok (.slice (some ⟨b, off, none⟩) (n + n2) cap) (w.setRow b arr') := by
                  have hf := hv2run w rfl
                  simp [Builtin.append_, run_underlying hu, sizeOf, typeInfo, hi, Builtin.lenOf, hroom, hf, Addr.add_lit, hst]
                have hr' : RelP σ w (cs ++ cs2) arr' := by
                  refine ⟨by rw [harrs]; simp; omega, fun p c v hc hv => ?_⟩
                  rw [← harr] at hv
                  simp only [List.getElem?_toArray, List.append_assoc, List.getElem?_append, List.length_take, Array.length_toList, List.getElem?_take, Array.getElem?_toList] at hc hv
                  rw [show min (off + n * i.size) arr.size = off + n * i.size by omega] at hv
                  split at hc
                  · rename_i hp
                    rw [if_pos (by omega), if_pos (by omega)] at hv
                    exact hrel p c v hc hv
                  · rename_i hp
                    have hlt : p - cs.length < cs2.length := (List.getElem?_eq_some_iff.1 hc).1
                    rw [if_neg (by omega), if_pos (by omega)] at hv
                    exact hv2r.2 _ c v hc (by rw [List.getElem?_toArray]; rw [← hlc] at hv; exact hv)
                refine ⟨_, _, _, _, hrun, hin, St.row hs hb hh harrs hr', ?_, ext_row hs hb hh harrs⟩
                exact .mslice _ _ _ _ _ _ ⟨hroom, hcap.2⟩ fun _ => ⟨rfl, arr', ty', setRow_heap w b arr arr' ty' (0, 0) hh, by rw [harrs]; exact hsz0⟩
              · -- the old cells
                by_cases hc0 : 0 < cap
                · obtain ⟨rfl, vs0, ty0, hh0, hsz0⟩ := hca hc0
                  have hcc := hh.symm.trans hh0; injection hcc with hcc; injection hcc with e1 e2; subst e1
                  obtain ⟨vs, hvs⟩ : ∃ vs, vs = (arr.toList.drop off).take (n * i.size) := ⟨_, rfl⟩
                  have hnc : n * i.size ≤ cap * i.size := Nat.mul_le_mul_right _ hcap.1
                  have hvl : vs.length = n * i.size := by rw [hvs]; simp; omega
                  refine grow _ n cap off b (cs.drop off) vs (fun w' hw' => ?_) ⟨by simp [hvl]; omega, fun p c v hc hv => ?_⟩ hvl (by omega) hle hgr
                  · simp only [Builtin.firstCells]
                    have := run_loadCells (P := P) w' ⟨b, off, none⟩ (n * i.size) (fun p => arr.getD (off + p) undef) (fun j hj => by
                      rw [add_at, cell_of_block (show w'.heap[b]? = w.heap[b]? by rw [hw'])]
                      have hlt : off + j < arr.size := by omega
                      simp [World.cell?, hh, hlt, Array.getD])
                    rw [this]
                    congr 1
                    apply Array.ext'
                    rw [hvs]
                    apply List.ext_getElem
                    · simp; omega
                    · intro j h1 h2
                      have hlt : off + j < arr.size := by simp at h1; omega
                      simp [Array.getD, hlt]
                  · rw [List.getElem?_drop] at hc
                    have hlt : p < n * i.size := by have := (List.getElem?_eq_some_iff.1 hc).1; omega
                    rw [hvs] at hv
                    refine hrel _ c v hc ?_
                    simpa [List.getElem?_take, List.getElem?_drop, hlt] using hv
                · have hc1 : cap = 0 := by omega
                  subst hc1
                  have hn0 : n = 0 := by omega
                  subst hn0
                  have hd : cs.drop off = [] := List.drop_eq_nil_of_le (by omega)
                  refine grow _ 0 0 off b [] [] (fun w' _ => by cases a <;> simp [Builtin.firstCells, load_none]) ⟨rfl, by simp⟩ (by simp) (by omega) hle (by simpa [hd] using hgr)
          · exact h.elim
        · exact h.elim
    · exact h.elim
  · exact h.elim
end Go.Aw

/- Maps: sound over abstract values. -/
set_option linter.unusedSimpArgs false
set_option linter.unusedVariables false
set_option linter.unnecessarySimpa false
namespace Go.Aw
open Go
variable {P : Program} {σ : Sto} {w : World} {k : AV → Sto → Prop}

/-- what a type of maps says -/
theorem map_spec {t : TypeId} {d : Kd} {e : TypeId} (h : tyMap P t = some (d, e)) : ∃ kt, P.underlying t = some (.map kt e) ∧
    ((∃ i, d = .int i ∧ P.underlying kt = some (.int i)) ∨ (d = .str ∧ P.underlying kt = some .string)) := by
  unfold tyMap at h
  split at h
  · rename_i kt e' hu
    split at h
    · rename_i i hk
      simp only [Option.some.injEq, Prod.mk.injEq] at h
      obtain ⟨rfl, rfl⟩ := h
      exact ⟨kt, hu, .inl ⟨i, rfl, kd_int hk⟩⟩
    · rename_i hk
      simp only [Option.some.injEq, Prod.mk.injEq] at h
      obtain ⟨rfl, rfl⟩ := h
      exact ⟨kt, hu, .inr ⟨rfl, kd_str hk⟩⟩
    · cases h
  · cases h

theorem keyV_spec {d : Kd} {x : AV} {v key : Value} (hx : Rel σ w x v) (h : keyV d x = some key) : v = key ∧
    ((∃ i n, d = .int i ∧ key = .int i n) ∨ ∃ s, d = .str ∧ key = .string s) := by
  unfold keyV at h
  split at h
  · split at h
    · rename_i hd
      cases hx; cases h
      exact ⟨rfl, .inl ⟨_, _, hd, rfl⟩⟩
    · cases h
  · split at h
    · rename_i hd
      cases hx; cases h
      exact ⟨rfl, .inr ⟨_, hd, rfl⟩⟩
    · cases h
  · cases h

theorem keyV_val {d : Kd} {v : Value} (h : (keyV d (.sc v)).isSome = true) : (∃ i n, d = .int i ∧ v = .int i n) ∨ ∃ s, d = .str ∧ v = .string s := by
  unfold keyV at h
  split at h
  · rename_i i n he
    cases he
    split at h
    · rename_i hd; exact .inl ⟨_, _, hd, rfl⟩
    · cases h
  · rename_i s he
    cases he
    split at h
    · rename_i hd; exact .inr ⟨_, hd, rfl⟩
    · cases h
  · cases h

def descOf : Kd → TypeDesc
  | .int i => .int i
  | _ => .string

theorem same_now {d : Kd} {key v : Value} (hk : (∃ i n, d = .int i ∧ key = .int i n) ∨ ∃ s, d = .str ∧ key = .string s)
    (hv : (∃ i n, d = .int i ∧ v = .int i n) ∨ ∃ s, d = .str ∧ v = .string s) : Instr.sameNow (descOf d) key v = some (valEq key v) ∧ (valEq key v = true → key = v) := by
  rcases hk with ⟨i, n, rfl, rfl⟩ | ⟨s, rfl, rfl⟩
  · rcases hv with ⟨i', n', hd, rfl⟩ | ⟨s, hd, _⟩
    · cases hd
      refine ⟨?_, ?_⟩
      · simp only [Instr.sameNow, descOf, valEq, if_true, decide_true, Bool.true_and]
        congr 1
      · simp [valEq]
    · cases hd
  · rcases hv with ⟨i', n', hd, _⟩ | ⟨s', hd, rfl⟩
    · cases hd
    · refine ⟨?_, ?_⟩
      · simp only [Instr.sameNow, descOf, valEq, Option.some.injEq]
        rw [Bool.eq_iff_iff, MapKept.bytes_beq]; simp
      · simp [valEq]

/-- where a key is found -/
theorem find_now {d : Kd} {key : Value} (hk : (∃ i n, d = .int i ∧ key = .int i n) ∨ ∃ s, d = .str ∧ key = .string s) :
    ∀ (es : List (Value × AV)) (l : List MapEntry) (i : Nat), keysOK d es → EntR σ w es l →
    (Instr.findNow (descOf d) key l i = some none ∧ mget es key = none ∧ (∀ x, mput es key x = es ++ [(key, x)]) ∧ mdel es key = es) ∨
    ∃ j e c, Instr.findNow (descOf d) key l i = some (some (i + j, e.val)) ∧ l[j]? = some e ∧ es[j]? = some (key, c) ∧ e.key = key ∧ mget es key = some c ∧
      (∀ x, mput es key x = es.set j (key, x)) ∧ mdel es key = es.eraseIdx j
  | [], [], i, _, _ => .inl ⟨rfl, rfl, fun _ => rfl, rfl⟩
  | [], _ :: _, _, _, h => by cases h.1
  | _ :: _, [], _, _, h => by cases h.1
  | (k0, c0) :: es, e0 :: l, i, hok, h => by
    obtain ⟨h1, h2⟩ := h.2 0 k0 c0 e0 rfl rfl
    have hv := keyV_val (hok (k0, c0) (by simp))
    obtain ⟨s1, s2⟩ := same_now hk hv
    simp only at s1 s2
    have hr : EntR σ w es l := ⟨by simpa using h.1, fun j k c e hj he => h.2 (j + 1) k c e (by simpa using hj) (by simpa using he)⟩
    cases hq : valEq key k0 with
    | true =>
      have e1 := s2 hq
      subst e1
      exact .inr ⟨0, e0, c0, by simp [Instr.findNow, h1, s1, hq], rfl, rfl, h1, by simp [mget, hq], fun x => by simp [mput, hq], by simp [mdel, hq]⟩
    | false =>
      rcases find_now hk es l (i + 1) (fun e he => hok e (by simp [he])) hr with ⟨f1, f2, f3, f4⟩ | ⟨j, e, c, f1, f2, f3, f4, f5, f6, f7⟩
      · exact .inl ⟨by simp [Instr.findNow, h1, s1, hq, f1], by simp [mget, hq, f2], fun x => by simp [mput, hq, f3], by simp [mdel, hq, f4]⟩
      · exact .inr ⟨j + 1, e, c, by simp [Instr.findNow, h1, s1, hq, f1]; omega, by simpa using f2, by simpa using f3, f4, by simp [mget, hq, f5], fun x => by simp [mput, hq, f6], by simp [mdel, hq, f7]⟩

theorem run_check {b : Bool} {kt : TypeId} {d : Kd} {key : Value} (hk : (∃ i n, d = .int i ∧ key = .int i n) ∨ ∃ s, d = .str ∧ key = .string s)
    (hu : (∃ i, d = .int i ∧ P.underlying kt = some (.int i)) ∨ (d = .str ∧ P.underlying kt = some .string)) (w : World) :
    (Instr.checkKey b 10000 kt key).run P w = .ok () w ∧ P.underlying kt = some (descOf d) := by
  rcases hu with ⟨i, rfl, hu⟩ | ⟨rfl, hu⟩
  · rcases hk with ⟨i', n, hd, rfl⟩ | ⟨s, hd, rfl⟩
    · exact ⟨by rw [show (10000 : Nat) = 9999 + 1 from rfl]; unfold Instr.checkKey; simp only [Sem.run_bind, run_underlying hu, Result.andThen]; rfl, hu⟩
    · cases hd
  · rcases hk with ⟨i', n, hd, rfl⟩ | ⟨s, hd, rfl⟩
    · cases hd
    · exact ⟨by rw [show (10000 : Nat) = 9999 + 1 from rfl]; unfold Instr.checkKey; simp only [Sem.run_bind, run_underlying hu, Result.andThen]; rfl, hu⟩

theorem zeroAV_spec {t : TypeId} {z : AV} (h : zeroAV P t = some z) : ∃ v, (∀ w, (zeroValue t).run P w = .ok v w) ∧ ∀ (σ : Sto) (w : World), Rel σ w z v := by
  unfold zeroAV at h
  cases hi : P.info? t with
  | none => rw [hi] at h; cases h
  | some i =>
    rw [hi] at h
    simp only [Option.bind_some] at h
    cases hz : i.zero with
    | none => rw [hz] at h; cases h
    | some v =>
      rw [hz] at h
      simp only [Option.map_some, Option.some.injEq] at h
      subst h
      exact ⟨v, fun w => by simp [zeroValue, typeInfo, hi, hz], fun σ w => rel_cv σ w v⟩

/-- a block that is no row of cells, written -/
def wput (w : World) (b : Nat) (o : Obj) : World := { w with heap := w.heap.setIfInBounds b o }
theorem wput_same {w : World} {b : Nat} {o' o : Obj} (h : w.heap[b]? = some o') : (wput w b o).heap[b]? = some o := by
  have := (Array.getElem?_eq_some_iff.1 h).1
  simp [wput, this]
theorem wput_other {w : World} {b c : Nat} {o : Obj} (h : c ≠ b) : (wput w b o).heap[c]? = w.heap[c]? := by
  simp [wput, Array.getElem?_setIfInBounds, Ne.symm h]

theorem ext_map {w : World} {b : Nat} {es es' : List (Value × AV)} {arr arr' : Array MapEntry} {c c' : Nat} (hb : σ b = some (.map es)) (hh : w.heap[b]? = some (.map arr c)) :
    Ext σ w (σ.set b (.map es')) (wput w b (.map arr' c')) := by
  refine ⟨by simp [wput], fun b' hb' hn => ?_, fun b' m hm => ?_, fun b' us ty' fr hv => ?_, by simp [wput], by simp [wput]⟩
  · have hne : b' ≠ b := fun e => by rw [e, hb] at hn; cases hn
    exact ⟨wput_other hne, by simp [Sto.set, hne, hn]⟩
  · have hne : b' ≠ b := fun e => by rw [e, hb] at hm; cases hm
    exact ⟨fun off _ => cell_of_block (wput_other hne), .inr ⟨m, Nat.le_refl _, by simp [Sto.set, hne, hm]⟩⟩
  · have hne : b' ≠ b := fun e => by rw [e, hh] at hv; cases hv
    exact ⟨us, (wput_other hne).trans hv, rfl⟩

theorem St.mapTo {w : World} (hs : St σ w) {b : Nat} {es es' : List (Value × AV)} {arr arr' : Array MapEntry} {c c' : Nat} (hb : σ b = some (.map es)) (hh : w.heap[b]? = some (.map arr c))
    (he : EntR σ w es' arr'.toList) (hn : Born arr'.toList c') : St (σ.set b (.map es')) (wput w b (.map arr' c')) := by
  have hx := ext_map (es' := es') (arr' := arr') (c' := c') hb hh
  refine hs.by_blocks hx (fun b' o hb' => ?_) fun b' o hb' => ?_
  · simp only [wput, Array.size_setIfInBounds]
    by_cases hne : b' = b
    · subst hne; exact hs.dom _ _ hb
    · simp only [Sto.set, hne, if_false] at hb'; exact hs.dom _ _ hb'
  · by_cases hne : b' = b
    · subst hne
      simp only [Sto.set, if_true, Option.some.injEq] at hb'
      subst hb'
      exact .inr (.inr (.inr (.inl ⟨_, rfl, arr', c', wput_same hh, he.mono hx, hn⟩)))
    · simp only [Sto.set, hne, if_false] at hb'
      exact .inl ⟨hb', wput_other hne⟩

theorem run_findKey' {kt : TypeId} {d : Kd} {key : Value} {l : List MapEntry} {r : Option (Nat × Value)} (hu : P.underlying kt = some (descOf d)) (h : Instr.findNow (descOf d) key l 0 = some r) (w : World) :
    (Instr.findKey kt key l).run P w = .ok r w := by
  simp [Instr.findKey, run_underlying hu, h]

theorem run_stays {d : Kd} {key : Value} (hk : (∃ i n, d = .int i ∧ key = .int i n) ∨ ∃ s, d = .str ∧ key = .string s) (w : World) :
    (Instr.keyThatStays key key).run P w = .ok key w := by
  have : Instr.sameBits 10000 key key = true := by
    rcases hk with ⟨i, n, _, rfl⟩ | ⟨s, _, rfl⟩ <;> rw [show (10000 : Nat) = 9999 + 1 from rfl] <;> simp [Instr.sameBits, MapKept.bytes_beq]
  simp [Instr.keyThatStays, this]

/-- 'm[k] = v' -/
theorem mapUpdate_sound {t : TypeId} {x i y : AV} {vx vi vy : Value} (hs : St σ w) (hx : Rel σ w x vx) (hi : Rel σ w i vi) (hy : Rel σ w y vy) (h : aMapUpdate P t x i y σ k) :
    ∃ σ' w', (Instr.mapUpdate t vx vi vy).run P w = .ok () w' ∧ k .any σ' ∧ St σ' w' ∧ Ext σ w σ' w' := by
  unfold aMapUpdate at h
  split at h
  · rename_i d e b ht
    obtain ⟨kt, hu, hd⟩ := map_spec ht
    cases hx
    split at h
    · rename_i es key hb hkey
      obtain ⟨hok, h⟩ := h
      obtain ⟨arr, clock, hh, hent, hborn⟩ := hs.map b es hb
      obtain ⟨rfl, hk⟩ := keyV_spec hi hkey
      obtain ⟨hchk, hdesc⟩ := run_check (b := false) hk hd w
      rcases find_now hk es arr.toList 0 hok hent with ⟨f1, f2, f3, f4⟩ | ⟨j, e0, c, f1, f2, f3, f4, f5, f6, f7⟩
      · refine ⟨_, wput w b (.map (arr.push { key := vi, val := vy, born := clock }) (clock + 1)), ?_, h, St.mapTo hs hb hh ?_ ?_, ext_map hb hh⟩
        · simp [Instr.mapUpdate, run_underlying hu, MapKept.run_getObj_map hh, hchk, run_findKey' hdesc f1, MapKept.run_setObj_map _ hh, Result.andThen, wput]
        · rw [f3]
          refine ⟨by simp [hent.1], fun j k0 c0 e0 h1 h2 => ?_⟩
          simp only [List.getElem?_append, Array.toList_push, hent.1] at h1 h2
          split at h1
          · rename_i hlt; rw [if_pos hlt] at h2; exact hent.2 j k0 c0 e0 h1 h2
          · rename_i hlt
            rw [if_neg hlt] at h2
            cases hj : j - arr.toList.length with
            | zero => rw [hj] at h1 h2; simp at h1 h2; obtain ⟨rfl, rfl⟩ := h1; subst h2; exact ⟨rfl, hy⟩
            | succ n => rw [hj] at h1; simp at h1
        · obtain ⟨b1, b2⟩ := hborn
          refine ⟨fun e he => ?_, ?_⟩
          · simp only [Array.toList_push, List.mem_append, List.mem_singleton] at he
            rcases he with he | rfl
            · exact Nat.lt_succ_of_lt (b1 e he)
            · exact Nat.lt_succ_self _
          · simp only [Array.toList_push, List.map_append, List.map_cons, List.map_nil]
            rw [List.nodup_append]
            refine ⟨b2, by simp, fun x hx y hy => ?_⟩
            simp only [List.mem_singleton] at hy
            subst hy
            obtain ⟨e, he, rfl⟩ := List.mem_map.1 hx
            exact Nat.ne_of_lt (b1 e he)
      · have hj : j < arr.size := by have := (List.getElem?_eq_some_iff.1 f2).1; simpa using this
        have hje : arr[j]? = some e0 := by rw [← Array.getElem?_toList]; exact f2
        rw [Nat.zero_add] at f1
        refine ⟨_, wput w b (.map (arr.modify j fun e => { e with key := vi, val := vy }) clock), ?_, h, St.mapTo hs hb hh ?_ ?_, ext_map hb hh⟩
        · simp [Instr.mapUpdate, run_underlying hu, MapKept.run_getObj_map hh, hchk, run_findKey' hdesc f1, hje, f4, run_stays hk, MapKept.run_setObj_map _ hh, Result.andThen, wput]
        · rw [f6]
          refine ⟨by simp [hent.1], fun p k0 c0 e1 h1 h2 => ?_⟩
          rw [List.getElem?_set] at h1
          rw [Array.getElem?_toList, Array.getElem?_modify] at h2
          by_cases hpj : j = p
          · subst hpj
            rw [if_pos rfl] at h1 h2
            split at h1
            · cases h1
              rw [hje] at h2
              simp only [Option.map_some, Option.some.injEq] at h2
              subst h2
              exact ⟨rfl, hy⟩
            · cases h1
          · rw [if_neg hpj] at h1 h2
            exact hent.2 p k0 c0 e1 h1 (by rw [Array.getElem?_toList]; exact h2)
        · obtain ⟨b1, b2⟩ := hborn
          have hmap : (arr.modify j fun e => { e with key := vi, val := vy }).toList.map (·.born) = arr.toList.map (·.born) := by
            apply List.ext_getElem?
            intro p
            simp only [List.getElem?_map, Array.getElem?_toList, Array.getElem?_modify]
            split
            · cases arr[p]? <;> rfl
            · rfl
          refine ⟨fun e he => ?_, by rw [hmap]; exact b2⟩
          have : e.born ∈ (arr.modify j fun e => { e with key := vi, val := vy }).toList.map (·.born) := List.mem_map.2 ⟨e, he, rfl⟩
          rw [hmap] at this
          obtain ⟨e', he', heq⟩ := List.mem_map.1 this
          rw [← heq]
          exact b1 e' he'
    · exact h.elim
  · exact h.elim

theorem makeMap_sound {t : TypeId} (hs : St σ w) (h : aMakeMap P t σ k) : SemOK P (Instr.makeMap t none) σ w k := by
  have hx := ext_alloc hs (.map #[] 0) (σ.set w.heap.size (.map [])) (fun b hb => by simp [Sto.set, hb])
  refine ⟨.map (some w.heap.size), _, _, w.alloc (.map #[] 0), by simp [Instr.makeMap], h _ hs.new, St.alloc_map hs (fun b hb => by simp [Sto.set, hb]) (by simp [Sto.set]), .sc _, hx⟩

theorem lookup_sound {t : TypeId} {x i : AV} {vx vi : Value} {ok : Bool} (hs : St σ w) (hx : Rel σ w x vx) (hi : Rel σ w i vi) (h : aLookup P t x i ok σ k) :
    SemOK P (Instr.lookup t vx vi ok) σ w k := by
  unfold aLookup at h
  split at h
  · rename_i d e b ht
    obtain ⟨kt, hu, hd⟩ := map_spec ht
    cases hx
    split at h
    · rename_i es key z hb hkey hz
      obtain ⟨hok, h⟩ := h
      obtain ⟨arr, clock, hh, hent, hborn⟩ := hs.map b es hb
      obtain ⟨rfl, hk⟩ := keyV_spec hi hkey
      obtain ⟨hchk, hdesc⟩ := run_check (b := arr.isEmpty) hk hd w
      obtain ⟨zv, hzv, hzr⟩ := zeroAV_spec hz
      have pair : ∀ (a : AV) (v : Value) (q : Bool), Rel σ w a v → Rel σ w (if ok = true then .tuple [a, .sc (.bool q)] else a) (if ok = true then .tuple #[v, .bool q] else v) := by
        intro a v q hr
        cases ok
        · simpa using hr
        · simp only [if_true]
          refine .tuple _ _ rfl fun j c u hc hu => ?_
          match j, hc, hu with
          | 0, hc, hu => simp at hc hu; subst hc; subst hu; exact hr
          | 1, hc, hu => simp at hc hu; subst hc; subst hu; exact .sc _
          | j + 2, hc, hu => simp at hc
      rcases find_now hk es arr.toList 0 hok hent with ⟨f1, f2, f3, f4⟩ | ⟨j, e0, c, f1, f2, f3, f4, f5, f6, f7⟩
      · rw [f2] at h
        refine SemOK.same hs (v := if ok = true then .tuple #[zv, .bool false] else zv) ?_ (pair _ _ _ (hzr σ w)) h
        simp [Instr.lookup, run_underlying hu, MapKept.run_getObj_map hh, hchk, run_findKey' hdesc f1, Result.andThen, hzv]
      · rw [f5] at h
        refine SemOK.same hs (v := if ok = true then .tuple #[e0.val, .bool true] else e0.val) ?_ (pair _ _ _ (hent.2 j _ _ e0 f3 f2).2) h
        simp [Instr.lookup, run_underlying hu, MapKept.run_getObj_map hh, hchk, run_findKey' hdesc f1, Result.andThen]
    · exact h.elim
  · exact h.elim

theorem EntR.erase {es : List (Value × AV)} {l : List MapEntry} (h : EntR σ w es l) (j : Nat) : EntR σ w (es.eraseIdx j) (l.eraseIdx j) := by
  refine ⟨by simp [List.length_eraseIdx, h.1], fun i k0 c e h1 h2 => ?_⟩
  rw [List.getElem?_eraseIdx] at h1 h2
  split at h1
  · rename_i hlt; rw [if_pos hlt] at h2; exact h.2 _ _ _ _ h1 h2
  · rename_i hlt; rw [if_neg hlt] at h2; exact h.2 _ _ _ _ h1 h2

theorem Born.sub {l l' : List MapEntry} {c : Nat} (h : Born l c) (hs : l'.Sublist l) : Born l' c :=
  ⟨fun e he => h.1 e (hs.subset he), (hs.map _).nodup h.2⟩

theorem delete_sound {t u : TypeId} {ty : TypeId} {x i : AV} {vx vi : Value} (hs : St σ w) (hx : Rel σ w x vx) (hi : Rel σ w i vi) (h : aDelete P t x i σ k) :
    SemOK P (Builtin.delete_ #[t, u] ty #[vx, vi]) σ w k := by
  unfold aDelete at h
  split at h
  · rename_i d e b ht
    obtain ⟨kt, hu, hd⟩ := map_spec ht
    cases hx
    split at h
    · rename_i es key hb hkey
      obtain ⟨hok, h⟩ := h
      obtain ⟨arr, clock, hh, hent, hborn⟩ := hs.map b es hb
      obtain ⟨rfl, hk⟩ := keyV_spec hi hkey
      obtain ⟨hchk, hdesc⟩ := run_check (b := arr.isEmpty) hk hd w
      have rt : Rel (σ.set b (.map (mdel es vi))) (wput w b (.map arr clock)) (.tuple []) (.tuple #[]) := .tuple _ _ rfl (fun j c u hc => by simp at hc)
      rcases find_now hk es arr.toList 0 hok hent with ⟨f1, f2, f3, f4⟩ | ⟨j, e0, c, f1, f2, f3, f4, f5, f6, f7⟩
      · refine ⟨.tuple #[], _, _, wput w b (.map arr clock), ?_, h, St.mapTo hs hb hh (by rw [f4]; exact hent) hborn, .tuple _ _ rfl (fun j c u hc => by simp at hc), ext_map hb hh⟩
        simp [Builtin.delete_, run_underlying hu, MapKept.run_getObj_map hh, hchk, run_findKey' hdesc f1, MapKept.run_setObj_map _ hh, Result.andThen, wput]
      · rw [Nat.zero_add] at f1
        refine ⟨.tuple #[], _, _, wput w b (.map (arr.eraseIdxIfInBounds j) clock), ?_, h, St.mapTo hs hb hh ?_ ?_, .tuple _ _ rfl (fun j c u hc => by simp at hc), ext_map hb hh⟩
        · simp [Builtin.delete_, run_underlying hu, MapKept.run_getObj_map hh, hchk, run_findKey' hdesc f1, MapKept.run_setObj_map _ hh, Result.andThen, wput]
        · rw [f7]; simpa using hent.erase j
        · refine hborn.sub ?_
          simpa using List.eraseIdx_sublist _ _
    · exact h.elim
  · exact h.elim

theorem clear_sound {t : TypeId} {ty : TypeId} {x : AV} {vx : Value} (hs : St σ w) (hx : Rel σ w x vx) (h : aClear P t x σ k) :
    SemOK P (Builtin.clear_ #[t] ty #[vx]) σ w k := by
  unfold aClear at h
  split at h
  · rename_i d b ht
    obtain ⟨kt, hu, hd⟩ := map_spec ht
    cases hx
    split at h
    · rename_i es hb
      obtain ⟨arr, clock, hh, hent, hborn⟩ := hs.map b es hb
      refine ⟨.tuple #[], _, _, wput w b (.map #[] clock), ?_, h, St.mapTo hs hb hh ⟨rfl, by simp⟩ ⟨by simp, by simp⟩, .tuple _ _ rfl (fun j c u hc => by simp at hc), ext_map hb hh⟩
      simp [Builtin.clear_, run_underlying hu, MapKept.run_getObj_map hh, MapKept.run_setObj_map _ hh, Result.andThen, wput]
    · exact h.elim
  · exact h.elim

theorem range_sound {t : TypeId} {x : AV} {vx : Value} (hs : St σ w) (hx : Rel σ w x vx) (h : aRange P t x σ k) : SemOK P (Instr.range t vx) σ w k := by
  unfold aRange at h
  split at h
  · rename_i d b ht
    obtain ⟨kt, hu, hd⟩ := map_spec ht
    cases hx
    split at h
    · rename_i es hb
      obtain ⟨arr, clock, hh, hent, hborn⟩ := hs.map b es hb
      have hrun := run_range_map (P := P) w t kt _ b arr clock hu hh
      have hlt : b < w.heap.size := (Array.getElem?_eq_some_iff.1 hh).1
      have hsub : Sub (σ.del b) σ := fun b' o hb' => by
        simp only [Sto.del] at hb'
        split at hb'
        · cases hb'
        · exact hb'
      have hs1 := hs.sub hsub
      have hx1 := hsub.ext w
      have hx2 := ext_alloc hs1 (.mapIter (some b) clock #[] clock) ((σ.del b).set w.heap.size (.iter none es)) (fun b hb => by simp [Sto.set, show b ≠ w.heap.size from hb])
      have hxx := hx1.trans hx2 hs.dom
      refine ⟨_, _, _, _, hrun, h _ hs.new, ?_, .ptr _ _, hxx⟩
      refine hs1.by_blocks hx2 (fun b' o hb' => ?_) fun b' o hb' => ?_
      · by_cases hbe : b' = w.heap.size
        · subst hbe; simp
        · simp only [Sto.set, hbe, if_false] at hb'; have := hs1.dom _ _ hb'; simp; omega
      · by_cases hbe : b' = w.heap.size
        · subst hbe
          simp only [Sto.set, if_true, Option.some.injEq] at hb'
          subst hb'
          refine .inr (.inr (.inr (.inr (.inl ⟨_, _, rfl, b, #[], arr, clock, heap_alloc_at w _, ?_, (heap_alloc_lt w _ hlt).trans hh, hborn, ?_, fun k0 c h => by cases h⟩))))
          · simp [Sto.set, Sto.del, Nat.ne_of_lt hlt]
          · have : (arr.filter fun e => !(#[] : Array Nat).contains e.born) = arr := Array.filter_eq_self.2 (fun x _ => by simp)
            rw [this]
            exact hent.mono hxx
        · simp only [Sto.set, hbe, if_false] at hb'
          exact .inl ⟨hb', heap_alloc_lt w _ (hs1.dom _ _ hb')⟩
    · exact h.elim
  · exact h.elim

theorem entry_sound {x : AV} {vx : Value} (hs : St σ w) (hx : Rel σ w x vx) (h : aEntry x σ k) : SemOK P (Instr.entry vx) σ w k := by
  unfold aEntry at h
  split at h
  · rename_i b
    cases hx
    split at h
    · rename_i key c left hb
      obtain ⟨m, seen, arr, clock, hh, hm, hhm, hborn, hleft, hlast⟩ := hs.iter b _ _ hb
      obtain ⟨e, he, h1, h2, h3⟩ := hlast key c rfl
      have hf : arr.find? (·.born == e.born) = some e := by rw [← Array.find?_toList]; exact find_born e arr.toList hborn.2 he
      refine SemOK.same hs (v := .tuple #[e.key, e.val]) ?_ (.tuple _ _ rfl fun j a v hc hv => ?_) h
      · simp only [Instr.entry, getObj, Sem.run_bind, Sem.run, hh, Result.andThen, hhm, h1, hf]
        simp
      · match j, hc, hv with
        | 0, hc, hv => simp at hc hv; subst hc; subst hv; rw [h2]; exact .sc _
        | 1, hc, hv => simp at hc hv; subst hc; subst hv; exact h3
        | j + 2, hc, hv => simp at hc
    · exact h.elim
  · exact h.elim

theorem filter_ne {e : MapEntry} : ∀ (L : List MapEntry) (j : Nat), (L.map (·.born)).Nodup → L[j]? = some e → L.filter (fun x => !(x.born == e.born)) = L.eraseIdx j
  | [], j, _, h => by simp at h
  | x :: L, 0, hn, h => by
    simp at h; subst h
    have hn' : x.born ∉ L.map (·.born) ∧ (L.map (·.born)).Nodup := List.nodup_cons.1 hn
    simp only [List.filter_cons, beq_self_eq_true, Bool.not_true, Bool.false_eq_true, if_false, List.eraseIdx_cons_zero]
    refine List.filter_eq_self.2 fun y hy => ?_
    have : y.born ≠ x.born := fun h => hn'.1 (h ▸ List.mem_map.2 ⟨y, hy, rfl⟩)
    simp [this]
  | x :: L, j + 1, hn, h => by
    have hn' : x.born ∉ L.map (·.born) ∧ (L.map (·.born)).Nodup := List.nodup_cons.1 hn
    simp only [List.getElem?_cons_succ] at h
    have ih := filter_ne L j hn'.2 h
    have hx : (x.born == e.born) = false := by
      rw [beq_eq_false_iff_ne]
      intro hc
      exact hn'.1 (hc ▸ List.mem_map.2 ⟨e, List.mem_of_getElem? h, rfl⟩)
    simp [List.filter_cons, hx, ih]

theorem filter_push {arr : Array MapEntry} {seen : Array Nat} {e : MapEntry} {j : Nat} (hn : (arr.toList.map (·.born)).Nodup)
    (he : (arr.filter fun e => !seen.contains e.born).toList[j]? = some e) :
    (arr.filter fun x => !(seen.push e.born).contains x.born).toList = (arr.filter fun e => !seen.contains e.born).toList.eraseIdx j := by
  rw [← filter_ne _ j ((List.Sublist.map _ (by simpa using List.filter_sublist)).nodup hn) he]
  simp only [Array.toList_filter, List.filter_filter]
  congr 1
  funext x
  rw [contains_push]
  cases seen.contains x.born <;> simp

theorem ext_iter {w : World} {b : Nat} {l : Option (Value × AV)} {r : List (Value × AV)} {l' : Option (Value × AV)} {r' : List (Value × AV)} {m c : Nat} {s : Array Nat} {o : Obj} (hb : σ b = some (.iter l r))
    (hh : w.heap[b]? = some (.mapIter (some m) c s c)) : Ext σ w (σ.set b (.iter l' r')) (wput w b o) := by
  refine ⟨by simp [wput], fun b' hb' hn => ?_, fun b' m hm => ?_, fun b' us ty' fr hv => ?_, by simp [wput], by simp [wput]⟩
  · have hne : b' ≠ b := fun e => by rw [e, hb] at hn; cases hn
    exact ⟨wput_other hne, by simp [Sto.set, hne, hn]⟩
  · have hne : b' ≠ b := fun e => by rw [e, hb] at hm; cases hm
    exact ⟨fun off _ => cell_of_block (wput_other hne), .inr ⟨m, Nat.le_refl _, by simp [Sto.set, hne, hm]⟩⟩
  · have hne : b' ≠ b := fun e => by rw [e, hh] at hv; cases hv
    exact ⟨us, (wput_other hne).trans hv, rfl⟩

theorem next_sound {x : AV} {vx : Value} {s : Bool} {ty : TypeId} (hs : St σ w) (hx : Rel σ w x vx) (h : aNext x s σ k) : SemOK P (Instr.next vx s ty) σ w k := by
  unfold aNext at h
  split at h
  · rename_i b
    cases hx
    split at h
    · rename_i last left hb
      obtain ⟨h0, h1⟩ := h
      obtain ⟨m, seen, arr, clock, hh, hm, hhm, hborn, hleft, hlast⟩ := hs.iter b _ _ hb
      have hne : m ≠ b := fun e => by rw [e, hh] at hhm; cases hhm
      have htest := next_test_false seen arr clock clock (fun x hx => hborn.1 x hx) (Nat.le_refl _)
      have e1 : (arr.filter fun e => !seen.contains e.born).filter (fun x => decide (x.born < clock)) = (arr.filter fun e => !seen.contains e.born) :=
        Array.filter_eq_self.2 (fun x hx => by simpa using hborn.1 x (by have := (Array.mem_filter.1 hx).1; simpa using this))
      have e2 : (arr.filter fun e => !seen.contains e.born).filter (fun x => decide (x.born ≥ clock)) = #[] := by
        rw [Array.filter_eq_empty_iff]
        intro x hx
        have := hborn.1 x (by have := (Array.mem_filter.1 hx).1; simpa using this)
        simp
        omega
      have hpush : ∀ (e : MapEntry) (j : Nat), (arr.filter fun e => !seen.contains e.born).toList[j]? = some e →
          (arr.filter fun x => !(seen.push e.born).contains x.born).toList = (arr.filter fun e => !seen.contains e.born).toList.eraseIdx j := fun e j he => filter_push hborn.2 he
      have hmem : ∀ x ∈ (arr.filter fun e => !seen.contains e.born).toList, x ∈ arr.toList := fun x hx => by
        simp at hx ⊢; exact hx.1
      generalize hL : (arr.filter fun e => !seen.contains e.born) = L at e1 e2 hleft hpush hmem
      by_cases hz : L.size = 0
      · have hLe : L = #[] := Array.eq_empty_of_size_eq_zero hz
        have hle : left = [] := by
          have := hleft.1
          rw [hLe] at this
          exact List.eq_nil_of_length_eq_zero (by simpa using this)
        refine SemOK.same hs (v := .tuple #[.bool false]) ?_ (.tuple _ _ rfl fun j a v hc hv => ?_) (h0 hle)
        · simp only [Instr.next, getObj, Sem.run_bind, Sem.run, hh, hhm, Result.andThen, htest, Bool.false_eq_true, if_false, hL, e1, e2, Array.append_empty]
          rw [hLe]
          simp [choose, Sem.run, Question.forced]
        · match j, hc, hv with
          | 0, hc, hv => simp at hc hv; subst hc; subst hv; exact .sc _
          | j + 1, hc, hv => simp at hc
      · have hne' : L.isEmpty = false := by simp [Array.isEmpty, hz]
        have hch : ∃ (j : Nat) (w1 : World), j < L.size ∧ (w1 = w ∨ w1 = w.drew) ∧ (choose (Question.mapNext L.size)).run P w = .ok j w1 := by
          by_cases hf : L.size ≤ 1
          · exact ⟨0, w, by omega, .inl rfl, by simp [choose, Sem.run, Question.forced, hf]⟩
          · exact ⟨_, w.drew, Nat.mod_lt _ (by omega), .inr rfl, by
              simp only [choose, Sem.run, Question.forced, decide_eq_true_eq, hf, if_false, Question.cut]
              rfl⟩
        obtain ⟨j, w1, hj, hw1, hrun⟩ := hch
        have hje : L.toList[j]? = some L[j] := by simp [hj]
        have hjl : j < left.length := by rw [hleft.1]; simpa using hj
        obtain ⟨key, c, hkc⟩ : ∃ key c, left[j]? = some (key, c) := ⟨left[j].1, left[j].2, by simp [hjl]⟩
        obtain ⟨hk1, hk2⟩ := hleft.2 j key c _ hkc hje
        have hs1 : St σ w1 := by rcases hw1 with rfl | rfl; exact hs; exact hs.drew
        have hheap : w1.heap = w.heap := by rcases hw1 with rfl | rfl <;> rfl
        have hx0 : Ext σ w σ w1 := by
          rcases hw1 with rfl | rfl
          · exact Ext.refl _ _
          · exact ext_drew (Ext.refl σ w.drew)
        have hh1 : w1.heap[b]? = some (.mapIter (some m) clock seen clock) := by rw [hheap]; exact hh
        have hx1 := ext_iter (σ := σ) (w := w1) (l' := some (key, c)) (r' := left.eraseIdx j) (o := .mapIter (some m) clock (seen.push L[j].born) clock) hb hh1
        have hxx := hx0.trans hx1 hs.dom
        refine ⟨.tuple #[.bool true, L[j].key, L[j].val], _, _, wput w1 b (.mapIter (some m) clock (seen.push L[j].born) clock), ?_, h1 j key c hkc, ?_, ?_, hxx⟩
        · simp only [Instr.next, getObj, Sem.run_bind, Sem.run, hh, hhm, Result.andThen, htest, Bool.false_eq_true, if_false, hL, e1, e2, Array.append_empty, hne', Array.empty_append, Array.size_map]
          have hset : (setObj b (.mapIter (some m) clock (seen.push L[j].born) clock)).run P w1 = .ok () (wput w1 b (.mapIter (some m) clock (seen.push L[j].born) clock)) := by
            simp [setObj, Sem.run, hh1, wput]
          simp only [hrun, Array.getElem?_map, Array.getElem?_eq_getElem hj, Option.map_some, Sem.run_bind, hset, Result.andThen]
          rfl
        · refine hs1.by_blocks hx1 (fun b' o hb' => ?_) fun b' o hb' => ?_
          · simp only [wput, Array.size_setIfInBounds]
            by_cases hbe : b' = b
            · subst hbe; exact hs1.dom _ _ hb
            · simp only [Sto.set, hbe, if_false] at hb'; exact hs1.dom _ _ hb'
          · by_cases hbe : b' = b
            · subst hbe
              simp only [Sto.set, if_true, Option.some.injEq] at hb'
              subst hb'
              refine .inr (.inr (.inr (.inr (.inl ⟨_, _, rfl, m, seen.push L[j].born, arr, clock, wput_same hh1, by simp [Sto.set, hne, hm], (wput_other hne).trans (by rw [hheap]; exact hhm), hborn, ?_, fun k0 c0 hkc0 => ?_⟩))))
              · rw [hpush _ j hje]
                exact (hleft.mono hxx).erase j
              · cases hkc0
                exact ⟨L[j], hmem _ (by simp), by simp, hk1, hk2.mono hxx⟩
            · simp only [Sto.set, hbe, if_false] at hb'
              exact .inl ⟨hb', wput_other hbe⟩
        · refine .tuple _ _ rfl fun i a v hc hv => ?_
          match i, hc, hv with
          | 0, hc, hv => simp at hc hv; subst hc; subst hv; exact .sc _
          | 1, hc, hv => simp at hc hv; subst hc; subst hv; rw [hk1]; exact .sc _
          | 2, hc, hv => simp at hc hv; subst hc; subst hv; exact hk2.mono hxx
          | i + 3, hc, hv => simp at hc
    · exact h.elim
  · exact h.elim
end Go.Aw

/- Calls are sound over abstract values. -/
set_option linter.unusedSimpArgs false
set_option linter.unusedVariables false
namespace Go.Aw
open Go
variable {P : Program} {σ : Sto} {w : World} {k : AV → Sto → Prop}

theorem relL_map {N : Nat} {env : Env} {a : Act} (he : EnvR N σ w env a) (xs : Array Operand) : RelL σ w (xs.toList.map (ev env)) (xs.map a.eval) := by
  refine ⟨by simp, fun i c v hc hv => ?_⟩
  simp only [List.getElem?_map, Array.getElem?_map, Array.getElem?_toList] at hc hv
  cases hx : xs[i]? with
  | none => rw [hx] at hc; cases hc
  | some x =>
    rw [hx] at hc hv
    simp only [Option.map_some, Option.some.injEq] at hc hv
    subst hc; subst hv
    exact rel_ev he x

theorem RelL.cat {cs cs' : List AV} {vs vs' : Array Value} (h : RelL σ w cs vs) (h' : RelL σ w cs' vs') : RelL σ w (cs ++ cs') (vs ++ vs') := by
  have := RelL.append (cs := cs) (cs' := cs') (vs := vs.toList) (vs' := vs'.toList) (by simpa using h) (by simpa using h')
  rwa [show (vs.toList ++ vs'.toList).toArray = vs ++ vs' from by apply Array.ext'; simp] at this

theorem two_args {cs : List AV} {vs : Array Value} {x y : AV} (h : RelL σ w cs vs) (hc : cs = [x, y]) : ∃ vx vy, vs = #[vx, vy] ∧ Rel σ w x vx ∧ Rel σ w y vy := by
  subst hc
  obtain ⟨hl, hr⟩ := h
  match hvs : vs.toList, hl with
  | [a, b], _ =>
    have e : vs = #[a, b] := by cases vs; simp at hvs; rw [hvs]
    subst e
    exact ⟨a, b, rfl, hr 0 x a rfl rfl, hr 1 y b rfl rfl⟩
  | [], hl => rw [← Array.length_toList, hvs] at hl; cases hl
  | [_], hl => rw [← Array.length_toList, hvs] at hl; cases hl
  | _ :: _ :: _ :: _, hl => rw [← Array.length_toList, hvs] at hl; simp at hl

theorem one_arg {cs : List AV} {vs : Array Value} {x : AV} (h : RelL σ w cs vs) (hc : cs = [x]) : ∃ vx, vs = #[vx] ∧ Rel σ w x vx := by
  subst hc
  obtain ⟨hl, hr⟩ := h
  match hvs : vs.toList, hl with
  | [a], _ =>
    have e : vs = #[a] := by cases vs; simp at hvs; rw [hvs]
    subst e
    exact ⟨a, rfl, hr 0 x a rfl rfl⟩
  | [], hl => rw [← Array.length_toList, hvs] at hl; cases hl
  | _ :: _ :: _, hl => rw [← Array.length_toList, hvs] at hl; simp at hl

theorem types_of {xs : Array TypeId} {l : List TypeId} (h : xs.toList = l) : xs = l.toArray := by cases xs; simp at h; rw [h]

theorem builtin_sound {b : Builtin} {ts : Array TypeId} {ty : TypeId} {consts : Array Bool} {args : List AV} {vs : Array Value} (hs : St σ w) (hr : RelL σ w args vs)
    (h : aBuiltin P b ts.toList args σ k) :
    ∃ (v : Value) (r : AV) (σ' : Sto) (w' : World), (builtin b ts ty consts vs).run P w = .ok (.value v) w' ∧ k r σ' ∧ St σ' w' ∧ Rel σ' w' r v ∧ Ext σ w σ' w' := by
  have lift : ∀ (s : Sem Value), builtin b ts ty consts vs = (do pure (.value (← s))) → SemOK P s σ w k →
      ∃ (v : Value) (r : AV) (σ' : Sto) (w' : World), (builtin b ts ty consts vs).run P w = .ok (.value v) w' ∧ k r σ' ∧ St σ' w' ∧ Rel σ' w' r v ∧ Ext σ w σ' w' := by
    intro s he ⟨v, r, σ', w', h1, h2, h3, h4, h5⟩
    exact ⟨v, r, σ', w', by rw [he, Sem.run_bind, h1]; rfl, h2, h3, h4, h5⟩
  unfold aBuiltin at h
  split at h
  · rename_i t tok rows hts
    obtain ⟨h0, hk⟩ := h
    obtain ⟨⟨e, es, by'⟩, he⟩ := Option.isSome_iff_exists.1 h0
    obtain ⟨vx, rfl, hx⟩ := one_arg hr rfl
    refine lift _ rfl ?_
    rw [types_of hts]
    cases hx with
    | slice _ _ a n cap es' us hn hcap hes ht hc hrel =>
      exact SemOK.same hs (v := .int .i64 n) (by simp [Builtin.len_, run_underlying (elem_spec he).1, goInt]) (by rw [hn]; exact .sc _) hk
  · rename_i t s hts
    obtain ⟨h0, hk⟩ := h
    obtain ⟨vx, rfl, hx⟩ := one_arg hr rfl
    refine lift _ rfl ?_
    rw [types_of hts]
    cases hx
    exact SemOK.same hs (v := .int .i64 s.size) (by simp [Builtin.len_, run_underlying (kd_str h0), goInt]) (.sc _) hk
  · obtain ⟨vx, vy, rfl, hx, hy⟩ := two_args hr rfl
    refine lift _ rfl ?_
    cases hx; cases hy
    exact SemOK.same hs (by simp [Builtin.min_, Builtin.min2]) (.sc _) h
  · obtain ⟨vx, vy, rfl, hx, hy⟩ := two_args hr rfl
    refine lift _ rfl ?_
    cases hx; cases hy
    exact SemOK.same hs (by simp [Builtin.max_, Builtin.max2]) (.sc _) h
  · rename_i t u x y hts
    obtain ⟨vx, vy, rfl, hx, hy⟩ := two_args hr rfl
    refine lift _ rfl ?_
    rw [types_of hts]
    split at h
    · exact appendM_sound hs hx hy h
    · exact append_sound hs hx hy h
  · rename_i t u x y hts
    obtain ⟨vx, vy, rfl, hx, hy⟩ := two_args hr rfl
    refine lift _ rfl ?_
    rw [types_of hts]
    exact delete_sound hs hx hy h
  · rename_i t x hts
    obtain ⟨vx, rfl, hx⟩ := one_arg hr rfl
    refine lift _ rfl ?_
    rw [types_of hts]
    exact clear_sound hs hx h
  · rename_i t b' off n es hts
    obtain ⟨h0, hk⟩ := h
    obtain ⟨⟨e, es', by'⟩, he⟩ := Option.isSome_iff_exists.1 h0
    obtain ⟨vx, rfl, hx⟩ := one_arg hr rfl
    refine lift _ rfl ?_
    rw [types_of hts]
    cases hx
    exact SemOK.same hs (v := .int .i64 n) (by simp [Builtin.len_, run_underlying (elem_spec he).1, goInt]) (.sc _) hk
  · exact h.elim

theorem parts_map {N : Nat} {env : Env} {a : Act} (he : EnvR N σ w env a) (ps : Array (Nat × Operand)) :
    Parts σ w (ps.toList.map fun p => (p.1, ev env p.2)) (ps.map fun (p : Nat × Operand) => (p.1, a.eval p.2)).toList := by
  refine ⟨by simp, fun j p q hp hq => ?_⟩
  simp only [Array.toList_map, List.getElem?_map] at hp hq
  cases hx : ps.toList[j]? with
  | none => rw [hx] at hp; cases hp
  | some x =>
    rw [hx] at hp hq
    simp only [Option.map_some, Option.some.injEq] at hp hq
    subst hp; subst hq
    exact ⟨rfl, rel_ev he x.2⟩

theorem opt_map {N : Nat} {env : Env} {a : Act} (he : EnvR N σ w env a) (x : Option Operand) :
    (x.map (ev env) = none ∧ x.map a.eval = none) ∨ ∃ c v, x.map (ev env) = some c ∧ x.map a.eval = some v ∧ Rel σ w c v := by
  cases x with
  | none => exact .inl ⟨rfl, rfl⟩
  | some x => exact .inr ⟨_, _, rfl, rfl, rel_ev he x⟩

/-- what a step of an operation's comes to: a value; a call; a round of a range over a function -/
def OpRuns (P : Program) (o : Oper) (σ : Sto) (w : World) (a : Act) (k : AV → Sto → Prop) : Prop :=
  OpOK P o σ w a k ∨
  (∃ f args, (execOp a.eval o).run P w = .ok (.enter f args) w ∧ Calls P f args w fun e w' => ∃ v r σ', e = .returned v ∧ k r σ' ∧ St σ' w' ∧ Rel σ' w' r v ∧ Ext σ w σ' w') ∨
  (∃ l vs, (execOp a.eval o).run P w = (Instr.yield l vs).run P w ∧ ∀ n, YieldAt Fence.wide n P l vs w fun e w' => ∃ v r σ', e = .returned v ∧ k r σ' ∧ St σ' w' ∧ Rel σ' w' r v ∧ Ext σ w σ' w')
theorem OpOK.wp {o : Oper} {a : Act} (h : OpOK P o σ w a k) (_ : True) : OpRuns P o σ w a k := .inl h

/-- the fence of a frame: of a round, or of none -/
def FW : Option Nat → Fence
  | none => Fence.wide
  | some l => Fence.wide.inRound l
theorem FW_fn (ro : Option Nat) (f : FuncId) : (FW ro).fn f := by cases ro <;> trivial
theorem FW_depth (ro : Option Nat) : (FW ro).depth = none := by cases ro <;> rfl
theorem FW_round (ro : Option Nat) : (FW ro).round = ro := by cases ro <;> rfl
theorem FW_calls {ro : Option Nat} {n : Nat} {f : FuncId} {args : Array Value} {w : World} {R : Ending → World → Prop} (h : Calls P f args w R) : CallsIn (FW ro) n P f args w R := by
  cases ro with
  | none => exact callsIn_wide.2 h
  | some l => exact CallsIn.inRound l (callsIn_wide.2 h)
theorem FW_rounds {ro : Option Nat} {n l : Nat} {f : FuncId} {tmps : Array Value} {assign body : Code} {w : World} {R : Ending → World → Prop} (h : RoundIn Fence.wide n P l f tmps assign body w R) : RoundIn (FW ro) n P l f tmps assign body w R := by
  cases ro with
  | none => exact h
  | some l => exact h

theorem OpRuns.wpIn {o : Oper} {a : Act} {ro : Option Nat} {n : Nat} {next : Act → World → Prop} {QQ : Exit → Act → World → Prop} (hd : ∀ c, o.op ≠ .defer c) (h : OpRuns P o σ w a k)
    (hn : ∀ v r σ' w', k r σ' → St σ' w' → Rel σ' w' r v → Ext σ w σ' w' → next (a.put o.dst v) w') : o.wpIn (FW ro) n P a w next QQ := by
  refine ⟨fun f _ => FW_fn ro f, ?_⟩
  rw [Oper.semAt_plain (FW ro) _ _ hd]
  have hdep : (FW ro).depth.isSome = true → 1 ≤ n := fun h => by rw [FW_depth] at h; cases h
  rcases h with ⟨v, r, σ', w', hr, hk, h1, h2, h3⟩ | ⟨f, args, hr, hc⟩ | ⟨l, vs, hr, hy⟩
  · rcases hr with hr | ⟨hr, rfl⟩
    · rw [hr]; exact hn v r σ' w' hk h1 h2 h3
    · rw [hr]; exact hn undef r σ' w' hk h1 h2 h3
  · rw [hr]
    refine ⟨hdep, FW_calls (Calls.mono hc ?_)⟩
    rintro e w' ⟨v, r, σ', rfl, hk, h1, h2, h3⟩
    exact hn v r σ' w' hk h1 h2 h3
  · obtain ⟨fn, tmps, assign, body, h1, h2⟩ := hy (n - 1)
    rw [hr, h1]
    refine ⟨hdep, FW_rounds (h2.mono ?_)⟩
    rintro e w' ⟨v, r, σ', rfl, hk, h1, h2, h3⟩
    exact hn v r σ' w' hk h1 h2 h3

theorem callable_spec {f : FuncId} (h : callable P f = true) (vs : Array Value) (w : World) : (callFunc f vs).run P w = .ok (.enter f vs) w := by
  unfold callable at h
  cases hf : P.funcs[f]? with
  | none => rw [hf] at h; cases h
  | some fn =>
    rw [hf] at h
    simp only [Bool.and_eq_true, Bool.not_eq_true'] at h
    have hb : fn.body.isNone = false := by cases hb : fn.body <;> simp_all
    simp only [callFunc, Sem.run_bind, run_program, Result.andThen, hf, h.2, hb, Bool.false_eq_true, if_false, Sem.run_pure]

theorem meth_spec {t : TypeId} {name : String} {f : FuncId} (h : tyMeth P t name = some f) (hc : callable P f = true) (v : Value) (args : Array Value) (w : World) :
    (callMethod (.iface t v) name args).run P w = .ok (.enter f (#[v] ++ args)) w := by
  unfold tyMeth at h
  split at h
  · rename_i i e hi hu
    split at h
    · rename_i m hm
      split at h
      · rename_i hp
        split at h
        · rename_i f' hf
          cases h
          have hpath : m.path.toList = [] := by simpa using hp
          have hfu : P.types.size + Made.depth = (P.types.size + (Made.depth - 1)) + 1 := by simp [Made.depth]
          have hmeth : (method (P.types.size + Made.depth) t v name).run P w = .ok (f, v) w := by
            rw [hfu]
            unfold method
            simp only [Sem.run_bind, typeInfo, run_program, Result.andThen, hi, Sem.run_pure, hm, hpath, follow, hf, receiverAt, run_underlying hu, Place.get]
          simp only [callMethod, Sem.run_bind, run_program, Result.andThen, hmeth]
          exact callable_spec hc _ _
        · cases h
      · cases h
    · cases h
  · cases h

theorem invoke_method (name : String) (cap : Array Value) (t : TypeId) (v : Value) (xs : Array Value) : invoke (.fn (.method name) cap) (#[Value.iface t v] ++ xs) = callMethod (.iface t v) name xs := by
  have h0 : (#[Value.iface t v] ++ xs)[0]? = some (.iface t v) := by rw [Array.getElem?_append_left (by simp)]; rfl
  have h1 : (#[Value.iface t v] ++ xs).extract 1 (#[Value.iface t v] ++ xs).size = xs := by
    apply Array.ext'
    simp
  simp only [invoke, h0, h1]

theorem aop_runs {o : Oper} {N : Nat} {env : Env} {a : Act} (hs : St σ w) (he : EnvR N σ w env a) (h : aop P o env σ k) : OpRuns P o σ w a k := by
  have hn : True := trivial
  have fin : ∀ (s : Sem Value), execOp a.eval o = (do pure (.value (← s))) → SemOK P s σ w k → OpRuns P o σ w a k :=
    fun s h1 h2 => (OpOK.of_sem h1 h2).wp hn
  unfold aop at h
  split at h <;> rename_i ho
  case h_1 x => exact (OpOK.same (v := a.eval x) hs (by simp [execOp, ho]) (rel_ev he x) h).wp hn
  case h_2 x => exact (OpOK.same (v := a.eval x) hs (by simp [execOp, ho]) (rel_ev he x) h).wp hn
  case h_3 c x y =>
    split at h
    · rename_i t ht
      have hc := rel_ev he c
      rw [ht] at hc
      generalize hcv : a.eval c = vc at hc
      cases hc
      refine (OpOK.same (v := if t then a.eval x else a.eval y) hs (by simp [execOp, ho, hcv, asBool]) ?_ h).wp hn
      cases t
      · exact rel_ev he y
      · exact rel_ev he x
    · exact h.elim
  case h_4 t => exact fin _ (by simp only [execOp, ho]) (allocOp_sound hs h)
  case h_5 t x => exact fin (Instr.box t (a.eval x)) (by simp only [execOp, ho]) (box_sound hs (rel_ev he x) h)
  case h_6 t ps =>
    split at h
    · exact fin _ (by simp only [execOp, ho]) (buildA_sound hs (parts_map he ps) h)
    · exact fin _ (by simp only [execOp, ho]) (build_sound hs (parts_map he ps) h)
  case h_7 t n ps =>
    split at h
    · exact fin _ (by simp only [execOp, ho]) (buildSliceM_sound hs (parts_map he ps) h)
    · exact fin _ (by simp only [execOp, ho]) (buildSlice_sound hs (parts_map he ps) h)
  case h_8 t x => exact fin _ (by simp only [execOp, ho]) (load_sound hs (rel_ev he x) h)
  case h_9 t x y =>
    obtain ⟨σ', w', hr, hk, h1, h2⟩ := store_sound hs (rel_ev he x) (rel_ev he y) h
    exact (show OpOK P o σ w a k from ⟨undef, .any, σ', w', .inr ⟨by simp [execOp, ho, hr], rfl⟩, hk, h1, .any _, h2⟩).wp hn
  case h_10 x =>
    have hx := rel_ev he x
    unfold aNil at h
    split at h
    · rename_i hv; rw [hv] at hx; generalize hc : a.eval x = vc at hx; cases hx
      exact (OpOK.same (v := .pointer _) hs (by simp [execOp, ho, hc]) (.ptr _ _) h).wp hn
    · rename_i hv; rw [hv] at hx; generalize hc : a.eval x = vc at hx
      have hx' := hx
      cases hx
      exact (OpOK.same (v := .pointer _) hs (by simp [execOp, ho, hc]) hx' h).wp hn
    · rename_i hv; rw [hv] at hx; generalize hc : a.eval x = vc at hx
      have hx' := hx
      cases hx
      exact (OpOK.same (v := .func _ _ _) hs (by simp [execOp, ho, hc]) hx' h).wp hn
    · rename_i hv; rw [hv] at hx; generalize hc : a.eval x = vc at hx
      have hx' := hx
      cases hx
      exact (OpOK.same (v := .iface _ _) hs (by simp [execOp, ho, hc]) hx' h).wp hn
    · exact h.elim
  case h_11 op t x y _ =>
    split at h
    · rename_i hsh
      subst hsh
      exact fin _ (by simp only [execOp, ho]; rfl) (shr_sound x y hs (rel_ev he x) (rel_ev he y) h)
    · split at h
      · rename_i hy
        have hy' : y = .const (.slice none 0 0) := by
          unfold isNil at hy
          split at hy
          · rfl
          · cases hy
        subst hy'
        exact fin _ (by simp only [execOp, ho]; rfl) (nilEq_sound x (.const (.slice none 0 0)) hs (rel_ev he x) h)
      · exact fin _ (by simp only [execOp, ho]) (bin_sound x y hs (rel_ev he x) (rel_ev he y) h)
  case h_12 op t x => exact fin _ (by simp only [execOp, ho]) (un_sound hs (rel_ev he x) h)
  case h_13 s d x => exact fin _ (by simp only [execOp, ho]) (conv_sound hs (rel_ev he x) h)
  case h_14 t x =>
    obtain ⟨h1, h2, h⟩ := h
    refine fin (Instr.makeInterface t (a.eval x)) (by simp only [execOp, ho]) (SemOK.same hs (v := .iface t (a.eval x)) ?_ (.iface t _ _ (rel_ev he x)) h)
    cases hk : tyKd P t with
    | none => exact absurd hk h1
    | some d =>
      obtain ⟨u, hu, hd⟩ := kd_spec hk
      rw [hk] at h2
      simp only [Instr.makeInterface, Sem.run_bind, run_underlying hu, Result.andThen]
      cases u <;> first | rfl | skip
      simp only at hd
      subst hd
      exact absurd rfl h2
  case h_15 fn first cap =>
    have h1 := relL_map he first
    have h2 := relL_map he cap
    exact fin (Instr.makeFunc fn (first.map a.eval) (cap.map a.eval)) (by simp only [execOp, ho]) (SemOK.same hs (v := .func fn (first.map a.eval) (cap.map a.eval)) rfl (.func fn _ _ _ _ h1.1 h2.1 h1.2 h2.2) h)
  case h_16 t x lo hi mx =>
    split at h
    · exact fin _ (by simp only [execOp, ho]) (sliceM_sound hs (rel_ev he x) (opt_map he lo) (opt_map he hi) (opt_map he mx) h)
    · exact fin _ (by simp only [execOp, ho]) (slice_sound hs (rel_ev he x) (opt_map he lo) (opt_map he hi) (opt_map he mx) h)
  case h_17 s x f => exact fin _ (by simp only [execOp, ho]) (fieldAddr_sound hs (rel_ev he x) h)
  case h_18 s x f => exact fin _ (by simp only [execOp, ho]) (field_sound hs (rel_ev he x) h)
  case h_19 t x i =>
    split at h
    · exact fin _ (by simp only [execOp, ho]) (indexAddrM_sound hs (rel_ev he x) (rel_ev he i) h)
    · split at h
      · exact fin _ (by simp only [execOp, ho]) (indexAddrA_sound hs (rel_ev he x) (rel_ev he i) h)
      · exact fin _ (by simp only [execOp, ho]) (indexAddr_sound hs (rel_ev he x) (rel_ev he i) h)
  case h_20 t x i =>
    split at h
    · exact fin _ (by simp only [execOp, ho]) (indexA_sound hs (rel_ev he x) (rel_ev he i) h)
    · exact fin _ (by simp only [execOp, ho]) (index_sound hs (rel_ev he x) (rel_ev he i) h)
  case h_21 x i => exact fin _ (by simp only [execOp, ho]) (extract_sound hs (rel_ev he x) h)
  case h_22 c =>
    unfold aCall at h
    split at h
    · rename_i b hcal
      obtain ⟨v, r, σ', w', hr, hk, h1, h2, h3⟩ := builtin_sound (ty := o.type) (consts := c.args.map fun | .const _ => true | _ => false) hs (relL_map he c.args) h
      refine (show OpOK P o σ w a k from ⟨v, r, σ', w', .inl ?_, hk, h1, h2, h3⟩).wp hn
      simp only [execOp, ho, resolve, hcal, Sem.run_bind, Sem.run_pure, Result.andThen, invoke]
      exact hr
    · rename_i f hcal
      split at h
      · rename_i id first captured hf
        obtain ⟨hcall, h⟩ := h
        have hfr := rel_ev he f
        rw [hf] at hfr
        generalize hfv : a.eval f = vf at hfr
        cases hfr with
        | func _ _ _ v1 v2 hl hl' hh hh' =>
          have hargs := RelL.cat (RelL.cat ⟨hl, hh⟩ (relL_map he c.args)) ⟨hl', hh'⟩
          have hc := h w _ hs hargs
          have hrun : (execOp a.eval o).run P w = .ok (.enter id (v1 ++ c.args.map a.eval ++ v2)) w := by
            simp only [execOp, ho, resolve, hcal, hfv, Deferred.ofValue, Sem.run_bind, Sem.run_pure, Result.andThen, invoke]
            exact callable_spec hcall _ _
          exact .inr (.inl ⟨_, _, hrun, hc⟩)
      · rename_i name t x hf
        split at h
        · rename_i id hm
          obtain ⟨hcall, h⟩ := h
          have hfr := rel_ev he f
          rw [hf] at hfr
          generalize hfv : a.eval f = vf at hfr
          cases hfr with
          | func _ _ _ v1 v2 hl hl' hh hh' =>
            obtain ⟨vi, rfl, hvi⟩ := one_arg (σ := σ) (w := w) ⟨hl, hh⟩ rfl
            have h20 : v2 = #[] := Array.eq_empty_of_size_eq_zero (by simpa using hl'.symm)
            subst h20
            cases hvi with
            | iface _ _ v hv =>
              have hargs : RelL σ w (x :: c.args.toList.map (ev env)) (#[v] ++ c.args.map a.eval) :=
                RelL.cat (cs := [x]) (vs := #[v]) ⟨rfl, fun i c u hc hu => by
                  match i, hc, hu with
                  | 0, hc, hu => simp at hc hu; subst hc; subst hu; exact hv
                  | i + 1, hc, hu => simp at hc⟩ (relL_map he c.args)
              have hc := h w _ hs hargs
              have hrun : (execOp a.eval o).run P w = .ok (.enter id (#[v] ++ c.args.map a.eval)) w := by
                simp only [execOp, ho, resolve, hcal, hfv, Deferred.ofValue, Sem.run_bind, Sem.run_pure, Result.andThen, invoke_method]
                exact meth_spec hm hcall v (c.args.map a.eval) w
              exact .inr (.inl ⟨_, _, hrun, hc⟩)
        · exact h.elim
      · rename_i l hf
        have hfr := rel_ev he f
        rw [hf] at hfr
        generalize hfv : a.eval f = vf at hfr
        cases hfr with
        | func _ _ _ v1 v2 hl hl' hh hh' =>
          have h10 : v1 = #[] := Array.eq_empty_of_size_eq_zero (by simpa using hl.symm)
          have h20 : v2 = #[] := Array.eq_empty_of_size_eq_zero (by simpa using hl'.symm)
          subst h10; subst h20
          refine .inr (.inr ⟨l, c.args.map a.eval, ?_, fun n => h w _ n hs (relL_map he c.args)⟩)
          simp only [execOp, ho, resolve, hcal, hfv, Deferred.ofValue, Sem.run_bind, Sem.run_pure, Result.andThen, invoke]
          rw [Array.empty_append]
      · exact h.elim
    · rename_i y name hcal
      split at h
      · rename_i t x hf
        split at h
        · rename_i id hm
          obtain ⟨hcall, h⟩ := h
          have hfr := rel_ev he y
          rw [hf] at hfr
          generalize hfv : a.eval y = vf at hfr
          cases hfr with
          | iface _ _ v hv =>
            have hargs : RelL σ w (x :: c.args.toList.map (ev env)) (#[v] ++ c.args.map a.eval) :=
              RelL.cat (cs := [x]) (vs := #[v]) ⟨rfl, fun i c u hc hu => by
                match i, hc, hu with
                | 0, hc, hu => simp at hc hu; subst hc; subst hu; exact hv
                | i + 1, hc, hu => simp at hc⟩ (relL_map he c.args)
            have hc := h w _ hs hargs
            have hrun : (execOp a.eval o).run P w = .ok (.enter id (#[v] ++ c.args.map a.eval)) w := by
              simp only [execOp, ho, resolve, hcal, hfv, Sem.run_bind, Sem.run_pure, Result.andThen, invoke_method]
              exact meth_spec hm hcall v (c.args.map a.eval) w
            exact .inr (.inl ⟨_, _, hrun, hc⟩)
        · exact h.elim
      · exact h.elim
  case h_23 t l c => exact fin _ (by simp only [execOp, ho]) (makeSlice_sound hs (rel_ev he l) (rel_ev he c) h)
  case h_24 t r =>
    obtain ⟨rfl, h⟩ := h
    exact fin _ (by simp only [execOp, ho]; rfl) (makeMap_sound hs h)
  case h_25 t x i q => exact fin _ (by simp only [execOp, ho]) (lookup_sound hs (rel_ev he x) (rel_ev he i) h)
  case h_26 t m i x =>
    obtain ⟨σ', w', hr, hk, h1, h2⟩ := mapUpdate_sound hs (rel_ev he m) (rel_ev he i) (rel_ev he x) h
    exact (show OpOK P o σ w a k from ⟨undef, .any, σ', w', .inr ⟨by simp [execOp, ho, hr], rfl⟩, hk, h1, .any _, h2⟩).wp hn
  case h_27 t x => exact fin _ (by simp only [execOp, ho]) (range_sound hs (rel_ev he x) h)
  case h_28 x s => exact fin _ (by simp only [execOp, ho]; rfl) (next_sound hs (rel_ev he x) h)
  case h_29 x => exact fin _ (by simp only [execOp, ho]) (entry_sound hs (rel_ev he x) h)
  case h_30 => exact h.elim

theorem aop_plain {o : Oper} {env : Env} (h : aop P o env σ k) : ∀ c, o.op ≠ .defer c := by
  intro c hc
  unfold aop at h
  rw [hc] at h
  exact h

theorem aop_wpIn {o : Oper} {N : Nat} {env : Env} {a : Act} {ro : Option Nat} {n : Nat} {next : Act → World → Prop} {QQ : Exit → Act → World → Prop} (hs : St σ w) (he : EnvR N σ w env a) (h : aop P o env σ k)
    (hn : ∀ v r σ' w', k r σ' → St σ' w' → Rel σ' w' r v → Ext σ w σ' w' → next (a.put o.dst v) w') : o.wpIn (FW ro) n P a w next QQ :=
  (aop_runs hs he h).wpIn (aop_plain h) hn

end Go.Aw
