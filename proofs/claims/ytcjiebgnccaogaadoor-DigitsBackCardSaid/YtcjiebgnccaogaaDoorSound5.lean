/- Appending to a slice is sound over abstract values. -/
import Derived.Test.YtcjiebgnccaogaaDoorSound4
set_option linter.unusedSimpArgs false
set_option linter.unusedVariables false
namespace Go.Aw
open Go
variable {P : Program} {σ : Sto} {w : World} {k : AV → Sto → Prop}

theorem RelL.append {cs cs' : List AV} {vs vs' : List Value} (h : RelL σ w cs vs.toArray) (h' : RelL σ w cs' vs'.toArray) : RelL σ w (cs ++ cs') (vs ++ vs').toArray := by
  have hl : cs.length = vs.length := by simpa using h.1
  have hl' : cs'.length = vs'.length := by simpa using h'.1
  refine ⟨by simp [hl, hl'], fun i c v hc hv => ?_⟩
  simp only [List.getElem?_toArray, List.getElem?_append, ← hl] at hc hv
  split at hc
  · rename_i h1; rw [if_pos h1] at hv; exact h.2 i c v hc (by simpa using hv)
  · rename_i h1; rw [if_neg h1] at hv; exact h'.2 _ c v hc (by simpa using hv)

/-- A live slice at the head of a block that holds its cells. -/
theorem live_slice {σ : Sto} {w : World} {rows : List (List AV)} {b n cap es m : Nat} {arr : Array Value} {ty : TypeId} (vs : List Value) (hn : rows.length = n) (hcap : n ≤ cap)
    (hes : ∀ r ∈ rows, r.length = es) (hb : w.heap[b]? = some (.cells arr ty (0, 0))) (hsz : cap * es ≤ arr.size) (hσ : σ b = some (.top m)) (hm : n * es ≤ m)
    (hv : ∀ j, j < vs.length → arr[j]? = vs[j]?) (hr : RelL σ w rows.flatten vs.toArray) :
    Rel σ w (.slice (.live b es) rows) (.slice (some ⟨b, 0, none⟩) n cap) := by
  have hfl := length_flatten_of es rows hes
  rw [hn] at hfl
  have hvl : vs.length = n * es := by have := hr.1; rw [List.size_toArray] at this; omega
  refine .slice _ _ _ n cap es (fun p => vs.getD p undef) hn hcap hes ⟨rfl, rfl, arr, ty, hb, hsz⟩ ?_ ?_
  · intro p c hp
    have hlt : p < vs.length := by have := (List.getElem?_eq_some_iff.1 hp).1; omega
    refine ⟨b, 0, rfl, .inr ⟨m, hσ, by omega⟩, ?_⟩
    have := hv p hlt
    simp [World.cell?, hb, this, hlt, List.getD]
  · intro p c hp
    have hlt : p < vs.length := by have := (List.getElem?_eq_some_iff.1 hp).1; omega
    exact hr.2 p c _ hp (by simp [hlt, List.getD])

theorem append_sound {t u ty : TypeId} {x y : AV} {vx vy : Value} (hs : St σ w) (hx : Rel σ w x vx) (hy : Rel σ w y vy) (h : aAppend P t u x y σ k) :
    SemOK P (Builtin.append_ #[t, u] ty #[vx, vy]) σ w k := by
  unfold aAppend at h
  split at h
  · rename_i e es bytes tok rows tok2 ys he
    obtain ⟨rfl, hby, hlen, hes, hesy, hone, htk, hclip, hk⟩ := h
    obtain ⟨hu, i, z, hi, hz, hsz, hbb, hzs, hpos⟩ := elem_spec he
    have hx' := hx
    have hy' := hy
    cases hx with
    | slice _ _ a n cap es' us hn hcap hes' ht hc hrel =>
      cases hy with
      | slice _ _ a2 n2 cap2 es2 us2 hn2 hcap2 hes2 ht2 hc2 hrel2 =>
        obtain ⟨vs, hvrun, hvr, hvl⟩ := first_cells (P := P) hpos hx' hes
        obtain ⟨vs2, hv2run, hv2r, hv2l⟩ := first_cells (P := P) hpos hy' hesy
        have h1 := cells_one hv2r (fun c hcm => by
          obtain ⟨r, hr, hcr⟩ := List.mem_flatten.1 hcm
          exact List.all_eq_true.1 (hone r hr) c hcr)
        have hesall : ∀ r ∈ rows ++ ys, r.length = es := fun r hr => (List.mem_append.1 hr).elim (hes r) (hesy r)
        subst hsz
        by_cases hroom : n + n2 ≤ cap
        · -- room
          cases tok with
          | dead => exact htk.elim
          | clip =>
            have hc0 : n = cap := ht
            have hn0 : n2 = 0 := by omega
            have hys : ys = [] := List.eq_nil_of_length_eq_zero (by omega)
            subst hys
            refine SemOK.same hs (v := .slice a n cap) ?_ hx' (hclip rfl rfl)
            have hnil : vs2 = [] := List.eq_nil_of_length_eq_zero (by rw [hv2l, hn0, Nat.zero_mul])
            subst hnil
            have hf := hv2run w rfl
            rw [hn0] at hf
            cases a with
            | none => simp [Builtin.append_, run_underlying hu, sizeOf, typeInfo, hi, Builtin.lenOf, hn0, hcap, hf]
            | some ad => simp [Builtin.append_, run_underlying hu, sizeOf, typeInfo, hi, Builtin.lenOf, hn0, hcap, hf, storeCells]
          | live b e' =>
            obtain ⟨rfl, hσ⟩ := htk
            obtain ⟨rfl, _, arr, ty', hb, hcs⟩ := ht
            have hfit : n * i.size + vs2.length ≤ arr.size := by
              rw [hv2l, ← Nat.add_mul]; exact Nat.le_trans (Nat.mul_le_mul_right _ hroom) hcs
            have hrun := run_append_room' (P := P) t ty e ty' i w hu hi b n cap arr hb a2 n2 cap2 vs2 hv2l (hv2run w rfl) h1 hroom hfit
            have hkk := hk b (.inl rfl)
            generalize harr : (arr.toList.take (n * i.size) ++ vs2 ++ arr.toList.drop (n * i.size + vs2.length)).toArray = arr' at hrun
            have harrs : arr'.size = arr.size := by rw [← harr]; simp; omega
            have hset := setRow_heap w b arr arr' ty' (0, 0) hb
            -- the cells below stay
            have hkeep : ∀ j, j < n * i.size → arr'[j]? = arr[j]? := by
              intro j hj
              rw [← harr]
              simp only [List.getElem?_toArray, List.append_assoc, List.getElem?_append, List.length_take, Array.length_toList, List.getElem?_take, Array.getElem?_toList]
              rw [if_pos (by omega), if_pos hj]
            have hx2 : Ext σ w ((tokDel σ (.live b i.size)).set b (.top ((rows.length + ys.length) * i.size))) (w.setRow b arr') := by
              refine ⟨by simp [World.setRow], fun b' hb' hnn => ?_, fun b' m hm => ?_, fun b' us' ty2 fr hv => ?_, by simp [World.setRow], by simp [World.setRow]⟩
              · have hne : b' ≠ b := fun e => by rw [e, hσ] at hnn; cases hnn
                exact ⟨setRow_other w b b' arr' hne, by simp [Sto.set, tokDel, Sto.del, hne, hnn]⟩
              · by_cases hne : b' = b
                · subst hne
                  rw [hσ] at hm; cases hm
                  refine ⟨fun off ho => ?_, .inr ⟨_, ?_, by simp only [Sto.set, if_true]; rfl⟩⟩
                  · simp only [World.cell?, hset, hb]
                    simp [hkeep off (by rw [← hn]; exact ho)]
                  · exact Nat.mul_le_mul_right _ (Nat.le_add_right _ _)
                · exact ⟨fun off _ => cell_of_block (setRow_other w b b' arr' hne), .inr ⟨m, Nat.le_refl _, by simp [Sto.set, tokDel, Sto.del, hne, hm]⟩⟩
              · by_cases hne : b' = b
                · subst hne
                  rw [hb] at hv
                  injection hv with hv
                  injection hv with e1 e2 e3
                  subst e1; subst e2; subst e3
                  exact ⟨arr', hset, harrs⟩
                · exact ⟨us', (setRow_other w b b' arr' hne).trans hv, rfl⟩
            have hst : St ((tokDel σ (.live b i.size)).set b (.top ((rows.length + ys.length) * i.size))) (w.setRow b arr') := by
              refine ⟨fun b' o hb' => ?_, fun b' cs' hb' => ?_, fun b' m hb' => ?_⟩
              · simp only [World.setRow, Array.size_modify]
                by_cases hne : b' = b
                · subst hne; exact hs.dom _ _ hσ
                · simp only [Sto.set, tokDel, Sto.del, hne, if_false] at hb'; exact hs.dom _ _ hb'
              · by_cases hne : b' = b
                · subst hne; simp [Sto.set] at hb'
                · simp only [Sto.set, tokDel, Sto.del, hne, if_false] at hb'
                  obtain ⟨vv, tt, ee, hl, hh⟩ := hs.cells b' cs' hb'
                  exact ⟨vv, tt, (setRow_other w b b' arr' hne).trans ee, hl, fun j c v hc hv => (hh j c v hc hv).mono hx2⟩
              · by_cases hne : b' = b
                · subst hne
                  simp only [Sto.set, if_true, Option.some.injEq, AObj.top.injEq] at hb'
                  refine ⟨arr', ty', hset, ?_⟩
                  rw [← hb', harrs, hn, hn2]
                  exact Nat.le_trans (Nat.mul_le_mul_right _ hroom) hcs
                · simp only [Sto.set, tokDel, Sto.del, hne, if_false] at hb'
                  obtain ⟨vv, tt, ee, hm⟩ := hs.top b' m hb'
                  exact ⟨vv, tt, (setRow_other w b b' arr' hne).trans ee, hm⟩
            -- the old cells are the slice's
            have hold : ∀ j, j < vs.length → arr[j]? = vs[j]? := by
              intro j hj
              have hj2 : j < n * i.size := by omega
              have hlt : j < rows.flatten.length := by rw [length_flatten_of i.size rows hes, hn]; exact hj2
              have hrun1 := hvrun w rfl
              obtain ⟨b', off', hbe, _, h2⟩ := hc j _ (List.getElem?_eq_getElem hlt)
              cases hbe
              simp only [World.cell?, hb] at h2
              have hr2 := run_loadCells (P := P) w ⟨b, 0, none⟩ (n * i.size) us (fun p hp => by
                have hltp : p < rows.flatten.length := by rw [length_flatten_of i.size rows hes, hn]; exact hp
                obtain ⟨b', off', hbe, _, h2⟩ := hc p _ (List.getElem?_eq_getElem hltp)
                cases hbe
                rw [add_at]; exact h2)
              simp only [Builtin.firstCells, hr2, Result.ok.injEq, and_true] at hrun1
              have hvs : vs = (List.range (n * i.size)).map us := by
                have := congrArg Array.toList hrun1
                simpa using this.symm
              rw [hvs]
              simp at h2
              simp [hj2, h2]
            refine ⟨_, _, _, _, hrun, hkk, hst, ?_, hx2⟩
            refine live_slice (vs ++ vs2) (by simp [hn, hn2]) hroom hesall hset (by rw [harrs]; exact hcs) (by simp only [Sto.set, if_true]; rfl)
              (by rw [hn, hn2]; exact Nat.le_refl _) ?_ (by rw [List.flatten_append]; exact (RelL.append hvr hv2r).mono hx2)
            intro j hj
            by_cases hjl : j < vs.length
            · rw [hkeep j (by omega), hold j hjl, List.getElem?_append_left hjl]
            · rw [List.getElem?_append_right (by omega), ← harr]
              have hj' : j < (vs ++ vs2).length := hj
              simp only [List.length_append] at hj'
              simp only [List.getElem?_toArray, List.append_assoc, List.getElem?_append, List.length_take, Array.length_toList]
              rw [if_neg (by omega), if_pos (by omega)]
              congr 1; omega
        · -- growth
          have hys : ys ≠ [] := fun e => by subst e; simp at hn2; omega
          have hgrow : cap < n + n2 := by omega
          have hfit : Builtin.nextslicecap (n + n2) cap * i.bytes ≤ 281474976710656 := by
            refine growslice_fits hgrow ?_
            have : (n + n2) * i.bytes ≤ 1073741824 * 4096 := Nat.mul_le_mul (by omega) (by omega)
            omega
          have hrun := run_append_grow' (P := P) t ty e i z w hu hi hz a n cap vs hvrun a2 n2 cap2 vs2 hv2run hgrow (by omega) hfit
          have hcapge := grownCap_ge w (n + n2) cap e
          generalize hcp : grownCap w (n + n2) cap e = ncap at hrun hcapge
          generalize harr : vs.toArray ++ vs2.toArray ++ Builtin.zeroCells z.cells (ncap - (n + n2)) = arr at hrun
          have hasz : arr.size = ncap * i.size := by
            rw [← harr]
            simp only [Array.size_append, List.size_toArray, hvl, hv2l, size_zeroCells, hzs, ← Nat.add_mul]
            congr 1; omega
          have hkk := hk w.heap.size (.inr ⟨hs.new, hys⟩)
          have hsub : Sub (tokDel σ tok) σ := by
            cases tok with
            | dead => exact Sub.refl σ
            | clip => exact Sub.refl σ
            | live b e' =>
              intro b' o hb'
              simp only [tokDel, Sto.del] at hb'
              split at hb'
              · cases hb'
              · exact hb'
          have hs1 : St (tokDel σ tok) w.drew := (hs.drew).sub hsub
          have hnone : tokDel σ tok w.heap.size = none := hsub.none hs.new
          have hx1 : Ext σ w (tokDel σ tok) w.drew := by
            have := hsub.ext w
            exact ⟨this.size, this.keep, this.top, this.shape, this.same⟩
          have hx2 := ext_alloc hs1 (.cells arr e) ((tokDel σ tok).set w.heap.size (.top ((rows.length + ys.length) * i.size))) (fun b hb => by simp [Sto.set, show b ≠ w.heap.size from hb])
          have hst : St ((tokDel σ tok).set w.heap.size (.top ((rows.length + ys.length) * i.size))) (w.drew.alloc (.cells arr e)) := by
            refine St.alloc hs1 arr e (fun b hb => by simp [Sto.set, show b ≠ w.heap.size from hb]) (.inr (.inr ⟨(rows.length + ys.length) * i.size, by simp [Sto.set], ?_⟩))
            rw [hasz, hn, hn2]; exact Nat.mul_le_mul_right _ hcapge
          have hxx := hx1.trans hx2 hs.dom
          refine ⟨_, _, _, _, hrun, hkk, hst, ?_, hxx⟩
          refine live_slice (vs ++ vs2) (by simp [hn, hn2]) hcapge hesall (heap_alloc_at w.drew (.cells arr e)) (by rw [hasz]; exact Nat.le_refl _) (by simp only [Sto.set, if_true]; rfl)
            (by rw [hn, hn2]; exact Nat.le_refl _) ?_ (by rw [List.flatten_append]; exact (RelL.append hvr hv2r).mono hxx)
          intro j hj
          rw [← harr]
          have hj' : j < vs.length + vs2.length := by simpa using hj
          rw [Array.getElem?_append_left (by simp; omega)]
          rw [show vs.toArray ++ vs2.toArray = (vs ++ vs2).toArray from by simp]
          simp only [List.getElem?_toArray]
  · exact h.elim

end Go.Aw
