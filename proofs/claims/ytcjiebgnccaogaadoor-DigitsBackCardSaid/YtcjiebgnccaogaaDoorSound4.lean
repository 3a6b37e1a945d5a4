/- The operations on abstract values are sound, fourth part. -/
import Derived.Test.YtcjiebgnccaogaaDoorSound3
set_option linter.unusedSimpArgs false
set_option linter.unusedVariables false
namespace Go.Aw
open Go
variable {P : Program} {σ : Sto} {w : World} {k : AV → Sto → Prop}

/-! ### slicing -/
theorem oInt_spec {x : Option AV} {v : Option Value} (hr : (x = none ∧ v = none) ∨ ∃ a b, x = some a ∧ v = some b ∧ Rel σ w a b) {r : Option Int} (h : oInt x = some r) :
    (r = none ∧ v = none) ∨ ∃ k n, r = some n ∧ v = some (.int k n) := by
  rcases hr with ⟨rfl, rfl⟩ | ⟨a, b, rfl, rfl, hab⟩
  · simp only [oInt, Option.some.injEq] at h; exact .inl ⟨h.symm, rfl⟩
  · unfold oInt at h
    split at h
    · rename_i he; cases he
    · rename_i ki n he
      simp only [Option.some.injEq] at he h
      subst he; subst h
      cases hab
      exact .inr ⟨_, _, rfl, rfl⟩
    · cases h

theorem run_bound {k : IntKind} {n : Int} {y : Nat} {c : BoundsCode} (h : 0 ≤ n ∧ n ≤ y) : (Instr.sliceBound (.int k n) y c).run P w = .ok n.toNat w := by
  simp [Instr.sliceBound, asIntOf, h]

theorem slice_sound {t : TypeId} {x : AV} {v : Value} {lo hi mx : Option AV} {vl vh vm : Option Value} (hs : St σ w) (hx : Rel σ w x v)
    (hl : (lo = none ∧ vl = none) ∨ ∃ a b, lo = some a ∧ vl = some b ∧ Rel σ w a b)
    (hh : (hi = none ∧ vh = none) ∨ ∃ a b, hi = some a ∧ vh = some b ∧ Rel σ w a b)
    (hm : (mx = none ∧ vm = none) ∨ ∃ a b, mx = some a ∧ vm = some b ∧ Rel σ w a b)
    (h : aSlice P t x lo hi mx σ k) : SemOK P (Instr.sliceAt t v vl vh vm) σ w k := by
  unfold aSlice at h
  split at h
  · rename_i tok rows
    split at h
    · rename_i e es bytes lo' hi' mx' he e1 e2 e3
      obtain ⟨hu, inf, z, hin, _, hsz, _, _, hpos⟩ := elem_spec he
      have hsize : ∀ w, (sizeOf e).run P w = .ok es w := run_sizeOf (by simp [tySize, hin, hsz])
      obtain ⟨⟨hl0, hl1, hh1, hmx, hes⟩, hk⟩ := h
      cases hx with
      | slice _ _ a n cap es' us hn hcap hes' ht hc hrel =>
        have L := oInt_spec hl e1
        have H := oInt_spec hh e2
        have M := oInt_spec hm e3
        -- the numbers
        generalize hlv : lo'.getD 0 = l at *
        generalize hhv : hi'.getD rows.length = hgh at *
        obtain ⟨m, hmv⟩ : ∃ m : Nat, m = (match mx' with | some _ => hgh.toNat | none => cap) := ⟨_, rfl⟩
        have hbounds : (Instr.sliceBounds true n cap vl vh vm).run P w = .ok (l.toNat, hgh.toNat, m) w := by
          rcases M with ⟨rfl, rfl⟩ | ⟨km, mm, rfl, rfl⟩
          · simp only at hmv
            subst hmv
            rcases H with ⟨rfl, rfl⟩ | ⟨kh, hhh, rfl, rfl⟩
            · simp only [Option.getD_none] at hhv
              subst hhv
              rcases L with ⟨rfl, rfl⟩ | ⟨kl, ll, rfl, rfl⟩
              · simp only [Option.getD_none] at hlv; subst hlv
                simp [Instr.sliceBounds, hn]
              · simp only [Option.getD_some] at hlv; subst hlv
                simp [Instr.sliceBounds, run_bound (show 0 ≤ ll ∧ ll ≤ ((n : Nat) : Int) by omega), hn]
            · simp only [Option.getD_some] at hhv
              subst hhv
              have hb := run_bound (P := P) (w := w) (k := kh) (n := hhh) (y := m) (c := .sliceAcap) (by omega)
              rcases L with ⟨rfl, rfl⟩ | ⟨kl, ll, rfl, rfl⟩
              · simp only [Option.getD_none] at hlv; subst hlv
                simp [Instr.sliceBounds, hb]
              · simp only [Option.getD_some] at hlv; subst hlv
                simp [Instr.sliceBounds, hb, run_bound (show 0 ≤ ll ∧ ll ≤ ((hhh.toNat : Nat) : Int) by omega)]
          · simp only at hmx hmv
            obtain ⟨hmx, hsome⟩ := hmx
            subst hmv
            rcases H with ⟨rfl, rfl⟩ | ⟨kh, hhh, rfl, rfl⟩
            · simp at hsome
            · simp only [Option.getD_some] at hhv
              subst hhv
              subst hmx
              have hb1 := run_bound (P := P) (w := w) (k := km) (n := mm) (y := cap) (c := .slice3Acap) (by omega)
              have hb2 := run_bound (P := P) (w := w) (k := kh) (n := mm) (y := mm.toNat) (c := .slice3B) (by omega)
              rcases L with ⟨rfl, rfl⟩ | ⟨kl, ll, rfl, rfl⟩
              · simp only [Option.getD_none] at hlv; subst hlv
                simp [Instr.sliceBounds, hb1, hb2]
              · simp only [Option.getD_some] at hlv; subst hlv
                simp [Instr.sliceBounds, hb1, hb2, run_bound (show 0 ≤ ll ∧ ll ≤ ((mm.toNat : Nat) : Int) by omega)]
        have hmc : hgh.toNat ≤ m ∧ m ≤ cap := by
          rcases M with ⟨rfl, _⟩ | ⟨_, _, rfl, _⟩ <;> simp only at hmv <;> omega
        have hrun : (Instr.sliceAt t (.slice a n cap) vl vh vm).run P w =
            .ok (.slice (if m = l.toNat then a else a.map (·.add (l.toNat * es))) (hgh.toNat - l.toNat) (m - l.toNat)) w := by
          simp [Instr.sliceAt, Instr.slice, run_underlying hu, hbounds, hsize]
        have hflat : ∀ p c, ((rows.take hgh.toNat).drop l.toNat).flatten[p]? = some c → rows.flatten[l.toNat * es + p]? = some c := by
          intro p c hp
          rw [flatten_drop es l.toNat _ (fun r hr => hes r (List.mem_of_mem_take hr))] at hp
          exact flatten_take_get _ _ _ _ hp
        refine SemOK.same hs hrun ?_ hk
        refine .slice _ _ _ _ _ es (fun p => us (l.toNat * es + p)) (by simp; omega) (by omega) (fun r hr => hes r (List.mem_of_mem_take (List.mem_of_mem_drop hr))) ?_ ?_ (fun p c hp => hrel _ c (hflat p c hp))
        · -- the token
          rcases M with ⟨rfl, rfl⟩ | ⟨km, mm, rfl, rfl⟩
          · simp only at hmv ⊢
            rcases H with ⟨rfl, rfl⟩ | ⟨kh, hhh, rfl, rfl⟩
            · cases tok <;> simp only [tokOK] at ht ⊢
              simp only [Option.getD_none] at hhv
              omega
            · cases tok <;> simp [tokOK]
          · simp only at hmv ⊢
            show hgh.toNat - l.toNat = m - l.toNat
            rw [hmv]
        · intro p c hp
          obtain ⟨b, off, rfl, h1, h2⟩ := hc _ c (hflat p c hp)
          have hne : ¬ (m = l.toNat) := by
            have : p < ((rows.take hgh.toNat).drop l.toNat).flatten.length := (List.getElem?_eq_some_iff.1 hp).1
            rw [length_flatten_of es _ (fun r hr => hes r (List.mem_of_mem_take (List.mem_of_mem_drop hr)))] at this
            simp only [List.length_drop, List.length_take] at this
            intro e
            have h0 : min hgh.toNat rows.length - l.toNat = 0 := by omega
            rw [h0] at this; simp at this
          refine ⟨b, off + l.toNat * es, ?_, ?_, ?_⟩
          · rw [if_neg hne]; simp [add_at]
          · rw [Nat.add_assoc]; exact h1
          · rw [Nat.add_assoc]; exact h2
    · exact h.elim
  · rename_i s
    cases hx
    obtain ⟨hkd, h⟩ := h
    split at h
    · rename_i lo' hi' e1 e2
      obtain ⟨⟨hl0, hl1, hh1⟩, hk⟩ := h
      have L := oInt_spec hl e1
      have H := oInt_spec hh e2
      have M : vm = none := by
        rcases hm with ⟨_, h⟩ | ⟨_, _, h, _⟩
        · exact h
        · cases h
      subst M
      refine SemOK.same hs (v := .string (s.extract (lo'.getD 0).toNat (hi'.getD s.size).toNat)) ?_ (.sc _) hk
      rcases H with ⟨rfl, rfl⟩ | ⟨kh, hhh, rfl, rfl⟩
      · rcases L with ⟨rfl, rfl⟩ | ⟨kl, ll, rfl, rfl⟩
        · simp [Instr.sliceAt, Instr.slice, run_underlying (kd_str hkd), Instr.sliceBounds]
        · simp only [Option.getD_some, Option.getD_none] at hl0 hl1 hh1 ⊢
          simp [Instr.sliceAt, Instr.slice, run_underlying (kd_str hkd), Instr.sliceBounds, run_bound (show 0 ≤ ll ∧ ll ≤ ((s.size : Nat) : Int) by omega)]
      · simp only [Option.getD_some] at hl1 hh1 ⊢
        rcases L with ⟨rfl, rfl⟩ | ⟨kl, ll, rfl, rfl⟩
        · simp only [Option.getD_none] at hl0 hl1 ⊢
          simp [Instr.sliceAt, Instr.slice, run_underlying (kd_str hkd), Instr.sliceBounds, run_bound (show 0 ≤ hhh ∧ hhh ≤ ((s.size : Nat) : Int) by omega)]
        · simp only [Option.getD_some] at hl0 hl1 ⊢
          simp [Instr.sliceAt, Instr.slice, run_underlying (kd_str hkd), Instr.sliceBounds, run_bound (show 0 ≤ hhh ∧ hhh ≤ ((s.size : Nat) : Int) by omega),
            run_bound (show 0 ≤ ll ∧ ll ≤ ((hhh.toNat : Nat) : Int) by omega)]
    · exact h.elim
  · exact h.elim

/-! ### append -/
theorem run_append_room' (t ty e ty' : TypeId) (i : TypeInfo) (w : World) (ht : P.underlying t = some (.slice e)) (hi : P.info? e = some i)
    (g sLen sCap : Nat) (cur : Array Value) (hg : w.heap[g]? = some (.cells cur ty' (0, 0)))
    (a : Option Addr) (m c : Nat) (news : List Value) (hl : news.length = m * i.size) (hf : (Builtin.firstCells i.size m (.slice a m c)).run P w = .ok news.toArray w) (h1 : ∀ u ∈ news, u.oneCell' = true)
    (hroom : sLen + m ≤ sCap) (hfit : sLen * i.size + news.length ≤ cur.size) :
    (Builtin.append_ #[t, t] ty #[.slice (some ⟨g, 0, none⟩) sLen sCap, .slice a m c]).run P w =
      .ok (.slice (some ⟨g, 0, none⟩) (sLen + m) sCap) (w.setRow g (cur.toList.take (sLen * i.size) ++ news ++ cur.toList.drop (sLen * i.size + news.length)).toArray) := by
  have hst := run_storeCells_at P g (sLen * i.size) ty' news 0 cur w hg (by simpa using hfit) h1
  simp only [Nat.add_zero] at hst
  simp [Builtin.append_, run_underlying ht, sizeOf, typeInfo, hi, Builtin.lenOf, hroom, hf, Addr.add_lit, hst]

theorem run_append_grow' (t ty e : TypeId) (i : TypeInfo) (z : Value) (w : World) (ht : P.underlying t = some (.slice e)) (hi : P.info? e = some i) (hz : i.zero = some z)
    (s : Option Addr) (sLen sCap : Nat) (olds : List Value) (ho : ∀ w' : World, w'.heap = w.heap → (Builtin.firstCells i.size sLen (.slice s sLen sCap)).run P w' = .ok olds.toArray w')
    (a : Option Addr) (n c : Nat) (news : List Value) (hf : ∀ w' : World, w'.heap = w.heap → (Builtin.firstCells i.size n (.slice a n c)).run P w' = .ok news.toArray w')
    (hg : sCap < sLen + n) (h63 : sLen + n ≤ 9223372036854775807) (hfit : Builtin.nextslicecap (sLen + n) sCap * i.bytes ≤ 281474976710656) :
    (Builtin.append_ #[t, t] ty #[.slice s sLen sCap, .slice a n c]).run P w =
      .ok (.slice (some ⟨w.heap.size, 0, none⟩) (sLen + n) (grownCap w (sLen + n) sCap e))
        (w.drew.alloc (.cells (olds.toArray ++ news.toArray ++ Builtin.zeroCells z.cells (grownCap w (sLen + n) sCap e - (sLen + n))) e)) := by
  have hn : ¬ (sLen + n ≤ sCap) := by omega
  have h63' : ¬ (9223372036854775807 < ((sLen : Int) + (n : Int))) := by omega
  have h48' : ¬ (281474976710656 < Builtin.nextslicecap (sLen + n) sCap * i.bytes) := by omega
  have ho' := ho w.drew rfl
  have hf' := hf w.drew rfl
  simp [Builtin.append_, run_underlying ht, sizeOf, typeInfo, zeroValue, hi, hz, Builtin.lenOf, hn, h63', h48', Question.forced, ho', hf', newRow, grownCap]
  congr 2
  apply Array.ext'
  simp

theorem first_cells {tok : Tok} {rows : List (List AV)} {a : Option Addr} {n cap es : Nat} (hpos : 0 < es) (hx : Rel σ w (.slice tok rows) (.slice a n cap)) (hes : ∀ r ∈ rows, r.length = es) :
    ∃ vs : List Value, (∀ w' : World, w'.heap = w.heap → (Builtin.firstCells es n (.slice a n cap)).run P w' = .ok vs.toArray w') ∧ RelL σ w rows.flatten vs.toArray ∧ vs.length = n * es := by
  cases hx with
  | slice _ _ _ _ _ es' us hn hcap hes' ht hc hrel =>
    have hfl := length_flatten_of es rows hes
    refine ⟨(List.range (n * es)).map us, ?_, ⟨by simp [hfl, hn], ?_⟩, by simp⟩
    · intro w' hw'
      cases a with
      | none =>
        have hr : rows = [] := by
          cases rows with
          | nil => rfl
          | cons r rows =>
            have hr : r.length = es := hes r (by simp)
            have hlt : 0 < (r :: rows).flatten.length := by simp; omega
            obtain ⟨b, off, hb, _⟩ := hc 0 _ (List.getElem?_eq_getElem hlt)
            cases hb
        subst hr
        simp at hn
        subst hn
        simp [Builtin.firstCells]
      | some ad =>
        simp only [Builtin.firstCells]
        refine run_loadCells w' ad (n * es) us fun j hj => ?_
        have hlt : j < rows.flatten.length := by rw [hfl, hn]; exact hj
        obtain ⟨b, off, hb, _, h2⟩ := hc j _ (List.getElem?_eq_getElem hlt)
        cases hb
        rw [add_at, ← h2]
        exact cell_of_block (by rw [hw'])
    · intro p c v hp hv
      have hlt : p < n * es := by rw [← hn, ← hfl]; exact (List.getElem?_eq_some_iff.1 hp).1
      simp [hlt] at hv
      subst hv
      exact hrel p c hp

theorem cells_one {cs : List AV} {vs : List Value} (hr : RelL σ w cs vs.toArray) (h1 : ∀ c ∈ cs, AV.one c = true) : ∀ u ∈ vs, u.oneCell' = true := by
  intro u hu
  obtain ⟨j, hj, rfl⟩ := List.getElem_of_mem hu
  have hjx : j < cs.length := by have := hr.1; simp at this; omega
  have h2 := hr.2 j cs[j] vs[j] (by simp [hjx]) (by simp [hj])
  exact (AV.one_val h2 (h1 _ (List.getElem_mem hjx))).1

theorem ext_drew {σ σ' : Sto} {w w' : World} (h : Ext σ w.drew σ' w') : Ext σ w σ' w' := ⟨h.size, h.keep, h.top, h.shape, h.same⟩
theorem St.drew {σ : Sto} {w : World} (h : St σ w) : St σ w.drew := by
  have hx : Ext σ w σ w.drew := ⟨Nat.le_refl _, fun _ _ h => ⟨rfl, h⟩, fun _ m h => ⟨fun _ _ => rfl, .inr ⟨m, Nat.le_refl _, h⟩⟩, fun _ vs _ _ h => ⟨vs, h, rfl⟩, rfl, rfl⟩
  exact ⟨h.dom, fun b cs hb => by obtain ⟨vs, ty, e, hl, hr⟩ := h.cells b cs hb; exact ⟨vs, ty, e, hl, fun j c v hc hv => (hr j c v hc hv).mono hx⟩, h.top⟩

end Go.Aw
