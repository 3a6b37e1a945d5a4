/- Parsing and printing: the program's answers. -/
import Derived.Test.YtcjiebgnccaogaaDoorDig2
namespace Go.Proofs.YtcjiebgnccaogaaDoor
open Go Go.Aw
set_option linter.unusedVariables false
set_option linter.unusedSimpArgs false
variable {S : Int → Addr} {te : TypeId} {pe : Value}

theorem kept_bytes (w : World) (t : ByteArray) : Kept w (Lib.bytesWorld w 5 t) := by
  exact Kept.of_below (Lib.bytesWorld_below w 5 t)

theorem kept_grow (w : World) (k : Nat) (os : Array Obj) : Kept w (Sort.grow (w.drewN k) os) := by
  refine ⟨rfl, rfl, by simp [Sort.grow], fun i hi => ?_⟩
  simp only [Sort.grow]
  rw [Array.getElem?_append]
  rw [if_pos (by simpa using hi)]
  rfl

theorem pint_ok (σ : Sto) (l : List UInt8) (v : Int) (hl : l.length ≤ 1000000) (h : Lib.parseIntB 64 l = .ok v) :
    ACalls Tryd.prog 19 [txt l, .sc (.int .i64 10), .sc (.int .i64 64)] σ (fun r σ' => r = .tuple [.sc (.int .i64 v), .sc .nilIface] ∧ σ' = σ) := by
  refine ACalls.of_kept fun w vs hs hr => ?_
  obtain ⟨a, b, c, rfl, h1, h2, h3⟩ := relL_three hr
  obtain rfl := rel_sc h1
  obtain rfl := rel_sc h2
  obtain rfl := rel_sc h3
  refine (Tryd.strconv_ParseInt_10_at64_ok ⟨l.toArray⟩ (by rw [size_txt]; omega) v (by simpa using h) w).mono ?_
  rintro e w' ⟨rfl, hw⟩
  refine ⟨_, .tuple [.sc (.int .i64 v), .sc .nilIface], rfl, ⟨rfl, rfl⟩, ?_, rel_pair (.sc _) (.sc _)⟩
  rcases hw with rfl | ⟨t, rfl⟩
  · exact Kept.refl _
  · exact kept_bytes w t

theorem pint_range (σ : Sto) (hG : GOK S te pe σ) (l : List UInt8) (hl : l.length ≤ 1000000) (h : Lib.parseIntB 64 l = .range) :
    ACalls Tryd.prog 19 [txt l, .sc (.int .i64 10), .sc (.int .i64 64)] σ (fun r σ' => (∃ v n, r = .tuple [.sc (.int .i64 v), .sc (.iface 43 (.pointer (some ⟨n, 0, none⟩)))]) ∧ σ' = σ) := by
  refine ACalls.of_kept fun w vs hs hr => ?_
  obtain ⟨a, b, c, rfl, h1, h2, h3⟩ := relL_three hr
  obtain rfl := rel_sc h1
  obtain rfl := rel_sc h2
  obtain rfl := rel_sc h3
  refine (Tryd.strconv_ParseInt_10_at64_range ⟨l.toArray⟩ (by rw [size_txt]; omega) (by simpa using h) (.iface te pe) w (hs.cell hG.rng rfl) (.inr ⟨te, pe, rfl⟩)).mono ?_
  rintro e w' ⟨n, rfl, -, -, hb⟩
  exact ⟨_, _, rfl, ⟨⟨_, n, rfl⟩, rfl⟩, Kept.of_below hb, rel_pair (.sc _) (.sc _)⟩

theorem print_lib (σ : Sto) (hG : GOK S te pe σ) (n : Int) (h0 : -9223372036854775808 ≤ n) (h1 : n ≤ 9223372036854775807) :
    ACalls Tryd.prog 21 [.sc (.int .i64 n), .sc (.int .i64 10)] σ (fun r σ' => r = txt (Lib.itoa n) ∧ σ' = σ) := by
  refine ACalls.of_kept fun w vs hs hr => ?_
  obtain ⟨a, b, rfl, k1, k2⟩ := relL_two hr
  obtain rfl := rel_sc k1
  obtain rfl := rel_sc k2
  have htab : Lib.TabIs Tryd.prog w "internal/strconv.uint64pow10" .u64 Lib.pow10Tab := by
    obtain ⟨vs, ty, hh, hl, hc⟩ := hs.cells 22 _ hG.tab
    have hv : vs = (Lib.pow10Tab.map fun z => Value.int .u64 z).toArray := by
      apply Array.ext
      · rw [← hl]; simp
      · intro i h1 h2
        have h3 : i < Lib.pow10Tab.length := by simpa using h2
        have := hc i (.sc (.int .u64 Lib.pow10Tab[i])) vs[i] (by simp [h3]) (by simp [h1])
        rw [rel_sc this]
        simp
    have hg : Tryd.prog.globalNamed "internal/strconv.uint64pow10" = some 22 := by kernel_rfl
    unfold Lib.TabIs World.var?
    rw [hg]
    simp [hh, hv]
  refine (Tryd.strconv_FormatInt_10 n h0 h1 w htab).mono ?_
  rintro e w' ⟨rfl, k, os, rfl⟩
  exact ⟨_, _, rfl, ⟨rfl, rfl⟩, kept_grow _ _ _, .sc _⟩

theorem print_spec (σ : Sto) (hG : GOK S te pe σ) (n : Int) (h0 : -9223372036854775808 ≤ n) (h1 : n ≤ 9223372036854775807) :
    ACalls Tryd.prog 8 [.sc (.int .i64 n)] σ (fun r σ' => r = txt (Lib.itoa n) ∧ σ' = σ) := by
  refine fn_of Tab.mixed Tryd.func8 rfl rfl rfl ?_
  simp -implicitDefEqProofs
  refine (print_lib σ hG n h0 h1).mono ?_
  rintro r σ' ⟨rfl, rfl⟩
  simp -implicitDefEqProofs

theorem parse_spec (σ : Sto) (hG : GOK S te pe σ) (l : List UInt8) (hl : l.length ≤ 1000000) :
    ACalls Tryd.prog 7 [txt l] σ (fun r σ' => ∃ e, r = .tuple [.sc (.int .i64 (prs l).1), e] ∧ ErrAt S σ' e (prs l).2.1 (prs l).2.2 ∧ Aw.Sub σ σ') := by
  refine fn_of Tab.mixed Tryd.func7 rfl rfl rfl ?_
  simp -implicitDefEqProofs
  refine (misfit_spec σ l hl).mono ?_
  rintro r σ1 ⟨rfl, rfl⟩
  by_cases hm : 0 ≤ mis l
  · simp -implicitDefEqProofs [hm]
    refine (new_spec σ1 hG 1 (by omega) (by omega)).mono ?_
    rintro r σ2 ⟨rfl, rfl⟩
    simp -implicitDefEqProofs
    refine (at_spec σ2 (mis l) (S 1)).mono ?_
    rintro r σ3 ⟨b, rfl, hb, rfl⟩
    simp -implicitDefEqProofs [prs_bad hm]
    exact ⟨.inr ⟨b, by omega, by omega, rfl, by simp⟩, sub_set (Sub.refl _) hb⟩
  · have hm1 : mis l = -1 := by rcases mis_range l with h | h; exact h; omega
    simp -implicitDefEqProofs [hm]
    rcases parse_num hm1 with ⟨hp, hq⟩ | ⟨hp, hq⟩
    · refine (pint_ok σ1 l _ hl hq).mono ?_
      rintro r σ2 ⟨rfl, rfl⟩
      simp -implicitDefEqProofs
      refine alloc fun t ht => ?_
      simp -implicitDefEqProofs
      refine (as_nil_spec _ _).mono ?_
      rintro r σ3 ⟨rfl, rfl⟩
      simp -implicitDefEqProofs
      exact ⟨.inl ⟨hp, rfl⟩, sub_set (Sub.refl _) ht⟩
    · refine (pint_range σ1 hG l hl hq).mono ?_
      rintro r σ2 ⟨⟨v, n, rfl⟩, rfl⟩
      simp -implicitDefEqProofs
      refine alloc fun t ht => ?_
      simp -implicitDefEqProofs
      have s1 : Aw.Sub σ2 (σ2.set t (.cells [.sc (.pointer none)])) := sub_set (Sub.refl _) ht
      refine (as_num_spec _ (hG.sub s1) n t (.sc (.pointer none)) (by simp)).mono ?_
      rintro r σ3 ⟨rfl, hσ⟩
      rw [set_set] at hσ
      have s2 : Aw.Sub σ2 σ3 := by rw [hσ]; exact sub_set (Sub.refl _) ht
      clear hσ
      simp -implicitDefEqProofs
      refine (new_spec σ3 (hG.sub s2) 4 (by omega) (by omega)).mono ?_
      rintro r σ4 ⟨rfl, rfl⟩
      simp -implicitDefEqProofs
      refine (at_spec σ4 0 (S 4)).mono ?_
      rintro r σ5 ⟨b, rfl, hb, rfl⟩
      simp -implicitDefEqProofs [hp]
      exact ⟨.inr ⟨b, by omega, by omega, rfl, by simp⟩, s2.trans (sub_set (Sub.refl _) hb)⟩

theorem within_spec (σ : Sto) (hG : GOK S te pe σ) (l : List UInt8) (a b : Int) (hl : l.length ≤ 1000000) :
    ACalls Tryd.prog 14 [txt l, .sc (.int .i64 a), .sc (.int .i64 b)] σ (fun r σ' => ∃ e, r = .tuple [.sc (.int .i64 (wth l a b).1), e] ∧ ErrAt S σ' e (wth l a b).2.1 (wth l a b).2.2 ∧ Aw.Sub σ σ') := by
  refine fn_of Tab.mixed Tryd.func14 rfl rfl rfl ?_
  simp -implicitDefEqProofs
  refine (parse_spec σ hG l hl).mono ?_
  rintro r σ1 ⟨e, rfl, he, hs⟩
  rcases he with ⟨h0, rfl⟩ | ⟨x, h1, h2, rfl, hx⟩
  · by_cases hr : (prs l).1 < a ∨ b < (prs l).1
    · have hw : wth l a b = (0, 4, 0) := by unfold wth; rw [if_pos ⟨h0, hr⟩]
      have fork : ∀ (K : Prop), ((prs l).1 < a → K) → (¬ (prs l).1 < a → b < (prs l).1 → K) → K := fun K u v => by
        by_cases h : (prs l).1 < a
        · exact u h
        · exact v h (by omega)
      refine fork _ (fun h => ?_) (fun h h' => ?_)
      · simp -implicitDefEqProofs [h]
        refine (new_spec σ1 (hG.sub hs) 4 (by omega) (by omega)).mono ?_
        rintro r σ2 ⟨rfl, rfl⟩
        simp -implicitDefEqProofs
        refine (at_spec σ2 0 (S 4)).mono ?_
        rintro r σ3 ⟨b, rfl, hb, rfl⟩
        simp -implicitDefEqProofs [hw]
        exact ⟨.inr ⟨b, by omega, by omega, rfl, by simp⟩, hs.trans (sub_set (Sub.refl _) hb)⟩
      · simp -implicitDefEqProofs [h, h']
        refine (new_spec σ1 (hG.sub hs) 4 (by omega) (by omega)).mono ?_
        rintro r σ2 ⟨rfl, rfl⟩
        simp -implicitDefEqProofs
        refine (at_spec σ2 0 (S 4)).mono ?_
        rintro r σ3 ⟨b, rfl, hb, rfl⟩
        simp -implicitDefEqProofs [hw]
        exact ⟨.inr ⟨b, by omega, by omega, rfl, by simp⟩, hs.trans (sub_set (Sub.refl _) hb)⟩
    · have hw : wth l a b = prs l := by unfold wth; rw [if_neg (fun h => hr h.2)]
      have g1 : ¬ (prs l).1 < a := fun h => hr (.inl h)
      have g2 : ¬ b < (prs l).1 := fun h => hr (.inr h)
      simp -implicitDefEqProofs [g1, g2, hw]
      exact ⟨.inl ⟨h0, rfl⟩, hs⟩
  · have hw : wth l a b = prs l := by unfold wth; rw [if_neg (fun h => by omega)]
    have hz : (prs l).1 = 0 := by
      rcases prs_code l with h | h | h
      · exact h.2.2.2
      · rw [h] at h1; simp at h1
      · rw [h]
    simp -implicitDefEqProofs [hw]
    exact ⟨_, ⟨hz.symm, rfl⟩, .inr ⟨x, h1, h2, rfl, hx⟩, hs⟩

/-! ### Sums -/
theorem wrap_hi {n : Int} (h1 : 9223372036854775807 < n) (h2 : n < 18446744073709551616) : IntKind.i64.wrap n = n - 18446744073709551616 := by
  simp only [IntKind.wrap, IntKind.signed, IntKind.bits]
  simp
  omega
theorem wrap_lo {n : Int} (h1 : n < -9223372036854775808) (h2 : -18446744073709551616 ≤ n) : IntKind.i64.wrap n = n + 18446744073709551616 := by
  simp only [IntKind.wrap, IntKind.signed, IntKind.bits]
  simp
  omega

theorem sum_spec (σ : Sto) (a b : Int) (ha : -9223372036854775808 ≤ a ∧ a ≤ 9223372036854775807) (hb : -9223372036854775808 ≤ b ∧ b ≤ 9223372036854775807) :
    ACalls Tryd.prog 9 [.sc (.int .i64 a), .sc (.int .i64 b)] σ (fun r σ' => r = .tuple [.sc (.int .i64 (sumP a b).1), .sc (.bool (sumP a b).2)] ∧ σ' = σ) := by
  refine fn_of Tab.mixed Tryd.func9 rfl rfl rfl ?_
  have hsp : sumP a b = (if -9223372036854775808 ≤ a + b ∧ a + b ≤ 9223372036854775807 then (a + b, true) else (0, false)) := rfl
  have hw : (-9223372036854775808 ≤ a + b ∧ a + b ≤ 9223372036854775807 ∧ IntKind.i64.wrap (a + b) = a + b) ∨ (9223372036854775807 < a + b ∧ IntKind.i64.wrap (a + b) = a + b - 18446744073709551616) ∨
      (a + b < -9223372036854775808 ∧ IntKind.i64.wrap (a + b) = a + b + 18446744073709551616) := by
    by_cases h1 : a + b < -9223372036854775808
    · exact .inr (.inr ⟨h1, wrap_lo h1 (by omega)⟩)
    · by_cases h2 : 9223372036854775807 < a + b
      · exact .inr (.inl ⟨h2, wrap_hi h2 (by omega)⟩)
      · exact .inl ⟨by omega, by omega, wrap_i64 (by omega) (by omega)⟩
  generalize hc : IntKind.i64.wrap (a + b) = c at hw
  have good : (-9223372036854775808 ≤ a + b ∧ a + b ≤ 9223372036854775807) → sumP a b = (c, true) := fun h => by
    rw [hsp, if_pos h]; congr 1; omega
  have bad : ¬ (-9223372036854775808 ≤ a + b ∧ a + b ≤ 9223372036854775807) → sumP a b = (0, false) := fun h => by
    rw [hsp, if_neg h]
  by_cases h1 : 0 < a
  · have h3 : ¬ a < 0 := by omega
    by_cases h2 : 0 < b
    · by_cases h5 : c ≤ 0
      · simp -implicitDefEqProofs [hc, h1, h2, h3, h5, bad (by omega)]
      · simp -implicitDefEqProofs [hc, h1, h2, h3, h5, good (by omega)]
    · simp -implicitDefEqProofs [hc, h1, h2, h3, good (by omega)]
  · by_cases h3 : a < 0
    · by_cases h4 : b < 0
      · by_cases h5 : 0 ≤ c
        · simp -implicitDefEqProofs [hc, h1, h3, h4, h5, bad (by omega)]
        · simp -implicitDefEqProofs [hc, h1, h3, h4, h5, good (by omega)]
      · simp -implicitDefEqProofs [hc, h1, h3, h4, good (by omega)]
    · simp -implicitDefEqProofs [hc, h1, h3, good (by omega)]

theorem refSum_spec (σ : Sto) (a b : Int) (ha : -9223372036854775808 ≤ a ∧ a ≤ 9223372036854775807) (hb : -9223372036854775808 ≤ b ∧ b ≤ 9223372036854775807) :
    ACalls Tryd.prog 13 [.sc (.int .i64 a), .sc (.int .i64 b)] σ (fun r σ' => r = .tuple [.sc (.int .i64 (sumP a b).1), .sc (.bool (sumP a b).2)] ∧ σ' = σ) := by
  refine fn_of Tab.mixed Tryd.func13 rfl rfl rfl ?_
  have good : (-9223372036854775808 ≤ a + b ∧ a + b ≤ 9223372036854775807) → sumP a b = (IntKind.i64.wrap (a + b), true) := fun h => by
    unfold sumP; rw [if_pos h, wrap_i64 h.1 h.2]
  have bad : ¬ (-9223372036854775808 ≤ a + b ∧ a + b ≤ 9223372036854775807) → sumP a b = (0, false) := fun h => by
    unfold sumP; rw [if_neg h]
  by_cases h1 : 0 < b
  · have w1 : IntKind.i64.wrap (9223372036854775807 - b) = 9223372036854775807 - b := wrap_i64 (by omega) (by omega)
    by_cases h2 : 9223372036854775807 - b < a
    · simp -implicitDefEqProofs [h1, h2, w1, bad (by omega)]
    · have h3 : ¬ b < 0 := by omega
      simp -implicitDefEqProofs [h1, h2, h3, w1, good (by omega)]
  · by_cases h3 : b < 0
    · have w1 : IntKind.i64.wrap (-9223372036854775808 - b) = -9223372036854775808 - b := wrap_i64 (by omega) (by omega)
      by_cases h2 : a < -9223372036854775808 - b
      · simp -implicitDefEqProofs [h1, h2, h3, w1, bad (by omega)]
      · simp -implicitDefEqProofs [h1, h2, h3, w1, good (by omega)]
    · simp -implicitDefEqProofs [h1, h3, good (by omega)]
end Go.Proofs.YtcjiebgnccaogaaDoor
