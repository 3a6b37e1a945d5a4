/- Parsing and printing: the document's answers. -/
import Derived.Test.YtcjiebgnccaogaaDoorDig3
namespace Go.Proofs.YtcjiebgnccaogaaDoor
open Go Go.Aw
set_option linter.unusedVariables false
set_option linter.unusedSimpArgs false
variable {S : Int → Addr} {te : TypeId} {pe : Value}

theorem wrap_u64 {n : Int} (h1 : 0 ≤ n) (h2 : n ≤ 18446744073709551615) : IntKind.u64.wrap n = n := by
  simp only [IntKind.wrap, IntKind.signed, IntKind.bits]
  simp
  omega
theorem wrap_u8 {n : Int} (h1 : 0 ≤ n) (h2 : n ≤ 255) : IntKind.u8.wrap n = n := by
  simp only [IntKind.wrap, IntKind.signed, IntKind.bits]
  simp
  omega

/-- the number of the digits ahead of a place -/
def upto (l : List UInt8) (f i : Nat) : Nat := dval ((l.take i).drop f)
theorem upto_start (l : List UInt8) (f i : Nat) (h : i ≤ f) : upto l f i = 0 := by
  unfold upto
  rw [List.drop_eq_nil_of_le (by simp; omega), dval, dvalA_nil]
theorem upto_step (l : List UInt8) (f i : Nat) (h : f ≤ i) (hi : i < l.length) : upto l f (i + 1) = upto l f i * 10 + (l[i].toNat - 48) := by
  unfold upto
  rw [take_snoc l i hi, List.drop_append_of_le_length (by simp; omega), dval_snoc]
theorem upto_le (l : List UInt8) (f i : Nat) (h : f ≤ i) (hi : i ≤ l.length) : upto l f i ≤ dval (l.drop f) := by
  unfold upto
  have e : l.drop f = (l.take i).drop f ++ l.drop i := by
    have := congrArg (List.drop f) (List.take_append_drop i l)
    rw [List.drop_append_of_le_length (by simp; omega)] at this
    exact this.symm
  rw [e]
  unfold dval
  rw [dvalA_append]
  exact dvalA_ge _ _
theorem upto_end (l : List UInt8) (f : Nat) : upto l f l.length = dval (l.drop f) := by unfold upto; rw [List.take_length]

set_option maxRecDepth 8000 in
theorem refParse_spec (σ : Sto) (l : List UInt8) (hl : l.length ≤ 1000000) :
    ACalls Tryd.prog 10 [txt l] σ (fun r σ' => r = .tuple [.sc (.int .i64 (prs l).1), .sc (.int .i64 (prs l).2.1), .sc (.int .i64 (prs l).2.2)] ∧ σ' = σ) := by
  refine fn_of Tab.mixed Tryd.func10 rfl rfl rfl ?_
  simp -implicitDefEqProofs
  refine (form_spec σ l hl).mono ?_
  rintro r σ1 ⟨rfl, rfl⟩
  by_cases hm : 0 ≤ mis l
  · simp -implicitDefEqProofs [hm, prs_bad hm]
  · have hm1 : mis l = -1 := by rcases mis_range l with h | h; exact h; omega
    have hN := num_of_mis hm1
    obtain ⟨hne, hd, hz⟩ := hN.can
    generalize hf : fst0 l = f at hne hd hz
    have hf01 : f = 0 ∨ f = 1 := by rw [← hf]; exact fst0_01 l
    have hfl : f < l.length := by
      rcases Nat.lt_or_ge f l.length with h | h
      · exact h
      · exact absurd (List.drop_eq_nil_of_le h) hne
    have h0 : 0 < l.length := by omega
    have hdig : ∀ i (hi : i < l.length), f ≤ i → 48 ≤ l[i].toNat ∧ l[i].toNat ≤ 57 := fun i hi hfi =>
      hd l[i] (List.mem_iff_getElem.2 ⟨i - f, by simp; omega, by simp [show f + (i - f) = i by omega]⟩)
    have hbel : (decide ((l[0].toNat : Int) = 45)) = decide (f = 1) := by
      cases l with
      | nil => simp at h0
      | cons c r =>
        unfold fst0 at hf
        by_cases hc : c.toNat = 45
        · simp [hc] at hf ⊢; omega
        · simp [hc] at hf ⊢; omega
    have hbel2 : ((l[0].toNat : Int) = 45) = (f = 1) := by simpa using hbel
    have hprs : prs l = if f = 1 then (if dval (l.drop f) ≤ 9223372036854775808 then (-(dval (l.drop f) : Int), 0, 0) else (0, 4, 0)) else (if dval (l.drop f) < 9223372036854775808 then ((dval (l.drop f) : Int), 0, 0) else (0, 4, 0)) := by
      rcases hf01 with e | e
      · subst e; rw [prs_pos hm1 hf, if_neg (show ¬ (0 : Nat) = 1 by omega)]; rfl
      · subst e; rw [prs_neg hm1 hf, if_pos rfl]
    have hbig : 9223372036854775808 < dval (l.drop f) → prs l = (0, 4, 0) := fun h => by
      rw [hprs]
      split
      · rw [if_neg (by omega)]
      · rw [if_neg (by omega)]
    have hpos : f = 1 → 0 < dval (l.drop f) := fun h => by
      subst h
      have e0 : at0 (l.drop 1) 0 = at0 l 1 := by simp [at0, List.getD]
      exact dval_pos ⟨hne, hd, hz⟩ (by rw [e0]; exact hN.nz hf)
    simp -implicitDefEqProofs [hm, txt, h0, hbel2]
    refine wpc_loop (fun e s => ∃ i : Nat, i ≤ l.length ∧ upto l f i ≤ 9223372036854775808 ∧ e.length = 58 ∧ gt e 0 = txt l ∧ gt e 6 = .sc (.bool (decide (f = 1))) ∧ gt e 7 = .sc (.int .u64 (upto l f i)) ∧ gt e 8 = .sc (.int .i64 i) ∧ s = σ1)
      (fun e _ => l.length - (intAt e 8).toNat) ⟨0, by omega, by rw [upto_start _ _ _ (by omega)]; omega, rfl, rfl, rfl, by rw [upto_start _ _ _ (by omega)]; rfl, rfl, rfl⟩ ?_
    rintro e s ⟨i, hi, hn, hlen, g0, g6, g7, g8, rfl⟩
    by_cases hlt : i < l.length
    · have wi : IntKind.i64.wrap ((i : Int) + 1) = i + 1 := wrap_i64 (by omega) (by omega)
      by_cases hif : i < f
      · obtain rfl : i = 0 := by omega
        obtain rfl : f = 1 := by omega
        simp -implicitDefEqProofs [hlen, g0, g6, g7, g8, txt, ByteArray.size, hlt, intAt, wrap_i64 (n := 1) (by omega) (by omega)]
        exact ⟨⟨1, by omega, by rw [upto_start _ _ _ (by omega)]; omega, by rw [upto_start _ _ _ (by omega), upto_start _ _ _ (by omega)], rfl⟩, by omega⟩
      · obtain ⟨d1, d2⟩ := hdig i hlt (by omega)
        have w8 : IntKind.u8.wrap ((l[i].toNat : Int) - 48) = (l[i].toNat : Int) - 48 := wrap_u8 (by omega) (by omega)
        have w64 : IntKind.u64.wrap ((l[i].toNat : Int) - 48) = (l[i].toNat : Int) - 48 := wrap_u64 (by omega) (by omega)
        have hst := upto_step l f i (by omega) hlt
        have hle := upto_le l f (i + 1) (by omega) (by omega)
        generalize hd0 : (l[i].toNat : Int) - 48 = d at w8 w64
        have wm : IntKind.u64.wrap (10 * (upto l f i : Int)) = 10 * upto l f i ∨ ¬ upto l f i < 922337203685477581 := by
          by_cases h : upto l f i < 922337203685477581
          · exact .inl (wrap_u64 (by omega) (by omega))
          · exact .inr h
        have wa : IntKind.u64.wrap (10 * (upto l f i : Int) + d) = 10 * upto l f i + d ∨ ¬ upto l f i < 922337203685477581 := by
          by_cases h : upto l f i < 922337203685477581
          · exact .inl (wrap_u64 (by omega) (by omega))
          · exact .inr h
        have forks : ∀ K : Prop, (((i = 0) = True) → ((f = 1) = False) → K) → (((i = 0) = False) → ((f = 1) = False) → K) → (((i = 0) = False) → ((f = 1) = True) → K) → K := fun K k1 k2 k3 => by
          by_cases h : i = 0
          · exact k1 (by simp [h]) (by simp; omega)
          · by_cases h' : f = 1
            · exact k3 (by simp [h]) (by simp [h'])
            · exact k2 (by simp [h]) (by simp [h'])
        by_cases hb : 9223372036854775808 < upto l f (i + 1)
        · have hr := hbig (by omega)
          by_cases c1 : (922337203685477580 : Int) < upto l f i
          · refine forks _ (fun hi0 hf1 => ?_) (fun hi0 hf1 => ?_) (fun hi0 hf1 => ?_) <;>
              simp -implicitDefEqProofs [hlen, g0, g6, g7, g8, txt, ByteArray.size, hlt, w8, w64, hd0, hi0, hf1, c1, hr]
          · have c2 : ((upto l f i : Int) = 922337203685477580) = True := by simp; omega
            have c3 : 8 < d := by omega
            refine forks _ (fun hi0 hf1 => ?_) (fun hi0 hf1 => ?_) (fun hi0 hf1 => ?_) <;>
              simp -implicitDefEqProofs [hlen, g0, g6, g7, g8, txt, ByteArray.size, hlt, w8, w64, hd0, hi0, hf1, c1, c2, c3, hr]
        · have c1 : ¬ (922337203685477580 : Int) < upto l f i := by omega
          have wm' := wm.resolve_right (by omega)
          have wa' := wa.resolve_right (by omega)
          have fin : (∃ i_1 : Nat, i_1 ≤ l.length ∧ upto l f i_1 ≤ 9223372036854775808 ∧ 10 * (upto l f i : Int) + d = (upto l f i_1 : Int) ∧ (i : Int) + 1 = i_1) ∧ l.length - (i + 1) < l.length - i :=
            ⟨⟨i + 1, by omega, by omega, by omega, by omega⟩, by omega⟩
          by_cases c2' : (upto l f i : Int) = 922337203685477580
          · have c2 : ((upto l f i : Int) = 922337203685477580) = True := by simp [c2']
            have c3 : ¬ 8 < d := by omega
            refine forks _ (fun hi0 hf1 => ?_) (fun hi0 hf1 => ?_) (fun hi0 hf1 => ?_) <;>
              (simp -implicitDefEqProofs [hlen, g0, g6, g7, g8, txt, ByteArray.size, hlt, w8, w64, hd0, hi0, hf1, c1, c2, c3, wm', wa', wi, intAt]; exact fin)
          · refine forks _ (fun hi0 hf1 => ?_) (fun hi0 hf1 => ?_) (fun hi0 hf1 => ?_) <;>
              (simp -implicitDefEqProofs [hlen, g0, g6, g7, g8, txt, ByteArray.size, hlt, w8, w64, hd0, hi0, hf1, c1, c2', wm', wa', wi, intAt]; exact fin)
    · obtain rfl : i = l.length := by omega
      rw [upto_end] at hn g7
      rcases hf01 with e1 | e1
      · subst e1
        have e2 : l.drop 0 = l := rfl
        rw [e2] at hn g7
        rw [e2, if_neg (show ¬ (0 : Nat) = 1 by omega)] at hprs
        by_cases hv : (9223372036854775807 : Int) < dval l
        · rw [if_neg (by omega)] at hprs
          simp -implicitDefEqProofs [hlen, g0, g6, g7, g8, txt, ByteArray.size, hv, hprs]
        · rw [if_pos (by omega)] at hprs
          simp -implicitDefEqProofs [hlen, g0, g6, g7, g8, txt, ByteArray.size, hv, hprs, wrap_i64 (n := (dval l : Int)) (by omega) (by omega)]
      · subst e1
        rw [if_pos rfl, if_pos hn] at hprs
        have hp := hpos rfl
        generalize dval (l.drop 1) = v at hprs hn g7 hp
        simp -implicitDefEqProofs [hlen, g0, g6, g7, g8, txt, ByteArray.size, hprs, wrap_u64 (n := (v : Int) - 1) (by omega) (by omega), wrap_i64 (n := (v : Int) - 1) (by omega) (by omega), wrap_i64 (n := -((v : Int) - 1)) (by omega) (by omega), wrap_i64 (n := -((v : Int) - 1) - 1) (by omega) (by omega)]
        omega
end Go.Proofs.YtcjiebgnccaogaaDoor
