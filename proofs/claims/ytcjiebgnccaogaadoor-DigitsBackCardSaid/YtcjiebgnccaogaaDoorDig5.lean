/- Printing by the document, and the three laws over abstract values. -/
import Derived.Test.YtcjiebgnccaogaaDoorDig4
import Derived.Lib.ItoaLen
namespace Go.Proofs.YtcjiebgnccaogaaDoor
open Go Go.Aw
set_option linter.unusedVariables false
set_option linter.unusedSimpArgs false
variable {S : Int → Addr} {te : TypeId} {pe : Value}

theorem refWithin_spec (σ : Sto) (l : List UInt8) (a b : Int) (hl : l.length ≤ 1000000) :
    ACalls Tryd.prog 15 [txt l, .sc (.int .i64 a), .sc (.int .i64 b)] σ (fun r σ' => r = .tuple [.sc (.int .i64 (wth l a b).1), .sc (.int .i64 (wth l a b).2.1), .sc (.int .i64 (wth l a b).2.2)] ∧ σ' = σ) := by
  refine fn_of Tab.mixed Tryd.func15 rfl rfl rfl ?_
  simp -implicitDefEqProofs
  refine (refParse_spec σ l hl).mono ?_
  rintro r σ1 ⟨rfl, rfl⟩
  by_cases h0 : (prs l).2.1 = 0
  · by_cases h1 : (prs l).1 < a
    · have hw : wth l a b = (0, 4, 0) := by unfold wth; rw [if_pos ⟨h0, .inl h1⟩]
      simp -implicitDefEqProofs [h0, h1, hw]
    · by_cases h2 : b < (prs l).1
      · have hw : wth l a b = (0, 4, 0) := by unfold wth; rw [if_pos ⟨h0, .inr h2⟩]
        simp -implicitDefEqProofs [h0, h1, h2, hw]
      · have hw : wth l a b = prs l := by unfold wth; rw [if_neg (fun h => by omega)]
        simp -implicitDefEqProofs [h0, h1, h2, hw]
  · have hw : wth l a b = prs l := by unfold wth; rw [if_neg (fun h => h0 h.1)]
    simp -implicitDefEqProofs [h0, hw]

theorem bytes70 : tyBytes Tryd.prog 70 = true := by kernel_rfl

/-- the last digit -/
def dg8 (n : Nat) : UInt8 := UInt8.ofNat (48 + n % 10)

theorem digit_row (n : Nat) : rowsBytes [[.sc (.int .u8 (IntKind.u8.wrap (IntKind.u64.wrap (48 + (n : Int).tmod 10))))]] = some [dg8 n] := by
  unfold dg8
  have e : (n : Int).tmod 10 = ((n % 10 : Nat) : Int) := by simp [Int.tmod_eq_emod_of_nonneg (Int.natCast_nonneg n)]
  have h : n % 10 < 10 := Nat.mod_lt _ (by omega)
  rw [e, wrap_u64 (by omega) (by omega), wrap_u8 (by omega) (by omega)]
  have h1 : (0 : Int) ≤ 48 + ((n % 10 : Nat) : Int) ∧ (48 : Int) + ((n % 10 : Nat) : Int) < 256 := by omega
  have e2 : ((48 : Int) + ((n % 10 : Nat) : Int)).toNat = 48 + n % 10 := by omega
  unfold rowsBytes rowByte rowsBytes
  simp only [if_pos h1, e2]

theorem app_txt (a b : List UInt8) : (ByteArray.mk a.toArray) ++ (ByteArray.mk b.toArray) = ByteArray.mk (a ++ b).toArray := by
  apply ByteArray.ext
  simp

theorem nDigits_le (u : Nat) (h : u < 18446744073709551616) : (Lib.decDigits u).length ≤ 20 := by
  rw [Lib.decDigits_length]
  have : ∀ k u, u < 10 ^ (k + 1) → Lib.nDigits u ≤ k + 1 := by
    intro k
    induction k with
    | zero => intro u hu; rw [Lib.nDigits_small (by simpa using hu)]; omega
    | succ k ih =>
      intro u hu
      by_cases h : u < 10
      · rw [Lib.nDigits_small h]; omega
      · rw [Lib.nDigits_big h]
        have := ih (u / 10) (by rw [Nat.pow_succ] at hu; omega)
        omega
  exact this 19 u (by omega)

/-- the digits that are still to come -/
def pre (n : Nat) : List UInt8 := if n < 10 then [] else Lib.decDigits (n / 10)
theorem dec_pre (n : Nat) : Lib.decDigits n = pre n ++ [dg8 n] := by
  unfold pre dg8
  rw [Lib.decDigits]
  split
  · rw [Nat.mod_eq_of_lt (by assumption)]; rfl
  · rfl

theorem nat_spec (σ : Sto) (n : Nat) (hn : n < 18446744073709551616) :
    ACalls Tryd.prog 25 [.sc (.int .u64 n)] σ (fun r σ' => r = txt (Lib.decDigits n) ∧ σ' = σ) := by
  refine fn_of Tab.mixed Tryd.func25 rfl rfl rfl ?_
  simp -implicitDefEqProofs [bytes70, digit_row]
  refine wpc_loop (fun e s => ∃ (k : Nat) (t : List UInt8), k ≤ n ∧ Lib.decDigits n = pre k ++ t ∧ e.length = 23 ∧ gt e 0 = .sc (.int .u64 k) ∧ gt e 3 = txt t ∧ s = σ)
    (fun e _ => match gt e 0 with | .sc (.int _ k) => k.toNat | _ => 0) ⟨n, _, Nat.le_refl _, dec_pre n, rfl, rfl, rfl, rfl⟩ ?_
  rintro e s ⟨k, t, hk, ht, hlen, g0, g3, rfl⟩
  have hlen20 := nDigits_le n hn
  rw [ht, List.length_append] at hlen20
  by_cases h9 : (9 : Int) < k
  · have ed : (k : Int).tdiv 10 = ((k / 10 : Nat) : Int) := by simp [Int.tdiv_eq_ediv_of_nonneg (Int.natCast_nonneg k)]
    have ew : IntKind.u64.wrap ((k / 10 : Nat) : Int) = ((k / 10 : Nat) : Int) := wrap_u64 (by omega) (by omega)
    simp -implicitDefEqProofs [hlen, g0, g3, h9, ed]
    have ew' : IntKind.u64.wrap ((k : Int) / 10) = ((k / 10 : Nat) : Int) := by simpa using ew
    rw [ew', digit_row]
    refine ⟨bytes70, ?_, ⟨k / 10, by omega, [dg8 (k / 10)] ++ t, ?_, rfl, ?_⟩, by omega⟩
    · simp [ByteArray.size]; omega
    · have h1 : pre k = Lib.decDigits (k / 10) := by unfold pre; rw [if_neg (by omega)]
      rw [ht, h1, dec_pre (k / 10), List.append_assoc]
    · exact congrArg (fun s => AV.sc (.string s)) (app_txt [dg8 (k / 10)] t)
  · simp -implicitDefEqProofs [hlen, g0, g3, h9]
    have : pre k = [] := by unfold pre; rw [if_pos (by omega)]
    rw [ht, this]
    rfl

theorem refPrint_spec (σ : Sto) (n : Int) (h0 : -9223372036854775808 ≤ n) (h1 : n ≤ 9223372036854775807) :
    ACalls Tryd.prog 12 [.sc (.int .i64 n)] σ (fun r σ' => r = txt (Lib.itoa n) ∧ σ' = σ) := by
  refine fn_of Tab.mixed Tryd.func12 rfl rfl rfl ?_
  by_cases hn : n < 0
  · obtain ⟨m, hm⟩ : ∃ m : Nat, n.natAbs = m := ⟨_, rfl⟩
    have e : Lib.itoa n = [45] ++ Lib.decDigits m := by unfold Lib.itoa; rw [if_pos hn, hm]; rfl
    have w1 : IntKind.i64.wrap (n + 1) = n + 1 := wrap_i64 (by omega) (by omega)
    have w2 : IntKind.i64.wrap (-(n + 1)) = -(n + 1) := wrap_i64 (by omega) (by omega)
    have w3 : IntKind.u64.wrap (-(n + 1)) = -(n + 1) := wrap_u64 (by omega) (by omega)
    have w4 : IntKind.u64.wrap (-(n + 1) + 1) = (m : Int) := by rw [wrap_u64 (by omega) (by omega)]; omega
    simp -implicitDefEqProofs [hn, w1, w2, w3, w4]
    refine (nat_spec σ m (by omega)).mono ?_
    rintro r σ' ⟨rfl, rfl⟩
    have hl := nDigits_le m (by omega)
    simp -implicitDefEqProofs [txt]
    refine ⟨by simp [ByteArray.size]; omega, ?_⟩
    rw [e]
    exact app_txt [45] _
  · obtain ⟨m, hm⟩ : ∃ m : Nat, n.toNat = m := ⟨_, rfl⟩
    have e : Lib.itoa n = Lib.decDigits m := by unfold Lib.itoa; rw [if_neg hn, hm]
    have w3 : IntKind.u64.wrap n = (m : Int) := by rw [wrap_u64 (by omega) (by omega)]; omega
    simp -implicitDefEqProofs [hn, w3]
    refine (nat_spec σ m (by omega)).mono ?_
    rintro r σ' ⟨rfl, rfl⟩
    simp -implicitDefEqProofs [e]

theorem awake_spec (σ : Sto) (hG : GOK S te pe σ) :
    ACalls Tryd.prog 6 [] σ (fun r σ' => r = .sc (.bool true) ∧ Aw.Sub σ σ') := by
  refine fn_of Tab.mixed Tryd.func6 rfl rfl rfl ?_
  have p1 : prs [45, 48, 55] = (0, 1, 1) := by decide +kernel
  have p2 : prs [49, 50, 97] = (0, 1, 2) := by decide +kernel
  have p3 : prs [45, 49, 50] = (-12, 0, 0) := by decide +kernel
  have p4 : Lib.itoa (-12) = [45, 49, 50] := by decide +kernel
  simp -implicitDefEqProofs
  refine (parse_spec σ hG [45, 48, 55] (by simp)).mono ?_
  rw [p1]
  rintro r σ1 ⟨e1, rfl, he1, hs1⟩
  simp -implicitDefEqProofs
  refine (parse_spec σ1 (hG.sub hs1) [49, 50, 97] (by simp)).mono ?_
  rw [p2]
  rintro r σ2 ⟨e2, rfl, he2, hs2⟩
  simp -implicitDefEqProofs
  refine (parse_spec σ2 (hG.sub (hs1.trans hs2)) [45, 49, 50] (by simp)).mono ?_
  rw [p3]
  rintro r σ3 ⟨e3, rfl, he3, hs3⟩
  have hG3 := hG.sub ((hs1.trans hs2).trans hs3)
  have he3' : e3 = .sc .nilIface := by
    rcases he3 with h | ⟨b, h, _⟩
    · exact h.2
    · simp at h
  subst he3'
  simp -implicitDefEqProofs
  refine (wrong_spec σ3 hG3 e1 1 1 (he1.sub (hs2.trans hs3))).mono ?_
  rintro r σ4 ⟨rfl, rfl⟩
  simp -implicitDefEqProofs
  refine (wrong_spec σ4 hG3 e2 1 2 (he2.sub hs3)).mono ?_
  rintro r σ5 ⟨rfl, rfl⟩
  simp -implicitDefEqProofs
  refine (print_spec σ5 hG3 (-12) (by omega) (by omega)).mono ?_
  rintro r σ6 ⟨rfl, rfl⟩
  simp -implicitDefEqProofs [p4, txt]
  exact (hs1.trans hs2).trans hs3

/-! ### The laws -/
theorem sumP_range (a b : Int) : -9223372036854775808 ≤ (sumP a b).1 ∧ (sumP a b).1 ≤ 9223372036854775807 := by
  unfold sumP; split
  · assumption
  · simp

theorem four_ways {z v : Int} {r s t : Bool} (h : r = true → s = true → t = true → z = v) : r = false ∨ (r = true ∧ s = false) ∨ (r = true ∧ s = true ∧ t = false) ∨ (r = true ∧ s = true ∧ t = true ∧ z = v) := by
  cases r <;> cases s <;> cases t <;> simp_all

theorem sums_abs (σ : Sto) (hG : GOK S te pe σ) (a b c : Int) (ha : -9223372036854775808 ≤ a ∧ a ≤ 9223372036854775807) (hb : -9223372036854775808 ≤ b ∧ b ≤ 9223372036854775807)
    (hc : -9223372036854775808 ≤ c ∧ c ≤ 9223372036854775807) :
    ACalls Tryd.prog 4 [.sc (.int .i64 a), .sc (.int .i64 b), .sc (.int .i64 c)] σ (fun r σ' => r = .sc (.bool true) ∧ Aw.Sub σ σ') := by
  refine fn_of Tab.mixed Tryd.func4 rfl rfl rfl ?_
  simp -implicitDefEqProofs
  refine (sum_spec σ a b ha hb).mono ?_
  rintro r σ1 ⟨rfl, rfl⟩
  simp -implicitDefEqProofs
  refine (sum_spec σ1 b a hb ha).mono ?_
  rintro r σ2 ⟨rfl, rfl⟩
  have hcomm : sumP b a = sumP a b := by unfold sumP; rw [Int.add_comm b a]
  rw [hcomm]
  have hpf : (sumP a b).2 = false → (sumP a b).1 = 0 := by unfold sumP; split <;> simp
  have hrx := sumP_range a b
  have hru := sumP_range b c
  have hz : sumP a 0 = (a, true) := by unfold sumP; rw [if_pos (by omega)]; simp
  have hkey : (sumP a b).2 = true → (sumP (sumP a b).1 c).2 = true → (sumP b c).2 = true → (sumP a (sumP b c).1).2 = true → (sumP (sumP a b).1 c).1 = (sumP a (sumP b c).1).1 := by
    have tr : ∀ a b, (sumP a b).2 = true → (sumP a b).1 = a + b := by intro a b; unfold sumP; split <;> simp
    intro h1 h2 h3 h4
    rw [tr _ _ h2, tr _ _ h4, tr _ _ h1, tr _ _ h3]
    omega
  have rest : ∀ (σ' : Sto), Aw.Sub σ2 σ' → True := fun _ _ => trivial
  have key2 : ∀ (K : Prop), ((sumP a b).2 = false → (sumP a b).1 = 0 → K) → ((sumP a b).2 = true → K) → K := fun K u v => by
    cases h : (sumP a b).2
    · exact u h (hpf h)
    · exact v h
  refine key2 _ (fun h1 h2 => ?_) (fun h1 => ?_)
  · simp -implicitDefEqProofs [h1, h2]
    refine (sum_spec σ2 0 c (by omega) hc).mono ?_
    rintro r σ3 ⟨rfl, rfl⟩
    simp -implicitDefEqProofs
    refine (sum_spec σ3 b c hb hc).mono ?_
    rintro r σ4 ⟨rfl, rfl⟩
    simp -implicitDefEqProofs
    refine (sum_spec σ4 a _ ha hru).mono ?_
    rintro r σ5 ⟨rfl, rfl⟩
    simp -implicitDefEqProofs
    refine (sum_spec σ5 a 0 ha (by omega)).mono ?_
    rintro r σ6 ⟨rfl, rfl⟩
    simp -implicitDefEqProofs [hz]
    refine (awake_spec σ6 hG).mono ?_
    rintro r σ7 ⟨rfl, hs⟩
    simp -implicitDefEqProofs
    exact hs
  · simp -implicitDefEqProofs [h1]
    refine (sum_spec σ2 _ c hrx hc).mono ?_
    rintro r σ3 ⟨rfl, rfl⟩
    simp -implicitDefEqProofs
    refine (sum_spec σ3 b c hb hc).mono ?_
    rintro r σ4 ⟨rfl, rfl⟩
    simp -implicitDefEqProofs
    refine (sum_spec σ4 a _ ha hru).mono ?_
    rintro r σ5 ⟨rfl, rfl⟩
    have hk := hkey h1
    rcases four_ways hk with h3 | ⟨h3, h4⟩ | ⟨h3, h4, h5⟩ | ⟨h3, h4, h5, h6⟩
    · simp -implicitDefEqProofs [h3]
      refine (sum_spec σ5 a 0 ha (by omega)).mono ?_
      rintro r σ6 ⟨rfl, rfl⟩
      simp -implicitDefEqProofs [hz]
      refine (awake_spec σ6 hG).mono ?_
      rintro r σ7 ⟨rfl, hs⟩
      simp -implicitDefEqProofs
      exact hs
    · simp -implicitDefEqProofs [h3, h4]
      refine (sum_spec σ5 a 0 ha (by omega)).mono ?_
      rintro r σ6 ⟨rfl, rfl⟩
      simp -implicitDefEqProofs [hz]
      refine (awake_spec σ6 hG).mono ?_
      rintro r σ7 ⟨rfl, hs⟩
      simp -implicitDefEqProofs
      exact hs
    · simp -implicitDefEqProofs [h3, h4, h5]
      refine (sum_spec σ5 a 0 ha (by omega)).mono ?_
      rintro r σ6 ⟨rfl, rfl⟩
      simp -implicitDefEqProofs [hz]
      refine (awake_spec σ6 hG).mono ?_
      rintro r σ7 ⟨rfl, hs⟩
      simp -implicitDefEqProofs
      exact hs
    · simp -implicitDefEqProofs [h3, h4, h5, h6]
      refine (sum_spec σ5 a 0 ha (by omega)).mono ?_
      rintro r σ6 ⟨rfl, rfl⟩
      simp -implicitDefEqProofs [hz]
      refine (awake_spec σ6 hG).mono ?_
      rintro r σ7 ⟨rfl, hs⟩
      simp -implicitDefEqProofs
      exact hs

theorem back_abs (σ : Sto) (hG : GOK S te pe σ) (n : Int) (l : List UInt8) (hn : -9223372036854775808 ≤ n ∧ n ≤ 9223372036854775807) :
    ACalls Tryd.prog 3 [.sc (.int .i64 n), txt l] σ (fun r σ' => r = .sc (.bool true) ∧ Aw.Sub σ σ') := by
  refine fn_of Tab.mixed Tryd.func3 rfl rfl rfl ?_
  simp -implicitDefEqProofs [txt, ByteArray.size]
  by_cases hlong : (200 : Int) < l.length
  · rw [if_pos hlong]
    refine (awake_spec σ hG).mono ?_
    rintro r σ1 ⟨rfl, h1⟩
    simp -implicitDefEqProofs
    exact h1
  · rw [if_neg hlong]
    refine (print_spec σ hG n hn.1 hn.2).mono ?_
    rintro r σ1 ⟨rfl, rfl⟩
    simp -implicitDefEqProofs
    have hil := Lib.itoa_length_le n hn.1 hn.2
    refine (parse_spec σ1 hG (Lib.itoa n) (by omega)).mono ?_
    rw [prs_itoa n hn.1 hn.2]
    rintro r σ2 ⟨e1, rfl, he1, hs1⟩
    have he1' : e1 = .sc .nilIface := by
      rcases he1 with h | ⟨b, h, _⟩
      · exact h.2
      · simp at h
    subst he1'
    simp -implicitDefEqProofs
    refine (parse_spec σ2 (hG.sub hs1) l (by omega)).mono ?_
    rintro r σ3 ⟨e2, rfl, he2, hs2⟩
    have hG3 := hG.sub (hs1.trans hs2)
    rcases he2 with ⟨h0, rfl⟩ | ⟨b, h1, h2, rfl, hb⟩
    · have hb := prs_bound l
      simp -implicitDefEqProofs
      refine (print_spec σ3 hG3 _ hb.1 hb.2).mono ?_
      rintro r σ4 ⟨rfl, rfl⟩
      rw [itoa_prs h0]
      simp -implicitDefEqProofs [txt]
      refine (awake_spec σ4 hG3).mono ?_
      rintro r σ5 ⟨rfl, h5⟩
      simp -implicitDefEqProofs
      exact (hs1.trans hs2).trans h5
    · have hz : (prs l).1 = 0 := by
        rcases prs_code l with h | h | h
        · exact h.2.2.2
        · rw [h] at h1; simp at h1
        · rw [h]
      simp -implicitDefEqProofs [hz]
      refine (awake_spec σ3 hG3).mono ?_
      rintro r σ5 ⟨rfl, h5⟩
      simp -implicitDefEqProofs
      exact (hs1.trans hs2).trans h5

theorem tells_abs (σ : Sto) (hG : GOK S te pe σ) (a b : Int) (l : List UInt8) (ha : -9223372036854775808 ≤ a ∧ a ≤ 9223372036854775807) (hb : -9223372036854775808 ≤ b ∧ b ≤ 9223372036854775807) :
    ACalls Tryd.prog 5 [.sc (.int .i64 a), .sc (.int .i64 b), txt l] σ (fun r σ' => r = .sc (.bool true) ∧ Aw.Sub σ σ') := by
  refine fn_of Tab.mixed Tryd.func5 rfl rfl rfl ?_
  simp -implicitDefEqProofs [txt, ByteArray.size]
  by_cases hlong : (200 : Int) < l.length
  · rw [if_pos hlong]
    refine (awake_spec σ hG).mono ?_
    rintro r σ1 ⟨rfl, h1⟩
    simp -implicitDefEqProofs
    exact h1
  · rw [if_neg hlong]
    refine (parse_spec σ hG l (by omega)).mono ?_
    rintro r σ1 ⟨e1, rfl, he1, hs1⟩
    simp -implicitDefEqProofs
    refine (refParse_spec σ1 l (by omega)).mono ?_
    rintro r σ2 ⟨rfl, rfl⟩
    have hG2 := hG.sub hs1
    simp -implicitDefEqProofs
    refine (wrong_spec σ2 hG2 e1 _ _ he1).mono ?_
    rintro r σ3 ⟨rfl, rfl⟩
    simp -implicitDefEqProofs
    refine (print_spec σ3 hG2 a ha.1 ha.2).mono ?_
    rintro r σ4 ⟨rfl, rfl⟩
    simp -implicitDefEqProofs
    refine (refPrint_spec σ4 a ha.1 ha.2).mono ?_
    rintro r σ5 ⟨rfl, rfl⟩
    simp -implicitDefEqProofs [txt]
    refine (sum_spec σ5 a b ha hb).mono ?_
    rintro r σ6 ⟨rfl, rfl⟩
    simp -implicitDefEqProofs
    refine (refSum_spec σ6 a b ha hb).mono ?_
    rintro r σ7 ⟨rfl, rfl⟩
    simp -implicitDefEqProofs
    refine (within_spec σ7 hG2 l a b (by omega)).mono ?_
    rintro r σ8 ⟨e2, rfl, he2, hs2⟩
    have hG3 := hG2.sub hs2
    simp -implicitDefEqProofs
    refine (refWithin_spec σ8 l a b (by omega)).mono ?_
    rintro r σ9 ⟨rfl, rfl⟩
    simp -implicitDefEqProofs
    refine (wrong_spec σ9 hG3 e2 _ _ he2).mono ?_
    rintro r σ10 ⟨rfl, rfl⟩
    simp -implicitDefEqProofs
    refine (awake_spec σ10 hG3).mono ?_
    rintro r σ11 ⟨rfl, h5⟩
    simp -implicitDefEqProofs
    exact (hs1.trans hs2).trans h5
end Go.Proofs.YtcjiebgnccaogaaDoor
