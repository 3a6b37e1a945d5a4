/- Where a text is no numeral: the program's answer and the document's. -/
import Derived.Test.YtcjiebgnccaogaaDoorDig1
namespace Go.Proofs.YtcjiebgnccaogaaDoor
open Go Go.Aw
set_option linter.unusedVariables false
set_option linter.unusedSimpArgs false

/-- a text -/
def txt (l : List UInt8) : AV := .sc (.string ⟨l.toArray⟩)
theorem size_txt (l : List UInt8) : (ByteArray.mk l.toArray).size = l.length := by simp [ByteArray.size]

theorem bad_iff {l : List UInt8} {f i : Nat} : bad l f i = true ↔ (at0 l i < 48 ∨ 57 < at0 l i ∨ (i = f ∧ at0 l i = 48 ∧ f = 1) ∨ (i = f + 1 ∧ at0 l f = 48)) := by
  unfold bad
  simp only [Bool.or_eq_true, Bool.and_eq_true, decide_eq_true_eq]
  constructor
  · rintro (((h | h) | ⟨⟨h1, h2⟩, h3⟩) | h)
    · exact .inl h
    · exact .inr (.inl h)
    · exact .inr (.inr (.inl ⟨h1, h2, h3⟩))
    · exact .inr (.inr (.inr h))
  · rintro (h | h | ⟨h1, h2, h3⟩ | h)
    · exact .inl (.inl (.inl h))
    · exact .inl (.inl (.inr h))
    · exact .inl (.inr ⟨⟨h1, h2⟩, h3⟩)
    · exact .inr h
theorem bad_f {l : List UInt8} {f i : Nat} (h : ¬ (at0 l i < 48 ∨ 57 < at0 l i ∨ (i = f ∧ at0 l i = 48 ∧ f = 1) ∨ (i = f + 1 ∧ at0 l f = 48))) : bad l f i = false := by
  rw [← bad_iff] at h; simpa using h

theorem getElem_of {l : List UInt8} {i : Nat} (h : i < l.length) : l[i]? = some l[i] ∧ at0 l i = l[i].toNat := ⟨List.getElem?_eq_getElem h, getD_of h⟩

set_option maxRecDepth 8000 in
theorem misfit_spec (σ : Sto) (l : List UInt8) (hl : l.length ≤ 1000000) :
    ACalls Tryd.prog 16 [txt l] σ (fun r σ' => r = .sc (.int .i64 (mis l)) ∧ σ' = σ) := by
  refine fn_of Tab.mixed Tryd.func16 rfl rfl rfl ?_
  simp -implicitDefEqProofs [-seqK_normal, txt]
  rw [seqK_normal, wpc_seq]
  simp -implicitDefEqProofs [-seqK_normal]
  refine seq_cut (fun e s => e.length = 60 ∧ gt e 0 = txt l ∧ gt e 3 = .sc (.int .i64 (fst0 l)) ∧ fst0 l < l.length ∧ s = σ) ?_ ?_
  · cases l with
    | nil =>
      simp -implicitDefEqProofs [mis_full (l := []) rfl, fst0]
    | cons c r =>
      by_cases hc : c.toNat = 45
      · have hf : fst0 (c :: r) = 1 := by simp [fst0, hc]
        cases r with
        | nil =>
          simp -implicitDefEqProofs [hc, mis_full (l := [c]) (by rw [hf]; rfl), hf, ByteArray.size]
        | cons d r =>
          simp -implicitDefEqProofs [hc, hf, ByteArray.size]
          rw [if_neg (by omega)]
          rfl
      · have hf : fst0 (c :: r) = 0 := by simp [fst0, hc]
        have hc' : ¬ ((c.toNat : Int) = 45) := by omega
        simp -implicitDefEqProofs [hc', hf, ByteArray.size]
        rw [if_neg (by omega)]
        rfl
  · rintro e s ⟨hlen, g0, g3, hlt, rfl⟩
    generalize hf : fst0 l = f at g3 hlt
    have hf01 : f = 0 ∨ f = 1 := by rw [← hf]; exact fst0_01 l
    simp -implicitDefEqProofs [hlen, g0, g3]
    refine wpc_loop (fun e s' => ∃ i : Nat, f ≤ i ∧ i ≤ l.length ∧ (∀ j, f ≤ j → j < i → bad l f j = false) ∧ e.length = 60 ∧ gt e 0 = txt l ∧ gt e 3 = .sc (.int .i64 f) ∧ gt e 4 = .sc (.int .i64 i) ∧ s' = s)
      (fun e _ => l.length - (intAt e 4).toNat) ⟨f, Nat.le_refl _, by omega, fun j a b => by omega, by simp [hlen], by simp [hlen, g0], by simp [hlen, g3], by simp [hlen], rfl⟩ ?_
    rintro e s' ⟨i, hfi, hi, hall, hlen, g0, g3, g4, rfl⟩
    by_cases hlt2 : i < l.length
    · obtain ⟨q1, q2⟩ := getElem_of hlt2
      obtain ⟨p1, p2⟩ := getElem_of hlt
      have hit : bad l f i = true → mis l = i := fun hb => mis_hit (by omega) hlt2 (by rw [hf]; exact hall) (by rw [hf]; exact hb)
      have go : bad l f i = false → ∀ j, f ≤ j → j < i + 1 → bad l f j = false := fun hb j a b => by
        by_cases e : j = i
        · subst e; exact hb
        · exact hall j a (by omega)
      have wr : IntKind.i64.wrap ((f : Int) + 1) = f + 1 := wrap_i64 (by omega) (by omega)
      have wi : IntKind.i64.wrap ((i : Int) + 1) = i + 1 := wrap_i64 (by omega) (by omega)
      by_cases h1 : (l[i].toNat : Int) < 48
      · simp -implicitDefEqProofs [hlen, g0, g3, g4, txt, ByteArray.size, hlt2, h1]
        exact (hit (bad_iff.2 (by omega))).symm
      by_cases h2 : 57 < (l[i].toNat : Int)
      · simp -implicitDefEqProofs [hlen, g0, g3, g4, txt, ByteArray.size, hlt2, h1, h2]
        exact (hit (bad_iff.2 (by omega))).symm
      by_cases h3 : (i : Int) = f
      · obtain rfl : i = f := by omega
        have h8 : ¬ ((i : Int) = i + 1) := by omega
        by_cases h4 : (l[i].toNat : Int) = 48
        · rcases hf01 with e1 | e1
          · subst e1
            simp -implicitDefEqProofs [hlen, g0, g3, g4, txt, ByteArray.size, hlt2, h1, h2, h4, intAt, wrap_i64 (n := 1) (by omega) (by omega)]
            exact ⟨⟨1, by omega, fun j hj => go (bad_f (by omega)) j (by omega) (by omega), rfl⟩, by omega⟩
          · subst e1
            have hlt3 : (1 : Int) < l.length := by omega
            simp -implicitDefEqProofs [hlen, g0, g3, g4, txt, ByteArray.size, hlt2, hlt3, h1, h2, h4]
            exact (hit (bad_iff.2 (by omega))).symm
        · simp -implicitDefEqProofs [hlen, g0, g3, g4, txt, ByteArray.size, hlt2, h1, h2, h4, wr, wi, intAt, h8]
          exact ⟨⟨i + 1, by omega, by omega, go (bad_f (by omega)), by omega⟩, by omega⟩
      · by_cases h6 : (i : Int) = f + 1
        · obtain rfl : i = f + 1 := by omega
          have hlt4 : (f : Int) + 1 < l.length := by omega
          have h9 : ¬ ((f : Int) + 1 = f) := by omega
          have wj : IntKind.i64.wrap ((f : Int) + 1 + 1) = f + 1 + 1 := wrap_i64 (by omega) (by omega)
          have tn : ((f : Int) + 1).toNat = f + 1 := by omega
          by_cases h7 : (l[f].toNat : Int) = 48
          · simp -implicitDefEqProofs [hlen, g0, g3, g4, txt, ByteArray.size, hlt2, hlt4, hlt, h1, h2, h9, h7, wr, tn]
            exact ⟨by omega, (hit (bad_iff.2 (by omega))).symm⟩
          · simp -implicitDefEqProofs [hlen, g0, g3, g4, txt, ByteArray.size, hlt2, hlt4, hlt, h1, h2, h9, h7, wr, wj, tn, intAt]
            exact ⟨by omega, ⟨f + 1 + 1, by omega, by omega, go (bad_f (by omega)), by omega⟩, by omega⟩
        · simp -implicitDefEqProofs [hlen, g0, g3, g4, txt, ByteArray.size, hlt2, hlt, h1, h2, h3, h6, wr, wi, intAt]
          exact ⟨⟨i + 1, by omega, by omega, go (bad_f (by omega)), by omega⟩, by omega⟩
    · obtain rfl : i = l.length := by omega
      simp -implicitDefEqProofs [hlen, g0, g3, g4, txt, ByteArray.size]
      exact (mis_none (by omega) (by rw [hf]; exact hall)).symm

set_option maxRecDepth 8000 in
theorem form_spec (σ : Sto) (l : List UInt8) (hl : l.length ≤ 1000000) :
    ACalls Tryd.prog 22 [txt l] σ (fun r σ' => r = .sc (.int .i64 (mis l)) ∧ σ' = σ) := by
  refine fn_of Tab.mixed Tryd.func22 rfl rfl rfl ?_
  simp -implicitDefEqProofs [-seqK_normal, txt]
  rw [seqK_normal, wpc_seq]
  simp -implicitDefEqProofs [-seqK_normal]
  refine seq_cut (fun e s => e.length = 50 ∧ gt e 0 = txt l ∧ gt e 3 = .sc (.int .i64 (fst0 l)) ∧ s = σ) ?_ ?_
  · cases l with
    | nil => simp -implicitDefEqProofs [fst0, txt, ByteArray.size]
    | cons c r =>
      by_cases hc : c.toNat = 45
      · have hf : fst0 (c :: r) = 1 := by simp [fst0, hc]
        have hp : (0 : Int) < (r.length : Int) + 1 := by omega
        simp -implicitDefEqProofs [hc, hf, hp, ByteArray.size, txt]
      · have hf : fst0 (c :: r) = 0 := by simp [fst0, hc]
        have hp : (0 : Int) < (r.length : Int) + 1 := by omega
        have hc' : ¬ ((c.toNat : Int) = 45) := by omega
        simp -implicitDefEqProofs [hc', hf, hp, ByteArray.size, txt]
  · rintro e s ⟨hlen, g0, g3, rfl⟩
    generalize hf : fst0 l = f at g3
    have hf01 : f = 0 ∨ f = 1 := by rw [← hf]; exact fst0_01 l
    have hfl : f ≤ l.length := by rw [← hf]; exact fst0_le l
    by_cases hfull : f = l.length
    · subst hfull
      simp -implicitDefEqProofs [hlen, g0, g3, txt, ByteArray.size]
      rw [mis_full hf, hf]
    have hne : ¬ ((f : Int) = l.length) := by omega
    simp -implicitDefEqProofs [hlen, g0, g3, txt, ByteArray.size, hne]
    refine wpc_loop (fun e s' => ∃ i : Nat, f ≤ i ∧ i ≤ l.length ∧ (∀ j, f ≤ j → j < i → bad l f j = false) ∧ e.length = 50 ∧ gt e 0 = txt l ∧ gt e 3 = .sc (.int .i64 f) ∧ gt e 4 = .sc (.int .i64 i) ∧ s' = s)
      (fun e _ => l.length - (intAt e 4).toNat) ⟨f, Nat.le_refl _, by omega, fun j a b => by omega, by simp [hlen], by simp [hlen, g0, txt], by simp [hlen, g3], by simp [hlen], rfl⟩ ?_
    rintro e s' ⟨i, hfi, hi, hall, hlen, g0, g3, g4, rfl⟩
    by_cases hlt2 : i < l.length
    · have hlt : f < l.length := by omega
      obtain ⟨q1, q2⟩ := getElem_of hlt2
      obtain ⟨p1, p2⟩ := getElem_of hlt
      have hit : bad l f i = true → mis l = i := fun hb => mis_hit (by omega) hlt2 (by rw [hf]; exact hall) (by rw [hf]; exact hb)
      have go : bad l f i = false → ∀ j, f ≤ j → j < i + 1 → bad l f j = false := fun hb j a b => by
        by_cases e : j = i
        · subst e; exact hb
        · exact hall j a (by omega)
      have wi : IntKind.i64.wrap ((i : Int) + 1) = i + 1 := wrap_i64 (by omega) (by omega)
      by_cases h1 : (l[i].toNat : Int) < 48
      · simp -implicitDefEqProofs [hlen, g0, g3, g4, txt, ByteArray.size, hlt2, h1]
        exact (hit (bad_iff.2 (by omega))).symm
      by_cases h2 : 57 < (l[i].toNat : Int)
      · simp -implicitDefEqProofs [hlen, g0, g3, g4, txt, ByteArray.size, hlt2, h1, h2]
        exact (hit (bad_iff.2 (by omega))).symm
      have done : bad l f i = false → (∃ i_1 : Nat, f ≤ i_1 ∧ i_1 ≤ l.length ∧ (∀ j, f ≤ j → j < i_1 → bad l f j = false) ∧ (i : Int) + 1 = i_1) ∧ l.length - (i + 1) < l.length - i :=
        fun hb => ⟨⟨i + 1, by omega, by omega, go hb, by omega⟩, by omega⟩
      by_cases h7 : (l[f].toNat : Int) = 48
      · by_cases h3 : (f : Int) < i
        · have hi1 : i = f + 1 := by
            by_cases e : i = f + 1
            · exact e
            · have := hall (f + 1) (by omega) (by omega)
              rw [bad_iff.2 (.inr (.inr (.inr ⟨rfl, by omega⟩)))] at this
              cases this
          simp -implicitDefEqProofs [hlen, g0, g3, g4, txt, ByteArray.size, hlt2, hlt, h1, h2, h7, h3]
          exact (hit (bad_iff.2 (by omega))).symm
        · obtain rfl : i = f := by omega
          rcases hf01 with e1 | e1
          · subst e1
            simp -implicitDefEqProofs [hlen, g0, g3, g4, txt, ByteArray.size, hlt2, h1, h2, h7, intAt, wrap_i64 (n := 1) (by omega) (by omega)]
            exact ⟨⟨1, by omega, fun j hj => go (bad_f (by omega)) j (by omega) (by omega), rfl⟩, by omega⟩
          · subst e1
            have hlt3 : (1 : Int) < l.length := by omega
            simp -implicitDefEqProofs [hlen, g0, g3, g4, txt, ByteArray.size, hlt2, hlt3, h1, h2, h7]
            exact (hit (bad_iff.2 (by omega))).symm
      · simp -implicitDefEqProofs [hlen, g0, g3, g4, txt, ByteArray.size, hlt2, hlt, h1, h2, h7, wi, intAt]
        refine done (bad_f fun hb => ?_)
        rcases hb with hb | hb | ⟨e1, e2, _⟩ | hb
        · omega
        · omega
        · subst e1; omega
        · omega
    · obtain rfl : i = l.length := by omega
      simp -implicitDefEqProofs [hlen, g0, g3, g4, txt, ByteArray.size]
      exact (mis_none (by omega) (by rw [hf]; exact hall)).symm
end Go.Proofs.YtcjiebgnccaogaaDoor
