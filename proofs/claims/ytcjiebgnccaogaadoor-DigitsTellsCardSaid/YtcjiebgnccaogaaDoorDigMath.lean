/- Decimal numerals: plain laws on lists of bytes; no program. -/
import Derived.Lib.ItoaNum
import Derived.Lib.ParseIntB
namespace Go.Proofs.YtcjiebgnccaogaaDoor
open Go
set_option linter.unusedVariables false
set_option linter.unusedSimpArgs false

/-! ### Where a text is no numeral -/
def digB (c : UInt8) : Bool := decide (48 ≤ c.toNat) && decide (c.toNat ≤ 57)
/-- where the digits begin -/
def fst0 (l : List UInt8) : Nat := match l with
  | [] => 0
  | c :: _ => if c.toNat = 45 then 1 else 0
def at0 (l : List UInt8) (i : Nat) : Nat := (l.getD i 0).toNat
/-- the byte at i can't stand there -/
def bad (l : List UInt8) (f i : Nat) : Bool :=
  decide (at0 l i < 48) || decide (57 < at0 l i) || (decide (i = f) && decide (at0 l i = 48) && decide (f = 1)) || (decide (i = f + 1) && decide (at0 l f = 48))
def scan (l : List UInt8) (f : Nat) : Nat → Nat → Int
  | _, 0 => -1
  | i, n + 1 => if bad l f i = true then i else scan l f (i + 1) n
def mis (l : List UInt8) : Int := if fst0 l = l.length then (fst0 l : Int) else scan l (fst0 l) (fst0 l) (l.length - fst0 l)

theorem fst0_le (l : List UInt8) : fst0 l ≤ l.length := by
  unfold fst0; split
  · simp
  · split <;> simp
theorem fst0_01 (l : List UInt8) : fst0 l = 0 ∨ fst0 l = 1 := by
  unfold fst0; split
  · exact .inl rfl
  · split
    · exact .inr rfl
    · exact .inl rfl

theorem scan_hit (l : List UInt8) (f : Nat) : ∀ (n i k : Nat), i ≤ k → k < i + n → (∀ j, i ≤ j → j < k → bad l f j = false) → bad l f k = true → scan l f i n = k
  | 0, i, k, h1, h2, _, _ => by omega
  | n + 1, i, k, h1, h2, h3, h4 => by
    unfold scan
    by_cases e : i = k
    · subst e; rw [if_pos h4]
    · rw [if_neg (by rw [h3 i (Nat.le_refl _) (by omega)]; simp)]
      exact scan_hit l f n (i + 1) k (by omega) (by omega) (fun j a b => h3 j (by omega) b) h4
theorem scan_none (l : List UInt8) (f : Nat) : ∀ (n i : Nat), (∀ j, i ≤ j → j < i + n → bad l f j = false) → scan l f i n = -1
  | 0, i, _ => rfl
  | n + 1, i, h => by
    unfold scan
    rw [if_neg (by rw [h i (Nat.le_refl _) (by omega)]; simp)]
    exact scan_none l f n (i + 1) fun j a b => h j (by omega) (by omega)
theorem scan_neg (l : List UInt8) (f : Nat) : ∀ (n i : Nat), scan l f i n = -1 → ∀ j, i ≤ j → j < i + n → bad l f j = false
  | 0, i, _, j, h1, h2 => by omega
  | n + 1, i, h, j, h1, h2 => by
    unfold scan at h
    by_cases hb : bad l f i = true
    · rw [if_pos hb] at h; omega
    · rw [if_neg hb] at h
      by_cases e : j = i
      · subst e; simpa using hb
      · exact scan_neg l f n (i + 1) h j (by omega) (by omega)
theorem scan_range (l : List UInt8) (f : Nat) : ∀ (n i : Nat), scan l f i n = -1 ∨ (i : Int) ≤ scan l f i n ∧ scan l f i n < i + n
  | 0, i => .inl rfl
  | n + 1, i => by
    unfold scan
    split
    · exact .inr ⟨by omega, by omega⟩
    · rcases scan_range l f n (i + 1) with h | h
      · exact .inl h
      · exact .inr ⟨by omega, by omega⟩

theorem mis_full {l : List UInt8} (h : fst0 l = l.length) : mis l = fst0 l := by unfold mis; rw [if_pos h]
theorem mis_hit {l : List UInt8} {k : Nat} (h0 : fst0 l ≤ k) (h1 : k < l.length) (h2 : ∀ j, fst0 l ≤ j → j < k → bad l (fst0 l) j = false) (h3 : bad l (fst0 l) k = true) : mis l = k := by
  unfold mis
  rw [if_neg (by omega)]
  exact scan_hit l _ _ _ k h0 (by omega) h2 h3
theorem mis_none {l : List UInt8} (h0 : fst0 l ≠ l.length) (h2 : ∀ j, fst0 l ≤ j → j < l.length → bad l (fst0 l) j = false) : mis l = -1 := by
  unfold mis
  rw [if_neg h0]
  exact scan_none l _ _ _ fun j a b => h2 j a (by omega)
theorem mis_range (l : List UInt8) : mis l = -1 ∨ 0 ≤ mis l ∧ mis l ≤ l.length := by
  unfold mis
  have := fst0_le l
  split
  · exact .inr ⟨by omega, by omega⟩
  · rcases scan_range l (fst0 l) (l.length - fst0 l) (fst0 l) with h | h
    · exact .inl h
    · exact .inr ⟨by omega, by omega⟩

/-! ### Numbers -/
def stepD (a : Nat) (c : UInt8) : Nat := a * 10 + (c.toNat - 48)
def dvalA (acc : Nat) (l : List UInt8) : Nat := l.foldl stepD acc
def dval (l : List UInt8) : Nat := dvalA 0 l
theorem dvalA_cons (acc : Nat) (c : UInt8) (r : List UInt8) : dvalA acc (c :: r) = dvalA (acc * 10 + (c.toNat - 48)) r := by unfold dvalA; rw [List.foldl_cons, stepD]
theorem dvalA_nil (acc : Nat) : dvalA acc [] = acc := by unfold dvalA; rw [List.foldl_nil]
theorem dvalA_append (a : List UInt8) : ∀ (acc : Nat) (b : List UInt8), dvalA acc (a ++ b) = dvalA (dvalA acc a) b := by
  induction a with
  | nil => intro acc b; rfl
  | cons c a ih => intro acc b; rw [List.cons_append, dvalA_cons, dvalA_cons]; exact ih _ _
theorem dvalA_ge (l : List UInt8) : ∀ acc, acc ≤ dvalA acc l := by
  induction l with
  | nil => intro acc; exact Nat.le_refl _
  | cons c l ih => intro acc; rw [dvalA_cons]; exact Nat.le_trans (m := acc * 10 + (c.toNat - 48)) (by omega) (ih _)
theorem dval_snoc (a : List UInt8) (c : UInt8) : dval (a ++ [c]) = dval a * 10 + (c.toNat - 48) := by
  unfold dval; rw [dvalA_append, dvalA_cons, dvalA_nil]

def allDig (l : List UInt8) : Prop := ∀ c ∈ l, 48 ≤ c.toNat ∧ c.toNat ≤ 57

theorem parseUintM_cons (M acc : Nat) (c : UInt8) (r : List UInt8) : Lib.parseUintM M acc (c :: r) = if 48 ≤ c.toNat ∧ c.toNat ≤ 57 then
      if 1844674407370955162 ≤ acc then .range
      else if M < acc * 10 + (c.toNat - 48) then .range
      else Lib.parseUintM M (acc * 10 + (c.toNat - 48)) r
      else Lib.NumEnd.syntax := by rw [Lib.parseUintM]

theorem parseUintM_dig (M : Nat) (hM : M = 18446744073709551615) (l : List UInt8) : ∀ (acc : Nat), allDig l → acc ≤ M →
    Lib.parseUintM M acc l = if dvalA acc l ≤ M then .ok (dvalA acc l) else .range := by
  induction l with
  | nil => intro acc _ h; rw [dvalA_nil, if_pos h, Lib.parseUintM]
  | cons c r ih =>
    intro acc hd h
    have hc := hd c (by simp)
    have hr : allDig r := fun x hx => hd x (by simp [hx])
    rw [parseUintM_cons, dvalA_cons, if_pos hc]
    have hge := dvalA_ge r (acc * 10 + (c.toNat - 48))
    by_cases h1 : 1844674407370955162 ≤ acc
    · rw [if_pos h1, if_neg (by omega)]
    · rw [if_neg h1]
      by_cases h2 : M < acc * 10 + (c.toNat - 48)
      · rw [if_pos h2, if_neg (by omega)]
      · rw [if_neg h2]
        exact ih _ hr (by omega)

/-- digits as they are printed -/
def canon (l : List UInt8) : Prop := l ≠ [] ∧ allDig l ∧ (1 < l.length → at0 l 0 ≠ 48)

/-- what a text that is a numeral's is made of -/
structure Num (l : List UInt8) : Prop where
  can : canon (l.drop (fst0 l))
  nz : fst0 l = 1 → at0 l 1 ≠ 48

theorem getD_of {l : List UInt8} {i : Nat} (h : i < l.length) : at0 l i = l[i].toNat := by simp [at0, List.getD, h]

theorem num_of_mis {l : List UInt8} (h : mis l = -1) : Num l := by
  have hf := fst0_le l
  unfold mis at h
  split at h
  · omega
  · rename_i hne
    have hall := scan_neg l (fst0 l) _ _ h
    have hb : ∀ j, fst0 l ≤ j → j < l.length → bad l (fst0 l) j = false := fun j a b => hall j a (by omega)
    have hdig : ∀ j, fst0 l ≤ j → j < l.length → 48 ≤ at0 l j ∧ at0 l j ≤ 57 := fun j a b => by
      have := hb j a b
      unfold bad at this
      simp only [Bool.or_eq_false_iff, decide_eq_false_iff_not] at this
      omega
    refine ⟨⟨?_, ?_, ?_⟩, fun h1 => ?_⟩
    · intro e
      have := congrArg List.length e
      simp at this
      omega
    · intro c hc
      obtain ⟨i, hi, rfl⟩ := List.mem_iff_getElem.1 hc
      simp only [List.length_drop] at hi
      have := hdig (fst0 l + i) (by omega) (by omega)
      rw [getD_of (by omega)] at this
      simpa using this
    · intro hlen hz
      simp only [List.length_drop] at hlen
      have := hb (fst0 l + 1) (by omega) (by omega)
      unfold bad at this
      have e : at0 (List.drop (fst0 l) l) 0 = at0 l (fst0 l) := by simp [at0, List.getD]
      rw [e] at hz
      simp [hz] at this
    · have := hb (fst0 l) (Nat.le_refl _) (by omega)
      unfold bad at this
      rw [h1] at this
      intro hz
      simp [hz] at this

/-- the number, a code, its place -/
def prs (l : List UInt8) : Int × Int × Int :=
  if 0 ≤ mis l then (0, 1, mis l)
  else if fst0 l = 1 then (if dval (l.drop 1) ≤ 9223372036854775808 then (-(dval (l.drop 1) : Int), 0, 0) else (0, 4, 0))
  else (if dval l < 9223372036854775808 then ((dval l : Int), 0, 0) else (0, 4, 0))

theorem prs_bad {l : List UInt8} (h : 0 ≤ mis l) : prs l = (0, 1, mis l) := by unfold prs; rw [if_pos h]
theorem prs_neg {l : List UInt8} (h : mis l = -1) (hf : fst0 l = 1) : prs l = if dval (l.drop 1) ≤ 9223372036854775808 then (-(dval (l.drop 1) : Int), 0, 0) else (0, 4, 0) := by
  unfold prs; rw [if_neg (show ¬ 0 ≤ mis l by omega), if_pos hf]
theorem prs_pos {l : List UInt8} (h : mis l = -1) (hf : fst0 l = 0) : prs l = if dval l < 9223372036854775808 then ((dval l : Int), 0, 0) else (0, 4, 0) := by
  unfold prs; rw [if_neg (show ¬ 0 ≤ mis l by omega), if_neg (show ¬ fst0 l = 1 by omega)]

theorem parseUintB_dig {l : List UInt8} (hne : l ≠ []) (hd : allDig l) : Lib.parseUintB 64 l = if dval l ≤ 18446744073709551615 then .ok (dval l) else .range := by
  unfold Lib.parseUintB
  rw [if_neg hne]
  rw [show (2 ^ 64 - 1 : Nat) = 18446744073709551615 by decide]
  exact parseUintM_dig _ rfl l 0 hd (by omega)

def outI (neg : Bool) (u : Nat) : Lib.NumEnd Int := if ¬ neg = true ∧ 2 ^ (64 - 1) ≤ u then .range else if neg = true ∧ 2 ^ (64 - 1) < u then .range else .ok (if neg = true then -(u : Int) else u)
theorem parseIntB_eq (c : UInt8) (r : List UInt8) : Lib.parseIntB 64 (c :: r) = match Lib.parseUintB 64 (if c.toNat = 43 ∨ c.toNat = 45 then r else c :: r) with
    | Lib.NumEnd.syntax => Lib.NumEnd.syntax
    | Lib.NumEnd.range => Lib.NumEnd.range
    | Lib.NumEnd.ok u => outI (decide (c.toNat = 45)) u := by
  unfold Lib.parseIntB outI
  simp only [decide_eq_true_eq]
  cases Lib.parseUintB 64 (if c.toNat = 43 ∨ c.toNat = 45 then r else c :: r) <;> rfl

theorem parse_num {l : List UInt8} (h : mis l = -1) : ((prs l).2.1 = 0 ∧ Lib.parseIntB 64 l = .ok (prs l).1) ∨ (prs l = (0, 4, 0) ∧ Lib.parseIntB 64 l = .range) := by
  obtain ⟨hne, hd, hz⟩ := (num_of_mis h).can
  cases l with
  | nil => exact absurd (List.drop_nil) hne
  | cons c r =>
    rw [parseIntB_eq]
    by_cases hc : c.toNat = 45
    · have hf : fst0 (c :: r) = 1 := by simp [fst0, hc]
      rw [prs_neg h hf]
      rw [hf] at hne hd
      rw [if_pos (Or.inr hc)]
      have e1 : List.drop 1 (c :: r) = r := rfl
      rw [e1] at hne hd ⊢
      rw [parseUintB_dig hne hd]
      by_cases h1 : dval r ≤ 9223372036854775808
      · refine .inl ?_
        rw [if_pos h1, if_pos (show dval r ≤ 18446744073709551615 by omega)]
        refine ⟨rfl, ?_⟩
        simp [outI, hc, h1]
        try omega
      · refine .inr ?_
        rw [if_neg h1]
        refine ⟨rfl, ?_⟩
        by_cases h2 : dval r ≤ 18446744073709551615
        · rw [if_pos h2]
          simp [outI, hc]
          omega
        · rw [if_neg h2]
    · have hf : fst0 (c :: r) = 0 := by simp [fst0, hc]
      rw [prs_pos h hf]
      rw [hf] at hne hd
      have e1 : List.drop 0 (c :: r) = c :: r := rfl
      rw [e1] at hne hd
      have hcd := hd c (by simp)
      rw [if_neg (show ¬ (c.toNat = 43 ∨ c.toNat = 45) by omega), parseUintB_dig hne hd]
      by_cases h1 : dval (c :: r) < 9223372036854775808
      · refine .inl ?_
        rw [if_pos h1, if_pos (show dval (c :: r) ≤ 18446744073709551615 by omega)]
        refine ⟨rfl, ?_⟩
        simp [outI, hc]
        omega
      · refine .inr ?_
        rw [if_neg h1]
        refine ⟨rfl, ?_⟩
        by_cases h2 : dval (c :: r) ≤ 18446744073709551615
        · rw [if_pos h2]
          simp [outI, hc]
          omega
        · rw [if_neg h2]

/-! ### The numeral of a number -/
theorem dval_decDigits (u : Nat) : dval (Lib.decDigits u) = u := by
  induction u using Nat.strongRecOn with
  | _ u ih =>
    rw [Lib.decDigits]
    split
    · rename_i h
      rw [dval, dvalA_cons, dvalA_nil]
      have : (UInt8.ofNat (48 + u)).toNat = 48 + u := by simp; omega
      rw [this]; omega
    · rename_i h
      rw [dval_snoc, ih (u / 10) (by omega)]
      have : (UInt8.ofNat (48 + u % 10)).toNat = 48 + u % 10 := by simp; omega
      rw [this]; omega

theorem at0_append {a b : List UInt8} {i : Nat} (h : i < a.length) : at0 (a ++ b) i = at0 a i := by simp [at0, List.getD, List.getElem?_append, h]

theorem canon_decDigits (u : Nat) : canon (Lib.decDigits u) ∧ (0 < u → at0 (Lib.decDigits u) 0 ≠ 48) := by
  induction u using Nat.strongRecOn with
  | _ u ih =>
    rw [Lib.decDigits]
    split
    · rename_i h
      have e : (UInt8.ofNat (48 + u)).toNat = 48 + u := by simp; omega
      refine ⟨⟨by simp, fun c hc => ?_, by simp⟩, fun h0 => ?_⟩
      · simp only [List.mem_singleton] at hc; subst hc; omega
      · simp [at0, List.getD]; omega
    · rename_i h
      obtain ⟨⟨h1, h2, h3⟩, h4⟩ := ih (u / 10) (by omega)
      have e : (UInt8.ofNat (48 + u % 10)).toNat = 48 + u % 10 := by simp; omega
      have hl : 0 < (Lib.decDigits (u / 10)).length := List.length_pos_iff.2 h1
      have hz : at0 (Lib.decDigits (u / 10) ++ [UInt8.ofNat (48 + u % 10)]) 0 ≠ 48 := by
        rw [at0_append hl]; exact h4 (by omega)
      refine ⟨⟨by simp, fun c hc => ?_, fun _ => hz⟩, fun _ => hz⟩
      rcases List.mem_append.1 hc with hc | hc
      · exact h2 c hc
      · simp only [List.mem_singleton] at hc; subst hc; omega

theorem dval_pos {l : List UInt8} (h : canon l) (hz : at0 l 0 ≠ 48) : 0 < dval l := by
  obtain ⟨h1, h2, _⟩ := h
  cases l with
  | nil => exact absurd rfl h1
  | cons c r =>
    have hc := h2 c (by simp)
    have : at0 (c :: r) 0 = c.toNat := by simp [at0, List.getD]
    rw [this] at hz
    have := dvalA_ge r (0 * 10 + (c.toNat - 48))
    rw [dval, dvalA_cons]
    omega

theorem decDigits_dval : ∀ (n : Nat) (l : List UInt8), l.length = n → canon l → Lib.decDigits (dval l) = l
  | 0, l, hl, h => absurd (List.eq_nil_of_length_eq_zero hl) h.1
  | n + 1, l, hl, ⟨h1, h2, h3⟩ => by
    obtain ⟨a, c, rfl⟩ : ∃ a c, l = a ++ [c] := ⟨l.dropLast, l.getLast h1, (List.dropLast_concat_getLast h1).symm⟩
    have hc := h2 c (by simp)
    have hcc : UInt8.ofNat c.toNat = c := by simp
    rw [dval_snoc]
    cases a with
    | nil =>
      have e : dval ([] : List UInt8) = 0 := by rw [dval, dvalA_nil]
      rw [e, Lib.decDigits, dif_pos (by omega)]
      rw [show 48 + (0 * 10 + (c.toNat - 48)) = c.toNat by omega, hcc]
      rfl
    | cons x a =>
      have hx : at0 (x :: a) 0 ≠ 48 := by
        rw [← at0_append (b := [c]) (by simp)]; exact h3 (by simp)
      have hca : canon (x :: a) := ⟨by simp, fun y hy => h2 y (List.mem_append_left _ hy), fun _ => hx⟩
      have hp := dval_pos hca hx
      have ih := decDigits_dval n (x :: a) (by simp at hl ⊢; omega) hca
      rw [Lib.decDigits, dif_neg (by omega)]
      rw [show (dval (x :: a) * 10 + (c.toNat - 48)) / 10 = dval (x :: a) by omega, ih,
        show 48 + (dval (x :: a) * 10 + (c.toNat - 48)) % 10 = c.toNat by omega, hcc]

theorem mis_of_canon {l : List UInt8} (h1 : canon (l.drop (fst0 l))) (h2 : fst0 l = 1 → at0 l 1 ≠ 48) : mis l = -1 := by
  obtain ⟨hne, hd, hz⟩ := h1
  have hf := fst0_le l
  have hlt : fst0 l < l.length := by
    rcases Nat.lt_or_ge (fst0 l) l.length with h | h
    · exact h
    · exact absurd (List.drop_eq_nil_of_le h) hne
  refine mis_none (by omega) fun j a b => ?_
  have hj : 48 ≤ at0 l j ∧ at0 l j ≤ 57 := by
    have := hd l[j] (List.mem_iff_getElem.2 ⟨j - fst0 l, by simp; omega, by simp [show fst0 l + (j - fst0 l) = j by omega]⟩)
    rw [getD_of b]; exact this
  have e : at0 (List.drop (fst0 l) l) 0 = at0 l (fst0 l) := by simp [at0, List.getD]
  rw [e] at hz
  simp only [List.length_drop] at hz
  refine Bool.eq_false_iff.2 fun h => ?_
  unfold bad at h
  simp only [Bool.or_eq_true, Bool.and_eq_true, decide_eq_true_eq] at h
  rcases h with ((h | h) | h) | h
  · omega
  · omega
  · obtain ⟨⟨h3, h4⟩, h5⟩ := h
    subst h3
    rw [h5] at h4
    exact h2 h5 h4
  · exact hz (by omega) h.2

/-- a number comes back of its text -/
theorem prs_itoa (n : Int) (h0 : -9223372036854775808 ≤ n) (h1 : n ≤ 9223372036854775807) : prs (Lib.itoa n) = (n, 0, 0) := by
  unfold Lib.itoa
  by_cases hn : n < 0
  · rw [if_pos hn]
    obtain ⟨hc, hp⟩ := canon_decDigits n.natAbs
    have hf : fst0 (45 :: Lib.decDigits n.natAbs) = 1 := by simp [fst0]
    have hm : mis (45 :: Lib.decDigits n.natAbs) = -1 := by
      refine mis_of_canon (by rw [hf]; exact hc) fun _ => ?_
      have e : at0 (45 :: Lib.decDigits n.natAbs) 1 = at0 (Lib.decDigits n.natAbs) 0 := by simp [at0, List.getD]
      rw [e]; exact hp (by omega)
    unfold prs
    rw [if_neg (by omega), if_pos hf]
    simp only [List.drop_succ_cons, List.drop_zero, dval_decDigits]
    rw [if_pos (by omega)]
    congr 1
    omega
  · rw [if_neg hn]
    obtain ⟨hc, hp⟩ := canon_decDigits n.toNat
    have hf : fst0 (Lib.decDigits n.toNat) = 0 := by
      have h2 := hc.2.1
      have h3 := hc.1
      unfold fst0
      split
      · rfl
      · rename_i c r he
        rw [he] at h2
        have := h2 c (by simp)
        rw [if_neg (by omega)]
    have hm : mis (Lib.decDigits n.toNat) = -1 := mis_of_canon (by rw [hf]; exact hc) (fun h => by omega)
    unfold prs
    rw [if_neg (by omega), if_neg (by omega), dval_decDigits, if_pos (by omega)]
    congr 1
    omega

/-- a text that is a number's is the one that is printed -/
theorem itoa_prs {l : List UInt8} (h : (prs l).2.1 = 0) : Lib.itoa (prs l).1 = l := by
  rcases mis_range l with hm | hm
  · have hn := num_of_mis hm
    unfold prs at h ⊢
    rw [if_neg (by omega)] at h ⊢
    have hcan := hn.can
    by_cases hf : fst0 l = 1
    · rw [if_pos hf] at h ⊢
      rw [hf] at hcan
      have hz := hn.nz hf
      split at h
      · rename_i h1
        rw [if_pos h1]
        have e0 : at0 (l.drop 1) 0 = at0 l 1 := by simp [at0, List.getD]
        have hp := dval_pos hcan (by rw [e0]; exact hz)
        unfold Lib.itoa
        rw [if_pos (by simp only; omega)]
        simp only [Int.natAbs_neg, Int.natAbs_natCast]
        rw [decDigits_dval _ _ rfl hcan]
        cases l with
        | nil => simp [fst0] at hf
        | cons c r =>
          simp only [List.drop_succ_cons, List.drop_zero]
          have : c.toNat = 45 := by
            unfold fst0 at hf; simp only at hf
            split at hf
            · assumption
            · omega
          congr 1
          exact (UInt8.toNat_inj.1 (by rw [this]; rfl)).symm
      · simp at h
    · rw [if_neg hf] at h ⊢
      have h0 : fst0 l = 0 := by rcases fst0_01 l with h | h <;> omega
      rw [h0] at hcan
      simp only [List.drop_zero] at hcan
      split at h
      · rename_i h1
        rw [if_pos h1]
        unfold Lib.itoa
        rw [if_neg (by simp only; omega)]
        simp only [Int.toNat_natCast]
        exact decDigits_dval _ _ rfl hcan
      · simp at h
  · unfold prs at h
    rw [if_pos hm.1] at h
    simp at h

theorem prs_bound (l : List UInt8) : -9223372036854775808 ≤ (prs l).1 ∧ (prs l).1 ≤ 9223372036854775807 := by
  unfold prs
  split
  · simp
  · split
    · split <;> constructor <;> simp only <;> omega
    · split <;> constructor <;> simp only <;> omega

theorem prs_code (l : List UInt8) : (prs l).2.1 = 1 ∧ (prs l).2.2 = mis l ∧ 0 ≤ mis l ∧ (prs l).1 = 0 ∨ (prs l).2 = (0, 0) ∨ (prs l) = (0, 4, 0) := by
  unfold prs
  split
  · rename_i h; exact .inl ⟨rfl, rfl, h, rfl⟩
  · split
    · split
      · exact .inr (.inl rfl)
      · exact .inr (.inr rfl)
    · split
      · exact .inr (.inl rfl)
      · exact .inr (.inr rfl)

/-- the number, where it lies between two others -/
def wth (l : List UInt8) (a b : Int) : Int × Int × Int := if (prs l).2.1 = 0 ∧ ((prs l).1 < a ∨ b < (prs l).1) then (0, 4, 0) else prs l

/-! ### Sums -/
def sumP (a b : Int) : Int × Bool := if -9223372036854775808 ≤ a + b ∧ a + b ≤ 9223372036854775807 then (a + b, true) else (0, false)
end Go.Proofs.YtcjiebgnccaogaaDoor
