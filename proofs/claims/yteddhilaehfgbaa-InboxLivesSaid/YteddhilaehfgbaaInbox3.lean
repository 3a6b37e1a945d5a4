/- What awake answers, and that InboxFull answers true over abstract values; no condition. -/
import Derived.Test.YteddhilaehfgbaaInbox2
namespace Go.Proofs.Yteddhilaehfgbaa
open Go Go.Aw
set_option linter.unusedVariables false
set_option linter.unusedSimpArgs false

@[simp] theorem take_encC (c : Change) : List.take 3 (encC c) = encC c := rfl

/-- a box of the function's own -/
structure Bx (σ0 σ : Sto) (b : Nat) (tok : Tok) (most : Int) (l : List Change) (over : Bool) : Prop where
  here : σ b = some (.cells [.sc (.int .i64 most), .slice tok (l.map encC), .sc (.bool over)])
  own : Own σ tok l.length 3
  sub : Aw.Sub σ0 σ
  nb : σ0 b = none
  nt : ∀ x, fp tok = some x → σ0 x = none

theorem Bx.step {σ0 σ σ' : Sto} {b : Nat} {tok tok' : Tok} {most most' : Int} {l l' : List Change} {o o' : Bool}
    (h : Bx σ0 σ b tok most l o) (k : BoxOp σ σ' b tok tok' most' l' o') : Bx σ0 σ' b tok' most' l' o' where
  here := k.here
  own := k.own
  sub := fun x a hx => k.keep x a (by rintro rfl; rw [h.nb] at hx; cases hx) (fun e => by rw [h.nt x e] at hx; cases hx) (h.sub x a hx)
  nb := h.nb
  nt := fun x hx => by
    rcases k.fresh x hx with e | e
    · exact h.nt x e
    · cases hs : σ0 x with
      | none => rfl
      | some a => rw [h.sub x a hs] at e; cases e

theorem Bx.emptied {σ0 σ : Sto} {b : Nat} {tok : Tok} {most : Int} {l : List Change} {o : Bool} (h : Bx σ0 σ b tok most l o) :
    Bx σ0 (σ.set b (.cells [.sc (.int .i64 most), .slice .clip [], .sc (.bool false)])) b .clip most [] false where
  here := by simp
  own := trivial
  sub := fun x a hx => by
    have : x ≠ b := by rintro rfl; rw [h.nb] at hx; cases hx
    simp [this]; exact h.sub x a hx
  nb := h.nb
  nt := by simp [fp]

theorem empty_box (σ0 σ : Sto) (b : Nat) (most : Int) (tok : Tok) (l : List Change) (over : Bool) (h : Bx σ0 σ b tok most l over) :
    ACalls Try.prog 15 [.ptr b 0] σ (fun r σ' => r = .tuple [] ∧ Bx σ0 σ' b .clip most [] false ∧ σ' = σ.set b (.cells [.sc (.int .i64 most), .slice .clip [], .sc (.bool false)])) := by
  refine (empty_spec σ b most tok l over h.here).mono ?_
  rintro r σ' ⟨rfl, rfl⟩
  exact ⟨rfl, h.emptied, rfl⟩

def fullB (most : Int) (l : List Change) (over : Bool) : Bool := over || decide (most ≤ (l.length : Int))

theorem push_spec (σ0 σ : Sto) (b : Nat) (most : Int) (tok : Tok) (l : List Change) (over : Bool) (c : Change)
    (hb : Bx σ0 σ b tok most l over) (hl : l.length ≤ 1000000) :
    ACalls Try.prog 9 [.ptr b 0, .agg (encC c)] σ (fun r σ' => r = .sc (.bool (!fullB most l over)) ∧
      ∃ tok', Bx σ0 σ' b tok' most (if fullB most l over then l else l ++ [c]) (fullB most l over) ∧ BoxOp σ σ' b tok tok' most (if fullB most l over then l else l ++ [c]) (fullB most l over)) := by
  cases hf : fullB most l over with
  | true =>
    refine (push_full σ b most tok l over c hb.here hb.own hl hf).mono ?_
    rintro r σ' ⟨rfl, h⟩
    exact ⟨rfl, tok, hb.step h, h⟩
  | false =>
    refine (push_room σ b most tok l over c hb.here hb.own hl hf).mono ?_
    rintro r σ' ⟨tok', rfl, h⟩
    have ho : over = false := by cases over <;> simp_all [fullB]
    subst ho
    exact ⟨rfl, tok', hb.step h, h⟩

theorem push_nil (σ : Sto) (c : Change) :
    ACalls Try.prog 9 [.sc (.pointer none), .agg (encC c)] σ (fun r σ' => r = .sc (.bool false) ∧ Aw.Sub σ σ') := by
  refine fn_of Tab.mixed Try.func9 rfl rfl rfl ?_
  simp -implicitDefEqProofs [encC]
  refine alloc fun b1 hb1 => ?_
  simp -implicitDefEqProofs
  exact sub_set (Sub.refl σ) hb1

theorem take_nil (σ : Sto) (n : Int) :
    ACalls Try.prog 8 [.sc (.pointer none), .sc (.int .i64 n)] σ (fun r σ' => r = .tuple [.slice .clip [], .sc (.bool false)] ∧ σ' = σ) := by
  refine fn_of Tab.mixed Try.func8 rfl rfl rfl ?_
  simp -implicitDefEqProofs

theorem len_nil (σ : Sto) :
    ACalls Try.prog 16 [.sc (.pointer none)] σ (fun r σ' => r = .sc (.int .i64 0) ∧ σ' = σ) := by
  refine fn_of Tab.mixed Try.func16 rfl rfl rfl ?_
  simp -implicitDefEqProofs

theorem new_box (σ0 σ : Sto) (hs : Aw.Sub σ0 σ) (most : Int) :
    ACalls Try.prog 7 [.sc (.int .i64 most)] σ (fun r σ' => ∃ b, r = .ptr b 0 ∧ Bx σ0 σ' b .clip (min (max most 0) 64) [] false ∧ σ b = none ∧ Aw.Sub σ σ') := by
  refine (new_spec σ most).mono ?_
  rintro r σ' ⟨b, rfl, hb, rfl⟩
  have hb0 : σ0 b = none := by
    cases h : σ0 b with
    | none => rfl
    | some a => rw [hs b a h] at hb; cases hb
  exact ⟨b, rfl, ⟨by simp, trivial, sub_set hs hb0, hb0, by simp [fp]⟩, hb, sub_set (Sub.refl σ) hb⟩


theorem awake_spec (σ : Sto) :
    ACalls Try.prog 6 [] σ (fun r σ' => r = .sc (.bool true) ∧ Aw.Sub σ σ') := by
  refine fn_of Tab.mixed Try.func6 rfl rfl rfl ?_
  simp -implicitDefEqProofs
  refine (new_box σ σ (Sub.refl σ) 1).mono ?_
  rintro r σ1 ⟨b, rfl, hb, -⟩
  simp -implicitDefEqProofs
  refine (push_spec σ σ1 b 1 .clip [] false ⟨⟨#[97]⟩, false, ⟨#[]⟩⟩ hb (by simp)).mono ?_
  rintro r σ2 ⟨rfl, tok2, hb2, -⟩
  simp -implicitDefEqProofs [fullB] at hb2 ⊢
  refine (push_spec σ σ2 b 1 _ [_] false ⟨⟨#[98]⟩, false, ⟨#[]⟩⟩ hb2 (by simp)).mono ?_
  rintro r σ3 ⟨rfl, tok3, hb3, -⟩
  simp -implicitDefEqProofs [fullB] at hb3 ⊢
  refine (take_some σ3 b 1 5 tok3 _ true hb3.here hb3.own (by simp) (.inr (by simp))).mono ?_
  rintro r σ4 ⟨t1, tok4, rfl, h4⟩
  have hb4 := hb3.step h4
  have e51 : took 5 1 = 1 := by decide
  simp -implicitDefEqProofs [e51] at hb4 ⊢
  refine (take_none σ4 b 1 5 tok4 hb4.here).mono ?_
  rintro r σ5 ⟨rfl, rfl⟩
  simp -implicitDefEqProofs
  refine (take_nil σ5 1).mono ?_
  rintro r σ6 ⟨rfl, rfl⟩
  clear hb hb2 hb3 h4
  generalize hK : seqK Try.prog _ _ _ = K
  simp -implicitDefEqProofs [encC]
  subst hK
  simp -implicitDefEqProofs [encC]
  refine (over_spec σ6 b 1 tok4 _ true hb4.here).mono ?_
  rintro r σ7 ⟨rfl, rfl⟩
  simp -implicitDefEqProofs [encC]
  refine (push_nil σ7 ⟨⟨#[]⟩, false, ⟨#[]⟩⟩).mono ?_
  rintro r σ8 ⟨rfl, h8⟩
  simp -implicitDefEqProofs [encC]
  refine (len_nil σ8).mono ?_
  rintro r σ9 ⟨rfl, rfl⟩
  simp -implicitDefEqProofs [encC]
  exact fun x a hx => h8 x a (hb4.sub x a hx)


theorem inboxFull_abs (σ : Sto) (most n : Int) (hm0 : 0 ≤ most) (hm1 : most < 256) (hn0 : 0 ≤ n) (hn1 : n < 256) (c : Change) :
    ACalls Try.prog 5 [.sc (.int .u8 most), .sc (.int .u8 n), .agg (encC c)] σ (fun r σ' => r = .sc (.bool true) ∧ σ' = σ) := by
  obtain ⟨N, rfl⟩ := Int.eq_ofNat_of_zero_le hn0
  obtain ⟨R, hR⟩ := Int.eq_ofNat_of_zero_le (a := min most 64) (by omega)
  refine ACalls.drop ?_
  refine fn_of Tab.mixed Try.func5 rfl rfl rfl ?_
  simp -implicitDefEqProofs [encC]
  refine alloc fun b1 h1 => ?_
  simp -implicitDefEqProofs [wrap_i64 (n := most) (by omega) (by omega)]
  refine (new_box (σ.set b1 (.cells (encC c))) _ (Sub.refl _) most).mono ?_
  rintro r σ1 ⟨b, rfl, hb, hn, hs1⟩
  rw [show min (max most 0) 64 = (R : Int) by omega] at hb
  simp -implicitDefEqProofs [wrap_i64 (n := most) (by omega) (by omega), wrap_i64 (n := (N : Int)) (by omega) (by omega), show (if 64 < most then 64 else most) = (R : Int) by omega]
  refine wpc_loop (fun e σ' => ∃ (i : Nat) (tok : Tok), i ≤ N ∧ e.length = 63 ∧ gt e 1 = .sc (.int .u8 N) ∧ gt e 5 = .ptr b1 0 ∧ gt e 7 = .ptr b 0 ∧ gt e 8 = .sc (.int .i64 R) ∧
      gt e 9 = .sc (.int .i64 i) ∧ Bx (σ.set b1 (.cells (encC c))) σ' b tok R (List.replicate (min i R) c) (decide (R < i))) (fun e _ => N - (intAt e 9).toNat) ⟨0, .clip, ?_⟩ ?_
  · simpa using hb
  rintro e σ' ⟨i, tok, hi, hlen, g1, g5, g7, g8, g9, hx⟩
  have k1 : σ' b1 = some (.cells (encC c)) := hx.sub b1 _ (by simp)
  by_cases hlt : i < N
  · simp -implicitDefEqProofs [hlen, g1, g5, g7, g8, g9, k1, hlt, wrap_i64 (n := (N : Int)) (by omega) (by omega)]
    refine (push_spec _ σ' b R tok _ _ c hx (by simp; omega)).mono ?_
    have hf : fullB R (List.replicate (min i R) c) (decide (R < i)) = decide (R ≤ i) := by
      simp [fullB, ← Bool.decide_or]; omega
    rw [hf]
    rintro r σ2 ⟨rfl, tok2, hx2, -⟩
    have hl : (if decide (R ≤ i) = true then List.replicate (min i R) c else List.replicate (min i R) c ++ [c]) = List.replicate (min (i + 1) R) c := by
      by_cases h : R ≤ i
      · simp [h, show min i R = R by omega, show min (i + 1) R = R by omega]
      · simp [h, show min i R = i by omega, show min (i + 1) R = i + 1 by omega]; rw [← List.replicate_succ, List.replicate_succ']
    rw [hl, show decide (R ≤ i) = decide (R < i + 1) by simp [Nat.lt_succ_iff]] at hx2
    simp -implicitDefEqProofs [hlen, g1, g5, g7, g8, g9, show (!decide (R ≤ i)) = decide (i < R) by simp [← decide_not]]
    refine (len_spec σ2 b R tok2 _ _ hx2.here).mono ?_
    rintro r σ3 ⟨rfl, rfl⟩
    simp -implicitDefEqProofs [hlen, g1, g5, g7, g8, g9, show ¬ ((R : Int) < (min (i + 1) R : Nat)) by omega, wrap_i64 (n := (i : Int) + 1) (by omega) (by omega), intAt]
    exact ⟨⟨i + 1, by omega, by simp, tok2, hx2⟩, by omega⟩
  · obtain rfl : i = N := by omega
    simp -implicitDefEqProofs [hlen, g1, g5, g7, g8, g9, k1, wrap_i64 (n := (i : Int)) (by omega) (by omega)]
    refine (over_spec σ' b R tok _ _ hx.here).mono ?_
    rintro r σ2 ⟨rfl, rfl⟩
    simp -implicitDefEqProofs [hlen, g1, g5, g7, g8, g9, k1, wrap_i64 (n := (i : Int)) (by omega) (by omega)]
    refine (empty_box _ σ2 b R tok _ _ hx).mono ?_
    rintro r σ3 ⟨rfl, hx3, -⟩
    simp -implicitDefEqProofs [hlen, g1, g5, g7, g8, g9, k1]
    refine (over_spec σ3 b R .clip [] _ hx3.here).mono ?_
    rintro r σ4 ⟨rfl, rfl⟩
    simp -implicitDefEqProofs [hlen, g1, g5, g7, g8, g9, k1]
    refine (len_spec σ4 b R .clip [] _ hx3.here).mono ?_
    rintro r σ5 ⟨rfl, rfl⟩
    have k5 : σ5 b1 = some (.cells (encC c)) := hx3.sub b1 _ (by simp)
    simp -implicitDefEqProofs [hlen, g1, g5, g7, g8, g9, k5]
    refine (push_spec _ σ5 b R .clip [] _ c hx3 (by simp)).mono ?_
    have hf : fullB R [] false = decide (R ≤ 0) := by simp [fullB]
    rw [hf]
    rintro r σ6 ⟨rfl, tok6, hx6, -⟩
    simp -implicitDefEqProofs [hlen, g1, g5, g7, g8, g9]
    rw [if_pos (show decide (R = 0) = !decide (0 < R) by by_cases h : R = 0 <;> simp [h]; omega)]
    refine (awake_spec σ6).mono ?_
    rintro r σ7 ⟨rfl, h7⟩
    simp -implicitDefEqProofs [hlen]
    refine ⟨fun x a hx => ?_, by omega⟩
    refine h7 x a (hx6.sub x a ?_)
    have : x ≠ b1 := fun e => by rw [e] at hx; exact absurd (hx.symm.trans h1) (by simp)
    simp [this, hx]
end Go.Proofs.Yteddhilaehfgbaa
