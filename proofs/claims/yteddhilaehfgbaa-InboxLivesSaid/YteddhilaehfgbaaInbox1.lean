/- What the methods of the box answer, first part. -/
import Derived.Test.YteddhilaehfgbaaTab
import Derived.Test.YteddhilaehfgbaaSimp
namespace Go.Proofs.Yteddhilaehfgbaa
open Go Go.Aw
set_option linter.unusedVariables false
set_option linter.unusedSimpArgs false

structure Change where
  key : ByteArray
  has : Bool
  value : ByteArray
  deriving DecidableEq

def encC (c : Change) : List AV := [.sc (.string c.key), .sc (.bool c.has), .sc (.string c.value)]
@[simp] theorem length_encC (c : Change) : (encC c).length = 3 := rfl
@[simp] theorem one_encC (c : Change) : (encC c).all AV.one = true := rfl
theorem all_one (l : List Change) : ∀ r ∈ l.map encC, r.all AV.one = true := fun r hr => by obtain ⟨c, _, rfl⟩ := List.mem_map.1 hr; rfl
theorem all_len (l : List Change) : ∀ r ∈ l.map encC, r.length = 3 := fun r hr => by obtain ⟨c, _, rfl⟩ := List.mem_map.1 hr; rfl

theorem full_spec (σ : Sto) (b : Nat) (most : Int) (tok : Tok) (l : List Change) (over : Bool)
    (hb : σ b = some (.cells [.sc (.int .i64 most), .slice tok (l.map encC), .sc (.bool over)])) :
    ACalls Try.prog 18 [.ptr b 0] σ (fun r σ' => r = .sc (.bool (over || decide (most ≤ l.length))) ∧ σ' = σ) := by
  refine fn_of Tab.mixed Try.func18 rfl rfl rfl ?_
  simp -implicitDefEqProofs
  refine draw (by kernel_rfl) ?_
  cases over <;> simp -implicitDefEqProofs [hb]

theorem new_spec (σ : Sto) (most : Int) :
    ACalls Try.prog 7 [.sc (.int .i64 most)] σ (fun r σ' => ∃ b, r = .ptr b 0 ∧ σ b = none ∧
      σ' = σ.set b (.cells [.sc (.int .i64 (min (max most 0) 64)), .slice .clip [], .sc (.bool false)])) := by
  refine fn_of Tab.mixed Try.func7 rfl rfl rfl ?_
  simp -implicitDefEqProofs
  refine alloc fun b hb => ?_
  simp -implicitDefEqProofs
  have : (if 64 < if most < 0 then (0:Int) else most then (64:Int) else if most < 0 then 0 else most) = min (max most 0) 64 := by omega
  rw [this]
  exact ⟨hb, rfl⟩

theorem len_spec (σ : Sto) (b : Nat) (most : Int) (tok : Tok) (l : List Change) (over : Bool)
    (hb : σ b = some (.cells [.sc (.int .i64 most), .slice tok (l.map encC), .sc (.bool over)])) :
    ACalls Try.prog 16 [.ptr b 0] σ (fun r σ' => r = .sc (.int .i64 l.length) ∧ σ' = σ) := by
  refine fn_of Tab.mixed Try.func16 rfl rfl rfl ?_
  simp -implicitDefEqProofs [hb]

theorem over_spec (σ : Sto) (b : Nat) (most : Int) (tok : Tok) (l : List Change) (over : Bool)
    (hb : σ b = some (.cells [.sc (.int .i64 most), .slice tok (l.map encC), .sc (.bool over)])) :
    ACalls Try.prog 11 [.ptr b 0] σ (fun r σ' => r = .sc (.bool over) ∧ σ' = σ) := by
  refine fn_of Tab.mixed Try.func11 rfl rfl rfl ?_
  simp -implicitDefEqProofs [hb]

theorem empty_spec (σ : Sto) (b : Nat) (most : Int) (tok : Tok) (l : List Change) (over : Bool)
    (hb : σ b = some (.cells [.sc (.int .i64 most), .slice tok (l.map encC), .sc (.bool over)])) :
    ACalls Try.prog 15 [.ptr b 0] σ (fun r σ' => r = .tuple [] ∧ σ' = σ.set b (.cells [.sc (.int .i64 most), .slice .clip [], .sc (.bool false)])) := by
  refine fn_of Tab.mixed Try.func15 rfl rfl rfl ?_
  simp -implicitDefEqProofs [hb]

theorem clone_spec (σ : Sto) (tok : Tok) (l : List Change) (hl : l.length ≤ 1000000) :
    ACalls Try.prog 17 [.slice tok (l.map encC)] σ
      (fun r σ' => ∃ tok', r = .slice tok' (l.map encC) ∧ Own σ' tok' l.length 3 ∧ Moved σ σ' .clip tok') := by
  refine fn_of Tab.mixed Try.func17 rfl rfl rfl ?_
  simp -implicitDefEqProofs
  refine ⟨?_, fun h => ?_⟩
  · refine aAppend_own Tab.elem26 (by omega) (by simp; omega) (by simp) (all_len l) (all_one l) trivial fun tok' σ' ho hm => ?_
    simp -implicitDefEqProofs at ho ⊢
    exact ⟨ho, hm⟩
  · have : l = [] := by
      cases l with
      | nil => rfl
      | cons c l => exact absurd (h c (by simp)) (by simp [encC])
    subst this
    exact ⟨.clip, ⟨rfl, rfl⟩, trivial, Moved.refl _ _⟩

/-- what becomes of a box -/
structure BoxOp (σ σ' : Sto) (b : Nat) (tok tok' : Tok) (most : Int) (l : List Change) (over : Bool) : Prop where
  here : σ' b = some (.cells [.sc (.int .i64 most), .slice tok' (l.map encC), .sc (.bool over)])
  own : Own σ' tok' l.length 3
  keep : ∀ x o, x ≠ b → fp tok ≠ some x → σ x = some o → σ' x = some o
  fresh : ∀ x, fp tok' = some x → fp tok = some x ∨ σ x = none

theorem push_full (σ : Sto) (b : Nat) (most : Int) (tok : Tok) (l : List Change) (over : Bool) (c : Change)
    (hb : σ b = some (.cells [.sc (.int .i64 most), .slice tok (l.map encC), .sc (.bool over)])) (ho : Own σ tok l.length 3) (hl : l.length ≤ 1000000) (hf : (over || decide (most ≤ (l.length : Int))) = true) :
    ACalls Try.prog 9 [.ptr b 0, .agg (encC c)] σ (fun r σ' => r = .sc (.bool false) ∧ BoxOp σ σ' b tok tok most l true) := by
  have hfb : fp tok ≠ some b := fun e => by
    cases tok <;> simp [fp] at e
    subst e; rw [ho.2] at hb; cases hb
  refine fn_of Tab.mixed Try.func9 rfl rfl rfl ?_
  simp -implicitDefEqProofs [encC]
  refine alloc fun b1 hb1 => ?_
  simp -implicitDefEqProofs
  have hne : b ≠ b1 := by rintro rfl; rw [hb] at hb1; cases hb1
  have hne' : b1 ≠ b := fun e => hne e.symm
  have hf1 : fp tok ≠ some b1 := fun e => by
    cases tok <;> simp [fp] at e
    subst e; rw [ho.2] at hb1; cases hb1
  refine (full_spec _ b most tok l over (by simp [hne, hb])).mono ?_
  rintro r σ' ⟨rfl, rfl⟩
  simp -implicitDefEqProofs [hf, hne, hne', hb]
  refine ⟨by simp, ?_, fun x o hx hx2 hs => ?_, fun x hx => .inl hx⟩
  · cases tok with
    | live b2 e2 => simp [fp] at hfb hf1; simp [Own, hfb, hf1]; exact ho
    | clip => trivial
    | dead => exact ho
  · have : x ≠ b1 := by rintro rfl; rw [hb1] at hs; cases hs
    simp [hx, this, hs]

theorem push_room (σ : Sto) (b : Nat) (most : Int) (tok : Tok) (l : List Change) (over : Bool) (c : Change)
    (hb : σ b = some (.cells [.sc (.int .i64 most), .slice tok (l.map encC), .sc (.bool over)])) (ho : Own σ tok l.length 3) (hl : l.length ≤ 1000000) (hf : (over || decide (most ≤ (l.length : Int))) = false) :
    ACalls Try.prog 9 [.ptr b 0, .agg (encC c)] σ (fun r σ' => ∃ tok', r = .sc (.bool true) ∧ BoxOp σ σ' b tok tok' most (l ++ [c]) over) := by
  have hfb : fp tok ≠ some b := fun e => by
    cases tok <;> simp [fp] at e
    subst e; rw [ho.2] at hb; cases hb
  refine fn_of Tab.mixed Try.func9 rfl rfl rfl ?_
  simp -implicitDefEqProofs [encC]
  refine alloc fun b1 hb1 => ?_
  simp -implicitDefEqProofs
  have hne : b ≠ b1 := by rintro rfl; rw [hb] at hb1; cases hb1
  have hne' : b1 ≠ b := fun e => hne e.symm
  have hf1 : fp tok ≠ some b1 := fun e => by
    cases tok <;> simp [fp] at e
    subst e; rw [ho.2] at hb1; cases hb1
  refine (full_spec _ b most tok l over (by simp [hne, hb])).mono ?_
  rintro r σ' ⟨rfl, rfl⟩
  simp -implicitDefEqProofs [hf, hne, hne', hb]
  refine draw (by kernel_rfl) ?_
  simp -implicitDefEqProofs [hne, hne', hb]
  refine aAppend_own Tab.elem26 (by omega) (by simp; omega) (all_len l) (by simp) (by simp [AV.one]) ?_ fun tok' σ' ho' hm => ?_
  · cases tok with
    | live b2 e2 => simp [fp] at hf1; simp [Own, hf1]; exact ho
    | clip => trivial
    | dead => exact ho
  · have hb' : σ' b = some (.cells [.sc (.int .i64 most), .slice tok (l.map encC), .sc (.bool over)]) := hm.keep b _ hfb (by simp [hne, hb])
    simp -implicitDefEqProofs [hb']
    have hfb' : fp tok' ≠ some b := fun e => by
      rcases hm.fresh b e with h | h
      · exact hfb h
      · simp [hne, hb] at h
    refine ⟨tok', by simp [encC], ?_, fun x o hx hx2 hs => ?_, fun x hx => ?_⟩
    · cases tok' with
      | live b2 e2 => simp [fp] at hfb'; simp [Own, hfb'] at ho' ⊢; exact ho'
      | clip => trivial
      | dead => exact ho'
    · have : x ≠ b1 := by rintro rfl; rw [hb1] at hs; cases hs
      simp [hx]
      exact hm.keep x o hx2 (by simp [this, hs])
    · rcases hm.fresh x hx with h | h
      · exact .inl h
      · exact .inr (none_of_set h).2

theorem same_spec (σ : Sto) (t1 t2 : Tok) (a b : List Change) (ha : a.length ≤ 1000000) (hb : b.length ≤ 1000000) :
    ACalls Try.prog 10 [.slice t1 (a.map encC), .slice t2 (b.map encC)] σ (fun r σ' => r = .sc (.bool (decide (a = b))) ∧ σ' = σ) := by
  refine fn_of Tab.mixed Try.func10 rfl rfl rfl ?_
  simp -implicitDefEqProofs
  by_cases hl : a.length = b.length
  · simp -implicitDefEqProofs [hl]
    refine wpc_loop (fun e σ' => ∃ i : Nat, i ≤ a.length ∧ a.take i = b.take i ∧ e.length = 26 ∧ gt e 0 = .slice t1 (a.map encC) ∧ gt e 1 = .slice t2 (b.map encC) ∧
      gt e 5 = .sc (.int .i64 i) ∧ σ' = σ) (fun e _ => a.length - (intAt e 5).toNat) ⟨0, by simp⟩ ?_
    rintro e σ' ⟨i, hi, hp, hlen, h0, h1, h5, rfl⟩
    by_cases hlt : i < a.length
    · have hlt' : i < b.length := by omega
      simp -implicitDefEqProofs [hlen, h0, h1, h5, hlt]
      refine draw (by kernel_rfl) ?_
      simp -implicitDefEqProofs [hlen, h0, h1, h5, hlt, hlt', encC, intAt, wrap_i64 (n := (i : Int) + 1) (by omega) (by omega)]
      by_cases he : a[i] = b[i]
      · simp only [he, and_self, if_true]
        refine ⟨⟨i + 1, by omega, ?_, by simp⟩, by omega⟩
        rw [List.take_add_one, List.take_add_one, hp, List.getElem?_eq_getElem hlt, List.getElem?_eq_getElem hlt', he]
      · have hne : ¬ (a[i].key = b[i].key ∧ a[i].has = b[i].has ∧ a[i].value = b[i].value) := fun ⟨h1, h2, h3⟩ => he (by
          cases ha : a[i]; cases hb : b[i]; simp_all)
        rw [if_pos (Classical.byContradiction fun h => hne (by simpa [not_or] using h))]
        exact fun e => he (by subst e; rfl)
    · simp -implicitDefEqProofs [hlen, h0, h1, h5, hlt]
      rw [List.take_of_length_le (by omega), List.take_of_length_le (by omega)] at hp
      exact hp
  · have : a ≠ b := fun e => hl (by rw [e])
    simp -implicitDefEqProofs [this, hl, show ¬ ((a.length : Int) = (b.length : Int)) by omega]

theorem take_none (σ : Sto) (b : Nat) (most n : Int) (tok : Tok)
    (hb : σ b = some (.cells [.sc (.int .i64 most), .slice tok [], .sc (.bool true)])) :
    ACalls Try.prog 8 [.ptr b 0, .sc (.int .i64 n)] σ (fun r σ' => r = .tuple [.slice .clip [], .sc (.bool false)] ∧ σ' = σ) := by
  refine fn_of Tab.mixed Try.func8 rfl rfl rfl ?_
  simp -implicitDefEqProofs [hb]

/-- as many as are taken -/
def took (n : Int) (len : Nat) : Nat := (min (max n 0) len).toNat

theorem take_some (σ : Sto) (b : Nat) (most n : Int) (tok : Tok) (l : List Change) (over : Bool)
    (hb : σ b = some (.cells [.sc (.int .i64 most), .slice tok (l.map encC), .sc (.bool over)])) (ho : Own σ tok l.length 3) (hl : l.length ≤ 1000000) (hf : over = false ∨ l ≠ []) :
    ACalls Try.prog 8 [.ptr b 0, .sc (.int .i64 n)] σ (fun r σ' => ∃ t1 tok', r = .tuple [.slice t1 ((l.take (took n l.length)).map encC), .sc (.bool true)] ∧
      BoxOp σ σ' b tok tok' most (l.drop (took n l.length)) over) := by
  refine fn_of Tab.mixed Try.func8 rfl rfl rfl ?_
  have hcond : (over && decide ((l.length : Int) = 0)) = false := by
    rcases hf with rfl | h
    · rfl
    · have : l.length ≠ 0 := fun e => h (List.eq_nil_of_length_eq_zero e)
      simp; intro _; exact h
  have hk : (if (l.length : Int) < (if n < 0 then 0 else n) then (l.length : Int) else if n < 0 then 0 else n) = (took n l.length : Int) := by unfold took; omega
  have hk2 : took n l.length ≤ l.length := by unfold took; omega
  generalize took n l.length = k at hk hk2 ⊢
  have fin : ∀ (t1 t2 : Tok) (σ₁ σ₂ : Sto), Own σ₁ t1 (l.take k).length 3 → Moved σ σ₁ .clip t1 → Own σ₂ t2 (l.drop k).length 3 → Moved σ₁ σ₂ .clip t2 →
      BoxOp σ (σ₂.set b (.cells [.sc (.int .i64 most), .slice t2 ((l.drop k).map encC), .sc (.bool over)])) b tok t2 most (l.drop k) over := by
    intro t1 t2 σ₁ σ₂ ho1 hm1 ho2 hm2
    have hb1 := hm1.keep b _ (by simp [fp]) hb
    refine ⟨by simp, ?_, fun x o hx hx2 hs => ?_, fun x hx => ?_⟩
    · cases t2 with
      | live b2 e2 =>
        have : b2 ≠ b := by
          rintro rfl
          rcases hm2.fresh b2 rfl with h | h
          · simp [fp] at h
          · rw [hb1] at h; cases h
        simp [Own, this]; simpa [Own] using ho2
      | clip => trivial
      | dead => exact ho2
    · simp [hx]
      exact hm2.keep x o (by simp [fp]) (hm1.keep x o (by simp [fp]) hs)
    · rcases hm2.fresh x hx with h | h
      · simp [fp] at h
      · cases hs : σ x with
        | none => exact .inr rfl
        | some o => rw [hm1.keep x o (by simp [fp]) hs] at h; cases h
  cases over
  · simp -implicitDefEqProofs [hb, hk, hk2]
    rw [← List.map_take]
    refine (clone_spec σ .clip (l.take k) (by simp; omega)).mono ?_
    rintro r σ₁ ⟨t1, rfl, ho1, hm1⟩
    have hb1 := hm1.keep b _ (by simp [fp]) hb
    simp -implicitDefEqProofs [hb1, hk2]
    rw [← List.map_drop]
    refine (clone_spec σ₁ _ (l.drop k) (by simp; omega)).mono ?_
    rintro r σ₂ ⟨t2, rfl, ho2, hm2⟩
    have hb2 := hm2.keep b _ (by simp [fp]) hb1
    simp -implicitDefEqProofs [hb2]
    exact ⟨t2, by simpa using fin t1 t2 σ₁ σ₂ ho1 hm1 ho2 hm2⟩
  · have hne : l ≠ [] := by simpa using hf
    simp -implicitDefEqProofs [hb, hk, hk2, hne]
    rw [← List.map_take]
    refine (clone_spec σ .clip (l.take k) (by simp; omega)).mono ?_
    rintro r σ₁ ⟨t1, rfl, ho1, hm1⟩
    have hb1 := hm1.keep b _ (by simp [fp]) hb
    simp -implicitDefEqProofs [hb1, hk2]
    rw [← List.map_drop]
    refine (clone_spec σ₁ _ (l.drop k) (by simp; omega)).mono ?_
    rintro r σ₂ ⟨t2, rfl, ho2, hm2⟩
    have hb2 := hm2.keep b _ (by simp [fp]) hb1
    simp -implicitDefEqProofs [hb2]
    exact ⟨t2, by simpa using fin t1 t2 σ₁ σ₂ ho1 hm1 ho2 hm2⟩
end Go.Proofs.Yteddhilaehfgbaa
