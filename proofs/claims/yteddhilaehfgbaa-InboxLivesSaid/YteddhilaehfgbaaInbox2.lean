/- What the document answers at New, Push and Take. -/
import Derived.Test.YteddhilaehfgbaaInbox1
namespace Go.Proofs.Yteddhilaehfgbaa
open Go Go.Aw
set_option linter.unusedVariables false
set_option linter.unusedSimpArgs false

theorem refNew_spec (σ : Sto) (most : Int) :
    ACalls Try.prog 12 [.sc (.int .i64 most)] σ (fun r σ' => r = .agg [.sc (.int .i64 (min (max most 0) 64)), .slice .clip [], .sc (.bool false)] ∧ σ' = σ) := by
  refine ACalls.drop ?_
  refine fn_of Tab.mixed Try.func12 rfl rfl rfl ?_
  simp -implicitDefEqProofs
  refine alloc fun b hb => ?_
  simp -implicitDefEqProofs
  have e : (if 0 < (if 64 < most then (64 : Int) else most) then (if 64 < most then 64 else most) else 0) = min (max most 0) 64 := by omega
  simp only [e, and_true]
  exact sub_set (Sub.refl σ) hb

theorem refPush_full (σ : Sto) (most : Int) (t : Tok) (l : List Change) (over : Bool) (c : Change) (hf : (over || decide (most ≤ (l.length : Int))) = true) :
    ACalls Try.prog 13 [.agg [.sc (.int .i64 most), .slice t (l.map encC), .sc (.bool over)], .agg (encC c)] σ
      (fun r σ' => r = .tuple [.agg [.sc (.int .i64 most), .slice t (l.map encC), .sc (.bool true)], .sc (.bool false)] ∧ σ' = σ) := by
  refine ACalls.drop ?_
  refine fn_of Tab.mixed Try.func13 rfl rfl rfl ?_
  simp -implicitDefEqProofs [encC]
  refine alloc fun b1 h1 => ?_
  simp -implicitDefEqProofs
  refine alloc fun b2 h2 => ?_
  obtain ⟨n21, h2⟩ := none_of_set h2
  simp -implicitDefEqProofs
  refine alloc fun b3 h3 => ?_
  obtain ⟨n32, h3⟩ := none_of_set h3
  obtain ⟨n31, h3⟩ := none_of_set h3
  cases over
  · have hf' : most ≤ l.length := by simpa using hf
    simp -implicitDefEqProofs [n21, n32, n31, n21.symm, n32.symm, n31.symm, hf']
    (repeat refine sub_set ?_ (by assumption))
    exact Sub.refl σ
  · simp -implicitDefEqProofs [n21, n32, n31, n21.symm, n32.symm, n31.symm]
    (repeat refine sub_set ?_ (by assumption))
    exact Sub.refl σ

theorem refPush_room (σ : Sto) (most : Int) (t : Tok) (l : List Change) (c : Change) (hf : ¬ most ≤ (l.length : Int)) (hl : l.length ≤ 1000000) :
    ACalls Try.prog 13 [.agg [.sc (.int .i64 most), .slice t (l.map encC), .sc (.bool false)], .agg (encC c)] σ
      (fun r σ' => (∃ t', r = .tuple [.agg [.sc (.int .i64 most), .slice t' ((l ++ [c]).map encC), .sc (.bool false)], .sc (.bool true)]) ∧ σ' = σ) := by
  refine ACalls.drop ?_
  refine fn_of Tab.mixed Try.func13 rfl rfl rfl ?_
  simp -implicitDefEqProofs [encC]
  refine alloc fun b1 h1 => ?_
  simp -implicitDefEqProofs
  refine alloc fun b2 h2 => ?_
  obtain ⟨n21, h2⟩ := none_of_set h2
  simp -implicitDefEqProofs
  refine alloc fun b3 h3 => ?_
  obtain ⟨n32, h3⟩ := none_of_set h3
  obtain ⟨n31, h3⟩ := none_of_set h3
  simp -implicitDefEqProofs [n21, n32, n31, n21.symm, n32.symm, n31.symm, hf]
  refine wpc_loop (fun e σ' => ∃ (i : Nat) (tok : Tok), i ≤ l.length ∧ e.length = 42 ∧ gt e 2 = .ptr b1 0 ∧ gt e 3 = .ptr b2 0 ∧ gt e 4 = .ptr b3 0 ∧
      gt e 6 = .slice tok ((l.take i).map encC) ∧ gt e 7 = .sc (.int .i64 i) ∧ Lcl σ σ' tok i 3 ∧
      σ' b1 = some (.cells [.sc (.int .i64 most), .slice t (l.map encC), .sc (.bool false)]) ∧ σ' b2 = some (.cells (encC c)) ∧
      σ' b3 = some (.cells [.sc (.int .i64 0), .slice .clip [], .sc (.bool false)])) (fun e _ => l.length - (intAt e 7).toNat) ⟨0, .clip, ?_⟩ ?_
  · simp [n21, n32, n31, n21.symm, n32.symm, n31.symm, encC]
    exact ((((Lcl.start σ 0 3).set h1 (by simp [fp])).set h2 (by simp [fp])).set h3 (by simp [fp]))
  rintro e σ' ⟨i, tok, hi, hlen, g2, g3, g4, g6, g7, hloc, k1, k2, k3⟩
  by_cases hlt : i < l.length
  · simp -implicitDefEqProofs [hlen, g2, g6, g7, k1, hlt]
    refine aAppend_own Tab.elem26 (by omega) (by simp; omega) (fun r hr => all_len l r (List.mem_of_mem_take (by simpa using hr))) (by simp) (by simp [encC, AV.one]) (by simpa [Nat.min_eq_left hi] using hloc.own) fun tok' σ'' ho' hm => ?_
    simp -implicitDefEqProofs [hlen, g2, g3, g4, g7, wrap_i64 (n := (i : Int) + 1) (by omega) (by omega), intAt]
    refine ⟨⟨i + 1, by omega, tok', ⟨rfl, ?_⟩, by simp, hloc.step (by simpa [Nat.min_eq_left hi] using ho') hm, hm.cells hloc.own k1, hm.cells hloc.own k2, hm.cells hloc.own k3⟩, by omega⟩
    rw [take_map_snoc _ _ _ hlt]
    rfl
  · obtain rfl : i = l.length := by omega
    simp -implicitDefEqProofs [hlen, g2, g3, g4, g6, g7, k1, k2]
    simp only [encC]
    simp -implicitDefEqProofs [hlen]
    refine aAppend_own Tab.elem26 (by omega) (by simp; omega) (all_len l) (by simp) (by simp [AV.one]) (by simpa using hloc.own) fun tok' σ'' ho' hm => ?_
    have j1 := hm.cells hloc.own k1
    have j2 := hm.cells hloc.own k2
    have j3 := hm.cells hloc.own k3
    simp -implicitDefEqProofs [hlen, g2, g3, g4, g7, j1, j2, j3, n21, n32, n31, n21.symm, n32.symm, n31.symm]
    refine sub_set (sub_set ?_ h1) h3
    exact (hloc.step (by simpa using ho') hm).sub

theorem refTake_none (σ : Sto) (most n : Int) (t : Tok) :
    ACalls Try.prog 14 [.agg [.sc (.int .i64 most), .slice t [], .sc (.bool true)], .sc (.int .i64 n)] σ
      (fun r σ' => r = .tuple [.agg [.sc (.int .i64 most), .slice t [], .sc (.bool true)], .slice .clip [], .sc (.bool false)] ∧ σ' = σ) := by
  refine ACalls.drop ?_
  refine fn_of Tab.mixed Try.func14 rfl rfl rfl ?_
  simp -implicitDefEqProofs
  refine alloc fun b1 h1 => ?_
  simp -implicitDefEqProofs
  refine alloc fun b2 h2 => ?_
  obtain ⟨n21, h2⟩ := none_of_set h2
  simp -implicitDefEqProofs [n21, n21.symm]
  (repeat refine sub_set ?_ (by assumption))
  exact Sub.refl σ

theorem refTake_some (σ : Sto) (most n : Int) (t : Tok) (l : List Change) (over : Bool) (hl : l.length ≤ 1000000) (hf : over = false ∨ l ≠ []) :
    ACalls Try.prog 14 [.agg [.sc (.int .i64 most), .slice t (l.map encC), .sc (.bool over)], .sc (.int .i64 n)] σ
      (fun r σ' => (∃ t1 t2, r = .tuple [.agg [.sc (.int .i64 most), .slice t1 ((l.drop (took n l.length)).map encC), .sc (.bool over)], .slice t2 ((l.take (took n l.length)).map encC), .sc (.bool true)]) ∧ σ' = σ) := by
  refine ACalls.drop ?_
  refine fn_of Tab.mixed Try.func14 rfl rfl rfl ?_
  have hk2 : took n l.length ≤ l.length := by unfold took; omega
  have hk3 : ∀ i : Nat, i < l.length → ((i : Int) < n ↔ i < took n l.length) := by intro i hi; unfold took; omega
  generalize took n l.length = k at hk2 hk3 ⊢
  simp -implicitDefEqProofs
  refine alloc fun b1 h1 => ?_
  simp -implicitDefEqProofs
  refine alloc fun b2 h2 => ?_
  obtain ⟨n21, q2⟩ := none_of_set h2
  have key : ∀ (K : Prop), (over = false → K) → (over = true → l ≠ [] → K) → K := fun K a b => by
    cases over
    · exact a rfl
    · exact b rfl (by simpa using hf)
  refine key _ (fun ho => ?_) (fun ho hne => ?_)
  · subst ho
    simp -implicitDefEqProofs [n21, n21.symm]
    refine wpc_loop (fun e σ' => ∃ (i : Nat) (t7 t8 : Tok), i ≤ l.length ∧ e.length = 51 ∧ gt e 1 = .sc (.int .i64 n) ∧ gt e 2 = .ptr b1 0 ∧ gt e 4 = .ptr b2 0 ∧
        gt e 7 = .slice t7 (((l.take i).take k).map encC) ∧ gt e 8 = .slice t8 (((l.take i).drop k).map encC) ∧ gt e 9 = .sc (.int .i64 i) ∧
        Lcl σ σ' t7 ((l.take i).take k).length 3 ∧ Own σ' t8 ((l.take i).drop k).length 3 ∧ (∀ x, fp t7 = some x → fp t8 ≠ some x) ∧ (∀ x, fp t8 = some x → σ x = none) ∧
        σ' b1 = some (.cells [.sc (.int .i64 most), .slice t (l.map encC), .sc (.bool false)]) ∧
        σ' b2 = some (.cells [.sc (.int .i64 0), .slice .clip [], .sc (.bool false)])) (fun e _ => l.length - (intAt e 9).toNat) ⟨0, .clip, .clip, ?_⟩ ?_
    · simp [n21, n21.symm]
      exact ⟨((Lcl.start σ 0 3).set h1 (by simp [fp])).set q2 (by simp [fp]), trivial, by simp [fp], by simp [fp]⟩
    rintro e σ' ⟨i, t7, t8, hi, hlen, g1, g2, g4, g7, g8, g9, hloc, ho8, hne78, hf8, k1, k2⟩
    by_cases hlt : i < l.length
    · by_cases hik : i < k
      · have hin : (i : Int) < n := (hk3 i hlt).2 hik
        have e7 : (l.take (i + 1)).take k = (l.take i).take k ++ [l[i]] := by
          rw [take_snoc l i hlt, List.take_of_length_le (l := List.take i l ++ [l[i]]) (by simp; omega), List.take_of_length_le (l := List.take i l) (by rw [List.length_take]; omega)]
        have e8 : (l.take (i + 1)).drop k = (l.take i).drop k := by
          rw [List.drop_eq_nil_of_le (by rw [List.length_take]; omega), List.drop_eq_nil_of_le (by rw [List.length_take]; omega)]
        simp -implicitDefEqProofs [hlen, g1, g2, g7, g9, k1, hlt, hin]
        rw [← List.map_take, ← List.map_take]
        refine aAppend_own Tab.elem26 (by omega) (by simp; omega) (all_len _) (by simp) (by simp [encC, AV.one]) (by simpa using hloc.own) fun tok' σ'' ho' hm => ?_
        simp -implicitDefEqProofs [hlen, g1, g2, g4, g8, g9, wrap_i64 (n := (i : Int) + 1) (by omega) (by omega), intAt]
        have hk8 := ho8.kept hm hne78
        have hst := hloc.step ho' hm
        refine ⟨⟨i + 1, by omega, tok', ⟨rfl, ?_⟩, t8, ⟨rfl, ?_⟩, by simp, ?_, ?_, hk8.2, hf8, hm.cells hloc.own k1, hm.cells hloc.own k2⟩, by omega⟩
        · rw [show List.take k (List.take (i + 1) (List.map encC l)) = List.map encC ((l.take (i + 1)).take k) by simp, e7]
          simp [encC]
        · rw [show List.drop k (List.take (i + 1) (List.map encC l)) = List.map encC ((l.take (i + 1)).drop k) by simp, e8]
          simp
        · exact hst.cast (by simp [encC]; omega)
        · exact hk8.1.cast (by simp; omega)
      · have hin : ¬ (i : Int) < n := fun h => hik ((hk3 i hlt).1 h)
        have e7 : (l.take (i + 1)).take k = (l.take i).take k := by
          rw [List.take_take, List.take_take, Nat.min_eq_left (by omega), Nat.min_eq_left (by omega)]
        have e8 : (l.take (i + 1)).drop k = (l.take i).drop k ++ [l[i]] := by
          rw [take_snoc l i hlt, List.drop_append_of_le_length (by rw [List.length_take]; omega)]
        simp -implicitDefEqProofs [hlen, g1, g2, g8, g9, k1, hlt, hin]
        rw [← List.map_take, ← List.map_drop]
        refine aAppend_own Tab.elem26 (by omega) (by simp; omega) (all_len _) (by simp) (by simp [encC, AV.one]) (by simpa using ho8) fun tok' σ'' ho' hm => ?_
        simp -implicitDefEqProofs [hlen, g1, g2, g4, g7, g9, wrap_i64 (n := (i : Int) + 1) (by omega) (by omega), intAt]
        have hk7 := hloc.own.kept hm (fun x hx h7 => hne78 x h7 hx)
        have hst : Lcl σ σ' t8 ((l.take i).drop k).length 3 := ⟨ho8, hf8, hloc.sub⟩
        have hst' := hst.step ho' hm
        refine ⟨⟨i + 1, by omega, t7, ⟨rfl, ?_⟩, tok', ⟨rfl, ?_⟩, by simp, ⟨?_, hloc.fresh, hst'.sub⟩, ?_, fun x hx h8 => hk7.2 x h8 hx, hst'.fresh, hm.cells ho8 k1, hm.cells ho8 k2⟩, by omega⟩
        · rw [show List.take k (List.take (i + 1) (List.map encC l)) = List.map encC ((l.take (i + 1)).take k) by simp, e7]
          simp
        · rw [show List.drop k (List.take (i + 1) (List.map encC l)) = List.map encC ((l.take (i + 1)).drop k) by simp, e8]
          simp [encC]
        · exact hk7.1.cast (by simp; omega)
        · exact ho'.cast (by simp [encC]; omega)
    · obtain rfl : i = l.length := by omega
      rw [List.take_length] at g7 g8
      simp -implicitDefEqProofs [hlen, g1, g2, g4, g7, g8, g9, k1, k2, n21, n21.symm]
      exact sub_set (sub_set hloc.sub h1) q2
  · subst ho
    simp -implicitDefEqProofs [n21, n21.symm, hne]
    refine wpc_loop (fun e σ' => ∃ (i : Nat) (t7 t8 : Tok), i ≤ l.length ∧ e.length = 51 ∧ gt e 1 = .sc (.int .i64 n) ∧ gt e 2 = .ptr b1 0 ∧ gt e 4 = .ptr b2 0 ∧
        gt e 7 = .slice t7 (((l.take i).take k).map encC) ∧ gt e 8 = .slice t8 (((l.take i).drop k).map encC) ∧ gt e 9 = .sc (.int .i64 i) ∧
        Lcl σ σ' t7 ((l.take i).take k).length 3 ∧ Own σ' t8 ((l.take i).drop k).length 3 ∧ (∀ x, fp t7 = some x → fp t8 ≠ some x) ∧ (∀ x, fp t8 = some x → σ x = none) ∧
        σ' b1 = some (.cells [.sc (.int .i64 most), .slice t (l.map encC), .sc (.bool true)]) ∧
        σ' b2 = some (.cells [.sc (.int .i64 0), .slice .clip [], .sc (.bool false)])) (fun e _ => l.length - (intAt e 9).toNat) ⟨0, .clip, .clip, ?_⟩ ?_
    · simp [n21, n21.symm]
      exact ⟨((Lcl.start σ 0 3).set h1 (by simp [fp])).set q2 (by simp [fp]), trivial, by simp [fp], by simp [fp]⟩
    rintro e σ' ⟨i, t7, t8, hi, hlen, g1, g2, g4, g7, g8, g9, hloc, ho8, hne78, hf8, k1, k2⟩
    by_cases hlt : i < l.length
    · by_cases hik : i < k
      · have hin : (i : Int) < n := (hk3 i hlt).2 hik
        have e7 : (l.take (i + 1)).take k = (l.take i).take k ++ [l[i]] := by
          rw [take_snoc l i hlt, List.take_of_length_le (l := List.take i l ++ [l[i]]) (by simp; omega), List.take_of_length_le (l := List.take i l) (by rw [List.length_take]; omega)]
        have e8 : (l.take (i + 1)).drop k = (l.take i).drop k := by
          rw [List.drop_eq_nil_of_le (by rw [List.length_take]; omega), List.drop_eq_nil_of_le (by rw [List.length_take]; omega)]
        simp -implicitDefEqProofs [hlen, g1, g2, g7, g9, k1, hlt, hin]
        rw [← List.map_take, ← List.map_take]
        refine aAppend_own Tab.elem26 (by omega) (by simp; omega) (all_len _) (by simp) (by simp [encC, AV.one]) (by simpa using hloc.own) fun tok' σ'' ho' hm => ?_
        simp -implicitDefEqProofs [hlen, g1, g2, g4, g8, g9, wrap_i64 (n := (i : Int) + 1) (by omega) (by omega), intAt]
        have hk8 := ho8.kept hm hne78
        have hst := hloc.step ho' hm
        refine ⟨⟨i + 1, by omega, tok', ⟨rfl, ?_⟩, t8, ⟨rfl, ?_⟩, by simp, ?_, ?_, hk8.2, hf8, hm.cells hloc.own k1, hm.cells hloc.own k2⟩, by omega⟩
        · rw [show List.take k (List.take (i + 1) (List.map encC l)) = List.map encC ((l.take (i + 1)).take k) by simp, e7]
          simp [encC]
        · rw [show List.drop k (List.take (i + 1) (List.map encC l)) = List.map encC ((l.take (i + 1)).drop k) by simp, e8]
          simp
        · exact hst.cast (by simp [encC]; omega)
        · exact hk8.1.cast (by simp; omega)
      · have hin : ¬ (i : Int) < n := fun h => hik ((hk3 i hlt).1 h)
        have e7 : (l.take (i + 1)).take k = (l.take i).take k := by
          rw [List.take_take, List.take_take, Nat.min_eq_left (by omega), Nat.min_eq_left (by omega)]
        have e8 : (l.take (i + 1)).drop k = (l.take i).drop k ++ [l[i]] := by
          rw [take_snoc l i hlt, List.drop_append_of_le_length (by rw [List.length_take]; omega)]
        simp -implicitDefEqProofs [hlen, g1, g2, g8, g9, k1, hlt, hin]
        rw [← List.map_take, ← List.map_drop]
        refine aAppend_own Tab.elem26 (by omega) (by simp; omega) (all_len _) (by simp) (by simp [encC, AV.one]) (by simpa using ho8) fun tok' σ'' ho' hm => ?_
        simp -implicitDefEqProofs [hlen, g1, g2, g4, g7, g9, wrap_i64 (n := (i : Int) + 1) (by omega) (by omega), intAt]
        have hk7 := hloc.own.kept hm (fun x hx h7 => hne78 x h7 hx)
        have hst : Lcl σ σ' t8 ((l.take i).drop k).length 3 := ⟨ho8, hf8, hloc.sub⟩
        have hst' := hst.step ho' hm
        refine ⟨⟨i + 1, by omega, t7, ⟨rfl, ?_⟩, tok', ⟨rfl, ?_⟩, by simp, ⟨?_, hloc.fresh, hst'.sub⟩, ?_, fun x hx h8 => hk7.2 x h8 hx, hst'.fresh, hm.cells ho8 k1, hm.cells ho8 k2⟩, by omega⟩
        · rw [show List.take k (List.take (i + 1) (List.map encC l)) = List.map encC ((l.take (i + 1)).take k) by simp, e7]
          simp
        · rw [show List.drop k (List.take (i + 1) (List.map encC l)) = List.map encC ((l.take (i + 1)).drop k) by simp, e8]
          simp [encC]
        · exact hk7.1.cast (by simp; omega)
        · exact ho'.cast (by simp [encC]; omega)
    · obtain rfl : i = l.length := by omega
      rw [List.take_length] at g7 g8
      simp -implicitDefEqProofs [hlen, g1, g2, g4, g7, g8, g9, k1, k2, n21, n21.symm]
      exact sub_set (sub_set hloc.sub h1) q2
end Go.Proofs.Yteddhilaehfgbaa
