/- InboxLives answers true at every input and changes nothing that was there; no condition. -/
import Derived.Test.YteddhilaehfgbaaOpSlice
import Derived.Test.YteddhilaehfgbaaFull
import Derived.Test.YteddhilaehfgbaaLives
namespace Go.Proofs.Yteddhilaehfgbaa
open Go Go.Aw Go.ChangeShapes Go.WideShapes Go.ChangeAt Go.RowKit Go.Joins
set_option linter.unusedVariables false
set_option linter.unusedSimpArgs false

theorem readInt : Try.prog.readableRec 3 = true := by kernel_rfl
theorem readO : Try.prog.readableRec 22 = true := by kernel_rfl

theorem lives_contract (H : Type) (enc : TypeId × Value → H) (W : World) (base : Nat) (args : Array Value) (ds gs : List (DataW H)) (before : List MemPlace)
    (hval : ∀ (j : Nat) t v, Try.f4.params[j]? = some t → args[j]? = some v → Value.okWide Try.prog W .any base t v)
    (hW : DataW.Whole enc Try.prog Try.f4.params.toList Rows.inboxLivesSpec.vars false W args.toList ds gs before) :
    Calls Try.prog 4 args W fun e W' => ∃ v, e = .returned v ∧ Rows.inboxLivesSpec.post enc Try.prog Try.f4 false true false false W args v W' := by
  have hW' := hW
  obtain ⟨p, q, hA0, hV, rfl, hfz, hnd⟩ := hW
  have hA : DataW.TrodAll enc Try.prog W 0 (fun _ => true) true Try.f4.params.toList args.toList ds p := hA0
  have hAA := hA
  rw [Try.params4] at hA hval
  obtain ⟨v0, vs0, d0, ds0, p0, q0, hargs, rfl, rfl, h0, r0⟩ := trodAll_cons hA
  obtain ⟨v1, vs1, d1, ds1, p1, q1, rfl, rfl, rfl, h1, r1⟩ := trodAll_cons r0
  obtain ⟨rfl, rfl, rfl⟩ := trodAll_nil r1
  obtain rfl : args = #[v0, v1] := by cases args; simp_all
  obtain ⟨rfl, rfl⟩ := trodVars_none hV
  obtain ⟨a0, e0, -, -, w0⟩ := open_int Try.underlying3 (hval 0 3 v0 rfl rfl) h0
  obtain ⟨sa, sl, sc, e1⟩ := okWide_slice Try.underlying22 (hval 1 22 v1 rfl rfl)
  subst e0 e1
  obtain ⟨l, -, hrl⟩ := ops_rel h1
  have hrel : RelL nil0 W [.sc (.int .i64 a0), .slice .dead (l.map encO)] #[.int .i64 a0, .slice sa sl sc] :=
    RelL.cons (vs := [_]) (.sc _) (RelL.cons (vs := []) hrl (RelL.nil _ _))
  refine (inboxLives_abs nil0 a0 .dead l W _ (st_nil W) hrel).mono ?_
  rintro e W' ⟨v, r, σ', rfl, ⟨rfl, rfl⟩, hs', hr', hx⟩
  obtain rfl := bool_of hr'
  have hk := Kept.of_ext hx
  simp only [List.append_nil] at hW'
  refine ⟨_, rfl, post_of_kept (pv := []) hW' (fun _ _ _ => trodAll_cons_mk (shut_bool Try.underlying4 _) trodAll_mk0)
    (fun sp hsp => trodAll_kept laidOut hk _ _ _ _ (fun t ht => ?_) hAA (fun x hx => hW'.lt x (by simpa using hx)) (fun x hx => hsp x (by simpa using hx))) (fun _ _ => rfl) (by simp) hk (ok_one (by kernel_rfl) rfl (okWide_bool_mk Try.underlying4 _))⟩
  rw [Try.params4] at ht
  simp only [List.mem_cons, List.not_mem_nil, or_false] at ht
  rcases ht with rfl | rfl
  · exact ⟨readInt, of_decide_eq_true (by kernel_rfl)⟩
  · exact ⟨readO, of_decide_eq_true (by kernel_rfl)⟩

set_option maxRecDepth 100000 in
theorem lives_lifted (os : Os) (started : os.Started) (H : Type) (enc : TypeId × Value → H) :
    ReturnsInHanded {} Try.checked os 4 .any (Rows.inboxLivesSpec.pre6 enc Try.prog Try.f4 Rows.inboxLivesRow.domain false) (Rows.inboxLivesSpec.post enc Try.prog Try.f4 false true false false) := by
  refine returnsInHanded_of_change (C := Try.checked) own started (by kernel_rfl) Try.func4
    (ChangeSpec.witness6 (enc := enc) (C := Try.checked) false ⟨#[], #[.int .i64 0, .slice none 0 0], []⟩ 8 (by kernel_rfl) (by kernel_rfl) (by kernel_rfl) (by kernel_rfl)) ?_
  intro W base args ds gs before hval hW _ _
  exact lives_contract H enc W base args ds gs before hval hW

theorem inboxLives_proved : Rows.InboxLivesSaid :=
  OpenClaim.holds_of_wide 4 Try.f4 rfl rfl rfl rfl rfl rfl rfl ⟨rfl, rfl, rfl, rfl, rfl⟩ rfl rfl rfl rfl rfl (by kernel_rfl) Try.func4 (by kernel_rfl)
    (of_decide_eq_true (by kernel_rfl)) (by unfold Func.isWrapper; first | (rw [if_pos (by decide +kernel)]; kernel_rfl) | (rw [if_neg (by decide +kernel)]; exact ⟨rfl, rfl⟩))
    (fun os started H enc _ => lives_lifted os started H enc)
#print axioms inboxLives_proved
end Go.Proofs.Yteddhilaehfgbaa
