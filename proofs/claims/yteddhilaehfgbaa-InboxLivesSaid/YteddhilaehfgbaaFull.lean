/- InboxFull answers true at every input and changes nothing that was there; no condition. -/
import Derived.Test.YteddhilaehfgbaaBridge
namespace Go.Proofs.Yteddhilaehfgbaa
open Go Go.Aw Go.ChangeShapes Go.WideShapes Go.ChangeAt Go.RowKit Go.Joins
set_option linter.unusedVariables false
set_option linter.unusedSimpArgs false

theorem own : ownKnob Try.prog.godebug = none := by kernel_rfl
theorem laidOut : laidOutB Try.prog = true := by kernel_rfl
theorem cellsC : Try.prog.cellsOf 28 = 3 := by kernel_rfl
theorem readU8 : Try.prog.readableRec 5 = true := by kernel_rfl
theorem readC : Try.prog.readableRec 28 = true := by kernel_rfl

theorem bool_of {σ : Sto} {w : World} {v : Value} {b : Bool} (h : Rel σ w (.sc (.bool b)) v) : v = .bool b := by cases h; rfl

theorem full_contract (H : Type) (enc : TypeId × Value → H) (W : World) (base : Nat) (args : Array Value) (ds gs : List (DataW H)) (before : List MemPlace)
    (hval : ∀ (j : Nat) t v, Try.f5.params[j]? = some t → args[j]? = some v → Value.okWide Try.prog W .any base t v)
    (hW : DataW.Whole enc Try.prog Try.f5.params.toList Rows.inboxFullSpec.vars false W args.toList ds gs before) :
    Calls Try.prog 5 args W fun e W' => ∃ v, e = .returned v ∧ Rows.inboxFullSpec.post enc Try.prog Try.f5 false true false false W args v W' := by
  have hW' := hW
  obtain ⟨p, q, hA0, hV, rfl, hfz, hnd⟩ := hW
  have hA : DataW.TrodAll enc Try.prog W 0 (fun _ => true) true Try.f5.params.toList args.toList ds p := hA0
  have hAA := hA
  rw [Try.params5] at hA hval
  obtain ⟨v0, vs0, d0, ds0, p0, q0, hargs, rfl, rfl, h0, r0⟩ := trodAll_cons hA
  obtain ⟨v1, vs1, d1, ds1, p1, q1, rfl, rfl, rfl, h1, r1⟩ := trodAll_cons r0
  obtain ⟨v2, vs2, d2, ds2, p2, q2, rfl, rfl, rfl, h2, r2⟩ := trodAll_cons r1
  obtain ⟨rfl, rfl, rfl⟩ := trodAll_nil r2
  obtain rfl : args = #[v0, v1, v2] := by cases args; simp_all
  obtain ⟨rfl, rfl⟩ := trodVars_none hV
  obtain ⟨a0, e0, -, -, w0⟩ := open_int Try.underlying5 (hval 0 5 v0 rfl rfl) h0
  obtain ⟨a1, e1, -, -, w1⟩ := open_int Try.underlying5 (hval 1 5 v1 rfl rfl) h1
  obtain ⟨c0, c1, c2, y0, y1, y2, m, e2, -, -, hy0, hy1, hy2⟩ := open_agg3 Try.underlying28 (by kernel_rfl) cellsC (hval 2 28 v2 rfl rfl) h2
  obtain ⟨s0, k0, -, -⟩ := DataW.trod_string Try.underlying9 hy0
  obtain ⟨b1, k1, -⟩ := DataW.trod_bool Try.underlying4 hy1
  obtain ⟨s2, k2, -, -⟩ := DataW.trod_string Try.underlying9 hy2
  simp only [List.cons.injEq, and_true] at k0 k1 k2
  subst k0 k1 k2 e0 e1 e2
  have b0 : 0 ≤ a0 ∧ a0 ≤ 255 := by simpa [Lit.wf, IntKind.min, IntKind.max, IntKind.signed, IntKind.bits] using w0
  have b1' : 0 ≤ a1 ∧ a1 ≤ 255 := by simpa [Lit.wf, IntKind.min, IntKind.max, IntKind.signed, IntKind.bits] using w1
  have hrel : RelL nil0 W [.sc (.int .u8 a0), .sc (.int .u8 a1), .agg (encC ⟨s0, b1, s2⟩)] #[.int .u8 a0, .int .u8 a1, .agg #[.string s0, .bool b1, .string s2]] :=
    RelL.cons (vs := [_, _]) (.sc _) (RelL.cons (vs := [_]) (.sc _) (RelL.cons (vs := []) (.agg _ _ rfl
      (RelL.cons (vs := [_, _]) (.sc _) (RelL.cons (vs := [_]) (.sc _) (RelL.cons (vs := []) (.sc _) (RelL.nil _ _)))).2) (RelL.nil _ _)))
  refine (inboxFull_abs nil0 a0 a1 b0.1 (by omega) b1'.1 (by omega) ⟨s0, b1, s2⟩ W _ (st_nil W) hrel).mono ?_
  rintro e W' ⟨v, r, σ', rfl, ⟨rfl, rfl⟩, hs', hr', hx⟩
  obtain rfl := bool_of hr'
  have hk := Kept.of_ext hx
  simp only [List.append_nil] at hW'
  refine ⟨_, rfl, post_of_kept (pv := []) hW' (fun _ _ _ => trodAll_cons_mk (shut_bool Try.underlying4 _) trodAll_mk0)
    (fun sp hsp => trodAll_kept laidOut hk _ _ _ _ (fun t ht => ?_) hAA (fun x hx => hW'.lt x (by simpa using hx)) (fun x hx => hsp x (by simpa using hx))) (fun _ _ => rfl) (by simp) hk (ok_one (by kernel_rfl) rfl (okWide_bool_mk Try.underlying4 _))⟩
  rw [Try.params5] at ht
  simp only [List.mem_cons, List.not_mem_nil, or_false] at ht
  rcases ht with rfl | rfl | rfl
  · exact ⟨readU8, of_decide_eq_true (by kernel_rfl)⟩
  · exact ⟨readU8, of_decide_eq_true (by kernel_rfl)⟩
  · exact ⟨readC, of_decide_eq_true (by kernel_rfl)⟩

set_option maxRecDepth 100000 in
theorem full_lifted (os : Os) (started : os.Started) (H : Type) (enc : TypeId × Value → H) :
    ReturnsInHanded {} Try.checked os 5 .any (Rows.inboxFullSpec.pre6 enc Try.prog Try.f5 Rows.inboxFullRow.domain false) (Rows.inboxFullSpec.post enc Try.prog Try.f5 false true false false) := by
  refine returnsInHanded_of_change (C := Try.checked) own started (by kernel_rfl) Try.func5
    (ChangeSpec.witness6 (enc := enc) (C := Try.checked) false ⟨#[], #[.int .u8 0, .int .u8 0, .agg #[.string .empty, .bool false, .string .empty]], []⟩ 8 (by kernel_rfl) (by kernel_rfl) (by kernel_rfl) (by kernel_rfl)) ?_
  intro W base args ds gs before hval hW _ _
  exact full_contract H enc W base args ds gs before hval hW

theorem inboxFull_proved : Rows.InboxFullSaid :=
  OpenClaim.holds_of_wide 5 Try.f5 rfl rfl rfl rfl rfl rfl rfl ⟨rfl, rfl, rfl, rfl, rfl⟩ rfl rfl rfl rfl rfl (by kernel_rfl) Try.func5 (by kernel_rfl)
    (of_decide_eq_true (by kernel_rfl)) (by unfold Func.isWrapper; first | (rw [if_pos (by decide +kernel)]; kernel_rfl) | (rw [if_neg (by decide +kernel)]; exact ⟨rfl, rfl⟩))
    (fun os started H enc _ => full_lifted os started H enc)
#print axioms inboxFull_proved
end Go.Proofs.Yteddhilaehfgbaa
