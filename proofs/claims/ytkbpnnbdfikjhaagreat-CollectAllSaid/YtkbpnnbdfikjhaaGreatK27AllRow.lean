/- CollectAll answers true at every input and changes nothing that was there; no condition. -/
import Derived.Test.YtkbpnnbdfikjhaaGreatK25Bridge
import Derived.Test.YtkbpnnbdfikjhaaGreatK26All1
namespace Go.Proofs.YtkbpnnbdfikjhaaGreat
open Go Go.Aw Go.ChangeShapes Go.WideShapes Go.ChangeAt Go.RowKit Go.Joins
set_option linter.unusedVariables false
set_option linter.unusedSimpArgs false
set_option maxRecDepth 10000

theorem readU8 : Tryz.prog.readableRec 5 = true := by kernel_rfl

theorem all_contract (H : Type) (enc : TypeId × Value → H) (W : World) (base : Nat) (args : Array Value) (ds gs : List (DataW H)) (before : List MemPlace)
    (hval : ∀ (j : Nat) t v, Tryz.f4.params[j]? = some t → args[j]? = some v → Value.okWide Tryz.prog W .any base t v)
    (hW : DataW.Whole enc Tryz.prog Tryz.f4.params.toList Rows.collectAllSpec.vars false W args.toList ds gs before) :
    Calls Tryz.prog 4 args W fun e W' => ∃ v, e = .returned v ∧ Rows.collectAllSpec.post enc Tryz.prog Tryz.f4 false true false false W args v W' := by
  have hW' := hW
  obtain ⟨p, q, hA0, hV, rfl, hfz, hnd⟩ := hW
  have hA : DataW.TrodAll enc Tryz.prog W 0 (fun _ => true) true Tryz.f4.params.toList args.toList ds p := hA0
  have hAA := hA
  rw [Tryz.params4] at hA hval
  obtain ⟨v0, vs0, d0, ds0, p0, q0, hargs, rfl, rfl, h0, r0⟩ := trodAll_cons hA
  obtain ⟨v1, vs1, d1, ds1, p1, q1, rfl, rfl, rfl, h1, r1⟩ := trodAll_cons r0
  obtain ⟨v2, vs2, d2, ds2, p2, q2, rfl, rfl, rfl, h2, r2⟩ := trodAll_cons r1
  obtain ⟨rfl, rfl, rfl⟩ := trodAll_nil r2
  obtain rfl : args = #[v0, v1, v2] := by cases args; simp_all
  obtain ⟨rfl, rfl⟩ := trodVars_none hV
  obtain ⟨cs, e0, -⟩ := okWide_struct Tryz.underlying24 (hval 0 24 v0 rfl rfl)
  subst e0
  obtain ⟨fu0, hf0⟩ := h0
  obtain ⟨c, hcs⟩ := conf_of hf0
  obtain ⟨a1, l1, k1, e1⟩ := okWide_slice Tryz.underlying25 (hval 1 25 v1 rfl rfl)
  obtain ⟨fst, e2, -, -, w2⟩ := open_int Tryz.underlying5 (hval 2 5 v2 rfl rfl) h2
  subst e1 e2
  obtain ⟨fu1, hf1⟩ := h1
  obtain ⟨b1, m1, n1, rows, g1, -, hr1⟩ := slice_rel encRow 1 (by omega) Tryz.underlying25 cells39 (fun _ => rfl) (fun _ => True) row_of hf1
  have b0 : 0 ≤ fst ∧ fst ≤ 255 := by simpa [Lit.wf, IntKind.min, IntKind.max, IntKind.signed, IntKind.bits] using w2
  simp only [Value.cells, List.cons.injEq, Value.slice.injEq, and_true] at g1
  obtain ⟨rfl, rfl, rfl⟩ := g1
  have hcs' : cs = #[.int .i64 c.cap, .int .i64 c.pins, .int .i64 c.shelves, .int .i64 c.queue, .int .i64 c.watchers, .int .u64 c.seed] := by
    apply Array.toList_inj.1
    simpa [Value.cells] using hcs
  subst hcs'
  have hrel : RelL nil0 W [.agg (rowC c), .slice .dead (rows.map encRow), .sc (.int .u8 fst)] #[.agg #[.int .i64 c.cap, .int .i64 c.pins, .int .i64 c.shelves, .int .i64 c.queue, .int .i64 c.watchers, .int .u64 c.seed], .slice a1 l1 k1, .int .u8 fst] :=
    RelL.cons (vs := [_, _]) (conf_rel c) (RelL.cons (vs := [_]) hr1 (RelL.cons (vs := []) (.sc _) (RelL.nil _ _)))
  refine (all_spec nil0 c .dead rows fst ⟨b0.1, by omega⟩ W _ (st_nil W) hrel).mono ?_
  rintro e W' ⟨v, r, σ', rfl, rfl, hs', hr', hx⟩
  obtain rfl := bool_of hr'
  have hk := Kept.of_ext hx
  simp only [List.append_nil] at hW'
  refine ⟨_, rfl, post_of_kept (pv := []) hW' (fun _ _ _ => trodAll_cons_mk (shut_bool Tryz.underlying4 _) trodAll_mk0)
    (fun sp hsp => trodAll_kept laidOut hk _ _ _ _ (fun t ht => ?_) hAA (fun x hx => hW'.lt x (by simpa using hx)) (fun x hx => hsp x (by simpa using hx))) (fun _ _ => rfl) (by simp) hk (ok_one (by kernel_rfl) rfl (okWide_bool_mk Tryz.underlying4 _))⟩
  rw [Tryz.params4] at ht
  simp only [List.mem_cons, List.not_mem_nil, or_false] at ht
  rcases ht with rfl | rfl | rfl
  · exact ⟨readConf, of_decide_eq_true (by kernel_rfl)⟩
  · exact ⟨readRows, of_decide_eq_true (by kernel_rfl)⟩
  · exact ⟨readU8, of_decide_eq_true (by kernel_rfl)⟩

set_option maxRecDepth 100000 in
theorem all_lifted (os : Os) (started : os.Started) (H : Type) (enc : TypeId × Value → H) :
    ReturnsInHanded {} Tryz.checked os 4 .any (Rows.collectAllSpec.pre6 enc Tryz.prog Tryz.f4 Rows.collectAllRow.domain false) (Rows.collectAllSpec.post enc Tryz.prog Tryz.f4 false true false false) := by
  refine returnsInHanded_of_change (C := Tryz.checked) own started (by kernel_rfl) Tryz.func4
    (ChangeSpec.witness6 (enc := enc) (C := Tryz.checked) false ⟨#[], #[.agg #[.int .i64 0, .int .i64 0, .int .i64 0, .int .i64 0, .int .i64 0, .int .u64 0], .slice none 0 0, .int .u8 0], []⟩ 8 (by kernel_rfl) (by kernel_rfl) (by kernel_rfl) (by kernel_rfl)) ?_
  intro W base args ds gs before hval hW _ _
  exact all_contract H enc W base args ds gs before hval hW

theorem collectAll_proved : Rows.CollectAllSaid :=
  OpenClaim.holds_of_wide 4 Tryz.f4 rfl rfl rfl rfl rfl rfl rfl ⟨rfl, rfl, rfl, rfl, rfl⟩ rfl rfl rfl rfl rfl (by kernel_rfl) Tryz.func4 (by kernel_rfl)
    (of_decide_eq_true (by kernel_rfl)) (by unfold Func.isWrapper; first | (rw [if_pos (by decide +kernel)]; kernel_rfl) | (rw [if_neg (by decide +kernel)]; exact ⟨rfl, rfl⟩))
    (fun os started H enc _ => all_lifted os started H enc)
#print axioms collectAll_proved
end Go.Proofs.YtkbpnnbdfikjhaaGreat
