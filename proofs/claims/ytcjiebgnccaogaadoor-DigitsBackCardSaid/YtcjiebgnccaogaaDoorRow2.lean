/- The three laws of digits: rows proved, and their cards tied. Each answers true at every input, whatever the library's tables and the project's sentinels are laid as by the program's text. -/
import Derived.Test.YtcjiebgnccaogaaDoorRow1
import Derived.Test.YtcjiebgnccaogaaDoorPost
import Derived.Test.YtcjiebgnccaogaaDoorCards
import Derived.Test.YtcjiebgnccaogaaDoorTie
import Derived.SevenTiedAt
import Derived.ChangeMaps5
import Derived.LaidLaws
import Derived.Stop.Joined
namespace Go.Proofs.YtcjiebgnccaogaaDoor
open Go Go.Aw Go.ChangeShapes Go.WideShapes Go.ChangeAt Go.RowKit Go.Joins
set_option linter.unusedVariables false
set_option linter.unusedSimpArgs false

theorem own : ownKnob Tryd.prog.godebug = none := by kernel_rfl
theorem laidOut : laidOutB Tryd.prog = true := by kernel_rfl
theorem readI : Tryd.prog.readableRec 2 = true := by kernel_rfl
theorem readS : Tryd.prog.readableRec 9 = true := by kernel_rfl
theorem bool_of {σ : Sto} {w : World} {v : Value} {b : Bool} (h : Rel σ w (.sc (.bool b)) v) : v = .bool b := by cases h; rfl

/-! ### A world that meets the condition -/
def sentL : List (Nat × DataW Unit) := [(0, Rows.laid_philtre_api_ErrForm), (1, Rows.laid_philtre_api_ErrShort), (2, Rows.laid_philtre_api_ErrLong), (3, Rows.laid_philtre_api_ErrRange), (4, Rows.laid_philtre_api_ErrKind), (5, Rows.laid_philtre_api_ErrTwice), (7, Rows.laid_philtre_api_ErrFull), (8, Rows.laid_philtre_api_ErrBadOp), (9, Rows.laid_philtre_api_ErrBadBatch), (10, Rows.laid_philtre_api_ErrStaleBatch), (11, Rows.laid_philtre_api_ErrTooManyReaders), (12, Rows.laid_philtre_api_ErrNoWatcher), (13, Rows.laid_philtre_api_ErrTooManyWatchers), (14, Rows.laid_philtre_api_ErrOverflow), (15, Rows.laid_philtre_api_ErrScript), (16, Rows.laid_philtre_api_ErrNone), (17, Rows.laid_philtre_api_ErrFreed), (18, Rows.laid_philtre_api_ErrBounds), (19, Rows.laid_philtre_api_ErrUnknown), (20, Rows.laid_strconv_ErrSyntax), (21, Rows.laid_strconv_ErrRange)]
def textOf : DataW Unit → List UInt8
  | .iface _ (.ptr (.agg [.lit (.string t)])) => t
  | _ => []
def cellsOfData : DataW Unit → Array Value
  | .agg l => (l.map fun | .lit (.int k n) => Value.int k n | _ => .nilIface).toArray
  | _ => #[]
noncomputable def low : Nat := (World.holding Tryd.prog default ⟨#[], #[], []⟩).heap.size
def putVar (g : Nat) (cs : Array Value) (h : Array Obj) : Array Obj := h.modify g fun
  | .cells _ t frozen => .cells cs t frozen
  | o => o
def putSents (base : Nat) : List (Nat × DataW Unit) → Array Obj → Array Obj
  | [], h => h
  | x :: r, h => putSents (base + 1) r (putVar x.1 #[.iface 115 (.pointer (some ⟨base, 0, none⟩))] h)
noncomputable def laidWorld (os : Os) : World :=
  let w0 := World.holding Tryd.prog os ⟨(sentL.map fun x => Obj.cells #[.string ⟨(textOf x.2).toArray⟩] 117).toArray, #[], []⟩
  { w0 with heap := putVar 6 #[.iface 78 (.agg #[.pointer (some ⟨25, 24, none⟩)])] (putVar 22 (cellsOfData Rows.laid_internal_strconv_uint64pow10) (putVar 23 (cellsOfData Rows.laid_math_bits_deBruijn32tab)
      (putVar 24 (cellsOfData Rows.laid_math_bits_deBruijn64tab) (putSents low sentL w0.heap)))) }

set_option maxRecDepth 100000 in
theorem laidWorld_met (os : Os) (args : Array Value) : laidMetH Tryd.prog laidL ((laidWorld os).forCall (fun _ _ => 0) ⟨#[], args, []⟩).memory :=
  laidMetH_of_parts (laidMet_of_run' 8 (by kernel_rfl) (by kernel_rfl)) (by kernel_rfl)

/-- a call that is shaped as at its start -/
theorem returns_shaped {a : Assume} {C : Checked} {os : Os} {f : FuncId} {fn : Func} {s : ChangeSpec} {H : Type} {enc : TypeId × Value → H} {conds : List PathCond} {apart fresh handsOn again : Bool} {X : World → Array Value → Prop}
    (hX : ∀ (w w' : World) (args : Array Value), w.heap = w'.heap → X w args → X w' args)
    (own : ownKnob C.prog.godebug = none) (started : os.Started) (noInit : C.prog.inits.idxOf? f = none) (hfn : C.prog.funcs[f]? = some fn)
    (witness : ∃ (w : World) (tape : Tape) (i : Input), w.os = os ∧ (w.forCall tape i).Shaped C.prog ∧ i.vars = [] ∧ Input.okWide C.prog (w.forCall tape i) .any w.heap.size f i ∧
      ((s.pre enc C.prog fn conds apart (w.forCall tape i).memory i.args ∧ X (w.forCall tape i).memory i.args) ∧ sizedMet enc C.prog fn (OpenSpec.ofChange s) apart (w.forCall tape i).memory i.args) ∧ a.holds C.prog (lone (Frame.enter C.prog f i.args .normal) [] (w.forCall tape i)))
    (contract : ∀ (W : World) (base : Nat) (args : Array Value) (ds gs : List (DataW H)) (before : List MemPlace), W.ShapedOpen C.prog →
      (∀ (j : Nat) t v, fn.params[j]? = some t → args[j]? = some v → Value.okWide C.prog W .any base t v) →
      DataW.Whole enc C.prog fn.params.toList s.vars apart W args.toList ds gs before → X W args →
      Calls C.prog f args W fun e W' => ∃ v, e = .returned v ∧ s.post enc C.prog fn apart fresh handsOn again W args v W') :
    ReturnsInHanded a C os f .any (fun w args => (s.pre enc C.prog fn conds apart w args ∧ X w args) ∧ sizedMet enc C.prog fn (OpenSpec.ofChange s) apart w args) (s.post enc C.prog fn apart fresh handsOn again) := by
  refine returnsInHanded_of_calls own started noInit witness ?_
  intro w tape i _ hsh _ hok hpre hholds
  obtain ⟨_, _, _, fn', hfn', _, _, _, _, hval⟩ := hok
  have e : fn' = fn := Option.some.inj (hfn'.symm.trans hfn)
  subst e
  obtain ⟨⟨⟨ds, gs, before, hw, hc⟩, hx⟩, hz⟩ := hpre
  have hw' := DataW.Whole.of_heap (w' := w.forCall tape i) (by rfl) hw
  refine (contract (w.forCall tape i) w.heap.size i.args ds gs before hsh hval hw' (hX _ _ _ (by rfl) hx)).mono fun e W' ⟨v, he, hp⟩ => ?_
  subst he
  exact ChangeSpec.post_blind hp

theorem i64_bounds {a : Int} (h : (Lit.int .i64 a).wf = true) : -9223372036854775808 ≤ a ∧ a ≤ 9223372036854775807 := by
  have e1 : IntKind.i64.min = -9223372036854775808 := rfl
  have e2 : IntKind.i64.max = 9223372036854775807 := rfl
  simp only [Lit.wf, e1, e2, Bool.and_eq_true, decide_eq_true_eq] at h
  exact h
theorem rel_txt (σ : Sto) (w : World) (s : ByteArray) : Rel σ w (txt s.data.toList) (.string s) := by
  unfold txt
  cases s
  simp only [Array.toArray_toList]
  exact .sc _

set_option maxRecDepth 100000 in
theorem digitsBack_contract (H : Type) (enc : TypeId × Value → H) (W : World) (base : Nat) (args : Array Value) (ds gs : List (DataW H)) (before : List MemPlace) (hS : W.ShapedOpen Tryd.prog)
    (hval : ∀ (j : Nat) t v, Tryd.f3.params[j]? = some t → args[j]? = some v → Value.okWide Tryd.prog W .any base t v)
    (hW : DataW.Whole enc Tryd.prog Tryd.f3.params.toList Rows.digitsBackSpec.vars false W args.toList ds gs before) (hL : laidMetH Tryd.prog laidL W) :
    Calls Tryd.prog 3 args W fun e W' => ∃ v, e = .returned v ∧ Rows.digitsBackSpec.post enc Tryd.prog Tryd.f3 false true false false W args v W' := by
  have hW' := hW
  obtain ⟨p, q, hA0, hV, rfl, hfz, hnd⟩ := hW
  have hA : DataW.TrodAll enc Tryd.prog W 0 (fun _ => true) true Tryd.f3.params.toList args.toList ds p := hA0
  have hAA := hA
  rw [Tryd.params3] at hA hval
  obtain ⟨v0, vs0, d0, ds0, p0, q0, hargs, rfl, rfl, h0, r0⟩ := trodAll_cons hA
  obtain ⟨v1, vs1, d1, ds1, p1, q1, rfl, rfl, rfl, h1, r1⟩ := trodAll_cons r0
  obtain ⟨rfl, rfl, rfl⟩ := trodAll_nil r1
  obtain rfl : args = #[v0, v1] := Array.ext' hargs
  obtain ⟨rfl, rfl⟩ := trodVars_none hV
  obtain ⟨a0, e0, -, -, w0⟩ := open_int Tryd.underlying2 (hval 0 2 v0 rfl rfl) h0
  obtain ⟨a1, e1, -, -, w1⟩ := Go.ChangeMaps.open_string Tryd.underlying9 (hval 1 9 v1 rfl rfl) h1
  subst e0 e1
  have b0 : -9223372036854775808 ≤ a0 ∧ a0 ≤ 9223372036854775807 := i64_bounds w0
  obtain ⟨L, S, te, pe, hG⟩ := gok_of hL hS
  have hrel : RelL (stoOf W L) W [.sc (.int .i64 a0), txt a1.data.toList] #[.int .i64 a0, .string a1] :=
    RelL.cons (vs := [_]) (.sc _) (RelL.cons (vs := []) (rel_txt _ _ a1) (RelL.nil _ _))
  refine (back_abs (stoOf W L) hG a0 a1.data.toList b0 W _ (st_of W L) hrel).mono ?_
  rintro e W' ⟨v, r, σ', rfl, ⟨rfl, hsub⟩, hs', hr', hx⟩
  obtain rfl := bool_of hr'
  have hk := kept_of hx hs' hsub
  simp only [List.append_nil] at hW'
  refine ⟨_, rfl, post_of_kept (pv := []) hW' (fun _ _ _ => trodAll_cons_mk (shut_bool Tryd.underlying4 _) trodAll_mk0)
    (fun sp hsp => trodAll_kept laidOut hk _ _ _ _ (fun t ht => ?_) hAA (fun x hx => hW'.lt x (by simpa using hx)) (fun x hx => hsp x (by simpa using hx))) (fun _ _ => rfl) (by simp) hk (ok_one (by kernel_rfl) rfl (okWide_bool_mk Tryd.underlying4 _))⟩
  rw [Tryd.params3] at ht
  simp only [List.mem_cons, List.not_mem_nil, or_false] at ht
  rcases ht with rfl | rfl
  · exact ⟨readI, of_decide_eq_true (by kernel_rfl)⟩
  · exact ⟨readS, of_decide_eq_true (by kernel_rfl)⟩

set_option maxRecDepth 100000 in
theorem digitsBack_lifted (os : Os) (started : os.Started) (H : Type) (enc : TypeId × Value → H) :
    ReturnsInHanded {} Tryd.checked os 3 .any (fun w args => (Rows.digitsBackSpec.pre enc Tryd.prog Tryd.f3 [] false w args ∧ laidMetH Tryd.prog laidL w) ∧ sizedMet enc Tryd.prog Tryd.f3 (OpenSpec.ofChange Rows.digitsBackSpec) false w args)
      (Rows.digitsBackSpec.post enc Tryd.prog Tryd.f3 false true false false) :=
  returns_shaped (C := Tryd.checked) (X := fun w _ => laidMetH Tryd.prog laidL w) (fun _ _ _ hh h => h.of_heap hh) own started (by kernel_rfl) Tryd.func3
    (ChangeSpec.witness_at (enc := enc) (C := Tryd.checked) (os := os) (X := fun w _ => laidMetH Tryd.prog laidL w) false (laidWorld os) #[.int .i64 0, .string ⟨#[]⟩] 8 rfl (by kernel_rfl) (by kernel_rfl) (by kernel_rfl) (by kernel_rfl) (by kernel_rfl) (laidWorld_met os _))
    (fun W base args ds gs before hS hval hW hL => digitsBack_contract H enc W base args ds gs before hS hval hW hL)

theorem digitsBack_row : Rows.DigitsBackSaid :=
  OpenClaim.holds_of_wide 3 Tryd.f3 rfl rfl rfl rfl rfl rfl rfl ⟨rfl, rfl, rfl, rfl, rfl⟩ rfl rfl rfl rfl rfl (by kernel_rfl) Tryd.func3 (by kernel_rfl)
    (of_decide_eq_true (by kernel_rfl)) (by unfold Func.isWrapper; first | (rw [if_pos (by decide +kernel)]; kernel_rfl) | (rw [if_neg (by decide +kernel)]; exact ⟨rfl, rfl⟩))
    (fun os started H enc _ => digitsBack_lifted os started H enc)

set_option maxRecDepth 100000 in
theorem digitsBack_proved : Rows.DigitsBackCardSaid :=
  Claim7.holds_tied_plain_at .later [] _ true _ true
    digitsBack_row (fun _ h => by cases h) (by kernel_rfl) (fun _ h => by cases h) digitsBack_row_tie rfl ⟨rfl, rfl⟩ (by kernel_rfl) rfl
    (fun f fn hf hfn => by
      obtain rfl : f = 3 := Option.some.inj ((show Tryd.prog.funcNamed "philtre/philtrelaw03.DigitsBack" = some 3 by kernel_rfl).symm.trans hf) |>.symm
      obtain rfl : fn = Tryd.f3 := (Option.some.inj (Tryd.func3.symm.trans hfn)).symm
      exact ⟨by kernel_rfl, fun j t ht => by
        rw [Tryd.params3] at ht
        have hm : t = 2 ∨ t = 9 := by
          have := Array.mem_of_getElem? ht
          simp at this
          first | exact this | exact .inl this | omega
        rcases hm with rfl | rfl
        · exact (show Tryd.prog.wantsStandIn 2 = false by kernel_rfl)
        · exact (show Tryd.prog.wantsStandIn 9 = false by kernel_rfl)⟩)
    (by kernel_rfl)
#print axioms digitsBack_proved


set_option maxRecDepth 100000 in
theorem digitsSums_contract (H : Type) (enc : TypeId × Value → H) (W : World) (base : Nat) (args : Array Value) (ds gs : List (DataW H)) (before : List MemPlace) (hS : W.ShapedOpen Tryd.prog)
    (hval : ∀ (j : Nat) t v, Tryd.f4.params[j]? = some t → args[j]? = some v → Value.okWide Tryd.prog W .any base t v)
    (hW : DataW.Whole enc Tryd.prog Tryd.f4.params.toList Rows.digitsSumsSpec.vars false W args.toList ds gs before) (hL : laidMetH Tryd.prog laidL W) :
    Calls Tryd.prog 4 args W fun e W' => ∃ v, e = .returned v ∧ Rows.digitsSumsSpec.post enc Tryd.prog Tryd.f4 false true false false W args v W' := by
  have hW' := hW
  obtain ⟨p, q, hA0, hV, rfl, hfz, hnd⟩ := hW
  have hA : DataW.TrodAll enc Tryd.prog W 0 (fun _ => true) true Tryd.f4.params.toList args.toList ds p := hA0
  have hAA := hA
  rw [Tryd.params4] at hA hval
  obtain ⟨v0, vs0, d0, ds0, p0, q0, hargs, rfl, rfl, h0, r0⟩ := trodAll_cons hA
  obtain ⟨v1, vs1, d1, ds1, p1, q1, rfl, rfl, rfl, h1, r1⟩ := trodAll_cons r0
  obtain ⟨v2, vs2, d2, ds2, p2, q2, rfl, rfl, rfl, h2, r2⟩ := trodAll_cons r1
  obtain ⟨rfl, rfl, rfl⟩ := trodAll_nil r2
  obtain rfl : args = #[v0, v1, v2] := Array.ext' hargs
  obtain ⟨rfl, rfl⟩ := trodVars_none hV
  obtain ⟨a0, e0, -, -, w0⟩ := open_int Tryd.underlying2 (hval 0 2 v0 rfl rfl) h0
  obtain ⟨a1, e1, -, -, w1⟩ := open_int Tryd.underlying2 (hval 1 2 v1 rfl rfl) h1
  obtain ⟨a2, e2, -, -, w2⟩ := open_int Tryd.underlying2 (hval 2 2 v2 rfl rfl) h2
  subst e0 e1 e2
  have b0 : -9223372036854775808 ≤ a0 ∧ a0 ≤ 9223372036854775807 := i64_bounds w0
  have b1 : -9223372036854775808 ≤ a1 ∧ a1 ≤ 9223372036854775807 := i64_bounds w1
  have b2 : -9223372036854775808 ≤ a2 ∧ a2 ≤ 9223372036854775807 := i64_bounds w2
  obtain ⟨L, S, te, pe, hG⟩ := gok_of hL hS
  have hrel : RelL (stoOf W L) W [.sc (.int .i64 a0), .sc (.int .i64 a1), .sc (.int .i64 a2)] #[.int .i64 a0, .int .i64 a1, .int .i64 a2] :=
    RelL.cons (vs := [_, _]) (.sc _) (RelL.cons (vs := [_]) (.sc _) (RelL.cons (vs := []) (.sc _) (RelL.nil _ _)))
  refine (sums_abs (stoOf W L) hG a0 a1 a2 b0 b1 b2 W _ (st_of W L) hrel).mono ?_
  rintro e W' ⟨v, r, σ', rfl, ⟨rfl, hsub⟩, hs', hr', hx⟩
  obtain rfl := bool_of hr'
  have hk := kept_of hx hs' hsub
  simp only [List.append_nil] at hW'
  refine ⟨_, rfl, post_of_kept (pv := []) hW' (fun _ _ _ => trodAll_cons_mk (shut_bool Tryd.underlying4 _) trodAll_mk0)
    (fun sp hsp => trodAll_kept laidOut hk _ _ _ _ (fun t ht => ?_) hAA (fun x hx => hW'.lt x (by simpa using hx)) (fun x hx => hsp x (by simpa using hx))) (fun _ _ => rfl) (by simp) hk (ok_one (by kernel_rfl) rfl (okWide_bool_mk Tryd.underlying4 _))⟩
  rw [Tryd.params4] at ht
  simp only [List.mem_cons, List.not_mem_nil, or_false] at ht
  rcases ht with rfl | rfl | rfl
  · exact ⟨readI, of_decide_eq_true (by kernel_rfl)⟩
  · exact ⟨readI, of_decide_eq_true (by kernel_rfl)⟩
  · exact ⟨readI, of_decide_eq_true (by kernel_rfl)⟩

set_option maxRecDepth 100000 in
theorem digitsSums_lifted (os : Os) (started : os.Started) (H : Type) (enc : TypeId × Value → H) :
    ReturnsInHanded {} Tryd.checked os 4 .any (fun w args => (Rows.digitsSumsSpec.pre enc Tryd.prog Tryd.f4 [] false w args ∧ laidMetH Tryd.prog laidL w) ∧ sizedMet enc Tryd.prog Tryd.f4 (OpenSpec.ofChange Rows.digitsSumsSpec) false w args)
      (Rows.digitsSumsSpec.post enc Tryd.prog Tryd.f4 false true false false) :=
  returns_shaped (C := Tryd.checked) (X := fun w _ => laidMetH Tryd.prog laidL w) (fun _ _ _ hh h => h.of_heap hh) own started (by kernel_rfl) Tryd.func4
    (ChangeSpec.witness_at (enc := enc) (C := Tryd.checked) (os := os) (X := fun w _ => laidMetH Tryd.prog laidL w) false (laidWorld os) #[.int .i64 0, .int .i64 0, .int .i64 0] 8 rfl (by kernel_rfl) (by kernel_rfl) (by kernel_rfl) (by kernel_rfl) (by kernel_rfl) (laidWorld_met os _))
    (fun W base args ds gs before hS hval hW hL => digitsSums_contract H enc W base args ds gs before hS hval hW hL)

theorem digitsSums_row : Rows.DigitsSumsSaid :=
  OpenClaim.holds_of_wide 4 Tryd.f4 rfl rfl rfl rfl rfl rfl rfl ⟨rfl, rfl, rfl, rfl, rfl⟩ rfl rfl rfl rfl rfl (by kernel_rfl) Tryd.func4 (by kernel_rfl)
    (of_decide_eq_true (by kernel_rfl)) (by unfold Func.isWrapper; first | (rw [if_pos (by decide +kernel)]; kernel_rfl) | (rw [if_neg (by decide +kernel)]; exact ⟨rfl, rfl⟩))
    (fun os started H enc _ => digitsSums_lifted os started H enc)

set_option maxRecDepth 100000 in
theorem digitsSums_proved : Rows.DigitsSumsCardSaid :=
  Claim7.holds_tied_plain_at .later [] _ true _ true
    digitsSums_row (fun _ h => by cases h) (by kernel_rfl) (fun _ h => by cases h) digitsSums_row_tie rfl ⟨rfl, rfl⟩ (by kernel_rfl) rfl
    (fun f fn hf hfn => by
      obtain rfl : f = 4 := Option.some.inj ((show Tryd.prog.funcNamed "philtre/philtrelaw03.DigitsSums" = some 4 by kernel_rfl).symm.trans hf) |>.symm
      obtain rfl : fn = Tryd.f4 := (Option.some.inj (Tryd.func4.symm.trans hfn)).symm
      exact ⟨by kernel_rfl, fun j t ht => by
        rw [Tryd.params4] at ht
        have hm : t = 2 ∨ t = 9 := by
          have := Array.mem_of_getElem? ht
          simp at this
          first | exact this | exact .inl this | omega
        rcases hm with rfl | rfl
        · exact (show Tryd.prog.wantsStandIn 2 = false by kernel_rfl)
        · exact (show Tryd.prog.wantsStandIn 9 = false by kernel_rfl)⟩)
    (by kernel_rfl)
#print axioms digitsSums_proved


set_option maxRecDepth 100000 in
theorem digitsTells_contract (H : Type) (enc : TypeId × Value → H) (W : World) (base : Nat) (args : Array Value) (ds gs : List (DataW H)) (before : List MemPlace) (hS : W.ShapedOpen Tryd.prog)
    (hval : ∀ (j : Nat) t v, Tryd.f5.params[j]? = some t → args[j]? = some v → Value.okWide Tryd.prog W .any base t v)
    (hW : DataW.Whole enc Tryd.prog Tryd.f5.params.toList Rows.digitsTellsSpec.vars false W args.toList ds gs before) (hL : laidMetH Tryd.prog laidL W) :
    Calls Tryd.prog 5 args W fun e W' => ∃ v, e = .returned v ∧ Rows.digitsTellsSpec.post enc Tryd.prog Tryd.f5 false true false false W args v W' := by
  have hW' := hW
  obtain ⟨p, q, hA0, hV, rfl, hfz, hnd⟩ := hW
  have hA : DataW.TrodAll enc Tryd.prog W 0 (fun _ => true) true Tryd.f5.params.toList args.toList ds p := hA0
  have hAA := hA
  rw [Tryd.params5] at hA hval
  obtain ⟨v0, vs0, d0, ds0, p0, q0, hargs, rfl, rfl, h0, r0⟩ := trodAll_cons hA
  obtain ⟨v1, vs1, d1, ds1, p1, q1, rfl, rfl, rfl, h1, r1⟩ := trodAll_cons r0
  obtain ⟨v2, vs2, d2, ds2, p2, q2, rfl, rfl, rfl, h2, r2⟩ := trodAll_cons r1
  obtain ⟨rfl, rfl, rfl⟩ := trodAll_nil r2
  obtain rfl : args = #[v0, v1, v2] := Array.ext' hargs
  obtain ⟨rfl, rfl⟩ := trodVars_none hV
  obtain ⟨a0, e0, -, -, w0⟩ := open_int Tryd.underlying2 (hval 0 2 v0 rfl rfl) h0
  obtain ⟨a1, e1, -, -, w1⟩ := open_int Tryd.underlying2 (hval 1 2 v1 rfl rfl) h1
  obtain ⟨a2, e2, -, -, w2⟩ := Go.ChangeMaps.open_string Tryd.underlying9 (hval 2 9 v2 rfl rfl) h2
  subst e0 e1 e2
  have b0 : -9223372036854775808 ≤ a0 ∧ a0 ≤ 9223372036854775807 := i64_bounds w0
  have b1 : -9223372036854775808 ≤ a1 ∧ a1 ≤ 9223372036854775807 := i64_bounds w1
  obtain ⟨L, S, te, pe, hG⟩ := gok_of hL hS
  have hrel : RelL (stoOf W L) W [.sc (.int .i64 a0), .sc (.int .i64 a1), txt a2.data.toList] #[.int .i64 a0, .int .i64 a1, .string a2] :=
    RelL.cons (vs := [_, _]) (.sc _) (RelL.cons (vs := [_]) (.sc _) (RelL.cons (vs := []) (rel_txt _ _ a2) (RelL.nil _ _)))
  refine (tells_abs (stoOf W L) hG a0 a1 a2.data.toList b0 b1 W _ (st_of W L) hrel).mono ?_
  rintro e W' ⟨v, r, σ', rfl, ⟨rfl, hsub⟩, hs', hr', hx⟩
  obtain rfl := bool_of hr'
  have hk := kept_of hx hs' hsub
  simp only [List.append_nil] at hW'
  refine ⟨_, rfl, post_of_kept (pv := []) hW' (fun _ _ _ => trodAll_cons_mk (shut_bool Tryd.underlying4 _) trodAll_mk0)
    (fun sp hsp => trodAll_kept laidOut hk _ _ _ _ (fun t ht => ?_) hAA (fun x hx => hW'.lt x (by simpa using hx)) (fun x hx => hsp x (by simpa using hx))) (fun _ _ => rfl) (by simp) hk (ok_one (by kernel_rfl) rfl (okWide_bool_mk Tryd.underlying4 _))⟩
  rw [Tryd.params5] at ht
  simp only [List.mem_cons, List.not_mem_nil, or_false] at ht
  rcases ht with rfl | rfl | rfl
  · exact ⟨readI, of_decide_eq_true (by kernel_rfl)⟩
  · exact ⟨readI, of_decide_eq_true (by kernel_rfl)⟩
  · exact ⟨readS, of_decide_eq_true (by kernel_rfl)⟩

set_option maxRecDepth 100000 in
theorem digitsTells_lifted (os : Os) (started : os.Started) (H : Type) (enc : TypeId × Value → H) :
    ReturnsInHanded {} Tryd.checked os 5 .any (fun w args => (Rows.digitsTellsSpec.pre enc Tryd.prog Tryd.f5 [] false w args ∧ laidMetH Tryd.prog laidL w) ∧ sizedMet enc Tryd.prog Tryd.f5 (OpenSpec.ofChange Rows.digitsTellsSpec) false w args)
      (Rows.digitsTellsSpec.post enc Tryd.prog Tryd.f5 false true false false) :=
  returns_shaped (C := Tryd.checked) (X := fun w _ => laidMetH Tryd.prog laidL w) (fun _ _ _ hh h => h.of_heap hh) own started (by kernel_rfl) Tryd.func5
    (ChangeSpec.witness_at (enc := enc) (C := Tryd.checked) (os := os) (X := fun w _ => laidMetH Tryd.prog laidL w) false (laidWorld os) #[.int .i64 0, .int .i64 0, .string ⟨#[]⟩] 8 rfl (by kernel_rfl) (by kernel_rfl) (by kernel_rfl) (by kernel_rfl) (by kernel_rfl) (laidWorld_met os _))
    (fun W base args ds gs before hS hval hW hL => digitsTells_contract H enc W base args ds gs before hS hval hW hL)

theorem digitsTells_row : Rows.DigitsTellsSaid :=
  OpenClaim.holds_of_wide 5 Tryd.f5 rfl rfl rfl rfl rfl rfl rfl ⟨rfl, rfl, rfl, rfl, rfl⟩ rfl rfl rfl rfl rfl (by kernel_rfl) Tryd.func5 (by kernel_rfl)
    (of_decide_eq_true (by kernel_rfl)) (by unfold Func.isWrapper; first | (rw [if_pos (by decide +kernel)]; kernel_rfl) | (rw [if_neg (by decide +kernel)]; exact ⟨rfl, rfl⟩))
    (fun os started H enc _ => digitsTells_lifted os started H enc)

set_option maxRecDepth 100000 in
theorem digitsTells_proved : Rows.DigitsTellsCardSaid :=
  Claim7.holds_tied_plain_at .later [] _ true _ true
    digitsTells_row (fun _ h => by cases h) (by kernel_rfl) (fun _ h => by cases h) digitsTells_row_tie rfl ⟨rfl, rfl⟩ (by kernel_rfl) rfl
    (fun f fn hf hfn => by
      obtain rfl : f = 5 := Option.some.inj ((show Tryd.prog.funcNamed "philtre/philtrelaw03.DigitsTells" = some 5 by kernel_rfl).symm.trans hf) |>.symm
      obtain rfl : fn = Tryd.f5 := (Option.some.inj (Tryd.func5.symm.trans hfn)).symm
      exact ⟨by kernel_rfl, fun j t ht => by
        rw [Tryd.params5] at ht
        have hm : t = 2 ∨ t = 9 := by
          have := Array.mem_of_getElem? ht
          simp at this
          first | exact this | exact .inl this | omega
        rcases hm with rfl | rfl
        · exact (show Tryd.prog.wantsStandIn 2 = false by kernel_rfl)
        · exact (show Tryd.prog.wantsStandIn 9 = false by kernel_rfl)⟩)
    (by kernel_rfl)
#print axioms digitsTells_proved

end Go.Proofs.YtcjiebgnccaogaaDoor
