/- The operations on abstract values are sound, third part: slices and fields. -/
import Derived.Test.YtcjiebgnccaogaaDoorSound2
import Derived.Laws.IdiomStrings
import Derived.Laws.StructEq
set_option linter.unusedSimpArgs false
set_option linter.unusedVariables false
namespace Go.Aw
open Go
variable {P : Program} {σ : Sto} {w : World} {k : AV → Sto → Prop}

theorem kd_spec {t : TypeId} {d : Kd} (h : tyKd P t = some d) : ∃ u, P.underlying t = some u ∧ (match u with
    | .int k => Kd.int k | .string => .str | .bool => .bool | .pointer _ => .ptr | .func _ _ _ => .func | .interface _ => .iface | _ => .other) = d := by
  unfold tyKd at h
  cases hu : P.underlying t with
  | none => rw [hu] at h; cases h
  | some u => rw [hu] at h; simp only [Option.map_some, Option.some.injEq] at h; exact ⟨u, rfl, h⟩

theorem kd_str {t : TypeId} (h : tyKd P t = some .str) : P.underlying t = some .string := by
  obtain ⟨u, hu, hd⟩ := kd_spec h
  cases u <;> simp at hd
  exact hu
theorem kd_int {t : TypeId} {k : IntKind} (h : tyKd P t = some (.int k)) : P.underlying t = some (.int k) := by
  obtain ⟨u, hu, hd⟩ := kd_spec h
  cases u <;> simp at hd
  subst hd; exact hu
theorem kd_bool {t : TypeId} (h : tyKd P t = some .bool) : P.underlying t = some .bool := by
  obtain ⟨u, hu, hd⟩ := kd_spec h
  cases u <;> simp at hd
  exact hu
theorem kd_ptr {t : TypeId} (h : tyKd P t = some .ptr) : ∃ e, P.underlying t = some (.pointer e) := by
  obtain ⟨u, hu, hd⟩ := kd_spec h
  cases u <;> simp at hd
  exact ⟨_, hu⟩
theorem kd_func {t : TypeId} (h : tyKd P t = some .func) : ∃ a b c, P.underlying t = some (.func a b c) := by
  obtain ⟨u, hu, hd⟩ := kd_spec h
  cases u <;> simp at hd
  exact ⟨_, _, _, hu⟩
theorem kd_iface {t : TypeId} (h : tyKd P t = some .iface) : ∃ a, P.underlying t = some (.interface a) := by
  obtain ⟨u, hu, hd⟩ := kd_spec h
  cases u <;> simp at hd
  exact ⟨_, hu⟩

/-! ### equality -/
theorem toList_inj {a b : ByteArray} (h : a.toList = b.toList) : a = b := by
  have e : ∀ (x : ByteArray), x.toList = x.data.toList := fun x => by
    have key : ∀ (n i : Nat) (acc : List UInt8), x.size - i = n → ByteArray.toList.loop x i acc = acc.reverse ++ x.data.toList.drop i := by
      intro n
      induction n with
      | zero =>
        intro i acc hi
        unfold ByteArray.toList.loop
        have : ¬ i < x.size := by omega
        rw [if_neg this, List.drop_eq_nil_of_le (by simpa using Nat.le_of_not_lt this)]
        simp
      | succ n ih =>
        intro i acc hi
        unfold ByteArray.toList.loop
        have hlt : i < x.size := by omega
        rw [if_pos hlt, ih (i + 1) _ (by omega)]
        have hl : i < x.data.toList.length := by simpa using hlt
        rw [List.drop_eq_getElem_cons hl]
        simp [ByteArray.get!, hlt]
    have := key (x.size - 0) 0 [] rfl
    simpa [ByteArray.toList] using this
  rw [e, e] at h
  cases a; cases b
  simp at h
  congr

theorem str_eq (a b : ByteArray) : (a.toList == b.toList) = decide (a = b) := by
  by_cases h : a = b
  · subst h; simp
  · have : a.toList ≠ b.toList := fun e => h (toList_inj e)
    simp [h, this]

theorem equal_step {t : TypeId} {x y : Value} {r : Bool} (h : ∀ d, (Op.equalIn (d + 2) t x y).run P w = .ok r w) : (Op.equal t x y).run P w = .ok r w := h 9998

theorem isAgg_kd {t : TypeId} {d : Kd} (h : tyKd P t = some d) (hd : d ≠ .other) (w : World) : (isAgg t).run P w = .ok false w := by
  obtain ⟨u, hu, hh⟩ := kd_spec h
  simp only [isAgg, Sem.run_bind, run_underlying hu, Result.andThen]
  cases u <;> simp_all

theorem eqCell_sound {t : TypeId} {x y : AV} {vx vy : Value} {r : Bool} {kd : Kd} (hx : Rel σ w x vx) (hy : Rel σ w y vy) (h : eqCell kd x y = some r)
    (hk : tyKd P t = some kd) (d : Nat) : kd ≠ .other ∧ (Op.equalIn (d + 1) t vx vy).run P w = .ok r w := by
  unfold eqCell at h
  split at h
  · split at h
    · cases hx; cases hy
      simp only [Option.some.injEq] at h; subst h
      rename_i hkk; subst hkk
      refine ⟨by simp, ?_⟩
      rw [run_equalIn_int w d t _ _ _ _ (kd_int hk)]
      rename_i a _ b _
      congr 1
    · cases h
  · cases hx; cases hy
    simp only [Option.some.injEq] at h; subst h
    exact ⟨by simp, run_equalIn_bool' w d t _ _ (kd_bool hk)⟩
  · cases hx; cases hy
    simp only [Option.some.injEq] at h; subst h
    exact ⟨by simp, by rw [run_equalIn_string w d t _ _ (kd_str hk), str_eq]⟩
  · cases h

theorem eqFields_sound {xs ys : List AV} {vs us : Array Value} (hx : RelL σ w xs vs) (hy : RelL σ w ys us) (d : Nat) : ∀ (fs : List Field) (l : List (Nat × Kd)) (r : Bool),
    eqFs P fs = some l → eqCells xs ys l = some r → (Op.eqFields (d + 1) vs us fs).run P w = .ok r w
  | [], l, r, hl, hr => by
    simp only [eqFs, Option.some.injEq] at hl; subst hl
    simp only [eqCells, Option.some.injEq] at hr; subst hr
    rfl
  | f :: fs, l, r, hl, hr => by
    have step : ∀ (kd : Kd) (l' : List (Nat × Kd)), f.name ≠ "_" → tyKd P f.type = some kd → eqFs P fs = some l' → eqCells xs ys ((f.offset, kd) :: l') = some r →
        (Op.eqFields (d + 1) vs us (f :: fs)).run P w = .ok r w := by
      intro kd l' hn hk hl' hr
      simp only [eqCells] at hr
      split at hr
      · rename_i x y h1 h2
        split at hr
        · rename_i a b ha hb
          simp only [Option.some.injEq] at hr
          have hlx : f.offset < vs.size := by rw [← hx.1]; exact (List.getElem?_eq_some_iff.1 h1).1
          have hly : f.offset < us.size := by rw [← hy.1]; exact (List.getElem?_eq_some_iff.1 h2).1
          obtain ⟨hne, he⟩ := eqCell_sound (P := P) (hx.2 _ x vs[f.offset] h1 (by simp [hlx])) (hy.2 _ y us[f.offset] h2 (by simp [hly])) ha hk d
          have hagg := isAgg_kd hk hne
          have ih := eqFields_sound hx hy d fs l' b hl' hb
          simp only [Op.eqFields, hn, ne_eq, not_false_eq_true, if_true, Sem.run_bind, part, hagg, Result.andThen, Bool.false_eq_true, if_false,
            Array.getElem?_eq_getElem hlx, Array.getElem?_eq_getElem hly, Sem.run_pure, he]
          cases a
          · simp only [Bool.not_false, if_true, Sem.run_pure]; rw [← hr]; simp
          · simp only [Bool.not_true, Bool.false_eq_true, if_false, ih]; rw [← hr]; simp
        · cases hr
      · cases hr
    simp only [eqFs] at hl
    split at hl
    · cases hl
    · rename_i hn
      split at hl
      · rename_i k l' h1 h2; cases hl; exact step _ l' hn h1 h2 hr
      · rename_i l' h1 h2; cases hl; exact step _ l' hn h1 h2 hr
      · rename_i l' h1 h2; cases hl; exact step _ l' hn h1 h2 hr
      · cases hl

theorem eq_sound {t : TypeId} {x y : AV} {vx vy : Value} {r : Bool} (hx : Rel σ w x vx) (hy : Rel σ w y vy) (xo yo : Operand) (h : aEq P t (isLit xo || isLit yo) x y = some r) :
    (do eqGuard .eql t xo yo vx vy; Go.binOp .eql t vx vy : Sem Value).run P w = .ok (.bool r) w ∧
    (do eqGuard .neq t xo yo vx vy; Go.binOp .neq t vx vy : Sem Value).run P w = .ok (.bool !r) w := by
  have key : ∀ (vx vy : Value), ((eqGuard .eql t xo yo vx vy).run P w = .ok () w ∧ (eqGuard .neq t xo yo vx vy).run P w = .ok () w) →
      (Go.binOp .eql t vx vy = (do pure (.bool (← Op.equal t vx vy))) ∧ Go.binOp .neq t vx vy = (do pure (.bool (!(← Op.equal t vx vy))))) →
      (∀ d, (Op.equalIn (d + 2) t vx vy).run P w = .ok r w) →
      (do eqGuard .eql t xo yo vx vy; Go.binOp .eql t vx vy : Sem Value).run P w = .ok (.bool r) w ∧
      (do eqGuard .neq t xo yo vx vy; Go.binOp .neq t vx vy : Sem Value).run P w = .ok (.bool !r) w := by
    intro vx vy hg hb he
    rw [Sem.run_bind, hg.1, Sem.run_bind, hg.2, hb.1, hb.2]
    simp only [Result.andThen, Sem.run_bind, equal_step he, Sem.run_pure, and_self]
  have key1 : ∀ (vx vy : Value), ((eqGuard .eql t xo yo vx vy).run P w = .ok () w ∧ (eqGuard .neq t xo yo vx vy).run P w = .ok () w) →
      (Go.binOp .eql t vx vy = (do pure (.bool (← Op.equal t vx vy))) ∧ Go.binOp .neq t vx vy = (do pure (.bool (!(← Op.equal t vx vy))))) →
      (∀ d, (Op.equalIn (d + 1) t vx vy).run P w = .ok r w) →
      (do eqGuard .eql t xo yo vx vy; Go.binOp .eql t vx vy : Sem Value).run P w = .ok (.bool r) w ∧
      (do eqGuard .neq t xo yo vx vy; Go.binOp .neq t vx vy : Sem Value).run P w = .ok (.bool !r) w := fun vx vy a b c => key vx vy a b fun d => c (d + 1)
  unfold aEq at h
  split at h
  case h_8 xs ys hk =>
    cases hx with
    | agg _ vs hlx hrx =>
      cases hy with
      | agg _ us hly hry =>
        split at h
        · rename_i l hl
          unfold tyEq at hl
          split at hl
          · rename_i fs hu
            split at hl
            · rename_i hc
              have hf : P.fieldsOf t = fs := by simp [Program.fieldsOf, hu]
              have hu' : P.underlying t = some (.struct (P.fieldsOf t)) := by rw [hf]; exact hu
              refine key _ _ ⟨run_eqGuard_agg w .eql t xo yo vs us hc.2, run_eqGuard_agg w .neq t xo yo vs us hc.2⟩ ⟨rfl, rfl⟩ (fun d => ?_)
              rw [run_equalIn_struct w (d + 1) t vs us hu' hc.1, hf]; exact eqFields_sound ⟨hlx, hrx⟩ ⟨hly, hry⟩ d _ _ _ hl h
            · cases hl
          · cases hl
        · cases h
  case h_10 hk =>
    split at h
    · rename_i hl
      simp only [Option.some.injEq] at h; subst h
      obtain ⟨_, hu⟩ := kd_iface hk; cases hx; cases hy
      have hg : ∀ op, op = .eql ∨ op = .neq → (eqGuard op t xo yo .nilIface .nilIface).run P w = .ok () w := by
        intro op hop
        rcases hop with rfl | rfl <;> (cases xo <;> cases yo <;> first | rfl | exact Bool.noConfusion hl)
      refine key1 _ _ ⟨hg _ (.inl rfl), hg _ (.inr rfl)⟩ ⟨rfl, rfl⟩ fun d => ?_
      simp only [Op.equalIn, Sem.run_bind, run_underlying hu, Result.andThen]; rfl
    · cases h
  all_goals first | (cases h; done) | skip
  all_goals (simp only [Option.some.injEq] at h; subst h)
  · rename_i hk; cases hx; cases hy
    refine key1 _ _ ⟨rfl, rfl⟩ ⟨rfl, rfl⟩ fun d => ?_
    simp only [Op.equalIn, Sem.run_bind, run_underlying (kd_bool hk), Result.andThen]; rfl
  · rename_i hk; obtain ⟨e, hu⟩ := kd_ptr hk; cases hx; cases hy
    refine key1 _ _ ⟨rfl, rfl⟩ ⟨rfl, rfl⟩ fun d => ?_
    simp only [Op.equalIn, Sem.run_bind, run_underlying hu, Result.andThen]; rfl
  · rename_i hk; obtain ⟨e, hu⟩ := kd_ptr hk; cases hx; cases hy
    refine key1 _ _ ⟨rfl, rfl⟩ ⟨rfl, rfl⟩ fun d => ?_
    simp only [Op.equalIn, Sem.run_bind, run_underlying hu, Result.andThen]; rfl
  · rename_i hk; obtain ⟨e, hu⟩ := kd_ptr hk; cases hx; cases hy
    refine key1 _ _ ⟨rfl, rfl⟩ ⟨rfl, rfl⟩ fun d => ?_
    simp only [Op.equalIn, Sem.run_bind, run_underlying hu, Result.andThen]; rfl
  · rename_i hk; obtain ⟨_, _, _, hu⟩ := kd_func hk; cases hx; cases hy
    refine key1 _ _ ⟨rfl, rfl⟩ ⟨rfl, rfl⟩ fun d => ?_
    simp only [Op.equalIn, Sem.run_bind, run_underlying hu, Result.andThen]; rfl
  · rename_i hk; obtain ⟨_, _, _, hu⟩ := kd_func hk; cases hx; cases hy
    refine key1 _ _ ⟨rfl, rfl⟩ ⟨rfl, rfl⟩ fun d => ?_
    simp only [Op.equalIn, Sem.run_bind, run_underlying hu, Result.andThen]; rfl
  · rename_i hk; obtain ⟨_, hu⟩ := kd_iface hk; cases hx; cases hy
    refine key1 _ _ ⟨rfl, rfl⟩ ⟨rfl, rfl⟩ fun d => ?_
    simp only [Op.equalIn, Sem.run_bind, run_underlying hu, Result.andThen]; rfl
  · rename_i hk; obtain ⟨_, hu⟩ := kd_iface hk; cases hx; cases hy
    refine key1 _ _ ⟨rfl, rfl⟩ ⟨rfl, rfl⟩ fun d => ?_
    simp only [Op.equalIn, Sem.run_bind, run_underlying hu, Result.andThen]; rfl

theorem nilEq_sound {op : BinOp} {t : TypeId} {x : AV} {vx : Value} (xo yo : Operand) (hs : St σ w) (hx : Rel σ w x vx) (h : aNilEq P op t x σ k) :
    SemOK P (do eqGuard op t xo yo vx (.slice none 0 0); Go.binOp op t vx (.slice none 0 0)) σ w k := by
  have key : ∀ (tok : Tok) (rows : List (List AV)) (a : Option Addr) (n cap : Nat), Rel σ w (.slice tok rows) (.slice a n cap) → (tyElem P t).isSome = true →
      (∀ d, (Op.equalIn (d + 2) t (.slice a n cap) (.slice none 0 0)).run P w = .ok a.isNone w) ∧ (a.isNone = true → rows.flatten = []) := by
    intro tok rows a n cap hr h0
    obtain ⟨⟨e, es, by'⟩, he⟩ := Option.isSome_iff_exists.1 h0
    have hu := (elem_spec he).1
    have one : ∀ d, (Op.equalIn (d + 1) t (.slice a n cap) (.slice none 0 0)).run P w = .ok a.isNone w := fun d => by
      simp only [Op.equalIn, Sem.run_bind, run_underlying hu, Result.andThen]
      cases a <;> rfl
    refine ⟨fun d => one (d + 1), fun ha => ?_⟩
    · cases a with
      | some _ => cases ha
      | none =>
        cases hr with
        | slice _ _ _ _ _ es us hn hcap hes ht hc hrel =>
          cases hf : rows.flatten with
          | nil => rfl
          | cons c l =>
            obtain ⟨_, _, hb, _⟩ := hc 0 c (by rw [hf]; rfl)
            cases hb
  unfold aNilEq at h
  split at h
  · rename_i tok rows
    obtain ⟨h0, h⟩ := h
    have hx' := hx
    cases hx with
    | slice _ _ a n cap es us hn hcap hes ht hc hrel =>
      obtain ⟨h1, h2⟩ := key tok rows a n cap hx' h0
      refine SemOK.same hs (v := .bool a.isNone) ?_ (.sc _) (h _ h2)
      have hg : (eqGuard .eql t xo yo (.slice a n cap) (.slice none 0 0)).run P w = .ok () w := rfl
      rw [Sem.run_bind, hg]
      simp only [Result.andThen, Go.binOp, Sem.run_bind, equal_step h1, Sem.run_pure]
  · rename_i tok rows
    obtain ⟨h0, h⟩ := h
    have hx' := hx
    cases hx with
    | slice _ _ a n cap es us hn hcap hes ht hc hrel =>
      obtain ⟨h1, h2⟩ := key tok rows a n cap hx' h0
      refine SemOK.same hs (v := .bool !a.isNone) ?_ (.sc _) (h _ h2)
      have hg : (eqGuard .neq t xo yo (.slice a n cap) (.slice none 0 0)).run P w = .ok () w := rfl
      rw [Sem.run_bind, hg]
      simp only [Result.andThen, Go.binOp, Sem.run_bind, equal_step h1, Sem.run_pure]
  · exact h.elim

theorem bin_sound {op : BinOp} {t : TypeId} {x y : AV} {vx vy : Value} (xo yo : Operand) (hs : St σ w) (hx : Rel σ w x vx) (hy : Rel σ w y vy) (h : aBin P op t (isLit xo || isLit yo) x y σ k) :
    SemOK P (do eqGuard op t xo yo vx vy; Go.binOp op t vx vy) σ w k := by
  unfold aBin at h
  split at h
  · rename_i ka a kb b
    cases hx; cases hy
    obtain ⟨rfl, h⟩ := h
    have hg : (eqGuard op t xo yo (.int ka a) (.int ka b)).run P w = .ok () w := by cases op <;> rfl
    split at h
    · rename_i v hv
      refine SemOK.same hs (v := v) ?_ (.sc v) h
      rw [Sem.run_bind, hg]
      simp only [Result.andThen]
      cases op <;> simp only [scInt, Option.some.injEq, Prod.mk.injEq, Bool.true_eq_false, Bool.false_eq_true, and_false, and_true, reduceCtorEq] at hv <;> subst hv <;>
        simp [Go.binOp, Op.intArith, Op.intCmp, Op.intBits] <;>
        first | rfl | (by_cases hh : a = b <;> simp [hh]) | skip
    · rename_i v hv
      obtain ⟨hb, h⟩ := h
      refine SemOK.same hs (v := v) ?_ (.sc v) h
      rw [Sem.run_bind, hg]
      simp only [Result.andThen]
      cases op <;> simp only [scInt, Option.some.injEq, Prod.mk.injEq, Bool.true_eq_false, Bool.false_eq_true, and_false, and_true, reduceCtorEq] at hv <;> subst hv <;>
        simp [Go.binOp, Op.intDiv, hb]
    · exact h.elim
  · rename_i a b
    cases hx; cases hy
    have hg : (eqGuard op t xo yo (.string a) (.string b)).run P w = .ok () w := by cases op <;> rfl
    split at h
    · obtain ⟨hle, h⟩ := h
      refine SemOK.same hs (v := .string (a ++ b)) ?_ (.sc _) h
      rw [Sem.run_bind, hg]
      have hmax : IntKind.i64.max = 9223372036854775807 := by decide
      have : ¬ (((a.size + b.size : Nat) : Int) > IntKind.i64.max) := by rw [hmax]; omega
      simp only [Result.andThen, Go.binOp, Op.stringOp]
      rw [if_neg this]
      rfl
    · split at h
      · rename_i v hv
        refine SemOK.same hs (v := v) ?_ (.sc v) h
        rw [Sem.run_bind, hg]
        simp only [Result.andThen]
        cases op <;> simp only [scStr, Option.some.injEq, reduceCtorEq] at hv <;> subst hv <;> simp [Go.binOp, Op.stringOp, ← str_eq]
      · exact h.elim
  · split at h
    · split at h
      · rename_i r hr
        refine SemOK.same hs (v := .bool r) ?_ (.sc _) h
        exact (eq_sound (P := P) hx hy xo yo hr).1
      · exact h.elim
    · split at h
      · rename_i r hr
        refine SemOK.same hs (v := .bool !r) ?_ (.sc _) h
        exact (eq_sound (P := P) hx hy xo yo hr).2
      · exact h.elim
    · exact h.elim

theorem un_sound {op : UnOp} {x : AV} {v : Value} (hs : St σ w) (hx : Rel σ w x v) (h : aUn op x σ k) : SemOK P (Op.unary op v) σ w k := by
  unfold aUn at h
  split at h
  · cases hx; exact SemOK.same hs (v := .bool !_) (by simp [Op.unary]) (.sc _) h
  · cases hx; exact SemOK.same hs (by simp [Op.unary, Op.intArith]) (.sc _) h
  · exact h.elim

theorem rowsBytes_spec : ∀ {rows : List (List AV)} {bs : List UInt8}, rowsBytes rows = some bs → rows.flatten = bs.map fun b => AV.sc (.int .u8 b.toNat)
  | [], bs, h => by simp only [rowsBytes, Option.some.injEq] at h; subst h; rfl
  | r :: l, bs, h => by
    simp only [rowsBytes] at h
    split at h
    · rename_i b bs' h1 h2
      cases h
      have ih := rowsBytes_spec h2
      unfold rowByte at h1
      split at h1
      · rename_i n
        split at h1
        · rename_i hn
          cases h1
          have e : n = ((UInt8.ofNat n.toNat).toNat : Int) := by simp; omega
          simp only [List.flatten_cons, List.map_cons, ih, List.cons_append, List.nil_append]
          rw [← e]
        · cases h1
      · cases h1
    · cases h

theorem conv_sound {s d : TypeId} {x : AV} {v : Value} (hs : St σ w) (hx : Rel σ w x v) (h : aConv P s d x σ k) : SemOK P (convert s d v) σ w k := by
  unfold aConv at h
  obtain ⟨h0, h⟩ := h
  obtain ⟨ds, hds⟩ := Option.isSome_iff_exists.1 h0
  obtain ⟨us, hus, _⟩ := kd_spec hds
  split at h
  · rename_i ki k' n hk
    cases hx
    exact SemOK.same hs (by cases us <;> simp [convert, run_underlying hus, run_underlying (kd_int hk), Conv.intToInt]) (.sc _) h
  · rename_i b hk
    cases hx
    exact SemOK.same hs (by cases us <;> simp [convert, run_underlying hus, run_underlying (kd_str hk)]) (.sc _) h
  · rename_i t rows hk
    obtain ⟨hb, h⟩ := h
    unfold tyBytes at hb
    split at hb
    · rename_i e hue
      split at hb
      · rename_i hu8
        split at h
        · rename_i bs hbs
          have hfl := rowsBytes_spec hbs
          cases hx with
          | slice _ _ a n cap es us hn hcap hes ht hc hr =>
            have hlen : ∀ {rows : List (List AV)} {bs : List UInt8}, rowsBytes rows = some bs → rows.length = bs.length := by
              intro rows
              induction rows with
              | nil => intro bs h; simp only [rowsBytes, Option.some.injEq] at h; subst h; rfl
              | cons r l ih =>
                intro bs h
                simp only [rowsBytes] at h
                split at h
                · rename_i b bs' h1 h2; cases h; simp [ih h2]
                · cases h
            obtain rfl : n = bs.length := by rw [← hn, hlen hbs]
            refine SemOK.same hs (v := .string ⟨bs.toArray⟩) ?_ (.sc _) h
            cases a with
            | none =>
              have : bs = [] := by
                cases bs with
                | nil => rfl
                | cons b bs =>
                  obtain ⟨_, _, ha, _⟩ := hc 0 (.sc (.int .u8 b.toNat)) (by rw [hfl]; rfl)
                  cases ha
              subst this
              simp [convert, run_underlying hue, run_underlying hu8, run_underlying (kd_str hk), Conv.bytesToString]
              rfl
            | some a =>
              by_cases hz : bs = []
              · subst hz
                rw [run_convert_bytes_back w s d e a cap [] hue hu8 (kd_str hk) (fun j hj => by simp at hj)]
              · obtain ⟨b0, off0, ha, -, -⟩ := hc 0 (.sc (.int .u8 (bs.head hz).toNat)) (by rw [hfl]; cases bs with | nil => exact absurd rfl hz | cons _ _ => rfl)
                cases ha
                rw [run_convert_bytes_back w s d e _ cap bs hue hu8 (kd_str hk) (fun j hj => ?_)]
                have hj' : rows.flatten[j]? = some (AV.sc (.int .u8 bs[j].toNat)) := by rw [hfl]; simp [hj]
                obtain ⟨b1, off1, ha, -, hcell⟩ := hc j _ hj'
                cases ha
                have := hr j _ hj'
                generalize us j = u at this hcell
                cases this
                rw [add_at]
                exact hcell
        · exact h.elim
      · cases hb
    · cases hb
  · exact h.elim

theorem fieldAddr_sound {s : TypeId} {x : AV} {v : Value} {f : Nat} (hs : St σ w) (hx : Rel σ w x v) (h : aFieldAddr P s x f σ k) : SemOK P (Instr.fieldAt s v f) σ w k := by
  unfold aFieldAddr at h
  split at h
  · rename_i t off sz hf
    unfold tyField at hf
    split at hf
    · rename_i fs hu
      split at hf
      · rename_i fd hfd
        split at hf
        · rename_i i hi
          split at hf
          · cases hf
          · rename_i hne
            simp only [Option.some.injEq, Prod.mk.injEq] at hf
            obtain ⟨rfl, rfl, rfl⟩ := hf
            have hsz : ∀ w, (sizeOf fd.type).run P w = .ok i.size w := run_sizeOf (by simp [tySize, hi])
            have hrun : ∀ b o, (Instr.fieldAt s (.pointer (some ⟨b, o, none⟩)) f).run P w = .ok (.pointer (some ⟨b, o + fd.offset, none⟩)) w := by
              intro b o
              simp [Instr.fieldAt, run_underlying hu, hfd, Instr.sureAddr, fieldPlace, hsz, hne, add_at]
            split at h
            · cases hx; exact SemOK.same hs (hrun _ _) (.ptr _ _) h
            · cases hx with
              | iptr _ _ b base us hc hr =>
                refine SemOK.same hs (hrun _ _) ?_ h
                rw [Nat.add_assoc]
                exact .iptr _ _ b base us hc hr
            · exact h.elim
        · cases hf
      · cases hf
    · cases hf
  · exact h.elim

theorem field_sound {s : TypeId} {x : AV} {v : Value} {f : Nat} (hs : St σ w) (hx : Rel σ w x v) (h : aField P s x f σ k) : SemOK P (Instr.field s v f) σ w k := by
  unfold aField at h
  split at h
  · rename_i t off sz cs hf
    split at h
    · rename_i r hr
      unfold tyField at hf
      split at hf
      · rename_i fs hu
        split at hf
        · rename_i fd hfd
          split at hf
          · rename_i i hi
            split at hf
            · cases hf
            · simp only [Option.some.injEq, Prod.mk.injEq] at hf
              obtain ⟨rfl, rfl, rfl⟩ := hf
              cases hx with
              | agg _ vs hl hrel =>
                unfold loadAV at hr
                cases ha : tyAgg P fd.type with
                | none => rw [ha] at hr; cases hr
                | some g =>
                  rw [ha] at hr
                  cases g with
                  | false =>
                    have hlt : fd.offset < vs.size := by rw [← hl]; exact (List.getElem?_eq_some_iff.1 hr).1
                    refine SemOK.same hs (v := vs[fd.offset]) ?_ (hrel fd.offset r _ hr (by simp [hlt])) h
                    simp [Instr.field, run_underlying hu, hfd, asAgg, part, run_isAgg ha, hlt]
                  | true =>
                    cases hz : tySize P fd.type with
                    | none => rw [hz] at hr; cases hr
                    | some n =>
                      rw [hz] at hr
                      simp only at hr
                      split at hr
                      · rename_i hle
                        cases hr
                        refine SemOK.same hs (v := .agg (vs.extract fd.offset (fd.offset + n))) ?_ (.agg _ _ (by simp; omega) fun i c v hc hv => ?_) h
                        · simp [Instr.field, run_underlying hu, hfd, asAgg, part, run_isAgg ha, run_sizeOf hz]
                        · simp only [List.getElem?_take, List.getElem?_drop] at hc
                          split at hc
                          · rename_i hlt
                            rw [Array.getElem?_extract_of_lt (by have := (List.getElem?_eq_some_iff.1 hc).1; omega)] at hv
                            exact hrel _ c v hc (by simpa [show fd.offset + i < vs.size by have := (List.getElem?_eq_some_iff.1 hc).1; omega] using hv)
                          · cases hc
                      · cases hr
          · cases hf
        · cases hf
      · cases hf
    · exact h.elim
  · exact h.elim

/-! ### slices -/
theorem flatten_get : ∀ (rows : List (List AV)) (es i j : Nat) (r : List AV) (c : AV), (∀ r ∈ rows, r.length = es) → rows[i]? = some r → r[j]? = some c →
    rows.flatten[i * es + j]? = some c
  | [], _, _, _, _, _, _, h, _ => by simp at h
  | r0 :: rows, es, 0, j, r, c, hes, h, hj => by
    simp at h; subst h
    have hlt : j < r0.length := (List.getElem?_eq_some_iff.1 hj).1
    simp only [Nat.zero_mul, Nat.zero_add, List.flatten_cons]
    rw [List.getElem?_append_left hlt]
    exact hj
  | r0 :: rows, es, i + 1, j, r, c, hes, h, hj => by
    have h0 : r0.length = es := hes r0 (by simp)
    simp only [List.getElem?_cons_succ] at h
    have ih := flatten_get rows es i j r c (fun r hr => hes r (by simp [hr])) h hj
    simp only [List.flatten_cons, List.getElem?_append]
    rw [if_neg (by rw [h0, Nat.succ_mul]; omega), h0, Nat.succ_mul, show i * es + es + j - es = i * es + j by omega]
    exact ih

theorem length_flatten_of (es : Nat) : ∀ (rows : List (List AV)), (∀ r ∈ rows, r.length = es) → rows.flatten.length = rows.length * es
  | [], _ => by simp
  | r :: rows, h => by
    rw [List.flatten_cons, List.length_append, length_flatten_of es rows (fun r hr => h r (by simp [hr])), h r (by simp), List.length_cons, Nat.succ_mul]; omega

theorem flatten_drop (es l : Nat) : ∀ (rows : List (List AV)) , (∀ r ∈ rows, r.length = es) → ∀ p, (rows.drop l).flatten[p]? = rows.flatten[l * es + p]? := by
  induction l with
  | zero => intro rows _ p; simp
  | succ l ih =>
    intro rows h p
    cases rows with
    | nil => simp
    | cons r rows =>
      simp only [List.drop_succ_cons, List.flatten_cons]
      rw [ih rows (fun r hr => h r (by simp [hr])) p, List.getElem?_append, h r (by simp), if_neg (by rw [Nat.succ_mul]; omega), Nat.succ_mul]
      congr 1; omega

theorem flatten_take_get (l : Nat) : ∀ (rows : List (List AV)) (p : Nat) (c : AV), (rows.take l).flatten[p]? = some c → rows.flatten[p]? = some c := by
  intro rows p c h
  have e : rows.flatten = (rows.take l).flatten ++ (rows.drop l).flatten := by rw [← List.flatten_append, List.take_append_drop]
  rw [e, List.getElem?_append, if_pos (List.getElem?_eq_some_iff.1 h).1]
  exact h

theorem indexAddr_sound {t : TypeId} {x i : AV} {vx vi : Value} (hs : St σ w) (hx : Rel σ w x vx) (hi : Rel σ w i vi) (h : aIndexAddr P t x i σ k) :
    SemOK P (Instr.indexAt t vx vi) σ w k := by
  unfold aIndexAddr at h
  split at h
  · rename_i e es bytes tok rows ki n he
    obtain ⟨hu, inf, z, hin, _, hsz, _, _, hpos⟩ := elem_spec he
    cases hi
    obtain ⟨h0, h⟩ := h
    split at h
    · rename_i r hr
      obtain ⟨hlen, h⟩ := h
      cases hx with
      | slice _ _ a nn cap es' us hn hcap hes ht hc hrel =>
        have hmem : r ∈ rows := List.mem_of_getElem? hr
        have hes' : es' = es := by rw [← hes r hmem, hlen]
        subst hes'
        have hlt : n.toNat < rows.length := (List.getElem?_eq_some_iff.1 hr).1
        have hr0 : 0 < r.length := by omega
        obtain ⟨b, off, rfl, _, _⟩ := hc (n.toNat * es' + 0) r[0] (flatten_get rows es' n.toNat 0 r _ hes hr (by simp [hr0]))
        have hsize : ∀ w, (sizeOf e).run P w = .ok es' w := run_sizeOf (by simp [tySize, hin, hsz])
        refine SemOK.same hs (v := .pointer (some ⟨b, off + n.toNat * es', none⟩)) ?_ ?_ h
        · have hb : 0 ≤ n ∧ n < (nn : Int) := by omega
          simp [Instr.indexAt, asIntOf, run_underlying hu, hsize, hb, add_at]
        · have := Rel.iptr (σ := σ) (w := w) r 0 b (off + n.toNat * es') (fun j => us (n.toNat * es' + j)) (fun j c hj => by
            obtain ⟨b', off', e1, h1, h2⟩ := hc (n.toNat * es' + j) c (flatten_get rows es' n.toNat j r c hes hr hj)
            cases e1
            rw [← Nat.add_assoc] at h1 h2
            exact ⟨h1, h2⟩) (fun j c hj => hrel _ c (flatten_get rows es' n.toNat j r c hes hr hj))
          simpa using this
    · exact h.elim
  · exact h.elim

theorem index_sound {t : TypeId} {x i : AV} {vx vi : Value} (hs : St σ w) (hx : Rel σ w x vx) (hi : Rel σ w i vi) (h : aIndex P t x i σ k) :
    SemOK P (Instr.index t vx vi) σ w k := by
  unfold aIndex at h
  split at h
  · rename_i s ki n
    cases hx; cases hi
    obtain ⟨hk, h0, h⟩ := h
    split at h
    · rename_i b hb
      refine SemOK.same hs (v := .int .u8 b.toNat) ?_ (.sc _) h
      have hlt : n.toNat < s.size := by have := (List.getElem?_eq_some_iff.1 hb).1; simpa using this
      have hb' : s[n.toNat]? = some b := by
        have h1 := (List.getElem?_eq_some_iff.1 hb).2
        simp only [Array.getElem_toList] at h1
        rw [getElem?_pos s n.toNat hlt]
        exact congrArg some h1
      simp [Instr.index, asIntOf, run_underlying (kd_str hk), h0, hb']
    · exact h.elim
  · exact h.elim

theorem extract_sound {x : AV} {v : Value} {i : Nat} (hs : St σ w) (hx : Rel σ w x v) (h : aExtract x i σ k) : SemOK P (Instr.extract v i) σ w k := by
  unfold aExtract at h
  split at h
  · split at h
    · rename_i vs r hr
      cases hx with
      | tuple _ us hl hrel =>
        have hlt : i < us.size := by rw [← hl]; exact (List.getElem?_eq_some_iff.1 hr).1
        exact SemOK.same hs (v := us[i]) (by simp [Instr.extract, hlt]) (hrel i r _ hr (by simp [hlt])) h
    · exact h.elim
  · exact h.elim

end Go.Aw
