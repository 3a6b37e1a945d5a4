/- Calls are sound over abstract values. -/
import Derived.Test.YtcjiebgnccaogaaDoorSound5
set_option linter.unusedSimpArgs false
set_option linter.unusedVariables false
namespace Go.Aw
open Go
variable {P : Program} {σ : Sto} {w : World} {k : AV → Sto → Prop}

theorem relL_map {env : Env} {a : Act} (he : EnvR σ w env a) (xs : Array Operand) : RelL σ w (xs.toList.map (ev env)) (xs.map a.eval) := by
  refine ⟨by simp, fun i c v hc hv => ?_⟩
  simp only [List.getElem?_map, Array.getElem?_map, Array.getElem?_toList] at hc hv
  cases hx : xs[i]? with
  | none => rw [hx] at hc; cases hc
  | some x =>
    rw [hx] at hc hv
    simp only [Option.map_some, Option.some.injEq] at hc hv
    subst hc; subst hv
    exact rel_ev he x

theorem RelL.cat {cs cs' : List AV} {vs vs' : Array Value} (h : RelL σ w cs vs) (h' : RelL σ w cs' vs') : RelL σ w (cs ++ cs') (vs ++ vs') := by
  have := RelL.append (cs := cs) (cs' := cs') (vs := vs.toList) (vs' := vs'.toList) (by simpa using h) (by simpa using h')
  rwa [show (vs.toList ++ vs'.toList).toArray = vs ++ vs' from by apply Array.ext'; simp] at this

theorem two_args {cs : List AV} {vs : Array Value} {x y : AV} (h : RelL σ w cs vs) (hc : cs = [x, y]) : ∃ vx vy, vs = #[vx, vy] ∧ Rel σ w x vx ∧ Rel σ w y vy := by
  subst hc
  obtain ⟨hl, hr⟩ := h
  match hvs : vs.toList, hl with
  | [a, b], _ =>
    have e : vs = #[a, b] := by cases vs; simp at hvs; rw [hvs]
    subst e
    exact ⟨a, b, rfl, hr 0 x a rfl rfl, hr 1 y b rfl rfl⟩
  | [], hl => rw [← Array.length_toList, hvs] at hl; cases hl
  | [_], hl => rw [← Array.length_toList, hvs] at hl; cases hl
  | _ :: _ :: _ :: _, hl => rw [← Array.length_toList, hvs] at hl; simp at hl

theorem one_arg {cs : List AV} {vs : Array Value} {x : AV} (h : RelL σ w cs vs) (hc : cs = [x]) : ∃ vx, vs = #[vx] ∧ Rel σ w x vx := by
  subst hc
  obtain ⟨hl, hr⟩ := h
  match hvs : vs.toList, hl with
  | [a], _ =>
    have e : vs = #[a] := by cases vs; simp at hvs; rw [hvs]
    subst e
    exact ⟨a, rfl, hr 0 x a rfl rfl⟩
  | [], hl => rw [← Array.length_toList, hvs] at hl; cases hl
  | _ :: _ :: _, hl => rw [← Array.length_toList, hvs] at hl; simp at hl

theorem types_of {xs : Array TypeId} {l : List TypeId} (h : xs.toList = l) : xs = l.toArray := by cases xs; simp at h; rw [h]

theorem builtin_sound {b : Builtin} {ts : Array TypeId} {ty : TypeId} {consts : Array Bool} {args : List AV} {vs : Array Value} (hs : St σ w) (hr : RelL σ w args vs)
    (h : aBuiltin P b ts.toList args σ k) :
    ∃ (v : Value) (r : AV) (σ' : Sto) (w' : World), (builtin b ts ty consts vs).run P w = .ok (.value v) w' ∧ k r σ' ∧ St σ' w' ∧ Rel σ' w' r v ∧ Ext σ w σ' w' := by
  have lift : ∀ (s : Sem Value), builtin b ts ty consts vs = (do pure (.value (← s))) → SemOK P s σ w k →
      ∃ (v : Value) (r : AV) (σ' : Sto) (w' : World), (builtin b ts ty consts vs).run P w = .ok (.value v) w' ∧ k r σ' ∧ St σ' w' ∧ Rel σ' w' r v ∧ Ext σ w σ' w' := by
    intro s he ⟨v, r, σ', w', h1, h2, h3, h4, h5⟩
    exact ⟨v, r, σ', w', by rw [he, Sem.run_bind, h1]; rfl, h2, h3, h4, h5⟩
  unfold aBuiltin at h
  split at h
  · rename_i t tok rows hts
    obtain ⟨h0, hk⟩ := h
    obtain ⟨⟨e, es, by'⟩, he⟩ := Option.isSome_iff_exists.1 h0
    obtain ⟨vx, rfl, hx⟩ := one_arg hr rfl
    refine lift _ rfl ?_
    rw [types_of hts]
    cases hx with
    | slice _ _ a n cap es' us hn hcap hes ht hc hrel =>
      exact SemOK.same hs (v := .int .i64 n) (by simp [Builtin.len_, run_underlying (elem_spec he).1, goInt]) (by rw [hn]; exact .sc _) hk
  · rename_i t s hts
    obtain ⟨h0, hk⟩ := h
    obtain ⟨vx, rfl, hx⟩ := one_arg hr rfl
    refine lift _ rfl ?_
    rw [types_of hts]
    cases hx
    exact SemOK.same hs (v := .int .i64 s.size) (by simp [Builtin.len_, run_underlying (kd_str h0), goInt]) (.sc _) hk
  · obtain ⟨vx, vy, rfl, hx, hy⟩ := two_args hr rfl
    refine lift _ rfl ?_
    cases hx; cases hy
    exact SemOK.same hs (by simp [Builtin.min_, Builtin.min2]) (.sc _) h
  · obtain ⟨vx, vy, rfl, hx, hy⟩ := two_args hr rfl
    refine lift _ rfl ?_
    cases hx; cases hy
    exact SemOK.same hs (by simp [Builtin.max_, Builtin.max2]) (.sc _) h
  · rename_i t u x y hts
    obtain ⟨vx, vy, rfl, hx, hy⟩ := two_args hr rfl
    refine lift _ rfl ?_
    rw [types_of hts]
    exact append_sound hs hx hy h
  · exact h.elim

theorem parts_map {env : Env} {a : Act} (he : EnvR σ w env a) (ps : Array (Nat × Operand)) :
    Parts σ w (ps.toList.map fun p => (p.1, ev env p.2)) (ps.map fun (p : Nat × Operand) => (p.1, a.eval p.2)).toList := by
  refine ⟨by simp, fun j p q hp hq => ?_⟩
  simp only [Array.toList_map, List.getElem?_map] at hp hq
  cases hx : ps.toList[j]? with
  | none => rw [hx] at hp; cases hp
  | some x =>
    rw [hx] at hp hq
    simp only [Option.map_some, Option.some.injEq] at hp hq
    subst hp; subst hq
    exact ⟨rfl, rel_ev he x.2⟩

theorem opt_map {env : Env} {a : Act} (he : EnvR σ w env a) (x : Option Operand) :
    (x.map (ev env) = none ∧ x.map a.eval = none) ∨ ∃ c v, x.map (ev env) = some c ∧ x.map a.eval = some v ∧ Rel σ w c v := by
  cases x with
  | none => exact .inl ⟨rfl, rfl⟩
  | some x => exact .inr ⟨_, _, rfl, rfl, rel_ev he x⟩

theorem OpOK.wp {o : Oper} {a : Act} {next : Act → World → Prop} {QQ : Exit → Act → World → Prop} (h : OpOK P o σ w a k)
    (hn : ∀ v r σ' w', k r σ' → St σ' w' → Rel σ' w' r v → Ext σ w σ' w' → next (a.put o.dst v) w') : o.wp P a w next QQ := by
  obtain ⟨v, r, σ', w', hr, hk, h1, h2, h3⟩ := h
  unfold Oper.wp
  rcases hr with hr | ⟨hr, rfl⟩
  · rw [hr]; exact hn v r σ' w' hk h1 h2 h3
  · rw [hr]; exact hn undef r σ' w' hk h1 h2 h3

theorem callable_spec {f : FuncId} (h : callable P f = true) (vs : Array Value) (w : World) : (callFunc f vs).run P w = .ok (.enter f vs) w := by
  unfold callable at h
  cases hf : P.funcs[f]? with
  | none => rw [hf] at h; cases h
  | some fn =>
    rw [hf] at h
    simp only [Bool.and_eq_true, Bool.not_eq_true'] at h
    have hb : fn.body.isNone = false := by cases hb : fn.body <;> simp_all
    simp only [callFunc, Sem.run_bind, run_program, Result.andThen, hf, h.2, hb, Bool.false_eq_true, if_false, Sem.run_pure]

theorem aop_wp {o : Oper} {env : Env} {a : Act} {next : Act → World → Prop} {QQ : Exit → Act → World → Prop} (hs : St σ w) (he : EnvR σ w env a) (h : aop P o env σ k)
    (hn : ∀ v r σ' w', k r σ' → St σ' w' → Rel σ' w' r v → Ext σ w σ' w' → next (a.put o.dst v) w') : o.wp P a w next QQ := by
  have fin : ∀ (s : Sem Value), execOp a.eval o = (do pure (.value (← s))) → SemOK P s σ w k → o.wp P a w next QQ :=
    fun s h1 h2 => (OpOK.of_sem h1 h2).wp hn
  unfold aop at h
  split at h <;> rename_i ho
  case h_1 x => exact (OpOK.same (v := a.eval x) hs (by simp [execOp, ho]) (rel_ev he x) h).wp hn
  case h_2 x => exact (OpOK.same (v := a.eval x) hs (by simp [execOp, ho]) (rel_ev he x) h).wp hn
  case h_3 c x y =>
    split at h
    · rename_i t ht
      have hc := rel_ev he c
      rw [ht] at hc
      generalize hcv : a.eval c = vc at hc
      cases hc
      refine (OpOK.same (v := if t then a.eval x else a.eval y) hs (by simp [execOp, ho, hcv, asBool]) ?_ h).wp hn
      cases t
      · exact rel_ev he y
      · exact rel_ev he x
    · exact h.elim
  case h_4 t => exact fin _ (by simp only [execOp, ho]) (allocOp_sound hs h)
  case h_5 t x => exact fin (Instr.box t (a.eval x)) (by simp only [execOp, ho]) (box_sound hs (rel_ev he x) h)
  case h_6 t ps => exact fin _ (by simp only [execOp, ho]) (build_sound hs (parts_map he ps) h)
  case h_7 t n ps => exact fin _ (by simp only [execOp, ho]) (buildSlice_sound hs (parts_map he ps) h)
  case h_8 t x => exact fin _ (by simp only [execOp, ho]) (load_sound hs (rel_ev he x) h)
  case h_9 t x y =>
    obtain ⟨σ', w', hr, hk, h1, h2⟩ := store_sound hs (rel_ev he x) (rel_ev he y) h
    exact (show OpOK P o σ w a k from ⟨undef, .any, σ', w', .inr ⟨by simp [execOp, ho, hr], rfl⟩, hk, h1, .any _, h2⟩).wp hn
  case h_10 x =>
    have hx := rel_ev he x
    unfold aNil at h
    split at h
    · rename_i hv; rw [hv] at hx; generalize hc : a.eval x = vc at hx; cases hx
      exact (OpOK.same (v := .pointer _) hs (by simp [execOp, ho, hc]) (.ptr _ _) h).wp hn
    · rename_i hv; rw [hv] at hx; generalize hc : a.eval x = vc at hx
      have hx' := hx
      cases hx
      exact (OpOK.same (v := .pointer _) hs (by simp [execOp, ho, hc]) hx' h).wp hn
    · rename_i hv; rw [hv] at hx; generalize hc : a.eval x = vc at hx
      have hx' := hx
      cases hx
      exact (OpOK.same (v := .func _ _ _) hs (by simp [execOp, ho, hc]) hx' h).wp hn
    · exact h.elim
  case h_11 op t x y _ =>
    split at h
    · rename_i hy
      have hy' : y = .const (.slice none 0 0) := by
        unfold isNil at hy
        split at hy
        · rfl
        · cases hy
      subst hy'
      exact fin _ (by simp only [execOp, ho]; rfl) (nilEq_sound x (.const (.slice none 0 0)) hs (rel_ev he x) h)
    · exact fin _ (by simp only [execOp, ho]) (bin_sound x y hs (rel_ev he x) (rel_ev he y) h)
  case h_12 op t x => exact fin _ (by simp only [execOp, ho]) (un_sound hs (rel_ev he x) h)
  case h_13 s d x => exact fin _ (by simp only [execOp, ho]) (conv_sound hs (rel_ev he x) h)
  case h_14 t x =>
    obtain ⟨h1, h2, h⟩ := h
    refine fin (Instr.makeInterface t (a.eval x)) (by simp only [execOp, ho]) (SemOK.same hs (v := .iface t (a.eval x)) ?_ (.iface t _ _ (rel_ev he x)) h)
    cases hk : tyKd P t with
    | none => exact absurd hk h1
    | some d =>
      obtain ⟨u, hu, hd⟩ := kd_spec hk
      rw [hk] at h2
      simp only [Instr.makeInterface, Sem.run_bind, run_underlying hu, Result.andThen]
      cases u <;> first | rfl | skip
      simp only at hd
      subst hd
      exact absurd rfl h2
  case h_15 fn first cap =>
    have h1 := relL_map he first
    have h2 := relL_map he cap
    exact fin (Instr.makeFunc fn (first.map a.eval) (cap.map a.eval)) (by simp only [execOp, ho]) (SemOK.same hs (v := .func fn (first.map a.eval) (cap.map a.eval)) rfl (.func fn _ _ _ _ h1.1 h2.1 h1.2 h2.2) h)
  case h_16 t x lo hi mx => exact fin _ (by simp only [execOp, ho]) (slice_sound hs (rel_ev he x) (opt_map he lo) (opt_map he hi) (opt_map he mx) h)
  case h_17 s x f => exact fin _ (by simp only [execOp, ho]) (fieldAddr_sound hs (rel_ev he x) h)
  case h_18 s x f => exact fin _ (by simp only [execOp, ho]) (field_sound hs (rel_ev he x) h)
  case h_19 t x i => exact fin _ (by simp only [execOp, ho]) (indexAddr_sound hs (rel_ev he x) (rel_ev he i) h)
  case h_20 t x i => exact fin _ (by simp only [execOp, ho]) (index_sound hs (rel_ev he x) (rel_ev he i) h)
  case h_21 x i => exact fin _ (by simp only [execOp, ho]) (extract_sound hs (rel_ev he x) h)
  case h_22 c =>
    unfold aCall at h
    split at h
    · rename_i b hcal
      obtain ⟨v, r, σ', w', hr, hk, h1, h2, h3⟩ := builtin_sound (ty := o.type) (consts := c.args.map fun | .const _ => true | _ => false) hs (relL_map he c.args) h
      refine (show OpOK P o σ w a k from ⟨v, r, σ', w', .inl ?_, hk, h1, h2, h3⟩).wp hn
      simp only [execOp, ho, resolve, hcal, Sem.run_bind, Sem.run_pure, Result.andThen, invoke]
      exact hr
    · rename_i f hcal
      split at h
      · rename_i id first captured hf
        obtain ⟨hcall, h⟩ := h
        have hfr := rel_ev he f
        rw [hf] at hfr
        generalize hfv : a.eval f = vf at hfr
        cases hfr with
        | func _ _ _ v1 v2 hl hl' hh hh' =>
          have hargs := RelL.cat (RelL.cat ⟨hl, hh⟩ (relL_map he c.args)) ⟨hl', hh'⟩
          have hc := h w _ hs hargs
          unfold Oper.wp
          have hrun : (execOp a.eval o).run P w = .ok (.enter id (v1 ++ c.args.map a.eval ++ v2)) w := by
            simp only [execOp, ho, resolve, hcal, hfv, Deferred.ofValue, Sem.run_bind, Sem.run_pure, Result.andThen, invoke]
            exact callable_spec hcall _ _
          rw [hrun]
          refine Calls.mono hc ?_
          rintro e w' ⟨v, r, σ', rfl, hk, h1, h2, h3⟩
          exact hn v r σ' w' hk h1 h2 h3
      · exact h.elim
    · exact h.elim
  case h_23 => exact h.elim

end Go.Aw
