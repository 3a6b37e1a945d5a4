/- The weakest precondition over abstract values is sound for code. -/
import Derived.Test.YtkbpnnbdfikjhaaGreatK04CodeA
import Derived.ScopeJumps
set_option linter.unusedSimpArgs false
set_option linter.unusedVariables false
namespace Go.Aw
open Go
variable {P : Program}

theorem draws_sound {N : Nat} {ro : Option Nat} {m : Nat} {rd st : List Nat} {lb : Nat} {ops : Array Oper} {QQ : Exit → Act → World → Prop} : ∀ (n : Nat) (l : List Nat) (listed : Array Bool) (env : Env) (σ : Sto) (K : Env → Sto → Prop) (w : World) (a : Act),
    l.length = n → (∀ i, i ∈ l ↔ i < ops.size ∧ listed.getD i true = false) → listed.size = ops.size → drawL rd st ops l = true →
    aopsI P rd st lb ops l env σ K → St σ w → EnvR N σ w env a → (∀ env' σ' a' w', K env' σ' → St σ' w' → EnvR N σ' w' env' a' → Ext σ w σ' w' → QQ .normal a' w') →
    wpAnyIn (FW ro) m P .any ops QQ n listed a w := by
  intro n
  induction n with
  | zero =>
    intro l listed env σ K w a hl hmem hsz hd h hs he hk
    have : l = [] := List.eq_nil_of_length_eq_zero hl
    subst this
    refine ⟨?_, hk env σ a w h hs he (Ext.refl σ w)⟩
    cases hr : Region.ready .any ops listed with
    | nil => rfl
    | cons x xs =>
      have hx : x ∈ Region.ready .any ops listed := by rw [hr]; simp
      obtain ⟨h0, o, ho, _⟩ := mem_ready.1 hx
      have := (hmem x).2 ⟨(Array.getElem?_eq_some_iff.1 ho).1, h0⟩
      cases this
  | succ n ih =>
    intro l listed env σ K w a hl hmem hsz hd h hs he hk
    refine ⟨fun hr => ?_, fun i hi => ?_⟩
    · -- the first of the list is ready
      exfalso
      match l, hl with
      | j :: l, _ =>
        have hj := (hmem j).1 (by simp)
        simp only [drawL, Bool.and_eq_true] at hd
        obtain ⟨⟨_, h4⟩, _⟩ := hd
        have : j ∈ Region.ready .any ops listed := by
          refine mem_ready.2 ⟨hj.2, ?_⟩
          cases ho : ops[j]? with
          | none => rw [ho] at h4; simp at h4
          | some o =>
            rw [ho] at h4
            refine ⟨o, rfl, fun e he hb => ?_⟩
            simp only at h4
            rw [Array.all_eq_true'] at h4
            have h5 := h4 e he
            simp only [hb, Bool.not_true, Bool.false_or, Bool.and_eq_true, Bool.not_eq_true', List.contains_eq_mem, decide_eq_false_iff_not, bne_iff_ne, ne_eq, decide_eq_true_eq] at h5
            have hn : ¬ e.on ∈ j :: l := by simp; exact ⟨h5.1.2, h5.1.1⟩
            have hlt : e.on < listed.size := by rw [hsz]; exact h5.2
            have : listed.getD e.on true ≠ false := fun hh => hn ((hmem e.on).2 ⟨h5.2, hh⟩)
            simp [Array.getD, hlt] at this ⊢
            exact this
        rw [hr] at this; cases this
    · obtain ⟨hun, oi, hoi, hall⟩ := mem_ready.1 hi
      have hil : i ∈ l := (hmem i).2 ⟨(Array.getElem?_eq_some_iff.1 hoi).1, hun⟩
      obtain ⟨pre, post, rfl⟩ := List.append_of_mem hil
      have hnd : ∀ j ∈ pre ++ i :: post, dep ops i j = false := by
        intro j hj
        unfold dep
        rw [hoi]
        simp only
        rw [Bool.eq_false_iff]
        intro hany
        obtain ⟨e, he, hb⟩ := Array.any_eq_true'.1 hany
        simp only [Bool.and_eq_true, beq_iff_eq] at hb
        have h1 := hall e he hb.1
        rw [hb.2] at h1
        have h2 := (hmem j).1 hj
        have hlt : j < listed.size := by rw [hsz]; exact h2.1
        simp [Array.getD, hlt] at h1 h2
        rw [h1] at h2
        exact Bool.noConfusion h2.2
      have hp := pull (P := P) hoi pre (drawL_pair hnd hd) env σ h
      simp only [aopsI, hoi] at hp
      have hni : ¬ i ∈ pre ++ post := by
        have hnodup : ∀ (l : List Nat), drawL rd st ops l = true → l.Nodup := by
          intro l
          induction l with
          | nil => intro _; exact List.nodup_nil
          | cons x l ih =>
            intro h
            simp only [drawL, Bool.and_eq_true] at h
            refine List.nodup_cons.2 ⟨?_, ih h.2⟩
            have := h.1.1.1.2
            simpa using this
        have := hnodup _ hd
        rw [List.nodup_append] at this
        obtain ⟨_, h2, h3⟩ := this
        rw [List.nodup_cons] at h2
        intro hm
        rcases List.mem_append.1 hm with hm | hm
        · exact h3 i hm i (by simp) rfl
        · exact h2.1 hm
      have hrest : ∀ (v : Value) (r : AV) (σ' : Sto) (w' : World), aopsI P rd st lb ops (pre ++ post) (put env oi.dst r) σ' K → St σ' w' → Rel σ' w' r v → Ext σ w σ' w' →
          wpAnyIn (FW ro) m P .any ops QQ n (listed.setIfInBounds i true) (a.put oi.dst v) w' := by
        intro v r σ' w' h1 h2 h3 h4
        refine ih (pre ++ post) _ _ σ' K w' _ (by simp at hl ⊢; omega) (fun x => ?_) (by simp [hsz]) (drawL_erase hnd hd) h1 h2 ((he.mono h4).put h3)
          fun env' σ'' a' w'' k1 k2 k3 k4 => hk env' σ'' a' w'' k1 k2 k3 (h4.trans k4 hs.dom)
        by_cases hx : i = x
        · subst hx
          have hlt : i < listed.size := by rw [hsz]; exact (Array.getElem?_eq_some_iff.1 hoi).1
          simp only [Array.getD_eq_getD_getElem?, Array.getElem?_setIfInBounds_self_of_lt hlt, Option.getD_some, Bool.true_eq_false, and_false, iff_false]
          exact hni
        · rw [getD_set_ne true hx, ← hmem x]
          simp only [List.mem_append, List.mem_cons]
          constructor
          · rintro (h | h)
            · exact .inl h
            · exact .inr (.inr h)
          · rintro (h | rfl | h)
            · exact .inl h
            · exact absurd rfl hx
            · exact .inr h
      have := aopG_wp (P := P) (QQ := QQ) (ro := ro) (n := m) (next := wpAnyIn (FW ro) m P .any ops QQ n (listed.setIfInBounds i true)) hs he (aopGP_aopG hp) (fun v r σ' w' h1 h2 h3 h4 => hrest v r σ' w' h1 h2 h3 h4)
      unfold wpOpIn
      simp only [hoi]
      exact this

/-! ### Code -/
/-- The weakest precondition, reckoned over abstract values. -/
def wpc (P : Program) : Code → (AExit → Env → Sto → Prop) → Env → Sto → Prop
  | .skip, Q, e, σ => Q .normal e σ
  | .region _ ops draw, Q, e, σ => if draw = true then ∃ rd st lb perm, drawOK rd st ops perm = true ∧ aopsI P rd st lb ops perm e σ (Q .normal) else aops P ops ops.toList e σ (Q .normal)
  | .seq a b, Q, e, σ => wpc P a (fun x e σ => match x with
      | .normal => wpc P b Q e σ
      | x => Q x e σ) e σ
  | .cond c a b, Q, e, σ => match ev e c with
    | .sc (.bool t) => if t = true then wpc P a Q e σ else wpc P b Q e σ
    | _ => False
  | .block id c, Q, e, σ => wpc P c (fun x e σ => match x with
      | .exit i => if i = id then Q .normal e σ else Q (.exit i) e σ
      | x => Q x e σ) e σ
  | .loop c, Q, e, σ => ∃ (I : Env → Sto → Prop) (μ : Env → Sto → Nat), I e σ ∧ ∀ e σ, I e σ → wpc P c (fun x e' σ' => match x with
      | .normal => I e' σ' ∧ μ e' σ' < μ e σ
      | x => Q x e' σ') e σ
  | .exit id, Q, e, σ => Q (.exit id) e σ
  | .ret, Q, e, σ => Q .ret e σ
  | .scope c, Q, e, σ => wpc P c (scopeK P c Q) e σ
  | .goto l, Q, e, σ => Q (.goto l) e σ
  | .label _, Q, e, σ => Q .normal e σ
  | .rangeFunc g ps assign body, Q, e, σ => match ev e g with
    | .func (.func f) first captured => callable P f = true ∧ ∀ (l D : Nat) (fn : FuncId), σ l = none → ACalls P f (first ++ [.func (.yield l) [] []] ++ captured) (σ.set l (.loop fn ps assign body D e))
        (fun _ σ' => σ' l = some (.loop fn ps assign body D e) ∧ Q .normal e (σ'.del l))
    | _ => False
  | _, _, _, _ => False

theorem wpc_mono : ∀ (c : Code) (Q Q' : AExit → Env → Sto → Prop) (e : Env) (σ : Sto), (∀ x e σ, Q x e σ → Q' x e σ) → wpc P c Q e σ → wpc P c Q' e σ := by
  intro c
  have hG : ∀ (ops : Array Oper) (l : List Oper) (K K' : Env → Sto → Prop) (e : Env) (σ : Sto), (∀ e σ, K e σ → K' e σ) → aops P ops l e σ K → aops P ops l e σ K' := by
    intro ops l
    induction l with
    | nil => intro K K' e σ hk h; exact hk _ _ h
    | cons o l ih => intro K K' e σ hk h; exact (glike (P := P) ops o e).2.2.1 _ _ _ (fun r s h => ih K K' _ _ hk h) h
  have hI : ∀ (rd st : List Nat) (lb : Nat) (ops : Array Oper) (l : List Nat) (K K' : Env → Sto → Prop) (e : Env) (σ : Sto), (∀ e σ, K e σ → K' e σ) → aopsI P rd st lb ops l e σ K → aopsI P rd st lb ops l e σ K' := by
    intro rd st lb ops l
    induction l with
    | nil => intro K K' e σ hk h; exact hk _ _ h
    | cons i l ih =>
      intro K K' e σ hk h
      simp only [aopsI] at h ⊢
      split at h
      · rename_i o ho; exact (glikeP (P := P) rd st lb ops i o e).2.2.1 _ _ _ (fun r s h => ih K K' _ _ hk h) h
      · exact h.elim
  induction c with
  | region id ops draw =>
    intro Q Q' e σ hq h
    simp only [wpc] at h ⊢
    split
    · rename_i hd; rw [if_pos hd] at h; obtain ⟨rd, st, lb, perm, h1, h2⟩ := h; exact ⟨rd, st, lb, perm, h1, hI _ _ _ _ _ _ _ _ _ (hq .normal) h2⟩
    · rename_i hd; rw [if_neg hd] at h; exact hG _ _ _ _ _ _ (hq .normal) h
  | seq a b iha ihb =>
    intro Q Q' e σ hq h
    simp only [wpc] at h ⊢
    exact iha _ _ e σ (fun x e σ h => by cases x <;> first | exact ihb _ _ _ _ hq h | exact hq _ _ _ h) h
  | cond c a b iha ihb =>
    intro Q Q' e σ hq h
    simp only [wpc] at h ⊢
    split at h
    · split
      · rename_i ht; rw [if_pos ht] at h; exact iha _ _ _ _ hq h
      · rename_i ht; rw [if_neg ht] at h; exact ihb _ _ _ _ hq h
    · exact h.elim
  | block id c ih =>
    intro Q Q' e σ hq h
    simp only [wpc] at h ⊢
    exact ih _ _ e σ (fun x e σ h => by
      cases x with
      | exit i =>
        simp only at h ⊢
        split
        · rename_i hi; rw [if_pos hi] at h; exact hq _ _ _ h
        · rename_i hi; rw [if_neg hi] at h; exact hq _ _ _ h
      | _ => exact hq _ _ _ h) h
  | loop c ih =>
    intro Q Q' e σ hq h
    simp only [wpc] at h ⊢
    obtain ⟨I, μ, h0, h1⟩ := h
    exact ⟨I, μ, h0, fun e σ hI => ih _ _ e σ (fun x e' σ' h => by cases x <;> first | exact h | exact hq _ _ _ h) (h1 e σ hI)⟩
  | scope c ih =>
    intro Q Q' e σ hq h
    simp only [wpc] at h ⊢
    refine ih _ _ _ _ (fun x e σ h => ?_) h
    cases x <;> first | exact hq _ _ _ h | skip
    obtain ⟨h0, rest, h1, h2⟩ := h
    refine ⟨h0, rest, h1, fun N σ0 w0 hN hd w a hs he hx => wp_mono (h2 N σ0 w0 hN hd w a hs he hx) ?_⟩
    rintro e' a' w' ⟨ae, env', σ', rfl, hq', hr⟩
    refine ⟨ae, env', σ', rfl, ?_, hr⟩
    cases ae <;> first | exact hq _ _ _ hq' | exact hq'
  | rangeFunc g ps assign body =>
    intro Q Q' e σ hq h
    simp only [wpc] at h ⊢
    split at h
    · exact ⟨h.1, fun l D fn hl => (h.2 l D fn hl).mono fun _ _ hk => ⟨hk.1, hq _ _ _ hk.2⟩⟩
    · exact h.elim
  | goto l => intro Q Q' e σ hq h; exact hq _ _ _ h
  | skip => intro Q Q' e σ hq h; exact hq _ _ _ h
  | exit id => intro Q Q' e σ hq h; exact hq _ _ _ h
  | ret => intro Q Q' e σ hq h; exact hq _ _ _ h
  | label l => intro Q Q' e σ hq h; exact hq _ _ _ h
  | _ => intro Q Q' e σ hq h; exact h.elim

theorem dull_d {x : Option (List Deferred)} : Dull (.deferred x) := trivial
theorem dull_l {r : Loop} : Dull (.loop r) := trivial
/-! ### Ranges over functions -/
theorem ext_loop {σ σ' : Sto} {w : World} {l : Nat} {fn : FuncId} {ps : Array Tmp} {assign body : Code} {D : Nat} {e : List AV} {r : Loop} (o : Obj) (hl : σ l = some (.loop fn ps assign body D e)) (hr : w.heap[l]? = some (.loop r))
    (h : ∀ b, b ≠ l → σ' b = σ b) : Ext σ w σ' (w.putObj l o) := by
  refine ⟨by rw [World.putObj_size]; exact Nat.le_refl _, fun b _ hn => ?_, fun b m hm => ?_, fun b vs ty fr hv => ?_, rfl, rfl⟩
  · have hne : b ≠ l := fun e => by rw [e, hl] at hn; cases hn
    exact ⟨World.putObj_heap_other hne, (h b hne).trans hn⟩
  · have hne : b ≠ l := fun e => by rw [e, hl] at hm; cases hm
    exact ⟨fun off _ => cell_of_block (World.putObj_heap_other hne), .inr ⟨m, Nat.le_refl _, (h b hne).trans hm⟩⟩
  · have hne : b ≠ l := fun e => by rw [e, hr] at hv; cases hv
    exact ⟨vs, (World.putObj_heap_other hne).trans hv, rfl⟩
theorem St.loop_del {σ : Sto} {w : World} {l : Nat} {fn : FuncId} {ps : Array Tmp} {assign body : Code} {D : Nat} {e : List AV} {r : Loop} (o : Obj) (hs : St σ w) (hl : σ l = some (.loop fn ps assign body D e)) (hr : w.heap[l]? = some (.loop r)) :
    St (σ.del l) (w.putObj l o) ∧ Ext σ w (σ.del l) (w.putObj l o) := by
  have hx : Ext σ w (σ.del l) (w.putObj l o) := ext_loop o hl hr fun b hb => by simp [Sto.del, hb]
  refine ⟨hs.by_blocks hx (fun b o' hb => ?_) fun b o' hb => ?_, hx⟩
  · rw [World.putObj_size]
    simp only [Sto.del] at hb
    split at hb
    · cases hb
    · exact hs.dom b o' hb
  · simp only [Sto.del] at hb
    split at hb
    · cases hb
    · rename_i hne; exact .inl ⟨hb, World.putObj_heap_other hne⟩
theorem St.alloc_free {σ : Sto} {w : World} (hs : St σ w) (o : Obj) : St σ (w.alloc o) ∧ Ext σ w σ (w.alloc o) := by
  have hx := ext_alloc hs o σ (fun _ _ => rfl)
  refine ⟨hs.by_blocks hx (fun b o' hb => ?_) fun b o' hb => .inl ⟨hb, heap_alloc_lt w _ (hs.dom _ _ hb)⟩, hx⟩
  have := hs.dom b o' hb
  simp; omega
theorem St.alloc_loop {σ : Sto} {w : World} (hs : St σ w) {fn : FuncId} {ps : Array Tmp} {assign body : Code} {D : Nat} {e : List AV} {tmps : Array Value}
    (he : e.length = tmps.size) (hr : ∀ (i : Nat) (c : AV) (v : Value), e[i]? = some c → tmps[i]? = some v → Rel σ w c v) :
    St (σ.set w.heap.size (.loop fn ps assign body D e)) (w.alloc (.loop { state := .ready, pending := none, fn, tmps, params := ps, assign, body, defers := D })) ∧
    Ext σ w (σ.set w.heap.size (.loop fn ps assign body D e)) (w.alloc (.loop { state := .ready, pending := none, fn, tmps, params := ps, assign, body, defers := D })) := by
  have hx := ext_alloc hs (.loop { state := .ready, pending := none, fn, tmps, params := ps, assign, body, defers := D }) (σ.set w.heap.size (.loop fn ps assign body D e)) (fun b hb => by simp [Sto.set, hb])
  refine ⟨hs.by_blocks hx (fun b o' hb => ?_) fun b o' hb => ?_, hx⟩
  · by_cases hbe : b = w.heap.size
    · subst hbe; simp
    · simp only [Sto.set, hbe, if_false] at hb; have := hs.dom _ _ hb; simp; omega
  · by_cases hbe : b = w.heap.size
    · subst hbe
      simp only [Sto.set, if_true, Option.some.injEq] at hb
      subst hb
      exact .inr (.inr (.inr (.inr (.inr ⟨_, _, _, _, _, _, rfl, tmps, heap_alloc_at w _, he, fun i c v hc hv => (hr i c v hc hv).mono hx⟩))))
    · simp only [Sto.set, hbe, if_false] at hb
      exact .inl ⟨hb, heap_alloc_lt w _ (hs.dom _ _ hb)⟩

theorem enter_sound {N : Nat} {σ : Sto} {w : World} {env : Env} {a : Act} (hs : St σ w) (he : EnvR N σ w env a) (fn : FuncId) (ps : Array Tmp) (assign body : Code) :
    ∃ (l : Nat) (w1 : World), (Instr.enterLoop fn a.tmps ps assign body none).run P w = .ok (l, [{ target := .collected w.heap.size, args := #[] }]) w1 ∧ σ l = none ∧
      St (σ.set l (.loop fn ps assign body w.heap.size env)) w1 ∧ Ext σ w (σ.set l (.loop fn ps assign body w.heap.size env)) w1 ∧ w1.heap[w.heap.size]? = some (.deferred (some [])) ∧ w.heap.size ≠ l := by
  obtain ⟨hsA, hxA⟩ := hs.alloc_free (.deferred (some []))
  have heA := he.mono hxA
  have hnew := hsA.new
  obtain ⟨hsB, hxB⟩ := hsA.alloc_loop (fn := fn) (ps := ps) (assign := assign) (body := body) (D := w.heap.size) heA.1 heA.2.2
  have hsz : (w.alloc (.deferred (some []))).heap.size = w.heap.size + 1 := by simp
  rw [hsz] at hsB hxB hnew
  refine ⟨w.heap.size + 1, _, run_enterLoop_outer fn a.tmps ps assign body, hnew, hsB, hxA.trans hxB hs.dom, ?_, by omega⟩
  rw [heap_alloc_lt _ _ (by rw [hsz]; omega)]
  exact heap_alloc_at w _

theorem range_run {N : Nat} {σ σ0 : Sto} {w w0 w1 : World} {env : Env} {a : Act} {g : Operand} {ps : Array Tmp} {assign body : Code} {f : FuncId} {v1 v2 : Array Value} {first captured : List AV} {l : Nat} {fn : FuncId}
    {Q : AExit → Env → Sto → Prop} {m : Nat}
    (hd : ∀ b o, σ0 b = some o → b < w0.heap.size) (hN : N ≤ w0.heap.size) (hs : St σ w) (he : EnvR N σ w env a) (hx : Ext σ0 w0 σ w) (hcall : callable P f = true) (hfv : a.eval g = .func (.func f) v1 v2)
    (h1 : RelL σ w first v1) (h2 : RelL σ w captured v2)
    (hent : (Instr.enterLoop fn a.tmps ps assign body none).run P w = .ok (l, [{ target := .collected w.heap.size, args := #[] }]) w1)
    (hsB : St (σ.set l (.loop fn ps assign body w.heap.size env)) w1) (hxB : Ext σ w (σ.set l (.loop fn ps assign body w.heap.size env)) w1) (hDh : w1.heap[w.heap.size]? = some (.deferred (some []))) (hDl : w.heap.size ≠ l) (hfD : σ w.heap.size = none)
    (hk : ACalls P f (first ++ [.func (.yield l) [] []] ++ captured) (σ.set l (.loop fn ps assign body w.heap.size env))
        (fun _ σ' => σ' l = some (.loop fn ps assign body w.heap.size env) ∧ Q .normal env (σ'.del l))) :
    ∃ (l : Nat) (mark : List Deferred) (w₁ : World) (d : Deferred) (w₁' : World) (f : FuncId) (args : Array Value) (w₂ : World),
      (Instr.enterLoop fn a.tmps ps assign body (FW none).round).run P w = .ok (l, mark) w₁ ∧
      (resolve a.eval (rangeCall g l) 0).run P w₁ = .ok d w₁' ∧
      (∀ f', Target.leads P w₁' d.target d.args = some f' → (FW none).fn f') ∧
      (invoke d.target d.args).run P w₁' = .ok (.enter f args) w₂ ∧
      ((FW none).depth.isSome = true → 1 ≤ m) ∧
      CallsIn (FW none) (m - 1) P f args w₂ (rangePost (FW none) m P l (Lift N σ0 w0 Q) (Act.mk a.tmps (mark ++ a.defers))) := by
  have hmid : RelL (σ.set l (.loop fn ps assign body w.heap.size env)) w1 [.func (.yield l) [] []] #[.func (.yield l) #[] #[]] := ⟨rfl, fun i c u hc hu => by
    match i, hc, hu with
    | 0, hc, hu => simp at hc hu; subst hc; subst hu; exact .func _ _ _ _ _ rfl rfl (fun i c v hc => by simp at hc) (fun i c v hc => by simp at hc)
    | i + 1, hc, hu => simp at hc⟩
  have hr12 : RelL (σ.set l (.loop fn ps assign body w.heap.size env)) w1 (first ++ [.func (.yield l) [] []] ++ captured) (v1 ++ #[.func (.yield l) #[] #[]] ++ v2) := RelL.cat (RelL.cat (RelL.mono hxB h1) hmid) (RelL.mono hxB h2)
  have hc := hk w1 (v1 ++ #[.func (.yield l) #[] #[]] ++ v2) hsB hr12
  have hz : (FW none).depth.isSome = true → 1 ≤ m := fun h => by rw [FW_depth] at h; cases h
  have hcc : CallsIn (FW none) (m - 1) P f (v1 ++ #[.func (.yield l) #[] #[]] ++ v2) w1 (rangePost (FW none) m P l (Lift N σ0 w0 Q) (Act.mk a.tmps ([{ target := .collected w.heap.size, args := #[] }] ++ a.defers))) := by
    refine FW_calls (Calls.mono hc ?_)
    rintro e w' ⟨v, r, σ', rfl, ⟨hl1, hQ⟩, hs', hr', hx'⟩
    obtain ⟨tmps', hh1, _, _⟩ := hs'.loop _ _ _ _ _ _ _ hl1
    obtain ⟨hsC, hxC⟩ := hs'.loop_del (.loop { state := .exhausted, pending := none, fn, tmps := tmps', params := ps, assign, body, defers := w.heap.size }) hl1 hh1
    have hxF := (hxB.trans hx' hs.dom).trans hxC hs.dom
    refine ⟨none, _, run_endLoop hh1 (by simp), ⟨.normal, env, _, rfl, hQ, hsC, ⟨he.1, ?_, (he.mono hxF).2.2⟩, hx.trans hxF hd⟩⟩
    have hD1 : (σ.set l (.loop fn ps assign body w.heap.size env)) w.heap.size = none := by simp [Sto.set, hDl, hfD]
    obtain ⟨k1, k2⟩ := hx'.keep w.heap.size (Array.getElem?_eq_some_iff.1 hDh).1 hD1
    obtain ⟨k3, k4⟩ := hxC.keep w.heap.size (Array.getElem?_eq_some_iff.1 (k1.trans hDh)).1 k2
    obtain ⟨m1, m2⟩ := he.2.1
    obtain ⟨m3, m4⟩ := he.2.1.mono hxF
    refine ⟨List.nodup_cons.2 ⟨fun hin => ?_, m1⟩, fun d hdm => ?_⟩
    · obtain ⟨b, hb, _, _, hb3⟩ := m2 _ hin
      have : b = w.heap.size := by
        injection hb with e1 _
        injection e1 with e1
        exact e1.symm
      subst this
      have := (Array.getElem?_eq_some_iff.1 hb3).1
      omega
    · rcases List.mem_cons.1 hdm with rfl | hdm
      · exact ⟨w.heap.size, rfl, Nat.le_trans hN hx.size, k4, k3.trans (k1.trans hDh)⟩
      · exact m4 d hdm
  have hent' : (Instr.enterLoop fn a.tmps ps assign body (FW none).round).run P w = .ok (l, [{ target := .collected w.heap.size, args := #[] }]) w1 := by rw [FW_round]; exact hent
  obtain ⟨d0, hres, hinv⟩ : ∃ d0 : Deferred, (resolve a.eval (rangeCall g l) 0).run P w1 = .ok d0 w1 ∧ (invoke d0.target d0.args).run P w1 = .ok (.enter f (v1 ++ #[.func (.yield l) #[] #[]] ++ v2)) w1 := by
    refine ⟨⟨.fn (.func f) v2, v1 ++ #[.func (.yield l) #[] #[]]⟩, ?_, ?_⟩
    · simp only [resolve, rangeCall, hfv, Deferred.ofValue, Sem.run_bind, Sem.run_pure, Result.andThen]
      simp [Act.eval]
    · simp only [invoke]
      exact callable_spec hcall _ _
  refine ⟨l, [{ target := .collected w.heap.size, args := #[] }], w1, d0, w1, f, v1 ++ #[.func (.yield l) #[] #[]] ++ v2, w1, ?_, ?_, ?_, ?_, ?_, ?_⟩
  · exact hent'
  · exact hres
  · intro f' _; exact FW_fn none f'
  · exact hinv
  · exact hz
  · exact hcc

/-- code without scopes and without ranges over functions -/
def plainC : Code → Bool
  | .seq a b => plainC a && plainC b
  | .cond _ a b => plainC a && plainC b
  | .block _ c => plainC c
  | .loop c => plainC c
  | .scope _ => false
  | .rangeFunc _ _ _ _ => false
  | _ => true

theorem wpc_soundIn (hm : P.follows .mixedOrders = true) (ro : Option Nat) (m : Nat) : ∀ (c : Code) (Q : AExit → Env → Sto → Prop) (env : Env) (σ : Sto), (ro = none ∨ plainC c = true) → wpc P c Q env σ →
    ∀ (N : Nat) (σ0 : Sto) (w0 : World), N ≤ w0.heap.size → (∀ b o, σ0 b = some o → b < w0.heap.size) → ∀ (w : World) (a : Act), St σ w → EnvR N σ w env a → Ext σ0 w0 σ w → c.wpIn (FW ro) m P (Lift N σ0 w0 Q) a w := by
  intro c
  induction c with
  | skip => intro Q env σ hp h N σ0 w0 hN hd w a hs he hx; exact wpIn_skip ⟨.normal, env, σ, rfl, h, hs, he, hx⟩
  | region id ops draw =>
    intro Q env σ hp h N σ0 w0 hN hd w a hs he hx
    simp only [wpc] at h
    cases draw with
    | false =>
      rw [if_neg (by simp)] at h
      exact wpIn_region_list (aops_sound ops.toList env σ _ w a h hs he fun env' σ' a' w' k1 k2 k3 k4 => ⟨.normal, env', σ', rfl, k1, k2, k3, hx.trans k4 hd⟩)
    | true =>
      rw [if_pos rfl] at h
      obtain ⟨rd, st, lb, perm, hok, h⟩ := h
      simp only [drawOK, Bool.and_eq_true, decide_eq_true_eq] at hok
      obtain ⟨⟨hok1, hok2⟩, hok3⟩ := hok
      have hlt : ∀ (l : List Nat), drawL rd st ops l = true → ∀ i ∈ l, i < ops.size := by
        intro l
        induction l with
        | nil => intro _ i hi; cases hi
        | cons x l ih =>
          intro h i hi
          simp only [drawL, Bool.and_eq_true, decide_eq_true_eq] at h
          rcases List.mem_cons.1 hi with rfl | hi
          · exact h.1.1.2
          · exact ih h.2 i hi
      have hdr : Ext σ w σ { w with drawn := w.drawn + 1 } := ⟨Nat.le_refl _, fun _ _ h => ⟨rfl, h⟩, fun _ m h => ⟨fun _ _ => rfl, .inr ⟨m, Nat.le_refl _, h⟩⟩, fun _ vs _ _ h => ⟨vs, h, rfl⟩, rfl, rfl⟩
      refine wpIn_region_any hm (draws_sound ops.size perm _ env σ (Q .normal) _ a hok2 (fun i => ?_) (by simp) hok1 h hs.drew (he.mono hdr)
        fun env' σ' a' w' k1 k2 k3 k4 => ⟨.normal, env', σ', rfl, k1, k2, k3, hx.trans (hdr.trans k4 hs.dom) hd⟩)
      constructor
      · intro hi
        have := hlt perm hok1 i hi
        exact ⟨this, by simp [this]⟩
      · rintro ⟨hi, _⟩
        have := List.all_eq_true.1 hok3 i (List.mem_range.2 hi)
        simpa using this
  | seq x y ihx ihy =>
    intro Q env σ hp h N σ0 w0 hN hd w a hs he hx
    simp only [wpc] at h
    have hpx : ro = none ∨ plainC x = true := hp.imp (fun h => h) fun h => by simp only [plainC, Bool.and_eq_true] at h; exact h.1
    have hpy : ro = none ∨ plainC y = true := hp.imp (fun h => h) fun h => by simp only [plainC, Bool.and_eq_true] at h; exact h.2
    refine wpIn_seq (wpIn_mono (ihx _ env σ hpx h N σ0 w0 hN hd w a hs he hx) ?_)
    rintro e a' w' ⟨ae, env', σ', rfl, hq, hs', he', hx'⟩
    cases ae with
    | normal => exact ihy Q env' σ' hpy hq N σ0 w0 hN hd w' a' hs' he' hx'
    | exit id => exact ⟨.exit id, env', σ', rfl, hq, hs', he', hx'⟩
    | ret => exact ⟨.ret, env', σ', rfl, hq, hs', he', hx'⟩
    | goto l => exact ⟨.goto l, env', σ', rfl, hq, hs', he', hx'⟩
  | cond c x y ihx ihy =>
    intro Q env σ hp h N σ0 w0 hN hd w a hs he hx
    simp only [wpc] at h
    have hpx : ro = none ∨ plainC x = true := hp.imp (fun h => h) fun h => by simp only [plainC, Bool.and_eq_true] at h; exact h.1
    have hpy : ro = none ∨ plainC y = true := hp.imp (fun h => h) fun h => by simp only [plainC, Bool.and_eq_true] at h; exact h.2
    split at h
    · rename_i t ht
      have hr := rel_ev he c
      rw [ht] at hr
      generalize hv : a.eval c = v at hr
      cases hr
      refine wpIn_cond hv ?_
      cases t
      · rw [if_neg (by simp)] at h ⊢; exact ihy Q env σ hpy h N σ0 w0 hN hd w a hs he hx
      · rw [if_pos rfl] at h ⊢; exact ihx Q env σ hpx h N σ0 w0 hN hd w a hs he hx
    · exact h.elim
  | block id c ih =>
    intro Q env σ hp h N σ0 w0 hN hd w a hs he hx
    simp only [wpc] at h
    refine wpIn_block (wpIn_mono (ih _ env σ (hp.imp (fun h => h) fun h => by simpa only [plainC] using h) h N σ0 w0 hN hd w a hs he hx) ?_)
    rintro e a' w' ⟨ae, env', σ', rfl, hq, hs', he', hx'⟩
    cases ae with
    | normal => exact ⟨.normal, env', σ', rfl, hq, hs', he', hx'⟩
    | exit i =>
      simp only at hq
      simp only [AExit.out, Exit.inBlock]
      split
      · rename_i hi; rw [if_pos hi] at hq; exact ⟨.normal, env', σ', rfl, hq, hs', he', hx'⟩
      · rename_i hi; rw [if_neg hi] at hq; exact ⟨.exit i, env', σ', rfl, hq, hs', he', hx'⟩
    | ret => exact ⟨.ret, env', σ', rfl, hq, hs', he', hx'⟩
    | goto l => exact ⟨.goto l, env', σ', rfl, hq, hs', he', hx'⟩
  | loop c ih =>
    intro Q env σ hp h N σ0 w0 hN hd w a hs he hx
    simp only [wpc] at h
    obtain ⟨I, μ, h0, h1⟩ := h
    have key : ∀ n env σ w a, I env σ → μ env σ < n → St σ w → EnvR N σ w env a → Ext σ0 w0 σ w → Code.roundsIn (FW ro) m P c (Lift N σ0 w0 Q) n a w := by
      intro n
      induction n with
      | zero => intro env σ w a _ hlt; omega
      | succ n ihn =>
        intro env σ w a hI hlt hs he hx
        rw [roundsIn_succ]
        refine wpIn_mono (ih _ env σ (hp.imp (fun h => h) fun h => by simpa only [plainC] using h) (h1 env σ hI) N σ0 w0 hN hd w a hs he hx) ?_
        rintro e a' w' ⟨ae, env', σ', rfl, hq, hs', he', hx'⟩
        cases ae with
        | normal => exact ihn env' σ' w' a' hq.1 (by have := hq.2; omega) hs' he' hx'
        | exit id => exact ⟨.exit id, env', σ', rfl, hq, hs', he', hx'⟩
        | ret => exact ⟨.ret, env', σ', rfl, hq, hs', he', hx'⟩
        | goto l => exact ⟨.goto l, env', σ', rfl, hq, hs', he', hx'⟩
    exact wpIn_loop_rounds (μ env σ + 1) (key _ env σ w a h0 (Nat.lt_succ_self _) hs he hx)
  | exit id => intro Q env σ hp h N σ0 w0 hN hd w a hs he hx; exact wpIn_exit ⟨.exit id, env, σ, rfl, h, hs, he, hx⟩
  | ret => intro Q env σ hp h N σ0 w0 hN hd w a hs he hx; exact wpIn_ret ⟨.ret, env, σ, rfl, h, hs, he, hx⟩
  | label l => intro Q env σ hp h N σ0 w0 hN hd w a hs he hx; exact wpIn_label ⟨.normal, env, σ, rfl, h, hs, he, hx⟩
  | scope c ih =>
    intro Q env σ hp h N σ0 w0 hN hd w a hs he hx
    obtain rfl : ro = none := by
      rcases hp with h | h
      · exact h
      · simp [plainC] at h
    simp only [wpc] at h
    have h1 := wpIn_wide.1 (ih _ env σ (.inl rfl) h N σ0 w0 hN hd w a hs he hx)
    refine wpIn_wide.2 ?_
    cases hf : findLabel c 0 with
    | none =>
      refine wp_scope_straight (wp_mono h1 ?_)
      rintro e a' w' ⟨ae, env', σ', rfl, hq, hs', he', hx'⟩
      cases ae with
      | goto l => obtain ⟨_, rest, hr, _⟩ := hq; rw [hf] at hr; cases hr
      | _ => exact ⟨_, env', σ', rfl, hq, hs', he', hx'⟩
    | some rest =>
      refine wp_scope_jumps 0 (fun a w => ∃ e σ, SemWp P rest (fun x e σ => match x with | .goto _ => False | x => Q x e σ) e σ ∧ St σ w ∧ EnvR N σ w e a ∧ Ext σ0 w0 σ w) (fun _ _ => 0) hf (wp_mono h1 ?_) ?_
      · rintro e a' w' ⟨ae, env', σ', rfl, hq, hs', he', hx'⟩
        cases ae with
        | goto l =>
          obtain ⟨h0, rest', hr, hsem⟩ := hq
          rw [hf] at hr; cases hr
          exact ⟨h0, env', σ', hsem, hs', he', hx'⟩
        | _ => exact ⟨_, env', σ', rfl, hq, hs', he', hx'⟩
      · rintro a1 w1 ⟨e1, σ1, hsem, hs1, he1, hx1⟩
        refine wp_mono (hsem N σ0 w0 hN hd w1 a1 hs1 he1 hx1) ?_
        rintro e a' w' ⟨ae, env', σ', rfl, hq, hs', he', hx'⟩
        cases ae with
        | goto l => exact hq.elim
        | _ => exact ⟨_, env', σ', rfl, hq, hs', he', hx'⟩
  | rangeFunc g ps assign body =>
    intro Q env σ hp h N σ0 w0 hN hd w a hs he hx
    obtain rfl : ro = none := by
      rcases hp with h | h
      · exact h
      · simp [plainC] at h
    simp only [wpc] at h
    split at h
    · rename_i f first captured hg
      obtain ⟨hcall, h⟩ := h
      have hfr := rel_ev he g
      rw [hg] at hfr
      generalize hfv : a.eval g = vf at hfr
      cases hfr with
      | func _ _ _ v1 v2 hl hl' hh hh' =>
        refine wpIn_rangeFunc fun fn _ => ?_
        obtain ⟨l, w1, hent, hfl, hsB, hxB, hDh, hDl⟩ := enter_sound (P := P) hs he fn ps assign body
        have hfD : σ w.heap.size = none := hs.new
        exact range_run hd hN hs he hx hcall hfv ⟨hl, hh⟩ ⟨hl', hh'⟩ hent hsB hxB hDh hDl hfD (h l w.heap.size fn hfl)
    · exact h.elim
  | goto l => intro Q env σ hp h N σ0 w0 hN hd w a hs he hx; exact wpIn_goto ⟨.goto l, env, σ, rfl, h, hs, he, hx⟩
  | _ => intro Q env σ hp h; exact h.elim

theorem wpc_sound (hm : P.follows .mixedOrders = true) (c : Code) (Q : AExit → Env → Sto → Prop) (env : Env) (σ : Sto) (h : wpc P c Q env σ)
    (N : Nat) (σ0 : Sto) (w0 : World) (hN : N ≤ w0.heap.size) (hd : ∀ b o, σ0 b = some o → b < w0.heap.size) (w : World) (a : Act) (hs : St σ w) (he : EnvR N σ w env a) (hx : Ext σ0 w0 σ w) : c.wp P (Lift N σ0 w0 Q) a w :=
  wpIn_wide.1 (wpc_soundIn hm none 0 c Q env σ (.inl rfl) h N σ0 w0 hN hd w a hs he hx)

/-! ### Functions -/
def resAV (P : Program) (σ : Sto) (env : Env) : List ResultVar → Option (List AV)
  | [] => some []
  | .tmp t :: l => (resAV P σ env l).map (env.getD t .any :: ·)
  | .cell a t :: l => match env.getD a .any with
    | .ptr b off => match σ b with
      | some (.cells cs) => match loadAV P t cs off, resAV P σ env l with
        | some r, some rs => some (r :: rs)
        | _, _ => none
      | _ => none
    | _ => none

def retAV (P : Program) (σ : Sto) (env : Env) (rs : Array ResultVar) : Option AV :=
  match resAV P σ env rs.toList with
  | some [x] => some x
  | some xs => some (.tuple xs)
  | none => none

theorem res_sound {N : Nat} {env : Env} {σ : Sto} {w : World} {a : Act} (hs : St σ w) (he : EnvR N σ w env a) : ∀ (rs : List ResultVar) (xs : List AV), resAV P σ env rs = some xs →
    ∃ vs : List Value, (rs.mapM (fun | .tmp t => pure (a.tmps.getD t undef) | .cell ad t => do loadVar t (← asAddr (a.tmps.getD ad undef))) : Sem (List Value)).run P w = .ok vs w ∧ RelL σ w xs vs.toArray
  | [], xs, h => by
    simp only [resAV, Option.some.injEq] at h; subst h
    exact ⟨[], by simp, rfl, by simp⟩
  | .tmp t :: rs, xs, h => by
    simp only [resAV] at h
    cases hr : resAV P σ env rs with
    | none => rw [hr] at h; cases h
    | some ys =>
      rw [hr] at h
      simp only [Option.map_some, Option.some.injEq] at h
      subst h
      obtain ⟨vs, h1, h2⟩ := res_sound hs he rs ys hr
      refine ⟨a.tmps.getD t undef :: vs, ?_, ?_⟩
      · simp only [List.mapM_cons, Sem.run_bind, Sem.run_pure, Result.andThen, h1]
      · refine ⟨by have := h2.1; simp at this ⊢; exact this, fun i c v hc hv => ?_⟩
        cases i with
        | zero =>
          simp at hc hv; subst hc; subst hv
          have := rel_ev he (.tmp t)
          simpa [ev, Act.eval] using this
        | succ i => exact h2.2 i c v (by simpa using hc) (by simpa using hv)
  | .cell ad t :: rs, xs, h => by
    simp only [resAV] at h
    split at h
    · rename_i b off hptr
      split at h
      · rename_i cs hb
        split at h
        · rename_i r ys hld hr
          cases h
          have hp := rel_ev he (.tmp ad)
          simp only [ev, Act.eval] at hp
          rw [hptr] at hp
          generalize hv : a.tmps.getD ad undef = v at hp
          cases hp
          obtain ⟨vs', ty, hh, hl, hcs⟩ := hs.cells b cs hb
          obtain ⟨u, hu1, hu2⟩ := loadAV_sound (σ := σ) (w := w) (us := fun j => vs'.getD j undef) (b := b) (base := 0) (fun j c hj => by
            have hlt : j < vs'.size := Nat.lt_of_lt_of_le (List.getElem?_eq_some_iff.1 hj).1 hl
            have hv : vs'[j]? = some (vs'.getD j undef) := by simp [Array.getD, hlt]
            exact ⟨by simp [World.cell?, hh, hlt, Array.getD], hcs j c _ hj hv⟩) hld
          rw [Nat.zero_add] at hu1
          obtain ⟨vs, h1, h2⟩ := res_sound hs he rs ys hr
          have hadr : (asAddr (a.tmps.getD ad undef)).run P w = .ok ⟨b, off, none⟩ w := by rw [hv]; rfl
          refine ⟨u :: vs, ?_, ?_⟩
          · simp only [List.mapM_cons, Sem.run_bind, hadr, Sem.run_pure, Result.andThen, hu1, h1]
          · refine ⟨by have := h2.1; simp at this ⊢; exact this, fun i c v hc hv => ?_⟩
            cases i with
            | zero => simp at hc hv; subst hc; subst hv; exact hu2
            | succ i => exact h2.2 i c v (by simpa using hc) (by simpa using hv)
        · cases h
      · cases h
    · cases h

theorem ret_sound {N : Nat} {env : Env} {σ : Sto} {w : World} {a : Act} {fn : Func} {r : AV} (hs : St σ w) (he : EnvR N σ w env a) (h : retAV P σ env fn.results = some r) :
    ∃ v, (results fn a.tmps).run P w = .ok v w ∧ Rel σ w r v := by
  unfold retAV at h
  have key : ∀ xs, resAV P σ env fn.results.toList = some xs → ∃ vs : List Value, (results fn a.tmps).run P w = .ok (if h : vs.toArray.size = 1 then vs.toArray[0] else .tuple vs.toArray) w ∧ RelL σ w xs vs.toArray := by
    intro xs hx
    obtain ⟨vs, h1, h2⟩ := res_sound (P := P) hs he _ xs hx
    refine ⟨vs, ?_, h2⟩
    unfold results
    rw [Array.mapM_eq_mapM_toList]
    simp only [Sem.run_bind, Sem.run_map, Result.andThen, Sem.run_pure]
    erw [h1]
  split at h
  · rename_i x hx
    cases h
    obtain ⟨vs, h1, h2⟩ := key _ hx
    have hl := h2.1
    match vs, hl with
    | [v], _ => exact ⟨v, by simpa using h1, h2.2 0 _ v rfl rfl⟩
  · rename_i xs hne hx
    cases h
    obtain ⟨vs, h1, h2⟩ := key _ hx
    have hl := h2.1
    have hn1 : ¬ vs.toArray.size = 1 := by
      intro e
      rw [e] at hl
      match xs, hl with
      | [x], _ => exact hne x rfl
    rw [dif_neg hn1] at h1
    exact ⟨_, h1, .tuple _ _ h2.1 h2.2⟩
  · cases h

/-- **A function by its body.** -/
theorem ACalls.of_wpc (hm : P.follows .mixedOrders = true) {f : FuncId} {fn : Func} {c : Code} {args : List AV} {σ : Sto} {Q : AV → Sto → Prop}
    (hf : P.funcs[f]? = some fn) (hb : fn.body = some c)
    (h : wpc P c (fun x env σ' => (match x with | .exit _ => False | .goto _ => False | _ => True) ∧ match retAV P σ' env fn.results with | some r => Q r σ' | none => False)
      (args ++ List.replicate (fn.ntmps - args.length) .any) σ) : ACalls P f args σ Q := by
  intro w vs hs hr
  refine callsIn_wide.1 (callsIn_of_wp_marks (F := Fence.wide) (n := 0) hf hb trivial ?_ rfl)
  have hsz : args.length = vs.size := hr.1
  have he : EnvR w.heap.size σ w (args ++ List.replicate (fn.ntmps - args.length) .any) { tmps := vs ++ Array.replicate (fn.ntmps - vs.size) undef, defers := [] } := by
    refine ⟨by simp [hsz], ⟨List.nodup_nil, by simp⟩, fun t c v hc hv => ?_⟩
    simp only [List.getElem?_append, Array.getElem?_append, hsz] at hc hv
    split at hc
    · rename_i hlt; rw [if_pos hlt] at hv; exact hr.2 t c v hc hv
    · rename_i hlt
      simp only [List.getElem?_replicate] at hc
      split at hc
      · cases hc; exact .any v
      · cases hc
  refine wpIn_mono (wpc_soundIn hm none 0 c _ _ σ (.inl rfl) h w.heap.size σ w (Nat.le_refl _) hs.dom w _ hs he (Ext.refl σ w)) ?_
  rintro e a' w' ⟨ae, env', σ', rfl, ⟨hx, hq⟩, hs', he', hx'⟩
  have fin : ∀ r, retAV P σ' env' fn.results = some r → Q r σ' → LeavesInM Fence.wide 0 P fn a'.tmps (fun e w' => ∃ v r σ'', e = .returned v ∧ Q r σ'' ∧ St σ'' w' ∧ Rel σ'' w' r v ∧ Ext σ w σ'' w') a'.defers .returning w' := by
    intro r hret hQ
    have key : ∀ (ds : List Deferred) (w1 : World), Marks w.heap.size σ' w1 ds → St σ' w1 → EnvR w.heap.size σ' w1 env' { a' with defers := [] } → Ext σ w σ' w1 →
        LeavesInM Fence.wide 0 P fn a'.tmps (fun e w' => ∃ v r σ'', e = .returned v ∧ Q r σ'' ∧ St σ'' w' ∧ Rel σ'' w' r v ∧ Ext σ w σ'' w') ds .returning w1 := by
      intro ds
      induction ds with
      | nil =>
        intro w1 _ hs1 he1 hx1
        obtain ⟨v, h1, h2⟩ := ret_sound (P := P) hs1 he1 hret
        exact ⟨v, h1, v, r, σ', rfl, hQ, hs1, h2, hx1⟩
      | cons d ds ih =>
        intro w1 hmk hs1 he1 hx1
        obtain ⟨hnd, hall⟩ := hmk
        obtain ⟨b, hdb, hb1, hb2, hb3⟩ := hall d (by simp)
        subst hdb
        refine ⟨by simp, .inl ⟨b, _, rfl, run_takeDeferred hb3, ih _ ⟨(List.nodup_cons.1 hnd).2, fun d' hd' => ?_⟩ (hs1.quiet dull_d dull_d hb3 hb2) ⟨he1.1, ⟨List.nodup_nil, by simp⟩, fun t c v hc hv => (he1.2.2 t c v hc hv).quiet dull_d dull_d hb3⟩ (hx1.quiet dull_d dull_d hb3 hb1)⟩⟩
        obtain ⟨b', hdb', k1, k2, k3⟩ := hall d' (by simp [hd'])
        subst hdb'
        have hne : b' ≠ b := fun e => (List.nodup_cons.1 hnd).1 (by rw [← e]; exact hd')
        exact ⟨b', rfl, k1, k2, (quiet_heap hne).trans k3⟩
    exact key a'.defers w' he'.2.1 hs' ⟨he'.1, ⟨List.nodup_nil, by simp⟩, he'.2.2⟩ hx'
  cases ae with
  | exit id => exact hx.elim
  | goto l => exact hx.elim
  | normal =>
    split at hq
    · rename_i r hret; exact fin r hret hq
    · exact hq.elim
  | ret =>
    split at hq
    · rename_i r hret; exact fin r hret hq
    · exact hq.elim


/-! ### A round -/
def putAll (e : Env) (ps : List Tmp) (xs : List AV) : Env := (ps.zip xs).foldl (fun e p => e.set p.1 p.2) e

theorem putAll_sound {σ : Sto} {w : World} : ∀ (ps : List Tmp) (xs : List AV) (us : List Value) (e : Env) (tmps : Array Value), (∀ (i : Nat) (c : AV) (v : Value), xs[i]? = some c → us[i]? = some v → Rel σ w c v) → xs.length = us.length →
    e.length = tmps.size → (∀ (t : Nat) (c : AV) (v : Value), e[t]? = some c → tmps[t]? = some v → Rel σ w c v) →
    (putAll e ps xs).length = ((ps.zip us).foldl (fun (tm : Array Value) p => tm.setIfInBounds p.1 p.2) tmps).size ∧
    ∀ (t : Nat) (c : AV) (v : Value), (putAll e ps xs)[t]? = some c → ((ps.zip us).foldl (fun (tm : Array Value) p => tm.setIfInBounds p.1 p.2) tmps)[t]? = some v → Rel σ w c v
  | [], _, _, e, tmps, _, _, hl, hr => by simpa [putAll] using ⟨hl, hr⟩
  | p :: ps, [], [], e, tmps, _, _, hl, hr => by simpa [putAll] using ⟨hl, hr⟩
  | p :: ps, x :: xs, v0 :: us, e, tmps, hx, hlen, hl, hr => by
    have := putAll_sound ps xs us (e.set p x) (tmps.setIfInBounds p v0) (fun i c v hc hv => hx (i + 1) c v (by simpa using hc) (by simpa using hv)) (by simpa using hlen) (by simp [hl]) (fun t c v hc hv => by
      by_cases hp : p = t
      · subst hp
        rw [List.getElem?_set] at hc
        split at hc
        · rename_i hlt
          split at hc
          · cases hc
            rw [Array.getElem?_setIfInBounds_self_of_lt (by rw [← hl]; assumption)] at hv
            cases hv
            exact hx 0 _ _ rfl rfl
          · cases hc
        · rename_i hne; exact absurd rfl hne
      · rw [List.getElem?_set_ne hp] at hc
        rw [Array.getElem?_setIfInBounds_ne hp] at hv
        exact hr t c v hc hv)
    simpa [putAll] using this
  | p :: ps, [], _ :: _, _, _, _, h, _, _ => by simp at h
  | p :: ps, _ :: _, [], _, _, _, h, _, _ => by simp at h

theorem AYield.of_wpc (hm : P.follows .mixedOrders = true) {l : Nat} {fn : FuncId} {ps : Array Tmp} {assign body : Code} {D : Nat} {e : Env} {σ : Sto} {args : List AV} {K : AV → Sto → Prop}
    (hl : σ l = some (.loop fn ps assign body D e)) (hn : args.length = ps.size) (hpa : plainC assign = true) (hpb : plainC body = true)
    (h : wpc P assign (fun x e1 σ1 => match x with
      | .normal => σ1 l = some (.loop fn ps assign body D e) ∧ wpc P body (fun x _ σ2 => match x with
        | .normal => K (.sc (.bool true)) (σ2.set l (.loop fn ps assign body D e))
        | _ => False) e1 (σ1.del l)
      | _ => False) (putAll e ps.toList args) σ) : AYield P l args σ K := by
  intro w vs n hs hr
  obtain ⟨tmps, hh, hlen, hrel⟩ := hs.loop _ _ _ _ _ _ _ hl
  have hvs : vs.size = ps.size := by rw [← hr.1, hn]
  refine ⟨fn, _, assign, body, run_yield hh hvs, roundIn_of_wpIn trivial ?_⟩
  have hput := putAll_sound ps.toList args vs.toList e tmps (fun i c v hc hv => hr.2 i c v hc (by simpa using hv)) (by rw [hr.1]; simp) hlen hrel
  have he : EnvR 0 σ w (putAll e ps.toList args) { tmps := (ps.zip vs).foldl (fun tmps (x : Tmp × Value) => tmps.setIfInBounds x.1 x.2) tmps, defers := [] } := by
    have hz : (ps.zip vs).foldl (fun (tmps : Array Value) (x : Tmp × Value) => tmps.setIfInBounds x.1 x.2) tmps = (ps.toList.zip vs.toList).foldl (fun (tm : Array Value) p => tm.setIfInBounds p.1 p.2) tmps := by
      rw [← Array.foldl_toList]; simp
    refine ⟨?_, ⟨List.nodup_nil, by simp⟩, ?_⟩
    · rw [hz]; exact hput.1
    · intro t c v hc hv
      rw [hz] at hv
      exact hput.2 t c v hc hv
  refine wpIn_mono (wpc_soundIn hm (some l) n assign _ _ σ (.inr hpa) h 0 σ w (Nat.zero_le _) hs.dom w _ hs he (Ext.refl σ w)) ?_
  rintro e' a1 w1 ⟨ae, e1, σ1, rfl, hq, hs1, he1, hx1⟩
  cases ae with
  | exit id => exact hq.elim
  | ret => exact hq.elim
  | goto t => exact hq.elim
  | normal =>
    obtain ⟨hl1, hb⟩ := hq
    obtain ⟨tmps1, hh1, hlen1, hrel1⟩ := hs1.loop _ _ _ _ _ _ _ hl1
    obtain ⟨hs2, hx2⟩ := hs1.loop_del (.loop { state := .busy, pending := none, fn, tmps := tmps1, params := ps, assign, body, defers := D }) hl1 hh1
    have hlt : l < w1.heap.size := (Array.getElem?_eq_some_iff.1 hh1).1
    have hh2 : (w1.putObj l (.loop { state := .busy, pending := none, fn, tmps := tmps1, params := ps, assign, body, defers := D })).heap[l]? = some (.loop { state := .busy, pending := none, fn, tmps := tmps1, params := ps, assign, body, defers := D }) := World.putObj_heap_same hlt
    refine ⟨_, run_beginRound hh1 rfl, wpIn_mono (wpc_soundIn hm (some l) n body _ e1 (σ1.del l) (.inr hpb) hb 0 (σ1.del l) _ (Nat.zero_le _) hs2.dom _ a1 hs2 (he1.mono hx2) (Ext.refl _ _)) ?_⟩
    rintro e'' a3 w3 ⟨ae, e2, σ2, rfl, hq, hs3, he3, hx3⟩
    cases ae with
    | exit id => exact hq.elim
    | ret => exact hq.elim
    | goto t => exact hq.elim
    | normal =>
      obtain ⟨k1, k2⟩ := hx3.keep l (by rw [World.putObj_size]; exact hlt) (by simp [Sto.del])
      have hh3 := k1.trans hh2
      refine ⟨_, _, run_endRound none hh3, .bool true, .sc (.bool true), _, rfl, hq, ?_, .sc _, ?_⟩
      · have hs4 := hs3.quiet (x := .loop { state := .busy, pending := none, fn, tmps := tmps1, params := ps, assign, body, defers := D }) (y := .loop { state := .ready, pending := none, fn, tmps := tmps1, params := ps, assign, body, defers := D }) trivial trivial hh3 k2
        refine hs4.claim_loop k2 ⟨tmps1, World.putObj_heap_same (Array.getElem?_eq_some_iff.1 hh3).1, hlen1, fun i c v hc hv => ?_⟩
        exact ((((hrel1 i c v hc hv).mono hx2).mono hx3).quiet dull_l dull_l hh3)
      · have hxx : Ext σ w σ2 w3 := (hx1.trans hx2 hs.dom).trans hx3 hs.dom
        refine ⟨by rw [World.putObj_size]; exact hxx.size, fun b hb' hnb => ?_, fun b m hmb => ?_, fun b us ty fr hv => ?_, hxx.same⟩
        · have hne : b ≠ l := fun e => by rw [e, hl] at hnb; cases hnb
          obtain ⟨g1, g2⟩ := hxx.keep b hb' hnb
          exact ⟨(quiet_heap hne).trans g1, by simp [Sto.set, hne, g2]⟩
        · have hne : b ≠ l := fun e => by rw [e, hl] at hmb; cases hmb
          obtain ⟨g1, g2⟩ := hxx.top b m hmb
          exact ⟨fun off ho => (cell_of_block (quiet_heap hne)).trans (g1 off ho), by simpa [Sto.set, hne] using g2⟩
        · have hne : b ≠ l := fun e => by rw [e, hh] at hv; cases hv
          obtain ⟨us', g1, g2⟩ := hxx.shape b us ty fr hv
          exact ⟨us', (quiet_heap hne).trans g1, g2⟩

end Go.Aw
