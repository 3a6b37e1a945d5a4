/- The weakest precondition over abstract values is sound for code. -/
import Derived.Test.YtcjiebgnccaogaaDoorCodeC
set_option linter.unusedSimpArgs false
set_option linter.unusedVariables false
namespace Go.Aw
open Go
variable {P : Program}

theorem draws_sound {pu : List Nat} {ops : Array Oper} {QQ : Exit → Act → World → Prop} : ∀ (n : Nat) (l : List Nat) (listed : Array Bool) (env : Env) (σ : Sto) (K : Env → Sto → Prop) (w : World) (a : Act),
    l.length = n → (∀ i, i ∈ l ↔ i < ops.size ∧ listed.getD i true = false) → listed.size = ops.size → drawL pu ops l = true →
    aopsI P pu ops l env σ K → St σ w → EnvR σ w env a → (∀ env' σ' a' w', K env' σ' → St σ' w' → EnvR σ' w' env' a' → Ext σ w σ' w' → QQ .normal a' w') →
    wpAny P .any ops QQ n listed a w := by
  intro n
  induction n with
  | zero =>
    intro l listed env σ K w a hl hmem hsz hd h hs he hk
    have : l = [] := List.eq_nil_of_length_eq_zero hl
    subst this
    refine ⟨?_, hk env σ a w h hs he (Ext.refl σ w)⟩
    cases hr : Region.ready .any ops listed with
    | nil => rfl
    | cons x xs =>
      have hx : x ∈ Region.ready .any ops listed := by rw [hr]; simp
      obtain ⟨h0, o, ho, _⟩ := mem_ready.1 hx
      have := (hmem x).2 ⟨(Array.getElem?_eq_some_iff.1 ho).1, h0⟩
      cases this
  | succ n ih =>
    intro l listed env σ K w a hl hmem hsz hd h hs he hk
    refine ⟨fun hr => ?_, fun i hi => ?_⟩
    · -- the first of the list is ready
      exfalso
      match l, hl with
      | j :: l, _ =>
        have hj := (hmem j).1 (by simp)
        simp only [drawL, Bool.and_eq_true] at hd
        obtain ⟨⟨_, h4⟩, _⟩ := hd
        have : j ∈ Region.ready .any ops listed := by
          refine mem_ready.2 ⟨hj.2, ?_⟩
          cases ho : ops[j]? with
          | none => rw [ho] at h4; simp at h4
          | some o =>
            rw [ho] at h4
            refine ⟨o, rfl, fun e he hb => ?_⟩
            simp only at h4
            rw [Array.all_eq_true'] at h4
            have h5 := h4 e he
            simp only [hb, Bool.not_true, Bool.false_or, Bool.and_eq_true, Bool.not_eq_true', List.contains_eq_mem, decide_eq_false_iff_not, bne_iff_ne, ne_eq, decide_eq_true_eq] at h5
            have hn : ¬ e.on ∈ j :: l := by simp; exact ⟨h5.1.2, h5.1.1⟩
            have hlt : e.on < listed.size := by rw [hsz]; exact h5.2
            have : listed.getD e.on true ≠ false := fun hh => hn ((hmem e.on).2 ⟨h5.2, hh⟩)
            simp [Array.getD, hlt] at this ⊢
            exact this
        rw [hr] at this; cases this
    · obtain ⟨hun, oi, hoi, hall⟩ := mem_ready.1 hi
      have hil : i ∈ l := (hmem i).2 ⟨(Array.getElem?_eq_some_iff.1 hoi).1, hun⟩
      obtain ⟨pre, post, rfl⟩ := List.append_of_mem hil
      have hnd : ∀ j ∈ pre, dep ops i j = false := by
        intro j hj
        unfold dep
        rw [hoi]
        simp only
        rw [Bool.eq_false_iff]
        intro hany
        obtain ⟨e, he, hb⟩ := Array.any_eq_true'.1 hany
        simp only [Bool.and_eq_true, beq_iff_eq] at hb
        have h1 := hall e he hb.1
        rw [hb.2] at h1
        have h2 := (hmem j).1 (by simp [hj])
        have hlt : j < listed.size := by rw [hsz]; exact h2.1
        simp [Array.getD, hlt] at h1 h2
        rw [h1] at h2
        exact Bool.noConfusion h2.2
      have hp := pull (P := P) hoi pre (fun j hj => ⟨drawL_pair hd j hj, hnd j hj⟩) env σ h
      simp only [aopsI, hoi] at hp
      have hni : ¬ i ∈ pre ++ post := by
        have hnodup : ∀ (l : List Nat), drawL pu ops l = true → l.Nodup := by
          intro l
          induction l with
          | nil => intro _; exact List.nodup_nil
          | cons x l ih =>
            intro h
            simp only [drawL, Bool.and_eq_true] at h
            refine List.nodup_cons.2 ⟨?_, ih h.2⟩
            have := h.1.1.1.2
            simpa using this
        have := hnodup _ hd
        rw [List.nodup_append] at this
        obtain ⟨_, h2, h3⟩ := this
        rw [List.nodup_cons] at h2
        intro hm
        rcases List.mem_append.1 hm with hm | hm
        · exact h3 i hm i (by simp) rfl
        · exact h2.1 hm
      have hrest : ∀ (v : Value) (r : AV) (σ' : Sto) (w' : World), aopsI P pu ops (pre ++ post) (put env oi.dst r) σ' K → St σ' w' → Rel σ' w' r v → Ext σ w σ' w' →
          wpAny P .any ops QQ n (listed.setIfInBounds i true) (a.put oi.dst v) w' := by
        intro v r σ' w' h1 h2 h3 h4
        refine ih (pre ++ post) _ _ σ' K w' _ (by simp at hl ⊢; omega) (fun x => ?_) (by simp [hsz]) (drawL_erase hd) h1 h2 ((he.mono h4).put h3)
          fun env' σ'' a' w'' k1 k2 k3 k4 => hk env' σ'' a' w'' k1 k2 k3 (h4.trans k4 hs.dom)
        by_cases hx : i = x
        · subst hx
          have hlt : i < listed.size := by rw [hsz]; exact (Array.getElem?_eq_some_iff.1 hoi).1
          simp only [Array.getD_eq_getD_getElem?, Array.getElem?_setIfInBounds_self_of_lt hlt, Option.getD_some, Bool.true_eq_false, and_false, iff_false]
          exact hni
        · rw [getD_set_ne true hx, ← hmem x]
          simp only [List.mem_append, List.mem_cons]
          constructor
          · rintro (h | h)
            · exact .inl h
            · exact .inr (.inr h)
          · rintro (h | rfl | h)
            · exact .inl h
            · exact absurd rfl hx
            · exact .inr h
      have := aopG_wp (P := P) (QQ := QQ) (next := wpAny P .any ops QQ n (listed.setIfInBounds i true)) hs he (aopGP_aopG hp) (fun v r σ' w' h1 h2 h3 h4 => hrest v r σ' w' h1 h2 h3 h4)
      unfold wpOp
      simp only [hoi]
      split
      · rename_i hw; rw [if_pos hw] at this; exact .inl this
      · rename_i hw; rw [if_neg hw] at this; exact this

/-! ### Code -/
/-- The weakest precondition, reckoned over abstract values. -/
def wpc (P : Program) : Code → (AExit → Env → Sto → Prop) → Env → Sto → Prop
  | .skip, Q, e, σ => Q .normal e σ
  | .region _ ops draw, Q, e, σ => if draw = true then ∃ pu perm, drawOK pu ops perm = true ∧ aopsI P pu ops perm e σ (Q .normal) else aops P ops ops.toList e σ (Q .normal)
  | .seq a b, Q, e, σ => wpc P a (fun x e σ => match x with
      | .normal => wpc P b Q e σ
      | x => Q x e σ) e σ
  | .cond c a b, Q, e, σ => match ev e c with
    | .sc (.bool t) => if t = true then wpc P a Q e σ else wpc P b Q e σ
    | _ => False
  | .block id c, Q, e, σ => wpc P c (fun x e σ => match x with
      | .exit i => if i = id then Q .normal e σ else Q (.exit i) e σ
      | x => Q x e σ) e σ
  | .loop c, Q, e, σ => ∃ (I : Env → Sto → Prop) (μ : Env → Sto → Nat), I e σ ∧ ∀ e σ, I e σ → wpc P c (fun x e' σ' => match x with
      | .normal => I e' σ' ∧ μ e' σ' < μ e σ
      | x => Q x e' σ') e σ
  | .exit id, Q, e, σ => Q (.exit id) e σ
  | .ret, Q, e, σ => Q .ret e σ
  | .scope c, Q, e, σ => wpc P c Q e σ
  | .label _, Q, e, σ => Q .normal e σ
  | _, _, _, _ => False

theorem wpc_mono : ∀ (c : Code) (Q Q' : AExit → Env → Sto → Prop) (e : Env) (σ : Sto), (∀ x e σ, Q x e σ → Q' x e σ) → wpc P c Q e σ → wpc P c Q' e σ := by
  intro c
  have hG : ∀ (ops : Array Oper) (l : List Oper) (K K' : Env → Sto → Prop) (e : Env) (σ : Sto), (∀ e σ, K e σ → K' e σ) → aops P ops l e σ K → aops P ops l e σ K' := by
    intro ops l
    induction l with
    | nil => intro K K' e σ hk h; exact hk _ _ h
    | cons o l ih => intro K K' e σ hk h; exact (glike (P := P) ops o e).2.2.1 _ _ _ (fun r s h => ih K K' _ _ hk h) h
  have hI : ∀ (pu : List Nat) (ops : Array Oper) (l : List Nat) (K K' : Env → Sto → Prop) (e : Env) (σ : Sto), (∀ e σ, K e σ → K' e σ) → aopsI P pu ops l e σ K → aopsI P pu ops l e σ K' := by
    intro pu ops l
    induction l with
    | nil => intro K K' e σ hk h; exact hk _ _ h
    | cons i l ih =>
      intro K K' e σ hk h
      simp only [aopsI] at h ⊢
      split at h
      · rename_i o ho; exact (glikeP (P := P) pu ops i o e).2.2.1 _ _ _ (fun r s h => ih K K' _ _ hk h) h
      · exact h.elim
  induction c with
  | region id ops draw =>
    intro Q Q' e σ hq h
    simp only [wpc] at h ⊢
    split
    · rename_i hd; rw [if_pos hd] at h; obtain ⟨pu, perm, h1, h2⟩ := h; exact ⟨pu, perm, h1, hI _ _ _ _ _ _ _ (hq .normal) h2⟩
    · rename_i hd; rw [if_neg hd] at h; exact hG _ _ _ _ _ _ (hq .normal) h
  | seq a b iha ihb =>
    intro Q Q' e σ hq h
    simp only [wpc] at h ⊢
    exact iha _ _ e σ (fun x e σ h => by cases x <;> first | exact ihb _ _ _ _ hq h | exact hq _ _ _ h) h
  | cond c a b iha ihb =>
    intro Q Q' e σ hq h
    simp only [wpc] at h ⊢
    split at h
    · split
      · rename_i ht; rw [if_pos ht] at h; exact iha _ _ _ _ hq h
      · rename_i ht; rw [if_neg ht] at h; exact ihb _ _ _ _ hq h
    · exact h.elim
  | block id c ih =>
    intro Q Q' e σ hq h
    simp only [wpc] at h ⊢
    exact ih _ _ e σ (fun x e σ h => by
      cases x with
      | exit i =>
        simp only at h ⊢
        split
        · rename_i hi; rw [if_pos hi] at h; exact hq _ _ _ h
        · rename_i hi; rw [if_neg hi] at h; exact hq _ _ _ h
      | _ => exact hq _ _ _ h) h
  | loop c ih =>
    intro Q Q' e σ hq h
    simp only [wpc] at h ⊢
    obtain ⟨I, μ, h0, h1⟩ := h
    exact ⟨I, μ, h0, fun e σ hI => ih _ _ e σ (fun x e' σ' h => by cases x <;> first | exact h | exact hq _ _ _ h) (h1 e σ hI)⟩
  | scope c ih => intro Q Q' e σ hq h; simp only [wpc] at h ⊢; exact ih _ _ _ _ hq h
  | skip => intro Q Q' e σ hq h; exact hq _ _ _ h
  | exit id => intro Q Q' e σ hq h; exact hq _ _ _ h
  | ret => intro Q Q' e σ hq h; exact hq _ _ _ h
  | label l => intro Q Q' e σ hq h; exact hq _ _ _ h
  | _ => intro Q Q' e σ hq h; exact h.elim

theorem wpc_sound (hm : P.follows .mixedOrders = true) : ∀ (c : Code) (Q : AExit → Env → Sto → Prop) (env : Env) (σ : Sto), wpc P c Q env σ →
    ∀ (σ0 : Sto) (w0 : World), (∀ b o, σ0 b = some o → b < w0.heap.size) → ∀ (w : World) (a : Act), St σ w → EnvR σ w env a → Ext σ0 w0 σ w → c.wp P (Lift σ0 w0 Q) a w := by
  intro c
  induction c with
  | skip => intro Q env σ h σ0 w0 hd w a hs he hx; exact wp_skip ⟨.normal, env, σ, rfl, h, hs, he, hx⟩
  | region id ops draw =>
    intro Q env σ h σ0 w0 hd w a hs he hx
    simp only [wpc] at h
    cases draw with
    | false =>
      rw [if_neg (by simp)] at h
      exact wp_region_list (aops_sound ops.toList env σ _ w a h hs he fun env' σ' a' w' k1 k2 k3 k4 => ⟨.normal, env', σ', rfl, k1, k2, k3, hx.trans k4 hd⟩)
    | true =>
      rw [if_pos rfl] at h
      obtain ⟨pu, perm, hok, h⟩ := h
      simp only [drawOK, Bool.and_eq_true, decide_eq_true_eq] at hok
      obtain ⟨⟨hok1, hok2⟩, hok3⟩ := hok
      have hlt : ∀ (l : List Nat), drawL pu ops l = true → ∀ i ∈ l, i < ops.size := by
        intro l
        induction l with
        | nil => intro _ i hi; cases hi
        | cons x l ih =>
          intro h i hi
          simp only [drawL, Bool.and_eq_true, decide_eq_true_eq] at h
          rcases List.mem_cons.1 hi with rfl | hi
          · exact h.1.1.2
          · exact ih h.2 i hi
      have hdr : Ext σ w σ { w with drawn := w.drawn + 1 } := ⟨Nat.le_refl _, fun _ _ h => ⟨rfl, h⟩, fun _ m h => ⟨fun _ _ => rfl, .inr ⟨m, Nat.le_refl _, h⟩⟩, fun _ vs _ _ h => ⟨vs, h, rfl⟩, rfl, rfl⟩
      refine wp_region_any hm (draws_sound ops.size perm _ env σ (Q .normal) _ a hok2 (fun i => ?_) (by simp) hok1 h hs.drew (he.mono hdr)
        fun env' σ' a' w' k1 k2 k3 k4 => ⟨.normal, env', σ', rfl, k1, k2, k3, hx.trans (hdr.trans k4 hs.dom) hd⟩)
      constructor
      · intro hi
        have := hlt perm hok1 i hi
        exact ⟨this, by simp [this]⟩
      · rintro ⟨hi, _⟩
        have := List.all_eq_true.1 hok3 i (List.mem_range.2 hi)
        simpa using this
  | seq x y ihx ihy =>
    intro Q env σ h σ0 w0 hd w a hs he hx
    simp only [wpc] at h
    refine wp_seq (wp_mono (ihx _ env σ h σ0 w0 hd w a hs he hx) ?_)
    rintro e a' w' ⟨ae, env', σ', rfl, hq, hs', he', hx'⟩
    cases ae with
    | normal => exact ihy Q env' σ' hq σ0 w0 hd w' a' hs' he' hx'
    | exit id => exact ⟨.exit id, env', σ', rfl, hq, hs', he', hx'⟩
    | ret => exact ⟨.ret, env', σ', rfl, hq, hs', he', hx'⟩
  | cond c x y ihx ihy =>
    intro Q env σ h σ0 w0 hd w a hs he hx
    simp only [wpc] at h
    split at h
    · rename_i t ht
      have hr := rel_ev he c
      rw [ht] at hr
      generalize hv : a.eval c = v at hr
      cases hr
      refine wp_cond hv ?_
      cases t
      · rw [if_neg (by simp)] at h ⊢; exact ihy Q env σ h σ0 w0 hd w a hs he hx
      · rw [if_pos rfl] at h ⊢; exact ihx Q env σ h σ0 w0 hd w a hs he hx
    · exact h.elim
  | block id c ih =>
    intro Q env σ h σ0 w0 hd w a hs he hx
    simp only [wpc] at h
    refine wp_block (wp_mono (ih _ env σ h σ0 w0 hd w a hs he hx) ?_)
    rintro e a' w' ⟨ae, env', σ', rfl, hq, hs', he', hx'⟩
    cases ae with
    | normal => exact ⟨.normal, env', σ', rfl, hq, hs', he', hx'⟩
    | exit i =>
      simp only at hq
      simp only [AExit.out, Exit.inBlock]
      split
      · rename_i hi; rw [if_pos hi] at hq; exact ⟨.normal, env', σ', rfl, hq, hs', he', hx'⟩
      · rename_i hi; rw [if_neg hi] at hq; exact ⟨.exit i, env', σ', rfl, hq, hs', he', hx'⟩
    | ret => exact ⟨.ret, env', σ', rfl, hq, hs', he', hx'⟩
  | loop c ih =>
    intro Q env σ h σ0 w0 hd w a hs he hx
    simp only [wpc] at h
    obtain ⟨I, μ, h0, h1⟩ := h
    have key : ∀ n env σ w a, I env σ → μ env σ < n → St σ w → EnvR σ w env a → Ext σ0 w0 σ w → Code.rounds P c (Lift σ0 w0 Q) n a w := by
      intro n
      induction n with
      | zero => intro env σ w a _ hlt; omega
      | succ n ihn =>
        intro env σ w a hI hlt hs he hx
        rw [rounds_succ]
        refine wp_mono (ih _ env σ (h1 env σ hI) σ0 w0 hd w a hs he hx) ?_
        rintro e a' w' ⟨ae, env', σ', rfl, hq, hs', he', hx'⟩
        cases ae with
        | normal => exact ihn env' σ' w' a' hq.1 (by have := hq.2; omega) hs' he' hx'
        | exit id => exact ⟨.exit id, env', σ', rfl, hq, hs', he', hx'⟩
        | ret => exact ⟨.ret, env', σ', rfl, hq, hs', he', hx'⟩
    exact wp_loop_rounds (μ env σ + 1) (key _ env σ w a h0 (Nat.lt_succ_self _) hs he hx)
  | exit id => intro Q env σ h σ0 w0 hd w a hs he hx; exact wp_exit ⟨.exit id, env, σ, rfl, h, hs, he, hx⟩
  | ret => intro Q env σ h σ0 w0 hd w a hs he hx; exact wp_ret ⟨.ret, env, σ, rfl, h, hs, he, hx⟩
  | label l => intro Q env σ h σ0 w0 hd w a hs he hx; exact wp_label ⟨.normal, env, σ, rfl, h, hs, he, hx⟩
  | scope c ih =>
    intro Q env σ h σ0 w0 hd w a hs he hx
    simp only [wpc] at h
    refine wp_scope_straight (wp_mono (ih Q env σ h σ0 w0 hd w a hs he hx) ?_)
    rintro e a' w' ⟨ae, env', σ', rfl, hq, hs', he', hx'⟩
    cases ae <;> exact ⟨_, env', σ', rfl, hq, hs', he', hx'⟩
  | _ => intro Q env σ h; exact h.elim

/-! ### Functions -/
def resAV (P : Program) (σ : Sto) (env : Env) : List ResultVar → Option (List AV)
  | [] => some []
  | .tmp t :: l => (resAV P σ env l).map (env.getD t .any :: ·)
  | .cell a t :: l => match env.getD a .any with
    | .ptr b off => match σ b with
      | some (.cells cs) => match loadAV P t cs off, resAV P σ env l with
        | some r, some rs => some (r :: rs)
        | _, _ => none
      | _ => none
    | _ => none

def retAV (P : Program) (σ : Sto) (env : Env) (rs : Array ResultVar) : Option AV :=
  match resAV P σ env rs.toList with
  | some [x] => some x
  | some xs => some (.tuple xs)
  | none => none

theorem res_sound {env : Env} {σ : Sto} {w : World} {a : Act} (hs : St σ w) (he : EnvR σ w env a) : ∀ (rs : List ResultVar) (xs : List AV), resAV P σ env rs = some xs →
    ∃ vs : List Value, (rs.mapM (fun | .tmp t => pure (a.tmps.getD t undef) | .cell ad t => do loadVar t (← asAddr (a.tmps.getD ad undef))) : Sem (List Value)).run P w = .ok vs w ∧ RelL σ w xs vs.toArray
  | [], xs, h => by
    simp only [resAV, Option.some.injEq] at h; subst h
    exact ⟨[], by simp, rfl, by simp⟩
  | .tmp t :: rs, xs, h => by
    simp only [resAV] at h
    cases hr : resAV P σ env rs with
    | none => rw [hr] at h; cases h
    | some ys =>
      rw [hr] at h
      simp only [Option.map_some, Option.some.injEq] at h
      subst h
      obtain ⟨vs, h1, h2⟩ := res_sound hs he rs ys hr
      refine ⟨a.tmps.getD t undef :: vs, ?_, ?_⟩
      · simp only [List.mapM_cons, Sem.run_bind, Sem.run_pure, Result.andThen, h1]
      · refine ⟨by have := h2.1; simp at this ⊢; exact this, fun i c v hc hv => ?_⟩
        cases i with
        | zero =>
          simp at hc hv; subst hc; subst hv
          have := rel_ev he (.tmp t)
          simpa [ev, Act.eval] using this
        | succ i => exact h2.2 i c v (by simpa using hc) (by simpa using hv)
  | .cell ad t :: rs, xs, h => by
    simp only [resAV] at h
    split at h
    · rename_i b off hptr
      split at h
      · rename_i cs hb
        split at h
        · rename_i r ys hld hr
          cases h
          have hp := rel_ev he (.tmp ad)
          simp only [ev, Act.eval] at hp
          rw [hptr] at hp
          generalize hv : a.tmps.getD ad undef = v at hp
          cases hp
          obtain ⟨vs', ty, hh, hl, hcs⟩ := hs.cells b cs hb
          obtain ⟨u, hu1, hu2⟩ := loadAV_sound (σ := σ) (w := w) (us := fun j => vs'.getD j undef) (b := b) (base := 0) (fun j c hj => by
            have hlt : j < vs'.size := by rw [← hl]; exact (List.getElem?_eq_some_iff.1 hj).1
            have hv : vs'[j]? = some (vs'.getD j undef) := by simp [Array.getD, hlt]
            exact ⟨by simp [World.cell?, hh, hlt, Array.getD], hcs j c _ hj hv⟩) hld
          rw [Nat.zero_add] at hu1
          obtain ⟨vs, h1, h2⟩ := res_sound hs he rs ys hr
          have hadr : (asAddr (a.tmps.getD ad undef)).run P w = .ok ⟨b, off, none⟩ w := by rw [hv]; rfl
          refine ⟨u :: vs, ?_, ?_⟩
          · simp only [List.mapM_cons, Sem.run_bind, hadr, Sem.run_pure, Result.andThen, hu1, h1]
          · refine ⟨by have := h2.1; simp at this ⊢; exact this, fun i c v hc hv => ?_⟩
            cases i with
            | zero => simp at hc hv; subst hc; subst hv; exact hu2
            | succ i => exact h2.2 i c v (by simpa using hc) (by simpa using hv)
        · cases h
      · cases h
    · cases h

theorem ret_sound {env : Env} {σ : Sto} {w : World} {a : Act} {fn : Func} {r : AV} (hs : St σ w) (he : EnvR σ w env a) (h : retAV P σ env fn.results = some r) :
    ∃ v, (results fn a.tmps).run P w = .ok v w ∧ Rel σ w r v := by
  unfold retAV at h
  have key : ∀ xs, resAV P σ env fn.results.toList = some xs → ∃ vs : List Value, (results fn a.tmps).run P w = .ok (if h : vs.toArray.size = 1 then vs.toArray[0] else .tuple vs.toArray) w ∧ RelL σ w xs vs.toArray := by
    intro xs hx
    obtain ⟨vs, h1, h2⟩ := res_sound (P := P) hs he _ xs hx
    refine ⟨vs, ?_, h2⟩
    unfold results
    rw [Array.mapM_eq_mapM_toList]
    simp only [Sem.run_bind, Sem.run_map, Result.andThen, Sem.run_pure]
    erw [h1]
  split at h
  · rename_i x hx
    cases h
    obtain ⟨vs, h1, h2⟩ := key _ hx
    have hl := h2.1
    match vs, hl with
    | [v], _ => exact ⟨v, by simpa using h1, h2.2 0 _ v rfl rfl⟩
  · rename_i xs hne hx
    cases h
    obtain ⟨vs, h1, h2⟩ := key _ hx
    have hl := h2.1
    have hn1 : ¬ vs.toArray.size = 1 := by
      intro e
      rw [e] at hl
      match xs, hl with
      | [x], _ => exact hne x rfl
    rw [dif_neg hn1] at h1
    exact ⟨_, h1, .tuple _ _ h2.1 h2.2⟩
  · cases h

/-- **A function by its body.** -/
theorem ACalls.of_wpc (hm : P.follows .mixedOrders = true) {f : FuncId} {fn : Func} {c : Code} {args : List AV} {σ : Sto} {Q : AV → Sto → Prop}
    (hf : P.funcs[f]? = some fn) (hb : fn.body = some c)
    (h : wpc P c (fun x env σ' => (match x with | .exit _ => False | _ => True) ∧ match retAV P σ' env fn.results with | some r => Q r σ' | none => False)
      (args ++ List.replicate (fn.ntmps - args.length) .any) σ) : ACalls P f args σ Q := by
  intro w vs hs hr
  refine calls_of_wp hf hb ?_
  have hsz : args.length = vs.size := hr.1
  have he : EnvR σ w (args ++ List.replicate (fn.ntmps - args.length) .any) { tmps := vs ++ Array.replicate (fn.ntmps - vs.size) undef, defers := [] } := by
    refine ⟨by simp [hsz], rfl, fun t c v hc hv => ?_⟩
    simp only [List.getElem?_append, Array.getElem?_append, hsz] at hc hv
    split at hc
    · rename_i hlt; rw [if_pos hlt] at hv; exact hr.2 t c v hc hv
    · rename_i hlt
      simp only [List.getElem?_replicate] at hc
      split at hc
      · cases hc; exact .any v
      · cases hc
  refine wp_mono (wpc_sound hm c _ _ σ h σ w hs.dom w _ hs he (Ext.refl σ w)) ?_
  rintro e a' w' ⟨ae, env', σ', rfl, ⟨hx, hq⟩, hs', he', hx'⟩
  have fin : ∀ r, retAV P σ' env' fn.results = some r → Q r σ' → a'.defers = [] ∧ ∃ v, (results fn a'.tmps).run P w' = .ok v w' ∧
      ∃ v' r' σ'', Ending.returned v = .returned v' ∧ Q r' σ'' ∧ St σ'' w' ∧ Rel σ'' w' r' v' ∧ Ext σ w σ'' w' := by
    intro r hret hQ
    obtain ⟨v, h1, h2⟩ := ret_sound (P := P) hs' he' hret
    exact ⟨he'.2.1, v, h1, v, r, σ', rfl, hQ, hs', h2, hx'⟩
  cases ae with
  | exit id => exact hx.elim
  | normal =>
    split at hq
    · rename_i r hret; exact fin r hret hq
    · exact hq.elim
  | ret =>
    split at hq
    · rename_i r hret; exact fin r hret hq
    · exact hq.elim

end Go.Aw
