/- A list of operations is sound over abstract values. -/
import Derived.Test.YtcjiebgnccaogaaDoorSound6
import Derived.LoopN
set_option linter.unusedSimpArgs false
set_option linter.unusedVariables false
namespace Go.Aw
open Go
variable {P : Program}

def gd (ops : Array Oper) (env : Env) (g : Nat) : AV :=
  match ops[g]? with
  | some o => match o.dst with
    | some d => env.getD d .any
    | none => .any
  | none => .any

def aopG (P : Program) (ops : Array Oper) (o : Oper) (env : Env) (σ : Sto) (k : AV → Sto → Prop) : Prop :=
  match o.guard with
  | none => aop P o env σ k
  | some (g, want) => match gd ops env g with
    | .sc (.bool t) => if t = want then aop P o env σ k else k (.tuple []) σ
    | .tuple [] => k (.tuple []) σ
    | _ => False

def aops (P : Program) (ops : Array Oper) : List Oper → Env → Sto → (Env → Sto → Prop) → Prop
  | [], e, σ, K => K e σ
  | o :: l, e, σ, K => aopG P ops o e σ (fun r σ' => aops P ops l (put e o.dst r) σ' K)

theorem gd_spec {ops : Array Oper} {σ : Sto} {w : World} {env : Env} {a : Act} (he : EnvR σ w env a) {g : Nat} {t : Bool} (h : gd ops env g = .sc (.bool t)) :
    yielded ops a.tmps g = some t := by
  unfold gd at h
  unfold yielded
  cases ho : ops[g]? with
  | none => rw [ho] at h; cases h
  | some o =>
    rw [ho] at h
    simp only at h
    cases hd : o.dst with
    | none => rw [hd] at h; cases h
    | some d =>
      rw [hd] at h
      simp only at h
      cases hc : env[d]? with
      | none => simp [List.getD, hc] at h
      | some c =>
        simp only [List.getD, hc, Option.getD_some] at h
        subst h
        have hlt : d < a.tmps.size := by rw [← he.1]; exact (List.getElem?_eq_some_iff.1 hc).1
        have hv : a.tmps[d]? = some a.tmps[d] := by simp [hlt]
        have := he.2.2 d _ _ hc hv
        generalize hav : a.tmps[d] = v at *
        cases this
        simp [hd, hv]

theorem gd_none {ops : Array Oper} {σ : Sto} {w : World} {env : Env} {a : Act} (he : EnvR σ w env a) {g : Nat} (h : gd ops env g = .tuple []) :
    yielded ops a.tmps g = none := by
  unfold gd at h
  unfold yielded
  cases ho : ops[g]? with
  | none => rw [ho] at h; cases h
  | some o =>
    rw [ho] at h
    simp only at h
    cases hd : o.dst with
    | none => rw [hd] at h; cases h
    | some d =>
      rw [hd] at h
      simp only at h
      cases hc : env[d]? with
      | none => simp [List.getD, hc] at h
      | some c =>
        simp only [List.getD, hc, Option.getD_some] at h
        subst h
        have hlt : d < a.tmps.size := by rw [← he.1]; exact (List.getElem?_eq_some_iff.1 hc).1
        have hv : a.tmps[d]? = some a.tmps[d] := by simp [hlt]
        have := he.2.2 d _ _ hc hv
        generalize hav : a.tmps[d] = v at *
        cases this
        simp [hd, hv]

theorem aopG_wp {ops : Array Oper} {σ : Sto} {w : World} {k : AV → Sto → Prop} {o : Oper} {env : Env} {a : Act} {next : Act → World → Prop} {QQ : Exit → Act → World → Prop}
    (hs : St σ w) (he : EnvR σ w env a) (h : aopG P ops o env σ k)
    (hn : ∀ v r σ' w', k r σ' → St σ' w' → Rel σ' w' r v → Ext σ w σ' w' → next (a.put o.dst v) w') :
    if Region.wanted o (yielded ops a.tmps) then o.wp P a w next QQ else next (a.put o.dst undef) w := by
  unfold aopG at h
  split at h
  · rename_i hg
    rw [if_pos (by simp [Region.wanted, hg])]
    exact aop_wp hs he h hn
  · rename_i g want hg
    split at h
    · rename_i t ht
      have hy := gd_spec he ht
      split at h
      · rename_i htw
        rw [if_pos (by simp [Region.wanted, hg, hy, htw])]
        exact aop_wp hs he h hn
      · rename_i htw
        rw [if_neg (by simp [Region.wanted, hg, hy, htw])]
        exact hn undef (.tuple []) σ w h hs (Rel.tuple [] #[] rfl (fun i c v hc => by simp at hc)) (Ext.refl σ w)
    · rename_i ht
      have hy := gd_none he ht
      rw [if_neg (by simp [Region.wanted, hg, hy])]
      exact hn undef (.tuple []) σ w h hs (Rel.tuple [] #[] rfl (fun i c v hc => by simp at hc)) (Ext.refl σ w)
    · exact h.elim

inductive AExit where
  | normal | exit (id : Nat) | ret

def AExit.out : AExit → Exit
  | .normal => .normal
  | .exit id => .exit id
  | .ret => .ret

def Lift (σ0 : Sto) (w0 : World) (Q : AExit → Env → Sto → Prop) : Exit → Act → World → Prop :=
  fun e a w => ∃ ae env σ, e = AExit.out ae ∧ Q ae env σ ∧ St σ w ∧ EnvR σ w env a ∧ Ext σ0 w0 σ w

theorem aops_sound {ops : Array Oper} {QQ : Exit → Act → World → Prop} : ∀ (l : List Oper) (env : Env) (σ : Sto) (K : Env → Sto → Prop) (w : World) (a : Act),
    aops P ops l env σ K → St σ w → EnvR σ w env a → (∀ env' σ' a' w', K env' σ' → St σ' w' → EnvR σ' w' env' a' → Ext σ w σ' w' → QQ .normal a' w') →
    wpList P ops QQ l a w
  | [], env, σ, K, w, a, h, hs, he, hk => hk env σ a w h hs he (Ext.refl σ w)
  | o :: l, env, σ, K, w, a, h, hs, he, hk => by
    have := aopG_wp (P := P) (QQ := QQ) (next := wpList P ops QQ l) hs he h (fun v r σ' w' h1 h2 h3 h4 =>
      aops_sound l _ σ' K w' _ h1 h2 ((he.mono h4).put h3) fun env' σ'' a' w'' k1 k2 k3 k4 => hk env' σ'' a' w'' k1 k2 k3 (h4.trans k4 hs.dom))
    unfold wpList
    split
    · rename_i hw; rw [if_pos hw] at this; exact .inl this
    · rename_i hw; rw [if_neg hw] at this; exact this

end Go.Aw
