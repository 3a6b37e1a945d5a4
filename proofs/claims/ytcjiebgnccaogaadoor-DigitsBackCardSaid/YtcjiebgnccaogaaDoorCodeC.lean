/- A drawn region: independent operations may be swapped. -/
import Derived.Test.YtcjiebgnccaogaaDoorCodeB
set_option linter.unusedSimpArgs false
set_option linter.unusedVariables false
namespace Go.Aw
open Go
variable {P : Program}

theorem aop_congr {o : Oper} {env env' : Env} (h : ∀ x ∈ o.op.operands, ev env' x = ev env x) (σ : Sto) (k : AV → Sto → Prop) : aop P o env' σ k = aop P o env σ k := by
  have hmap : ∀ (xs : Array Operand), (∀ x ∈ xs, ev env' x = ev env x) → xs.toList.map (ev env') = xs.toList.map (ev env) := by
    intro xs hx
    exact List.map_congr_left fun x hm => hx x (by simpa using hm)
  have hopt : ∀ (x : Option Operand), (∀ y ∈ x, ev env' y = ev env y) → x.map (ev env') = x.map (ev env) := by
    intro x hx
    cases x with
    | none => rfl
    | some y => simp [hx y rfl]
  have hparts : ∀ (ps : Array (Nat × Operand)), (∀ x ∈ (ps.toList.map (·.2)).toArray, ev env' x = ev env x) →
      (ps.toList.map fun (p : Nat × Operand) => (p.1, ev env' p.2)) = (ps.toList.map fun (p : Nat × Operand) => (p.1, ev env p.2)) := by
    intro ps hx
    refine List.map_congr_left fun p hm => ?_
    rw [hx p.2 (by simp; exact ⟨p.1, by simpa using hm⟩)]
  unfold aop
  cases ho : o.op <;> simp only [ho, Op.operands] at h ⊢
  case move x => rw [h x (by simp)]
  case assign x => rw [h x (by simp)]
  case pick c a b => rw [h c (by simp), h a (by simp), h b (by simp)]
  case box t x => rw [h x (by simp)]
  case build t ps => rw [hparts ps h]
  case buildSlice t n ps => rw [hparts ps h]
  case load t x => rw [h x (by simp)]
  case store t x y => rw [h x (by simp), h y (by simp)]
  case nilCheck x => rw [h x (by simp)]
  case binOp op t x y u => rw [h x (by simp), h y (by simp)]
  case unOp op t x => rw [h x (by simp)]
  case convert s d x => rw [h x (by simp)]
  case makeInterface t x => rw [h x (by simp)]
  case makeFunc fn a b => rw [hmap a (fun x hx => h x (by simp [hx])), hmap b (fun x hx => h x (by simp [hx]))]
  case slice t x lo hi mx =>
    rw [h x (by simp), hopt lo (fun y hy => h y (by simp at hy; subst hy; simp)), hopt hi (fun y hy => h y (by simp at hy; subst hy; simp)),
      hopt mx (fun y hy => h y (by simp at hy; subst hy; simp))]
  case fieldAddr s x f => rw [h x (by simp)]
  case field s x f => rw [h x (by simp)]
  case indexAddr t x i => rw [h x (by simp), h i (by simp)]
  case index t x i => rw [h x (by simp), h i (by simp)]
  case extract x i => rw [h x (by simp)]
  case call c =>
    unfold aCall
    have ha := hmap c.args (fun x hx => h x (by simp [Call.operands, hx]))
    cases hc : c.callee with
    | builtin b => simp only [ha]
    | value f => simp only [ha, h f (by simp [Call.operands, hc])]
    | invoke a b => rfl

theorem ev_put {env : Env} {d : Option Tmp} {r : AV} {x : Operand} (h : ∀ t, x = .tmp t → d ≠ some t) : ev (put env d r) x = ev env x := by
  cases x with
  | tmp t =>
    cases d with
    | none => rfl
    | some d =>
      have hne : d ≠ t := fun e => h t rfl (by rw [e])
      simp [ev, put, List.getD, List.getElem?_set, hne]
  | _ => rfl

theorem aopG_put {ops : Array Oper} {o : Oper} {env : Env} {d : Option Tmp} {r : AV} (h : ∀ t ∈ o.looksAt ops, d ≠ some t) (σ : Sto) (k : AV → Sto → Prop) :
    aopG P ops o (put env d r) σ k = aopG P ops o env σ k := by
  have h1 : ∀ σ k, aop P o (put env d r) σ k = aop P o env σ k := aop_congr fun x hx => ev_put fun t ht => h t (by
    unfold Oper.looksAt
    refine List.mem_append_left _ (List.mem_filterMap.2 ⟨x, by simpa using hx, by rw [ht]⟩))
  unfold aopG
  cases hg : o.guard with
  | none => exact h1 σ k
  | some g =>
    obtain ⟨g, want⟩ := g
    have h2 : gd ops (put env d r) g = gd ops env g := by
      unfold gd
      cases hgo : ops[g]? with
      | none => rfl
      | some og =>
        simp only
        cases hd : og.dst with
        | none => rfl
        | some t =>
          have : d ≠ some t := h t (by unfold Oper.looksAt; rw [hg]; simp [hgo, hd])
          have := ev_put (env := env) (d := d) (r := r) (x := .tmp t) (fun t' ht' => by cases ht'; exact this)
          exact this
    simp only [h2, h1]

def GLike (X : Sto → (AV → Sto → Prop) → Prop) (c : Nat) : Prop :=
  (c = 0 → Like0 X) ∧ (c ≤ 1 → Like1 X) ∧ (∀ σ (k k' : AV → Sto → Prop), (∀ r s, k r s → k' r s) → X σ k → X σ k') ∧
  (c = 2 → ∀ σ k, X σ k → X σ (fun r s => k r s ∧ Keeps σ s))

theorem glike (ops : Array Oper) (o : Oper) (env : Env) : GLike (aopG P ops o env) (cls o) := by
  have base : GLike (aop P o env) (cls o) := ⟨fun h => like_op h env, fun h => like1_op h env, fun σ k k' hk h => aop_mono hk h, fun h σ k hx => grow_keeps h hx⟩
  cases hg : o.guard with
  | none =>
    have : aopG P ops o env = aop P o env := by funext σ k; simp [aopG, hg]
    rw [this]; exact base
  | some g =>
    obtain ⟨g, want⟩ := g
    cases hgd : gd ops env g with
    | sc v =>
      cases v with
      | bool t =>
        by_cases ht : t = want
        · have : aopG P ops o env = aop P o env := by funext σ k; simp [aopG, hg, hgd, ht]
          rw [this]; exact base
        · have : aopG P ops o env = fun σ k => k (.tuple []) σ := by funext σ k; simp [aopG, hg, hgd, ht]
          rw [this]
          exact ⟨fun _ σ k h => ⟨_, h, fun _ _ h' => h'⟩, fun _ σ k h => ⟨_, h, fun _ _ _ h' => h'⟩, fun σ k k' hk h => hk _ _ h, fun _ σ k h => ⟨h, fun _ _ h => h⟩⟩
      | _ =>
        have : aopG P ops o env = fun σ k => False := by funext σ k; simp [aopG, hg, hgd]
        rw [this]
        exact ⟨fun _ σ k h => h.elim, fun _ σ k h => h.elim, fun σ k k' hk h => h, fun _ σ k h => h⟩
    | tuple l =>
      cases l with
      | nil =>
        have : aopG P ops o env = fun σ k => k (.tuple []) σ := by funext σ k; simp [aopG, hg, hgd]
        rw [this]
        exact ⟨fun _ σ k h => ⟨_, h, fun _ _ h' => h'⟩, fun _ σ k h => ⟨_, h, fun _ _ _ h' => h'⟩, fun σ k k' hk h => hk _ _ h, fun _ σ k h => ⟨h, fun _ _ h => h⟩⟩
      | cons _ _ =>
        have : aopG P ops o env = fun σ k => False := by funext σ k; simp [aopG, hg, hgd]
        rw [this]
        exact ⟨fun _ σ k h => h.elim, fun _ σ k h => h.elim, fun σ k k' hk h => h, fun _ σ k h => h⟩
    | _ =>
      have : aopG P ops o env = fun σ k => False := by funext σ k; simp [aopG, hg, hgd]
      rw [this]
      exact ⟨fun _ σ k h => h.elim, fun _ σ k h => h.elim, fun σ k k' hk h => h, fun _ σ k h => h⟩

/-- an operation that is reckoned as a mere read: its answer hangs on cells that stay -/
def aopGP (P : Program) (pu : List Nat) (ops : Array Oper) (i : Nat) (o : Oper) (env : Env) (σ : Sto) (k : AV → Sto → Prop) : Prop :=
  if pu.contains i = true then ∃ (r : AV) (C : Sto → Prop), C σ ∧ (∀ σ σ', Keeps σ σ' → C σ → C σ') ∧ (∀ σ, C σ → aopG P ops o env σ (fun r' σ' => r' = r ∧ σ' = σ)) ∧ k r σ
  else aopG P ops o env σ k

def clsP (pu : List Nat) (i : Nat) (o : Oper) : Nat := if pu.contains i = true then 1 else cls o

/-- a drawn region: the operations in a given order -/
def aopsI (P : Program) (pu : List Nat) (ops : Array Oper) : List Nat → Env → Sto → (Env → Sto → Prop) → Prop
  | [], e, σ, K => K e σ
  | i :: l, e, σ, K => match ops[i]? with
    | some o => aopGP P pu ops i o e σ (fun r σ' => aopsI P pu ops l (put e o.dst r) σ' K)
    | none => False

theorem aopGP_aopG {pu : List Nat} {ops : Array Oper} {i : Nat} {o : Oper} {env : Env} {σ : Sto} {k : AV → Sto → Prop} (h : aopGP P pu ops i o env σ k) : aopG P ops o env σ k := by
  unfold aopGP at h
  split at h
  · obtain ⟨r, C, h1, h2, h3, h4⟩ := h
    exact (glike (P := P) ops o env).2.2.1 _ _ _ (fun r' σ' ⟨e1, e2⟩ => by subst e1 e2; exact h4) (h3 σ h1)
  · exact h

theorem glikeP (pu : List Nat) (ops : Array Oper) (i : Nat) (o : Oper) (env : Env) : GLike (aopGP P pu ops i o env) (clsP pu i o) := by
  by_cases hp : pu.contains i = true
  · have e1 : aopGP P pu ops i o env = fun σ k => ∃ (r : AV) (C : Sto → Prop), C σ ∧ (∀ σ σ', Keeps σ σ' → C σ → C σ') ∧ (∀ σ, C σ → aopG P ops o env σ (fun r' σ' => r' = r ∧ σ' = σ)) ∧ k r σ := by
      funext σ k; unfold aopGP; rw [if_pos hp]
    have e2 : clsP pu i o = 1 := by unfold clsP; rw [if_pos hp]
    rw [e1, e2]
    refine ⟨(fun h => absurd h (by omega)), (fun _ σ k ⟨r, C, h1, h2, h3, h4⟩ => ⟨r, h4, fun σ' k' hk hr => ⟨r, C, h2 _ _ hk h1, h2, h3, hr⟩⟩), (fun σ k k' hk ⟨r, C, h1, h2, h3, h4⟩ => ⟨r, C, h1, h2, h3, hk _ _ h4⟩), (fun h => absurd h (by omega))⟩
  · have e1 : aopGP P pu ops i o env = aopG P ops o env := by funext σ k; unfold aopGP; rw [if_neg hp]
    have e2 : clsP pu i o = cls o := by unfold clsP; rw [if_neg hp]
    rw [e1, e2]
    exact glike ops o env

theorem aopGP_put {pu : List Nat} {ops : Array Oper} {i : Nat} {o : Oper} {env : Env} {d : Option Tmp} {r : AV} (h : ∀ t ∈ o.looksAt ops, d ≠ some t) (σ : Sto) (k : AV → Sto → Prop) :
    aopGP P pu ops i o (put env d r) σ k = aopGP P pu ops i o env σ k := by
  unfold aopGP
  simp only [aopG_put (P := P) h]

theorem swap_gen {X Y : Sto → (AV → Sto → Prop) → Prop} {cj ci : Nat} (hx : GLike X cj) (hy : GLike Y ci) (hc : cj = 0 ∨ (cj = 1 ∧ ci ≤ 2)) {σ : Sto} {K : AV → AV → Sto → Prop}
    (h : X σ (fun r s => Y s (fun r' s' => K r r' s'))) : Y σ (fun r' s' => X s' (fun r s => K r r' s)) := by
  rcases hc with h0 | ⟨h1, h2⟩
  · obtain ⟨r, h1, h2⟩ := hx.1 h0 σ _ h
    exact hy.2.2.1 _ _ _ (fun r' s' hk => h2 s' _ hk) h1
  · obtain ⟨r, ha, hb⟩ := hx.2.1 (by omega) σ _ h
    by_cases h22 : ci = 2
    · exact hy.2.2.1 _ _ _ (fun r' s' ⟨hk, hkeep⟩ => hb s' _ hkeep hk) (hy.2.2.2 h22 _ _ ha)
    · obtain ⟨r', hc, hd⟩ := hy.2.1 (by omega) σ _ ha
      exact hd σ _ (fun _ _ h => h) (hb σ _ (fun _ _ h => h) hc)

/-- does 'i' wait for 'j'? -/
def dep (ops : Array Oper) (i j : Nat) : Bool :=
  match ops[i]? with
  | some o => o.after.any fun e => Region.binds .any e && e.on == j
  | none => false

def pairOK (pu : List Nat) (ops : Array Oper) (j i : Nat) : Bool :=
  dep ops i j || (match ops[j]?, ops[i]? with
    | some oj, some oi => Oper.apart ops oi oj && (clsP pu j oj == 0 || (clsP pu j oj == 1 && decide (clsP pu i oi ≤ 2)))
    | _, _ => false)

def drawL (pu : List Nat) (ops : Array Oper) : List Nat → Bool
  | [] => true
  | j :: l => (l.all fun i => pairOK pu ops j i) && !(l.contains j) && decide (j < ops.size) &&
      (match ops[j]? with
        | some o => o.after.all fun e => !Region.binds .any e || (!(l.contains e.on) && e.on != j && decide (e.on < ops.size))
        | none => false) && drawL pu ops l

def drawOK (pu : List Nat) (ops : Array Oper) (perm : List Nat) : Bool := drawL pu ops perm && decide (perm.length = ops.size) && (List.range ops.size).all fun i => perm.contains i

theorem drawL_erase {pu : List Nat} {ops : Array Oper} {i : Nat} {post : List Nat} : ∀ {pre : List Nat}, drawL pu ops (pre ++ i :: post) = true → drawL pu ops (pre ++ post) = true
  | [], h => by
    simp only [List.nil_append, drawL, Bool.and_eq_true] at h ⊢
    exact h.2
  | j :: pre, h => by
    simp only [List.cons_append, drawL, Bool.and_eq_true] at h ⊢
    obtain ⟨⟨⟨⟨h1, h2⟩, h3⟩, h4⟩, h5⟩ := h
    refine ⟨⟨⟨⟨?_, ?_⟩, h3⟩, ?_⟩, drawL_erase h5⟩
    · rw [List.all_eq_true] at h1 ⊢
      intro x hx
      refine h1 x ?_
      simp only [List.mem_append, List.mem_cons] at hx ⊢
      rcases hx with hx | hx
      · exact .inl hx
      · exact .inr (.inr hx)
    · simp only [Bool.not_eq_true', List.contains_eq_mem, decide_eq_false_iff_not, List.mem_append, List.mem_cons] at h2 ⊢
      intro hx
      exact h2 (hx.imp id .inr)
    · split at h4
      · rw [Array.all_eq_true'] at h4 ⊢
        intro e he
        have := h4 e he
        simp only [Bool.or_eq_true, Bool.not_eq_true', Bool.and_eq_true, List.contains_eq_mem, decide_eq_false_iff_not, List.mem_append, List.mem_cons] at this ⊢
        rcases this with h | ⟨⟨h, h'⟩, h''⟩
        · exact .inl h
        · exact .inr ⟨⟨fun hx => h (hx.imp id .inr), h'⟩, h''⟩
      · cases h4

theorem drawL_pair {pu : List Nat} {ops : Array Oper} {i : Nat} {post : List Nat} : ∀ {pre : List Nat}, drawL pu ops (pre ++ i :: post) = true → ∀ j ∈ pre, pairOK pu ops j i = true
  | [], _, j, hj => by cases hj
  | j0 :: pre, h, j, hj => by
    simp only [List.cons_append, drawL, Bool.and_eq_true] at h
    rcases List.mem_cons.1 hj with rfl | hj
    · exact List.all_eq_true.1 h.1.1.1.1 i (by simp)
    · exact drawL_pair h.2 j hj

theorem pull {pu : List Nat} {ops : Array Oper} {i : Nat} {oi : Oper} (hi : ops[i]? = some oi) {post : List Nat} {K : Env → Sto → Prop} : ∀ (pre : List Nat),
    (∀ j ∈ pre, pairOK pu ops j i = true ∧ dep ops i j = false) → ∀ (env : Env) (σ : Sto), aopsI P pu ops (pre ++ i :: post) env σ K → aopsI P pu ops (i :: (pre ++ post)) env σ K
  | [], _, env, σ, h => h
  | j :: pre, hp, env, σ, h => by
    obtain ⟨hpair, hnd⟩ := hp j (by simp)
    unfold pairOK at hpair
    rw [hnd, Bool.false_or] at hpair
    cases hj : ops[j]? with
    | none => rw [hj] at hpair; simp at hpair
    | some oj =>
      rw [hj, hi] at hpair
      simp only [Bool.and_eq_true, Bool.or_eq_true, beq_iff_eq, decide_eq_true_eq] at hpair
      obtain ⟨hap, hcls⟩ := hpair
      obtain ⟨a1, a2, a3⟩ := Oper.apart_spec hap
      simp only [List.cons_append, aopsI, hj] at h
      have h' := (glikeP (P := P) pu ops j oj env).2.2.1 σ _ _ (fun r s hk => pull hi pre (fun j' hj' => hp j' (by simp [hj'])) _ s hk) h
      simp only [aopsI, hi] at h'
      have h2 : aopGP P pu ops j oj env σ (fun r s => aopGP P pu ops i oi env s (fun r' s' => aopsI P pu ops (pre ++ post) (put (put env oj.dst r) oi.dst r') s' K)) := by
        refine (glikeP (P := P) pu ops j oj env).2.2.1 σ _ _ (fun r s hk => ?_) h'
        rwa [aopGP_put (fun t ht hd => a3 t hd ht)] at hk
      have h3 := swap_gen (glikeP (P := P) pu ops j oj env) (glikeP (P := P) pu ops i oi env) hcls h2
      simp only [List.cons_append, aopsI, hi, hj]
      refine (glikeP (P := P) pu ops i oi env).2.2.1 σ _ _ (fun r' s' hk => ?_) h3
      rw [aopGP_put (fun t ht hd => a1 t hd ht)]
      refine (glikeP (P := P) pu ops j oj env).2.2.1 s' _ _ (fun r s hk => ?_) hk
      have hcomm : put (put env oi.dst r') oj.dst r = put (put env oj.dst r) oi.dst r' := by
        cases hdi : oi.dst with
        | none => rfl
        | some di =>
          cases hdj : oj.dst with
          | none => rfl
          | some dj =>
            have hne : di ≠ dj := fun e => a2 di hdi (by rw [hdj, e])
            simp only [put]
            exact List.set_comm _ _ hne
      rw [hcomm]
      exact hk

end Go.Aw
