/- A list of operations is sound over abstract values. -/
import Derived.Test.YtkbpnnbdfikjhaaGreatK03Sound5
import Derived.LoopN
set_option linter.unusedSimpArgs false
set_option linter.unusedVariables false
namespace Go.Aw
open Go
variable {P : Program}

def gd (ops : Array Oper) (env : Env) (g : Nat) : AV :=
  match ops[g]? with
  | some o => match o.dst with
    | some d => env.getD d .any
    | none => .any
  | none => .any

def aopG (P : Program) (ops : Array Oper) (o : Oper) (env : Env) (σ : Sto) (k : AV → Sto → Prop) : Prop :=
  match o.guard with
  | none => aop P o env σ k
  | some (g, want) => match gd ops env g with
    | .sc (.bool t) => if t = want then aop P o env σ k else k (.tuple []) σ
    | .tuple [] => k (.tuple []) σ
    | _ => False

def aops (P : Program) (ops : Array Oper) : List Oper → Env → Sto → (Env → Sto → Prop) → Prop
  | [], e, σ, K => K e σ
  | o :: l, e, σ, K => aopG P ops o e σ (fun r σ' => aops P ops l (put e o.dst r) σ' K)

theorem gd_spec {ops : Array Oper} {σ : Sto} {w : World} {N : Nat} {env : Env} {a : Act} (he : EnvR N σ w env a) {g : Nat} {t : Bool} (h : gd ops env g = .sc (.bool t)) :
    yielded ops a.tmps g = some t := by
  unfold gd at h
  unfold yielded
  cases ho : ops[g]? with
  | none => rw [ho] at h; cases h
  | some o =>
    rw [ho] at h
    simp only at h
    cases hd : o.dst with
    | none => rw [hd] at h; cases h
    | some d =>
      rw [hd] at h
      simp only at h
      cases hc : env[d]? with
      | none => simp [List.getD, hc] at h
      | some c =>
        simp only [List.getD, hc, Option.getD_some] at h
        subst h
        have hlt : d < a.tmps.size := by rw [← he.1]; exact (List.getElem?_eq_some_iff.1 hc).1
        have hv : a.tmps[d]? = some a.tmps[d] := by simp [hlt]
        have := he.2.2 d _ _ hc hv
        generalize hav : a.tmps[d] = v at *
        cases this
        simp [hd, hv]

theorem gd_none {ops : Array Oper} {σ : Sto} {w : World} {N : Nat} {env : Env} {a : Act} (he : EnvR N σ w env a) {g : Nat} (h : gd ops env g = .tuple []) :
    yielded ops a.tmps g = none := by
  unfold gd at h
  unfold yielded
  cases ho : ops[g]? with
  | none => rw [ho] at h; cases h
  | some o =>
    rw [ho] at h
    simp only at h
    cases hd : o.dst with
    | none => rw [hd] at h; cases h
    | some d =>
      rw [hd] at h
      simp only at h
      cases hc : env[d]? with
      | none => simp [List.getD, hc] at h
      | some c =>
        simp only [List.getD, hc, Option.getD_some] at h
        subst h
        have hlt : d < a.tmps.size := by rw [← he.1]; exact (List.getElem?_eq_some_iff.1 hc).1
        have hv : a.tmps[d]? = some a.tmps[d] := by simp [hlt]
        have := he.2.2 d _ _ hc hv
        generalize hav : a.tmps[d] = v at *
        cases this
        simp [hd, hv]

theorem aopG_wp {ops : Array Oper} {σ : Sto} {w : World} {k : AV → Sto → Prop} {o : Oper} {N : Nat} {env : Env} {a : Act} {ro : Option Nat} {n : Nat} {next : Act → World → Prop} {QQ : Exit → Act → World → Prop}
    (hs : St σ w) (he : EnvR N σ w env a) (h : aopG P ops o env σ k)
    (hn : ∀ v r σ' w', k r σ' → St σ' w' → Rel σ' w' r v → Ext σ w σ' w' → next (a.put o.dst v) w') :
    if Region.wanted o (yielded ops a.tmps) then o.wpIn (FW ro) n P a w next QQ else (∀ f, o.about P w a.eval = some f → (FW ro).fn f) ∧ next (a.put o.dst undef) w := by
  unfold aopG at h
  split at h
  · rename_i hg
    rw [if_pos (by simp [Region.wanted, hg])]
    exact aop_wpIn hs he h hn
  · rename_i g want hg
    split at h
    · rename_i t ht
      have hy := gd_spec he ht
      split at h
      · rename_i htw
        rw [if_pos (by simp [Region.wanted, hg, hy, htw])]
        exact aop_wpIn hs he h hn
      · rename_i htw
        rw [if_neg (by simp [Region.wanted, hg, hy, htw])]
        exact ⟨fun f _ => FW_fn ro f, hn undef (.tuple []) σ w h hs (Rel.tuple [] #[] rfl (fun i c v hc => by simp at hc)) (Ext.refl σ w)⟩
    · rename_i ht
      have hy := gd_none he ht
      rw [if_neg (by simp [Region.wanted, hg, hy])]
      exact ⟨fun f _ => FW_fn ro f, hn undef (.tuple []) σ w h hs (Rel.tuple [] #[] rfl (fun i c v hc => by simp at hc)) (Ext.refl σ w)⟩
    · exact h.elim

inductive AExit where
  | normal | exit (id : Nat) | ret | goto (l : Nat)

def AExit.out : AExit → Exit
  | .normal => .normal
  | .exit id => .exit id
  | .ret => .ret
  | .goto l => .goto l

def Lift (N : Nat) (σ0 : Sto) (w0 : World) (Q : AExit → Env → Sto → Prop) : Exit → Act → World → Prop :=
  fun e a w => ∃ ae env σ, e = AExit.out ae ∧ Q ae env σ ∧ St σ w ∧ EnvR N σ w env a ∧ Ext σ0 w0 σ w

/-- a code's walk, said of worlds -/
def SemWp (P : Program) (c : Code) (Q : AExit → Env → Sto → Prop) (env : Env) (σ : Sto) : Prop :=
  ∀ (N : Nat) (σ0 : Sto) (w0 : World), N ≤ w0.heap.size → (∀ b o, σ0 b = some o → b < w0.heap.size) → ∀ (w : World) (a : Act), St σ w → EnvR N σ w env a → Ext σ0 w0 σ w → c.wp P (Lift N σ0 w0 Q) a w
/-- behind the code of a scope: a jump to its label 0 goes on there -/
def scopeK (P : Program) (c : Code) (Q : AExit → Env → Sto → Prop) : AExit → Env → Sto → Prop := fun x e σ => match x with
  | .goto l => l = 0 ∧ ∃ rest, findLabel c 0 = some rest ∧ SemWp P rest (fun x e σ => match x with | .goto _ => False | x => Q x e σ) e σ
  | x => Q x e σ

theorem aops_sound {N : Nat} {ro : Option Nat} {n : Nat} {ops : Array Oper} {QQ : Exit → Act → World → Prop} : ∀ (l : List Oper) (env : Env) (σ : Sto) (K : Env → Sto → Prop) (w : World) (a : Act),
    aops P ops l env σ K → St σ w → EnvR N σ w env a → (∀ env' σ' a' w', K env' σ' → St σ' w' → EnvR N σ' w' env' a' → Ext σ w σ' w' → QQ .normal a' w') →
    wpListIn (FW ro) n P ops QQ l a w
  | [], env, σ, K, w, a, h, hs, he, hk => hk env σ a w h hs he (Ext.refl σ w)
  | o :: l, env, σ, K, w, a, h, hs, he, hk => by
    have := aopG_wp (P := P) (QQ := QQ) (ro := ro) (n := n) (next := wpListIn (FW ro) n P ops QQ l) hs he h (fun v r σ' w' h1 h2 h3 h4 =>
      aops_sound l _ σ' K w' _ h1 h2 ((he.mono h4).put h3) fun env' σ'' a' w'' k1 k2 k3 k4 => hk env' σ'' a' w'' k1 k2 k3 (h4.trans k4 hs.dom))
    unfold wpListIn
    exact this

end Go.Aw

/- A drawn region: which orders may be swapped. -/
set_option linter.unusedSimpArgs false
set_option linter.unusedVariables false
namespace Go.Aw
open Go
variable {P : Program}

/-! ### Drawn regions: which operations may change places -/
/-- what an operation without memory does: it tells one value, whatever the store -/
def Like0 (X : Sto → (AV → Sto → Prop) → Prop) : Prop := ∀ σ k, X σ k → ∃ r, k r σ ∧ ∀ σ' k', k' r σ' → X σ' k'

theorem like_pick (c a b : AV) : Like0 (fun σ k => match c with | .sc (.bool t) => k (if t = true then a else b) σ | _ => False) := by
  intro σ k h
  split at h
  · exact ⟨_, h, fun _ _ h' => h'⟩
  · exact h.elim
theorem like_build (t : TypeId) (ps : List (Nat × AV)) : Like0 (aBuild P t ps) := by
  intro σ k h
  unfold aBuild at *
  cases h1 : tyPlaces P t with
  | none => simp only [h1] at h
  | some pl =>
    cases h2 : tyZero P t with
    | none => simp only [h1, h2] at h
    | some z =>
      simp only [h1, h2] at h
      cases h3 : afill (pl[·]?) z ps with
      | none => simp only [h3] at h
      | some cs => simp only [h3] at h; exact ⟨_, h, fun _ _ h' => by simp only [h3]; exact h'⟩
theorem like_buildA (t : TypeId) (ps : List (Nat × AV)) : Like0 (aBuildA P t ps) := by
  intro σ k h
  unfold aBuildA at *
  cases h1 : tyArr P t with
  | none => simp only [h1] at h
  | some pl =>
    cases h2 : tyZero P t with
    | none => simp only [h1, h2] at h
    | some z =>
      obtain ⟨n, e, es⟩ := pl
      simp only [h1, h2] at h
      cases h3 : afill (fun i => some (i * es, es)) z ps with
      | none => simp only [h3] at h
      | some cs => simp only [h3] at h; exact ⟨_, h, fun _ _ h' => by simp only [h3]; exact h'⟩
theorem like_indexAddrA (t : TypeId) (x i : AV) : Like0 (aIndexAddrA P t x i) := by
  intro σ k h
  unfold aIndexAddrA at *
  split at h
  · exact ⟨_, h.2, fun _ _ h' => ⟨h.1, h'⟩⟩
  · exact h.elim
theorem like_indexAddrM (t : TypeId) (x i : AV) : Like0 (aIndexAddrM P t x i) := by
  intro σ k h
  unfold aIndexAddrM at *
  split at h
  · exact ⟨_, h.2.2, fun _ _ h' => ⟨h.1, h.2.1, h'⟩⟩
  · exact h.elim
theorem like_indexA (t : TypeId) (x i : AV) : Like0 (aIndexA P t x i) := by
  intro σ k h
  unfold aIndexA at *
  split at h
  · rename_i n e es cs ki j ha
    obtain ⟨h0, h⟩ := h
    cases h2 : loadAV P e cs (j.toNat * es) with
    | none => simp only [h2] at h
    | some r => simp only [h2] at h; exact ⟨_, h, fun _ _ h' => ⟨h0, by simp only [h2]; exact h'⟩⟩
  · exact h.elim
theorem like_sliceM (t : TypeId) (x : AV) (lo hi mx : Option AV) : Like0 (aSliceM P t x lo hi mx) := by
  intro σ k h
  unfold aSliceM at *
  split at h
  · exact ⟨_, h.2.2, fun _ _ h' => ⟨h.1, h.2.1, h'⟩⟩
  · exact h.elim
theorem like_shr (x y : AV) : Like0 (aShr x y) := by
  intro σ k h
  unfold aShr at *
  split at h
  · exact ⟨_, h.2, fun _ _ h' => ⟨h.1, h'⟩⟩
  · exact h.elim
theorem like_buildSlice (t : TypeId) (n : Nat) (ps : List (Nat × AV)) : Like0 (aBuildSlice P t n ps) := by
  intro σ k h
  unfold aBuildSlice at *
  cases h1 : tyElem P t with
  | none => simp only [h1] at h
  | some x =>
    obtain ⟨e, es, by'⟩ := x
    simp only [h1] at h
    cases h2 : tyZero P e with
    | none => simp only [h2] at h
    | some z =>
      simp only [h2] at h
      obtain ⟨hle, h⟩ := h
      cases h3 : afill (fun i => some (i * es, es)) (zeros z n) ps with
      | none => simp only [h3] at h
      | some cs => simp only [h3] at h; exact ⟨_, h, fun _ _ h' => by simp only [h2, h3]; exact ⟨hle, h'⟩⟩
theorem like_nil (x : AV) : Like0 (aNil x) := by
  intro σ k h
  unfold aNil at *
  split at h
  · exact ⟨_, h, fun _ _ h' => h'⟩
  · exact ⟨_, h, fun _ _ h' => h'⟩
  · exact ⟨_, h, fun _ _ h' => h'⟩
  · exact ⟨_, h, fun _ _ h' => h'⟩
  · exact h.elim
theorem like_bin (op : BinOp) (t : TypeId) (lit : Bool) (x y : AV) : Like0 (aBin P op t lit x y) := by
  intro σ k h
  unfold aBin at *
  split at h
  · rename_i ka a kb b
    obtain ⟨h0, h⟩ := h
    cases h1 : scInt op ka a b with
    | none => simp only [h1] at h
    | some v =>
      obtain ⟨v, g⟩ := v
      cases g
      · simp only [h1] at h ⊢; exact ⟨_, h.2, fun _ _ h' => ⟨h0, h.1, h'⟩⟩
      · simp only [h1] at h ⊢; exact ⟨_, h, fun _ _ h' => ⟨h0, h'⟩⟩
  · rename_i a b
    cases op <;> simp only [scStr] at h ⊢ <;> first | exact h.elim | exact ⟨_, h, fun _ _ h' => h'⟩ | exact ⟨_, h.2, fun _ _ h' => ⟨h.1, h'⟩⟩
  · split at h
    · cases h1 : aEq P t lit x y with
      | none => simp only [h1] at h
      | some v =>
        simp only [h1] at h
        exact ⟨_, h, fun _ _ h' => by simp only [h1]; exact h'⟩
    · cases h1 : aEq P t lit x y with
      | none => simp only [h1] at h
      | some v =>
        simp only [h1] at h
        exact ⟨_, h, fun _ _ h' => by simp only [h1]; exact h'⟩
    · exact h.elim
theorem like_un (op : UnOp) (x : AV) : Like0 (aUn op x) := by
  intro σ k h
  unfold aUn at *
  split at h
  · exact ⟨_, h, fun _ _ h' => h'⟩
  · exact ⟨_, h, fun _ _ h' => h'⟩
  · exact h.elim
theorem like_conv (s d : TypeId) (x : AV) : Like0 (aConv P s d x) := by
  intro σ k h
  unfold aConv at *
  obtain ⟨h0, h⟩ := h
  cases h1 : tyKd P d with
  | none => simp only [h1] at h
  | some q =>
    simp only [h1] at h
    split at h
    · exact ⟨_, h, fun _ _ h' => ⟨h0, h'⟩⟩
    · exact ⟨_, h, fun _ _ h' => ⟨h0, h'⟩⟩
    · rename_i rows _
      obtain ⟨hb, h⟩ := h
      cases h2 : rowsBytes rows with
      | none => simp only [h2] at h
      | some bs => simp only [h2] at h; exact ⟨_, h, fun _ _ h' => ⟨h0, hb, by simp only [h2]; exact h'⟩⟩
    · exact h.elim
theorem like_fieldAddr (s : TypeId) (x : AV) (f : Nat) : Like0 (aFieldAddr P s x f) := by
  intro σ k h
  unfold aFieldAddr at *
  cases h1 : tyField P s f with
  | none => simp only [h1] at h
  | some q =>
    simp only [h1] at h
    cases x <;> simp only at h
    · exact ⟨_, h, fun _ _ h' => h'⟩
    · exact ⟨_, h, fun _ _ h' => h'⟩
theorem like_field (s : TypeId) (x : AV) (f : Nat) : Like0 (aField P s x f) := by
  intro σ k h
  unfold aField at *
  cases h1 : tyField P s f with
  | none => simp only [h1] at h
  | some q =>
    cases x <;> simp only [h1] at h
    rename_i cs
    cases h2 : loadAV P q.1 cs q.2.1 with
    | none => simp only [h2] at h
    | some r => simp only [h2] at h; exact ⟨_, h, fun _ _ h' => by simp only [h2]; exact h'⟩
theorem like_indexAddr (t : TypeId) (x i : AV) : Like0 (aIndexAddr P t x i) := by
  intro σ k h
  unfold aIndexAddr at *
  cases h1 : tyElem P t with
  | none => simp only [h1] at h
  | some q =>
    simp only [h1] at h
    split at h
    · rename_i a b c d e f g n he
      obtain ⟨h0, h⟩ := h
      cases h2 : f[n.toNat]? with
      | none => simp only [h2] at h
      | some r => simp only [h2] at h; exact ⟨_, h.2, fun _ _ h' => ⟨h0, by simp only [h2]; exact ⟨h.1, h'⟩⟩⟩
    · exact h.elim
theorem like_extract (x : AV) (i : Nat) : Like0 (aExtract x i) := by
  intro σ k h
  unfold aExtract at *
  cases x <;> simp only at h
  rename_i vs
  cases h2 : vs[i]? with
  | none => simp only [h2] at h
  | some r => simp only [h2] at h; exact ⟨_, h, fun _ _ h' => by simp only [h2]; exact h'⟩
theorem like_index (t : TypeId) (x i : AV) : Like0 (aIndex P t x i) := by
  intro σ k h
  unfold aIndex at *
  split at h
  · rename_i s ki n
    obtain ⟨h0, h00, h⟩ := h
    cases h2 : s.data.toList[n.toNat]? with
    | none => simp only [h2] at h
    | some r => simp only [h2] at h; exact ⟨_, h, fun _ _ h' => ⟨h0, h00, by simp only [h2]; exact h'⟩⟩
  · exact h.elim
theorem like_slice (t : TypeId) (x : AV) (lo hi mx : Option AV) : Like0 (aSlice P t x lo hi mx) := by
  intro σ k h
  unfold aSlice at *
  split at h
  · rename_i tok rows
    cases h1 : tyElem P t with
    | none => simp only [h1] at h
    | some q =>
      cases h2 : oInt lo with
      | none => simp only [h1, h2] at h
      | some l =>
        cases h3 : oInt hi with
        | none => simp only [h1, h2, h3] at h
        | some g =>
          cases h4 : oInt mx with
          | none => simp only [h1, h2, h3, h4] at h
          | some m =>
            simp only [h1, h2, h3, h4] at h
            exact ⟨_, h.2, fun _ _ h' => by simp only [h1, h2, h3, h4]; exact ⟨h.1, h'⟩⟩
  · rename_i s
    obtain ⟨h0, h⟩ := h
    cases h2 : oInt lo with
    | none => simp only [h2] at h
    | some l =>
      cases h3 : oInt hi with
      | none => simp only [h2, h3] at h
      | some g =>
        cases mx with
        | some m => simp only [h2, h3] at h
        | none => simp only [h2, h3] at h; exact ⟨_, h.2, fun _ _ h' => ⟨h0, by simp only [h2, h3]; exact ⟨h.1, h'⟩⟩⟩
  · exact h.elim
theorem like_len (b : Builtin) (ts : List TypeId) (args : List AV) (hb : b = .len ∨ b = .min ∨ b = .max) : Like0 (aBuiltin P b ts args) := by
  intro σ k h
  unfold aBuiltin at *
  split at h
  · exact ⟨_, h.2, fun _ _ h' => ⟨h.1, h'⟩⟩
  · exact ⟨_, h.2, fun _ _ h' => ⟨h.1, h'⟩⟩
  · exact ⟨_, h, fun _ _ h' => h'⟩
  · exact ⟨_, h, fun _ _ h' => h'⟩
  · simp at hb
  · simp at hb
  · simp at hb
  · exact ⟨_, h.2, fun _ _ h' => ⟨h.1, h'⟩⟩
  · exact h.elim

def cls (o : Oper) : Nat :=
  match o.op with
  | .buildSlice t _ _ => if isMut t = true then 2 else 0
  | .move _ | .assign _ | .pick _ _ _ | .build _ _ | .nilCheck _ | .unOp _ _ _ | .convert _ _ _ | .makeInterface _ _
  | .makeFunc _ _ _ | .slice _ _ _ _ _ | .fieldAddr _ _ _ | .field _ _ _ | .indexAddr _ _ _ | .index _ _ _ | .extract _ _ => 0
  | .call c => match c.callee with
    | .builtin .len | .builtin .min | .builtin .max => 0
    | .builtin .append => 2
    | _ => 3
  | .binOp op _ _ y _ => if op = .shr then 0 else if isNil y = true then 2 else 0
  | .load _ _ | .lookup _ _ _ _ => 1
  | .alloc _ | .box _ _ | .makeSlice _ _ _ | .makeMap _ _ => 2
  | _ => 3

theorem like_op {o : Oper} (h0 : cls o = 0) (env : Env) : Like0 (aop P o env) := by
  intro σ k h
  unfold aop at *
  unfold cls at h0
  cases ho : o.op <;> simp only [ho] at h h0 ⊢ <;> try (first | (cases h0; done) | (exact h.elim))
  case move x => exact ⟨_, h, fun _ _ h' => h'⟩
  case assign x => exact ⟨_, h, fun _ _ h' => h'⟩
  case pick c a b => exact like_pick _ _ _ σ k h
  case build t ps =>
    by_cases ha : (tyArr P t).isSome = true
    · simp only [ha, if_true] at h ⊢; exact like_buildA _ _ σ k h
    · simp only [ha, if_false] at h ⊢; exact like_build _ _ σ k h
  case buildSlice t n ps =>
    by_cases hm : isMut t = true
    · simp [hm] at h0
    · simp only [hm, if_false] at h ⊢; exact like_buildSlice _ _ _ σ k h
  case nilCheck x => exact like_nil _ σ k h
  case binOp op t x y u =>
    by_cases hsh : op = .shr
    · simp only [hsh, if_true] at h ⊢; exact like_shr _ _ σ k h
    · rw [if_neg hsh] at h h0
      by_cases hy : isNil y = true
      · rw [if_pos hy] at h0; cases h0
      · rw [if_neg hy] at h
        simp only [hsh, if_false, hy]
        exact like_bin _ _ _ _ _ σ k h
  case unOp op t x => exact like_un _ _ σ k h
  case convert s d x => exact like_conv _ _ _ σ k h
  case makeInterface t x => exact ⟨_, h.2.2, fun _ _ h' => ⟨h.1, h.2.1, h'⟩⟩
  case makeFunc fn a b => exact ⟨_, h, fun _ _ h' => h'⟩
  case slice t x lo hi mx =>
    by_cases hm : isMut t = true
    · simp only [hm, if_true] at h ⊢; exact like_sliceM _ _ _ _ _ σ k h
    · simp only [hm, if_false] at h ⊢; exact like_slice _ _ _ _ _ σ k h
  case fieldAddr s x f => exact like_fieldAddr _ _ _ σ k h
  case field s x f => exact like_field _ _ _ σ k h
  case indexAddr t x i =>
    by_cases hm : isMut t = true
    · simp only [hm, if_true] at h ⊢; exact like_indexAddrM _ _ _ σ k h
    · by_cases ha : (tyArr P t).isSome = true
      · simp only [hm, ha, if_true, if_false] at h ⊢; exact like_indexAddrA _ _ _ σ k h
      · simp only [hm, ha, if_false] at h ⊢; exact like_indexAddr _ _ _ σ k h
  case index t x i =>
    by_cases ha : (tyArr P t).isSome = true
    · simp only [ha, if_true] at h ⊢; exact like_indexA _ _ _ σ k h
    · simp only [ha, if_false] at h ⊢; exact like_index _ _ _ σ k h
  case extract x i => exact like_extract _ _ σ k h
  case call c =>
    unfold aCall at *
    cases hc : c.callee <;> simp only [hc] at h h0 ⊢ <;> try (cases h0; done)
    rename_i b
    cases b <;> simp only at h0 <;> first | (cases h0; done) | exact like_len _ _ _ (by simp) σ k h

/-- what a load does -/
structure Keeps (σ σ' : Sto) : Prop where
  cells : ∀ b cs, σ b = some (.cells cs) → ∃ t, σ' b = some (.cells (cs ++ t))
  map : ∀ b es, σ b = some (.map es) → σ' b = some (.map es)
theorem Keeps.refl (σ : Sto) : Keeps σ σ := ⟨fun b cs h => ⟨[], by simpa using h⟩, fun _ _ h => h⟩
theorem Keeps.same {σ σ' : Sto} (h : ∀ b o, σ b = some o → σ' b = some o) : Keeps σ σ' := ⟨fun b cs hb => ⟨[], by simpa using h b _ hb⟩, fun b _ hb => h b _ hb⟩
theorem Keeps.fresh {σ : Sto} {b : Nat} {o : AObj} (hb : σ b = none) : Keeps σ (σ.set b o) := Keeps.same fun b' o' h => by
  have : b' ≠ b := fun e => by rw [e, hb] at h; cases h
  simp [Sto.set, this, h]

theorem loadAV_app {t : TypeId} {cs : List AV} {off : Nat} {r : AV} (h : loadAV P t cs off = some r) (l : List AV) : loadAV P t (cs ++ l) off = some r := by
  unfold loadAV at *
  cases hg : tyAgg P t with
  | none => rw [hg] at h; cases h
  | some g =>
    rw [hg] at h
    cases g with
    | false =>
      simp only at h ⊢
      rw [List.getElem?_append_left (List.getElem?_eq_some_iff.1 h).1]
      exact h
    | true =>
      cases hz : tySize P t with
      | none => rw [hz] at h; cases h
      | some n =>
        rw [hz] at h
        simp only at h ⊢
        split at h
        · rename_i hle
          rw [if_pos (by simp; omega)]
          rw [← h]
          congr 2
          rw [List.drop_append_of_le_length (by omega), List.take_append_of_le_length (by simp; omega)]
        · cases h
def Like1 (X : Sto → (AV → Sto → Prop) → Prop) : Prop := ∀ σ k, X σ k → ∃ r, k r σ ∧ ∀ σ' k', Keeps σ σ' → k' r σ' → X σ' k'

theorem Like0.like1 {X : Sto → (AV → Sto → Prop) → Prop} (h : Like0 X) : Like1 X := fun σ k hx =>
  let ⟨r, h1, h2⟩ := h σ k hx
  ⟨r, h1, fun σ' k' _ hk => h2 σ' k' hk⟩

theorem like_load (t : TypeId) (x : AV) : Like1 (aLoad P t x) := by
  intro σ k h
  unfold aLoad at *
  cases x <;> simp only at h
  · rename_i b off
    cases h1 : σ b with
    | none => simp only [h1] at h
    | some q =>
      cases q <;> simp only [h1] at h
      rename_i cs
      cases h2 : loadAV P t cs off with
      | none => simp only [h2] at h
      | some r => simp only [h2] at h; exact ⟨_, h, fun σ' k' hk h' => by obtain ⟨l, hl⟩ := hk.cells b cs h1; simp only [hl, loadAV_app h2]; exact h'⟩
  · rename_i row off
    cases h2 : loadAV P t row off with
    | none => simp only [h2] at h
    | some r => simp only [h2] at h; exact ⟨_, h, fun σ' k' hk h' => by simp only [h2]; exact h'⟩

theorem like_lookup (t : TypeId) (x i : AV) (ok : Bool) : Like1 (aLookup P t x i ok) := by
  intro σ k h
  unfold aLookup at *
  split at h
  · rename_i d e b ht
    split at h
    · rename_i es key z hb hk hz
      obtain ⟨hok, h⟩ := h
      cases hg : mget es key with
      | none => rw [hg] at h; exact ⟨_, h, fun σ' k' hke h' => by simp only [hke.map b es hb, hk, hz, hg]; exact ⟨hok, h'⟩⟩
      | some c => rw [hg] at h; exact ⟨_, h, fun σ' k' hke h' => by simp only [hke.map b es hb, hk, hz, hg]; exact ⟨hok, h'⟩⟩
    · exact h.elim
  · exact h.elim

theorem like1_op {o : Oper} (h0 : cls o ≤ 1) (env : Env) : Like1 (aop P o env) := by
  by_cases h : cls o = 0
  · exact (like_op h env).like1
  · have h1 : cls o = 1 := by omega
    intro σ k hx
    unfold aop at *
    unfold cls at h1
    cases ho : o.op <;> simp only [ho] at hx h1 ⊢ <;> try (first | (cases h1; done) | (exact hx.elim))
    case load t x => exact like_load _ _ σ k hx
    case lookup t x i ok => exact like_lookup _ _ _ _ σ k hx
    case buildSlice t n ps => split at h1 <;> cases h1
    case binOp op t x y u =>
      split at h1
      · cases h1
      · split at h1 <;> cases h1
    case call c =>
      cases hc : c.callee <;> simp only [hc] at h1 <;> try (cases h1; done)
      rename_i b
      cases b <;> simp at h1

theorem appM_mono {t u : TypeId} {x y : AV} {σ : Sto} {k k' : AV → Sto → Prop} (hk : ∀ r s, k r s → k' r s) (h : aAppendM P t u x y σ k) : aAppendM P t u x y σ k' := by
  unfold aAppendM at *
  split at h
  · obtain ⟨h1, h2, h3, h4, h5, h⟩ := h
    refine ⟨h1, h2, h3, h4, h5, ?_⟩
    split at h
    · obtain ⟨g1, g2, h⟩ := h
      refine ⟨g1, g2, ?_⟩
      split at h
      · exact ⟨h.1, fun b hb => hk _ _ (h.2 b hb)⟩
      · obtain ⟨e1, e2, e3, h⟩ := h
        refine ⟨e1, e2, e3, ?_⟩
        split at h
        · exact ⟨h.1, h.2.1, hk _ _ h.2.2.1, fun b hb => hk _ _ (h.2.2.2 b hb)⟩
        · exact h.elim
      · exact h.elim
    · exact h.elim
  · exact h.elim

theorem appM_keeps {t u : TypeId} {x y : AV} {σ : Sto} {k : AV → Sto → Prop} (h : aAppendM P t u x y σ k) : aAppendM P t u x y σ (fun r s => k r s ∧ Keeps σ s) := by
  unfold aAppendM at *
  split at h
  · obtain ⟨h1, h2, h3, h4, h5, h⟩ := h
    refine ⟨h1, h2, h3, h4, h5, ?_⟩
    split at h
    · rename_i cs2 hb2
      obtain ⟨g1, g2, h⟩ := h
      refine ⟨g1, g2, ?_⟩
      split at h
      · exact ⟨h.1, fun b hb => ⟨h.2 b hb, Keeps.fresh hb⟩⟩
      · rename_i b off n es1
        obtain ⟨e1, e2, e3, h⟩ := h
        refine ⟨e1, e2, e3, ?_⟩
        split at h
        · rename_i cs hb
          refine ⟨h.1, h.2.1, ⟨h.2.2.1, fun b' cs' hb' => ?_, fun b' es' hb' => ?_⟩, fun b hb => ⟨h.2.2.2 b hb, Keeps.fresh hb⟩⟩
          · by_cases hne : b' = b
            · subst hne; rw [hb] at hb'; cases hb'; exact ⟨cs2, by simp [Sto.set]⟩
            · exact ⟨[], by simp [Sto.set, hne, hb']⟩
          · have hne : b' ≠ b := fun e => by rw [e, hb] at hb'; cases hb'
            simp [Sto.set, hne, hb']
        · exact h.elim
      · exact h.elim
    · exact h.elim
  · exact h.elim

theorem aop_mono {o : Oper} {env : Env} {σ : Sto} {k k' : AV → Sto → Prop} (hk : ∀ r s, k r s → k' r s) (h : aop P o env σ k) : aop P o env σ k' := by
  by_cases h0 : cls o ≤ 1
  · obtain ⟨r, h1, h2⟩ := like1_op h0 env σ k h
    exact h2 σ k' (Keeps.refl σ) (hk _ _ h1)
  · have alloc : ∀ cs, aAlloc cs σ k → aAlloc cs σ k' := by
      intro cs h
      unfold aAlloc at *
      cases cs with
      | none => exact h
      | some c => exact fun b hb => hk _ _ (h b hb)
    unfold aop at *
    unfold cls at h0
    cases ho : o.op <;> simp only [ho] at h h0 ⊢ <;> try (first | (exact h.elim) | (exact absurd (Nat.zero_le _) h0) | (exact absurd (Nat.le_refl _) h0))
    case alloc t => exact alloc _ h
    case box t x => exact alloc _ h
    case buildSlice t n ps =>
      by_cases hm : isMut t = true
      · simp only [hm, if_true] at h ⊢
        unfold aBuildSliceM at *
        split at h
        · split at h
          · refine ⟨h.1, ?_⟩
            have h := h.2
            split at h
            · exact fun b hb => hk _ _ (h b hb)
            · exact h.elim
          · exact h.elim
        · exact h.elim
      · simp [hm] at h0
    case makeSlice t l c =>
      unfold aMakeSlice at *
      split at h
      · split at h
        · exact ⟨h.1, h.2.1, h.2.2.1, h.2.2.2.1, fun b hb => hk _ _ (h.2.2.2.2 b hb)⟩
        · exact h.elim
      · exact h.elim
    case makeMap t r => exact ⟨h.1, fun b hb => hk _ _ (h.2 b hb)⟩
    case mapUpdate t m i x =>
      unfold aMapUpdate at *
      split at h
      · split at h
        · exact ⟨h.1, hk _ _ h.2⟩
        · exact h.elim
      · exact h.elim
    case range t x =>
      unfold aRange at *
      split at h
      · split at h
        · exact fun b hb => hk _ _ (h b hb)
        · exact h.elim
      · exact h.elim
    case next x s =>
      unfold aNext at *
      split at h
      · split at h
        · exact ⟨fun he => hk _ _ (h.1 he), fun i key c hi => hk _ _ (h.2 i key c hi)⟩
        · exact h.elim
      · exact h.elim
    case entry x =>
      unfold aEntry at *
      split at h
      · split at h
        · exact hk _ _ h
        · exact h.elim
      · exact h.elim
    case binOp op t x y u =>
      by_cases hsh : op = .shr
      · simp [hsh] at h0
      · rw [if_neg hsh] at h h0 ⊢
        by_cases hy : isNil y = true
        · rw [if_pos hy] at h ⊢
          unfold aNilEq at *
          split at h
          · exact ⟨h.1, fun b hb => hk _ _ (h.2 b hb)⟩
          · exact ⟨h.1, fun b hb => hk _ _ (h.2 b hb)⟩
          · exact h.elim
        · rw [if_neg hy] at h0; omega
    case store t a x =>
      unfold aStore at *
      split at h
      · split at h
        · exact ⟨h.1, h.2.1, h.2.2.1, hk _ _ h.2.2.2⟩
        · exact h.elim
      · exact h.elim
    case call c =>
      unfold aCall at *
      cases hc : c.callee with
      | builtin b =>
        simp only [hc] at h h0 ⊢
        unfold aBuiltin at *
        split at h
        · simp at h0
        · simp at h0
        · simp at h0
        · simp at h0
        · split at h
          · rename_i hm
            rw [if_pos hm]
            exact appM_mono hk h
          · rename_i hm
            rw [if_neg hm]
            unfold aAppend at *
            split at h
            · exact ⟨h.1, h.2.1, h.2.2.1, h.2.2.2.1, h.2.2.2.2.1, h.2.2.2.2.2.1, h.2.2.2.2.2.2.1, fun a b => hk _ _ (h.2.2.2.2.2.2.2.1 a b), fun b hb => hk _ _ (h.2.2.2.2.2.2.2.2 b hb)⟩
            · exact h.elim
        · unfold aDelete at *
          split at h
          · split at h
            · exact ⟨h.1, hk _ _ h.2⟩
            · exact h.elim
          · exact h.elim
        · unfold aClear at *
          split at h
          · split at h
            · exact hk _ _ h
            · exact h.elim
          · exact h.elim
        · simp at h0
        · exact h.elim
      | value f =>
        simp only [hc] at h ⊢
        split at h
        · exact ⟨h.1, h.2.mono hk⟩
        · split at h
          · exact ⟨h.1, h.2.mono hk⟩
          · exact h.elim
        · exact h.mono hk
        · exact h.elim
      | invoke a b =>
        simp only [hc] at h ⊢
        split at h
        · split at h
          · exact ⟨h.1, h.2.mono hk⟩
          · exact h.elim
        · exact h.elim

theorem Keeps.grow {σ : Sto} {tok : Tok} {es b m n : Nat} {Y : Prop}
    (h7 : match tok with | .dead => False | .clip => True | .live b e => e = es ∧ σ b = some (.top n)) (hb : tok = .live b es ∨ σ b = none ∧ Y) : Keeps σ ((tokDel σ tok).set b (.top m)) := by
  have key : ∀ b' o, (∀ q, o ≠ .top q) → σ b' = some o → ((tokDel σ tok).set b (.top m)) b' = some o := by
    intro b' o ho hcs
    have hne : b' ≠ b := by
      rintro rfl
      rcases hb with rfl | ⟨hb, _⟩
      · simp only at h7; rw [h7.2] at hcs; cases hcs; exact ho _ rfl
      · rw [hb] at hcs; cases hcs
    have hd : tokDel σ tok b' = some o := by
      cases tok with
      | dead => exact hcs
      | clip => exact hcs
      | live b2 e2 =>
        have : b' ≠ b2 := by
          rintro rfl
          simp only at h7; rw [h7.2] at hcs; cases hcs; exact ho _ rfl
        simp [tokDel, Sto.del, this, hcs]
    simp [Sto.set, hne, hd]
  exact ⟨fun b' cs h => ⟨[], by simpa using key b' _ (fun q e => by cases e) h⟩, fun b' es h => key b' _ (fun q e => by cases e) h⟩

/-- what is added leaves the objects as they are -/
theorem grow_keeps {o : Oper} (h2 : cls o = 2) {env : Env} {σ : Sto} {k : AV → Sto → Prop} (h : aop P o env σ k) : aop P o env σ (fun r s => k r s ∧ Keeps σ s) := by
  have alloc : ∀ cs, aAlloc cs σ k → aAlloc cs σ (fun r s => k r s ∧ Keeps σ s) := by
    intro cs h
    unfold aAlloc at *
    cases cs with
    | none => exact h
    | some c =>
      exact fun b hb => ⟨h b hb, Keeps.fresh hb⟩
  unfold aop at *
  unfold cls at h2
  cases ho : o.op <;> simp only [ho] at h h2 ⊢ <;> try (first | (exact h.elim) | (cases h2; done))
  case alloc t => exact alloc _ h
  case box t x => exact alloc _ h
  case buildSlice t n ps =>
    by_cases hm : isMut t = true
    · simp only [hm, if_true] at h ⊢
      unfold aBuildSliceM at *
      split at h
      · split at h
        · refine ⟨h.1, ?_⟩
          have h := h.2
          split at h
          · exact fun b hb => ⟨h b hb, Keeps.fresh hb⟩
          · exact h.elim
        · exact h.elim
      · exact h.elim
    · simp [hm] at h2
  case makeSlice t l c =>
    unfold aMakeSlice at *
    split at h
    · split at h
      · exact ⟨h.1, h.2.1, h.2.2.1, h.2.2.2.1, fun b hb => ⟨h.2.2.2.2 b hb, Keeps.fresh hb⟩⟩
      · exact h.elim
    · exact h.elim
  case makeMap t r => exact ⟨h.1, fun b hb => ⟨h.2 b hb, Keeps.fresh hb⟩⟩
  case binOp op t x y u =>
    by_cases hsh : op = .shr
    · simp [hsh] at h2
    · rw [if_neg hsh] at h h2 ⊢
      by_cases hy : isNil y = true
      · rw [if_pos hy] at h ⊢
        unfold aNilEq at *
        split at h
        · exact ⟨h.1, fun b hb => ⟨h.2 b hb, Keeps.refl _⟩⟩
        · exact ⟨h.1, fun b hb => ⟨h.2 b hb, Keeps.refl _⟩⟩
        · exact h.elim
      · rw [if_neg hy] at h2; cases h2
  case call c =>
    unfold aCall at *
    cases hc : c.callee <;> simp only [hc] at h h2 ⊢ <;> try (cases h2; done)
    rename_i b
    cases b <;> simp only at h2 <;> try (cases h2; done)
    have app : ∀ t u x y, aAppend P t u x y σ k → aAppend P t u x y σ (fun r s => k r s ∧ Keeps σ s) := by
      intro t u x y h
      unfold aAppend at *
      split at h
      · rename_i e es by' tok rows _ ys he
        obtain ⟨h1, h2, h3, h4, h5, h6, h7, h8, h9⟩ := h
        refine ⟨h1, h2, h3, h4, h5, h6, h7, fun a b => ⟨h8 a b, Keeps.refl _⟩, fun b hb => ⟨h9 b hb, Keeps.grow h7 hb⟩⟩
      · exact h.elim
    unfold aBuiltin at *
    split at h
    · rename_i hb _ _; cases hb
    · rename_i hb _ _; cases hb
    · rename_i hb _; cases hb
    · rename_i hb _; cases hb
    · split at h
      · rename_i hm
        rw [if_pos hm]
        exact appM_keeps h
      · rename_i hm
        rw [if_neg hm]
        exact app _ _ _ _ h
    · rename_i hb _ _; cases hb
    · rename_i hb _ _; cases hb
    · rename_i hb _ _; cases hb
    · exact h.elim

/-- 'i' may be taken ahead of 'j' -/
theorem swap_ops {oj oi : Oper} (hc : cls oj = 0 ∨ (cls oj = 1 ∧ cls oi ≤ 2)) {env : Env} {σ : Sto} {K : AV → AV → Sto → Prop}
    (h : aop P oj env σ (fun r s => aop P oi env s (fun r' s' => K r r' s'))) : aop P oi env σ (fun r' s' => aop P oj env s' (fun r s => K r r' s)) := by
  rcases hc with h0 | ⟨h1, h2⟩
  · obtain ⟨r, h1, h2⟩ := like_op h0 env σ _ h
    exact aop_mono (fun r' s' hk => h2 s' _ hk) h1
  · obtain ⟨r, ha, hb⟩ := like1_op (by omega) env σ _ h
    by_cases h22 : cls oi = 2
    · exact aop_mono (fun r' s' ⟨hk, hkeep⟩ => hb s' _ hkeep hk) (grow_keeps h22 ha)
    · obtain ⟨r', hc, hd⟩ := like1_op (o := oi) (by omega) env σ _ ha
      exact hd σ _ (Keeps.refl _) (hb σ _ (Keeps.refl _) hc)

end Go.Aw

/- A drawn region: independent operations may be swapped. -/
set_option linter.unusedSimpArgs false
set_option linter.unusedVariables false
namespace Go.Aw
open Go
variable {P : Program}

theorem aop_congr {o : Oper} {env env' : Env} (h : ∀ x ∈ o.op.operands, ev env' x = ev env x) (σ : Sto) (k : AV → Sto → Prop) : aop P o env' σ k = aop P o env σ k := by
  have hmap : ∀ (xs : Array Operand), (∀ x ∈ xs, ev env' x = ev env x) → xs.toList.map (ev env') = xs.toList.map (ev env) := by
    intro xs hx
    exact List.map_congr_left fun x hm => hx x (by simpa using hm)
  have hopt : ∀ (x : Option Operand), (∀ y ∈ x, ev env' y = ev env y) → x.map (ev env') = x.map (ev env) := by
    intro x hx
    cases x with
    | none => rfl
    | some y => simp [hx y rfl]
  have hparts : ∀ (ps : Array (Nat × Operand)), (∀ x ∈ (ps.toList.map (·.2)).toArray, ev env' x = ev env x) →
      (ps.toList.map fun (p : Nat × Operand) => (p.1, ev env' p.2)) = (ps.toList.map fun (p : Nat × Operand) => (p.1, ev env p.2)) := by
    intro ps hx
    refine List.map_congr_left fun p hm => ?_
    rw [hx p.2 (by simp; exact ⟨p.1, by simpa using hm⟩)]
  unfold aop
  cases ho : o.op <;> simp only [ho, Op.operands] at h ⊢
  case move x => rw [h x (by simp)]
  case assign x => rw [h x (by simp)]
  case pick c a b => rw [h c (by simp), h a (by simp), h b (by simp)]
  case box t x => rw [h x (by simp)]
  case build t ps => rw [hparts ps h]
  case buildSlice t n ps => rw [hparts ps h]
  case load t x => rw [h x (by simp)]
  case store t x y => rw [h x (by simp), h y (by simp)]
  case nilCheck x => rw [h x (by simp)]
  case binOp op t x y u => rw [h x (by simp), h y (by simp)]
  case unOp op t x => rw [h x (by simp)]
  case convert s d x => rw [h x (by simp)]
  case makeInterface t x => rw [h x (by simp)]
  case makeFunc fn a b => rw [hmap a (fun x hx => h x (by simp [hx])), hmap b (fun x hx => h x (by simp [hx]))]
  case slice t x lo hi mx =>
    rw [h x (by simp), hopt lo (fun y hy => h y (by simp at hy; subst hy; simp)), hopt hi (fun y hy => h y (by simp at hy; subst hy; simp)),
      hopt mx (fun y hy => h y (by simp at hy; subst hy; simp))]
  case fieldAddr s x f => rw [h x (by simp)]
  case field s x f => rw [h x (by simp)]
  case indexAddr t x i => rw [h x (by simp), h i (by simp)]
  case index t x i => rw [h x (by simp), h i (by simp)]
  case extract x i => rw [h x (by simp)]
  case call c =>
    unfold aCall
    have ha := hmap c.args (fun x hx => h x (by simp [Call.operands, hx]))
    cases hc : c.callee with
    | builtin b => simp only [ha]
    | value f => simp only [ha, h f (by simp [Call.operands, hc])]
    | invoke a b => simp only [ha, h a (by simp [Call.operands, hc])]
  case makeSlice t l c => rw [h l (by simp), h c (by simp)]
  case lookup t x i ok => rw [h x (by simp), h i (by simp)]
  case mapUpdate t m i x => rw [h m (by simp), h i (by simp), h x (by simp)]
  case range t x => rw [h x (by simp)]
  case next x s => rw [h x (by simp)]
  case entry x => rw [h x (by simp)]

theorem ev_put {env : Env} {d : Option Tmp} {r : AV} {x : Operand} (h : ∀ t, x = .tmp t → d ≠ some t) : ev (put env d r) x = ev env x := by
  cases x with
  | tmp t =>
    cases d with
    | none => rfl
    | some d =>
      have hne : d ≠ t := fun e => h t rfl (by rw [e])
      simp [ev, put, List.getD, List.getElem?_set, hne]
  | _ => rfl

theorem aopG_put {ops : Array Oper} {o : Oper} {env : Env} {d : Option Tmp} {r : AV} (h : ∀ t ∈ o.looksAt ops, d ≠ some t) (σ : Sto) (k : AV → Sto → Prop) :
    aopG P ops o (put env d r) σ k = aopG P ops o env σ k := by
  have h1 : ∀ σ k, aop P o (put env d r) σ k = aop P o env σ k := aop_congr fun x hx => ev_put fun t ht => h t (by
    unfold Oper.looksAt
    refine List.mem_append_left _ (List.mem_filterMap.2 ⟨x, by simpa using hx, by rw [ht]⟩))
  unfold aopG
  cases hg : o.guard with
  | none => exact h1 σ k
  | some g =>
    obtain ⟨g, want⟩ := g
    have h2 : gd ops (put env d r) g = gd ops env g := by
      unfold gd
      cases hgo : ops[g]? with
      | none => rfl
      | some og =>
        simp only
        cases hd : og.dst with
        | none => rfl
        | some t =>
          have : d ≠ some t := h t (by unfold Oper.looksAt; rw [hg]; simp [hgo, hd])
          have := ev_put (env := env) (d := d) (r := r) (x := .tmp t) (fun t' ht' => by cases ht'; exact this)
          exact this
    simp only [h2, h1]

def GLike (X : Sto → (AV → Sto → Prop) → Prop) (c : Nat) : Prop :=
  (c = 0 → Like0 X) ∧ (c ≤ 1 → Like1 X) ∧ (∀ σ (k k' : AV → Sto → Prop), (∀ r s, k r s → k' r s) → X σ k → X σ k') ∧
  (c = 2 → ∀ σ k, X σ k → X σ (fun r s => k r s ∧ Keeps σ s))

theorem glike (ops : Array Oper) (o : Oper) (env : Env) : GLike (aopG P ops o env) (cls o) := by
  have base : GLike (aop P o env) (cls o) := ⟨fun h => like_op h env, fun h => like1_op h env, fun σ k k' hk h => aop_mono hk h, fun h σ k hx => grow_keeps h hx⟩
  cases hg : o.guard with
  | none =>
    have : aopG P ops o env = aop P o env := by funext σ k; simp [aopG, hg]
    rw [this]; exact base
  | some g =>
    obtain ⟨g, want⟩ := g
    cases hgd : gd ops env g with
    | sc v =>
      cases v with
      | bool t =>
        by_cases ht : t = want
        · have : aopG P ops o env = aop P o env := by funext σ k; simp [aopG, hg, hgd, ht]
          rw [this]; exact base
        · have : aopG P ops o env = fun σ k => k (.tuple []) σ := by funext σ k; simp [aopG, hg, hgd, ht]
          rw [this]
          exact ⟨fun _ σ k h => ⟨_, h, fun _ _ h' => h'⟩, fun _ σ k h => ⟨_, h, fun _ _ _ h' => h'⟩, fun σ k k' hk h => hk _ _ h, fun _ σ k h => ⟨h, Keeps.refl _⟩⟩
      | _ =>
        have : aopG P ops o env = fun σ k => False := by funext σ k; simp [aopG, hg, hgd]
        rw [this]
        exact ⟨fun _ σ k h => h.elim, fun _ σ k h => h.elim, fun σ k k' hk h => h, fun _ σ k h => h⟩
    | tuple l =>
      cases l with
      | nil =>
        have : aopG P ops o env = fun σ k => k (.tuple []) σ := by funext σ k; simp [aopG, hg, hgd]
        rw [this]
        exact ⟨fun _ σ k h => ⟨_, h, fun _ _ h' => h'⟩, fun _ σ k h => ⟨_, h, fun _ _ _ h' => h'⟩, fun σ k k' hk h => hk _ _ h, fun _ σ k h => ⟨h, Keeps.refl _⟩⟩
      | cons _ _ =>
        have : aopG P ops o env = fun σ k => False := by funext σ k; simp [aopG, hg, hgd]
        rw [this]
        exact ⟨fun _ σ k h => h.elim, fun _ σ k h => h.elim, fun σ k k' hk h => h, fun _ σ k h => h⟩
    | _ =>
      have : aopG P ops o env = fun σ k => False := by funext σ k; simp [aopG, hg, hgd]
      rw [this]
      exact ⟨fun _ σ k h => h.elim, fun _ σ k h => h.elim, fun σ k k' hk h => h, fun _ σ k h => h⟩

/-- all but one block is kept -/
structure KeepsB (b : Nat) (σ σ' : Sto) : Prop where
  cells : ∀ x cs, x ≠ b → σ x = some (.cells cs) → ∃ t, σ' x = some (.cells (cs ++ t))
  map : ∀ x es, x ≠ b → σ x = some (.map es) → σ' x = some (.map es)
theorem Keeps.b {b : Nat} {σ σ' : Sto} (h : Keeps σ σ') : KeepsB b σ σ' := ⟨fun x cs _ hx => h.cells x cs hx, fun x es _ hx => h.map x es hx⟩
theorem KeepsB.set {b : Nat} {σ : Sto} {o : AObj} : KeepsB b σ (σ.set b o) :=
  ⟨fun x cs hn hx => ⟨[], by simpa [Sto.set, hn] using hx⟩, fun x es hn hx => by simpa [Sto.set, hn] using hx⟩
/-- what the operations that change places keep: all claims; or all but those on one block -/
def Rl (st : List Nat) (b : Nat) (σ σ' : Sto) : Prop := if st.isEmpty = true then Keeps σ σ' else KeepsB b σ σ'
theorem Keeps.rl {st : List Nat} {b : Nat} {σ σ' : Sto} (h : Keeps σ σ') : Rl st b σ σ' := by
  unfold Rl; split
  · exact h
  · exact h.b
theorem Rl.refl (st : List Nat) (b : Nat) (σ : Sto) : Rl st b σ σ := (Keeps.refl σ).rl
def LikeR (st : List Nat) (b : Nat) (X : Sto → (AV → Sto → Prop) → Prop) : Prop := ∀ σ k, X σ k → ∃ r, k r σ ∧ ∀ σ' k', Rl st b σ σ' → k' r σ' → X σ' k'
def GLikeR (st : List Nat) (b : Nat) (X : Sto → (AV → Sto → Prop) → Prop) (c : Nat) : Prop :=
  (c = 0 → Like0 X) ∧ (c ≤ 1 → LikeR st b X) ∧ (∀ σ (k k' : AV → Sto → Prop), (∀ r s, k r s → k' r s) → X σ k → X σ k') ∧
  (c = 2 → ∀ σ k, X σ k → X σ (fun r s => k r s ∧ Rl st b σ s))

/-- an operation that is reckoned as a mere read: its answer hangs on claims that are kept; or as one that only writes to the one block -/
def aopGP (P : Program) (rd st : List Nat) (lb : Nat) (ops : Array Oper) (i : Nat) (o : Oper) (env : Env) (σ : Sto) (k : AV → Sto → Prop) : Prop :=
  if rd.contains i = true then ∃ (r : AV) (C : Sto → Prop), C σ ∧ (∀ σ σ', Rl st lb σ σ' → C σ → C σ') ∧ (∀ σ, C σ → aopG P ops o env σ (fun r' σ' => r' = r ∧ σ' = σ)) ∧ k r σ
  else if st.contains i = true then aopG P ops o env σ (fun r s => k r s ∧ Rl st lb σ s)
  else if st.contains (i + 1000) = true then ∃ cs, (∀ σ k, aAlloc (some cs) σ k → aopG P ops o env σ k) ∧ aAlloc (some cs) σ k
  else aopG P ops o env σ k

def clsP (rd st : List Nat) (i : Nat) (o : Oper) : Nat :=
  if rd.contains i = true then 1 else if st.contains i = true then 2 else if st.contains (i + 1000) = true then 2 else if st.isEmpty = true then cls o else if cls o = 1 then 3 else cls o

/-- what lays a new block, and no more -/
def AlS (X : Sto → (AV → Sto → Prop) → Prop) : Prop := ∃ (o : AObj) (f : Nat → AV), ∀ σ k, X σ k ↔ ∀ b, σ b = none → k (f b) (σ.set b o)
def AlU (X : Sto → (AV → Sto → Prop) → Prop) : Prop := ∀ σ k, X σ k → ∃ Y, AlS Y ∧ Y σ k ∧ ∀ σ' k', Y σ' k' → X σ' k'
def alS (rd st : List Nat) (i : Nat) (o : Oper) : Bool := !rd.contains i && !st.contains i && !st.contains (i + 1000) && o.guard.isNone && match o.op with
  | .makeMap _ none => true
  | _ => false
/-- one that is reckoned as such (marked by its number and a thousand), or is one -/
def alU (rd st : List Nat) (i : Nat) (o : Oper) : Bool := alS rd st i o || (!rd.contains i && !st.contains i && st.contains (i + 1000))

theorem set_comm {σ : Sto} {a b : Nat} {x y : AObj} (h : a ≠ b) : (σ.set a x).set b y = (σ.set b y).set a x := by
  funext z
  simp only [Sto.set]
  by_cases h1 : z = b
  · subst h1; simp [Ne.symm h]
  · simp [h1]

theorem swap_al {X Y : Sto → (AV → Sto → Prop) → Prop} (hx : AlU X) (hy : AlS Y) {σ : Sto} {K : AV → AV → Sto → Prop}
    (h : X σ (fun r s => Y s (fun r' s' => K r r' s'))) : Y σ (fun r' s' => X s' (fun r s => K r r' s)) := by
  obtain ⟨X0, ⟨o1, f, h1⟩, h2, h3⟩ := hx σ _ h
  obtain ⟨o2, g, h4⟩ := hy
  rw [h4]
  rw [h1] at h2
  intro b2 hb2
  refine h3 _ _ ((h1 _ _).2 fun b1 hb1 => ?_)
  have hne : b1 ≠ b2 := fun e => by subst e; simp [Sto.set] at hb1
  have hb1' : σ b1 = none := by simpa [Sto.set, hne] using hb1
  have := (h4 _ _).1 (h2 b1 hb1') b2 (by simpa [Sto.set, Ne.symm hne] using hb2)
  rwa [set_comm hne] at this

/-- a drawn region: the operations in a given order -/
def aopsI (P : Program) (rd st : List Nat) (lb : Nat) (ops : Array Oper) : List Nat → Env → Sto → (Env → Sto → Prop) → Prop
  | [], e, σ, K => K e σ
  | i :: l, e, σ, K => match ops[i]? with
    | some o => aopGP P rd st lb ops i o e σ (fun r σ' => aopsI P rd st lb ops l (put e o.dst r) σ' K)
    | none => False

theorem aopGP_aopG {rd st : List Nat} {lb : Nat} {ops : Array Oper} {i : Nat} {o : Oper} {env : Env} {σ : Sto} {k : AV → Sto → Prop} (h : aopGP P rd st lb ops i o env σ k) : aopG P ops o env σ k := by
  unfold aopGP at h
  split at h
  · obtain ⟨r, C, h1, h2, h3, h4⟩ := h
    exact (glike (P := P) ops o env).2.2.1 _ _ _ (fun r' σ' ⟨e1, e2⟩ => by subst e1 e2; exact h4) (h3 σ h1)
  · split at h
    · exact (glike (P := P) ops o env).2.2.1 _ _ _ (fun r' σ' hk => hk.1) h
    · split at h
      · obtain ⟨cs, h1, h2⟩ := h
        exact h1 _ _ h2
      · exact h

theorem alike {rd st : List Nat} {lb : Nat} {ops : Array Oper} {i : Nat} {o : Oper} {env : Env} (h : alS rd st i o = true) : AlS (aopGP P rd st lb ops i o env) := by
  simp only [alS, Bool.and_eq_true, Bool.not_eq_true', Option.isNone_iff_eq_none] at h
  obtain ⟨⟨⟨⟨h1, h2⟩, h3⟩, h4⟩, h5⟩ := h
  split at h5
  · rename_i t ho
    refine ⟨.map [], fun b => .sc (.map (some b)), fun σ k => ?_⟩
    simp only [aopGP, h1, h2, h3, aopG, h4, aop, ho, aMakeMap, Bool.false_eq_true, if_false, true_and]
  · cases h5
theorem alikeU {rd st : List Nat} {lb : Nat} {ops : Array Oper} {i : Nat} {o : Oper} {env : Env} (h : alU rd st i o = true) : AlU (aopGP P rd st lb ops i o env) := by
  simp only [alU, Bool.or_eq_true, Bool.and_eq_true, Bool.not_eq_true'] at h
  rcases h with h | ⟨⟨h1, h2⟩, h3⟩
  · exact fun σ k hx => ⟨_, alike h, hx, fun _ _ h => h⟩
  · intro σ k hx
    simp only [aopGP, h1, h2, h3, Bool.false_eq_true, if_false, if_true] at hx
    obtain ⟨cs, ha, hb⟩ := hx
    refine ⟨aAlloc (some cs), ⟨.cells cs, fun b => .ptr b 0, fun σ k => Iff.rfl⟩, hb, fun σ' k' hk => ?_⟩
    simp only [aopGP, h1, h2, h3, Bool.false_eq_true, if_false, if_true]
    exact ⟨cs, ha, hk⟩

theorem glikeP (rd st : List Nat) (lb : Nat) (ops : Array Oper) (i : Nat) (o : Oper) (env : Env) : GLikeR st lb (aopGP P rd st lb ops i o env) (clsP rd st i o) := by
  by_cases hp : rd.contains i = true
  · have e1 : aopGP P rd st lb ops i o env = fun σ k => ∃ (r : AV) (C : Sto → Prop), C σ ∧ (∀ σ σ', Rl st lb σ σ' → C σ → C σ') ∧ (∀ σ, C σ → aopG P ops o env σ (fun r' σ' => r' = r ∧ σ' = σ)) ∧ k r σ := by
      funext σ k; unfold aopGP; rw [if_pos hp]
    have e2 : clsP rd st i o = 1 := by unfold clsP; rw [if_pos hp]
    rw [e1, e2]
    refine ⟨(fun h => absurd h (by omega)), (fun _ σ k ⟨r, C, h1, h2, h3, h4⟩ => ⟨r, h4, fun σ' k' hk hr => ⟨r, C, h2 _ _ hk h1, h2, h3, hr⟩⟩), (fun σ k k' hk ⟨r, C, h1, h2, h3, h4⟩ => ⟨r, C, h1, h2, h3, hk _ _ h4⟩), (fun h => absurd h (by omega))⟩
  · obtain ⟨g0, g1, g2, g3⟩ := glike (P := P) ops o env
    by_cases hs : st.contains i = true
    · have e1 : aopGP P rd st lb ops i o env = fun σ k => aopG P ops o env σ (fun r s => k r s ∧ Rl st lb σ s) := by funext σ k; unfold aopGP; rw [if_neg hp, if_pos hs]
      have e2 : clsP rd st i o = 2 := by unfold clsP; rw [if_neg hp, if_pos hs]
      rw [e1, e2]
      exact ⟨(fun h => absurd h (by omega)), (fun h => absurd h (by omega)), (fun σ k k' hk h => g2 _ _ _ (fun r s hr => ⟨hk _ _ hr.1, hr.2⟩) h), (fun _ σ k h => g2 _ _ _ (fun r s hr => ⟨hr, hr.2⟩) h)⟩
    · by_cases ha : st.contains (i + 1000) = true
      · have e1 : aopGP P rd st lb ops i o env = fun σ k => ∃ cs, (∀ σ k, aAlloc (some cs) σ k → aopG P ops o env σ k) ∧ aAlloc (some cs) σ k := by funext σ k; unfold aopGP; rw [if_neg hp, if_neg hs, if_pos ha]
        have e2 : clsP rd st i o = 2 := by unfold clsP; rw [if_neg hp, if_neg hs, if_pos ha]
        rw [e1, e2]
        exact ⟨(fun h => absurd h (by omega)), (fun h => absurd h (by omega)), (fun σ k k' hk ⟨cs, h1, h2⟩ => ⟨cs, h1, fun b hb => hk _ _ (h2 b hb)⟩), (fun _ σ k ⟨cs, h1, h2⟩ => ⟨cs, h1, fun b hb => ⟨h2 b hb, (Keeps.fresh hb).rl⟩⟩)⟩
      have e1 : aopGP P rd st lb ops i o env = aopG P ops o env := by funext σ k; unfold aopGP; rw [if_neg hp, if_neg hs, if_neg ha]
      rw [e1]
      by_cases he : st.isEmpty = true
      · have e2 : clsP rd st i o = cls o := by unfold clsP; rw [if_neg hp, if_neg hs, if_neg ha, if_pos he]
        have er : ∀ σ σ', Rl st lb σ σ' = Keeps σ σ' := fun σ σ' => by unfold Rl; rw [if_pos he]
        rw [e2]
        refine ⟨g0, fun h σ k hx => ?_, g2, fun h σ k hx => ?_⟩
        · obtain ⟨r, h1, h2⟩ := g1 h σ k hx
          exact ⟨r, h1, fun σ' k' hk => h2 σ' k' (by rw [er] at hk; exact hk)⟩
        · exact g2 _ _ _ (fun r s hr => ⟨hr.1, hr.2.rl⟩) (g3 h σ k hx)
      · have e2 : clsP rd st i o = if cls o = 1 then 3 else cls o := by unfold clsP; rw [if_neg hp, if_neg hs, if_neg ha, if_neg he]
        rw [e2]
        by_cases h1 : cls o = 1
        · rw [if_pos h1]
          exact ⟨(fun h => absurd h (by omega)), (fun h => absurd h (by omega)), g2, (fun h => absurd h (by omega))⟩
        · rw [if_neg h1]
          refine ⟨g0, fun h σ k hx => ?_, g2, fun h σ k hx => g2 _ _ _ (fun r s hr => ⟨hr.1, hr.2.rl⟩) (g3 h σ k hx)⟩
          obtain ⟨r, h1, h2⟩ := g0 (by omega) σ k hx
          exact ⟨r, h1, fun σ' k' _ => h2 σ' k'⟩

theorem aopGP_put {rd st : List Nat} {lb : Nat} {ops : Array Oper} {i : Nat} {o : Oper} {env : Env} {d : Option Tmp} {r : AV} (h : ∀ t ∈ o.looksAt ops, d ≠ some t) (σ : Sto) (k : AV → Sto → Prop) :
    aopGP P rd st lb ops i o (put env d r) σ k = aopGP P rd st lb ops i o env σ k := by
  unfold aopGP
  simp only [aopG_put (P := P) h]

theorem swap_gen {X Y : Sto → (AV → Sto → Prop) → Prop} {st : List Nat} {lb : Nat} {cj ci : Nat} (hx : GLikeR st lb X cj) (hy : GLikeR st lb Y ci) (hc : cj = 0 ∨ (cj = 1 ∧ ci ≤ 2)) {σ : Sto} {K : AV → AV → Sto → Prop}
    (h : X σ (fun r s => Y s (fun r' s' => K r r' s'))) : Y σ (fun r' s' => X s' (fun r s => K r r' s)) := by
  rcases hc with h0 | ⟨h1, h2⟩
  · obtain ⟨r, h1, h2⟩ := hx.1 h0 σ _ h
    exact hy.2.2.1 _ _ _ (fun r' s' hk => h2 s' _ hk) h1
  · obtain ⟨r, ha, hb⟩ := hx.2.1 (by omega) σ _ h
    by_cases h22 : ci = 2
    · exact hy.2.2.1 _ _ _ (fun r' s' ⟨hk, hkeep⟩ => hb s' _ hkeep hk) (hy.2.2.2 h22 _ _ ha)
    · obtain ⟨r', hc, hd⟩ := hy.2.1 (by omega) σ _ ha
      exact hd σ _ (Rl.refl _ _ _) (hb σ _ (Rl.refl _ _ _) hc)

/-- does 'i' wait for 'j'? -/
def dep (ops : Array Oper) (i j : Nat) : Bool :=
  match ops[i]? with
  | some o => o.after.any fun e => Region.binds .any e && e.on == j
  | none => false

/-- .. or for one of a list that waits for it, and so on? -/
def depT (ops : Array Oper) (l : List Nat) : Nat → Nat → Nat → Bool
  | 0, i, j => dep ops i j
  | n + 1, i, j => dep ops i j || l.any fun m => dep ops i m && depT ops l n m j

theorem depT_none {ops : Array Oper} {l : List Nat} {i j : Nat} (h : dep ops i j = false) (hl : ∀ y ∈ l, dep ops i y = false) : ∀ n, depT ops l n i j = false
  | 0 => h
  | n + 1 => by
    simp only [depT, h, Bool.false_or, List.any_eq_false, Bool.and_eq_true, not_and]
    intro m hm hd
    rw [hl m hm] at hd; cases hd

theorem depT_erase {ops : Array Oper} {pre post : List Nat} {i j : Nat} (h : dep ops i j = false) (hl : ∀ y ∈ pre ++ i :: post, dep ops i y = false) : ∀ n x, depT ops (pre ++ i :: post) n x j = true → depT ops (pre ++ post) n x j = true
  | 0, _, hx => hx
  | n + 1, x, hx => by
    simp only [depT, Bool.or_eq_true, List.any_eq_true, Bool.and_eq_true] at hx ⊢
    rcases hx with hx | ⟨m, hm, h1, h2⟩
    · exact .inl hx
    · refine .inr ⟨m, ?_, h1, depT_erase h hl n m h2⟩
      by_cases hmi : m = i
      · subst hmi
        rw [depT_none h hl n] at h2; cases h2
      · simp only [List.mem_append, List.mem_cons] at hm ⊢
        rcases hm with hm | hm | hm
        · exact .inl hm
        · exact absurd hm hmi
        · exact .inr hm

def swapOK (rd st : List Nat) (ops : Array Oper) (j i : Nat) : Bool :=
  match ops[j]?, ops[i]? with
    | some oj, some oi => Oper.apart ops oi oj && (clsP rd st j oj == 0 || (clsP rd st j oj == 1 && decide (clsP rd st i oi ≤ 2)) || (alU rd st j oj && alS rd st i oi))
    | _, _ => false

def pairOK (rd st : List Nat) (ops : Array Oper) (l : List Nat) (j i : Nat) : Bool := dep ops i j || swapOK rd st ops j i || depT ops l 7 i j

def drawL (rd st : List Nat) (ops : Array Oper) : List Nat → Bool
  | [] => true
  | j :: l => (l.all fun i => pairOK rd st ops l j i) && !(l.contains j) && decide (j < ops.size) &&
      (match ops[j]? with
        | some o => o.after.all fun e => !Region.binds .any e || (!(l.contains e.on) && e.on != j && decide (e.on < ops.size))
        | none => false) && drawL rd st ops l

def drawOK (rd st : List Nat) (ops : Array Oper) (perm : List Nat) : Bool := drawL rd st ops perm && decide (perm.length = ops.size) && (List.range ops.size).all fun i => perm.contains i

theorem drawL_erase {rd st : List Nat} {ops : Array Oper} {i : Nat} {post : List Nat} : ∀ {pre : List Nat}, (∀ y ∈ pre ++ i :: post, dep ops i y = false) → drawL rd st ops (pre ++ i :: post) = true → drawL rd st ops (pre ++ post) = true
  | [], _, h => by
    simp only [List.nil_append, drawL, Bool.and_eq_true] at h ⊢
    exact h.2
  | j :: pre, hn, h => by
    simp only [List.cons_append, drawL, Bool.and_eq_true] at h ⊢
    obtain ⟨⟨⟨⟨h1, h2⟩, h3⟩, h4⟩, h5⟩ := h
    have hn' : ∀ y ∈ pre ++ i :: post, dep ops i y = false := fun y hy => hn y (by simp only [List.cons_append, List.mem_cons]; exact .inr hy)
    have hnj : dep ops i j = false := hn j (by simp)
    refine ⟨⟨⟨⟨?_, ?_⟩, h3⟩, ?_⟩, drawL_erase hn' h5⟩
    · rw [List.all_eq_true] at h1 ⊢
      intro x hx
      have := h1 x (by
        simp only [List.mem_append, List.mem_cons] at hx ⊢
        rcases hx with hx | hx
        · exact .inl hx
        · exact .inr (.inr hx))
      simp only [pairOK, Bool.or_eq_true] at this ⊢
      rcases this with h | h
      · exact .inl h
      · exact .inr (depT_erase hnj hn' 7 x h)
    · simp only [Bool.not_eq_true', List.contains_eq_mem, decide_eq_false_iff_not, List.mem_append, List.mem_cons] at h2 ⊢
      intro hx
      exact h2 (hx.imp id .inr)
    · split at h4
      · rw [Array.all_eq_true'] at h4 ⊢
        intro e he
        have := h4 e he
        simp only [Bool.or_eq_true, Bool.not_eq_true', Bool.and_eq_true, List.contains_eq_mem, decide_eq_false_iff_not, List.mem_append, List.mem_cons] at this ⊢
        rcases this with h | ⟨⟨h, h'⟩, h''⟩
        · exact .inl h
        · exact .inr ⟨⟨fun hx => h (hx.imp id .inr), h'⟩, h''⟩
      · cases h4

theorem drawL_pair {rd st : List Nat} {ops : Array Oper} {i : Nat} {post : List Nat} : ∀ {pre : List Nat}, (∀ y ∈ pre ++ i :: post, dep ops i y = false) → drawL rd st ops (pre ++ i :: post) = true → ∀ j ∈ pre, swapOK rd st ops j i = true
  | [], _, _, j, hj => by cases hj
  | j0 :: pre, hn, h, j, hj => by
    simp only [List.cons_append, drawL, Bool.and_eq_true] at h
    have hn' : ∀ y ∈ pre ++ i :: post, dep ops i y = false := fun y hy => hn y (by simp only [List.cons_append, List.mem_cons]; exact .inr hy)
    rcases List.mem_cons.1 hj with rfl | hj
    · have := List.all_eq_true.1 h.1.1.1.1 i (by simp)
      have h0 : dep ops i j = false := hn j (by simp)
      simpa only [pairOK, h0, depT_none h0 hn' 7, Bool.false_or, Bool.or_false] using this
    · exact drawL_pair hn' h.2 j hj

theorem pull {rd st : List Nat} {lb : Nat} {ops : Array Oper} {i : Nat} {oi : Oper} (hi : ops[i]? = some oi) {post : List Nat} {K : Env → Sto → Prop} : ∀ (pre : List Nat),
    (∀ j ∈ pre, swapOK rd st ops j i = true) → ∀ (env : Env) (σ : Sto), aopsI P rd st lb ops (pre ++ i :: post) env σ K → aopsI P rd st lb ops (i :: (pre ++ post)) env σ K
  | [], _, env, σ, h => h
  | j :: pre, hp, env, σ, h => by
    have hpair := hp j (by simp)
    unfold swapOK at hpair
    cases hj : ops[j]? with
    | none => rw [hj] at hpair; simp at hpair
    | some oj =>
      rw [hj, hi] at hpair
      simp only [Bool.and_eq_true, Bool.or_eq_true, beq_iff_eq, decide_eq_true_eq] at hpair
      obtain ⟨hap, hcls⟩ := hpair
      obtain ⟨a1, a2, a3⟩ := Oper.apart_spec hap
      simp only [List.cons_append, aopsI, hj] at h
      have h' := (glikeP (P := P) rd st lb ops j oj env).2.2.1 σ _ _ (fun r s hk => pull hi pre (fun j' hj' => hp j' (by simp [hj'])) _ s hk) h
      simp only [aopsI, hi] at h'
      have h2 : aopGP P rd st lb ops j oj env σ (fun r s => aopGP P rd st lb ops i oi env s (fun r' s' => aopsI P rd st lb ops (pre ++ post) (put (put env oj.dst r) oi.dst r') s' K)) := by
        refine (glikeP (P := P) rd st lb ops j oj env).2.2.1 σ _ _ (fun r s hk => ?_) h'
        rwa [aopGP_put (fun t ht hd => a3 t hd ht)] at hk
      have h3 : aopGP P rd st lb ops i oi env σ (fun r' s' => aopGP P rd st lb ops j oj env s' (fun r s => aopsI P rd st lb ops (pre ++ post) (put (put env oj.dst r) oi.dst r') s K)) := by
        rcases hcls with hcls | hal
        · exact swap_gen (glikeP (P := P) rd st lb ops j oj env) (glikeP (P := P) rd st lb ops i oi env) hcls h2
        · exact swap_al (alikeU hal.1) (alike hal.2) h2
      simp only [List.cons_append, aopsI, hi, hj]
      refine (glikeP (P := P) rd st lb ops i oi env).2.2.1 σ _ _ (fun r' s' hk => ?_) h3
      rw [aopGP_put (fun t ht hd => a1 t hd ht)]
      refine (glikeP (P := P) rd st lb ops j oj env).2.2.1 s' _ _ (fun r s hk => ?_) hk
      have hcomm : put (put env oi.dst r') oj.dst r = put (put env oj.dst r) oi.dst r' := by
        cases hdi : oi.dst with
        | none => rfl
        | some di =>
          cases hdj : oj.dst with
          | none => rfl
          | some dj =>
            have hne : di ≠ dj := fun e => a2 di hdi (by rw [hdj, e])
            simp only [put]
            exact List.set_comm _ _ hne
      rw [hcomm]
      exact hk

end Go.Aw
