/- A drawn region: which orders may be swapped. -/
import Derived.Test.YtcjiebgnccaogaaDoorCodeA
set_option linter.unusedSimpArgs false
set_option linter.unusedVariables false
namespace Go.Aw
open Go
variable {P : Program}

/-! ### Drawn regions: which operations may change places -/
/-- what an operation without memory does: it tells one value, whatever the store -/
def Like0 (X : Sto → (AV → Sto → Prop) → Prop) : Prop := ∀ σ k, X σ k → ∃ r, k r σ ∧ ∀ σ' k', k' r σ' → X σ' k'

theorem like_pick (c a b : AV) : Like0 (fun σ k => match c with | .sc (.bool t) => k (if t = true then a else b) σ | _ => False) := by
  intro σ k h
  split at h
  · exact ⟨_, h, fun _ _ h' => h'⟩
  · exact h.elim
theorem like_build (t : TypeId) (ps : List (Nat × AV)) : Like0 (aBuild P t ps) := by
  intro σ k h
  unfold aBuild at *
  cases h1 : tyPlaces P t with
  | none => simp only [h1] at h
  | some pl =>
    cases h2 : tyZero P t with
    | none => simp only [h1, h2] at h
    | some z =>
      simp only [h1, h2] at h
      cases h3 : afill (pl[·]?) z ps with
      | none => simp only [h3] at h
      | some cs => simp only [h3] at h; exact ⟨_, h, fun _ _ h' => by simp only [h3]; exact h'⟩
theorem like_buildSlice (t : TypeId) (n : Nat) (ps : List (Nat × AV)) : Like0 (aBuildSlice P t n ps) := by
  intro σ k h
  unfold aBuildSlice at *
  cases h1 : tyElem P t with
  | none => simp only [h1] at h
  | some x =>
    obtain ⟨e, es, by'⟩ := x
    simp only [h1] at h
    cases h2 : tyZero P e with
    | none => simp only [h2] at h
    | some z =>
      simp only [h2] at h
      obtain ⟨hle, h⟩ := h
      cases h3 : afill (fun i => some (i * es, es)) (zeros z n) ps with
      | none => simp only [h3] at h
      | some cs => simp only [h3] at h; exact ⟨_, h, fun _ _ h' => by simp only [h2, h3]; exact ⟨hle, h'⟩⟩
theorem like_nil (x : AV) : Like0 (aNil x) := by
  intro σ k h
  unfold aNil at *
  split at h
  · exact ⟨_, h, fun _ _ h' => h'⟩
  · exact ⟨_, h, fun _ _ h' => h'⟩
  · exact ⟨_, h, fun _ _ h' => h'⟩
  · exact h.elim
theorem like_bin (op : BinOp) (t : TypeId) (lit : Bool) (x y : AV) : Like0 (aBin P op t lit x y) := by
  intro σ k h
  unfold aBin at *
  split at h
  · rename_i ka a kb b
    obtain ⟨h0, h⟩ := h
    cases h1 : scInt op ka a b with
    | none => simp only [h1] at h
    | some v =>
      obtain ⟨v, g⟩ := v
      cases g
      · simp only [h1] at h ⊢; exact ⟨_, h.2, fun _ _ h' => ⟨h0, h.1, h'⟩⟩
      · simp only [h1] at h ⊢; exact ⟨_, h, fun _ _ h' => ⟨h0, h'⟩⟩
  · rename_i a b
    cases op <;> simp only [scStr] at h ⊢ <;> first | exact h.elim | exact ⟨_, h, fun _ _ h' => h'⟩ | exact ⟨_, h.2, fun _ _ h' => ⟨h.1, h'⟩⟩
  · split at h
    · cases h1 : aEq P t lit x y with
      | none => simp only [h1] at h
      | some v =>
        simp only [h1] at h
        exact ⟨_, h, fun _ _ h' => by simp only [h1]; exact h'⟩
    · cases h1 : aEq P t lit x y with
      | none => simp only [h1] at h
      | some v =>
        simp only [h1] at h
        exact ⟨_, h, fun _ _ h' => by simp only [h1]; exact h'⟩
    · exact h.elim
theorem like_un (op : UnOp) (x : AV) : Like0 (aUn op x) := by
  intro σ k h
  unfold aUn at *
  split at h
  · exact ⟨_, h, fun _ _ h' => h'⟩
  · exact ⟨_, h, fun _ _ h' => h'⟩
  · exact h.elim
theorem like_conv (s d : TypeId) (x : AV) : Like0 (aConv P s d x) := by
  intro σ k h
  unfold aConv at *
  obtain ⟨h0, h⟩ := h
  cases h1 : tyKd P d with
  | none => simp only [h1] at h
  | some q =>
    simp only [h1] at h
    split at h
    · exact ⟨_, h, fun _ _ h' => ⟨h0, h'⟩⟩
    · exact ⟨_, h, fun _ _ h' => ⟨h0, h'⟩⟩
    · rename_i rows _
      obtain ⟨hb, h⟩ := h
      cases h2 : rowsBytes rows with
      | none => simp only [h2] at h
      | some bs => simp only [h2] at h; exact ⟨_, h, fun _ _ h' => ⟨h0, hb, by simp only [h2]; exact h'⟩⟩
    · exact h.elim
theorem like_fieldAddr (s : TypeId) (x : AV) (f : Nat) : Like0 (aFieldAddr P s x f) := by
  intro σ k h
  unfold aFieldAddr at *
  cases h1 : tyField P s f with
  | none => simp only [h1] at h
  | some q =>
    simp only [h1] at h
    cases x <;> simp only at h
    · exact ⟨_, h, fun _ _ h' => h'⟩
    · exact ⟨_, h, fun _ _ h' => h'⟩
theorem like_field (s : TypeId) (x : AV) (f : Nat) : Like0 (aField P s x f) := by
  intro σ k h
  unfold aField at *
  cases h1 : tyField P s f with
  | none => simp only [h1] at h
  | some q =>
    cases x <;> simp only [h1] at h
    rename_i cs
    cases h2 : loadAV P q.1 cs q.2.1 with
    | none => simp only [h2] at h
    | some r => simp only [h2] at h; exact ⟨_, h, fun _ _ h' => by simp only [h2]; exact h'⟩
theorem like_indexAddr (t : TypeId) (x i : AV) : Like0 (aIndexAddr P t x i) := by
  intro σ k h
  unfold aIndexAddr at *
  cases h1 : tyElem P t with
  | none => simp only [h1] at h
  | some q =>
    simp only [h1] at h
    split at h
    · rename_i a b c d e f g n he
      obtain ⟨h0, h⟩ := h
      cases h2 : f[n.toNat]? with
      | none => simp only [h2] at h
      | some r => simp only [h2] at h; exact ⟨_, h.2, fun _ _ h' => ⟨h0, by simp only [h2]; exact ⟨h.1, h'⟩⟩⟩
    · exact h.elim
theorem like_extract (x : AV) (i : Nat) : Like0 (aExtract x i) := by
  intro σ k h
  unfold aExtract at *
  cases x <;> simp only at h
  rename_i vs
  cases h2 : vs[i]? with
  | none => simp only [h2] at h
  | some r => simp only [h2] at h; exact ⟨_, h, fun _ _ h' => by simp only [h2]; exact h'⟩
theorem like_index (t : TypeId) (x i : AV) : Like0 (aIndex P t x i) := by
  intro σ k h
  unfold aIndex at *
  split at h
  · rename_i s ki n
    obtain ⟨h0, h00, h⟩ := h
    cases h2 : s.data.toList[n.toNat]? with
    | none => simp only [h2] at h
    | some r => simp only [h2] at h; exact ⟨_, h, fun _ _ h' => ⟨h0, h00, by simp only [h2]; exact h'⟩⟩
  · exact h.elim
theorem like_slice (t : TypeId) (x : AV) (lo hi mx : Option AV) : Like0 (aSlice P t x lo hi mx) := by
  intro σ k h
  unfold aSlice at *
  split at h
  · rename_i tok rows
    cases h1 : tyElem P t with
    | none => simp only [h1] at h
    | some q =>
      cases h2 : oInt lo with
      | none => simp only [h1, h2] at h
      | some l =>
        cases h3 : oInt hi with
        | none => simp only [h1, h2, h3] at h
        | some g =>
          cases h4 : oInt mx with
          | none => simp only [h1, h2, h3, h4] at h
          | some m =>
            simp only [h1, h2, h3, h4] at h
            exact ⟨_, h.2, fun _ _ h' => by simp only [h1, h2, h3, h4]; exact ⟨h.1, h'⟩⟩
  · rename_i s
    obtain ⟨h0, h⟩ := h
    cases h2 : oInt lo with
    | none => simp only [h2] at h
    | some l =>
      cases h3 : oInt hi with
      | none => simp only [h2, h3] at h
      | some g =>
        cases mx with
        | some m => simp only [h2, h3] at h
        | none => simp only [h2, h3] at h; exact ⟨_, h.2, fun _ _ h' => ⟨h0, by simp only [h2, h3]; exact ⟨h.1, h'⟩⟩⟩
  · exact h.elim
theorem like_len (b : Builtin) (ts : List TypeId) (args : List AV) (hb : b = .len ∨ b = .min ∨ b = .max) : Like0 (aBuiltin P b ts args) := by
  intro σ k h
  unfold aBuiltin at *
  split at h
  · exact ⟨_, h.2, fun _ _ h' => ⟨h.1, h'⟩⟩
  · exact ⟨_, h.2, fun _ _ h' => ⟨h.1, h'⟩⟩
  · exact ⟨_, h, fun _ _ h' => h'⟩
  · exact ⟨_, h, fun _ _ h' => h'⟩
  · simp at hb
  · exact h.elim

def cls (o : Oper) : Nat :=
  match o.op with
  | .move _ | .assign _ | .pick _ _ _ | .build _ _ | .buildSlice _ _ _ | .nilCheck _ | .unOp _ _ _ | .convert _ _ _ | .makeInterface _ _
  | .makeFunc _ _ _ | .slice _ _ _ _ _ | .fieldAddr _ _ _ | .field _ _ _ | .indexAddr _ _ _ | .index _ _ _ | .extract _ _ => 0
  | .call c => match c.callee with
    | .builtin .len | .builtin .min | .builtin .max => 0
    | .builtin .append => 2
    | _ => 3
  | .binOp _ _ _ y _ => if isNil y = true then 2 else 0
  | .load _ _ => 1
  | .alloc _ | .box _ _ => 2
  | _ => 3

theorem like_op {o : Oper} (h0 : cls o = 0) (env : Env) : Like0 (aop P o env) := by
  intro σ k h
  unfold aop at *
  unfold cls at h0
  cases ho : o.op <;> simp only [ho] at h h0 ⊢ <;> try (first | (cases h0; done) | (exact h.elim))
  case move x => exact ⟨_, h, fun _ _ h' => h'⟩
  case assign x => exact ⟨_, h, fun _ _ h' => h'⟩
  case pick c a b => exact like_pick _ _ _ σ k h
  case build t ps => exact like_build _ _ σ k h
  case buildSlice t n ps => exact like_buildSlice _ _ _ σ k h
  case nilCheck x => exact like_nil _ σ k h
  case binOp op t x y u =>
    by_cases hy : isNil y = true
    · rw [if_pos hy] at h0; cases h0
    · rw [if_neg hy] at h
      simp only [hy]
      exact like_bin _ _ _ _ _ σ k h
  case unOp op t x => exact like_un _ _ σ k h
  case convert s d x => exact like_conv _ _ _ σ k h
  case makeInterface t x => exact ⟨_, h.2.2, fun _ _ h' => ⟨h.1, h.2.1, h'⟩⟩
  case makeFunc fn a b => exact ⟨_, h, fun _ _ h' => h'⟩
  case slice t x lo hi mx => exact like_slice _ _ _ _ _ σ k h
  case fieldAddr s x f => exact like_fieldAddr _ _ _ σ k h
  case field s x f => exact like_field _ _ _ σ k h
  case indexAddr t x i => exact like_indexAddr _ _ _ σ k h
  case index t x i => exact like_index _ _ _ σ k h
  case extract x i => exact like_extract _ _ σ k h
  case call c =>
    unfold aCall at *
    cases hc : c.callee <;> simp only [hc] at h h0 ⊢ <;> try (cases h0; done)
    rename_i b
    cases b <;> simp only at h0 <;> first | (cases h0; done) | exact like_len _ _ _ (by simp) σ k h

/-- what a load does -/
def Keeps (σ σ' : Sto) : Prop := ∀ b cs, σ b = some (.cells cs) → σ' b = some (.cells cs)
def Like1 (X : Sto → (AV → Sto → Prop) → Prop) : Prop := ∀ σ k, X σ k → ∃ r, k r σ ∧ ∀ σ' k', Keeps σ σ' → k' r σ' → X σ' k'

theorem Like0.like1 {X : Sto → (AV → Sto → Prop) → Prop} (h : Like0 X) : Like1 X := fun σ k hx =>
  let ⟨r, h1, h2⟩ := h σ k hx
  ⟨r, h1, fun σ' k' _ hk => h2 σ' k' hk⟩

theorem like_load (t : TypeId) (x : AV) : Like1 (aLoad P t x) := by
  intro σ k h
  unfold aLoad at *
  cases x <;> simp only at h
  · rename_i b off
    cases h1 : σ b with
    | none => simp only [h1] at h
    | some q =>
      cases q <;> simp only [h1] at h
      rename_i cs
      cases h2 : loadAV P t cs off with
      | none => simp only [h2] at h
      | some r => simp only [h2] at h; exact ⟨_, h, fun σ' k' hk h' => by simp only [hk b cs h1, h2]; exact h'⟩
  · rename_i row off
    cases h2 : loadAV P t row off with
    | none => simp only [h2] at h
    | some r => simp only [h2] at h; exact ⟨_, h, fun σ' k' hk h' => by simp only [h2]; exact h'⟩

theorem like1_op {o : Oper} (h0 : cls o ≤ 1) (env : Env) : Like1 (aop P o env) := by
  by_cases h : cls o = 0
  · exact (like_op h env).like1
  · have h1 : cls o = 1 := by omega
    intro σ k hx
    unfold aop at *
    unfold cls at h1
    cases ho : o.op <;> simp only [ho] at hx h1 ⊢ <;> try (first | (cases h1; done) | (exact hx.elim))
    case load t x => exact like_load _ _ σ k hx
    case binOp op t x y u => split at h1 <;> cases h1
    case call c =>
      cases hc : c.callee <;> simp only [hc] at h1 <;> try (cases h1; done)
      rename_i b
      cases b <;> simp at h1

theorem aop_mono {o : Oper} {env : Env} {σ : Sto} {k k' : AV → Sto → Prop} (hk : ∀ r s, k r s → k' r s) (h : aop P o env σ k) : aop P o env σ k' := by
  by_cases h0 : cls o ≤ 1
  · obtain ⟨r, h1, h2⟩ := like1_op h0 env σ k h
    exact h2 σ k' (fun _ _ h => h) (hk _ _ h1)
  · have alloc : ∀ cs, aAlloc cs σ k → aAlloc cs σ k' := by
      intro cs h
      unfold aAlloc at *
      cases cs with
      | none => exact h
      | some c => exact fun b hb => hk _ _ (h b hb)
    unfold aop at *
    unfold cls at h0
    cases ho : o.op <;> simp only [ho] at h h0 ⊢ <;> try (first | (exact h.elim) | (exact absurd (Nat.zero_le _) h0) | (exact absurd (Nat.le_refl _) h0))
    case alloc t => exact alloc _ h
    case box t x => exact alloc _ h
    case binOp op t x y u =>
      by_cases hy : isNil y = true
      · rw [if_pos hy] at h ⊢
        unfold aNilEq at *
        split at h
        · exact ⟨h.1, fun b hb => hk _ _ (h.2 b hb)⟩
        · exact ⟨h.1, fun b hb => hk _ _ (h.2 b hb)⟩
        · exact h.elim
      · rw [if_neg hy] at h0; omega
    case store t a x =>
      unfold aStore at *
      split at h
      · split at h
        · exact ⟨h.1, h.2.1, h.2.2.1, hk _ _ h.2.2.2⟩
        · exact h.elim
      · exact h.elim
    case call c =>
      unfold aCall at *
      cases hc : c.callee with
      | builtin b =>
        simp only [hc] at h h0 ⊢
        unfold aBuiltin at *
        split at h
        · simp at h0
        · simp at h0
        · simp at h0
        · simp at h0
        · unfold aAppend at *
          split at h
          · exact ⟨h.1, h.2.1, h.2.2.1, h.2.2.2.1, h.2.2.2.2.1, h.2.2.2.2.2.1, h.2.2.2.2.2.2.1, fun a b => hk _ _ (h.2.2.2.2.2.2.2.1 a b), fun b hb => hk _ _ (h.2.2.2.2.2.2.2.2 b hb)⟩
          · exact h.elim
        · exact h.elim
      | value f =>
        simp only [hc] at h ⊢
        split at h
        · exact ⟨h.1, h.2.mono hk⟩
        · exact h.elim
      | invoke a b => simp only [hc] at h

/-- what is added leaves the objects as they are -/
theorem grow_keeps {o : Oper} (h2 : cls o = 2) {env : Env} {σ : Sto} {k : AV → Sto → Prop} (h : aop P o env σ k) : aop P o env σ (fun r s => k r s ∧ Keeps σ s) := by
  have alloc : ∀ cs, aAlloc cs σ k → aAlloc cs σ (fun r s => k r s ∧ Keeps σ s) := by
    intro cs h
    unfold aAlloc at *
    cases cs with
    | none => exact h
    | some c =>
      refine fun b hb => ⟨h b hb, fun b' cs hc => ?_⟩
      have : b' ≠ b := fun e => by rw [e, hb] at hc; cases hc
      simp [Sto.set, this, hc]
  unfold aop at *
  unfold cls at h2
  cases ho : o.op <;> simp only [ho] at h h2 ⊢ <;> try (first | (exact h.elim) | (cases h2; done))
  case alloc t => exact alloc _ h
  case box t x => exact alloc _ h
  case binOp op t x y u =>
    by_cases hy : isNil y = true
    · rw [if_pos hy] at h ⊢
      unfold aNilEq at *
      split at h
      · exact ⟨h.1, fun b hb => ⟨h.2 b hb, fun _ _ h => h⟩⟩
      · exact ⟨h.1, fun b hb => ⟨h.2 b hb, fun _ _ h => h⟩⟩
      · exact h.elim
    · rw [if_neg hy] at h2; cases h2
  case call c =>
    unfold aCall at *
    cases hc : c.callee <;> simp only [hc] at h h2 ⊢ <;> try (cases h2; done)
    rename_i b
    cases b <;> simp only at h2 <;> try (cases h2; done)
    have app : ∀ t u x y, aAppend P t u x y σ k → aAppend P t u x y σ (fun r s => k r s ∧ Keeps σ s) := by
      intro t u x y h
      unfold aAppend at *
      split at h
      · rename_i e es by' tok rows _ ys he
        obtain ⟨h1, h2, h3, h4, h5, h6, h7, h8, h9⟩ := h
        refine ⟨h1, h2, h3, h4, h5, h6, h7, fun a b => ⟨h8 a b, fun _ _ h => h⟩, fun b hb => ⟨h9 b hb, fun b' cs hcs => ?_⟩⟩
        have hne : b' ≠ b := by
          rintro rfl
          rcases hb with rfl | ⟨hb, _⟩
          · simp only at h7; rw [h7.2] at hcs; cases hcs
          · rw [hb] at hcs; cases hcs
        have hd : tokDel σ tok b' = some (.cells cs) := by
          cases tok with
          | dead => exact hcs
          | clip => exact hcs
          | live b2 e2 =>
            have : b' ≠ b2 := by
              rintro rfl
              simp only at h7; rw [h7.2] at hcs; cases hcs
            simp [tokDel, Sto.del, this, hcs]
        simp [Sto.set, hne, hd]
      · exact h.elim
    unfold aBuiltin at *
    split at h
    · rename_i hb _ _; cases hb
    · rename_i hb _ _; cases hb
    · rename_i hb _; cases hb
    · rename_i hb _; cases hb
    · exact app _ _ _ _ h
    · exact h.elim

/-- 'i' may be taken ahead of 'j' -/
theorem swap_ops {oj oi : Oper} (hc : cls oj = 0 ∨ (cls oj = 1 ∧ cls oi ≤ 2)) {env : Env} {σ : Sto} {K : AV → AV → Sto → Prop}
    (h : aop P oj env σ (fun r s => aop P oi env s (fun r' s' => K r r' s'))) : aop P oi env σ (fun r' s' => aop P oj env s' (fun r s => K r r' s)) := by
  rcases hc with h0 | ⟨h1, h2⟩
  · obtain ⟨r, h1, h2⟩ := like_op h0 env σ _ h
    exact aop_mono (fun r' s' hk => h2 s' _ hk) h1
  · obtain ⟨r, ha, hb⟩ := like1_op (by omega) env σ _ h
    by_cases h22 : cls oi = 2
    · exact aop_mono (fun r' s' ⟨hk, hkeep⟩ => hb s' _ hkeep hk) (grow_keeps h22 ha)
    · obtain ⟨r', hc, hd⟩ := like1_op (o := oi) (by omega) env σ _ ha
      exact hd σ _ (fun _ _ h => h) (hb σ _ (fun _ _ h => h) hc)

end Go.Aw
