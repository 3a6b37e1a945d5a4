/- Contracts of package fail's functions, as far as digits reach them. -/
import Derived.Test.YtcjiebgnccaogaaDoorTab
import Derived.Test.YtcjiebgnccaogaaDoorKept
import Derived.Test.YtcjiebgnccaogaaDoorErrs2
import Derived.Test.YtcjiebgnccaogaaDoorShelf
import Derived.Test.YtcjiebgnccaogaaDoorDigMath
namespace Go.Proofs.YtcjiebgnccaogaaDoor
open Go Go.Aw
set_option linter.unusedVariables false
set_option linter.unusedSimpArgs false

/-- an error of errors.New's make -/
def snt (a : Addr) : AV := .sc (.iface 115 (.pointer (some a)))

/-- what the store says of the package-level variables -/
structure GOK (S : Int → Addr) (te : TypeId) (pe : Value) (σ : Sto) : Prop where
  ty : σ 6 = some (.cells [.sc (.iface 78 (.agg #[.pointer (some ⟨25, 24, none⟩)]))])
  e1 : σ 0 = some (.cells [snt (S 1)])
  e2 : σ 1 = some (.cells [snt (S 2)])
  e3 : σ 2 = some (.cells [snt (S 3)])
  e4 : σ 3 = some (.cells [snt (S 4)])
  row : ∀ c, 1 ≤ c → c ≤ 4 → ∃ cs, σ (S c).block = some (.cells cs)
  ne : ∀ c d, 1 ≤ c → c ≤ 4 → 1 ≤ d → d ≤ 4 → c ≠ d → S c ≠ S d
  rng : σ 21 = some (.cells [.sc (.iface te pe)])
  tab : σ 22 = some (.cells (Lib.pow10Tab.map fun z => .sc (.int .u64 z)))

theorem GOK.sub {S : Int → Addr} {te : TypeId} {pe : Value} {σ σ' : Sto} (h : GOK S te pe σ) (hs : Aw.Sub σ σ') : GOK S te pe σ' :=
  ⟨hs _ _ h.ty, hs _ _ h.e1, hs _ _ h.e2, hs _ _ h.e3, hs _ _ h.e4, fun c a b => let ⟨cs, k⟩ := h.row c a b; ⟨cs, hs _ _ k⟩, h.ne, hs _ _ h.rng, hs _ _ h.tab⟩

variable {S : Int → Addr} {te : TypeId} {pe : Value}

theorem new_spec (σ : Sto) (h : GOK S te pe σ) (c : Int) (h1 : 1 ≤ c) (h2 : c ≤ 4) :
    ACalls Tryd.prog 18 [.sc (.int .i64 c)] σ (fun r σ' => r = snt (S c) ∧ σ' = σ) := by
  refine fn_of Tab.mixed Tryd.func18 rfl rfl rfl ?_
  have hc : c = 1 ∨ c = 2 ∨ c = 3 ∨ c = 4 := by omega
  rcases hc with rfl | rfl | rfl | rfl <;> simp -implicitDefEqProofs [h.e1, h.e2, h.e3, h.e4]

theorem at_spec (σ : Sto) (p : Int) (a : Addr) :
    ACalls Tryd.prog 17 [.sc (.int .i64 p), snt a] σ (fun r σ' => ∃ b, r = .iface 52 (.ptr b 0) ∧ σ b = none ∧ σ' = σ.set b (.cells [.sc (.int .i64 p), snt a])) := by
  refine fn_of Tab.mixed Tryd.func17 rfl rfl rfl ?_
  simp -implicitDefEqProofs [snt]
  refine alloc fun b hb => ?_
  simp -implicitDefEqProofs
  exact hb

theorem as_nil_spec (σ : Sto) (x : AV) :
    ACalls Tryd.prog 20 [.sc .nilIface, x] σ (fun r σ' => r = .sc (.bool false) ∧ σ' = σ) := by
  refine ACalls.of_kept fun w vs hs hr => ?_
  obtain ⟨v, u, rfl, h1, h2⟩ := relL_two hr
  obtain rfl := rel_sc h1
  refine (as_nil u w).mono ?_
  rintro e w' ⟨rfl, rfl⟩
  exact ⟨_, _, rfl, ⟨rfl, rfl⟩, Kept.refl _, .sc _⟩

theorem as_at_spec (σ : Sto) (h : GOK S te pe σ) (b t : Nat) (x : AV) (ht : σ t = some (.cells [x])) :
    ACalls Tryd.prog 20 [.iface 52 (.ptr b 0), .iface 68 (.ptr t 0)] σ (fun r σ' => r = .sc (.bool true) ∧ σ' = σ.set t (.cells [.ptr b 0])) := by
  intro w vs hs hr
  obtain ⟨v, u, rfl, h1, h2⟩ := relL_two hr
  obtain ⟨v, rfl, k1⟩ := rel_iface h1
  obtain ⟨u, rfl, k2⟩ := rel_iface h2
  obtain rfl := rel_ptr k1
  obtain rfl := rel_ptr k2
  obtain ⟨vs, ty, hh, hl, -⟩ := hs.cells t _ ht
  have hz : vs.size = 1 := hl.symm
  refine (as_hit52 ⟨b, 0, none⟩ ⟨t, 0, none⟩ vs[0] w (hs.cell h.ty rfl) (by simp [World.cell?, hh, hz]) (hs.frozen ht)).mono ?_
  rintro e w' ⟨rfl, rfl⟩
  have k : Kept w ((((w.alloc (.cells #[.pointer (some ⟨t, 0, none⟩)] 68)).alloc (.cells #[.pointer (some ⟨25, 68, none⟩), .pointer (some ⟨w.heap.size, 0, none⟩), .int .u64 150] 59)).alloc (.cells #[.pointer (some ⟨25, 68, none⟩), .pointer (some ⟨w.heap.size, 0, none⟩), .int .u64 150] 59)).alloc (.cells #[.pointer (some ⟨b, 0, none⟩)] 52)) :=
    (((Kept.alloc _ _).trans (Kept.alloc _ _)).trans (Kept.alloc _ _)).trans (Kept.alloc _ _)
  obtain ⟨s1, s2⟩ := (k.st hs).set1 ht (Rel.ptr b 0)
  exact ⟨_, _, _, rfl, ⟨rfl, rfl⟩, s1, .sc _, (k.ext hs).trans s2 hs.dom⟩

theorem as_num_spec (σ : Sto) (h : GOK S te pe σ) (n t : Nat) (x : AV) (ht : σ t = some (.cells [x])) :
    ACalls Tryd.prog 20 [.sc (.iface 43 (.pointer (some ⟨n, 0, none⟩))), .iface 45 (.ptr t 0)] σ (fun r σ' => r = .sc (.bool true) ∧ σ' = σ.set t (.cells [.ptr n 0])) := by
  intro w vs hs hr
  obtain ⟨v, u, rfl, h1, h2⟩ := relL_two hr
  obtain rfl := rel_sc h1
  obtain ⟨u, rfl, k2⟩ := rel_iface h2
  obtain rfl := rel_ptr k2
  obtain ⟨vs, ty, hh, hl, -⟩ := hs.cells t _ ht
  have hz : vs.size = 1 := hl.symm
  refine (as_hit43 ⟨n, 0, none⟩ ⟨t, 0, none⟩ vs[0] w (hs.cell h.ty rfl) (by simp [World.cell?, hh, hz]) (hs.frozen ht)).mono ?_
  rintro e w' ⟨rfl, rfl⟩
  have k : Kept w ((((w.alloc (.cells #[.pointer (some ⟨t, 0, none⟩)] 45)).alloc (.cells #[.pointer (some ⟨25, 45, none⟩), .pointer (some ⟨w.heap.size, 0, none⟩), .int .u64 150] 59)).alloc (.cells #[.pointer (some ⟨25, 45, none⟩), .pointer (some ⟨w.heap.size, 0, none⟩), .int .u64 150] 59)).alloc (.cells #[.pointer (some ⟨n, 0, none⟩)] 43)) :=
    (((Kept.alloc _ _).trans (Kept.alloc _ _)).trans (Kept.alloc _ _)).trans (Kept.alloc _ _)
  obtain ⟨s1, s2⟩ := (k.st hs).set1 ht (Rel.ptr n 0)
  exact ⟨_, _, _, rfl, ⟨rfl, rfl⟩, s1, .sc _, (k.ext hs).trans s2 hs.dom⟩

theorem as_miss_spec (σ : Sto) (h : GOK S te pe σ) (a : Addr) (t : Nat) :
    ACalls Tryd.prog 20 [snt a, .iface 68 (.ptr t 0)] σ (fun r σ' => r = .sc (.bool false) ∧ σ' = σ) := by
  refine ACalls.of_kept fun w vs hs hr => ?_
  obtain ⟨v, u, rfl, h1, h2⟩ := relL_two hr
  obtain rfl := rel_sc h1
  obtain ⟨u, rfl, k2⟩ := rel_iface h2
  obtain rfl := rel_ptr k2
  refine (as_miss a ⟨t, 0, none⟩ .nilIface w (hs.cell h.ty rfl)).mono ?_
  rintro e w' ⟨rfl, rfl⟩
  exact ⟨_, _, rfl, ⟨rfl, rfl⟩, ((Kept.alloc _ _).trans (Kept.alloc _ _)).trans (Kept.alloc _ _), .sc _⟩

theorem is_spec (σ : Sto) (h : GOK S te pe σ) (b : Nat) (p : AV) (k c : Int) (hb : σ b = some (.cells [p, snt (S k)])) (hk : 1 ≤ k ∧ k ≤ 4) (hc : 1 ≤ c ∧ c ≤ 4) :
    ACalls Tryd.prog 34 [.iface 52 (.ptr b 0), snt (S c)] σ (fun r σ' => r = .sc (.bool (decide (k = c))) ∧ σ' = σ) := by
  refine ACalls.of_kept fun w vs hs hr => ?_
  obtain ⟨v, u, rfl, h1, h2⟩ := relL_two hr
  obtain ⟨v, rfl, k1⟩ := rel_iface h1
  obtain rfl := rel_ptr k1
  obtain rfl := rel_sc h2
  have hcell := hs.cell (j := 1) hb rfl
  by_cases e : k = c
  · subst e
    refine (is_wrap_same b (S k) w hcell).mono ?_
    rintro e w' ⟨rfl, rfl⟩
    exact ⟨_, _, rfl, ⟨by simp, rfl⟩, Kept.refl _, .sc _⟩
  · obtain ⟨c1, r1⟩ := h.row k hk.1 hk.2
    obtain ⟨c2, r2⟩ := h.row c hc.1 hc.2
    obtain ⟨v1, t1, g1⟩ := hs.heap r1
    obtain ⟨v2, t2, g2⟩ := hs.heap r2
    refine (is_wrap_other b (S c) (S k) v1 v2 t1 t2 w hcell (h.ne k c hk.1 hk.2 hc.1 hc.2 e) g1 g2).mono ?_
    rintro e' w' ⟨rfl, rfl⟩
    exact ⟨_, _, rfl, ⟨by simp [e], rfl⟩, Kept.refl _, .sc _⟩

theorem code_spec (σ : Sto) (h : GOK S te pe σ) (b : Nat) (p : AV) (k : Int) (hb : σ b = some (.cells [p, snt (S k)])) (hk : 1 ≤ k ∧ k ≤ 4) :
    ACalls Tryd.prog 24 [.iface 52 (.ptr b 0)] σ (fun r σ' => r = .sc (.int .i64 k) ∧ σ' = σ) := by
  refine fn_of Tab.mixed Tryd.func24 rfl rfl rfl ?_
  simp -implicitDefEqProofs
  refine wpc_loop (fun e σ' => ∃ c : Int, 1 ≤ c ∧ c ≤ k ∧ e.length = 15 ∧ gt e 0 = .iface 52 (.ptr b 0) ∧ gt e 3 = .sc (.int .i64 c) ∧ σ' = σ) (fun e _ => (k - intAt e 3).toNat) ⟨1, by omega, by omega, rfl, rfl, rfl, rfl⟩ ?_
  rintro e σ' ⟨c, h1, h2, hlen, g0, g3, rfl⟩
  simp -implicitDefEqProofs [hlen, g0, g3, show c ≤ 18 by omega]
  refine (new_spec σ' h c h1 (by omega)).mono ?_
  rintro r σ1 ⟨rfl, rfl⟩
  simp -implicitDefEqProofs [hlen, g0, g3]
  refine (is_spec σ1 h b p k c hb hk ⟨h1, by omega⟩).mono ?_
  rintro r σ2 ⟨rfl, rfl⟩
  by_cases e1 : k = c
  · subst e1
    simp -implicitDefEqProofs [hlen, g0, g3]
  · simp -implicitDefEqProofs [hlen, g0, g3, e1, wrap_i64 (n := c + 1) (by omega) (by omega), intAt]
    omega

set_option maxRecDepth 8000 in
theorem places_spec (σ : Sto) (h : GOK S te pe σ) (b : Nat) (p k : Int) (hb : σ b = some (.cells [.sc (.int .i64 p), snt (S k)])) :
    ACalls Tryd.prog 23 [.iface 52 (.ptr b 0)] σ (fun r σ' => (∃ t, r = .slice t [[.sc (.int .i64 p)]]) ∧ σ' = σ) := by
  refine ACalls.drop ?_
  refine fn_of Tab.mixed Tryd.func23 rfl rfl rfl ?_
  simp -implicitDefEqProofs
  refine wpc_loop (fun e σ' => e.length = 23 ∧ Aw.Sub σ σ' ∧ ((gt e 0 = .iface 52 (.ptr b 0) ∧ gt e 3 = .slice .clip []) ∨ (gt e 0 = snt (S k) ∧ ∃ t, gt e 3 = .slice t [[.sc (.int .i64 p)]])))
    (fun e _ => match gt e 0 with | .iface _ _ => 1 | _ => 0) ⟨rfl, Sub.refl σ, .inl ⟨rfl, rfl⟩⟩ ?_
  rintro e σ' ⟨hlen, hsub, ⟨g0, g3⟩ | ⟨g0, t, g3⟩⟩
  · simp -implicitDefEqProofs [hlen, g0, g3]
    refine alloc fun x hx => ?_
    have nbx : b ≠ x := fun e => by subst e; rw [hsub _ _ hb] at hx; cases hx
    simp -implicitDefEqProofs [hlen, g0, g3]
    have s1 : Aw.Sub σ (σ'.set x (.cells [.sc (.pointer none)])) := sub_set hsub (hsub.none hx)
    refine (as_at_spec _ (h.sub s1) b x (.sc (.pointer none)) (by simp)).mono ?_
    rintro r σ1 ⟨rfl, hσ1⟩
    rw [set_set] at hσ1
    have s2 : Aw.Sub σ (σ'.set x (.cells [.ptr b 0])) := sub_set hsub (hsub.none hx)
    have hb1 : (σ'.set x (.cells [.ptr b 0])) b = some (.cells [.sc (.int .i64 p), snt (S k)]) := s2 _ _ hb
    have hx1 : (σ'.set x (.cells [.ptr b 0])) x = some (.cells [.ptr b 0]) := by simp
    rw [← hσ1] at s2 hb1 hx1
    clear hσ1
    simp -implicitDefEqProofs [hlen, g0, g3, hb1, hx1, snt]
    refine aAppend_own Tab.elem48 (by omega) (by rw [List.length_nil, List.length_singleton]; omega) (by simp) (by simp) (by simp [AV.one]) trivial fun tok σ3 ho hm => ?_
    have hb2 := hm.keep b _ (by simp [fp]) hb1
    have hx2 := hm.keep x _ (by simp [fp]) hx1
    simp -implicitDefEqProofs [hlen, g0, g3, hb2, hx2, snt]
    exact fun y o hy => hm.keep y o (by simp [fp]) (s2 y o hy)
  · simp -implicitDefEqProofs [hlen, g0, g3, snt]
    refine alloc fun x hx => ?_
    simp -implicitDefEqProofs [hlen, g0, g3, snt]
    have s1 : Aw.Sub σ (σ'.set x (.cells [.sc (.pointer none)])) := sub_set hsub (hsub.none hx)
    refine (as_miss_spec _ (h.sub s1) (S k) x).mono ?_
    rintro r σ1 ⟨rfl, rfl⟩
    simp -implicitDefEqProofs [hlen, g0, g3]
    exact s1

theorem places_nil (σ : Sto) : ACalls Tryd.prog 23 [.sc .nilIface] σ (fun r σ' => r = .slice .clip [] ∧ σ' = σ) := by
  refine fn_of Tab.mixed Tryd.func23 rfl rfl rfl ?_
  simp -implicitDefEqProofs
  refine wpc_loop (fun e σ' => e.length = 23 ∧ gt e 0 = .sc .nilIface ∧ gt e 3 = .slice .clip [] ∧ σ' = σ) (fun _ _ => 0) ⟨rfl, rfl, rfl, rfl⟩ ?_
  rintro e σ' ⟨hlen, g0, g3, rfl⟩
  simp -implicitDefEqProofs [hlen, g0, g3]

/-- an error of a text: its code, its place -/
def ErrAt (S : Int → Addr) (σ : Sto) (r : AV) (code p : Int) : Prop :=
  (code = 0 ∧ r = .sc .nilIface) ∨ ∃ b, 1 ≤ code ∧ code ≤ 4 ∧ r = .iface 52 (.ptr b 0) ∧ σ b = some (.cells [.sc (.int .i64 p), snt (S code)])

theorem ErrAt.sub {σ σ' : Sto} {r : AV} {code p : Int} (h : ErrAt S σ r code p) (hs : Aw.Sub σ σ') : ErrAt S σ' r code p := by
  rcases h with h | ⟨b, h1, h2, h3, h4⟩
  · exact .inl h
  · exact .inr ⟨b, h1, h2, h3, hs _ _ h4⟩

theorem wrong_spec (σ : Sto) (h : GOK S te pe σ) (r : AV) (code p : Int) (he : ErrAt S σ r code p) :
    ACalls Tryd.prog 11 [r, .sc (.int .i64 code), .sc (.int .i64 p)] σ (fun r σ' => r = .sc (.bool true) ∧ σ' = σ) := by
  refine fn_of Tab.mixed Tryd.func11 rfl rfl rfl ?_
  rcases he with ⟨rfl, rfl⟩ | ⟨b, h1, h2, rfl, hb⟩
  · simp -implicitDefEqProofs
  · simp -implicitDefEqProofs [show ¬ code = 0 by omega]
    refine (places_spec σ h b p code hb).mono ?_
    rintro r σ1 ⟨⟨t, rfl⟩, rfl⟩
    simp -implicitDefEqProofs
    refine (code_spec σ1 h b _ code hb ⟨h1, h2⟩).mono ?_
    rintro r σ2 ⟨rfl, rfl⟩
    simp -implicitDefEqProofs
end Go.Proofs.YtcjiebgnccaogaaDoor
