/- Parts of code. -/
import Derived.Test.YtkbpnnbdfikjhaaGreatK15View3
namespace Go.Proofs.YtkbpnnbdfikjhaaGreat
open Go Go.Aw
set_option linter.unusedVariables false
/-! ### code by parts -/
def cL : Code → Code
  | .seq a _ => a
  | .cond _ a _ => a
  | .block _ a => a
  | .loop a => a
  | c => c
def cR : Code → Code
  | .seq _ b => b
  | .cond _ _ b => b
  | c => c
def codeOf (f : Func) : Code := match f.body with
  | some c => c
  | none => .skip
theorem at_seq {P : Program} {c a b : Code} {Q : AExit → Env → Sto → Prop} {e : Env} {σ : Sto} (h : c = .seq a b) (hw : wpc P (.seq a b) Q e σ) : wpc P c Q e σ := h ▸ hw
theorem at_loop {P : Program} {c a : Code} {Q : AExit → Env → Sto → Prop} {e : Env} {σ : Sto} (h : c = .loop a) (hw : wpc P (.loop a) Q e σ) : wpc P c Q e σ := h ▸ hw
theorem at_block {P : Program} {c a : Code} {i : Nat} {Q : AExit → Env → Sto → Prop} {e : Env} {σ : Sto} (h : c = .block i a) (hw : wpc P (.block i a) Q e σ) : wpc P c Q e σ := h ▸ hw
theorem at_region {P : Program} {c : Code} {i : Nat} {ops : Array Oper} {d : Bool} {Q : AExit → Env → Sto → Prop} {e : Env} {σ : Sto} (h : c = .region i ops d) (hw : wpc P (.region i ops d) Q e σ) : wpc P c Q e σ := h ▸ hw

end Go.Proofs.YtkbpnnbdfikjhaaGreat

/- The library's sort at words: its small parts. What is sorted does not matter: it ends, and words stay words. -/
namespace Go.Proofs.YtkbpnnbdfikjhaaGreat
open Go Go.Aw
set_option linter.unusedVariables false
set_option linter.unusedSimpArgs false
set_option maxRecDepth 10000

/-- words -/
def Wds (cs : List AV) : Prop := ∀ c ∈ cs, ∃ w, c = u w
theorem Wds.at {cs : List AV} (h : Wds cs) {j : Int} (h0 : 0 ≤ j) (h1 : j < cs.length) : ∃ w, cs[j.toNat]? = some (u w) := by
  have hlt : j.toNat < cs.length := by omega
  obtain ⟨w, hw⟩ := h _ (List.getElem_mem hlt)
  exact ⟨w, by rw [List.getElem?_eq_getElem hlt, hw]⟩
theorem Wds.splice {cs : List AV} (h : Wds cs) (j : Nat) (w : Int) : Wds (asplice cs j [u w]) := by
  intro c hc
  simp only [asplice, List.mem_append, List.mem_singleton] at hc
  rcases hc with (hc | hc) | hc
  · exact h c (List.mem_of_mem_take hc)
  · exact ⟨w, hc⟩
  · exact h c (List.mem_of_mem_drop hc)
theorem asplice_len {cs : List AV} {j : Nat} {x : AV} (h : j < cs.length) : (asplice cs j [x]).length = cs.length := by
  simp [asplice]; omega

theorem nan_spec (σ : Sto) (x : Int) : ACalls Tryz.prog 86 [u x] σ (fun r σ' => r = boo false ∧ σ' = σ) := by
  refine ACalls.q fun q hq => fn_of Tab.mixed Tryz.func86 rfl rfl rfl ?_
  simp -implicitDefEqProofs
  exact hq _ _ ⟨rfl, rfl⟩
theorem less_spec (σ : Sto) (x y : Int) : ACalls Tryz.prog 64 [u x, u y] σ (fun r σ' => r = boo (decide (x < y)) ∧ σ' = σ) := by
  refine ACalls.q fun q hq => fn_of Tab.mixed Tryz.func64 rfl rfl rfl ?_
  simp -implicitDefEqProofs
  refine (nan_spec _ _).mono ?_
  rintro r σ' ⟨rfl, rfl⟩
  simp -implicitDefEqProofs
  exact hq _ _ ⟨rfl, rfl⟩
/-- a block of words is sorted: what holds of it behind a step -/
structure Sww (b n : Nat) (σ σ' : Sto) : Prop where
  cs : ∃ cs, σ' b = some (.cells cs) ∧ cs.length = n ∧ Wds cs
  out : ∀ y o, y ≠ b → σ y = some o → σ' y = some o
theorem Sww.trans {b n : Nat} {σ σ1 σ2 : Sto} (h : Sww b n σ σ1) (h' : Sww b n σ1 σ2) : Sww b n σ σ2 := ⟨h'.cs, fun y o hy ho => h'.out y o hy (h.out y o hy ho)⟩
def HasW (b n : Nat) (σ : Sto) : Prop := ∃ cs, σ b = some (.cells cs) ∧ cs.length = n ∧ Wds cs
theorem HasW.refl {b n : Nat} {σ : Sto} (h : HasW b n σ) : Sww b n σ σ := ⟨h, fun _ _ _ h => h⟩

theorem order2_spec (σ : Sto) (b n : Nat) (h : HasW b n σ) (lo up : Int) (h0 : 0 ≤ lo) (h1 : up ≤ n) (i j : Int) (hi : lo ≤ i ∧ i < up) (hj : lo ≤ j ∧ j < up) (sb : Nat) (k : Int) (hs : σ sb = some (.cells [i64 k])) (hk : 0 ≤ k ∧ k < 1000000) :
    ACalls Tryz.prog 87 [.mslice b 0 n 1, i64 i, i64 j, .ptr sb 0] σ (fun r σ' => (∃ p q, r = .tuple [i64 p, i64 q] ∧ (lo ≤ p ∧ p < up) ∧ (lo ≤ q ∧ q < up)) ∧ ∃ k', σ' = σ.set sb (.cells [i64 k']) ∧ k ≤ k' ∧ k' ≤ k + 1) := by
  obtain ⟨cs, hc, hl, hw⟩ := h
  obtain ⟨x, hx⟩ := hw.at (j := i) (by omega) (by omega)
  obtain ⟨y, hy⟩ := hw.at (j := j) (by omega) (by omega)
  have hi' : 0 ≤ i ∧ i < n := by omega
  have hj' : 0 ≤ j ∧ j < n := by omega
  have e1 : IntKind.i64.wrap (k + 1) = k + 1 := wrap_i64 (by omega) (by omega)
  refine ACalls.q fun q hq => fn_of Tab.mixed Tryz.func87 rfl rfl rfl ?_
  simp -implicitDefEqProofs
  refine draw (by kernel_rfl) ?_
  simp -implicitDefEqProofs [hi', hj', hc, hx, hy]
  refine (less_spec _ _ _).mono ?_
  rintro r σ' ⟨rfl, rfl⟩
  by_cases hlt : y < x
  · simp -implicitDefEqProofs [hlt, hs, e1]
    exact hq _ _ ⟨⟨_, _, rfl, hj, hi⟩, k + 1, rfl, by omega, by omega⟩
  · simp -implicitDefEqProofs [hlt]
    exact hq _ _ ⟨⟨_, _, rfl, hi, hj⟩, k, (by funext z; by_cases e : z = sb <;> simp [Sto.set, e, hs]), by omega, by omega⟩

theorem HasW.set {b n : Nat} {σ : Sto} (h : HasW b n σ) {sb : Nat} {o : AObj} (hne : sb ≠ b) : HasW b n (σ.set sb o) := by
  obtain ⟨cs, hc, hl, hw⟩ := h
  exact ⟨cs, by rw [set_ne (Ne.symm hne)]; exact hc, hl, hw⟩
theorem set_set (σ : Sto) (b : Nat) (o o' : AObj) : (σ.set b o).set b o' = σ.set b o' := by funext z; by_cases e : z = b <;> simp [Sto.set, e]

theorem median_spec (σ : Sto) (b n : Nat) (h : HasW b n σ) (lo hi : Int) (h0 : 0 ≤ lo) (h1 : hi ≤ n) (x y z : Int) (hx : lo ≤ x ∧ x < hi) (hy : lo ≤ y ∧ y < hi) (hz : lo ≤ z ∧ z < hi) (sb : Nat) (hne : sb ≠ b) (k : Int) (hs : σ sb = some (.cells [i64 k])) (hk : 0 ≤ k ∧ k < 100000) :
    ACalls Tryz.prog 85 [.mslice b 0 n 1, i64 x, i64 y, i64 z, .ptr sb 0] σ (fun r σ' => (∃ p, r = i64 p ∧ (lo ≤ p ∧ p < hi)) ∧ ∃ k', σ' = σ.set sb (.cells [i64 k']) ∧ k ≤ k' ∧ k' ≤ k + 3) := by
  refine ACalls.q fun q hq => fn_of Tab.mixed Tryz.func85 rfl rfl rfl ?_
  simp -implicitDefEqProofs
  refine (order2_spec σ b n h lo hi h0 h1 x y hx hy sb k hs (by omega)).mono ?_
  rintro r s1 ⟨⟨p1, q1, rfl, hp1, hq1⟩, k1, rfl, k1a, k1b⟩
  simp -implicitDefEqProofs
  refine (order2_spec _ b n (h.set hne) lo hi h0 h1 q1 z hq1 hz sb k1 (by simp [Sto.set]) (by omega)).mono ?_
  rintro r s2 ⟨⟨p2, q2, rfl, hp2, hq2⟩, k2, rfl, k2a, k2b⟩
  rw [set_set]
  simp -implicitDefEqProofs
  refine (order2_spec _ b n (h.set hne) lo hi h0 h1 p1 p2 hp1 hp2 sb k2 (by simp [Sto.set]) (by omega)).mono ?_
  rintro r s3 ⟨⟨p3, q3, rfl, hp3, hq3⟩, k3, rfl, k3a, k3b⟩
  rw [set_set]
  simp -implicitDefEqProofs
  exact hq _ _ ⟨⟨_, rfl, hq3⟩, k3, rfl, by omega, by omega⟩

theorem adjacent_spec (σ : Sto) (b n : Nat) (hn : n ≤ 1000000) (h : HasW b n σ) (lo hi : Int) (h0 : 0 ≤ lo) (h1 : hi ≤ n) (x : Int) (hx : lo + 1 ≤ x ∧ x + 1 < hi) (sb : Nat) (hne : sb ≠ b) (k : Int) (hs : σ sb = some (.cells [i64 k])) (hk : 0 ≤ k ∧ k < 100000) :
    ACalls Tryz.prog 84 [.mslice b 0 n 1, i64 x, .ptr sb 0] σ (fun r σ' => (∃ p, r = i64 p ∧ (lo ≤ p ∧ p < hi)) ∧ ∃ k', σ' = σ.set sb (.cells [i64 k']) ∧ k ≤ k' ∧ k' ≤ k + 3) := by
  have e1 : IntKind.i64.wrap (x + 1) = x + 1 := wrap_i64 (by omega) (by omega)
  have e2 : IntKind.i64.wrap (x - 1) = x - 1 := wrap_i64 (by omega) (by omega)
  refine ACalls.q fun q hq => fn_of Tab.mixed Tryz.func84 rfl rfl rfl ?_
  simp -implicitDefEqProofs [e1, e2]
  refine (median_spec σ b n h lo hi h0 h1 (x - 1) x (x + 1) (by omega) (by omega) (by omega) sb hne k hs hk).mono ?_
  rintro r s1 ⟨⟨p1, rfl, hp1⟩, k1, rfl, k1a, k1b⟩
  simp -implicitDefEqProofs
  exact hq _ _ ⟨⟨_, rfl, hp1⟩, k1, rfl, by omega, by omega⟩

/-- a middle one -/
theorem pivot_spec (σ : Sto) (b n : Nat) (hn : n ≤ 1000000) (h : HasW b n σ) (lo up : Int) (h0 : 0 ≤ lo) (h1 : up ≤ n) (h8 : lo + 12 < up) :
    ACalls Tryz.prog 61 [.mslice b 0 n 1, i64 lo, i64 up] σ (fun r σ' => (∃ p q, r = .tuple [i64 p, i64 q] ∧ (lo ≤ p ∧ p < up)) ∧ Sub σ σ') := by
  have e1 : IntKind.i64.wrap (up - lo) = up - lo := wrap_i64 (by omega) (by omega)
  have d : (up - lo).tdiv 4 = (up - lo) / 4 := Int.tdiv_eq_ediv_of_nonneg (by omega)
  obtain ⟨v, hv⟩ : ∃ v, v = (up - lo) / 4 := ⟨_, rfl⟩
  have e2 : IntKind.i64.wrap v = v := wrap_i64 (by omega) (by omega)
  have e3 : IntKind.i64.wrap (v * 2) = v * 2 := wrap_i64 (by omega) (by omega)
  have e4 : IntKind.i64.wrap (v * 3) = v * 3 := wrap_i64 (by omega) (by omega)
  have e5 : IntKind.i64.wrap (lo + v) = lo + v := wrap_i64 (by omega) (by omega)
  have e6 : IntKind.i64.wrap (lo + v * 2) = lo + v * 2 := wrap_i64 (by omega) (by omega)
  have e7 : IntKind.i64.wrap (lo + v * 3) = lo + v * 3 := wrap_i64 (by omega) (by omega)
  have g8 : (8 : Int) ≤ up - lo := by omega
  refine ACalls.q fun q hq => fn_of Tab.mixed Tryz.func61 rfl rfl rfl ?_
  simp -implicitDefEqProofs [e1, d, ← hv, e2, e3, e4, e5, e6, e7]
  refine alloc fun sb hsb => ?_
  have hne : sb ≠ b := fun e => by obtain ⟨cs, hc, -⟩ := h; rw [e, hc] at hsb; cases hsb
  by_cases h50 : (50 : Int) ≤ up - lo
  · simp -implicitDefEqProofs [e1, d, ← hv, e2, e3, e4, e5, e6, e7, g8, h50]
    refine (adjacent_spec _ b n hn (h.set hne) lo up h0 h1 (lo + v) (by omega) sb hne 0 (by simp [Sto.set]) (by omega)).mono ?_
    rintro r s1 ⟨⟨p1, rfl, hp1⟩, k1, rfl, k1a, k1b⟩
    rw [set_set]
    simp -implicitDefEqProofs
    refine (adjacent_spec _ b n hn (h.set hne) lo up h0 h1 (lo + v * 2) (by omega) sb hne k1 (by simp [Sto.set]) (by omega)).mono ?_
    rintro r s2 ⟨⟨p2, rfl, hp2⟩, k2, rfl, k2a, k2b⟩
    rw [set_set]
    simp -implicitDefEqProofs
    refine (adjacent_spec _ b n hn (h.set hne) lo up h0 h1 (lo + v * 3) (by omega) sb hne k2 (by simp [Sto.set]) (by omega)).mono ?_
    rintro r s3 ⟨⟨p3, rfl, hp3⟩, k3, rfl, k3a, k3b⟩
    rw [set_set]
    simp -implicitDefEqProofs
    refine (median_spec _ b n (h.set hne) lo up h0 h1 p1 p2 p3 hp1 hp2 hp3 sb hne k3 (by simp [Sto.set]) (by omega)).mono ?_
    rintro r s4 ⟨⟨p4, rfl, hp4⟩, k4, rfl, k4a, k4b⟩
    rw [set_set]
    by_cases z0 : k4 = 0
    · simp -implicitDefEqProofs [z0]
      exact hq _ _ ⟨⟨_, _, rfl, hp4⟩, sub_set' (Sub.refl _) hsb⟩
    by_cases z1 : k4 = 12
    · simp -implicitDefEqProofs [z0, z1]
      exact hq _ _ ⟨⟨_, _, rfl, hp4⟩, sub_set' (Sub.refl _) hsb⟩
    simp -implicitDefEqProofs [z0, z1]
    exact hq _ _ ⟨⟨_, _, rfl, hp4⟩, sub_set' (Sub.refl _) hsb⟩
  · simp -implicitDefEqProofs [e1, d, ← hv, e2, e3, e4, e5, e6, e7, g8, h50]
    refine (median_spec _ b n (h.set hne) lo up h0 h1 (lo + v) (lo + v * 2) (lo + v * 3) (by omega) (by omega) (by omega) sb hne 0 (by simp [Sto.set]) (by omega)).mono ?_
    rintro r s4 ⟨⟨p4, rfl, hp4⟩, k4, rfl, k4a, k4b⟩
    rw [set_set]
    by_cases z0 : k4 = 0
    · simp -implicitDefEqProofs [z0]
      exact hq _ _ ⟨⟨_, _, rfl, hp4⟩, sub_set' (Sub.refl _) hsb⟩
    by_cases z1 : k4 = 12
    · simp -implicitDefEqProofs [z0, z1]
      exact hq _ _ ⟨⟨_, _, rfl, hp4⟩, sub_set' (Sub.refl _) hsb⟩
    simp -implicitDefEqProofs [z0, z1]
    exact hq _ _ ⟨⟨_, _, rfl, hp4⟩, sub_set' (Sub.refl _) hsb⟩
end Go.Proofs.YtkbpnnbdfikjhaaGreat

/- The library's sort at words: loops that swap. -/
namespace Go.Proofs.YtkbpnnbdfikjhaaGreat
open Go Go.Aw
set_option linter.unusedVariables false
set_option linter.unusedSimpArgs false
set_option maxRecDepth 10000

/-- two words change places -/
theorem Sww.swap {b n : Nat} {σ s : Sto} (h : Sww b n σ s) {cs : List AV} (hc : s b = some (.cells cs)) (hl : cs.length = n) (hw : Wds cs) {i j : Nat} {x y : Int} (hi : i < n) (hj : j < n) : Sww b n σ (s.set b (.cells (asplice (asplice cs i [u x]) j [u y]))) := by
  refine ⟨⟨asplice (asplice cs i [u x]) j [u y], by simp only [Sto.set, if_true], ?_, (hw.splice _ _).splice _ _⟩, fun z o hz ho => by rw [set_ne hz]; exact h.out z o hz ho⟩
  rw [asplice_len (by rw [asplice_len (by omega)]; omega), asplice_len (by omega), hl]

structure InsI (b n : Nat) (lo up : Int) (σ : Sto) (e : Env) (s : Sto) (i : Int) : Prop where
  hl : e.length = 49
  g0 : gt e 0 = .mslice b 0 n 1
  g1 : gt e 1 = i64 lo
  g2 : gt e 2 = i64 up
  g6 : gt e 6 = i64 i
  h : Sww b n σ s
  r : lo + 1 ≤ i
def InsO (b n : Nat) (lo up : Int) (σ : Sto) (e : Env) (s : Sto) : Prop := ∃ i, InsI b n lo up σ e s i
def InsN (b n : Nat) (lo up : Int) (σ : Sto) (i : Int) (e : Env) (s : Sto) : Prop := ∃ j, InsI b n lo up σ e s i ∧ gt e 7 = i64 j ∧ lo ≤ j ∧ j ≤ i
theorem insertion_spec (σ : Sto) (b n : Nat) (hn : n ≤ 1000000) (h : HasW b n σ) (lo up : Int) (h0 : 0 ≤ lo ∧ lo ≤ up) (h1 : up ≤ n) :
    ACalls Tryz.prog 58 [.mslice b 0 n 1, i64 lo, i64 up] σ (fun r σ' => r = .tuple [] ∧ Sww b n σ σ') := by
  have e0 : IntKind.i64.wrap (lo + 1) = lo + 1 := wrap_i64 (by omega) (by omega)
  refine ACalls.q fun q hq => fn_of Tab.mixed Tryz.func58 rfl rfl rfl ?_
  simp -implicitDefEqProofs [e0]
  refine wpc_loop (InsO b n lo up σ) (fun e _ => (up - intAt e 6).toNat) ?_ ?_
  · exact ⟨lo + 1, rfl, rfl, rfl, rfl, rfl, h.refl, by omega⟩
  rintro e s ⟨i, hI⟩
  by_cases hlt : i < up
  · simp -implicitDefEqProofs [hI.hl, hI.g6, hI.g2, hlt]
    refine wpc_loop (InsN b n lo up σ i) (fun e _ => (intAt e 7 - lo).toNat) ?_ ?_
    · exact ⟨i, ⟨by simp [hI.hl], by simp [hI.g0], by simp [hI.g1], by simp [hI.g2], by simp [hI.g6], hI.h, hI.r⟩, by simp [hI.hl], by have := hI.r; omega, by omega⟩
    have hi6 := hI.g6
    rintro e s ⟨j, hI, g7, hj0, hj1⟩
    have hr := hI.r
    have e1 : IntKind.i64.wrap (j - 1) = j - 1 := wrap_i64 (by omega) (by omega)
    have e2 : IntKind.i64.wrap (i + 1) = i + 1 := wrap_i64 (by omega) (by omega)
    by_cases hjl : lo < j
    · obtain ⟨cs, hc, hl, hw⟩ := hI.h.cs
      obtain ⟨x, hx⟩ := hw.at (j := j) (by omega) (by omega)
      obtain ⟨y, hy⟩ := hw.at (j := j - 1) (by omega) (by omega)
      rw [show (j - 1).toNat = j.toNat - 1 by omega] at hy
      have k1 : 0 ≤ j ∧ j < n := by omega
      have k2 : 1 ≤ j ∧ j - 1 < n := by omega
      simp -implicitDefEqProofs
      refine draw (by kernel_rfl) ?_
      simp -implicitDefEqProofs [hI.hl, hI.g0, hI.g1, hI.g2, hI.g6, g7, hjl, e1, k1, k2, hc, hx, hy]
      refine (less_spec _ _ _).mono ?_
      rintro r σ' ⟨rfl, rfl⟩
      by_cases hxy : x < y
      · simp -implicitDefEqProofs [hI.hl, hI.g0, hI.g1, hI.g2, hI.g6, g7, hjl, e1, k1, k2, hc, hx, hy, hxy]
        refine draw (by kernel_rfl) ?_
        simp -implicitDefEqProofs [hI.hl, hI.g0, hI.g1, hI.g2, hI.g6, g7, hjl, e1, k1, k2, hc, hx, hy, hxy, -asplice]
        have hlc : j.toNat < cs.length := by omega
        refine ⟨by omega, by rw [asplice_len hlc]; omega, ⟨j - 1, ⟨by simp [hI.hl], by simp [hI.g0], by simp [hI.g1], by simp [hI.g2], by simp [hI.g6], hI.h.swap hc hl hw (by omega) (by omega), hI.r⟩, by simp [hI.hl], by omega, by omega⟩, ?_⟩
        simp [intAt, hI.hl, g7]
        omega
      · simp -implicitDefEqProofs [hI.hl, hI.g0, hI.g1, hI.g2, hI.g6, g7, hjl, e1, e2, k1, k2, hc, hx, hy, hxy]
        refine ⟨⟨i + 1, ⟨by simp [hI.hl], by simp [hI.g0], by simp [hI.g1], by simp [hI.g2], by simp [hI.hl], hI.h, by omega⟩⟩, ?_⟩
        simp [intAt, hI.hl, hI.g6, hi6]
        omega
    · simp -implicitDefEqProofs
      refine draw (by kernel_rfl) ?_
      simp -implicitDefEqProofs [hI.hl, hI.g0, hI.g1, hI.g2, hI.g6, g7, hjl, e1, e2]
      refine ⟨⟨i + 1, ⟨by simp [hI.hl], by simp [hI.g0], by simp [hI.g1], by simp [hI.g2], by simp [hI.hl], hI.h, by omega⟩⟩, ?_⟩
      simp [intAt, hI.hl, hI.g6, hi6]
      omega
  · simp -implicitDefEqProofs [hI.hl, hI.g6, hI.g2, hlt]
    exact hq _ _ ⟨rfl, hI.h⟩

/-! ### heaps -/
structure SftI (b n : Nat) (up fst : Int) (σ : Sto) (e : Env) (s : Sto) (i : Int) : Prop where
  hl : e.length = 76
  g0 : gt e 0 = .mslice b 0 n 1
  g2 : gt e 2 = i64 up
  g3 : gt e 3 = i64 fst
  g8 : gt e 8 = i64 i
  h : Sww b n σ s
  r : 0 ≤ i
def SftJ (b n : Nat) (up fst : Int) (σ : Sto) (e : Env) (s : Sto) : Prop := ∃ i, SftI b n up fst σ e s i ∧ i ≤ 2000000
def SftC (b n : Nat) (up fst : Int) (σ : Sto) (i : Int) (e : Env) (s : Sto) : Prop := ∃ ch, SftI b n up fst σ e s i ∧ gt e 9 = i64 ch ∧ i < ch ∧ ch < up
def SftD (b n : Nat) (up fst : Int) (σ : Sto) (i : Int) (e : Env) (s : Sto) : Prop := SftI b n up fst σ e s i ∧ gt e 9 = i64 (2 * i + 1) ∧ 2 * i + 1 < up
theorem SftI.env {b n : Nat} {up fst : Int} {σ : Sto} {e e' : Env} {s : Sto} {i : Int} (h : SftI b n up fst σ e s i) (hl : e'.length = 76) (hs : ∀ j ∈ [0, 2, 3, 8], gt e' j = gt e j) : SftI b n up fst σ e' s i := by
  simp only [List.mem_cons, List.not_mem_nil, or_false, forall_eq_or_imp, forall_eq] at hs
  exact ⟨hl, hs.1.trans h.g0, hs.2.1.trans h.g2, hs.2.2.1.trans h.g3, hs.2.2.2.trans h.g8, h.h, h.r⟩
theorem sift_spec (σ : Sto) (b n : Nat) (hn : n ≤ 1000000) (h : HasW b n σ) (lo up fst : Int) (h0 : 0 ≤ lo) (h1 : 0 ≤ fst) (h2 : 0 ≤ up) (h3 : fst + up ≤ n) (h4 : lo ≤ 1000000) :
    ACalls Tryz.prog 81 [.mslice b 0 n 1, i64 lo, i64 up, i64 fst] σ (fun r σ' => r = .tuple [] ∧ Sww b n σ σ') := by
  refine ACalls.q fun q hq => fn_of Tab.mixed Tryz.func81 rfl rfl rfl ?_
  simp -implicitDefEqProofs
  refine wpc_loop (SftJ b n up fst σ) (fun e _ => (3000000 - intAt e 8).toNat) ?_ ?_
  · exact ⟨lo, ⟨rfl, rfl, rfl, rfl, rfl, h.refl, h0⟩, by omega⟩
  rintro e s ⟨i, hI, him⟩
  have hr := hI.r
  have hi8 := hI.g8
  have hmu : intAt e 8 = i := by simp [intAt, hi8]
  rw [hmu]
  have e1 : IntKind.i64.wrap (2 * i) = 2 * i := wrap_i64 (by omega) (by omega)
  have e2 : IntKind.i64.wrap (2 * i + 1) = 2 * i + 1 := wrap_i64 (by omega) (by omega)
  have e3 : IntKind.i64.wrap (2 * i + 1 + 1) = 2 * i + 1 + 1 := wrap_i64 (by omega) (by omega)
  rw [wpc_block]
  refine wpc_cut (fun e s => SftI b n up fst σ e s i ∧ gt e 9 = i64 (2 * i + 1)) ?_ ?_
  · simp -implicitDefEqProofs [hI.hl, hI.g8, e1, e2]
    exact hI.env (by simp [hI.hl]) (by simp)
  clear hI hi8 hmu
  rintro e s ⟨hI, g9⟩
  refine wpc_cut (SftD b n up fst σ i) ?_ ?_
  · by_cases hge : up ≤ 2 * i + 1
    · simp -implicitDefEqProofs [hI.hl, g9, hI.g2, hge]
      exact hq _ _ ⟨rfl, hI.h⟩
    · simp -implicitDefEqProofs [hI.hl, g9, hI.g2, hge]
      exact ⟨hI.env (by simp [hI.hl]) (by simp), by simp [g9], by omega⟩
  clear hI g9
  rintro e s ⟨hI, g9, hup⟩
  have c1 : 0 ≤ fst + (2 * i + 1) ∧ fst + (2 * i + 1) < n := by omega
  have w1 : IntKind.i64.wrap (fst + (2 * i + 1)) = fst + (2 * i + 1) := wrap_i64 (by omega) (by omega)
  have w2 : IntKind.i64.wrap (fst + (2 * i + 1) + 1) = fst + (2 * i + 1) + 1 := wrap_i64 (by omega) (by omega)
  refine wpc_cut (SftC b n up fst σ i) ?_ ?_
  · obtain ⟨cs, hc, hl, hw⟩ := hI.h.cs
    obtain ⟨x, hx⟩ := hw.at (j := fst + (2 * i + 1)) (by omega) (by omega)
    simp -implicitDefEqProofs
    refine draw (by kernel_rfl) ?_
    by_cases hlt : 2 * i + 1 + 1 < up
    · obtain ⟨y, hy⟩ := hw.at (j := fst + (2 * i + 1) + 1) (by omega) (by omega)
      have c3 : 0 ≤ fst + (2 * i + 1) + 1 ∧ fst + (2 * i + 1) + 1 < n := by omega
      simp -implicitDefEqProofs [hI.hl, g9, hI.g0, hI.g2, hI.g3, e3, hlt, w1, w2, c1, c3, hc, hx, hy]
      refine (less_spec _ _ _).mono ?_
      rintro r σ' ⟨rfl, rfl⟩
      by_cases hxy : x < y
      · simp -implicitDefEqProofs [hI.hl, g9, e3, hxy]
        exact ⟨2 * i + 1 + 1, hI.env (by simp [hI.hl]) (by simp), by simp [hI.hl], by omega, hlt⟩
      · simp -implicitDefEqProofs [hI.hl, g9, hxy]
        exact ⟨2 * i + 1, hI.env (by simp [hI.hl]) (by simp), by simp [g9], by omega, hup⟩
    · simp -implicitDefEqProofs [hI.hl, g9, hI.g0, hI.g2, hI.g3, e3, hlt]
      exact ⟨2 * i + 1, hI.env (by simp [hI.hl]) (by simp), by simp [g9], by omega, hup⟩
  clear hI g9
  rintro e s ⟨ch, hI, g9, hc1, hc2⟩
  have c2 : 0 ≤ fst + i ∧ fst + i < n := by omega
  have c3 : 0 ≤ fst + ch ∧ fst + ch < n := by omega
  have w3 : IntKind.i64.wrap (fst + i) = fst + i := wrap_i64 (by omega) (by omega)
  have w4 : IntKind.i64.wrap (fst + ch) = fst + ch := wrap_i64 (by omega) (by omega)
  obtain ⟨cs, hc, hl, hw⟩ := hI.h.cs
  obtain ⟨x, hx⟩ := hw.at (j := fst + i) (by omega) (by omega)
  obtain ⟨y, hy⟩ := hw.at (j := fst + ch) (by omega) (by omega)
  simp -implicitDefEqProofs
  refine draw (by kernel_rfl) ?_
  simp -implicitDefEqProofs [hI.hl, g9, hI.g0, hI.g2, hI.g3, hI.g8, w3, w4, c2, c3, hc, hx, hy]
  refine (less_spec _ _ _).mono ?_
  rintro r σ' ⟨rfl, rfl⟩
  by_cases hxy : x < y
  · simp -implicitDefEqProofs [hI.hl, hxy]
    refine draw (by kernel_rfl) ?_
    simp -implicitDefEqProofs [hI.hl, g9, hI.g0, hI.g2, hI.g3, hI.g8, w3, w4, c2, c3, hc, hx, hy, -asplice]
    have hlc : (fst + i).toNat < cs.length := by omega
    refine ⟨by omega, by rw [asplice_len hlc]; omega, ⟨ch, ⟨by simp [hI.hl], by simp [hI.g0], by simp [hI.g2], by simp [hI.g3], by simp [hI.hl], hI.h.swap hc hl hw (by omega) (by omega), by omega⟩, by omega⟩, ?_⟩
    simp [intAt, hI.hl]
    omega
  · simp -implicitDefEqProofs [hI.hl, hxy]
    exact hq _ _ ⟨rfl, hI.h⟩
end Go.Proofs.YtkbpnnbdfikjhaaGreat

/- The library's sort at words: a row is parted. -/
namespace Go.Proofs.YtkbpnnbdfikjhaaGreat
open Go Go.Aw
set_option linter.unusedVariables false
set_option linter.unusedSimpArgs false
set_option maxRecDepth 10000

structure PtI (N si sj b n : Nat) (lo up : Int) (σ : Sto) (e : Env) (s : Sto) (i j : Int) : Prop where
  hl : e.length = N
  g0 : gt e 0 = .mslice b 0 n 1
  g1 : gt e 1 = i64 lo
  gi : gt e si = i64 i
  gj : gt e sj = i64 j
  h : Sww b n σ s
  r : (lo + 1 ≤ i ∧ i ≤ up) ∧ lo ≤ j ∧ j + 1 ≤ up
theorem PtI.env {N si sj b n : Nat} {lo up : Int} {σ : Sto} {e e' : Env} {s : Sto} {i j : Int} (h : PtI N si sj b n lo up σ e s i j) (hl : e'.length = N) (hs : ∀ k ∈ [0, 1, si, sj], gt e' k = gt e k) : PtI N si sj b n lo up σ e' s i j := by
  simp only [List.mem_cons, List.not_mem_nil, or_false, forall_eq_or_imp, forall_eq] at hs
  exact ⟨hl, hs.1.trans h.g0, hs.2.1.trans h.g1, hs.2.2.1.trans h.gi, hs.2.2.2.trans h.gj, h.h, h.r⟩
/-- between i0 and j0 -/
def PtJ (N si sj b n : Nat) (lo up : Int) (σ : Sto) (i0 j0 : Int) (e : Env) (s : Sto) : Prop := ∃ i j, PtI N si sj b n lo up σ e s i j ∧ i0 ≤ i ∧ j ≤ j0
/-- the same, and what is left is in order -/
def PtL (N si sj b n : Nat) (lo up : Int) (σ : Sto) (i0 j0 : Int) (e : Env) (s : Sto) : Prop := ∃ i j, PtI N si sj b n lo up σ e s i j ∧ i0 ≤ i ∧ j ≤ j0 ∧ i ≤ j

theorem part_up1 {b n : Nat} (hn : n ≤ 1000000) {lo up : Int} (h0 : 0 ≤ lo) (h1 : up ≤ n) (h2 : lo < up) {σ : Sto} {i0 j0 : Int} {Q : AExit → Env → Sto → Prop} {e : Env} {s : Sto} (hJ : PtJ 168 10 11 b n lo up σ i0 j0 e s)
    (hE : ∀ e s, PtJ 168 10 11 b n lo up σ i0 j0 e s → Q (.exit 0) e s) : wpc Tryz.prog (cL (cL (cR (cR (cR (codeOf Tryz.f66)))))) Q e s := by
    refine at_loop (c := (cL (cL (cR (cR (cR (codeOf Tryz.f66))))))) rfl ?_
    refine wpc_loop (PtJ 168 10 11 b n lo up σ i0 j0) (fun e _ => (up - intAt e 10).toNat) hJ ?_
    clear hJ e s
    rintro e s ⟨i, j, hI, hii, hij⟩
    have hr := hI.r
    have gi := hI.gi
    have gj := hI.gj
    obtain ⟨cs, hc, hl, hw⟩ := hI.h.cs
    obtain ⟨p, hp⟩ := hw.at (j := lo) (by omega) (by omega)
    have cl : 0 ≤ lo ∧ lo < n := by omega
    have w1 : IntKind.i64.wrap (i + 1) = i + 1 := wrap_i64 (by omega) (by omega)
    have w2 : IntKind.i64.wrap (j - 1) = j - 1 := wrap_i64 (by omega) (by omega)
    by_cases hle : i ≤ j
    · have cx : 0 ≤ i ∧ i < n := by omega
      obtain ⟨x, hx⟩ := hw.at (j := i) (by omega) (by omega)
      simp -implicitDefEqProofs
      refine draw (by kernel_rfl) ?_
      simp -implicitDefEqProofs [hI.hl, hI.g0, hI.g1, hI.gi, hI.gj, hle, cx, cl, hc, hp, hx]
      refine (less_spec _ _ _).mono ?_
      rintro r σ' ⟨rfl, rfl⟩
      by_cases hxp : x < p
      · simp -implicitDefEqProofs [hI.hl, hI.gi, hI.gj, w1, w2, hxp]
        first
          | exact hE _ _ ⟨i, j, hI.env (by simp [hI.hl]) (by simp), hii, hij⟩
          | (refine ⟨⟨i + 1, j, ⟨by simp [hI.hl], by simp [hI.g0], by simp [hI.g1], by simp [hI.hl], by simp [hI.gj], hI.h, by omega⟩, by omega, hij⟩, ?_⟩
             simp [intAt, hI.hl, gi, gj]
             omega)
      · simp -implicitDefEqProofs [hI.hl, hI.gi, hI.gj, w1, w2, hxp]
        first
          | exact hE _ _ ⟨i, j, hI.env (by simp [hI.hl]) (by simp), hii, hij⟩
          | (refine ⟨⟨i + 1, j, ⟨by simp [hI.hl], by simp [hI.g0], by simp [hI.g1], by simp [hI.hl], by simp [hI.gj], hI.h, by omega⟩, by omega, hij⟩, ?_⟩
             simp [intAt, hI.hl, gi, gj]
             omega)
    · simp -implicitDefEqProofs
      refine draw (by kernel_rfl) ?_
      simp -implicitDefEqProofs [hI.hl, hI.g0, hI.g1, hI.gi, hI.gj, hle]
      exact hE _ _ ⟨i, j, hI.env (by simp [hI.hl]) (by simp), hii, hij⟩

theorem part_dn1 {b n : Nat} (hn : n ≤ 1000000) {lo up : Int} (h0 : 0 ≤ lo) (h1 : up ≤ n) (h2 : lo < up) {σ : Sto} {i0 j0 : Int} {Q : AExit → Env → Sto → Prop} {e : Env} {s : Sto} (hJ : PtJ 168 10 11 b n lo up σ i0 j0 e s)
    (hE : ∀ e s, PtJ 168 10 11 b n lo up σ i0 j0 e s → Q (.exit 2) e s) : wpc Tryz.prog (cL (cL (cR (cR (cR (cR (codeOf Tryz.f66))))))) Q e s := by
    refine at_loop (c := (cL (cL (cR (cR (cR (cR (codeOf Tryz.f66)))))))) rfl ?_
    refine wpc_loop (PtJ 168 10 11 b n lo up σ i0 j0) (fun e _ => (intAt e 11 - lo).toNat) hJ ?_
    clear hJ e s
    rintro e s ⟨i, j, hI, hii, hij⟩
    have hr := hI.r
    have gi := hI.gi
    have gj := hI.gj
    obtain ⟨cs, hc, hl, hw⟩ := hI.h.cs
    obtain ⟨p, hp⟩ := hw.at (j := lo) (by omega) (by omega)
    have cl : 0 ≤ lo ∧ lo < n := by omega
    have w1 : IntKind.i64.wrap (i + 1) = i + 1 := wrap_i64 (by omega) (by omega)
    have w2 : IntKind.i64.wrap (j - 1) = j - 1 := wrap_i64 (by omega) (by omega)
    by_cases hle : i ≤ j
    · have cx : 0 ≤ j ∧ j < n := by omega
      obtain ⟨x, hx⟩ := hw.at (j := j) (by omega) (by omega)
      simp -implicitDefEqProofs
      refine draw (by kernel_rfl) ?_
      simp -implicitDefEqProofs [hI.hl, hI.g0, hI.g1, hI.gi, hI.gj, hle, cx, cl, hc, hp, hx]
      refine (less_spec _ _ _).mono ?_
      rintro r σ' ⟨rfl, rfl⟩
      by_cases hxp : x < p
      · simp -implicitDefEqProofs [hI.hl, hI.gi, hI.gj, w1, w2, hxp]
        first
          | exact hE _ _ ⟨i, j, hI.env (by simp [hI.hl]) (by simp), hii, hij⟩
          | (refine ⟨⟨i, j - 1, ⟨by simp [hI.hl], by simp [hI.g0], by simp [hI.g1], by simp [hI.gi], by simp [hI.hl], hI.h, by omega⟩, hii, by omega⟩, ?_⟩
             simp [intAt, hI.hl, gi, gj]
             omega)
      · simp -implicitDefEqProofs [hI.hl, hI.gi, hI.gj, w1, w2, hxp]
        first
          | exact hE _ _ ⟨i, j, hI.env (by simp [hI.hl]) (by simp), hii, hij⟩
          | (refine ⟨⟨i, j - 1, ⟨by simp [hI.hl], by simp [hI.g0], by simp [hI.g1], by simp [hI.gi], by simp [hI.hl], hI.h, by omega⟩, hii, by omega⟩, ?_⟩
             simp [intAt, hI.hl, gi, gj]
             omega)
    · simp -implicitDefEqProofs
      refine draw (by kernel_rfl) ?_
      simp -implicitDefEqProofs [hI.hl, hI.g0, hI.g1, hI.gi, hI.gj, hle]
      exact hE _ _ ⟨i, j, hI.env (by simp [hI.hl]) (by simp), hii, hij⟩
theorem part_up2 {b n : Nat} (hn : n ≤ 1000000) {lo up : Int} (h0 : 0 ≤ lo) (h1 : up ≤ n) (h2 : lo < up) {σ : Sto} {i0 j0 : Int} {Q : AExit → Env → Sto → Prop} {e : Env} {s : Sto} (hJ : PtJ 168 10 11 b n lo up σ i0 j0 e s)
    (hE : ∀ e s, PtJ 168 10 11 b n lo up σ i0 j0 e s → Q (.exit 6) e s) : wpc Tryz.prog (cL (cL (cL (cL (cL (cL (cR (cR (cR (cR (cR (cR (cR (cR (cR (codeOf Tryz.f66)))))))))))))))) Q e s := by
    refine at_loop (c := (cL (cL (cL (cL (cL (cL (cR (cR (cR (cR (cR (cR (cR (cR (cR (codeOf Tryz.f66))))))))))))))))) rfl ?_
    refine wpc_loop (PtJ 168 10 11 b n lo up σ i0 j0) (fun e _ => (up - intAt e 10).toNat) hJ ?_
    clear hJ e s
    rintro e s ⟨i, j, hI, hii, hij⟩
    have hr := hI.r
    have gi := hI.gi
    have gj := hI.gj
    obtain ⟨cs, hc, hl, hw⟩ := hI.h.cs
    obtain ⟨p, hp⟩ := hw.at (j := lo) (by omega) (by omega)
    have cl : 0 ≤ lo ∧ lo < n := by omega
    have w1 : IntKind.i64.wrap (i + 1) = i + 1 := wrap_i64 (by omega) (by omega)
    have w2 : IntKind.i64.wrap (j - 1) = j - 1 := wrap_i64 (by omega) (by omega)
    by_cases hle : i ≤ j
    · have cx : 0 ≤ i ∧ i < n := by omega
      obtain ⟨x, hx⟩ := hw.at (j := i) (by omega) (by omega)
      simp -implicitDefEqProofs
      refine draw (by kernel_rfl) ?_
      simp -implicitDefEqProofs [hI.hl, hI.g0, hI.g1, hI.gi, hI.gj, hle, cx, cl, hc, hp, hx]
      refine (less_spec _ _ _).mono ?_
      rintro r σ' ⟨rfl, rfl⟩
      by_cases hxp : x < p
      · simp -implicitDefEqProofs [hI.hl, hI.gi, hI.gj, w1, w2, hxp]
        first
          | exact hE _ _ ⟨i, j, hI.env (by simp [hI.hl]) (by simp), hii, hij⟩
          | (refine ⟨⟨i + 1, j, ⟨by simp [hI.hl], by simp [hI.g0], by simp [hI.g1], by simp [hI.hl], by simp [hI.gj], hI.h, by omega⟩, by omega, hij⟩, ?_⟩
             simp [intAt, hI.hl, gi, gj]
             omega)
      · simp -implicitDefEqProofs [hI.hl, hI.gi, hI.gj, w1, w2, hxp]
        first
          | exact hE _ _ ⟨i, j, hI.env (by simp [hI.hl]) (by simp), hii, hij⟩
          | (refine ⟨⟨i + 1, j, ⟨by simp [hI.hl], by simp [hI.g0], by simp [hI.g1], by simp [hI.hl], by simp [hI.gj], hI.h, by omega⟩, by omega, hij⟩, ?_⟩
             simp [intAt, hI.hl, gi, gj]
             omega)
    · simp -implicitDefEqProofs
      refine draw (by kernel_rfl) ?_
      simp -implicitDefEqProofs [hI.hl, hI.g0, hI.g1, hI.gi, hI.gj, hle]
      exact hE _ _ ⟨i, j, hI.env (by simp [hI.hl]) (by simp), hii, hij⟩

theorem part_dn2 {b n : Nat} (hn : n ≤ 1000000) {lo up : Int} (h0 : 0 ≤ lo) (h1 : up ≤ n) (h2 : lo < up) {σ : Sto} {i0 j0 : Int} {Q : AExit → Env → Sto → Prop} {e : Env} {s : Sto} (hJ : PtJ 168 10 11 b n lo up σ i0 j0 e s)
    (hE : ∀ e s, PtJ 168 10 11 b n lo up σ i0 j0 e s → Q (.exit 8) e s) : wpc Tryz.prog (cL (cL (cR (cL (cL (cL (cL (cR (cR (cR (cR (cR (cR (cR (cR (cR (codeOf Tryz.f66))))))))))))))))) Q e s := by
    refine at_loop (c := (cL (cL (cR (cL (cL (cL (cL (cR (cR (cR (cR (cR (cR (cR (cR (cR (codeOf Tryz.f66)))))))))))))))))) rfl ?_
    refine wpc_loop (PtJ 168 10 11 b n lo up σ i0 j0) (fun e _ => (intAt e 11 - lo).toNat) hJ ?_
    clear hJ e s
    rintro e s ⟨i, j, hI, hii, hij⟩
    have hr := hI.r
    have gi := hI.gi
    have gj := hI.gj
    obtain ⟨cs, hc, hl, hw⟩ := hI.h.cs
    obtain ⟨p, hp⟩ := hw.at (j := lo) (by omega) (by omega)
    have cl : 0 ≤ lo ∧ lo < n := by omega
    have w1 : IntKind.i64.wrap (i + 1) = i + 1 := wrap_i64 (by omega) (by omega)
    have w2 : IntKind.i64.wrap (j - 1) = j - 1 := wrap_i64 (by omega) (by omega)
    by_cases hle : i ≤ j
    · have cx : 0 ≤ j ∧ j < n := by omega
      obtain ⟨x, hx⟩ := hw.at (j := j) (by omega) (by omega)
      simp -implicitDefEqProofs
      refine draw (by kernel_rfl) ?_
      simp -implicitDefEqProofs [hI.hl, hI.g0, hI.g1, hI.gi, hI.gj, hle, cx, cl, hc, hp, hx]
      refine (less_spec _ _ _).mono ?_
      rintro r σ' ⟨rfl, rfl⟩
      by_cases hxp : x < p
      · simp -implicitDefEqProofs [hI.hl, hI.gi, hI.gj, w1, w2, hxp]
        first
          | exact hE _ _ ⟨i, j, hI.env (by simp [hI.hl]) (by simp), hii, hij⟩
          | (refine ⟨⟨i, j - 1, ⟨by simp [hI.hl], by simp [hI.g0], by simp [hI.g1], by simp [hI.gi], by simp [hI.hl], hI.h, by omega⟩, hii, by omega⟩, ?_⟩
             simp [intAt, hI.hl, gi, gj]
             omega)
      · simp -implicitDefEqProofs [hI.hl, hI.gi, hI.gj, w1, w2, hxp]
        first
          | exact hE _ _ ⟨i, j, hI.env (by simp [hI.hl]) (by simp), hii, hij⟩
          | (refine ⟨⟨i, j - 1, ⟨by simp [hI.hl], by simp [hI.g0], by simp [hI.g1], by simp [hI.gi], by simp [hI.hl], hI.h, by omega⟩, hii, by omega⟩, ?_⟩
             simp [intAt, hI.hl, gi, gj]
             omega)
    · simp -implicitDefEqProofs
      refine draw (by kernel_rfl) ?_
      simp -implicitDefEqProofs [hI.hl, hI.g0, hI.g1, hI.gi, hI.gj, hle]
      exact hE _ _ ⟨i, j, hI.env (by simp [hI.hl]) (by simp), hii, hij⟩


/-- a row is parted about one of it -/
theorem partition_spec (σ : Sto) (b n : Nat) (hn : n ≤ 1000000) (h : HasW b n σ) (lo up pv : Int) (h0 : 0 ≤ lo) (h1 : up ≤ n) (h2 : lo < up) (hpv : lo ≤ pv ∧ pv < up) :
    ACalls Tryz.prog 66 [.mslice b 0 n 1, i64 lo, i64 up, i64 pv] σ (fun r σ' => (∃ m t, r = .tuple [i64 m, boo t] ∧ lo ≤ m ∧ m < up) ∧ Sww b n σ σ') := by
  have e1 : IntKind.i64.wrap (lo + 1) = lo + 1 := wrap_i64 (by omega) (by omega)
  have e2 : IntKind.i64.wrap (up - 1) = up - 1 := wrap_i64 (by omega) (by omega)
  have cl : 0 ≤ lo ∧ lo < n := by omega
  have cp : 0 ≤ pv ∧ pv < n := by omega
  obtain ⟨cs, hc, hl, hw⟩ := id h
  obtain ⟨x, hx⟩ := hw.at (j := lo) (by omega) (by omega)
  obtain ⟨y, hy⟩ := hw.at (j := pv) (by omega) (by omega)
  refine ACalls.q fun q hq => fn_of Tab.mixed Tryz.func66 rfl rfl rfl ?_
  simp -implicitDefEqProofs
  refine draw (by kernel_rfl) ?_
  simp -implicitDefEqProofs [cl, cp, hc, hx, hy, e1, e2, -asplice]
  have hlc : lo.toNat < cs.length := by omega
  refine ⟨by omega, by rw [asplice_len hlc]; omega, ?_⟩
  have hS := h.refl.swap hc hl hw (i := lo.toNat) (j := pv.toNat) (x := y) (y := x) (by omega) (by omega)
  refine part_up1 hn h0 h1 h2 (i0 := lo + 1) (j0 := up - 1) ⟨lo + 1, up - 1, ⟨rfl, rfl, rfl, rfl, rfl, hS, by omega⟩, by omega, by omega⟩ ?_
  intro e s hJ
  simp -implicitDefEqProofs
  refine part_dn1 hn h0 h1 h2 (i0 := lo + 1) (j0 := up - 1) hJ ?_
  clear hJ e s
  rintro e s ⟨i, j, hI, hii, hij⟩
  have hr := hI.r
  obtain ⟨cs, hc, hl, hw⟩ := hI.h.cs
  obtain ⟨x, hx⟩ := hw.at (j := lo) (by omega) (by omega)
  obtain ⟨y, hy⟩ := hw.at (j := j) (by omega) (by omega)
  have cj : 0 ≤ j ∧ j < n := by omega
  have hlc : j.toNat < cs.length := by omega
  by_cases hgt : j < i
  · simp -implicitDefEqProofs [hI.hl, hI.gi, hI.gj, hgt]
    refine draw (by kernel_rfl) ?_
    simp -implicitDefEqProofs [hI.hl, hI.g0, hI.g1, hI.gi, hI.gj, cl, cj, hc, hx, hy, -asplice]
    refine ⟨by omega, by rw [asplice_len hlc]; omega, ?_⟩
    exact hq _ _ ⟨⟨j, true, rfl, by omega, by omega⟩, hI.h.swap hc hl hw (by omega) (by omega)⟩
  obtain ⟨z, hz⟩ := hw.at (j := i) (by omega) (by omega)
  have ci : 0 ≤ i ∧ i < n := by omega
  have hli : i.toNat < cs.length := by omega
  have w1 : IntKind.i64.wrap (i + 1) = i + 1 := wrap_i64 (by omega) (by omega)
  have w2 : IntKind.i64.wrap (j - 1) = j - 1 := wrap_i64 (by omega) (by omega)
  simp -implicitDefEqProofs [hI.hl, hI.gi, hI.gj, hgt]
  refine draw (by kernel_rfl) ?_
  simp -implicitDefEqProofs [hI.hl, hI.g0, hI.g1, hI.gi, hI.gj, ci, cj, hc, hz, hy, w1, w2, -asplice]
  refine ⟨by omega, by rw [asplice_len hli]; omega, ?_⟩
  have hS := hI.h.swap hc hl hw (i := i.toNat) (j := j.toNat) (x := y) (y := z) (by omega) (by omega)
  refine wpc_loop (PtJ 168 10 11 b n lo up σ (lo + 1) (up - 1)) (fun e _ => (intAt e 11 - intAt e 10 + 2 * n + 2).toNat) ?_ ?_
  · exact ⟨i + 1, j - 1, ⟨by simp [hI.hl], by simp [hI.g0], by simp [hI.g1], by simp [hI.hl], by simp [hI.hl], hS, by omega⟩, by omega, by omega⟩
  clear hI hS hc hl hw hr hx hy hz
  rintro e s ⟨i, j, hI, hii, hij⟩
  have hmu : (intAt e 11 - intAt e 10 + 2 * n + 2).toNat = (j - i + 2 * n + 2).toNat := by simp [intAt, hI.gi, hI.gj]
  rw [hmu]
  clear hmu
  simp -implicitDefEqProofs
  refine part_up2 hn h0 h1 h2 (i0 := i) (j0 := j) ⟨i, j, hI, by omega, by omega⟩ ?_
  intro e s hJ
  simp -implicitDefEqProofs
  refine part_dn2 hn h0 h1 h2 (i0 := i) (j0 := j) hJ ?_
  clear hJ e s hI
  rintro e s ⟨i', j', hI, hii', hij'⟩
  have hr := hI.r
  obtain ⟨cs, hc, hl, hw⟩ := hI.h.cs
  obtain ⟨y, hy⟩ := hw.at (j := j') (by omega) (by omega)
  have cj : 0 ≤ j' ∧ j' < n := by omega
  have hlc : j'.toNat < cs.length := by omega
  by_cases hgt : j' < i'
  · obtain ⟨x, hx⟩ := hw.at (j := lo) (by omega) (by omega)
    simp -implicitDefEqProofs [hI.hl, hI.gi, hI.gj, hgt]
    refine draw (by kernel_rfl) ?_
    simp -implicitDefEqProofs [hI.hl, hI.g0, hI.g1, hI.gi, hI.gj, cl, cj, hc, hx, hy, -asplice]
    refine ⟨by omega, by rw [asplice_len hlc]; omega, ?_⟩
    exact hq _ _ ⟨⟨j', false, rfl, by omega, by omega⟩, hI.h.swap hc hl hw (by omega) (by omega)⟩
  obtain ⟨z, hz⟩ := hw.at (j := i') (by omega) (by omega)
  have ci : 0 ≤ i' ∧ i' < n := by omega
  have hli : i'.toNat < cs.length := by omega
  have w1 : IntKind.i64.wrap (i' + 1) = i' + 1 := wrap_i64 (by omega) (by omega)
  have w2 : IntKind.i64.wrap (j' - 1) = j' - 1 := wrap_i64 (by omega) (by omega)
  simp -implicitDefEqProofs [hI.hl, hI.gi, hI.gj, hgt]
  refine draw (by kernel_rfl) ?_
  simp -implicitDefEqProofs [hI.hl, hI.g0, hI.g1, hI.gi, hI.gj, ci, cj, hc, hz, hy, w1, w2, -asplice]
  have hS := hI.h.swap hc hl hw (i := i'.toNat) (j := j'.toNat) (x := y) (y := z) (by omega) (by omega)
  refine ⟨by omega, by rw [asplice_len hli]; omega, ⟨i' + 1, j' - 1, ⟨by simp [hI.hl], by simp [hI.g0], by simp [hI.g1], by simp [hI.hl], by simp [hI.hl], hS, by omega⟩, by omega, by omega⟩, ?_⟩
  simp [intAt, hI.hl]
  omega
end Go.Proofs.YtkbpnnbdfikjhaaGreat

/- The library's sort at words: a row is parted from what is equal. -/
namespace Go.Proofs.YtkbpnnbdfikjhaaGreat
open Go Go.Aw
set_option linter.unusedVariables false
set_option linter.unusedSimpArgs false
set_option maxRecDepth 10000

theorem eq_up {b n : Nat} (hn : n ≤ 1000000) {lo up : Int} (h0 : 0 ≤ lo) (h1 : up ≤ n) (h2 : lo < up) {σ : Sto} {i0 j0 : Int} {Q : AExit → Env → Sto → Prop} {e : Env} {s : Sto} (hJ : PtJ 84 9 10 b n lo up σ i0 j0 e s)
    (hE : ∀ e s, PtJ 84 9 10 b n lo up σ i0 j0 e s → Q (.exit 2) e s) : wpc Tryz.prog (cL (cL (cL (cL (cL (cL (cR (cR (cR (codeOf Tryz.f65)))))))))) Q e s := by
    refine at_loop (c := (cL (cL (cL (cL (cL (cL (cR (cR (cR (codeOf Tryz.f65))))))))))) rfl ?_
    refine wpc_loop (PtJ 84 9 10 b n lo up σ i0 j0) (fun e _ => (up - intAt e 9).toNat) hJ ?_
    clear hJ e s
    rintro e s ⟨i, j, hI, hii, hij⟩
    have hr := hI.r
    have gi := hI.gi
    have gj := hI.gj
    obtain ⟨cs, hc, hl, hw⟩ := hI.h.cs
    obtain ⟨p, hp⟩ := hw.at (j := lo) (by omega) (by omega)
    have cl : 0 ≤ lo ∧ lo < n := by omega
    have w1 : IntKind.i64.wrap (i + 1) = i + 1 := wrap_i64 (by omega) (by omega)
    have w2 : IntKind.i64.wrap (j - 1) = j - 1 := wrap_i64 (by omega) (by omega)
    by_cases hle : i ≤ j
    · have cx : 0 ≤ i ∧ i < n := by omega
      obtain ⟨x, hx⟩ := hw.at (j := i) (by omega) (by omega)
      simp -implicitDefEqProofs
      refine draw (by kernel_rfl) ?_
      simp -implicitDefEqProofs [hI.hl, hI.g0, hI.g1, hI.gi, hI.gj, hle, cx, cl, hc, hp, hx]
      refine (less_spec _ _ _).mono ?_
      rintro r σ' ⟨rfl, rfl⟩
      by_cases hxp : p < x
      · simp -implicitDefEqProofs [hI.hl, hI.gi, hI.gj, w1, w2, hxp]
        first
          | exact hE _ _ ⟨i, j, hI.env (by simp [hI.hl]) (by simp), hii, hij⟩
          | (refine ⟨⟨i + 1, j, ⟨by simp [hI.hl], by simp [hI.g0], by simp [hI.g1], by simp [hI.hl], by simp [hI.gj], hI.h, by omega⟩, by omega, hij⟩, ?_⟩
             simp [intAt, hI.hl, gi, gj]
             omega)
      · simp -implicitDefEqProofs [hI.hl, hI.gi, hI.gj, w1, w2, hxp]
        first
          | exact hE _ _ ⟨i, j, hI.env (by simp [hI.hl]) (by simp), hii, hij⟩
          | (refine ⟨⟨i + 1, j, ⟨by simp [hI.hl], by simp [hI.g0], by simp [hI.g1], by simp [hI.hl], by simp [hI.gj], hI.h, by omega⟩, by omega, hij⟩, ?_⟩
             simp [intAt, hI.hl, gi, gj]
             omega)
    · simp -implicitDefEqProofs
      refine draw (by kernel_rfl) ?_
      simp -implicitDefEqProofs [hI.hl, hI.g0, hI.g1, hI.gi, hI.gj, hle]
      exact hE _ _ ⟨i, j, hI.env (by simp [hI.hl]) (by simp), hii, hij⟩

theorem eq_dn {b n : Nat} (hn : n ≤ 1000000) {lo up : Int} (h0 : 0 ≤ lo) (h1 : up ≤ n) (h2 : lo < up) {σ : Sto} {i0 j0 : Int} {Q : AExit → Env → Sto → Prop} {e : Env} {s : Sto} (hJ : PtJ 84 9 10 b n lo up σ i0 j0 e s)
    (hE : ∀ e s, PtJ 84 9 10 b n lo up σ i0 j0 e s → Q (.exit 4) e s) : wpc Tryz.prog (cL (cL (cR (cL (cL (cL (cL (cR (cR (cR (codeOf Tryz.f65))))))))))) Q e s := by
    refine at_loop (c := (cL (cL (cR (cL (cL (cL (cL (cR (cR (cR (codeOf Tryz.f65)))))))))))) rfl ?_
    refine wpc_loop (PtJ 84 9 10 b n lo up σ i0 j0) (fun e _ => (intAt e 10 - lo).toNat) hJ ?_
    clear hJ e s
    rintro e s ⟨i, j, hI, hii, hij⟩
    have hr := hI.r
    have gi := hI.gi
    have gj := hI.gj
    obtain ⟨cs, hc, hl, hw⟩ := hI.h.cs
    obtain ⟨p, hp⟩ := hw.at (j := lo) (by omega) (by omega)
    have cl : 0 ≤ lo ∧ lo < n := by omega
    have w1 : IntKind.i64.wrap (i + 1) = i + 1 := wrap_i64 (by omega) (by omega)
    have w2 : IntKind.i64.wrap (j - 1) = j - 1 := wrap_i64 (by omega) (by omega)
    by_cases hle : i ≤ j
    · have cx : 0 ≤ j ∧ j < n := by omega
      obtain ⟨x, hx⟩ := hw.at (j := j) (by omega) (by omega)
      simp -implicitDefEqProofs
      refine draw (by kernel_rfl) ?_
      simp -implicitDefEqProofs [hI.hl, hI.g0, hI.g1, hI.gi, hI.gj, hle, cx, cl, hc, hp, hx]
      refine (less_spec _ _ _).mono ?_
      rintro r σ' ⟨rfl, rfl⟩
      by_cases hxp : p < x
      · simp -implicitDefEqProofs [hI.hl, hI.gi, hI.gj, w1, w2, hxp]
        first
          | exact hE _ _ ⟨i, j, hI.env (by simp [hI.hl]) (by simp), hii, hij⟩
          | (refine ⟨⟨i, j - 1, ⟨by simp [hI.hl], by simp [hI.g0], by simp [hI.g1], by simp [hI.gi], by simp [hI.hl], hI.h, by omega⟩, hii, by omega⟩, ?_⟩
             simp [intAt, hI.hl, gi, gj]
             omega)
      · simp -implicitDefEqProofs [hI.hl, hI.gi, hI.gj, w1, w2, hxp]
        first
          | exact hE _ _ ⟨i, j, hI.env (by simp [hI.hl]) (by simp), hii, hij⟩
          | (refine ⟨⟨i, j - 1, ⟨by simp [hI.hl], by simp [hI.g0], by simp [hI.g1], by simp [hI.gi], by simp [hI.hl], hI.h, by omega⟩, hii, by omega⟩, ?_⟩
             simp [intAt, hI.hl, gi, gj]
             omega)
    · simp -implicitDefEqProofs
      refine draw (by kernel_rfl) ?_
      simp -implicitDefEqProofs [hI.hl, hI.g0, hI.g1, hI.gi, hI.gj, hle]
      exact hE _ _ ⟨i, j, hI.env (by simp [hI.hl]) (by simp), hii, hij⟩


theorem equal_spec (σ : Sto) (b n : Nat) (hn : n ≤ 1000000) (h : HasW b n σ) (lo up pv : Int) (h0 : 0 ≤ lo) (h1 : up ≤ n) (h2 : lo < up) (hpv : lo ≤ pv ∧ pv < up) :
    ACalls Tryz.prog 65 [.mslice b 0 n 1, i64 lo, i64 up, i64 pv] σ (fun r σ' => (∃ m, r = i64 m ∧ lo < m ∧ m ≤ up) ∧ Sww b n σ σ') := by
  have e1 : IntKind.i64.wrap (lo + 1) = lo + 1 := wrap_i64 (by omega) (by omega)
  have e2 : IntKind.i64.wrap (up - 1) = up - 1 := wrap_i64 (by omega) (by omega)
  have cl : 0 ≤ lo ∧ lo < n := by omega
  have cp : 0 ≤ pv ∧ pv < n := by omega
  obtain ⟨cs, hc, hl, hw⟩ := id h
  obtain ⟨x, hx⟩ := hw.at (j := lo) (by omega) (by omega)
  obtain ⟨y, hy⟩ := hw.at (j := pv) (by omega) (by omega)
  refine ACalls.q fun q hq => fn_of Tab.mixed Tryz.func65 rfl rfl rfl ?_
  simp -implicitDefEqProofs
  refine draw (by kernel_rfl) ?_
  simp -implicitDefEqProofs [cl, cp, hc, hx, hy, e1, e2, -asplice]
  have hlc : lo.toNat < cs.length := by omega
  refine ⟨by omega, by rw [asplice_len hlc]; omega, ?_⟩
  have hS := h.refl.swap hc hl hw (i := lo.toNat) (j := pv.toNat) (x := y) (y := x) (by omega) (by omega)
  refine wpc_loop (PtJ 84 9 10 b n lo up σ (lo + 1) (up - 1)) (fun e _ => (intAt e 10 - intAt e 9 + 2 * n + 2).toNat) ?_ ?_
  · exact ⟨lo + 1, up - 1, ⟨rfl, rfl, rfl, rfl, rfl, hS, by omega⟩, by omega, by omega⟩
  clear hS hc hl hw hx hy
  rintro e s ⟨i, j, hI, hii, hij⟩
  have hmu : (intAt e 10 - intAt e 9 + 2 * n + 2).toNat = (j - i + 2 * n + 2).toNat := by simp [intAt, hI.gi, hI.gj]
  rw [hmu]
  clear hmu
  simp -implicitDefEqProofs
  refine eq_up hn h0 h1 h2 (i0 := i) (j0 := j) ⟨i, j, hI, by omega, by omega⟩ ?_
  intro e s hJ
  simp -implicitDefEqProofs
  refine eq_dn hn h0 h1 h2 (i0 := i) (j0 := j) hJ ?_
  clear hJ e s hI
  rintro e s ⟨i', j', hI, hii', hij'⟩
  have hr := hI.r
  obtain ⟨cs, hc, hl, hw⟩ := hI.h.cs
  by_cases hgt : j' < i'
  · simp -implicitDefEqProofs [hI.hl, hI.gi, hI.gj, hgt]
    exact hq _ _ ⟨⟨i', rfl, by omega, by omega⟩, hI.h⟩
  obtain ⟨y, hy⟩ := hw.at (j := j') (by omega) (by omega)
  have cj : 0 ≤ j' ∧ j' < n := by omega
  have hlc : j'.toNat < cs.length := by omega
  obtain ⟨z, hz⟩ := hw.at (j := i') (by omega) (by omega)
  have ci : 0 ≤ i' ∧ i' < n := by omega
  have hli : i'.toNat < cs.length := by omega
  have w1 : IntKind.i64.wrap (i' + 1) = i' + 1 := wrap_i64 (by omega) (by omega)
  have w2 : IntKind.i64.wrap (j' - 1) = j' - 1 := wrap_i64 (by omega) (by omega)
  simp -implicitDefEqProofs [hI.hl, hI.gi, hI.gj, hgt]
  refine draw (by kernel_rfl) ?_
  simp -implicitDefEqProofs [hI.hl, hI.g0, hI.g1, hI.gi, hI.gj, ci, cj, hc, hz, hy, w1, w2, -asplice]
  have hS := hI.h.swap hc hl hw (i := i'.toNat) (j := j'.toNat) (x := y) (y := z) (by omega) (by omega)
  refine ⟨by omega, by rw [asplice_len hli]; omega, ⟨i' + 1, j' - 1, ⟨by simp [hI.hl], by simp [hI.g0], by simp [hI.g1], by simp [hI.hl], by simp [hI.hl], hS, by omega⟩, by omega, by omega⟩, ?_⟩
  simp [intAt, hI.hl]
  omega

/-! ### a row is turned about -/
structure RevI (b n : Nat) (lo up : Int) (σ : Sto) (e : Env) (s : Sto) (i j : Int) : Prop where
  hl : e.length = 32
  g0 : gt e 0 = .mslice b 0 n 1
  g6 : gt e 6 = i64 i
  g7 : gt e 7 = i64 j
  h : Sww b n σ s
  r : lo ≤ i ∧ j < up ∧ lo - 1 ≤ j ∧ i ≤ up
def RevJ (b n : Nat) (lo up : Int) (σ : Sto) (e : Env) (s : Sto) : Prop := ∃ i j, RevI b n lo up σ e s i j
theorem reverse_spec (σ : Sto) (b n : Nat) (hn : n ≤ 1000000) (h : HasW b n σ) (lo up : Int) (h0 : 0 ≤ lo) (h1 : up ≤ n) (h2 : lo ≤ up) :
    ACalls Tryz.prog 62 [.mslice b 0 n 1, i64 lo, i64 up] σ (fun r σ' => r = .tuple [] ∧ Sww b n σ σ') := by
  have e2 : IntKind.i64.wrap (up - 1) = up - 1 := wrap_i64 (by omega) (by omega)
  refine ACalls.q fun q hq => fn_of Tab.mixed Tryz.func62 rfl rfl rfl ?_
  simp -implicitDefEqProofs [e2]
  refine wpc_loop (RevJ b n lo up σ) (fun e _ => (intAt e 7 - lo + 2).toNat) ?_ ?_
  · exact ⟨lo, up - 1, rfl, rfl, rfl, rfl, h.refl, by omega⟩
  rintro e s ⟨i, j, hI⟩
  have hr := hI.r
  have g7o := hI.g7
  by_cases hlt : i < j
  · have ci : 0 ≤ i ∧ i < n := by omega
    have cj : 0 ≤ j ∧ j < n := by omega
    have w1 : IntKind.i64.wrap (i + 1) = i + 1 := wrap_i64 (by omega) (by omega)
    have w2 : IntKind.i64.wrap (j - 1) = j - 1 := wrap_i64 (by omega) (by omega)
    obtain ⟨cs, hc, hl, hw⟩ := hI.h.cs
    obtain ⟨y, hy⟩ := hw.at (j := j) (by omega) (by omega)
    obtain ⟨z, hz⟩ := hw.at (j := i) (by omega) (by omega)
    have hli : i.toNat < cs.length := by omega
    simp -implicitDefEqProofs [hI.hl, hI.g6, hI.g7, hlt]
    refine draw (by kernel_rfl) ?_
    simp -implicitDefEqProofs [hI.hl, hI.g0, hI.g6, hI.g7, ci, cj, hc, hz, hy, w1, w2, -asplice]
    have hS := hI.h.swap hc hl hw (i := i.toNat) (j := j.toNat) (x := y) (y := z) (by omega) (by omega)
    refine ⟨by omega, by rw [asplice_len hli]; omega, ⟨i + 1, j - 1, ⟨by simp [hI.hl], by simp [hI.g0], by simp [hI.hl], by simp [hI.hl], hS, by omega⟩⟩, ?_⟩
    simp [intAt, hI.hl, g7o]
    omega
  · simp -implicitDefEqProofs [hI.hl, hI.g6, hI.g7, hlt]
    exact hq _ _ ⟨rfl, hI.h⟩

/-! ### the sort by a heap -/
structure HeaI (b n : Nat) (lo up : Int) (σ : Sto) (e : Env) (s : Sto) : Prop where
  hl : e.length = 56
  g0 : gt e 0 = .mslice b 0 n 1
  g6 : gt e 6 = i64 lo
  g7 : gt e 7 = i64 0
  g8 : gt e 8 = i64 (up - lo)
  h : Sww b n σ s
def HeaA (b n : Nat) (lo up : Int) (σ : Sto) (e : Env) (s : Sto) : Prop := ∃ i, HeaI b n lo up σ e s ∧ gt e 9 = i64 i ∧ -1 ≤ i ∧ i ≤ 1000000
def HeaB (b n : Nat) (lo up : Int) (σ : Sto) (e : Env) (s : Sto) : Prop := ∃ i, HeaI b n lo up σ e s ∧ gt e 10 = i64 i ∧ -1 ≤ i ∧ i < up - lo
theorem heap_spec (σ : Sto) (b n : Nat) (hn : n ≤ 1000000) (h : HasW b n σ) (lo up : Int) (h0 : 0 ≤ lo) (h1 : up ≤ n) (h2 : lo < up) :
    ACalls Tryz.prog 59 [.mslice b 0 n 1, i64 lo, i64 up] σ (fun r σ' => r = .tuple [] ∧ Sww b n σ σ') := by
  have e1 : IntKind.i64.wrap (up - lo) = up - lo := wrap_i64 (by omega) (by omega)
  have e2 : IntKind.i64.wrap (up - lo - 1) = up - lo - 1 := wrap_i64 (by omega) (by omega)
  have d : (up - lo - 1).tdiv 2 = (up - lo - 1) / 2 := Int.tdiv_eq_ediv_of_nonneg (by omega)
  have e3 : IntKind.i64.wrap ((up - lo - 1) / 2) = (up - lo - 1) / 2 := wrap_i64 (by omega) (by omega)
  refine ACalls.q fun q hq => fn_of Tab.mixed Tryz.func59 rfl rfl rfl ?_
  simp -implicitDefEqProofs [e1, e2, d, e3]
  refine wpc_loop (HeaA b n lo up σ) (fun e _ => (intAt e 9 + 1).toNat) ?_ ?_
  · exact ⟨(up - lo - 1) / 2, ⟨rfl, rfl, rfl, rfl, rfl, h.refl⟩, rfl, by omega, by omega⟩
  rintro e s ⟨i, hI, g9, i0, i1⟩
  have g9o := g9
  have w1 : IntKind.i64.wrap (i - 1) = i - 1 := wrap_i64 (by omega) (by omega)
  by_cases hge : 0 ≤ i
  · simp -implicitDefEqProofs [hI.hl, hI.g0, hI.g6, hI.g8, g9, hge]
    refine (sift_spec _ b n hn hI.h.cs i (up - lo) lo (by omega) (by omega) (by omega) (by omega) (by omega)).mono ?_
    rintro r s' ⟨rfl, hS⟩
    simp -implicitDefEqProofs [hI.hl, g9, w1]
    refine ⟨⟨i - 1, ⟨by simp [hI.hl], by simp [hI.g0], by simp [hI.g6], by simp [hI.g7], by simp [hI.g8], hI.h.trans hS⟩, by simp [hI.hl], by omega, by omega⟩, ?_⟩
    simp [intAt, hI.hl, g9o]
    omega
  simp -implicitDefEqProofs [hI.hl, g9, hge, hI.g8, e2]
  refine wpc_loop (HeaB b n lo up σ) (fun e _ => (intAt e 10 + 1).toNat) ?_ ?_
  · exact ⟨up - lo - 1, ⟨by simp [hI.hl], by simp [hI.g0], by simp [hI.g6], by simp [hI.g7], by simp [hI.g8], hI.h⟩, by simp [hI.hl], by omega, by omega⟩
  clear hI g9 g9o w1
  rintro e s ⟨i, hI, g9, i0, i1⟩
  have g9o := g9
  have w1 : IntKind.i64.wrap (i - 1) = i - 1 := wrap_i64 (by omega) (by omega)
  have w2 : IntKind.i64.wrap (lo + i) = lo + i := wrap_i64 (by omega) (by omega)
  by_cases hge : 0 ≤ i
  · have ci : 0 ≤ lo + i ∧ lo + i < n := by omega
    have cl : 0 ≤ lo ∧ lo < n := by omega
    obtain ⟨cs, hc, hl, hw⟩ := hI.h.cs
    obtain ⟨y, hy⟩ := hw.at (j := lo + i) (by omega) (by omega)
    obtain ⟨z, hz⟩ := hw.at (j := lo) (by omega) (by omega)
    have hli : lo.toNat < cs.length := by omega
    simp -implicitDefEqProofs [hI.hl, g9, hge]
    refine draw (by kernel_rfl) ?_
    simp -implicitDefEqProofs [hI.hl, hI.g0, hI.g6, hI.g7, g9, ci, cl, hc, hz, hy, w2, -asplice]
    have hS := hI.h.swap hc hl hw (i := lo.toNat) (j := (lo + i).toNat) (x := y) (y := z) (by omega) (by omega)
    refine ⟨by omega, by rw [asplice_len hli]; omega, ?_⟩
    refine (sift_spec _ b n hn hS.cs 0 i lo (by omega) (by omega) (by omega) (by omega) (by omega)).mono ?_
    rintro r s' ⟨rfl, hS2⟩
    simp -implicitDefEqProofs [hI.hl, g9, w1]
    refine ⟨⟨i - 1, ⟨by simp [hI.hl], by simp [hI.g0], by simp [hI.g6], by simp [hI.g7], by simp [hI.g8], hS.trans hS2⟩, by simp [hI.hl], by omega, by omega⟩, ?_⟩
    simp [intAt, hI.hl, g9o]
    omega
  · simp -implicitDefEqProofs [hI.hl, g9, hge]
    exact hq _ _ ⟨rfl, hI.h⟩
end Go.Proofs.YtkbpnnbdfikjhaaGreat
