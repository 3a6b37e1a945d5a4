/- The library's sort at words: a row that is nearly in order. -/
import Derived.Test.YtkbpnnbdfikjhaaGreatK22Part
import Derived.Test.YtkbpnnbdfikjhaaGreatK14ShelfI
import Derived.Shelf.Sort.Walk7aIn
import Derived.Sort.EveryDepth
namespace Go.Proofs.YtkbpnnbdfikjhaaGreat
open Go Go.Aw
set_option linter.unusedVariables false
set_option linter.unusedSimpArgs false
set_option maxRecDepth 10000

structure PaI (b n : Nat) (lo up : Int) (σ : Sto) (e : Env) (s : Sto) (i t : Int) : Prop where
  hl : e.length = 133
  g0 : gt e 0 = .mslice b 0 n 1
  g1 : gt e 1 = i64 lo
  g2 : gt e 2 = i64 up
  g7 : gt e 7 = i64 i
  g8 : gt e 8 = i64 t
  h : Sww b n σ s
  r : (lo + 1 ≤ i ∧ i ≤ up) ∧ 0 ≤ t
theorem PaI.env {b n : Nat} {lo up : Int} {σ : Sto} {e e' : Env} {s s' : Sto} {i t : Int} (h : PaI b n lo up σ e s i t) (hl : e'.length = 133) (hs : ∀ k ∈ [0, 1, 2, 7, 8], gt e' k = gt e k) (hS : Sww b n σ s') : PaI b n lo up σ e' s' i t := by
  simp only [List.mem_cons, List.not_mem_nil, or_false, forall_eq_or_imp, forall_eq] at hs
  exact ⟨hl, hs.1.trans h.g0, hs.2.1.trans h.g1, hs.2.2.1.trans h.g2, hs.2.2.2.1.trans h.g7, hs.2.2.2.2.trans h.g8, hS, h.r⟩
def PaJ (b n : Nat) (lo up : Int) (σ : Sto) (e : Env) (s : Sto) : Prop := ∃ i t, PaI b n lo up σ e s i t ∧ t ≤ 5
def PaT (b n : Nat) (lo up : Int) (σ : Sto) (t : Int) (e : Env) (s : Sto) : Prop := ∃ i, PaI b n lo up σ e s i t

def paDnJ (b n : Nat) (lo up : Int) (σ : Sto) (i t : Int) (e : Env) (s : Sto) : Prop := ∃ j, PaI b n lo up σ e s i t ∧ gt e 9 = i64 j ∧ 0 ≤ j ∧ j < n
theorem paDn {b n : Nat} (hn : n ≤ 1000000) {lo up : Int} (h0 : 0 ≤ lo) (h1 : up ≤ n) {σ : Sto} {i t : Int} {Q : AExit → Env → Sto → Prop} {e : Env} {s : Sto} (hI : PaI b n lo up σ e s i t) (hi : i < up) (hQ : ∀ e s, PaI b n lo up σ e s i t → Q .normal e s) :
    wpc Tryz.prog (cL (cR (cR (cR (cR (cL (cL (cR (cL (cL (cR (cL (cR (cR (codeOf Tryz.f63))))))))))))))) Q e s := by
  have hr := hI.r
  have w1 : IntKind.i64.wrap (i - 1) = i - 1 := wrap_i64 (by omega) (by omega)
  have w2 : IntKind.i64.wrap (i + 1) = i + 1 := wrap_i64 (by omega) (by omega)
  have w3 : IntKind.i64.wrap (i - lo) = i - lo := wrap_i64 (by omega) (by omega)
  have w4 : IntKind.i64.wrap (up - i) = up - i := wrap_i64 (by omega) (by omega)
  refine at_seq (c := (cL (cR (cR (cR (cR (cL (cL (cR (cL (cL (cR (cL (cR (cR (codeOf Tryz.f63)))))))))))))))) rfl ?_
  by_cases hg2 : 2 ≤ i - lo
  · simp -implicitDefEqProofs [hI.hl, hI.g7, hI.g1, hI.g2, w3, w4, hg2, w1]
    refine wpc_loop (paDnJ b n lo up σ i t) (fun e _ => (intAt e 9).toNat) ?_ ?_
    · exact ⟨i - 1, hI.env (by simp [hI.hl]) (by simp) hI.h, by simp [hI.hl], by omega, by omega⟩
    clear hI
    rintro e s ⟨j, hI, g9, hj0, hj1⟩
    have g9o := g9
    have v1 : IntKind.i64.wrap (j - 1) = j - 1 := wrap_i64 (by omega) (by omega)
    have v2 : IntKind.i64.wrap (j + 1) = j + 1 := wrap_i64 (by omega) (by omega)
    by_cases hj : 1 ≤ j
    · obtain ⟨cs, hc, hl, hw⟩ := hI.h.cs
      obtain ⟨x, hx⟩ := hw.at (j := j) (by omega) (by omega)
      obtain ⟨y, hy⟩ := hw.at (j := j - 1) (by omega) (by omega)
      rw [show (j - 1).toNat = j.toNat - 1 by omega] at hy
      have k1 : 0 ≤ j ∧ j < n := by omega
      have k2 : 1 ≤ j ∧ j - 1 < n := by omega
      have hlc : j.toNat < cs.length := by omega
      simp -implicitDefEqProofs [hI.hl, g9, hI.g2, hj]
      refine draw (by kernel_rfl) ?_
      simp -implicitDefEqProofs [hI.hl, hI.g0, g9, v1, k1, k2, hc, hx, hy]
      refine (less_spec _ _ _).mono ?_
      rintro r σ' ⟨rfl, rfl⟩
      by_cases hxy : x < y
      · simp -implicitDefEqProofs [hI.hl, hxy]
        refine draw (by kernel_rfl) ?_
        simp -implicitDefEqProofs [hI.hl, hI.g0, g9, v1, v2, k1, k2, hc, hx, hy, -asplice]
        have hS := hI.h.swap hc hl hw (i := j.toNat) (j := j.toNat - 1) (x := y) (y := x) (by omega) (by omega)
        refine ⟨by omega, by rw [asplice_len hlc]; omega, ⟨j - 1, hI.env (by simp [hI.hl]) (by simp) hS, by simp [hI.hl], by omega, by omega⟩, ?_⟩
        simp [intAt, hI.hl, g9o]
        omega
      · simp -implicitDefEqProofs [hI.hl, hxy]
        exact hQ _ _ (hI.env (by simp [hI.hl]) (by simp) hI.h)
    · simp -implicitDefEqProofs [hI.hl, g9, hI.g2, hj]
      exact hQ _ _ (hI.env (by simp [hI.hl]) (by simp) hI.h)
  · simp -implicitDefEqProofs [hI.hl, hI.g7, hI.g1, hI.g2, w3, w4, hg2]
    exact hQ _ _ (hI.env (by simp [hI.hl]) (by simp) hI.h)

def paUpJ (b n : Nat) (lo up : Int) (σ : Sto) (i t : Int) (e : Env) (s : Sto) : Prop := ∃ j, PaI b n lo up σ e s i t ∧ gt e 10 = i64 j ∧ lo + 1 ≤ j ∧ j ≤ n
theorem paUp {b n : Nat} (hn : n ≤ 1000000) {lo up : Int} (h0 : 0 ≤ lo) (h1 : up ≤ n) {σ : Sto} {i t : Int} {Q : AExit → Env → Sto → Prop} {e : Env} {s : Sto} (hI : PaI b n lo up σ e s i t) (hi : i < up) (hQ : ∀ e s, PaI b n lo up σ e s i t → Q .normal e s) :
    wpc Tryz.prog (cR (cR (cR (cR (cR (cL (cL (cR (cL (cL (cR (cL (cR (cR (codeOf Tryz.f63))))))))))))))) Q e s := by
  have hr := hI.r
  have w1 : IntKind.i64.wrap (i - 1) = i - 1 := wrap_i64 (by omega) (by omega)
  have w2 : IntKind.i64.wrap (i + 1) = i + 1 := wrap_i64 (by omega) (by omega)
  have w3 : IntKind.i64.wrap (i - lo) = i - lo := wrap_i64 (by omega) (by omega)
  have w4 : IntKind.i64.wrap (up - i) = up - i := wrap_i64 (by omega) (by omega)
  refine at_seq (c := (cR (cR (cR (cR (cR (cL (cL (cR (cL (cL (cR (cL (cR (cR (codeOf Tryz.f63)))))))))))))))) rfl ?_
  by_cases hg2 : 2 ≤ up - i
  · simp -implicitDefEqProofs [hI.hl, hI.g7, hI.g1, hI.g2, w3, w4, hg2, w2]
    refine wpc_loop (paUpJ b n lo up σ i t) (fun e _ => (n - intAt e 10).toNat) ?_ ?_
    · exact ⟨i + 1, hI.env (by simp [hI.hl]) (by simp) hI.h, by simp [hI.hl], by omega, by omega⟩
    clear hI
    rintro e s ⟨j, hI, g9, hj0, hj1⟩
    have g9o := g9
    have v1 : IntKind.i64.wrap (j - 1) = j - 1 := wrap_i64 (by omega) (by omega)
    have v2 : IntKind.i64.wrap (j + 1) = j + 1 := wrap_i64 (by omega) (by omega)
    by_cases hj : j < up
    · obtain ⟨cs, hc, hl, hw⟩ := hI.h.cs
      obtain ⟨x, hx⟩ := hw.at (j := j) (by omega) (by omega)
      obtain ⟨y, hy⟩ := hw.at (j := j - 1) (by omega) (by omega)
      rw [show (j - 1).toNat = j.toNat - 1 by omega] at hy
      have k1 : 0 ≤ j ∧ j < n := by omega
      have k2 : 1 ≤ j ∧ j - 1 < n := by omega
      have hlc : j.toNat < cs.length := by omega
      simp -implicitDefEqProofs [hI.hl, g9, hI.g2, hj]
      refine draw (by kernel_rfl) ?_
      simp -implicitDefEqProofs [hI.hl, hI.g0, g9, v1, k1, k2, hc, hx, hy]
      refine (less_spec _ _ _).mono ?_
      rintro r σ' ⟨rfl, rfl⟩
      by_cases hxy : x < y
      · simp -implicitDefEqProofs [hI.hl, hxy]
        refine draw (by kernel_rfl) ?_
        simp -implicitDefEqProofs [hI.hl, hI.g0, g9, v1, v2, k1, k2, hc, hx, hy, -asplice]
        have hS := hI.h.swap hc hl hw (i := j.toNat) (j := j.toNat - 1) (x := y) (y := x) (by omega) (by omega)
        refine ⟨by omega, by rw [asplice_len hlc]; omega, ⟨j + 1, hI.env (by simp [hI.hl]) (by simp) hS, by simp [hI.hl], by omega, by omega⟩, ?_⟩
        simp [intAt, hI.hl, g9o]
        omega
      · simp -implicitDefEqProofs [hI.hl, hxy]
        exact hQ _ _ (hI.env (by simp [hI.hl]) (by simp) hI.h)
    · simp -implicitDefEqProofs [hI.hl, g9, hI.g2, hj]
      exact hQ _ _ (hI.env (by simp [hI.hl]) (by simp) hI.h)
  · simp -implicitDefEqProofs [hI.hl, hI.g7, hI.g1, hI.g2, w3, w4, hg2]
    exact hQ _ _ (hI.env (by simp [hI.hl]) (by simp) hI.h)

set_option maxHeartbeats 800000 in
theorem partial_spec (σ : Sto) (b n : Nat) (hn : n ≤ 1000000) (h : HasW b n σ) (lo up : Int) (h0 : 0 ≤ lo) (h1 : up ≤ n) (h2 : lo < up) :
    ACalls Tryz.prog 63 [.mslice b 0 n 1, i64 lo, i64 up] σ (fun r σ' => (∃ t, r = boo t) ∧ Sww b n σ σ') := by
  have e1 : IntKind.i64.wrap (lo + 1) = lo + 1 := wrap_i64 (by omega) (by omega)
  have e2 : IntKind.i64.wrap (up - lo) = up - lo := wrap_i64 (by omega) (by omega)
  refine ACalls.q fun q hq => fn_of Tab.mixed Tryz.func63 rfl rfl rfl ?_
  simp -implicitDefEqProofs [e1]
  refine wpc_loop (PaJ b n lo up σ) (fun e _ => (6 - intAt e 8).toNat) ?_ ?_
  · exact ⟨lo + 1, 0, ⟨rfl, rfl, rfl, rfl, rfl, rfl, h.refl, by omega⟩, by omega⟩
  rintro e s ⟨i, t, hI, ht⟩
  have g8o : intAt e 8 = t := by simp [intAt, hI.g8]
  rw [g8o]
  have ht0 := hI.r.2
  by_cases h5 : t < 5
  case neg =>
    simp -implicitDefEqProofs [hI.hl, hI.g8, h5]
    exact hq _ _ ⟨⟨_, rfl⟩, hI.h⟩
  refine wpc_cut (PaT b n lo up σ t) ?_ ?_
  · simp -implicitDefEqProofs [hI.hl, hI.g8, h5]
    exact ⟨i, hI.env (by simp [hI.hl]) (by simp) hI.h⟩
  clear hI g8o
  intro e s hT
  refine wpc_cut (PaT b n lo up σ t) ?_ ?_
  case refine_2 =>
    rintro e s ⟨i, hI⟩
    have w : IntKind.i64.wrap (t + 1) = t + 1 := wrap_i64 (by omega) (by omega)
    simp -implicitDefEqProofs [hI.hl, hI.g8, w]
    refine ⟨⟨i, t + 1, ⟨by simp [hI.hl], by simp [hI.g0], by simp [hI.g1], by simp [hI.g2], by simp [hI.g7], by simp [hI.hl], hI.h, ⟨hI.r.1, by omega⟩⟩, by omega⟩, ?_⟩
    simp [intAt, hI.hl]
    omega
  rw [wpc_block]
  refine wpc_cut (PaT b n lo up σ t) ?_ ?_
  · rw [wpc_block]
    refine wpc_loop (PaT b n lo up σ t) (fun e _ => (up - intAt e 7).toNat) hT ?_
    clear hT e s
    rintro e s ⟨i, hI⟩
    have hr := hI.r
    have g7o := hI.g7
    have w1 : IntKind.i64.wrap (i - 1) = i - 1 := wrap_i64 (by omega) (by omega)
    have w2 : IntKind.i64.wrap (i + 1) = i + 1 := wrap_i64 (by omega) (by omega)
    by_cases hlt : i < up
    · obtain ⟨cs, hc, hl, hw⟩ := hI.h.cs
      obtain ⟨x, hx⟩ := hw.at (j := i) (by omega) (by omega)
      obtain ⟨y, hy⟩ := hw.at (j := i - 1) (by omega) (by omega)
      rw [show (i - 1).toNat = i.toNat - 1 by omega] at hy
      have k1 : 0 ≤ i ∧ i < n := by omega
      have k2 : 1 ≤ i ∧ i - 1 < n := by omega
      simp -implicitDefEqProofs
      refine draw (by kernel_rfl) ?_
      simp -implicitDefEqProofs [hI.hl, hI.g0, hI.g2, hI.g7, hlt, w1, k1, k2, hc, hx, hy]
      refine (less_spec _ _ _).mono ?_
      rintro r σ' ⟨rfl, rfl⟩
      by_cases hxy : x < y
      · simp -implicitDefEqProofs [hI.hl, hI.g7, hxy]
        exact ⟨i, hI.env (by simp [hI.hl]) (by simp) hI.h⟩
      · simp -implicitDefEqProofs [hI.hl, hI.g7, hxy, w2]
        refine ⟨⟨i + 1, ⟨by simp [hI.hl], by simp [hI.g0], by simp [hI.g1], by simp [hI.g2], by simp [hI.hl], by simp [hI.g8], hI.h, by omega⟩⟩, ?_⟩
        simp [intAt, hI.hl, g7o]
        omega
    · simp -implicitDefEqProofs
      refine draw (by kernel_rfl) ?_
      simp -implicitDefEqProofs [hI.hl, hI.g0, hI.g2, hI.g7, hlt]
      exact ⟨i, hI.env (by simp [hI.hl]) (by simp) hI.h⟩
  clear hT e s
  rintro e s ⟨i, hI⟩
  have hr := hI.r
  refine wpc_cut (fun e s => PaI b n lo up σ e s i t ∧ i < up) ?_ ?_
  · by_cases hiu : i = up
    · simp -implicitDefEqProofs [hI.hl, hI.g7, hI.g2, hiu]
      exact hq _ _ ⟨⟨_, rfl⟩, hI.h⟩
    · simp -implicitDefEqProofs [hI.hl, hI.g7, hI.g2, hiu]
      exact ⟨hI.env (by simp [hI.hl]) (by simp) hI.h, by omega⟩
  clear hI
  rintro e s ⟨hI, hiu⟩
  refine wpc_cut (fun e s => PaI b n lo up σ e s i t) ?_ ?_
  · by_cases h50 : up - lo < 50
    · simp -implicitDefEqProofs [hI.hl, hI.g7, hI.g1, hI.g2, e2, h50]
      exact hq _ _ ⟨⟨_, rfl⟩, hI.h⟩
    · simp -implicitDefEqProofs [hI.hl, hI.g7, hI.g1, hI.g2, e2, h50]
      exact hI.env (by simp [hI.hl]) (by simp) hI.h
  clear hI
  intro e s hI
  refine wpc_cut (fun e s => PaI b n lo up σ e s i t) ?_ ?_
  · have w1 : IntKind.i64.wrap (i - 1) = i - 1 := wrap_i64 (by omega) (by omega)
    obtain ⟨cs, hc, hl, hw⟩ := hI.h.cs
    obtain ⟨x, hx⟩ := hw.at (j := i) (by omega) (by omega)
    obtain ⟨y, hy⟩ := hw.at (j := i - 1) (by omega) (by omega)
    rw [show (i - 1).toNat = i.toNat - 1 by omega] at hy
    have k1 : 0 ≤ i ∧ i < n := by omega
    have k2 : 1 ≤ i ∧ i - 1 < n := by omega
    have hlc : i.toNat < cs.length := by omega
    simp -implicitDefEqProofs
    refine draw (by kernel_rfl) ?_
    simp -implicitDefEqProofs [hI.hl, hI.g0, hI.g7, w1, k1, k2, hc, hx, hy, -asplice]
    have hS := hI.h.swap hc hl hw (i := i.toNat) (j := i.toNat - 1) (x := y) (y := x) (by omega) (by omega)
    exact ⟨by omega, by rw [asplice_len hlc]; omega, hI.env (by simp [hI.hl]) (by simp) hS⟩
  clear hI
  intro e s hI
  refine wpc_cut (fun e s => PaI b n lo up σ e s i t) (paDn hn h0 h1 hI hiu (fun _ _ h => h)) ?_
  clear hI
  intro e s hI
  exact paUp hn h0 h1 hI hiu (fun _ _ h => ⟨i, h⟩)
end Go.Proofs.YtkbpnnbdfikjhaaGreat

/- The library's sort at words: two contracts of the shelf, laid at this program. -/
namespace Go.Proofs
open Go.Shelf
def Tryz.lays329_ren : Go.Shelf.Ren := ⟨fun | 125 => 49 | 128 => 67 | 129 => 68 | 329 => 82 | n => n, fun | 3 => 3 | 4 => 4 | 5 => 5 | 9 => 9 | 46 => 131 | 51 => 161 | 53 => 22 | n => n, fun | n => n⟩
theorem Tryz.lays329 : Go.Proofs.Lays.n329 Tryz.prog Tryz.lays329_ren := {
  mixed := by kernel_rfl
  f125 := Tryz.func49.trans (congrArg some (by kernel_rfl))
  f128 := Tryz.func67.trans (congrArg some (by kernel_rfl))
  f129 := Tryz.func68.trans (congrArg some (by kernel_rfl))
  f329 := Tryz.func82.trans (congrArg some (by kernel_rfl))
  t3 := Tryz.underlying3
  a3 := Tryz.isAgg3
  z3 := Tryz.sizeOf3
  v3 := Tryz.zeroValue3
  t4 := Tryz.underlying4
  a4 := Tryz.isAgg4
  z4 := Tryz.sizeOf4
  v4 := Tryz.zeroValue4
  t5 := Tryz.underlying5
  a5 := Tryz.isAgg5
  z5 := Tryz.sizeOf5
  v5 := Tryz.zeroValue5
  t9 := Tryz.underlying9
  a9 := Tryz.isAgg9
  z9 := Tryz.sizeOf9
  v9 := Tryz.zeroValue9
  t46 := Tryz.underlying131
  a46 := Tryz.isAgg131
  z46 := Tryz.sizeOf131
  v46 := Tryz.zeroValue131
  t51 := Tryz.underlying161
  a51 := Tryz.isAgg161
  z51 := Tryz.sizeOf161
  v51 := Tryz.zeroValue161
  t53 := Tryz.underlying22
  a53 := Tryz.isAgg22
  z53 := Tryz.sizeOf22
  v53 := Tryz.zeroValue22 }
def Tryz.lays330_ren : Go.Shelf.Ren := ⟨fun | 330 => 83 | n => n, fun | 0 => 0 | 46 => 131 | 53 => 22 | 218 => 175 | 228 => 184 | n => n, fun | n => n⟩
theorem Tryz.lays330 : Go.Proofs.Lays.n330 Tryz.prog Tryz.lays330_ren := {
  mixed := by kernel_rfl
  f330 := Tryz.func83.trans (congrArg some (by kernel_rfl))
  t0 := Tryz.underlying0
  a0 := Tryz.isAgg0
  z0 := Tryz.sizeOf0
  v0 := Tryz.zeroValue0
  t46 := Tryz.underlying131
  a46 := Tryz.isAgg131
  z46 := Tryz.sizeOf131
  v46 := Tryz.zeroValue131
  t53 := Tryz.underlying22
  a53 := Tryz.isAgg22
  z53 := Tryz.sizeOf22
  v53 := Tryz.zeroValue22
  t218 := Tryz.underlying175
  a218 := Tryz.isAgg175
  z218 := Tryz.sizeOf175
  v218 := Tryz.zeroValue175
  t228 := Tryz.underlying184
  a228 := Tryz.isAgg184
  z228 := Tryz.sizeOf184
  v228 := Tryz.zeroValue184 }
end Go.Proofs
namespace Go.Proofs.YtkbpnnbdfikjhaaGreat
open Go Go.Aw
set_option linter.unusedVariables false
set_option linter.unusedSimpArgs false

/-- the next of a row of numbers -/
theorem next_spec (σ : Sto) (rb : Nat) (X : Int) (hX : σ rb = some (.cells [u X])) (h0 : 0 ≤ X ∧ X < 18446744073709551616) :
    ACalls Tryz.prog 83 [.ptr rb 0] σ (fun r σ' => ∃ Y, (0 ≤ Y ∧ Y < 18446744073709551616) ∧ r = u Y ∧ σ' = σ.set rb (.cells [u Y])) := by
  intro w vs hs hr
  obtain ⟨vx, rfl, rx⟩ := one_arg hr rfl
  cases rx
  obtain ⟨arr, ty, hh, hl, hrel⟩ := hs.cells rb _ hX
  have hl' : 1 ≤ arr.size := hl
  have hv0 : arr[0]? = some (.int .u64 X) := by
    have h1 : arr[0]? = some arr[0] := by simp
    have := hrel 0 (u X) arr[0] rfl h1
    rw [h1]
    generalize arr[0] = v at this
    cases this; rfl
  obtain ⟨Xn, hXn⟩ : ∃ Xn : Nat, (Xn : Int) = X := ⟨X.toNat, by omega⟩
  have hcall := calls_of_every_depth fun D => Go.Proofs.AnyS.xorshift_NextIn Tryz.lays330 D rb 0 Xn (by omega) w (by simp [World.cell?, hh, hv0, hXn]) (by simp [World.frozen?, hh])
  refine Calls.mono hcall ?_
  rintro e w' ⟨rfl, rfl⟩
  rw [setCell_row hh]
  have hY : (0 : Int) ≤ (Go.Sort.xorNextN Xn : Nat) ∧ ((Go.Sort.xorNextN Xn : Nat) : Int) < 18446744073709551616 := by
    refine ⟨by omega, ?_⟩
    have : Go.Sort.xorNextN Xn < 2 ^ 64 := by
      unfold Go.Sort.xorNextN
      simp only
      have hx : Xn < 2 ^ 64 := by omega
      have a1 : Xn ^^^ (Xn * 8192 % 18446744073709551616) < 2 ^ 64 := Nat.xor_lt_two_pow hx (by omega)
      have a2 : (Xn ^^^ (Xn * 8192 % 18446744073709551616)) ^^^ ((Xn ^^^ (Xn * 8192 % 18446744073709551616)) / 128) < 2 ^ 64 := Nat.xor_lt_two_pow a1 (Nat.lt_of_le_of_lt (Nat.div_le_self _ _) a1)
      exact Nat.xor_lt_two_pow a2 (by omega)
    omega
  generalize ((Go.Sort.xorNextN Xn : Nat) : Int) = Y at *
  have hS := St.row hs hX hh (vs' := arr.setIfInBounds 0 (.int .u64 Y)) (by simp) (cs' := [u Y]) ⟨by simpa using hl', fun j c v hc hv => by
    match j, hc with
    | 0, hc =>
      simp at hc; subst hc
      simp only [Array.getElem?_setIfInBounds, if_pos (show 0 < arr.size by omega), if_true, Option.some.injEq] at hv
      subst hv; exact .sc _
    | j + 1, hc => simp at hc⟩
  have hx := ext_row hs (cs' := [u Y]) hX hh (vs' := arr.setIfInBounds 0 (.int .u64 Y)) (by simp)
  exact ⟨_, u Y, σ.set rb (.cells [u Y]), rfl, ⟨Y, hY, rfl, rfl⟩, hS.drew.drew.drew, .sc _, hx.size, hx.keep, hx.top, hx.shape, hx.same⟩

theorem pow_spec (σ : Sto) (k : Int) (hk : 1 ≤ k ∧ k ≤ 1000000) :
    ACalls Tryz.prog 82 [i64 k] σ (fun r σ' => (∃ m : Nat, r = u ((2 ^ m : Nat) : Int) ∧ (2 ^ m : Nat) ≤ 2 * k ∧ m ≤ 20) ∧ σ' = σ) := by
  intro w vs hs hr
  obtain ⟨vx, rfl, rx⟩ := one_arg hr rfl
  cases rx
  obtain ⟨n, rfl⟩ : ∃ n : Nat, (n : Int) = k := ⟨k.toNat, by omega⟩
  have hcall := calls_of_every_depth fun D => Go.Proofs.AnyS.nextPowerOfTwoIn Tryz.lays329 D n (by omega) w
  refine Calls.mono hcall ?_
  rintro e w' ⟨rfl, rfl⟩
  have hm : Go.Sort.bitsLen n ≤ 20 := (Go.Sort.bitsLen_le_iff n 20).2 (by omega)
  have hle : 2 ^ Go.Sort.bitsLen n ≤ 2 * n := by
    have h1 : ¬ n < 2 ^ (Go.Sort.bitsLen n - 1) := fun h => by
      have := (Go.Sort.bitsLen_le_iff n (Go.Sort.bitsLen n - 1)).2 h
      have h2 : Go.Sort.bitsLen n = 0 := by omega
      rw [h2] at h
      simp at h; omega
    cases hb : Go.Sort.bitsLen n with
    | zero => simp; omega
    | succ m =>
      rw [hb] at h1
      simp only [Nat.add_sub_cancel] at h1
      rw [Nat.pow_succ]; omega
  refine ⟨_, u ((2 ^ Go.Sort.bitsLen n : Nat) : Int), σ, rfl, ⟨⟨_, rfl, by exact_mod_cast hle, hm⟩, rfl⟩, hs, ?_, Ext.refl σ _⟩
  rw [Nat.one_shiftLeft]
  exact .sc _
theorem len_spec (σ : Sto) (k : Int) (hk : 0 ≤ k ∧ k ≤ 1000000) :
    ACalls Tryz.prog 49 [u k] σ (fun r σ' => (∃ m : Int, r = i64 m ∧ 0 ≤ m ∧ m ≤ 64) ∧ σ' = σ) := by
  intro w vs hs hr
  obtain ⟨vx, rfl, rx⟩ := one_arg hr rfl
  cases rx
  have hcall := calls_of_every_depth fun D => Go.Proofs.AnyS.bits_LenIn { Tryz.lays329 with } D k w (by omega) (by omega)
  refine Calls.mono hcall ?_
  rintro e w' ⟨rfl, rfl⟩
  have hb : Lib.bitLen k.toNat ≤ 64 := by
    rw [Go.Proofs.bitLen_eq _ (by omega)]
    exact (Go.Sort.bitsLen_le_iff _ 64).2 (by omega)
  exact ⟨_, i64 _, σ, rfl, ⟨⟨_, rfl, by omega, by omega⟩, rfl⟩, hs, .sc _, Ext.refl σ _⟩
end Go.Proofs.YtkbpnnbdfikjhaaGreat

/- The library's sort at words: a row is shaken; the whole sort. -/
namespace Go.Proofs.YtkbpnnbdfikjhaaGreat
open Go Go.Aw
set_option linter.unusedVariables false
set_option linter.unusedSimpArgs false
set_option maxRecDepth 10000

theorem wand {a b : Int} (hb : 0 ≤ b ∧ b < 18446744073709551616) : 0 ≤ IntKind.u64.wrap (((a % 2 ^ IntKind.u64.bits).toNat &&& (b % 2 ^ IntKind.u64.bits).toNat : Nat) : Int) ∧ IntKind.u64.wrap (((a % 2 ^ IntKind.u64.bits).toNat &&& (b % 2 ^ IntKind.u64.bits).toNat : Nat) : Int) ≤ b := by
  have h1 : ((a % 2 ^ IntKind.u64.bits).toNat &&& (b % 2 ^ IntKind.u64.bits).toNat) ≤ b.toNat := by
    refine Nat.le_trans Nat.and_le_right ?_
    simp only [IntKind.bits]
    rw [Int.emod_eq_of_lt hb.1 (by omega)]
    exact Nat.le_refl _
  generalize ((a % 2 ^ IntKind.u64.bits).toNat &&& (b % 2 ^ IntKind.u64.bits).toNat) = z at *
  rw [wrap_u64 (by omega) (by omega)]
  omega

structure BrkI (b n rb : Nat) (lo up : Int) (m : Nat) (σ : Sto) (e : Env) (s : Sto) (i : Int) : Prop where
  hl : e.length = 65
  g0 : gt e 0 = .mslice b 0 n 1
  g1 : gt e 1 = i64 lo
  g6 : gt e 6 = i64 (up - lo)
  g7 : gt e 7 = .ptr rb 0
  g8 : gt e 8 = u ((2 ^ m : Nat) : Int)
  g9 : gt e 9 = i64 i
  h : Sww b n σ s
  x : ∃ X, s rb = some (.cells [u X]) ∧ 0 ≤ X ∧ X < 18446744073709551616
def BrkJ (b n rb : Nat) (lo up : Int) (m : Nat) (σ : Sto) (e : Env) (s : Sto) : Prop := ∃ i, BrkI b n rb lo up m σ e s i ∧ lo + (up - lo) / 4 * 2 - 1 ≤ i ∧ i ≤ lo + (up - lo) / 4 * 2 + 2
theorem break_spec (σ : Sto) (b n : Nat) (hn : n ≤ 1000000) (h : HasW b n σ) (lo up : Int) (h0 : 0 ≤ lo) (h1 : up ≤ n) (h2 : lo + 12 < up) :
    ACalls Tryz.prog 60 [.mslice b 0 n 1, i64 lo, i64 up] σ (fun r σ' => r = .tuple [] ∧ Sww b n σ σ') := by
  have e1 : IntKind.i64.wrap (up - lo) = up - lo := wrap_i64 (by omega) (by omega)
  have e2 : IntKind.u64.wrap (up - lo) = up - lo := wrap_u64 (by omega) (by omega)
  have g8 : (8 : Int) ≤ up - lo := by omega
  have d : (up - lo).tdiv 4 = (up - lo) / 4 := Int.tdiv_eq_ediv_of_nonneg (by omega)
  have e3 : IntKind.i64.wrap ((up - lo) / 4) = (up - lo) / 4 := wrap_i64 (by omega) (by omega)
  have e4 : IntKind.i64.wrap ((up - lo) / 4 * 2) = (up - lo) / 4 * 2 := wrap_i64 (by omega) (by omega)
  have e5 : IntKind.i64.wrap (lo + (up - lo) / 4 * 2) = lo + (up - lo) / 4 * 2 := wrap_i64 (by omega) (by omega)
  have e6 : IntKind.i64.wrap (lo + (up - lo) / 4 * 2 - 1) = lo + (up - lo) / 4 * 2 - 1 := wrap_i64 (by omega) (by omega)
  have e7 : IntKind.i64.wrap (lo + (up - lo) / 4 * 2 + 1) = lo + (up - lo) / 4 * 2 + 1 := wrap_i64 (by omega) (by omega)
  refine ACalls.q fun q hq => fn_of Tab.mixed Tryz.func60 rfl rfl rfl ?_
  simp -implicitDefEqProofs [e1, g8, e2]
  refine alloc fun rb hrb => ?_
  have hne : rb ≠ b := fun e => by obtain ⟨cs, hc, -⟩ := h; rw [e, hc] at hrb; cases hrb
  simp -implicitDefEqProofs
  refine (pow_spec _ (up - lo) ⟨by omega, by omega⟩).mono ?_
  rintro r s1 ⟨⟨m, rfl, hm, hm2⟩, rfl⟩
  simp -implicitDefEqProofs [d, e3, e4, e5, e6]
  refine wpc_loop (BrkJ b n rb lo up m σ) (fun e _ => (lo + (up - lo) / 4 * 2 + 3 - intAt e 9).toNat) ?_ ?_
  · refine ⟨lo + (up - lo) / 4 * 2 - 1, ⟨rfl, rfl, rfl, rfl, rfl, rfl, rfl, ⟨h.set hne, fun y o hy ho => ?_⟩, up - lo, by simp [Sto.set], by omega, by omega⟩, by omega, by omega⟩
    rw [set_ne (ne_of ho hrb)]; exact ho
  rintro e s ⟨i, hI, i0, i1⟩
  have g9o : intAt e 9 = i := by simp [intAt, hI.g9]
  rw [g9o]
  by_cases hle : i ≤ lo + (up - lo) / 4 * 2 + 1
  case neg =>
    simp -implicitDefEqProofs [hI.hl, hI.g1, hI.g6, hI.g9, d, e3, e4, e5, e7, hle]
    exact hq _ _ ⟨rfl, hI.h⟩
  obtain ⟨X, hX, hX2⟩ := hI.x
  simp -implicitDefEqProofs [hI.hl, hI.g1, hI.g6, hI.g9, d, e3, e4, e5, e7, hle, hI.g7]
  refine (next_spec _ rb X hX hX2).mono ?_
  rintro r s2 ⟨Y, hY, rfl, rfl⟩
  have hp : (1 : Int) ≤ ((2 ^ m : Nat) : Int) := by
    have := Nat.one_le_two_pow (n := m)
    omega
  obtain ⟨p, hp2⟩ : ∃ p : Int, ((2 ^ m : Nat) : Int) = p := ⟨_, rfl⟩
  have g8' := hI.g8
  rw [hp2] at g8' hp hm
  have w1 : IntKind.u64.wrap (p - 1) = p - 1 := wrap_u64 (by omega) (by omega)
  have hz := wand (a := Y) (b := p - 1) (by omega)
  obtain ⟨z, hzz⟩ : ∃ z, z = IntKind.u64.wrap (((Y % 2 ^ IntKind.u64.bits).toNat &&& ((p - 1) % 2 ^ IntKind.u64.bits).toNat : Nat) : Int) := ⟨_, rfl⟩
  rw [← hzz] at hz
  have w2 : IntKind.i64.wrap z = z := wrap_i64 (by omega) (by omega)
  have w3 : IntKind.i64.wrap (z - (up - lo)) = z - (up - lo) := wrap_i64 (by omega) (by omega)
  have w5 : IntKind.i64.wrap (i + 1) = i + 1 := wrap_i64 (by omega) (by omega)
  have hI' : Sww b n σ (s.set rb (.cells [u Y])) := ⟨HasW.set hI.h.cs hne, fun y o hy ho => by
    have hyr : y ≠ rb := ne_of ho hrb
    rw [set_ne hyr]; exact hI.h.out y o hy ho⟩
  have hrb' : (s.set rb (.cells [u Y])) rb = some (.cells [u Y]) := by simp [Sto.set]
  generalize s.set rb (.cells [u Y]) = s' at *
  obtain ⟨cs, hc, hl, hw⟩ := hI'.cs
  obtain ⟨x, hx⟩ := hw.at (j := i) (by omega) (by omega)
  have ci : 0 ≤ i ∧ i < n := by omega
  have hlc : i.toNat < cs.length := by omega
  have go : ∀ k : Int, 0 ≤ k → k < up - lo → IntKind.i64.wrap (lo + k) = lo + k ∧ (0 ≤ lo + k ∧ lo + k < n) ∧ ∃ y, cs[(lo + k).toNat]? = some (u y) := fun k k0 k1 => ⟨wrap_i64 (by omega) (by omega), by omega, hw.at (by omega) (by omega)⟩
  by_cases hge : up - lo ≤ z
  · obtain ⟨w4, cy, y, hy⟩ := go (z - (up - lo)) (by omega) (by omega)
    simp -implicitDefEqProofs [hI.hl, g8', w1, ← hzz, w2, hI.g6, hge, w3]
    refine draw (by kernel_rfl) ?_
    simp -implicitDefEqProofs [hI.hl, hI.g0, hI.g1, hI.g9, ci, w4, cy, hc, hx, hy, w5, -asplice]
    have hS := hI'.swap hc hl hw (i := i.toNat) (j := (lo + (z - (up - lo))).toNat) (x := y) (y := x) (by omega) (by omega)
    refine ⟨by omega, by rw [asplice_len hlc]; omega, ⟨i + 1, ⟨by simp [hI.hl], by simp [hI.g0], by simp [hI.g1], by simp [hI.g6], by simp [hI.g7], by simp [hI.g8], by simp [hI.hl], hS, Y, by rw [set_ne hne]; exact hrb', hY.1, hY.2⟩, by omega, by omega⟩, ?_⟩
    simp [intAt, hI.hl]
    omega
  · obtain ⟨w4, cy, y, hy⟩ := go z (by omega) (by omega)
    simp -implicitDefEqProofs [hI.hl, g8', w1, ← hzz, w2, hI.g6, hge]
    refine draw (by kernel_rfl) ?_
    simp -implicitDefEqProofs [hI.hl, hI.g0, hI.g1, hI.g9, ci, w4, cy, hc, hx, hy, w5, -asplice]
    have hS := hI'.swap hc hl hw (i := i.toNat) (j := (lo + z).toNat) (x := y) (y := x) (by omega) (by omega)
    refine ⟨by omega, by rw [asplice_len hlc]; omega, ⟨i + 1, ⟨by simp [hI.hl], by simp [hI.g0], by simp [hI.g1], by simp [hI.g6], by simp [hI.g7], by simp [hI.g8], by simp [hI.hl], hS, Y, by rw [set_ne hne]; exact hrb', hY.1, hY.2⟩, by omega, by omega⟩, ?_⟩
    simp [intAt, hI.hl]
    omega
end Go.Proofs.YtkbpnnbdfikjhaaGreat

/- The library's sort at words: the whole. -/
namespace Go.Proofs.YtkbpnnbdfikjhaaGreat
open Go Go.Aw
set_option linter.unusedVariables false
set_option linter.unusedSimpArgs false
set_option maxRecDepth 10000

structure PdI (b n : Nat) (m : Nat) (σ : Sto) (e : Env) (s : Sto) (lo up lim : Int) : Prop where
  hl : e.length = 134
  g0 : gt e 0 = .mslice b 0 n 1
  g1 : gt e 1 = i64 lo
  g2 : gt e 2 = i64 up
  g3 : gt e 3 = i64 lim
  g8 : ∃ t, gt e 8 = boo t
  g9 : ∃ t, gt e 9 = boo t
  h : Sww b n σ s
  r : (0 ≤ lo ∧ lo ≤ up ∧ up ≤ n) ∧ up - lo ≤ m ∧ (0 ≤ lim ∧ lim ≤ 64)
def PdJ (b n : Nat) (m : Nat) (σ : Sto) (e : Env) (s : Sto) : Prop := ∃ lo up lim, PdI b n m σ e s lo up lim
/-- amid a round -/
def PdE (b n : Nat) (m : Nat) (σ : Sto) (lo up lim : Int) (e : Env) (s : Sto) : Prop := PdI b n m σ e s lo up lim ∧ gt e 10 = i64 (up - lo) ∧ 12 < up - lo
def PdA (b n : Nat) (m : Nat) (σ : Sto) (lo up : Int) (e : Env) (s : Sto) : Prop := ∃ lim, PdI b n m σ e s lo up lim ∧ gt e 10 = i64 (up - lo) ∧ 12 < up - lo
def PdB (b n : Nat) (m : Nat) (σ : Sto) (lo up : Int) (e : Env) (s : Sto) : Prop := ∃ lim p q, PdI b n m σ e s lo up lim ∧ gt e 10 = i64 (up - lo) ∧ 12 < up - lo ∧ gt e 11 = i64 p ∧ (lo ≤ p ∧ p < up) ∧ gt e 12 = i64 q
def PdC (b n : Nat) (m : Nat) (σ : Sto) (lo up : Int) (e : Env) (s : Sto) : Prop := ∃ lim p, PdI b n m σ e s lo up lim ∧ gt e 10 = i64 (up - lo) ∧ 12 < up - lo ∧ gt e 14 = i64 p ∧ (lo ≤ p ∧ p < up) ∧ ∃ t, gt e 15 = boo t
theorem PdI.env {b n m : Nat} {σ : Sto} {e e' : Env} {s s' : Sto} {lo up lim : Int} (h : PdI b n m σ e s lo up lim) (hl : e'.length = 134) (hs : ∀ k ∈ [0, 1, 2, 3, 8, 9], gt e' k = gt e k) (hS : Sww b n σ s') : PdI b n m σ e' s' lo up lim := by
  simp only [List.mem_cons, List.not_mem_nil, or_false, forall_eq_or_imp, forall_eq] at hs
  obtain ⟨a0, a1, a2, a3, a8, a9⟩ := hs
  obtain ⟨t8, h8⟩ := h.g8
  obtain ⟨t9, h9⟩ := h.g9
  exact ⟨hl, a0.trans h.g0, a1.trans h.g1, a2.trans h.g2, a3.trans h.g3, ⟨t8, a8.trans h8⟩, ⟨t9, a9.trans h9⟩, hS, h.r⟩

set_option maxHeartbeats 1000000 in
theorem pdq_spec (b n : Nat) (hn : n ≤ 1000000) : ∀ (m : Nat) (σ : Sto) (h : HasW b n σ) (lo up lim : Int) (h0 : 0 ≤ lo ∧ lo ≤ up ∧ up ≤ n) (hm : up - lo ≤ m) (hlim : 0 ≤ lim ∧ lim ≤ 64),
    ACalls Tryz.prog 48 [.mslice b 0 n 1, i64 lo, i64 up, i64 lim] σ (fun r σ' => r = .tuple [] ∧ Sww b n σ σ') := by
  intro m
  induction m using Nat.strongRecOn with
  | _ m ih =>
  intro σ h lo0 up0 lim0 h0 hm hlim
  refine ACalls.q fun q hq => fn_of Tab.mixed Tryz.func48 rfl rfl rfl ?_
  simp -implicitDefEqProofs
  refine wpc_loop (PdJ b n m σ) (fun e _ => (intAt e 2 - intAt e 1).toNat) ?_ ?_
  · exact ⟨lo0, up0, lim0, rfl, rfl, rfl, rfl, rfl, ⟨true, rfl⟩, ⟨true, rfl⟩, h.refl, ⟨h0, hm, hlim⟩⟩
  rintro e s ⟨lo, up, lim, hI⟩
  have hmu : (intAt e 2 - intAt e 1).toNat = (up - lo).toNat := by simp [intAt, hI.g1, hI.g2]
  rw [hmu]
  clear hmu h0 hm hlim h
  obtain ⟨⟨r0, r1, r2⟩, r3, -⟩ := hI.r
  have e1 : IntKind.i64.wrap (up - lo) = up - lo := wrap_i64 (by omega) (by omega)
  rw [wpc_block]
  refine wpc_cut (fun e s => PdI b n m σ e s lo up lim ∧ gt e 10 = i64 (up - lo)) ?_ ?_
  · simp -implicitDefEqProofs [hI.hl, hI.g1, hI.g2, e1]
    exact hI.env (by simp [hI.hl]) (by simp) hI.h
  clear hI
  rintro e s ⟨hI, g10⟩
  refine wpc_cut (PdE b n m σ lo up lim) ?_ ?_
  · by_cases h12 : up - lo ≤ 12
    · simp -implicitDefEqProofs [hI.hl, g10, h12, hI.g0, hI.g1, hI.g2]
      refine (insertion_spec _ b n hn hI.h.cs lo up ⟨r0, r1⟩ r2).mono ?_
      rintro r s' ⟨rfl, hS⟩
      simp -implicitDefEqProofs
      exact hq _ _ ⟨rfl, hI.h.trans hS⟩
    · simp -implicitDefEqProofs [hI.hl, g10, h12]
      exact ⟨hI.env (by simp [hI.hl]) (by simp) hI.h, by simp [g10], by omega⟩
  clear hI g10
  rintro e s ⟨hI, g10, h12⟩
  have hlim := hI.r.2.2
  refine wpc_cut (fun e s => PdI b n m σ e s lo up lim ∧ gt e 10 = i64 (up - lo) ∧ lim ≠ 0) ?_ ?_
  · by_cases hz : lim = 0
    · simp -implicitDefEqProofs [hI.hl, hI.g3, hz, hI.g0, hI.g1, hI.g2]
      refine (heap_spec _ b n hn hI.h.cs lo up r0 r2 (by omega)).mono ?_
      rintro r s' ⟨rfl, hS⟩
      simp -implicitDefEqProofs
      exact hq _ _ ⟨rfl, hI.h.trans hS⟩
    · simp -implicitDefEqProofs [hI.hl, hI.g3, hz]
      exact ⟨hI.env (by simp [hI.hl]) (by simp) hI.h, by simp [g10]⟩
  clear hI g10
  rintro e s ⟨hI, g10, hz⟩
  refine wpc_cut (PdA b n m σ lo up) ?_ ?_
  · obtain ⟨t, g8⟩ := hI.g8
    obtain ⟨t9, g9⟩ := hI.g9
    cases t
    · have w : IntKind.i64.wrap (lim - 1) = lim - 1 := wrap_i64 (by omega) (by omega)
      simp -implicitDefEqProofs [hI.hl, g8, hI.g0, hI.g1, hI.g2]
      refine (break_spec _ b n hn hI.h.cs lo up r0 r2 (by omega)).mono ?_
      rintro r s' ⟨rfl, hS⟩
      simp -implicitDefEqProofs [hI.hl, hI.g3, w]
      exact ⟨lim - 1, ⟨by simp [hI.hl], by simp [hI.g0], by simp [hI.g1], by simp [hI.g2], by simp [hI.hl], ⟨false, by simp [g8]⟩, ⟨t9, by simp [g9]⟩, hI.h.trans hS, ⟨hI.r.1, hI.r.2.1, by omega⟩⟩, by simp [g10], h12⟩
    · simp -implicitDefEqProofs [hI.hl, g8]
      exact ⟨lim, hI.env (by simp [hI.hl]) (by simp) hI.h, by simp [g10], h12⟩
  clear hI g10 hz hlim lim
  rintro e s ⟨lim, hI, g10, -⟩
  refine wpc_cut (PdB b n m σ lo up) ?_ ?_
  · simp -implicitDefEqProofs [hI.hl, hI.g0, hI.g1, hI.g2]
    refine (pivot_spec _ b n hn hI.h.cs lo up r0 r2 (by omega)).mono ?_
    rintro r s' ⟨⟨p, q', rfl, hp⟩, hS⟩
    simp -implicitDefEqProofs [hI.hl]
    exact ⟨lim, p, q', hI.env (by simp [hI.hl]) (by simp) ⟨by obtain ⟨cs, hc, h2⟩ := hI.h.cs; exact ⟨cs, hS _ _ hc, h2⟩, fun y o hy ho => hS y o (hI.h.out y o hy ho)⟩, by simp [g10], h12, by simp [hI.hl], hp, by simp [hI.hl]⟩
  clear hI g10 lim
  rintro e s ⟨lim, p, q', hI, g10, -, g11, hp, g12⟩
  refine wpc_cut (PdB b n m σ lo up) ?_ ?_
  · by_cases h2 : q' = 2
    · have w1 : IntKind.i64.wrap (up - 1) = up - 1 := wrap_i64 (by omega) (by omega)
      have w2 : IntKind.i64.wrap (p - lo) = p - lo := wrap_i64 (by omega) (by omega)
      have w3 : IntKind.i64.wrap (up - 1 - (p - lo)) = up - 1 - (p - lo) := wrap_i64 (by omega) (by omega)
      simp -implicitDefEqProofs [hI.hl, hI.g0, hI.g1, hI.g2, g12, h2]
      refine (reverse_spec _ b n hn hI.h.cs lo up r0 r2 r1).mono ?_
      rintro r s' ⟨rfl, hS⟩
      simp -implicitDefEqProofs [hI.hl, hI.g1, hI.g2, g11, w1, w2, w3]
      exact ⟨lim, up - 1 - (p - lo), 1, hI.env (by simp [hI.hl]) (by simp) (hI.h.trans hS), by simp [g10], h12, by simp [hI.hl], by omega, by simp [hI.hl]⟩
    · simp -implicitDefEqProofs [hI.hl, g12, h2]
      exact ⟨lim, p, q', hI.env (by simp [hI.hl]) (by simp) hI.h, by simp [g10], h12, by simp [g11], hp, by simp [g12]⟩
  clear hI g10 g11 g12 hp lim p q'
  rintro e s ⟨lim, p, q', hI, g10, -, g11, hp, g12⟩
  obtain ⟨t8, g8⟩ := hI.g8
  obtain ⟨t9, g9⟩ := hI.g9
  refine wpc_cut (PdB b n m σ lo up) ?_ ?_
  · have skip : ∀ e', e'.length = 134 → (∀ k ∈ [0, 1, 2, 3, 8, 9, 10, 11, 12], gt e' k = gt e k) → PdB b n m σ lo up e' s := fun e' hl hs => by
      simp only [List.mem_cons, List.not_mem_nil, or_false, forall_eq_or_imp, forall_eq] at hs
      obtain ⟨a0, a1, a2, a3, a8, a9, a10, a11, a12⟩ := hs
      exact ⟨lim, p, q', hI.env hl (by simp [a0, a1, a2, a3, a8, a9]) hI.h, a10.trans g10, h12, a11.trans g11, hp, a12.trans g12⟩
    cases t8
    · simp -implicitDefEqProofs [hI.hl, g8]
      exact skip _ (by simp [hI.hl]) (by simp)
    cases t9
    · simp -implicitDefEqProofs [hI.hl, g8, g9]
      exact skip _ (by simp [hI.hl]) (by simp)
    by_cases h1 : q' = 1
    · simp -implicitDefEqProofs [hI.hl, g8, g9, g12, h1, hI.g0, hI.g1, hI.g2]
      refine (partial_spec _ b n hn hI.h.cs lo up r0 r2 (by omega)).mono ?_
      rintro r s' ⟨⟨t, rfl⟩, hS⟩
      cases t
      · simp -implicitDefEqProofs [hI.hl]
        exact ⟨lim, p, q', hI.env (by simp [hI.hl]) (by simp) (hI.h.trans hS), by simp [g10], h12, by simp [g11], hp, by simp [g12]⟩
      · simp -implicitDefEqProofs [hI.hl]
        exact hq _ _ ⟨rfl, hI.h.trans hS⟩
    · simp -implicitDefEqProofs [hI.hl, g8, g9, g12, h1]
      exact skip _ (by simp [hI.hl]) (by simp)
  clear hI g10 g11 g12 hp g8 g9 t8 t9 lim p q'
  rintro e s ⟨lim, p, q', hI, g10, -, g11, hp, g12⟩
  refine wpc_cut (PdB b n m σ lo up) ?_ ?_
  · simp -implicitDefEqProofs
    refine draw (by kernel_rfl) ?_
    by_cases hpos : 0 < lo
    · obtain ⟨cs, hc, hl, hw⟩ := hI.h.cs
      obtain ⟨x, hx⟩ := hw.at (j := lo - 1) (by omega) (by omega)
      obtain ⟨y, hy⟩ := hw.at (j := p) (by omega) (by omega)
      rw [show (lo - 1).toNat = lo.toNat - 1 by omega] at hx
      have w1 : IntKind.i64.wrap (lo - 1) = lo - 1 := wrap_i64 (by omega) (by omega)
      have k1 : 1 ≤ lo ∧ lo - 1 < n := by omega
      have k2 : 0 ≤ p ∧ p < n := by omega
      simp -implicitDefEqProofs [hI.hl, hI.g0, hI.g1, g11, hpos, w1, k1, k2, hc, hx, hy]
      refine (less_spec _ _ _).mono ?_
      rintro r σ' ⟨rfl, rfl⟩
      by_cases hxy : x < y
      · simp -implicitDefEqProofs [hI.hl, hxy]
        exact ⟨lim, p, q', hI.env (by simp [hI.hl]) (by simp) hI.h, by simp [g10], h12, by simp [g11], hp, by simp [g12]⟩
      · simp -implicitDefEqProofs [hI.hl, hxy, hI.g0, hI.g1, hI.g2, g11]
        refine (equal_spec _ b n hn hI.h.cs lo up p r0 r2 (by omega) hp).mono ?_
        rintro r s' ⟨⟨k, rfl, hk⟩, hS⟩
        simp -implicitDefEqProofs [hI.hl]
        refine ⟨⟨k, up, lim, by simp [hI.hl], by simp [hI.g0], by simp [hI.hl], by simp [hI.g2], by simp [hI.g3], by obtain ⟨t, h⟩ := hI.g8; exact ⟨t, by simp [h]⟩, by obtain ⟨t, h⟩ := hI.g9; exact ⟨t, by simp [h]⟩, hI.h.trans hS, ⟨by omega, by omega, hI.r.2.2⟩⟩, ?_⟩
        simp [intAt, hI.hl, hI.g2]
        omega
    · simp -implicitDefEqProofs [hI.hl, hI.g1, hpos]
      exact ⟨lim, p, q', hI.env (by simp [hI.hl]) (by simp) hI.h, by simp [g10], h12, by simp [g11], hp, by simp [g12]⟩
  clear hI g10 g11 g12 hp lim p q'
  rintro e s ⟨lim, p, q', hI, g10, -, g11, hp, g12⟩
  refine wpc_cut (PdC b n m σ lo up) ?_ ?_
  · simp -implicitDefEqProofs [hI.hl, hI.g0, hI.g1, hI.g2, g11]
    refine (partition_spec _ b n hn hI.h.cs lo up p r0 r2 (by omega) hp).mono ?_
    rintro r s' ⟨⟨k, t, rfl, hk⟩, hS⟩
    simp -implicitDefEqProofs [hI.hl]
    exact ⟨lim, k, hI.env (by simp [hI.hl]) (by simp) (hI.h.trans hS), by simp [g10], h12, by simp [hI.hl], hk, t, by simp [hI.hl]⟩
  clear hI g10 g11 g12 hp lim p q'
  rintro e s ⟨lim, p, hI, g10, -, g14, hp, t15, g15⟩
  have w1 : IntKind.i64.wrap (p - lo) = p - lo := wrap_i64 (by omega) (by omega)
  have w2 : IntKind.i64.wrap (up - p) = up - p := wrap_i64 (by omega) (by omega)
  have w3 : IntKind.i64.wrap (p + 1) = p + 1 := wrap_i64 (by omega) (by omega)
  have d8 : (up - lo).tdiv 8 = (up - lo) / 8 := Int.tdiv_eq_ediv_of_nonneg (by omega)
  have w4 : IntKind.i64.wrap ((up - lo) / 8) = (up - lo) / 8 := wrap_i64 (by omega) (by omega)
  by_cases hlt : p - lo < up - p
  · simp -implicitDefEqProofs [hI.hl, hI.g0, hI.g1, hI.g2, hI.g3, g10, g14, g15, w1, w2, d8, w4, hlt]
    refine (ih (p - lo).toNat (by omega) _ hI.h.cs lo p lim (by omega) (by omega) hI.r.2.2).mono ?_
    rintro r s' ⟨rfl, hS⟩
    simp -implicitDefEqProofs [hI.hl, g14, w3]
    refine ⟨⟨p + 1, up, lim, by simp [hI.hl], by simp [hI.g0], by simp [hI.hl], by simp [hI.g2], by simp [hI.g3], ⟨_, by simp [hI.hl]; rfl⟩, ⟨t15, by simp [hI.hl]⟩, hI.h.trans hS, ⟨by omega, by omega, hI.r.2.2⟩⟩, ?_⟩
    simp [intAt, hI.hl, hI.g2]
    omega
  · simp -implicitDefEqProofs [hI.hl, hI.g0, hI.g1, hI.g2, hI.g3, g10, g14, g15, w1, w2, w3, d8, w4, hlt]
    refine (ih (up - (p + 1)).toNat (by omega) _ hI.h.cs (p + 1) up lim (by omega) (by omega) hI.r.2.2).mono ?_
    rintro r s' ⟨rfl, hS⟩
    simp -implicitDefEqProofs [hI.hl, g14]
    refine ⟨⟨lo, p, lim, by simp [hI.hl], by simp [hI.g0], by simp [hI.g1], by simp [hI.hl], by simp [hI.g3], ⟨_, by simp [hI.hl]; rfl⟩, ⟨t15, by simp [hI.hl]⟩, hI.h.trans hS, ⟨by omega, by omega, hI.r.2.2⟩⟩, ?_⟩
    simp [intAt, hI.hl, hI.g1]
    omega

/-- slices.Sort at words: it ends, and what was sorted are so many words as before -/
theorem sort_spec (σ : Sto) (b n : Nat) (hn : n ≤ 1000000) (h : HasW b n σ) :
    ACalls Tryz.prog 36 [.mslice b 0 n 1] σ (fun r σ' => r = .tuple [] ∧ Sww b n σ σ') := by
  have e1 : IntKind.u64.wrap (n : Int) = n := wrap_u64 (by omega) (by omega)
  refine ACalls.q fun q hq => fn_of Tab.mixed Tryz.func36 rfl rfl rfl ?_
  simp -implicitDefEqProofs [e1]
  refine (len_spec _ n (by omega)).mono ?_
  rintro r s1 ⟨⟨k, rfl, hk⟩, rfl⟩
  simp -implicitDefEqProofs
  refine (pdq_spec b n hn n _ h 0 n k (by omega) (by omega) hk).mono ?_
  rintro r s2 ⟨rfl, hS⟩
  simp -implicitDefEqProofs
  exact hq _ _ ⟨rfl, hS⟩
end Go.Proofs.YtkbpnnbdfikjhaaGreat
