/- Plain: the loop's invariant. -/
import Derived.Test.YtkbpnnbdfikjhaaGreatK19Law11
import Derived.Test.YtkbpnnbdfikjhaaGreatK16Same1
namespace Go.Proofs.YtkbpnnbdfikjhaaGreat
open Go Go.Aw
set_option linter.unusedVariables false
set_option linter.unusedSimpArgs false
variable {c : Cfg}

/-- who reads amid others, and what the other one read at once -/
def XI (c : Cfg) (h : Hp) (A : AH) (M : Int) (P : Prop) (k : Nat) : Option (Vw × Vw) → Prop
  | none => ¬ P
  | some (x, y) => P ∧ ∃ (i : Int) (n : Nat) (O : Int → Option Pr), (0 ≤ i ∧ i < c.pins) ∧ (∀ j, 0 ≤ j → j < c.pins → A.pin j = if j = i then M + 1 else 0) ∧ (∀ s, 0 ≤ s → s < c.shelves → O s = obs M A s) ∧ VwI c M i A O h.last 72 n h x ∧ x.st ≠ .done ∧
      x.acts ≤ 3 + 5 * (k : Int) ∧ y.st = .done ∧ y.pairs = pairsOf (sofar O c.shelves.toNat)
structure LI (c : Cfg) (h tw : Hp) (o : Off) (x : Option (Vw × Vw)) (laid k : Nat) (A B : AH) (M : Int) (P : Prop) : Prop where
  ha : HG c h A
  hb : HG c tw B
  hh : h.locked = false ∧ h.faults = 0 ∧ h.last ≤ 1 + 12 * (laid : Int)
  ht : tw.locked = false ∧ tw.faults = 0 ∧ tw.last ≤ 1 + 12 * (laid : Int)
  tw : Twin c M A B
  E : A.E = laid
  pb : ∀ i, 0 ≤ i → i < c.pins → B.pin i = 0
  ps : Pins c M P A
  lim : A.limbo.map (·.id) = o.limbo ∧ A.limbo.length ≤ k
  nx : 0 ≤ o.next ∧ o.next < c.shelves
  len : ∀ s, 0 ≤ s → s < c.shelves → (A.ch s).length ≤ 6 * laid ∧ (B.ch s).length ≤ 6 * laid
  kn : ∀ s, 0 ≤ s → s < c.shelves → A.key s = none → A.ch s = []
  xi : XI c h A M P k x
  lb : laid ≤ 12
  kb : k ≤ 300

theorem core_nil {l : List Ver} (h : core l = []) : l = [] := by cases l with | nil => rfl | cons v l => simp [core] at h

/-- a row is laid on both -/
theorem LI.lay {h tw : Hp} {o : Off} {x : Option (Vw × Vw)} {laid k : Nat} {A B : AH} {M : Int} {P : Prop} (hc : c.right = true) (hI : LI c h tw o x laid k A B M P) (hl : laid < 12) (hk : k < 300) {l : List Ch} (hlen : l.length ≤ 6) (hsz : ∀ ch ∈ l, ch.key.size ≤ 4096 ∧ ch.value.size ≤ 4096) :
    (∃ I, Ranked (layR c (laid + 1)) I ∧ I 2000 h (Ly.new l)) ∧ (∃ I, Ranked (layR c (laid + 1)) I ∧ I 2000 tw (Ly.new l)) ∧
    ∃ A' B' M', LI c ((layR c (laid + 1)).run 10000 (h, Ly.new l)).2.1 ((layR c (laid + 1)).run 10000 (tw, Ly.new l)).2.1 o x (laid + 1) (k + 1) A' B' M' P := by
  obtain ⟨b1, b2, b3, -, -⟩ := c.bounds hc
  obtain ⟨m0, m1, m2⟩ := hI.ps.le
  have hE := hI.E
  have hEB : B.E = laid := by rw [← hI.tw.hE]; exact hE
  have hh := hI.hh
  have ht := hI.ht
  obtain ⟨I1, r1, i1, A', a1, a2, a3, a4, a5, a6, a7, a8⟩ := lay_run (M := M) (ep := (laid : Int) + 1) hc (by omega) (by omega) hI.ha hh.1 hh.2.1 hlen hsz (by omega)
  obtain ⟨I2, r2, i2, B', e1, e2, e3, e4, e5, e6, e7, e8⟩ := lay_run (M := M) (ep := (laid : Int) + 1) hc (by omega) (by omega) hI.hb ht.1 ht.2.1 hlen hsz (by omega)
  replace a8 := Int.le_trans (Int.le_of_eq a8) (show h.last + cst c (kt A) l ≤ h.last + 12 by have := cst_le c l (kt A); omega)
  replace e8 := Int.le_trans (Int.le_of_eq e8) (show tw.last + cst c (kt B) l ≤ tw.last + 12 by have := cst_le c l (kt B); omega)
  refine ⟨⟨I1, r1, i1⟩, ⟨I2, r2, i2⟩, A', B', if x = none then (laid : Int) + 1 else M, ?_⟩
  have hT : Twin c M A' B' := hI.tw.laid a3 a4 a5 e3 e4 e5
  have hcl : ∀ (G G' : AH) (n : List Cr) (s : Int), core (G'.ch s) = n ++ core (G.ch s) → (G'.ch s).length = n.length + (G.ch s).length := fun G G' n s e => by
    have := congrArg List.length e
    simpa [core] using this
  have hkn : ∀ s, 0 ≤ s → s < c.shelves → A'.key s = none → A'.ch s = [] := fun s s0 s1 hn => by
    have h1 : ktA c (kt A) l s = none := by rw [← a4]; simp [kt, hn]
    obtain ⟨h2, h3⟩ := nvA_none (c := c) (ep := (laid : Int) + 1) l (kt A) h1
    have h4 : A.key s = none := by simpa [kt] using h2
    have h5 := a5 s
    rw [h3, hI.kn s s0 s1 h4] at h5
    exact core_nil h5
  have hxi := hI.xi
  refine ⟨a1, e1, ⟨a6, a7, by omega⟩, ⟨e6, e7, by omega⟩, ?_, by rw [a3]; push_cast; rfl, fun i i0 i1 => by rw [e2.pin]; exact hI.pb i i0 i1, ?_, ⟨by rw [a2.limbo]; exact hI.lim.1, by rw [a2.limbo]; have := hI.lim.2; omega⟩, hI.nx, fun s s0 s1 => ?_, hkn, ?_, by omega, by omega⟩
  · split
    · exact hT.weaken (by omega)
    · exact hT
  · cases x with
    | none =>
      have hnp : ¬ P := hxi
      rw [if_pos rfl]
      refine ⟨fun hp => absurd hp hnp, fun i i0 i1 hne => ?_, fun _ => by rw [a3], by rw [a3]; omega⟩
      rw [a2.pin] at hne
      exact absurd (hI.ps.all i i0 i1 hne).2 hnp
    | some p =>
      rw [if_neg (by simp)]
      have hp : P := hxi.1
      refine ⟨fun _ => ?_, fun i i0 i1 hne => ?_, fun hn => absurd hp hn, by rw [a3]; omega⟩
      · rw [a2.pin]; exact hI.ps.one hp
      · rw [a2.pin] at hne ⊢; exact hI.ps.all i i0 i1 hne
  · have h1 := hcl _ _ _ _ (a5 s)
    have h2 := hcl _ _ _ _ (e5 s)
    have h3 := nvA_len c ((laid : Int) + 1) s l (kt A)
    have h4 := nvA_len c ((laid : Int) + 1) s l (kt B)
    have h5 := hI.len s s0 s1
    omega
  · cases x with
    | none => exact hxi
    | some p =>
      obtain ⟨xv, yv⟩ := p
      rw [if_neg (by simp)]
      obtain ⟨hp, i, n, O, q1, q2, q3, q4, q5, q6, q7, q8⟩ := hxi
      refine ⟨hp, i, full c 72, O, q1, fun j j0 j1 => by rw [a2.pin]; exact q2 j j0 j1, fun s s0 s1 => ?_, ?_, q5, by push_cast; omega, q7, q8⟩
      · rw [q3 s s0 s1]
        cases hk0 : A.key s with
        | none =>
          have h6 := hI.kn s s0 s1 hk0
          simp only [obs, hk0]
          cases hk1 : A'.key s with
          | none => rfl
          | some qq =>
            obtain ⟨kk, tt⟩ := qq
            have h7 := a5 s
            rw [h6] at h7
            have h8 : rd M (A'.ch s) = none := by
              rw [rd_core, h7, rdc_new _ _ (nvA_ep c ((laid : Int) + 1) s l (kt A)), if_neg (by omega)]; rfl
            simp [h8]
        | some qq =>
          obtain ⟨kk, tt⟩ := qq
          have h6 := a2.key s kk tt hk0
          simp only [obs, hk0, h6]
          congr 1
          rw [rd_core, rd_core, a5 s, rdc_new _ _ (nvA_ep c ((laid : Int) + 1) s l (kt A)), if_neg (by omega)]
      · refine q4.later q5 a1 rfl a7 a6 a2.key (fun s v _ _ hv => a2.at_ s v hv) (fun s s0 s1 => ?_) ?_
        · have h1 := hcl _ _ _ _ (a5 s)
          have h3 := nvA_len c ((laid : Int) + 1) s l (kt A)
          have h5 := hI.len s s0 s1
          omega
        · have : full c 72 ≤ 10000 := by
            simp only [full, rest]
            have : (c.shelves - 0 - 1).toNat * (2 * 72 + 8) ≤ 63 * (2 * 72 + 8) := Nat.mul_le_mul_right _ (by omega)
            omega
          omega
end Go.Proofs.YtkbpnnbdfikjhaaGreat

/- Plain: the loop's invariant goes on. -/
namespace Go.Proofs.YtkbpnnbdfikjhaaGreat
open Go Go.Aw
set_option linter.unusedVariables false
set_option linter.unusedSimpArgs false
variable {c : Cfg}

theorem full_le (hc : c.right = true) : full c 72 + 3 ≤ 10000 := by
  obtain ⟨b1, b2, b3, -, -⟩ := c.bounds hc
  simp only [full, rest]
  have : (c.shelves - 0 - 1).toNat * (2 * 72 + 8) ≤ 63 * (2 * 72 + 8) := Nat.mul_le_mul_right _ (by omega)
  omega

/-- a collection -/
theorem LI.col {h tw : Hp} {o : Off} {x : Option (Vw × Vw)} {laid k : Nat} {A B : AH} {M : Int} {P : Prop} (hc : c.right = true) (hI : LI c h tw o x laid k A B M P) (hk : k < 300) (ob : Nat) (mo : AV) :
    (∃ I, Ranked (colR c ob mo) I ∧ I 10000 h (Col.new, o)) ∧
    ∃ A', LI c ((colR c ob mo).run 10000 (h, (Col.new, o))).2.1 tw ((colR c ob mo).run 10000 (h, (Col.new, o))).2.2.2 x laid (k + 1) A' B M P := by
  obtain ⟨b1, b2, b3, -, -⟩ := c.bounds hc
  have hfull := full_le hc
  have hh := hI.hh
  have hlb := hI.lb
  have hlen0 := (hI.len o.next hI.nx.1 hI.nx.2).1
  have hlim := hI.lim
  refine ⟨⟨_, col_ranked (A0 := A) (K := h.last) (L := k) hc hI.ps (by omega) (by omega) ob mo, A, ⟨hI.ha, Later.refl _ _ _ _, hlim.1, hI.nx, rfl, hh.2.1⟩, hh.1, hlim.2, rfl, by simp only [cB, cN]; omega⟩, ?_⟩
  obtain ⟨A', a1, a2, a3, a4, a5, a6, a7, a8⟩ := col_run (A0 := A) (K := h.last) (L := k) hc hI.ps (by omega) (by omega) ob mo hI.ha hh.1 hlim.1 hI.nx rfl hh.2.1 (by omega) hlim.2
  refine ⟨A', a1, hI.hb, ⟨a7, a6, by rw [a5]; exact hh.2.2⟩, hI.ht, hI.tw.later a2, by rw [a2.E]; exact hI.E, hI.pb, ?_, ⟨a3, a8⟩, a4, fun s s0 s1 => ?_, fun s s0 s1 hn => ?_, ?_, hlb, by omega⟩
  · have hps := hI.ps
    refine ⟨fun hp => by rw [a2.pin]; exact hps.one hp, fun i i0 i1 hne => by rw [a2.pin] at hne ⊢; exact hps.all i i0 i1 hne, fun hn => by rw [a2.E]; exact hps.non hn, by rw [a2.E]; exact hps.le⟩
  · have := hI.len s s0 s1
    exact ⟨Nat.le_trans (a2.len s s0 s1) this.1, this.2⟩
  · rw [a2.key] at hn
    have := a2.len s s0 s1
    rw [hI.kn s s0 s1 hn] at this
    exact List.eq_nil_of_length_eq_zero (by simpa using this)
  · have hxi := hI.xi
    cases x with
    | none => exact hxi
    | some p =>
      obtain ⟨xv, yv⟩ := p
      obtain ⟨hp, i, n, O, q1, q2, q3, q4, q5, q6, q7, q8⟩ := hxi
      refine ⟨hp, i, full c 72, O, q1, fun j j0 j1 => by rw [a2.pin]; exact q2 j j0 j1, fun s s0 s1 => ?_, ?_, q5, by push_cast; omega, q7, q8⟩
      · rw [q3 s s0 s1]
        simp only [obs, a2.key]
        rw [a2.rd s s0 s1 M (by omega)]
      · refine q4.later q5 a1 rfl a6 a7 (fun s kk t e => by rw [a2.key]; exact e) (fun s v s0 s1 hv => a2.at_ hp s v s0 s1 hv) (fun s s0 s1 => ?_) (by omega)
        have h5 := hI.len s s0 s1
        have := a2.len s s0 s1
        omega

/-- nobody reads: one begins, and another one reads the twin at once -/
theorem LI.open {h tw : Hp} {o : Off} {laid k : Nat} {A B : AH} {M : Int} {P : Prop} (hc : c.right = true) (hI : LI c h tw o none laid k A B M P) (hk : k < 300) {i : Int} (hi : 0 ≤ i ∧ i < c.pins) :
    (∃ I, Ranked (viewR c) I ∧ I 10000 h (vw0 i)) ∧ (∃ I, Ranked (viewR c) I ∧ I 10000 tw (vw0 i)) ∧ ((viewR c).run 3 (h, vw0 i)).2.2.st ≠ .done ∧ (((viewR c).run 10000 (tw, vw0 i)).2.2.pairs.length ≤ 64) ∧
    ∃ A' M', LI c ((viewR c).run 3 (h, vw0 i)).2.1 ((viewR c).run 10000 (tw, vw0 i)).2.1 o (some (((viewR c).run 3 (h, vw0 i)).2.2, ((viewR c).run 10000 (tw, vw0 i)).2.2)) laid (k + 1) A' B M' True := by
  obtain ⟨b1, b2, b3, -, -⟩ := c.bounds hc
  have hfull := full_le hc
  have hh := hI.hh
  have ht := hI.ht
  have hlb := hI.lb
  have hnp : ¬ P := hI.xi
  have hps := hI.ps
  have hME := hps.non hnp
  have hpa : ∀ j, 0 ≤ j → j < c.pins → A.pin j = 0 := fun j j0 j1 => Classical.byContradiction fun hne => hnp (hps.all j j0 j1 hne).2
  have hEB : B.E = A.E := hI.tw.hE.symm
  have hCLA : ∀ s, 0 ≤ s → s < c.shelves → (A.ch s).length ≤ 72 := fun s s0 s1 => by have := hI.len s s0 s1; omega
  have hCLB : ∀ s, 0 ≤ s → s < c.shelves → (B.ch s).length ≤ 72 := fun s s0 s1 => by have := hI.len s s0 s1; omega
  have hOB : ∀ s, 0 ≤ s → s < c.shelves → obs A.E A s = obs B.E B s := fun s s0 s1 => by rw [hEB]; exact hI.tw.obs s0 s1 (by omega)
  obtain ⟨H1, v1, v2, v3, v4⟩ := view_start (O := obs A.E A) (K := h.last) (CL := 72) hc hi hI.ha (hpa i hi.1 hi.2) (by have := hps.le; omega) rfl (by omega) hh.2.1 hh.1 (fun _ _ _ => rfl) hCLA (by omega)
  obtain ⟨I2, w1, w2, w3, w4, w5, w6, w7, w8⟩ := view_whole (O := obs A.E A) (K := tw.last) (CL := 72) hc hi hI.hb (hI.pb i hi.1 hi.2) (by have := hps.le; omega) rfl (by omega) ht.2.1 ht.1 hOB hCLB hfull
  have e3 : ((viewR c).run 3 (h, vw0 i)).2 = (H1, vw3 i A.E) := congrArg Prod.snd v4
  have e31 : ((viewR c).run 3 (h, vw0 i)).2.1 = H1 := congrArg Prod.fst e3
  have e32 : ((viewR c).run 3 (h, vw0 i)).2.2 = vw3 i A.E := congrArg Prod.snd e3
  refine ⟨⟨_, v2, .inl ⟨rfl, hfull⟩⟩, ⟨I2, w1, w2⟩, by rw [e32]; simp [vw3], ?_, A.setPin i (A.E + 1), A.E, ?_⟩
  · rw [w5]
    have h1 := pairs_len (sofar (obs A.E A) c.shelves.toNat)
    have h2 := (sofar_ok (obs A.E A) c.shelves.toNat).1
    omega
  rw [e31, e32]
  obtain ⟨⟨g0, g1⟩, g2, g3, g4, g5⟩ := v3
  refine ⟨v1, w4, ⟨g4, g3, by rw [g2]; exact hh.2.2⟩, ⟨w8, w7, by rw [w6]; exact ht.2.2⟩, ?_, hI.E, hI.pb, ?_, ⟨hI.lim.1, by have := hI.lim.2; show A.limbo.length ≤ k + 1; omega⟩, hI.nx, hI.len, hI.kn, ?_, hlb, by omega⟩
  · rw [← hME]; exact ⟨hI.tw.hE, hI.tw.hk, hI.tw.hr⟩
  · refine ⟨fun _ => ⟨i, hi.1, hi.2, by simp [AH.setPin]⟩, fun j j0 j1 hne => ?_, fun hn => absurd trivial hn, by have := hps.le; show 0 ≤ A.E ∧ A.E ≤ A.E ∧ A.E < 1000000000; omega⟩
    by_cases e : j = i
    · subst e; exact ⟨by simp [AH.setPin], trivial⟩
    · simp only [AH.setPin, e, if_false] at hne
      exact absurd (hpa j j0 j1) hne
  · refine ⟨trivial, i, full c 72, obs A.E A, hi, fun j j0 j1 => ?_, fun s s0 s1 => rfl, by rw [g2]; exact ⟨⟨g0, g1⟩, g2, g3, g4, g5⟩, by simp [vw3], by simp only [vw3]; push_cast; omega, w3, w5⟩
    by_cases e : j = i
    · subst e; simp [AH.setPin]
    · simp only [AH.setPin, e, if_false]; exact hpa j j0 j1
end Go.Proofs.YtkbpnnbdfikjhaaGreat

/- Plain: the loop's invariant: who reads goes on; the end. -/
namespace Go.Proofs.YtkbpnnbdfikjhaaGreat
open Go Go.Aw
set_option linter.unusedVariables false
set_option linter.unusedSimpArgs false
variable {c : Cfg}

/-- who reads goes on -/
theorem LI.move {h tw : Hp} {o : Off} {x y : Vw} {laid k : Nat} {A B : AH} {M : Int} {P : Prop} (hc : c.right = true) (hI : LI c h tw o (some (x, y)) laid k A B M P) (m : Nat) :
    (∃ I, Ranked (viewR c) I ∧ I 10000 h x) ∧ (10000 ≤ m → ((viewR c).run m (h, x)).2.2.st = .done) ∧
    (((viewR c).run m (h, x)).2.2.st = .done → ((viewR c).run m (h, x)).2.2.pairs = y.pairs ∧ y.pairs.length ≤ 64 ∧ ∃ A', ∀ k', k ≤ k' → k' ≤ 300 → LI c ((viewR c).run m (h, x)).2.1 tw o none laid k' A' B A.E False) ∧
    (((viewR c).run m (h, x)).2.2.st ≠ .done → m ≤ 5 → k < 300 → LI c ((viewR c).run m (h, x)).2.1 tw o (some (((viewR c).run m (h, x)).2.2, y)) laid (k + 1) A B M P) := by
  obtain ⟨b1, b2, b3, -, -⟩ := c.bounds hc
  have hfull := full_le hc
  have hh := hI.hh
  have hlb := hI.lb
  have hkb := hI.kb
  obtain ⟨hp, i, n, O, q1, q2, q3, q4, q5, q6, q7, q8⟩ := hI.xi
  have hCLA : ∀ s, 0 ≤ s → s < c.shelves → (A.ch s).length ≤ 72 := fun s s0 s1 => by have := hI.len s s0 s1; omega
  have hR := view_ranked (c := c) (M := M) (i := i) (G := A) (O := O) (K := h.last) (CL := 72) hc q1 q3 hCLA (by omega)
  have hV : VwI c M i A O h.last 72 (full c 72) h x := q4.later q5 hI.ha rfl hh.2.1 hh.1 (fun _ _ _ e => e) (fun _ _ _ _ e => e) hCLA (by omega)
  have hV' : VwI c M i A O h.last 72 10000 h x := by
    obtain ⟨st, acts, pin, epoch, shelf, block, key, seen, pairs, mark⟩ := x
    obtain ⟨⟨a0, a1⟩, a2, a3, a4, a5⟩ := hV
    refine ⟨⟨a0, by simp only at q6 ⊢; omega⟩, a2, a3, a4, ?_⟩
    cases st
    case pins p => exact a5
    case done => exact absurd rfl q5
    case frees => obtain ⟨z1, z2, z3, z4⟩ := a5; exact ⟨z1, z2, z3, by omega⟩
    case keys => obtain ⟨z1, z2, z3, z4, z5, z6⟩ := a5; exact ⟨z1, z2, z3, z4, z5, by omega⟩
    case texts => obtain ⟨z1, z2, z3, z4, z5, z6, z7⟩ := a5; exact ⟨z1, z2, z3, z4, z5, z6, by omega⟩
    case reads y =>
      obtain ⟨z1, z2, z3, z4, z5, z6, z7, z8, z9⟩ := a5
      refine ⟨z1, z2, z3, z4, z5, z6, z7, z8, ?_⟩
      obtain ⟨cell, ye, yb, part, has, text, vb, passed⟩ := y
      cases part
      case done => exact z9.elim
      case head => exact Nat.le_trans z9 (by omega)
      case epoch => obtain ⟨v, r, g1, g2, g3⟩ := z9; exact ⟨v, r, g1, g2, by omega⟩
      case next => obtain ⟨v, r, g1, g2, g3, g4⟩ := z9; exact ⟨v, r, g1, g2, g3, by omega⟩
      case live => obtain ⟨v, r, g1, g2, g3, g4⟩ := z9; exact ⟨v, r, g1, g2, g3, by omega⟩
      case text => obtain ⟨v, r, g1, g2, g3, g4, g5⟩ := z9; exact ⟨v, r, g1, g2, g3, g4, by omega⟩
  obtain ⟨⟨m', hm'⟩, hend⟩ := hR.run m 10000 (h, x) hV'
  have hacts := run_acts c m (h, x)
  refine ⟨⟨_, hR, hV'⟩, fun hm => view_end hc q1 hm' (hend hm), ?_⟩
  have hlen64 : y.pairs.length ≤ 64 := by
    rw [q8]
    have h1 := pairs_len (sofar O c.shelves.toNat)
    have h2 := (sofar_ok O c.shelves.toNat).1
    omega
  generalize (viewR c).run m (h, x) = z at *
  obtain ⟨cnt, h', x'⟩ := z
  obtain ⟨g1, g2, g3, g4, g5⟩ := hm'
  simp only at g2 g3 g4
  have hpsn := hI.ps
  refine ⟨fun hd => ?_, fun hd hm5 hk => ?_⟩
  · simp only at hd
    simp only [VwS, hd] at g5
    refine ⟨by rw [g5.2, q8], hlen64, A.setPin i 0, fun k' hk' hk3 => ?_⟩
    have hp0 : ∀ j, 0 ≤ j → j < c.pins → (A.setPin i 0).pin j = 0 := fun j j0 j1 => by
      by_cases e : j = i
      · subst e; simp [AH.setPin]
      · simp only [AH.setPin, e, if_false]; rw [q2 j j0 j1, if_neg e]
    have hM := hpsn.le
    refine ⟨g5.1, hI.hb, ⟨g4, g3, by rw [g2]; exact hh.2.2⟩, hI.ht, ?_, hI.E, hI.pb, ⟨fun hf => hf.elim, fun j j0 j1 hne => absurd (hp0 j j0 j1) hne, fun _ => rfl, by show 0 ≤ A.E ∧ A.E ≤ A.E ∧ A.E < 1000000000; omega⟩, ⟨hI.lim.1, by have := hI.lim.2; show A.limbo.length ≤ k'; omega⟩, hI.nx, hI.len, hI.kn, id, hlb, hk3⟩
    have hT := hI.tw.weaken (M' := A.E) (by omega)
    exact ⟨hT.hE, hT.hk, hT.hr⟩
  · simp only at hd
    have hg' : HG c h' A := by
      obtain ⟨st, acts, pin, epoch, shelf, block, key, seen, pairs, mark⟩ := x'
      cases st
      case pins p => exact g5.elim
      case done => exact absurd rfl hd
      all_goals exact g5.1
    refine ⟨hg', hI.hb, ⟨g4, g3, by rw [g2]; exact hh.2.2⟩, hI.ht, hI.tw, hI.E, hI.pb, hpsn, ⟨hI.lim.1, by have := hI.lim.2; omega⟩, hI.nx, hI.len, hI.kn, ?_, hlb, by omega⟩
    refine ⟨hp, i, m', O, q1, q2, q3, by rw [g2]; exact ⟨g1, g2, g3, g4, g5⟩, hd, ?_, q7, q8⟩
    have : Vw.acts x' ≤ Vw.acts x + m := hacts
    push_cast; omega

/-- the last ones -/
theorem LI.last {h tw : Hp} {o : Off} {laid k : Nat} {A B : AH} {M : Int} {P : Prop} (hc : c.right = true) (hI : LI c h tw o none laid k A B M P) {i : Int} (hi : 0 ≤ i ∧ i < c.pins) :
    (∃ I, Ranked (viewR c) I ∧ I 10000 h (vw0 i)) ∧ (∃ I, Ranked (viewR c) I ∧ I 10000 tw (vw0 i)) ∧ ((viewR c).run 10000 (h, vw0 i)).2.2.st = .done ∧ ((viewR c).run 10000 (tw, vw0 i)).2.2.st = .done ∧
      ((viewR c).run 10000 (h, vw0 i)).2.2.pairs = ((viewR c).run 10000 (tw, vw0 i)).2.2.pairs ∧ ((viewR c).run 10000 (tw, vw0 i)).2.2.pairs.length ≤ 64 ∧ ((viewR c).run 10000 (h, vw0 i)).2.1.faults = 0 := by
  obtain ⟨b1, b2, b3, -, -⟩ := c.bounds hc
  have hfull := full_le hc
  have hh := hI.hh
  have ht := hI.ht
  have hlb := hI.lb
  have hnp : ¬ P := hI.xi
  have hps := hI.ps
  have hME := hps.non hnp
  have hpa : ∀ j, 0 ≤ j → j < c.pins → A.pin j = 0 := fun j j0 j1 => Classical.byContradiction fun hne => hnp (hps.all j j0 j1 hne).2
  have hEB : B.E = A.E := hI.tw.hE.symm
  have hle := hps.le
  have hCLA : ∀ s, 0 ≤ s → s < c.shelves → (A.ch s).length ≤ 72 := fun s s0 s1 => by have := hI.len s s0 s1; omega
  have hCLB : ∀ s, 0 ≤ s → s < c.shelves → (B.ch s).length ≤ 72 := fun s s0 s1 => by have := hI.len s s0 s1; omega
  have hOB : ∀ s, 0 ≤ s → s < c.shelves → obs A.E A s = obs B.E B s := fun s s0 s1 => by rw [hEB]; exact hI.tw.obs s0 s1 (by omega)
  obtain ⟨I1, v1, v2, v3, v4, v5, v6, v7, v8⟩ := view_whole (O := obs A.E A) (K := h.last) (CL := 72) hc hi hI.ha (hpa i hi.1 hi.2) (by omega) rfl (by omega) hh.2.1 hh.1 (fun _ _ _ => rfl) hCLA hfull
  obtain ⟨I2, w1, w2, w3, w4, w5, w6, w7, w8⟩ := view_whole (O := obs A.E A) (K := tw.last) (CL := 72) hc hi hI.hb (hI.pb i hi.1 hi.2) (by omega) rfl (by omega) ht.2.1 ht.1 hOB hCLB hfull
  refine ⟨⟨I1, v1, v2⟩, ⟨I2, w1, w2⟩, v3, w3, by rw [v5, w5], ?_, v7⟩
  rw [w5]
  have h1 := pairs_len (sofar (obs A.E A) c.shelves.toNat)
  have h2 := (sofar_ok (obs A.E A) c.shelves.toNat).1
  omega
end Go.Proofs.YtkbpnnbdfikjhaaGreat

/- Plain: the loop's invariant at the start. -/
namespace Go.Proofs.YtkbpnnbdfikjhaaGreat
open Go Go.Aw
set_option linter.unusedVariables false
set_option linter.unusedSimpArgs false
variable {c : Cfg}

def AH.init : AH := ⟨0, fun _ => 0, fun _ => none, fun _ => [], [], fun b => if b = 1 then .ctl else .none⟩
theorem HG.init (hc : c.right = true) : HG c (Hp.laid c.size) AH.init := by
  obtain ⟨b1, b2, b3, -, -⟩ := c.bounds hc
  have hget : ∀ j : Int, 0 ≤ j → j < c.size → (List.replicate c.size.toNat (0 : Int))[j.toNat]? = some 0 := fun j h0 h1 => by
    rw [List.getElem?_replicate, if_pos (by omega)]
  refine ⟨fun z hz => ?_, by simp [Hp.laid], fun z hz w hw => ?_, ⟨_, _, rfl, ⟨?_, ?_, fun i h0 h1 => ?_, fun s h0 h1 => ?_, fun s h0 h1 => ?_⟩⟩, fun s k t _ _ h => (by cases h), fun s _ _ => trivial, fun s v _ _ h => (by cases h), fun s _ _ => List.nodup_nil, fun v h => (by cases h), List.nodup_nil, rfl, rfl, fun b hb => ?_⟩
  · simp only [Hp.laid, List.mem_singleton] at hz; subst hz; simp [Hp.laid]
  · simp only [Hp.laid, List.mem_singleton] at hz; subst hz
    have := List.eq_of_mem_replicate hw
    omega
  · simp only [List.length_replicate, Cfg.size]; omega
  · have := hget 0 (by omega) (by simp only [Cfg.size]; omega)
    exact this
  · exact hget _ (by simp only [Cfg.pin]; omega) (by simp only [Cfg.pin, Cfg.size]; omega)
  · exact hget _ (by simp only [Cfg.key]; omega) (by simp only [Cfg.key, Cfg.size]; omega)
  · exact hget _ (by simp only [Cfg.head]; omega) (by simp only [Cfg.head, Cfg.size]; omega)
  · have hb' : (1 : Int) < b := hb
    simp only [AH.init]; rw [if_neg (by omega)]
theorem LI.init (hc : c.right = true) : LI c (Hp.laid c.size) (Hp.laid c.size) ⟨0, []⟩ none 0 0 AH.init AH.init 0 False := by
  obtain ⟨b1, b2, b3, -, -⟩ := c.bounds hc
  refine ⟨HG.init hc, HG.init hc, ⟨rfl, rfl, by simp [Hp.laid]⟩, ⟨rfl, rfl, by simp [Hp.laid]⟩, ⟨rfl, rfl, fun _ _ _ _ _ => rfl⟩, rfl, fun _ _ _ => rfl, ⟨fun h => h.elim, fun i _ _ h => absurd rfl h, fun _ => rfl, by show (0 : Int) ≤ 0 ∧ (0 : Int) ≤ 0 ∧ (0 : Int) < 1000000000; omega⟩, ⟨rfl, by simp [AH.init]⟩, by simp only; omega, fun s _ _ => by simp [AH.init], fun s _ _ _ => rfl, id, by omega, by omega⟩
end Go.Proofs.YtkbpnnbdfikjhaaGreat
