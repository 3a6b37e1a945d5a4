/- From the listed variables to the store's claims. -/
import Derived.Test.YtcjiebgnccaogaaDoorDig5
import Derived.Test.YtcjiebgnccaogaaDoorRows
import Derived.LaidLaws
import Derived.LaidHandle
import Derived.Stop.LaidErr
import Derived.Lib.LaidTab
namespace Go.Proofs.YtcjiebgnccaogaaDoor
open Go Go.Aw Go.ChangeShapes Go.WideShapes Go.RowKit
set_option linter.unusedVariables false
set_option linter.unusedSimpArgs false

/-- the listed variables -/
def laidL : List (String × DataW Unit) := Rows.digitsBackRow.laid
/-- those that are plain data -/
def plainL : List (String × DataW Unit) := laidL.filter fun x => x.2.handleName?.isNone

/-- a list of laid variables from a place on -/
theorem laid_drop {P : Program} {W : World} : ∀ (k : Nat) {l : List (String × DataW Unit)}, laidMet P l W → laidMet P (l.drop k) W
  | 0, l, h => h
  | k + 1, [], h => h
  | k + 1, x :: l, h => laid_drop k h.tail

theorem row_one {b off : Nat} : MemPlace.cell b off ∈ MemPlace.row ⟨b, off, none⟩ 1 := by simp [MemPlace.row]

theorem star115 : "*" ++ "errors.errorString" = "*errors.errorString" := by decide
theorem row115 (u : TypeId) (h : Tryd.prog.typeName? 3 u = some "*errors.errorString") : u = 115 :=
  typeName_ptr_named (nm := "errors.errorString") (by rw [star115]; kernel_rfl) (by kernel_rfl) (by decide) u (by rw [star115]; exact h)
theorem cells117 : Tryd.prog.cellsOf 117 = 1 := by kernel_rfl
theorem cells9 : Tryd.prog.cellsOf 9 = 1 := by kernel_rfl

set_option maxRecDepth 100000 in
/-- A sentinel: its variable, what it points to, and both blocks. -/
theorem sent_of {W : World} {l : List (String × DataW Unit)} (h : laidMet Tryd.prog l W) (k g : Nat) {n : String} {text : List UInt8} {r : List (String × DataW Unit)}
    (hk : l.drop k = (n, .iface "*errors.errorString" (.ptr (.agg [.lit (.string text)]))) :: r) (hg : Tryd.prog.globalNamed n = some g) (ht : (Tryd.prog.globals[g]?).map (·.type) = some 24) :
    ∃ (a : Addr) (s : ByteArray) (c : Array Value) (t : TypeId) (tg : TypeId), W.heap[g]? = some (.cells #[.iface 115 (.pointer (some a))] tg (0, 0)) ∧ W.cell? a = some (.string s) ∧ s.data.toList = text ∧ W.heap[a.block]? = some (.cells c t (0, 0)) := by
  have h' := laid_drop k h
  rw [hk] at h'
  obtain ⟨ps, ⟨g0, t0, cs0, f0, p0, q0, hg0, ht0, hv0, hd0, hq0, e0⟩, hnd, hrows⟩ := h'
  obtain rfl := Option.some.inj (hg.symm.trans hg0)
  obtain rfl := Option.some.inj (ht.symm.trans ht0)
  subst e0
  obtain ⟨l0⟩ := cs0
  have ok0 : ∀ u v, l0 = [.iface u v] → Value.okWide Tryd.prog W .any 0 u v := fun u v e => by
    subst e
    exact (hrows g 0 (by simp [MemPlace.row])).2 u v (by simpa using World.var?_cell hg0 hv0 0)
  obtain ⟨a0, s0, rfl, hc0, hs0, hz0, hp⟩ := errorString_of_trod Tryd.underlying24 row115 Tryd.underlying115 Tryd.underlying117 rfl rfl Tryd.underlying9 cells117 cells9 hd0 ok0
  have hb : ∃ c t, W.heap[g]? = some (.cells c t (0, 0)) := (hrows g 0 (by simp [MemPlace.row])).1
  have hb2 : ∃ c t, W.heap[a0.block]? = some (.cells c t (0, 0)) := (hrows a0.block a0.off (by
    rw [hp]; simp [MemPlace.row])).1
  obtain ⟨c1, t1, e1⟩ := hb
  obtain ⟨c2, t2, e2⟩ := hb2
  have hv1 : c1 = #[.iface 115 (.pointer (some a0))] := by
    have := hv0
    unfold World.var? at this
    rw [hg0] at this
    simp [e1] at this
    exact this
  subst hv1
  exact ⟨a0, s0, c2, t2, t1, e1, hc0, hs0, e2⟩

/-- the variable errors.errorType is an unfrozen block of one cell -/
theorem glob6 {W : World} (h : W.ShapedOpen Tryd.prog) : ∃ cs t, W.heap[6]? = some (.cells cs t (0, 0)) := by
  obtain ⟨cs, e, -, -⟩ := h.1 6 #[.nilIface] 62 (of_decide_eq_true (by kernel_rfl)) (by kernel_rfl)
  exact ⟨cs, 62, e⟩

theorem et6 : Tryd.prog.globalNamed "errors.errorType" = some 6 := by kernel_rfl
theorem rt78 : (Tryd.prog.cutTypes.find? (·.1 == "internal/reflectlite.rtype")).map (·.2) = some 78 := by kernel_rfl
theorem oneRow : ((List.range 149).filter fun t => Tryd.prog.rowNamed t [101, 114, 114, 111, 114]) = [24] := by kernel_rfl
theorem size149 : Tryd.prog.types.size = 149 := by kernel_rfl
theorem plain_ne : laidL.filter (fun x => x.2.handleName?.isSome) = [("errors.errorType", Rows.laid_errors_errorType)] := by kernel_rfl

theorem laid_parts {W : World} (h : laidMetH Tryd.prog laidL W) : laidMet Tryd.prog plainL W ∧ W.var? Tryd.prog "errors.errorType" = some #[.iface 78 (.agg #[.pointer (some ⟨25, 24, none⟩)])] := by
  unfold laidMetH at h
  rw [plain_ne] at h
  refine ⟨h.1, ?_⟩
  obtain ⟨name, u, ty, e1, e2, e3, e4, e5⟩ := h.2 _ (List.mem_singleton.2 rfl)
  have en : name = [101, 114, 114, 111, 114] := (Option.some.inj e1).symm
  subst en
  obtain rfl := Option.some.inj (rt78.symm.trans e2)
  have hm : ty ∈ (List.range 149).filter fun t => Tryd.prog.rowNamed t [101, 114, 114, 111, 114] := List.mem_filter.2 ⟨List.mem_range.2 (by rw [← size149]; exact e3), e4⟩
  rw [oneRow] at hm
  obtain rfl := List.mem_singleton.1 hm
  have hh : typeHandle Tryd.prog 24 = .pointer (some ⟨25, 24, none⟩) := by kernel_rfl
  rw [hh] at e5
  exact e5

/-! ### The store's claims, cell for cell -/
def exact1 (W : World) (b : Nat) : Option AObj := match W.heap[b]? with
  | some (.cells vs _ (0, 0)) => some (.cells (vs.toList.map AV.sc))
  | _ => none
def stoOf (W : World) (L : List Nat) : Sto := fun b => if b ∈ L then exact1 W b else none

theorem stoOf_some {W : World} {L : List Nat} {b : Nat} {o : AObj} (h : stoOf W L b = some o) : ∃ vs ty, W.heap[b]? = some (.cells vs ty (0, 0)) ∧ o = .cells (vs.toList.map AV.sc) := by
  unfold stoOf at h
  split at h
  · unfold exact1 at h
    split at h
    · rename_i vs ty he
      cases h
      exact ⟨vs, ty, he, rfl⟩
    · cases h
  · cases h
theorem stoOf_at {W : World} {L : List Nat} {b : Nat} {vs : Array Value} {ty : TypeId} (hb : b ∈ L) (h : W.heap[b]? = some (.cells vs ty (0, 0))) : stoOf W L b = some (.cells (vs.toList.map AV.sc)) := by
  unfold stoOf
  rw [if_pos hb]
  unfold exact1
  rw [h]
  rfl

theorem rel_exact (σ : Sto) (w : World) (vs : Array Value) (j : Nat) (c : AV) (v : Value) (hc : (vs.toList.map AV.sc)[j]? = some c) (hv : vs[j]? = some v) : Rel σ w c v := by
  simp [hv] at hc
  subst hc
  exact .sc v

theorem st_of (W : World) (L : List Nat) : St (stoOf W L) W := by
  refine ⟨fun b o h => ?_, fun b cs h => ?_, fun b m h => ?_⟩
  · obtain ⟨vs, ty, e, -⟩ := stoOf_some h
    exact (Array.getElem?_eq_some_iff.1 e).1
  · obtain ⟨vs, ty, e, e2⟩ := stoOf_some h
    cases e2
    exact ⟨vs, ty, e, by simp, fun j c v hc hv => rel_exact _ _ vs j c v hc hv⟩
  · obtain ⟨vs, ty, e, e2⟩ := stoOf_some h
    cases e2

/-- what was there is there as it was: also the claimed blocks -/
theorem kept_of {W W' : World} {L : List Nat} {σ' : Sto} (hx : Ext (stoOf W L) W σ' W') (hs : St σ' W') (hsub : Aw.Sub (stoOf W L) σ') : Kept W W' := by
  refine ⟨hx.same.1, hx.same.2, hx.size, fun k hk => ?_⟩
  cases hσ : stoOf W L k with
  | none => exact (hx.keep k hk hσ).1
  | some o =>
    obtain ⟨vs, ty, e, rfl⟩ := stoOf_some hσ
    obtain ⟨vs', ty', e', hl, hr⟩ := hs.cells k _ (hsub _ _ hσ)
    obtain ⟨vs2, e2, -⟩ := hx.shape k vs ty _ e
    rw [e'] at e2
    cases e2
    rw [e', e]
    congr 2
    apply Array.ext
    · simpa using hl.symm
    · intro i h1 h2
      have := hr i (.sc vs[i]) vs'[i] (by simp [h2]) (by simp [h1])
      exact rel_sc this

theorem at_plain (k : Nat) {W : World} (h : laidMet Tryd.prog laidL W) : laidMet Tryd.prog (laidL.drop k) W := laid_drop k h

set_option maxRecDepth 100000 in
/-- the claims of the store that a call begins with -/
theorem gok_of {W : World} (h : laidMetH Tryd.prog laidL W) (hS : W.ShapedOpen Tryd.prog) : ∃ (L : List Nat) (S : Int → Addr) (te : TypeId) (pe : Value), GOK S te pe (stoOf W L) := by
  obtain ⟨hp, h6⟩ := laid_parts h
  obtain ⟨c6, t6, e6⟩ := glob6 hS
  obtain ⟨a1, s1, c1, t1, g1, k1, l1, m1, n1⟩ := sent_of hp 3 0 (n := "philtre/api.ErrForm") (text := [102, 111, 114, 109]) (r := plainL.drop 4) (by kernel_rfl) (by kernel_rfl) (by kernel_rfl)
  obtain ⟨a2, s2, c2, t2, g2, k2, l2, m2, n2⟩ := sent_of hp 4 1 (n := "philtre/api.ErrShort") (text := [115, 104, 111, 114, 116]) (r := plainL.drop 5) (by kernel_rfl) (by kernel_rfl) (by kernel_rfl)
  obtain ⟨a3, s3, c3, t3, g3, k3, l3, m3, n3⟩ := sent_of hp 5 2 (n := "philtre/api.ErrLong") (text := [108, 111, 110, 103]) (r := plainL.drop 6) (by kernel_rfl) (by kernel_rfl) (by kernel_rfl)
  obtain ⟨a4, s4, c4, t4, g4, k4, l4, m4, n4⟩ := sent_of hp 6 3 (n := "philtre/api.ErrRange") (text := [114, 97, 110, 103, 101]) (r := plainL.drop 7) (by kernel_rfl) (by kernel_rfl) (by kernel_rfl)
  obtain ⟨a5, s5, c5, t5, g5, k5, l5, m5, n5⟩ := sent_of hp 22 21 (n := "strconv.ErrRange") (text := [118, 97, 108, 117, 101, 32, 111, 117, 116, 32, 111, 102, 32, 114, 97, 110, 103, 101]) (r := plainL.drop 23) (by kernel_rfl) (by kernel_rfl) (by kernel_rfl)
  have hd2 := laid_drop 2 hp
  have e2 : plainL.drop 2 = ("internal/strconv.uint64pow10", Lib.tabData .u64 Lib.pow10Tab) :: plainL.drop 3 := by kernel_rfl
  rw [e2] at hd2
  have htab := Lib.tabIs_of_head (g := 22) (t := 106) (e := 47) (n := 20) (by kernel_rfl) (by kernel_rfl) Tryd.underlying106 Tryd.underlying47 (by kernel_rfl) (by kernel_rfl) hd2
  have h22 : ∃ t, W.heap[22]? = some (.cells (Lib.pow10Tab.map fun z => Value.int .u64 z).toArray t (0, 0)) := by
    obtain ⟨ps, ⟨g0, t0, cs0, f0, p0, q0, hg0, ht0, hv0, hd0, hq0, e0⟩, hnd, hrows⟩ := hd2
    have hgg : Tryd.prog.globalNamed "internal/strconv.uint64pow10" = some 22 := by kernel_rfl
    obtain rfl := Option.some.inj (hgg.symm.trans hg0)
    have hsz : 0 < cs0.size := by
      unfold Lib.TabIs at htab
      rw [hv0] at htab
      rw [Option.some.inj htab]
      decide
    obtain ⟨c, t, e⟩ := (hrows 22 0 (by
      rw [e0]
      refine List.mem_append_left _ (List.mem_append_left _ ?_)
      simp only [MemPlace.row]
      simp
      omega)).1
    unfold Lib.TabIs World.var? at htab
    rw [hgg] at htab
    simp [e] at htab
    exact ⟨t, by rw [e, htab]⟩
  obtain ⟨t22, e22⟩ := h22
  refine ⟨[6, 0, 1, 2, 3, 21, 22, a1.block, a2.block, a3.block, a4.block], fun c => if c = 1 then a1 else if c = 2 then a2 else if c = 3 then a3 else a4, 115, .pointer (some a5), ?_⟩
  have x6 : c6 = #[.iface 78 (.agg #[.pointer (some ⟨25, 24, none⟩)])] := by
    unfold World.var? at h6
    rw [et6] at h6
    simp [e6] at h6
    exact h6
  have hne : ∀ {a b : Addr} {s t : ByteArray} {l m : List UInt8}, W.cell? a = some (.string s) → s.data.toList = l → W.cell? b = some (.string t) → t.data.toList = m → l ≠ m → a ≠ b := by
    rintro a b s t l m h1 h2 h3 h4 h5 rfl
    rw [h1] at h3
    cases h3
    exact h5 (h2.symm.trans h4)
  have n12 := hne l1 m1 l2 m2 (by decide)
  have n13 := hne l1 m1 l3 m3 (by decide)
  have n14 := hne l1 m1 l4 m4 (by decide)
  have n23 := hne l2 m2 l3 m3 (by decide)
  have n24 := hne l2 m2 l4 m4 (by decide)
  have n34 := hne l3 m3 l4 m4 (by decide)
  refine ⟨?_, ?_, ?_, ?_, ?_, fun c h1 h2 => ?_, fun c d h1 h2 h3 h4 h5 => ?_, ?_, ?_⟩
  · rw [stoOf_at (by simp) e6, x6]; rfl
  · rw [stoOf_at (by simp) k1]; rfl
  · rw [stoOf_at (by simp) k2]; rfl
  · rw [stoOf_at (by simp) k3]; rfl
  · rw [stoOf_at (by simp) k4]; rfl
  · have hc : c = 1 ∨ c = 2 ∨ c = 3 ∨ c = 4 := by omega
    rcases hc with rfl | rfl | rfl | rfl
    · exact ⟨_, stoOf_at (by simp) n1⟩
    · exact ⟨_, stoOf_at (by simp) n2⟩
    · exact ⟨_, stoOf_at (by simp) n3⟩
    · exact ⟨_, stoOf_at (by simp) n4⟩
  · have hc : c = 1 ∨ c = 2 ∨ c = 3 ∨ c = 4 := by omega
    have hd : d = 1 ∨ d = 2 ∨ d = 3 ∨ d = 4 := by omega
    rcases hc with rfl | rfl | rfl | rfl <;> rcases hd with rfl | rfl | rfl | rfl <;> first | exact absurd rfl h5 | skip
    · exact n12
    · exact n13
    · exact n14
    · exact n12.symm
    · exact n23
    · exact n24
    · exact n13.symm
    · exact n23.symm
    · exact n34
    · exact n14.symm
    · exact n24.symm
    · exact n34.symm
  · rw [stoOf_at (by simp) k5]; rfl
  · rw [stoOf_at (by simp) e22]
    simp
end Go.Proofs.YtcjiebgnccaogaaDoor
