/- A slice of operations that can be read is a list of abstract rows. -/
import Derived.Test.YteddhilaehfgbaaExact
import Derived.Test.YteddhilaehfgbaaBridge
import Derived.Deep.Slices
import Derived.Deep.Strs
namespace Go.Proofs.Yteddhilaehfgbaa
open Go Go.Aw Go.ChangeShapes Go.WideShapes Go.ChangeAt Go.RowKit Go.Joins Go.Deep
set_option linter.unusedVariables false
set_option linter.unusedSimpArgs false

theorem cellsO : Try.prog.cellsOf 30 = 5 := by kernel_rfl
theorem cellsI : Try.prog.cellsOf 3 = 1 := by kernel_rfl
theorem cellsS : Try.prog.cellsOf 9 = 1 := by kernel_rfl
theorem cellsB : Try.prog.cellsOf 4 = 1 := by kernel_rfl
theorem cellsCC : Try.prog.cellsOf 28 = 3 := by kernel_rfl

def valO (o : OpV) : List Value := [.int .i64 o.kind, .int .i64 o.n, .string o.c.key, .bool o.c.has, .string o.c.value]

theorem add_none (b o n : Nat) : (⟨b, o, Option.none⟩ : Addr).add n = ⟨b, o + n, Option.none⟩ := by
  unfold Addr.add
  split
  · subst_vars; rfl
  · rfl

theorem spot_none {w : World} {a : Addr} {v : Value} (h : w.cell? a = some v) : a.spot = Option.none := by
  unfold World.cell? at h
  split at h
  · split at h
    · cases h
    · rename_i hs; simpa using hs
  · cases h

section
variable {H : Type} {enc : TypeId × Value → H}

theorem op_of {W : World} {base : Nat} {sp : Nat → Bool} {hd : Bool} {fuel : Nat} {cs : List Value} {x : DataW H × List MemPlace}
    (h : DataW.trod enc Try.prog W base sp hd fuel 30 cs = some x) : ∃ o : OpV, cs = valO o ∧ (-9223372036854775808 ≤ o.n ∧ o.n ≤ 9223372036854775807) := by
  obtain ⟨y0, y1, y2, n, -, hl, h0, h1, h2⟩ := trod_struct3 Try.underlying30 h
  rw [cellsO] at hl
  obtain ⟨k, e0, -, -⟩ := DataW.trod_int Try.underlying3 h0
  obtain ⟨m, e1, -, w1⟩ := DataW.trod_int Try.underlying3 h1
  obtain ⟨z0, z1, z2, n', -, hl2, j0, j1, j2⟩ := trod_struct3 Try.underlying28 h2
  obtain ⟨s0, e2, -, -⟩ := DataW.trod_string Try.underlying9 j0
  obtain ⟨b, e3, -⟩ := DataW.trod_bool Try.underlying4 j1
  obtain ⟨s2, e4, -, -⟩ := DataW.trod_string Try.underlying9 j2
  match cs, hl with
  | [c0, c1, c2, c3, c4], _ =>
    refine ⟨⟨k, m, ⟨s0, b, s2⟩⟩, ?_, ?_⟩
    · simp [cellsI, cellsS, cellsB, cellsCC] at e0 e1 e2 e3 e4
      simp [valO, e0, e1, e2, e3, e4]
    · simpa [Lit.wf, IntKind.min, IntKind.max, IntKind.signed, IntKind.bits] using w1

theorem ops_rel {W : World} {sp : Nat → Bool} {hd : Bool} {a0 : Option Addr} {len cap : Nat} {d : DataW H} {p : List MemPlace}
    (h : DataW.Trod enc Try.prog W 0 sp hd 22 (.slice a0 len cap) d p) :
    ∃ l : List OpV, l.length = len ∧ Rel nil0 W (.slice .dead (l.map encO)) (.slice a0 len cap) := by
  obtain ⟨fuel, hf⟩ := h
  simp only [Value.cells] at hf
  rcases open_slice Try.underlying22 hf with ⟨hcs, -⟩ | ⟨a, len', cap', m, n, D, Pl, hcs, hb, hl, hc, hm, -, hel⟩
  · simp at hcs
    obtain ⟨rfl, rfl, rfl⟩ := hcs
    refine ⟨[], rfl, ?_⟩
    exact Rel.slice .dead [] _ 0 0 5 (fun _ => .bool false) rfl (by omega) (by simp) trivial (by simp) (by simp)
  · simp at hcs
    obtain ⟨rfl, rfl, rfl⟩ := hcs
    have hmlen : len ≤ m := by rw [hm]; split <;> omega
    have each : ∀ i, i < len → ∃ o : OpV, ∀ j, j < 5 → W.cell? ⟨a.block, a.off + (i * 5 + j), Option.none⟩ = (valO o)[j]? := by
      intro i hi
      obtain ⟨cs', h1, h2⟩ := hel i (by omega)
      rw [cellsO] at h1
      obtain ⟨o, rfl, -⟩ := op_of h2
      refine ⟨o, fun j hj => ?_⟩
      obtain ⟨-, -, h3⟩ := World.cells?_some h1
      have hsp : ∀ c v, W.cell? (a.add c) = some v → a.add c = ⟨a.block, a.off + c, Option.none⟩ := by
        intro c v hv
        have := spot_none hv
        unfold Addr.add at this ⊢
        split
        · rename_i hc0; subst hc0
          cases a; simp at this ⊢; exact this
        · rfl
      have h30 : W.cell? (a.add (i * 5)) = some (.int .i64 o.kind) := by
        have := h3 0 (by omega)
        simpa [Addr.add, valO] using this
      have h4 := h3 j hj
      rw [hsp _ _ h30, add_none] at h4
      rw [← h4, Nat.add_assoc]
    let f : Fin len → OpV := fun i => Classical.choose (each i i.2)
    have hf : ∀ i (hi : i < len) j, j < 5 → W.cell? ⟨a.block, a.off + (i * 5 + j), Option.none⟩ = (valO (f ⟨i, hi⟩))[j]? := fun i hi => Classical.choose_spec (each i hi)
    clear_value f
    have hlen : (List.ofFn f).length = len := by simp
    refine ⟨List.ofFn f, hlen, ?_⟩
    have hr5 : ∀ r ∈ (List.ofFn f).map encO, r.length = 5 := by
      intro r hr
      obtain ⟨o, -, rfl⟩ := List.mem_map.1 hr
      rfl
    have key : ∀ (q : Nat) (c : AV), ((List.ofFn f).map encO).flatten[q]? = some c → ∃ v, W.cell? ⟨a.block, a.off + q, Option.none⟩ = some v ∧ c = .sc v := by
      intro q c hq
      have hlt : q < len * 5 := by
        have h1 := (List.getElem?_eq_some_iff.1 hq).1
        rw [length_flatten_of 5 _ hr5] at h1
        simpa using h1
      have hi : q / 5 < len := by omega
      have hj : q % 5 < 5 := by omega
      have e1 : ((List.ofFn f).map encO)[q / 5]? = some (encO (f ⟨q / 5, hi⟩)) := by simp [hi]
      have hv := hf (q / 5) hi (q % 5) hj
      rw [show q / 5 * 5 + q % 5 = q by omega] at hv
      have e3 : ∀ j, j < 5 → ∀ o : OpV, ∃ v, (valO o)[j]? = some v ∧ (encO o)[j]? = some (.sc v) := by
        intro j hj o
        match j, hj with
        | 0, _ => exact ⟨_, rfl, rfl⟩
        | 1, _ => exact ⟨_, rfl, rfl⟩
        | 2, _ => exact ⟨_, rfl, rfl⟩
        | 3, _ => exact ⟨_, rfl, rfl⟩
        | 4, _ => exact ⟨_, rfl, rfl⟩
      obtain ⟨v, k1, k2⟩ := e3 (q % 5) hj (f ⟨q / 5, hi⟩)
      refine ⟨v, by rw [hv, k1], ?_⟩
      have := flatten_get _ 5 (q / 5) (q % 5) _ _ hr5 e1 k2
      rw [show q / 5 * 5 + q % 5 = q by omega, hq] at this
      exact Option.some.inj this
    by_cases hz : len = 0
    · subst hz
      refine Rel.slice .dead _ _ 0 cap 5 (fun _ => .bool false) (by simp) hl hr5 trivial (fun q c hq => ?_) (fun q c hq => ?_) <;> simp at hq
    · have ha : some a = some (⟨a.block, a.off, Option.none⟩ : Addr) := by
        obtain ⟨cs', h1, h2⟩ := hel 0 (by omega)
        rw [cellsO] at h1
        obtain ⟨o, rfl, -⟩ := op_of h2
        obtain ⟨-, -, h3⟩ := World.cells?_some h1
        have := h3 0 (by omega)
        have hs : a.spot = Option.none := spot_none (v := .int .i64 o.kind) (by simpa [Addr.add, valO] using this)
        cases a; simp at hs; simp [hs]
      refine Rel.slice .dead _ _ len cap 5 (fun q => (W.cell? ⟨a.block, a.off + q, Option.none⟩).getD (.bool false)) (by simp) hl hr5 trivial (fun q c hq => ?_) (fun q c hq => ?_)
      · obtain ⟨v, hv, -⟩ := key q c hq
        exact ⟨a.block, a.off, ha, .inl rfl, by rw [hv]; rfl⟩
      · obtain ⟨v, hv, rfl⟩ := key q c hq
        simp only [hv, Option.getD_some]
        exact .sc v
end
end Go.Proofs.Yteddhilaehfgbaa
