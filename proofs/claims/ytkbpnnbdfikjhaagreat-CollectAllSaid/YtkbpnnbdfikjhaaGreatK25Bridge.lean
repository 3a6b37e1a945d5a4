/- From the readings of a row to abstract values and back. -/
import Derived.Test.YtkbpnnbdfikjhaaGreatK16Same1
import Derived.Test.YtkbpnnbdfikjhaaGreatRows
import Derived.ProofKit
import Derived.OpenShut
import Derived.Below
import Derived.ChangeSame
import Derived.JoinedOf
import Derived.Carry
import Derived.Lib.SmallJoins
import Derived.Deep.Slices
import Derived.Deep.Strs
namespace Go.Aw
open Go Go.ChangeShapes Go.WideShapes Go.ChangeAt Go.RowKit Go.Joins
set_option linter.unusedVariables false
set_option linter.unusedSimpArgs false

/-- what was there at the call is there as it was -/
structure Kept (w w' : World) : Prop where
  os : w'.os = w.os
  output : w'.output = w.output
  size : w.heap.size ≤ w'.heap.size
  block : ∀ k, k < w.heap.size → w'.heap[k]? = w.heap[k]?

def nil0 : Sto := fun _ => none

theorem Kept.of_ext {W W' : World} {σ' : Sto} (h : Ext nil0 W σ' W') : Kept W W' :=
  ⟨h.same.1, h.same.2, h.size, fun k hk => (h.keep k hk rfl).1⟩

theorem st_nil (w : World) : St nil0 w := by
  constructor <;> intros <;> rename_i h <;> cases h

theorem Kept.frame {W W' : World} (h : Kept W W') (may : MemPlace → Prop) : W.keptBut W' may := by
  refine ⟨h.os, h.output, fun i hi => ?_⟩
  rw [h.block i hi]
  split <;> simp_all

theorem Kept.same {W W' : World} (h : Kept W W') {p : MemPlace} (hp : p.block < W.heap.size) : W.sameAt W' p := by
  cases p with
  | cell b o => exact World.cell?_of_block (w := W) (h.block b hp)
  | map b => exact h.block b hp

theorem Kept.frozen {w w' : World} (h : Kept w w') {p : Addr} (hp : p.block < w.heap.size) : w'.frozen? p = w.frozen? p := World.frozen?_of_block (w := w) (h.block p.block hp)

theorem RelL.nil (σ : Sto) (w : World) : RelL σ w [] (#[] : Array Value) := ⟨rfl, fun i c v hc hv => by simp at hc⟩
theorem RelL.cons {σ : Sto} {w : World} {c : AV} {v : Value} {cs : List AV} {vs : List Value} (h : Rel σ w c v) (h' : RelL σ w cs vs.toArray) : RelL σ w (c :: cs) (v :: vs).toArray := by
  have hl := h'.1
  refine ⟨by simpa using hl, fun i c' v' hc hv => ?_⟩
  cases i with
  | zero => simp at hc hv; subst hc hv; exact h
  | succ i => simp at hc hv; exact h'.2 i c' v' hc (by simpa using hv)

section
variable {H : Type} {enc : TypeId × Value → H} {P : Program}

theorem trodAll_kept (hl : laidOutB P = true) {W W' : World} (hk : Kept W W') {sp : Nat → Bool} : ∀ (ts : List TypeId) (vs : List Value) (ds : List (DataW H)) (ps : List MemPlace),
    (∀ t ∈ ts, P.readableRec t = true ∧ t < P.types.size) → DataW.TrodAll enc P W 0 (fun _ => true) true ts vs ds ps → (∀ p ∈ ps, p.block < W.heap.size) → (∀ p ∈ ps, sp p.block = true) →
    DataW.TrodAll enc P W' 0 sp true ts vs ds ps
  | [], vs, ds, ps, _, h, _, _ => by
    obtain ⟨rfl, rfl, rfl⟩ := trodAll_nil h
    exact trodAll_mk0
  | t :: ts, vs, ds, ps, hr, h, hlt, hs => by
    obtain ⟨v, vs', d, ds', p, q, rfl, rfl, rfl, h0, r0⟩ := trodAll_cons h
    obtain ⟨r1, r2⟩ := hr t (by simp)
    exact trodAll_cons_mk (WideElems.Trod_stays hl r1 r2 h0 (fun x hx => hk.same (hlt x (by simp [hx]))) (fun x hx => hs x (by simp [hx])))
      (trodAll_kept hl hk ts vs' ds' q (fun t ht => hr t (by simp [ht])) r0 (fun x hx => hlt x (by simp [hx])) (fun x hx => hs x (by simp [hx])))

theorem post_of_kept {f : Func} {s : ChangeSpec} {apart fresh handsOn again : Bool} {W W' : World} {args : Array Value} {v : Value} {ds gs : List (DataW H)} {before pa pv : List MemPlace}
    (hW : DataW.Whole enc P f.params.toList s.vars apart W args.toList ds gs before)
    (hres : ∀ (b : Nat) (sp : Nat → Bool) (hd : Bool), DataW.TrodAll enc P W' b sp hd f.resultTypes.toList (v.resultList f.resultTypes.size) (s.fn H (ds ++ gs)).results [])
    (hargs : ∀ sp : Nat → Bool, (∀ p ∈ before, sp p.block = true) → DataW.TrodAll enc P W' 0 sp true f.params.toList args.toList (s.fn H (ds ++ gs)).args pa)
    (hvars : ∀ sp : Nat → Bool, (∀ p ∈ before, sp p.block = true) → DataW.TrodVars enc P W' sp s.vars (s.fn H (ds ++ gs)).vars pv)
    (hps : before = pa ++ pv) (hb : Kept W W')
    (hok : ∀ (j : Nat) (t : TypeId) (r : Value), f.resultTypes[j]? = some t → (v.resultList f.resultTypes.size)[j]? = some r → Value.okWide P W' .any 0 t r) :
    s.post enc P f apart fresh handsOn again W args v W' := by
  have hlt : ∀ p ∈ before, p.block < W.heap.size := fun p hp => hW.lt p hp
  have hold : ∀ p ∈ before, (fun b => decide (b < W.heap.size)) p.block = true := fun p hp => by simpa using hlt p hp
  refine ⟨ds, gs, before, [], pa, pv, hW, hres _ _ _, hargs _ hold, hvars _ hold, World.keptBut_mono (fun p hp => ⟨hp, ?_⟩) (hb.frame (· ∈ before)), fun _ => ?_⟩
  · rw [hps, List.mem_append] at hp
    exact Or.inr hp
  · obtain ⟨_, _, _, _, _, hz, hn⟩ := hW
    refine ⟨hok, _, _, ([] ++ pa) ++ pv, ⟨[] ++ pa, pv, trodAll_append (hargs _ (fun _ _ => rfl)) (hres _ _ _), hvars _ (fun _ _ => rfl), rfl, ?_, ?_⟩, ?_⟩
    · intro b off hp
      have hin : MemPlace.cell b off ∈ before := by rw [hps]; simpa using hp
      rw [hb.frozen (hlt _ hin)]
      exact hz b off hin
    · intro ha
      have := hn ha
      rw [hps] at this
      simpa using this
    · intro p hp _
      rw [hps]
      simpa using hp
end

theorem spot_none {w : World} {a : Addr} {v : Value} (h : w.cell? a = some v) : a.spot = Option.none := by
  unfold World.cell? at h
  split at h
  · split at h
    · cases h
    · rename_i hs; simpa using hs
  · cases h
theorem add_none (b o n : Nat) : (⟨b, o, Option.none⟩ : Addr).add n = ⟨b, o + n, Option.none⟩ := by
  unfold Addr.add
  split
  · subst_vars; rfl
  · rfl
theorem flat_len {n : Nat} : ∀ (rows : List (List AV)), (∀ r ∈ rows, r.length = n) → rows.flatten.length = rows.length * n
  | [], _ => by simp
  | r :: l, h => by
    rw [List.flatten_cons, List.length_append, h r (by simp), flat_len l fun x hx => h x (by simp [hx]), List.length_cons, Nat.succ_mul, Nat.add_comm]
theorem flat_get {n : Nat} : ∀ (rows : List (List AV)) (i j : Nat) (r : List AV), (∀ r ∈ rows, r.length = n) → rows[i]? = some r → j < n → rows.flatten[i * n + j]? = r[j]?
  | [], i, j, r, _, h, _ => by simp at h
  | r0 :: l, 0, j, r, h, hr, hj => by
    simp at hr; subst hr
    rw [Nat.zero_mul, Nat.zero_add, List.flatten_cons, List.getElem?_append_left (by rw [h r0 (by simp)]; exact hj)]
  | r0 :: l, i + 1, j, r, h, hr, hj => by
    have h0 := h r0 (by simp)
    rw [List.flatten_cons, List.getElem?_append_right (by rw [h0, Nat.succ_mul]; omega), h0, show (i + 1) * n + j - n = i * n + j by rw [Nat.succ_mul]; omega]
    exact flat_get l i j r (fun x hx => h x (by simp [hx])) (by simpa using hr) hj

/-- A slice that can be read is a list of abstract rows, where its elements are. -/
theorem slice_rel {H : Type} {enc : TypeId × Value → H} {P : Program} {α : Type} (en : α → List AV) (n : Nat) (hn : 0 < n) {t e : TypeId} (ht : P.underlying t = some (.slice e)) (hc : P.cellsOf e = n) (hen : ∀ o, (en o).length = n) (good : α → Prop)
    {W : World} {base : Nat} {sp : Nat → Bool} {hd : Bool}
    (each : ∀ (fuel : Nat) (cs : List Value) (x : DataW H × List MemPlace), DataW.trod enc P W base sp hd fuel e cs = some x → ∃ o, good o ∧ cs.length = n ∧ ∀ (j : Nat) (c : AV) (v : Value), (en o)[j]? = some c → cs[j]? = some v → Rel nil0 W c v)
    {fuel : Nat} {cs0 : List Value} {x0 : DataW H × List MemPlace} (hf : DataW.trod enc P W base sp hd fuel t cs0 = some x0) :
    ∃ (a0 : Option Addr) (len cap : Nat) (l : List α), cs0 = [.slice a0 len cap] ∧ (∀ o ∈ l, good o) ∧ Rel nil0 W (.slice .dead (l.map en)) (.slice a0 len cap) := by
  rcases Deep.open_slice ht hf with ⟨hcs, -⟩ | ⟨a, len, cap, m, k, D, Pl, hcs, hb, hl, hcap, hm, -, hel⟩
  · refine ⟨Option.none, 0, 0, [], hcs, by simp, ?_⟩
    exact Rel.slice .dead [] _ 0 0 n (fun _ => .bool false) rfl (by omega) (by simp) trivial (by simp) (by simp)
  · have hmlen : len ≤ m := by rw [hm]; split <;> omega
    have one : ∀ i, i < len → ∃ o : α, good o ∧ a.spot = Option.none ∧ ∀ j, j < n → ∃ v, W.cell? ⟨a.block, a.off + (i * n + j), Option.none⟩ = some v ∧ ∀ c, (en o)[j]? = some c → Rel nil0 W c v := by
      intro i hi
      obtain ⟨cs', h1, h2⟩ := hel i (by omega)
      rw [hc] at h1
      obtain ⟨o, hg, hlen, hr⟩ := each _ _ _ h2
      obtain ⟨-, -, h3⟩ := World.cells?_some h1
      have hsp : ∀ c v, W.cell? (a.add c) = some v → a.add c = ⟨a.block, a.off + c, Option.none⟩ := by
        intro c v hv
        have := spot_none hv
        unfold Addr.add at this ⊢
        split
        · rename_i hc0; subst hc0
          cases a; simp at this ⊢; exact this
        · rfl
      have h30 : ∃ v, W.cell? (a.add (i * n)) = some v := by
        have := h3 0 hn
        rw [List.getElem?_eq_getElem (by omega)] at this
        exact ⟨_, by simpa [Addr.add] using this⟩
      obtain ⟨v0, h30⟩ := h30
      refine ⟨o, hg, ?_, fun j hj => ?_⟩
      · have := spot_none h30
        unfold Addr.add at this
        split at this
        · exact this
        · rename_i hne
          cases hs : a.spot with
          | none => rfl
          | some q =>
            exfalso
            obtain ⟨v1, hv1⟩ : ∃ v, W.cell? a = some v := by
              obtain ⟨cs1, k1, k2⟩ := hel 0 (by omega)
              rw [hc] at k1
              obtain ⟨o1, -, hlen1, -⟩ := each _ _ _ k2
              obtain ⟨-, -, k3⟩ := World.cells?_some k1
              have := k3 0 hn
              rw [List.getElem?_eq_getElem (by omega)] at this
              exact ⟨_, by simpa [Addr.add] using this⟩
            have := spot_none hv1
            rw [hs] at this
            cases this
      · have h4 := h3 j hj
        rw [hsp _ _ h30, add_none, List.getElem?_eq_getElem (by omega)] at h4
        exact ⟨cs'[j], by rw [← h4, Nat.add_assoc], fun c hcj => hr j c _ hcj (List.getElem?_eq_getElem (by omega))⟩
    let f : Fin len → α := fun i => Classical.choose (one i i.2)
    have hf : ∀ i (hi : i < len), good (f ⟨i, hi⟩) ∧ a.spot = Option.none ∧ ∀ j, j < n → ∃ v, W.cell? ⟨a.block, a.off + (i * n + j), Option.none⟩ = some v ∧ ∀ c, (en (f ⟨i, hi⟩))[j]? = some c → Rel nil0 W c v := fun i hi => Classical.choose_spec (one i hi)
    clear_value f
    have hr5 : ∀ r ∈ (List.ofFn f).map en, r.length = n := by
      intro r hr
      obtain ⟨o, -, rfl⟩ := List.mem_map.1 hr
      exact hen o
    have hlen : (List.ofFn f).length = len := by simp
    refine ⟨some a, len, cap, List.ofFn f, hcs, fun o ho => ?_, ?_⟩
    · obtain ⟨i, hi, rfl⟩ := List.getElem_of_mem ho
      have hi' : i < len := by rw [hlen] at hi; exact hi
      simpa using (hf i hi').1
    · have key : ∀ (q : Nat) (c : AV), ((List.ofFn f).map en).flatten[q]? = some c → a.spot = Option.none ∧ ∃ v, W.cell? ⟨a.block, a.off + q, Option.none⟩ = some v ∧ Rel nil0 W c v := by
        intro q c hq
        have hlt : q < len * n := by
          have h1 := (List.getElem?_eq_some_iff.1 hq).1
          rw [flat_len _ hr5] at h1
          simpa using h1
        have hi : q / n < len := Nat.div_lt_of_lt_mul (by rw [Nat.mul_comm]; exact hlt)
        have hj : q % n < n := Nat.mod_lt _ hn
        have e1 : ((List.ofFn f).map en)[q / n]? = some (en (f ⟨q / n, hi⟩)) := by simp [hi]
        obtain ⟨g1, g2, g3⟩ := hf (q / n) hi
        obtain ⟨v, k1, k2⟩ := g3 (q % n) hj
        have e2 := flat_get _ (q / n) (q % n) _ hr5 e1 hj
        have e3 : q / n * n + q % n = q := by rw [Nat.mul_comm]; exact Nat.div_add_mod q n
        rw [e3] at e2 k1
        exact ⟨g2, v, k1, k2 c (by rw [← e2]; exact hq)⟩
      refine Rel.slice .dead _ _ len cap n (fun q => (W.cell? ⟨a.block, a.off + q, Option.none⟩).getD (.bool false)) (by simp) hl hr5 trivial (fun q c hq => ?_) (fun q c hq => ?_)
      · obtain ⟨hs, v, hv, -⟩ := key q c hq
        exact ⟨a.block, a.off, by cases a; simp at hs; simp [hs], .inl rfl, by rw [hv]; rfl⟩
      · obtain ⟨hs, v, hv, hr⟩ := key q c hq
        simpa only [hv, Option.getD_some] using hr
end Go.Aw

/- From the readings of arguments to abstract values: configurations, rows of changes, bytes. -/
namespace Go.Proofs.YtkbpnnbdfikjhaaGreat
open Go Go.Aw Go.ChangeShapes Go.WideShapes Go.ChangeAt Go.RowKit Go.Joins
set_option linter.unusedVariables false
set_option linter.unusedSimpArgs false
set_option maxRecDepth 10000

theorem own : ownKnob Tryz.prog.godebug = none := by kernel_rfl
theorem laidOut : laidOutB Tryz.prog = true := by kernel_rfl
theorem readConf : Tryz.prog.readableRec 24 = true := by kernel_rfl
theorem readRows : Tryz.prog.readableRec 25 = true := by kernel_rfl
theorem readBytes : Tryz.prog.readableRec 26 = true := by kernel_rfl
theorem cells24 : Tryz.prog.cellsOf 24 = 6 := by kernel_rfl
theorem cells3 : Tryz.prog.cellsOf 3 = 1 := by kernel_rfl
theorem cells22 : Tryz.prog.cellsOf 22 = 1 := by kernel_rfl
theorem cells39 : Tryz.prog.cellsOf 39 = 1 := by kernel_rfl
theorem cells59 : Tryz.prog.cellsOf 59 = 3 := by kernel_rfl
theorem cells5 : Tryz.prog.cellsOf 5 = 1 := by kernel_rfl
theorem cells9 : Tryz.prog.cellsOf 9 = 1 := by kernel_rfl
theorem cells4 : Tryz.prog.cellsOf 4 = 1 := by kernel_rfl

theorem bool_of {σ : Sto} {w : World} {v : Value} {b : Bool} (h : Rel σ w (.sc (.bool b)) v) : v = .bool b := by cases h; rfl

section
variable {H : Type} {enc : TypeId × Value → H}

/-- a configuration -/
theorem conf_of {W : World} {base : Nat} {sp : Nat → Bool} {hd : Bool} {fuel : Nat} {cs : List Value} {x : DataW H × List MemPlace} (h : DataW.trod enc Tryz.prog W base sp hd fuel 24 cs = some x) :
    ∃ c : Cfg, cs = [.int .i64 c.cap, .int .i64 c.pins, .int .i64 c.shelves, .int .i64 c.queue, .int .i64 c.watchers, .int .u64 c.seed] := by
  obtain ⟨xs, n, -, -, hl, hxs, hf⟩ := DataW.trod_struct Tryz.underlying24 h
  rw [cells24] at hl
  have hone : ∀ (t : TypeId) (k : IntKind) (i : Nat) (f : Field) (m : Nat), Tryz.prog.underlying t = some (.int k) → f.type = t → f.offset = i → Tryz.prog.cellsOf t = 1 → DataW.trod enc Tryz.prog W base sp hd n f.type ((cs.drop f.offset).take (Tryz.prog.cellsOf f.type)) = xs[i]? → i < xs.length → ∃ z, (cs.drop i).take 1 = [.int k z] := by
    intro t k i f m ht h1 h2 h3 h4 hi
    rw [h1, h2, h3, List.getElem?_eq_getElem hi] at h4
    obtain ⟨z, e, -, -⟩ := DataW.trod_int ht h4
    exact ⟨z, e⟩
  have h6 : xs.length = 6 := hxs
  obtain ⟨z0, e0⟩ := hone 3 .i64 0 _ 0 Tryz.underlying3 rfl rfl cells3 (hf 0 _ rfl) (by omega)
  obtain ⟨z1, e1⟩ := hone 3 .i64 1 _ 0 Tryz.underlying3 rfl rfl cells3 (hf 1 _ rfl) (by omega)
  obtain ⟨z2, e2⟩ := hone 3 .i64 2 _ 0 Tryz.underlying3 rfl rfl cells3 (hf 2 _ rfl) (by omega)
  obtain ⟨z3, e3⟩ := hone 3 .i64 3 _ 0 Tryz.underlying3 rfl rfl cells3 (hf 3 _ rfl) (by omega)
  obtain ⟨z4, e4⟩ := hone 3 .i64 4 _ 0 Tryz.underlying3 rfl rfl cells3 (hf 4 _ rfl) (by omega)
  obtain ⟨z5, e5⟩ := hone 22 .u64 5 _ 0 Tryz.underlying22 rfl rfl cells22 (hf 5 _ rfl) (by omega)
  match cs, hl with
  | [c0, c1, c2, c3, c4, c5], _ =>
    refine ⟨⟨z0, z1, z2, z3, z4, z5⟩, ?_⟩
    simp at e0 e1 e2 e3 e4 e5
    simp [e0, e1, e2, e3, e4, e5]

/-- a change -/
theorem change_of {W : World} {base : Nat} {sp : Nat → Bool} {hd : Bool} (fuel : Nat) (cs : List Value) (x : DataW H × List MemPlace) (h : DataW.trod enc Tryz.prog W base sp hd fuel 59 cs = some x) :
    ∃ o : Ch, True ∧ cs.length = 3 ∧ ∀ (j : Nat) (c : AV) (v : Value), (encCh o)[j]? = some c → cs[j]? = some v → Rel nil0 W c v := by
  obtain ⟨y0, y1, y2, n, -, hl, h0, h1, h2⟩ := Deep.trod_struct3 Tryz.underlying59 h
  rw [cells59] at hl
  obtain ⟨s0, e0, -, -⟩ := DataW.trod_string Tryz.underlying9 h0
  obtain ⟨b, e1, -⟩ := DataW.trod_bool Tryz.underlying4 h1
  obtain ⟨s2, e2, -, -⟩ := DataW.trod_string Tryz.underlying9 h2
  match cs, hl with
  | [c0, c1, c2], _ =>
    refine ⟨⟨s0, b, s2⟩, trivial, rfl, fun j c v hc hv => ?_⟩
    simp [cells9, cells4] at e0 e1 e2
    subst e0 e1 e2
    match j, hc, hv with
    | 0, hc, hv => simp at hc hv; subst hc hv; exact .sc _
    | 1, hc, hv => simp at hc hv; subst hc hv; exact .sc _
    | 2, hc, hv => simp at hc hv; subst hc hv; exact .sc _
    | j + 3, hc, hv => simp at hc

/-- a row of changes -/
theorem row_of {W : World} {base : Nat} {sp : Nat → Bool} {hd : Bool} (fuel : Nat) (cs : List Value) (x : DataW H × List MemPlace) (h : DataW.trod enc Tryz.prog W base sp hd fuel 39 cs = some x) :
    ∃ o : Tok × List Ch, True ∧ cs.length = 1 ∧ ∀ (j : Nat) (c : AV) (v : Value), (encRow o)[j]? = some c → cs[j]? = some v → Rel nil0 W c v := by
  obtain ⟨a0, len, cap, l, rfl, -, hr⟩ := slice_rel encCh 3 (by omega) Tryz.underlying39 cells59 (fun _ => rfl) (fun _ => True) change_of h
  refine ⟨(.dead, l), trivial, rfl, fun j c v hc hv => ?_⟩
  match j, hc, hv with
  | 0, hc, hv => simp at hc hv; subst hc hv; exact hr
  | j + 1, hc, hv => simp at hc

/-- a byte -/
theorem byte_of {W : World} {base : Nat} {sp : Nat → Bool} {hd : Bool} (fuel : Nat) (cs : List Value) (x : DataW H × List MemPlace) (h : DataW.trod enc Tryz.prog W base sp hd fuel 5 cs = some x) :
    ∃ n : Int, (0 ≤ n ∧ n < 256) ∧ cs.length = 1 ∧ ∀ (j : Nat) (c : AV) (v : Value), ([.sc (.int .u8 n)] : List AV)[j]? = some c → cs[j]? = some v → Rel nil0 W c v := by
  obtain ⟨z, rfl, -, w⟩ := DataW.trod_int Tryz.underlying5 h
  have b0 : 0 ≤ z ∧ z ≤ 255 := by simpa [Lit.wf, IntKind.min, IntKind.max, IntKind.signed, IntKind.bits] using w
  refine ⟨z, by omega, rfl, fun j c v hc hv => ?_⟩
  match j, hc, hv with
  | 0, hc, hv => simp at hc hv; subst hc hv; exact .sc _
  | j + 1, hc, hv => simp at hc

theorem conf_rel {W : World} (c : Cfg) : Rel nil0 W (.agg (rowC c)) (.agg #[.int .i64 c.cap, .int .i64 c.pins, .int .i64 c.shelves, .int .i64 c.queue, .int .i64 c.watchers, .int .u64 c.seed]) := by
  refine .agg _ _ rfl fun i x v hx hv => ?_
  match i, hx, hv with
  | 0, hc, hv => simp at hc hv; subst hc hv; exact .sc _
  | 1, hc, hv => simp at hc hv; subst hc hv; exact .sc _
  | 2, hc, hv => simp at hc hv; subst hc hv; exact .sc _
  | 3, hc, hv => simp at hc hv; subst hc hv; exact .sc _
  | 4, hc, hv => simp at hc hv; subst hc hv; exact .sc _
  | 5, hc, hv => simp at hc hv; subst hc hv; exact .sc _
  | j + 6, hc, hv => simp at hc
end

end Go.Proofs.YtkbpnnbdfikjhaaGreat
