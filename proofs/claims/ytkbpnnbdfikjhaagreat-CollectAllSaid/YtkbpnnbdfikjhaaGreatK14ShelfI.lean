/-
  DERIVED: THE SHELF's CONTRACTS AT THIS DUMP, IN PLAIN WORDS (tools/lay-plain.mjs out of 'TryzShelf.lean', which tools/lay-shelf.mjs wrote): THE SAME DECLARATIONS UNDER THE SAME NAMES: 'import', 'namespace', 'open', 'def', 'theorem' AND NOTHING ELSE: no command of the shelf's: FOR A HAND-IN. Each laying: the table of numbers ('.._ren') and one theorem, a field a fact of the dump's own or the kernel's comparison; each contract: ONE APPLICATION.
-/
import Derived.Test.YtkbpnnbdfikjhaaGreatK13Drive1
import Derived.Test.YtkbpnnbdfikjhaaGreatK05CodeD
import Derived.Ground.Names2Prog
import Derived.Shelf.Spec.SlicesInsert
import Derived.Shelf.Spec.SlicesInsertGrow
import Derived.Test.YtkbpnnbdfikjhaaGreatProg
namespace Go.Proofs
open Go.Shelf
def Tryz.laysNm222_ren : Go.Shelf.Ren := ⟨fun | 22 => 124 | 29 => 128 | 30 => 129 | 36 => 131 | 17 => 132 | n => n, fun | 24 => 220 | 9 => 9 | 3 => 3 | 4 => 4 | 0 => 0 | n => n, fun | n => n⟩
theorem Tryz.laysNm222 : Go.Proofs.Lays2.n22 Tryz.prog Tryz.laysNm222_ren := {
  mixed := by kernel_rfl
  f17 := Tryz.func132.trans (congrArg some (by kernel_rfl))
  f22 := Tryz.func124.trans (congrArg some (by kernel_rfl))
  f29 := Tryz.func128.trans (congrArg some (by kernel_rfl))
  f30 := Tryz.func129.trans (congrArg some (by kernel_rfl))
  f36 := Tryz.func131.trans (congrArg some (by kernel_rfl))
  t0 := Tryz.underlying0
  a0 := Tryz.isAgg0
  z0 := Tryz.sizeOf0
  v0 := Tryz.zeroValue0
  t3 := Tryz.underlying3
  a3 := Tryz.isAgg3
  z3 := Tryz.sizeOf3
  v3 := Tryz.zeroValue3
  t4 := Tryz.underlying4
  a4 := Tryz.isAgg4
  z4 := Tryz.sizeOf4
  v4 := Tryz.zeroValue4
  t9 := Tryz.underlying9
  a9 := Tryz.isAgg9
  z9 := Tryz.sizeOf9
  v9 := Tryz.zeroValue9
  t24 := Tryz.underlying220
  a24 := Tryz.isAgg220
  z24 := Tryz.sizeOf220
  v24 := Tryz.zeroValue220
  i9 := by kernel_rfl }
end Go.Proofs

/- Cells that are written, as rows. -/
namespace Go.Proofs.YtkbpnnbdfikjhaaGreat
open Go Go.Aw
set_option linter.unusedVariables false
set_option linter.unusedSimpArgs false
set_option maxRecDepth 10000

def fillA : Array Value → Nat → List Value → Array Value
  | a, _, [] => a
  | a, o, v :: r => fillA (a.setIfInBounds o v) (o + 1) r
theorem fillA_size : ∀ (vs : List Value) (a : Array Value) (o : Nat), (fillA a o vs).size = a.size
  | [], _, _ => rfl
  | v :: r, a, o => by rw [fillA, fillA_size r]; simp
theorem fillA_get : ∀ (vs : List Value) (a : Array Value) (o j : Nat), o + vs.length ≤ a.size → (fillA a o vs)[j]? = if o ≤ j ∧ j < o + vs.length then vs[j - o]? else a[j]?
  | [], a, o, j, _ => by simp [fillA]; intro h1 h2; omega
  | v :: r, a, o, j, h => by
    simp only [List.length_cons] at h
    rw [fillA, fillA_get r _ (o + 1) j (by simp; omega)]
    by_cases hj : j = o
    · subst hj
      rw [if_neg (by omega), if_pos (by simp)]
      rw [Array.getElem?_setIfInBounds_self_of_lt (by omega)]
      simp
    · by_cases h1 : o + 1 ≤ j ∧ j < o + 1 + r.length
      · rw [if_pos h1, if_pos (by simp only [List.length_cons]; omega)]
        rw [show j - o = (j - (o + 1)) + 1 by omega, List.getElem?_cons_succ]
      · rw [if_neg h1, if_neg (by simp only [List.length_cons]; omega), Array.getElem?_setIfInBounds_ne (Ne.symm hj)]

theorem world_heap {w : World} {h h' : Array Obj} (e : h = h') : ({ w with heap := h } : World) = { w with heap := h' } := by rw [e]
theorem setRow_self {w : World} {b : Nat} {arr : Array Value} {ty : TypeId} {fr : Nat × Nat} (hh : w.heap[b]? = some (.cells arr ty fr)) : w.setRow b arr = w := by
  unfold World.setRow
  refine world_heap (w := w) (h' := w.heap) ?_
  apply Array.ext_getElem?
  intro j
  rw [Array.getElem?_modify]
  split
  · rename_i e; subst e; rw [hh]; rfl
  · rfl
theorem setCell_row {w : World} {b o : Nat} {v : Value} {arr : Array Value} {ty : TypeId} {fr : Nat × Nat} (hh : w.heap[b]? = some (.cells arr ty fr)) : w.setCell ⟨b, o, none⟩ v = w.setRow b (arr.setIfInBounds o v) := by
  unfold World.setRow World.setCell
  refine world_heap ?_
  apply Array.ext_getElem?
  intro j
  rw [Array.getElem?_modify, Array.getElem?_modify]
  split
  · rename_i e; subst e; rw [hh]; rfl
  · rfl
theorem setCells_row : ∀ (vs : List Value) (w : World) (b o : Nat) (arr : Array Value) (ty : TypeId) (fr : Nat × Nat), w.heap[b]? = some (.cells arr ty fr) → w.setCells b o vs = w.setRow b (fillA arr o vs)
  | [], w, b, o, arr, ty, fr, hh => (setRow_self hh).symm
  | v :: r, w, b, o, arr, ty, fr, hh => by
    rw [World.setCells, setCell_row hh, setCells_row r _ b (o + 1) _ ty fr (setRow_heap w b arr _ ty fr hh), setRow_setRow]
    rfl

/-- values of texts -/
def tv (l : List ByteArray) : List Value := l.map Value.string
theorem rel_txt {σ : Sto} {w : World} {l : List ByteArray} {arr : Array Value} (hle : l.length ≤ arr.size) (hr : ∀ (j : Nat) (c : AV) (v : Value), (l.map str)[j]? = some c → arr[j]? = some v → Rel σ w c v) :
    ∀ (j : Nat) (s : ByteArray), l[j]? = some s → arr[j]? = some (Value.string s) := by
  intro j s hj
  have hlt : j < arr.size := Nat.lt_of_lt_of_le (List.getElem?_eq_some_iff.1 hj).1 hle
  have hv : arr[j]? = some arr[j] := by simp [hlt]
  have := hr j (str s) arr[j] (by simp [hj]) hv
  generalize hav : arr[j] = v at *
  cases this
  exact hv
theorem txt_rel {σ : Sto} {w : World} {l : List ByteArray} {arr : Array Value} (h : ∀ (j : Nat) (s : ByteArray), l[j]? = some s → arr[j]? = some (Value.string s)) : ∀ (j : Nat) (c : AV) (v : Value), (l.map str)[j]? = some c → arr[j]? = some v → Rel σ w c v := by
  intro j c v hc hv
  rw [List.getElem?_map, Option.map_eq_some_iff] at hc
  obtain ⟨s, hs, rfl⟩ := hc
  rw [h j s hs] at hv
  cases hv
  exact .sc _

theorem ins_get {l : List ByteArray} {i : Nat} {v : ByteArray} (hi : i ≤ l.length) (j : Nat) : (l.take i ++ v :: l.drop i)[j]? = if j < i then l[j]? else if j = i then some v else l[j - 1]? := by
  rw [List.getElem?_append, List.length_take, Nat.min_eq_left hi]
  split
  · rename_i h; rw [List.getElem?_take, if_pos h]
  · rename_i h
    by_cases hj : j = i
    · subst hj; simp
    · rw [if_neg hj, show j - i = (j - i - 1) + 1 by omega, List.getElem?_cons_succ, List.getElem?_drop]
      congr 1; omega

theorem tv_get {l : List ByteArray} {j : Nat} {s : ByteArray} (h : l[j]? = some s) : (tv l)[j]? = some (Value.string s) := by simp [tv, h]
theorem shift_get {arr : Array Value} {l : List ByteArray} {i : Nat} {v : ByteArray} (hi : i ≤ l.length) (hsz : l.length + 1 ≤ arr.size) (hpre : ∀ (j : Nat) (s : ByteArray), j < i → l[j]? = some s → arr[j]? = some (Value.string s)) :
    ∀ (j : Nat) (s : ByteArray), (l.take i ++ v :: l.drop i)[j]? = some s → (fillA (fillA arr (0 + (i + 1)) (List.drop i (tv l))) (0 + i) [Value.string v])[j]? = some (Value.string s) := by
  intro j s hj
  have htl : (tv l).length = l.length := by simp [tv]
  rw [ins_get hi] at hj
  rw [fillA_get _ _ _ _ (by rw [fillA_size]; simp; omega), fillA_get _ _ _ _ (by simp [htl]; omega)]
  split at hj
  · rename_i h1
    rw [if_neg (by omega), if_neg (by omega)]
    exact hpre j s h1 hj
  · rename_i h1
    split at hj
    · rename_i h2
      subst h2; cases hj
      rw [if_pos (by simp)]
      simp
    · rename_i h2
      have hlt := (List.getElem?_eq_some_iff.1 hj).1
      rw [if_neg (by simp; omega), if_pos (by simp [htl]; omega)]
      rw [List.getElem?_drop, show i + (j - (0 + (i + 1))) = j - 1 by omega]
      exact tv_get hj
theorem grow_get {arr : Array Value} {l : List ByteArray} {i : Nat} {v : ByteArray} (hi : i ≤ l.length) (hsz : l.length + 1 ≤ arr.size) (hpre : ∀ (j : Nat) (s : ByteArray), j < i → l[j]? = some s → arr[j]? = some (Value.string s)) :
    ∀ (j : Nat) (s : ByteArray), (l.take i ++ v :: l.drop i)[j]? = some s → (fillA (fillA arr i [Value.string v]) (i + 1) (List.drop i (tv l)))[j]? = some (Value.string s) := by
  intro j s hj
  have htl : (tv l).length = l.length := by simp [tv]
  rw [ins_get hi] at hj
  rw [fillA_get _ _ _ _ (by rw [fillA_size]; simp [htl]; omega), fillA_get _ _ _ _ (by simp; omega)]
  split at hj
  · rename_i h1
    rw [if_neg (by omega), if_neg (by omega)]
    exact hpre j s h1 hj
  · rename_i h1
    split at hj
    · rename_i h2
      subst h2; cases hj
      rw [if_neg (by omega), if_pos (by simp)]
      simp
    · rename_i h2
      have hlt := (List.getElem?_eq_some_iff.1 hj).1
      rw [if_pos (by simp [htl]; omega)]
      rw [List.getElem?_drop, show i + (j - (i + 1)) = j - 1 by omega]
      exact tv_get hj
theorem alloc_row (w : World) (a a2 : Array Value) (ty : TypeId) : (w.alloc (.cells a ty)).setRow w.heap.size a2 = w.alloc (.cells a2 ty) := by
  unfold World.setRow World.alloc
  refine world_heap (w := w) ?_
  apply Array.ext_getElem?
  intro j
  rw [Array.getElem?_modify]
  by_cases hj : w.heap.size = j
  · subst hj; simp
  · rw [if_neg hj]
    rw [Array.getElem?_push, Array.getElem?_push, if_neg (Ne.symm hj), if_neg (Ne.symm hj)]

/-- what an insertion leaves -/
def InsOk (σ σ' : Sto) (r : AV) (l : List ByteArray) (F : List Nat) : Prop := ∃ F', TxtAt σ' r l F' ∧ Out F σ σ' ∧ ∀ z ∈ F', z ∈ F ∨ σ z = none

theorem three_args {σ : Sto} {w : World} {x y z : AV} {vs : Array Value} (h : RelL σ w [x, y, z] vs) : ∃ a b c, vs = #[a, b, c] ∧ Rel σ w x a ∧ Rel σ w y b ∧ Rel σ w z c := by
  obtain ⟨h1, h2⟩ := h
  obtain ⟨l⟩ := vs
  match l, h1, h2 with
  | [a, b, c], _, h2 => exact ⟨a, b, c, rfl, h2 0 _ _ rfl rfl, h2 1 _ _ rfl rfl, h2 2 _ _ rfl rfl⟩

/-- a new row -/
theorem ins_new {σ : Sto} {w : World} (hs : St σ w) {F : List Nat} {arr : Array Value} {ty : TypeId} {cap : Nat} {l' : List ByteArray} {n : Nat} (hn : l'.length = n) (hcap : n ≤ cap ∧ cap ≤ 9223372036854775807) (hsz : cap ≤ arr.size)
    (hget : ∀ (j : Nat) (s : ByteArray), l'[j]? = some s → arr[j]? = some (Value.string s)) :
    ∃ v r σ', Ending.returned (Value.slice (some ⟨w.heap.size, 0, none⟩) n cap) = Ending.returned v ∧ InsOk σ σ' r l' F ∧ St σ' (w.drew.alloc (.cells arr ty)) ∧ Rel σ' (w.drew.alloc (.cells arr ty)) r v ∧ Ext σ w σ' (w.drew.alloc (.cells arr ty)) := by
  subst hn
  have hx := ext_alloc hs.drew (.cells arr ty) (σ.set w.heap.size (.cells (l'.map str))) (fun b hb => by simp [Sto.set, show b ≠ w.heap.size from hb])
  refine ⟨_, .mslice w.heap.size 0 l'.length 1, σ.set w.heap.size (.cells (l'.map str)), rfl, ⟨[w.heap.size], .inr ⟨_, rfl, by simp [Sto.set], rfl⟩, Out.of_sub (sub_set' (Sub.refl σ) hs.new), fun z hz => ?_⟩,
    St.alloc hs.drew arr ty (fun b hb => by simp [Sto.set, show b ≠ w.heap.size from hb]) (.inr (.inl ⟨_, by simp [Sto.set], by simp; omega, txt_rel hget⟩)), ?_, ext_drew hx⟩
  · rw [List.mem_singleton.1 hz]; exact .inr hs.new
  · exact .mslice _ _ _ _ _ _ hcap fun _ => ⟨rfl, arr, ty, heap_alloc_at w.drew (.cells arr ty), by omega⟩

/-- a row that is written over -/
theorem ins_row {σ : Sto} {w : World} (hs : St σ w) {b cap : Nat} {cs0 : List AV} {arr arr' : Array Value} {ty : TypeId} {l' : List ByteArray} {n : Nat} (hb : σ b = some (.cells cs0)) (hh : w.heap[b]? = some (.cells arr ty (0, 0)))
    (hsz' : arr'.size = arr.size) (hn : l'.length = n) (hcap : n ≤ cap ∧ cap ≤ 9223372036854775807) (hsz : cap ≤ arr.size) (hget : ∀ (j : Nat) (s : ByteArray), l'[j]? = some s → arr'[j]? = some (Value.string s)) :
    St (σ.set b (.cells (l'.map str))) (w.setRow b arr') ∧ Rel (σ.set b (.cells (l'.map str))) (w.setRow b arr') (.mslice b 0 n 1) (.slice (some ⟨b, 0, none⟩) n cap) ∧ Ext σ w (σ.set b (.cells (l'.map str))) (w.setRow b arr') := by
  subst hn
  refine ⟨St.row hs hb hh hsz' ⟨by simp; omega, txt_rel hget⟩, ?_, ext_row hs hb hh hsz'⟩
  exact .mslice _ _ _ _ _ _ hcap fun _ => ⟨rfl, arr', ty, setRow_heap w b arr arr' ty (0, 0) hh, by omega⟩

theorem insert_spec (σ : Sto) (x : AV) (l : List ByteArray) (F : List Nat) (h : TxtAt σ x l F) (hlen : l.length ≤ 1000) (i : Nat) (hi : i ≤ l.length) (vb : Nat) (v : ByteArray) (hv : σ vb = some (.cells [str v])) (hvF : vb ∉ F) :
    ACalls Tryz.prog 124 [x, i64 i, .mslice vb 0 1 1] σ (fun r σ' => InsOk σ σ' r (l.take i ++ v :: l.drop i) F) := by
  intro w vs hs hr
  obtain ⟨va, vi, vv, rfl, ra, ri, rv⟩ := three_args hr
  cases ri
  obtain ⟨arrv, tyv, hhv, hlv, hrv⟩ := hs.cells vb _ hv
  have hv0 : arrv[0]? = some (.string v) := rel_txt (l := [v]) (by simpa using hlv) hrv 0 v rfl
  cases rv with
  | mslice _ _ _ _ vc av hvc hva =>
    obtain ⟨rfl, vs1, ty1, hh1, hsz1⟩ := hva (by omega)
    have hvs : ∀ (j : Nat) (u : Value), [Value.string v][j]? = some u → w.cell? ⟨vb, 0 + j, none⟩ = some u := fun j u hj => by
      match j, hj with
      | 0, hj => simp at hj; subst hj; simp [World.cell?, hhv, hv0]
    have h1v : ∀ u ∈ [Value.string v], u.oneCell' = true := by simp [Value.oneCell']
    have hc1 : (Value.string ⟨#[]⟩).cells.size = 1 := rfl
    rcases h with ⟨rfl, rfl, rfl⟩ | ⟨b, rfl, hb, rfl⟩
    · -- nothing there
      obtain rfl : i = 0 := by simpa using hi
      cases ra with
      | slice _ _ a n cap es us hn hcap hes ht hc hrel =>
        have hn0 : n = 0 := by simpa using hn.symm
        subst hn0
        obtain rfl : 0 = cap := ht
        have hcall := Go.Proofs.Any2.slices_Insert_string_end_grow Tryz.laysNm222 a 0 0 vb 0 1 vc [] [Value.string v] w (by omega) (by omega) (by omega) (by omega) rfl rfl (fun _ => rfl) (fun a _ j u hj => by simp at hj) hvs h1v
        refine Calls.mono hcall ?_
        rintro e w' ⟨rfl, rfl⟩
        have hge := grownCap_ge w (0 + 1) 0 (Tryz.laysNm222_ren.t 9)
        have hle := grownCap_le_maxLen w (0 + 1) 0 (Tryz.laysNm222_ren.t 9) (by unfold maxLen; omega)
        unfold maxLen at hle
        generalize grownCap w (0 + 1) 0 (Tryz.laysNm222_ren.t 9) = gc at *
        refine ins_new hs (by simp) ⟨hge, hle⟩ ?_ (fun j s hj => ?_)
        · rw [Array.size_append, size_zeroCells, hc1]; simp; omega
        · match j, hj with
          | 0, hj =>
            simp at hj; subst hj
            rw [Array.getElem?_append_left (by simp)]; rfl
    · obtain ⟨arr, ty, hh, hlen', hrel⟩ := hs.cells b _ hb
      have hl' : (l.take i ++ v :: l.drop i).length = l.length + 1 := by simp; omega
      have hcs0 := rel_txt (by simpa using hlen') hrel
      have hvb : vb ≠ b := by simpa using hvF
      have h1c : ∀ u ∈ tv l, u.oneCell' = true := fun u hu => by obtain ⟨s, _, rfl⟩ := List.mem_map.1 hu; rfl
      have htl : (tv l).length = l.length := by simp [tv]
      have htv : ∀ (j : Nat) (u : Value), (tv l)[j]? = some u → arr[j]? = some u := fun j u hj => by
        rw [tv, List.getElem?_map, Option.map_eq_some_iff] at hj
        obtain ⟨s, hs', rfl⟩ := hj
        exact hcs0 j s hs'
      have hcs : ∀ (j : Nat) (u : Value), (tv l)[j]? = some u → w.cell? ⟨b, 0 + j, none⟩ = some u := fun j u hj => by simp [World.cell?, hh, htv j u hj]
      cases ra with
      | mslice _ _ _ _ cap a hcap hca =>
        by_cases hroom : l.length + 1 ≤ cap
        · obtain ⟨rfl, vs0, ty0, hh0, hsz0⟩ := hca (by omega)
          have hcc := hh.symm.trans hh0; injection hcc with hcc; injection hcc with e1 e2; subst e1
          have hsp : ∀ j, j < l.length + 1 → (w.cell? ⟨b, 0 + j, none⟩).isSome = true := fun j hj => by
            have : j < arr.size := by omega
            simp [World.cell?, hh, this]
          have hfz : ∀ j, j < l.length + 1 → w.frozen? ⟨b, 0 + j, none⟩ = false := fun j hj => by simp [World.frozen?, hh]
          by_cases hin : i < l.length
          · have hcall := Go.Proofs.Any2.slices_Insert_string_shift Tryz.laysNm222 b 0 l.length cap i vb 0 1 vc (tv l) [Value.string v] w hin (by omega) hroom hcap.2 hvb htl rfl hcs hsp hfz hvs h1c h1v
              tyv ty arrv.size arr.size (by simp [World.shape?, hhv]) (by simp [World.shape?, hh]) (by omega) (by simp [World.frozen?, hhv]) (by simp [World.frozen?, hhv])
            refine Calls.mono hcall ?_
            rintro e w' ⟨rfl, rfl⟩
            have hh' : w.drew.heap[b]? = some (.cells arr ty (0, 0)) := hh
            rw [setCells_row _ w.drew b _ arr ty (0, 0) hh', setCells_row _ _ b _ _ ty (0, 0) (setRow_heap _ b arr _ ty (0, 0) hh'), setRow_setRow]
            obtain ⟨g1, g2, g3⟩ := ins_row (l' := l.take i ++ v :: l.drop i) (n := l.length + 1) (cap := cap) (arr' := fillA (fillA arr (0 + (i + 1)) (List.drop i (tv l))) (0 + i) [Value.string v]) hs.drew hb hh' (by simp [fillA_size]) hl' ⟨hroom, hcap.2⟩ (by omega) (shift_get hi (by omega) (fun j s _ => hcs0 j s))
            exact ⟨_, _, _, rfl, ⟨[b], .inr ⟨b, by rw [hl'], by simp [Sto.set], rfl⟩, Out.set (by simp), fun z hz => .inl hz⟩, g1, g2, ext_drew g3⟩
          · obtain rfl : i = l.length := by omega
            have hcall := Go.Proofs.Any2.slices_Insert_string_end_room Tryz.laysNm222 b 0 l.length cap vb 0 1 vc [Value.string v] w (by omega) hroom hcap.2 rfl
              (fun j hj => by rw [Nat.add_assoc]; exact hsp _ (by omega)) (fun j hj => by rw [Nat.add_assoc]; exact hfz _ (by omega)) hvs h1v
            refine Calls.mono hcall ?_
            rintro e w' ⟨rfl, rfl⟩
            rw [setCells_row _ w b _ arr ty (0, 0) hh]
            have hg := shift_get (v := v) (Nat.le_refl l.length) (by omega : l.length + 1 ≤ arr.size) (fun j s _ => hcs0 j s)
            rw [show List.drop l.length (tv l) = [] from List.drop_eq_nil_of_le (by omega)] at hg
            obtain ⟨g1, g2, g3⟩ := ins_row (l' := l.take l.length ++ v :: l.drop l.length) (n := l.length + 1) (cap := cap) (arr' := fillA arr (0 + l.length) [Value.string v]) hs hb hh (by simp [fillA_size]) hl' ⟨hroom, hcap.2⟩ (by omega) hg
            exact ⟨_, _, _, rfl, ⟨[b], .inr ⟨b, by rw [hl'], by simp [Sto.set], rfl⟩, Out.set (by simp), fun z hz => .inl hz⟩, g1, g2, g3⟩
        · by_cases hin : i < l.length
          · obtain ⟨rfl, vs0, ty0, hh0, hsz0⟩ := hca (by omega)
            have hcall := Go.Proofs.Any2.slices_Insert_string_grow Tryz.laysNm222 b 0 l.length cap i vb 0 1 vc (tv l) [Value.string v] w hin (by omega) hcap.1 (by omega) (by omega) htl rfl hcs hvs h1c h1v
            refine Calls.mono hcall ?_
            rintro e w' ⟨rfl, rfl⟩
            have hge := grownCap_ge w (l.length + 1) cap (Tryz.laysNm222_ren.t 9)
            have hle := grownCap_le_maxLen w (l.length + 1) cap (Tryz.laysNm222_ren.t 9) (by unfold maxLen; omega)
            unfold maxLen at hle
            generalize grownCap w (l.length + 1) cap (Tryz.laysNm222_ren.t 9) = gc at *
            generalize harr : ((tv l).take i).toArray ++ Builtin.zeroCells (Value.string ⟨#[]⟩).cells (l.length + 1 - i) ++ Builtin.zeroCells (Value.string ⟨#[]⟩).cells (gc - (l.length + 1)) = arrX
            have hXs : arrX.size = gc := by rw [← harr, Array.size_append, Array.size_append, size_zeroCells, size_zeroCells, hc1]; simp [htl]; omega
            have hXp : ∀ (j : Nat) (s : ByteArray), j < i → l[j]? = some s → arrX[j]? = some (Value.string s) := fun j s hj hs' => by
              rw [← harr, Array.append_assoc, Array.getElem?_append_left (by simp [htl]; omega)]
              simp [List.getElem?_take, hj, tv_get hs']
            have hW : (w.alloc (.cells arrX (Tryz.laysNm222_ren.t 9))).drew.heap[w.heap.size]? = some (.cells arrX (Tryz.laysNm222_ren.t 9) (0, 0)) := heap_alloc_at w _
            rw [setCells_row _ (w.alloc (.cells arrX (Tryz.laysNm222_ren.t 9))).drew w.heap.size i arrX _ (0, 0) hW]
            have hW2 : ((w.alloc (.cells arrX (Tryz.laysNm222_ren.t 9))).drew.setRow w.heap.size (fillA arrX i [Value.string v])).drew.heap[w.heap.size]? = some (.cells (fillA arrX i [Value.string v]) (Tryz.laysNm222_ren.t 9) (0, 0)) :=
              setRow_heap (w.alloc (.cells arrX (Tryz.laysNm222_ren.t 9))).drew w.heap.size arrX _ _ (0, 0) hW
            rw [setCells_row _ _ w.heap.size (i + 1) _ _ (0, 0) hW2]
            rw [show ((w.alloc (.cells arrX (Tryz.laysNm222_ren.t 9))).drew.setRow w.heap.size (fillA arrX i [Value.string v])).drew = ((w.drew.drew.alloc (.cells arrX (Tryz.laysNm222_ren.t 9))).setRow w.heap.size (fillA arrX i [Value.string v])) from rfl, setRow_setRow]
            rw [show w.heap.size = w.drew.drew.heap.size from rfl, alloc_row]
            obtain ⟨v', r', σ', g0, g1, g2, g3, g4⟩ := ins_new (l' := l.take i ++ v :: l.drop i) (F := [b]) (n := l.length + 1) (cap := gc) (ty := Tryz.laysNm222_ren.t 9) hs.drew hl' ⟨hge, hle⟩ (by rw [fillA_size, fillA_size, hXs]; exact Nat.le_refl _) (grow_get hi (by omega) hXp)
            exact ⟨v', r', σ', g0, g1, g2, g3, ext_drew g4⟩
          · obtain rfl : i = l.length := by omega
            have hnil : a = none → l.length = 0 := fun ha => by
              by_cases h0 : 0 < cap
              · rw [(hca h0).1] at ha; cases ha
              · omega
            have hcall := Go.Proofs.Any2.slices_Insert_string_end_grow Tryz.laysNm222 a l.length cap vb 0 1 vc (tv l) [Value.string v] w (by omega) hcap.1 (by omega) (by omega) htl rfl hnil
              (fun a' ha' j u hj => by
                have hlt := (List.getElem?_eq_some_iff.1 hj).1
                rw [(hca (by omega)).1] at ha'
                cases ha'
                rw [Addr.add_lit]
                exact hcs j u hj) hvs h1v
            refine Calls.mono hcall ?_
            rintro e w' ⟨rfl, rfl⟩
            have hge := grownCap_ge w (l.length + 1) cap (Tryz.laysNm222_ren.t 9)
            have hle := grownCap_le_maxLen w (l.length + 1) cap (Tryz.laysNm222_ren.t 9) (by unfold maxLen; omega)
            unfold maxLen at hle
            generalize grownCap w (l.length + 1) cap (Tryz.laysNm222_ren.t 9) = gc at *
            refine ins_new (l' := l.take l.length ++ v :: l.drop l.length) hs hl' ⟨hge, hle⟩ ?_ (fun j s hj => ?_)
            · rw [Array.size_append, size_zeroCells, hc1]; simp [htl]; omega
            · have hlt : j < l.length + 1 := by have := (List.getElem?_eq_some_iff.1 hj).1; rw [hl'] at this; exact this
              rw [Array.getElem?_append_left (by simp [htl]; omega)]
              simp only [List.getElem?_toArray]
              have := tv_get hj
              simpa [tv] using this
end Go.Proofs.YtkbpnnbdfikjhaaGreat

/- Tables: made, put into and read. -/
namespace Go.Proofs.YtkbpnnbdfikjhaaGreat
open Go Go.Aw
set_option linter.unusedVariables false
set_option linter.unusedSimpArgs false
set_option maxRecDepth 10000

/-- a table -/
structure TabAt (σ : Sto) (tb : Nat) (l : List Pr) (F : List Nat) : Prop where
  ex : ∃ xk xv Fk Fv, σ tb = some (.cells [xk, xv]) ∧ TxtAt σ xk (l.map (·.1)) Fk ∧ TxtAt σ xv (l.map (·.2)) Fv ∧ F = Fk ++ Fv ∧ (∀ z ∈ Fk, z ∉ Fv) ∧ tb ∉ Fk ++ Fv
theorem TabAt.sub {σ σ' : Sto} {tb : Nat} {l : List Pr} {F : List Nat} (h : TabAt σ tb l F) (hs : ∀ y ∈ tb :: F, ∀ o, σ y = some o → σ' y = some o) : TabAt σ' tb l F := by
  obtain ⟨xk, xv, Fk, Fv, h1, h2, h3, rfl, h4, h5⟩ := h.ex
  exact ⟨xk, xv, Fk, Fv, hs tb (by simp) _ h1, h2.sub fun y hy => hs y (by simp [hy]), h3.sub fun y hy => hs y (by simp [hy]), rfl, h4, h5⟩
theorem TxtAt.some {σ : Sto} {x : AV} {l : List ByteArray} {F : List Nat} (h : TxtAt σ x l F) : ∀ z ∈ F, ∃ o, σ z = some o := by
  rcases h with ⟨_, _, rfl⟩ | ⟨b, _, h, rfl⟩
  · simp
  · intro z hz; rw [List.mem_singleton.1 hz]; exact ⟨_, h⟩

theorem TxtAt.m {σ : Sto} {x : AV} {l : List ByteArray} {F : List Nat} (h : TxtAt σ x l F) (hn : l ≠ []) : ∃ b, x = .mslice b 0 l.length 1 ∧ σ b = Option.some (.cells (l.map str)) ∧ F = [b] := by
  rcases h with ⟨_, h, _⟩ | h
  · exact absurd h hn
  · exact h
theorem map_put {l : List Pr} {i : Nat} {k v : ByteArray} {f : Pr → ByteArray} : (l.take i ++ (k, v) :: l.drop i).map f = (l.map f).take i ++ f (k, v) :: (l.map f).drop i := by simp
theorem map_over {l : List Pr} {i : Nat} {k v : ByteArray} (hk : (l[i]?).map (·.1) = some k) : (l.take i ++ (k, v) :: l.drop (i + 1)).map (·.1) = l.map (·.1) := by
  rw [Option.map_eq_some_iff] at hk
  obtain ⟨x, hx, rfl⟩ := hk
  have hlt := (List.getElem?_eq_some_iff.1 hx).1
  conv => rhs; rw [← List.take_append_drop i l, List.drop_eq_getElem_cons hlt]
  rw [(List.getElem?_eq_some_iff.1 hx).2]
  simp

theorem tnew_spec (σ : Sto) : ACalls Tryz.prog 120 [] σ (fun r σ' => ∃ b, r = .ptr b 0 ∧ σ b = none ∧ TabAt σ' b [] [] ∧ Sub σ σ') := by
  refine ACalls.q fun q hq => fn_of Tab.mixed Tryz.func120 rfl rfl rfl ?_
  simp -implicitDefEqProofs
  intro b hb
  simp -implicitDefEqProofs
  refine hq _ (σ.set b (.cells [.slice .clip [], .slice .clip []])) ⟨b, rfl, hb, ⟨⟨.slice .clip [], .slice .clip [], [], [], by simp [Sto.set], .inl ⟨rfl, rfl, rfl⟩, .inl ⟨rfl, rfl, rfl⟩, rfl, by simp, by simp⟩⟩, sub_set' (Sub.refl _) hb⟩

theorem tput_spec (σ : Sto) (tb : Nat) (l : List Pr) (F : List Nat) (h : TabAt σ tb l F) (hs : Srt l) (hlen : l.length ≤ 1000) (k v : ByteArray) :
    ACalls Tryz.prog 121 [.ptr tb 0, str k, str v] σ (fun r σ' => r = .tuple [] ∧ ∃ F', TabAt σ' tb (tput l k v) F' ∧ Out (tb :: F) σ σ' ∧ ∀ z ∈ F', z ∈ F ∨ σ z = none) := by
  obtain ⟨xk, xv, Fk, Fv, h1, h2, h3, rfl, h4, h5⟩ := h.ex
  have hks : (l.map (·.1)).Pairwise (fun a b => bl a b = true) := by rw [List.pairwise_map]; exact hs
  refine ACalls.q fun q hq => fn_of Tab.mixed Tryz.func121 rfl rfl rfl ?_
  simp -implicitDefEqProofs [h1]
  refine (search_spec _ xk _ Fk h2 hks (by simpa using hlen) k).mono ?_
  rintro r σ' ⟨⟨i, ⟨p1, p2, p3⟩, rfl⟩, rfl⟩
  have hput := tput_at (k := k) (v := v) (i := i) hs (by simpa using p1) (fun p x hp hx => p2 p x.1 hp (by simp [hx])) (fun p x hp hx => p3 p x.1 hp (by simp [hx]))
  cases hdec : decide ((l.map (·.1))[i]? = some k)
  · -- a new one
    have hnk : ¬ (l[i]?).map (·.1) = some k := by rw [← List.getElem?_map]; simpa using hdec
    rw [if_neg hnk] at hput
    simp -implicitDefEqProofs [hdec, h1]
    intro b1 hb1
    have n1 := ne_of h1 hb1
    have fk : ∀ z ∈ Fk, z ≠ b1 := fun z hz e => by obtain ⟨o, ho⟩ := h2.some z hz; rw [e, hb1] at ho; cases ho
    have fv : ∀ z ∈ Fv, z ≠ b1 := fun z hz e => by obtain ⟨o, ho⟩ := h3.some z hz; rw [e, hb1] at ho; cases ho
    refine (insert_spec _ xk _ Fk (h2.sub fun y hy o ho => by rw [set_ne (fk y hy)]; exact ho) (by simpa using hlen) i p1 b1 k (by simp [Sto.set]) (fun hz => fk b1 hz rfl)).mono ?_
    rintro r σ2 ⟨F1, t1, o1, f1⟩
    have e1 : σ2 tb = some (.cells [xk, xv]) := o1 tb _ (fun hz => h5 (by simp [hz])) (by rw [set_ne n1]; exact h1)
    have hlk : (List.take i (l.map (·.1)) ++ k :: List.drop i (l.map (·.1))).length = l.length + 1 := by simp at p1 ⊢; omega
    have hlv : (List.take i (l.map (·.2)) ++ v :: List.drop i (l.map (·.2))).length = l.length + 1 := by simp at p1 ⊢; omega
    obtain ⟨kb, hr, hkb, rfl⟩ := t1.m (by simp)
    rw [hlk] at hr
    subst hr
    have nkt : kb ≠ tb := fun e => by
      rcases f1 kb (by simp) with h | h
      · exact h5 (by rw [← e]; simp [h])
      · rw [e, set_ne n1, h1] at h; cases h
    simp -implicitDefEqProofs [e1]
    intro b2 hb2
    have n2 : b2 ≠ tb := fun e => by rw [e] at hb2; simp at hb2
    have hb2' : σ2 b2 = none := by simpa [n2] using hb2
    have t3 : TxtAt σ2 xv (l.map (·.2)) Fv := h3.sub fun y hy o ho => o1 y o (fun hz => h4 y hz hy) (by rw [set_ne (fv y hy)]; exact ho)
    have fv2 : ∀ z ∈ Fv, z ≠ b2 := fun z hz e => by obtain ⟨o, ho⟩ := t3.some z hz; rw [e, hb2'] at ho; cases ho
    have fvt : ∀ z ∈ Fv, z ≠ tb := fun z hz e => h5 (by rw [← e]; simp [hz])
    have hsub : ∀ y, y ∈ Fv → ∀ (o1' o2' : AObj) o, σ2 y = some o → ((σ2.set tb o1').set b2 o2') y = some o := fun y hy o1' o2' o ho => by rw [set_ne (fv2 y hy), set_ne (fvt y hy)]; exact ho
    refine (insert_spec _ xv _ Fv (t3.sub fun y hy o ho => hsub y hy _ _ o ho) (by simpa using hlen) i (by simpa using p1) b2 v (by simp [Sto.set]) (fun hz => fv2 b2 hz rfl)).mono ?_
    rintro r σ3 ⟨F3, t4, o3, f3⟩
    have hne : ∀ z, z ≠ tb → z ≠ b2 → z ∉ Fv → ∀ o, σ2 z = some o → σ3 z = some o := fun z g1 g2 g3 o ho => o3 z o g3 (by show Sto.set _ b2 _ z = _; rw [set_ne g2, set_ne g1]; exact ho)
    have e3 : σ3 tb = some (.cells [.mslice kb 0 (l.length + 1) 1, xv]) := o3 tb _ (fun hz => fvt tb hz rfl) (by show Sto.set _ b2 _ tb = _; rw [set_ne (Ne.symm n2)]; simp [Sto.set])
    obtain ⟨vb, hr, hvb, rfl⟩ := t4.m (by simp)
    rw [hlv] at hr
    subst hr
    have nk2 : kb ≠ b2 := ne_of hkb hb2'
    have nkF : kb ∉ Fv := fun hz => by
      rcases f1 kb (by simp) with h | h
      · exact h4 kb h hz
      · obtain ⟨o, ho⟩ := h3.some kb hz
        rw [set_ne (ne_of ho hb1), ho] at h; cases h
    have gk := hne kb nkt nk2 nkF _ hkb
    have nvt : vb ≠ tb := fun e => by
      rcases f3 vb (by simp) with h | h
      · exact fvt vb h e
      · rw [e] at h
        have h' : Sto.set _ b2 _ tb = none := h
        rw [set_ne (Ne.symm n2)] at h'; simp [Sto.set] at h'
    have nkv : kb ≠ vb := fun e => by
      rcases f3 vb (by simp) with h | h
      · exact nkF (e ▸ h)
      · rw [← e] at h
        have h' : Sto.set _ b2 _ kb = none := h
        rw [set_ne nk2, set_ne nkt, hkb] at h'; cases h'
    simp -implicitDefEqProofs [e3]
    refine hq _ _ ⟨rfl, [kb] ++ [vb], ⟨⟨.mslice kb 0 (l.length + 1) 1, .mslice vb 0 (l.length + 1) 1, [kb], [vb], by simp [Sto.set], ?_, ?_, rfl, ?_, ?_⟩⟩, ?_, ?_⟩
    · rw [hput, map_put]
      exact .inr ⟨kb, by rw [hlk], by rw [set_ne nkt]; exact gk, rfl⟩
    · rw [hput, map_put]
      exact .inr ⟨vb, by rw [hlv], by rw [set_ne nvt]; exact hvb, rfl⟩
    · intro z hz hz'
      rw [List.mem_singleton.1 hz] at hz'
      exact nkv (List.mem_singleton.1 hz')
    · simp [Ne.symm nkt, Ne.symm nvt]
    · intro y o hy ho
      have y1 : y ≠ tb := fun e => hy (by simp [e])
      have y2 : y ∉ Fk := fun e => hy (by simp [e])
      have y3 : y ∉ Fv := fun e => hy (by simp [e])
      have g2 : σ2 y = some o := o1 y o y2 (by rw [set_ne (ne_of ho hb1)]; exact ho)
      rw [set_ne y1]
      exact hne y y1 (ne_of g2 hb2') y3 o g2
    · intro z hz
      rcases List.mem_append.1 hz with hz | hz
      · rw [List.mem_singleton.1 hz]
        rcases f1 kb (by simp) with h | h
        · exact .inl (by simp [h])
        · right
          by_cases e : kb = b1
          · rw [e]; exact hb1
          · rw [set_ne e] at h; exact h
      · rw [List.mem_singleton.1 hz]
        rcases f3 vb (by simp) with h | h
        · exact .inl (by simp [h])
        · have h2n : σ2 vb = none := by
            by_cases e : vb = b2
            · rw [e]; exact hb2'
            · have h' : Sto.set _ b2 _ vb = none := h
              rw [set_ne e, set_ne nvt] at h'; exact h'
          by_cases hk : vb ∈ Fk
          · exact .inl (by simp [hk])
          · right
            cases ho : σ' vb with
            | none => rfl
            | some o =>
              have := o1 vb o hk (by rw [set_ne (ne_of ho hb1)]; exact ho)
              rw [h2n] at this; cases this
  · have hi : (l.map (·.1))[i]? = some k := by simpa using hdec
    have hk : (l[i]?).map (·.1) = some k := by rw [← List.getElem?_map]; exact hi
    rw [if_pos hk] at hput
    have hlt : i < l.length := by have := (List.getElem?_eq_some_iff.1 hi).1; simpa using this
    rcases h3 with ⟨_, h3, _⟩ | ⟨vb, rfl, hvb, rfl⟩
    · simp at h3; subst h3; simp at hlt
    have nvt : vb ≠ tb := fun e => h5 (by simp [e])
    simp -implicitDefEqProofs [hdec, h1, hlt, hvb]
    have hln : ((tput l k v).map (·.2)).length = (l.map (·.2)).length := by rw [hput]; simp; omega
    refine ⟨by omega, hq _ _ ⟨rfl, Fk ++ [vb], ⟨⟨xk, .mslice vb 0 (l.map (·.2)).length 1, Fk, [vb], by rw [set_ne (Ne.symm nvt)]; exact h1, ?_, .inr ⟨vb, by rw [hln], ?_, rfl⟩, rfl, h4, h5⟩⟩, Out.set (by simp), fun z hz => .inl hz⟩⟩
    · rw [hput, map_over hk]
      exact h2.sub fun y hy o ho => by rw [set_ne (fun e => h4 y hy (by simp [e]))]; exact ho
    · rw [hput]
      simp [Sto.set]
end Go.Proofs.YtkbpnnbdfikjhaaGreat

/- Tables: read from a key on. -/
namespace Go.Proofs.YtkbpnnbdfikjhaaGreat
open Go Go.Aw
set_option linter.unusedVariables false
set_option linter.unusedSimpArgs false
set_option maxRecDepth 10000

theorem bl_nil (a : ByteArray) : bl a ⟨#[]⟩ = false := by
  unfold bl
  rw [show (⟨#[]⟩ : ByteArray).toList = [] by rw [ByteArray.toList, ByteArray.toList.loop]; rfl]
  cases a.toList <;> rfl
theorem posOf_nil {l : List ByteArray} {i : Nat} (h : PosOf l ⟨#[]⟩ i) : i = 0 := by
  obtain ⟨h1, h2, h3⟩ := h
  cases i with
  | zero => rfl
  | succ n =>
    have hlt : 0 < l.length := by omega
    have := h2 0 l[0] (by omega) (by simp [hlt])
    rw [bl_nil] at this; cases this

theorem titer_spec (σ : Sto) (yl tb tx kx : Nat) (l : List Pr) (F : List Nat) (hs : Srt l) (hlen : l.length ≤ 1000) (J : Nat → Sto → Prop) (h0 : J 0 σ)
    (hJ : ∀ n σ, J n σ → TabAt σ tb l F ∧ σ tx = some (.cells [.ptr tb 0]) ∧ σ kx = some (.cells [str ⟨#[]⟩]))
    (hy : ∀ (n : Nat) (p : Pr) (σ : Sto), J n σ → l[n]? = some p → AYield Tryz.prog yl [str p.1, str p.2] σ (fun r σ' => r = boo true ∧ J (n + 1) σ')) :
    ACalls Tryz.prog 125 [.func (.yield yl) [] [], .ptr tx 0, .ptr kx 0] σ (fun r σ' => r = .tuple [] ∧ J l.length σ') := by
  obtain ⟨ht, htx, hkx⟩ := hJ 0 σ h0
  obtain ⟨xk, xv, Fk, Fv, h1, h2, h3, rfl, h4, h5⟩ := ht.ex
  have hks : (l.map (·.1)).Pairwise (fun a b => bl a b = true) := by rw [List.pairwise_map]; exact hs
  refine ACalls.q fun q hq => fn_of Tab.mixed Tryz.func125 rfl rfl rfl ?_
  simp -implicitDefEqProofs [htx, h1, hkx]
  refine draw (by kernel_rfl) ?_
  simp -implicitDefEqProofs [htx, h1, hkx]
  refine (search_spec _ xk _ Fk h2 hks (by simpa using hlen) _).mono ?_
  rintro r σ' ⟨⟨i, hp, rfl⟩, rfl⟩
  obtain rfl := posOf_nil hp
  simp -implicitDefEqProofs
  refine wpc_loop (fun e s => ∃ n : Nat, n ≤ l.length ∧ e.length = 45 ∧ gt e 0 = .func (.yield yl) [] [] ∧ gt e 1 = .ptr tx 0 ∧ gt e 2 = .ptr kx 0 ∧ gt e 6 = i64 n ∧ J n s)
    (fun e _ => l.length - (intAt e 6).toNat) ⟨0, by omega, rfl, rfl, rfl, rfl, rfl, h0⟩ ?_
  rintro e s ⟨n, hn, hl, g0, g1, g2, g6, hj⟩
  obtain ⟨ht', htx', hkx'⟩ := hJ n s hj
  obtain ⟨xk', xv', Fk', Fv', k1, k2, k3, k4, k5, k6⟩ := ht'.ex
  by_cases hnl : n < l.length
  · have hne : l ≠ [] := fun e => by rw [e] at hnl; simp at hnl
    obtain ⟨kb, rfl, hkb, rfl⟩ := k2.m (by simpa using hne)
    obtain ⟨vb, rfl, hvb, rfl⟩ := k3.m (by simpa using hne)
    obtain ⟨p, hpn⟩ : ∃ p, l[n]? = some p := ⟨_, List.getElem?_eq_getElem hnl⟩
    have e1 : IntKind.i64.wrap ((n : Int) + 1) = (n : Int) + 1 := wrap_i64 (by omega) (by omega)
    simp -implicitDefEqProofs [hl, g0, g1, g2, g6, htx', k1, hnl]
    refine draw (by kernel_rfl) ?_
    simp -implicitDefEqProofs [hl, g0, g1, g2, g6, htx', k1, hnl, hkb, hvb, hpn]
    refine (hy n l[n] s hj (List.getElem?_eq_getElem hnl)).mono ?_
    rintro r σ' ⟨rfl, hj'⟩
    simp -implicitDefEqProofs [hl, g0, g1, g2, g6, e1]
    refine ⟨⟨n + 1, by omega, by simp, hj'⟩, ?_⟩
    simp [intAt, hl, g6]
    omega
  · obtain rfl : n = l.length := by omega
    rcases k2 with ⟨rfl, k2, rfl⟩ | ⟨kb, rfl, hkb, rfl⟩
    · have hl0 : l = [] := by simpa using k2
      subst hl0
      simp -implicitDefEqProofs [hl, g0, g1, g2, g6, htx', k1]
      exact hq _ _ ⟨rfl, hj⟩
    · simp -implicitDefEqProofs [hl, g0, g1, g2, g6, htx', k1]
      exact hq _ _ ⟨rfl, hj⟩
end Go.Proofs.YtkbpnnbdfikjhaaGreat

/- A call of yield: the record's block is nobody else's behind the body. -/
set_option linter.unusedSimpArgs false
set_option linter.unusedVariables false
namespace Go.Aw
open Go
variable {P : Program}
theorem AYield.of_wpc2 (hm : P.follows .mixedOrders = true) {l : Nat} {fn : FuncId} {ps : Array Tmp} {assign body : Code} {D : Nat} {e : Env} {σ : Sto} {args : List AV} {K : AV → Sto → Prop}
    (hl : σ l = some (.loop fn ps assign body D e)) (hn : args.length = ps.size) (hpa : plainC assign = true) (hpb : plainC body = true)
    (h : wpc P assign (fun x e1 σ1 => match x with
      | .normal => σ1 l = some (.loop fn ps assign body D e) ∧ wpc P body (fun x _ σ2 => match x with
        | .normal => σ2 l = none → K (.sc (.bool true)) (σ2.set l (.loop fn ps assign body D e))
        | _ => False) e1 (σ1.del l)
      | _ => False) (putAll e ps.toList args) σ) : AYield P l args σ K := by
  intro w vs n hs hr
  obtain ⟨tmps, hh, hlen, hrel⟩ := hs.loop _ _ _ _ _ _ _ hl
  have hvs : vs.size = ps.size := by rw [← hr.1, hn]
  refine ⟨fn, _, assign, body, run_yield hh hvs, roundIn_of_wpIn trivial ?_⟩
  have hput := putAll_sound ps.toList args vs.toList e tmps (fun i c v hc hv => hr.2 i c v hc (by simpa using hv)) (by rw [hr.1]; simp) hlen hrel
  have he : EnvR 0 σ w (putAll e ps.toList args) { tmps := (ps.zip vs).foldl (fun tmps (x : Tmp × Value) => tmps.setIfInBounds x.1 x.2) tmps, defers := [] } := by
    have hz : (ps.zip vs).foldl (fun (tmps : Array Value) (x : Tmp × Value) => tmps.setIfInBounds x.1 x.2) tmps = (ps.toList.zip vs.toList).foldl (fun (tm : Array Value) p => tm.setIfInBounds p.1 p.2) tmps := by
      rw [← Array.foldl_toList]; simp
    refine ⟨?_, ⟨List.nodup_nil, by simp⟩, ?_⟩
    · rw [hz]; exact hput.1
    · intro t c v hc hv
      rw [hz] at hv
      exact hput.2 t c v hc hv
  refine wpIn_mono (wpc_soundIn hm (some l) n assign _ _ σ (.inr hpa) h 0 σ w (Nat.zero_le _) hs.dom w _ hs he (Ext.refl σ w)) ?_
  rintro e' a1 w1 ⟨ae, e1, σ1, rfl, hq, hs1, he1, hx1⟩
  cases ae with
  | exit id => exact hq.elim
  | ret => exact hq.elim
  | goto t => exact hq.elim
  | normal =>
    obtain ⟨hl1, hb⟩ := hq
    obtain ⟨tmps1, hh1, hlen1, hrel1⟩ := hs1.loop _ _ _ _ _ _ _ hl1
    obtain ⟨hs2, hx2⟩ := hs1.loop_del (.loop { state := .busy, pending := none, fn, tmps := tmps1, params := ps, assign, body, defers := D }) hl1 hh1
    have hlt : l < w1.heap.size := (Array.getElem?_eq_some_iff.1 hh1).1
    have hh2 : (w1.putObj l (.loop { state := .busy, pending := none, fn, tmps := tmps1, params := ps, assign, body, defers := D })).heap[l]? = some (.loop { state := .busy, pending := none, fn, tmps := tmps1, params := ps, assign, body, defers := D }) := World.putObj_heap_same hlt
    refine ⟨_, run_beginRound hh1 rfl, wpIn_mono (wpc_soundIn hm (some l) n body _ e1 (σ1.del l) (.inr hpb) hb 0 (σ1.del l) _ (Nat.zero_le _) hs2.dom _ a1 hs2 (he1.mono hx2) (Ext.refl _ _)) ?_⟩
    rintro e'' a3 w3 ⟨ae, e2, σ2, rfl, hq, hs3, he3, hx3⟩
    cases ae with
    | exit id => exact hq.elim
    | ret => exact hq.elim
    | goto t => exact hq.elim
    | normal =>
      obtain ⟨k1, k2⟩ := hx3.keep l (by rw [World.putObj_size]; exact hlt) (by simp [Sto.del])
      have hh3 := k1.trans hh2
      refine ⟨_, _, run_endRound none hh3, .bool true, .sc (.bool true), _, rfl, hq k2, ?_, .sc _, ?_⟩
      · have hs4 := hs3.quiet (x := .loop { state := .busy, pending := none, fn, tmps := tmps1, params := ps, assign, body, defers := D }) (y := .loop { state := .ready, pending := none, fn, tmps := tmps1, params := ps, assign, body, defers := D }) trivial trivial hh3 k2
        refine hs4.claim_loop k2 ⟨tmps1, World.putObj_heap_same (Array.getElem?_eq_some_iff.1 hh3).1, hlen1, fun i c v hc hv => ?_⟩
        exact ((((hrel1 i c v hc hv).mono hx2).mono hx3).quiet dull_l dull_l hh3)
      · have hxx : Ext σ w σ2 w3 := (hx1.trans hx2 hs.dom).trans hx3 hs.dom
        refine ⟨by rw [World.putObj_size]; exact hxx.size, fun b hb' hnb => ?_, fun b m hmb => ?_, fun b us ty fr hv => ?_, hxx.same⟩
        · have hne : b ≠ l := fun e => by rw [e, hl] at hnb; cases hnb
          obtain ⟨g1, g2⟩ := hxx.keep b hb' hnb
          exact ⟨(quiet_heap hne).trans g1, by simp [Sto.set, hne, g2]⟩
        · have hne : b ≠ l := fun e => by rw [e, hl] at hmb; cases hmb
          obtain ⟨g1, g2⟩ := hxx.top b m hmb
          exact ⟨fun off ho => (cell_of_block (quiet_heap hne)).trans (g1 off ho), by simpa [Sto.set, hne] using g2⟩
        · have hne : b ≠ l := fun e => by rw [e, hh] at hv; cases hv
          obtain ⟨us', g1, g2⟩ := hxx.shape b us ty fr hv
          exact ⟨us', (quiet_heap hne).trans g1, g2⟩

end Go.Aw
