/- A version that is made. -/
import Derived.Test.YtkbpnnbdfikjhaaGreatK10Chn1
namespace Go.Proofs.YtkbpnnbdfikjhaaGreat
open Go Go.Aw
set_option linter.unusedVariables false
set_option linter.unusedSimpArgs false
set_option maxRecDepth 10000

def encs (l : List A) : List AV := (l.map encA).flatten
theorem encs_len (l : List A) : (encs l).length = l.length * 6 := by
  induction l with
  | nil => rfl
  | cons a l ih => simp only [encs, List.map_cons, List.flatten_cons, List.length_append, List.length_cons] at ih ⊢; rw [ih]; cases a <;> simp [encA] <;> omega
theorem encs_app (l k : List A) : encs (l ++ k) = encs l ++ encs k := by simp [encs]
theorem encs_one (l : List A) : (encs l).all AV.one = true := by
  induction l with
  | nil => rfl
  | cons a l ih => simp only [encs, List.map_cons, List.flatten_cons, List.all_append] at ih ⊢; rw [ih]; cases a <;> rfl

structure VerAt (σ : Sto) (b tb : Nat) (l : List A) (at_ block : Int) : Prop where
  top : σ b = some (.cells [.mslice tb 0 l.length 6, i64 at_, u block])
  todo : σ tb = some (.cells (encs l))
theorem VerAt.of_sub {σ σ' : Sto} {b tb : Nat} {l : List A} {i k : Int} (h : VerAt σ b tb l i k) (hs : Sub σ σ') : VerAt σ' b tb l i k := ⟨hs _ _ h.top, hs _ _ h.todo⟩

/-- what is asked for -/
def todo0 (t : ByteArray) : List A := [.make 3 t]
def todo1 (e : Int) (t : ByteArray) : List A := [.make 3 t, .store 0 0 e]
def todo2 (e n : Int) (t : ByteArray) : List A := todo1 e t ++ if n = 0 then [] else [.store 0 1 n]
def todo3 (e n : Int) (h : Bool) (t : ByteArray) : List A := todo2 e n t ++ if h = true then [.store 0 2 1] else []
def todoI (e n : Int) (h : Bool) (t : ByteArray) : Nat → List A
  | 0 => todo0 t
  | 1 => todo1 e t
  | 2 => todo2 e n t
  | _ => todo3 e n h t

theorem app_acts {σ : Sto} {tb b5 : Nat} {l : List A} {a : A} {k : AV → Sto → Prop} (h1 : σ tb = some (.cells (encs l))) (h2 : σ b5 = some (.cells (encA a))) (hne : tb ≠ b5) (hl : l.length ≤ 1000)
    (hk : ∀ b', (b' = tb ∨ σ b' = none) → k (.mslice b' 0 (l.length + 1) 6) (σ.set b' (.cells (encs (l ++ [a]))))) :
    aAppendM Tryz.prog 234 234 (.mslice tb 0 l.length 6) (.mslice b5 0 1 6) σ k := by
  have e1 : (encA a).length = 6 := by cases a <;> rfl
  have e2 : (encA a).all AV.one = true := by cases a <;> rfl
  have e3 : encs (l ++ [a]) = encs l ++ encA a := by simp [encs]
  unfold aAppendM
  simp only [Tab.elem234, h1, h2, e1, e2, encs_len, encs_one]
  refine ⟨trivial, by omega, trivial, trivial, by omega, trivial, trivial, trivial, by omega, hne, by omega, trivial, ?_, ?_⟩
  · rw [← e3]; exact hk tb (.inl rfl)
  · intro b' hb'
    rw [List.drop_zero, ← e3]; exact hk b' (.inr hb')

/-- the words of a version that is laid -/
theorem todo_step (e n : Int) (h : Bool) (t : ByteArray) (i : Nat) (hi : i < 3) (w : Int) (hw : [e, n, if h = true then 1 else 0][i]? = some w) :
    todoI e n h t (i + 1) = todoI e n h t i ++ if w ≠ 0 ∨ i = 0 then [.store 0 i w] else [] := by
  rcases i with _ | _ | _ | i
  · simp at hw; subst hw; simp [todoI, todo0, todo1]
  · simp at hw; subst hw; simp [todoI, todo2]
  · simp at hw; subst hw
    simp only [todoI, todo3]
    cases h <;> simp
  · omega

theorem vernew_spec (σ : Sto) (e0 n : Int) (k : ByteArray) (h : Bool) (v : ByteArray) :
    ACalls Tryz.prog 141 [u e0, u n, .agg [str k, boo h, str v]] σ
      (fun r σ' => ∃ b tb, r = .ptr b 0 ∧ σ b = none ∧ σ tb = none ∧ VerAt σ' b tb (todo3 e0 n h (if h = true then v else ⟨#[]⟩)) 0 0 ∧ Sub σ σ') := by
  refine ACalls.q fun q hq => fn_of Tab.mixed Tryz.func141 rfl rfl rfl ?_
  simp -implicitDefEqProofs
  refine alloc fun b1 hb1 => ?_
  simp -implicitDefEqProofs
  intro b2 hb2
  refine alloc fun b3 hb3 => ?_
  obtain ⟨n21, f2⟩ := none_of_set hb2
  obtain ⟨n32, hb3'⟩ := none_of_set hb3
  obtain ⟨n31, f3⟩ := none_of_set hb3'
  cases h
  case false =>
    simp -implicitDefEqProofs [n21, n32, n31, Ne.symm n21, Ne.symm n32, Ne.symm n31]
    refine alloc fun b4 hb4 => ?_
    obtain ⟨n43, hb4'⟩ := none_of_set hb4
    obtain ⟨n42, hb5⟩ := none_of_set hb4'
    obtain ⟨n41, f4⟩ := none_of_set hb5
    simp -implicitDefEqProofs [n21, n32, n31, Ne.symm n21, Ne.symm n32, Ne.symm n31, n43, n42, n41, Ne.symm n43, Ne.symm n42, Ne.symm n41]
    refine wpc_loop (fun e s => ∃ (i : Nat) (tb : Nat), i ≤ 3 ∧ e.length = 56 ∧ gt e 7 = .ptr b3 0 ∧ gt e 31 = .agg [u e0, u n, u (if false = true then 1 else 0)] ∧ gt e 32 = i64 i ∧ VerAt s b3 tb (todoI e0 n false ⟨#[]⟩ i) 0 0 ∧ σ tb = none ∧ tb ≠ b3 ∧ Sub σ s)
      (fun e _ => (3 - intAt e 32).toNat) ⟨0, b2, by omega, rfl, rfl, rfl, rfl, ⟨by simp [Sto.set, todoI, todo0, n43, n32, Ne.symm n43], by simp [Sto.set, n42, n43, n32, Ne.symm n32, Ne.symm n42, Ne.symm n43, todoI, todo0, encs, encA]⟩, f2, Ne.symm n32, ?_⟩ ?_
    · repeat first | exact Sub.refl _ | refine sub_set ?_ hb1 | refine sub_set ?_ f2 | refine sub_set ?_ f3 | refine sub_set ?_ f4
    rintro e s ⟨i, tb, hi, hlen, g7, g31, g32, hv, ftb, ntb, hs⟩
    have htop := hv.top
    have htodo := hv.todo
    by_cases h3 : i < 3
    · obtain ⟨w, hw⟩ : ∃ w, [e0, n, if false = true then 1 else 0][i]? = some w := ⟨_, List.getElem?_eq_getElem (by simpa using h3)⟩
      have hst := todo_step e0 n false ⟨#[]⟩ i h3 w hw
      have hix : i = 0 ∨ i = 1 ∨ i = 2 := by omega
      have hw' : [u e0, u n, u (if false = true then 1 else 0)][i]? = some (u w) := by
        rcases hix with rfl | rfl | rfl <;> simpa using hw
      simp -implicitDefEqProofs at hw'
      by_cases hA : w ≠ 0 ∨ i = 0
      · rw [if_pos hA] at hst
        have hgo : ∀ b', (b' = tb ∨ s b' = none) → b' ≠ b3 := fun b' h => by
          rcases h with rfl | h
          · exact ntb
          · exact fun e => by rw [e, htop] at h; cases h
        have hl : (todoI e0 n false ⟨#[]⟩ i).length ≤ 1000 := by rcases hix with rfl | rfl | rfl <;> simp [todoI, todo0, todo1, todo2] <;> split <;> simp
        have e1 : IntKind.i64.wrap ((i : Int) + 1) = ((i + 1 : Nat) : Int) := wrap_i64 (by omega) (by omega)
        by_cases hw0 : w = 0
        case pos =>
          obtain rfl : i = 0 := by omega
          subst hw0
          obtain rfl : e0 = 0 := by simpa using hw
          simp -implicitDefEqProofs [hlen, g7, g31, g32, hw', htop]
          intro b5 hb5
          have nt5 : tb ≠ b5 := ne_of htodo hb5
          have nb5 : b3 ≠ b5 := ne_of htop hb5
          refine app_acts (a := .store 0 0 0) (by rw [set_ne nt5]; exact htodo) (by simp [Sto.set, encA]) nt5 hl fun b' hb' => ?_
          have hb6 : b' = tb ∨ s b' = none := by
            rcases hb' with h | h
            · exact .inl h
            · exact .inr (none_of_set h).2
          have nb' := hgo b' hb6
          have h5n := hs.none hb5
          have hb7 : σ b' = none := by
            rcases hb6 with h | h
            · rw [h]; exact ftb
            · exact hs.none h
          simp -implicitDefEqProofs [hlen, g7, g31, g32, htop, nb', Ne.symm nb', nb5, Ne.symm nb5, e1]
          refine ⟨⟨1, by omega, by simp [show IntKind.i64.wrap 1 = 1 from rfl], b', ⟨by rw [hst]; simp [Sto.set], by rw [hst]; simp [Sto.set, nb', Ne.symm nb']⟩, hb7, nb', ?_⟩, ?_⟩
          · repeat first | exact hs | refine sub_set ?_ f3 | refine sub_set ?_ hb7 | refine sub_set ?_ h5n
          · simp [intAt, g32, hlen, show IntKind.i64.wrap 1 = 1 from rfl]
            try omega
        case neg =>
          simp -implicitDefEqProofs [hlen, g7, g31, g32, show (i : Int) < 3 by omega, hw', htop, hw0]
          intro b5 hb5
          have nt5 : tb ≠ b5 := ne_of htodo hb5
          have nb5 : b3 ≠ b5 := ne_of htop hb5
          refine app_acts (a := .store 0 i w) (by rw [set_ne nt5]; exact htodo) (by simp [Sto.set, encA]) nt5 hl fun b' hb' => ?_
          have hb6 : b' = tb ∨ s b' = none := by
            rcases hb' with h | h
            · exact .inl h
            · exact .inr (none_of_set h).2
          have nb' := hgo b' hb6
          have h5n := hs.none hb5
          have hb7 : σ b' = none := by
            rcases hb6 with h | h
            · rw [h]; exact ftb
            · exact hs.none h
          simp -implicitDefEqProofs [hlen, g7, g31, g32, htop, nb', Ne.symm nb', nb5, Ne.symm nb5, e1]
          refine ⟨⟨i + 1, by omega, by simp, b', ⟨by rw [hst]; simp [Sto.set], by rw [hst]; simp [Sto.set, nb', Ne.symm nb']⟩, hb7, nb', ?_⟩, ?_⟩
          · repeat first | exact hs | refine sub_set ?_ f3 | refine sub_set ?_ hb7 | refine sub_set ?_ h5n
          · simp [intAt, g32, hlen, show IntKind.i64.wrap 1 = 1 from rfl]
            try omega
      · rw [if_neg hA] at hst
        obtain ⟨hw0, hi0⟩ : w = 0 ∧ i ≠ 0 := by omega
        subst hw0
        simp -implicitDefEqProofs [hlen, g7, g31, g32, show (i : Int) < 3 by omega, hw', hi0, show ¬ (i : Int) = 0 by omega, show IntKind.i64.wrap ((i : Int) + 1) = ((i + 1 : Nat) : Int) from wrap_i64 (by omega) (by omega)]
        refine ⟨⟨i + 1, by omega, by simp, tb, by rw [hst, List.append_nil]; exact hv, ftb, ntb, hs⟩, ?_⟩
        simp [intAt, g32, hlen]
        omega
    · obtain rfl : i = 3 := by omega
      simp -implicitDefEqProofs [hlen, g7, g31, g32]
      exact hq _ _ ⟨b3, tb, rfl, f3, ftb, hv, hs⟩
  case true =>
    simp -implicitDefEqProofs [n21, n32, n31, Ne.symm n21, Ne.symm n32, Ne.symm n31]
    refine draw (by kernel_rfl) ?_
    simp -implicitDefEqProofs [n21, n32, n31, Ne.symm n21, Ne.symm n32, Ne.symm n31]
    refine alloc fun b4 hb4 => ?_
    obtain ⟨-, hb4⟩ := none_of_set hb4
    obtain ⟨n43, hb4'⟩ := none_of_set hb4
    obtain ⟨n42, hb5⟩ := none_of_set hb4'
    obtain ⟨n41, f4⟩ := none_of_set hb5
    simp -implicitDefEqProofs [n21, n32, n31, Ne.symm n21, Ne.symm n32, Ne.symm n31, n43, n42, n41, Ne.symm n43, Ne.symm n42, Ne.symm n41]
    refine wpc_loop (fun e s => ∃ (i : Nat) (tb : Nat), i ≤ 3 ∧ e.length = 56 ∧ gt e 7 = .ptr b3 0 ∧ gt e 31 = .agg [u e0, u n, u (if true = true then 1 else 0)] ∧ gt e 32 = i64 i ∧ VerAt s b3 tb (todoI e0 n true v i) 0 0 ∧ σ tb = none ∧ tb ≠ b3 ∧ Sub σ s)
      (fun e _ => (3 - intAt e 32).toNat) ⟨0, b2, by omega, rfl, rfl, rfl, rfl, ⟨by simp [Sto.set, todoI, todo0, n43, n32, Ne.symm n43], by simp [Sto.set, n42, n43, n32, Ne.symm n32, Ne.symm n42, Ne.symm n43, todoI, todo0, encs, encA]⟩, f2, Ne.symm n32, ?_⟩ ?_
    · repeat first | exact Sub.refl _ | refine sub_set ?_ hb1 | refine sub_set ?_ f2 | refine sub_set ?_ f3 | refine sub_set ?_ f4
    rintro e s ⟨i, tb, hi, hlen, g7, g31, g32, hv, ftb, ntb, hs⟩
    have htop := hv.top
    have htodo := hv.todo
    by_cases h3 : i < 3
    · obtain ⟨w, hw⟩ : ∃ w, [e0, n, if true = true then 1 else 0][i]? = some w := ⟨_, List.getElem?_eq_getElem (by simpa using h3)⟩
      have hst := todo_step e0 n true v i h3 w hw
      have hix : i = 0 ∨ i = 1 ∨ i = 2 := by omega
      have hw' : [u e0, u n, u (if true = true then 1 else 0)][i]? = some (u w) := by
        rcases hix with rfl | rfl | rfl <;> simpa using hw
      simp -implicitDefEqProofs at hw'
      by_cases hA : w ≠ 0 ∨ i = 0
      · rw [if_pos hA] at hst
        have hgo : ∀ b', (b' = tb ∨ s b' = none) → b' ≠ b3 := fun b' h => by
          rcases h with rfl | h
          · exact ntb
          · exact fun e => by rw [e, htop] at h; cases h
        have hl : (todoI e0 n true v i).length ≤ 1000 := by rcases hix with rfl | rfl | rfl <;> simp [todoI, todo0, todo1, todo2] <;> split <;> simp
        have e1 : IntKind.i64.wrap ((i : Int) + 1) = ((i + 1 : Nat) : Int) := wrap_i64 (by omega) (by omega)
        by_cases hw0 : w = 0
        case pos =>
          obtain rfl : i = 0 := by omega
          subst hw0
          obtain rfl : e0 = 0 := by simpa using hw
          simp -implicitDefEqProofs [hlen, g7, g31, g32, hw', htop]
          intro b5 hb5
          have nt5 : tb ≠ b5 := ne_of htodo hb5
          have nb5 : b3 ≠ b5 := ne_of htop hb5
          refine app_acts (a := .store 0 0 0) (by rw [set_ne nt5]; exact htodo) (by simp [Sto.set, encA]) nt5 hl fun b' hb' => ?_
          have hb6 : b' = tb ∨ s b' = none := by
            rcases hb' with h | h
            · exact .inl h
            · exact .inr (none_of_set h).2
          have nb' := hgo b' hb6
          have h5n := hs.none hb5
          have hb7 : σ b' = none := by
            rcases hb6 with h | h
            · rw [h]; exact ftb
            · exact hs.none h
          simp -implicitDefEqProofs [hlen, g7, g31, g32, htop, nb', Ne.symm nb', nb5, Ne.symm nb5, e1]
          refine ⟨⟨1, by omega, by simp [show IntKind.i64.wrap 1 = 1 from rfl], b', ⟨by rw [hst]; simp [Sto.set], by rw [hst]; simp [Sto.set, nb', Ne.symm nb']⟩, hb7, nb', ?_⟩, ?_⟩
          · repeat first | exact hs | refine sub_set ?_ f3 | refine sub_set ?_ hb7 | refine sub_set ?_ h5n
          · simp [intAt, g32, hlen, show IntKind.i64.wrap 1 = 1 from rfl]
            try omega
        case neg =>
          simp -implicitDefEqProofs [hlen, g7, g31, g32, show (i : Int) < 3 by omega, hw', htop, hw0]
          intro b5 hb5
          have nt5 : tb ≠ b5 := ne_of htodo hb5
          have nb5 : b3 ≠ b5 := ne_of htop hb5
          refine app_acts (a := .store 0 i w) (by rw [set_ne nt5]; exact htodo) (by simp [Sto.set, encA]) nt5 hl fun b' hb' => ?_
          have hb6 : b' = tb ∨ s b' = none := by
            rcases hb' with h | h
            · exact .inl h
            · exact .inr (none_of_set h).2
          have nb' := hgo b' hb6
          have h5n := hs.none hb5
          have hb7 : σ b' = none := by
            rcases hb6 with h | h
            · rw [h]; exact ftb
            · exact hs.none h
          simp -implicitDefEqProofs [hlen, g7, g31, g32, htop, nb', Ne.symm nb', nb5, Ne.symm nb5, e1]
          refine ⟨⟨i + 1, by omega, by simp, b', ⟨by rw [hst]; simp [Sto.set], by rw [hst]; simp [Sto.set, nb', Ne.symm nb']⟩, hb7, nb', ?_⟩, ?_⟩
          · repeat first | exact hs | refine sub_set ?_ f3 | refine sub_set ?_ hb7 | refine sub_set ?_ h5n
          · simp [intAt, g32, hlen, show IntKind.i64.wrap 1 = 1 from rfl]
            try omega
      · rw [if_neg hA] at hst
        obtain ⟨hw0, hi0⟩ : w = 0 ∧ i ≠ 0 := by omega
        subst hw0
        simp -implicitDefEqProofs [hlen, g7, g31, g32, show (i : Int) < 3 by omega, hw', hi0, show ¬ (i : Int) = 0 by omega, show IntKind.i64.wrap ((i : Int) + 1) = ((i + 1 : Nat) : Int) from wrap_i64 (by omega) (by omega)]
        refine ⟨⟨i + 1, by omega, by simp, tb, by rw [hst, List.append_nil]; exact hv, ftb, ntb, hs⟩, ?_⟩
        simp [intAt, g32, hlen]
        omega
    · obtain rfl : i = 3 := by omega
      simp -implicitDefEqProofs [hlen, g7, g31, g32]
      exact hq _ _ ⟨b3, tb, rfl, f3, ftb, hv, hs⟩

/-- the act at a place -/
def verAct (l : List A) (i : Nat) (block : Int) : Option A := match l[i]? with
  | some (.store _ j w) => some (.store (if i = 0 then 0 else block) j w)
  | some a => some a
  | none => none

theorem encs_at {l : List A} {i : Nat} {a : A} (h : l[i]? = some a) : ((encs l).drop (i * 6)).take 6 = encA a ∧ i * 6 + 6 ≤ (encs l).length := by
  have hlt := (List.getElem?_eq_some_iff.1 h).1
  have key : ∀ (l : List A) (i : Nat), l[i]? = some a → ((encs l).drop (i * 6)).take 6 = encA a := by
    intro l
    induction l with
    | nil => intro i h; simp at h
    | cons x l ih =>
      intro i h
      have hx : (encA x).length = 6 := by cases x <;> rfl
      cases i with
      | zero =>
        simp at h; subst h
        simp only [encs, List.map_cons, List.flatten_cons, Nat.zero_mul, List.drop_zero]
        rw [List.take_append_of_le_length (by omega), List.take_of_length_le (by omega)]
      | succ i =>
        have := ih i (by simpa using h)
        simp only [encs, List.map_cons, List.flatten_cons] at this ⊢
        rw [show (i + 1) * 6 = (encA x).length + i * 6 by omega, List.drop_length_add_append]
        exact this
  have h1 := key l i h
  have h2 : i * 6 + 6 ≤ (encs l).length := by rw [encs_len]; omega
  exact ⟨h1, h2⟩

theorem veract_spec (σ : Sto) (b tb : Nat) (l : List A) (i : Nat) (block : Int) (h : VerAt σ b tb l i block) (a : A) (hi : i < l.length) (hl : l.length ≤ 100) (h0 : ∀ a, l[0]? = some a → ∃ t, a = .make 3 t) (h1 : ∀ j a, 0 < j → l[j]? = some a → ∃ i w, a = .store 0 i w) (ha : verAct l i block = some a) :
    ACalls Tryz.prog 137 [.ptr b 0] σ (fun r σ' => r = actAV (some a) ∧ σ' = σ) := by
  have hx := h.top
  have ht := h.todo
  obtain ⟨a0, e0⟩ : ∃ a0, l[i]? = some a0 := ⟨_, List.getElem?_eq_getElem hi⟩
  obtain ⟨hld, hle⟩ := encs_at e0
  refine ACalls.ro fun q hq => fn_of Tab.mixed Tryz.func137 rfl rfl rfl ?_
  simp -implicitDefEqProofs
  refine alloc fun b1 hb1 => ?_
  have n1 := ne_of hx hb1
  have m1 := ne_of ht hb1
  simp -implicitDefEqProofs
  refine draw (by kernel_rfl) ?_
  simp -implicitDefEqProofs [hx, n1, show ¬ (i : Int) = l.length by omega]
  refine draw (by kernel_rfl) ?_
  simp -implicitDefEqProofs [hx, n1, show (i : Int) < l.length by omega]
  simp -implicitDefEqProofs [ht, m1, hld, hle]
  refine alloc fun b2 hb2 => ?_
  obtain ⟨n21, f2⟩ := none_of_set hb2
  have n2 := ne_of hx f2
  have m2 := ne_of ht f2
  rcases Nat.eq_zero_or_pos i with hi0 | hi0
  · subst hi0
    obtain ⟨t, rfl⟩ := h0 a0 e0
    obtain rfl : A.make 3 t = a := by simpa [verAct, e0] using ha
    simp -implicitDefEqProofs [hx, n1, n2, n21, Ne.symm n21, encA]
    refine drawW [0, 1] [4] b1 [0, 1, 2, 3, 4, 5] (by kernel_rfl) ?_
    simp -implicitDefEqProofs
    refine readB _ b2 _ n21 (by simp [Sto.set]; rfl) (fun σ l h => by simp -implicitDefEqProofs [h]; rfl) ?_
    simp -implicitDefEqProofs
    refine readB _ b2 _ n21 (by simp [Sto.set]; rfl) (fun σ l h => by simp -implicitDefEqProofs [h]; rfl) ?_
    simp -implicitDefEqProofs [n21, Ne.symm n21]
    refine ⟨?_, rl_set⟩
    refine hq _ _ (by simp [actAV, encA]) ?_
    repeat first | exact Sub.refl _ | refine sub_set ?_ hb1 | refine sub_set ?_ f2
  · obtain ⟨j, w, rfl⟩ := h1 i a0 hi0 e0
    obtain rfl : A.store block j w = a := by simpa [verAct, e0, show ¬ i = 0 by omega] using ha
    simp -implicitDefEqProofs [hx, n1, n2, n21, Ne.symm n21, hi0, encA]
    refine drawW [0, 1] [4] b1 [0, 1, 2, 3, 4, 5] (by kernel_rfl) ?_
    simp -implicitDefEqProofs
    refine readB _ b2 _ n21 (by simp [Sto.set]; rfl) (fun σ l h => by simp -implicitDefEqProofs [h]; rfl) ?_
    simp -implicitDefEqProofs
    refine readB _ b2 _ n21 (by simp [Sto.set]; rfl) (fun σ l h => by simp -implicitDefEqProofs [h]; rfl) ?_
    simp -implicitDefEqProofs [n21, Ne.symm n21]
    refine ⟨?_, rl_set⟩
    refine hq _ _ (by simp [actAV, encA]) ?_
    repeat first | exact Sub.refl _ | refine sub_set ?_ hb1 | refine sub_set ?_ f2

theorem vertake_spec (σ : Sto) (b tb : Nat) (l : List A) (i : Nat) (block : Int) (h : VerAt σ b tb l i block) (hi : i < l.length) (hl : l.length ≤ 100) (w : Int) (t : ByteArray) (hw : i = 0 → w ≠ 0) (hb : i ≠ 0 → block ≠ 0) :
    ACalls Tryz.prog 142 [.ptr b 0, .agg (rowG w t)] σ (fun r σ' => r = .tuple [] ∧ σ' = σ.set b (.cells [.mslice tb 0 l.length 6, i64 (i + 1 : Nat), u (if i = 0 then w else block)])) := by
  have hx := h.top
  have ht := h.todo
  have hsub : ∀ (b1 : Nat) (o1 o2 : AObj), σ b1 = none → b ≠ b1 → Sub (σ.set b o2) ((σ.set b1 o1).set b o2) := fun b1 o1 o2 h1 n1 y p hy => by
    simp only [Sto.set] at hy ⊢
    by_cases hyb : y = b
    · simpa [hyb] using hy
    · simp only [hyb, if_false] at hy ⊢
      rw [if_neg (ne_of hy h1)]; exact hy
  have e1 : IntKind.i64.wrap ((i : Int) + 1) = ((i + 1 : Nat) : Int) := wrap_i64 (by omega) (by omega)
  rcases Nat.eq_zero_or_pos i with hi0 | hi0
  · subst hi0
    have hw0 := hw rfl
    refine ACalls.to fun q hq => fn_of Tab.mixed Tryz.func142 rfl rfl rfl ?_
    simp -implicitDefEqProofs
    refine alloc fun b1 hb1 => ?_
    have n1 := ne_of hx hb1
    simp -implicitDefEqProofs
    refine draw (by kernel_rfl) ?_
    simp -implicitDefEqProofs [hx, n1, Ne.symm n1, show ¬ (0 : Int) = l.length by omega, hw0, show IntKind.i64.wrap 1 = 1 from rfl]
    exact hq _ _ rfl (hsub _ _ _ hb1 n1)
  · have hb0 := hb (by omega)
    refine ACalls.to fun q hq => fn_of Tab.mixed Tryz.func142 rfl rfl rfl ?_
    simp -implicitDefEqProofs
    refine alloc fun b1 hb1 => ?_
    have n1 := ne_of hx hb1
    simp -implicitDefEqProofs
    refine draw (by kernel_rfl) ?_
    simp -implicitDefEqProofs [hx, n1, Ne.symm n1, show ¬ (i : Int) = l.length by omega, hb0, e1, show ¬ i = 0 by omega]
    exact hq _ _ rfl (by simpa [show ¬ i = 0 by omega] using hsub _ _ _ hb1 n1)

theorem verresult_spec (σ : Sto) (b tb : Nat) (l : List A) (i : Nat) (block : Int) (h : VerAt σ b tb l i block) (hi : i ≤ l.length) (hl : 0 < l.length) :
    ACalls Tryz.prog 143 [.ptr b 0] σ (fun r σ' => r = (if i < l.length then .tuple [u 0, boo false] else .tuple [u block, boo true]) ∧ σ' = σ) := by
  have hx := h.top
  have hne : ¬ l = [] := by rintro rfl; simp at hl
  by_cases hlt : i < l.length
  · refine ACalls.q fun q hq => fn_of Tab.mixed Tryz.func143 rfl rfl rfl ?_
    simp -implicitDefEqProofs
    refine draw (by kernel_rfl) ?_
    simp -implicitDefEqProofs [hx, hlt, hne, show (i : Int) < l.length by omega]
    exact hq _ _ ⟨by simp [hlt], rfl⟩
  · refine ACalls.q fun q hq => fn_of Tab.mixed Tryz.func143 rfl rfl rfl ?_
    simp -implicitDefEqProofs
    refine draw (by kernel_rfl) ?_
    simp -implicitDefEqProofs [hx, hlt, hne, show ¬ (i : Int) < l.length by omega]
    exact hq _ _ ⟨by simp [hlt], rfl⟩
end Go.Proofs.YtkbpnnbdfikjhaaGreat

/- Laying a row of changes: begun, and gone on with. -/
namespace Go.Proofs.YtkbpnnbdfikjhaaGreat
open Go Go.Aw
set_option linter.unusedVariables false
set_option linter.unusedSimpArgs false
set_option maxRecDepth 10000

structure Ch where
  key : ByteArray
  has : Bool
  value : ByteArray
abbrev encCh (x : Ch) : List AV := [str x.key, boo x.has, str x.value]

theorem clone_spec (σ : Sto) (t : Tok) (l : List Ch) (hl : l.length ≤ 1000) :
    ACalls Tryz.prog 31 [.slice t (l.map encCh)] σ (fun r σ' => (∃ t', r = .slice t' (l.map encCh)) ∧ σ' = σ) := by
  have h3 : ∀ r ∈ l.map encCh, r.length = 3 := by simp
  have h4 : ∀ r ∈ l.map encCh, r.all AV.one = true := by simp [AV.one]
  refine ACalls.ro fun q hq => fn_of Tab.mixed Tryz.func31 rfl rfl rfl ?_
  simp -implicitDefEqProofs
  refine ⟨?_, fun h0 => hq _ _ ⟨.clip, ?_⟩ (Sub.refl σ)⟩
  · refine aAppend_own Tab.elem39 (by omega) (by simp; omega) (by simp) h3 h4 trivial fun tok σ' ho hm => ?_
    simp -implicitDefEqProofs
    exact hq _ _ ⟨tok, by simp⟩ (fun x o hx => hm.keep x o (by simp [fp]) hx)
  · cases l with
    | nil => rfl
    | cons a l => exact absurd (by simp) (h0 a)

inductive LSt where
  | finds (x : Fnd) | heads | makes (l : List A) (i : Nat) (k : Int) | links | keys | names | stamps | done
def LSt.num : LSt → Int
  | .finds _ => 1 | .heads => 2 | .makes _ _ _ => 3 | .links => 4 | .keys => 5 | .names => 6 | .stamps => 7 | .done => 8
structure Ly where
  l : List Ch
  st : LSt
  kind : Int
  shelf : Int
  block : Int
  laid : Int
abbrev rowL (c : Cfg) (ep : Int) (lx : AV) (part : Int) (fa : AV) (kind shelf : Int) (va : AV) (block laid : Int) : List AV :=
  [i64 c.cap, i64 c.pins, i64 c.shelves, i64 c.queue, i64 c.watchers, u c.seed, u ep, lx, i64 part, fa, i64 kind, i64 shelf, va, u block, i64 laid]

def Ly.start (x : Ly) : Ly := match x.l with
  | [] => { x with st := .stamps }
  | ch :: _ => { x with st := .finds (Fnd.new ch.key) }
def Ly.change (x : Ly) : Ly := Ly.start { x with l := x.l.tail }
def Ly.new (l : List Ch) : Ly := Ly.start ⟨l, .stamps, 0, 0, 0, 0⟩

/-- what belongs to a state -/
def LPart (c : Cfg) (σ : Sto) (st : LSt) (fa va : AV) (F : List Nat) : Prop := match st with
  | .finds f => ∃ fb, fa = .ptr fb 0 ∧ σ fb = some (.cells (rowF c f)) ∧ F = [fb]
  | .makes l i k => ∃ vb tb, va = .ptr vb 0 ∧ VerAt σ vb tb l i k ∧ F = [vb, tb]
  | _ => F = []
structure LyAt (σ : Sto) (b : Nat) (c : Cfg) (ep : Int) (x : Ly) (F : List Nat) : Prop where
  row : ∃ t fa va, σ b = some (.cells (rowL c ep (.slice t (x.l.map encCh)) x.st.num fa x.kind x.shelf va x.block x.laid)) ∧ LPart c σ x.st fa va F
  nb : b ∉ F
theorem LPart.sub {c : Cfg} {σ σ' : Sto} {st : LSt} {fa va : AV} {F : List Nat} (h : LPart c σ st fa va F) (hs : ∀ y ∈ F, ∀ o, σ y = some o → σ' y = some o) : LPart c σ' st fa va F := by
  cases st <;> simp only [LPart] at h ⊢ <;> try exact h
  · obtain ⟨fb, h1, h2, rfl⟩ := h
    exact ⟨fb, h1, hs fb (by simp) _ h2, rfl⟩
  · obtain ⟨vb, tb, h1, h2, rfl⟩ := h
    exact ⟨vb, tb, h1, ⟨hs vb (by simp) _ h2.top, hs tb (by simp) _ h2.todo⟩, rfl⟩
theorem LyAt.sub {σ σ' : Sto} {b : Nat} {c : Cfg} {ep : Int} {x : Ly} {F : List Nat} (h : LyAt σ b c ep x F) (hs : ∀ y ∈ b :: F, ∀ o, σ y = some o → σ' y = some o) : LyAt σ' b c ep x F := by
  obtain ⟨t, fa, va, h1, h2⟩ := h.row
  exact ⟨⟨t, fa, va, hs b (by simp) _ h1, h2.sub fun y hy => hs y (by simp [hy])⟩, h.nb⟩

theorem LyAt.of_sub {σ σ' : Sto} {b : Nat} {c : Cfg} {ep : Int} {x : Ly} {F : List Nat} (h : LyAt σ b c ep x F) (hs : Sub σ σ') : LyAt σ' b c ep x F := h.sub fun y _ o => hs y o

/-- what a step leaves: the routine's row, what belongs to it, all else as it was -/
def LTaken (σ σ' : Sto) (b : Nat) (c : Cfg) (ep : Int) (F : List Nat) (x : Ly) : Prop := ∃ F', LyAt σ' b c ep x F' ∧ Out (b :: F) σ σ' ∧ ∀ z ∈ F', z ∈ F ∨ σ z = none

theorem LTaken.of_sub {σ σ1 σ' : Sto} {b : Nat} {c : Cfg} {ep : Int} {F : List Nat} {x : Ly} (hs : Sub σ σ1) (h : LTaken σ1 σ' b c ep F x) : LTaken σ σ' b c ep F x := by
  obtain ⟨F', h1, h2, h3⟩ := h
  exact ⟨F', h1, Out.sub_of hs h2, fun z hz => (h3 z hz).imp id fun hn => hs.none hn⟩

theorem lnext_spec (σ : Sto) (b : Nat) (c : Cfg) (hc : c.right = true) (ep : Int) (t : Tok) (x : Ly) (part : Int) (fa va : AV)
    (hx : σ b = some (.cells (rowL c ep (.slice t (x.l.map encCh)) part fa x.kind x.shelf va x.block x.laid))) (hk : ∀ ch ∈ x.l, ch.key.size ≤ 4096) :
    ACalls Tryz.prog 32 [.ptr b 0] σ (fun r σ' => r = .tuple [] ∧ LTaken σ σ' b c ep [] x.start) := by
  obtain ⟨l, st, kind, shelf, block, laid⟩ := x
  simp only at hx hk
  cases l with
  | nil =>
    refine ACalls.q fun q hq => fn_of Tab.mixed Tryz.func32 rfl rfl rfl ?_
    simp -implicitDefEqProofs [hx]
    exact hq _ _ ⟨rfl, [], ⟨⟨t, fa, va, by simp [Sto.set, Ly.start, LSt.num, rowL], rfl⟩, by simp⟩, Out.set (by simp), by simp⟩
  | cons ch l =>
    have hk1 := hk ch (by simp)
    have hfn := fun σ => fndnew_spec σ c hc ch.key hk1
    simp only [List.map_cons] at hx
    refine ACalls.q fun q hq => fn_of Tab.mixed Tryz.func32 rfl rfl rfl ?_
    simp -implicitDefEqProofs [hx]
    refine drawW [5, 9, 12] [13] (b + 1) (List.range 20) (by kernel_rfl) ?_
    simp -implicitDefEqProofs [hx]
    refine readB (st := [13]) (.agg (rowC c)) b (rowL c ep (.slice t (encCh ch :: l.map encCh)) 7 fa kind shelf va block laid) (by omega) (by simp [Sto.set]) (fun σ l h => by simp -implicitDefEqProofs [h]) ?_
    simp -implicitDefEqProofs [hx]
    refine readB (st := [13]) (.slice t (encCh ch :: l.map encCh)) b (rowL c ep (.slice t (encCh ch :: l.map encCh)) 7 fa kind shelf va block laid) (by omega) (by simp [Sto.set]) (fun σ l h => by simp -implicitDefEqProofs [h]) ?_
    simp -implicitDefEqProofs [hx]
    refine ⟨str ch.key, fun _ => True, trivial, fun _ _ _ h => h, (fun σ _ => by simp -implicitDefEqProofs), ?_⟩
    simp -implicitDefEqProofs [hx]
    refine (hfn _).mono ?_
    rintro r σ' ⟨fb, rfl, hfb, hcf, hsf⟩
    obtain ⟨nfb, ffb⟩ := none_of_set hfb
    have hb' := hsf b _ (by simp [Sto.set]; rfl)
    simp -implicitDefEqProofs
    refine ⟨?_, (Keeps.same hsf).rl⟩
    simp -implicitDefEqProofs [hb']
    refine hq _ _ ⟨rfl, [fb], ⟨⟨t, .ptr fb 0, va, by simp [Sto.set, Ly.start, LSt.num, rowL], fb, rfl, ?_, rfl⟩, by simpa using Ne.symm nfb⟩, fun y o hy ho => ?_, by simp [ffb]⟩
    · rw [set_ne nfb]; exact hcf
    · have hyb : y ≠ b := by simpa using hy
      rw [set_ne hyb]
      exact hsf y o (by rw [set_ne hyb]; exact ho)

theorem lchange_spec (σ : Sto) (b : Nat) (c : Cfg) (hc : c.right = true) (ep : Int) (t : Tok) (x : Ly) (part : Int) (fa va : AV)
    (hx : σ b = some (.cells (rowL c ep (.slice t (x.l.map encCh)) part fa x.kind x.shelf va x.block x.laid))) (hk : ∀ ch ∈ x.l, ch.key.size ≤ 4096) (hl : x.l ≠ []) :
    ACalls Tryz.prog 135 [.ptr b 0] σ (fun r σ' => r = .tuple [] ∧ LTaken σ σ' b c ep [] x.change) := by
  obtain ⟨l, st, kind, shelf, block, laid⟩ := x
  simp only at hx hk hl
  cases l with
  | nil => exact absurd rfl hl
  | cons ch l =>
    have hnx := fun σ t hx => lnext_spec σ b c hc ep t ⟨l, st, kind, shelf, block, laid⟩ part fa va hx (fun ch h => hk ch (by simp [h]))
    simp only [List.map_cons] at hx
    refine ACalls.q fun q hq => fn_of Tab.mixed Tryz.func135 rfl rfl rfl ?_
    simp -implicitDefEqProofs [hx]
    refine ⟨by omega, ?_⟩
    refine (hnx _ _ (by simp [Sto.set]; rfl)).mono ?_
    rintro r σ' ⟨rfl, h⟩
    simp -implicitDefEqProofs
    refine hq _ _ ⟨rfl, ?_⟩
    obtain ⟨F', h1, h2, h3⟩ := h
    exact ⟨F', h1, (Out.set (by simp)).trans h2, fun z hz => (h3 z hz).imp id fun hn => (none_of_set hn).2⟩

theorem encA_row (a : A) : ∃ k b i o n t, encA a = rowA k b i o n t := by cases a <;> exact ⟨_, _, _, _, _, _, rfl⟩

theorem lstore_spec (σ : Sto) (i w : Int) : ACalls Tryz.prog 138 [i64 i, u w] σ (fun r σ' => r = .agg (encA (.store 1 i w)) ∧ σ' = σ) := by
  refine ACalls.ro fun q hq => fn_of Tab.mixed Tryz.func138 rfl rfl rfl ?_
  simp -implicitDefEqProofs
  refine alloc fun b1 hb1 => ?_
  simp -implicitDefEqProofs
  refine hq _ _ (by simp [encA]) ?_
  repeat first | exact Sub.refl _ | refine sub_set ?_ hb1

theorem lnew_spec (σ : Sto) (c : Cfg) (hc : c.right = true) (ep : Int) (t : Tok) (l : List Ch) (hl : l.length ≤ 1000) (hk : ∀ ch ∈ l, ch.key.size ≤ 4096) :
    ACalls Tryz.prog 11 [.agg (rowC c), u ep, .slice t (l.map encCh)] σ (fun r σ' => ∃ b F, r = .ptr b 0 ∧ σ b = none ∧ LyAt σ' b c ep (Ly.new l) F ∧ Sub σ σ' ∧ ∀ z ∈ F, σ z = none) := by
  have hcl := fun σ => clone_spec σ t l hl
  refine ACalls.q fun q hq => fn_of Tab.mixed Tryz.func11 rfl rfl rfl ?_
  simp -implicitDefEqProofs
  refine alloc fun b1 hb1 => ?_
  simp -implicitDefEqProofs
  refine (cright_spec _ c).mono ?_
  rintro r σ' ⟨rfl, rfl⟩
  simp -implicitDefEqProofs [hc]
  refine drawW [0] [3] (b1 + 1) (List.range 7) (by kernel_rfl) ?_
  simp -implicitDefEqProofs
  refine readB (st := [3]) (.agg (rowC c)) b1 (rowC c) (by omega) (by simp [Sto.set]) (fun σ l h => by simp -implicitDefEqProofs [h]) ?_
  simp -implicitDefEqProofs
  refine (hcl _).mono ?_
  rintro r σ' ⟨⟨t', rfl⟩, rfl⟩
  simp -implicitDefEqProofs
  refine ⟨?_, Rl.refl _ _ _⟩
  refine alloc fun b2 hb2 => ?_
  obtain ⟨n21, f2⟩ := none_of_set hb2
  simp -implicitDefEqProofs
  refine (lnext_spec _ b2 c hc ep t' ⟨l, .stamps, 0, 0, 0, 0⟩ 0 (.sc (.pointer none)) (.sc (.pointer none)) (by simp [Sto.set]) hk).mono ?_
  rintro r σ' ⟨rfl, F', h1, h2, h3⟩
  simp -implicitDefEqProofs
  refine hq _ _ ⟨b2, F', rfl, f2, h1, fun y o hy => ?_, fun z hz => ?_⟩
  · refine h2 y o (by simpa using ne_of hy f2) ?_
    rw [set_ne (ne_of hy f2), set_ne (ne_of hy hb1)]; exact hy
  · have := h3 z hz
    simp only [List.not_mem_nil, false_or] at this
    exact (none_of_set (none_of_set this).2).2

/-- the next act -/
def Ly.act (c : Cfg) (ep : Int) (x : Ly) : Option A := match x.st with
  | .finds f => f.act c
  | .heads => some (.load 1 (c.head x.shelf))
  | .makes l i k => verAct l i k
  | .links => some (.store 1 (c.head x.shelf) x.block)
  | .keys => match x.l with
    | ch :: _ => some (.make 0 ch.key)
    | [] => none
  | .names => some (.store 1 (c.key x.shelf) x.block)
  | .stamps => some (.store 1 0 ep)
  | .done => none

/-- what a state must be -/
def LOk (c : Cfg) (x : Ly) : Prop := (0 ≤ x.shelf ∧ x.shelf < c.shelves) ∧ (∀ ch ∈ x.l, ch.key.size ≤ 4096) ∧ (0 ≤ x.laid ∧ x.laid ≤ 1000000) ∧ match x.st with
  | .finds f => (f.kind = 0 ∧ f.shelf = 0 ∧ 0 ≤ f.i ∧ f.i < c.shelves) ∧ x.l ≠ []
  | .makes l i k => i < l.length ∧ l.length ≤ 100 ∧ (∀ a, l[0]? = some a → ∃ t, a = .make 3 t) ∧ (∀ j a, 0 < j → l[j]? = some a → ∃ i w, a = .store 0 i w) ∧ (i ≠ 0 → k ≠ 0) ∧ x.l ≠ []
  | .stamps | .done => True
  | _ => x.l ≠ []

theorem lact_spec (σ : Sto) (b : Nat) (c : Cfg) (hc : c.right = true) (ep : Int) (x : Ly) (F : List Nat) (h : LyAt σ b c ep x F) (ho : LOk c x) :
    ACalls Tryz.prog 133 [.ptr b 0] σ (fun r σ' => r = actAV (x.act c ep) ∧ σ' = σ) := by
  obtain ⟨⟨s0, s1⟩, hk, hld, hst⟩ := ho
  obtain ⟨t, fa, va, hx, hp⟩ := h.row
  have hhead := fun σ => head_spec σ c hc x.shelf s0 s1
  have hkey := fun σ => key_spec σ c hc x.shelf s0 s1
  obtain ⟨l, st, kind, shelf, block, laid⟩ := x
  cases st
  case finds f =>
    obtain ⟨fb, rfl, hf, rfl⟩ := hp
    have hfa := fun σ hx => fndact_spec σ fb c hc f hx (fun _ => ⟨hst.1.2.1, hst.1.2.2.1, hst.1.2.2.2⟩)
    obtain ⟨a, ha⟩ : ∃ a, f.act c = some a := by unfold Fnd.act; rw [if_pos hst.1.1]; split <;> exact ⟨_, rfl⟩
    obtain ⟨ek, eb, ei, eo, en, et, ea⟩ := encA_row a
    simp only [ha, actAV, ea] at hfa
    refine ACalls.ro fun q hq => fn_of Tab.mixed Tryz.func133 rfl rfl rfl ?_
    simp -implicitDefEqProofs
    refine alloc fun b1 hb1 => ?_
    have n1 := ne_of hx hb1
    have m1 := ne_of hf hb1
    simp -implicitDefEqProofs
    refine drawP [9] (by kernel_rfl) ?_
    simp -implicitDefEqProofs [hx, n1]
    refine read (i64 (c.head shelf)) (fun _ => True) trivial (fun _ _ _ h => h) (fun σ _ => ?_) ?_
    · simp -implicitDefEqProofs
      exact hhead σ
    simp -implicitDefEqProofs [hx, n1, LSt.num]
    refine (hfa _ (by rw [set_ne m1]; exact hf)).mono ?_
    rintro r σ' ⟨rfl, rfl⟩
    simp -implicitDefEqProofs
    refine hq _ _ (by simp [Ly.act, ha, actAV, ea]) ?_
    repeat first | exact Sub.refl _ | refine sub_set ?_ hb1
  case makes vl i k =>
    obtain ⟨vb, tb, rfl, hv, rfl⟩ := hp
    obtain ⟨v1, v2, v3, v4, v5, v6⟩ := hst
    obtain ⟨a, ha⟩ : ∃ a, verAct vl i k = some a := by
      unfold verAct
      rw [List.getElem?_eq_getElem v1]
      split
      · exact ⟨_, rfl⟩
      · exact ⟨_, rfl⟩
      · rename_i e; cases e
    have hva := fun σ h => veract_spec σ vb tb vl i k h a v1 v2 v3 v4 ha
    obtain ⟨ek, eb, ei, eo, en, et, ea⟩ := encA_row a
    simp only [actAV, ea] at hva
    refine ACalls.ro fun q hq => fn_of Tab.mixed Tryz.func133 rfl rfl rfl ?_
    simp -implicitDefEqProofs
    refine alloc fun b1 hb1 => ?_
    have n1 := ne_of hx hb1
    simp -implicitDefEqProofs
    refine drawP [9] (by kernel_rfl) ?_
    simp -implicitDefEqProofs [hx, n1]
    refine read (i64 (c.head shelf)) (fun _ => True) trivial (fun _ _ _ h => h) (fun σ _ => ?_) ?_
    · simp -implicitDefEqProofs
      exact hhead σ
    simp -implicitDefEqProofs [hx, n1, LSt.num]
    refine (hva _ (hv.of_sub (sub_set (Sub.refl σ) hb1))).mono ?_
    rintro r σ' ⟨rfl, rfl⟩
    simp -implicitDefEqProofs
    refine hq _ _ (by simp [Ly.act, ha, actAV, ea]) ?_
    repeat first | exact Sub.refl _ | refine sub_set ?_ hb1
  case keys =>
    cases l with
    | nil => exact absurd rfl hst
    | cons ch l =>
      simp only [List.map_cons] at hx
      refine ACalls.ro fun q hq => fn_of Tab.mixed Tryz.func133 rfl rfl rfl ?_
      simp -implicitDefEqProofs
      refine alloc fun b1 hb1 => ?_
      have n1 := ne_of hx hb1
      simp -implicitDefEqProofs
      refine drawP [9] (by kernel_rfl) ?_
      simp -implicitDefEqProofs [hx, n1]
      refine read (i64 (c.head shelf)) (fun _ => True) trivial (fun _ _ _ h => h) (fun σ _ => ?_) ?_
      · simp -implicitDefEqProofs
        exact hhead σ
      simp -implicitDefEqProofs [hx, n1, LSt.num]
      refine hq _ _ (by simp [Ly.act, actAV, encA]) ?_
      repeat first | exact Sub.refl _ | refine sub_set ?_ hb1
  case names =>
    refine ACalls.ro fun q hq => fn_of Tab.mixed Tryz.func133 rfl rfl rfl ?_
    simp -implicitDefEqProofs
    refine alloc fun b1 hb1 => ?_
    have n1 := ne_of hx hb1
    simp -implicitDefEqProofs
    refine drawP [9] (by kernel_rfl) ?_
    simp -implicitDefEqProofs [hx, n1]
    refine read (i64 (c.head shelf)) (fun _ => True) trivial (fun _ _ _ h => h) (fun σ _ => ?_) ?_
    · simp -implicitDefEqProofs
      exact hhead σ
    simp -implicitDefEqProofs [hx, n1, LSt.num]
    refine drawP [9, 14] (by kernel_rfl) ?_
    simp -implicitDefEqProofs [hx, n1]
    refine read (i64 (c.key shelf)) (fun _ => True) trivial (fun _ _ _ h => h) (fun σ _ => ?_) ?_
    · simp -implicitDefEqProofs
      exact hkey σ
    simp -implicitDefEqProofs [hx, n1]
    refine read (.agg (encA (.store 1 (c.key shelf) block))) (fun _ => True) trivial (fun _ _ _ h => h) (fun σ _ => ?_) ?_
    · simp -implicitDefEqProofs
      exact lstore_spec σ _ _
    simp -implicitDefEqProofs [encA]
    refine hq _ _ (by simp [Ly.act, actAV, encA]) ?_
    repeat first | exact Sub.refl _ | refine sub_set ?_ hb1
  case links =>
    refine ACalls.ro fun q hq => fn_of Tab.mixed Tryz.func133 rfl rfl rfl ?_
    simp -implicitDefEqProofs
    refine alloc fun b1 hb1 => ?_
    have n1 := ne_of hx hb1
    simp -implicitDefEqProofs
    refine drawP [9] (by kernel_rfl) ?_
    simp -implicitDefEqProofs [hx, n1]
    refine read (i64 (c.head shelf)) (fun _ => True) trivial (fun _ _ _ h => h) (fun σ _ => ?_) ?_
    · simp -implicitDefEqProofs
      exact hhead σ
    simp -implicitDefEqProofs [hx, n1, LSt.num]
    refine (lstore_spec _ _ _).mono ?_
    rintro r σ' ⟨rfl, rfl⟩
    simp -implicitDefEqProofs [encA]
    refine hq _ _ (by simp [Ly.act, actAV, encA]) ?_
    repeat first | exact Sub.refl _ | refine sub_set ?_ hb1
  case stamps =>
    refine ACalls.ro fun q hq => fn_of Tab.mixed Tryz.func133 rfl rfl rfl ?_
    simp -implicitDefEqProofs
    refine alloc fun b1 hb1 => ?_
    have n1 := ne_of hx hb1
    simp -implicitDefEqProofs
    refine drawP [9] (by kernel_rfl) ?_
    simp -implicitDefEqProofs [hx, n1]
    refine read (i64 (c.head shelf)) (fun _ => True) trivial (fun _ _ _ h => h) (fun σ _ => ?_) ?_
    · simp -implicitDefEqProofs
      exact hhead σ
    simp -implicitDefEqProofs [hx, n1, LSt.num]
    refine (lstore_spec _ _ _).mono ?_
    rintro r σ' ⟨rfl, rfl⟩
    simp -implicitDefEqProofs [encA]
    refine hq _ _ (by simp [Ly.act, actAV, encA]) ?_
    repeat first | exact Sub.refl _ | refine sub_set ?_ hb1
  all_goals
    refine ACalls.ro fun q hq => fn_of Tab.mixed Tryz.func133 rfl rfl rfl ?_
    simp -implicitDefEqProofs
    refine alloc fun b1 hb1 => ?_
    have n1 := ne_of hx hb1
    simp -implicitDefEqProofs
    refine drawP [9] (by kernel_rfl) ?_
    simp -implicitDefEqProofs [hx, n1]
    refine read (i64 (c.head shelf)) (fun _ => True) trivial (fun _ _ _ h => h) (fun σ _ => ?_) ?_
    · simp -implicitDefEqProofs
      exact hhead σ
    simp -implicitDefEqProofs [hx, n1, LSt.num]
    refine hq _ _ (by simp [Ly.act, actAV, encA]) ?_
    repeat first | exact Sub.refl _ | refine sub_set ?_ hb1
end Go.Proofs.YtkbpnnbdfikjhaaGreat

/- Laying a row of changes: an answer is taken. -/
namespace Go.Proofs.YtkbpnnbdfikjhaaGreat
open Go Go.Aw
set_option linter.unusedVariables false
set_option linter.unusedSimpArgs false
set_option maxRecDepth 10000

theorem Out.mono {F F' : List Nat} {σ σ' : Sto} (h : Out F σ σ') (hf : ∀ x ∈ F, x ∈ F') : Out F' σ σ' := fun x o hx ho => h x o (fun h' => hx (hf x h')) ho
theorem LTaken.mono {F F' : List Nat} {σ σ' : Sto} {b : Nat} {c : Cfg} {ep : Int} {x : Ly} (h : LTaken σ σ' b c ep F x) (hf : ∀ x ∈ F, x ∈ F') : LTaken σ σ' b c ep F' x := by
  obtain ⟨G, h1, h2, h3⟩ := h
  exact ⟨G, h1, h2.mono (fun y hy => by simp only [List.mem_cons] at hy ⊢; exact hy.imp id (hf y)), fun z hz => (h3 z hz).imp (hf z) id⟩

def Ly.look (x : Ly) (f : Fnd) : Ly := if f.kind = 0 then { x with st := .finds f } else if f.kind = 3 then x.change else { x with kind := f.kind, shelf := f.shelf, st := .heads }

theorem llook_spec (σ : Sto) (b fb : Nat) (c : Cfg) (hc : c.right = true) (ep : Int) (t : Tok) (x : Ly) (f : Fnd) (va : AV)
    (hx : σ b = some (.cells (rowL c ep (.slice t (x.l.map encCh)) 1 (.ptr fb 0) x.kind x.shelf va x.block x.laid))) (hf : σ fb = some (.cells (rowF c f))) (hbf : b ≠ fb)
    (hk : ∀ ch ∈ x.l, ch.key.size ≤ 4096) (hl : x.l ≠ []) (hfk : f.kind = 0 → f.shelf = 0) :
    ACalls Tryz.prog 140 [.ptr b 0] σ (fun r σ' => r = .tuple [] ∧ LTaken σ σ' b c ep [fb] (x.look f)) := by
  have hr := fun σ hf => fndresult_spec σ fb c f hf hfk
  have hch := fun σ hx => lchange_spec σ b c hc ep t x 1 (.ptr fb 0) va hx hk hl
  by_cases h0 : f.kind = 0
  · simp only [h0, if_true] at hr
    refine ACalls.q fun q hq => fn_of Tab.mixed Tryz.func140 rfl rfl rfl ?_
    simp -implicitDefEqProofs [hx]
    refine (hr _ hf).mono ?_
    rintro r σ' ⟨rfl, rfl⟩
    simp -implicitDefEqProofs
    refine alloc fun b1 hb1 => ?_
    simp -implicitDefEqProofs
    refine hq _ _ ⟨rfl, [fb], ⟨⟨t, .ptr fb 0, va, ?_, ?_⟩, by simpa using hbf⟩, Out.of_sub (sub_set' (Sub.refl _) hb1), by simp⟩
    · rw [set_ne (ne_of hx hb1), hx]; simp [Ly.look, h0, LSt.num]
    · rw [show (x.look f).st = .finds f by simp [Ly.look, h0]]
      exact ⟨fb, rfl, by rw [set_ne (ne_of hf hb1)]; exact hf, rfl⟩
  · simp only [h0, if_false] at hr
    by_cases h3 : f.kind = 3
    · refine ACalls.q fun q hq => fn_of Tab.mixed Tryz.func140 rfl rfl rfl ?_
      simp -implicitDefEqProofs [hx]
      refine (hr _ hf).mono ?_
      rintro r σ' ⟨rfl, rfl⟩
      simp -implicitDefEqProofs
      refine alloc fun b1 hb1 => ?_
      simp -implicitDefEqProofs [h3]
      refine (hch _ (by rw [set_ne (ne_of hx hb1)]; exact hx)).mono ?_
      rintro r σ2 ⟨rfl, h⟩
      simp -implicitDefEqProofs
      refine hq _ _ ⟨rfl, ?_⟩
      rw [show Ly.look x f = x.change by simp [Ly.look, h3]]
      exact (h.of_sub (sub_set' (Sub.refl _) hb1)).mono (by simp)
    · refine ACalls.q fun q hq => fn_of Tab.mixed Tryz.func140 rfl rfl rfl ?_
      simp -implicitDefEqProofs [hx]
      refine (hr _ hf).mono ?_
      rintro r σ' ⟨rfl, rfl⟩
      simp -implicitDefEqProofs
      refine alloc fun b1 hb1 => ?_
      have n1 := ne_of hx hb1
      simp -implicitDefEqProofs [h3, hx, n1, Ne.symm n1]
      refine hq _ _ ⟨rfl, [], ⟨⟨t, .ptr fb 0, va, by simp [Sto.set, Ly.look, h0, h3, LSt.num, rowL], by simp [Ly.look, h0, h3, LPart]⟩, by simp⟩, ?_, by simp⟩
      exact ((Out.of_sub (sub_set' (Sub.refl _) hb1)).trans (Out.set (by simp)))

/-- what it is behind an answer -/
def Ly.take (c : Cfg) (ep : Int) (x : Ly) (w : Int) (t : ByteArray) : Ly := match x.st with
  | .finds f => x.look (f.take c w t)
  | .heads => match x.l with
    | ch :: _ => { x with st := .makes (todo3 ep w ch.has (if ch.has = true then ch.value else ⟨#[]⟩)) 0 0 }
    | [] => x
  | .makes l i k => if i + 1 < l.length then { x with st := .makes l (i + 1) (if i = 0 then w else k) } else { x with block := if i = 0 then w else k, st := .links }
  | .links => if x.kind = 1 then Ly.change { x with laid := x.laid + 1 } else { x with laid := x.laid + 1, st := .keys }
  | .keys => { x with block := w, st := .names }
  | .names => x.change
  | .stamps => { x with st := .done }
  | .done => x

theorem Fnd.take_kind (c : Cfg) (f : Fnd) (w : Int) (t : ByteArray) (h0 : f.kind = 0) (hs : f.shelf = 0) : (f.take c w t).kind = 0 → (f.take c w t).shelf = 0 := by
  unfold Fnd.take; split <;> split <;> simp [h0, hs] <;> split <;> simp [h0, hs]

theorem ltake_spec (σ : Sto) (b : Nat) (c : Cfg) (hc : c.right = true) (ep : Int) (x : Ly) (F : List Nat) (h : LyAt σ b c ep x F) (ho : LOk c x) (w : Int) (tx : ByteArray)
    (hw : match x.st with | .makes l i k => i = 0 → w ≠ 0 | _ => True) (hd : x.st ≠ .done) :
    ACalls Tryz.prog 134 [.ptr b 0, .agg (rowG w tx)] σ (fun r σ' => r = .tuple [] ∧ LTaken σ σ' b c ep F (x.take c ep w tx)) := by
  obtain ⟨⟨s0, s1⟩, hk, hld, hst⟩ := ho
  obtain ⟨t, fa, va, hx, hp⟩ := h.row
  have hnb := h.nb
  have hlk := fun σ f fb hx hf h1 h2 h3 => llook_spec σ b fb c hc ep t x f va hx hf h1 hk h2 h3
  have hch := fun σ hx h1 => lchange_spec σ b c hc ep t x x.st.num fa va hx hk h1
  have hch1 := fun σ hx h1 => lchange_spec σ b c hc ep t { x with laid := x.laid + 1 } 5 fa va hx hk h1
  obtain ⟨l, st, kind, shelf, block, laid⟩ := x
  cases st
  case done => exact absurd rfl hd
  case finds f =>
    obtain ⟨fb, rfl, hf, rfl⟩ := hp
    obtain ⟨⟨k1, k2, k3, k4⟩, k5⟩ := hst
    have hbf : b ≠ fb := by simpa using hnb
    have hft := fun σ hf => fndtake_spec σ fb c hc f hf k1 ⟨k2, k3, k4⟩ w tx
    refine ACalls.q fun q hq => fn_of Tab.mixed Tryz.func134 rfl rfl rfl ?_
    simp -implicitDefEqProofs
    refine alloc fun b1 hb1 => ?_
    have n1 := ne_of hx hb1
    have m1 := ne_of hf hb1
    simp -implicitDefEqProofs [hx, n1, LSt.num]
    refine draw (by kernel_rfl) ?_
    simp -implicitDefEqProofs [hx, n1]
    refine (hft _ (by rw [set_ne m1]; exact hf)).mono ?_
    rintro r σ' ⟨rfl, rfl⟩
    simp -implicitDefEqProofs
    refine (hlk _ (f.take c w tx) fb (by rw [set_ne hbf, set_ne n1]; exact hx) (by simp [Sto.set]) hbf k5 (Fnd.take_kind c f w tx k1 k2)).mono ?_
    rintro r σ' ⟨rfl, h'⟩
    simp -implicitDefEqProofs
    refine hq _ _ ⟨rfl, ?_⟩
    obtain ⟨F', h1, h2, h3⟩ := h'
    refine ⟨F', h1, ((Out.of_sub (sub_set' (Sub.refl _) hb1)).trans (Out.set (by simp))).trans h2, fun z hz => (h3 z hz).imp id fun hn => ?_⟩
    exact (none_of_set (none_of_set hn).2).2
  case heads =>
    cases l with
    | nil => exact absurd rfl hst
    | cons ch l =>
      obtain rfl : F = [] := hp
      have hvn := fun σ => vernew_spec σ ep w ch.key ch.has ch.value
      simp only [List.map_cons] at hx
      refine ACalls.q fun q hq => fn_of Tab.mixed Tryz.func134 rfl rfl rfl ?_
      simp -implicitDefEqProofs
      refine alloc fun b1 hb1 => ?_
      have n1 := ne_of hx hb1
      simp -implicitDefEqProofs [hx, n1, Ne.symm n1, LSt.num]
      refine draw (by kernel_rfl) ?_
      simp -implicitDefEqProofs [hx, n1]
      refine (hvn _).mono ?_
      rintro r σ' ⟨vb, tb, rfl, fv, ft, hv, hs⟩
      obtain ⟨nv1, fv'⟩ := none_of_set fv
      obtain ⟨nt1, ft'⟩ := none_of_set ft
      have hb' := hs b _ (by rw [set_ne n1]; exact hx)
      have nbv := ne_of hx fv'
      have nbt := ne_of hx ft'
      simp -implicitDefEqProofs [hb']
      refine hq _ _ ⟨rfl, [vb, tb], ⟨⟨t, fa, .ptr vb 0, by simp [Sto.set, Ly.take, LSt.num, rowL], ?_⟩, by simp [nbv, nbt]⟩, ?_, by simp [fv', ft']⟩
      · exact ⟨vb, tb, rfl, ⟨by rw [set_ne (Ne.symm nbv)]; exact hv.top, by rw [set_ne (Ne.symm nbt)]; exact hv.todo⟩, rfl⟩
      · exact (Out.of_sub ((sub_set (Sub.refl σ) hb1).trans hs)).trans (Out.set (by simp))
  case makes vl i k =>
    obtain ⟨vb, tb, rfl, hv, rfl⟩ := hp
    obtain ⟨v1, v2, v3, v4, v5, v6⟩ := hst
    have hbv : b ≠ vb ∧ b ≠ tb := by simpa using hnb
    have hvt : vb ≠ tb := fun e => by have h1 := hv.top; rw [e, hv.todo] at h1; simp at h1; have := congrArg List.length h1; rw [encs_len] at this; simp at this; omega
    have htk := fun σ h => vertake_spec σ vb tb vl i k h v1 v2 w tx hw v5
    have hrs := fun σ k' h => verresult_spec σ vb tb vl (i + 1) k' h (by omega) (by omega)
    refine ACalls.q fun q hq => fn_of Tab.mixed Tryz.func134 rfl rfl rfl ?_
    simp -implicitDefEqProofs
    refine alloc fun b1 hb1 => ?_
    have n1 := ne_of hx hb1
    simp -implicitDefEqProofs [hx, n1, Ne.symm n1, LSt.num]
    refine draw (by kernel_rfl) ?_
    simp -implicitDefEqProofs [hx, n1]
    refine (htk _ (hv.of_sub (sub_set (Sub.refl σ) hb1))).mono ?_
    rintro r σ' ⟨rfl, rfl⟩
    simp -implicitDefEqProofs [hx, n1, hbv.1]
    refine (hrs _ (if i = 0 then w else k) ⟨by simp [Sto.set], ?_⟩).mono ?_
    · rw [set_ne (Ne.symm hvt), set_ne (ne_of hv.todo hb1)]; exact hv.todo
    rintro r σ' ⟨rfl, rfl⟩
    by_cases hlt : i + 1 < vl.length
    · simp -implicitDefEqProofs [hlt]
      refine hq _ _ ⟨rfl, [vb, tb], ⟨⟨t, fa, .ptr vb 0, ?_, ?_⟩, hnb⟩, ((Out.of_sub (sub_set' (Sub.refl _) hb1)).trans (Out.set (by simp))), by simp⟩
      · rw [set_ne hbv.1, set_ne n1, hx]; simp [Ly.take, hlt, LSt.num]
      · rw [show (Ly.take c ep ⟨l, .makes vl i k, kind, shelf, block, laid⟩ w tx).st = .makes vl (i + 1) (if i = 0 then w else k) by simp [Ly.take, hlt]]
        exact ⟨vb, tb, rfl, ⟨by simp [Sto.set], by rw [set_ne (Ne.symm hvt), set_ne (ne_of hv.todo hb1)]; exact hv.todo⟩, rfl⟩
    · simp -implicitDefEqProofs [hlt, hx, n1, hbv.1]
      refine hq _ _ ⟨rfl, [], ⟨⟨t, fa, .ptr vb 0, by simp [Sto.set, Ly.take, hlt, LSt.num, rowL], ?_⟩, by simp⟩, ((Out.of_sub (sub_set' (Sub.refl _) hb1)).trans (Out.set (by simp))).trans (Out.set (by simp)), by simp⟩
      rw [show (Ly.take c ep ⟨l, .makes vl i k, kind, shelf, block, laid⟩ w tx).st = .links by simp [Ly.take, hlt]]
      rfl
  case links =>
    obtain rfl : F = [] := hp
    have e1 : IntKind.i64.wrap (laid + 1) = laid + 1 := wrap_i64 (by simp only at hld; omega) (by simp only at hld; omega)
    by_cases hk1 : kind = 1
    · refine ACalls.q fun q hq => fn_of Tab.mixed Tryz.func134 rfl rfl rfl ?_
      simp -implicitDefEqProofs
      refine alloc fun b1 hb1 => ?_
      have n1 := ne_of hx hb1
      simp -implicitDefEqProofs [hx, n1, Ne.symm n1, LSt.num, hk1, e1]
      refine (hch1 _ (by simp [Sto.set, hk1]) hst).mono ?_
      rintro r σ2 ⟨rfl, h'⟩
      simp -implicitDefEqProofs
      refine hq _ _ ⟨rfl, ?_⟩
      obtain ⟨F', h1, h2, h3⟩ := h'
      rw [show Ly.take c ep ⟨l, .links, kind, shelf, block, laid⟩ w tx = Ly.change ⟨l, .links, kind, shelf, block, laid + 1⟩ by simp [Ly.take, hk1]]
      exact ⟨F', h1, ((Out.of_sub (sub_set' (Sub.refl _) hb1)).trans (Out.set (by simp))).trans h2, fun z hz => (h3 z hz).imp id fun hn => (none_of_set (none_of_set hn).2).2⟩
    · refine ACalls.q fun q hq => fn_of Tab.mixed Tryz.func134 rfl rfl rfl ?_
      simp -implicitDefEqProofs
      refine alloc fun b1 hb1 => ?_
      have n1 := ne_of hx hb1
      simp -implicitDefEqProofs [hx, n1, Ne.symm n1, LSt.num, hk1, e1]
      refine hq _ _ ⟨rfl, [], ⟨⟨t, fa, va, by simp [Sto.set, Ly.take, hk1, LSt.num, rowL], by simp [Ly.take, hk1, LPart]⟩, by simp⟩, (Out.of_sub (sub_set' (Sub.refl _) hb1)).trans (Out.set (by simp)), by simp⟩
  case keys =>
    obtain rfl : F = [] := hp
    refine ACalls.q fun q hq => fn_of Tab.mixed Tryz.func134 rfl rfl rfl ?_
    simp -implicitDefEqProofs
    refine alloc fun b1 hb1 => ?_
    have n1 := ne_of hx hb1
    simp -implicitDefEqProofs [hx, n1, Ne.symm n1, LSt.num]
    refine hq _ _ ⟨rfl, [], ⟨⟨t, fa, va, by simp [Sto.set, Ly.take, LSt.num, rowL], rfl⟩, by simp⟩, (Out.of_sub (sub_set' (Sub.refl _) hb1)).trans (Out.set (by simp)), by simp⟩
  case names =>
    obtain rfl : F = [] := hp
    refine ACalls.q fun q hq => fn_of Tab.mixed Tryz.func134 rfl rfl rfl ?_
    simp -implicitDefEqProofs
    refine alloc fun b1 hb1 => ?_
    have n1 := ne_of hx hb1
    simp -implicitDefEqProofs [hx, n1, Ne.symm n1, LSt.num]
    refine (hch _ (by rw [set_ne n1]; exact hx) hst).mono ?_
    rintro r σ2 ⟨rfl, h'⟩
    simp -implicitDefEqProofs
    exact hq _ _ ⟨rfl, h'.of_sub (sub_set' (Sub.refl _) hb1)⟩
  case stamps =>
    obtain rfl : F = [] := hp
    refine ACalls.q fun q hq => fn_of Tab.mixed Tryz.func134 rfl rfl rfl ?_
    simp -implicitDefEqProofs
    refine alloc fun b1 hb1 => ?_
    have n1 := ne_of hx hb1
    simp -implicitDefEqProofs [hx, n1, Ne.symm n1, LSt.num]
    refine hq _ _ ⟨rfl, [], ⟨⟨t, fa, va, by simp [Sto.set, Ly.take, LSt.num, rowL], rfl⟩, by simp⟩, (Out.of_sub (sub_set' (Sub.refl _) hb1)).trans (Out.set (by simp)), by simp⟩
end Go.Proofs.YtkbpnnbdfikjhaaGreat
