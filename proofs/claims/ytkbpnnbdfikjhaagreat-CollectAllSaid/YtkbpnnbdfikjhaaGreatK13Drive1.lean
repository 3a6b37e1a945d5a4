/- One step of a routine's. -/
import Derived.Test.YtkbpnnbdfikjhaaGreatK12Tbl0
namespace Go.Proofs.YtkbpnnbdfikjhaaGreat
open Go Go.Aw
set_option linter.unusedVariables false
set_option linter.unusedSimpArgs false
set_option maxRecDepth 10000

/-- a routine: where it stands, what it asks, what an answer makes of it -/
structure Rtn where
  T : TypeId
  fA : FuncId
  fT : FuncId
  S : Type
  at_ : Sto → Nat → S → List Nat → Prop
  act : S → Option A
  take : S → Int → ByteArray → S
  ok : S → Prop
  okT : S → Int → ByteArray → Prop
structure Rtn.Ok (R : Rtn) : Prop where
  mA : tyMeth Tryz.prog R.T "Act" = some R.fA
  mT : tyMeth Tryz.prog R.T "Take" = some R.fT
  cA : callable Tryz.prog R.fA = true
  cT : callable Tryz.prog R.fT = true
  sub : ∀ {σ σ' : Sto} {b : Nat} {s : R.S} {F : List Nat}, R.at_ σ b s F → (∀ y ∈ b :: F, ∀ o, σ y = some o → σ' y = some o) → R.at_ σ' b s F
  nb : ∀ {σ : Sto} {b : Nat} {s : R.S} {F : List Nat}, R.at_ σ b s F → b ∉ F
  claimed : ∀ {σ : Sto} {b : Nat} {s : R.S} {F : List Nat}, R.at_ σ b s F → ∀ y ∈ b :: F, σ y ≠ none
  act_spec : ∀ (σ : Sto) (b : Nat) (s : R.S) (F : List Nat), R.at_ σ b s F → R.ok s → ACalls Tryz.prog R.fA [.ptr b 0] σ (fun r σ' => r = actAV (R.act s) ∧ σ' = σ)
  take_spec : ∀ (σ : Sto) (b : Nat) (s : R.S) (F : List Nat) (w : Int) (t : ByteArray), R.at_ σ b s F → R.ok s → R.okT s w t →
    ACalls Tryz.prog R.fT [.ptr b 0, .agg (rowG w t)] σ (fun r σ' => r = .tuple [] ∧ ∃ F', R.at_ σ' b (R.take s w t) F' ∧ Out (b :: F) σ σ' ∧ ∀ z ∈ F', z ∈ F ∨ σ z = none)

theorem dnext_spec (R : Rtn) (hR : R.Ok) (σ : Sto) (b : Nat) (s : R.S) (F : List Nat) (h : R.at_ σ b s F) (ho : R.ok s) :
    ACalls Tryz.prog 53 [.iface R.T (.ptr b 0)] σ (fun r σ' => r = actAV (R.act s) ∧ σ' = σ) := by
  obtain ⟨k, i1, i2, i3, i4, t, ea, hb⟩ : ∃ k i1 i2 i3 i4 t, ∃ hb : Bool, actAV (R.act s) = .tuple [.agg (rowA k i1 i2 i3 i4 t), boo hb] := by
    cases hact : R.act s with
    | none => exact ⟨_, _, _, _, _, _, _, rfl⟩
    | some a =>
      obtain ⟨k, i1, i2, i3, i4, t, e⟩ := encA_row a
      exact ⟨k, i1, i2, i3, i4, t, true, by simp only [actAV, e]⟩
  have hsp := fun σ h => hR.act_spec σ b s F h ho
  rw [hb] at hsp
  rw [hb]
  refine ACalls.ro fun q hq => fn_of Tab.mixed Tryz.func53 rfl rfl rfl ?_
  simp -implicitDefEqProofs
  refine alloc fun b1 hb1 => ?_
  simp -implicitDefEqProofs [hR.mA, hR.cA]
  refine (hsp _ (hR.sub h fun y hy o hyo => by rw [set_ne (ne_of hyo hb1)]; exact hyo)).mono ?_
  rintro r σ' ⟨rfl, rfl⟩
  simp -implicitDefEqProofs
  refine hq _ _ rfl ?_
  repeat first | exact Sub.refl _ | refine sub_set ?_ hb1

/-- a step -/
def Rtn.step (R : Rtn) (x : Hp × R.S) : Option (Hp × R.S) := (R.act x.2).bind fun a => if a.ready x.1 = true then (a.act x.1).map fun y => (y.1, R.take x.2 y.2.1 y.2.2) else none

/-- where both stand, apart -/
structure RunAt (R : Rtn) (σ : Sto) (hb m b : Nat) (x : Hp × R.S) (bs F : List Nat) : Prop where
  heap : HpAt σ hb m bs x.1
  rtn : R.at_ σ b x.2 F
  apart : ∀ y ∈ b :: F, y ∉ hb :: m :: bs
/-- what changes, and what it changes into -/
def Fr (G G' : List Nat) (σ σ' : Sto) : Prop := Out G σ σ' ∧ ∀ z ∈ G', z ∈ G ∨ σ z = none
theorem Fr.refl (G : List Nat) (σ : Sto) : Fr G G σ σ := ⟨Out.refl G σ, fun z hz => .inl hz⟩
theorem Fr.trans {G G1 G2 : List Nat} {σ σ1 σ2 : Sto} (h : Fr G G1 σ σ1) (h' : Fr G1 G2 σ1 σ2) : Fr G G2 σ σ2 := by
  refine ⟨fun x o hx ho => ?_, fun z hz => ?_⟩
  · refine h'.1 x o (fun hx1 => ?_) (h.1 x o hx ho)
    rcases h.2 x hx1 with h1 | h1
    · exact hx h1
    · rw [h1] at ho; cases ho
  · rcases h'.2 z hz with h1 | h1
    · exact h.2 z h1
    · by_cases hzg : z ∈ G
      · exact .inl hzg
      · cases hs : σ z with
        | none => exact .inr rfl
        | some o => rw [h.1 z o hzg hs] at h1; cases h1
theorem Fr.of_sub {G : List Nat} {σ σ' : Sto} (h : Sub σ σ') : Fr G G σ σ' := ⟨Out.of_sub h, fun z hz => .inl hz⟩

/-- what must hold where it runs -/
def Good (R : Rtn) (I : Hp → R.S → Prop) : Prop := ∀ H s, I H s → WordsOK H ∧ R.ok s ∧ ∀ a, R.act s = some a → a.ok ∧
  (a.ready H = true → ∃ H' w t, a.act H = some (H', w, t) ∧ R.okT s w t ∧ I H' (R.take s w t))

theorem Next_spec (R : Rtn) (hR : R.Ok) (I : Hp → R.S → Prop) (hI : Good R I) (σ : Sto) (hb m b : Nat) (x : Hp × R.S) (bs F : List Nat) (h : RunAt R σ hb m b x bs F) (hx : I x.1 x.2) :
    ACalls Tryz.prog 44 [.ptr hb 0, .iface R.T (.ptr b 0)] σ (fun r σ' => match R.step x with
      | none => r = .tuple [.agg ([i64 0] ++ rowA 0 0 0 0 0 ⟨#[]⟩ ++ [u 0, str ⟨#[]⟩]), boo false] ∧ Sub σ σ'
      | some y => (∃ k i1 i2 i3 i4 t w t', r = .tuple [.agg ([i64 0] ++ rowA k i1 i2 i3 i4 t ++ [u w, str t']), boo true]) ∧ I y.1 y.2 ∧ ∃ bs' F', RunAt R σ' hb m b y bs' F' ∧ Fr (hb :: m :: bs ++ b :: F) (hb :: m :: bs' ++ b :: F') σ σ') := by
  obtain ⟨hw, hok, hact⟩ := hI _ _ hx
  have hdn := fun σ h => dnext_spec R hR σ b x.2 F h hok
  cases ha : R.act x.2 with
  | none =>
    simp only [Rtn.step, ha, Option.bind_none]
    simp only [ha, actAV] at hdn
    refine ACalls.q fun q hq => fn_of Tab.mixed Tryz.func44 rfl rfl rfl ?_
    simp -implicitDefEqProofs
    refine alloc fun b1 hb1 => ?_
    simp -implicitDefEqProofs
    refine (hdn _ (hR.sub h.rtn fun y hy o hyo => by rw [set_ne (ne_of hyo hb1)]; exact hyo)).mono ?_
    rintro r σ' ⟨rfl, rfl⟩
    simp -implicitDefEqProofs
    refine alloc fun b2 hb2 => ?_
    obtain ⟨n21, f2⟩ := none_of_set hb2
    simp -implicitDefEqProofs [n21, Ne.symm n21]
    refine hq _ _ ⟨by simp, ?_⟩
    repeat first | exact Sub.refl _ | refine sub_set ?_ hb1 | refine sub_set ?_ f2
  | some a =>
    obtain ⟨hao, hgo⟩ := hact a ha
    obtain ⟨k, i1, i2, i3, i4, t, ea⟩ := encA_row a
    simp only [ha, actAV, ea] at hdn
    have hrd := fun σ h => ready_spec σ hb m bs x.1 h a hao
    simp only [ea] at hrd
    have ncl : ∀ z, σ z = none → z ∉ hb :: m :: bs ∧ z ∉ b :: F := fun z hz => ⟨h.heap.claimed hz, fun hin => hR.claimed h.rtn z hin hz⟩
    by_cases hr : a.ready x.1 = true
    · obtain ⟨H', w, t', hd, hT, hI'⟩ := hgo hr
      have hdo := fun σ h => do_spec σ hb m bs x.1 h hw a hao H' w t' hd
      simp only [ea] at hdo
      rw [hr] at hrd
      simp only [Rtn.step, ha, Option.bind_some, hr, if_true, hd, Option.map_some]
      refine ACalls.q fun q hq => fn_of Tab.mixed Tryz.func44 rfl rfl rfl ?_
      simp -implicitDefEqProofs
      refine alloc fun b1 hb1 => ?_
      simp -implicitDefEqProofs
      refine (hdn _ (hR.sub h.rtn fun y hy o hyo => by rw [set_ne (ne_of hyo hb1)]; exact hyo)).mono ?_
      rintro r σ' ⟨rfl, rfl⟩
      simp -implicitDefEqProofs
      refine alloc fun b2 hb2 => ?_
      obtain ⟨n21, f2⟩ := none_of_set hb2
      simp -implicitDefEqProofs [n21, Ne.symm n21]
      generalize hσ0 : (Sto.set _ b2 _) = σ0
      have hs0 : Sub σ σ0 := by rw [← hσ0]; exact sub_set (sub_set (Sub.refl σ) hb1) f2
      have j1 : σ0 b1 = some (.cells ([i64 0] ++ rowA 0 0 0 0 0 ⟨#[]⟩ ++ [u 0, str ⟨#[]⟩])) := by rw [← hσ0]; simp [Ne.symm n21]
      have j2 : σ0 b2 = some (.cells (rowA k i1 i2 i3 i4 t)) := by rw [← hσ0]; simp
      clear hσ0
      refine (hrd _ (h.heap.of_sub hs0)).mono ?_
      rintro r σ1 ⟨rfl, hs1⟩
      have k1 := hs1 _ _ j1
      have k2 := hs1 _ _ j2
      have hs01 := hs0.trans hs1
      simp -implicitDefEqProofs [k1, k2]
      refine (hdo _ (h.heap.of_sub hs01)).mono ?_
      rintro r σ2 ⟨rfl, ⟨bs', hbs, hp2⟩, hout⟩
      have c1 := ncl b1 hb1
      have c2 := ncl b2 f2
      have l1 := hout _ _ c1.1 k1
      have l2 := hout _ _ c2.1 k2
      simp -implicitDefEqProofs
      refine alloc fun b3 hb3 => ?_
      have n13 := ne_of l1 hb3
      have n23 := ne_of l2 hb3
      simp -implicitDefEqProofs [hR.mT, hR.cT]
      have hat : R.at_ (σ2.set b3 (.cells [u w, str t'])) b x.2 F := hR.sub h.rtn fun y hy o hyo => by
        have h2 := hout y o (h.apart y hy) (hs01 y o hyo)
        rw [set_ne (ne_of h2 hb3)]; exact h2
      refine (hR.take_spec _ b x.2 F w t' hat hok hT).mono ?_
      rintro r σ3 ⟨rfl, F', hat', hout', hF'⟩
      have m1 := hout' _ _ c1.2 (show _ = some _ by rw [set_ne n13]; exact l1)
      have m2 := hout' _ _ c2.2 (show _ = some _ by rw [set_ne n23]; exact l2)
      have hat2 : R.at_ σ2 b x.2 F := hR.sub h.rtn fun y hy o hyo => hout y o (h.apart y hy) (hs01 y o hyo)
      have hat1 : R.at_ σ1 b x.2 F := hR.sub h.rtn fun y hy o hyo => hs01 y o hyo
      have c3 : b3 ∉ b :: F := fun hin => hR.claimed hat2 b3 hin hb3
      have m3 := hout' b3 _ c3 (show _ = some _ by simp; rfl)
      simp -implicitDefEqProofs [m1, m2, m3]
      have b1n : b1 ∉ hb :: m :: bs' := fun hin => by
        rcases List.mem_cons.1 hin with e | hin
        · exact c1.1 (by simp [e])
        · rcases List.mem_cons.1 hin with e | hin
          · exact c1.1 (by simp [e])
          · rcases hbs b1 hin with h1 | h1
            · exact c1.1 (by simp [h1])
            · rw [k1] at h1; cases h1
      have old : ∀ y ∈ hb :: m :: bs', y ∈ hb :: m :: bs ∨ σ1 y = none := fun y hy => by
        rcases List.mem_cons.1 hy with e | hy
        · exact .inl (by simp [e])
        · rcases List.mem_cons.1 hy with e | hy
          · exact .inl (by simp [e])
          · exact (hbs y hy).imp (fun h => by simp [h]) id
      have dis : ∀ y ∈ hb :: m :: bs', y ∉ b :: F := fun y hy hin => by
        rcases old y hy with h1 | h1
        · exact h.apart y hin h1
        · exact hR.claimed hat1 y hin h1
      have keepF : ∀ y o, y ∉ hb :: m :: bs ++ b :: F → σ y = some o → σ3 y = some o := fun y o hy hyo => by
        have h2 := hout y o (fun h' => hy (List.mem_append_left _ h')) (hs01 y o hyo)
        exact hout' y o (fun h' => hy (List.mem_append_right _ h')) (by rw [set_ne (ne_of h2 hb3)]; exact h2)
      refine hq _ _ ⟨⟨k, i1, i2, i3, i4, t, w, t', by simp⟩, hI', bs', F', ⟨hp2.sub fun y hy o hyo => ?_, hR.sub hat' fun y hy o hyo => ?_, fun y hy hin => ?_⟩, fun y o hy hyo => ?_, fun z hz => ?_⟩
      · rw [set_ne (show y ≠ b1 from fun e => b1n (by rw [← e]; exact hy))]
        exact hout' y o (dis y hy) (by rw [set_ne (ne_of hyo hb3)]; exact hyo)
      · have : y ≠ b1 := fun e => by
          subst e
          rcases List.mem_cons.1 hy with e | hy
          · exact c1.2 (by simp [e])
          · rcases hF' y hy with h1 | h1
            · exact c1.2 (by simp [h1])
            · rw [set_ne n13, l1] at h1; cases h1
        rw [set_ne this]; exact hyo
      · rcases List.mem_cons.1 hy with e | hy
        · subst e; exact dis _ hin (by simp)
        · rcases hF' y hy with h1 | h1
          · exact dis _ hin (by simp [h1])
          · exact hp2.claimed (none_of_set h1).2 hin
      · rw [set_ne (ne_of hyo hb1)]
        exact keepF y o hy hyo
      · rcases List.mem_append.1 hz with hz | hz
        · rcases old z hz with h1 | h1
          · exact .inl (List.mem_append_left _ h1)
          · exact .inr (hs01.none h1)
        · rcases List.mem_cons.1 hz with e | hz
          · exact .inl (List.mem_append_right _ (by simp [e]))
          · rcases hF' z hz with h1 | h1
            · exact .inl (List.mem_append_right _ (by simp [h1]))
            · by_cases hzg : z ∈ hb :: m :: bs ++ b :: F
              · exact .inl hzg
              · cases hs : σ z with
                | none => exact .inr rfl
                | some o =>
                  have h2 := hout z o (fun h' => hzg (List.mem_append_left _ h')) (hs01 z o hs)
                  rw [(none_of_set h1).2] at h2; cases h2
    · have hrf : a.ready x.1 = false := by simpa using hr
      rw [hrf] at hrd
      simp only [Rtn.step, ha, Option.bind_some, hrf, Bool.false_eq_true, if_false]
      refine ACalls.q fun q hq => fn_of Tab.mixed Tryz.func44 rfl rfl rfl ?_
      simp -implicitDefEqProofs
      refine alloc fun b1 hb1 => ?_
      simp -implicitDefEqProofs
      refine (hdn _ (hR.sub h.rtn fun y hy o hyo => by rw [set_ne (ne_of hyo hb1)]; exact hyo)).mono ?_
      rintro r σ' ⟨rfl, rfl⟩
      simp -implicitDefEqProofs
      refine alloc fun b2 hb2 => ?_
      obtain ⟨n21, f2⟩ := none_of_set hb2
      simp -implicitDefEqProofs [n21, Ne.symm n21]
      generalize hσ0 : (Sto.set _ b2 _) = σ0
      have hs0 : Sub σ σ0 := by rw [← hσ0]; exact sub_set (sub_set (Sub.refl σ) hb1) f2
      have j1 : σ0 b1 = some (.cells ([i64 0] ++ rowA 0 0 0 0 0 ⟨#[]⟩ ++ [u 0, str ⟨#[]⟩])) := by rw [← hσ0]; simp [Ne.symm n21]
      have j2 : σ0 b2 = some (.cells (rowA k i1 i2 i3 i4 t)) := by rw [← hσ0]; simp
      clear hσ0
      refine (hrd _ (h.heap.of_sub hs0)).mono ?_
      rintro r σ1 ⟨rfl, hs1⟩
      have k1 := hs1 _ _ j1
      have k2 := hs1 _ _ j2
      have hs01 := hs0.trans hs1
      simp -implicitDefEqProofs [k1, k2]
      exact hq _ _ ⟨by simp, sub_set hs01 hb1⟩
end Go.Proofs.YtkbpnnbdfikjhaaGreat

/- A routine runs alone. -/
namespace Go.Proofs.YtkbpnnbdfikjhaaGreat
open Go Go.Aw
set_option linter.unusedVariables false
set_option linter.unusedSimpArgs false
set_option maxRecDepth 10000

/-- so many steps, or as many as there are -/
def Rtn.run (R : Rtn) : Nat → Hp × R.S → Nat × (Hp × R.S)
  | 0, x => (0, x)
  | k + 1, x => match R.step x with
    | none => (0, x)
    | some y => ((R.run k y).1 + 1, (R.run k y).2)

theorem RunAt.sub {R : Rtn} (hR : R.Ok) {σ σ' : Sto} {hb m b : Nat} {x : Hp × R.S} {bs F : List Nat} (h : RunAt R σ hb m b x bs F) (hs : ∀ y ∈ hb :: m :: bs ++ b :: F, ∀ o, σ y = some o → σ' y = some o) : RunAt R σ' hb m b x bs F :=
  ⟨h.heap.sub fun y hy o => hs y (List.mem_append_left _ hy) o, hR.sub h.rtn fun y hy o => hs y (List.mem_append_right _ hy) o, h.apart⟩
theorem RunAt.claimed {R : Rtn} (hR : R.Ok) {σ : Sto} {hb m b : Nat} {x : Hp × R.S} {bs F : List Nat} (h : RunAt R σ hb m b x bs F) {z : Nat} (hz : σ z = none) : z ∉ hb :: m :: bs ++ b :: F := fun hin => by
  rcases List.mem_append.1 hin with hin | hin
  · exact h.heap.claimed hz hin
  · exact hR.claimed h.rtn z hin hz
theorem Fr.mono {G G' : List Nat} {σ σ' : Sto} (h : Fr G G' σ σ') (c : Nat) : Fr (c :: G) (c :: G') σ σ' :=
  ⟨fun x o hx ho => h.1 x o (fun h' => hx (by simp [h'])) ho, fun z hz => by
    rcases List.mem_cons.1 hz with rfl | hz
    · exact .inl (by simp)
    · exact (h.2 z hz).imp (fun h => by simp [h]) id⟩
theorem Fr.set {G : List Nat} {σ : Sto} {b : Nat} {o : AObj} (h : b ∈ G) : Fr G G σ (σ.set b o) := ⟨Out.set h, fun z hz => .inl hz⟩

theorem steps1_spec (R : Rtn) (hR : R.Ok) (I : Hp → R.S → Prop) (hI : Good R I) (σ : Sto) (hb m b : Nat) (x : Hp × R.S) (bs F : List Nat) (h : RunAt R σ hb m b x bs F) (hx : I x.1 x.2)
    (l bn b5 b3 b4 : Nat) (o : AObj) (most : Int) (hl : σ l = some o) (hbn : σ bn = some (.cells [i64 0])) (h5 : σ b5 = some (.cells [i64 most])) (h3 : σ b3 = some (.cells [.ptr hb 0])) (h4 : σ b4 = some (.cells [.iface R.T (.ptr b 0)]))
    (hm : 0 ≤ most ∧ most ≤ 1000000) (nl : l ∉ hb :: m :: bs ++ b :: F) (nn : bn ∉ hb :: m :: bs ++ b :: F) (n5 : b5 ∉ hb :: m :: bs ++ b :: F) (n3 : b3 ∉ hb :: m :: bs ++ b :: F) (n4 : b4 ∉ hb :: m :: bs ++ b :: F)
    (dn : bn ≠ l ∧ bn ≠ b5 ∧ bn ≠ b3 ∧ bn ≠ b4)
    (hY : ∀ (σ' : Sto) (n : Int) (y : AV), σ' l = some o → σ' bn = some (.cells [i64 n]) → 0 ≤ n ∧ n ≤ 1000000 → AYield Tryz.prog l [y] σ' (fun r σ'' => r = boo true ∧ σ'' = σ'.set bn (.cells [i64 (n + 1)]))) :
    ACalls Tryz.prog 43 [.func (.yield l) [] [], .ptr b5 0, .ptr b3 0, .ptr b4 0] σ (fun r σ' => r = .tuple [] ∧ ∃ bs' F', RunAt R σ' hb m b (R.run most.toNat x).2 bs' F' ∧ I (R.run most.toNat x).2.1 (R.run most.toNat x).2.2 ∧
      σ' bn = some (.cells [i64 (R.run most.toNat x).1]) ∧ σ' l = some o ∧ Fr (bn :: (hb :: m :: bs ++ b :: F)) (bn :: (hb :: m :: bs' ++ b :: F')) σ σ') := by
  refine ACalls.q fun q hq => fn_of Tab.mixed Tryz.func43 rfl rfl rfl ?_
  simp -implicitDefEqProofs [h5, show ¬ most < 0 by omega]
  refine wpc_loop (fun e s => ∃ (i : Nat) (y : Hp × R.S) (bs' F' : List Nat), i ≤ most.toNat ∧ e.length = 26 ∧ gt e 0 = .func (.yield l) [] [] ∧ gt e 1 = .ptr b5 0 ∧ gt e 2 = .ptr b3 0 ∧ gt e 3 = .ptr b4 0 ∧ gt e 8 = i64 most ∧ gt e 9 = i64 i ∧
      RunAt R s hb m b y bs' F' ∧ I y.1 y.2 ∧ s bn = some (.cells [i64 i]) ∧ s l = some o ∧ s b5 = some (.cells [i64 most]) ∧ s b3 = some (.cells [.ptr hb 0]) ∧ s b4 = some (.cells [.iface R.T (.ptr b 0)]) ∧
      R.run most.toNat x = ((R.run (most.toNat - i) y).1 + i, (R.run (most.toNat - i) y).2) ∧ Fr (bn :: (hb :: m :: bs ++ b :: F)) (bn :: (hb :: m :: bs' ++ b :: F')) σ s ∧ bn ∉ hb :: m :: bs' ++ b :: F')
    (fun e _ => (most - intAt e 9).toNat) ⟨0, x, bs, F, by omega, rfl, rfl, rfl, rfl, rfl, rfl, rfl, h, hx, hbn, hl, h5, h3, h4, by simp, Fr.refl _ _, nn⟩ ?_
  rintro e s ⟨i, y, bs', F', hi, hlen, g0, g1, g2, g3, g8, g9, hrun, hIy, sbn, sl, s5, s3, s4, heq, hfr, kn⟩
  have keep : ∀ z c, z ∉ hb :: m :: bs ++ b :: F → z ≠ bn → σ z = some c → z ∉ bn :: (hb :: m :: bs' ++ b :: F') := fun z c hz hzb hc hin => by
    rcases hfr.2 z hin with h1 | h1
    · rcases List.mem_cons.1 h1 with h1 | h1
      · exact hzb h1
      · exact hz h1
    · rw [hc] at h1; cases h1
  have kl := keep l _ nl (Ne.symm dn.1) hl
  have k5 := keep b5 _ n5 (Ne.symm dn.2.1) h5
  have k3 := keep b3 _ n3 (Ne.symm dn.2.2.1) h3
  have k4 := keep b4 _ n4 (Ne.symm dn.2.2.2) h4
  by_cases hlt : i < most.toNat
  · have hlt' : (i : Int) < most := by omega
    obtain ⟨d, hd⟩ : ∃ d, most.toNat - i = d + 1 := ⟨most.toNat - i - 1, by omega⟩
    cases hst : R.step y with
    | none =>
      have hnx := Next_spec R hR I hI s hb m b y bs' F' hrun hIy
      simp only [hst] at hnx
      simp -implicitDefEqProofs [hlen, g0, g1, g2, g3, g8, g9, hlt', s3, s4]
      refine hnx.mono ?_
      rintro r s1 ⟨rfl, hs1⟩
      simp -implicitDefEqProofs [hlen, g0, g1, g2, g3, g8, g9]
      refine alloc fun b6 hb6 => ?_
      simp -implicitDefEqProofs [hlen, g0, g1, g2, g3, g8, g9]
      have hs2 := sub_set' (o := .cells [i64 0, i64 0, u 0, i64 0, u 0, u 0, str ⟨#[]⟩, u 0, str ⟨#[]⟩]) hs1 hb6
      refine hq _ _ ⟨rfl, bs', F', ?_⟩
      rw [heq, hd]
      simp only [Rtn.run, hst, Nat.zero_add]
      exact ⟨hrun.sub hR fun z _ c hc => hs2 z c hc, hIy, hs2 _ _ sbn, hs2 _ _ sl, hfr.trans (Fr.of_sub hs2)⟩
    | some y' =>
      have hnx := Next_spec R hR I hI s hb m b y bs' F' hrun hIy
      simp only [hst] at hnx
      simp -implicitDefEqProofs [hlen, g0, g1, g2, g3, g8, g9, hlt', s3, s4]
      refine hnx.mono ?_
      rintro r s1 ⟨⟨k, i1, i2, i3, i4, t, w, t', rfl⟩, hIy', bs2, F2, hrun2, hfr2⟩
      simp -implicitDefEqProofs [hlen, g0, g1, g2, g3, g8, g9]
      refine alloc fun b6 hb6 => ?_
      simp -implicitDefEqProofs [hlen, g0, g1, g2, g3, g8, g9]
      have t5 := hfr2.1 b5 _ (fun h => k5 (List.mem_cons_of_mem _ h)) s5
      have t3 := hfr2.1 b3 _ (fun h => k3 (List.mem_cons_of_mem _ h)) s3
      have t4 := hfr2.1 b4 _ (fun h => k4 (List.mem_cons_of_mem _ h)) s4
      have tl := hfr2.1 l _ (fun h => kl (List.mem_cons_of_mem _ h)) sl
      have tn := hfr2.1 bn _ kn sbn
      refine (hY _ i _ (by rw [set_ne (ne_of tl hb6)]; exact tl) (by rw [set_ne (ne_of tn hb6)]; exact tn) (by omega)).mono ?_
      rintro r s3 ⟨rfl, rfl⟩
      have e1 : IntKind.i64.wrap ((i : Int) + 1) = ((i + 1 : Nat) : Int) := wrap_i64 (by omega) (by omega)
      simp -implicitDefEqProofs [hlen, g0, g1, g2, g3, g8, g9, e1]
      have kn2 : bn ∉ hb :: m :: bs2 ++ b :: F2 := fun hin => by
        rcases hfr2.2 bn hin with h1 | h1
        · exact kn h1
        · rw [sbn] at h1; cases h1
      refine ⟨⟨i + 1, by omega, by simp, y'.1, y'.2, bs2, F2, ?_, hIy', by simp, ?_, ?_, ?_, ?_, ?_, ?_, ?_⟩, ?_⟩
      · refine hrun2.sub hR fun z hz c hc => ?_
        rw [set_ne (show z ≠ bn from fun e => kn2 (by rw [← e]; exact hz)), set_ne (ne_of hc hb6)]; exact hc
      · rw [if_neg (Ne.symm dn.1), if_neg (ne_of tl hb6)]; exact tl
      · rw [if_neg (Ne.symm dn.2.1), if_neg (ne_of t5 hb6)]; exact t5
      · rw [if_neg (Ne.symm dn.2.2.1), if_neg (ne_of t3 hb6)]; exact t3
      · rw [if_neg (Ne.symm dn.2.2.2), if_neg (ne_of t4 hb6)]; exact t4
      · rw [heq, hd, show most.toNat - (i + 1) = d by omega]
        simp only [Rtn.run, hst]
        rw [show (R.run d y').1 + 1 + i = (R.run d y').1 + (i + 1) by omega]
      · exact (hfr.trans (hfr2.mono bn)).trans ((Fr.of_sub (sub_set' (Sub.refl _) hb6)).trans (Fr.set (List.mem_cons_self ..)))
      · simpa using kn2
      · simp [intAt, hlen, g9]
        omega
  · obtain rfl : i = most.toNat := by omega
    have hmi : (most.toNat : Int) = most := by omega
    rw [hmi] at g9
    simp -implicitDefEqProofs [hlen, g0, g1, g2, g3, g8, g9]
    refine hq _ _ ⟨rfl, bs', F', ?_⟩
    simp only [Nat.sub_self, Rtn.run, Nat.zero_add] at heq
    rw [heq]
    exact ⟨hrun, hIy, sbn, sl, hfr⟩

theorem steps_spec (σ : Sto) (hb : Nat) (r0 : AV) (t : TypeId) (most : Int) :
    ACalls Tryz.prog 30 [.ptr hb 0, .iface t r0, i64 most] σ (fun r σ' => ∃ b3 b4 b5, r = .func (.func 43) [] [.ptr b5 0, .ptr b3 0, .ptr b4 0] ∧ (σ b3 = none ∧ σ b4 = none ∧ σ b5 = none) ∧
      (σ' b5 = some (.cells [i64 most]) ∧ σ' b3 = some (.cells [.ptr hb 0]) ∧ σ' b4 = some (.cells [.iface t r0])) ∧ Sub σ σ') := by
  refine ACalls.q fun q hq => fn_of Tab.mixed Tryz.func30 rfl rfl rfl ?_
  simp -implicitDefEqProofs
  refine alloc fun b1 hb1 => ?_
  simp -implicitDefEqProofs
  refine alloc fun b2 hb2 => ?_
  obtain ⟨n21, f2⟩ := none_of_set hb2
  simp -implicitDefEqProofs
  refine alloc fun b3 hb3 => ?_
  obtain ⟨n32, f3'⟩ := none_of_set hb3
  obtain ⟨n31, f3⟩ := none_of_set f3'
  simp -implicitDefEqProofs
  refine hq _ _ ⟨b1, b2, b3, rfl, ⟨hb1, f2, f3⟩, ⟨by simp [Sto.set], by simp [Sto.set, Ne.symm n31, Ne.symm n21], by simp [Sto.set, Ne.symm n32]⟩, ?_⟩
  repeat first | exact Sub.refl _ | refine sub_set ?_ hb1 | refine sub_set ?_ f2 | refine sub_set ?_ f3

theorem alone_spec (R : Rtn) (hR : R.Ok) (I : Hp → R.S → Prop) (hI : Good R I) (σ : Sto) (hb m b : Nat) (x : Hp × R.S) (bs F : List Nat) (h : RunAt R σ hb m b x bs F) (hx : I x.1 x.2) (most : Int) (hm : 0 ≤ most ∧ most ≤ 1000000) :
    ACalls Tryz.prog 10 [.ptr hb 0, .iface R.T (.ptr b 0), i64 most] σ (fun r σ' => r = .tuple [i64 (R.run most.toNat x).1, boo (R.act (R.run most.toNat x).2.2).isNone] ∧ I (R.run most.toNat x).2.1 (R.run most.toNat x).2.2 ∧
      ∃ bs' F', RunAt R σ' hb m b (R.run most.toNat x).2 bs' F' ∧ Fr (hb :: m :: bs ++ b :: F) (hb :: m :: bs' ++ b :: F') σ σ') := by
  refine ACalls.q fun q hq => fn_of Tab.mixed Tryz.func10 rfl rfl rfl ?_
  simp -implicitDefEqProofs
  refine alloc fun bn hbn => ?_
  simp -implicitDefEqProofs
  refine (steps_spec _ hb (.ptr b 0) R.T most).mono ?_
  rintro r σ1 ⟨b3, b4, b5, rfl, ⟨f3, f4, f5⟩, ⟨g5, g3, g4⟩, hs1⟩
  obtain ⟨d3, f3⟩ := none_of_set f3
  obtain ⟨d4, f4⟩ := none_of_set f4
  obtain ⟨d5, f5⟩ := none_of_set f5
  have gn := hs1 bn _ (by simp [Sto.set]; rfl)
  simp -implicitDefEqProofs
  intro l D fn hl
  have hsb : Sub σ (σ.set bn (.cells [i64 0])) := sub_set (Sub.refl σ) hbn
  have fl : σ l = none := hsb.none (hs1.none hl)
  have nl5 := ne_of g5 hl
  have nl3 := ne_of g3 hl
  have nl4 := ne_of g4 hl
  have nln := ne_of gn hl
  have hs2 : ∀ o, Sub σ (σ1.set l o) := fun o => sub_set' (hsb.trans hs1) hl
  refine (steps1_spec R hR I hI _ hb m b x bs F (h.sub hR fun y _ o => hs2 _ y o) hx l bn b5 b3 b4 _ most (by simp [Sto.set]; rfl) (by rw [set_ne nln]; exact gn) (by rw [set_ne nl5]; exact g5) (by rw [set_ne nl3]; exact g3) (by rw [set_ne nl4]; exact g4)
    hm (h.claimed hR fl) (h.claimed hR hbn) (h.claimed hR f5) (h.claimed hR f3) (h.claimed hR f4) ⟨nln, Ne.symm d5, Ne.symm d3, Ne.symm d4⟩ ?_).mono ?_
  · intro σ' n y h1 h2 h3
    refine AYield.of_wpc Tab.mixed h1 rfl (by rfl) (by rfl) ?_
    have e1 : IntKind.i64.wrap (n + 1) = n + 1 := wrap_i64 (by omega) (by omega)
    simp -implicitDefEqProofs [putAll, h1, h2, nln, e1]
    funext z
    simp only [Sto.set, Sto.del]
    by_cases hz : z = l
    · subst hz; rw [if_pos rfl, if_neg (Ne.symm nln)]; exact h1.symm
    · rw [if_neg hz]
      by_cases hzb : z = bn
      · rw [if_pos hzb, if_pos hzb]
      · rw [if_neg hzb, if_neg hz, if_neg hzb]
  · rintro r σ2 ⟨rfl, bs', F', hrun, hIz, kn, kl, hfr⟩
    simp only [rfK]
    refine ⟨kl, ?_⟩
    have hlG : l ∉ hb :: m :: bs' ++ b :: F' := fun hin => by
      rcases hfr.2 l (List.mem_cons_of_mem _ hin) with h1 | h1
      · rcases List.mem_cons.1 h1 with h1 | h1
        · exact nln h1.symm
        · exact h.claimed hR fl h1
      · simp [Sto.set] at h1
    have hdel : ∀ z, z ≠ l → (σ2.del l) z = σ2 z := fun z hz => by simp [Sto.del, hz]
    have hrun2 : RunAt R (σ2.del l) hb m b (R.run most.toNat x).2 bs' F' := hrun.sub hR fun z hz c hc => by rw [hdel z (fun e => hlG (by rw [← e]; exact hz))]; exact hc
    have hok := (hI _ _ hIz).2.1
    have hac := hR.act_spec _ b _ F' hrun2.rtn hok
    have kn2 : (σ2.del l) bn = some (.cells [i64 (R.run most.toNat x).1]) := by rw [hdel bn nln]; exact kn
    obtain ⟨k, i1, i2, i3, i4, t, ea, hisn⟩ : ∃ k i1 i2 i3 i4 t, actAV (R.act (R.run most.toNat x).2.2) = .tuple [.agg (rowA k i1 i2 i3 i4 t), boo (R.act (R.run most.toNat x).2.2).isSome] ∧ True := by
      cases hact : R.act (R.run most.toNat x).2.2 with
      | none => exact ⟨_, _, _, _, _, _, rfl, trivial⟩
      | some a =>
        obtain ⟨k, i1, i2, i3, i4, t, e⟩ := encA_row a
        exact ⟨k, i1, i2, i3, i4, t, by simp only [actAV, e]; rfl, trivial⟩
    rw [ea] at hac
    simp -implicitDefEqProofs [hR.mA, hR.cA]
    refine hac.mono ?_
    rintro r σ3 ⟨rfl, rfl⟩
    simp -implicitDefEqProofs
    refine alloc fun b7 hb7 => ?_
    have n7 := ne_of kn2 hb7
    simp -implicitDefEqProofs [kn, n7, nln]
    refine hq _ _ ⟨by simp, hIz, bs', F', hrun2.sub hR fun z _ c hc => by rw [set_ne (ne_of hc hb7)]; exact hc, fun y o hy hyo => ?_, fun z hz => ?_⟩
    · have hyb : y ≠ bn := ne_of hyo hbn
      have hyl : y ≠ l := ne_of hyo fl
      have h2 := hfr.1 y o (fun hin => by
        rcases List.mem_cons.1 hin with h1 | h1
        · exact hyb h1
        · exact hy h1) (hs2 _ y o hyo)
      have h3 : (σ2.del l) y = some o := by rw [hdel y hyl]; exact h2
      rw [set_ne (ne_of h3 hb7)]; exact h3
    · rcases hfr.2 z (List.mem_cons_of_mem _ hz) with h1 | h1
      · rcases List.mem_cons.1 h1 with h1 | h1
        · rw [h1]; exact .inr hbn
        · exact .inl h1
      · exact .inr ((hs2 _).none h1)
end Go.Proofs.YtkbpnnbdfikjhaaGreat

/- Tables: looked into. -/
namespace Go.Proofs.YtkbpnnbdfikjhaaGreat
open Go Go.Aw
set_option linter.unusedVariables false
set_option linter.unusedSimpArgs false
set_option maxRecDepth 10000

theorem cnan_spec (σ : Sto) (s : ByteArray) : ACalls Tryz.prog 130 [str s] σ (fun r σ' => r = boo false ∧ σ' = σ) := by
  refine ACalls.q fun q hq => fn_of Tab.mixed Tryz.func130 rfl rfl rfl ?_
  simp -implicitDefEqProofs
  exact hq _ _ ⟨rfl, rfl⟩
theorem snan_spec (σ : Sto) (s : ByteArray) : ACalls Tryz.prog 127 [str s] σ (fun r σ' => r = boo false ∧ σ' = σ) := by
  refine ACalls.q fun q hq => fn_of Tab.mixed Tryz.func127 rfl rfl rfl ?_
  simp -implicitDefEqProofs
  exact hq _ _ ⟨rfl, rfl⟩
theorem cless_spec (σ : Sto) (a b : ByteArray) : ACalls Tryz.prog 126 [str a, str b] σ (fun r σ' => r = boo (bl a b) ∧ σ' = σ) := by
  refine ACalls.q fun q hq => fn_of Tab.mixed Tryz.func126 rfl rfl rfl ?_
  simp -implicitDefEqProofs
  refine (cnan_spec _ _).mono ?_
  rintro r σ' ⟨rfl, rfl⟩
  simp -implicitDefEqProofs
  exact hq _ _ ⟨rfl, rfl⟩

/-- a row of texts that is grown -/
def TxtAt (σ : Sto) (x : AV) (l : List ByteArray) (F : List Nat) : Prop :=
  (x = .slice .clip [] ∧ l = [] ∧ F = []) ∨ ∃ b, x = .mslice b 0 l.length 1 ∧ σ b = some (.cells (l.map str)) ∧ F = [b]
theorem TxtAt.sub {σ σ' : Sto} {x : AV} {l : List ByteArray} {F : List Nat} (h : TxtAt σ x l F) (hs : ∀ y ∈ F, ∀ o, σ y = some o → σ' y = some o) : TxtAt σ' x l F := by
  rcases h with h | ⟨b, h1, h2, rfl⟩
  · exact .inl h
  · exact .inr ⟨b, h1, hs b (by simp) _ h2, rfl⟩

/-- the place of a text -/
structure PosOf (l : List ByteArray) (t : ByteArray) (i : Nat) : Prop where
  le : i ≤ l.length
  lt : ∀ p x, p < i → l[p]? = some x → bl x t = true
  ge : ∀ p x, i ≤ p → l[p]? = some x → bl x t = false

theorem search_spec (σ : Sto) (x : AV) (l : List ByteArray) (F : List Nat) (h : TxtAt σ x l F) (hs : l.Pairwise (fun a b => bl a b = true)) (hlen : l.length ≤ 1000) (t : ByteArray) :
    ACalls Tryz.prog 123 [x, str t] σ (fun r σ' => (∃ i, PosOf l t i ∧ r = .tuple [i64 i, boo (decide (l[i]? = some t))]) ∧ σ' = σ) := by
  rcases h with ⟨rfl, rfl, rfl⟩ | ⟨b, rfl, hb, rfl⟩
  · refine ACalls.q fun q hq => fn_of Tab.mixed Tryz.func123 rfl rfl rfl ?_
    simp -implicitDefEqProofs
    refine wpc_loop (fun e s => e = _ ∧ s = _) (fun _ _ => 0) ⟨rfl, rfl⟩ ?_
    rintro e s ⟨rfl, rfl⟩
    simp -implicitDefEqProofs
    exact hq _ _ ⟨⟨0, ⟨by simp, by simp, by simp⟩, by simp⟩, rfl⟩
  · refine ACalls.q fun q hq => fn_of Tab.mixed Tryz.func123 rfl rfl rfl ?_
    simp -implicitDefEqProofs
    refine wpc_loop (fun e s => ∃ i j : Nat, i ≤ j ∧ j ≤ l.length ∧ (∀ p x, p < i → l[p]? = some x → bl x t = true) ∧ (∀ p x, j ≤ p → l[p]? = some x → bl x t = false) ∧ e.length = 54 ∧
      gt e 0 = .mslice b 0 l.length 1 ∧ gt e 1 = str t ∧ gt e 6 = i64 l.length ∧ gt e 7 = i64 i ∧ gt e 8 = i64 j ∧ s = σ)
      (fun e _ => (intAt e 8 - intAt e 7).toNat) ⟨0, l.length, by omega, by omega, by simp, fun p x hp hx => absurd (List.getElem?_eq_some_iff.1 hx).1 (by omega), rfl, rfl, rfl, rfl, rfl, rfl, rfl⟩ ?_
    rintro e s ⟨i, j, h1, h2, h3, h4, hl, g0, g1, g6, g7, g8, rfl⟩
    by_cases hij : i < j
    · have e1 : IntKind.i64.wrap ((i : Int) + j) = (i : Int) + j := wrap_i64 (by omega) (by omega)
      have e2 : IntKind.u64.wrap ((i : Int) + j) = (i : Int) + j := wrap_u64 (by omega) (by omega)
      have e3 : IntKind.i64.wrap (((i : Int) + j) / 2) = ((i : Int) + j) / 2 := wrap_i64 (by omega) (by omega)
      have e4 : (((i : Int) + j) / 2).toNat = (i + j) / 2 := by omega
      have e5 : ((i : Int) + j) / 2 = (((i + j) / 2 : Nat) : Int) := by omega
      have hlt : (i + j) / 2 < l.length := by omega
      obtain ⟨y, hy⟩ : ∃ y, l[(i + j) / 2]? = some y := ⟨_, List.getElem?_eq_getElem hlt⟩
      simp -implicitDefEqProofs [hl, g0, g1, g6, g7, g8, hij, e1, e2, e3, e4, hb, hy]
      refine ⟨by decide, ⟨by omega, by omega⟩, ?_⟩
      refine (cless_spec _ _ _).mono ?_
      rintro r σ' ⟨rfl, rfl⟩
      cases hbl : bl y t
      · simp -implicitDefEqProofs [hl, g0, g1, g6, g7, g8]
        refine ⟨⟨i, (i + j) / 2, by omega, by omega, h3, fun p x hp hx => ?_, rfl, by omega⟩, ?_⟩
        · rcases Nat.eq_or_lt_of_le hp with rfl | hp
          · rw [hy] at hx; cases hx; exact hbl
          · cases hxt : bl x t with
            | false => rfl
            | true =>
              have hp' := (List.getElem?_eq_some_iff.1 hx).1
              have := List.pairwise_iff_getElem.1 hs _ _ hlt hp' hp
              rw [(List.getElem?_eq_some_iff.1 hy).2, (List.getElem?_eq_some_iff.1 hx).2] at this
              rw [bl_trans this hxt] at hbl; cases hbl
        · simp [intAt, hl, g7, g8]
          omega
      · have e6 : IntKind.i64.wrap (((i : Int) + j) / 2 + 1) = ((i : Int) + j) / 2 + 1 := wrap_i64 (by omega) (by omega)
        simp -implicitDefEqProofs [hl, g0, g1, g6, g7, g8, e6]
        refine ⟨⟨(i + j) / 2 + 1, j, by omega, h2, fun p x hp hx => ?_, h4, by omega, rfl⟩, ?_⟩
        · rcases Nat.eq_or_lt_of_le (show p ≤ (i + j) / 2 by omega) with rfl | hp
          · rw [hy] at hx; cases hx; exact hbl
          · have hp' := (List.getElem?_eq_some_iff.1 hx).1
            have := List.pairwise_iff_getElem.1 hs _ _ hp' hlt hp
            rw [(List.getElem?_eq_some_iff.1 hy).2, (List.getElem?_eq_some_iff.1 hx).2] at this
            exact bl_trans this hbl
        · simp [intAt, hl, g7, g8]
          omega
    · obtain rfl : i = j := by omega
      by_cases hin : i < l.length
      · have hy : l[i]? = some l[i] := List.getElem?_eq_getElem hin
        by_cases hyt : l[i] = t
        · simp -implicitDefEqProofs [hl, g0, g1, g6, g7, g8, hin, hb, hyt]
          exact hq _ _ ⟨⟨i, ⟨h2, h3, h4⟩, by rw [hy, hyt]; simp⟩, rfl⟩
        · simp -implicitDefEqProofs [hl, g0, g1, g6, g7, g8, hin, hb, hyt]
          refine (snan_spec _ _).mono ?_
          rintro r σ' ⟨rfl, rfl⟩
          simp -implicitDefEqProofs [hl, g0, g1, g6, g7, g8]
          exact hq _ _ ⟨⟨i, ⟨h2, h3, h4⟩, by rw [hy]; simp [hyt]⟩, rfl⟩
      · have hn : l[i]? = none := List.getElem?_eq_none (by omega)
        simp -implicitDefEqProofs [hl, g0, g1, g6, g7, g8, hin]
        exact hq _ _ ⟨⟨i, ⟨h2, h3, h4⟩, by simp [hn]⟩, rfl⟩
end Go.Proofs.YtkbpnnbdfikjhaaGreat
