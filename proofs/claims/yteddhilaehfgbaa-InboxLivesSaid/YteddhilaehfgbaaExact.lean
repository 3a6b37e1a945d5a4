/- InboxExact answers true over abstract values; no condition. -/
import Derived.Test.YteddhilaehfgbaaInbox3
namespace Go.Proofs.Yteddhilaehfgbaa
open Go Go.Aw
set_option linter.unusedVariables false
set_option linter.unusedSimpArgs false

structure OpV where
  kind : Int
  n : Int
  c : Change

def encO (o : OpV) : List AV := [.sc (.int .i64 o.kind), .sc (.int .i64 o.n), .sc (.string o.c.key), .sc (.bool o.c.has), .sc (.string o.c.value)]

theorem _root_.Go.Aw.Own.keep {σ σ' : Sto} {t : Tok} {n es : Nat} (h : Own σ t n es) (hk : ∀ x o, fp t = some x → σ x = some o → σ' x = some o) : Own σ' t n es := by
  cases t with
  | live b e => exact ⟨h.1, hk b _ rfl h.2⟩
  | clip => trivial
  | dead => exact h

theorem _root_.Go.Aw.Own.some {σ : Sto} {t : Tok} {n es x : Nat} (h : Own σ t n es) (hx : fp t = some x) : ∃ o, σ x = some o := by
  cases t with
  | live b e => simp [fp] at hx; subst hx; exact ⟨_, h.2⟩
  | clip => cases hx
  | dead => cases hx

/-- the box and the two lists of the law -/
structure EInv (σ0 σ : Sto) (b : Nat) (tb tp tg : Tok) (R : Nat) (L Q G : List Change) (o : Bool) : Prop where
  bx : Bx σ0 σ b tb R L o
  op : Own σ tp Q.length 3
  og : Own σ tg G.length 3
  np : ∀ x, fp tp = some x → σ0 x = none
  ng : ∀ x, fp tg = some x → σ0 x = none
  pg : ∀ x, fp tp = some x → fp tg ≠ some x
  pb : ∀ x, fp tp = some x → fp tb ≠ some x
  gb : ∀ x, fp tg = some x → fp tb ≠ some x

theorem EInv.box {σ0 σ σ' : Sto} {b : Nat} {tb tb' tp tg : Tok} {R : Nat} {L L' Q G : List Change} {o o' : Bool} (h : EInv σ0 σ b tb tp tg R L Q G o) (k : BoxOp σ σ' b tb tb' R L' o') :
    EInv σ0 σ' b tb' tp tg R L' Q G o' where
  bx := h.bx.step k
  op := h.op.keep fun x a hx hs => k.keep x a (fun e => h.op.ne h.bx.here (e ▸ hx)) (h.pb x hx) hs
  og := h.og.keep fun x a hx hs => k.keep x a (fun e => h.og.ne h.bx.here (e ▸ hx)) (h.gb x hx) hs
  np := h.np
  ng := h.ng
  pg := h.pg
  pb := fun x hx hb => by
    rcases k.fresh x hb with e | e
    · exact h.pb x hx e
    · obtain ⟨a, ha⟩ := h.op.some hx; rw [ha] at e; cases e
  gb := fun x hx hb => by
    rcases k.fresh x hb with e | e
    · exact h.gb x hx e
    · obtain ⟨a, ha⟩ := h.og.some hx; rw [ha] at e; cases e

theorem Bx.moved {σ0 σ σ' : Sto} {b : Nat} {tb t t' : Tok} {R : Int} {L : List Change} {o : Bool} {n : Nat} (h : Bx σ0 σ b tb R L o) (hm : Moved σ σ' t t') (ho : Own σ t n 3)
    (hn : ∀ x, fp t = some x → σ0 x = none) (hd : ∀ x, fp t = some x → fp tb ≠ some x) : Bx σ0 σ' b tb R L o where
  here := hm.cells ho h.here
  own := (h.own.kept hm hd).1
  sub := fun x a hx => hm.keep x a (fun e => by rw [hn x e] at hx; cases hx) (h.sub x a hx)
  nb := h.nb
  nt := h.nt

theorem new_fresh {σ0 σ σ' : Sto} {t t' : Tok} (hs : Aw.Sub σ0 σ) (hm : Moved σ σ' t t') (hn : ∀ x, fp t = some x → σ0 x = none) : ∀ x, fp t' = some x → σ0 x = none := fun x hx => by
  rcases hm.fresh x hx with e | e
  · exact hn x e
  · cases h : σ0 x with
    | none => rfl
    | some a => rw [hs x a h] at e; cases e

theorem EInv.pushed {σ0 σ σ' : Sto} {b : Nat} {tb tp tp' tg : Tok} {R : Nat} {L Q Q' G : List Change} {o : Bool} (h : EInv σ0 σ b tb tp tg R L Q G o) (hm : Moved σ σ' tp tp') (ho : Own σ' tp' Q'.length 3) :
    EInv σ0 σ' b tb tp' tg R L Q' G o where
  bx := h.bx.moved hm h.op h.np h.pb
  op := ho
  og := (h.og.kept hm h.pg).1
  np := new_fresh h.bx.sub hm h.np
  ng := h.ng
  pg := (h.og.kept hm h.pg).2
  pb := (h.bx.own.kept hm h.pb).2
  gb := h.gb

theorem EInv.gotten {σ0 σ σ' : Sto} {b : Nat} {tb tp tg tg' : Tok} {R : Nat} {L Q G G' : List Change} {o : Bool} (h : EInv σ0 σ b tb tp tg R L Q G o) (hm : Moved σ σ' tg tg') (ho : Own σ' tg' G'.length 3) :
    EInv σ0 σ' b tb tp tg' R L Q G' o where
  bx := h.bx.moved hm h.og h.ng h.gb
  op := (h.op.kept hm fun x h1 h2 => h.pg x h2 h1).1
  og := ho
  np := h.np
  ng := new_fresh h.bx.sub hm h.ng
  pg := fun x h1 h2 => (h.op.kept hm fun x h1 h2 => h.pg x h2 h1).2 x h2 h1
  pb := h.pb
  gb := (h.bx.own.kept hm h.gb).2

/-- what a take does to a box, in one -/
theorem take_spec (σ : Sto) (b : Nat) (most n : Int) (tok : Tok) (l : List Change) (over : Bool)
    (hb : σ b = some (.cells [.sc (.int .i64 most), .slice tok (l.map encC), .sc (.bool over)])) (ho : Own σ tok l.length 3) (hl : l.length ≤ 1000000) :
    ACalls Try.prog 8 [.ptr b 0, .sc (.int .i64 n)] σ (fun r σ' => ∃ t1 tok', r = .tuple [.slice t1 ((l.take (took n l.length)).map encC), .sc (.bool (!(over && l.isEmpty)))] ∧
      BoxOp σ σ' b tok tok' most (l.drop (took n l.length)) over) := by
  by_cases hf : over = false ∨ l ≠ []
  · refine (take_some σ b most n tok l over hb ho hl hf).mono ?_
    rintro r σ' ⟨t1, tok', rfl, h⟩
    refine ⟨t1, tok', ?_, h⟩
    rcases hf with rfl | hf
    · rfl
    · cases l with
      | nil => exact absurd rfl hf
      | cons x l => simp
  · have ho1 : over = true := by cases over <;> simp_all
    have hl1 : l = [] := by cases l <;> simp_all
    subst ho1 hl1
    refine (take_none σ b most n tok hb).mono ?_
    rintro r σ' ⟨rfl, rfl⟩
    exact ⟨.clip, tok, by simp, ⟨by simpa using hb, by simpa using ho, fun _ _ _ _ h => h, fun _ h => .inl h⟩⟩

theorem inboxExact_abs (σ : Sto) (most : Int) (hm0 : 0 ≤ most) (hm1 : most < 256) (t0 : Tok) (l : List OpV) :
    ACalls Try.prog 3 [.sc (.int .u8 most), .slice t0 (l.map encO)] σ (fun r σ' => r = .sc (.bool true) ∧ σ' = σ) := by
  obtain ⟨R, hR⟩ := Int.eq_ofNat_of_zero_le (a := min most 64) (by omega)
  refine ACalls.drop ?_
  refine fn_of Tab.mixed Try.func3 rfl rfl rfl ?_
  simp -implicitDefEqProofs [encC]
  by_cases hlong : (300 : Int) < l.length
  · rw [if_pos hlong]
    refine (awake_spec σ).mono ?_
    rintro r σ1 ⟨rfl, h1⟩
    simp -implicitDefEqProofs
    exact h1
  · rw [if_neg hlong, wrap_i64 (n := most) (by omega) (by omega)]
    refine (new_box σ σ (Sub.refl σ) most).mono ?_
    rintro r σ1 ⟨b, rfl, hb, hn, hs1⟩
    rw [show min (max most 0) 64 = (R : Int) by omega] at hb
    simp -implicitDefEqProofs
    have h0 : EInv σ σ1 b .clip .clip .clip R [] [] [] false := ⟨hb, trivial, trivial, by simp [fp], by simp [fp], by simp [fp], by simp [fp], by simp [fp]⟩
    refine wpc_loop (fun e σ' => ∃ (i : Nat) (tb tp tg : Tok) (L G : List Change) (o : Bool), i ≤ l.length ∧ (G ++ L).length ≤ i ∧ L.length ≤ 64 ∧ e.length = 100 ∧ gt e 1 = .slice t0 (l.map encO) ∧ gt e 5 = .ptr b 0 ∧
      gt e 6 = .slice tp ((G ++ L).map encC) ∧ gt e 7 = .slice tg (G.map encC) ∧ gt e 8 = .sc (.bool o) ∧ gt e 9 = .sc (.int .i64 i) ∧ EInv σ σ' b tb tp tg R L (G ++ L) G o)
      (fun e _ => l.length - (intAt e 9).toNat) ⟨0, .clip, .clip, .clip, [], [], false, by simp, by simp, by simp, ?_⟩ ?_
    · simpa using h0
    rintro e σ' ⟨i, tb, tp, tg, L, G, o, hi, hlq, hlL, hlen, g1, g5, g6, g7, g8, g9, h⟩
    by_cases hlt : i < l.length
    · simp -implicitDefEqProofs [hlen, g1, g5, g6, g7, g8, g9, hlt, encO]
      by_cases hkind : l[i].kind = 1
      · rw [if_pos hkind]
        refine (take_spec σ' b R l[i].n tb L o h.bx.here h.bx.own (by omega)).mono ?_
        rintro r σ2 ⟨t1, tb', rfl, hop⟩
        have h2 := h.box hop
        generalize took l[i].n L.length = k at h2 ⊢
        have key : ∀ (is : Bool), is = (!(o && L.isEmpty)) → (o = true ∨ is = true) := fun is e => by subst e; cases o <;> simp
        generalize hisd : (!(o && L.isEmpty)) = is
        have key2 := key is hisd.symm
        have fork : ∀ (K : Prop), (o = true → is = true → K) → (o = true → is = false → K) → (o = false → is = true → K) → K := fun K a b c => by
          cases o <;> cases is <;> simp_all
        refine fork _ (fun e1 e2 => ?_) (fun e1 e2 => ?_) (fun e1 e2 => ?_) <;> subst e1 e2
        all_goals
          simp -implicitDefEqProofs [hlen, g1, g5, g6, g7, g8, g9]
        all_goals
          rw [← List.map_take]
          refine aAppend_own Tab.elem26 (by omega) (by simp at hlq ⊢; omega) (all_len G) (all_len _) (all_one _) (by simpa using h.og.keep fun x a hx hs => hop.keep x a (fun e => h.og.ne h.bx.here (e ▸ hx)) (h.gb x hx) hs) fun tok' σ'' ho' hm => ?_
          have h3 := h2.gotten (G' := G ++ L.take k) hm (by simpa using ho')
          simp -implicitDefEqProofs [hlen, g1, g5, g6, g7, g8, g9, wrap_i64 (n := (i : Int) + 1) (by omega) (by omega), intAt]
          have e5 : (G ++ L.take k) ++ L.drop k = G ++ L := by rw [List.append_assoc, List.take_append_drop]
          refine ⟨⟨i + 1, by omega, tb', tp, tok', L.drop k, G ++ L.take k, ?_, by simp; omega, ⟨rfl, ?_⟩, ⟨rfl, by simp⟩, by simp, by rw [e5]; exact h3⟩, by omega⟩
          · have := congrArg List.length e5
            simp only [List.length_append] at this hlq ⊢
            omega
          · rw [← List.map_append, ← List.map_append, e5]
      · rw [if_neg hkind]
        refine (push_spec σ σ' b R tb L o l[i].c h.bx (by omega)).mono ?_
        generalize hf : fullB R L o = f
        rintro r σ2 ⟨rfl, tb', -, hop⟩
        have h2 := h.box hop
        cases f
        · have ho : o = false := by cases o <;> simp_all [fullB]
          subst ho
          simp -implicitDefEqProofs [hlen, g1, g5, g6, g7, g8, g9, hlt, encO] at h2 ⊢
          rw [← List.map_append]
          refine aAppend_own Tab.elem26 (by omega) (by simp at hlq ⊢; omega) (all_len _) (by simp) (by simp [AV.one]) (by simpa using h2.op) fun tok' σ'' ho' hm => ?_
          have h3 := h2.pushed (Q' := G ++ (L ++ [l[i].c])) hm (by simpa [Nat.add_assoc] using ho')
          simp -implicitDefEqProofs [hlen, g1, g5, g6, g7, g8, g9, wrap_i64 (n := (i : Int) + 1) (by omega) (by omega), intAt]
          have hR2 : ¬ ((R : Int) ≤ L.length) := by simpa [fullB] using hf
          exact ⟨⟨i + 1, by omega, tb', tok', tg, L ++ [l[i].c], G, by simp at hlq ⊢; omega, by simp; omega, ⟨rfl, by simp [encC]⟩, ⟨rfl, rfl⟩, by simp, h3⟩, by omega⟩
        · cases o
          all_goals
            simp -implicitDefEqProofs [hlen, g1, g5, g6, g7, g8, g9, hlt, encO, wrap_i64 (n := (i : Int) + 1) (by omega) (by omega), intAt] at h2 ⊢
            exact ⟨⟨i + 1, by omega, tb', tp, tg, L, G, by simp at hlq ⊢; omega, hlL, ⟨rfl, by simp⟩, ⟨rfl, rfl⟩, by simp, h2⟩, by omega⟩
    · obtain rfl : i = l.length := by omega
      simp -implicitDefEqProofs [hlen, g1, g5, g6, g7, g8, g9]
      refine (take_spec σ' b R 1000 tb L o h.bx.here h.bx.own (by omega)).mono ?_
      have e1 : took 1000 L.length = L.length := by unfold took; omega
      rw [e1, List.take_length, List.drop_length]
      rintro r σ2 ⟨t1, tb', rfl, hop⟩
      have h2 := h.box hop
      simp -implicitDefEqProofs [hlen, g1, g5, g6, g7, g8, g9]
      refine aAppend_own Tab.elem26 (by omega) (by simp at hlq ⊢; omega) (all_len G) (all_len L) (all_one L) (by simpa using h2.og) fun tok' σ'' ho' hm => ?_
      have h3 := h2.gotten (G' := G ++ L) hm (by simpa using ho')
      simp -implicitDefEqProofs [hlen, g1, g5, g6, g7, g8, g9]
      rw [← List.map_append]
      refine (same_spec σ'' tok' tp (G ++ L) (G ++ L) (by omega) (by omega)).mono ?_
      rintro r σ3 ⟨rfl, rfl⟩
      simp -implicitDefEqProofs [hlen, g1, g5, g6, g7, g8, g9]
      refine (over_spec σ3 b R tb' _ _ h3.bx.here).mono ?_
      rintro r σ4 ⟨rfl, rfl⟩
      simp -implicitDefEqProofs [hlen, g1, g5, g6, g7, g8, g9]
      refine (awake_spec σ4).mono ?_
      rintro r σ5 ⟨rfl, h5⟩
      simp -implicitDefEqProofs [hlen]
      exact fun x a hx => h5 x a (h3.bx.sub x a hx)
end Go.Proofs.Yteddhilaehfgbaa
