/- InboxLives answers true over abstract values; no condition. -/
import Derived.Test.YteddhilaehfgbaaExact
namespace Go.Proofs.Yteddhilaehfgbaa
open Go Go.Aw
set_option linter.unusedVariables false
set_option linter.unusedSimpArgs false

theorem Bx.other {σ0 σ : Sto} {b x : Nat} {tb : Tok} {R : Int} {L : List Change} {o : Bool} (a : AObj) (h : Bx σ0 σ b tb R L o) (hx : x ≠ b) (ht : fp tb ≠ some x) (h0 : σ0 x = none) :
    Bx σ0 (σ.set x a) b tb R L o where
  here := by have := hx.symm; simp [this, h.here]
  own := h.own.set ht
  sub := sub_set h.sub h0
  nb := h.nb
  nt := h.nt

theorem Bx.fresh {σ0 σ : Sto} {b x : Nat} {tb : Tok} {R : Int} {L : List Change} {o : Bool} (h : Bx σ0 σ b tb R L o) (hx : σ x = none) : x ≠ b ∧ fp tb ≠ some x ∧ σ0 x = none :=
  ⟨(fun e => by rw [e, h.here] at hx; cases hx), (fun e => by obtain ⟨a, ha⟩ := h.own.some e; rw [ha] at hx; cases hx), h.sub.none hx⟩

theorem BoxOp.cells {σ0 σ σ' : Sto} {b x : Nat} {tb tb' : Tok} {R R' : Int} {L L' : List Change} {o o' : Bool} {cs : List AV} (k : BoxOp σ σ' b tb tb' R' L' o') (h : Bx σ0 σ b tb R L o) (hx : x ≠ b)
    (hs : σ x = some (.cells cs)) : σ' x = some (.cells cs) := k.keep x _ hx (h.own.ne hs) hs

/-- between the parts of a round -/
def Mid (σ σ' : Sto) (l : List OpV) (t0 : Tok) (b bm bo R i : Nat) (c : OpV) (e : Env) : Prop := ∃ (tb tm : Tok) (L : List Change) (o : Bool), L.length ≤ i + 1 ∧ e.length = 119 ∧ gt e 1 = .slice t0 (l.map encO) ∧ gt e 5 = .ptr b 0 ∧
  gt e 6 = .ptr bm 0 ∧ gt e 7 = .sc (.int .i64 i) ∧ gt e 8 = .ptr bo 0 ∧ Bx σ σ' b tb R L o ∧ σ' bm = some (.cells [.sc (.int .i64 R), .slice tm (L.map encC), .sc (.bool o)]) ∧ σ' bo = some (.cells (encO c))

/-- the document's box is stored -/
theorem mid_store {σ σ' : Sto} {l : List OpV} {t0 tb tm : Tok} {b bm bo R i : Nat} {c : OpV} {L : List Change} {o : Bool} {e : Env} {cs : List AV} (hL : L.length ≤ i + 1) (hlen : e.length = 119) (g1 : gt e 1 = .slice t0 (l.map encO))
    (g5 : gt e 5 = .ptr b 0) (g6 : gt e 6 = .ptr bm 0) (g7 : gt e 7 = .sc (.int .i64 i)) (g8 : gt e 8 = .ptr bo 0) (h : Bx σ σ' b tb R L o) (kc : σ' bm = some (.cells cs)) (ko : σ' bo = some (.cells (encO c)))
    (nbm : bm ≠ b) (n3 : σ bm = none) (nmo : bm ≠ bo) :
    Mid σ (σ'.set bm (.cells [.sc (.int .i64 R), .slice tm (L.map encC), .sc (.bool o)])) l t0 b bm bo R i c e :=
  ⟨tb, tm, L, o, hL, hlen, g1, g5, g6, g7, g8, h.other _ nbm (h.own.ne kc) n3, by simp, by simp [nmo.symm, ko]⟩

theorem inboxLives_abs (σ : Sto) (most : Int) (t0 : Tok) (l : List OpV) :
    ACalls Try.prog 4 [.sc (.int .i64 most), .slice t0 (l.map encO)] σ (fun r σ' => r = .sc (.bool true) ∧ σ' = σ) := by
  obtain ⟨R, hR⟩ := Int.eq_ofNat_of_zero_le (a := min (max most 0) 64) (by omega)
  refine ACalls.drop ?_
  refine fn_of Tab.mixed Try.func4 rfl rfl rfl ?_
  simp -implicitDefEqProofs [encC]
  by_cases hlong : (300 : Int) < l.length
  · rw [if_pos hlong]
    refine (awake_spec σ).mono ?_
    rintro r σ1 ⟨rfl, h1⟩
    simp -implicitDefEqProofs
    exact h1
  · rw [if_neg hlong]
    refine (new_box σ σ (Sub.refl σ) most).mono ?_
    rintro r σ1 ⟨b, rfl, hb, -, -⟩
    rw [hR] at hb
    simp -implicitDefEqProofs
    refine (refNew_spec σ1 most).mono ?_
    rintro r σ2 ⟨rfl, rfl⟩
    rw [hR]
    simp -implicitDefEqProofs
    refine alloc fun bm hm => ?_
    obtain ⟨nbm, n2, n3⟩ := hb.fresh hm
    simp -implicitDefEqProofs
    refine wpc_loop (fun e σ' => ∃ (i : Nat) (tb tm : Tok) (L : List Change) (o : Bool), i ≤ l.length ∧ L.length ≤ i ∧ e.length = 119 ∧ gt e 1 = .slice t0 (l.map encO) ∧ gt e 5 = .ptr b 0 ∧
      gt e 6 = .ptr bm 0 ∧ gt e 7 = .sc (.int .i64 i) ∧ Bx σ σ' b tb R L o ∧ σ' bm = some (.cells [.sc (.int .i64 R), .slice tm (L.map encC), .sc (.bool o)]))
      (fun e _ => l.length - (intAt e 7).toNat) ⟨0, .clip, .clip, [], false, by simp, by simp, by simp, ?_⟩ ?_
    · simpa using hb.other _ nbm n2 n3
    rintro e σ' ⟨i, tb, tm, L, o, hi, hlq, hlen, g1, g5, g6, g7, h, k⟩
    by_cases hlt : i < l.length
    · simp -implicitDefEqProofs [-seqK_normal, hlen, g1, g5, g6, g7, k, hlt, encO]
      simp -implicitDefEqProofs [hlen, g1, g5, g6, g7, k, hlt, encO, -wpc_block, -wpc_seq]
      rw [wpc_seq, wpc_block, wpc_seq]
      simp -implicitDefEqProofs [-seqK_normal, hlen, g1, g5, g6, g7, k, hlt, encO]
      refine alloc fun bo hbo => ?_
      obtain ⟨m1, m2, m3⟩ := h.fresh hbo
      have nmo : bm ≠ bo := fun e => by rw [e, hbo] at k; cases k
      simp -implicitDefEqProofs [-seqK_normal, hlen, g1, g5, g6, g7, k, hlt, nmo, nmo.symm]
      have hxa := h.other (.cells (encO l[i])) m1 m2 m3
      have ka : (σ'.set bo (.cells (encO l[i]))) bm = some (.cells [.sc (.int .i64 R), .slice tm (L.map encC), .sc (.bool o)]) := by simp [nmo, k]
      have koa : (σ'.set bo (.cells (encO l[i]))) bo = some (.cells (encO l[i])) := by simp
      simp only [encO] at hxa ka koa
      generalize σ'.set bo _ = σa at hxa ka koa ⊢
      refine seq_cut (fun e s => Mid σ s l t0 b bm bo R i l[i] e) ?_ fun e1 s1 h1 => ?_
      · by_cases hk0 : l[i].kind = 0
        · simp -implicitDefEqProofs [hlen, g1, g5, g6, g7, ka, koa, hk0]
          cases hf : fullB R L o
          · have ho : o = false := by cases o <;> simp_all [fullB]
            subst ho
            refine (refPush_room σa R tm L l[i].c (by simpa [fullB] using hf) (by omega)).mono ?_
            rintro r σb ⟨⟨t', rfl⟩, rfl⟩
            simp -implicitDefEqProofs [hlen, g1, g5, g6, g7, ka, koa, hk0]
            refine alloc fun bn hbn => ?_
            obtain ⟨p1, p2, p3⟩ := hxa.fresh hbn
            have hxb := hxa.other (.cells [.sc (.int .i64 R), .slice t' ((L ++ [l[i].c]).map encC), .sc (.bool false)]) p1 p2 p3
            have pm : bm ≠ bn := fun e => by rw [← e, ka] at hbn; cases hbn
            have po : bo ≠ bn := fun e => by rw [← e, koa] at hbn; cases hbn
            simp -implicitDefEqProofs [hlen, g1, g5, g6, g7, ka, koa, hk0, pm, po]
            refine (push_spec σ _ b R tb L false l[i].c (by simpa using hxb) (by omega)).mono ?_
            rw [hf]
            rintro r σc ⟨rfl, tb', hxc, hop⟩
            have kc := hop.keep bm _ nbm (hxa.own.ne ka) (show _ = some (AObj.cells [.sc (.int .i64 R), .slice tm (L.map encC), .sc (.bool false)]) by simp [pm, ka])
            have koc := hop.keep bo _ m1 (hxa.own.ne koa) (show _ = some (AObj.cells (encO l[i])) by simp [po, koa, encO])
            have knc := hop.keep bn _ p1 p2 (show _ = some (AObj.cells [.sc (.int .i64 R), .slice t' ((L ++ [l[i].c]).map encC), .sc (.bool false)]) by simp)
            simp -implicitDefEqProofs [hlen, g1, g5, g6, g7, kc, koc, knc, hk0, nmo, nmo.symm]
            simpa using mid_store (tm := t') (by simp; omega) (by simp [hlen]) (by simp [hlen, g1]) (by simp [hlen, g5]) (by simp [hlen, g6]) (by simp [hlen, g7]) (by simp [hlen]) hxc kc koc nbm n3 nmo
          · refine (refPush_full σa R tm L o l[i].c hf).mono ?_
            rintro r σb ⟨rfl, rfl⟩
            simp -implicitDefEqProofs [hlen, g1, g5, g6, g7, ka, koa, hk0]
            refine alloc fun bn hbn => ?_
            obtain ⟨p1, p2, p3⟩ := hxa.fresh hbn
            have hxb := hxa.other (.cells [.sc (.int .i64 R), .slice tm (L.map encC), .sc (.bool true)]) p1 p2 p3
            have pm : bm ≠ bn := fun e => by rw [← e, ka] at hbn; cases hbn
            have po : bo ≠ bn := fun e => by rw [← e, koa] at hbn; cases hbn
            simp -implicitDefEqProofs [hlen, g1, g5, g6, g7, ka, koa, hk0, pm, po]
            refine (push_spec σ _ b R tb L o l[i].c (by simpa using hxb) (by omega)).mono ?_
            rw [hf]
            rintro r σc ⟨rfl, tb', hxc, hop⟩
            have kc := hop.keep bm _ nbm (hxa.own.ne ka) (show _ = some (AObj.cells [.sc (.int .i64 R), .slice tm (L.map encC), .sc (.bool o)]) by simp [pm, ka])
            have koc := hop.keep bo _ m1 (hxa.own.ne koa) (show _ = some (AObj.cells (encO l[i])) by simp [po, koa, encO])
            have knc := hop.keep bn _ p1 p2 (show _ = some (AObj.cells [.sc (.int .i64 R), .slice tm (L.map encC), .sc (.bool true)]) by simp)
            simp -implicitDefEqProofs [hlen, g1, g5, g6, g7, kc, koc, knc, hk0, nmo, nmo.symm]
            simpa using mid_store (tm := tm) (by simp; omega) (by simp [hlen]) (by simp [hlen, g1]) (by simp [hlen, g5]) (by simp [hlen, g6]) (by simp [hlen, g7]) (by simp [hlen]) hxc kc koc nbm n3 nmo
        · simp -implicitDefEqProofs [hlen, g1, g5, g6, g7, ka, koa, hk0]
          exact ⟨tb, tm, L, o, by omega, by simp [hlen], by simp [hlen, g1], by simp [hlen, g5], by simp [hlen, g6], by simp [hlen, g7], by simp [hlen], hxa, ka, koa⟩
      · have hg7 := g7
        clear g1 g5 g6 g7 hlen h k ka koa hxa hlq
        clear hbo m1 m2
        obtain ⟨tb1, tm1, L1, o1, hL1, hlen, g1, g5, g6, g7, g8, hx1, k1, ko1⟩ := h1
        have m1 : bo ≠ b := fun e => by rw [e, hx1.here] at ko1; simp [encO] at ko1
        refine wpc_cut (fun e s => Mid σ s l t0 b bm bo R i l[i] e) ?_ fun e2 s2 h2 => ?_
        · by_cases hk1 : l[i].kind = 1
          · simp -implicitDefEqProofs [hlen, g1, g5, g6, g7, g8, k1, ko1, hk1, encO]
            by_cases hsome : o1 = false ∨ L1 ≠ []
            · refine (refTake_some s1 R l[i].n tm1 L1 o1 (by omega) hsome).mono ?_
              rintro r σb ⟨⟨t1, t2, rfl⟩, rfl⟩
              simp -implicitDefEqProofs [hlen, g1, g5, g6, g7, g8, k1, ko1, hk1]
              refine alloc fun bn hbn => ?_
              obtain ⟨p1, p2, p3⟩ := hx1.fresh hbn
              have hxb := hx1.other (.cells [.sc (.int .i64 R), .slice t1 ((L1.drop (took l[i].n L1.length)).map encC), .sc (.bool o1)]) p1 p2 p3
              have pm : bm ≠ bn := fun e => by rw [← e, k1] at hbn; cases hbn
              have po : bo ≠ bn := fun e => by rw [← e, ko1] at hbn; cases hbn
              simp -implicitDefEqProofs [hlen, g1, g5, g6, g7, g8, k1, ko1, hk1, pm, po, encO]
              refine (take_spec _ b R l[i].n tb1 L1 o1 (by simpa using hxb.here) (by simpa using hxb.own) (by omega)).mono ?_
              have his : (!(o1 && L1.isEmpty)) = true := by
                rcases hsome with rfl | h
                · rfl
                · cases L1 with
                  | nil => exact absurd rfl h
                  | cons x y => simp
              rw [his]
              have hk2 : took l[i].n L1.length ≤ L1.length := by unfold took; omega
              generalize took l[i].n L1.length = q at hxb hk2 ⊢
              rintro r σc ⟨t3, tb', rfl, hop⟩
              have kc := hop.keep bm _ nbm (hx1.own.ne k1) (show _ = some (AObj.cells [.sc (.int .i64 R), .slice tm1 (L1.map encC), .sc (.bool o1)]) by simp [pm, k1])
              have koc := hop.keep bo _ m1 (hx1.own.ne ko1) (show _ = some (AObj.cells (encO l[i])) by simp [po, ko1])
              have knc := hop.keep bn _ p1 p2 (show _ = some (AObj.cells [.sc (.int .i64 R), .slice t1 ((L1.drop q).map encC), .sc (.bool o1)]) by simp)
              have hxc := (show Bx σ _ b tb1 R L1 o1 by simpa using hxb).step hop
              simp -implicitDefEqProofs [hlen, g1, g5, g6, g7, g8, kc, koc, knc, hk1, encO]
              rw [← List.map_take]
              refine (same_spec σc t3 t2 (L1.take q) (L1.take q) (by simp; omega) (by simp; omega)).mono ?_
              rintro r σd ⟨rfl, rfl⟩
              simp -implicitDefEqProofs [hlen, g1, g5, g6, g7, g8, kc, koc, knc, hk1, encO]
              simpa using mid_store (tm := t1) (L := L1.drop q) (by simp; omega) (by simp [hlen]) (by simp [hlen, g1]) (by simp [hlen, g5]) (by simp [hlen, g6]) (by simp [hlen, g7]) (by simp [hlen, g8]) hxc kc koc nbm n3 nmo
            · have ho1 : o1 = true := by cases o1 <;> simp_all
              have hl1 : L1 = [] := by cases L1 <;> simp_all
              subst ho1 hl1
              refine (refTake_none s1 R l[i].n tm1).mono ?_
              rintro r σb ⟨rfl, rfl⟩
              simp -implicitDefEqProofs [hlen, g1, g5, g6, g7, g8, k1, ko1, hk1]
              refine alloc fun bn hbn => ?_
              obtain ⟨p1, p2, p3⟩ := hx1.fresh hbn
              have hxb := hx1.other (.cells [.sc (.int .i64 R), .slice tm1 [], .sc (.bool true)]) p1 p2 p3
              have pm : bm ≠ bn := fun e => by rw [← e, k1] at hbn; cases hbn
              have po : bo ≠ bn := fun e => by rw [← e, ko1] at hbn; cases hbn
              simp -implicitDefEqProofs [hlen, g1, g5, g6, g7, g8, k1, ko1, hk1, pm, po, encO]
              refine (take_spec _ b R l[i].n tb1 [] true (by simpa using hxb.here) (by simpa using hxb.own) (by simp)).mono ?_
              rintro r σc ⟨t3, tb', rfl, hop⟩
              have kc := hop.keep bm _ nbm (hx1.own.ne k1) (show _ = some (AObj.cells [.sc (.int .i64 R), .slice tm1 [], .sc (.bool true)]) by simpa [pm] using k1)
              have koc := hop.keep bo _ m1 (hx1.own.ne ko1) (show _ = some (AObj.cells (encO l[i])) by simp [po, ko1])
              have knc := hop.keep bn _ p1 p2 (show _ = some (AObj.cells [.sc (.int .i64 R), .slice tm1 [], .sc (.bool true)]) by simp)
              have hxc := (show Bx σ _ b tb1 R [] true by simpa using hxb).step hop
              simp -implicitDefEqProofs [hlen, g1, g5, g6, g7, g8, kc, koc, knc, hk1, encO]
              refine (same_spec σc t3 .clip [] [] (by simp) (by simp)).mono ?_
              rintro r σd ⟨rfl, rfl⟩
              simp -implicitDefEqProofs [hlen, g1, g5, g6, g7, g8, kc, koc, knc, hk1, encO]
              simpa using mid_store (tm := tm1) (L := []) (by simp) (by simp [hlen]) (by simp [hlen, g1]) (by simp [hlen, g5]) (by simp [hlen, g6]) (by simp [hlen, g7]) (by simp [hlen, g8]) (by simpa using hxc) kc koc nbm n3 nmo
          · simp -implicitDefEqProofs [hlen, g1, g5, g6, g7, g8, k1, ko1, hk1, encO]
            exact ⟨tb1, tm1, L1, o1, hL1, by simp [hlen], by simp [hlen, g1], by simp [hlen, g5], by simp [hlen, g6], by simp [hlen, g7], by simp [hlen, g8], hx1, k1, ko1⟩
        · clear g1 g5 g6 g7 g8 hlen k1 ko1 hx1 hL1
          obtain ⟨tb1, tm1, L1, o1, hL1, hlen, g1, g5, g6, g7, g8, hx1, k1, ko1⟩ := h2
          refine wpc_cut (fun e s => Mid σ s l t0 b bm bo R i l[i] e) ?_ fun e3 s3 h3 => ?_
          · by_cases hk1 : l[i].kind = 2
            · simp -implicitDefEqProofs [hlen, g1, g5, g6, g7, g8, k1, ko1, hk1, encO]
              refine (empty_box σ s2 b R tb1 L1 o1 hx1).mono ?_
              rintro r σc ⟨rfl, hxc, hop⟩
              have kc : σc bm = some (.cells [.sc (.int .i64 R), .slice tm1 (L1.map encC), .sc (.bool o1)]) := by rw [hop]; simp [nbm, k1]
              have koc : σc bo = some (.cells (encO l[i])) := by rw [hop]; simp [m1, ko1]
              simp -implicitDefEqProofs [hlen, g1, g5, g6, g7, g8, kc, koc, hk1]
              simpa using mid_store (tm := .clip) (L := []) (by simp) (by simp [hlen]) (by simp [hlen, g1]) (by simp [hlen, g5]) (by simp [hlen, g6]) (by simp [hlen, g7]) (by simp [hlen, g8]) hxc kc koc nbm n3 nmo
            · simp -implicitDefEqProofs [hlen, g1, g5, g6, g7, g8, k1, ko1, hk1, encO]
              exact ⟨tb1, tm1, L1, o1, hL1, by simp [hlen], by simp [hlen, g1], by simp [hlen, g5], by simp [hlen, g6], by simp [hlen, g7], by simp [hlen, g8], hx1, k1, ko1⟩
          · clear g1 g5 g6 g7 g8 hlen k1 ko1 hx1 hL1
            obtain ⟨tb1, tm1, L1, o1, hL1, hlen, g1, g5, g6, g7, g8, hx1, k1, ko1⟩ := h3
            simp -implicitDefEqProofs [hlen, g1, g5, g6, g7, g8, k1, ko1]
            refine drawP [1, 8] (by kernel_rfl) ?_
            simp -implicitDefEqProofs [hlen, g1, g5, g6, g7, g8, k1]
            refine readAt _ b _ hx1.here (fun s h => by simp -implicitDefEqProofs [hlen, g5]; exact len_spec s b R tb1 _ _ h) ?_
            simp -implicitDefEqProofs [hlen, g1, g5, g6, g7, g8, k1]
            refine readAt _ b _ hx1.here (fun s h => by simp -implicitDefEqProofs [hlen, g5]; exact over_spec s b R tb1 _ _ h) ?_
            simp -implicitDefEqProofs [hlen, g1, g5, g6, g7, g8, k1, wrap_i64 (n := (i : Int) + 1) (by omega) (by omega), intAt]
            refine ⟨⟨i + 1, by omega, tb1, tm1, L1, hL1, by simp, ?_⟩, by simp [hg7]; omega⟩
            cases o1
            · exact .inl ⟨hx1, ⟨rfl, rfl⟩, rfl⟩
            · exact .inr ⟨hx1, ⟨rfl, rfl⟩, rfl⟩
    · obtain rfl : i = l.length := by omega
      simp -implicitDefEqProofs [hlen, g1, g5, g6, g7, k]
      refine alloc fun bu hbu => ?_
      obtain ⟨m1, m2, m3⟩ := h.fresh hbu
      simp -implicitDefEqProofs [hlen, g1, g5, g6, g7, k]
      have hu : Bx σ (σ'.set bu (.cells [.sc (.int .i64 0), .slice .clip [], .sc (.bool false)])) bu .clip 0 [] false := ⟨by simp, trivial, sub_set h.sub m3, m3, by simp [fp]⟩
      generalize σ'.set bu _ = σa at hu ⊢
      refine (push_spec σ σa bu 0 .clip [] false ⟨⟨#[]⟩, false, ⟨#[]⟩⟩ hu (by simp)).mono ?_
      rw [show fullB 0 [] false = true from rfl]
      rintro r σb ⟨rfl, tu, hub, -⟩
      simp -implicitDefEqProofs [hlen] at hub ⊢
      refine (over_spec σb bu 0 tu [] true hub.here).mono ?_
      rintro r σc ⟨rfl, rfl⟩
      simp -implicitDefEqProofs [hlen] at hub ⊢
      refine (len_spec σc bu 0 tu [] true hub.here).mono ?_
      rintro r σd ⟨rfl, rfl⟩
      simp -implicitDefEqProofs [hlen] at hub ⊢
      refine (awake_spec σd).mono ?_
      rintro r σe ⟨rfl, h5⟩
      simp -implicitDefEqProofs [hlen]
      exact fun x a hx => h5 x a (hub.sub x a hx)
end Go.Proofs.Yteddhilaehfgbaa
