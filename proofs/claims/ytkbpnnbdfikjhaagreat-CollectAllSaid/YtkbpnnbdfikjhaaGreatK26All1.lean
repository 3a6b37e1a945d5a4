/- CollectAll's own function: its loops. -/
import Derived.Test.YtkbpnnbdfikjhaaGreatK24Blk1
namespace Go.Proofs.YtkbpnnbdfikjhaaGreat
open Go Go.Aw
set_option linter.unusedVariables false
set_option linter.unusedSimpArgs false
set_option maxRecDepth 10000

/-- a routine runs alone, and tells whether it ended -/
theorem alone_end (R : Rtn) (hR : R.Ok) (I : Nat → Hp → R.S → Prop) (hI : Ranked R I) {s : Sto} {hb m b : Nat} {H : Hp} {x : R.S} {bs F : List Nat} {gs : List Grp} (h : Wld s (heapG hb m bs H :: rtnG R hR b x F :: gs)) {n : Nat} (hx : I n H x) (most : Int) (hm : 0 ≤ most ∧ most ≤ 1000000) :
    ACalls Tryz.prog 10 [.ptr hb 0, .iface R.T (.ptr b 0), i64 most] s (fun r s' => (∃ k, r = .tuple [i64 k, boo (R.act (R.run most.toNat (H, x)).2.2).isNone]) ∧
      ∃ bs' F', Wld s' (heapG hb m bs' (R.run most.toNat (H, x)).2.1 :: rtnG R hR b (R.run most.toNat (H, x)).2.2 F' :: gs)) := by
  have hmg := h.merge
  obtain ⟨p1, p2, p3⟩ := hmg.1 _ (List.mem_cons_self ..)
  refine (alone_spec R hR _ hI.good s hb m b (H, x) bs F ⟨p1, p2, fun y hy hy' => p3 y hy' hy⟩ ⟨n, hx⟩ most hm).mono ?_
  rintro r s' ⟨rfl, -, bs', F', hrun, hF⟩
  refine ⟨⟨_, rfl⟩, bs', F', ?_⟩
  exact (hmg.change (g' := (heapG hb m bs' _).both (rtnG R hR b _ F')) hF ⟨hrun.heap, hrun.rtn, fun z hz hz' => hrun.apart z hz' hz⟩).split

/-- what does not change -/
structure AC where
  c : Cfg
  hc : c.right = true
  t1 : Tok
  rows : List (Tok × List Ch)
  fst : Int
  b3 : Nat
  hb : Nat
  m : Nat
  ob : Nat
  mo : AV
  hf : 0 ≤ fst ∧ fst < 256
  h12 : rows.length ≤ 12
  hrows : ∀ r ∈ rows, RowShort r
  hkeys : ((keysL (allC rows)).length : Int) ≤ c.shelves
/-- slots and store -/
structure AE (z : AC) (e : Env) (s : Sto) (H : Hp) (o : Off) (bs F : List Nat) (gs : List Grp) : Prop where
  hl : e.length = 181
  g1 : gt e 1 = .slice z.t1 (z.rows.map encRow)
  g2 : gt e 2 = .sc (.int .u8 z.fst)
  g3 : gt e 3 = .ptr z.b3 0
  g7 : gt e 7 = .ptr z.hb 0
  g8 : gt e 8 = .ptr z.ob 0
  wl : Wld s (boxG z.b3 z.c :: heapG z.hb z.m bs H :: offG z.ob z.c o z.mo F :: gs)
theorem AE.env {z : AC} {e e' : Env} {s s' : Sto} {H H' : Hp} {o o' : Off} {bs F bs' F' : List Nat} {gs gs' : List Grp} (he : AE z e s H o bs F gs) (hl : e'.length = 181) (hs : ∀ i ∈ [1, 2, 3, 7, 8], gt e' i = gt e i)
    (hw : Wld s' (boxG z.b3 z.c :: heapG z.hb z.m bs' H' :: offG z.ob z.c o' z.mo F' :: gs')) : AE z e' s' H' o' bs' F' gs' := by
  simp only [List.mem_cons, List.not_mem_nil, or_false, forall_eq_or_imp, forall_eq] at hs
  obtain ⟨a1, a2, a3, a7, a8⟩ := hs
  exact ⟨hl, a1.trans he.g1, a2.trans he.g2, a3.trans he.g3, a7.trans he.g7, a8.trans he.g8, hw⟩
theorem AE.box {z : AC} {e : Env} {s : Sto} {H : Hp} {o : Off} {bs F : List Nat} {gs : List Grp} (he : AE z e s H o bs F gs) : s z.b3 = some (.cells (rowC z.c)) := he.wl.1 _ (List.mem_cons_self ..)

/-! ### collections ahead -/
def A1 (z : AC) (K : Int) (e : Env) (s : Sto) : Prop := ∃ (i : Nat) (H : Hp) (o : Off) (bs F : List Nat) (A : AH), AE z e s H o bs F [] ∧ gt e 9 = i64 i ∧ i ≤ K ∧ AI z.c H o 0 [] A
theorem loop1 (z : AC) {Q : AExit → Env → Sto → Prop} (hQ : ∀ e s, A1 z (z.fst.tmod z.c.shelves) e s → Q (.exit 0) e s) {e : Env} {s : Sto} (hJ : A1 z (z.fst.tmod z.c.shelves) e s) :
    wpc Tryz.prog (cL (cR (cL (cR (cR (cR (cR (codeOf Tryz.f4)))))))) Q e s := by
  obtain ⟨b1, b2, b3, -, -⟩ := z.c.bounds z.hc
  have hf := z.hf
  have hK : 0 ≤ z.fst.tmod z.c.shelves ∧ z.fst.tmod z.c.shelves < z.c.shelves := ⟨Int.tmod_nonneg _ hf.1, Int.tmod_lt_of_pos _ (by omega)⟩
  have w8 : IntKind.i64.wrap z.fst = z.fst := wrap_i64 (by omega) (by omega)
  have hnz : ¬ z.c.shelves = 0 := by omega
  refine at_loop (c := (cL (cR (cL (cR (cR (cR (cR (codeOf Tryz.f4))))))))) rfl ?_
  refine wpc_loop (A1 z (z.fst.tmod z.c.shelves)) (fun e _ => 100 - (intAt e 9).toNat) hJ ?_
  clear hJ e s
  rintro e s ⟨i, H, o, bs, F, A, he, g9, hi, hI⟩
  have g9o := g9
  have w1 : IntKind.i64.wrap ((i : Int) + 1) = (i : Int) + 1 := wrap_i64 (by omega) (by omega)
  by_cases hlt : (i : Int) < z.fst.tmod z.c.shelves
  · have w0 := he.wl.re [2, 0, 1] (by simp)
    obtain ⟨lx, hO⟩ := w0.1 (offG z.ob z.c o z.mo F) (by simp [reord])
    obtain ⟨⟨I1, R1, i1⟩, -, A', hI', -⟩ := hI.col z.hc z.ob z.mo
    simp -implicitDefEqProofs [he.hl, g9, he.g2, he.g3, w8, he.box, hnz, hlt, he.g7, he.g8]
    refine (colnew_spec s z.ob z.c z.hc o z.mo lx F hO).mono ?_
    rintro r s1 ⟨xb, rfl, hxb, hC, hs1⟩
    have w1' : Wld s1 (heapG z.hb z.m bs H :: rtnG (colR z.c z.ob z.mo) (colR_ok z.c z.hc z.ob z.mo) xb (Col.new, o) (z.ob :: F) :: boxG z.b3 z.c :: []) :=
      (Wld.collect z.hc w0 hs1 hxb hC.row).re [2, 0, 1] (by simp [reord])
    simp -implicitDefEqProofs [he.hl]
    refine (alone_at (colR z.c z.ob z.mo) (colR_ok z.c z.hc z.ob z.mo) I1 R1 w1' i1 10000 (by omega)).mono ?_
    rintro r s2 ⟨⟨k1, d1, rfl⟩, bs', F', w2⟩
    obtain ⟨F0, w3⟩ := Wld.collected z.hc (w2.re [1, 0] (by simp))
    simp -implicitDefEqProofs [he.hl, g9, w1]
    refine ⟨⟨i + 1, _, _, bs', F0, A', he.env (by simp [he.hl]) (by simp) (w3.re [2, 1, 0] (by simp [reord])), by simp [he.hl], by push_cast; omega, hI'⟩, ?_⟩
    simp [intAt, he.hl, g9o]
    omega
  · simp -implicitDefEqProofs [he.hl, g9, he.g2, he.g3, w8, he.box, hnz, hlt]
    exact hQ _ _ ⟨i, H, o, bs, F, A, he.env (by simp [he.hl]) (by simp) he.wl, by simp [g9], hi, hI⟩
end Go.Proofs.YtkbpnnbdfikjhaaGreat

/- CollectAll's own function: rows are laid, and their keys are put. -/
namespace Go.Proofs.YtkbpnnbdfikjhaaGreat
open Go Go.Aw
set_option linter.unusedVariables false
set_option linter.unusedSimpArgs false
set_option maxRecDepth 10000

theorem keysL_prefix (a b : List Ch) : (keysL a).length ≤ (keysL (a ++ b)).length := by rw [keysL_app]; exact putL_len b _
theorem allC_len {rows : List (Tok × List Ch)} (h : ∀ r ∈ rows, RowShort r) : (allC rows).length ≤ 6 * rows.length := by
  induction rows with
  | nil => simp [allC]
  | cons r l ih =>
    have h1 := (h r (by simp)).1
    have h2 := ih fun x hx => h x (by simp [hx])
    simp only [allC, List.flatMap_cons, List.length_append, List.length_cons] at h2 ⊢
    omega
theorem putK_le (S : List ByteArray) (k : ByteArray) : (putK S k).length ≤ S.length + 1 := by unfold putK; split <;> simp
theorem putL_le : ∀ (l : List Ch) (S : List ByteArray), (putL S l).length ≤ S.length + l.length
  | [], S => by simp [putL]
  | ch :: l, S => by
    have h1 := putK_le S ch.key
    have h2 := putL_le l (putK S ch.key)
    simp only [putL, List.foldl_cons, List.length_cons] at h2 ⊢
    omega
theorem keysL_le (l : List Ch) : (keysL l).length ≤ l.length := by
  have := putL_le l []
  simpa [keysL, putL] using this

/-- the keys of a row -/
structure A3I (z : AC) (i : Nat) (r : Tok × List Ch) (e : Env) (s : Sto) (H : Hp) (o : Off) (bs F : List Nat) (A : AH) (tok : Tok) (op : List Pr) (j : Nat) : Prop where
  ae : AE z e s H o bs F []
  g10 : gt e 10 = .slice tok (op.map encPr)
  g11 : gt e 11 = i64 i
  g12 : gt e 12 = i64 j
  le : j ≤ r.2.length
  ai : AI z.c H o (i + 1) (allC (z.rows.take (i + 1))) A
  pk : PK op (keysL (allC (z.rows.take i) ++ r.2.take j))
def A3 (z : AC) (i : Nat) (r : Tok × List Ch) (e : Env) (s : Sto) : Prop := ∃ H o bs F A tok op j, A3I z i r e s H o bs F A tok op j
theorem loop3 (z : AC) (i : Nat) (hi : i < z.rows.length) {Q : AExit → Env → Sto → Prop} (hQ : ∀ e s H o bs F A tok op, A3I z i z.rows[i] e s H o bs F A tok op z.rows[i].2.length → Q (.exit 4) e s) {e : Env} {s : Sto} (hJ : A3 z i z.rows[i] e s) :
    wpc Tryz.prog (cL (cR (cR (cL (cL (cR (cL (cL (cR (cL (cR (cR (cR (cR (cR (cR (codeOf Tryz.f4))))))))))))))))) Q e s := by
  have h12 := z.h12
  have hri : z.rows[i]? = some z.rows[i] := List.getElem?_eq_getElem hi
  obtain ⟨r6, rsh⟩ := z.hrows _ (List.getElem_mem hi)
  have hlt := hi
  refine at_loop (c := (cL (cR (cR (cL (cL (cR (cL (cL (cR (cL (cR (cR (cR (cR (cR (cR (codeOf Tryz.f4)))))))))))))))))) rfl ?_
  refine wpc_loop (A3 z i z.rows[i]) (fun e _ => 10 - (intAt e 12).toNat) hJ ?_
  clear hJ e s
  rintro e s ⟨H, o, bs, F, A, tok, op, j, hI⟩
  have he := hI.ae
  have g12o := hI.g12
  have hle := hI.le
  have w1 : IntKind.i64.wrap ((j : Int) + 1) = (j : Int) + 1 := wrap_i64 (by omega) (by omega)
  by_cases hj : j < z.rows[i].2.length
  · have hcj : z.rows[i].2[j]? = some z.rows[i].2[j] := List.getElem?_eq_getElem hj
    have hop : op.length ≤ 200 := by
      have h1 := hI.pk.len
      have h2 := keysL_le (allC (z.rows.take i) ++ z.rows[i].2.take j)
      have h3 := allC_len (rows := z.rows.take i) fun x hx => z.hrows x (List.mem_of_mem_take hx)
      simp only [List.length_append, List.length_take] at h2 h3
      omega
    simp -implicitDefEqProofs [he.hl, hI.g12, hI.g11, hI.g10, he.g1, hlt, hj]
    refine (rput_spec _ tok op _ _ hop).mono ?_
    rintro r σ' ⟨⟨tok', o', rfl, ho'⟩, hs'⟩
    simp -implicitDefEqProofs [he.hl, hI.g12, w1]
    have hpk' : PK o' (keysL (allC (z.rows.take i) ++ z.rows[i].2.take (j + 1))) := by
      rw [List.take_add_one, hcj, Option.toList_some, ← List.append_assoc, keysL_snoc]
      exact hI.pk.put ho'
    refine ⟨⟨H, o, bs, F, A, tok', o', j + 1, ⟨he.env (by simp [he.hl]) (by simp) (he.wl.sub hs'), by simp [he.hl], by simp [hI.g11], by simp [he.hl], by omega, hI.ai, hpk'⟩⟩, ?_⟩
    simp [intAt, he.hl, g12o]
    omega
  · have hje : j = z.rows[i].2.length := by omega
    subst hje
    simp -implicitDefEqProofs [he.hl, hI.g12, hI.g11, he.g1, hlt]
    exact hQ _ _ H o bs F A tok op ⟨he.env (by simp [he.hl]) (by simp) he.wl, by simp [hI.g10], by simp [hI.g11], by simp [hI.g12], by omega, hI.ai, hI.pk⟩

/-- all rows -/
structure A2I (z : AC) (e : Env) (s : Sto) (H : Hp) (o : Off) (bs F : List Nat) (A : AH) (tok : Tok) (op : List Pr) (i : Nat) : Prop where
  ae : AE z e s H o bs F []
  g10 : gt e 10 = .slice tok (op.map encPr)
  g11 : gt e 11 = i64 i
  le : i ≤ z.rows.length
  ai : AI z.c H o i (allC (z.rows.take i)) A
  pk : PK op (keysL (allC (z.rows.take i)))
def A2 (z : AC) (e : Env) (s : Sto) : Prop := ∃ H o bs F A tok op i, A2I z e s H o bs F A tok op i
def A2b (z : AC) (i : Nat) (e : Env) (s : Sto) : Prop := ∃ H o bs F A tok op, A2I z e s H o bs F A tok op i
def A2c (z : AC) (i : Nat) (e : Env) (s : Sto) : Prop := ∃ H o bs F A tok op, AE z e s H o bs F [] ∧ gt e 10 = .slice tok (op.map encPr) ∧ gt e 11 = i64 i ∧ AI z.c H o (i + 1) (allC (z.rows.take (i + 1))) A ∧ PK op (keysL (allC (z.rows.take i)))
theorem loop2 (z : AC) {Q : AExit → Env → Sto → Prop} (hQ : ∀ e s, A2b z z.rows.length e s → Q (.exit 2) e s) {e : Env} {s : Sto} (hJ : A2 z e s) : wpc Tryz.prog (cL (cR (cL (cR (cR (cR (cR (cR (cR (codeOf Tryz.f4)))))))))) Q e s := by
  have h12 := z.h12
  refine at_loop (c := (cL (cR (cL (cR (cR (cR (cR (cR (cR (codeOf Tryz.f4))))))))))) rfl ?_
  refine wpc_loop (A2 z) (fun e _ => 20 - (intAt e 11).toNat) hJ ?_
  clear hJ e s
  rintro e s ⟨H, o, bs, F, A, tok, op, i, hI⟩
  have he := hI.ae
  have hmu : (intAt e 11).toNat = i := by
    have := hI.g11
    simp [intAt, this]
  rw [hmu]
  have hle := hI.le
  refine wpc_cut (fun e s => A2b z i e s ∧ i < z.rows.length) ?_ ?_
  · by_cases hlt : i < z.rows.length
    · simp -implicitDefEqProofs [he.hl, hI.g11, he.g1, hlt]
      exact ⟨H, o, bs, F, A, tok, op, he.env (by simp [he.hl]) (by simp) he.wl, by simp [hI.g10], by simp [hI.g11], hle, hI.ai, hI.pk⟩
    · have hie : i = z.rows.length := by omega
      simp -implicitDefEqProofs [he.hl, hI.g11, he.g1, hlt]
      refine hQ _ _ ?_
      rw [← hie]
      exact ⟨H, o, bs, F, A, tok, op, he.env (by simp [he.hl]) (by simp) he.wl, by simp [hI.g10], by simp [hI.g11], hle, hI.ai, hI.pk⟩
  clear hI he hmu H o bs F A tok op
  rintro e s ⟨⟨H, o, bs, F, A, tok, op, hI⟩, hlt⟩
  have he := hI.ae
  have hri : z.rows[i]? = some z.rows[i] := List.getElem?_eq_getElem hlt
  obtain ⟨r6, rsh⟩ := z.hrows _ (List.getElem_mem hlt)
  have e1 : IntKind.i64.wrap ((i : Int) + 1) = (i : Int) + 1 := wrap_i64 (by omega) (by omega)
  have e2 : IntKind.u64.wrap ((i : Int) + 1) = (i : Int) + 1 := wrap_u64 (by omega) (by omega)
  have r4 : ∀ ch ∈ z.rows[i].2, ch.key.size ≤ 4096 := fun ch hch => by have := (rsh ch hch).1; omega
  refine wpc_cut (fun e s => ∃ H o bs F A tok op, A3I z i z.rows[i] e s H o bs F A tok op z.rows[i].2.length) ?_ ?_
  · rw [wpc_block]
    refine wpc_cut (A2c z i) ?_ ?_
    · have hkk : ((keysL (allC (z.rows.take i) ++ z.rows[i].2)).length : Int) ≤ z.c.shelves := by
        have h1 := z.hkeys
        have h2 : allC z.rows = allC (z.rows.take (i + 1)) ++ allC (z.rows.drop (i + 1)) := by
          unfold allC
          rw [← List.flatMap_append, List.take_append_drop]
        rw [h2, allC_succ hri] at h1
        have h3 := keysL_prefix (allC (z.rows.take i) ++ z.rows[i].2) (allC (z.rows.drop (i + 1)))
        omega
      obtain ⟨⟨I1, R1, i1⟩, A', hA'⟩ := hI.ai.lay z.hc (by omega) r6 (fun ch hch => ⟨r4 ch hch, by have := (rsh ch hch).2; omega⟩) hkk
      rw [← allC_succ hri] at hA'
      simp -implicitDefEqProofs
      refine draw (by kernel_rfl) ?_
      simp -implicitDefEqProofs [he.hl, hI.g11, he.g1, he.g3, he.g7, he.box, hlt, e1, e2]
      refine (lnew_spec s z.c z.hc ((i : Int) + 1) z.rows[i].1 z.rows[i].2 (by omega) r4).mono ?_
      rintro r s1 ⟨b, F1, rfl, hb, hL, hs1, hF1⟩
      have w1 : Wld s1 (heapG z.hb z.m bs H :: rtnG (layR z.c (i + 1)) (layR_ok z.c z.hc _) b (Ly.new z.rows[i].2) F1 :: boxG z.b3 z.c :: offG z.ob z.c o z.mo F :: []) :=
        (he.wl.new (g := rtnG (layR z.c (i + 1)) (layR_ok z.c z.hc _) b (Ly.new z.rows[i].2) F1) hs1 hL (fun y hy => by
          rcases List.mem_cons.1 hy with rfl | hy
          · exact hb
          · exact hF1 y hy)).re [2, 0, 1] (by simp)
      simp -implicitDefEqProofs [he.hl]
      refine (alone_at (layR z.c (i + 1)) (layR_ok z.c z.hc _) I1 R1 w1 i1 10000 (by omega)).mono ?_
      rintro r s2 ⟨⟨k1, d1, rfl⟩, bs', F', w2⟩
      have w3 : Wld s2 (boxG z.b3 z.c :: heapG z.hb z.m bs' ((layR z.c (i + 1)).run 10000 (H, Ly.new z.rows[i].2)).2.1 :: offG z.ob z.c o z.mo F :: []) := Wld.tail (w2.re [1, 2, 0] (by simp))
      simp -implicitDefEqProofs [he.hl]
      exact ⟨_, o, bs', F, A', tok, op, he.env (by simp [he.hl]) (by simp) w3, by simp [hI.g10], by simp [hI.g11], hA', hI.pk⟩
    clear hI he H o bs F A tok op
    rintro e s ⟨H, o, bs, F, A, tok, op, he, g10, g11, hA, hpk⟩
    refine wpc_cut (A3 z i z.rows[i]) ?_ ?_
    · simp -implicitDefEqProofs [he.hl]
      exact ⟨H, o, bs, F, A, tok, op, 0, he.env (by simp [he.hl]) (by simp) he.wl, by simp [g10], by simp [g11], by simp [he.hl], by omega, hA, by simpa using hpk⟩
    clear he g10 g11 hA hpk H o bs F A tok op
    intro e s hJ
    rw [wpc_block]
    refine loop3 z i hlt ?_ hJ
    intro e s H o bs F A tok op hI
    exact ⟨H, o, bs, F, A, tok, op, hI⟩
  clear hI he H o bs F A tok op
  rintro e s ⟨H, o, bs, F, A, tok, op, hI⟩
  have he := hI.ae
  have hpk := hI.pk
  rw [List.take_length, ← allC_succ hri] at hpk
  simp -implicitDefEqProofs [he.hl, hI.g11, e1]
  refine ⟨⟨H, o, bs, F, A, tok, op, i + 1, ⟨he.env (by simp [he.hl]) (by simp) he.wl, by simp [hI.g10], by simp [he.hl], by omega, by have := hI.ai; exact_mod_cast this, hpk⟩⟩, ?_⟩
  simp [intAt, he.hl]
  omega
end Go.Proofs.YtkbpnnbdfikjhaaGreat

/- CollectAll's own function: passes over all shelves. -/
namespace Go.Proofs.YtkbpnnbdfikjhaaGreat
open Go Go.Aw
set_option linter.unusedVariables false
set_option linter.unusedSimpArgs false
set_option maxRecDepth 10000

/-- what stands from the first view on -/
structure AP where
  z : AC
  tok : Tok
  op : List Pr
  laid : Nat
  st : Int
  O : Int → Option Pr
  gs : List Grp
  xb : Nat
structure A4I (p : AP) (e : Env) (s : Sto) (H : Hp) (o : Off) (bs F : List Nat) (A : AH) (i ia : Nat) : Prop where
  ae : AE p.z e s H o bs F p.gs
  g10 : gt e 10 = .slice p.tok (p.op.map encPr)
  g13 : gt e 13 = .ptr p.xb 0
  g14 : gt e 14 = i64 i
  le : (i : Int) ≤ p.z.c.shelves
  af : AF p.z.c H o p.laid (allC p.z.rows) p.st ia p.O A
def A4 (p : AP) (e : Env) (s : Sto) : Prop := ∃ H o bs F A i, A4I p e s H o bs F A i i
def A4b (p : AP) (i ia : Nat) (e : Env) (s : Sto) : Prop := ∃ H o bs F A, A4I p e s H o bs F A i ia
def A4c (p : AP) (i : Nat) (e : Env) (s : Sto) : Prop := ∃ H o bs F A, A4I p e s H o bs F A i i ∧ (i : Int) < p.z.c.shelves
theorem A4I.env {p : AP} {e e' : Env} {s s' : Sto} {H H' : Hp} {o o' : Off} {bs F bs' F' : List Nat} {A A' : AH} {i ia i' ia' : Nat} (h : A4I p e s H o bs F A i ia) (hl : e'.length = 181) (hs : ∀ k ∈ [1, 2, 3, 7, 8, 10, 13], gt e' k = gt e k) (h14 : gt e' 14 = i64 i') (hle : (i' : Int) ≤ p.z.c.shelves)
    (hw : Wld s' (boxG p.z.b3 p.z.c :: heapG p.z.hb p.z.m bs' H' :: offG p.z.ob p.z.c o' p.z.mo F' :: p.gs)) (haf : AF p.z.c H' o' p.laid (allC p.z.rows) p.st ia' p.O A') : A4I p e' s' H' o' bs' F' A' i' ia' := by
  simp only [List.mem_cons, List.not_mem_nil, or_false, forall_eq_or_imp, forall_eq] at hs
  obtain ⟨a1, a2, a3, a7, a8, a10, a13⟩ := hs
  exact ⟨h.ae.env hl (by simp [a1, a2, a3, a7, a8]) hw, a10.trans h.g10, a13.trans h.g13, h14, hle, haf⟩

theorem loop4 (p : AP) {Q : AExit → Env → Sto → Prop} (hQ : ∀ e s, A4b p p.z.c.shelves.toNat p.z.c.shelves.toNat e s → Q (.exit 6) e s) {e : Env} {s : Sto} (hJ : A4 p e s) : wpc Tryz.prog (cL (cR (cL (cR (cR (cR (cR (cR (cR (cR (cR (cR (codeOf Tryz.f4))))))))))))) Q e s := by
  obtain ⟨b1, b2, b3, -, -⟩ := p.z.c.bounds p.z.hc
  refine at_loop (c := (cL (cR (cL (cR (cR (cR (cR (cR (cR (cR (cR (cR (codeOf Tryz.f4)))))))))))))) rfl ?_
  refine wpc_loop (A4 p) (fun e _ => 100 - (intAt e 14).toNat) hJ ?_
  clear hJ e s
  rintro e s ⟨H, o, bs, F, A, i, hI⟩
  have hmu : (intAt e 14).toNat = i := by
    have := hI.g14
    simp [intAt, this]
  rw [hmu]
  have he := hI.ae
  have hle := hI.le
  refine wpc_cut (A4c p i) ?_ ?_
  · by_cases hlt : (i : Int) < p.z.c.shelves
    · simp -implicitDefEqProofs [he.hl, hI.g14, he.g3, he.box, hlt]
      exact ⟨H, o, bs, F, A, hI.env (by simp [he.hl]) (by simp) (by simp [hI.g14]) hle he.wl hI.af, hlt⟩
    · simp -implicitDefEqProofs [he.hl, hI.g14, he.g3, he.box, hlt]
      refine hQ _ _ ?_
      rw [show p.z.c.shelves.toNat = i by omega]
      exact ⟨H, o, bs, F, A, hI.env (by simp [he.hl]) (by simp) (by simp [hI.g14]) hle he.wl hI.af⟩
  clear hI he hmu H o bs F A
  rintro e s ⟨H, o, bs, F, A, hI, hlt⟩
  have he := hI.ae
  refine wpc_cut (A4b p i (i + 1)) ?_ ?_
  · have w0 := he.wl.re [2, 0, 1] (by simp)
    obtain ⟨lx, hO⟩ := w0.1 (offG p.z.ob p.z.c o p.z.mo F) (by simp [reord])
    obtain ⟨⟨I1, R1, i1⟩, hend, A', hA'⟩ := hI.af.pass p.z.hc hlt p.z.ob p.z.mo
    simp -implicitDefEqProofs [he.hl, he.g8]
    refine (colnew_spec s p.z.ob p.z.c p.z.hc o p.z.mo lx F hO).mono ?_
    rintro r s1 ⟨xb, rfl, hxb, hC, hs1⟩
    have w1 : Wld s1 (heapG p.z.hb p.z.m bs H :: rtnG (colR p.z.c p.z.ob p.z.mo) (colR_ok p.z.c p.z.hc p.z.ob p.z.mo) xb (Col.new, o) (p.z.ob :: F) :: boxG p.z.b3 p.z.c :: p.gs) :=
      (Wld.collect p.z.hc w0 hs1 hxb hC.row).re [2, 0, 1] (by simp [reord])
    simp -implicitDefEqProofs [he.hl, he.g7]
    refine (alone_end (colR p.z.c p.z.ob p.z.mo) (colR_ok p.z.c p.z.hc p.z.ob p.z.mo) I1 R1 w1 i1 10000 (by omega)).mono ?_
    rintro r s2 ⟨⟨k1, rfl⟩, bs', F', w2⟩
    obtain ⟨F0, w3⟩ := Wld.collected p.z.hc (w2.re [1, 0] (by simp))
    have hnone : ((colR p.z.c p.z.ob p.z.mo).act ((colR p.z.c p.z.ob p.z.mo).run (10000 : Int).toNat (H, (Col.new, o))).2.2).isNone = true := by
      rw [show ((10000 : Int).toNat) = 10000 from rfl, hend]; rfl
    rw [hnone]
    simp -implicitDefEqProofs [he.hl]
    exact ⟨_, _, bs', F0, A', hI.env (by simp [he.hl]) (by simp) (by simp [hI.g14]) hI.le (w3.re [2, 1, 0] (by simp [reord])) hA'⟩
  clear hI he H o bs F A
  rintro e s ⟨H, o, bs, F, A, hI⟩
  have he := hI.ae
  have w1 : IntKind.i64.wrap ((i : Int) + 1) = (i : Int) + 1 := wrap_i64 (by omega) (by omega)
  simp -implicitDefEqProofs [he.hl, hI.g14, w1]
  refine ⟨⟨H, o, bs, F, A, i + 1, hI.env (by simp [he.hl]) (by simp) (by simp [he.hl]) (by push_cast; omega) he.wl hI.af⟩, ?_⟩
  simp [intAt, he.hl]
  omega
end Go.Proofs.YtkbpnnbdfikjhaaGreat

/- CollectAll's own function: chains are counted. -/
namespace Go.Proofs.YtkbpnnbdfikjhaaGreat
open Go Go.Aw
set_option linter.unusedVariables false
set_option linter.unusedSimpArgs false
set_option maxRecDepth 10000

/-- versions on the first shelves -/
def sumTo (A : AH) (i : Nat) : Nat := ((List.range i).map fun j : Nat => (A.ch (j : Int)).length).sum
theorem sumTo_succ (A : AH) (i : Nat) : sumTo A (i + 1) = sumTo A i + (A.ch (i : Int)).length := by
  unfold sumTo
  rw [List.range_succ, List.map_append, List.sum_append]
  simp
theorem sumTo_all (c : Cfg) (A : AH) : sumTo A c.shelves.toNat = sumS c fun s => (A.ch s).length := by
  unfold sumTo sumS shL
  rw [List.map_map]; rfl
structure A5I (p : AP) (yb : Nat) (H : Hp) (o : Off) (bs F : List Nat) (A : AH) (e : Env) (s : Sto) (i v : Nat) : Prop where
  ae : AE p.z e s H o bs F p.gs
  g10 : gt e 10 = .slice p.tok (p.op.map encPr)
  g13 : gt e 13 = .ptr p.xb 0
  g18 : gt e 18 = .ptr yb 0
  g19 : gt e 19 = i64 v
  g20 : gt e 20 = i64 i
  le : (i : Int) ≤ p.z.c.shelves
def A5 (p : AP) (yb : Nat) (H : Hp) (o : Off) (bs F : List Nat) (A : AH) (e : Env) (s : Sto) : Prop := ∃ i, A5I p yb H o bs F A e s i (sumTo A i)
theorem loop5 (p : AP) (yb : Nat) (H : Hp) (o : Off) (bs F : List Nat) (A : AH) (hg : HG p.z.c H A) (ht : ∀ s, 0 ≤ s → s < p.z.c.shelves → Tr (A.ch s)) {Q : AExit → Env → Sto → Prop}
    (hQ : ∀ e s, A5I p yb H o bs F A e s p.z.c.shelves.toNat (sumTo A p.z.c.shelves.toNat) → Q (.exit 8) e s) {e : Env} {s : Sto} (hJ : A5 p yb H o bs F A e s) : wpc Tryz.prog (cL (cR (cL (cR (cR (cR (cR (cR (cR (cR (cR (cR (cR (cR (cR (cR (codeOf Tryz.f4))))))))))))))))) Q e s := by
  obtain ⟨b1, b2, b3, -, -⟩ := p.z.c.bounds p.z.hc
  have hsum : ∀ i : Nat, (i : Int) ≤ p.z.c.shelves → sumTo A i ≤ i := by
    intro i
    induction i with
    | zero => intro _; simp [sumTo]
    | succ i ih =>
      intro h
      have h1 := ih (by omega)
      have h2 := (ht i (by omega) (by omega)).1
      rw [sumTo_succ]; omega
  refine at_loop (c := (cL (cR (cL (cR (cR (cR (cR (cR (cR (cR (cR (cR (cR (cR (cR (cR (codeOf Tryz.f4)))))))))))))))))) rfl ?_
  refine wpc_loop (A5 p yb H o bs F A) (fun e _ => 100 - (intAt e 20).toNat) hJ ?_
  clear hJ e s
  rintro e s ⟨i, hI⟩
  have he := hI.ae
  have g20o := hI.g20
  have hle := hI.le
  have hs1 := hsum i hle
  have w1 : IntKind.i64.wrap ((i : Int) + 1) = (i : Int) + 1 := wrap_i64 (by omega) (by omega)
  by_cases hlt : (i : Int) < p.z.c.shelves
  · have htr := ht i (by omega) hlt
    have hH : HpAt s p.z.hb p.z.m bs H := he.wl.1 (heapG p.z.hb p.z.m bs H) (by simp)
    simp -implicitDefEqProofs [he.hl, hI.g20, he.g3, he.box, hlt, he.g7]
    refine (chain_spec s p.z.hb p.z.m bs H hH p.z.c p.z.hc hg i (by omega) hlt (by have := htr.1; omega)).mono ?_
    rintro r s2 ⟨rfl, hs2⟩
    have hadd : ∀ k : Nat, k ≤ 1 → IntKind.i64.wrap ((sumTo A i : Int) + k) = (sumTo A i : Int) + k := fun k hk => wrap_i64 (by omega) (by omega)
    have fin : ∀ (e' : Env), e'.length = 181 → (∀ k ∈ [1, 2, 3, 7, 8, 10, 13, 18], gt e' k = gt e k) → gt e' 19 = i64 ((sumTo A (i + 1) : Nat)) → gt e' 20 = i64 ((i + 1 : Nat)) → A5 p yb H o bs F A e' s2 := fun e' hl hs h19 h20 => by
      simp only [List.mem_cons, List.not_mem_nil, or_false, forall_eq_or_imp, forall_eq] at hs
      obtain ⟨a1, a2, a3, a7, a8, a10, a13, a18⟩ := hs
      exact ⟨i + 1, he.env hl (by simp [a1, a2, a3, a7, a8]) (he.wl.sub hs2), a10.trans hI.g10, a13.trans hI.g13, a18.trans hI.g18, h19, h20, by push_cast; omega⟩
    have hss := sumTo_succ A i
    cases hch : A.ch (i : Int) with
    | nil =>
      rw [hch] at hss
      simp only [List.length_nil, Nat.add_zero] at hss
      have hw := hadd 0 (by omega)
      simp only [Int.natCast_zero, Int.add_zero] at hw
      simp -implicitDefEqProofs [he.hl, liveC, hI.g19, hI.g20, hw, w1]
      refine ⟨fin _ (by simp [he.hl]) (by simp) (by simp [he.hl, hss, hw]) (by simp [he.hl]), ?_⟩
      simp [intAt, he.hl, g20o]
      omega
    | cons v r =>
      rw [hch] at htr hss
      have hr : r = [] := by
        cases r with
        | nil => rfl
        | cons w r => have := htr.1; simp only [List.length_cons] at this; omega
      subst hr
      have hv := htr.2 v (by simp)
      simp only [List.length_cons, List.length_nil, Nat.zero_add] at hss
      have hw := hadd 1 (by omega)
      simp only [Int.natCast_one] at hw
      simp -implicitDefEqProofs [he.hl, liveC, hv, hI.g19, hI.g20, hw, w1]
      refine ⟨fin _ (by simp [he.hl]) (by simp) (by simp [he.hl, hss]) (by simp [he.hl]), ?_⟩
      simp [intAt, he.hl, g20o]
      omega
  · have hie : i = p.z.c.shelves.toNat := by omega
    simp -implicitDefEqProofs [he.hl, hI.g20, he.g3, he.box, hlt]
    refine hQ _ _ ?_
    rw [← hie]
    exact ⟨he.env (by simp [he.hl]) (by simp) he.wl, by simp [hI.g10], by simp [hI.g13], by simp [hI.g18], by simp [hI.g19], by simp [hI.g20], hle⟩
end Go.Proofs.YtkbpnnbdfikjhaaGreat

/- CollectAll's own function: its end. -/
namespace Go.Proofs.YtkbpnnbdfikjhaaGreat
open Go Go.Aw
set_option linter.unusedVariables false
set_option linter.unusedSimpArgs false
set_option maxRecDepth 10000

theorem faults_top (σ : Sto) (hb : Nat) (a b d : AV) (n : Int) (h1 : σ hb = some (.cells [a, b, d, i64 n])) :
    ACalls Tryz.prog 17 [.ptr hb 0] σ (fun r σ' => r = i64 n ∧ σ' = σ) := by
  refine ACalls.q fun q hq => fn_of Tab.mixed Tryz.func17 rfl rfl rfl ?_
  simp -implicitDefEqProofs [h1, i64]
  exact hq _ _ ⟨rfl, rfl⟩

theorem tail_all (p : AP) (yb : Nat) (H : Hp) (o : Off) (bs F : List Nat) (A : AH) (xv yv : Vw) (Fx Fy : List Nat) (hgs : p.gs = [rtnG (viewR p.z.c) (viewR_ok p.z.c p.z.hc) p.xb xv Fx, rtnG (viewR p.z.c) (viewR_ok p.z.c p.z.hc) yb yv Fy]) (v : Nat)
    (hx : xv.st = .done) (hy : yv.st = .done) (hp : xv.pairs = yv.pairs) (hv : yv.pairs.length = v) (hv64 : v ≤ 64) (hol : o.limbo = []) (hop : p.op.length ≤ 64) (hbl : H.blocks.length = 1 + p.op.length + v) (hf : H.faults = 0)
    {Q : AExit → Env → Sto → Prop} (hQ : ∀ e s, gt e 6 = boo true → Q .ret e s) {e : Env} {s : Sto} {i : Nat} (hI : A5I p yb H o bs F A e s i v) : wpc Tryz.prog (cR (cR (cR (cR (cR (cR (cR (cR (cR (cR (cR (cR (cR (cR (codeOf Tryz.f4))))))))))))))) Q e s := by
  have he := hI.ae
  have hwl := he.wl
  rw [hgs] at hwl
  have hH : HpAt s p.z.hb p.z.m bs H := hwl.1 (heapG p.z.hb p.z.m bs H) (by simp)
  obtain ⟨lx, hO⟩ := hwl.1 (offG p.z.ob p.z.c o p.z.mo F) (by simp)
  have hX : VwAt s p.xb p.z.c xv Fx := hwl.1 (rtnG (viewR p.z.c) (viewR_ok p.z.c p.z.hc) p.xb xv Fx) (by simp)
  have hY : VwAt s yb p.z.c yv Fy := hwl.1 (rtnG (viewR p.z.c) (viewR_ok p.z.c p.z.hc) yb yv Fy) (by simp)
  have hot := hO.top
  have hli := hO.limbo
  rw [hol] at hli
  refine at_seq (c := (cR (cR (cR (cR (cR (cR (cR (cR (cR (cR (cR (cR (cR (cR (codeOf Tryz.f4)))))))))))))))) rfl ?_
  have w1 : IntKind.i64.wrap (1 + (p.op.length : Int)) = 1 + (p.op.length : Int) := wrap_i64 (by omega) (by omega)
  have w2 : IntKind.i64.wrap (1 + (p.op.length : Int) + (v : Int)) = 1 + (p.op.length : Int) + (v : Int) := wrap_i64 (by omega) (by omega)
  have hN : (H.blocks.length : Int) = 1 + (p.op.length : Int) + (v : Int) := by omega
  have hpw := List.pairwise_cons.1 (List.pairwise_cons.1 hwl.2).2
  have hmx : ∀ y ∈ p.xb :: Fx, y ≠ p.z.m := fun y hy e => hpw.1 (rtnG (viewR p.z.c) (viewR_ok p.z.c p.z.hc) p.xb xv Fx) (by simp) p.z.m (by simp [heapG]) (by rw [← e]; exact hy)
  have hmy : ∀ y ∈ yb :: Fy, y ≠ p.z.m := fun y hy e => hpw.1 (rtnG (viewR p.z.c) (viewR_ok p.z.c p.z.hc) yb yv Fy) (by simp) p.z.m (by simp [heapG]) (by rw [← e]; exact hy)
  rcases hli with ⟨h1, h2, h3⟩ | ⟨b, pre, h1, h2, h3⟩ <;> subst h1
  all_goals
    simp -implicitDefEqProofs [he.hl, he.g8, hot, he.g7]
    refine (blocks_spec s p.z.hb p.z.m bs H hH (by omega) (by omega)).mono ?_
    rintro r s1 ⟨⟨b1, rfl⟩, hk1⟩
    have hX1 : VwAt s1 p.xb p.z.c xv Fx := (viewR_ok p.z.c p.z.hc).sub hX fun y hy o ho => hk1 y o (hmx y hy) ho
    have hY1 : VwAt s1 yb p.z.c yv Fy := (viewR_ok p.z.c p.z.hc).sub hY fun y hy o ho => hk1 y o (hmy y hy) ho
    have hT1 := hk1 p.z.hb _ hH.ne hH.top
    simp -implicitDefEqProofs [he.hl, hI.g10, hI.g19, w1, w2, hN, hI.g18]
    refine (told_spec _ yb p.z.c yv Fy hY1 (by omega) hy).mono ?_
    rintro r s2 ⟨t1, rfl, hs2⟩
    simp -implicitDefEqProofs [he.hl, hI.g19, hv, hI.g13]
    refine (told_spec _ p.xb p.z.c xv Fx ((viewR_ok p.z.c p.z.hc).sub hX1 fun y _ o ho => hs2 y o ho) (by rw [hp]; omega) hx).mono ?_
    rintro r s3 ⟨t2, rfl, hs3⟩
    simp -implicitDefEqProofs [he.hl, hI.g18]
    refine (told_spec _ yb p.z.c yv Fy ((viewR_ok p.z.c p.z.hc).sub hY1 fun y _ o ho => hs3 y o (hs2 y o ho)) (by omega) hy).mono ?_
    rintro r s4 ⟨t3, rfl, hs4⟩
    simp -implicitDefEqProofs [he.hl]
    refine (same_spec _ t2 t3 xv.pairs yv.pairs (by rw [hp]; omega) (by omega)).mono ?_
    rintro r s5 ⟨rfl, rfl⟩
    have hT4 := hs4 _ _ (hs3 _ _ (hs2 _ _ hT1))
    rw [hf] at hT4
    simp -implicitDefEqProofs [he.hl, hp, he.g7]
    refine (faults_top _ p.z.hb _ _ _ 0 hT4).mono ?_
    rintro r s6 ⟨rfl, rfl⟩
    simp -implicitDefEqProofs [he.hl]
    refine (awake_spec _).mono ?_
    rintro r s7 ⟨rfl, -⟩
    simp -implicitDefEqProofs [he.hl]
    exact hQ _ _ (by simp [he.hl])
end Go.Proofs.YtkbpnnbdfikjhaaGreat

/- CollectAll's own function. -/
namespace Go.Proofs.YtkbpnnbdfikjhaaGreat
open Go Go.Aw
set_option linter.unusedVariables false
set_option linter.unusedSimpArgs false
set_option maxRecDepth 10000

theorem all_spec (σ : Sto) (c : Cfg) (t1 : Tok) (rows : List (Tok × List Ch)) (fst : Int) (hfst : 0 ≤ fst ∧ fst < 256) :
    ACalls Tryz.prog 4 [.agg (rowC c), .slice t1 (rows.map encRow), .sc (.int .u8 fst)] σ (fun r σ' => r = boo true) := by
  refine ACalls.q fun q hq => fn_of Tab.mixed Tryz.func4 rfl rfl rfl ?_
  simp -implicitDefEqProofs
  refine alloc fun b3 hb3 => ?_
  simp -implicitDefEqProofs
  refine (cright_spec _ c).mono ?_
  rintro r σ' ⟨rfl, rfl⟩
  cases hc : c.right
  · simp -implicitDefEqProofs
    refine (awake_spec _).mono ?_
    rintro r σ' ⟨rfl, -⟩
    simp -implicitDefEqProofs
    exact hq _ _ rfl
  simp -implicitDefEqProofs
  refine (short_spec _ c t1 rows).mono ?_
  rintro r σ1 ⟨⟨bs, rfl, hsh⟩, hs1⟩
  have hb1 := hs1 b3 (.cells (rowC c)) (by simp [Sto.set])
  cases bs
  · simp -implicitDefEqProofs
    refine (awake_spec _).mono ?_
    rintro r σ' ⟨rfl, -⟩
    simp -implicitDefEqProofs
    exact hq _ _ rfl
  obtain ⟨h12, hrows, hkeys⟩ := hsh rfl
  obtain ⟨b1, b2, bb3, -, -⟩ := c.bounds hc
  simp -implicitDefEqProofs [hb1]
  refine (field_spec _ c hc).mono ?_
  rintro r σ2 ⟨hb, m, bs, rfl, hH, hs2, hn2⟩
  have hb2 := hs2 _ _ hb1
  simp -implicitDefEqProofs [hb2]
  refine (popen_spec _ c hc).mono ?_
  rintro r σ4 ⟨ob, mo, rfl, hob, hO, hs4⟩
  let z : AC := ⟨c, hc, t1, rows, fst, b3, hb, m, ob, mo, hfst, h12, hrows, hkeys⟩
  simp -implicitDefEqProofs
  have w0 : Wld σ1 [boxG b3 c] := ⟨fun g hg => by rw [List.mem_singleton.1 hg]; exact hb1, List.pairwise_singleton _ _⟩
  have w1 := w0.new (g := heapG hb m bs (Hp.laid c.size)) hs2 hH hn2
  have w3 := w1.new (g := offG ob c ⟨0, []⟩ mo []) hs4 ⟨_, hO⟩ (fun y hy => by rw [List.mem_singleton.1 hy]; exact hob)
  refine loop1 z ?_ ⟨0, Hp.laid c.size, ⟨0, []⟩, bs, [], AH.init, ⟨rfl, rfl, rfl, rfl, rfl, rfl, w3.perm (List.reverse_perm _).symm⟩, rfl, Int.tmod_nonneg _ hfst.1, AI.init hc⟩
  rintro e s ⟨i, H, o, bs, F, A, he, g9, hi, hI⟩
  clear w0 w1 w3 hs4 hs2 hs1 hb2 hb1 hH hO hob hn2
  simp -implicitDefEqProofs [he.hl]
  refine loop2 z ?_ ⟨H, o, bs, F, A, .clip, [], 0, ⟨he.env (by simp [he.hl]) (by simp) he.wl, by simp [he.hl], by simp [he.hl], by omega, by simpa [allC] using hI, by simpa [allC, keysL] using (⟨by simp, by simp, by simp⟩ : PK [] [])⟩⟩
  clear he g9 hi hI
  rintro e s ⟨H, o, bs, F, A, tok, op, hI⟩
  have he := hI.ae
  have hai := hI.ai
  have hpk := hI.pk
  rw [List.take_length] at hai hpk
  obtain ⟨b1, b2, bb3, -, -⟩ := z.c.bounds z.hc
  have hv0 : Vw.new z.c 0 = vw0 0 := by rw [vw_new]; simp
  have hpin : (0 : Int) ≤ 0 ∧ (0 : Int) < z.c.pins := by omega
  -- the first view
  obtain ⟨⟨I1, R1, i1⟩, d1, hai1, p1⟩ := hai.view (i := 0) z.hc hpin
  have hbx := he.box
  simp -implicitDefEqProofs [he.hl, he.g3, hbx]
  refine (vwnew_spec s z.c z.hc 0 (by omega)).mono ?_
  rintro r s1 ⟨xb, Fx, rfl, hxb, hX, hs1, hFx⟩
  rw [hv0] at hX
  have w1 := (he.wl.new (g := rtnG (viewR z.c) (viewR_ok z.c z.hc) xb (vw0 0) Fx) hs1 hX (fun y hy => by
      rcases List.mem_cons.1 hy with rfl | hy
      · exact hxb
      · exact hFx y hy)).re [2, 0, 1] (by simp)
  simp -implicitDefEqProofs [he.hl, he.g7]
  refine (alone_at (viewR z.c) (viewR_ok z.c z.hc) I1 R1 w1 i1 10000 (by omega)).mono ?_
  rintro r s2 ⟨⟨k1, dd1, rfl⟩, bs', Fx', w2⟩
  rw [show ((10000 : Int).toNat) = 10000 from rfl] at w2
  have w3 := w2.re [2, 0, 3, 1] (by simp)
  generalize (viewR z.c).run 10000 (H, vw0 0) = r1 at *
  obtain ⟨n1, H1, xv⟩ := r1
  have hai1 : AI z.c H1 o z.rows.length (allC z.rows) A := hai1
  have p1 : xv.pairs = pairsOf (sofar (obs A.E A) z.c.shelves.toNat) := p1
  have d1 : xv.st = .done := d1
  simp -implicitDefEqProofs [he.hl]
  let p : AP := ⟨z, tok, op, z.rows.length, o.next, obs A.E A, [rtnG (viewR z.c) (viewR_ok z.c z.hc) xb xv Fx'], xb⟩
  refine loop4 p ?_ ⟨H1, o, bs', F, A, 0, ⟨he.env (by simp [he.hl]) (by simp) w3, by show gt _ 10 = AV.slice tok (op.map encPr); simp [hI.g10], by show gt _ 13 = AV.ptr xb 0; simp [he.hl], by simp [he.hl], by show ((0 : Nat) : Int) ≤ z.c.shelves; omega, AF.start hai1⟩⟩
  clear w1 w2 w3 hX hs1 hFx hxb hbx he hI hai i1 R1 I1
  rintro e s ⟨H, o', bs, F, A', hI⟩
  have he := hI.ae
  have haf := hI.af
  have htr := haf.all
  have hob := haf.ob
  have hbx := he.box
  -- the second view
  obtain ⟨⟨I1, R1, i1⟩, d2, hai2, p2⟩ := haf.ai.view (i := 0) z.hc hpin
  simp -implicitDefEqProofs [he.hl, he.g3, hbx]
  refine (vwnew_spec s z.c z.hc 0 (by omega)).mono ?_
  rintro r s1 ⟨yb, Fy, rfl, hyb, hY, hs1, hFy⟩
  rw [hv0] at hY
  have w1 : Wld s1 (heapG z.hb z.m bs H :: rtnG (viewR z.c) (viewR_ok z.c z.hc) yb (vw0 0) Fy :: boxG z.b3 z.c :: offG z.ob z.c o' z.mo F :: [rtnG (viewR z.c) (viewR_ok z.c z.hc) xb xv Fx']) := (he.wl.new (g := rtnG (viewR z.c) (viewR_ok z.c z.hc) yb (vw0 0) Fy) hs1 hY (fun y hy => by
      rcases List.mem_cons.1 hy with rfl | hy
      · exact hyb
      · exact hFy y hy)).re [2, 0, 1] (by simp)
  simp -implicitDefEqProofs [he.hl, he.g7]
  refine (alone_at (viewR z.c) (viewR_ok z.c z.hc) I1 R1 w1 i1 10000 (by omega)).mono ?_
  rintro r s2 ⟨⟨k1, dd1, rfl⟩, bs2, Fy', w2⟩
  rw [show ((10000 : Int).toNat) = 10000 from rfl] at w2
  have w3 := w2.re [2, 0, 3, 4, 1] (by simp)
  generalize (viewR z.c).run 10000 (H, vw0 0) = r1 at *
  obtain ⟨n2, H2, yv⟩ := r1
  have hai2 : AI z.c H2 o' z.rows.length (allC z.rows) A' := hai2
  have p2 : yv.pairs = pairsOf (sofar (obs A'.E A') z.c.shelves.toNat) := p2
  have d2 : yv.st = .done := d2
  have hpp : xv.pairs = yv.pairs := by
    rw [p1, p2]
    refine congrArg pairsOf (sofar_congr _ fun s s0 s1 => ?_)
    exact (hob s s0 (show s < z.c.shelves by omega)).symm
  have hlen : yv.pairs.length = sumTo A' z.c.shelves.toNat := by rw [p2, hai2.told z.hc htr, sumTo_all]
  have h64 : sumTo A' z.c.shelves.toNat ≤ 64 := by
    rw [← hlen, p2, pairsOf_len (sofar_ok _ _).2]
    have := (sofar_ok (obs A'.E A') z.c.shelves.toNat).1
    omega
  have hopl : op.length = (txts z.c (kt A')).length := by rw [hpk.len, hai2.pr.len]
  have hop64 : op.length ≤ 64 := by
    have h1 := hpk.len
    have h2 := z.hkeys
    omega
  simp -implicitDefEqProofs [he.hl]
  let p' : AP := ⟨z, tok, op, z.rows.length, o.next, obs A.E A, [rtnG (viewR z.c) (viewR_ok z.c z.hc) xb xv Fx', rtnG (viewR z.c) (viewR_ok z.c z.hc) yb yv Fy'], xb⟩
  have g10 : gt e 10 = AV.slice tok (op.map encPr) := hI.g10
  have g13 : gt e 13 = AV.ptr xb 0 := hI.g13
  refine loop5 p' yb H2 o' bs2 F A' hai2.hg htr ?_ ⟨0, ⟨he.env (by simp [he.hl]) (by simp) w3, by show gt _ 10 = AV.slice tok (op.map encPr); simp [g10], by show gt _ 13 = AV.ptr xb 0; simp [g13], by simp [he.hl], by simp [he.hl, sumTo], by simp [he.hl], by show ((0 : Nat) : Int) ≤ z.c.shelves; omega⟩⟩
  intro e s h5
  refine tail_all p' yb H2 o' bs2 F A' xv yv Fx' Fy' rfl _ d1 d2 hpp hlen h64 hai2.lim.2 hop64 ?_ hai2.fr.2.1 ?_ h5
  · have := hai2.bl
    show H2.blocks.length = 1 + op.length + sumTo A' z.c.shelves.toNat
    rw [this, hopl, sumTo_all]
  · intro e s h6
    simp -implicitDefEqProofs [h6]
    exact hq _ _ rfl
end Go.Proofs.YtkbpnnbdfikjhaaGreat
