/- heap.Blocks: as many as there are; and a chain is counted. -/
import Derived.Test.YtkbpnnbdfikjhaaGreatK23Srt5
import Derived.Test.YtkbpnnbdfikjhaaGreatK15View3
import Derived.Test.YtkbpnnbdfikjhaaGreatK21Law20
import Derived.Test.YtkbpnnbdfikjhaaGreatK22Part
import Derived.Test.YtkbpnnbdfikjhaaGreatK20Law16
namespace Go.Proofs.YtkbpnnbdfikjhaaGreat
open Go Go.Aw
set_option linter.unusedVariables false
set_option linter.unusedSimpArgs false
set_option maxRecDepth 10000

theorem ents_keys : ∀ (bs : List Nat) (l : List (Int × Blk)), ∀ x ∈ ents bs l, ∃ w, x.1 = .int .u64 w
  | [], l, x, h => by simp [ents] at h
  | b :: bs, [], x, h => by simp [ents] at h
  | b :: bs, y :: l, x, h => by
    simp only [ents, List.mem_cons] at h
    rcases h with rfl | h
    · exact ⟨y.1, rfl⟩
    · exact ents_keys bs l x h
theorem ents_len {σ : Sto} : ∀ (bs : List Nat) (l : List (Int × Blk)), Rows σ bs l → (ents bs l).length = l.length
  | [], [], _ => rfl
  | [], _ :: _, h => h.elim
  | _ :: _, [], h => h.elim
  | b :: bs, y :: l, h => by simp only [ents, List.length_cons]; rw [ents_len bs l h.2.2]

structure BlI (σ : Sto) (m ib N : Nat) (e : Env) (s : Sto) (n : Nat) (left : List (Value × AV)) (last : Option (Value × AV)) : Prop where
  hl : e.length = 23
  g3 : (n = 0 ∧ gt e 3 = .slice .clip []) ∨ ∃ b cs, gt e 3 = .mslice b 0 n 1 ∧ s b = some (.cells cs) ∧ cs.length = n ∧ Wds cs ∧ 0 < n ∧ (b = m ∨ σ b = none) ∧ b ≠ ib
  g11 : gt e 11 = .ptr ib 0
  it : s ib = some (.iter last left)
  keys : ∀ x ∈ left, ∃ w, x.1 = .int .u64 w
  cnt : n + left.length = N
  keep : ∀ y o, y ≠ m → σ y = some o → s y = some o
  ni : σ ib = none
def BlJ (σ : Sto) (m ib N : Nat) (e : Env) (s : Sto) : Prop := ∃ n left last, BlI σ m ib N e s n left last

theorem all_one {cs : List AV} (h : Wds cs) : cs.all AV.one = true := by
  rw [List.all_eq_true]
  intro c hc
  obtain ⟨w, rfl⟩ := h c hc
  rfl
theorem blocks_spec (σ : Sto) (hb m : Nat) (bs : List Nat) (H : Hp) (h : HpAt σ hb m bs H) (h1 : 1 ≤ H.blocks.length) (h2 : H.blocks.length ≤ 100000) :
    ACalls Tryz.prog 20 [.ptr hb 0] σ (fun r σ' => (∃ b, r = .mslice b 0 H.blocks.length 1) ∧ ∀ y o, y ≠ m → σ y = some o → σ' y = some o) := by
  have ht := h.top
  have hm := h.map
  have hne := h.ne
  refine ACalls.q fun q hq => fn_of Tab.mixed Tryz.func20 rfl rfl rfl ?_
  simp -implicitDefEqProofs [ht, aRange, hm]
  intro ib hib
  have nim : ib ≠ m := fun e => by rw [e, hm] at hib; cases hib
  refine wpc_loop (BlJ σ m ib H.blocks.length) (fun _ s => leftOf s ib) ?_ ?_
  · refine ⟨0, ents bs H.blocks, none, rfl, .inl ⟨rfl, rfl⟩, rfl, by simp [Sto.set], ents_keys _ _, ?_, fun y o hy ho => ?_, hib⟩
    · rw [ents_len bs _ h.rows]; omega
    · rw [set_ne (ne_of ho hib)]; simp only [Sto.del]; rw [if_neg hy]; exact ho
  rintro e s ⟨n, left, last, hI⟩
  have hit := hI.it
  simp -implicitDefEqProofs [hI.hl, hI.g11, aNext, hit]
  refine ⟨fun hnil => ?_, fun i kk cc hget => ?_⟩
  · subst hnil
    have hcnt := hI.cnt
    simp only [List.length_nil, Nat.add_zero] at hcnt
    rcases hI.g3 with ⟨h0, _⟩ | ⟨b, cs, g3, hb, hl, hw, hpos, hσb, hbi⟩
    · omega
    simp -implicitDefEqProofs [hI.hl, g3]
    refine (sort_spec s b n (by omega) ⟨cs, hb, hl, hw⟩).mono ?_
    rintro r s' ⟨rfl, hS⟩
    simp -implicitDefEqProofs [hI.hl, g3]
    refine hq _ _ ⟨⟨b, by rw [← hcnt]⟩, fun y o hy ho => hS.out y o (fun e => by
      rcases hσb with h | h
      · exact hy (e.trans h)
      · rw [e, h] at ho; cases ho) (hI.keep y o hy ho)⟩
  · obtain ⟨w, hw⟩ := hI.keys _ (List.mem_of_getElem? hget)
    simp only at hw; subst hw
    have hlti : i < left.length := (List.getElem?_eq_some_iff.1 hget).1
    simp -implicitDefEqProofs [hI.hl, hI.g11, aEntry]
    intro b2 hb2
    have n2i : b2 ≠ ib := fun e => by rw [e] at hb2; simp [Sto.set] at hb2
    have hb2' : s b2 = none := by simpa [Sto.set, n2i] using hb2
    have hle : n ≤ 100000 := by have := hI.cnt; omega
    have kk : ∀ z, z ≠ ib → ∀ o, s z = some o → ∀ x1 x2, ((s.set ib x1).set b2 x2) z = some o := fun z hz o ho x1 x2 => by rw [set_ne (ne_of ho hb2'), set_ne hz]; exact ho
    have hσ2 : ∀ z o, z ≠ m → σ z = some o → z ≠ ib ∧ s z = some o := fun z o hz ho => ⟨ne_of ho hI.ni, hI.keep z o hz ho⟩
    have hmu : (left.eraseIdx i).length < match s ib with | some (.iter _ left) => left.length | _ => 0 := by simp only [hit, List.length_eraseIdx, if_pos hlti]; omega
    have hk' : ∀ x ∈ left.eraseIdx i, ∃ w, x.1 = .int .u64 w := fun x hx => hI.keys x (List.mem_of_mem_eraseIdx hx)
    have hcnt : n + 1 + (left.eraseIdx i).length = H.blocks.length := by have := hI.cnt; rw [List.length_eraseIdx, if_pos hlti]; omega
    have mk : ∀ (e' : Env) (s2 : Sto) (b' : Nat) (cs' : List AV), e'.length = 23 → gt e' 3 = .mslice b' 0 (n + 1) 1 → gt e' 11 = .ptr ib 0 → s2 b' = some (.cells cs') → cs'.length = n + 1 → Wds cs' → (b' = m ∨ σ b' = none) → b' ≠ ib →
        s2 ib = some (.iter (some (Value.int IntKind.u64 w, cc)) (left.eraseIdx i)) → (∀ z o, z ≠ m → σ z = some o → s2 z = some o) → BlJ σ m ib H.blocks.length e' s2 ∧ leftOf s2 ib < leftOf s ib := fun e' s2 b' cs' f1 f2 f3 f4 f5 f6 f7 f8 f9 f10 =>
      ⟨⟨n + 1, left.eraseIdx i, _, f1, .inr ⟨b', cs', f2, f4, f5, f6, by omega, f7, f8⟩, f3, f9, hk', hcnt, f10, hI.ni⟩, by
        simp only [leftOf, f9]
        exact hmu⟩
    have hσnone : ∀ z, s z = none → z = m ∨ σ z = none := fun z h => by
      by_cases hz : z = m
      · exact .inl hz
      right
      cases ho : σ z with
      | none => rfl
      | some o => rw [hI.keep z o hz ho] at h; cases h
    have hw1 : Wds [u w] := fun c hc => ⟨w, List.mem_singleton.1 hc⟩
    rcases hI.g3 with ⟨h0, g3⟩ | ⟨b, cs, g3, hb, hl, hw, hpos, hσb, hbi⟩
    · subst h0
      rw [g3]
      simp -implicitDefEqProofs [aAppendM, Sto.set]
      intro b' hb'
      have nb2 : b' ≠ b2 := fun e => by simp [e] at hb'
      have nbi : b' ≠ ib := fun e => by simp [e, Ne.symm n2i] at hb'
      have hsb : s b' = none := by simpa [nb2, nbi] using hb'
      refine mk _ _ b' [u w] (by simp [hI.hl]) (by simp [hI.hl]) (by simp [hI.g11]) (by simp [Sto.set]) rfl hw1 (hσnone b' hsb) nbi ?_ (fun z o hz ho => ?_)
      · simp [Sto.set, Ne.symm nbi, Ne.symm n2i]
      · obtain ⟨q1, q2⟩ := hσ2 z o hz ho
        rw [set_ne (ne_of q2 hsb)]
        exact kk z q1 o q2 _ _
    · rw [g3]
      have hb3 := kk b hbi _ hb
      have nb2 : b ≠ b2 := ne_of hb hb2'
      have hone := all_one hw
      rw [List.all_eq_true] at hone
      simp -implicitDefEqProofs [aAppendM, hb3, nb2, hbi, hb, hl]
      have hw2 : Wds (cs ++ [u w]) := fun c hc => (List.mem_append.1 hc).elim (hw c) (hw1 c)
      refine ⟨by omega, fun x hx => by have := hone x hx; revert this; cases x <;> simp [AV.one], ?_, fun b' hb' => ?_⟩
      · refine mk _ _ b (cs ++ [u w]) (by simp [hI.hl]) (by simp [hI.hl]) (by simp [hI.g11]) (by simp [Sto.set]) (by simp [hl]) hw2 hσb hbi ?_ (fun z o hz ho => ?_)
        · simp [Sto.set, Ne.symm hbi, Ne.symm n2i]
        · obtain ⟨q1, q2⟩ := hσ2 z o hz ho
          rw [set_ne (fun e => by
            rcases hσb with h | h
            · exact hz (e.trans h)
            · rw [e, h] at ho; cases ho)]
          exact kk z q1 o q2 _ _
      · have nb3 : b' ≠ b2 := fun e => by simp [e] at hb'
        have nbi : b' ≠ ib := fun e => by simp [e, Ne.symm n2i] at hb'
        have hsb : s b' = none := by simpa [nb3, nbi] using hb'
        refine mk _ _ b' (cs ++ [u w]) (by simp [hI.hl]) (by simp [hI.hl]) (by simp [hI.g11]) (by simp [Sto.set]) (by simp [hl]) hw2 (hσnone b' hsb) nbi ?_ (fun z o hz ho => ?_)
        · simp [Sto.set, Ne.symm nbi, Ne.symm n2i]
        · obtain ⟨q1, q2⟩ := hσ2 z o hz ho
          rw [set_ne (ne_of q2 hsb)]
          exact kk z q1 o q2 _ _
end Go.Proofs.YtkbpnnbdfikjhaaGreat

/- A chain is counted. -/
namespace Go.Proofs.YtkbpnnbdfikjhaaGreat
open Go Go.Aw
set_option linter.unusedVariables false
set_option linter.unusedSimpArgs false
set_option maxRecDepth 10000

structure ChI (hb : Nat) (lv : Int) (C : List Ver) (e : Env) (s : Sto) (n : Nat) (rest : List Ver) : Prop where
  hl : e.length = 45
  g0 : gt e 0 = .ptr hb 0
  g8 : gt e 8 = u (headW rest)
  g10 : gt e 10 = u lv
  g11 : gt e 11 = i64 n
  cut : ∃ pre, C = pre ++ rest ∧ pre.length = n
def ChJ (σ : Sto) (hb : Nat) (lv : Int) (C : List Ver) (e : Env) (s : Sto) : Prop := ∃ n rest, ChI hb lv C e s n rest ∧ Sub σ s
def liveC : List Ver → Bool
  | [] => false
  | v :: _ => v.live
theorem chain_loop {σ : Sto} {hb m : Nat} {bs : List Nat} {H : Hp} (h : HpAt σ hb m bs H) {C : List Ver} (hC : C.length ≤ 72) (hz : ∀ (rest : List Ver), (∀ v ∈ rest, v ∈ C) → (headW rest = 0 ↔ rest = []))
    (hw8 : ∀ (pre : List Ver) (v : Ver) (rest : List Ver), C = pre ++ v :: rest → hfind H.blocks v.id = some (v.blk (headW rest))) (hwords : ∀ (b w : Int) (x : Blk), hfind H.blocks b = some x → w ∈ x.cells → 0 ≤ w ∧ w < 18446744073709551616)
    {lv : Int} {Q : AExit → Env → Sto → Prop} (hQ : ∀ e s, e.length = 45 → gt e 10 = u lv → gt e 11 = i64 C.length → Sub σ s → Q (.exit 0) e s) {e : Env} {s : Sto} (hJ : ChJ σ hb lv C e s) :
    wpc Tryz.prog (cL (cL (cR (cR (cR (cR (cR (codeOf Tryz.f19)))))))) Q e s := by
  refine at_loop (c := (cL (cL (cR (cR (cR (cR (cR (codeOf Tryz.f19))))))))) rfl ?_
  refine wpc_loop (ChJ σ hb lv C) (fun e _ => 1000 - (intAt e 11).toNat) hJ ?_
  clear hJ e s
  rintro e s ⟨n, rest, hI, hs⟩
  obtain ⟨pre, hp, hn⟩ := hI.cut
  have hlen : C.length = n + rest.length := by rw [hp, List.length_append, hn]
  have g11o := hI.g11
  have w1 : IntKind.i64.wrap ((n : Int) + 1) = (n : Int) + 1 := wrap_i64 (by omega) (by omega)
  have hzr := hz rest (fun v hv => by rw [hp]; simp [hv])
  cases rest with
  | nil =>
    have h0 : headW ([] : List Ver) = 0 := rfl
    simp -implicitDefEqProofs [hI.hl, hI.g8, h0]
    exact hQ _ _ (by simp [hI.hl]) (by simp [hI.g10]) (by simp only [List.length_nil, Nat.add_zero] at hlen; rw [hlen]; simp [hI.g11]) hs
  | cons v rest =>
    have hne : ¬ headW (v :: rest) = 0 := fun e => by simpa using hzr.1 e
    have hv : headW (v :: rest) = v.id := rfl
    rw [hv] at hne
    have hlt : (n : Int) < 1000 := by simp only [List.length_cons] at hlen; omega
    have g8 := hI.g8
    rw [hv] at g8
    simp -implicitDefEqProofs [hI.hl, g8, hne, hI.g11, hlt, w1, hI.g0]
    have hbk := hw8 pre v rest hp
    refine (load_spec s hb m bs H (h.sub fun y _ o ho => hs y o ho) v.id 1 _ hbk (by omega) (headW rest) (by simp [Ver.blk]) (hwords _ _ _ hbk (by simp [Ver.blk]))).mono ?_
    rintro r s2 ⟨rfl, hs2⟩
    simp -implicitDefEqProofs [hI.hl, hI.g0]
    refine ⟨⟨n + 1, rest, ⟨by simp [hI.hl], by simp [hI.g0], by simp [hI.hl], by simp [hI.g10], by simp [hI.hl], pre ++ [v], by rw [hp]; simp, by simp [hn]⟩, hs.trans hs2⟩, ?_⟩
    simp [intAt, hI.hl, g11o]
    simp only [List.length_cons] at hlen
    omega
theorem chain_spec (σ : Sto) (hb m : Nat) (bs : List Nat) (H : Hp) (h : HpAt σ hb m bs H) (c : Cfg) (hc : c.right = true) {A : AH} (hg : HG c H A) (at_ : Int) (h0 : 0 ≤ at_) (h1 : at_ < c.shelves) (hl : (A.ch at_).length ≤ 72) :
    ACalls Tryz.prog 19 [.ptr hb 0, .agg (rowC c), i64 at_] σ (fun r σ' => r = .tuple [i64 (A.ch at_).length, boo (liveC (A.ch at_))] ∧ Sub σ σ') := by
  refine ACalls.q fun q hq => fn_of Tab.mixed Tryz.func19 rfl rfl rfl ?_
  simp -implicitDefEqProofs
  refine alloc fun b3 hb3 => ?_
  simp -implicitDefEqProofs
  refine (head_spec _ c hc at_ h0 h1).mono ?_
  rintro r s1 ⟨rfl, rfl⟩
  simp -implicitDefEqProofs
  obtain ⟨b1, b2, bb3, -, -⟩ := c.bounds hc
  obtain ⟨C, hC⟩ : ∃ C, C = A.ch at_ := ⟨_, rfl⟩
  obtain ⟨cs1, t1, k1, k2, k3⟩ := hg.ctl1
  have hs3 : Sub σ (σ.set b3 (.cells (rowC c))) := sub_set' (Sub.refl _) hb3
  have hh0 := headW_w hg h0 h1
  have hcell := k2.head at_ h0 h1
  have hhd : 0 ≤ c.head at_ := by simp only [Cfg.head]; omega
  refine (load_spec _ hb m bs H (h.sub fun y _ o ho => hs3 y o ho) 1 (c.head at_) _ k1 hhd _ hcell hh0).mono ?_
  rintro r s2 ⟨rfl, hs2⟩
  have hS2 : Sub σ s2 := hs3.trans hs2
  have hz : ∀ (rest : List Ver), (∀ v ∈ rest, v ∈ A.ch at_) → (headW rest = 0 ↔ rest = []) := fun rest hr => headW_zero hg h0 h1 hr
  rw [← hC] at hz
  have hw8 : ∀ (pre : List Ver) (v : Ver) (rest : List Ver), C = pre ++ v :: rest → hfind H.blocks v.id = some (v.blk (headW rest)) := fun pre v rest e => hg.at h0 h1 (by rw [← hC]; exact e)
  have hwords : ∀ (b w : Int) (x : Blk), hfind H.blocks b = some x → w ∈ x.cells → 0 ≤ w ∧ w < 18446744073709551616 := fun b w x hx hw => wof hg hx hw
  have hl' : C.length ≤ 72 := by rw [hC]; exact hl
  rw [← hC]
  have fin : ∀ (e : Env) (s : Sto), ChJ σ hb (liveW (liveC C)) C e s → wpc Tryz.prog (cL (cL (cR (cR (cR (cR (cR (codeOf Tryz.f19)))))))) (blockK 0 (seqK Tryz.prog (cR (cR (cR (cR (cR (cR (codeOf Tryz.f19)))))) ) (finK Tryz.prog #[ResultVar.tmp 6, ResultVar.tmp 7] q))) e s := by
    intro e s hJ
    refine chain_loop h hl' hz hw8 hwords ?_ hJ
    intro e s g1 g2 g3 g4
    rw [blockK_exit, if_pos rfl, seqK_normal]
    refine at_seq (c := (cR (cR (cR (cR (cR (cR (codeOf Tryz.f19))))))) ) rfl ?_
    have hlv : (!decide (liveW (liveC C) = 0)) = liveC C := by cases liveC C <;> rfl
    simp -implicitDefEqProofs [g1, g2, g3]
    refine hq _ _ ⟨?_, g4⟩
    rw [hlv, hC]
  cases hCC : C with
  | nil =>
    rw [hCC] at fin
    simp -implicitDefEqProofs [headW]
    exact fin _ _ ⟨0, [], ⟨rfl, rfl, rfl, rfl, rfl, [], rfl, rfl⟩, hS2⟩
  | cons v rest =>
    rw [hCC] at fin
    have hbk := hw8 [] v rest hCC
    have hne : ¬ headW (v :: rest) = 0 := fun e => by simpa using (hz (v :: rest) (fun w hw => by rw [hCC]; exact hw)).1 e
    have hv : headW (v :: rest) = v.id := rfl
    rw [hv] at hne
    simp -implicitDefEqProofs [hv, hne]
    refine (load_spec s2 hb m bs H (h.sub fun y _ o ho => hS2 y o ho) v.id 2 _ hbk (by omega) (liveW v.live) (by simp [Ver.blk]) (hwords _ _ _ hbk (by simp [Ver.blk]))).mono ?_
    rintro r s3 ⟨rfl, hs3⟩
    simp -implicitDefEqProofs
    exact fin _ _ ⟨0, v :: rest, ⟨rfl, rfl, rfl, rfl, rfl, [], rfl, rfl⟩, hS2.trans hs3⟩
end Go.Proofs.YtkbpnnbdfikjhaaGreat

/- Groups of claims that stand apart. -/
namespace Go.Proofs.YtkbpnnbdfikjhaaGreat
open Go Go.Aw
set_option linter.unusedVariables false
set_option linter.unusedSimpArgs false
set_option maxRecDepth 10000

structure Grp where
  G : List Nat
  p : Sto → Prop
  stable : ∀ s s', p s → (∀ y ∈ G, ∀ o, s y = some o → s' y = some o) → p s'
  claimed : ∀ s, p s → ∀ y ∈ G, s y ≠ none
def Wld (s : Sto) (gs : List Grp) : Prop := (∀ g ∈ gs, g.p s) ∧ gs.Pairwise fun a b => ∀ z ∈ a.G, z ∉ b.G
theorem Wld.perm {s : Sto} {gs gs' : List Grp} (h : Wld s gs) (hp : gs.Perm gs') : Wld s gs' :=
  ⟨fun g hg => h.1 g (hp.mem_iff.2 hg), (hp.pairwise_iff (fun hab z hz hz' => hab z hz' hz)).1 h.2⟩
theorem Wld.sub {s s' : Sto} {gs : List Grp} (h : Wld s gs) (hs : Sub s s') : Wld s' gs := ⟨fun g hg => g.stable s s' (h.1 g hg) fun y _ o => hs y o, h.2⟩
theorem Wld.tail {s : Sto} {g : Grp} {gs : List Grp} (h : Wld s (g :: gs)) : Wld s gs := ⟨fun g' hg => h.1 g' (by simp [hg]), (List.pairwise_cons.1 h.2).2⟩
/-- a new group -/
theorem Wld.new {s s' : Sto} {g : Grp} {gs : List Grp} (h : Wld s gs) (hs : Sub s s') (hg : g.p s') (hn : ∀ y ∈ g.G, s y = none) : Wld s' (g :: gs) := by
  refine ⟨fun g' hg' => ?_, List.pairwise_cons.2 ⟨fun g' hg' z hz hz' => g'.claimed s (h.1 g' hg') z hz' (hn z hz), h.2⟩⟩
  rcases List.mem_cons.1 hg' with rfl | hg'
  · exact hg
  · exact (h.sub hs).1 g' hg'
/-- one group changes -/
theorem Wld.change {s s' : Sto} {g g' : Grp} {gs : List Grp} (h : Wld s (g :: gs)) (hF : Fr g.G g'.G s s') (hg : g'.p s') : Wld s' (g' :: gs) := by
  have hp := List.pairwise_cons.1 h.2
  refine ⟨fun a ha => ?_, List.pairwise_cons.2 ⟨fun a ha z hz hz' => ?_, hp.2⟩⟩
  · rcases List.mem_cons.1 ha with rfl | ha
    · exact hg
    · exact a.stable s s' (h.1 a (by simp [ha])) fun y hy o ho => hF.1 y o (fun hin => hp.1 a ha y hin hy) ho
  · rcases hF.2 z hz with q | q
    · exact hp.1 a ha z q hz'
    · exact a.claimed s (h.1 a (by simp [ha])) z hz' q
/-- two groups as one -/
def Grp.both (a b : Grp) : Grp := ⟨a.G ++ b.G, fun s => a.p s ∧ b.p s ∧ ∀ z ∈ a.G, z ∉ b.G, fun s s' h hs => ⟨a.stable s s' h.1 fun y hy => hs y (List.mem_append_left _ hy), b.stable s s' h.2.1 fun y hy => hs y (List.mem_append_right _ hy), h.2.2⟩,
  fun s h y hy => by
    rcases List.mem_append.1 hy with hy | hy
    · exact a.claimed s h.1 y hy
    · exact b.claimed s h.2.1 y hy⟩
theorem Wld.merge {s : Sto} {a b : Grp} {gs : List Grp} (h : Wld s (a :: b :: gs)) : Wld s (a.both b :: gs) := by
  have h1 := List.pairwise_cons.1 h.2
  have h2 := List.pairwise_cons.1 h1.2
  refine ⟨fun g hg => ?_, List.pairwise_cons.2 ⟨fun g hg z hz => ?_, h2.2⟩⟩
  · rcases List.mem_cons.1 hg with rfl | hg
    · exact ⟨h.1 a (by simp), h.1 b (by simp), h1.1 b (by simp)⟩
    · exact h.1 g (by simp [hg])
  · rcases List.mem_append.1 hz with hz | hz
    · exact h1.1 g (by simp [hg]) z hz
    · exact h2.1 g hg z hz
theorem Wld.split {s : Sto} {a b : Grp} {gs : List Grp} (h : Wld s (a.both b :: gs)) : Wld s (a :: b :: gs) := by
  have h1 := List.pairwise_cons.1 h.2
  obtain ⟨p1, p2, p3⟩ := h.1 (a.both b) (by simp)
  refine ⟨fun g hg => ?_, List.pairwise_cons.2 ⟨fun g hg z hz => ?_, List.pairwise_cons.2 ⟨fun g hg z hz => h1.1 g hg z (List.mem_append_right _ hz), h1.2⟩⟩⟩
  · rcases List.mem_cons.1 hg with rfl | hg
    · exact p1
    · rcases List.mem_cons.1 hg with rfl | hg
      · exact p2
      · exact h.1 g (by simp [hg])
  · rcases List.mem_cons.1 hg with rfl | hg
    · exact p3 z hz
    · exact h1.1 g hg z (List.mem_append_left _ hz)

/-! ### the groups -/
def boxG (b : Nat) (c : Cfg) : Grp := ⟨[b], fun s => s b = some (.cells (rowC c)), fun s s' h hs => hs b (by simp) _ h, fun s h y hy => by rw [List.mem_singleton.1 hy, h]; simp⟩
def heapG (hb m : Nat) (bs : List Nat) (H : Hp) : Grp := ⟨hb :: m :: bs, fun s => HpAt s hb m bs H, fun s s' h hs => h.sub hs, fun s h y hy hn => h.claimed hn hy⟩
def rtnG (R : Rtn) (hR : R.Ok) (b : Nat) (x : R.S) (F : List Nat) : Grp := ⟨b :: F, fun s => R.at_ s b x F, fun s s' h hs => hR.sub h hs, fun s h y hy => hR.claimed h y hy⟩

/-- a routine runs alone -/
theorem alone_at (R : Rtn) (hR : R.Ok) (I : Nat → Hp → R.S → Prop) (hI : Ranked R I) {s : Sto} {hb m b : Nat} {H : Hp} {x : R.S} {bs F : List Nat} {gs : List Grp} (h : Wld s (heapG hb m bs H :: rtnG R hR b x F :: gs)) {n : Nat} (hx : I n H x) (most : Int) (hm : 0 ≤ most ∧ most ≤ 1000000) :
    ACalls Tryz.prog 10 [.ptr hb 0, .iface R.T (.ptr b 0), i64 most] s (fun r s' => (∃ k d, r = .tuple [i64 k, boo d]) ∧
      ∃ bs' F', Wld s' (heapG hb m bs' (R.run most.toNat (H, x)).2.1 :: rtnG R hR b (R.run most.toNat (H, x)).2.2 F' :: gs)) := by
  have hmg := h.merge
  obtain ⟨p1, p2, p3⟩ := hmg.1 _ (List.mem_cons_self ..)
  refine (alone_spec R hR _ hI.good s hb m b (H, x) bs F ⟨p1, p2, fun y hy hy' => p3 y hy' hy⟩ ⟨n, hx⟩ most hm).mono ?_
  rintro r s' ⟨rfl, -, bs', F', hrun, hF⟩
  refine ⟨⟨_, _, rfl⟩, bs', F', ?_⟩
  exact (hmg.change (g' := (heapG hb m bs' _).both (rtnG R hR b _ F')) hF ⟨hrun.heap, hrun.rtn, fun z hz hz' => hrun.apart z hz' hz⟩).split
/-- less is claimed -/
theorem Wld.weak {s : Sto} {g g' : Grp} {gs : List Grp} (h : Wld s (g :: gs)) (hs : ∀ z ∈ g'.G, z ∈ g.G) (hp : g.p s → g'.p s) : Wld s (g' :: gs) := by
  have h1 := List.pairwise_cons.1 h.2
  refine ⟨fun a ha => ?_, List.pairwise_cons.2 ⟨fun a ha z hz => h1.1 a ha z (hs z hz), h1.2⟩⟩
  rcases List.mem_cons.1 ha with rfl | ha
  · exact hp (h.1 g (by simp))
  · exact h.1 a (by simp [ha])
/-- an office -/
theorem LimboAt.claimed {s : Sto} {x : AV} {l : List Int} {F : List Nat} (h : LimboAt s x l F) : ∀ y ∈ F, s y ≠ none := by
  rcases h with ⟨_, _, rfl⟩ | ⟨b, pre, _, h, rfl⟩
  · simp
  · intro y hy; rw [List.mem_singleton.1 hy, h]; simp
def offG (ob : Nat) (c : Cfg) (o : Off) (mo : AV) (F : List Nat) : Grp := ⟨ob :: F, fun s => ∃ lx, OffAt s ob c o mo lx F, fun s s' ⟨lx, h⟩ hs => ⟨lx, h.sub hs⟩, fun s ⟨lx, h⟩ y hy => by
  rcases List.mem_cons.1 hy with rfl | hy
  · rw [h.top]; simp
  · exact h.limbo.claimed y hy⟩
/-- a collector is made upon an office -/
theorem Wld.collect {s s' : Sto} {c : Cfg} (hc : c.right = true) {ob xb : Nat} {mo : AV} {o : Off} {F : List Nat} {gs : List Grp} (h : Wld s (offG ob c o mo F :: gs)) (hs : Sub s s') (hn : s xb = none) (hx : s' xb = some (.cells (rowCol ob Col.new))) :
    Wld s' (rtnG (colR c ob mo) (colR_ok c hc ob mo) xb (Col.new, o) (ob :: F) :: gs) := by
  have h1 := List.pairwise_cons.1 h.2
  have h2 := h.sub hs
  refine ⟨fun a ha => ?_, List.pairwise_cons.2 ⟨fun a ha z hz hz' => ?_, h1.2⟩⟩
  · rcases List.mem_cons.1 ha with rfl | ha
    · obtain ⟨lx, hO⟩ := h2.1 _ (List.mem_cons_self ..)
      exact ⟨lx, F, ⟨hx, hO⟩, rfl⟩
    · exact h2.1 a (by simp [ha])
  · rcases List.mem_cons.1 hz with rfl | hz
    · exact a.claimed s (h.1 a (by simp [ha])) _ hz' hn
    · exact h1.1 a ha z hz hz'
/-- a collector is done with -/
theorem Wld.collected {s : Sto} {c : Cfg} (hc : c.right = true) {ob xb : Nat} {mo : AV} {y : Col × Off} {F : List Nat} {gs : List Grp} (h : Wld s (rtnG (colR c ob mo) (colR_ok c hc ob mo) xb y F :: gs)) : ∃ F0, Wld s (offG ob c y.2 mo F0 :: gs) := by
  obtain ⟨lx, F0, hC, hF⟩ := h.1 _ (List.mem_cons_self ..)
  refine ⟨F0, h.weak (fun z hz => ?_) fun _ => ⟨lx, hC.off⟩⟩
  show z ∈ xb :: F
  rw [hF]; exact List.mem_cons_of_mem _ hz
/-! ### groups in another order -/
theorem filterMap_range {α : Type} (l : List α) : ∀ n, n ≤ l.length → (List.range n).filterMap (fun i => l[i]?) = l.take n
  | 0, _ => by simp
  | n + 1, h => by
    rw [List.range_succ, List.filterMap_append, filterMap_range l n (by omega), List.take_add_one]
    simp [List.getElem?_eq_getElem (show n < l.length by omega)]
def reord (p : List Nat) (gs : List Grp) : List Grp := p.filterMap (fun i => gs[i]?) ++ gs.drop p.length
theorem Wld.re (p : List Nat) {s : Sto} {gs : List Grp} (h : Wld s gs) (hl : p.length ≤ gs.length) (hp : p.isPerm (List.range p.length) = true := by decide) : Wld s (reord p gs) := by
  refine h.perm ?_
  have h1 : p.Perm (List.range p.length) := List.isPerm_iff.1 hp
  have h2 := h1.filterMap (fun i => gs[i]?)
  rw [filterMap_range gs _ hl] at h2
  unfold reord
  refine List.Perm.trans (List.Perm.of_eq (List.take_append_drop p.length gs).symm) ?_
  exact List.Perm.append_right _ h2.symm
theorem Wld.less {s : Sto} {gs gs' : List Grp} (h : Wld s gs) (hs : gs'.Sublist gs) : Wld s gs' := ⟨fun g hg => h.1 g (hs.subset hg), h.2.sublist hs⟩
end Go.Proofs.YtkbpnnbdfikjhaaGreat
