/- A view: what it has seen, as a row. -/
import Derived.Test.YtkbpnnbdfikjhaaGreatK14ShelfI
import Derived.Test.YtkbpnnbdfikjhaaGreatK13Drive1
import Derived.Test.YtkbpnnbdfikjhaaGreatK11Ver1
import Derived.Test.YtkbpnnbdfikjhaaGreatK09Col1
namespace Go.Proofs.YtkbpnnbdfikjhaaGreat
open Go Go.Aw
set_option linter.unusedVariables false
set_option linter.unusedSimpArgs false
set_option maxRecDepth 10000

theorem srt_fold : ∀ (l t : List Pr), Srt t → Srt (l.foldl (fun t e => tput t e.1 e.2) t)
  | [], t, h => h
  | e :: l, t, h => srt_fold l _ (srt_tput h)
theorem srt_pairs (l : List Pr) : Srt (pairsOf l) := srt_fold l [] (by simp [Srt])
theorem tput_len : ∀ (l : List Pr) (k v : ByteArray), (tput l k v).length ≤ l.length + 1
  | [], k, v => by simp [tput]
  | x :: l, k, v => by
    have := tput_len l k v
    simp only [tput]
    split
    · simp; omega
    · split <;> simp
theorem fold_len : ∀ (l t : List Pr), (l.foldl (fun t e => tput t e.1 e.2) t).length ≤ t.length + l.length
  | [], t => by simp
  | e :: l, t => by
    have h1 := fold_len l (tput t e.1 e.2)
    have h2 := tput_len t e.1 e.2
    simp only [List.foldl_cons, List.length_cons]; omega
theorem pairs_len (l : List Pr) : (pairsOf l).length ≤ l.length := by have := fold_len l []; simpa [pairsOf] using this
theorem pairs_snoc (l : List Pr) (p : Pr) : pairsOf (l ++ [p]) = tput (pairsOf l) p.1 p.2 := by simp [pairsOf]

theorem tfrom_spec (σ : Sto) (tb : Nat) (k : ByteArray) : ACalls Tryz.prog 122 [.ptr tb 0, str k] σ (fun r σ' => ∃ tx kx, r = .func (.func 125) [] [.ptr tx 0, .ptr kx 0] ∧ σ tx = none ∧ σ kx = none ∧
    σ' tx = some (.cells [.ptr tb 0]) ∧ σ' kx = some (.cells [str k]) ∧ Sub σ σ') := by
  refine ACalls.q fun q hq => fn_of Tab.mixed Tryz.func122 rfl rfl rfl ?_
  simp -implicitDefEqProofs
  refine alloc fun b1 hb1 => ?_
  simp -implicitDefEqProofs
  refine alloc fun b2 hb2 => ?_
  obtain ⟨n21, f2⟩ := none_of_set hb2
  simp -implicitDefEqProofs
  exact hq _ _ ⟨b1, b2, rfl, hb1, f2, by rw [set_ne (Ne.symm n21)]; simp [Sto.set], by simp [Sto.set], sub_set' (sub_set' (Sub.refl _) hb1) hb2⟩

theorem seen_get {l : List Pr} {i : Nat} {key : Value} {c : AV} (h : (encSeen l)[i]? = some (key, c)) : ∃ p, l[i]? = some p ∧ key = .string p.1 ∧ c = .agg (encPr p) := by
  simp only [encSeen, List.getElem?_map, Option.map_eq_some_iff, Prod.mk.injEq] at h
  obtain ⟨p, h1, h2, h3⟩ := h
  exact ⟨p, h1, h2.symm, h3.symm⟩
theorem seen_erase (l : List Pr) (i : Nat) : (encSeen l).eraseIdx i = encSeen (l.eraseIdx i) := by
  unfold encSeen
  induction l generalizing i with
  | nil => rfl
  | cons x l ih =>
    cases i with
    | zero => rfl
    | succ i => simpa using ih i

theorem erase_perm {p : Pr} : ∀ (l : List Pr) (i : Nat), l[i]? = some p → (p :: l.eraseIdx i).Perm l
  | x :: l, 0, h => by simp at h; subst h; exact List.Perm.refl _
  | x :: l, i + 1, h => by
    have ih := erase_perm l i (by simpa using h)
    exact (List.Perm.swap x p _).trans (ih.cons x)

def leftOf (s : Sto) (ib : Nat) : Nat := match s ib with | some (.iter _ left) => left.length | _ => 0

theorem own_of {s s' : Sto} {tok : Tok} {n n' es : Nat} (h : Go.Aw.Own s tok n es) (hn : n' = n) (hk : ∀ z, fp tok = some z → s' z = s z) : Go.Aw.Own s' tok n' es := by
  subst hn
  cases tok with
  | live b e => exact ⟨h.1, by rw [hk b rfl]; exact h.2⟩
  | clip => trivial
  | dead => exact h
theorem TabAt.some {σ : Sto} {tb : Nat} {l : List Pr} {F : List Nat} (h : TabAt σ tb l F) : ∀ z ∈ tb :: F, ∃ cs, σ z = Option.some (.cells cs) := by
  obtain ⟨xk, xv, Fk, Fv, h1, h2, h3, rfl, _⟩ := h.ex
  intro z hz
  rcases List.mem_cons.1 hz with rfl | hz
  · exact ⟨_, h1⟩
  · rcases List.mem_append.1 hz with hz | hz
    · rcases h2 with ⟨_, _, e⟩ | ⟨b, _, h, e⟩
      · rw [e] at hz; simp at hz
      · rw [e] at hz; rw [List.mem_singleton.1 hz]; exact ⟨_, h⟩
    · rcases h3 with ⟨_, _, e⟩ | ⟨b, _, h, e⟩
      · rw [e] at hz; simp at hz
      · rw [e] at hz; rw [List.mem_singleton.1 hz]; exact ⟨_, h⟩

structure PInv (σ : Sto) (m tb ib : Nat) (seen : List Pr) (e : Env) (s : Sto) (dn left T : List Pr) (F : List Nat) (last : Option (Value × AV)) : Prop where
  hl : e.length = 36
  g3 : gt e 3 = .ptr tb 0
  g14 : gt e 14 = .ptr ib 0
  it : s ib = some (.iter last (encSeen left))
  tab : TabAt s tb T F
  eq : T = pairsOf dn
  perm : (dn ++ left).Perm seen
  keep : ∀ z o, z ≠ m → σ z = some o → s z = some o
  fr : ∀ z ∈ F, z = m ∨ σ z = none
  ni : ib ∉ tb :: F

/-- behind the last one -/
structure QInv (σ : Sto) (m tb tx kx yl ob : Nat) (lo : AObj) (T : List Pr) (F : List Nat) (n : Nat) (s : Sto) (tok : Tok) : Prop where
  tab : TabAt s tb T F
  htx : s tx = some (.cells [.ptr tb 0])
  hkx : s kx = some (.cells [str ⟨#[]⟩])
  hyl : s yl = some lo
  hob : s ob = some (.cells [.slice tok ((T.take n).map encPr)])
  own : Go.Aw.Own s tok n 2
  nf : ∀ z, fp tok = some z → z ∉ tb :: F ∧ z ≠ tx ∧ z ≠ kx ∧ z ≠ yl ∧ z ≠ ob ∧ (z = m ∨ σ z = none)
  keep : ∀ z o, z ≠ m → σ z = some o → s z = some o

theorem vpairs_spec (σ : Sto) (b m : Nat) (c : Cfg) (part acts : Int) (pa : AV) (pin epoch shelf block : Int) (key : ByteArray) (ca pairs : AV) (mark : Int) (seen : List Pr) (hsl : seen.length ≤ 900) (hnd : (seen.map (·.1)).Nodup)
    (hx : σ b = some (.cells (rowVw c part acts pa pin epoch shelf block key ca m pairs mark))) (hm : σ m = some (.map (encSeen seen))) :
    ACalls Tryz.prog 114 [.ptr b 0] σ (fun r σ' => (∃ t, r = .slice t ((pairsOf seen).map encPr)) ∧ ∀ z o, z ≠ m → σ z = some o → σ' z = some o) := by
  refine ACalls.q fun q hq => fn_of Tab.mixed Tryz.func114 rfl rfl rfl ?_
  simp -implicitDefEqProofs
  refine (tnew_spec _).mono ?_
  rintro r σ1 ⟨tb, rfl, htb, ht, hs1⟩
  have hx1 := hs1 _ _ hx
  have hm1 := hs1 _ _ hm
  simp -implicitDefEqProofs [hx1, aRange, hm1]
  intro ib hib
  have nim : ib ≠ m := fun e => by rw [e, hm1] at hib; cases hib
  obtain ⟨xk, xv, Fk, Fv, t1, _⟩ := ht.ex
  have nit : ib ≠ tb := fun e => by rw [e, t1] at hib; cases hib
  have nbm : tb ≠ m := fun e => by rw [e, hm] at htb; cases htb
  refine wpc_loop (fun e s => ∃ (dn left T : List Pr) (F : List Nat) (last : Option (Value × AV)), PInv σ m tb ib seen e s dn left T F last)
    (fun _ s => leftOf s ib) ⟨[], seen, [], [], none, ⟨rfl, rfl, rfl, by simp [Sto.set], ?_, rfl, by simp, fun z o hz ho => ?_, by simp, by simp [nit]⟩⟩ ?_
  · refine ht.sub fun y hy o ho => ?_
    simp only [List.mem_singleton] at hy
    rw [set_ne (by rw [hy]; exact Ne.symm nit)]
    simp only [Sto.del]; rw [if_neg (by rw [hy]; exact nbm)]; exact ho
  · have h1 := hs1 z o ho
    rw [set_ne (fun e => by rw [e, hib] at h1; cases h1)]
    simp only [Sto.del]; rw [if_neg hz]; exact h1
  rintro e s ⟨dn, left, T, F, last, ⟨hl, g3, g14, hit, htt, hT, hperm, hkeep, hF, hibF⟩⟩
  simp -implicitDefEqProofs [hl, g14, aNext, hit]
  have hTl : T.length ≤ 900 := by
    have h1 := pairs_len dn
    have h2 := hperm.length_eq
    rw [List.length_append] at h2
    rw [hT]; omega
  have hTs : Srt T := by rw [hT]; exact srt_pairs dn
  refine ⟨fun hnil => ?_, fun i kk cc hget => ?_⟩
  · have hl0 : left = [] := by cases left with | nil => rfl | cons a l => simp [encSeen] at hnil
    subst hl0
    rw [List.append_nil] at hperm
    have hTe : T = pairsOf seen := by
      rw [hT]
      exact pairsOf_perm (fun p => hperm.mem_iff) ((hperm.map _).nodup_iff.2 hnd) hnd
    refine alloc fun ob hob => ?_
    simp -implicitDefEqProofs [hl, g3]
    refine (tfrom_spec _ tb _).mono ?_
    rintro r s1 ⟨tx, kx, rfl, htx, hkx, k1, k2, hs2⟩
    simp -implicitDefEqProofs [hl]
    intro yl D fn hyl
    have hkob : ∀ z o, s z = some o → ∀ x, (s.set ob x) z = some o := fun z o ho x => by rw [set_ne (ne_of ho hob)]; exact ho
    have hks1 : ∀ z o, s z = some o → s1 z = some o := fun z o ho => hs2 z o (hkob z o ho _)
    have tabs0 := htt.some
    have nobF : ob ∉ tb :: F := fun hz => by obtain ⟨o, ho⟩ := tabs0 ob hz; rw [hob] at ho; cases ho
    have ntx : tx ≠ ob := fun e => by rw [e] at htx; simp [Sto.set] at htx
    have nkx : kx ≠ ob := fun e => by rw [e] at hkx; simp [Sto.set] at hkx
    have nσyl : ∀ z o, z ≠ m → σ z = some o → z ≠ yl := fun z o hz ho e => by have := hks1 z o (hkeep z o hz ho); rw [e, hyl] at this; cases this
    have nσob : ∀ z o, z ≠ m → σ z = some o → z ≠ ob := fun z o hz ho e => by have := hkeep z o hz ho; rw [e, hob] at this; cases this
    generalize hlo : AObj.loop fn #[27, 28] _ _ D _ = lo
    refine (titer_spec _ yl tb tx kx T F hTs (by omega) (fun n s' => ∃ tok, QInv σ m tb tx kx yl ob lo T F n s' tok) ?_ ?_ ?_).mono ?_
    · have hyF : ∀ z ∈ tb :: F, z ≠ yl := fun z hz e => by obtain ⟨o, ho⟩ := tabs0 z hz; have := hks1 z _ ho; rw [e, hyl] at this; cases this
      have q1 : s1 ob = some (.cells [.slice .clip []]) := hs2 ob _ (by simp [Sto.set])
      refine ⟨.clip, ⟨htt.sub fun y hy o ho => by rw [set_ne (hyF y hy)]; exact hks1 y o ho, by rw [set_ne (ne_of k1 hyl)]; exact k1, by rw [set_ne (ne_of k2 hyl)]; exact k2, by simp [Sto.set], by rw [set_ne (ne_of q1 hyl)]; exact q1, trivial, by simp [fp], fun z o hz ho => ?_⟩⟩
      rw [set_ne (nσyl z o hz ho)]
      exact hks1 z o (hkeep z o hz ho)
    · rintro n s' ⟨tok, h⟩
      exact ⟨h.tab, h.htx, h.hkx⟩
    · rintro n p s' ⟨tok, h⟩ hp
      refine AYield.of_wpc2 Tab.mixed (h.hyl.trans (by rw [← hlo])) rfl (by rfl) (by rfl) ?_
      have n1 : ob ≠ yl := fun e => by have := h.hyl; rw [← e, h.hob, ← hlo] at this; cases this
      have n2 : tx ≠ yl := fun e => by have := h.hyl; rw [← e, h.htx, ← hlo] at this; cases this
      have n3 : kx ≠ yl := fun e => by have := h.hyl; rw [← e, h.hkx, ← hlo] at this; cases this
      have hob' : (s'.del yl) ob = some (.cells [.slice tok ((T.take n).map encPr)]) := by simp only [Sto.del]; rw [if_neg n1]; exact h.hob
      simp -implicitDefEqProofs [putAll, hl, h.hyl, hlo, n1, h.hob]
      have hlt : n < T.length := (List.getElem?_eq_some_iff.1 hp).1
      have hlr : (List.take n (List.map encPr T)).length = n := by simp; omega
      have hdel : ∀ z, z ≠ yl → (s'.del yl) z = s' z := fun z hz => by show (if z = yl then none else s' z) = s' z; rw [if_neg hz]
      have hno : ∀ z, fp tok = some z → z ≠ yl := fun z hz => (h.nf z hz).2.2.2.1
      refine aAppend_own Tab.elem46 (by omega) (by simp; omega) (by intro r hr; obtain ⟨x, _, rfl⟩ := List.mem_map.1 (List.mem_of_mem_take hr); rfl) (by simp) (by simp) (own_of h.own (by rw [hlr]) fun z hz => hdel z (hno z hz)) fun tok2 s2 ho2 hm2 => ?_
      rw [hlr] at ho2
      have g1 : s2 ob = some (.cells [.slice tok ((T.take n).map encPr)]) := hm2.keep ob _ (fun e => (h.nf ob e).2.2.2.2.1 rfl) (by rw [hdel ob n1]; exact h.hob)
      simp -implicitDefEqProofs [hl, g1]
      intro hyn
      have hyn' : s2 yl = none := by rw [← hyn]; exact (set_ne (Ne.symm n1)).symm
      have keep : ∀ z o, z ≠ yl → z ≠ ob → fp tok ≠ some z → s' z = some o → ∀ x y, ((s2.set ob x).set yl y) z = some o := fun z o q1 q2 q3 ho x y => by
        rw [set_ne q1, set_ne q2]
        exact hm2.keep z o q3 (by rw [hdel z q1]; exact ho)
      have tabs := h.tab.some
      have hyF : ∀ z ∈ tb :: F, z ≠ yl := fun z hz e => by obtain ⟨cs, ho⟩ := tabs z hz; rw [e, h.hyl, ← hlo] at ho; cases ho
      have fresh2 : ∀ z, fp tok2 = some z → fp tok = some z ∨ s' z = none := fun z hz => by
        rcases hm2.fresh z hz with q | q
        · exact .inl q
        · right
          have : z ≠ yl := fun e => by
            cases tok2 with
            | live b2 e2 => cases hz; obtain ⟨_, q2⟩ := ho2; rw [e, hyn'] at q2; cases q2
            | clip => cases hz
            | dead => cases hz
          rw [hdel z this] at q; exact q
      have hz2 : ∀ z, fp tok2 = some z → z ∉ tb :: F ∧ z ≠ tx ∧ z ≠ kx ∧ z ≠ yl ∧ z ≠ ob ∧ (z = m ∨ σ z = none) := fun z hz => by
        rcases fresh2 z hz with q | q
        · exact h.nf z q
        · refine ⟨fun hzz => ?_, fun e => ?_, fun e => ?_, fun e => ?_, fun e => ?_, ?_⟩
          · obtain ⟨o, ho⟩ := tabs z hzz; rw [q] at ho; cases ho
          · rw [e, h.htx] at q; cases q
          · rw [e, h.hkx] at q; cases q
          · rw [e, h.hyl] at q; cases q
          · rw [e, h.hob] at q; cases q
          · by_cases hzm : z = m
            · exact .inl hzm
            · right
              cases ho : σ z with
              | none => rfl
              | some o => rw [h.keep z o hzm ho] at q; cases q
      refine ⟨tok2, ⟨h.tab.sub fun y hy o ho => keep y o (hyF y hy) (fun e => nobF (e ▸ hy)) (fun e => (h.nf y e).1 hy) ho _ _, keep tx _ n2 ntx (fun e => (h.nf tx e).2.1 rfl) h.htx _ _, keep kx _ n3 nkx (fun e => (h.nf kx e).2.2.1 rfl) h.hkx _ _,
        by simp [Sto.set], ?_, own_of ho2 rfl fun z hz => ?_, hz2, fun z o hz ho => ?_⟩⟩
      · rw [set_ne n1]
        have hpn : T[n] = p := (List.getElem?_eq_some_iff.1 hp).2
        simp [Sto.set, List.take_add_one, hp]
      · obtain ⟨_, _, _, q1, q2, _⟩ := hz2 z hz
        rw [set_ne q1, set_ne q2]
      · have hs' := h.keep z o hz ho
        refine keep z o ?_ ?_ ?_ hs' _ _
        · exact nσyl z o hz ho
        · exact nσob z o hz ho
        · intro e
          rcases (h.nf z e).2.2.2.2.2 with q | q
          · exact hz q
          · rw [q] at ho; cases ho
    · rintro r s' ⟨rfl, tok, h⟩
      have n1 : ob ≠ yl := fun e => by have := h.hyl; rw [← e, h.hob, ← hlo] at this; cases this
      have hob' : (s'.del yl) ob = some (.cells [.slice tok ((T.take T.length).map encPr)]) := by simp only [Sto.del]; rw [if_neg n1]; exact h.hob
      rw [List.take_length, hTe] at hob'
      have hob2 := h.hob
      rw [List.take_length, hTe] at hob2
      simp -implicitDefEqProofs [rfK, h.hyl, hl, n1, hob2]
      refine hq _ _ ⟨⟨_, rfl⟩, fun z o hz ho => ?_⟩
      simp only [Sto.del]
      rw [if_neg (nσyl z o hz ho)]
      exact h.keep z o hz ho
  · obtain ⟨p, hp, rfl, rfl⟩ := seen_get hget
    simp -implicitDefEqProofs [hl, g3, g14, aEntry]
    refine alloc fun b5 hb5 => ?_
    have n5i : b5 ≠ ib := fun e => by rw [e] at hb5; simp [Sto.set] at hb5
    have hb5' : s b5 = none := by rw [set_ne n5i] at hb5; exact hb5
    simp -implicitDefEqProofs [hl, g3, g14]
    have hh : ∀ z, z ≠ ib → ∀ o, s z = some o → ∀ x1 x2, ((s.set ib x1).set b5 x2) z = some o := fun z hz o ho x1 x2 => by rw [set_ne (ne_of ho hb5'), set_ne hz]; exact ho
    refine (tput_spec _ tb T F (htt.sub fun y hy o ho => hh y (fun e => hibF (by rw [← e]; exact hy)) o ho _ _) hTs (by omega) p.1 p.2).mono ?_
    rintro r s2 ⟨rfl, F2, ht2, o2, f2⟩
    have hσib : σ ib = none := hs1.none hib
    have e2 : s2 ib = some (.iter (some (Value.string p.1, .agg (encPr p))) (encSeen (left.eraseIdx i))) := by
      rw [← seen_erase]
      exact o2 ib _ hibF (by show Sto.set _ b5 _ ib = _; rw [set_ne (Ne.symm n5i)]; simp [Sto.set])
    have hz1 : ∀ z o, z ≠ m → σ z = some o → z ∉ tb :: F ∧ z ≠ ib := fun z o hz ho => by
      refine ⟨fun hzz => ?_, ne_of ho hσib⟩
      rcases List.mem_cons.1 hzz with e | hzz
      · rw [e, htb] at ho; cases ho
      · rcases hF z hzz with e | e
        · exact hz e
        · rw [e] at ho; cases ho
    have hlti : i < left.length := (List.getElem?_eq_some_iff.1 hp).1
    simp -implicitDefEqProofs [hl, g3, g14]
    refine ⟨⟨dn ++ [p], left.eraseIdx i, tput T p.1 p.2, F2, _, ⟨by simp [hl], by simp [hl, g3], by simp [hl, g14], e2, ht2, ?_, ?_, ?_, ?_, ?_⟩⟩, ?_⟩
    · rw [pairs_snoc, hT]
    · refine List.Perm.trans ?_ hperm
      rw [List.append_assoc]
      refine List.Perm.append_left _ ?_
      exact erase_perm _ _ hp
    · intro z o hz ho
      obtain ⟨q1, q2⟩ := hz1 z o hz ho
      exact o2 z o q1 (hh z q2 o (hkeep z o hz ho) _ _)
    · intro z hz
      rcases f2 z hz with h | h
      · exact hF z h
      · cases ho : σ z with
        | none => exact .inr rfl
        | some o =>
          refine .inl (Classical.byContradiction fun hzm => ?_)
          have := hh z (hz1 z o hzm ho).2 o (hkeep z o hzm ho) (.iter (some (Value.string p.1, .agg (encPr p))) ((encSeen left).eraseIdx i)) (.cells [str p.1, str p.2])
          rw [this] at h; cases h
    · intro hz
      rcases List.mem_cons.1 hz with h | h
      · exact nit h
      · rcases f2 ib h with h | h
        · exact hibF (by simp [h])
        · rw [set_ne (Ne.symm n5i)] at h; simp [Sto.set] at h
    · simp only [leftOf, e2, hit, encSeen, List.length_map, List.length_eraseIdx, if_pos hlti]
      omega
end Go.Proofs.YtkbpnnbdfikjhaaGreat

/- A view takes an answer. -/
namespace Go.Proofs.YtkbpnnbdfikjhaaGreat
open Go Go.Aw
set_option linter.unusedVariables false
set_option linter.unusedSimpArgs false
set_option maxRecDepth 10000

def Vw.next (c : Cfg) (x : Vw) : Vw := { x with shelf := x.shelf + 1, st := if x.shelf + 1 = c.shelves then .frees else .keys }
def Vw.take (c : Cfg) (x : Vw) (w : Int) (t : ByteArray) : Vw := match x.st with
  | .pins p => if (p.take w).part = .done then { x with acts := x.acts + 1, st := .keys, pin := (p.take w).pin, epoch := (p.take w).epoch, mark := x.acts + 1 } else { x with acts := x.acts + 1, st := .pins (p.take w) }
  | .keys => if w = 0 then Vw.next c { x with acts := x.acts + 1, block := w } else { x with acts := x.acts + 1, block := w, st := .texts }
  | .texts => { x with acts := x.acts + 1, key := t, st := .reads (Chn.new c x.shelf x.epoch) }
  | .reads y => if (y.take w t).part = .done then Vw.next c { x with acts := x.acts + 1, seen := if (y.take w t).has = true then sput x.seen x.key (y.take w t).text else x.seen } else { x with acts := x.acts + 1, st := .reads (y.take w t) }
  | .frees => { x with acts := x.acts + 1, st := .done, pairs := pairsOf x.seen }
  | .done => x
/-- what an answer must be -/
def VOkT (x : Vw) (w : Int) : Prop := match x.st with
  | .pins p => match p.part with | .tries => w = 0 | .checks => w = p.epoch | _ => True
  | .frees => x.seen.length ≤ 900 ∧ (x.seen.map (·.1)).Nodup
  | .done => False
  | _ => True

theorem VwAt.next {σ : Sto} {b : Nat} {c : Cfg} {x : Vw} {pa ca : AV} {m : Nat} {tp : Tok} (hx : σ b = some (.cells (rowVw c (if x.shelf + 1 = c.shelves then 5 else 2) x.acts pa x.pin x.epoch (x.shelf + 1) x.block x.key ca m (.slice tp (x.pairs.map encPr)) x.mark)))
    (hm : σ m = some (.map (encSeen x.seen))) (hb : b ≠ m) : VwAt σ b c (Vw.next c x) [m] := by
  obtain ⟨st, acts, pin, epoch, shelf, block, key, seen, pairs, mark⟩ := x
  by_cases h : shelf + 1 = c.shelves
  · exact ⟨⟨pa, ca, m, tp, by simpa [Vw.next, h, VSt.num] using hx, by simp only [Vw.next, h, if_true]; exact ⟨hm, rfl⟩⟩, by simp [hb]⟩
  · exact ⟨⟨pa, ca, m, tp, by simpa [Vw.next, h, VSt.num] using hx, by simp only [Vw.next, h, if_false]; exact ⟨hm, rfl⟩⟩, by simp [hb]⟩

theorem vwtake_spec (σ : Sto) (b : Nat) (c : Cfg) (hc : c.right = true) (x : Vw) (F : List Nat) (h : VwAt σ b c x F) (ho : VOk c x) (w : Int) (t : ByteArray) (hw : VOkT x w) :
    ACalls Tryz.prog 104 [.ptr b 0, .agg (rowG w t)] σ (fun r σ' => r = .tuple [] ∧ ∃ F', VwAt σ' b c (x.take c w t) F' ∧ Out (b :: F) σ σ' ∧ ∀ z ∈ F', z ∈ F ∨ σ z = none) := by
  obtain ⟨h1, h2, h3, h4, h5⟩ := c.bounds hc
  obtain ⟨hac, hst⟩ := ho
  obtain ⟨pa, ca, m, tp, hx, hp⟩ := h.row
  have hnb := h.nb
  obtain ⟨st, acts, pin, epoch, shelf, block, key, seen, pairs, mark⟩ := x
  have ea : IntKind.i64.wrap (acts + 1) = acts + 1 := wrap_i64 (by simp at hac; omega) (by simp at hac; omega)
  cases st
  case pins p =>
    obtain ⟨pb, rfl, hpb, hm, rfl⟩ := hp
    obtain ⟨p1, p2, p3, p4⟩ := hst
    have npb : b ≠ pb := fun e => hnb (by simp [e])
    have nmb : b ≠ m := fun e => hnb (by simp [e])
    have htk := fun σ hx => pntake_spec σ pb c hc p hx p1.1 p1.2 w t hw
    refine ACalls.q fun q hq => fn_of Tab.mixed Tryz.func104 rfl rfl rfl ?_
    simp -implicitDefEqProofs
    refine alloc fun b1 hb1 => ?_
    have n1 := ne_of hx hb1
    simp -implicitDefEqProofs [hx, n1, VSt.num, ea]
    refine draw (by kernel_rfl) ?_
    simp -implicitDefEqProofs [hx, n1, Ne.symm n1]
    refine (htk _ (by rw [set_ne (Ne.symm npb), set_ne (ne_of hpb hb1)]; exact hpb)).mono ?_
    rintro r σ' ⟨rfl, rfl⟩
    simp -implicitDefEqProofs
    refine (vwpinned_spec _ b pb c (p.take w) 1 (acts + 1) pin epoch shelf block key ca m (.slice tp (pairs.map encPr)) mark (by rw [set_ne npb]; simp [Sto.set, rowVw]) (by simp [Sto.set]) npb).mono ?_
    rintro r σ' ⟨rfl, rfl⟩
    simp -implicitDefEqProofs
    have hb1b : b1 ≠ b := Ne.symm n1
    have hb1p : b1 ≠ pb := Ne.symm (ne_of hpb hb1)
    have hb1m : b1 ≠ m := Ne.symm (ne_of hm hb1)
    have hpm : pb ≠ m := fun e => by rw [e, hm] at hpb; cases hpb
    by_cases hd : (p.take w).part = .done
    · simp only [hd, if_true]
      have hT : Vw.take c ⟨.pins p, acts, pin, epoch, shelf, block, key, seen, pairs, mark⟩ w t = ⟨.keys, acts + 1, (p.take w).pin, (p.take w).epoch, shelf, block, key, seen, pairs, acts + 1⟩ := by simp [Vw.take, hd]
      rw [hT] at hq
      refine hq _ _ ⟨rfl, [m], ⟨⟨.ptr pb 0, ca, m, tp, by simp [Sto.set, VSt.num, rowVw], ?_, rfl⟩, by simp [nmb]⟩, ?_, ?_⟩
      · simp [Sto.set, Ne.symm nmb, Ne.symm hpm, Ne.symm hb1m, hm]
      · intro y o hy ho
        simp only [List.mem_cons, List.not_mem_nil, or_false, not_or] at hy
        simp [Sto.set, hy.1, hy.2.1, hy.2.2, ne_of ho hb1, ho]
      · intro z hz; left; simp at hz ⊢; exact .inl hz
    · simp only [hd, if_false]
      have hT : Vw.take c ⟨.pins p, acts, pin, epoch, shelf, block, key, seen, pairs, mark⟩ w t = ⟨.pins (p.take w), acts + 1, pin, epoch, shelf, block, key, seen, pairs, mark⟩ := by simp [Vw.take, hd]
      rw [hT] at hq
      refine hq _ _ ⟨rfl, [m, pb], ⟨⟨.ptr pb 0, ca, m, tp, by simp [Sto.set, VSt.num, rowVw, npb], pb, rfl, by simp [Sto.set], ?_, rfl⟩, by simp [nmb, npb]⟩, ?_, fun z hz => .inl hz⟩
      · simp [Sto.set, Ne.symm nmb, Ne.symm hpm, Ne.symm hb1m, hm]
      · intro y o hy ho
        simp only [List.mem_cons, List.not_mem_nil, or_false, not_or] at hy
        simp [Sto.set, hy.1, hy.2.1, hy.2.2, ne_of ho hb1, ho]
  case keys =>
    obtain ⟨hm, rfl⟩ := hp
    have nmb : b ≠ m := fun e => hnb (by simp [e])
    have hnx := fun σ part acts block key hx => vwnext_spec σ b c hc part acts pa pin epoch shelf block key ca m (.slice tp (pairs.map encPr)) mark hx hst
    by_cases h0 : w = 0
    · subst h0
      refine ACalls.q fun q hq => fn_of Tab.mixed Tryz.func104 rfl rfl rfl ?_
      simp -implicitDefEqProofs
      refine alloc fun b1 hb1 => ?_
      have n1 := ne_of hx hb1
      have hb1m : b1 ≠ m := Ne.symm (ne_of hm hb1)
      simp -implicitDefEqProofs [hx, n1, Ne.symm n1, VSt.num, ea]
      refine (hnx _ 3 (acts + 1) 0 key (by simp [Sto.set, rowVw])).mono ?_
      rintro r σ' ⟨rfl, rfl⟩
      simp -implicitDefEqProofs
      have hT : Vw.take c ⟨.keys, acts, pin, epoch, shelf, block, key, seen, pairs, mark⟩ 0 t = Vw.next c ⟨.keys, acts + 1, pin, epoch, shelf, 0, key, seen, pairs, mark⟩ := by simp [Vw.take]
      rw [hT] at hq
      refine hq _ _ ⟨rfl, [m], VwAt.next (pa := pa) (ca := ca) (tp := tp) (by simp [Sto.set]) (by simp [Sto.set, Ne.symm nmb, Ne.symm hb1m, hm]) nmb, ?_, fun z hz => .inl hz⟩
      intro y o hy ho
      simp only [List.mem_cons, List.not_mem_nil, or_false, not_or] at hy
      simp [Sto.set, hy.1, hy.2, ne_of ho hb1, ho]
    · refine ACalls.q fun q hq => fn_of Tab.mixed Tryz.func104 rfl rfl rfl ?_
      simp -implicitDefEqProofs
      refine alloc fun b1 hb1 => ?_
      have n1 := ne_of hx hb1
      have hb1m : b1 ≠ m := Ne.symm (ne_of hm hb1)
      simp -implicitDefEqProofs [hx, n1, Ne.symm n1, VSt.num, ea, h0]
      have hT : Vw.take c ⟨.keys, acts, pin, epoch, shelf, block, key, seen, pairs, mark⟩ w t = ⟨.texts, acts + 1, pin, epoch, shelf, w, key, seen, pairs, mark⟩ := by simp [Vw.take, h0]
      rw [hT] at hq
      refine hq _ _ ⟨rfl, [m], ⟨⟨pa, ca, m, tp, by simp [Sto.set, VSt.num, rowVw], ?_, rfl⟩, by simp [nmb]⟩, ?_, fun z hz => .inl hz⟩
      · simp [Sto.set, Ne.symm nmb, Ne.symm hb1m, hm]
      intro y o hy ho
      simp only [List.mem_cons, List.not_mem_nil, or_false, not_or] at hy
      simp [Sto.set, hy.1, hy.2, ne_of ho hb1, ho]
  case texts =>
    obtain ⟨hm, rfl⟩ := hp
    have nmb : b ≠ m := fun e => hnb (by simp [e])
    have hcn := fun σ => chnnew_spec σ c hc shelf epoch hst.1 hst.2
    refine ACalls.q fun q hq => fn_of Tab.mixed Tryz.func104 rfl rfl rfl ?_
    simp -implicitDefEqProofs
    refine alloc fun b1 hb1 => ?_
    have n1 := ne_of hx hb1
    have hb1m : b1 ≠ m := Ne.symm (ne_of hm hb1)
    simp -implicitDefEqProofs [hx, n1, Ne.symm n1, VSt.num, ea]
    refine draw (by kernel_rfl) ?_
    simp -implicitDefEqProofs [hx, n1, Ne.symm n1]
    refine (hcn _).mono ?_
    rintro r σ' ⟨cb, rfl, hcb, hcv, hs⟩
    have ncb : cb ≠ b := fun e => by rw [e] at hcb; simp at hcb
    have ncb1 : cb ≠ b1 := fun e => by rw [e] at hcb; simp [Sto.set, Ne.symm n1] at hcb
    have hσcb : σ cb = none := by simpa [ncb, ncb1] using hcb
    have ncm : cb ≠ m := fun e => by rw [e, hm] at hσcb; cases hσcb
    have e1 := hs b _ (by simp [Sto.set]; rfl)
    have e2 : σ' m = some (.map (encSeen seen)) := hs m _ (by simp [Sto.set, Ne.symm nmb, Ne.symm hb1m, hm])
    simp -implicitDefEqProofs [e1]
    have hT : Vw.take c ⟨.texts, acts, pin, epoch, shelf, block, key, seen, pairs, mark⟩ w t = ⟨.reads (Chn.new c shelf epoch), acts + 1, pin, epoch, shelf, block, t, seen, pairs, mark⟩ := by simp [Vw.take]
    rw [hT] at hq
    refine hq _ _ ⟨rfl, [m, cb], ⟨⟨pa, .ptr cb 0, m, tp, by simp [Sto.set, VSt.num, rowVw], cb, rfl, ?_, ?_, rfl⟩, by simp [nmb, Ne.symm ncb]⟩, ?_, fun z hz => ?_⟩
    · simp [Sto.set, ncb, hcv]
    · simp [Sto.set, Ne.symm nmb, e2]
    · intro y o hy ho
      simp only [List.mem_cons, List.not_mem_nil, or_false, not_or] at hy
      rw [set_ne hy.1]
      exact hs y o (by simp [Sto.set, hy.1, ne_of ho hb1, ho])
    · simp only [List.mem_cons, List.not_mem_nil, or_false] at hz
      rcases hz with rfl | rfl
      · simp
      · exact .inr hσcb
  case reads y =>
    obtain ⟨cb, rfl, hcb, hm, rfl⟩ := hp
    obtain ⟨hsh, hyd⟩ := hst
    have ncb : b ≠ cb := fun e => hnb (by simp [e])
    have nmb : b ≠ m := fun e => hnb (by simp [e])
    have htk := fun σ hx => chntake_spec σ cb y hx w t hyd
    refine ACalls.q fun q hq => fn_of Tab.mixed Tryz.func104 rfl rfl rfl ?_
    simp -implicitDefEqProofs
    refine alloc fun b1 hb1 => ?_
    have n1 := ne_of hx hb1
    simp -implicitDefEqProofs [hx, n1, VSt.num, ea]
    refine draw (by kernel_rfl) ?_
    simp -implicitDefEqProofs [hx, n1, Ne.symm n1]
    refine (htk _ (by rw [set_ne (Ne.symm ncb), set_ne (ne_of hcb hb1)]; exact hcb)).mono ?_
    rintro r σ' ⟨rfl, rfl⟩
    simp -implicitDefEqProofs
    have hb1m : b1 ≠ m := Ne.symm (ne_of hm hb1)
    have hb1c : b1 ≠ cb := Ne.symm (ne_of hcb hb1)
    have hcm : cb ≠ m := fun e => by rw [e, hm] at hcb; cases hcb
    refine (vwread_spec _ b cb c hc (y.take w t) 4 (acts + 1) pa pin epoch shelf block key m (.slice tp (pairs.map encPr)) mark seen (by rw [set_ne ncb]; simp [Sto.set, rowVw]) (by simp [Sto.set]) (by simp [Sto.set, Ne.symm nmb, Ne.symm hb1m, Ne.symm hcm, hm]) ncb hsh).mono ?_
    rintro r σ' ⟨rfl, rfl⟩
    simp -implicitDefEqProofs
    by_cases hd : (y.take w t).part = .done
    · simp only [hd, if_true]
      have hT : Vw.take c ⟨.reads y, acts, pin, epoch, shelf, block, key, seen, pairs, mark⟩ w t = Vw.next c ⟨.reads y, acts + 1, pin, epoch, shelf, block, key, if (y.take w t).has = true then sput seen key (y.take w t).text else seen, pairs, mark⟩ := by simp [Vw.take, hd]
      rw [hT] at hq
      by_cases hh : (y.take w t).has = true
      · simp only [hh, if_true] at hq ⊢
        refine hq _ _ ⟨rfl, [m], VwAt.next (pa := pa) (ca := .ptr cb 0) (tp := tp) (by simp [Sto.set]) (by simp [Sto.set, Ne.symm nmb]) nmb, ?_, fun z hz => ?_⟩
        · intro y o hy ho
          simp only [List.mem_cons, List.not_mem_nil, or_false, not_or] at hy
          simp [Sto.set, hy.1, hy.2.1, hy.2.2, ne_of ho hb1, ho]
        · left; simp at hz ⊢; exact .inl hz
      · simp only [hh, if_false] at hq ⊢
        refine hq _ _ ⟨rfl, [m], VwAt.next (pa := pa) (ca := .ptr cb 0) (tp := tp) (by simp [Sto.set]) (by simp [Sto.set, Ne.symm nmb, Ne.symm hcm, Ne.symm hb1m, hm]) nmb, ?_, fun z hz => ?_⟩
        · intro y o hy ho
          simp only [List.mem_cons, List.not_mem_nil, or_false, not_or] at hy
          simp [Sto.set, hy.1, hy.2.1, hy.2.2, ne_of ho hb1, ho]
        · left; simp at hz ⊢; exact .inl hz
    · simp only [hd, if_false]
      have hT : Vw.take c ⟨.reads y, acts, pin, epoch, shelf, block, key, seen, pairs, mark⟩ w t = ⟨.reads (y.take w t), acts + 1, pin, epoch, shelf, block, key, seen, pairs, mark⟩ := by simp [Vw.take, hd]
      rw [hT] at hq
      refine hq _ _ ⟨rfl, [m, cb], ⟨⟨pa, .ptr cb 0, m, tp, by simp [Sto.set, VSt.num, rowVw, ncb], cb, rfl, by simp [Sto.set], ?_, rfl⟩, by simp [nmb, ncb]⟩, ?_, fun z hz => .inl hz⟩
      · simp [Sto.set, Ne.symm nmb, Ne.symm hcm, Ne.symm hb1m, hm]
      · intro y o hy ho
        simp only [List.mem_cons, List.not_mem_nil, or_false, not_or] at hy
        simp [Sto.set, hy.1, hy.2.1, hy.2.2, ne_of ho hb1, ho]
  case frees =>
    obtain ⟨hm, rfl⟩ := hp
    have nmb : b ≠ m := fun e => hnb (by simp [e])
    refine ACalls.q fun q hq => fn_of Tab.mixed Tryz.func104 rfl rfl rfl ?_
    simp -implicitDefEqProofs
    refine alloc fun b1 hb1 => ?_
    have n1 := ne_of hx hb1
    have hb1m : b1 ≠ m := Ne.symm (ne_of hm hb1)
    simp -implicitDefEqProofs [hx, n1, Ne.symm n1, VSt.num, ea]
    refine (vpairs_spec _ b m c 6 (acts + 1) pa pin epoch shelf block key ca (.slice tp (pairs.map encPr)) mark seen hw.1 hw.2 (by simp [Sto.set, rowVw]) (by simp [Sto.set, Ne.symm nmb, Ne.symm hb1m, hm])).mono ?_
    rintro r σ' ⟨⟨tok, rfl⟩, hkeep⟩
    have e1 := hkeep b _ nmb (by simp [Sto.set]; rfl)
    simp -implicitDefEqProofs [e1]
    have hT : Vw.take c ⟨.frees, acts, pin, epoch, shelf, block, key, seen, pairs, mark⟩ w t = ⟨.done, acts + 1, pin, epoch, shelf, block, key, seen, pairsOf seen, mark⟩ := by simp [Vw.take]
    rw [hT] at hq
    refine hq _ _ ⟨rfl, [], ⟨⟨pa, ca, m, tok, by simp [Sto.set, VSt.num, rowVw], rfl⟩, by simp⟩, ?_, by simp⟩
    intro y o hy ho
    simp only [List.mem_cons, List.not_mem_nil, or_false, not_or] at hy
    rw [set_ne hy.1]
    exact hkeep y o hy.2 (by simp [Sto.set, hy.1, ne_of ho hb1, ho])
  case done => exact hw.elim
end Go.Proofs.YtkbpnnbdfikjhaaGreat

/- The three routines. -/
namespace Go.Proofs.YtkbpnnbdfikjhaaGreat
open Go Go.Aw
set_option linter.unusedVariables false
set_option linter.unusedSimpArgs false
set_option maxRecDepth 10000

def viewR (c : Cfg) : Rtn where
  T := 34
  fA := 103
  fT := 104
  S := Vw
  at_ σ b s F := VwAt σ b c s F
  act := Vw.act c
  take := Vw.take c
  ok := VOk c
  okT s w _ := VOkT s w
def layR (c : Cfg) (ep : Int) : Rtn where
  T := 37
  fA := 133
  fT := 134
  S := Ly
  at_ σ b s F := LyAt σ b c ep s F
  act := Ly.act c ep
  take := Ly.take c ep
  ok := LOk c
  okT s w _ := (match s.st with | .makes l i k => i = 0 → w ≠ 0 | _ => True) ∧ s.st ≠ .done
def colR (c : Cfg) (ob : Nat) (mo : AV) : Rtn where
  T := 40
  fA := 23
  fT := 151
  S := Col × Off
  at_ σ b s F := ∃ lx F0, ColAt σ b ob c s.1 s.2 mo lx F0 ∧ F = ob :: F0
  act s := Col.act c s.2 s.1
  take s w _ := Col.take c s.2 s.1 w
  ok s := (s.1.part = .pins ∨ s.1.part = .again → 0 ≤ s.1.pin ∧ s.1.pin < c.pins) ∧ (0 ≤ s.2.next ∧ s.2.next < c.shelves) ∧ (s.1.part = .clears → s.2.limbo ≠ []) ∧ s.2.limbo.length ≤ 1000000
  okT s w _ := (0 ≤ w ∧ w < 18446744073709551616) ∧ s.1.part ≠ .done

theorem VwAt.claimed {σ : Sto} {b : Nat} {c : Cfg} {x : Vw} {F : List Nat} (h : VwAt σ b c x F) : ∀ y ∈ b :: F, σ y ≠ none := by
  obtain ⟨pa, ca, m, tp, h1, h2⟩ := h.row
  obtain ⟨st, acts, pin, epoch, shelf, block, key, seen, pairs, mark⟩ := x
  intro y hy
  rcases List.mem_cons.1 hy with rfl | hy
  · rw [h1]; simp
  · cases st <;> simp only [VwPart] at h2
    · obtain ⟨fb, _, g1, g2, rfl⟩ := h2
      simp at hy; rcases hy with rfl | rfl <;> simp [g1, g2]
    · obtain ⟨g2, rfl⟩ := h2; simp at hy; subst hy; simp [g2]
    · obtain ⟨g2, rfl⟩ := h2; simp at hy; subst hy; simp [g2]
    · obtain ⟨fb, _, g1, g2, rfl⟩ := h2
      simp at hy; rcases hy with rfl | rfl <;> simp [g1, g2]
    · obtain ⟨g2, rfl⟩ := h2; simp at hy; subst hy; simp [g2]
    · subst h2; simp at hy
theorem LyAt.claimed {σ : Sto} {b : Nat} {c : Cfg} {ep : Int} {x : Ly} {F : List Nat} (h : LyAt σ b c ep x F) : ∀ y ∈ b :: F, σ y ≠ none := by
  obtain ⟨t, fa, va, h1, h2⟩ := h.row
  obtain ⟨l, st, kind, shelf, block, laid⟩ := x
  intro y hy
  rcases List.mem_cons.1 hy with rfl | hy
  · rw [h1]; simp
  · cases st <;> simp only [LPart] at h2
    · obtain ⟨fb, _, g1, rfl⟩ := h2
      simp at hy; subst hy; simp [g1]
    all_goals first
      | (subst h2; simp at hy; done)
      | (obtain ⟨vb, tb, _, g1, rfl⟩ := h2
         simp at hy
         rcases hy with rfl | rfl
         · rw [g1.top]; simp
         · rw [g1.todo]; simp)

theorem viewR_ok (c : Cfg) (hc : c.right = true) : (viewR c).Ok where
  mA := by rw [show (viewR c).T = 34 from rfl]; exact Tab.meth_view_act
  mT := by rw [show (viewR c).T = 34 from rfl]; exact Tab.meth_view_take
  cA := by kernel_rfl
  cT := by kernel_rfl
  sub h hs := VwAt.sub h hs
  nb h := h.nb
  claimed h := VwAt.claimed h
  act_spec σ b s F h ho := vwact_spec σ b c hc s F h ho
  take_spec σ b s F w t h ho hw := vwtake_spec σ b c hc s F h ho w t hw
theorem layR_ok (c : Cfg) (hc : c.right = true) (ep : Int) : (layR c ep).Ok where
  mA := by rw [show (layR c ep).T = 37 from rfl]; exact Tab.meth_lay_act
  mT := by rw [show (layR c ep).T = 37 from rfl]; exact Tab.meth_lay_take
  cA := by kernel_rfl
  cT := by kernel_rfl
  sub h hs := LyAt.sub h hs
  nb h := h.nb
  claimed h := LyAt.claimed h
  act_spec σ b s F h ho := lact_spec σ b c hc ep s F h ho
  take_spec σ b s F w t h ho hw := ltake_spec σ b c hc ep s F h ho w t hw.1 hw.2
theorem colR_ok (c : Cfg) (hc : c.right = true) (ob : Nat) (mo : AV) : (colR c ob mo).Ok where
  mA := by rw [show (colR c ob mo).T = 40 from rfl]; exact Tab.meth_col_act
  mT := by rw [show (colR c ob mo).T = 40 from rfl]; exact Tab.meth_col_take
  cA := by kernel_rfl
  cT := by kernel_rfl
  sub := by
    rintro σ σ' b s F ⟨lx, F0, h, rfl⟩ hs
    exact ⟨lx, F0, ⟨hs b (by simp) _ h.row, h.off.sub fun y hy => hs y (by simp at hy ⊢; exact .inr hy)⟩, rfl⟩
  nb := by
    rintro σ b s F ⟨lx, F0, h, rfl⟩
    exact h.off.nx h.row
  claimed := by
    rintro σ b s F ⟨lx, F0, h, rfl⟩ y hy
    rcases List.mem_cons.1 hy with rfl | hy
    · rw [h.row]; simp
    · rcases List.mem_cons.1 hy with rfl | hy
      · rw [h.off.top]; simp
      · rcases h.off.limbo with ⟨_, _, rfl⟩ | ⟨lb, pre, _, g, rfl⟩
        · simp at hy
        · simp at hy; subst hy; rw [g]; simp
  act_spec := by
    rintro σ b s F ⟨lx, F0, h, rfl⟩ ⟨h1, h2, h3, h4⟩
    exact colact_spec σ b ob s.1 c hc s.2 mo lx F0 h.row h.off h1 h2 h3
  take_spec := by
    rintro σ b s F w t ⟨lx, F0, h, rfl⟩ ⟨h1, h2, h3, h4⟩ ⟨h5, h6⟩
    refine (coltake_spec σ b ob s.1 c hc s.2 mo lx F0 w t h h2 h4 h5 h1 h3 h6).mono ?_
    rintro r σ' ⟨rfl, lx', F', g1, g2, g3⟩
    exact ⟨rfl, ob :: F', ⟨lx', F', g1, rfl⟩, g2, fun z hz => by
      rcases List.mem_cons.1 hz with rfl | hz
      · exact .inl (by simp)
      · exact (g3 z hz).imp (fun h => by simp [h]) id⟩
end Go.Proofs.YtkbpnnbdfikjhaaGreat

/- A heap and an office are set up. -/
namespace Go.Proofs.YtkbpnnbdfikjhaaGreat
open Go Go.Aw
set_option linter.unusedVariables false
set_option linter.unusedSimpArgs false
set_option maxRecDepth 10000

/-- of what is made nothing is known -/
theorem ACalls.forget {P : Program} {f : FuncId} {args : List AV} {σ : Sto} {Q : AV → Sto → Prop} (h : ACalls P f args σ Q) (hq : ∀ r σ', Q r σ' → Sub σ σ') : ACalls P f args σ (fun r σ' => r = .any ∧ σ' = σ) := fun w vs hs hr =>
  (h w vs hs hr).mono fun _ w' ⟨v, r, σ', he, q, hs', hr', hx⟩ =>
    ⟨v, .any, σ, he, ⟨rfl, rfl⟩, hs'.sub (hq r σ' q), .any v, hx.trans ((hq r σ' q).ext w') hs.dom⟩

def Hp.laid (n : Int) : Hp := ⟨[(1, ⟨List.replicate n.toNat 0, ⟨#[]⟩⟩)], 1, false, 0⟩

theorem field_spec (σ : Sto) (c : Cfg) (hc : c.right = true) : ACalls Tryz.prog 8 [.agg (rowC c)] σ (fun r σ' => ∃ hb m bs, r = .ptr hb 0 ∧ HpAt σ' hb m bs (Hp.laid c.size) ∧ Sub σ σ' ∧ ∀ z ∈ hb :: m :: bs, σ z = none) := by
  obtain ⟨h1, h2, h3, h4, h5⟩ := c.bounds hc
  refine ACalls.q fun q hq => fn_of Tab.mixed Tryz.func8 rfl rfl rfl ?_
  simp -implicitDefEqProofs
  refine alloc fun b1 hb1 => ?_
  simp -implicitDefEqProofs
  refine (new_heap_spec _).mono ?_
  rintro r σ1 ⟨hb, m, rfl, hhb, hm, hH, hs1⟩
  have e1 := hs1 b1 _ (by simp [Sto.set]; rfl)
  simp -implicitDefEqProofs [e1]
  refine (size_spec _ c hc).mono ?_
  rintro r σ' ⟨rfl, rfl⟩
  simp -implicitDefEqProofs
  refine (make_spec _ hb m [] _ hH c.size ⟨#[]⟩ (by simp only [Cfg.size]; omega) (by simp only [Cfg.size]; omega) (by simp) (by simp [hfind])).mono ?_
  rintro r σ2 ⟨rfl, b2, hb2, hH2, ho⟩
  have hn1 : σ b1 = none := hb1
  have hsub : ∀ z o, σ z = some o → σ2 z = some o := fun z o hz => by
    have h1 := sub_set' (o := .cells (rowC c)) (Sub.refl σ) hb1 z o hz
    have h2 := hs1 z o h1
    refine ho z o (fun hin => ?_) h2
    simp only [List.mem_cons, List.not_mem_nil, or_false] at hin
    rcases hin with rfl | rfl
    · rw [hhb] at h1; cases h1
    · rw [hm] at h1; cases h1
  have nn : ∀ z, (σ.set b1 (.cells (rowC c))) z = none → σ z = none := fun z hz => by
    cases hσ : σ z with
    | none => rfl
    | some o => rw [set_ne (ne_of hσ hb1), hσ] at hz; cases hz
  simp -implicitDefEqProofs
  refine hq _ _ ⟨hb, m, [] ++ [b2], rfl, hH2, hsub, fun z hz => ?_⟩
  simp only [List.nil_append, List.mem_cons, List.not_mem_nil, or_false] at hz
  rcases hz with rfl | rfl | rfl
  · exact nn _ hhb
  · exact nn _ hm
  · cases hσ : σ z with
    | none => rfl
    | some o =>
      have h1 := sub_set' (o := .cells (rowC c)) (Sub.refl σ) hb1 z o hσ
      have h2 := hs1 z o h1
      rw [hb2] at h2; cases h2

/-- of a block less is claimed -/
theorem St.less {σ : Sto} {w : World} {b : Nat} {cs : List AV} (hs : St σ w) (hb : σ b = some (.cells cs)) : St (σ.set b (.cells [])) w ∧ Ext σ w (σ.set b (.cells [])) w := by
  have hx : Ext σ w (σ.set b (.cells [])) w := by
    refine ⟨Nat.le_refl _, fun z _ hn => ⟨rfl, ?_⟩, fun z m hm => ⟨fun _ _ => rfl, .inr ⟨m, Nat.le_refl _, ?_⟩⟩, fun z vs ty fr hv => ⟨vs, hv, rfl⟩, rfl, rfl⟩
    · rw [set_ne (fun e => by rw [e, hb] at hn; cases hn)]; exact hn
    · rw [set_ne (fun e => by rw [e, hb] at hm; cases hm)]; exact hm
  obtain ⟨vs, ty, h1, h2, h3⟩ := hs.cells b cs hb
  refine ⟨hs.by_blocks hx (fun z o hz => ?_) fun z o hz => ?_, hx⟩
  · by_cases hzb : z = b
    · rw [hzb]; exact hs.dom b _ hb
    · rw [set_ne hzb] at hz; exact hs.dom z o hz
  · by_cases hzb : z = b
    · subst hzb
      simp only [Sto.set, if_true, Option.some.injEq] at hz
      exact .inr (.inl ⟨[], hz.symm, vs, ty, h1, by simp, by simp⟩)
    · rw [set_ne hzb] at hz; exact .inl ⟨hz, rfl⟩
/-- what is made is a block of which nothing is known -/
theorem ACalls.blank {P : Program} {f : FuncId} {args : List AV} {σ : Sto} {Q : AV → Sto → Prop} (h : ACalls P f args σ Q) (hq : ∀ r σ', Q r σ' → ∃ b cs, r = .ptr b 0 ∧ σ b = none ∧ σ' b = some (.cells cs) ∧ Sub σ σ') :
    ACalls P f args σ (fun r σ' => ∃ b, r = .ptr b 0 ∧ σ b = none ∧ σ' = σ.set b (.cells [])) := fun w vs hs hr =>
  (h w vs hs hr).mono fun _ w' ⟨v, r, σ', he, q, hs', hr', hx⟩ => by
    obtain ⟨b, cs, rfl, hb, hb', hsub⟩ := hq r σ' q
    obtain ⟨g1, g2⟩ := St.less hs' hb'
    have hsub2 : Sub (σ.set b (.cells [])) (σ'.set b (.cells [])) := sub_set2 hsub
    exact ⟨v, .ptr b 0, σ.set b (.cells []), he, ⟨b, rfl, hb, rfl⟩, g1.sub hsub2, (hr'.mono g2).mono (hsub2.ext w'), (hx.trans g2 hs.dom).trans (hsub2.ext w') hs.dom⟩

theorem of_spec (σ : Sto) : ACalls Tryz.prog 41 [.slice .clip []] σ (fun r σ' => ∃ b, r = .ptr b 0 ∧ σ b = none ∧ σ' = σ.set b (.cells [])) := by
  refine ACalls.blank (Q := fun r σ' => ∃ b cs, r = .ptr b 0 ∧ σ b = none ∧ σ' b = some (.cells cs) ∧ Sub σ σ') (ACalls.q fun q hq => fn_of Tab.mixed Tryz.func41 rfl rfl rfl ?_) fun _ _ h => h
  simp -implicitDefEqProofs
  refine alloc fun b1 hb1 => ?_
  simp -implicitDefEqProofs
  refine wpc_loop (fun e s => ∃ b, e.length = 19 ∧ gt e 3 = .ptr b 0 ∧ gt e 9 = i64 0 ∧ gt e 10 = i64 0 ∧ Aw.Sub σ s ∧ σ b = none ∧ s b = some (.cells [.sc (.map none)])) (fun _ _ => 0) ⟨b1, rfl, rfl, rfl, rfl, sub_set' (Sub.refl σ) hb1, hb1, by simp [Sto.set]⟩ ?_
  rintro e s ⟨b, hl, g3, g9, g10, hs, hb, hsb⟩
  simp -implicitDefEqProofs [hl, g3, g9, g10]
  exact hq _ _ ⟨b, _, rfl, hb, hsb, hs⟩

theorem pend_spec (σ : Sto) (n : Int) : ACalls Tryz.prog 42 [i64 n] σ (fun r σ' => ∃ b, r = .ptr b 0 ∧ σ b = none ∧ σ' = σ.set b (.cells [])) := by
  refine ACalls.blank (Q := fun r σ' => ∃ b cs, r = .ptr b 0 ∧ σ b = none ∧ σ' b = some (.cells cs) ∧ Sub σ σ') (ACalls.q fun q hq => fn_of Tab.mixed Tryz.func42 rfl rfl rfl ?_) fun _ _ h => h
  simp -implicitDefEqProofs
  intro b1 hb1
  refine alloc fun b2 hb2 => ?_
  simp -implicitDefEqProofs
  exact hq _ _ ⟨b2, _, rfl, (none_of_set hb2).2, by simp [Sto.set]; rfl, sub_set' (sub_set' (Sub.refl σ) hb1) hb2⟩

theorem model_spec (σ : Sto) (c : Cfg) : ACalls Tryz.prog 29 [.agg (rowC c)] σ (fun r σ' => ∃ b, r = .ptr b 0 ∧ σ b = none ∧ σ' = σ.set b (.cells [])) := by
  refine ACalls.blank (Q := fun r σ' => ∃ b cs, r = .ptr b 0 ∧ σ b = none ∧ σ' b = some (.cells cs) ∧ Sub σ σ') (ACalls.q fun q hq => fn_of Tab.mixed Tryz.func29 rfl rfl rfl ?_) fun _ _ h => h
  simp -implicitDefEqProofs
  refine alloc fun b1 hb1 => ?_
  simp -implicitDefEqProofs
  refine drawW [0, 3] [1001, 1004] (b1 + 1) [0, 2, 3, 1, 4, 5, 6, 7, 8] (by kernel_rfl) ?_
  simp -implicitDefEqProofs
  refine readB (st := [1001, 1004]) (.agg (rowC c)) b1 (rowC c) (by omega) (by simp [Sto.set]) (fun σ l h => by simp -implicitDefEqProofs [h]) ?_
  simp -implicitDefEqProofs
  refine readB (st := [1001, 1004]) (i64 c.cap) b1 (rowC c) (by omega) (by simp [Sto.set]) (fun σ l h => by simp -implicitDefEqProofs [h]) ?_
  simp -implicitDefEqProofs
  refine alc [] (fun σ k hk => ?_) fun b2 hb2 => ?_
  · simp -implicitDefEqProofs
    refine (of_spec σ).mono ?_
    rintro r σ' ⟨b, rfl, h1, rfl⟩
    exact hk b h1
  simp -implicitDefEqProofs
  refine alc [] (fun σ k hk => ?_) fun b3 hb3 => ?_
  · simp -implicitDefEqProofs
    refine (pend_spec σ c.cap).mono ?_
    rintro r σ' ⟨b, rfl, h1, rfl⟩
    exact hk b h1
  simp -implicitDefEqProofs
  intro b4 hb4
  refine alloc fun b5 hb5 => ?_
  simp -implicitDefEqProofs
  have s1 := sub_set' (o := .cells (rowC c)) (Sub.refl σ) hb1
  have s2 := sub_set' (o := .cells []) s1 hb2
  have s3 := sub_set' (o := .cells []) s2 hb3
  have s4 := sub_set' (o := .map []) s3 hb4
  refine hq _ _ ⟨b5, _, rfl, s4.none hb5, by simp [Sto.set]; rfl, sub_set' s4 hb5⟩

theorem popen_spec (σ : Sto) (c : Cfg) (hc : c.right = true) : ACalls Tryz.prog 9 [.agg (rowC c)] σ (fun r σ' => ∃ ob mo, r = .ptr ob 0 ∧ σ ob = none ∧ OffAt σ' ob c ⟨0, []⟩ mo (.slice .clip []) [] ∧ Sub σ σ') := by
  refine ACalls.q fun q hq => fn_of Tab.mixed Tryz.func9 rfl rfl rfl ?_
  simp -implicitDefEqProofs
  refine alloc fun b1 hb1 => ?_
  simp -implicitDefEqProofs
  refine (cright_spec _ c).mono ?_
  rintro r σ' ⟨rfl, rfl⟩
  simp -implicitDefEqProofs [hc]
  refine drawW [0, 1] [1002] (b1 + 1) (List.range 6) (by kernel_rfl) ?_
  simp -implicitDefEqProofs
  refine readB (st := [1002]) (.agg (rowC c)) b1 (rowC c) (by omega) (by simp [Sto.set]) (fun σ l h => by simp -implicitDefEqProofs [h]) ?_
  simp -implicitDefEqProofs
  refine readB (st := [1002]) (.agg (rowC c)) b1 (rowC c) (by omega) (by simp [Sto.set]) (fun σ l h => by simp -implicitDefEqProofs [h]) ?_
  simp -implicitDefEqProofs
  refine alc [] (fun σ k hk => ?_) fun b2 hb2 => ?_
  · simp -implicitDefEqProofs
    refine (model_spec σ c).mono ?_
    rintro r σ' ⟨b, rfl, h1, rfl⟩
    exact hk b h1
  simp -implicitDefEqProofs
  refine alloc fun b3 hb3 => ?_
  simp -implicitDefEqProofs
  have s1 := sub_set' (o := .cells (rowC c)) (Sub.refl σ) hb1
  have s2 := sub_set' (o := .cells []) s1 hb2
  exact hq _ _ ⟨b3, .ptr b2 0, rfl, s2.none hb3, ⟨by simp [Sto.set], .inl ⟨rfl, rfl, rfl⟩, by simp⟩, sub_set' s2 hb3⟩
end Go.Proofs.YtkbpnnbdfikjhaaGreat
