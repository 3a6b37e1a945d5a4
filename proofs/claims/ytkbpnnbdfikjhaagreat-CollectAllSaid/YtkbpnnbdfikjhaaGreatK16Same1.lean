/- Rows of pairs, compared; what a view told. -/
import Derived.Test.YtkbpnnbdfikjhaaGreatK15View3
namespace Go.Proofs.YtkbpnnbdfikjhaaGreat
open Go Go.Aw
set_option linter.unusedVariables false
set_option linter.unusedSimpArgs false
set_option maxRecDepth 10000

theorem same_spec (σ : Sto) (t1 t2 : Tok) (a b : List Pr) (ha : a.length ≤ 1000) (hb : b.length ≤ 1000) :
    ACalls Tryz.prog 15 [.slice t1 (a.map encPr), .slice t2 (b.map encPr)] σ (fun r σ' => r = boo (decide (a = b)) ∧ σ' = σ) := by
  by_cases hl : a.length = b.length
  · refine ACalls.q fun q hq => fn_of Tab.mixed Tryz.func15 rfl rfl rfl ?_
    simp -implicitDefEqProofs [hl]
    refine wpc_loop (fun e s => ∃ i : Nat, i ≤ a.length ∧ e.length = 26 ∧ gt e 0 = .slice t1 (a.map encPr) ∧ gt e 1 = .slice t2 (b.map encPr) ∧ gt e 5 = i64 i ∧ a.take i = b.take i ∧ s = σ)
      (fun e _ => a.length - (intAt e 5).toNat) ⟨0, by omega, rfl, rfl, rfl, rfl, rfl, rfl⟩ ?_
    rintro e s ⟨i, hi, hle, g0, g1, g5, hp, rfl⟩
    by_cases hlt : i < a.length
    · have hlt' : i < b.length := by omega
      have e1 : IntKind.i64.wrap ((i : Int) + 1) = (i : Int) + 1 := wrap_i64 (by omega) (by omega)
      simp -implicitDefEqProofs [hle, g0, g1, g5, hlt]
      refine draw (by kernel_rfl) ?_
      simp -implicitDefEqProofs [hle, g0, g1, g5, hlt, hlt']
      split
      · rename_i hne
        refine hq _ _ ⟨?_, rfl⟩
        have : ¬ a = b := by
          rintro rfl
          simp at hne
        simp [this]
      · rename_i hne
        have hab : a[i] = b[i] := Prod.ext (Classical.byContradiction fun h => hne (.inl h)) (Classical.byContradiction fun h => hne (.inr h))
        refine ⟨⟨i + 1, by omega, by simpa using e1, ?_⟩, ?_⟩
        · rw [List.take_add_one, List.take_add_one, hp, List.getElem?_eq_getElem hlt, List.getElem?_eq_getElem hlt', hab]
        · rw [e1]
          simp [intAt, hle, g5]
          omega
    · obtain rfl : i = a.length := by omega
      simp -implicitDefEqProofs [hle, g0, g1, g5]
      refine hq _ _ ⟨?_, rfl⟩
      have : a = b := by rw [List.take_length, hl, List.take_length] at hp; exact hp
      simp [this]
  · refine ACalls.q fun q hq => fn_of Tab.mixed Tryz.func15 rfl rfl rfl ?_
    simp -implicitDefEqProofs [hl, show ¬ (a.length : Int) = b.length by omega]
    exact hq _ _ ⟨by simp; rintro rfl; exact hl rfl, rfl⟩

theorem told_spec (σ : Sto) (b : Nat) (c : Cfg) (x : Vw) (F : List Nat) (h : VwAt σ b c x F) (hl : x.pairs.length ≤ 1000) (hd : x.st = .done) :
    ACalls Tryz.prog 16 [.ptr b 0] σ (fun r σ' => ∃ t, r = .slice t (x.pairs.map encPr) ∧ Sub σ σ') := by
  have hr := fun σ h => vwresult_spec σ b c x F h hl
  simp only [hd, VSt.num, if_true] at hr
  refine ACalls.q fun q hq => fn_of Tab.mixed Tryz.func16 rfl rfl rfl ?_
  simp -implicitDefEqProofs
  refine (hr _ h).mono ?_
  rintro r σ' ⟨⟨t, rfl⟩, rfl⟩
  simp -implicitDefEqProofs
  refine alloc fun b1 hb1 => ?_
  simp -implicitDefEqProofs
  exact hq _ _ ⟨t, rfl, sub_set' (Sub.refl _) hb1⟩
end Go.Proofs.YtkbpnnbdfikjhaaGreat

/- Short rows. -/
namespace Go.Proofs.YtkbpnnbdfikjhaaGreat
open Go Go.Aw
set_option linter.unusedVariables false
set_option linter.unusedSimpArgs false
set_option maxRecDepth 10000

theorem app_pair {σ s : Sto} {tok : Tok} {o : List Pr} {a b : ByteArray} {K : AV → Sto → Prop} (ho : Go.Aw.Own s tok o.length 2) (hs : Sub σ s) (hf : ∀ z, fp tok = some z → σ z = none) (hlen : o.length ≤ 1000)
    (hK : ∀ tok' s', Go.Aw.Own s' tok' (o ++ [(a, b)]).length 2 → Sub σ s' → (∀ z, fp tok' = some z → σ z = none) → K (.slice tok' ((o ++ [(a, b)]).map encPr)) s') :
    aAppend Tryz.prog 46 46 (.slice tok (o.map encPr)) (.slice .clip [[str a, str b]]) s K := by
  refine aAppend_own Tab.elem46 (by omega) (by simp; omega) (by intro r hr; obtain ⟨x, _, rfl⟩ := List.mem_map.1 hr; rfl) (by simp) (by simp) (own_of ho (by simp) fun _ _ => rfl) fun tok2 s2 ho2 hm => ?_
  have := hK tok2 s2 (own_of ho2 (by simp) fun _ _ => rfl) (fun z o' hz => hm.keep z o' (fun e => by rw [hf z e] at hz; cases hz) (hs z o' hz)) (fun z hz => by
    rcases hm.fresh z hz with h | h
    · exact hf z h
    · exact hs.none h)
  simpa using this

/-- the others -/
def othr (k : ByteArray) (l : List Pr) : List Pr := l.filter fun p => decide (p.1 ≠ k)
theorem othr_succ {k : ByteArray} {l : List Pr} {i : Nat} (h : i < l.length) : othr k (l.take (i + 1)) = othr k (l.take i) ++ (if l[i].1 = k then [] else [l[i]]) := by
  unfold othr
  rw [List.take_add_one, List.getElem?_eq_getElem h, Option.toList_some, List.filter_append]
  by_cases e : l[i].1 = k <;> simp [e]
theorem othr_len (k : ByteArray) (l : List Pr) : (othr k l).length ≤ l.length := List.length_filter_le _ _
theorem perm_end {o x : List Pr} {p : Pr} (h : o.Perm x) : (o ++ [p]).Perm (p :: x) := List.perm_append_comm.trans (h.cons p)

structure PutI (σ : Sto) (t : Tok) (l : List Pr) (k v : ByteArray) (e : Env) (s : Sto) (i : Nat) (d : Bool) (tok : Tok) (o : List Pr) : Prop where
  le : i ≤ l.length
  hl : e.length = 57
  g0 : gt e 0 = .slice t (l.map encPr)
  g1 : gt e 1 = str k
  g2 : gt e 2 = str v
  g7 : gt e 7 = .slice tok (o.map encPr)
  g8 : gt e 8 = boo d
  g9 : gt e 9 = i64 i
  own : Go.Aw.Own s tok o.length 2
  pm : o.Perm ((if d = true then [(k, v)] else []) ++ othr k (l.take i))
  sub : Sub σ s
  fr : ∀ z, fp tok = some z → σ z = none

def PutJ (σ : Sto) (t : Tok) (l : List Pr) (k v : ByteArray) (e : Env) (s : Sto) : Prop := ∃ i d tok o, PutI σ t l k v e s i d tok o

theorem rput_spec (σ : Sto) (t : Tok) (l : List Pr) (k v : ByteArray) (hlen : l.length ≤ 200) :
    ACalls Tryz.prog 18 [.slice t (l.map encPr), str k, str v] σ (fun r σ' => (∃ (t' : Tok) (l' : List Pr), r = .slice t' (l'.map encPr) ∧ l'.Perm ((k, v) :: othr k l)) ∧ Sub σ σ') := by
  refine ACalls.q fun q hq => fn_of Tab.mixed Tryz.func18 rfl rfl rfl ?_
  simp -implicitDefEqProofs
  refine wpc_loop (PutJ σ t l k v)
    (fun e _ => l.length - (intAt e 9).toNat) ?_ ?_
  · exact ⟨0, false, .clip, [], ⟨by omega, rfl, rfl, rfl, rfl, rfl, rfl, rfl, trivial, by simp [othr], Sub.refl σ, by simp [fp]⟩⟩
  rintro e s ⟨i, d, tok, o, ⟨hi, hl, g0, g1, g2, g7, g8, g9, ho, hpm, hs, hf⟩⟩
  have hle : o.length ≤ i + (if d = true then 1 else 0) := by
    have h1 := hpm.length_eq
    have h2 := othr_len k (l.take i)
    simp only [List.length_take] at h2
    rw [h1, List.length_append]
    cases d <;> simp <;> omega
  by_cases hlt : i < l.length
  · have e1 : IntKind.i64.wrap ((i : Int) + 1) = (i : Int) + 1 := wrap_i64 (by omega) (by omega)
    have hμ : l.length - (i + 1) < l.length - i := by omega
    have fin : ∀ (e' : Env) (s' : Sto) (d' : Bool) (tok' : Tok) (o' : List Pr), e'.length = 57 → gt e' 0 = .slice t (l.map encPr) → gt e' 1 = str k → gt e' 2 = str v → gt e' 7 = .slice tok' (o'.map encPr) → gt e' 8 = boo d' → gt e' 9 = i64 (IntKind.i64.wrap ((i : Int) + 1)) →
        Go.Aw.Own s' tok' o'.length 2 → o'.Perm ((if d' = true then [(k, v)] else []) ++ (othr k (l.take i) ++ (if l[i].1 = k then [] else [l[i]]))) → Sub σ s' → (∀ z, fp tok' = some z → σ z = none) → PutJ σ t l k v e' s' := fun e' s' d' tok' o' f0 f1 f2 f3 f4 f5 f6 f7 f8 f9 f10 =>
      ⟨i + 1, d', tok', o', ⟨by omega, f0, f1, f2, f3, f4, f5, by rw [f6, e1]; simp, f7, by rw [othr_succ hlt]; exact f8, f9, f10⟩⟩
    have hol : o.length ≤ 500 := by
      have : (if d = true then 1 else 0) ≤ 1 := by cases d <;> simp
      omega
    have hp : encPr l[i] = [str l[i].1, str l[i].2] := rfl
    cases d
    · simp only [Bool.false_eq_true, if_false, Nat.add_zero, List.nil_append] at hle hpm
      by_cases hk : l[i].1 = k
      · have hpk : encPr l[i] = [str k, str l[i].2] := by simp [encPr, hk]
        cases hb : Op.bytesLess k.toList k.toList
        · simp -implicitDefEqProofs [hl, g0, g1, g2, g7, g8, g9, hlt, hpk, hb]
          refine app_pair ho hs hf (by omega) fun tok' s' ho' hs' hf' => ?_
          generalize hpo : o ++ [(k, v)] = o1 at ho' ⊢
          simp -implicitDefEqProofs [hl, g0, g1, g2, g8, g9, hlt, hpk]
          refine ⟨fin _ _ true tok' o1 ?_ ?_ ?_ ?_ ?_ ?_ ?_ ho' (by rw [← hpo]; simpa [hk] using perm_end hpm) hs' hf', ?_⟩
          all_goals simp [intAt, hl, g0, g1, g2, g8, g9, e1]
          omega
        · simp -implicitDefEqProofs [hl, g0, g1, g2, g7, g8, g9, hlt, hpk, hb]
          refine ⟨fin _ _ false tok o ?_ ?_ ?_ ?_ ?_ ?_ ?_ ho (by simpa [hk] using hpm) hs hf, ?_⟩
          all_goals simp [intAt, hl, g0, g1, g2, g7, g8, g9, e1]
          omega
      · cases hb : Op.bytesLess l[i].1.toList k.toList
        · simp -implicitDefEqProofs [hl, g0, g1, g2, g7, g8, g9, hlt, hk, hb]
          refine app_pair ho hs hf (by omega) fun tok' s' ho' hs' hf' => ?_
          generalize hpo : o ++ [(k, v)] = o1 at ho' ⊢
          have hlo : o1.length ≤ i + 1 := by rw [← hpo]; simp; omega
          simp -implicitDefEqProofs [hl, g0, g1, g2, g8, g9, hlt, hk]
          refine app_pair ho' hs' hf' (by omega) fun tok2 s2 ho2 hs2 hf2 => ?_
          simp -implicitDefEqProofs [hl, g0, g1, g2, g8, g9]
          refine ⟨fin _ _ true tok2 (o1 ++ [(l[i].1, l[i].2)]) ?_ ?_ ?_ ?_ ?_ ?_ ?_ ho2 (by rw [← hpo]; simpa [hk] using (perm_end hpm).append_right [(l[i].1, l[i].2)]) hs2 hf2, ?_⟩
          all_goals simp [intAt, hl, g0, g1, g2, g8, g9, e1]
          omega
        · simp -implicitDefEqProofs [hl, g0, g1, g2, g7, g8, g9, hlt, hk, hb]
          refine app_pair ho hs hf (by omega) fun tok' s' ho' hs' hf' => ?_
          simp -implicitDefEqProofs [hl, g0, g1, g2, g8, g9]
          refine ⟨fin _ _ false tok' (o ++ [(l[i].1, l[i].2)]) ?_ ?_ ?_ ?_ ?_ ?_ ?_ ho' (by simpa [hk] using hpm.append_right [(l[i].1, l[i].2)]) hs' hf', ?_⟩
          all_goals simp [intAt, hl, g0, g1, g2, g8, g9, e1]
          omega
    · simp only [if_true] at hle hpm
      by_cases hk : l[i].1 = k
      · have hpk : encPr l[i] = [str k, str l[i].2] := by simp [encPr, hk]
        simp -implicitDefEqProofs [hl, g0, g1, g2, g7, g8, g9, hlt, hpk]
        refine ⟨fin _ _ true tok o ?_ ?_ ?_ ?_ ?_ ?_ ?_ ho (by simpa [hk] using hpm) hs hf, ?_⟩
        all_goals simp [intAt, hl, g0, g1, g2, g7, g8, g9, e1]
        omega
      · simp -implicitDefEqProofs [hl, g0, g1, g2, g7, g8, g9, hlt, hk]
        refine app_pair ho hs hf (by omega) fun tok' s' ho' hs' hf' => ?_
        simp -implicitDefEqProofs [hl, g0, g1, g2, g8, g9]
        refine ⟨fin _ _ true tok' (o ++ [(l[i].1, l[i].2)]) ?_ ?_ ?_ ?_ ?_ ?_ ?_ ho' (by simpa [hk] using hpm.append_right [(l[i].1, l[i].2)]) hs' hf', ?_⟩
        all_goals simp [intAt, hl, g0, g1, g2, g8, g9, e1]
        omega
  · obtain rfl : i = l.length := by omega
    cases d
    · simp -implicitDefEqProofs [hl, g0, g1, g2, g7, g8, g9]
      refine app_pair ho hs hf (by simp at hle; omega) fun tok' s' ho' hs' hf' => ?_
      simp -implicitDefEqProofs [hl]
      rw [List.take_length] at hpm
      exact hq _ _ ⟨⟨tok', o ++ [(k, v)], by simp, perm_end (by simpa using hpm)⟩, hs'⟩
    · simp -implicitDefEqProofs [hl, g0, g1, g2, g7, g8, g9]
      rw [List.take_length] at hpm
      exact hq _ _ ⟨⟨_, _, rfl, by simpa using hpm⟩, hs⟩
end Go.Proofs.YtkbpnnbdfikjhaaGreat

/- Short rows: all of them. -/
namespace Go.Proofs.YtkbpnnbdfikjhaaGreat
open Go Go.Aw
set_option linter.unusedVariables false
set_option linter.unusedSimpArgs false
set_option maxRecDepth 10000

abbrev encRow (r : Tok × List Ch) : List AV := [.slice r.1 (r.2.map encCh)]
def ChShort (ch : Ch) : Prop := ch.key.size ≤ 50 ∧ ch.value.size ≤ 100
def RowShort (r : Tok × List Ch) : Prop := r.2.length ≤ 6 ∧ ∀ ch ∈ r.2, ChShort ch

/-- keys that are put -/
def putK (S : List ByteArray) (k : ByteArray) : List ByteArray := if (S.any fun t => decide (t = k)) = true then S else S ++ [k]
theorem any_mem {S : List ByteArray} {k : ByteArray} : (S.any fun t => decide (t = k)) = true ↔ k ∈ S := by simp
def keysL (l : List Ch) : List ByteArray := l.foldl (fun S ch => putK S ch.key) []
theorem keysL_snoc (l : List Ch) (ch : Ch) : keysL (l ++ [ch]) = putK (keysL l) ch.key := by simp [keysL]
theorem putK_mem {S : List ByteArray} {k t : ByteArray} : t ∈ putK S k ↔ t = k ∨ t ∈ S := by
  unfold putK
  split
  · rename_i h
    exact ⟨.inr, fun h' => h'.elim (fun e => by rw [e]; exact any_mem.1 h) id⟩
  · simp [or_comm]
theorem putK_nodup {S : List ByteArray} {k : ByteArray} (h : S.Nodup) : (putK S k).Nodup := by
  unfold putK
  split
  · exact h
  · rename_i hk
    exact List.nodup_append.2 ⟨h, by simp, fun a ha b hb => by
      rw [List.mem_singleton.1 hb]
      exact fun e => hk (any_mem.2 (by rw [← e]; exact ha))⟩
/-- pairs that have these keys -/
structure PK (o : List Pr) (S : List ByteArray) : Prop where
  nd : (o.map (·.1)).Nodup
  ns : S.Nodup
  mem : ∀ t, t ∈ o.map (·.1) ↔ t ∈ S
theorem PK.put {o o' : List Pr} {S : List ByteArray} {k v : ByteArray} (h : PK o S) (hp : o'.Perm ((k, v) :: othr k o)) : PK o' (putK S k) := by
  have h1 := hp.map (·.1)
  have h2 : ∀ t, t ∈ (othr k o).map (·.1) ↔ t ≠ k ∧ t ∈ o.map (·.1) := fun t => by
    simp only [othr, List.mem_map, List.mem_filter, decide_eq_true_eq]
    exact ⟨fun ⟨p, ⟨a, b⟩, e⟩ => ⟨e ▸ b, p, a, e⟩, fun ⟨b, p, a, e⟩ => ⟨p, ⟨a, e ▸ b⟩, e⟩⟩
  have h3 : ((othr k o).map (·.1)).Nodup := h.nd.sublist (List.Sublist.map _ List.filter_sublist)
  refine ⟨h1.nodup_iff.2 ?_, putK_nodup h.ns, fun t => ?_⟩
  · rw [List.map_cons, List.nodup_cons]
    exact ⟨fun hin => ((h2 k).1 hin).1 rfl, h3⟩
  · rw [h1.mem_iff, List.map_cons, List.mem_cons, h2, h.mem, putK_mem]
    by_cases e : t = k <;> simp [e]
theorem nodup_len {α : Type} [DecidableEq α] : ∀ (a b : List α), a.Nodup → (∀ x ∈ a, x ∈ b) → a.length ≤ b.length
  | [], b, _, _ => by simp
  | x :: a, b, hn, hs => by
    have h1 := List.nodup_cons.1 hn
    have hx := hs x (by simp)
    have := nodup_len a (b.erase x) h1.2 fun y hy => (List.mem_erase_of_ne (fun e : y = x => h1.1 (by rw [← e]; exact hy))).2 (hs y (by simp [hy]))
    rw [List.length_erase_of_mem hx] at this
    have := List.length_pos_of_mem hx
    simp only [List.length_cons]; omega
theorem PK.len {o : List Pr} {S : List ByteArray} (h : PK o S) : o.length = S.length := by
  have h1 := nodup_len _ S h.nd fun x hx => (h.mem x).1 hx
  have h2 := nodup_len S _ h.ns fun x hx => (h.mem x).2 hx
  simp only [List.length_map] at h1 h2
  omega
/-- all changes of rows -/
def allC (rows : List (Tok × List Ch)) : List Ch := rows.flatMap (·.2)
theorem allC_succ {rows : List (Tok × List Ch)} {i : Nat} {r : Tok × List Ch} (h : rows[i]? = some r) : allC (rows.take (i + 1)) = allC (rows.take i) ++ r.2 := by
  unfold allC
  rw [List.take_add_one, h, Option.toList_some, List.flatMap_append]
  simp only [List.flatMap_cons, List.flatMap_nil, List.append_nil]

structure ShI (σ : Sto) (c : Cfg) (t : Tok) (rows : List (Tok × List Ch)) (e : Env) (s : Sto) (i n : Nat) (b1 : Nat) (tok : Tok) (o : List Pr) (S : List Ch) : Prop where
  hl : e.length = 76
  g1 : gt e 1 = .slice t (rows.map encRow)
  g2 : gt e 2 = .ptr b1 0
  g5 : gt e 5 = .slice tok (o.map encPr)
  g6 : gt e 6 = i64 i
  hb : s b1 = some (.cells (rowC c))
  le : i ≤ rows.length ∧ i ≤ 20
  len : o.length ≤ n
  pk : PK o (keysL S)
  sub : Sub σ s
  all : ∀ p r, p < i → rows[p]? = some r → RowShort r
def ShJ (σ : Sto) (c : Cfg) (t : Tok) (rows : List (Tok × List Ch)) (e : Env) (s : Sto) : Prop := ∃ i b1 tok o, ShI σ c t rows e s i (6 * i) b1 tok o (allC (rows.take i))
def ShK (σ : Sto) (c : Cfg) (t : Tok) (rows : List (Tok × List Ch)) (i b1 : Nat) (r : Tok × List Ch) (e : Env) (s : Sto) : Prop := ∃ j tok o, ShI σ c t rows e s i (6 * i + j) b1 tok o (allC (rows.take i) ++ r.2.take j) ∧ gt e 7 = i64 j ∧ j ≤ r.2.length ∧ ∀ p ch, p < j → r.2[p]? = some ch → ChShort ch

theorem short_spec (σ : Sto) (c : Cfg) (t : Tok) (rows : List (Tok × List Ch)) :
    ACalls Tryz.prog 6 [.agg (rowC c), .slice t (rows.map encRow)] σ (fun r σ' => (∃ b, r = boo b ∧ (b = true → rows.length ≤ 12 ∧ (∀ r ∈ rows, RowShort r) ∧ ((keysL (allC rows)).length : Int) ≤ c.shelves)) ∧ Sub σ σ') := by
  refine ACalls.q fun q hq => fn_of Tab.mixed Tryz.func6 rfl rfl rfl ?_
  simp -implicitDefEqProofs
  refine alloc fun b1 hb1 => ?_
  simp -implicitDefEqProofs
  refine wpc_loop (ShJ σ c t rows) (fun e _ => 20 - (intAt e 6).toNat) ?_ ?_
  · exact ⟨0, b1, .clip, [], ⟨rfl, rfl, rfl, rfl, rfl, by simp [Sto.set], by omega, by simp, ⟨by simp, by simp [keysL, allC], by simp [keysL, allC]⟩, sub_set' (Sub.refl σ) hb1, by simp⟩⟩
  rintro e s ⟨i, b1, tok, o, ⟨hl, g1, g2, g5, g6, hb, hle, hlen, hpk, hs, hall⟩⟩
  by_cases hgo : i < rows.length ∧ i < 20
  · have hlt := hgo.1
    have h20 : (i : Int) < 20 := by omega
    have hri : rows[i]? = some rows[i] := List.getElem?_eq_getElem hlt
    by_cases h6 : 6 < rows[i].2.length
    · simp -implicitDefEqProofs [hl, g1, g2, g5, g6, hlt, h20, show ((6 : Int) < rows[i].2.length) by omega]
      exact hq _ _ ⟨⟨false, rfl, by simp⟩, hs⟩
    · simp -implicitDefEqProofs [hl, g1, g2, g5, g6, hlt, h20, show ¬ ((6 : Int) < rows[i].2.length) by omega]
      refine wpc_loop (ShK σ c t rows i b1 rows[i]) (fun e _ => rows[i].2.length - (intAt e 7).toNat) ?_ ?_
      · exact ⟨0, tok, o, ⟨by simp [hl], by simp [hl, g1], by simp [hl, g2], by simp [hl, g5], by simp [hl, g6], hb, hle, hlen, by simpa using hpk, hs, hall⟩, by simp [hl], by omega, by simp⟩
      have g6o := g6
      rintro e s ⟨j, tok, o, ⟨hl, g1, g2, g5, g6, hb, hle, hlen, hpk, hs, hall⟩, g7, hj, hch⟩
      have e1 : IntKind.i64.wrap ((i : Int) + 1) = (i : Int) + 1 := wrap_i64 (by omega) (by omega)
      have e2 : IntKind.i64.wrap ((j : Int) + 1) = (j : Int) + 1 := wrap_i64 (by omega) (by omega)
      by_cases hjl : j < rows[i].2.length
      · have hcj : rows[i].2[j]? = some rows[i].2[j] := List.getElem?_eq_getElem hjl
        by_cases hk : rows[i].2[j].key.size ≤ 50
        · by_cases hv : rows[i].2[j].value.size ≤ 100
          · simp -implicitDefEqProofs [hl, g1, g2, g5, g6, g7, hlt, hjl, show ¬ ((50 : Int) < rows[i].2[j].key.size) by omega, show ¬ ((100 : Int) < rows[i].2[j].value.size) by omega]
            refine (rput_spec _ tok o _ _ (by omega)).mono ?_
            rintro r σ' ⟨⟨tok', o', rfl, ho'⟩, hs'⟩
            have hol : o'.length ≤ o.length + 1 := by
              have h1 := ho'.length_eq
              have h2 := othr_len rows[i].2[j].key o
              simp only [List.length_cons] at h1
              omega
            have hpk' : PK o' (keysL (allC (rows.take i) ++ rows[i].2.take (j + 1))) := by
              rw [List.take_add_one, hcj, Option.toList_some, ← List.append_assoc, keysL_snoc]
              exact hpk.put ho'
            simp -implicitDefEqProofs [hl, g1, g2, g6, g7, e2]
            refine ⟨⟨j + 1, tok', o', ⟨by simp [hl], by simp [hl, g1], by simp [hl, g2], by simp [hl], by simp [hl, g6], hs' _ _ hb, hle, by omega, hpk', hs.trans hs', hall⟩, by simp [hl], by omega, fun p ch hp hpc => ?_⟩, ?_⟩
            · rcases Nat.lt_or_eq_of_le (Nat.le_of_lt_succ hp) with hp | rfl
              · exact hch p ch hp hpc
              · rw [hcj] at hpc; cases hpc; exact ⟨hk, hv⟩
            · simp [intAt, hl, g7]
              omega
          · simp -implicitDefEqProofs [hl, g1, g2, g5, g6, g7, hlt, hjl, show ¬ ((50 : Int) < rows[i].2[j].key.size) by omega, show ((100 : Int) < rows[i].2[j].value.size) by omega]
            exact hq _ _ ⟨⟨false, rfl, by simp⟩, hs⟩
        · simp -implicitDefEqProofs [hl, g1, g2, g5, g6, g7, hlt, hjl, show ((50 : Int) < rows[i].2[j].key.size) by omega]
          exact hq _ _ ⟨⟨false, rfl, by simp⟩, hs⟩
      · obtain rfl : j = rows[i].2.length := by omega
        simp -implicitDefEqProofs [hl, g1, g2, g5, g6, g7, hlt]
        refine ⟨⟨i + 1, b1, tok, o, ⟨by simp [hl], by simp [hl, g1], by simp [hl, g2], by simp [hl, g5], by simp [hl, e1], hb, by omega, by omega, by rw [allC_succ hri]; rw [List.take_length] at hpk; exact hpk, hs, fun p r hp hpr => ?_⟩⟩, ?_⟩
        · rcases Nat.lt_or_eq_of_le (Nat.le_of_lt_succ hp) with hp | rfl
          · exact hall p r hp hpr
          · rw [hri] at hpr; cases hpr
            refine ⟨by omega, fun ch hch' => ?_⟩
            obtain ⟨p, hp, rfl⟩ := List.getElem_of_mem hch'
            exact hch p _ hp (List.getElem?_eq_getElem hp)
        · simp [intAt, hl, g6, g6o, e1]
          omega
  · by_cases h1 : i < rows.length
    · have h20 : i = 20 := by omega
      subst h20
      simp -implicitDefEqProofs [hl, g1, g2, g5, g6, h1, hb, show ((20 : Int) < rows.length) by omega, show ¬ ((rows.length : Int) ≤ 12) by omega]
      exact hq _ _ ⟨⟨false, rfl, by simp⟩, hs⟩
    · obtain rfl : i = rows.length := by omega
      by_cases h12 : rows.length ≤ 12
      · by_cases hsh : (o.length : Int) ≤ c.shelves
        · simp -implicitDefEqProofs [hl, g1, g2, g5, g6, hb, h12, show ((rows.length : Int) ≤ 12) by omega, hsh]
          refine hq _ _ ⟨⟨true, rfl, fun _ => ⟨h12, fun r hr => ?_, by have h := hpk.len; rw [List.take_length] at h; rw [← h]; exact hsh⟩⟩, hs⟩
          obtain ⟨p, hp, rfl⟩ := List.getElem_of_mem hr
          exact hall p _ hp (List.getElem?_eq_getElem hp)
        · simp -implicitDefEqProofs [hl, g1, g2, g5, g6, hb, h12, show ((rows.length : Int) ≤ 12) by omega, hsh]
          exact hq _ _ ⟨⟨false, rfl, by simp⟩, hs⟩
      · simp -implicitDefEqProofs [hl, g1, g2, g5, g6, hb, h12, show ¬ ((rows.length : Int) ≤ 12) by omega]
        exact hq _ _ ⟨⟨false, rfl, by simp⟩, hs⟩
end Go.Proofs.YtkbpnnbdfikjhaaGreat

/- One collection of nothing. -/
namespace Go.Proofs.YtkbpnnbdfikjhaaGreat
open Go Go.Aw
set_option linter.unusedVariables false
set_option linter.unusedSimpArgs false
set_option maxRecDepth 10000

def cW : Cfg := ⟨1, 1, 1, 0, 0, 0⟩
def orb : Nat → Hp × (Col × Off)
  | 0 => (Hp.laid 7, Col.new, ⟨0, []⟩)
  | 1 => ({ Hp.laid 7 with locked := true }, { Col.new with part := .epochs }, ⟨0, []⟩)
  | 2 => ({ Hp.laid 7 with locked := true }, { Col.new with part := .pins }, ⟨0, []⟩)
  | 3 => ({ Hp.laid 7 with locked := true }, { Col.new with part := .heads, pin := 1 }, ⟨0, []⟩)
  | 4 => ({ Hp.laid 7 with locked := true }, { Col.new with part := .unlocks }, ⟨0, []⟩)
  | _ => (Hp.laid 7, { Col.new with part := .done }, ⟨0, []⟩)
def IW (H : Hp) (s : Col × Off) : Prop := ∃ k, k ≤ 5 ∧ (H, s) = orb k

theorem words7 (l : Bool) : WordsOK { Hp.laid 7 with locked := l } := by
  intro b x hx w hw
  simp only [Hp.laid, hfind] at hx
  split at hx
  · cases hx
    have := List.eq_of_mem_replicate hw
    subst this; omega
  · cases hx
theorem goodW (ob : Nat) (mo : AV) : Good (colR cW ob mo) IW := by
  rintro H s ⟨k, hk, e⟩
  match k, hk with
  | 0, _ =>
    cases e
    refine ⟨words7 false, ⟨by simp [Col.new], by simp [cW], by simp [Col.new], by simp⟩, fun a ha => ?_⟩
    cases ha
    exact ⟨trivial, fun _ => ⟨_, _, _, rfl, ⟨by omega, by simp [Col.new]⟩, 1, by omega, rfl⟩⟩
  | 1, _ =>
    cases e
    refine ⟨words7 true, ⟨by simp [Col.new], by simp [cW], by simp [Col.new], by simp⟩, fun a ha => ?_⟩
    cases ha
    exact ⟨by simp [A.ok], fun _ => ⟨_, 0, _, rfl, ⟨by omega, by simp⟩, 2, by omega, rfl⟩⟩
  | 2, _ =>
    cases e
    refine ⟨words7 true, ⟨by simp [Col.new, cW], by simp [cW], by simp [Col.new], by simp⟩, fun a ha => ?_⟩
    cases ha
    exact ⟨by simp [A.ok, Cfg.pin, Col.new], fun _ => ⟨_, 0, _, rfl, ⟨by omega, by simp⟩, 3, by omega, rfl⟩⟩
  | 3, _ =>
    cases e
    refine ⟨words7 true, ⟨by simp [Col.new, cW], by simp [cW], by simp [Col.new], by simp⟩, fun a ha => ?_⟩
    cases ha
    exact ⟨by simp [A.ok, Cfg.head, cW], fun _ => ⟨_, 0, _, rfl, ⟨by omega, by simp⟩, 4, by omega, rfl⟩⟩
  | 4, _ =>
    cases e
    refine ⟨words7 true, ⟨by simp [Col.new, cW], by simp [cW], by simp [Col.new], by simp⟩, fun a ha => ?_⟩
    cases ha
    exact ⟨trivial, fun _ => ⟨_, 0, _, rfl, ⟨by omega, by simp⟩, 5, by omega, rfl⟩⟩
  | 5, _ =>
    cases e
    exact ⟨words7 false, ⟨by simp [Col.new, cW], by simp [cW], by simp [Col.new], by simp⟩, fun a ha => by cases ha⟩
theorem runW (ob : Nat) (mo : AV) : (colR cW ob mo).run 9 (Hp.laid 7, (Col.new, ⟨0, []⟩)) = (5, orb 5) := by rfl

theorem colnil_spec (σ : Sto) : ACalls Tryz.prog 12 [.sc (.pointer none)] σ (fun r σ' => ∃ xb, r = .ptr xb 0 ∧ σ xb = none ∧ σ' xb = some (.cells [.sc (.pointer none), i64 0, i64 0, u 0, u 0, u 0, u 0, i64 0]) ∧ Sub σ σ') := by
  refine ACalls.q fun q hq => fn_of Tab.mixed Tryz.func12 rfl rfl rfl ?_
  simp -implicitDefEqProofs
  refine alloc fun xb hxb => ?_
  simp -implicitDefEqProofs
  exact hq _ _ ⟨xb, rfl, hxb, by simp [Sto.set], sub_set' (Sub.refl _) hxb⟩
theorem actnil_spec (σ : Sto) : ACalls Tryz.prog 23 [.sc (.pointer none)] σ (fun r σ' => r = actAV none ∧ σ' = σ) := by
  refine ACalls.ro fun q hq => fn_of Tab.mixed Tryz.func23 rfl rfl rfl ?_
  simp -implicitDefEqProofs
  refine alloc fun b1 hb1 => ?_
  simp -implicitDefEqProofs
  refine hq _ _ (by simp [actAV]) ?_
  repeat first | exact Sub.refl _ | refine sub_set ?_ hb1
theorem actzero_spec (σ : Sto) (xb : Nat) (h : σ xb = some (.cells [.sc (.pointer none), i64 0, i64 0, u 0, u 0, u 0, u 0, i64 0])) : ACalls Tryz.prog 23 [.ptr xb 0] σ (fun r σ' => r = actAV none ∧ σ' = σ) := by
  refine ACalls.ro fun q hq => fn_of Tab.mixed Tryz.func23 rfl rfl rfl ?_
  simp -implicitDefEqProofs
  refine alloc fun b1 hb1 => ?_
  have n1 := ne_of h hb1
  simp -implicitDefEqProofs [h, n1]
  refine hq _ _ (by simp [actAV]) ?_
  repeat first | exact Sub.refl _ | refine sub_set ?_ hb1

theorem sub_of_eq {σ τ : Sto} {b : Nat} {o : AObj} (hb : σ b = none) (e : σ.set b o = τ) : Sub σ τ := e ▸ sub_set' (Sub.refl σ) hb

theorem awake_spec (σ : Sto) : ACalls Tryz.prog 7 [] σ (fun r σ' => r = boo true ∧ Sub σ σ') := by
  have hcW : cW.right = true := by rfl
  refine ACalls.q fun q hq => fn_of Tab.mixed Tryz.func7 rfl rfl rfl ?_
  simp -implicitDefEqProofs
  refine alloc fun b1 hb1 => ?_
  simp -implicitDefEqProofs
  refine (field_spec _ cW hcW).mono ?_
  rintro r σ1 ⟨hb, m, bs, rfl, hH, hs1, hn1⟩
  have e1 := hs1 b1 _ (by simp [Sto.set]; rfl)
  simp -implicitDefEqProofs [e1]
  refine (popen_spec _ cW hcW).mono ?_
  rintro r σ2 ⟨ob, mo, rfl, hob, ho, hs2⟩
  simp -implicitDefEqProofs
  refine (colnew_spec _ ob cW hcW _ mo _ _ ho).mono ?_
  rintro r σ3 ⟨xb, rfl, hxb, hc, hs3⟩
  simp -implicitDefEqProofs
  refine (alone_spec (colR cW ob mo) (colR_ok cW hcW ob mo) IW (goodW ob mo) _ hb m xb (Hp.laid 7, (Col.new, ⟨0, []⟩)) bs [ob] ?_ ⟨0, by omega, rfl⟩ 9 (by omega)).mono ?_
  · refine ⟨hH.of_sub (hs2.trans hs3), ⟨_, _, hc, rfl⟩, fun y hy => ?_⟩
    simp only [List.mem_cons, List.not_mem_nil, or_false] at hy
    rcases hy with rfl | rfl
    · exact hH.claimed (hs2.none hxb)
    · exact hH.claimed hob
  rintro r σ4 ⟨rfl, -, bs', F', hR, hF⟩
  rw [show (9 : Int).toNat = 9 from rfl, runW] at hR ⊢
  have hcl : (boo ((colR cW ob mo).act (orb 5).snd).isNone) = boo true := rfl
  rw [hcl]
  obtain ⟨lx, F0, hC, -⟩ := hR.rtn
  have hrow := hC.row
  have hres := colresult_spec σ4 xb ob _ hrow rfl
  have hgone := fun σ h => colgone_spec σ xb ob (orb 5).2.1 h
  have hlock := fun σ h => locked_spec σ hb m bs' (orb 5).1 h
  simp -implicitDefEqProofs
  refine hres.mono ?_
  rintro r σ5 ⟨rfl, rfl⟩
  simp -implicitDefEqProofs
  refine alloc fun b6 hb6 => ?_
  simp -implicitDefEqProofs
  refine (actnil_spec _).mono ?_
  rintro r σ6 ⟨rfl, rfl⟩
  simp -implicitDefEqProofs [actAV]
  refine alloc fun b9 hb9 => ?_
  simp -implicitDefEqProofs
  refine (colnil_spec _).mono ?_
  rintro r σ7 ⟨xz, rfl, hxz, hz, hs7⟩
  simp -implicitDefEqProofs
  refine (actzero_spec _ xz hz).mono ?_
  rintro r σ8 ⟨rfl, rfl⟩
  simp -implicitDefEqProofs [actAV]
  refine alloc fun b11 hb11 => ?_
  obtain ⟨n96, f9⟩ := none_of_set hb9
  have k6 := hs7 b6 (.cells (rowT 0 (.slice .clip []) 1)) (by rw [set_ne (Ne.symm n96)]; simp [Sto.set])
  have s47 := (sub_set' (sub_set' (Sub.refl _) hb6) hb9).trans hs7
  have n6 := ne_of k6 hb11
  have hrow7 := s47 _ _ hrow
  simp -implicitDefEqProofs [k6, n6, Ne.symm n6]
  refine (hgone _ (by rw [set_ne (ne_of hrow7 hb11)]; exact hrow7)).mono ?_
  rintro r σ10 ⟨rfl, rfl⟩
  simp -implicitDefEqProofs [orb, Col.new]
  refine (hlock _ ((hR.heap.of_sub s47).of_sub (sub_set' (Sub.refl _) hb11))).mono ?_
  rintro r σ10 ⟨rfl, rfl⟩
  simp -implicitDefEqProofs [orb, Hp.laid]
  refine hq _ _ ⟨rfl, ?_⟩
  have s0 : Sub σ σ3 := ((sub_set' (Sub.refl _) hb1).trans hs1).trans (hs2.trans hs3)
  intro z o hz
  refine (s47.trans (sub_set' (Sub.refl _) hb11)) z o (hF.1 z o (fun hin => ?_) (s0 z o hz))
  have hz1 : (σ.set b1 (.cells (rowC cW))) z = some o := by rw [set_ne (ne_of hz hb1)]; exact hz
  rcases List.mem_append.1 hin with hin | hin
  · have := hn1 z hin
    rw [set_ne (ne_of hz hb1), hz] at this; cases this
  · simp only [List.mem_cons, List.not_mem_nil, or_false] at hin
    have hz2 := hs1 z o hz1
    rcases hin with rfl | rfl
    · have := hs2 _ _ hz2; rw [hxb] at this; cases this
    · rw [hob] at hz2; cases hz2
end Go.Proofs.YtkbpnnbdfikjhaaGreat
