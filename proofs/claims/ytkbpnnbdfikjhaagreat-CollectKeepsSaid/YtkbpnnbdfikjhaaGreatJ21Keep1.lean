/- Groups of claims that stand apart. -/
import Derived.Test.YtkbpnnbdfikjhaaGreatJ20Law16
namespace Go.Proofs.YtkbpnnbdfikjhaaGreat
open Go Go.Aw
set_option linter.unusedVariables false
set_option linter.unusedSimpArgs false
set_option maxRecDepth 10000

structure Grp where
  G : List Nat
  p : Sto → Prop
  stable : ∀ s s', p s → (∀ y ∈ G, ∀ o, s y = some o → s' y = some o) → p s'
  claimed : ∀ s, p s → ∀ y ∈ G, s y ≠ none
def Wld (s : Sto) (gs : List Grp) : Prop := (∀ g ∈ gs, g.p s) ∧ gs.Pairwise fun a b => ∀ z ∈ a.G, z ∉ b.G
theorem Wld.perm {s : Sto} {gs gs' : List Grp} (h : Wld s gs) (hp : gs.Perm gs') : Wld s gs' :=
  ⟨fun g hg => h.1 g (hp.mem_iff.2 hg), (hp.pairwise_iff (fun hab z hz hz' => hab z hz' hz)).1 h.2⟩
theorem Wld.sub {s s' : Sto} {gs : List Grp} (h : Wld s gs) (hs : Sub s s') : Wld s' gs := ⟨fun g hg => g.stable s s' (h.1 g hg) fun y _ o => hs y o, h.2⟩
theorem Wld.tail {s : Sto} {g : Grp} {gs : List Grp} (h : Wld s (g :: gs)) : Wld s gs := ⟨fun g' hg => h.1 g' (by simp [hg]), (List.pairwise_cons.1 h.2).2⟩
/-- a new group -/
theorem Wld.new {s s' : Sto} {g : Grp} {gs : List Grp} (h : Wld s gs) (hs : Sub s s') (hg : g.p s') (hn : ∀ y ∈ g.G, s y = none) : Wld s' (g :: gs) := by
  refine ⟨fun g' hg' => ?_, List.pairwise_cons.2 ⟨fun g' hg' z hz hz' => g'.claimed s (h.1 g' hg') z hz' (hn z hz), h.2⟩⟩
  rcases List.mem_cons.1 hg' with rfl | hg'
  · exact hg
  · exact (h.sub hs).1 g' hg'
/-- one group changes -/
theorem Wld.change {s s' : Sto} {g g' : Grp} {gs : List Grp} (h : Wld s (g :: gs)) (hF : Fr g.G g'.G s s') (hg : g'.p s') : Wld s' (g' :: gs) := by
  have hp := List.pairwise_cons.1 h.2
  refine ⟨fun a ha => ?_, List.pairwise_cons.2 ⟨fun a ha z hz hz' => ?_, hp.2⟩⟩
  · rcases List.mem_cons.1 ha with rfl | ha
    · exact hg
    · exact a.stable s s' (h.1 a (by simp [ha])) fun y hy o ho => hF.1 y o (fun hin => hp.1 a ha y hin hy) ho
  · rcases hF.2 z hz with q | q
    · exact hp.1 a ha z q hz'
    · exact a.claimed s (h.1 a (by simp [ha])) z hz' q
/-- two groups as one -/
def Grp.both (a b : Grp) : Grp := ⟨a.G ++ b.G, fun s => a.p s ∧ b.p s ∧ ∀ z ∈ a.G, z ∉ b.G, fun s s' h hs => ⟨a.stable s s' h.1 fun y hy => hs y (List.mem_append_left _ hy), b.stable s s' h.2.1 fun y hy => hs y (List.mem_append_right _ hy), h.2.2⟩,
  fun s h y hy => by
    rcases List.mem_append.1 hy with hy | hy
    · exact a.claimed s h.1 y hy
    · exact b.claimed s h.2.1 y hy⟩
theorem Wld.merge {s : Sto} {a b : Grp} {gs : List Grp} (h : Wld s (a :: b :: gs)) : Wld s (a.both b :: gs) := by
  have h1 := List.pairwise_cons.1 h.2
  have h2 := List.pairwise_cons.1 h1.2
  refine ⟨fun g hg => ?_, List.pairwise_cons.2 ⟨fun g hg z hz => ?_, h2.2⟩⟩
  · rcases List.mem_cons.1 hg with rfl | hg
    · exact ⟨h.1 a (by simp), h.1 b (by simp), h1.1 b (by simp)⟩
    · exact h.1 g (by simp [hg])
  · rcases List.mem_append.1 hz with hz | hz
    · exact h1.1 g (by simp [hg]) z hz
    · exact h2.1 g hg z hz
theorem Wld.split {s : Sto} {a b : Grp} {gs : List Grp} (h : Wld s (a.both b :: gs)) : Wld s (a :: b :: gs) := by
  have h1 := List.pairwise_cons.1 h.2
  obtain ⟨p1, p2, p3⟩ := h.1 (a.both b) (by simp)
  refine ⟨fun g hg => ?_, List.pairwise_cons.2 ⟨fun g hg z hz => ?_, List.pairwise_cons.2 ⟨fun g hg z hz => h1.1 g hg z (List.mem_append_right _ hz), h1.2⟩⟩⟩
  · rcases List.mem_cons.1 hg with rfl | hg
    · exact p1
    · rcases List.mem_cons.1 hg with rfl | hg
      · exact p2
      · exact h.1 g (by simp [hg])
  · rcases List.mem_cons.1 hg with rfl | hg
    · exact p3 z hz
    · exact h1.1 g hg z (List.mem_append_left _ hz)

/-! ### the groups -/
def boxG (b : Nat) (c : Cfg) : Grp := ⟨[b], fun s => s b = some (.cells (rowC c)), fun s s' h hs => hs b (by simp) _ h, fun s h y hy => by rw [List.mem_singleton.1 hy, h]; simp⟩
def heapG (hb m : Nat) (bs : List Nat) (H : Hp) : Grp := ⟨hb :: m :: bs, fun s => HpAt s hb m bs H, fun s s' h hs => h.sub hs, fun s h y hy hn => h.claimed hn hy⟩
def rtnG (R : Rtn) (hR : R.Ok) (b : Nat) (x : R.S) (F : List Nat) : Grp := ⟨b :: F, fun s => R.at_ s b x F, fun s s' h hs => hR.sub h hs, fun s h y hy => hR.claimed h y hy⟩

/-- a routine runs alone -/
theorem alone_at (R : Rtn) (hR : R.Ok) (I : Nat → Hp → R.S → Prop) (hI : Ranked R I) {s : Sto} {hb m b : Nat} {H : Hp} {x : R.S} {bs F : List Nat} {gs : List Grp} (h : Wld s (heapG hb m bs H :: rtnG R hR b x F :: gs)) {n : Nat} (hx : I n H x) (most : Int) (hm : 0 ≤ most ∧ most ≤ 1000000) :
    ACalls Tryz.prog 10 [.ptr hb 0, .iface R.T (.ptr b 0), i64 most] s (fun r s' => (∃ k d, r = .tuple [i64 k, boo d]) ∧
      ∃ bs' F', Wld s' (heapG hb m bs' (R.run most.toNat (H, x)).2.1 :: rtnG R hR b (R.run most.toNat (H, x)).2.2 F' :: gs)) := by
  have hmg := h.merge
  obtain ⟨p1, p2, p3⟩ := hmg.1 _ (List.mem_cons_self ..)
  refine (alone_spec R hR _ hI.good s hb m b (H, x) bs F ⟨p1, p2, fun y hy hy' => p3 y hy' hy⟩ ⟨n, hx⟩ most hm).mono ?_
  rintro r s' ⟨rfl, -, bs', F', hrun, hF⟩
  refine ⟨⟨_, _, rfl⟩, bs', F', ?_⟩
  exact (hmg.change (g' := (heapG hb m bs' _).both (rtnG R hR b _ F')) hF ⟨hrun.heap, hrun.rtn, fun z hz hz' => hrun.apart z hz' hz⟩).split
/-- less is claimed -/
theorem Wld.weak {s : Sto} {g g' : Grp} {gs : List Grp} (h : Wld s (g :: gs)) (hs : ∀ z ∈ g'.G, z ∈ g.G) (hp : g.p s → g'.p s) : Wld s (g' :: gs) := by
  have h1 := List.pairwise_cons.1 h.2
  refine ⟨fun a ha => ?_, List.pairwise_cons.2 ⟨fun a ha z hz => h1.1 a ha z (hs z hz), h1.2⟩⟩
  rcases List.mem_cons.1 ha with rfl | ha
  · exact hp (h.1 g (by simp))
  · exact h.1 a (by simp [ha])
/-- an office -/
theorem LimboAt.claimed {s : Sto} {x : AV} {l : List Int} {F : List Nat} (h : LimboAt s x l F) : ∀ y ∈ F, s y ≠ none := by
  rcases h with ⟨_, _, rfl⟩ | ⟨b, pre, _, h, rfl⟩
  · simp
  · intro y hy; rw [List.mem_singleton.1 hy, h]; simp
def offG (ob : Nat) (c : Cfg) (o : Off) (mo : AV) (F : List Nat) : Grp := ⟨ob :: F, fun s => ∃ lx, OffAt s ob c o mo lx F, fun s s' ⟨lx, h⟩ hs => ⟨lx, h.sub hs⟩, fun s ⟨lx, h⟩ y hy => by
  rcases List.mem_cons.1 hy with rfl | hy
  · rw [h.top]; simp
  · exact h.limbo.claimed y hy⟩
/-- a collector is made upon an office -/
theorem Wld.collect {s s' : Sto} {c : Cfg} (hc : c.right = true) {ob xb : Nat} {mo : AV} {o : Off} {F : List Nat} {gs : List Grp} (h : Wld s (offG ob c o mo F :: gs)) (hs : Sub s s') (hn : s xb = none) (hx : s' xb = some (.cells (rowCol ob Col.new))) :
    Wld s' (rtnG (colR c ob mo) (colR_ok c hc ob mo) xb (Col.new, o) (ob :: F) :: gs) := by
  have h1 := List.pairwise_cons.1 h.2
  have h2 := h.sub hs
  refine ⟨fun a ha => ?_, List.pairwise_cons.2 ⟨fun a ha z hz hz' => ?_, h1.2⟩⟩
  · rcases List.mem_cons.1 ha with rfl | ha
    · obtain ⟨lx, hO⟩ := h2.1 _ (List.mem_cons_self ..)
      exact ⟨lx, F, ⟨hx, hO⟩, rfl⟩
    · exact h2.1 a (by simp [ha])
  · rcases List.mem_cons.1 hz with rfl | hz
    · exact a.claimed s (h.1 a (by simp [ha])) _ hz' hn
    · exact h1.1 a ha z hz hz'
/-- a collector is done with -/
theorem Wld.collected {s : Sto} {c : Cfg} (hc : c.right = true) {ob xb : Nat} {mo : AV} {y : Col × Off} {F : List Nat} {gs : List Grp} (h : Wld s (rtnG (colR c ob mo) (colR_ok c hc ob mo) xb y F :: gs)) : ∃ F0, Wld s (offG ob c y.2 mo F0 :: gs) := by
  obtain ⟨lx, F0, hC, hF⟩ := h.1 _ (List.mem_cons_self ..)
  refine ⟨F0, h.weak (fun z hz => ?_) fun _ => ⟨lx, hC.off⟩⟩
  show z ∈ xb :: F
  rw [hF]; exact List.mem_cons_of_mem _ hz
end Go.Proofs.YtkbpnnbdfikjhaaGreat

/- The law's own function: its parts, and what holds between them. -/
namespace Go.Proofs.YtkbpnnbdfikjhaaGreat
open Go Go.Aw
set_option linter.unusedVariables false
set_option linter.unusedSimpArgs false
set_option maxRecDepth 10000

/-! ### groups in another order -/
theorem filterMap_range {α : Type} (l : List α) : ∀ n, n ≤ l.length → (List.range n).filterMap (fun i => l[i]?) = l.take n
  | 0, _ => by simp
  | n + 1, h => by
    rw [List.range_succ, List.filterMap_append, filterMap_range l n (by omega), List.take_add_one]
    simp [List.getElem?_eq_getElem (show n < l.length by omega)]
def reord (p : List Nat) (gs : List Grp) : List Grp := p.filterMap (fun i => gs[i]?) ++ gs.drop p.length
theorem Wld.re (p : List Nat) {s : Sto} {gs : List Grp} (h : Wld s gs) (hl : p.length ≤ gs.length) (hp : p.isPerm (List.range p.length) = true := by decide) : Wld s (reord p gs) := by
  refine h.perm ?_
  have h1 : p.Perm (List.range p.length) := List.isPerm_iff.1 hp
  have h2 := h1.filterMap (fun i => gs[i]?)
  rw [filterMap_range gs _ hl] at h2
  unfold reord
  refine List.Perm.trans (List.Perm.of_eq (List.take_append_drop p.length gs).symm) ?_
  exact List.Perm.append_right _ h2.symm
theorem Wld.less {s : Sto} {gs gs' : List Grp} (h : Wld s gs) (hs : gs'.Sublist gs) : Wld s gs' := ⟨fun g hg => h.1 g (hs.subset hg), h.2.sublist hs⟩

/-! ### code by parts -/
def cL : Code → Code
  | .seq a _ => a
  | .cond _ a _ => a
  | .block _ a => a
  | .loop a => a
  | c => c
def cR : Code → Code
  | .seq _ b => b
  | .cond _ _ b => b
  | c => c
def codeOf (f : Func) : Code := match f.body with
  | some c => c
  | none => .skip
theorem at_seq {P : Program} {c a b : Code} {Q : AExit → Env → Sto → Prop} {e : Env} {σ : Sto} (h : c = .seq a b) (hw : wpc P (.seq a b) Q e σ) : wpc P c Q e σ := h ▸ hw
theorem at_region {P : Program} {c : Code} {i : Nat} {ops : Array Oper} {d : Bool} {Q : AExit → Env → Sto → Prop} {e : Env} {σ : Sto} (h : c = .region i ops d) (hw : wpc P (.region i ops d) Q e σ) : wpc P c Q e σ := h ▸ hw

namespace CK
def f7 (f : Func) : Code := cR (cR (cR (cR (cR (cR (cR (codeOf f)))))))
/-- behind the loop -/
def after (f : Func) : Code := cR (f7 f)
def body (f : Func) : Code := cL (cL (cR (cL (f7 f))))
def head (f : Func) : Code := cL (body f)
def next (f : Func) : Code := cR (cR (body f))
def bb (f : Func) : Code := cL (cL (cR (body f)))
def work (f : Func) : Code := cL (bb f)
def tail (f : Func) : Code := cR (bb f)
def sw0 (f : Func) : Code := cR (cL (cR (work f)))
def p0 (f : Func) : Code := cL (sw0 f)
def els (f : Func) : Code := cR (sw0 f)
def r22 (f : Func) : Code := cL (cR (els f))
def sw4 (f : Func) : Code := cR (cR (els f))
def p4 (f : Func) : Code := cL (cR (sw4 f))
def pd (f : Func) : Code := cR (cR (sw4 f))
theorem body_eq : body Tryz.f3 = .seq (head Tryz.f3) (.seq (.block 1 (.seq (work Tryz.f3) (tail Tryz.f3))) (next Tryz.f3)) := rfl
theorem work_eq : work Tryz.f3 = .seq (cL (work Tryz.f3)) (.block 2 (.seq (cL (cL (cR (work Tryz.f3)))) (.cond (.tmp 64) (p0 Tryz.f3) (els Tryz.f3)))) := rfl
theorem els_eq : els Tryz.f3 = .seq (cL (els Tryz.f3)) (.cond (.tmp 96) (r22 Tryz.f3) (.seq (cL (sw4 Tryz.f3)) (.cond (.tmp 105) (p4 Tryz.f3) (pd Tryz.f3)))) := rfl
end CK

/-! ### who reads -/
def Vw.fair (x : Vw) : Prop := x.st ≠ .done → x.pairs = []
theorem fair_next {c : Cfg} {x : Vw} (h : x.pairs = []) : (Vw.next c x).fair := fun _ => by unfold Vw.next; split <;> exact h
theorem fair_take {c : Cfg} {x : Vw} (h : x.fair) (w : Int) (t : ByteArray) : (x.take c w t).fair := by
  obtain ⟨st, acts, pin, epoch, shelf, block, key, seen, pairs, mark⟩ := x
  cases st with
  | done => exact h
  | pins p =>
    have h1 : pairs = [] := h (by simp)
    unfold Vw.take; simp only
    split <;> exact fun _ => h1
  | keys =>
    have h1 : pairs = [] := h (by simp)
    unfold Vw.take; simp only
    split
    · exact fair_next h1
    · exact fun _ => h1
  | texts => exact fun _ => h (by simp)
  | reads y =>
    have h1 : pairs = [] := h (by simp)
    unfold Vw.take; simp only
    split
    · exact fair_next h1
    · exact fun _ => h1
  | frees => exact fun hd => absurd rfl hd
theorem fair_run (c : Cfg) : ∀ (k : Nat) (x : Hp × (viewR c).S), Vw.fair x.2 → Vw.fair ((viewR c).run k x).2.2
  | 0, x, h => h
  | k + 1, x, h => by
    cases hs : (viewR c).step x with
    | none => rw [Rtn.run_none hs]; exact h
    | some y =>
      simp only [Rtn.run, hs]
      refine fair_run c k y ?_
      unfold Rtn.step at hs
      cases ha : (viewR c).act x.2 with
      | none => rw [ha] at hs; cases hs
      | some a =>
        rw [ha, Option.bind_some] at hs
        split at hs
        · cases hz : a.act x.1 with
          | none => rw [hz] at hs; cases hs
          | some z => rw [hz] at hs; simp only [Option.map_some, Option.some.injEq] at hs; subst hs; exact fair_take h _ _
        · cases hs

/-! ### the loop's invariant -/
abbrev encOps (l : List Int) : List (List AV) := l.map fun n => [.sc (.int .u8 n)]
/-- who reads: in the store -/
def XG (c : Cfg) (hc : c.right = true) (e : Env) : Option (Vw × Vw) → List Grp → Prop
  | none, gs => gt e 10 = .sc (.pointer none) ∧ gs = []
  | some (x, y), gs => ∃ xb yb Fx Fy, gt e 10 = .ptr xb 0 ∧ gt e 11 = .ptr yb 0 ∧ gs = [rtnG (viewR c) (viewR_ok c hc) xb x Fx, rtnG (viewR c) (viewR_ok c hc) yb y Fy]
def KX : Option (Vw × Vw) → Prop
  | none => True
  | some (x, y) => x.fair ∧ y.st = .done ∧ y.pairs.length ≤ 64
/-- what does not change in the loop -/
structure KC where
  c : Cfg
  hc : c.right = true
  t1 : Tok
  t2 : Tok
  rows : List (Tok × List Ch)
  ops : List Int
  b3 : Nat
  hb : Nat
  m : Nat
  hb2 : Nat
  m2 : Nat
  ob : Nat
  mo : AV
  h300 : ops.length ≤ 300
  hops : ∀ n ∈ ops, 0 ≤ n ∧ n < 256
  h12 : rows.length ≤ 12
  hrows : ∀ r ∈ rows, RowShort r
/-- slots and store -/
structure KE (z : KC) (e : Env) (s : Sto) (k laid reads : Nat) (h tw : Hp) (o : Off) (x : Option (Vw × Vw)) (bs bs2 F : List Nat) (gs : List Grp) : Prop where
  hl : e.length = 182
  g1 : gt e 1 = .slice z.t1 (z.rows.map encRow)
  g2 : gt e 2 = .slice z.t2 (encOps z.ops)
  g3 : gt e 3 = .ptr z.b3 0
  g7 : gt e 7 = .ptr z.hb 0
  g8 : gt e 8 = .ptr z.hb2 0
  g9 : gt e 9 = .ptr z.ob 0
  g12 : gt e 12 = i64 reads
  g13 : gt e 13 = i64 laid
  g14 : gt e 14 = i64 k
  le : k ≤ z.ops.length ∧ reads ≤ k ∧ laid ≤ z.rows.length
  xg : XG z.c z.hc e x gs
  wl : Wld s (boxG z.b3 z.c :: heapG z.hb z.m bs h :: heapG z.hb2 z.m2 bs2 tw :: offG z.ob z.c o z.mo F :: gs)
theorem XG.env {c : Cfg} {hc : c.right = true} {e e' : Env} {x : Option (Vw × Vw)} {gs : List Grp} (h : XG c hc e x gs) (h1 : gt e' 10 = gt e 10) (h2 : gt e' 11 = gt e 11) : XG c hc e' x gs := by
  cases x with
  | none => exact ⟨h1.trans h.1, h.2⟩
  | some p => obtain ⟨xb, yb, Fx, Fy, a, b, d⟩ := h; exact ⟨xb, yb, Fx, Fy, h1.trans a, h2.trans b, d⟩
/-- other slots change, and the store -/
theorem KE.env {z : KC} {e e' : Env} {s s' : Sto} {k laid reads : Nat} {h tw h' tw' : Hp} {o o' : Off} {x : Option (Vw × Vw)} {bs bs2 F bs' bs2' F' : List Nat} {gs : List Grp} (he : KE z e s k laid reads h tw o x bs bs2 F gs)
    (hl : e'.length = 182) (hs : ∀ i ∈ [1, 2, 3, 7, 8, 9, 10, 11, 12, 13, 14], gt e' i = gt e i)
    (hw : Wld s' (boxG z.b3 z.c :: heapG z.hb z.m bs' h' :: heapG z.hb2 z.m2 bs2' tw' :: offG z.ob z.c o' z.mo F' :: gs)) : KE z e' s' k laid reads h' tw' o' x bs' bs2' F' gs := by
  simp only [List.mem_cons, List.not_mem_nil, or_false, forall_eq_or_imp, forall_eq] at hs
  obtain ⟨a1, a2, a3, a7, a8, a9, a10, a11, a12, a13, a14⟩ := hs
  exact ⟨hl, a1.trans he.g1, a2.trans he.g2, a3.trans he.g3, a7.trans he.g7, a8.trans he.g8, a9.trans he.g9, a12.trans he.g12, a13.trans he.g13, a14.trans he.g14, he.le, he.xg.env a10 a11, hw⟩
/-- and numbers -/
theorem KE.env' {z : KC} {e e' : Env} {s s' : Sto} {k laid reads k' laid' reads' : Nat} {h tw h' tw' : Hp} {o o' : Off} {x : Option (Vw × Vw)} {bs bs2 F bs' bs2' F' : List Nat} {gs : List Grp} (he : KE z e s k laid reads h tw o x bs bs2 F gs)
    (hl : e'.length = 182) (hs : ∀ i ∈ [1, 2, 3, 7, 8, 9, 10, 11], gt e' i = gt e i) (a12 : gt e' 12 = i64 reads') (a13 : gt e' 13 = i64 laid') (a14 : gt e' 14 = i64 k') (le : k' ≤ z.ops.length ∧ reads' ≤ k' ∧ laid' ≤ z.rows.length)
    (hw : Wld s' (boxG z.b3 z.c :: heapG z.hb z.m bs' h' :: heapG z.hb2 z.m2 bs2' tw' :: offG z.ob z.c o' z.mo F' :: gs)) : KE z e' s' k' laid' reads' h' tw' o' x bs' bs2' F' gs := by
  simp only [List.mem_cons, List.not_mem_nil, or_false, forall_eq_or_imp, forall_eq] at hs
  obtain ⟨a1, a2, a3, a7, a8, a9, a10, a11⟩ := hs
  exact ⟨hl, a1.trans he.g1, a2.trans he.g2, a3.trans he.g3, a7.trans he.g7, a8.trans he.g8, a9.trans he.g9, a12, a13, a14, le, he.xg.env a10 a11, hw⟩
/-- who reads is another -/
theorem KE.env2 {z : KC} {e e' : Env} {s s' : Sto} {k laid reads : Nat} {h tw h' tw' : Hp} {o o' : Off} {x x' : Option (Vw × Vw)} {bs bs2 F bs' bs2' F' : List Nat} {gs gs' : List Grp} (he : KE z e s k laid reads h tw o x bs bs2 F gs)
    (hl : e'.length = 182) (hs : ∀ i ∈ [1, 2, 3, 7, 8, 9, 12, 13, 14], gt e' i = gt e i) (hx : XG z.c z.hc e' x' gs')
    (hw : Wld s' (boxG z.b3 z.c :: heapG z.hb z.m bs' h' :: heapG z.hb2 z.m2 bs2' tw' :: offG z.ob z.c o' z.mo F' :: gs')) : KE z e' s' k laid reads h' tw' o' x' bs' bs2' F' gs' := by
  simp only [List.mem_cons, List.not_mem_nil, or_false, forall_eq_or_imp, forall_eq] at hs
  obtain ⟨a1, a2, a3, a7, a8, a9, a12, a13, a14⟩ := hs
  exact ⟨hl, a1.trans he.g1, a2.trans he.g2, a3.trans he.g3, a7.trans he.g7, a8.trans he.g8, a9.trans he.g9, a12.trans he.g12, a13.trans he.g13, a14.trans he.g14, he.le, hx, hw⟩
theorem KE.box {z : KC} {e : Env} {s : Sto} {k laid reads : Nat} {h tw : Hp} {o : Off} {x : Option (Vw × Vw)} {bs bs2 F : List Nat} {gs : List Grp} (he : KE z e s k laid reads h tw o x bs bs2 F gs) : s z.b3 = some (.cells (rowC z.c)) := he.wl.1 _ (List.mem_cons_self ..)

/-- between two rounds -/
def KJ (z : KC) (e : Env) (s : Sto) : Prop :=
  ∃ k laid reads h tw o x bs bs2 F gs A B M P, KE z e s k laid reads h tw o x bs bs2 F gs ∧ KX x ∧ LI z.c h tw o x laid k A B M P
/-- the plain state behind a round's work -/
inductive LX (c : Cfg) (h tw : Hp) (o : Off) (laid k : Nat) : Option (Vw × Vw) → Prop
  | none {A B : AH} {M : Int} {P : Prop} (hI : LI c h tw o .none laid k A B M P) : LX c h tw o laid k .none
  | goes {x y : Vw} {A B : AH} {M : Int} {P : Prop} (nd : x.st ≠ .done) (hx : x.fair) (hy : y.st = .done) (hlen : y.pairs.length ≤ 64) (hI : LI c h tw o (some (x, y)) laid k A B M P) : LX c h tw o laid k (some (x, y))
  | done {x y : Vw} {A B : AH} {M : Int} {P : Prop} (hx : x.st = .done) (hy : y.st = .done) (hp : x.pairs = y.pairs) (hlen : y.pairs.length ≤ 64) (hI : LI c h tw o .none laid k A B M P) : LX c h tw o laid k (some (x, y))
/-- behind a round's work -/
def KM (z : KC) (k : Nat) (e : Env) (s : Sto) : Prop :=
  ∃ laid reads h tw o x bs bs2 F gs, KE z e s k laid reads h tw o x bs bs2 F gs ∧ k < z.ops.length ∧ LX z.c h tw o laid (k + 1) x
theorem LI.nd {c : Cfg} {h tw : Hp} {o : Off} {x y : Vw} {laid k : Nat} {A B : AH} {M : Int} {P : Prop} (hI : LI c h tw o (some (x, y)) laid k A B M P) : x.st ≠ .done := by
  obtain ⟨hp, i, n, O, q1, q2, q3, q4, q5, q6, q7, q8⟩ := hI.xi
  exact q5
theorem LX.of {c : Cfg} {h tw : Hp} {o : Off} {x : Option (Vw × Vw)} {laid k : Nat} {A B : AH} {M : Int} {P : Prop} (hk : KX x) (hI : LI c h tw o x laid k A B M P) : LX c h tw o laid k x := by
  cases x with
  | none => exact .none hI
  | some p => obtain ⟨x, y⟩ := p; exact .goes hI.nd hk.1 hk.2.1 hk.2.2 hI
/-- time goes by -/
theorem LI.up {c : Cfg} {h tw : Hp} {o : Off} {x : Option (Vw × Vw)} {laid k k' : Nat} {A B : AH} {M : Int} {P : Prop} (hI : LI c h tw o x laid k A B M P) (h1 : k ≤ k') (h2 : k' ≤ 300) : LI c h tw o x laid k' A B M P := by
  refine ⟨hI.ha, hI.hb, hI.hh, hI.ht, hI.tw, hI.E, hI.pb, hI.ps, ⟨hI.lim.1, by have := hI.lim.2; omega⟩, hI.nx, hI.len, hI.kn, ?_, hI.lb, h2⟩
  have hx := hI.xi
  cases x with
  | none => exact hx
  | some p =>
    obtain ⟨hp, i, n, O, q1, q2, q3, q4, q5, q6, q7, q8⟩ := hx
    exact ⟨hp, i, n, O, q1, q2, q3, q4, q5, by omega, q7, q8⟩
end Go.Proofs.YtkbpnnbdfikjhaaGreat

/- The law's own function: a row is laid. -/
namespace Go.Proofs.YtkbpnnbdfikjhaaGreat
open Go Go.Aw
set_option linter.unusedVariables false
set_option linter.unusedSimpArgs false
set_option maxRecDepth 10000

theorem p0_spec (z : KC) (k : Nat) {Q : AExit → Env → Sto → Prop} (hQ : ∀ e s, KM z k e s → Q .normal e s) {e : Env} {s : Sto} {laid reads : Nat} {h tw : Hp} {o : Off} {x : Option (Vw × Vw)} {bs bs2 F : List Nat} {gs : List Grp} {A B : AH} {M : Int} {P : Prop}
    (he : KE z e s k laid reads h tw o x bs bs2 F gs) (hx : KX x) (hI : LI z.c h tw o x laid k A B M P) (hk : k < z.ops.length) : wpc Tryz.prog (CK.p0 Tryz.f3) Q e s := by
  have h300 := z.h300
  have h12 := z.h12
  refine at_seq (c := CK.p0 Tryz.f3) rfl ?_
  by_cases hlt : laid < z.rows.length
  · have hr : z.rows[laid]? = some z.rows[laid] := List.getElem?_eq_getElem hlt
    obtain ⟨r6, rsh⟩ := z.hrows _ (List.getElem_mem hlt)
    have e1 : IntKind.i64.wrap ((laid : Int) + 1) = (laid : Int) + 1 := wrap_i64 (by omega) (by omega)
    have e2 : IntKind.u64.wrap ((laid : Int) + 1) = (laid : Int) + 1 := wrap_u64 (by omega) (by omega)
    have r4 : ∀ ch ∈ z.rows[laid].2, ch.key.size ≤ 4096 := fun ch hch => by have := (rsh ch hch).1; omega
    obtain ⟨⟨I1, R1, i1⟩, ⟨I2, R2, i2⟩, A', B', M', hI'⟩ := hI.lay z.hc (by omega) (by omega) r6 (fun ch hch => ⟨r4 ch hch, by have := (rsh ch hch).2; omega⟩)
    simp -implicitDefEqProofs [he.hl, he.g13, he.g1, hlt]
    refine draw (by kernel_rfl) ?_
    simp -implicitDefEqProofs [he.hl, he.g13, he.g1, he.g3, he.g7, he.box, hlt, e1, e2]
    refine (lnew_spec s z.c z.hc ((laid : Int) + 1) z.rows[laid].1 z.rows[laid].2 (by omega) r4).mono ?_
    rintro r s1 ⟨b, F1, rfl, hb, hL, hs1, hF1⟩
    have w1 : Wld s1 (heapG z.hb z.m bs h :: rtnG (layR z.c (laid + 1)) (layR_ok z.c z.hc _) b (Ly.new z.rows[laid].2) F1 :: boxG z.b3 z.c :: heapG z.hb2 z.m2 bs2 tw :: offG z.ob z.c o z.mo F :: gs) :=
      (he.wl.new (g := rtnG (layR z.c (laid + 1)) (layR_ok z.c z.hc _) b (Ly.new z.rows[laid].2) F1) hs1 hL (fun y hy => by
        rcases List.mem_cons.1 hy with rfl | hy
        · exact hb
        · exact hF1 y hy)).re [2, 0, 1] (by simp)
    simp -implicitDefEqProofs [he.hl]
    refine (alone_at (layR z.c (laid + 1)) (layR_ok z.c z.hc _) I1 R1 w1 i1 10000 (by omega)).mono ?_
    rintro r s2 ⟨⟨k1, d1, rfl⟩, bs', F', w2⟩
    have w3 : Wld s2 (boxG z.b3 z.c :: heapG z.hb z.m bs' ((layR z.c (laid + 1)).run 10000 (h, Ly.new z.rows[laid].2)).2.1 :: heapG z.hb2 z.m2 bs2 tw :: offG z.ob z.c o z.mo F :: gs) := Wld.tail (w2.re [1, 2, 0] (by simp))
    have hbx : s2 z.b3 = some (.cells (rowC z.c)) := w3.1 _ (List.mem_cons_self ..)
    simp -implicitDefEqProofs [he.hl]
    refine draw (by kernel_rfl) ?_
    simp -implicitDefEqProofs [he.hl, he.g13, he.g1, he.g3, he.g8, hbx, hlt, e1, e2]
    refine (lnew_spec s2 z.c z.hc ((laid : Int) + 1) z.rows[laid].1 z.rows[laid].2 (by omega) r4).mono ?_
    rintro r s3 ⟨b, F1, rfl, hb, hL, hs3, hF1⟩
    have w4 : Wld s3 (heapG z.hb2 z.m2 bs2 tw :: rtnG (layR z.c (laid + 1)) (layR_ok z.c z.hc _) b (Ly.new z.rows[laid].2) F1 :: boxG z.b3 z.c :: heapG z.hb z.m bs' ((layR z.c (laid + 1)).run 10000 (h, Ly.new z.rows[laid].2)).2.1 :: offG z.ob z.c o z.mo F :: gs) :=
      (w3.new (g := rtnG (layR z.c (laid + 1)) (layR_ok z.c z.hc _) b (Ly.new z.rows[laid].2) F1) hs3 hL (fun y hy => by
        rcases List.mem_cons.1 hy with rfl | hy
        · exact hb
        · exact hF1 y hy)).re [3, 0, 1, 2] (by simp)
    simp -implicitDefEqProofs [he.hl]
    refine (alone_at (layR z.c (laid + 1)) (layR_ok z.c z.hc _) I2 R2 w4 i2 10000 (by omega)).mono ?_
    rintro r s4 ⟨⟨k2, d2, rfl⟩, bs2', F2', w5⟩
    have w6 : Wld s4 (boxG z.b3 z.c :: heapG z.hb z.m bs' ((layR z.c (laid + 1)).run 10000 (h, Ly.new z.rows[laid].2)).2.1 :: heapG z.hb2 z.m2 bs2' ((layR z.c (laid + 1)).run 10000 (tw, Ly.new z.rows[laid].2)).2.1 :: offG z.ob z.c o z.mo F :: gs) := Wld.tail (w5.re [1, 2, 3, 0] (by simp))
    simp -implicitDefEqProofs [he.hl, he.g13, e1]
    exact hQ _ _ ⟨laid + 1, reads, _, _, o, x, bs', bs2', F, gs, he.env' (by simp [he.hl]) (by simp) (by simp [he.g12]) (by simp [he.hl]) (by simp [he.g14]) (by have := he.le; omega) w6, hk, .of hx hI'⟩
  · simp -implicitDefEqProofs [he.hl, he.g13, he.g1, hlt]
    exact hQ _ _ ⟨laid, reads, h, tw, o, x, bs, bs2, F, gs, he.env (by simp [he.hl]) (by simp) he.wl, hk, .of hx (hI.up (by omega) (by omega))⟩
end Go.Proofs.YtkbpnnbdfikjhaaGreat

/- The law's own function: a collection. -/
namespace Go.Proofs.YtkbpnnbdfikjhaaGreat
open Go Go.Aw
set_option linter.unusedVariables false
set_option linter.unusedSimpArgs false
set_option maxRecDepth 10000

theorem p1_spec (z : KC) (k : Nat) {Q : AExit → Env → Sto → Prop} (hQ : ∀ e s, KM z k e s → Q .normal e s) {e : Env} {s : Sto} {laid reads : Nat} {h tw : Hp} {o : Off} {x : Option (Vw × Vw)} {bs bs2 F : List Nat} {gs : List Grp} {A B : AH} {M : Int} {P : Prop}
    (he : KE z e s k laid reads h tw o x bs bs2 F gs) (hx : KX x) (hI : LI z.c h tw o x laid k A B M P) (hk : k < z.ops.length) : wpc Tryz.prog (CK.r22 Tryz.f3) Q e s := by
  have h300 := z.h300
  refine at_region (c := CK.r22 Tryz.f3) rfl ?_
  obtain ⟨⟨I1, R1, i1⟩, A', hI'⟩ := hI.col z.hc (by omega) z.ob z.mo
  have w0 := he.wl.re [3, 0, 1, 2] (by simp)
  obtain ⟨lx, hO⟩ := w0.1 (offG z.ob z.c o z.mo F) (by simp [reord])
  simp -implicitDefEqProofs [he.hl, he.g7, he.g9]
  refine (colnew_spec s z.ob z.c z.hc o z.mo lx F hO).mono ?_
  rintro r s1 ⟨xb, rfl, hxb, hC, hs1⟩
  have w1 : Wld s1 (heapG z.hb z.m bs h :: rtnG (colR z.c z.ob z.mo) (colR_ok z.c z.hc z.ob z.mo) xb (Col.new, o) (z.ob :: F) :: boxG z.b3 z.c :: heapG z.hb2 z.m2 bs2 tw :: gs) :=
    (Wld.collect z.hc w0 hs1 hxb hC.row).re [2, 0, 1] (by simp [reord])
  simp -implicitDefEqProofs [he.hl]
  refine (alone_at (colR z.c z.ob z.mo) (colR_ok z.c z.hc z.ob z.mo) I1 R1 w1 i1 10000 (by omega)).mono ?_
  rintro r s2 ⟨⟨k1, d1, rfl⟩, bs', F', w2⟩
  obtain ⟨F0, w3⟩ := Wld.collected z.hc (w2.re [1, 0] (by simp))
  simp -implicitDefEqProofs [he.hl]
  exact hQ _ _ ⟨laid, reads, _, tw, _, x, bs', bs2, F0, gs, he.env (by simp [he.hl]) (by simp) (w3.re [2, 1, 3, 0] (by simp [reord])), hk, .of hx hI'⟩

theorem pd_spec (z : KC) (k : Nat) {Q : AExit → Env → Sto → Prop} (hQ : ∀ e s, KM z k e s → Q .normal e s) {e : Env} {s : Sto} {laid reads : Nat} {h tw : Hp} {o : Off} {x : Option (Vw × Vw)} {bs bs2 F : List Nat} {gs : List Grp} {A B : AH} {M : Int} {P : Prop}
    (he : KE z e s k laid reads h tw o x bs bs2 F gs) (hx : KX x) (hI : LI z.c h tw o x laid k A B M P) (hk : k < z.ops.length) : wpc Tryz.prog (CK.pd Tryz.f3) Q e s := by
  have h300 := z.h300
  have hlt := hk
  refine at_seq (c := CK.pd Tryz.f3) rfl ?_
  cases x with
  | none =>
    have g10 := he.xg.1
    simp -implicitDefEqProofs [he.hl, g10]
    exact hQ _ _ ⟨laid, reads, h, tw, o, none, bs, bs2, F, gs, he.env (by simp [he.hl]) (by simp) he.wl, hk, .of hx (hI.up (by omega) (by omega))⟩
  | some p =>
    obtain ⟨x, y⟩ := p
    obtain ⟨xb, yb, Fx, Fy, g10, g11, rfl⟩ := he.xg
    have hn := z.hops _ (List.getElem_mem hk)
    obtain ⟨n, hnn⟩ : ∃ n, n = z.ops[k] := ⟨_, rfl⟩
    rw [← hnn] at hn
    have h5 : 0 ≤ n.tmod 5 ∧ n.tmod 5 < 5 := ⟨Int.tmod_nonneg 5 hn.1, Int.tmod_lt_of_pos n (by omega)⟩
    have e1 : IntKind.i64.wrap n = n := wrap_i64 (by omega) (by omega)
    have e2 : IntKind.i64.wrap (n.tmod 5 + 1) = n.tmod 5 + 1 := wrap_i64 (by omega) (by omega)
    obtain ⟨⟨I1, R1, i1⟩, -, m2, m3⟩ := hI.move z.hc (n.tmod 5 + 1).toNat
    have w1 : Wld s (heapG z.hb z.m bs h :: rtnG (viewR z.c) (viewR_ok z.c z.hc) xb x Fx :: boxG z.b3 z.c :: heapG z.hb2 z.m2 bs2 tw :: offG z.ob z.c o z.mo F :: [rtnG (viewR z.c) (viewR_ok z.c z.hc) yb y Fy]) := he.wl.re [1, 4, 0, 2, 3] (by simp)
    simp -implicitDefEqProofs [he.hl, g10, he.g2, he.g14, he.g7, hlt, ← hnn, e1, e2]
    refine (alone_at (viewR z.c) (viewR_ok z.c z.hc) I1 R1 w1 i1 (n.tmod 5 + 1) (by omega)).mono ?_
    rintro r s2 ⟨⟨k1, d1, rfl⟩, bs', F', w2⟩
    have w3 := w2.re [2, 0, 3, 4, 1, 5] (by simp)
    have hf := fair_run z.c (n.tmod 5 + 1).toNat (h, x) hx.1
    generalize hr : (viewR z.c).run (n.tmod 5 + 1).toNat (h, x) = rr at *
    obtain ⟨kk, h', x'⟩ := rr
    simp -implicitDefEqProofs [he.hl]
    by_cases hd : x'.st = .done
    · obtain ⟨q1, q2, A', q3⟩ := m2 hd
      refine hQ _ _ ⟨laid, reads, h', tw, o, some (x', y), bs', bs2, F, _, he.env2 (by simp [he.hl]) (by simp) ⟨xb, yb, F', Fy, by simp [g10], by simp [g11], rfl⟩ w3, hk, .done hd hx.2.1 q1 q2 (q3 (k + 1) (by omega) (by omega))⟩
    · refine hQ _ _ ⟨laid, reads, h', tw, o, some (x', y), bs', bs2, F, _, he.env2 (by simp [he.hl]) (by simp) ⟨xb, yb, F', Fy, by simp [g10], by simp [g11], rfl⟩ w3, hk, .goes hd hf hx.2.1 hx.2.2 (m3 hd (by omega) (by omega))⟩
end Go.Proofs.YtkbpnnbdfikjhaaGreat

/- The law's own function: who reads begins. -/
namespace Go.Proofs.YtkbpnnbdfikjhaaGreat
open Go Go.Aw
set_option linter.unusedVariables false
set_option linter.unusedSimpArgs false
set_option maxRecDepth 10000

theorem p4_spec (z : KC) (k : Nat) {Q : AExit → Env → Sto → Prop} (hQ : ∀ e s, KM z k e s → Q .normal e s) {e : Env} {s : Sto} {laid reads : Nat} {h tw : Hp} {o : Off} {x : Option (Vw × Vw)} {bs bs2 F : List Nat} {gs : List Grp} {A B : AH} {M : Int} {P : Prop}
    (he : KE z e s k laid reads h tw o x bs bs2 F gs) (hx : KX x) (hI : LI z.c h tw o x laid k A B M P) (hk : k < z.ops.length) : wpc Tryz.prog (CK.p4 Tryz.f3) Q e s := by
  have h300 := z.h300
  refine at_seq (c := CK.p4 Tryz.f3) rfl ?_
  cases x with
  | some p =>
    obtain ⟨x, y⟩ := p
    obtain ⟨xb, yb, Fx, Fy, g10, g11, rfl⟩ := he.xg
    simp -implicitDefEqProofs [he.hl, g10]
    exact hQ _ _ ⟨laid, reads, h, tw, o, _, bs, bs2, F, _, he.env (by simp [he.hl]) (by simp) he.wl, hk, .of hx (hI.up (by omega) (by omega))⟩
  | none =>
    obtain ⟨g10, rfl⟩ := he.xg
    obtain ⟨b1, b2, b3, -, -⟩ := z.c.bounds z.hc
    have hpin : 0 ≤ (k : Int).tmod z.c.pins ∧ (k : Int).tmod z.c.pins < z.c.pins := ⟨Int.tmod_nonneg _ (by omega), Int.tmod_lt_of_pos _ (by omega)⟩
    obtain ⟨⟨I1, R1, i1⟩, ⟨I2, R2, i2⟩, hnd, hlen, A', M', hI'⟩ := hI.open z.hc (by omega) hpin
    simp -implicitDefEqProofs [he.hl, g10]
    have hb1 := he.box
    refine drawW [0, 3] [2, 5] (z.b3 + 1) [0, 3, 1, 4, 2, 5, 6, 7] (by kernel_rfl) ?_
    simp -implicitDefEqProofs
    refine readB (st := [2, 5]) (.agg (rowC z.c)) z.b3 (rowC z.c) (by omega) hb1 (fun σ l h => by simp -implicitDefEqProofs [he.hl, he.g3, h]) ?_
    simp -implicitDefEqProofs
    refine readB (st := [2, 5]) (.agg (rowC z.c)) z.b3 (rowC z.c) (by omega) hb1 (fun σ l h => by simp -implicitDefEqProofs [he.hl, he.g3, h]) ?_
    simp -implicitDefEqProofs [he.hl, he.g14]
    refine (vwnew_spec s z.c z.hc k (by omega)).mono ?_
    rintro r s1 ⟨xb, Fx, rfl, hxb, hX, hs1, hFx⟩
    have w1 := he.wl.new (g := rtnG (viewR z.c) (viewR_ok z.c z.hc) xb (vw0 ((k : Int).tmod z.c.pins)) Fx) hs1 hX (fun y hy => by
        rcases List.mem_cons.1 hy with rfl | hy
        · exact hxb
        · exact hFx y hy)
    simp -implicitDefEqProofs [he.hl, he.g14]
    refine ⟨?_, (Keeps.same hs1).rl⟩
    refine (vwnew_spec s1 z.c z.hc k (by omega)).mono ?_
    rintro r s2 ⟨yb, Fy, rfl, hyb, hY, hs2, hFy⟩
    have w2 := (w1.new (g := rtnG (viewR z.c) (viewR_ok z.c z.hc) yb (vw0 ((k : Int).tmod z.c.pins)) Fy) hs2 hY (fun y hy => by
        rcases List.mem_cons.1 hy with rfl | hy
        · exact hyb
        · exact hFy y hy)).re [3, 1, 0, 2, 4, 5] (by simp)
    simp -implicitDefEqProofs [he.hl, he.g7, he.g8]
    refine ⟨?_, (Keeps.same hs2).rl⟩
    refine (alone_at (viewR z.c) (viewR_ok z.c z.hc) I1 R1 w2 i1 3 (by omega)).mono ?_
    rintro r s3 ⟨⟨k1, d1, rfl⟩, bs', Fx', w3⟩
    have w4 := w3.re [4, 2, 0, 1, 3, 5] (by simp)
    simp -implicitDefEqProofs [he.hl, he.g7, he.g8]
    refine (alone_at (viewR z.c) (viewR_ok z.c z.hc) I2 R2 w4 i2 10000 (by omega)).mono ?_
    rintro r s4 ⟨⟨k2, d2, rfl⟩, bs2', Fy', w5⟩
    have w6 := w5.re [4, 2, 0, 5, 3, 1] (by simp)
    simp -implicitDefEqProofs [he.hl]
    have hf := fair_run z.c 3 (h, vw0 ((k : Int).tmod z.c.pins)) (fun _ => rfl)
    have hyd : ((viewR z.c).run 10000 (tw, vw0 ((k : Int).tmod z.c.pins))).2.2.st = .done := by
      obtain ⟨hp, i, n, O, q1, q2, q3, q4, q5, q6, q7, q8⟩ := hI'.xi
      exact q7
    exact hQ _ _ ⟨laid, reads, _, _, o, some (_, _), bs', bs2', F, _, he.env2 (by simp [he.hl]) (by simp) ⟨xb, yb, Fx', Fy', by simp [he.hl], by simp [he.hl], rfl⟩ w6, hk, .goes hnd hf hyd hlen hI'⟩
end Go.Proofs.YtkbpnnbdfikjhaaGreat

/- The law's own function: is who reads done? -/
namespace Go.Proofs.YtkbpnnbdfikjhaaGreat
open Go Go.Aw
set_option linter.unusedVariables false
set_option linter.unusedSimpArgs false
set_option maxRecDepth 10000

theorem vwresult_no (σ : Sto) (b : Nat) (c : Cfg) (x : Vw) (F : List Nat) (h : VwAt σ b c x F) (hd : x.st ≠ .done) :
    ACalls Tryz.prog 14 [.ptr b 0] σ (fun r σ' => r = .tuple [.agg (rowT 0 (.slice .clip []) 0), boo false] ∧ σ' = σ) := by
  obtain ⟨pa, ca, m, tp, hx, hp⟩ := h.row
  obtain ⟨st, acts, pin, epoch, shelf, block, key, seen, pairs, mark⟩ := x
  cases st
  case done => exact absurd rfl hd
  all_goals
    refine ACalls.ro fun q hq => fn_of Tab.mixed Tryz.func14 rfl rfl rfl ?_
    simp -implicitDefEqProofs
    refine alloc fun b1 hb1 => ?_
    have n1 := ne_of hx hb1
    simp -implicitDefEqProofs [hx, n1, VSt.num]
    refine hq _ _ rfl ?_
    repeat first | exact Sub.refl _ | refine sub_set ?_ hb1

/-- behind the tail, ahead of the next round -/
def KN (z : KC) (k : Nat) (e : Env) (s : Sto) : Prop := e.length = 182 ∧ gt e 14 = i64 k ∧
  ∃ laid reads h tw o x bs bs2 F gs A B M P, KE z (e.set 14 (i64 (k + 1 : Nat))) s (k + 1) laid reads h tw o x bs bs2 F gs ∧ KX x ∧ LI z.c h tw o x laid (k + 1) A B M P
theorem tail_spec (z : KC) (k : Nat) {Q : AExit → Env → Sto → Prop} (hN : ∀ e s, KN z k e s → Q .normal e s) (hE : ∀ e s, KN z k e s → Q (.exit 1) e s) {e : Env} {s : Sto} (hM : KM z k e s) : wpc Tryz.prog (CK.tail Tryz.f3) Q e s := by
  have h300 := z.h300
  obtain ⟨laid, reads, h, tw, o, x, bs, bs2, F, gs, he, hk, hX⟩ := hM
  have hle := he.le
  refine at_seq (c := CK.tail Tryz.f3) rfl ?_
  cases hX with
  | none hI =>
    obtain ⟨g10, rfl⟩ := he.xg
    simp -implicitDefEqProofs [he.hl, g10]
    exact hE _ _ ⟨by simp [he.hl], by simp [he.g14], laid, reads, h, tw, o, none, bs, bs2, F, _, _, _, _, _, he.env' (by simp [he.hl]) (by simp [he.hl]) (by simp [he.hl, he.g12]) (by simp [he.hl, he.g13]) (by simp [he.hl]) (by omega) he.wl, trivial, hI⟩
  | @goes x y A B M P nd hx hy hlen hI =>
    obtain ⟨xb, yb, Fx, Fy, g10, g11, rfl⟩ := he.xg
    have hXA : VwAt s xb z.c x Fx := he.wl.1 (rtnG (viewR z.c) (viewR_ok z.c z.hc) xb x Fx) (by simp)
    simp -implicitDefEqProofs [he.hl, g10]
    refine (vwresult_no s xb z.c x Fx hXA nd).mono ?_
    rintro r s1 ⟨rfl, rfl⟩
    simp -implicitDefEqProofs [he.hl]
    refine alloc fun b1 hb1 => ?_
    simp -implicitDefEqProofs [he.hl]
    exact hN _ _ ⟨by simp [he.hl], by simp [he.g14], laid, reads, h, tw, o, _, bs, bs2, F, _, _, _, _, _, he.env' (by simp [he.hl]) (by simp [he.hl]) (by simp [he.hl, he.g12]) (by simp [he.hl, he.g13]) (by simp [he.hl]) (by omega) (he.wl.sub (sub_set' (Sub.refl _) hb1)), ⟨hx, hy, hlen⟩, hI⟩
  | @done x y A B M P hx hy hp hlen hI =>
    obtain ⟨xb, yb, Fx, Fy, g10, g11, rfl⟩ := he.xg
    have hXA : VwAt s xb z.c x Fx := he.wl.1 (rtnG (viewR z.c) (viewR_ok z.c z.hc) xb x Fx) (by simp)
    have hr := vwresult_spec s xb z.c x Fx hXA (by rw [hp]; omega)
    simp only [hx, VSt.num, if_true] at hr
    simp -implicitDefEqProofs [he.hl, g10]
    refine hr.mono ?_
    rintro r s1 ⟨⟨t, rfl⟩, rfl⟩
    simp -implicitDefEqProofs [he.hl]
    refine alloc fun b1 hb1 => ?_
    simp -implicitDefEqProofs [he.hl, g10, g11]
    have w1 := he.wl.sub (sub_set' (o := .cells (rowT 0 (.slice t (x.pairs.map encPr)) x.mark)) (Sub.refl _) hb1)
    have hX1 := w1.1 (rtnG (viewR z.c) (viewR_ok z.c z.hc) xb x Fx) (by simp)
    refine (told_spec _ xb z.c x Fx hX1 (by rw [hp]; omega) hx).mono ?_
    rintro r s2 ⟨t1, rfl, hs2⟩
    have w2 := w1.sub hs2
    have hY2 := w2.1 (rtnG (viewR z.c) (viewR_ok z.c z.hc) yb y Fy) (by simp)
    simp -implicitDefEqProofs [he.hl, g11]
    refine (told_spec _ yb z.c y Fy hY2 (by omega) hy).mono ?_
    rintro r s3 ⟨t2, rfl, hs3⟩
    have w3 := w2.sub hs3
    simp -implicitDefEqProofs [he.hl]
    refine (same_spec _ t1 t2 x.pairs y.pairs (by rw [hp]; omega) (by omega)).mono ?_
    rintro r s4 ⟨rfl, rfl⟩
    have e1 : IntKind.i64.wrap ((reads : Int) + 1) = (reads : Int) + 1 := wrap_i64 (by omega) (by omega)
    simp -implicitDefEqProofs [he.hl, hp, he.g12, e1]
    exact hN _ _ ⟨by simp [he.hl], by simp [he.g14], laid, reads + 1, h, tw, o, none, bs, bs2, F, [], _, _, _, _, 
      ⟨by simp [he.hl], by simp [he.g1], by simp [he.g2], by simp [he.g3], by simp [he.g7], by simp [he.g8], by simp [he.g9], by simp [he.hl], by simp [he.g13], by simp [he.hl], by omega, ⟨by simp [he.hl], rfl⟩, w3.less (by simp)⟩, trivial, hI⟩
end Go.Proofs.YtkbpnnbdfikjhaaGreat

/- The law's own function: a round of its loop. -/
namespace Go.Proofs.YtkbpnnbdfikjhaaGreat
open Go Go.Aw
set_option linter.unusedVariables false
set_option linter.unusedSimpArgs false
set_option maxRecDepth 10000

/-- a round's op is read -/
def KA (z : KC) (k : Nat) (e : Env) (s : Sto) : Prop :=
  ∃ laid reads h tw o x bs bs2 F gs A B M P, KE z e s k laid reads h tw o x bs bs2 F gs ∧ KX x ∧ LI z.c h tw o x laid k A B M P ∧ k < z.ops.length
theorem KA.env {z : KC} {k : Nat} {e e' : Env} {s : Sto} (h : KA z k e s) (hl : e'.length = 182) (hs : ∀ i ∈ [1, 2, 3, 7, 8, 9, 10, 11, 12, 13, 14], gt e' i = gt e i) : KA z k e' s := by
  obtain ⟨laid, reads, h, tw, o, x, bs, bs2, F, gs, A, B, M, P, he, hx, hI, hk⟩ := h
  exact ⟨laid, reads, h, tw, o, x, bs, bs2, F, gs, A, B, M, P, he.env hl hs he.wl, hx, hI, hk⟩
theorem KA.len {z : KC} {k : Nat} {e : Env} {s : Sto} (h : KA z k e s) : e.length = 182 := by
  obtain ⟨laid, reads, h, tw, o, x, bs, bs2, F, gs, A, B, M, P, he, hx, hI, hk⟩ := h
  exact he.hl

theorem els_spec (z : KC) (k : Nat) {Q : AExit → Env → Sto → Prop} (hQ : ∀ e s, KM z k e s → Q .normal e s) {e : Env} {s : Sto} (r : Int) (h50 : gt e 50 = .sc (.int .u8 r)) (hA : KA z k e s) : wpc Tryz.prog (CK.els Tryz.f3) Q e s := by
  refine at_seq (c := CK.els Tryz.f3) CK.els_eq ?_
  refine wpc_cut (fun e s => gt e 96 = boo (decide (r = 1 ∨ r = 2 ∨ r = 3)) ∧ gt e 50 = .sc (.int .u8 r) ∧ KA z k e s) ?_ ?_
  · have hl := hA.len
    refine at_seq (c := cL (CK.els Tryz.f3)) rfl ?_
    by_cases h1 : r = 1
    · simp -implicitDefEqProofs [hl, h50, h1]
      exact hA.env (by simp [hl]) (by simp)
    by_cases h2 : r = 2
    · simp -implicitDefEqProofs [hl, h50, h1, h2]
      exact hA.env (by simp [hl]) (by simp)
    by_cases h3 : r = 3
    · simp -implicitDefEqProofs [hl, h50, h1, h2, h3]
      exact hA.env (by simp [hl]) (by simp)
    simp -implicitDefEqProofs [hl, h50, h1, h2, h3]
    exact hA.env (by simp [hl]) (by simp)
  rintro e s ⟨h96, h50, hA⟩
  by_cases h123 : r = 1 ∨ r = 2 ∨ r = 3
  · simp -implicitDefEqProofs [h96, h123]
    obtain ⟨laid, reads, h, tw, o, x, bs, bs2, F, gs, A, B, M, P, he, hx, hI, hk⟩ := hA
    exact p1_spec z k hQ he hx hI hk
  · simp -implicitDefEqProofs [h96, h123, -wpc_seq]
    refine wpc_cut (fun e s => gt e 105 = boo (decide (r = 4)) ∧ KA z k e s) ?_ ?_
    · have hl := hA.len
      refine at_region (c := cL (CK.sw4 Tryz.f3)) rfl ?_
      simp -implicitDefEqProofs [hl, h50]
      exact hA.env (by simp [hl]) (by simp)
    rintro e s ⟨h105, hA⟩
    obtain ⟨laid, reads, h, tw, o, x, bs, bs2, F, gs, A, B, M, P, he, hx, hI, hk⟩ := hA
    by_cases h4 : r = 4
    · simp -implicitDefEqProofs [h105, h4]
      exact p4_spec z k hQ he hx hI hk
    · simp -implicitDefEqProofs [h105, h4]
      exact pd_spec z k hQ he hx hI hk

theorem work_spec (z : KC) (k : Nat) {Q : AExit → Env → Sto → Prop} (hQ : ∀ e s, KM z k e s → Q .normal e s) {e : Env} {s : Sto} (hA : KA z k e s) : wpc Tryz.prog (CK.work Tryz.f3) Q e s := by
  have hl := hA.len
  obtain ⟨laid, reads, h, tw, o, x, bs, bs2, F, gs, A, B, M, P, he, hx, hI, hk⟩ := id hA
  have hlt := hk
  refine at_seq (c := CK.work Tryz.f3) CK.work_eq ?_
  refine wpc_cut (fun e s => gt e 50 = .sc (.int .u8 (z.ops[k].tmod 8)) ∧ KA z k e s) ?_ ?_
  · refine at_region (c := cL (CK.work Tryz.f3)) rfl ?_
    simp -implicitDefEqProofs [hl, he.g2, he.g14, hlt]
    exact hA.env (by simp [hl]) (by simp)
  generalize z.ops[k].tmod 8 = r
  clear hl he hx hI hA
  rintro e s ⟨h50, hA⟩
  rw [wpc_block]
  refine wpc_cut (fun e s => gt e 64 = boo (decide (r = 0)) ∧ gt e 50 = .sc (.int .u8 r) ∧ KA z k e s) ?_ ?_
  · have hl := hA.len
    refine at_region (c := cL (cL (cR (CK.work Tryz.f3)))) rfl ?_
    simp -implicitDefEqProofs [hl, h50]
    exact hA.env (by simp [hl]) (by simp)
  rintro e s ⟨h64, h50, hA⟩
  by_cases h0 : r = 0
  · simp -implicitDefEqProofs [h64, h0]
    obtain ⟨laid, reads, h, tw, o, x, bs, bs2, F, gs, A, B, M, P, he, hx, hI, hk⟩ := hA
    exact p0_spec z k (Q := blockK 2 Q) (fun e s h => hQ e s h) he hx hI hk
  · simp -implicitDefEqProofs [h64, h0]
    exact els_spec z k (Q := blockK 2 Q) (fun e s h => hQ e s h) r h50 hA

/-- a round -/
theorem round_spec (z : KC) {Q : AExit → Env → Sto → Prop} (hQ : ∀ e s, KJ z e s → Q (.exit 0) e s) (e : Env) (s : Sto) (hJ : KJ z e s) :
    wpc Tryz.prog (CK.body Tryz.f3) (loopK (KJ z) (fun e _ => z.ops.length - (intAt e 14).toNat) Q (z.ops.length - (intAt e 14).toNat)) e s := by
  have h300 := z.h300
  obtain ⟨k, laid, reads, h, tw, o, x, bs, bs2, F, gs, A, B, M, P, he, hx, hI⟩ := hJ
  have hle := he.le
  have hk0 : (intAt e 14).toNat = k := by
    have := he.g14
    simp [intAt, this]
  rw [hk0]
  refine at_seq (c := CK.body Tryz.f3) CK.body_eq ?_
  refine wpc_cut (fun e s => KA z k e s) ?_ ?_
  · refine at_seq (c := CK.head Tryz.f3) rfl ?_
    by_cases hlt : k < z.ops.length
    · simp -implicitDefEqProofs [he.hl, he.g2, he.g14, hlt]
      exact ⟨laid, reads, h, tw, o, x, bs, bs2, F, gs, A, B, M, P, he.env (by simp [he.hl]) (by simp) he.wl, hx, hI, hlt⟩
    · simp -implicitDefEqProofs [he.hl, he.g2, he.g14, hlt]
      exact hQ _ _ ⟨k, laid, reads, h, tw, o, x, bs, bs2, F, gs, A, B, M, P, he.env (by simp [he.hl]) (by simp) he.wl, hx, hI⟩
  clear he hx hI hle hk0
  intro e s hA
  have hlt : k < z.ops.length := by
    obtain ⟨laid, reads, h, tw, o, x, bs, bs2, F, gs, A, B, M, P, he, hx, hI, hk⟩ := hA
    exact hk
  refine wpc_cut (KN z k) ?_ ?_
  · rw [wpc_block]
    refine wpc_cut (KM z k) (work_spec z k (fun _ _ h => h) hA) ?_
    intro e s hM
    exact tail_spec z k (fun _ _ h => h) (fun _ _ h => by simpa using h) hM
  rintro e s ⟨hl, g14, laid, reads, h, tw, o, x, bs, bs2, F, gs, A, B, M, P, he, hx, hI⟩
  have e1 : IntKind.i64.wrap ((k : Int) + 1) = (k : Int) + 1 := wrap_i64 (by omega) (by omega)
  refine at_region (c := CK.next Tryz.f3) rfl ?_
  simp -implicitDefEqProofs [hl, g14, e1]
  refine ⟨⟨k + 1, laid, reads, h, tw, o, x, bs, bs2, F, gs, A, B, M, P, he.env (by simp [hl]) (by simp [hl]) he.wl, hx, hI⟩, ?_⟩
  simp [intAt, hl]
  omega
end Go.Proofs.YtkbpnnbdfikjhaaGreat

/- The law's own function: behind its loop. -/
namespace Go.Proofs.YtkbpnnbdfikjhaaGreat
open Go Go.Aw
set_option linter.unusedVariables false
set_option linter.unusedSimpArgs false
set_option maxRecDepth 10000

structure KZ (z : KC) (e : Env) (s : Sto) (reads laid : Nat) (h tw : Hp) (o : Off) (bs bs2 : List Nat) (A B : AH) (M : Int) (P : Prop) : Prop where
  hl : e.length = 182
  g2 : gt e 2 = .slice z.t2 (encOps z.ops)
  g3 : gt e 3 = .ptr z.b3 0
  g7 : gt e 7 = .ptr z.hb 0
  g8 : gt e 8 = .ptr z.hb2 0
  g12 : gt e 12 = i64 reads
  le : reads ≤ z.ops.length
  wl : Wld s [boxG z.b3 z.c, heapG z.hb z.m bs h, heapG z.hb2 z.m2 bs2 tw]
  li : LI z.c h tw o none laid 300 A B M P
def KY (z : KC) (e : Env) (s : Sto) : Prop := ∃ reads laid h tw o bs bs2 A B M P, KZ z e s reads laid h tw o bs bs2 A B M P

theorem fin_spec (z : KC) {Q : AExit → Env → Sto → Prop} (hQ : ∀ e s, KY z e s → Q .normal e s) (e : Env) (s : Sto) (hJ : KJ z e s) :
    wpc Tryz.prog (cL (CK.after Tryz.f3)) Q e s := by
  have h300 := z.h300
  obtain ⟨k, laid, reads, h, tw, o, x, bs, bs2, F, gs, A, B, M, P, he, hx, hI⟩ := hJ
  have hle := he.le
  refine at_seq (c := cL (CK.after Tryz.f3)) rfl ?_
  cases x with
  | none =>
    have g10 := he.xg.1
    simp -implicitDefEqProofs [he.hl, g10]
    exact hQ _ _ ⟨reads, laid, h, tw, o, bs, bs2, A, B, M, P, by simp [he.hl], by simp [he.g2], by simp [he.g3], by simp [he.g7], by simp [he.g8], by simp [he.g12], by omega, he.wl.less (by simp), hI.up (by omega) (by omega)⟩
  | some p =>
    obtain ⟨x, y⟩ := p
    obtain ⟨xb, yb, Fx, Fy, g10, g11, rfl⟩ := he.xg
    obtain ⟨⟨I1, R1, i1⟩, m1, m2, -⟩ := hI.move z.hc 10000
    have w1 : Wld s (heapG z.hb z.m bs h :: rtnG (viewR z.c) (viewR_ok z.c z.hc) xb x Fx :: boxG z.b3 z.c :: heapG z.hb2 z.m2 bs2 tw :: offG z.ob z.c o z.mo F :: [rtnG (viewR z.c) (viewR_ok z.c z.hc) yb y Fy]) := he.wl.re [1, 4, 0, 2, 3] (by simp)
    simp -implicitDefEqProofs [he.hl, g10, he.g7]
    refine (alone_at (viewR z.c) (viewR_ok z.c z.hc) I1 R1 w1 i1 10000 (by omega)).mono ?_
    rintro r s2 ⟨⟨k1, d1, rfl⟩, bs', F', w2⟩
    have hd := m1 (Nat.le_refl _)
    obtain ⟨hp, hlen, A', q3⟩ := m2 hd
    generalize hr : (viewR z.c).run 10000 (h, x) = rr at *
    obtain ⟨kk, h', x'⟩ := rr
    have w3 : Wld s2 [rtnG (viewR z.c) (viewR_ok z.c z.hc) xb x' F', rtnG (viewR z.c) (viewR_ok z.c z.hc) yb y Fy, boxG z.b3 z.c, heapG z.hb z.m bs' h', heapG z.hb2 z.m2 bs2 tw] := by
      have := w2.re [1, 5, 2, 0, 3, 4] (by simp)
      rw [show ((10000 : Int).toNat) = 10000 from rfl, hr] at this
      exact this.less (by simp [reord])
    have hp : x'.pairs = y.pairs := hp
    have hX := w3.1 _ (List.mem_cons_self ..)
    simp -implicitDefEqProofs [he.hl, g10, g11]
    refine (told_spec _ xb z.c x' F' hX (by rw [hp]; omega) hd).mono ?_
    rintro r s3 ⟨t1, rfl, hs3⟩
    have w4 := w3.sub hs3
    have hY := w4.1 (rtnG (viewR z.c) (viewR_ok z.c z.hc) yb y Fy) (by simp)
    simp -implicitDefEqProofs [he.hl, g11]
    refine (told_spec _ yb z.c y Fy hY (by omega) hx.2.1).mono ?_
    rintro r s4 ⟨t2, rfl, hs4⟩
    have w5 := w4.sub hs4
    simp -implicitDefEqProofs [he.hl]
    refine (same_spec _ t1 t2 x'.pairs y.pairs (by rw [hp]; omega) (by omega)).mono ?_
    rintro r s5 ⟨rfl, rfl⟩
    simp -implicitDefEqProofs [he.hl, hp]
    exact hQ _ _ ⟨reads, laid, h', tw, o, bs', bs2, A', B, A.E, False, by simp [he.hl], by simp [he.g2], by simp [he.g3], by simp [he.g7], by simp [he.g8], by simp [he.g12], by omega, w5.tail.tail, q3 300 (by omega) (by omega)⟩

/-- the end -/
theorem last_spec (z : KC) {Q : AExit → Env → Sto → Prop} (hQ : ∀ e s, e.length = 182 → gt e 6 = boo true → Q .ret e s) (e : Env) (s : Sto) (hJ : KY z e s) :
    wpc Tryz.prog (cR (CK.after Tryz.f3)) Q e s := by
  have h300 := z.h300
  obtain ⟨reads, laid, h, tw, o, bs, bs2, A, B, M, P, he⟩ := hJ
  obtain ⟨b1, b2, b3, -, -⟩ := z.c.bounds z.hc
  obtain ⟨⟨I1, R1, i1⟩, ⟨I2, R2, i2⟩, hd1, hd2, hp, hlen, hf⟩ := he.li.last z.hc (i := 0) ⟨by omega, by omega⟩
  have hb1 : s z.b3 = some (.cells (rowC z.c)) := he.wl.1 _ (List.mem_cons_self ..)
  have v0 : Vw.new z.c 0 = vw0 0 := by rw [vw_new]; simp
  refine at_seq (c := cR (CK.after Tryz.f3)) rfl ?_
  simp -implicitDefEqProofs [he.hl]
  refine drawW [0, 2] [1, 3] (z.b3 + 1) [0, 2, 1, 3, 4, 5] (by kernel_rfl) ?_
  simp -implicitDefEqProofs
  refine readB (st := [1, 3]) (.agg (rowC z.c)) z.b3 (rowC z.c) (by omega) hb1 (fun σ l h => by simp -implicitDefEqProofs [he.hl, he.g3, h]) ?_
  simp -implicitDefEqProofs
  refine readB (st := [1, 3]) (.agg (rowC z.c)) z.b3 (rowC z.c) (by omega) hb1 (fun σ l h => by simp -implicitDefEqProofs [he.hl, he.g3, h]) ?_
  simp -implicitDefEqProofs [he.hl]
  refine (vwnew_spec s z.c z.hc 0 (by omega)).mono ?_
  rintro r s1 ⟨xb, Fx, rfl, hxb, hX, hs1, hFx⟩
  rw [v0] at hX
  have w1 := he.wl.new (g := rtnG (viewR z.c) (viewR_ok z.c z.hc) xb (vw0 0) Fx) hs1 hX (fun y hy => by
      rcases List.mem_cons.1 hy with rfl | hy
      · exact hxb
      · exact hFx y hy)
  simp -implicitDefEqProofs [he.hl]
  refine ⟨?_, (Keeps.same hs1).rl⟩
  refine (vwnew_spec s1 z.c z.hc 0 (by omega)).mono ?_
  rintro r s2 ⟨yb, Fy, rfl, hyb, hY, hs2, hFy⟩
  rw [v0] at hY
  have w2 := (w1.new (g := rtnG (viewR z.c) (viewR_ok z.c z.hc) yb (vw0 0) Fy) hs2 hY (fun y hy => by
      rcases List.mem_cons.1 hy with rfl | hy
      · exact hyb
      · exact hFy y hy)).re [3, 1, 0, 2, 4] (by simp)
  simp -implicitDefEqProofs [he.hl, he.g7, he.g8]
  refine ⟨?_, (Keeps.same hs2).rl⟩
  refine (alone_at (viewR z.c) (viewR_ok z.c z.hc) I1 R1 w2 i1 10000 (by omega)).mono ?_
  rintro r s3 ⟨⟨k1, d1, rfl⟩, bs', Fx', w3⟩
  have w4 := w3.re [4, 2, 0, 1, 3] (by simp)
  simp -implicitDefEqProofs [he.hl, he.g7, he.g8]
  refine (alone_at (viewR z.c) (viewR_ok z.c z.hc) I2 R2 w4 i2 10000 (by omega)).mono ?_
  rintro r s4 ⟨⟨k2, d2, rfl⟩, bs2', Fy', w5⟩
  rw [show ((10000 : Int).toNat) = 10000 from rfl] at w5
  have w6 := w5
  generalize (viewR z.c).run 10000 (h, vw0 0) = r1 at *
  generalize (viewR z.c).run 10000 (tw, vw0 0) = r2 at *
  obtain ⟨n1, h1, x⟩ := r1
  obtain ⟨n2, h2, y⟩ := r2
  have hp : x.pairs = y.pairs := hp
  have hlen : x.pairs.length ≤ 64 := by rw [hp]; exact hlen
  have hf : h1.faults = 0 := hf
  have hY := w6.1 (rtnG (viewR z.c) (viewR_ok z.c z.hc) yb y Fy') (by simp)
  have hX := w6.1 (rtnG (viewR z.c) (viewR_ok z.c z.hc) xb x Fx') (by simp)
  have hH := w6.1 (heapG z.hb z.m bs' h1) (by simp)
  simp -implicitDefEqProofs [he.hl]
  refine (told_spec _ xb z.c x Fx' hX (by omega) hd1).mono ?_
  rintro r s5 ⟨t1, rfl, hs5⟩
  simp -implicitDefEqProofs [he.hl]
  refine (told_spec _ yb z.c y Fy' ((viewR_ok z.c z.hc).sub hY (fun q _ o => hs5 q o)) (by rw [← hp]; omega) hd2).mono ?_
  rintro r s6 ⟨t2, rfl, hs6⟩
  simp -implicitDefEqProofs [he.hl]
  refine (same_spec _ t1 t2 x.pairs y.pairs (by omega) (by rw [← hp]; omega)).mono ?_
  rintro r s7 ⟨rfl, rfl⟩
  simp -implicitDefEqProofs [he.hl, hp, he.g7]
  refine (faults_spec _ z.hb z.m bs' h1 (hH.sub (fun q _ o ho => hs6 q o (hs5 q o ho)))).mono ?_
  rintro r s8 ⟨rfl, rfl⟩
  simp -implicitDefEqProofs [he.hl, hf, he.g12, he.g2, he.le]
  refine (awake_spec _).mono ?_
  rintro r s9 ⟨rfl, -⟩
  simp -implicitDefEqProofs [he.hl]
  exact hQ _ _ (by simp [he.hl]) (by simp [he.hl])
end Go.Proofs.YtkbpnnbdfikjhaaGreat

/- The law's own function. -/
namespace Go.Proofs.YtkbpnnbdfikjhaaGreat
open Go Go.Aw
set_option linter.unusedVariables false
set_option linter.unusedSimpArgs false
set_option maxRecDepth 10000

theorem keeps_spec (σ : Sto) (c : Cfg) (t1 t2 : Tok) (rows : List (Tok × List Ch)) (ops : List Int) (hops : ∀ n ∈ ops, 0 ≤ n ∧ n < 256) :
    ACalls Tryz.prog 3 [.agg (rowC c), .slice t1 (rows.map encRow), .slice t2 (encOps ops)] σ (fun r σ' => r = boo true) := by
  refine ACalls.q fun q hq => fn_of Tab.mixed Tryz.func3 rfl rfl rfl ?_
  simp -implicitDefEqProofs
  refine alloc fun b3 hb3 => ?_
  simp -implicitDefEqProofs
  refine (cright_spec _ c).mono ?_
  rintro r σ' ⟨rfl, rfl⟩
  cases hc : c.right
  · simp -implicitDefEqProofs
    refine (awake_spec _).mono ?_
    rintro r σ' ⟨rfl, -⟩
    simp -implicitDefEqProofs
    exact hq _ _ rfl
  simp -implicitDefEqProofs
  refine (short_spec _ c t1 rows).mono ?_
  rintro r σ1 ⟨⟨bs, rfl, hsh⟩, hs1⟩
  have hb1 := hs1 b3 (.cells (rowC c)) (by simp [Sto.set])
  cases bs
  · simp -implicitDefEqProofs
    refine (awake_spec _).mono ?_
    rintro r σ' ⟨rfl, -⟩
    simp -implicitDefEqProofs
    exact hq _ _ rfl
  by_cases h300 : (300 : Int) < ops.length
  · simp -implicitDefEqProofs [h300]
    refine (awake_spec _).mono ?_
    rintro r σ' ⟨rfl, -⟩
    simp -implicitDefEqProofs
    exact hq _ _ rfl
  simp -implicitDefEqProofs [h300]
  refine drawW [0, 2] [1, 3] (b3 + 1) [0, 2, 1, 3, 4, 5] (by kernel_rfl) ?_
  simp -implicitDefEqProofs
  refine readB (st := [1, 3]) (.agg (rowC c)) b3 (rowC c) (by omega) hb1 (fun σ l h => by simp -implicitDefEqProofs [h]) ?_
  simp -implicitDefEqProofs
  refine readB (st := [1, 3]) (.agg (rowC c)) b3 (rowC c) (by omega) hb1 (fun σ l h => by simp -implicitDefEqProofs [h]) ?_
  simp -implicitDefEqProofs
  refine (field_spec _ c hc).mono ?_
  rintro r σ2 ⟨hb, m, bs, rfl, hH, hs2, hn2⟩
  simp -implicitDefEqProofs
  refine ⟨?_, (Keeps.same hs2).rl⟩
  refine (field_spec _ c hc).mono ?_
  rintro r σ3 ⟨hb2, m2, bs2, rfl, hT, hs3, hn3⟩
  simp -implicitDefEqProofs
  refine ⟨?_, (Keeps.same hs3).rl⟩
  have hb4 := hs3 _ _ (hs2 _ _ hb1)
  simp -implicitDefEqProofs [hb4]
  refine (popen_spec _ c hc).mono ?_
  rintro r σ4 ⟨ob, mo, rfl, hob, hO, hs4⟩
  have hb5 := hs4 _ _ hb4
  simp -implicitDefEqProofs
  obtain ⟨h12, hrows⟩ := hsh rfl
  let z : KC := ⟨c, hc, t1, t2, rows, ops, b3, hb, m, hb2, m2, ob, mo, by omega, hops, h12, hrows⟩
  refine wpc_loop (KJ z) (fun e _ => z.ops.length - (intAt e 14).toNat) ?_ ?_
  · have w0 : Wld σ1 [boxG b3 c] := ⟨fun g hg => by rw [List.mem_singleton.1 hg]; exact hb1, List.pairwise_singleton _ _⟩
    have w1 := w0.new (g := heapG hb m bs (Hp.laid c.size)) hs2 hH hn2
    have w2 := w1.new (g := heapG hb2 m2 bs2 (Hp.laid c.size)) hs3 hT hn3
    have w3 := w2.new (g := offG ob c ⟨0, []⟩ mo []) hs4 ⟨_, hO⟩ (fun y hy => by rw [List.mem_singleton.1 hy]; exact hob)
    exact ⟨0, 0, 0, _, _, ⟨0, []⟩, none, bs, bs2, [], [], AH.init, AH.init, 0, False, ⟨rfl, rfl, rfl, rfl, rfl, rfl, rfl, rfl, rfl, rfl, ⟨by omega, by omega, by omega⟩, ⟨rfl, rfl⟩, w3.perm (List.reverse_perm _).symm⟩, trivial, LI.init hc⟩
  intro e s hJ
  refine round_spec z ?_ e s hJ
  intro e s hJ
  show wpc _ (CK.after Tryz.f3) _ e s
  refine at_seq (c := CK.after Tryz.f3) (a := cL (CK.after Tryz.f3)) (b := cR (CK.after Tryz.f3)) rfl ?_
  refine wpc_cut (KY z) (fin_spec z (fun _ _ h => h) e s hJ) ?_
  intro e s hY
  refine last_spec z (fun e s hl h6 => ?_) e s hY
  simp -implicitDefEqProofs [h6]
  exact hq _ _ rfl
end Go.Proofs.YtkbpnnbdfikjhaaGreat
