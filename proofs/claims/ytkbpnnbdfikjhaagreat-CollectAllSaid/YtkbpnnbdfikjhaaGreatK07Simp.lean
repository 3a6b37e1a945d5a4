/- Rewriting rules that reckon the weakest precondition, and who owns which slice. -/
import Derived.Test.YtkbpnnbdfikjhaaGreatK05CodeD
import Derived.Test.YtkbpnnbdfikjhaaGreatK06Tab
set_option linter.unusedSimpArgs false
set_option linter.unusedVariables false
namespace Go.Aw
open Go
variable {P : Program}

/-- a slot -/
def gt (e : Env) (t : Nat) : AV := e.getD t .any
@[simp] theorem gt_zero (x : AV) (l : Env) : gt (x :: l) 0 = x := rfl
@[simp] theorem gt_succ (x : AV) (l : Env) (n : Nat) : gt (x :: l) (n + 1) = gt l n := rfl
@[simp] theorem gt_nil (n : Nat) : gt [] n = .any := by simp [gt]
@[simp] theorem gt_same {e : Env} {d : Nat} {r : AV} (h : d < e.length) : gt (e.set d r) d = r := by simp [gt, List.getD, h]
@[simp] theorem gt_ne {e : Env} {d t : Nat} {r : AV} (h : d ≠ t) : gt (e.set d r) t = gt e t := by simp [gt, List.getD, List.getElem?_set, h]

/-! Continuations behind names: simp does not go into them before they are applied. -/
structure opK (P : Program) (ops : Array Oper) (l : List Oper) (e : Env) (d : Option Tmp) (K : Env → Sto → Prop) (r : AV) (σ' : Sto) : Prop where
  h : aops P ops l (put e d r) σ' K
theorem opK_eq (P : Program) (ops : Array Oper) (l : List Oper) (e : Env) (d : Option Tmp) (K : Env → Sto → Prop) :
    opK P ops l e d K = fun r σ' => aops P ops l (put e d r) σ' K := by
  funext r σ'; exact propext ⟨fun h => h.h, fun h => ⟨h⟩⟩
def seqK (P : Program) (b : Code) (Q : AExit → Env → Sto → Prop) : AExit → Env → Sto → Prop := fun x e σ => match x with
  | .normal => wpc P b Q e σ
  | x => Q x e σ
def blockK (id : Nat) (Q : AExit → Env → Sto → Prop) : AExit → Env → Sto → Prop := fun x e σ => match x with
  | .exit i => if i = id then Q .normal e σ else Q (.exit i) e σ
  | x => Q x e σ
def loopK (I : Env → Sto → Prop) (μ : Env → Sto → Nat) (Q : AExit → Env → Sto → Prop) (n : Nat) : AExit → Env → Sto → Prop := fun x e' σ' => match x with
  | .normal => I e' σ' ∧ μ e' σ' < n
  | x => Q x e' σ'
/-- behind a range over a function -/
def rfK (Q : AExit → Env → Sto → Prop) (e : Env) (l : Nat) (o : AObj) : AV → Sto → Prop := fun _ σ' => σ' l = some o ∧ Q .normal e (σ'.del l)
def finK (P : Program) (rs : Array ResultVar) (Q : AV → Sto → Prop) : AExit → Env → Sto → Prop := fun x env σ' =>
  (match x with | .exit _ => False | .goto _ => False | _ => True) ∧ match retAV P σ' env rs with | some r => Q r σ' | none => False

/-- a drawn region that waits for its order -/
structure Drawn (P : Program) (ops : Array Oper) (e : Env) (σ : Sto) (K : Env → Sto → Prop) : Prop where
  ex : ∃ rd st lb perm, drawOK rd st ops perm = true ∧ aopsI P rd st lb ops perm e σ K
theorem Drawn.same (P : Program) (ops : Array Oper) (e : Env) (σ : Sto) (K : Env → Sto → Prop) : Drawn P ops e σ K = Drawn P ops e σ K := rfl
theorem acalls_args {P : Program} {f : FuncId} {args args' : List AV} {σ : Sto} {Q : AV → Sto → Prop} (h : args = args') : ACalls P f args σ Q = ACalls P f args' σ Q := by rw [h]

section
variable (Q : AExit → Env → Sto → Prop) (e : Env) (σ : Sto) (K : Env → Sto → Prop) (ops : Array Oper)
@[simp] theorem aops_nil : aops P ops [] e σ K = K e σ := rfl
@[simp] theorem aops_cons (o : Oper) (l : List Oper) : aops P ops (o :: l) e σ K = aopG P ops o e σ (opK P ops l e o.dst K) := by rw [opK_eq]; rfl
@[simp] theorem opK_app (l : List Oper) (d : Option Tmp) (r : AV) : opK P ops l e d K r σ = aops P ops l (put e d r) σ K := by rw [opK_eq]
@[simp] theorem seqK_normal (b : Code) : seqK P b Q .normal e σ = wpc P b Q e σ := rfl
@[simp] theorem seqK_exit (b : Code) (i : Nat) : seqK P b Q (.exit i) e σ = Q (.exit i) e σ := rfl
@[simp] theorem seqK_ret (b : Code) : seqK P b Q .ret e σ = Q .ret e σ := rfl
@[simp] theorem blockK_normal (id : Nat) : blockK id Q .normal e σ = Q .normal e σ := rfl
@[simp] theorem blockK_exit (id i : Nat) : blockK id Q (.exit i) e σ = if i = id then Q .normal e σ else Q (.exit i) e σ := rfl
@[simp] theorem blockK_ret (id : Nat) : blockK id Q .ret e σ = Q .ret e σ := rfl
@[simp] theorem loopK_normal (I : Env → Sto → Prop) (μ : Env → Sto → Nat) (n : Nat) : loopK I μ Q n .normal e σ = (I e σ ∧ μ e σ < n) := rfl
@[simp] theorem loopK_exit (I : Env → Sto → Prop) (μ : Env → Sto → Nat) (n i : Nat) : loopK I μ Q n (.exit i) e σ = Q (.exit i) e σ := rfl
@[simp] theorem loopK_ret (I : Env → Sto → Prop) (μ : Env → Sto → Nat) (n : Nat) : loopK I μ Q n .ret e σ = Q .ret e σ := rfl
@[simp] theorem finK_normal (rs : Array ResultVar) (R : AV → Sto → Prop) : finK P rs R .normal e σ = (match retAV P σ e rs with | some r => R r σ | none => False) := by simp [finK]
@[simp] theorem finK_ret (rs : Array ResultVar) (R : AV → Sto → Prop) : finK P rs R .ret e σ = (match retAV P σ e rs with | some r => R r σ | none => False) := by simp [finK]
@[simp] theorem wpc_skip : wpc P .skip Q e σ = Q .normal e σ := rfl
@[simp] theorem wpc_region (id : Nat) : wpc P (.region id ops false) Q e σ = aops P ops ops.toList e σ (Q .normal) := by simp [wpc]
@[simp] theorem wpc_draw (id : Nat) : wpc P (.region id ops true) Q e σ = Drawn P ops e σ (Q .normal) := by
  refine propext ⟨fun h => ⟨by simpa [wpc] using h⟩, fun h => by simpa [wpc] using h.ex⟩
@[simp] theorem wpc_seq (a b : Code) : wpc P (.seq a b) Q e σ = wpc P a (seqK P b Q) e σ := rfl
@[simp] theorem wpc_cond (c : Operand) (a b : Code) : wpc P (.cond c a b) Q e σ = (match ev e c with
    | .sc (.bool t) => if t = true then wpc P a Q e σ else wpc P b Q e σ
    | _ => False) := rfl
@[simp] theorem wpc_block (id : Nat) (c : Code) : wpc P (.block id c) Q e σ = wpc P c (blockK id Q) e σ := rfl
@[simp] theorem wpc_exit (id : Nat) : wpc P (.exit id) Q e σ = Q (.exit id) e σ := rfl
@[simp] theorem wpc_ret : wpc P .ret Q e σ = Q .ret e σ := rfl
@[simp] theorem wpc_scope (c : Code) : wpc P (.scope c) Q e σ = wpc P c (scopeK P c Q) e σ := rfl
@[simp] theorem scopeK_normal (c : Code) : scopeK P c Q .normal e σ = Q .normal e σ := rfl
@[simp] theorem scopeK_ret (c : Code) : scopeK P c Q .ret e σ = Q .ret e σ := rfl
@[simp] theorem scopeK_exit (c : Code) (i : Nat) : scopeK P c Q (.exit i) e σ = Q (.exit i) e σ := rfl
@[simp] theorem wpc_goto (l : Nat) : wpc P (.goto l) Q e σ = Q (.goto l) e σ := rfl
@[simp] theorem seqK_goto (b : Code) (l : Nat) : seqK P b Q (.goto l) e σ = Q (.goto l) e σ := rfl
@[simp] theorem blockK_goto (id l : Nat) : blockK id Q (.goto l) e σ = Q (.goto l) e σ := rfl
@[simp] theorem wpc_rangeFunc (g : Operand) (ps : Array Tmp) (assign body : Code) : wpc P (.rangeFunc g ps assign body) Q e σ = (match ev e g with
    | .func (.func f) first captured => callable P f = true ∧ ∀ (l D : Nat) (fn : FuncId), σ l = none → ACalls P f (first ++ [.func (.yield l) [] []] ++ captured) (σ.set l (.loop fn ps assign body D e)) (rfK Q e l (.loop fn ps assign body D e))
    | _ => False) := rfl
@[simp] theorem wpc_label (l : Nat) : wpc P (.label l) Q e σ = Q .normal e σ := rfl
end

theorem wpc_loop (I : Env → Sto → Prop) (μ : Env → Sto → Nat) {c : Code} {Q : AExit → Env → Sto → Prop} {e : Env} {σ : Sto} (h0 : I e σ)
    (h1 : ∀ e σ, I e σ → wpc P c (loopK I μ Q (μ e σ)) e σ) : wpc P (.loop c) Q e σ := ⟨I, μ, h0, h1⟩

theorem fn_of (hm : P.follows .mixedOrders = true) {f : FuncId} {fn : Func} {c : Code} {args : List AV} {σ : Sto} {Q : AV → Sto → Prop} {rs : Array ResultVar} {n : Nat}
    (hf : P.funcs[f]? = some fn) (hb : fn.body = some c) (hr : fn.results = rs) (hn : fn.ntmps = n)
    (h : wpc P c (finK P rs Q) (args ++ List.replicate (n - args.length) .any) σ) : ACalls P f args σ Q := by
  subst hr; subst hn
  exact ACalls.of_wpc hm hf hb h

section
variable (ops : Array Oper) (d : Option Tmp) (t : TypeId) (p : String) (a : Array Edge) (g : Option (Nat × Bool)) (env : Env) (σ : Sto) (k : AV → Sto → Prop)
@[simp] theorem aopG_none (op : Op) : aopG P ops ⟨d, op, t, p, a, none⟩ env σ k = aop P ⟨d, op, t, p, a, none⟩ env σ k := rfl
@[simp] theorem aopG_some (op : Op) (j : Nat) (w : Bool) : aopG P ops ⟨d, op, t, p, a, some (j, w)⟩ env σ k =
  (match gd ops env j with
    | .sc (.bool t') => if t' = w then aop P ⟨d, op, t, p, a, some (j, w)⟩ env σ k else k (.tuple []) σ
    | .tuple [] => k (.tuple []) σ
    | _ => False) := rfl
@[simp] theorem aop_move (x : Operand) : aop P ⟨d, .move x, t, p, a, g⟩ env σ k = k (ev env x) σ := rfl
@[simp] theorem aop_assign (x : Operand) : aop P ⟨d, .assign x, t, p, a, g⟩ env σ k = k (ev env x) σ := rfl
@[simp] theorem aop_pick (x y z : Operand) : aop P ⟨d, .pick x y z, t, p, a, g⟩ env σ k = (match ev env x with
    | .sc (.bool t) => k (if t = true then ev env y else ev env z) σ
    | _ => False) := rfl
@[simp] theorem aop_alloc (u : TypeId) : aop P ⟨d, .alloc u, t, p, a, g⟩ env σ k = aAlloc (tyZero P u) σ k := rfl
@[simp] theorem aop_box (u : TypeId) (x : Operand) : aop P ⟨d, .box u x, t, p, a, g⟩ env σ k = aAlloc (ev env x).cells σ k := rfl
@[simp] theorem aop_build (u : TypeId) (ps : Array (Nat × Operand)) : aop P ⟨d, .build u ps, t, p, a, g⟩ env σ k = if (tyArr P u).isSome = true then aBuildA P u (ps.toList.map fun p => (p.1, ev env p.2)) σ k else aBuild P u (ps.toList.map fun p => (p.1, ev env p.2)) σ k := rfl
@[simp] theorem aop_buildSlice (u : TypeId) (n : Nat) (ps : Array (Nat × Operand)) : aop P ⟨d, .buildSlice u n ps, t, p, a, g⟩ env σ k = if isMut u = true then aBuildSliceM P u n (ps.toList.map fun p => (p.1, ev env p.2)) σ k else aBuildSlice P u n (ps.toList.map fun p => (p.1, ev env p.2)) σ k := rfl
@[simp] theorem aop_load (u : TypeId) (x : Operand) : aop P ⟨d, .load u x, t, p, a, g⟩ env σ k = aLoad P u (ev env x) σ k := rfl
@[simp] theorem aop_store (u : TypeId) (x y : Operand) : aop P ⟨d, .store u x y, t, p, a, g⟩ env σ k = aStore P u (ev env x) (ev env y) σ k := rfl
@[simp] theorem aop_nilCheck (x : Operand) : aop P ⟨d, .nilCheck x, t, p, a, g⟩ env σ k = aNil (ev env x) σ k := rfl
@[simp] theorem aop_binOp (op : BinOp) (u v : TypeId) (x y : Operand) : aop P ⟨d, .binOp op u x y v, t, p, a, g⟩ env σ k = if op = .shr then aShr (ev env x) (ev env y) σ k else if isNil y = true then aNilEq P op u (ev env x) σ k else aBin P op u (isLit x || isLit y) (ev env x) (ev env y) σ k := rfl
@[simp] theorem aop_unOp (op : UnOp) (u : TypeId) (x : Operand) : aop P ⟨d, .unOp op u x, t, p, a, g⟩ env σ k = aUn op (ev env x) σ k := rfl
@[simp] theorem aop_convert (u v : TypeId) (x : Operand) : aop P ⟨d, .convert u v x, t, p, a, g⟩ env σ k = aConv P u v (ev env x) σ k := rfl
@[simp] theorem aop_makeInterface (u : TypeId) (x : Operand) : aop P ⟨d, .makeInterface u x, t, p, a, g⟩ env σ k = (tyKd P u ≠ none ∧ tyKd P u ≠ some .iface ∧ k (.iface u (ev env x)) σ) := rfl
@[simp] theorem aop_makeFunc (fn : Fn) (x y : Array Operand) : aop P ⟨d, .makeFunc fn x y, t, p, a, g⟩ env σ k = k (.func fn (x.toList.map (ev env)) (y.toList.map (ev env))) σ := rfl
@[simp] theorem aop_slice (u : TypeId) (x : Operand) (lo hi mx : Option Operand) : aop P ⟨d, .slice u x lo hi mx, t, p, a, g⟩ env σ k = if isMut u = true then aSliceM P u (ev env x) (lo.map (ev env)) (hi.map (ev env)) (mx.map (ev env)) σ k else aSlice P u (ev env x) (lo.map (ev env)) (hi.map (ev env)) (mx.map (ev env)) σ k := rfl
@[simp] theorem aop_fieldAddr (u : TypeId) (x : Operand) (f : Nat) : aop P ⟨d, .fieldAddr u x f, t, p, a, g⟩ env σ k = aFieldAddr P u (ev env x) f σ k := rfl
@[simp] theorem aop_field (u : TypeId) (x : Operand) (f : Nat) : aop P ⟨d, .field u x f, t, p, a, g⟩ env σ k = aField P u (ev env x) f σ k := rfl
@[simp] theorem aop_indexAddr (u : TypeId) (x y : Operand) : aop P ⟨d, .indexAddr u x y, t, p, a, g⟩ env σ k = if isMut u = true then aIndexAddrM P u (ev env x) (ev env y) σ k else if (tyArr P u).isSome = true then aIndexAddrA P u (ev env x) (ev env y) σ k else aIndexAddr P u (ev env x) (ev env y) σ k := rfl
@[simp] theorem aop_index (u : TypeId) (x y : Operand) : aop P ⟨d, .index u x y, t, p, a, g⟩ env σ k = if (tyArr P u).isSome = true then aIndexA P u (ev env x) (ev env y) σ k else aIndex P u (ev env x) (ev env y) σ k := rfl
@[simp] theorem aop_extract (x : Operand) (i : Nat) : aop P ⟨d, .extract x i, t, p, a, g⟩ env σ k = aExtract (ev env x) i σ k := rfl
@[simp] theorem aop_call_value (f : Operand) (xs : Array Operand) (ts : Array TypeId) : aop P ⟨d, .call ⟨.value f, xs, ts⟩, t, p, a, g⟩ env σ k = (match ev env f with
    | .func (.func id) first captured => callable P id = true ∧ ACalls P id (first ++ xs.toList.map (ev env) ++ captured) σ k
    | .func (.method name) [.iface t x] [] => (match tyMeth P t name with
      | some id => callable P id = true ∧ ACalls P id (x :: xs.toList.map (ev env)) σ k
      | none => False)
    | .func (.yield l) [] [] => AYield P l (xs.toList.map (ev env)) σ k
    | _ => False) := rfl
@[simp] theorem aop_call_len (xs : Array Operand) (ts : Array TypeId) : aop P ⟨d, .call ⟨.builtin .len, xs, ts⟩, t, p, a, g⟩ env σ k = aBuiltin P .len ts.toList (xs.toList.map (ev env)) σ k := rfl
@[simp] theorem aop_call_min (xs : Array Operand) (ts : Array TypeId) : aop P ⟨d, .call ⟨.builtin .min, xs, ts⟩, t, p, a, g⟩ env σ k = aBuiltin P .min ts.toList (xs.toList.map (ev env)) σ k := rfl
@[simp] theorem aop_call_max (xs : Array Operand) (ts : Array TypeId) : aop P ⟨d, .call ⟨.builtin .max, xs, ts⟩, t, p, a, g⟩ env σ k = aBuiltin P .max ts.toList (xs.toList.map (ev env)) σ k := rfl
@[simp] theorem aop_call_append (x y : Operand) (t1 t2 : TypeId) : aop P ⟨d, .call ⟨.builtin .append, #[x, y], #[t1, t2]⟩, t, p, a, g⟩ env σ k = if isMut t1 = true then aAppendM P t1 t2 (ev env x) (ev env y) σ k else aAppend P t1 t2 (ev env x) (ev env y) σ k := rfl
@[simp] theorem aop_call_invoke (x : Operand) (n : String) (xs : Array Operand) (ts : Array TypeId) : aop P ⟨d, .call ⟨.invoke x n, xs, ts⟩, t, p, a, g⟩ env σ k = (match ev env x with
    | .iface t x => (match tyMeth P t n with
      | some id => callable P id = true ∧ ACalls P id (x :: xs.toList.map (ev env)) σ k
      | none => False)
    | _ => False) := rfl
@[simp] theorem aop_call_delete (x y : Operand) (t1 t2 : TypeId) : aop P ⟨d, .call ⟨.builtin .delete, #[x, y], #[t1, t2]⟩, t, p, a, g⟩ env σ k = aDelete P t1 (ev env x) (ev env y) σ k := rfl
@[simp] theorem aop_call_clear (x : Operand) (t1 : TypeId) : aop P ⟨d, .call ⟨.builtin .clear, #[x], #[t1]⟩, t, p, a, g⟩ env σ k = aClear P t1 (ev env x) σ k := rfl
@[simp] theorem aop_makeSlice (u : TypeId) (x y : Operand) : aop P ⟨d, .makeSlice u x y, t, p, a, g⟩ env σ k = aMakeSlice P u (ev env x) (ev env y) σ k := rfl
@[simp] theorem aop_makeMap (u : TypeId) (r : Option Operand) : aop P ⟨d, .makeMap u r, t, p, a, g⟩ env σ k = (r = none ∧ aMakeMap P u σ k) := rfl
@[simp] theorem aop_lookup (u : TypeId) (x y : Operand) (ok : Bool) : aop P ⟨d, .lookup u x y ok, t, p, a, g⟩ env σ k = aLookup P u (ev env x) (ev env y) ok σ k := rfl
@[simp] theorem aop_mapUpdate (u : TypeId) (x y z : Operand) : aop P ⟨d, .mapUpdate u x y z, t, p, a, g⟩ env σ k = aMapUpdate P u (ev env x) (ev env y) (ev env z) σ k := rfl
@[simp] theorem aop_range (u : TypeId) (x : Operand) : aop P ⟨d, .range u x, t, p, a, g⟩ env σ k = aRange P u (ev env x) σ k := rfl
@[simp] theorem aop_next (x : Operand) (s : Bool) : aop P ⟨d, .next x s, t, p, a, g⟩ env σ k = aNext (ev env x) s σ k := rfl
@[simp] theorem aop_entry (x : Operand) : aop P ⟨d, .entry x, t, p, a, g⟩ env σ k = aEntry (ev env x) σ k := rfl
@[simp] theorem aNil_iface (u : TypeId) (x : AV) : aNil (.iface u x) σ k = k (.iface u x) σ := rfl
@[simp] theorem ev_tmp (x : Tmp) : ev env (.tmp x) = gt env x := rfl
@[simp] theorem gd_eq (j : Nat) : gd ops env j = (match ops[j]? with
  | some o => match o.dst with
    | some d => gt env d
    | none => .any
  | none => .any) := rfl
@[simp] theorem res_nil : resAV P σ env [] = some [] := rfl
@[simp] theorem res_tmp (x : Tmp) (l : List ResultVar) : resAV P σ env (.tmp x :: l) = (resAV P σ env l).map (gt env x :: ·) := rfl
@[simp] theorem res_cell (x : Tmp) (u : TypeId) (l : List ResultVar) : resAV P σ env (.cell x u :: l) = (match gt env x with
    | .ptr b off => match σ b with
      | some (.cells cs) => match loadAV P u cs off, resAV P σ env l with
        | some r, some rs => some (r :: rs)
        | _, _ => none
      | _ => none
    | _ => none) := rfl
@[simp] theorem ev_const (v : Value) : ev env (.const v) = cv v := rfl
@[simp] theorem ev_global (x : Nat) : ev env (.global x) = .ptr x 0 := rfl
@[simp] theorem ev_func (x : Nat) : ev env (.func x) = .func (.func x) [] [] := rfl
@[simp] theorem put_some (x : Tmp) (r : AV) : put env (some x) r = env.set x r := rfl
@[simp] theorem put_none (r : AV) : put env none r = env := rfl
@[simp] theorem cv_int (ki : IntKind) (n : Int) : cv (.int ki n) = .sc (.int ki n) := rfl
@[simp] theorem cv_bool (b : Bool) : cv (.bool b) = .sc (.bool b) := rfl
@[simp] theorem cv_string (b : ByteArray) : cv (.string b) = .sc (.string b) := rfl
@[simp] theorem cv_ptr (b : Option Addr) : cv (.pointer b) = .sc (.pointer b) := rfl
@[simp] theorem cv_nil : cv (.slice none 0 0) = .slice .clip [] := rfl
@[simp] theorem cv_nilFunc : cv .nilFunc = .sc .nilFunc := rfl
@[simp] theorem cv_nilIface : cv .nilIface = .sc .nilIface := rfl
@[simp] theorem cv_map (r : Option Nat) : cv (.map r) = .sc (.map r) := rfl
@[simp] theorem cv_agg (cs : Array Value) : cv (.agg cs) = .agg (cs.toList.map cv1) := rfl
@[simp] theorem aNil_ptr (b o : Nat) : aNil (.ptr b o) σ k = k (.ptr b o) σ := rfl
@[simp] theorem aNil_iptr (r : List AV) (o : Nat) : aNil (.iptr r o) σ k = k (.iptr r o) σ := rfl
@[simp] theorem aNil_func (f : FuncId) (x y : List AV) : aNil (.func (.func f) x y) σ k = k (.func (.func f) x y) σ := rfl
@[simp] theorem aLoad_ptr (u : TypeId) (b o : Nat) : aLoad P u (.ptr b o) σ k = (match σ b with
    | some (.cells cs) => match loadAV P u cs o with
      | some r => k r σ
      | none => False
    | _ => False) := rfl
@[simp] theorem aLoad_iptr (u : TypeId) (r : List AV) (o : Nat) : aLoad P u (.iptr r o) σ k = (match loadAV P u r o with
      | some r => k r σ
      | none => False) := rfl
@[simp] theorem aStore_ptr (u : TypeId) (b o : Nat) (x : AV) : aStore P u (.ptr b o) x σ k = (match σ b, x.cells, tySize P u with
    | some (.cells cs), some xs, some n => xs.length = n ∧ xs.all AV.one = true ∧ o + n ≤ cs.length ∧ k .any (σ.set b (.cells (asplice cs o xs)))
    | _, _, _ => False) := rfl
@[simp] theorem aBin_int (op : BinOp) (u : TypeId) (lit : Bool) (ka kb : IntKind) (x y : Int) : aBin P op u lit (.sc (.int ka x)) (.sc (.int kb y)) σ k = (ka = kb ∧ match scInt op ka x y with
    | some (v, true) => k (.sc v) σ
    | some (v, false) => y ≠ 0 ∧ k (.sc v) σ
    | none => False) := rfl
@[simp] theorem aEx (vs : List AV) (i : Nat) : aExtract (.tuple vs) i σ k = (match vs[i]? with
    | some r => k r σ
    | none => False) := rfl
end

attribute [simp] List.range List.range.loop
attribute [simp] isMut mutT aBuildA aIndexAddrA aIndexA aMakeSlice aBuildSliceM aIndexAddrM aSliceM aMakeMap keyV aShr
attribute [simp] isNil isLit aNilEq eqCell eqCells aBuild aBuildSlice afill chunk zeros aBin scInt scStr aEq aUn aConv oInt aSlice aFieldAddr aField aIndexAddr aIndex
  aBuiltin cv1 loadAV AV.cells AV.one asplice retAV List.replicate

@[simp] theorem set_set (σ : Sto) (b : Nat) (o o' : AObj) : (σ.set b o).set b o' = σ.set b o' := by
  funext x; simp only [Sto.set]; split <;> rfl
@[simp] theorem set_get (σ : Sto) (b : Nat) (o : AObj) (x : Nat) : (σ.set b o) x = if x = b then some o else σ x := rfl
@[simp] theorem del_get (σ : Sto) (b : Nat) (x : Nat) : (σ.del b) x = if x = b then none else σ x := rfl

theorem aopGP_nil {ops : Array Oper} {i : Nat} {o : Oper} {e : Env} : aopGP P [] [] 0 ops i o e = aopG P ops o e := by
  funext σ k; simp [aopGP]

theorem aopsI_eq (ops : Array Oper) (K : Env → Sto → Prop) (l : List Oper) : ∀ k, (∀ j, l[j]? = ops[k + j]?) → ∀ e σ, aopsI P [] [] 0 ops (List.range' k l.length) e σ K = aops P ops l e σ K := by
  induction l with
  | nil => intro k _ e σ; simp [aopsI, aops]
  | cons o l ih =>
    intro k h e σ
    have h0 : ops[k]? = some o := by simpa using (h 0).symm
    have ih' := ih (k + 1) (fun j => by have := h (j + 1); simpa [Nat.add_assoc, Nat.add_comm 1 j] using this)
    simp only [List.length_cons, List.range'_succ, aopsI, h0, aops, ih', aopGP_nil]

@[simp] theorem aAlloc_none (σ : Sto) (k : AV → Sto → Prop) : aAlloc none σ k = False := rfl
theorem alloc {cs : List AV} {σ : Sto} {k : AV → Sto → Prop} (h : ∀ b, σ b = none → k (.ptr b 0) (σ.set b (.cells cs))) : aAlloc (some cs) σ k := h

/-- a drawn region in the text's order -/
theorem draw {ops : Array Oper} {e : Env} {σ : Sto} {K : Env → Sto → Prop} (h : drawOK [] [] ops (List.range ops.size) = true) (h2 : aops P ops ops.toList e σ K) :
    Drawn P ops e σ K :=
  ⟨⟨[], [], 0, _, h, by rw [List.range_eq_range', ← Array.length_toList, aopsI_eq ops K ops.toList 0 (by simp)]; exact h2⟩⟩

/-- a drawn region in an order of one's own -/
theorem aopsI_perm (ops : Array Oper) (K : Env → Sto → Prop) : ∀ (l : List Nat) (e : Env) (σ : Sto), (∀ i ∈ l, i < ops.size) → aopsI P [] [] 0 ops l e σ K = aops P ops (l.filterMap fun i => ops[i]?) e σ K
  | [], e, σ, _ => rfl
  | i :: l, e, σ, h => by
    have hlt := h i (by simp)
    have hi : ops[i]? = some (ops[i]'hlt) := by simp [hlt]
    simp only [aopsI, hi, List.filterMap_cons, aops, aopGP]
    simp only [List.contains_nil, Bool.false_eq_true, if_false]
    congr 1
    funext r σ'
    exact aopsI_perm ops K l _ _ fun j hj => h j (by simp [hj])
theorem drawBy (perm : List Nat) {ops : Array Oper} {e : Env} {σ : Sto} {K : Env → Sto → Prop} (h : drawOK [] [] ops perm = true) (h1 : (perm.all fun i => decide (i < ops.size)) = true)
    (h2 : aops P ops (perm.filterMap fun i => ops[i]?) e σ K) : Drawn P ops e σ K :=
  ⟨⟨[], [], 0, perm, h, by rw [aopsI_perm ops K perm e σ (fun i hi => by simpa using List.all_eq_true.1 h1 i hi)]; exact h2⟩⟩

/-- a drawn region in a given order, some operations of it reckoned as reads, some as writes to one block alone -/
def opsP (P : Program) (rd st : List Nat) (lb : Nat) (ops : Array Oper) : List Nat → Env → Sto → (Env → Sto → Prop) → Prop := aopsI P rd st lb ops

/-- behind an operation of such a region -/
structure opPK (P : Program) (rd st : List Nat) (lb : Nat) (ops : Array Oper) (l : List Nat) (e : Env) (d : Option Tmp) (K : Env → Sto → Prop) (r : AV) (σ' : Sto) : Prop where
  h : opsP P rd st lb ops l (put e d r) σ' K

/-- an operation that is reckoned as a read -/
structure Read (P : Program) (st : List Nat) (lb : Nat) (ops : Array Oper) (o : Oper) (e : Env) (σ : Sto) (k : AV → Sto → Prop) : Prop where
  h : ∃ (r : AV) (C : Sto → Prop), C σ ∧ (∀ σ σ', Rl st lb σ σ' → C σ → C σ') ∧ (∀ σ, C σ → aopG P ops o e σ (fun r' σ' => r' = r ∧ σ' = σ)) ∧ k r σ
/-- an operation that lays a block -/
structure AlC (P : Program) (ops : Array Oper) (o : Oper) (e : Env) (σ : Sto) (k : AV → Sto → Prop) : Prop where
  h : ∃ cs, (∀ σ k, aAlloc (some cs) σ k → aopG P ops o e σ k) ∧ aAlloc (some cs) σ k
theorem alc {ops : Array Oper} {o : Oper} {e : Env} {σ : Sto} {k : AV → Sto → Prop} (cs : List AV) (h1 : ∀ σ k, (∀ b, σ b = none → k (.ptr b 0) (σ.set b (.cells cs))) → aopG P ops o e σ k)
    (h2 : ∀ b, σ b = none → k (.ptr b 0) (σ.set b (.cells cs))) : AlC P ops o e σ k := ⟨⟨cs, h1, h2⟩⟩
/-- behind an operation that only writes to one block -/
structure opWK (st : List Nat) (lb : Nat) (σ0 : Sto) (k : AV → Sto → Prop) (r : AV) (σ' : Sto) : Prop where
  h : k r σ' ∧ Rl st lb σ0 σ'

@[simp] theorem opPK_app (rd st : List Nat) (lb : Nat) (ops : Array Oper) (l : List Nat) (e : Env) (d : Option Tmp) (K : Env → Sto → Prop) (r : AV) (σ : Sto) :
    opPK P rd st lb ops l e d K r σ = opsP P rd st lb ops l (put e d r) σ K := propext ⟨fun h => h.h, fun h => ⟨h⟩⟩
theorem opPK_eq (rd st : List Nat) (lb : Nat) (ops : Array Oper) (l : List Nat) (e : Env) (d : Option Tmp) (K : Env → Sto → Prop) :
    opPK P rd st lb ops l e d K = fun r σ => opsP P rd st lb ops l (put e d r) σ K := by funext r σ; exact opPK_app ..
@[simp] theorem opWK_app (st : List Nat) (lb : Nat) (σ0 : Sto) (k : AV → Sto → Prop) (r : AV) (σ' : Sto) : opWK st lb σ0 k r σ' = (k r σ' ∧ Rl st lb σ0 σ') := propext ⟨fun h => h.h, fun h => ⟨h⟩⟩
theorem opWK_eq (st : List Nat) (lb : Nat) (σ0 : Sto) (k : AV → Sto → Prop) : opWK st lb σ0 k = fun r σ' => k r σ' ∧ Rl st lb σ0 σ' := by funext r σ; exact opWK_app ..
@[simp] theorem opsP_nil (rd st : List Nat) (lb : Nat) (ops : Array Oper) (e : Env) (σ : Sto) (K : Env → Sto → Prop) : opsP P rd st lb ops [] e σ K = K e σ := rfl
@[simp] theorem opsP_cons (rd st : List Nat) (lb : Nat) (ops : Array Oper) (n : Nat) (l : List Nat) (e : Env) (σ : Sto) (K : Env → Sto → Prop) :
    opsP P rd st lb ops (n :: l) e σ K = (match ops[n]? with
      | some o => if rd.contains n = true then Read P st lb ops o e σ (opPK P rd st lb ops l e o.dst K) else if st.contains n = true then aopG P ops o e σ (opWK st lb σ (opPK P rd st lb ops l e o.dst K))
        else if st.contains (n + 1000) = true then AlC P ops o e σ (opPK P rd st lb ops l e o.dst K) else aopG P ops o e σ (opPK P rd st lb ops l e o.dst K)
      | none => False) := by
  simp only [opsP, aopsI, aopGP, opPK_eq, opWK_eq]
  cases ops[n]? with
  | none => rfl
  | some o =>
    simp only
    split
    · exact propext ⟨fun h => ⟨h⟩, fun h => h.h⟩
    · split
      · rfl
      · split
        · exact propext ⟨fun h => ⟨h⟩, fun h => h.h⟩
        · rfl

theorem drawP (rd : List Nat) {ops : Array Oper} {e : Env} {σ : Sto} {K : Env → Sto → Prop} (h : drawOK rd [] ops (List.range ops.size) = true) (h2 : opsP P rd [] 0 ops (List.range ops.size) e σ K) :
    Drawn P ops e σ K := ⟨⟨rd, [], 0, _, h, h2⟩⟩
/-- some operations read, some write to the block lb alone -/
theorem drawW (rd st : List Nat) (lb : Nat) (perm : List Nat) {ops : Array Oper} {e : Env} {σ : Sto} {K : Env → Sto → Prop} (h : drawOK rd st ops perm = true) (h2 : opsP P rd st lb ops perm e σ K) :
    Drawn P ops e σ K := ⟨⟨rd, st, lb, perm, h, h2⟩⟩

theorem read {lb : Nat} {ops : Array Oper} {o : Oper} {e : Env} {σ : Sto} {k : AV → Sto → Prop} (r : AV) (C : Sto → Prop) (h1 : C σ) (h2 : ∀ σ σ', Keeps σ σ' → C σ → C σ')
    (h3 : ∀ σ, C σ → aopG P ops o e σ (fun r' σ' => r' = r ∧ σ' = σ)) (h4 : k r σ) : Read P [] lb ops o e σ k := ⟨r, C, h1, fun σ σ' hk => h2 σ σ' (by simpa [Rl] using hk), h3, h4⟩
/-- the same, where the call leans on the cells of one block -/
theorem readAt {lb : Nat} {ops : Array Oper} {o : Oper} {e : Env} {σ : Sto} {k : AV → Sto → Prop} (r : AV) (b : Nat) (cs : List AV) (h1 : σ b = some (.cells cs))
    (h3 : ∀ σ l, σ b = some (.cells (cs ++ l)) → aopG P ops o e σ (fun r' σ' => r' = r ∧ σ' = σ)) (h4 : k r σ) : Read P [] lb ops o e σ k :=
  read r (fun σ => ∃ l, σ b = some (.cells (cs ++ l))) ⟨[], by simpa using h1⟩ (fun _ _ hk ⟨l, h⟩ => by obtain ⟨l', h'⟩ := hk.cells _ _ h; exact ⟨l ++ l', by rw [h', List.append_assoc]⟩) (fun σ ⟨l, h⟩ => h3 σ l h) h4
/-- a read of a block beside writes to another one -/
theorem readB {st : List Nat} {lb : Nat} {ops : Array Oper} {o : Oper} {e : Env} {σ : Sto} {k : AV → Sto → Prop} (r : AV) (b : Nat) (cs : List AV) (hb : b ≠ lb) (h1 : σ b = some (.cells cs))
    (h3 : ∀ σ l, σ b = some (.cells (cs ++ l)) → aopG P ops o e σ (fun r' σ' => r' = r ∧ σ' = σ)) (h4 : k r σ) : Read P st lb ops o e σ k :=
  ⟨r, fun σ => ∃ l, σ b = some (.cells (cs ++ l)), ⟨[], by simpa using h1⟩, fun σ σ' hk ⟨l, h⟩ => by
    have hB : KeepsB lb σ σ' := by
      unfold Rl at hk; split at hk
      · exact hk.b
      · exact hk
    obtain ⟨l', h'⟩ := hB.cells _ _ hb h
    exact ⟨l ++ l', by rw [h', List.append_assoc]⟩, fun σ ⟨l, h⟩ => h3 σ l h, h4⟩
theorem rl_set {s : Nat} {st : List Nat} {b : Nat} {σ : Sto} {o : AObj} : Rl (s :: st) b σ (σ.set b o) := by
  unfold Rl; rw [if_neg (by simp)]; exact KeepsB.set

theorem none_of_set {σ : Sto} {b x : Nat} {o : AObj} (h : (σ.set b o) x = none) : x ≠ b ∧ σ x = none := by
  simp only [Sto.set] at h
  split at h
  · cases h
  · rename_i hn; exact ⟨hn, h⟩

@[simp] theorem take_map_all {α : Type} (f : α → List AV) (l : List α) : List.take l.length (l.map f) = l.map f := List.take_of_length_le (by simp)

/-- the number in a slot -/
def intAt (e : Env) (t : Nat) : Int := match gt e t with
  | .sc (.int _ n) => n
  | _ => 0
theorem intAt_of {e : Env} {t : Nat} {k : IntKind} {n : Int} (h : gt e t = .sc (.int k n)) : intAt e t = n := by simp [intAt, h]

theorem wrap_i64 {n : Int} (h1 : -9223372036854775808 ≤ n) (h2 : n ≤ 9223372036854775807) : IntKind.i64.wrap n = n := by
  have hb : IntKind.i64.bits = 64 := rfl
  simp only [IntKind.wrap, IntKind.signed, IntKind.bits]
  simp
  omega

/-! ### Appending -/
/-- the block whose room a slice may take -/
def fp : Tok → Option Nat
  | .live b _ => some b
  | _ => none
/-- the slice may be appended to -/
def Own (σ : Sto) (t : Tok) (n es : Nat) : Prop :=
  match t with
  | .dead => False
  | .clip => True
  | .live b e => e = es ∧ σ b = some (.top (n * es))
/-- what an append does to the store -/
structure Moved (σ σ' : Sto) (t t' : Tok) : Prop where
  keep : ∀ x o, fp t ≠ some x → σ x = some o → σ' x = some o
  fresh : ∀ x, fp t' = some x → fp t = some x ∨ σ x = none
  back : ∀ x o, fp t' ≠ some x → σ' x = some o → σ x = some o

theorem Moved.refl (σ : Sto) (t : Tok) : Moved σ σ t t := ⟨fun _ _ _ h => h, fun _ h => .inl h, fun _ _ _ h => h⟩
theorem Moved.trans {σ σ₁ σ₂ : Sto} {t t₁ t₂ : Tok} (h : Moved σ σ₁ t t₁) (h' : Moved σ₁ σ₂ t₁ t₂) (hne : ∀ x o, fp t ≠ some x → σ x = some o → fp t₁ ≠ some x) :
    (∀ x o, fp t ≠ some x → σ x = some o → σ₂ x = some o) := fun x o hx hs => h'.keep x o (hne x o hx hs) (h.keep x o hx hs)

theorem aAppend_own {t e es bytes : Nat} {σ : Sto} {tok tok2 : Tok} {rows ys : List (List AV)} {k : AV → Sto → Prop} (he : tyElem P t = some (e, es, bytes)) (hby : bytes ≤ 4096)
    (hlen : rows.length + ys.length ≤ 1073741824) (h1 : ∀ r ∈ rows, r.length = es) (h2 : ∀ r ∈ ys, r.length = es) (h3 : ∀ r ∈ ys, r.all AV.one = true) (ho : Own σ tok rows.length es)
    (hk : ∀ tok' σ', Own σ' tok' (rows.length + ys.length) es → Moved σ σ' tok tok' → k (.slice tok' (rows ++ ys)) σ') : aAppend P t t (.slice tok rows) (.slice tok2 ys) σ k := by
  unfold aAppend
  simp only [he]
  refine ⟨trivial, hby, hlen, h1, h2, h3, ?_, ?_, ?_⟩
  · cases tok with
    | dead => exact ho
    | clip => trivial
    | live b e => exact ⟨ho.1, by rw [ho.2]⟩
  · rintro rfl rfl
    have := hk .clip σ trivial (Moved.refl σ .clip)
    simpa using this
  · intro b hb
    refine hk (.live b es) _ ⟨rfl, by simp [Sto.set]⟩ ⟨fun x o hx hs => ?_, fun x hx => ?_, fun x o hx hs => ?_⟩
    · have hxb : x ≠ b := by
        rintro rfl
        rcases hb with rfl | ⟨hb, _⟩
        · exact hx rfl
        · rw [hb] at hs; cases hs
      cases tok with
      | live b2 e2 =>
        have hx2 : x ≠ b2 := fun e => hx (by simp [fp, e])
        simp [Sto.set, hxb, tokDel, Sto.del, hx2, hs]
      | _ => simp [Sto.set, hxb, tokDel, hs]
    · simp only [fp, Option.some.injEq] at hx
      subst hx
      rcases hb with rfl | ⟨hb, _⟩
      · exact .inl rfl
      · exact .inr hb
    · have hxb : x ≠ b := fun e => hx (by simp [fp, e])
      simp only [Sto.set, hxb, if_false] at hs
      cases tok with
      | live b2 e2 =>
        simp only [tokDel, Sto.del] at hs
        split at hs
        · cases hs
        · exact hs
      | _ => exact hs

theorem Own.ne {σ : Sto} {t : Tok} {n es b : Nat} {cs : List AV} (h : Own σ t n es) (hb : σ b = some (.cells cs)) : fp t ≠ some b := fun e => by
  cases t <;> simp [fp] at e
  subst e; rw [h.2] at hb; cases hb
theorem Moved.cells {σ σ' : Sto} {t t' : Tok} {n es b : Nat} {cs : List AV} (hm : Moved σ σ' t t') (h : Own σ t n es) (hb : σ b = some (.cells cs)) : σ' b = some (.cells cs) :=
  hm.keep b _ (h.ne hb) hb
theorem Own.set {σ : Sto} {t : Tok} {n es b : Nat} {o : AObj} (h : Own σ t n es) (hb : fp t ≠ some b) : Own (σ.set b o) t n es := by
  cases t with
  | live b2 e2 =>
    have : b2 ≠ b := fun e => hb (by simp [fp, e])
    simp [Own, this]; exact h
  | clip => trivial
  | dead => exact h

/-- a slice of the call's own, beside what was there -/
structure Lcl (σ σ' : Sto) (t : Tok) (n es : Nat) : Prop where
  own : Own σ' t n es
  fresh : ∀ x, fp t = some x → σ x = none
  sub : Sub σ σ'
theorem Lcl.start (σ : Sto) (n es : Nat) : Lcl σ σ .clip n es := ⟨trivial, (fun _ h => by cases h), Sub.refl σ⟩
theorem Lcl.step {σ σ' σ'' : Sto} {t t' : Tok} {n m es : Nat} (h : Lcl σ σ' t n es) (ho : Own σ'' t' m es) (hm : Moved σ' σ'' t t') : Lcl σ σ'' t' m es := by
  refine ⟨ho, fun x hx => ?_, fun x o hs => ?_⟩
  · rcases hm.fresh x hx with h1 | h1
    · exact h.fresh x h1
    · exact h.sub.none h1
  · refine hm.keep x o (fun e => ?_) (h.sub x o hs)
    rw [h.fresh x e] at hs; cases hs
theorem Lcl.set {σ σ' : Sto} {t : Tok} {n es b : Nat} {o : AObj} (h : Lcl σ σ' t n es) (hb : σ b = none) (hf : fp t ≠ some b) : Lcl σ (σ'.set b o) t n es :=
  ⟨h.own.set hf, h.fresh, fun x p hx => by
    have : x ≠ b := by rintro rfl; rw [hb] at hx; cases hx
    simp [this, h.sub x p hx]⟩

theorem sub_set {σ σ' : Sto} {b : Nat} {o : AObj} (h : Sub σ σ') (hb : σ b = none) : Sub σ (σ'.set b o) := fun x p hx => by
  have : x ≠ b := by rintro rfl; rw [hb] at hx; cases hx
  simp [this, h x p hx]

theorem Own.kept {σ σ' : Sto} {t t' u : Tok} {n es : Nat} (h : Own σ u n es) (hm : Moved σ σ' t t') (hne : ∀ x, fp t = some x → fp u ≠ some x) :
    Own σ' u n es ∧ ∀ x, fp t' = some x → fp u ≠ some x := by
  cases u with
  | live b e =>
    have hb : fp t ≠ some b := fun h => hne b h rfl
    refine ⟨⟨h.1, hm.keep b _ hb h.2⟩, fun x hx hu => ?_⟩
    simp only [fp, Option.some.injEq] at hu
    subst hu
    rcases hm.fresh b hx with h1 | h1
    · exact hb h1
    · rw [h.2] at h1; cases h1
  | clip => exact ⟨trivial, fun _ _ h => by cases h⟩
  | dead => exact h.elim

theorem take_map_snoc {α β : Type} (f : α → β) (l : List α) (i : Nat) (h : i < l.length) : List.take (i + 1) (l.map f) = List.take i (l.map f) ++ [f l[i]] := by
  rw [List.take_add_one, List.getElem?_map, List.getElem?_eq_getElem h]
  rfl
theorem take_snoc {α : Type} (l : List α) (i : Nat) (h : i < l.length) : List.take (i + 1) l = List.take i l ++ [l[i]] := by
  rw [List.take_add_one, List.getElem?_eq_getElem h]
  rfl

theorem Lcl.cast {σ σ' : Sto} {t : Tok} {n m es : Nat} (h : Lcl σ σ' t n es) (e : n = m) : Lcl σ σ' t m es := e ▸ h
theorem Own.cast {σ : Sto} {t : Tok} {n m es : Nat} (h : Own σ t n es) (e : n = m) : Own σ t m es := e ▸ h

/-! ### Cuts -/
/-- behind the first part M holds -/
def cutK (M : Env → Sto → Prop) (Q : AExit → Env → Sto → Prop) : AExit → Env → Sto → Prop := fun x e σ => match x with
  | .normal => M e σ
  | x => Q x e σ
section
variable (M : Env → Sto → Prop) (Q : AExit → Env → Sto → Prop) (e : Env) (σ : Sto)
@[simp] theorem cutK_normal : cutK M Q .normal e σ = M e σ := rfl
@[simp] theorem cutK_exit (i : Nat) : cutK M Q (.exit i) e σ = Q (.exit i) e σ := rfl
@[simp] theorem cutK_ret : cutK M Q .ret e σ = Q .ret e σ := rfl
end
theorem wpc_cut (M : Env → Sto → Prop) {a b : Code} {Q : AExit → Env → Sto → Prop} {e : Env} {σ : Sto} (h1 : wpc P a (cutK M Q) e σ) (h2 : ∀ e σ, M e σ → wpc P b Q e σ) :
    wpc P (.seq a b) Q e σ :=
  wpc_mono a _ _ e σ (fun x e σ h => by cases x <;> first | exact h2 _ _ h | exact h) h1
/-- where the code goes on with 'a' and then 'b': M holds between them -/
theorem seq_cut (M : Env → Sto → Prop) {a b : Code} {Q : AExit → Env → Sto → Prop} {e : Env} {σ : Sto} (h1 : wpc P a (cutK M Q) e σ) (h2 : ∀ e σ, M e σ → wpc P b Q e σ) :
    seqK P (.seq a b) Q .normal e σ := wpc_cut M h1 h2
/-- where the code goes on: M holds -/
theorem seq_at (M : Env → Sto → Prop) {b : Code} {Q : AExit → Env → Sto → Prop} {e : Env} {σ : Sto} (h1 : M e σ) (h2 : ∀ e σ, M e σ → wpc P b Q e σ) :
    seqK P b Q .normal e σ := h2 _ _ h1

end Go.Aw

/- Methods behind interfaces. -/
namespace Go.Proofs.YtkbpnnbdfikjhaaGreat.Tab
open Go Go.Aw
@[simp] theorem meth_lay_act : tyMeth Tryz.prog 37 "Act" = some 133 := by kernel_rfl
@[simp] theorem meth_lay_take : tyMeth Tryz.prog 37 "Take" = some 134 := by kernel_rfl
@[simp] theorem meth_col_act : tyMeth Tryz.prog 40 "Act" = some 23 := by kernel_rfl
@[simp] theorem meth_col_take : tyMeth Tryz.prog 40 "Take" = some 151 := by kernel_rfl
@[simp] theorem meth_view_act : tyMeth Tryz.prog 34 "Act" = some 103 := by kernel_rfl
@[simp] theorem meth_view_take : tyMeth Tryz.prog 34 "Take" = some 104 := by kernel_rfl
end Go.Proofs.YtkbpnnbdfikjhaaGreat.Tab
