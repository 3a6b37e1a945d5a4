/- What each operation does to abstract values, and first laws of the store. -/
import Derived.Test.YtcjiebgnccaogaaDoorCore
import Derived.Laws.AppendOwn
import Derived.Laws.CopyRow
import Derived.Laws.Tables
set_option linter.unusedSimpArgs false
set_option linter.unusedVariables false
namespace Go.Aw
open Go

/-! ### What the tables say of a type -/
def tyAgg (P : Program) (t : TypeId) : Option Bool := (P.underlying t).map fun | .struct _ => true | .array _ _ => true | _ => false
def tySize (P : Program) (t : TypeId) : Option Nat := (P.info? t).map (·.size)
/-- a slice type's element: its number, cells, bytes -/
def tyElem (P : Program) (t : TypeId) : Option (TypeId × Nat × Nat) :=
  match P.underlying t with
  | some (.slice e) => match P.info? e with
    | some i => match i.zero with
      | some z => if z.cells.size = i.size ∧ 0 < i.size then some (e, i.size, i.bytes) else none
      | none => none
    | none => none
  | _ => none
def tyZero (P : Program) (t : TypeId) : Option (List AV) := (P.info? t).bind fun i => i.zero.map fun z => z.cells.toList.map cv1
/-- a struct's field: type, place, cells -/
def tyField (P : Program) (t : TypeId) (i : Nat) : Option (TypeId × Nat × Nat) :=
  match P.underlying t with
  | some (.struct fs) => match fs[i]? with
    | some f => match P.info? f.type with
      | some j => if j.size = 0 then none else some (f.type, f.offset, j.size)
      | none => none
    | none => none
  | _ => none
/-- a struct's places: offset and cells of each field -/
def tyPlaces (P : Program) (t : TypeId) : Option (List (Nat × Nat)) :=
  match P.underlying t with
  | some (.struct fs) => fs.toList.mapM fun f => (P.info? f.type).map fun j => (f.offset, j.size)
  | _ => none
inductive Kd where
  | int (k : IntKind) | str | bool | ptr | func | iface | other
  deriving DecidableEq
def tyKd (P : Program) (t : TypeId) : Option Kd := (P.underlying t).map fun
  | .int k => .int k | .string => .str | .bool => .bool | .pointer _ => .ptr | .func _ _ _ => .func | .interface _ => .iface | _ => .other

def AV.cells : AV → Option (List AV)
  | .agg cs => some cs
  | .any => none
  | .tuple _ => none
  | .sc (.agg _) => none
  | .sc (.tuple _) => none
  | x => some [x]

/-- of one cell -/
def AV.one : AV → Bool
  | .agg _ => false
  | .any => false
  | .tuple _ => false
  | .sc (.agg _) => false
  | .sc (.tuple _) => false
  | _ => true

theorem AV.one_val {σ : Sto} {w : World} {x : AV} {v : Value} (h : Rel σ w x v) (h1 : x.one = true) : v.oneCell' = true ∧ v.cells = #[v] := by
  cases h <;> first | (simp [AV.one] at h1; done) | exact ⟨rfl, rfl⟩ | skip
  cases v <;> first | (simp [AV.one] at h1; done) | exact ⟨rfl, rfl⟩

theorem AV.cells_val {σ : Sto} {w : World} {x : AV} {v : Value} {cs : List AV} (h : Rel σ w x v) (hc : x.cells = some cs) : RelL σ w cs v.cells := by
  have key : ∀ (x : AV) (v : Value), Rel σ w x v → v.cells = #[v] → cs = [x] → RelL σ w cs v.cells := by
    intro x v hr hv hcs
    subst hcs
    rw [hv]
    refine ⟨rfl, fun i c u hc hu => ?_⟩
    match i, hc, hu with
    | 0, hc, hu => simp at hc hu; subst hc; subst hu; exact hr
    | i + 1, hc, hu => simp at hc
  cases h with
  | any v => simp [AV.cells] at hc
  | tuple => simp [AV.cells] at hc
  | agg cs' vs hl h => simp only [AV.cells, Option.some.injEq] at hc; subst hc; exact ⟨hl, h⟩
  | sc v =>
    cases v <;> first | (simp [AV.cells] at hc; done) | exact key _ _ (.sc _) rfl (by simpa [AV.cells] using hc.symm)
  | ptr b off => exact key _ _ (.ptr b off) rfl (by simpa [AV.cells] using hc.symm)
  | iptr row off b base us h1 h2 => exact key _ _ (.iptr row off b base us h1 h2) rfl (by simpa [AV.cells] using hc.symm)
  | slice t rows a n cap es us h1 h2 h3 h4 h5 h6 => exact key _ _ (.slice t rows a n cap es us h1 h2 h3 h4 h5 h6) rfl (by simpa [AV.cells] using hc.symm)
  | func fn f c vf vc h1 h2 h3 h4 => exact key _ _ (.func fn f c vf vc h1 h2 h3 h4) rfl (by simpa [AV.cells] using hc.symm)
  | iface t c v h1 => exact key _ _ (.iface t c v h1) rfl (by simpa [AV.cells] using hc.symm)

/-! ### Pieces of lists -/
def asplice (L : List AV) (off : Nat) (cs : List AV) : List AV := L.take off ++ cs ++ L.drop (off + cs.length)

theorem rel_splice {σ : Sto} {w : World} {L : List AV} {vs : Array Value} {off : Nat} {cs : List AV} {us : List Value}
    (h : RelL σ w L vs) (hc : RelL σ w cs us.toArray) (hb : off + cs.length ≤ L.length) :
    RelL σ w (asplice L off cs) (vs.toList.take off ++ us ++ vs.toList.drop (off + us.length)).toArray := by
  have hlu : cs.length = us.length := by simpa using hc.1
  have hlv : L.length = vs.toList.length := by simpa using h.1
  refine ⟨by have h1 := h.1; rw [hlu] at hb; simp [asplice, hlu]; omega, fun i c v hi hv => ?_⟩
  simp only [asplice, List.append_assoc, List.getElem?_append, List.length_take, List.getElem?_take, List.getElem?_drop, List.getElem?_toArray] at hi hv
  rw [← hlu, ← hlv] at hv
  split at hi
  · rename_i h1
    rw [if_pos h1] at hv
    split at hi
    · rename_i h2
      rw [if_pos h2] at hv
      exact h.2 i c v hi (by simpa using hv)
    · cases hi
  · rename_i h1
    rw [if_neg h1] at hv
    split at hi
    · rename_i h2
      rw [if_pos h2] at hv
      exact hc.2 _ c v hi (by simpa using hv)
    · rename_i h2
      rw [if_neg h2] at hv
      exact h.2 _ c v hi (by simpa using hv)

/-- the cells that a load takes -/
def loadAV (P : Program) (t : TypeId) (cs : List AV) (off : Nat) : Option AV :=
  match tyAgg P t with
  | some true => match tySize P t with
    | some n => if off + n ≤ cs.length then some (.agg ((cs.drop off).take n)) else none
    | none => none
  | some false => cs[off]?
  | none => none

/-! ### Operations -/
def aAlloc (cs : Option (List AV)) (σ : Sto) (k : AV → Sto → Prop) : Prop :=
  match cs with
  | some cs => ∀ b, σ b = none → k (.ptr b 0) (σ.set b (.cells cs))
  | none => False

def afill (places : Nat → Option (Nat × Nat)) (cells : List AV) : List (Nat × AV) → Option (List AV)
  | [] => some cells
  | (i, x) :: rest =>
    match places i, x.cells with
    | some (off, size), some cs => if cs.length = size ∧ off + cs.length ≤ cells.length then afill places (asplice cells off cs) rest else none
    | _, _ => none

def aBuild (P : Program) (t : TypeId) (parts : List (Nat × AV)) (σ : Sto) (k : AV → Sto → Prop) : Prop :=
  match tyPlaces P t, tyZero P t with
  | some pl, some z => match afill (pl[·]?) z parts with
    | some cs => k (.agg cs) σ
    | none => False
  | _, _ => False

def chunk (es : Nat) (flat : List AV) : Nat → List (List AV)
  | 0 => []
  | n + 1 => flat.take es :: chunk es (flat.drop es) n

def zeros (z : List AV) : Nat → List AV
  | 0 => []
  | n + 1 => z ++ zeros z n

def aBuildSlice (P : Program) (t : TypeId) (n : Nat) (parts : List (Nat × AV)) (σ : Sto) (k : AV → Sto → Prop) : Prop :=
  match tyElem P t with
  | some (e, es, _) => match tyZero P e with
    | some z => n * es ≤ 1000 ∧ match afill (fun i => some (i * es, es)) (zeros z n) parts with
      | some cs => k (.slice .clip (chunk es cs n)) σ
      | none => False
    | none => False
  | none => False

def aLoad (P : Program) (t : TypeId) (x : AV) (σ : Sto) (k : AV → Sto → Prop) : Prop :=
  match x with
  | .ptr b off => match σ b with
    | some (.cells cs) => match loadAV P t cs off with
      | some r => k r σ
      | none => False
    | _ => False
  | .iptr row off => match loadAV P t row off with
    | some r => k r σ
    | none => False
  | _ => False

def aStore (P : Program) (t : TypeId) (a x : AV) (σ : Sto) (k : AV → Sto → Prop) : Prop :=
  match a with
  | .ptr b off => match σ b, x.cells, tySize P t with
    | some (.cells cs), some xs, some n => xs.length = n ∧ xs.all AV.one = true ∧ off + n ≤ cs.length ∧ k .any (σ.set b (.cells (asplice cs off xs)))
    | _, _, _ => False
  | _ => False

def aNil (x : AV) (σ : Sto) (k : AV → Sto → Prop) : Prop :=
  match x with
  | .ptr b o => k (.ptr b o) σ
  | .iptr r o => k (.iptr r o) σ
  | .func (.func f) a c => k (.func (.func f) a c) σ
  | _ => False

def scInt (op : BinOp) (k : IntKind) (a b : Int) : Option (Value × Bool) :=
  match op with
  | .add => some (.int k (k.wrap (a + b)), true)
  | .sub => some (.int k (k.wrap (a - b)), true)
  | .mul => some (.int k (k.wrap (a * b)), true)
  | .quo => some (.int k (k.wrap (a.tdiv b)), false)
  | .rem => some (.int k (a.tmod b), false)
  | .eql => some (.bool (decide (a = b)), true)
  | .neq => some (.bool (!decide (a = b)), true)
  | .lss => some (.bool (decide (a < b)), true)
  | .leq => some (.bool (decide (a ≤ b)), true)
  | .gtr => some (.bool (decide (b < a)), true)
  | .geq => some (.bool (decide (b ≤ a)), true)
  | .and => some (.int k (k.wrap (BitVec.ofInt k.bits a &&& BitVec.ofInt k.bits b).toNat), true)
  | .or => some (.int k (k.wrap (BitVec.ofInt k.bits a ||| BitVec.ofInt k.bits b).toNat), true)
  | .xor => some (.int k (k.wrap (BitVec.ofInt k.bits a ^^^ BitVec.ofInt k.bits b).toNat), true)
  | _ => none

def scStr (op : BinOp) (a b : ByteArray) : Option Value :=
  match op with
  | .eql => some (.bool (decide (a = b)))
  | .neq => some (.bool (!decide (a = b)))
  | .lss => some (.bool (Op.bytesLess a.toList b.toList))
  | .geq => some (.bool (!Op.bytesLess a.toList b.toList))
  | _ => none

/-- a struct's fields that are numbers, bools and strings: places and kinds -/
def eqFs (P : Program) : List Field → Option (List (Nat × Kd))
  | [] => some []
  | f :: fs => if f.name = "_" then none else match tyKd P f.type, eqFs P fs with
    | some (.int k), some l => some ((f.offset, .int k) :: l)
    | some .bool, some l => some ((f.offset, .bool) :: l)
    | some .str, some l => some ((f.offset, .str) :: l)
    | _, _ => none
def tyEq (P : Program) (t : TypeId) : Option (List (Nat × Kd)) :=
  match P.underlying t with
  | some (.struct fs) => if P.stoodInHeld t = false ∧ P.eqGuardType P.depth t = false then eqFs P fs.toList else none
  | _ => none

def eqCell : Kd → AV → AV → Option Bool
  | .int _, .sc (.int k a), .sc (.int k' b) => if k = k' then some (decide (a = b)) else none
  | .bool, .sc (.bool a), .sc (.bool b) => some (a == b)
  | .str, .sc (.string a), .sc (.string b) => some (decide (a = b))
  | _, _, _ => none

def eqCells (xs ys : List AV) : List (Nat × Kd) → Option Bool
  | [] => some true
  | (o, d) :: l => match xs[o]?, ys[o]? with
    | some x, some y => match eqCell d x y, eqCells xs ys l with
      | some a, some b => some (a && b)
      | _, _ => none
    | _, _ => none

/-- equality where one side is nil -/
def aEq (P : Program) (t : TypeId) (lit : Bool) (x y : AV) : Option Bool :=
  match tyKd P t, x, y with
  | some .bool, .sc (.bool a), .sc (.bool b) => some (a == b)
  | some .ptr, .ptr _ _, .sc (.pointer none) => some false
  | some .ptr, .iptr _ _, .sc (.pointer none) => some false
  | some .ptr, .sc (.pointer none), .sc (.pointer none) => some true
  | some .func, .func _ _ _, .sc .nilFunc => some false
  | some .func, .sc .nilFunc, .sc .nilFunc => some true
  | some .iface, .iface _ _, .sc .nilIface => some false
  | some .other, .agg xs, .agg ys => match tyEq P t with
    | some l => eqCells xs ys l
    | none => none
  | some .iface, .sc (.iface _ _), .sc .nilIface => some false
  | some .iface, .sc .nilIface, .sc .nilIface => if lit = true then some true else none
  | _, _, _ => none

def aBin (P : Program) (op : BinOp) (t : TypeId) (lit : Bool) (x y : AV) (σ : Sto) (k : AV → Sto → Prop) : Prop :=
  match x, y with
  | .sc (.int ka a), .sc (.int kb b) => ka = kb ∧ match scInt op ka a b with
    | some (v, true) => k (.sc v) σ
    | some (v, false) => b ≠ 0 ∧ k (.sc v) σ
    | none => False
  | .sc (.string a), .sc (.string b) => match op with
    | .add => a.size + b.size ≤ 4611686018427387904 ∧ k (.sc (.string (a ++ b))) σ
    | _ => match scStr op a b with
      | some v => k (.sc v) σ
      | none => False
  | x, y => match op with
    | .eql => match aEq P t lit x y with
      | some r => k (.sc (.bool r)) σ
      | none => False
    | .neq => match aEq P t lit x y with
      | some r => k (.sc (.bool !r)) σ
      | none => False
    | _ => False

def isLit : Operand → Bool
  | .const _ => true
  | _ => false

def isNil : Operand → Bool
  | .const (.slice none 0 0) => true
  | _ => false

/-- a slice against nil: nobody knows of an empty one -/
def aNilEq (P : Program) (op : BinOp) (t : TypeId) (x : AV) (σ : Sto) (k : AV → Sto → Prop) : Prop :=
  match x, op with
  | .slice _ rows, .eql => (tyElem P t).isSome = true ∧ ∀ b : Bool, (b = true → rows.flatten = []) → k (.sc (.bool b)) σ
  | .slice _ rows, .neq => (tyElem P t).isSome = true ∧ ∀ b : Bool, (b = true → rows.flatten = []) → k (.sc (.bool (!b))) σ
  | _, _ => False

def aUn (op : UnOp) (x : AV) (σ : Sto) (k : AV → Sto → Prop) : Prop :=
  match op, x with
  | .not, .sc (.bool b) => k (.sc (.bool !b)) σ
  | .neg, .sc (.int ki n) => k (.sc (.int ki (ki.wrap (0 - n)))) σ
  | _, _ => False

/-- a row of one byte -/
def rowByte : List AV → Option UInt8
  | [.sc (.int .u8 n)] => if 0 ≤ n ∧ n < 256 then some (UInt8.ofNat n.toNat) else none
  | _ => none
def rowsBytes : List (List AV) → Option (List UInt8)
  | [] => some []
  | r :: l => match rowByte r, rowsBytes l with
    | some b, some bs => some (b :: bs)
    | _, _ => none
/-- a slice of bytes -/
def tyBytes (P : Program) (t : TypeId) : Bool := match P.underlying t with
  | some (.slice e) => match P.underlying e with
    | some (.int .u8) => true
    | _ => false
  | _ => false

def aConv (P : Program) (s d : TypeId) (x : AV) (σ : Sto) (k : AV → Sto → Prop) : Prop :=
  (tyKd P s).isSome = true ∧ match tyKd P d, x with
  | some (.int ki), .sc (.int _ n) => k (.sc (.int ki (ki.wrap n))) σ
  | some .str, .sc (.string b) => k (.sc (.string b)) σ
  | some .str, .slice _ rows => tyBytes P s = true ∧ match rowsBytes rows with
    | some bs => k (.sc (.string ⟨bs.toArray⟩)) σ
    | none => False
  | _, _ => False

def oInt : Option AV → Option (Option Int)
  | none => some none
  | some (.sc (.int _ n)) => some (some n)
  | _ => none

def aSlice (P : Program) (t : TypeId) (x : AV) (lo hi mx : Option AV) (σ : Sto) (k : AV → Sto → Prop) : Prop :=
  match x with
  | .slice tok rows => match tyElem P t, oInt lo, oInt hi, oInt mx with
    | some (_, es, _), some lo, some hi, some mx =>
      let l := lo.getD 0
      let h := hi.getD rows.length
      (0 ≤ l ∧ l ≤ h ∧ h ≤ rows.length ∧ (match mx with | some m => m = h ∧ hi.isSome = true | none => True) ∧ ∀ r ∈ rows, r.length = es) ∧
      k (.slice (match mx, hi, tok with | some _, _, _ => .clip | none, none, .clip => .clip | _, _, _ => .dead) ((rows.take h.toNat).drop l.toNat)) σ
    | _, _, _, _ => False
  | .sc (.string s) => tyKd P t = some .str ∧ match oInt lo, oInt hi, mx with
    | some lo, some hi, none =>
      let l := lo.getD 0
      let h := hi.getD s.size
      (0 ≤ l ∧ l ≤ h ∧ h ≤ s.size) ∧ k (.sc (.string (s.extract l.toNat h.toNat))) σ
    | _, _, _ => False
  | _ => False

def aFieldAddr (P : Program) (s : TypeId) (x : AV) (f : Nat) (σ : Sto) (k : AV → Sto → Prop) : Prop :=
  match tyField P s f with
  | some (_, off, _) => match x with
    | .ptr b o => k (.ptr b (o + off)) σ
    | .iptr r o => k (.iptr r (o + off)) σ
    | _ => False
  | none => False

def aField (P : Program) (s : TypeId) (x : AV) (f : Nat) (σ : Sto) (k : AV → Sto → Prop) : Prop :=
  match tyField P s f, x with
  | some (t, off, _), .agg cs => match loadAV P t cs off with
    | some r => k r σ
    | none => False
  | _, _ => False

def aIndexAddr (P : Program) (t : TypeId) (x i : AV) (σ : Sto) (k : AV → Sto → Prop) : Prop :=
  match tyElem P t, x, i with
  | some (_, es, _), .slice _ rows, .sc (.int _ n) => 0 ≤ n ∧ match rows[n.toNat]? with
    | some r => r.length = es ∧ k (.iptr r 0) σ
    | none => False
  | _, _, _ => False

def aIndex (P : Program) (t : TypeId) (x i : AV) (σ : Sto) (k : AV → Sto → Prop) : Prop :=
  match x, i with
  | .sc (.string s), .sc (.int _ n) => tyKd P t = some .str ∧ 0 ≤ n ∧ match s.data.toList[n.toNat]? with
    | some b => k (.sc (.int .u8 b.toNat)) σ
    | none => False
  | _, _ => False

def aExtract (x : AV) (i : Nat) (σ : Sto) (k : AV → Sto → Prop) : Prop :=
  match x with
  | .tuple vs => match vs[i]? with
    | some r => k r σ
    | none => False
  | _ => False

def callable (P : Program) (f : FuncId) : Bool :=
  match P.funcs[f]? with
  | some fn => fn.body.isSome && !(fn.name == "runtime.NumGoroutine")
  | none => false

def tokDel (σ : Sto) : Tok → Sto
  | .live b _ => σ.del b
  | _ => σ

def aAppend (P : Program) (t u : TypeId) (x y : AV) (σ : Sto) (k : AV → Sto → Prop) : Prop :=
  match tyElem P t, x, y with
  | some (_, es, bytes), .slice tok rows, .slice _ ys =>
    t = u ∧ bytes ≤ 4096 ∧ rows.length + ys.length ≤ 1073741824 ∧ (∀ r ∈ rows, r.length = es) ∧ (∀ r ∈ ys, r.length = es) ∧
    (∀ r ∈ ys, r.all AV.one = true) ∧
    (match tok with
      | .dead => False
      | .clip => True
      | .live b e => e = es ∧ σ b = some (.top (rows.length * es))) ∧
    (tok = .clip → ys = [] → k (.slice .clip rows) σ) ∧
    (∀ b', (tok = .live b' es ∨ σ b' = none ∧ ys ≠ []) → k (.slice (.live b' es) (rows ++ ys)) ((tokDel σ tok).set b' (.top ((rows.length + ys.length) * es))))
  | _, _, _ => False

def aBuiltin (P : Program) (b : Builtin) (ts : List TypeId) (args : List AV) (σ : Sto) (k : AV → Sto → Prop) : Prop :=
  match b, ts, args with
  | .len, [t], [.slice _ rows] => (tyElem P t).isSome = true ∧ k (.sc (.int .i64 rows.length)) σ
  | .len, [t], [.sc (.string s)] => tyKd P t = some .str ∧ k (.sc (.int .i64 s.size)) σ
  | .min, _, [.sc (.int ki a), .sc (.int _ b)] => k (.sc (.int ki (if b < a then b else a))) σ
  | .max, _, [.sc (.int ki a), .sc (.int _ b)] => k (.sc (.int ki (if a < b then b else a))) σ
  | .append, [t, u], [x, y] => aAppend P t u x y σ k
  | _, _, _ => False

def aCall (P : Program) (env : Env) (c : Call) (σ : Sto) (k : AV → Sto → Prop) : Prop :=
  match c.callee with
  | .builtin b => aBuiltin P b c.argTypes.toList (c.args.toList.map (ev env)) σ k
  | .value f => match ev env f with
    | .func (.func id) first captured => callable P id = true ∧ ACalls P id (first ++ c.args.toList.map (ev env) ++ captured) σ k
    | _ => False
  | .invoke _ _ => False

def aop (P : Program) (o : Oper) (env : Env) (σ : Sto) (k : AV → Sto → Prop) : Prop :=
  match o.op with
  | .move x => k (ev env x) σ
  | .assign x => k (ev env x) σ
  | .pick c a b => match ev env c with
    | .sc (.bool t) => k (if t = true then ev env a else ev env b) σ
    | _ => False
  | .alloc t => aAlloc (tyZero P t) σ k
  | .box _ x => aAlloc (ev env x).cells σ k
  | .build t parts => aBuild P t (parts.toList.map fun p => (p.1, ev env p.2)) σ k
  | .buildSlice t n parts => aBuildSlice P t n (parts.toList.map fun p => (p.1, ev env p.2)) σ k
  | .load t a => aLoad P t (ev env a) σ k
  | .store t a x => aStore P t (ev env a) (ev env x) σ k
  | .nilCheck x => aNil (ev env x) σ k
  | .binOp op t x y _ => if isNil y = true then aNilEq P op t (ev env x) σ k else aBin P op t (isLit x || isLit y) (ev env x) (ev env y) σ k
  | .unOp op _ x => aUn op (ev env x) σ k
  | .convert s d x => aConv P s d (ev env x) σ k
  | .makeInterface t x => tyKd P t ≠ none ∧ tyKd P t ≠ some .iface ∧ k (.iface t (ev env x)) σ
  | .makeFunc fn first cap => k (.func fn (first.toList.map (ev env)) (cap.toList.map (ev env))) σ
  | .slice t x lo hi mx => aSlice P t (ev env x) (lo.map (ev env)) (hi.map (ev env)) (mx.map (ev env)) σ k
  | .fieldAddr s x f => aFieldAddr P s (ev env x) f σ k
  | .field s x f => aField P s (ev env x) f σ k
  | .indexAddr t x i => aIndexAddr P t (ev env x) (ev env i) σ k
  | .index t x i => aIndex P t (ev env x) (ev env i) σ k
  | .extract x i => aExtract (ev env x) i σ k
  | .call c => aCall P env c σ k
  | _ => False

/-! ### Soundness -/
/-- What an operation's abstract step promises. -/
def OpOK (P : Program) (o : Oper) (σ : Sto) (w : World) (a : Act) (k : AV → Sto → Prop) : Prop :=
  ∃ (v : Value) (r : AV) (σ' : Sto) (w' : World), ((execOp a.eval o).run P w = .ok (.value v) w' ∨ ((execOp a.eval o).run P w = .ok .skip w' ∧ v = undef)) ∧
    k r σ' ∧ St σ' w' ∧ Rel σ' w' r v ∧ Ext σ w σ' w'

theorem OpOK.same {P : Program} {o : Oper} {σ : Sto} {w : World} {a : Act} {k : AV → Sto → Prop} {v : Value} {r : AV} (hs : St σ w)
    (h : (execOp a.eval o).run P w = .ok (.value v) w) (hr : Rel σ w r v) (hk : k r σ) : OpOK P o σ w a k :=
  ⟨v, r, σ, w, .inl h, hk, hs, hr, Ext.refl σ w⟩

/-- A new block. -/
theorem St.new {σ : Sto} {w : World} (hs : St σ w) : σ w.heap.size = none := by
  cases h : σ w.heap.size with
  | none => rfl
  | some o => exact absurd (hs.dom _ _ h) (Nat.lt_irrefl _)

theorem heap_alloc_lt (w : World) (o : Obj) {b : Nat} (h : b < w.heap.size) : (w.alloc o).heap[b]? = w.heap[b]? := by
  simp only [World.alloc, Array.getElem?_push]; rw [if_neg (Nat.ne_of_lt h)]
theorem heap_alloc_at (w : World) (o : Obj) : (w.alloc o).heap[w.heap.size]? = some o := by unfold World.alloc; simp

theorem ext_alloc {σ : Sto} {w : World} (hs : St σ w) (o : Obj) (σ' : Sto) (h : ∀ b, b ≠ w.heap.size → σ' b = σ b) : Ext σ w σ' (w.alloc o) := by
  refine ⟨by simp, fun b hb hn => ⟨heap_alloc_lt w o hb, by rw [h b (Nat.ne_of_lt hb)]; exact hn⟩, fun b m hm => ?_, fun b vs ty fr hv => ⟨vs, ?_, rfl⟩, rfl, rfl⟩
  · have hb := hs.dom _ _ hm
    exact ⟨fun off _ => cell_of_block (heap_alloc_lt w o hb), .inr ⟨m, Nat.le_refl _, by rw [h b (Nat.ne_of_lt hb)]; exact hm⟩⟩
  · have hb : b < w.heap.size := (Array.getElem?_eq_some_iff.1 hv).1
    rw [heap_alloc_lt w o hb]; exact hv

/-- A new block of cells, claimed or not. -/
theorem St.alloc {σ σ' : Sto} {w : World} (hs : St σ w) (vs : Array Value) (ty : TypeId)
    (h : ∀ b, b ≠ w.heap.size → σ' b = σ b)
    (hn : σ' w.heap.size = none ∨ (∃ cs, σ' w.heap.size = some (.cells cs) ∧ RelL σ w cs vs) ∨ ∃ m, σ' w.heap.size = some (.top m) ∧ m ≤ vs.size) :
    St σ' (w.alloc (.cells vs ty)) := by
  have hx := ext_alloc hs (.cells vs ty) σ' h
  refine ⟨fun b o hb => ?_, fun b cs hb => ?_, fun b m hb => ?_⟩
  · by_cases hbe : b = w.heap.size
    · subst hbe; simp
    · rw [h b hbe] at hb; have := hs.dom _ _ hb; simp; omega
  · by_cases hbe : b = w.heap.size
    · subst hbe
      rcases hn with hn | ⟨cs', hn, hr⟩ | ⟨m, hn, _⟩
      · rw [hn] at hb; cases hb
      · rw [hn] at hb; cases hb
        exact ⟨vs, ty, heap_alloc_at w _, hr.1, fun j c v hc hv => (hr.2 j c v hc hv).mono hx⟩
      · rw [hn] at hb; cases hb
    · rw [h b hbe] at hb
      obtain ⟨vs', ty', he, hl, hr⟩ := hs.cells b cs hb
      exact ⟨vs', ty', (heap_alloc_lt w _ (hs.dom _ _ hb)).trans he, hl, fun j c v hc hv => (hr j c v hc hv).mono hx⟩
  · by_cases hbe : b = w.heap.size
    · subst hbe
      rcases hn with hn | ⟨cs', hn, hr⟩ | ⟨m', hn, hm⟩
      · rw [hn] at hb; cases hb
      · rw [hn] at hb; cases hb
      · rw [hn] at hb; cases hb
        exact ⟨vs, ty, heap_alloc_at w _, hm⟩
    · rw [h b hbe] at hb
      obtain ⟨vs', ty', he, hm⟩ := hs.top b m hb
      exact ⟨vs', ty', (heap_alloc_lt w _ (hs.dom _ _ hb)).trans he, hm⟩

/-- The object at 'b' is written. -/
theorem ext_row {σ : Sto} {w : World} (hs : St σ w) {b : Nat} {cs cs' : List AV} {vs vs' : Array Value} {ty : TypeId} (hb : σ b = some (.cells cs))
    (hh : w.heap[b]? = some (.cells vs ty (0, 0))) (hz : vs'.size = vs.size) : Ext σ w (σ.set b (.cells cs')) (w.setRow b vs') := by
  refine ⟨by simp [World.setRow], fun b' hb' hn => ?_, fun b' m hm => ?_, fun b' us ty' fr hv => ?_, by simp [World.setRow], by simp [World.setRow]⟩
  · have hne : b' ≠ b := fun e => by rw [e, hb] at hn; cases hn
    exact ⟨setRow_other w b b' vs' hne, by simp [Sto.set, hne, hn]⟩
  · have hne : b' ≠ b := fun e => by rw [e, hb] at hm; cases hm
    exact ⟨fun off _ => cell_of_block (setRow_other w b b' vs' hne), .inr ⟨m, Nat.le_refl _, by simp [Sto.set, hne, hm]⟩⟩
  · by_cases hne : b' = b
    · subst hne
      rw [hh] at hv
      injection hv with hv
      injection hv with e1 e2 e3
      subst e1; subst e2; subst e3
      exact ⟨vs', setRow_heap w b' vs vs' ty (0, 0) hh, hz⟩
    · exact ⟨us, (setRow_other w b b' vs' hne).trans hv, rfl⟩

theorem St.row {σ : Sto} {w : World} (hs : St σ w) {b : Nat} {cs cs' : List AV} {vs vs' : Array Value} {ty : TypeId} (hb : σ b = some (.cells cs))
    (hh : w.heap[b]? = some (.cells vs ty (0, 0))) (hz : vs'.size = vs.size) (hr : RelL σ w cs' vs') : St (σ.set b (.cells cs')) (w.setRow b vs') := by
  have hx := ext_row hs (cs' := cs') hb hh hz
  refine ⟨fun b' o hb' => ?_, fun b' cs'' hb' => ?_, fun b' m hb' => ?_⟩
  · simp only [World.setRow, Array.size_modify]
    by_cases hne : b' = b
    · subst hne; exact hs.dom _ _ hb
    · simp only [Sto.set, hne, if_false] at hb'; exact hs.dom _ _ hb'
  · by_cases hne : b' = b
    · subst hne
      simp only [Sto.set, if_true, Option.some.injEq, AObj.cells.injEq] at hb'
      subst hb'
      exact ⟨vs', ty, setRow_heap w b' vs vs' ty (0, 0) hh, hr.1, fun j c v hc hv => (hr.2 j c v hc hv).mono hx⟩
    · simp only [Sto.set, hne, if_false] at hb'
      obtain ⟨us, ty', he, hl, h⟩ := hs.cells b' cs'' hb'
      exact ⟨us, ty', (setRow_other w b b' vs' hne).trans he, hl, fun j c v hc hv => (h j c v hc hv).mono hx⟩
  · by_cases hne : b' = b
    · subst hne; simp [Sto.set] at hb'
    · simp only [Sto.set, hne, if_false] at hb'
      obtain ⟨us, ty', he, hm⟩ := hs.top b' m hb'
      exact ⟨us, ty', (setRow_other w b b' vs' hne).trans he, hm⟩

end Go.Aw
