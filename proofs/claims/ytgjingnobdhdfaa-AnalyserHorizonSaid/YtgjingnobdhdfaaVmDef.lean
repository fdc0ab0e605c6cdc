/- The value-level evaluator: pure data, frames of values, and what each operation of the model does to them. No memory, no world. -/
import GoSem.Step
import Derived.Orders
namespace Go.Vm

/-- Pure data. 'list esz rows': a slice, each row the cells of one element. -/
inductive D where
  | bool (b : Bool)
  | int (k : IntKind) (n : Int)
  | str (s : ByteArray)
  | list (esz : Nat) (rows : List (List D))
  | fn (f : FuncId)
  | nilp
  | bad
instance : Inhabited D := ⟨.bad⟩

/-- One cell of a frame. -/
inductive C where
  | d (x : D)
  | own (t e : Nat)
  | sub (t e off len : Nat)
  | nil0
  | ptr (s e off : Nat)
  | tptr (t e i off : Nat)
  | rptr (esz : Nat) (row : List D) (off : Nat)
  | fn (f : FuncId) (caps : List C)
  | undef
instance : Inhabited C := ⟨.undef⟩

inductive V where
  | one (c : C)
  | agg (cs : List C)
  | tup (vs : List V)
  | skip
  | any
instance : Inhabited V := ⟨.one .undef⟩

/-- A variable in memory; a growing slice of the call's own. -/
structure Bx where
  e : Nat
  cs : List C
structure Tk where
  e : Nat
  fz : Bool
  et : TypeId
  esz : Nat
  rows : List (List D)

structure Fr where
  tm : Nat → V
  bx : Nat → Option Bx
  tk : Nat → Option Tk

def upd {α : Type} (f : Nat → α) (k : Nat) (v : α) : Nat → α := fun j => bif Nat.beq j k then v else f j
def upds {α : Type} (f : Nat → Option α) : List (Nat × α) → Nat → Option α
  | [] => f
  | (k, v) :: l => upd (upds f l) k (some v)

/-- What an operation does: the value of its temporary; boxes and tokens written; the keys that it looked at. -/
structure Eff where
  v : V
  bx : List (Nat × Bx) := []
  tk : List (Nat × Tk) := []
  rd : List Nat := []

def Fr.put (fr : Fr) (d : Option Tmp) (v : V) : Fr := match d with
  | some t => { fr with tm := upd fr.tm t v }
  | none => fr
def Fr.app (fr : Fr) (d : Option Tmp) (x : Eff) : Fr := { (fr.put d x.v) with bx := upds fr.bx x.bx, tk := upds fr.tk x.tk }

/-- What a call is given: values, and variables by their address. -/
inductive Arg where
  | v (cs : List D)
  | r (cs : List D)

section take
variable {α : Type}
def br (b : Bool) (x y : Option α) : Option α := match b with | true => x | false => y
def takeB (x : D) (K : Bool → Option α) : Option α := match x with | .bool b => K b | _ => none
def takeI (k : IntKind) (x : D) (K : Int → Option α) : Option α := match x with | .int k' n => if k' = k then K n else none | _ => none
def takeS (x : D) (K : ByteArray → Option α) : Option α := match x with | .str s => K s | _ => none
def takeL (esz : Nat) (x : D) (K : List (List D) → Option α) : Option α := match x with | .list e r => if e = esz ∨ r = [] then K r else none | _ => none
def takeN (x : D) (K : Int → Option α) : Option α := match x with | .int _ n => K n | _ => none
def takeR (x : D) (K : List (List D) → Option α) : Option α := match x with | .list _ r => K r | _ => none
def obind {β : Type} (x : Option β) (K : β → Option α) : Option α := match x with | some r => K r | none => none
end take

def look {β : Type} (k : Nat) : List (Nat × β) → Option β
  | [] => none
  | (j, v) :: l => bif Nat.beq j k then some v else look k l
def takeSc {α : Type} (x : D) (K : D → Option α) : Option α := match x with
  | .list _ _ => none
  | .bad => none
  | x => K x
def scAll {α : Type} : List D → (List D → Option α) → Option α
  | [], K => K []
  | d :: ds, K => takeSc d fun x => scAll ds fun xs => K (x :: xs)
def key (d j : Nat) : Nat := d * 1024 + j

/-- The facts on types that the evaluator asks. -/
def sz (P : Program) (t : TypeId) : Nat := P.cellsOf t
def elemT (P : Program) (t : TypeId) : Option TypeId := match P.underlying t with
  | some (.slice e) => some e
  | _ => none
def isAggT (P : Program) (t : TypeId) : Bool := match P.underlying t with
  | some (.struct _) => true
  | some (.array _ _) => true
  | _ => false
def isPtrT (P : Program) (t : TypeId) : Option TypeId := match P.underlying t with
  | some (.pointer e) => some e
  | _ => none

/-- A type whose variables' cells are known. -/
def okT (P : Program) (t : TypeId) : Bool := match P.underlying t with
  | none => false
  | some _ => isAggT P t || Nat.beq (sz P t) 1

def dOf : Value → Option D
  | .bool b => some (.bool b)
  | .int k n => some (.int k n)
  | .string s => some (.str s)
  | .func (.func f) a b => if a.size = 0 then if b.size = 0 then some (.fn f) else none else none
  | .pointer none => some .nilp
  | _ => none
def cOf (v : Value) : C := match v with
  | .slice none 0 0 => .nil0
  | v => match dOf v with
    | some x => .d x
    | none => .undef
def oneC : Value → Bool
  | .agg _ => false
  | .tuple _ => false
  | _ => true
def vOf (v : Value) : V := match v with
  | .agg cs => bif cs.toList.all oneC then .agg (cs.toList.map cOf) else .any
  | .tuple _ => .any
  | v => .one (cOf v)

def val (fr : Fr) : Operand → V
  | .tmp t => fr.tm t
  | .const v => vOf v
  | .func f => .one (.d (.fn f))
  | .global _ => .any

def V.cells : V → List C
  | .one c => [c]
  | .agg cs => cs
  | _ => []
def V.plain : V → Bool
  | .one _ => true
  | .agg _ => true
  | _ => false
def V.fits : Bool → V → Bool
  | true, .agg _ => true
  | false, .one _ => true
  | _, _ => false
def V.ofCells (agg : Bool) (cs : List C) : V := bif agg then .agg cs else .one (cs.headD .undef)

/-- A cell as pure data, as the frame has it now. -/
def toD (fr : Fr) : C → Option D
  | .d x => some x
  | .nil0 => some (.list 0 [])
  | .own t e => match fr.tk t with
    | some k => bif Nat.beq k.e e then some (.list k.esz k.rows) else none
    | none => none
  | .sub t e off len => match fr.tk t with
    | some k => bif Nat.beq k.e e then some (.list k.esz ((k.rows.drop off).take len)) else none
    | none => none
  | .fn f [] => some (.fn f)
  | _ => none
def toDs (fr : Fr) : List C → Option (List D)
  | [] => some []
  | c :: cs => match toD fr c with
    | some x => match toDs fr cs with
      | some xs => some (x :: xs)
      | none => none
    | none => none

/-- The tokens and boxes that a cell leads to. -/
def C.toks : C → List Nat
  | .own t _ => [t]
  | .sub t _ _ _ => [t]
  | _ => []
def keysOf (cs : List C) : List Nat := cs.flatMap fun c => c.toks.map fun t => 2 * t + 1
def freeze (fr : Fr) : List Nat → List (Nat × Tk)
  | [] => []
  | t :: ts => match fr.tk t with
    | some k => (t, { k with fz := true }) :: freeze fr ts
    | none => freeze fr ts
def toksOf (cs : List C) : List Nat := cs.flatMap C.toks

def nextB (fr : Fr) (s : Nat) : Nat := match fr.bx s with | some b => b.e + 1 | none => 0
def nextT (fr : Fr) (t : Nat) : Nat := match fr.tk t with | some k => k.e + 1 | none => 0

structure Live where
  tm : List Nat
  bx : List Nat
  tk : List Nat
  fz : List Nat := []
  ren : List (Nat × Nat) := []
/-- What is said beside a function's code: where evaluation is cut and what lives there; which nil slices are given a token (site, offset); which cells of its result are its own slices; which calls' own results are given tokens. -/
structure Hints where
  cuts : List (Nat × Live) := []
  nils : List Nat := []
  fresh : List (Nat × TypeId) := []
  keep : List Nat := []

/-- What a cut hands on. -/
structure Lv where
  tm : List V
  bx : List (List C)
  tk : List Tk

structure Env where
  P : Program
  H : FuncId → Hints
  call : FuncId → List Arg → Option (List D)
  kont : Nat → Lv → Option (List D)
  f : FuncId
def Env.nt (X : Env) : Nat := match X.P.funcs[X.f]? with | some fn => fn.ntmps | none => 0

section ops
variable {α : Type} (X : Env) (fr : Fr)

def cmpI (op : BinOp) (a b : Int) (K : C → Option α) : Option α := match op with
  | .eql => K (.d (.bool (a == b)))
  | .neq => K (.d (.bool (a != b)))
  | .lss => K (.d (.bool (decide (a < b))))
  | .leq => K (.d (.bool (decide (a ≤ b))))
  | .gtr => K (.d (.bool (decide (a > b))))
  | .geq => K (.d (.bool (decide (a ≥ b))))
  | _ => none
def arI (op : BinOp) (k : IntKind) (a b : Int) (K : C → Option α) : Option α := match op with
  | .add => K (.d (.int k (k.wrap (a + b))))
  | .sub => K (.d (.int k (k.wrap (a - b))))
  | .mul => K (.d (.int k (k.wrap (a * b))))
  | .quo => br (decide (b = 0)) none (K (.d (.int k (k.wrap (a.tdiv b)))))
  | .rem => br (decide (b = 0)) none (K (.d (.int k (a.tmod b))))
  | .and => K (.d (.int k (k.wrap ((BitVec.ofInt k.bits a &&& BitVec.ofInt k.bits b).toNat : Int))))
  | .or => K (.d (.int k (k.wrap ((BitVec.ofInt k.bits a ||| BitVec.ofInt k.bits b).toNat : Int))))
  | .xor => K (.d (.int k (k.wrap ((BitVec.ofInt k.bits a ^^^ BitVec.ofInt k.bits b).toNat : Int))))
  | .andNot => K (.d (.int k (k.wrap ((BitVec.ofInt k.bits a &&& ~~~ BitVec.ofInt k.bits b).toNat : Int))))
  | op => cmpI op a b K
def shI (op : BinOp) (k : IntKind) (a b : Int) (K : C → Option α) : Option α := match op with
  | .shl => br (decide (b < 0)) none (K (.d (.int k (k.wrap (a * 2 ^ (min b.toNat k.bits))))))
  | .shr => br (decide (b < 0)) none (K (.d (.int k (a.fdiv (2 ^ (min b.toNat k.bits))))))
  | _ => none
def cmpS (op : BinOp) (a b : ByteArray) (K : C → Option α) : Option α := match op with
  | .add => br (decide (((a.size + b.size : Nat) : Int) > IntKind.i64.max)) none (K (.d (.str (a ++ b))))
  | .eql => K (.d (.bool (a.toList == b.toList)))
  | .neq => K (.d (.bool (!(a.toList == b.toList))))
  | .lss => K (.d (.bool (Op.bytesLess a.toList b.toList)))
  | .leq => K (.d (.bool (Op.bytesLess a.toList b.toList || a.toList == b.toList)))
  | .gtr => K (.d (.bool (!(Op.bytesLess a.toList b.toList || a.toList == b.toList))))
  | .geq => K (.d (.bool (!(Op.bytesLess a.toList b.toList))))
  | _ => none
def cmpB (op : BinOp) (a b : Bool) (K : C → Option α) : Option α := match op with
  | .eql => K (.d (.bool (a == b)))
  | .neq => K (.d (.bool (!(a == b))))
  | _ => none

/-- '==' of a type that can be compared, field by field. -/
def eqFs (P : Program) (E : TypeId → List C → List C → (Bool → Option α) → Option α) (xs ys : List C) : List Field → (Bool → Option α) → Option α
  | [], K => K true
  | f :: fs, K => bif f.name == "_" then none else
    bif Nat.ble (f.offset + sz P f.type) xs.length && Nat.ble (f.offset + sz P f.type) ys.length then
      E f.type ((xs.drop f.offset).take (sz P f.type)) ((ys.drop f.offset).take (sz P f.type)) fun r => eqFs P E xs ys fs fun s => K (r && s)
    else none
def eqT (P : Program) : Nat → TypeId → List C → List C → (Bool → Option α) → Option α
  | 0, _, _, _, _ => none
  | n + 1, t, xs, ys, K => match P.underlying t with
    | some .bool => match xs, ys with
      | [.d x], [.d y] => takeB x fun a => takeB y fun b => K (a == b)
      | _, _ => none
    | some (.int k) => match xs, ys with
      | [.d x], [.d y] => takeI k x fun a => takeI k y fun b => K (a == b)
      | _, _ => none
    | some .string => match xs, ys with
      | [.d x], [.d y] => takeS x fun a => takeS y fun b => K (a.toList == b.toList)
      | _, _ => none
    | some (.struct fs) => bif P.stoodInHeld t then none else eqFs P (eqT P n) xs ys fs.toList K
    | _ => none

def binF (op : BinOp) (xt yt : TypeId) (x y : V) (K : V → Option α) : Option α :=
  match X.P.underlying xt, x, y with
  | some (.int k), .one (.d x), .one (.d y) => match op with
    | .shl => takeI k x fun a => match X.P.underlying yt with | some (.int k') => takeI k' y fun b => shI op k a b fun c => K (.one c) | _ => none
    | .shr => takeI k x fun a => match X.P.underlying yt with | some (.int k') => takeI k' y fun b => shI op k a b fun c => K (.one c) | _ => none
    | op => takeI k x fun a => takeI k y fun b => arI op k a b fun c => K (.one c)
  | some .bool, .one (.d x), .one (.d y) => takeB x fun a => takeB y fun b => cmpB op a b fun c => K (.one c)
  | some .string, .one (.d x), .one (.d y) => takeS x fun a => takeS y fun b => cmpS op a b fun c => K (.one c)
  | some (.struct _), .agg xs, .agg ys => bif X.P.eqGuardType X.P.depth xt then none else match op with
    | .eql => eqT X.P 60 xt xs ys fun r => K (.one (.d (.bool r)))
    | .neq => eqT X.P 60 xt xs ys fun r => K (.one (.d (.bool (!r))))
    | _ => none
  | _, _, _ => none

def unF (op : UnOp) (xt : TypeId) (x : V) (K : V → Option α) : Option α :=
  match X.P.underlying xt, op, x with
  | some .bool, .not, .one (.d x) => takeB x fun b => K (.one (.d (.bool (!b))))
  | some (.int k), .neg, .one (.d x) => takeI k x fun a => K (.one (.d (.int k (k.wrap (0 - a)))))
  | some (.int k), .xor, .one (.d x) => takeI k x fun a => K (.one (.d (.int k (k.wrap ((BitVec.ofInt k.bits (if k.signed then -1 else k.max) ^^^ BitVec.ofInt k.bits a).toNat : Int)))))
  | _, _, _ => none

def convF (src dst : TypeId) (x : V) (K : V → Option α) : Option α :=
  match X.P.underlying src, X.P.underlying dst, x with
  | some (.int k), some (.int k'), .one (.d x) => takeI k x fun a => K (.one (.d (.int k' (k'.wrap a))))
  | some .string, some .string, .one (.d x) => takeS x fun s => K (.one (.d (.str s)))
  | _, _, _ => none

/-- An index: of kind k, of a known sign. -/
def intT (t : V) (K : Int → Option α) : Option α := match t with
  | .one (.d x) => takeN x K
  | _ => none

def field (t : TypeId) (f : Nat) : Option (Nat × TypeId) := match X.P.underlying t with
  | some (.struct fs) => match fs[f]? with
    | some g => some (g.offset, g.type)
    | none => none
  | _ => none

def loadF (t : TypeId) (a : V) (K : Eff → Option α) : Option α := bif okT X.P t then match a with
  | .one (.ptr s e off) => match fr.bx s with
    | some b => bif Nat.beq b.e e && Nat.ble (off + sz X.P t) b.cs.length then K { v := V.ofCells (isAggT X.P t) ((b.cs.drop off).take (sz X.P t)), rd := [2 * s] } else none
    | none => none
  | .one (.tptr k e i off) => match fr.tk k with
    | some x => bif Nat.beq x.e e && Nat.ble (off + sz X.P t) x.esz then K { v := V.ofCells (isAggT X.P t) ((List.range (sz X.P t)).map fun j => .d ((x.rows.getD i []).getD (off + j) .bad)), rd := [2 * k + 1] } else none
    | none => none
  | .one (.rptr esz row off) => bif Nat.ble (off + sz X.P t) esz then K { v := V.ofCells (isAggT X.P t) ((List.range (sz X.P t)).map fun j => .d (row.getD (off + j) .bad)) } else none
  | _ => none
  else none

/-- The cells from 'off' on replaced. -/
def splice {β : Type} (l : List β) (off : Nat) (new : List β) : List β := l.take off ++ new ++ l.drop (off + new.length)

def storeF (t : TypeId) (a : V) (v : V) (K : Eff → Option α) : Option α :=
  bif Nat.beq v.cells.length (sz X.P t) && okT X.P t && v.plain then
    match a with
    | .one (.ptr s e off) => match fr.bx s with
      | some b => bif Nat.beq b.e e && Nat.ble (off + v.cells.length) b.cs.length then
          K { v := .skip, bx := [(s, ⟨e, splice b.cs off v.cells⟩)], rd := [2 * s] }
        else none
      | none => none
    | .one (.tptr k e i off) => match fr.tk k with
      | some x => bif Nat.beq x.e e && Nat.ble (off + v.cells.length) x.esz && !x.fz then
          match toDs fr v.cells with
          | some ds => bif (toksOf v.cells).any (Nat.beq k) then none else
            K { v := .skip, tk := (k, { x with rows := x.rows.set i (splice (x.rows.getD i []) off ds) }) :: freeze fr (toksOf v.cells), rd := (2 * k + 1) :: keysOf v.cells }
          | none => none
        else none
      | none => none
    | _ => none
  else none

def fieldAddrF (t : TypeId) (x : V) (f : Nat) (K : V → Option α) : Option α := match field X t f with
  | some (off, ft) => bif Nat.beq (sz X.P ft) 0 then none else match x with
    | .one (.ptr s e o) => K (.one (.ptr s e (o + off)))
    | .one (.tptr k e i o) => K (.one (.tptr k e i (o + off)))
    | .one (.rptr esz row o) => K (.one (.rptr esz row (o + off)))
    | _ => none
  | none => none

def fieldF (t : TypeId) (x : V) (f : Nat) (K : V → Option α) : Option α := match field X t f, x with
  | some (off, ft), .agg cs => bif Nat.ble (off + sz X.P ft) cs.length && okT X.P ft then K (V.ofCells (isAggT X.P ft) ((cs.drop off).take (sz X.P ft))) else none
  | _, _ => none

def inB (i : Int) (n : Nat) : Bool := decide (0 ≤ i ∧ i < (n : Int))

def indexAddrF (t : TypeId) (x i : V) (K : Eff → Option α) : Option α :=
  match X.P.underlying t with
  | some (.slice e) => match x with
    | .one (.own k ep) => match fr.tk k with
      | some y => bif Nat.beq y.e ep && Nat.beq y.esz (sz X.P e) then intT i fun i => br (inB i y.rows.length) (K { v := .one (.tptr k ep i.toNat 0), rd := [2 * k + 1] }) none else none
      | none => none
    | .one (.sub k ep off len) => match fr.tk k with
      | some y => bif Nat.beq y.e ep && Nat.beq y.esz (sz X.P e) then intT i fun i => br (inB i len) (K { v := .one (.tptr k ep (off + i.toNat) 0), rd := [2 * k + 1] }) none else none
      | none => none
    | .one (.d x) => bif Nat.beq (sz X.P e) 0 then none else takeL (sz X.P e) x fun rows => intT i fun i => br (inB i rows.length) (K { v := .one (.rptr (sz X.P e) (rows.getD i.toNat []) 0) }) none
    | _ => none
  | some (.array n e) => bif Nat.beq (sz X.P e) 0 then none else intT i fun i => br (inB i n) (match x with
    | .one (.ptr s ep o) => K { v := .one (.ptr s ep (o + i.toNat * sz X.P e)) }
    | .one (.tptr k ep j o) => K { v := .one (.tptr k ep j (o + i.toNat * sz X.P e)) }
    | .one (.rptr esz row o) => K { v := .one (.rptr esz row (o + i.toNat * sz X.P e)) }
    | _ => none) none
  | _ => none

def indexF (t : TypeId) (x i : V) (K : V → Option α) : Option α :=
  match X.P.underlying t, x with
  | some .string, .one (.d x) => takeS x fun s => intT i fun i => br (inB i s.size) (K (.one (.d (.int .u8 ((s.data.toList.getD i.toNat 0).toNat : Int))))) none
  | _, _ => none

/-- The bounds of a cut: 0 ≤ l ≤ h ≤ len. -/
def cutLo (lo : Option V) (h : Nat) (K : Nat → Option α) : Option α := match lo with
  | none => K 0
  | some l => intT l fun l => br (decide (0 ≤ l ∧ l ≤ (h : Int))) (K l.toNat) none
def cutB (lo hi : Option V) (len : Nat) (K : Nat → Nat → Option α) : Option α := match hi with
  | none => cutLo lo len fun l => K l len
  | some h => intT h fun h => br (decide (0 ≤ h ∧ h ≤ (len : Int))) (cutLo lo h.toNat fun l => K l h.toNat) none

def zeroO (o : Option Operand) : Bool := match o with
  | some (.const (.int _ 0)) => true
  | _ => false

def cutMx (lo hi mx : Option Operand) (len : Nat) (N : Option α) (K2 : Nat → Nat → Option α) : Option α := match mx with
  | none => cutB (lo.map (val fr)) (hi.map (val fr)) len K2
  | some m => match hi with
    | none => none
    | some _ => bif lo.isNone && zeroO hi && zeroO mx then N else
      intT (val fr m) fun m => br (decide (0 ≤ m ∧ m ≤ (len : Int))) (cutB (lo.map (val fr)) (hi.map (val fr)) m.toNat K2) none
def sliceF (t : TypeId) (x : V) (lo hi mx : Option Operand) (K : Eff → Option α) : Option α :=
  match X.P.underlying t with
  | some .string => match x, mx with
    | .one (.d x), none => takeS x fun s => cutB (lo.map (val fr)) (hi.map (val fr)) s.size fun l h => K { v := .one (.d (.str (s.extract l h))) }
    | _, _ => none
  | some (.slice e) => bif Nat.beq (sz X.P e) 0 then none else
    match x with
    | .one (.own k ep) => match fr.tk k with
      | some y => bif Nat.beq y.e ep && (Nat.beq y.esz (sz X.P e) || Nat.beq y.esz 0) then cutMx fr lo hi mx y.rows.length (K { v := .one .nil0, rd := [2 * k + 1] }) fun l h => K { v := .one (.sub k ep l (h - l)), rd := [2 * k + 1] } else none
      | none => none
    | .one (.sub k ep off len) => match fr.tk k with
      | some y => bif Nat.beq y.e ep && (Nat.beq y.esz (sz X.P e) || Nat.beq y.esz 0) then cutMx fr lo hi mx len (K { v := .one .nil0, rd := [2 * k + 1] }) fun l h => K { v := .one (.sub k ep (off + l) (h - l)), rd := [2 * k + 1] } else none
      | none => none
    | .one .nil0 => cutMx fr lo hi mx 0 (K { v := .one .nil0 }) fun _ _ => K { v := .one .nil0 }
    | .one (.d x) => takeL (sz X.P e) x fun rows => cutMx fr lo hi mx rows.length (K { v := .one .nil0 }) fun l h => K { v := .one (.d (.list (sz X.P e) ((rows.take h).drop l))) }
    | _ => none
  | _ => none

/-- The rows of a slice that is read. -/
def rowsF (esz : Nat) (x : V) (K : List (List D) → List Nat → Option α) : Option α := match x with
  | .one .nil0 => K [] []
  | .one (.d x) => takeL esz x fun r => K r []
  | .one (.own t e) => match fr.tk t with
    | some k => bif Nat.beq k.e e && (Nat.beq k.esz esz || k.rows.isEmpty) then K k.rows [2 * t + 1] else none
    | none => none
  | .one (.sub t e off len) => match fr.tk t with
    | some k => bif Nat.beq k.e e && (Nat.beq k.esz esz || k.rows.isEmpty) then K ((k.rows.drop off).take len) [2 * t + 1] else none
    | none => none
  | _ => none

def room : Nat := 140737488355328
/-- A type whose zero value is known. -/
def zeroOk (P : Program) (e : TypeId) : Bool := match (P.info? e).bind (·.zero) with
  | some v => Nat.beq v.cells.size (sz P e)
  | none => false

def appendF (d : Nat) (t : TypeId) (s x : V) (K : Eff → Option α) : Option α := match elemT X.P t with
  | none => none
  | some e =>
    let n := sz X.P e
    bif Nat.beq n 0 || Nat.beq (X.P.bytesOf e) 0 || !(zeroOk X.P e) then none else
    rowsF fr n x fun ys rd =>
    match s with
    | .one (.own k ep) => match fr.tk k with
      | some y => bif Nat.beq y.e ep && (Nat.beq y.et e && Nat.beq y.esz n || Nat.beq y.esz 0) then
          br (decide ((y.rows.length + ys.length) * X.P.bytesOf e ≤ room)) (K { v := .one (.own k (ep + 1)), tk := [(k, ⟨ep + 1, y.fz, e, n, y.rows ++ ys⟩)], rd := (2 * k + 1) :: rd }) none
        else none
      | none => none
    | .one .nil0 => br (decide (ys.length * X.P.bytesOf e ≤ room)) (K { v := .one (.own (key d 0) (nextT fr (key d 0))), tk := [(key d 0, ⟨nextT fr (key d 0), false, e, n, ys⟩)], rd := (2 * key d 0 + 1) :: rd }) none
    | _ => none

def lenF (t : TypeId) (x : V) (K : Eff → Option α) : Option α := match X.P.underlying t, x with
  | some .string, .one (.d x) => takeS x fun s => K { v := .one (.d (.int .i64 (s.size : Int))) }
  | some (.array n _), _ => K { v := .one (.d (.int .i64 (n : Int))) }
  | some (.slice _), .one .nil0 => K { v := .one (.d (.int .i64 0)) }
  | some (.slice _), .one (.d x) => takeR x fun r => K { v := .one (.d (.int .i64 (r.length : Int))) }
  | some (.slice _), .one (.own t e) => match fr.tk t with
    | some k => bif Nat.beq k.e e then K { v := .one (.d (.int .i64 (k.rows.length : Int))), rd := [2 * t + 1] } else none
    | none => none
  | some (.slice _), .one (.sub t e _ len) => match fr.tk t with
    | some k => bif Nat.beq k.e e then K { v := .one (.d (.int .i64 (len : Int))), rd := [2 * t + 1] } else none
    | none => none
  | _, _ => none

def minF (mx : Bool) (k : IntKind) (a : Int) : List V → (V → Option α) → Option α
  | [], K => K (.one (.d (.int k a)))
  | .one (.d y) :: vs, K => takeI k y fun b => minF mx k (bif mx then (if b > a then b else a) else (if b < a then b else a)) vs K
  | _, _ => none

/-- What a call is given, and where its answers by address go. -/
inductive Ref where
  | b (s e off n : Nat)
  | t (k e i off n : Nat)
def Ref.key : Ref → Nat
  | .b s .. => 2 * s
  | .t k .. => 2 * k + 1

def mkArg (v : V) (t : TypeId) : Option (Arg × Option Ref × List Nat) := match isPtrT X.P t with
  | some e => match v with
    | .one (.ptr s ep off) => match fr.bx s with
      | some b => bif Nat.beq b.e ep && Nat.ble (off + sz X.P e) b.cs.length && !(Nat.beq (sz X.P e) 0) then
          match toDs fr ((b.cs.drop off).take (sz X.P e)) with
          | some ds => some (.r ds, some (.b s ep off (sz X.P e)), toksOf ((b.cs.drop off).take (sz X.P e)))
          | none => none
        else none
      | none => none
    | .one (.tptr k ep i off) => match fr.tk k with
      | some y => bif Nat.beq y.e ep && Nat.ble (off + sz X.P e) y.esz && !(Nat.beq (sz X.P e) 0) && !y.fz then
          some (.r ((List.range (sz X.P e)).map fun j => (y.rows.getD i []).getD (off + j) .bad), some (.t k ep i off (sz X.P e)), []) else none
      | none => none
    | _ => none
  | none => match toDs fr v.cells with
    | some ds => bif Nat.beq ds.length (sz X.P t) && V.fits (isAggT X.P t) v && okT X.P t then some (.v ds, none, toksOf v.cells) else none
    | none => none
def mkArgs : List V → List TypeId → Option (List Arg × List Ref × List Nat)
  | [], [] => some ([], [], [])
  | v :: vs, t :: ts => match mkArg X fr v t with
    | some (a, r, k) => match mkArgs vs ts with
      | some (as, rs, ks) => some (a :: as, r.toList ++ rs, k ++ ks)
      | none => none
    | none => none
  | _, _ => none

def distinct : List Nat → Bool
  | [] => true
  | k :: ks => !(ks.any (Nat.beq k)) && distinct ks

/-- The values of a call's results, out of their cells (from number j on); pointers to new variables; own slices that are kept. -/
def resCs (d : Nat) (g : FuncId) (keepF : Bool) (r : List D) : Nat → Nat → (List C → List (Nat × Tk) → Option α) → Option α
  | _, 0, K => K [] []
  | j, n + 1, K => resCs d g keepF r (j + 1) n fun cs ks => bif keepF then (match look j (X.H g).fresh with
      | some e => takeL (sz X.P e) (r.getD j .bad) fun rows => K (.own (key d (j + 1)) (nextT fr (key d (j + 1))) :: cs) ((key d (j + 1), ⟨nextT fr (key d (j + 1)), false, e, sz X.P e, rows⟩) :: ks)
      | none => K (.d (r.getD j .bad) :: cs) ks) else K (.d (r.getD j .bad) :: cs) ks
def resV (d : Nat) (g : FuncId) (keepF : Bool) (r : List D) : Nat → List TypeId → (List V → List (Nat × Bx) → List (Nat × Tk) → Option α) → Option α
  | _, [], K => K [] [] []
  | j, t :: ts, K =>
    match isPtrT X.P t with
    | some e => bif Nat.beq (sz X.P e) 0 then none else resV d g keepF r (j + sz X.P e) ts fun vs bs ks => K (.one (.ptr (key d (j + 1)) (nextB fr (key d (j + 1))) 0) :: vs) ((key d (j + 1), ⟨nextB fr (key d (j + 1)), ((List.range (sz X.P e)).map fun i => .d (r.getD (j + i) .bad))⟩) :: bs) ks
    | none => resV d g keepF r (j + sz X.P t) ts fun vs bs ks => resCs X fr d g keepF r j (sz X.P t) fun cs ks' => K (V.ofCells (isAggT X.P t) cs :: vs) bs (ks' ++ ks)

def cellsOfTs (P : Program) (ts : List TypeId) : Nat := (ts.map fun t => match isPtrT P t with | some e => sz P e | none => sz P t).foldr (· + ·) 0

/-- Is a type made of numbers, bools and strings alone? -/
def flatF (P : Program) : Nat → TypeId → Bool
  | 0, _ => false
  | n + 1, t => match P.underlying t with
    | some .bool => true
    | some (.int _) => true
    | some .string => true
    | some (.struct fs) => fs.toList.all fun f => flatF P n f.type
    | some (.array _ e) => flatF P n e
    | _ => false
def flatT (P : Program) (t : TypeId) : Bool := flatF P 60 t

def writeB (fr : Fr) (r : List D) : Nat → List Ref → List (Nat × Bx) × List (Nat × Tk)
  | _, [] => ([], [])
  | m, .b s e off n :: rs =>
    let x := writeB fr r (m + n) rs
    match fr.bx s with
    | some b => ((s, ⟨e, splice b.cs off ((List.range n).map fun i => .d (r.getD (m + i) .bad))⟩) :: x.1, x.2)
    | none => x
  | m, .t k _ i off n :: rs =>
    let x := writeB fr r (m + n) rs
    match fr.tk k with
    | some y => (x.1, (k, { y with rows := y.rows.set i (splice (y.rows.getD i []) off ((List.range n).map fun j => r.getD (m + j) .bad)) }) :: x.2)
    | none => x

def tupX : List V → V
  | [v] => v
  | vs => .tup vs
def callF (d : Nat) (g : FuncId) (args : List V) (K : Eff → Option α) : Option α := match X.P.funcs[g]? with
  | none => none
  | some fn => bif fn.body.isNone then none else match mkArgs X fr args fn.params.toList with
    | none => none
    | some (as, rs, ks) =>
      let rts := fn.resultTypes.toList
      let fz := bif rts.all (flatT X.P) && rs.isEmpty then [] else freeze fr ks
      bif distinct (rs.map Ref.key) && !(ks.any fun t => rs.any fun r => Nat.beq r.key (2 * t + 1)) then
        obind (X.call g as) fun r => resV X fr d g ((X.H X.f).keep.any (Nat.beq d)) r 0 rts fun vs bs ts =>
            let w := writeB fr r (cellsOfTs X.P rts) rs
            K { v := tupX vs, bx := bs ++ w.1, tk := ts ++ w.2 ++ fz, rd := (rs.map Ref.key) ++ ks.map (2 * · + 1) ++ bs.map (2 * ·.1) ++ ts.map (2 * ·.1 + 1) }
      else none

def builtinF (d : Nat) (b : Builtin) (argTypes : Array TypeId) (args : List V) (K : Eff → Option α) : Option α := match b with
  | .len => match argTypes[0]?, args with
    | some t, [x] => lenF X fr t x K
    | _, _ => none
  | .append => match argTypes.toList, args with
    | [t, u], [s, x] => bif Nat.beq t u then appendF X fr d t s x K else none
    | _, _ => none
  | .min => match argTypes[0]?, args with
    | some t, .one (.d x) :: vs => match X.P.underlying t with
      | some (.int k) => takeI k x fun a => minF false k a vs fun v => K { v := v }
      | _ => none
    | _, _ => none
  | .max => match argTypes[0]?, args with
    | some t, .one (.d x) :: vs => match X.P.underlying t with
      | some (.int k) => takeI k x fun a => minF true k a vs fun v => K { v := v }
      | _ => none
    | _, _ => none
  | _ => none

/-- Zero cells of a type, as data cells. -/
def zeroF (t : TypeId) (K : List C → Option α) : Option α := match (X.P.info? t).bind (·.zero) with
  | some v => bif Nat.beq v.cells.size (sz X.P t) && v.cells.toList.all oneC then K (v.cells.toList.map cOf) else none
  | none => none

def fillF (place : Nat → Option (Nat × Nat)) : List C → List (Nat × V) → Option (List C)
  | cs, [] => some cs
  | cs, (i, v) :: r => match place i with
    | some (off, n) => bif Nat.beq v.cells.length n && Nat.ble (off + n) cs.length && v.plain then fillF place (splice cs off v.cells) r else none
    | none => none

def buildF (t : TypeId) (parts : List (Nat × V)) (K : V → Option α) : Option α := zeroF X t fun z => match X.P.underlying t with
  | some (.struct fs) => bif fs.toList.all (fun f => (X.P.info? f.type).isSome) then (match fillF (fun i => (fs[i]?).map fun f => (f.offset, sz X.P f.type)) z parts with
    | some cs => K (.agg cs)
    | none => none) else none
  | some (.array _ e) => bif (X.P.info? e).isSome then (match fillF (fun i => some (i * sz X.P e, sz X.P e)) z parts with
    | some cs => K (.agg cs)
    | none => none) else none
  | _ => none

/-- Cells cut into rows. -/
def chunk {β : Type} (n : Nat) : Nat → List β → List (List β)
  | 0, _ => []
  | m + 1, l => l.take n :: chunk n m (l.drop n)

def buildSliceF (d : Nat) (t : TypeId) (len : Nat) (parts : List (Nat × V)) (K : Eff → Option α) : Option α := match elemT X.P t with
  | none => none
  | some e =>
    let n := sz X.P e
    bif Nat.beq n 0 || !(Nat.ble (len * n) 16777216) then none else
    zeroF X e fun z => match fillF (fun i => some (i * n, n)) ((List.range (len * n)).map fun q => z.getD (q % n) .undef) parts with
      | some cs => match toDs fr cs with
        | some ds => bif (toksOf cs).any (Nat.beq (key d 0)) then none else K { v := .one (.own (key d 0) (nextT fr (key d 0))), tk := (key d 0, ⟨nextT fr (key d 0), false, e, n, chunk n len ds⟩) :: freeze fr (toksOf cs), rd := (2 * key d 0 + 1) :: keysOf cs }
        | none => none
      | none => none

def makeSliceF (d : Nat) (t : TypeId) (l c : V) (K : Eff → Option α) : Option α := match elemT X.P t with
  | none => none
  | some e =>
    let n := sz X.P e
    bif Nat.beq n 0 || Nat.beq (X.P.bytesOf e) 0 then none else
    zeroF X e fun z => match toDs fr z with
      | some zs => intT l fun l => intT c fun c => br (decide (0 ≤ l ∧ l ≤ c ∧ c.toNat * X.P.bytesOf e ≤ room))
          (K { v := .one (.own (key d 0) (nextT fr (key d 0))), tk := [(key d 0, ⟨nextT fr (key d 0), false, e, n, List.replicate l.toNat zs⟩)], rd := [2 * key d 0 + 1] }) none
      | none => none

def boxF (fr : Fr) (d : Nat) (cs : List C) (K : Eff → Option α) : Option α :=
  K { v := .one (.ptr (key d 0) (nextB fr (key d 0)) 0), bx := [(key d 0, ⟨nextB fr (key d 0), cs⟩)], rd := [2 * key d 0] }

def opF (o : Oper) (K : Eff → Option α) : Option α :=
  let d := o.dst.getD 0
  match o.op with
  | .move x => K { v := val fr x }
  | .assign x => match val fr x with
    | .one .nil0 => bif (X.H X.f).nils.any (Nat.beq d) then K { v := .one (.own (key d 0) (nextT fr (key d 0))), tk := [(key d 0, ⟨nextT fr (key d 0), false, (elemT X.P o.type).getD 0, sz X.P ((elemT X.P o.type).getD 0), []⟩)], rd := [2 * key d 0 + 1] } else K { v := .one .nil0 }
    | v => K { v := v }
  | .pick c a b => match val fr c with
    | .one (.d x) => takeB x fun t => br t (K { v := val fr a }) (K { v := val fr b })
    | _ => none
  | .alloc t => zeroF X t fun z => boxF fr d z K
  | .box t x => let cs := (val fr x).cells
    bif Nat.beq cs.length (sz X.P t) && (val fr x).plain then boxF fr d cs K else none
  | .build t parts => buildF X t (parts.toList.map fun p => (p.1, val fr p.2)) fun v => K { v := v }
  | .buildSlice t n parts => buildSliceF X fr d t n (parts.toList.map fun p => (p.1, val fr p.2)) K
  | .load t a => loadF X fr t (val fr a) K
  | .store t a v => storeF X fr t (val fr a) (val fr v) K
  | .nilCheck x => match val fr x with
    | .one (.ptr s e o) => K { v := .one (.ptr s e o) }
    | .one (.tptr t e i o) => K { v := .one (.tptr t e i o) }
    | .one (.rptr n r o) => K { v := .one (.rptr n r o) }
    | _ => none
  | .binOp op xt x y yt => binF X op xt yt (val fr x) (val fr y) fun v => K { v := v }
  | .unOp op xt x => unF X op xt (val fr x) fun v => K { v := v }
  | .convert src dst x => convF X src dst (val fr x) fun v => K { v := v }
  | .makeSlice t l c => makeSliceF X fr d t (val fr l) (val fr c) K
  | .slice t x lo hi mx => sliceF X fr t (val fr x) lo hi mx K
  | .fieldAddr t x f => fieldAddrF X t (val fr x) f fun v => K { v := v }
  | .field t x f => fieldF X t (val fr x) f fun v => K { v := v }
  | .indexAddr t x i => indexAddrF X fr t (val fr x) (val fr i) K
  | .index t x i => indexF X t (val fr x) (val fr i) fun v => K { v := v }
  | .extract t i => match val fr t with
    | .tup vs => match vs[i]? with
      | some v => K { v := v }
      | none => none
    | _ => none
  | .call c => match c.callee with
    | .builtin b => builtinF X fr d b c.argTypes (c.args.toList.map (val fr)) K
    | .value (.func g) => callF X fr d g (c.args.toList.map (val fr)) K
    | _ => none
  | _ => none
end ops

section code
variable (X : Env)
abbrev R := Option (List D)

/-- What an operation looks at and what it writes: temporaries by odd numbers, boxes and tokens by even ones. -/
def entGo (all : Array Oper) (o : Oper) (n : Nat) (x : Eff) : Nat × List Nat × List Nat :=
  (n, (o.looksAt all).map (2 * · + 1) ++ x.rd.map (2 * ·), o.dst.toList.map (2 * · + 1) ++ (x.bx.map (4 * ·.1) ++ x.tk.map (4 * ·.1 + 2)))
def entNo (all : Array Oper) (o : Oper) (n : Nat) : Nat × List Nat × List Nat := (n, (o.looksAt all).map (2 * · + 1), o.dst.toList.map (2 * · + 1))

/-- A region's operations, each carried out if its guard says so; what is known of a guard is written into its temporary. -/
def opsF (all : Array Oper) : List Oper → Fr → List (Nat × List Nat × List Nat) → (Fr → List (Nat × List Nat × List Nat) → R) → R
  | [], fr, acc, K => K fr acc
  | o :: rest, fr, acc, K =>
    let go := fun (fr : Fr) => opF X fr o fun x => opsF all rest (fr.app o.dst x) (entGo all o acc.length x :: acc) K
    let no := fun (fr : Fr) => opsF all rest (fr.put o.dst .skip) (entNo all o acc.length :: acc) K
    match o.guard with
    | none => go fr
    | some (j, want) => match (all[j]?).bind (·.dst) with
      | none => no fr
      | some t => match fr.tm t with
        | .skip => no fr
        | .one (.d x) => takeB x fun b => br b
            (bif want then go { fr with tm := upd fr.tm t (.one (.d (.bool true))) } else no { fr with tm := upd fr.tm t (.one (.d (.bool true))) })
            (bif want then no { fr with tm := upd fr.tm t (.one (.d (.bool false))) } else go { fr with tm := upd fr.tm t (.one (.d (.bool false))) })
        | _ => none

/-- May the operations come in any order that the edges allow? Those of which none waits for the other look at nothing that the other writes, and write nothing alike. -/
def apartB (a b : Nat × List Nat × List Nat) : Bool := !(a.2.2.any fun k => b.2.1.any (Nat.beq k) || b.2.2.any (Nat.beq k)) && !(b.2.2.any fun k => a.2.1.any (Nat.beq k))
def orderOk (bef : List Nat) : List (Nat × List Nat × List Nat) → Bool
  | [] => true
  | x :: xs => (xs.all fun y => (bef.getD x.1 0).testBit y.1 || apartB x y) && orderOk bef xs
/-- For each operation, those that must come before it. -/
def befs : List Oper → List Nat → List Nat
  | [], acc => acc
  | o :: os, acc => befs os (acc ++ [o.after.toList.foldl (fun s e => bif Region.binds .any e then s ||| 2 ^ e.on ||| acc.getD e.on 0 else s) 0])
def edgesOk : Nat → List Oper → Bool
  | _, [] => true
  | i, o :: os => o.after.toList.all (fun e => !(Region.binds .any e) || Nat.ble (e.on + 1) i) && edgesOk (i + 1) os

def regionF (ops : Array Oper) (draw : Bool) (fr : Fr) (K : Fr → R) : R :=
  bif ops.toList.all (fun o => match o.dst with | some d => Nat.ble (d + 1) X.nt | none => true) then opsF X ops ops.toList fr [] (fun fr acc => bif draw then (bif edgesOk 0 ops.toList && orderOk (befs ops.toList []) acc then K fr else none) else K fr) else none

def liveAt (l : List Nat) : Nat → Bool := fun k => l.any (Nat.beq k)
/-- A cell at a cut: what lives on keeps its meaning, with every count begun anew; all else is forgotten. -/
def normC (fr : Fr) (h : Live) (rn : List (Nat × Nat)) : C → C
  | .d x => .d x
  | .own t e => match fr.tk t with | some k => bif Nat.beq k.e e then (match look t rn with | some K => .own K 0 | none => .undef) else .undef | none => .undef
  | .sub t e off len => match fr.tk t with | some k => bif Nat.beq k.e e then (match look t rn with | some K => .sub K 0 off len | none => .undef) else .undef | none => .undef
  | .nil0 => .nil0
  | .ptr s e off => match fr.bx s with | some b => bif Nat.beq b.e e && liveAt h.bx s then .ptr s 0 off else .undef | none => .undef
  | .tptr t e i off => match fr.tk t with | some k => bif Nat.beq k.e e then (match look t rn with | some K => .tptr K 0 i off | none => .undef) else .undef | none => .undef
  | .rptr n r o => .rptr n r o
  | .fn f cs => match cs with | [] => .fn f [] | _ => .undef
  | .undef => .undef
def normV (fr : Fr) (h : Live) (rn : List (Nat × Nat)) : V → V
  | .one c => .one (normC fr h rn c)
  | .agg cs => .agg (cs.map (normC fr h rn))
  | .tup _ => .any
  | .skip => .any
  | .any => .any
/-- The token that is called K from here on: what the variable holds that is named beside it. -/
def srcT (fr : Fr) (h : Live) (K : Nat) : Nat := match look K h.ren with
  | some t => match fr.tm t with
    | .one (.own k _) => k
    | .one (.sub k _ _ _) => k
    | _ => K
  | none => K
def pinSites (P : Program) : Nat → List TypeId → List Nat
  | _, [] => []
  | i, t :: ts => match isPtrT P t with
    | some _ => key i 0 :: pinSites P (i + 1) ts
    | none => pinSites P (i + 1) ts
def pinsOf : List Nat := match X.P.funcs[X.f]? with
  | some fn => pinSites X.P 0 fn.params.toList
  | none => []
def canon0 (fr : Fr) (h : Live) : Option Lv :=
  bif (pinsOf X).all (fun s => liveAt h.bx s && (match fr.bx s with | some b => Nat.beq b.e 0 | none => false)) && h.bx.all (fun s => (fr.bx s).isSome) && h.tk.all (fun t => (fr.tk (srcT fr h t)).isSome) && distinct (h.tk.map (srcT fr h)) then
    let rn := h.tk.map fun K => (srcT fr h K, K)
    some ⟨h.tm.map fun t => normV fr h rn (fr.tm t), h.bx.map fun s => ((fr.bx s).map fun b => b.cs.map (normC fr h rn)).getD [], h.tk.filterMap fun t => (fr.tk (srcT fr h t)).map fun k => { k with e := 0 }⟩
  else none
/-- With what is written no more from here on. -/
def canon (fr : Fr) (h : Live) : Option Lv := canon0 X { fr with tk := upds fr.tk (freeze fr h.fz) } h
def zipL {β : Type} (d : β) : List Nat → List β → Nat → β
  | k :: ks, v :: vs => upd (zipL d ks vs) k v
  | _, _ => fun _ => d
def Fr.ofLv (h : Live) (l : Lv) : Fr :=
  ⟨zipL .any h.tm l.tm, zipL none h.bx (l.bx.map fun cs => some ⟨0, cs⟩), zipL none h.tk (l.tk.map some)⟩

structure Ks where
  nx : Fr → R
  ex : Nat → Fr → R
  rt : Fr → R


def splitB (fr : Fr) (c : Operand) (kt kf : Fr → R) : R := match c with
  | .const (.bool b) => br b (kt fr) (kf fr)
  | .tmp t => match fr.tm t with
    | .one (.d x) => takeB x fun b => br b (kt { fr with tm := upd fr.tm t (.one (.d (.bool true))) }) (kf { fr with tm := upd fr.tm t (.one (.d (.bool false))) })
    | _ => none
  | _ => none

/-- Code from its begin on, at place p. -/
def ev : Nat → Code → Fr → Ks → R
  | _, .skip, fr, K => K.nx fr
  | p, .region _ ops draw, fr, K => match look p (X.H X.f).cuts with
    | some h => match canon X fr h with
      | some l => X.kont p l
      | none => none
    | none => regionF X ops draw fr K.nx
  | p, .seq a b, fr, K => ev (2 * p) a fr { K with nx := fun fr => ev (2 * p + 1) b fr K }
  | p, .cond c a b, fr, K => splitB fr c (fun fr => ev (2 * p) a fr K) (fun fr => ev (2 * p + 1) b fr K)
  | p, .block id a, fr, K => ev (2 * p) a fr { K with ex := fun i fr => bif Nat.beq i id then K.nx fr else K.ex i fr }
  | p, .loop a, fr, K => ev (2 * p) a fr { K with nx := fun _ => none }
  | p, .scope a, fr, K => ev (2 * p) a fr K
  | _, .exit id, fr, K => K.ex id fr
  | _, .ret, fr, K => K.rt fr
  | _, _, _, _ => none

/-- Code from the region at place 'p' (its digits: 'bits') on. -/
def evAt : List Bool → Nat → Code → Fr → Ks → R
  | [], _, .region _ ops draw, fr, K => regionF X ops draw fr K.nx
  | false :: bs, p, .seq a b, fr, K => evAt bs (2 * p) a fr { K with nx := fun fr => ev X (2 * p + 1) b fr K }
  | true :: bs, p, .seq _ b, fr, K => evAt bs (2 * p + 1) b fr K
  | false :: bs, p, .cond _ a _, fr, K => evAt bs (2 * p) a fr K
  | true :: bs, p, .cond _ _ b, fr, K => evAt bs (2 * p + 1) b fr K
  | false :: bs, p, .block id a, fr, K => evAt bs (2 * p) a fr { K with ex := fun i fr => bif Nat.beq i id then K.nx fr else K.ex i fr }
  | false :: bs, p, .loop a, fr, K => evAt bs (2 * p) a fr { K with nx := fun fr => ev X (2 * p) a fr { K with nx := fun _ => none } }
  | false :: bs, p, .scope a, fr, K => evAt bs (2 * p) a fr K
  | _, _, _, _, _ => none

def bitsF : Nat → Nat → List Bool → List Bool
  | 0, _, acc => acc
  | n + 1, p, acc => bif Nat.ble p 1 then acc else bitsF n (p / 2) (Nat.beq (p % 2) 1 :: acc)
def bits (p : Nat) : List Bool := bitsF p p []

/-- What a function is entered with. -/
def enterF : Nat → List Arg → List TypeId → Fr → Option Fr
  | _, [], [], fr => some fr
  | i, .v cs :: as, t :: ts, fr => bif (isPtrT X.P t).isNone && Nat.beq cs.length (sz X.P t) then enterF (i + 1) as ts { fr with tm := upd fr.tm i (V.ofCells (isAggT X.P t) (cs.map .d)) } else none
  | i, .r cs :: as, t :: ts, fr => match isPtrT X.P t with
    | some e => bif Nat.beq cs.length (sz X.P e) && !(Nat.beq cs.length 0) then enterF (i + 1) as ts { fr with tm := upd fr.tm i (.one (.ptr (key i 0) 0 0)), bx := upd fr.bx (key i 0) (some ⟨0, cs.map .d⟩) } else none
    | none => none
  | _, _, _, _ => none

def fr0 : Fr := ⟨fun _ => .skip, fun _ => none, fun _ => none⟩

/-- The cells of the results: pointers by the variables that they lead to. -/
def resOne (fr : Fr) : ResultVar → Option V
  | .tmp x => some (fr.tm x)
  | .cell a u => match loadF X fr u (fr.tm a) some with
    | some z => some z.v
    | none => none
def resCells (fr : Fr) : List ResultVar → List TypeId → Option (List C)
  | [], [] => some []
  | r :: rs, t :: ts => match isPtrT X.P t with
    | some e => match r with
      | .tmp x => match fr.tm x with
        | .one (.ptr s ep 0) => match fr.bx s with
          | some b => bif Nat.beq b.e ep && Nat.beq b.cs.length (sz X.P e) && !(Nat.beq (sz X.P e) 0) then (resCells fr rs ts).map (b.cs ++ ·) else none
          | none => none
        | _ => none
      | .cell _ _ => none
    | none => match resOne X fr r with
      | some v => bif Nat.beq v.cells.length (sz X.P t) && V.fits (isAggT X.P t) v && okT X.P t then (resCells fr rs ts).map (v.cells ++ ·) else none
      | none => none
  | _, _ => none
def ptrSites (fr : Fr) : List ResultVar → List TypeId → List Nat
  | r :: rs, t :: ts => (match isPtrT X.P t, r with
    | some _, .tmp x => (match fr.tm x with | .one (.ptr s _ _) => [s] | _ => [])
    | _, _ => []) ++ ptrSites fr rs ts
  | _, _ => []

def refCells (P : Program) (fr : Fr) : Nat → List TypeId → Option (List C)
  | _, [] => some []
  | i, t :: ts => match isPtrT P t with
    | some e => match fr.bx (key i 0) with
      | some b => bif Nat.beq b.e 0 && Nat.beq b.cs.length (sz P e) then (refCells P fr (i + 1) ts).map (b.cs ++ ·) else none
      | none => none
    | none => refCells P fr (i + 1) ts

/-- Which cells of the results are values, which lie behind a pointer. -/
def valPos (P : Program) : List TypeId → List Bool
  | [] => []
  | t :: ts => (match isPtrT P t with | some e => List.replicate (sz P e) false | none => List.replicate (sz P t) true) ++ valPos P ts
/-- Own slices among the result's cells are whole, not shared, each once. -/
def freshOk (P : Program) (fr : Fr) (pos : List Bool) (cs : List C) (fresh : List (Nat × TypeId)) : Bool :=
  fresh.all fun j => (match pos[j.1]? with | some b => b | none => false) && match cs[j.1]? with
    | some .nil0 => true
    | some (.own t e) => (match fr.tk t with | some k => Nat.beq k.e e && !k.fz && (Nat.beq k.et j.2 && Nat.beq k.esz (sz P j.2) || Nat.beq k.esz 0) | none => false) && Nat.beq ((toksOf cs).filter (Nat.beq t)).length 1
    | _ => false

def retF (fn : Func) (fr : Fr) : R := match resCells X fr fn.results.toList fn.resultTypes.toList with
  | none => none
  | some cs => match refCells X.P fr 0 fn.params.toList with
    | none => none
    | some rs =>
      let ps := ptrSites X fr fn.results.toList fn.resultTypes.toList
      bif freshOk X.P fr (valPos X.P fn.resultTypes.toList) (cs ++ rs) (X.H X.f).fresh && distinct (ps ++ (List.range fn.params.size).map fun i => key i 0) then (match toDs fr (cs ++ rs) with
        | some ds => bif fn.resultTypes.toList.all (flatT X.P) && fn.params.toList.all (fun t => (isPtrT X.P t).isNone) then scAll ds some else some ds
        | none => none) else none

def ksOf (fn : Func) : Ks := ⟨fun fr => retF X fn fr, fun _ _ => none, fun fr => retF X fn fr⟩

def body (args : List Arg) : R := match X.P.funcs[X.f]? with
  | some fn => bif Nat.beq fn.nfree 0 then match fn.body, enterF X 0 args fn.params.toList fr0 with
    | some c, some fr => ev X 1 c fr (ksOf X fn)
    | _, _ => none else none
  | none => none
def bodyAt (p : Nat) (l : Lv) : R := match X.P.funcs[X.f]?, look p (X.H X.f).cuts with
  | some fn, some h => match fn.body with
    | some c => evAt X (bits p) 1 c (Fr.ofLv h l) (ksOf X fn)
    | none => none
  | _, _ => none
end code

/-- The evaluator with so many calls and jumps to go. -/
def run (P : Program) (H : FuncId → Hints) : Nat → FuncId → Option Nat → List Arg → Lv → R
  | 0, _, _, _, _ => none
  | n + 1, f, q, as, l =>
    let X : Env := ⟨P, H, fun g as => run P H n g none as ⟨[], [], []⟩, fun p l => run P H n f (some p) [] l, f⟩
    match q with
    | none => body X as
    | some p => bodyAt X p l

end Go.Vm
