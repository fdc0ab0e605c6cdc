/- OpensP: part 1 of the texts that the proof of opens_holds needs: an evaluator of the program on data, its soundness, the equations of the functions, the plain laws. Conditions: none. -/
import GoSem.Step
import Derived.Orders
import Derived.Laws.World
import Derived.Laws.Cells
import Derived.Laws.OwnMore
import Derived.Maps.AppendAt
import Derived.Below
import Derived.Laws.StructEq
import Derived.Laws.Unary
import Derived.Laws.Slices
import Derived.Deep.AppendSrc
import Derived.Deep.Upon
import Derived.Laws.Strings2
import Derived.Laws.MakeOwn
/- The value-level evaluator: pure data, frames of values, and what each operation of the model does to them. No memory, no world. -/
namespace Go.Vm
noncomputable section

/-- Pure data. 'list esz rows': a slice, each row the cells of one element. -/
inductive D where
  | bool (b : Bool)
  | int (k : IntKind) (n : Int)
  | str (s : ByteArray)
  | list (esz : Nat) (rows : List (List D))
  | fn (f : FuncId)
  | nilp
  | bad
instance : Inhabited D := ⟨.bad⟩

/-- What a function value has captured: a whole variable, or a value. -/
inductive Cap where
  | p (s e : Nat)
  | d (x : D)

/-- One cell of a frame. -/
inductive C where
  | d (x : D)
  | own (t e : Nat)
  | sub (t e off len : Nat)
  | nil0
  | ptr (s e off : Nat)
  | tptr (t e i off : Nat)
  | rptr (esz : Nat) (row : List D) (off : Nat)
  | fn (g b : FuncId) (caps : List Cap)
  | ub
  | undef
instance : Inhabited C := ⟨.undef⟩

inductive V where
  | one (c : C)
  | agg (cs : List C)
  | tup (vs : List V)
  | skip
  | any
instance : Inhabited V := ⟨.one .undef⟩

/-- A variable in memory; a growing slice of the call's own. -/
structure Bx where
  e : Nat
  cs : List C
structure Tk where
  e : Nat
  fz : Bool
  et : TypeId
  esz : Nat
  rows : List (List D)

structure Fr where
  tm : Nat → V
  bx : Nat → Option Bx
  tk : Nat → Option Tk

def upd {α : Type} (f : Nat → α) (k : Nat) (v : α) : Nat → α := fun j => bif Nat.beq j k then v else f j
def upds {α : Type} (f : Nat → Option α) : List (Nat × α) → Nat → Option α
  | [] => f
  | (k, v) :: l => upd (upds f l) k (some v)

/-- What an operation does: the value of its temporary; boxes and tokens written; the keys that it looked at. -/
structure Eff where
  v : V
  bx : List (Nat × Bx) := []
  tk : List (Nat × Tk) := []
  rd : List Nat := []

def Fr.put (fr : Fr) (d : Option Tmp) (v : V) : Fr := match d with
  | some t => { fr with tm := upd fr.tm t v }
  | none => fr
def Fr.app (fr : Fr) (d : Option Tmp) (x : Eff) : Fr := { (fr.put d x.v) with bx := upds fr.bx x.bx, tk := upds fr.tk x.tk }

/-- What a call is given: values, and variables by their address. -/
inductive Arg where
  | v (cs : List D)
  | r (cs : List D)

section take
variable {α : Type}
def br (b : Bool) (x y : Option α) : Option α := match b with | true => x | false => y
def takeB (x : D) (K : Bool → Option α) : Option α := match x with | .bool b => K b | _ => none
def takeI (k : IntKind) (x : D) (K : Int → Option α) : Option α := match x with | .int k' n => if k' = k then K n else none | _ => none
def takeS (x : D) (K : ByteArray → Option α) : Option α := match x with | .str s => K s | _ => none
def takeL (esz : Nat) (x : D) (K : List (List D) → Option α) : Option α := match x with | .list e r => if e = esz ∨ r = [] then K r else none | _ => none
def takeN (x : D) (K : Int → Option α) : Option α := match x with | .int _ n => K n | _ => none
def takeR (x : D) (K : List (List D) → Option α) : Option α := match x with | .list _ r => K r | _ => none
def obind {β : Type} (x : Option β) (K : β → Option α) : Option α := match x with | some r => K r | none => none
/-- Where a test is open: both ways, if they answer the same. -/
def both (x y : Option α) : Option α := @ite _ (x = y) (Classical.propDecidable _) x none
end take

def look {β : Type} (k : Nat) : List (Nat × β) → Option β
  | [] => none
  | (j, v) :: l => bif Nat.beq j k then some v else look k l
def takeSc {α : Type} (x : D) (K : D → Option α) : Option α := match x with
  | .list _ _ => none
  | .bad => none
  | x => K x
def scAll {α : Type} : List D → (List D → Option α) → Option α
  | [], K => K []
  | d :: ds, K => takeSc d fun x => scAll ds fun xs => K (x :: xs)
def key (d j : Nat) : Nat := d * 1024 + j

/-- The facts on types that the evaluator asks. -/
def sz (P : Program) (t : TypeId) : Nat := P.cellsOf t
def elemT (P : Program) (t : TypeId) : Option TypeId := match P.underlying t with
  | some (.slice e) => some e
  | _ => none
def isAggT (P : Program) (t : TypeId) : Bool := match P.underlying t with
  | some (.struct _) => true
  | some (.array _ _) => true
  | _ => false
def isPtrT (P : Program) (t : TypeId) : Option TypeId := match P.underlying t with
  | some (.pointer e) => some e
  | _ => none

/-- A type whose variables' cells are known. -/
def okT (P : Program) (t : TypeId) : Bool := match P.underlying t with
  | none => false
  | some _ => isAggT P t || Nat.beq (sz P t) 1

/-- What a cell of a type holds. -/
inductive LK where
  | b
  | i (k : IntKind)
  | s
  | l (esz : Nat)
  | a
def LK.e : LK → Nat
  | .l n => n
  | _ => 0
def leafsN (P : Program) : Nat → TypeId → List LK
  | 0, t => List.replicate (sz P t) .a
  | n + 1, t => match P.underlying t with
    | some .bool => [.b]
    | some (.int k) => [.i k]
    | some .string => [.s]
    | some (.slice e) => [.l (sz P e)]
    | some (.struct fs) => fs.toList.flatMap fun f => leafsN P n f.type
    | some (.array m e) => (List.replicate m (leafsN P n e)).flatten
    | _ => List.replicate (sz P t) .a
def leafs (P : Program) (t : TypeId) : List LK := leafsN P 20 t
def deref (P : Program) (t : TypeId) : TypeId := match isPtrT P t with | some e => e | none => t
/-- What an argument is: a value of a type; a variable by its address; one cell; a function (as it is called here, the program's own, where what it has captured lies among the arguments). -/
inductive PK where
  | v (t : TypeId)
  | r (e : TypeId)
  | w
  | f (g b : FuncId) (ix : List Nat)
  | n
def PK.noF : PK → Bool
  | .f _ _ _ => false
  | _ => true
def PK.ref : PK → Option TypeId
  | .r e => some e
  | _ => none
/-- Of a call's answer: the types of its results, then of what its arguments lead to. -/
def answerTs (P : Program) (rts : List TypeId) (ks : List PK) : List TypeId := rts.map (deref P) ++ ks.filterMap PK.ref
section take
variable {α : Type}
def tB (r : List D) (K : Bool → List D → Option α) : Option α := match r with | .bool b :: r' => K b r' | _ => none
def tI (k : IntKind) (r : List D) (K : Int → List D → Option α) : Option α := match r with | .int k' n :: r' => if k' = k then K n r' else none | _ => none
def tS (r : List D) (K : ByteArray → List D → Option α) : Option α := match r with | .str s :: r' => K s r' | _ => none
def tL (esz : Nat) (r : List D) (K : List (List D) → List D → Option α) : Option α := match r with | .list e l :: r' => if e = esz then K l r' else none | _ => none
def tA (r : List D) (K : D → List D → Option α) : Option α := match r with | x :: r' => K x r' | _ => none
def tE (r : List D) (x : Option α) : Option α := match r with | [] => x | _ => none
/-- Data taken apart by what its cells hold. -/
def destr : List LK → List D → (List D → Option α) → Option α
  | [], r, K => tE r (K [])
  | .b :: ks, r, K => tB r fun b r => destr ks r fun ds => K (.bool b :: ds)
  | .i k :: ks, r, K => tI k r fun n r => destr ks r fun ds => K (.int k n :: ds)
  | .s :: ks, r, K => tS r fun s r => destr ks r fun ds => K (.str s :: ds)
  | .l e :: ks, r, K => tL e r fun l r => destr ks r fun ds => K (.list e l :: ds)
  | .a :: ks, r, K => tA r fun x r => destr ks r fun ds => K (x :: ds)
def destrT (P : Program) (ts : List TypeId) (r : List D) (K : List D → Option α) : Option α := destr (ts.flatMap (leafs P)) r K
theorem destr_eq {α : Type} {x : α} : ∀ (ks : List LK) (r : List D) (K : List D → Option α), destr ks r K = some x → ∀ {β : Type} (K' : List D → Option β), destr ks r K' = K' r := by
  intro ks
  induction ks with
  | nil =>
    intro r K h β K'
    cases r with
    | nil => rfl
    | cons d r => cases h
  | cons k ks ih =>
    intro r K h β K'
    cases k with
    | b =>
      cases r with
      | nil => cases h
      | cons d r => cases d with
        | bool b => exact ih r _ h _
        | _ => cases h
    | s =>
      cases r with
      | nil => cases h
      | cons d r => cases d with
        | str b => exact ih r _ h _
        | _ => cases h
    | a =>
      cases r with
      | nil => cases h
      | cons d r => exact ih r _ h _
    | i k =>
      cases r with
      | nil => cases h
      | cons d r => cases d with
        | int k' n =>
          simp only [destr, tI] at h ⊢
          split at h
          · rename_i hk
            subst hk
            rw [if_pos rfl]
            exact ih r _ h _
          · cases h
        | _ => cases h
    | l e =>
      cases r with
      | nil => cases h
      | cons d r => cases d with
        | list e' l =>
          simp only [destr, tL] at h ⊢
          split at h
          · rename_i hk
            subst hk
            rw [if_pos rfl]
            exact ih r _ h _
          · cases h
        | _ => cases h
theorem destrT_eq {P : Program} {ts : List TypeId} {r : List D} {K : List D → Option α} {x : α} (h : destrT P ts r K = some x) : ∀ {β : Type} (K' : List D → Option β), destrT P ts r K' = K' r := destr_eq _ _ _ h
end take

def dOf : Value → Option D
  | .bool b => some (.bool b)
  | .int k n => some (.int k n)
  | .string s => some (.str s)
  | .func (.func f) a b => if a.size = 0 then if b.size = 0 then some (.fn f) else none else none
  | .pointer none => some .nilp
  | _ => none
def cOf (v : Value) : C := match v with
  | .slice none 0 0 => .nil0
  | v => match dOf v with
    | some x => .d x
    | none => .undef
def oneC : Value → Bool
  | .agg _ => false
  | .tuple _ => false
  | _ => true
def vOf (v : Value) : V := match v with
  | .agg cs => bif cs.toList.all oneC then .agg (cs.toList.map cOf) else .any
  | .tuple _ => .any
  | v => .one (cOf v)

def val (fr : Fr) : Operand → V
  | .tmp t => fr.tm t
  | .const v => vOf v
  | .func f => .one (.d (.fn f))
  | .global _ => .any

def V.cells : V → List C
  | .one c => [c]
  | .agg cs => cs
  | _ => []
def V.plain : V → Bool
  | .one _ => true
  | .agg _ => true
  | _ => false
def V.fits : Bool → V → Bool
  | true, .agg _ => true
  | false, .one _ => true
  | _, _ => false
def V.ofCells (agg : Bool) (cs : List C) : V := bif agg then .agg cs else .one (cs.headD .undef)

/-- A cell as pure data, as the frame has it now. -/
def toD (fr : Fr) : C → Option D
  | .d x => some x
  | .nil0 => some (.list 0 [])
  | .own t e => match fr.tk t with
    | some k => bif Nat.beq k.e e then some (.list k.esz k.rows) else none
    | none => none
  | .sub t e off len => match fr.tk t with
    | some k => bif Nat.beq k.e e then some (.list k.esz ((k.rows.drop off).take len)) else none
    | none => none
  | .fn _ b [] => some (.fn b)
  | _ => none
def toDk (fr : Fr) (k : LK) (c : C) : Option D := match c with
  | .nil0 => some (.list k.e [])
  | c => toD fr c
def toDs (fr : Fr) : List LK → List C → Option (List D)
  | _, [] => some []
  | ks, c :: cs => match toDk fr (ks.headD .a) c with
    | some x => match toDs fr ks.tail cs with
      | some xs => some (x :: xs)
      | none => none
    | none => none

/-- The tokens and boxes that a cell leads to. -/
def C.toks : C → List Nat
  | .own t _ => [t]
  | .sub t _ _ _ => [t]
  | _ => []
def keysOf (cs : List C) : List Nat := cs.flatMap fun c => c.toks.map fun t => 2 * t + 1
def freeze (fr : Fr) : List Nat → List (Nat × Tk)
  | [] => []
  | t :: ts => match fr.tk t with
    | some k => (t, { k with fz := true }) :: freeze fr ts
    | none => freeze fr ts
def toksOf (cs : List C) : List Nat := cs.flatMap C.toks

def nextB (fr : Fr) (s : Nat) : Nat := match fr.bx s with | some b => b.e + 1 | none => 0
def nextT (fr : Fr) (t : Nat) : Nat := match fr.tk t with | some k => k.e + 1 | none => 0

structure Live where
  tm : List Nat
  bx : List Nat
  tk : List Nat
  fz : List Nat := []
  ren : List (Nat × Nat) := []
  kt : List (Nat × TypeId) := []
  kb : List (Nat × TypeId) := []
  nb : List (Nat × Nat × Nat × TypeId) := []
def Evt (φ : Nat → Prop) : Prop := ∃ N, ∀ n, N ≤ n → φ n
/-- A function's answer, given by hand out of what it calls. -/
structure Orc where
  run : (FuncId → List Arg → Option (List D)) → List Arg → Option (List D)
  lim : ∀ (c : FuncId → List Arg → Option (List D)) (cs : Nat → FuncId → List Arg → Option (List D)), (∀ g as r, c g as = some r → Evt fun n => cs n g as = some r) → ∀ as r, run c as = some r → Evt fun n => run (cs n) as = some r
/-- What is said beside a function's code: where evaluation is cut and what lives there; which nil slices are given a token (site, offset); which cells of its result are its own slices; which calls' own results are given tokens. -/
structure Hints where
  cuts : List (Nat × Live) := []
  nils : List Nat := []
  fresh : List (Nat × TypeId) := []
  keep : List Nat := []
  base : Option FuncId := none
  fns : List (Nat × FuncId × FuncId × List Nat) := []
  free : List PK := []
  ext : List PK := []
  spec : List (Nat × FuncId) := []
  mkf : List (Nat × FuncId) := []
  niln : List Nat := []
  trunc : List Nat := []
  orc : Option Orc := none
def baseOf (H : FuncId → Hints) (f : FuncId) : FuncId := match (H f).base with | some b => b | none => f
def kindP (P : Program) (H : FuncId → Hints) (f : FuncId) (i : Nat) (t : TypeId) : PK := match look i (H f).fns with
  | some x => .f x.1 x.2.1 x.2.2
  | none => bif (H f).niln.any (Nat.beq i) then .n else match isPtrT P t with | some e => .r e | none => .v t
def kindsP (P : Program) (H : FuncId → Hints) (f : FuncId) : Nat → List TypeId → List PK
  | _, [] => []
  | i, t :: ts => kindP P H f i t :: kindsP P H f (i + 1) ts
/-- What a function is given: its parameters, its free variables, what its parameters' functions have captured. -/
def kindsOf (P : Program) (H : FuncId → Hints) (f : FuncId) (fn : Func) : List PK := kindsP P H f 0 fn.params.toList ++ ((H f).free ++ (H f).ext)
def nreal (H : FuncId → Hints) (f : FuncId) (fn : Func) : Nat := fn.params.size + (H f).free.length

/-- What a cut hands on. -/
structure Lv where
  tm : List V
  bx : List (List C)
  tk : List Tk

structure Env where
  P : Program
  H : FuncId → Hints
  call : FuncId → List Arg → Option (List D)
  kont : Nat → Lv → Option (List D)
  f : FuncId
def Env.fn (X : Env) : Option Func := X.P.funcs[baseOf X.H X.f]?
def Env.nt (X : Env) : Nat := match X.fn with | some fn => fn.ntmps | none => 0

section ops
variable {α : Type} (X : Env) (fr : Fr)

def cmpI (op : BinOp) (a b : Int) (K : C → Option α) : Option α := match op with
  | .eql => K (.d (.bool (a == b)))
  | .neq => K (.d (.bool (a != b)))
  | .lss => K (.d (.bool (decide (a < b))))
  | .leq => K (.d (.bool (decide (a ≤ b))))
  | .gtr => K (.d (.bool (decide (a > b))))
  | .geq => K (.d (.bool (decide (a ≥ b))))
  | _ => none
def arI (op : BinOp) (k : IntKind) (a b : Int) (K : C → Option α) : Option α := match op with
  | .add => K (.d (.int k (k.wrap (a + b))))
  | .sub => K (.d (.int k (k.wrap (a - b))))
  | .mul => K (.d (.int k (k.wrap (a * b))))
  | .quo => br (decide (b = 0)) none (K (.d (.int k (k.wrap (a.tdiv b)))))
  | .rem => br (decide (b = 0)) none (K (.d (.int k (a.tmod b))))
  | .and => K (.d (.int k (k.wrap ((BitVec.ofInt k.bits a &&& BitVec.ofInt k.bits b).toNat : Int))))
  | .or => K (.d (.int k (k.wrap ((BitVec.ofInt k.bits a ||| BitVec.ofInt k.bits b).toNat : Int))))
  | .xor => K (.d (.int k (k.wrap ((BitVec.ofInt k.bits a ^^^ BitVec.ofInt k.bits b).toNat : Int))))
  | .andNot => K (.d (.int k (k.wrap ((BitVec.ofInt k.bits a &&& ~~~ BitVec.ofInt k.bits b).toNat : Int))))
  | op => cmpI op a b K
def shI (op : BinOp) (k : IntKind) (a b : Int) (K : C → Option α) : Option α := match op with
  | .shl => br (decide (b < 0)) none (K (.d (.int k (k.wrap (a * 2 ^ (min b.toNat k.bits))))))
  | .shr => br (decide (b < 0)) none (K (.d (.int k (a.fdiv (2 ^ (min b.toNat k.bits))))))
  | _ => none
def cmpS (op : BinOp) (a b : ByteArray) (K : C → Option α) : Option α := match op with
  | .add => br (decide (((a.size + b.size : Nat) : Int) > IntKind.i64.max)) none (K (.d (.str (a ++ b))))
  | .eql => K (.d (.bool (a.toList == b.toList)))
  | .neq => K (.d (.bool (!(a.toList == b.toList))))
  | .lss => K (.d (.bool (Op.bytesLess a.toList b.toList)))
  | .leq => K (.d (.bool (Op.bytesLess a.toList b.toList || a.toList == b.toList)))
  | .gtr => K (.d (.bool (!(Op.bytesLess a.toList b.toList || a.toList == b.toList))))
  | .geq => K (.d (.bool (!(Op.bytesLess a.toList b.toList))))
  | _ => none
def cmpB (op : BinOp) (a b : Bool) (K : C → Option α) : Option α := match op with
  | .eql => K (.d (.bool (a == b)))
  | .neq => K (.d (.bool (!(a == b))))
  | _ => none

/-- '==' of a type that can be compared, field by field. -/
def eqFs (P : Program) (E : TypeId → List C → List C → (Bool → Option α) → Option α) (xs ys : List C) : List Field → (Bool → Option α) → Option α
  | [], K => K true
  | f :: fs, K => bif f.name == "_" then none else
    bif Nat.ble (f.offset + sz P f.type) xs.length && Nat.ble (f.offset + sz P f.type) ys.length then
      E f.type ((xs.drop f.offset).take (sz P f.type)) ((ys.drop f.offset).take (sz P f.type)) fun r => eqFs P E xs ys fs fun s => K (r && s)
    else none
def eqT (P : Program) : Nat → TypeId → List C → List C → (Bool → Option α) → Option α
  | 0, _, _, _, _ => none
  | n + 1, t, xs, ys, K => match P.underlying t with
    | some .bool => match xs, ys with
      | [.d x], [.d y] => takeB x fun a => takeB y fun b => K (a == b)
      | _, _ => none
    | some (.int k) => match xs, ys with
      | [.d x], [.d y] => takeI k x fun a => takeI k y fun b => K (a == b)
      | _, _ => none
    | some .string => match xs, ys with
      | [.d x], [.d y] => takeS x fun a => takeS y fun b => K (a.toList == b.toList)
      | _, _ => none
    | some (.struct fs) => bif P.stoodInHeld t then none else eqFs P (eqT P n) xs ys fs.toList K
    | _ => none

def binF (op : BinOp) (xt yt : TypeId) (x y : V) (K : V → Option α) : Option α :=
  match X.P.underlying xt, x, y with
  | some (.int k), .one (.d x), .one (.d y) => match op with
    | .shl => takeI k x fun a => match X.P.underlying yt with | some (.int k') => takeI k' y fun b => shI op k a b fun c => K (.one c) | _ => none
    | .shr => takeI k x fun a => match X.P.underlying yt with | some (.int k') => takeI k' y fun b => shI op k a b fun c => K (.one c) | _ => none
    | op => takeI k x fun a => takeI k y fun b => arI op k a b fun c => K (.one c)
  | some .bool, .one (.d x), .one (.d y) => takeB x fun a => takeB y fun b => cmpB op a b fun c => K (.one c)
  | some .string, .one (.d x), .one (.d y) => takeS x fun a => takeS y fun b => cmpS op a b fun c => K (.one c)
  | some (.struct _), .agg xs, .agg ys => bif X.P.eqGuardType X.P.depth xt then none else match op with
    | .eql => eqT X.P 60 xt xs ys fun r => K (.one (.d (.bool r)))
    | .neq => eqT X.P 60 xt xs ys fun r => K (.one (.d (.bool (!r))))
    | _ => none
  | _, _, _ => none

/-- A slice held against nil. -/
def nilO (P : Program) (xt : TypeId) (y : Operand) : Bool := match P.underlying xt, y with
  | some (.slice _), .const (.slice none 0 0) => true
  | _, _ => false
def nilX (x : V) (a b : Option α) : Option α := match x with
  | .one (.d x) => takeR x fun rows => br (decide (rows.length = 0)) a b
  | .one .nil0 => a
  | _ => none
def nilCmp (op : BinOp) (x : V) (K : V → Option α) : Option α := match op with
  | .eql => nilX x (K (.one .ub)) (K (.one (.d (.bool false))))
  | .neq => nilX x (K (.one .ub)) (K (.one (.d (.bool true))))
  | _ => none
def unF (op : UnOp) (xt : TypeId) (x : V) (K : V → Option α) : Option α :=
  match X.P.underlying xt, op, x with
  | some .bool, .not, .one (.d x) => takeB x fun b => K (.one (.d (.bool (!b))))
  | some (.int k), .neg, .one (.d x) => takeI k x fun a => K (.one (.d (.int k (k.wrap (0 - a)))))
  | some (.int k), .xor, .one (.d x) => takeI k x fun a => K (.one (.d (.int k (k.wrap ((BitVec.ofInt k.bits (if k.signed then -1 else k.max) ^^^ BitVec.ofInt k.bits a).toNat : Int)))))
  | _, _, _ => none

def convF (src dst : TypeId) (x : V) (K : V → Option α) : Option α :=
  match X.P.underlying src, X.P.underlying dst, x with
  | some (.int k), some (.int k'), .one (.d x) => takeI k x fun a => K (.one (.d (.int k' (k'.wrap a))))
  | some .string, some .string, .one (.d x) => takeS x fun s => K (.one (.d (.str s)))
  | _, _, _ => none

/-- An index: of kind k, of a known sign. -/
def intT (t : V) (K : Int → Option α) : Option α := match t with
  | .one (.d x) => takeN x K
  | _ => none

def field (t : TypeId) (f : Nat) : Option (Nat × TypeId) := match X.P.underlying t with
  | some (.struct fs) => match fs[f]? with
    | some g => some (g.offset, g.type)
    | none => none
  | _ => none

def loadF (t : TypeId) (a : V) (K : Eff → Option α) : Option α := bif okT X.P t then match a with
  | .one (.ptr s e off) => match fr.bx s with
    | some b => bif Nat.beq b.e e && Nat.ble (off + sz X.P t) b.cs.length then K { v := V.ofCells (isAggT X.P t) ((b.cs.drop off).take (sz X.P t)), rd := [2 * s] } else none
    | none => none
  | .one (.tptr k e i off) => match fr.tk k with
    | some x => bif Nat.beq x.e e && Nat.ble (off + sz X.P t) x.esz then destrT X.P [t] ((List.range (sz X.P t)).map fun j => (x.rows.getD i []).getD (off + j) .bad) fun ds => K { v := V.ofCells (isAggT X.P t) (ds.map .d), rd := [2 * k + 1] } else none
    | none => none
  | .one (.rptr esz row off) => bif Nat.ble (off + sz X.P t) esz then K { v := V.ofCells (isAggT X.P t) ((List.range (sz X.P t)).map fun j => .d (row.getD (off + j) .bad)) } else none
  | _ => none
  else none

/-- The cells from 'off' on replaced. -/
def splice {β : Type} (l : List β) (off : Nat) (new : List β) : List β := l.take off ++ new ++ l.drop (off + new.length)

def storeF (t : TypeId) (a : V) (v : V) (K : Eff → Option α) : Option α :=
  bif Nat.beq v.cells.length (sz X.P t) && okT X.P t && v.plain then
    match a with
    | .one (.ptr s e off) => match fr.bx s with
      | some b => bif Nat.beq b.e e && Nat.ble (off + v.cells.length) b.cs.length then
          K { v := .skip, bx := [(s, ⟨e, splice b.cs off v.cells⟩)], rd := [2 * s] }
        else none
      | none => none
    | .one (.tptr k e i off) => match fr.tk k with
      | some x => bif Nat.beq x.e e && Nat.ble (off + v.cells.length) x.esz && !x.fz then
          match toDs fr (leafs X.P t) v.cells with
          | some ds => bif (toksOf v.cells).any (Nat.beq k) then none else
            K { v := .skip, tk := (k, { x with rows := x.rows.set i (splice (x.rows.getD i []) off ds) }) :: freeze fr (toksOf v.cells), rd := (2 * k + 1) :: keysOf v.cells }
          | none => none
        else none
      | none => none
    | _ => none
  else none

def fieldAddrF (t : TypeId) (x : V) (f : Nat) (K : V → Option α) : Option α := match field X t f with
  | some (off, ft) => bif Nat.beq (sz X.P ft) 0 then none else match x with
    | .one (.ptr s e o) => K (.one (.ptr s e (o + off)))
    | .one (.tptr k e i o) => K (.one (.tptr k e i (o + off)))
    | .one (.rptr esz row o) => K (.one (.rptr esz row (o + off)))
    | _ => none
  | none => none

def fieldF (t : TypeId) (x : V) (f : Nat) (K : V → Option α) : Option α := match field X t f, x with
  | some (off, ft), .agg cs => bif Nat.ble (off + sz X.P ft) cs.length && okT X.P ft then K (V.ofCells (isAggT X.P ft) ((cs.drop off).take (sz X.P ft))) else none
  | _, _ => none

def inB (i : Int) (n : Nat) : Bool := decide (0 ≤ i ∧ i < (n : Int))

def indexAddrF (t : TypeId) (x i : V) (K : Eff → Option α) : Option α :=
  match X.P.underlying t with
  | some (.slice e) => match x with
    | .one (.own k ep) => match fr.tk k with
      | some y => bif Nat.beq y.e ep && Nat.beq y.esz (sz X.P e) then intT i fun i => br (inB i y.rows.length) (K { v := .one (.tptr k ep i.toNat 0), rd := [2 * k + 1] }) none else none
      | none => none
    | .one (.sub k ep off len) => match fr.tk k with
      | some y => bif Nat.beq y.e ep && Nat.beq y.esz (sz X.P e) then intT i fun i => br (inB i len) (K { v := .one (.tptr k ep (off + i.toNat) 0), rd := [2 * k + 1] }) none else none
      | none => none
    | .one (.d x) => bif Nat.beq (sz X.P e) 0 then none else takeL (sz X.P e) x fun rows => intT i fun i => br (inB i rows.length) (destrT X.P [e] (rows.getD i.toNat []) fun row => K { v := .one (.rptr (sz X.P e) row 0) }) none
    | _ => none
  | some (.array n e) => bif Nat.beq (sz X.P e) 0 then none else intT i fun i => br (inB i n) (match x with
    | .one (.ptr s ep o) => K { v := .one (.ptr s ep (o + i.toNat * sz X.P e)) }
    | .one (.tptr k ep j o) => K { v := .one (.tptr k ep j (o + i.toNat * sz X.P e)) }
    | .one (.rptr esz row o) => K { v := .one (.rptr esz row (o + i.toNat * sz X.P e)) }
    | _ => none) none
  | _ => none

def indexF (t : TypeId) (x i : V) (K : V → Option α) : Option α :=
  match X.P.underlying t, x with
  | some .string, .one (.d x) => takeS x fun s => intT i fun i => br (inB i s.size) (K (.one (.d (.int .u8 ((s.data.toList.getD i.toNat 0).toNat : Int))))) none
  | _, _ => none

/-- The bounds of a cut: 0 ≤ l ≤ h ≤ len. -/
def cutLo (lo : Option V) (h : Nat) (K : Nat → Option α) : Option α := match lo with
  | none => K 0
  | some l => intT l fun l => br (decide (0 ≤ l ∧ l ≤ (h : Int))) (K l.toNat) none
def cutB (lo hi : Option V) (len : Nat) (K : Nat → Nat → Option α) : Option α := match hi with
  | none => cutLo lo len fun l => K l len
  | some h => intT h fun h => br (decide (0 ≤ h ∧ h ≤ (len : Int))) (cutLo lo h.toNat fun l => K l h.toNat) none

def zeroO (o : Option Operand) : Bool := match o with
  | some (.const (.int _ 0)) => true
  | _ => false

def cutMx (lo hi mx : Option Operand) (len : Nat) (N : Option α) (K2 : Nat → Nat → Option α) : Option α := match mx with
  | none => cutB (lo.map (val fr)) (hi.map (val fr)) len K2
  | some m => match hi with
    | none => none
    | some _ => bif lo.isNone && zeroO hi && zeroO mx then N else
      intT (val fr m) fun m => br (decide (0 ≤ m ∧ m ≤ (len : Int))) (cutB (lo.map (val fr)) (hi.map (val fr)) m.toNat K2) none
def sliceF (t : TypeId) (x : V) (lo hi mx : Option Operand) (K : Eff → Option α) : Option α :=
  match X.P.underlying t with
  | some .string => match x, mx with
    | .one (.d x), none => takeS x fun s => cutB (lo.map (val fr)) (hi.map (val fr)) s.size fun l h => K { v := .one (.d (.str (s.extract l h))) }
    | _, _ => none
  | some (.slice e) => bif Nat.beq (sz X.P e) 0 then none else
    match x with
    | .one (.own k ep) => match fr.tk k with
      | some y => bif Nat.beq y.e ep && (Nat.beq y.esz (sz X.P e) || Nat.beq y.esz 0) then cutMx fr lo hi mx y.rows.length (K { v := .one .nil0, rd := [2 * k + 1] }) fun l h => K { v := .one (.sub k ep l (h - l)), rd := [2 * k + 1] } else none
      | none => none
    | .one (.sub k ep off len) => match fr.tk k with
      | some y => bif Nat.beq y.e ep && (Nat.beq y.esz (sz X.P e) || Nat.beq y.esz 0) then cutMx fr lo hi mx len (K { v := .one .nil0, rd := [2 * k + 1] }) fun l h => K { v := .one (.sub k ep (off + l) (h - l)), rd := [2 * k + 1] } else none
      | none => none
    | .one .nil0 => cutMx fr lo hi mx 0 (K { v := .one .nil0 }) fun _ _ => K { v := .one .nil0 }
    | .one (.d x) => takeL (sz X.P e) x fun rows => cutMx fr lo hi mx rows.length (K { v := .one .nil0 }) fun l h => K { v := .one (.d (.list (sz X.P e) ((rows.take h).drop l))) }
    | _ => none
  | _ => none

/-- The rows of a slice that is read. -/
def rowsF (esz : Nat) (x : V) (K : List (List D) → List Nat → Option α) : Option α := match x with
  | .one .nil0 => K [] []
  | .one (.d x) => takeL esz x fun r => K r []
  | .one (.own t e) => match fr.tk t with
    | some k => bif Nat.beq k.e e && (Nat.beq k.esz esz || k.rows.isEmpty) then K k.rows [2 * t + 1] else none
    | none => none
  | .one (.sub t e off len) => match fr.tk t with
    | some k => bif Nat.beq k.e e && (Nat.beq k.esz esz || k.rows.isEmpty) then K ((k.rows.drop off).take len) [2 * t + 1] else none
    | none => none
  | _ => none

def room : Nat := 140737488355328
/-- A type whose zero value is known. -/
def zeroOk (P : Program) (e : TypeId) : Bool := match (P.info? e).bind (·.zero) with
  | some v => Nat.beq v.cells.size (sz P e)
  | none => false

def appendF (d : Nat) (t : TypeId) (s x : V) (K : Eff → Option α) : Option α := match elemT X.P t with
  | none => none
  | some e =>
    let n := sz X.P e
    bif Nat.beq n 0 || Nat.beq (X.P.bytesOf e) 0 || !(zeroOk X.P e) then none else
    rowsF fr n x fun ys rd =>
    match s with
    | .one (.own k ep) => match fr.tk k with
      | some y => bif Nat.beq y.e ep && (Nat.beq y.et e && Nat.beq y.esz n || Nat.beq y.esz 0) then
          br (decide ((y.rows.length + ys.length) * X.P.bytesOf e ≤ room)) (K { v := .one (.own k (ep + 1)), tk := [(k, ⟨ep + 1, y.fz, e, n, y.rows ++ ys⟩)], rd := (2 * k + 1) :: rd }) none
        else none
      | none => none
    | .one .nil0 => br (decide (ys.length * X.P.bytesOf e ≤ room)) (K { v := .one (.own (key d 0) (nextT fr (key d 0))), tk := [(key d 0, ⟨nextT fr (key d 0), false, e, n, ys⟩)], rd := (2 * key d 0 + 1) :: rd }) none
    | _ => none

/-- Zero cells of a type, as data cells. -/
def zeroF (t : TypeId) (K : List C → Option α) : Option α := match (X.P.info? t).bind (·.zero) with
  | some v => bif Nat.beq v.cells.size (sz X.P t) && v.cells.toList.all oneC then K (v.cells.toList.map cOf) else none
  | none => none

/-- So many zero elements appended. -/
def appendZF (d : Nat) (t u : TypeId) (s x : V) (K : Eff → Option α) : Option α := match elemT X.P t, X.P.underlying u with
  | some e, some (.int _) =>
    let n := sz X.P e
    bif Nat.beq n 0 || Nat.beq (X.P.bytesOf e) 0 || !(zeroOk X.P e) then none else
    zeroF X e fun z => match toDs fr (leafs X.P e) z with
    | some zs => intT x fun l => match s with
      | .one (.own k ep) => match fr.tk k with
        | some y => bif Nat.beq y.e ep && (Nat.beq y.et e && Nat.beq y.esz n || Nat.beq y.esz 0) then
            br (decide (0 ≤ l ∧ (y.rows.length + l.toNat) * X.P.bytesOf e ≤ room)) (K { v := .one (.own k (ep + 1)), tk := [(k, ⟨ep + 1, y.fz, e, n, y.rows ++ List.replicate l.toNat zs⟩)], rd := [2 * k + 1] }) none
          else none
        | none => none
      | .one .nil0 => br (decide (0 ≤ l ∧ l.toNat * X.P.bytesOf e ≤ room)) (K { v := .one (.own (key d 0) (nextT fr (key d 0))), tk := [(key d 0, ⟨nextT fr (key d 0), false, e, n, List.replicate l.toNat zs⟩)], rd := [2 * key d 0 + 1] }) none
      | _ => none
    | none => none
  | _, _ => none
/-- The capacity of a slice that has none. -/
def capF (t : TypeId) (x : V) (K : Eff → Option α) : Option α := match X.P.underlying t, x with
  | some (.slice _), .one .nil0 => K { v := .one (.d (.int .i64 0)) }
  | _, _ => none
/-- An own slice made shorter. -/
def truncF (t : TypeId) (x : V) (lo hi mx : Option Operand) (K : Eff → Option α) : Option α := match elemT X.P t, x, lo, hi, mx with
  | some e, .one (.own k ep), none, some h, none => match fr.tk k with
    | some y => bif Nat.beq y.e ep && Nat.beq y.et e && Nat.beq y.esz (sz X.P e) && !(Nat.beq (sz X.P e) 0) && !y.fz then
        cutB none (some (val fr h)) y.rows.length fun _ q => K { v := .one (.own k (ep + 1)), tk := [(k, { y with e := ep + 1, rows := y.rows.take q })], rd := [2 * k + 1] } else none
    | none => none
  | _, _, _, _, _ => none

def lenF (t : TypeId) (x : V) (K : Eff → Option α) : Option α := match X.P.underlying t, x with
  | some .string, .one (.d x) => takeS x fun s => K { v := .one (.d (.int .i64 (s.size : Int))) }
  | some (.array n _), _ => K { v := .one (.d (.int .i64 (n : Int))) }
  | some (.slice _), .one .nil0 => K { v := .one (.d (.int .i64 0)) }
  | some (.slice _), .one (.d x) => takeR x fun r => K { v := .one (.d (.int .i64 (r.length : Int))) }
  | some (.slice _), .one (.own t e) => match fr.tk t with
    | some k => bif Nat.beq k.e e then K { v := .one (.d (.int .i64 (k.rows.length : Int))), rd := [2 * t + 1] } else none
    | none => none
  | some (.slice _), .one (.sub t e _ len) => match fr.tk t with
    | some k => bif Nat.beq k.e e then K { v := .one (.d (.int .i64 (len : Int))), rd := [2 * t + 1] } else none
    | none => none
  | _, _ => none

def minF (mx : Bool) (k : IntKind) (a : Int) : List V → (V → Option α) → Option α
  | [], K => K (.one (.d (.int k a)))
  | .one (.d y) :: vs, K => takeI k y fun b => minF mx k (bif mx then (if b > a then b else a) else (if b < a then b else a)) vs K
  | _, _ => none

/-- What a call is given, and where its answers by address go. -/
inductive Ref where
  | b (s e off n : Nat)
  | t (k e i off n : Nat)
def Ref.key : Ref → Nat
  | .b s .. => 2 * s
  | .t k .. => 2 * k + 1

def mkArg (v : V) (k : PK) : Option (Arg × Option Ref × List Nat) := match k with
  | .r e => match v with
    | .one (.ptr s ep off) => match fr.bx s with
      | some b => bif Nat.beq b.e ep && Nat.ble (off + sz X.P e) b.cs.length && !(Nat.beq (sz X.P e) 0) then
          match toDs fr (leafs X.P e) ((b.cs.drop off).take (sz X.P e)) with
          | some ds => some (.r ds, some (.b s ep off (sz X.P e)), toksOf ((b.cs.drop off).take (sz X.P e)))
          | none => none
        else none
      | none => none
    | .one (.tptr k ep i off) => match fr.tk k with
      | some y => bif Nat.beq y.e ep && Nat.ble (off + sz X.P e) y.esz && !(Nat.beq (sz X.P e) 0) && !y.fz then
          some (.r ((List.range (sz X.P e)).map fun j => (y.rows.getD i []).getD (off + j) .bad), some (.t k ep i off (sz X.P e)), []) else none
      | none => none
    | _ => none
  | .v t => match toDs fr (leafs X.P t) v.cells with
    | some ds => bif Nat.beq ds.length (sz X.P t) && V.fits (isAggT X.P t) v && okT X.P t then some (.v ds, none, toksOf v.cells) else none
    | none => none
  | .w => match v with
    | .one c => match toD fr c with
      | some x => some (.v [x], none, c.toks)
      | none => none
    | _ => none
  | .f g b ix => match v with
    | .one (.fn g' b' caps) => bif Nat.beq g' g && Nat.beq b' b && Nat.beq caps.length ix.length then some (.v [], none, []) else none
    | .one (.d (.fn b')) => bif Nat.beq b' b && Nat.beq ix.length 0 then some (.v [], none, []) else none
    | _ => none
  | .n => match v with
    | .one .nil0 => some (.v [], none, [])
    | _ => none
def mkArgs : List V → List PK → Option (List Arg × List Ref × List Nat)
  | [], [] => some ([], [], [])
  | v :: vs, t :: ts => match mkArg X fr v t with
    | some (a, r, k) => match mkArgs vs ts with
      | some (as, rs, ks) => some (a :: as, r.toList ++ rs, k ++ ks)
      | none => none
    | none => none
  | _, _ => none

def distinct : List Nat → Bool
  | [] => true
  | k :: ks => !(ks.any (Nat.beq k)) && distinct ks

/-- The values of a call's results, out of their cells (from number j on); pointers to new variables; own slices that are kept. -/
def resCs (d : Nat) (g : FuncId) (keepF : Bool) (r : List D) : Nat → Nat → (List C → List (Nat × Tk) → Option α) → Option α
  | _, 0, K => K [] []
  | j, n + 1, K => resCs d g keepF r (j + 1) n fun cs ks => bif keepF then (match look j (X.H g).fresh with
      | some e => takeL (sz X.P e) (r.getD j .bad) fun rows => K (.own (key d (j + 1)) (nextT fr (key d (j + 1))) :: cs) ((key d (j + 1), ⟨nextT fr (key d (j + 1)), false, e, sz X.P e, rows⟩) :: ks)
      | none => K (.d (r.getD j .bad) :: cs) ks) else K (.d (r.getD j .bad) :: cs) ks
def resV (d : Nat) (g : FuncId) (keepF : Bool) (r : List D) : Nat → List TypeId → (List V → List (Nat × Bx) → List (Nat × Tk) → Option α) → Option α
  | _, [], K => K [] [] []
  | j, t :: ts, K =>
    match isPtrT X.P t with
    | some e => bif Nat.beq (sz X.P e) 0 then none else resV d g keepF r (j + sz X.P e) ts fun vs bs ks => K (.one (.ptr (key d (j + 1)) (nextB fr (key d (j + 1))) 0) :: vs) ((key d (j + 1), ⟨nextB fr (key d (j + 1)), ((List.range (sz X.P e)).map fun i => .d (r.getD (j + i) .bad))⟩) :: bs) ks
    | none => resV d g keepF r (j + sz X.P t) ts fun vs bs ks => resCs X fr d g keepF r j (sz X.P t) fun cs ks' => K (V.ofCells (isAggT X.P t) cs :: vs) bs (ks' ++ ks)

def cellsOfTs (P : Program) (ts : List TypeId) : Nat := (ts.map fun t => match isPtrT P t with | some e => sz P e | none => sz P t).foldr (· + ·) 0

/-- Is a type made of numbers, bools and strings alone? -/
def flatF (P : Program) : Nat → TypeId → Bool
  | 0, _ => false
  | n + 1, t => match P.underlying t with
    | some .bool => true
    | some (.int _) => true
    | some .string => true
    | some (.struct fs) => fs.toList.all fun f => flatF P n f.type
    | some (.array _ e) => flatF P n e
    | _ => false
def flatT (P : Program) (t : TypeId) : Bool := flatF P 60 t

def writeB (fr : Fr) (r : List D) : Nat → List Ref → List (Nat × Bx) × List (Nat × Tk)
  | _, [] => ([], [])
  | m, .b s e off n :: rs =>
    let x := writeB fr r (m + n) rs
    match fr.bx s with
    | some b => ((s, ⟨e, splice b.cs off ((List.range n).map fun i => .d (r.getD (m + i) .bad))⟩) :: x.1, x.2)
    | none => x
  | m, .t k _ i off n :: rs =>
    let x := writeB fr r (m + n) rs
    match fr.tk k with
    | some y => (x.1, (k, { y with rows := y.rows.set i (splice (y.rows.getD i []) off ((List.range n).map fun j => r.getD (m + j) .bad)) }) :: x.2)
    | none => x

/-- What is given by its address, taken apart. -/
def destrAs (P : Program) : List PK → List Arg → (List Arg → Option α) → Option α
  | .r e :: ts, .r cs :: as, K => destrT P [e] cs fun cs => destrAs P ts as fun as => K (.r cs :: as)
  | _ :: ts, a :: as, K => destrAs P ts as fun as => K (a :: as)
  | _, as, K => K as
theorem destrAs_eq {P : Program} {x : α} : ∀ (ts : List PK) (as : List Arg) (K : List Arg → Option α), destrAs P ts as K = some x → ∀ {β : Type} (K' : List Arg → Option β), destrAs P ts as K' = K' as
  | [], as, K, h, β, K' => by cases as <;> rfl
  | _ :: _, [], K, h, β, K' => by rename_i k _; cases k <;> rfl
  | k :: ts, .v cs :: as, K, h, β, K' => by
    cases k <;> exact destrAs_eq ts as _ h _
  | k :: ts, .r cs :: as, K, h, β, K' => by
    cases k with
    | r e =>
      simp only [destrAs] at h ⊢
      have e : ∀ {γ : Type} (K' : List D → Option γ), destrT P [e] cs K' = K' cs := destrT_eq h
      rw [e] at h ⊢
      exact destrAs_eq ts as _ h _
    | _ => exact destrAs_eq ts as _ h _
/-- What the functions among the arguments have captured, as arguments of their own. -/
def capV : Cap → V
  | .p s e => .one (.ptr s e 0)
  | .d x => .one (.d x)
def eqNats : List Nat → List Nat → Bool
  | [], [] => true
  | a :: as, b :: bs => Nat.beq a b && eqNats as bs
  | _, _ => false
def range' (a : Nat) : Nat → List Nat
  | 0 => []
  | n + 1 => a :: range' (a + 1) n
def fullX : Nat → List V → List PK → Option (List V)
  | _, [], _ => some []
  | p, v :: vs, .f _ _ ix :: ks => match v with
    | .one (.fn _ _ caps) => bif eqNats ix (range' p caps.length) then (fullX (p + caps.length) vs ks).map (caps.map capV ++ ·) else none
    | .one (.d (.fn _)) => bif Nat.beq ix.length 0 then fullX p vs ks else none
    | _ => none
  | p, _ :: vs, _ :: ks => fullX p vs ks
  | _, _ :: _, [] => none
def tupX : List V → V
  | [v] => v
  | vs => .tup vs
def callF (d : Nat) (g : FuncId) (args : List V) (K : Eff → Option α) : Option α := match X.P.funcs[baseOf X.H g]? with
  | none => none
  | some fn => bif fn.body.isNone || !(Nat.beq args.length (nreal X.H g fn) && (X.H g).ext.all PK.noF) then none else match fullX args.length args (kindsOf X.P X.H g fn) with
    | none => none
    | some ex => match mkArgs X fr (args ++ ex) (kindsOf X.P X.H g fn) with
      | none => none
      | some (as, rs, ks) =>
        let rts := fn.resultTypes.toList
        let fz := bif rts.all (flatT X.P) && rs.isEmpty then [] else freeze fr ks
        bif distinct (rs.map Ref.key) && !(ks.any fun t => rs.any fun r => Nat.beq r.key (2 * t + 1)) then
          destrAs X.P (kindsOf X.P X.H g fn) as fun as => obind (X.call g as) fun r => destrT X.P (answerTs X.P rts (kindsOf X.P X.H g fn)) r fun r => resV X fr d g ((X.H X.f).keep.any (Nat.beq d)) r 0 rts fun vs bs ts =>
              let w := writeB fr r (cellsOfTs X.P rts) rs
              K { v := tupX vs, bx := bs ++ w.1, tk := ts ++ w.2 ++ fz, rd := (rs.map Ref.key) ++ ks.map (2 * · + 1) ++ bs.map (2 * ·.1) ++ ts.map (2 * ·.1 + 1) }
        else none

/-- What the model answers by itself. -/
def isExtF (P : Program) (g : FuncId) : Bool := match P.funcs[g]? with | some fn => fn.body.isNone | none => false
def two64 : Int := 18446744073709551616
/-- Words, and a carry of 0 or 1. -/
def okU64 (a b c : Int) : Bool := decide (0 ≤ a ∧ 0 ≤ b ∧ b < two64 ∧ 0 ≤ c ∧ c ≤ 1)
def u64s (l : List V) (K : Int → Int → Int → Option α) : Option α := match l with
  | [.one (.d x), .one (.d y), .one (.d z)] => takeI .u64 x fun a => takeI .u64 y fun b => takeI .u64 z fun c => br (okU64 a b c) (K a b c) none
  | _ => none
def sub64lo (a b c : Int) : Int := (a + 18446744073709551616 - b - c) % 18446744073709551616
def sub64hi (a b c : Int) : Int := if a < b + c then 1 else 0
def add64lo (a b c : Int) : Int := (a + b + c) % 18446744073709551616
def add64hi (a b c : Int) : Int := (a + b + c) / 18446744073709551616
def pairU (a b : Int) : V := .tup [.one (.d (.int .u64 a)), .one (.d (.int .u64 b))]
def extF (P : Program) (g : FuncId) (args : List V) (K : V → Option α) : Option α := match P.funcs[g]? with
  | some fn => bif fn.body.isNone && fn.origin == "" then
      bif fn.name == "math/bits.Sub64" then u64s args fun a b c => K (pairU (sub64lo a b c) (sub64hi a b c))
      else bif fn.name == "math/bits.Add64" then u64s args fun a b c => K (pairU (add64lo a b c) (add64hi a b c))
      else none
    else none
  | none => none

def builtinF (d : Nat) (b : Builtin) (argTypes : Array TypeId) (args : List V) (K : Eff → Option α) : Option α := match b with
  | .len => match argTypes[0]?, args with
    | some t, [x] => lenF X fr t x K
    | _, _ => none
  | .append => match argTypes.toList, args with
    | [t, u], [s, x] => bif Nat.beq t u then appendF X fr d t s x K else appendZF X fr d t u s x K
    | _, _ => none
  | .cap => match argTypes[0]?, args with
    | some t, [x] => capF X t x K
    | _, _ => none
  | .min => match argTypes[0]?, args with
    | some t, .one (.d x) :: vs => match X.P.underlying t with
      | some (.int k) => takeI k x fun a => minF false k a vs fun v => K { v := v }
      | _ => none
    | _, _ => none
  | .max => match argTypes[0]?, args with
    | some t, .one (.d x) :: vs => match X.P.underlying t with
      | some (.int k) => takeI k x fun a => minF true k a vs fun v => K { v := v }
      | _ => none
    | _, _ => none
  | _ => none

def fillF (place : Nat → Option (Nat × Nat)) : List C → List (Nat × V) → Option (List C)
  | cs, [] => some cs
  | cs, (i, v) :: r => match place i with
    | some (off, n) => bif Nat.beq v.cells.length n && Nat.ble (off + n) cs.length && v.plain then fillF place (splice cs off v.cells) r else none
    | none => none

def buildF (t : TypeId) (parts : List (Nat × V)) (K : V → Option α) : Option α := zeroF X t fun z => match X.P.underlying t with
  | some (.struct fs) => bif fs.toList.all (fun f => (X.P.info? f.type).isSome) then (match fillF (fun i => (fs[i]?).map fun f => (f.offset, sz X.P f.type)) z parts with
    | some cs => K (.agg cs)
    | none => none) else none
  | some (.array _ e) => bif (X.P.info? e).isSome then (match fillF (fun i => some (i * sz X.P e, sz X.P e)) z parts with
    | some cs => K (.agg cs)
    | none => none) else none
  | _ => none

/-- Cells cut into rows. -/
def chunk {β : Type} (n : Nat) : Nat → List β → List (List β)
  | 0, _ => []
  | m + 1, l => l.take n :: chunk n m (l.drop n)

def buildSliceF (d : Nat) (t : TypeId) (len : Nat) (parts : List (Nat × V)) (K : Eff → Option α) : Option α := match elemT X.P t with
  | none => none
  | some e =>
    let n := sz X.P e
    bif Nat.beq n 0 || !(Nat.ble (len * n) 16777216) then none else
    zeroF X e fun z => match fillF (fun i => some (i * n, n)) ((List.range (len * n)).map fun q => z.getD (q % n) .undef) parts with
      | some cs => match toDs fr (List.replicate len (leafs X.P e)).flatten cs with
        | some ds => bif (toksOf cs).any (Nat.beq (key d 0)) then none else K { v := .one (.own (key d 0) (nextT fr (key d 0))), tk := (key d 0, ⟨nextT fr (key d 0), false, e, n, chunk n len ds⟩) :: freeze fr (toksOf cs), rd := (2 * key d 0 + 1) :: keysOf cs }
        | none => none
      | none => none

def makeSliceF (d : Nat) (t : TypeId) (l c : V) (K : Eff → Option α) : Option α := match elemT X.P t with
  | none => none
  | some e =>
    let n := sz X.P e
    bif Nat.beq n 0 || Nat.beq (X.P.bytesOf e) 0 then none else
    zeroF X e fun z => match toDs fr (leafs X.P e) z with
      | some zs => intT l fun l => intT c fun c => br (decide (0 ≤ l ∧ l ≤ c ∧ c.toNat * X.P.bytesOf e ≤ room))
          (K { v := .one (.own (key d 0) (nextT fr (key d 0))), tk := [(key d 0, ⟨nextT fr (key d 0), false, e, n, List.replicate l.toNat zs⟩)], rd := [2 * key d 0 + 1] }) none
      | none => none

def boxF (fr : Fr) (d : Nat) (cs : List C) (K : Eff → Option α) : Option α :=
  K { v := .one (.ptr (key d 0) (nextB fr (key d 0)) 0), bx := [(key d 0, ⟨nextB fr (key d 0), cs⟩)], rd := [2 * key d 0] }

def virt (d : Nat) (g : FuncId) : FuncId := match look d (X.H X.f).spec with | some v => v | none => g
def mkId (d : Nat) (b : FuncId) : FuncId := match look d (X.H X.f).mkf with | some v => v | none => b
def capsV : List V → Option (List Cap)
  | [] => some []
  | .one (.ptr s e 0) :: vs => (capsV vs).map (.p s e :: ·)
  | .one (.d x) :: vs => (capsV vs).map (.d x :: ·)
  | _ => none
def opF (o : Oper) (K : Eff → Option α) : Option α :=
  let d := o.dst.getD 0
  match o.op with
  | .move x => K { v := val fr x }
  | .assign x => match val fr x with
    | .one .nil0 => bif (X.H X.f).nils.any (Nat.beq d) then K { v := .one (.own (key d 0) (nextT fr (key d 0))), tk := [(key d 0, ⟨nextT fr (key d 0), false, (elemT X.P o.type).getD 0, sz X.P ((elemT X.P o.type).getD 0), []⟩)], rd := [2 * key d 0 + 1] } else K { v := .one .nil0 }
    | v => K { v := v }
  | .pick c a b => match val fr c with
    | .one (.d x) => takeB x fun t => br t (K { v := val fr a }) (K { v := val fr b })
    | _ => none
  | .alloc t => zeroF X t fun z => boxF fr d z K
  | .box t x => let cs := (val fr x).cells
    bif Nat.beq cs.length (sz X.P t) && (val fr x).plain then boxF fr d cs K else none
  | .build t parts => buildF X t (parts.toList.map fun p => (p.1, val fr p.2)) fun v => K { v := v }
  | .buildSlice t n parts => buildSliceF X fr d t n (parts.toList.map fun p => (p.1, val fr p.2)) K
  | .load t a => loadF X fr t (val fr a) K
  | .store t a v => storeF X fr t (val fr a) (val fr v) K
  | .nilCheck x => match val fr x with
    | .one (.ptr s e o) => K { v := .one (.ptr s e o) }
    | .one (.tptr t e i o) => K { v := .one (.tptr t e i o) }
    | .one (.rptr n r o) => K { v := .one (.rptr n r o) }
    | _ => none
  | .binOp op xt x y yt => bif nilO X.P xt y then nilCmp op (val fr x) fun v => K { v := v } else binF X op xt yt (val fr x) (val fr y) fun v => K { v := v }
  | .unOp op xt x => unF X op xt (val fr x) fun v => K { v := v }
  | .convert src dst x => convF X src dst (val fr x) fun v => K { v := v }
  | .makeSlice t l c => makeSliceF X fr d t (val fr l) (val fr c) K
  | .slice t x lo hi mx => bif (X.H X.f).trunc.any (Nat.beq d) then truncF X fr t (val fr x) lo hi mx K else sliceF X fr t (val fr x) lo hi mx K
  | .fieldAddr t x f => fieldAddrF X t (val fr x) f fun v => K { v := v }
  | .field t x f => fieldF X t (val fr x) f fun v => K { v := v }
  | .indexAddr t x i => indexAddrF X fr t (val fr x) (val fr i) K
  | .index t x i => indexF X t (val fr x) (val fr i) fun v => K { v := v }
  | .extract t i => match val fr t with
    | .tup vs => match vs[i]? with
      | some v => K { v := v }
      | none => none
    | _ => none
  | .call c => match c.callee with
    | .builtin b => builtinF X fr d b c.argTypes (c.args.toList.map (val fr)) K
    | .value (.func g) => bif isExtF X.P g then extF X.P g (c.args.toList.map (val fr)) fun v => K { v := v } else
        bif Nat.beq (baseOf X.H (virt X d g)) g then callF X fr d (virt X d g) (c.args.toList.map (val fr)) K else none
    | .value (.tmp t) => match fr.tm t with
      | .one (.fn g b caps) => bif Nat.beq (baseOf X.H g) b && !(isExtF X.P b) then callF X fr d g (c.args.toList.map (val fr) ++ caps.map capV) K else none
      | _ => none
    | _ => none
  | .makeFunc (.func b) first captured => bif Nat.beq first.size 0 && Nat.beq (baseOf X.H (mkId X d b)) b then match capsV (captured.toList.map (val fr)) with
      | some caps => K { v := .one (.fn (mkId X d b) b caps) }
      | none => none
    else none
  | _ => none
end ops

section code
variable (X : Env)
abbrev R := Option (List D)

/-- What an operation looks at and what it writes: temporaries by odd numbers, boxes and tokens by even ones. -/
def entGo (all : Array Oper) (o : Oper) (n : Nat) (x : Eff) : Nat × List Nat × List Nat :=
  (n, (o.looksAt all).map (2 * · + 1) ++ x.rd.map (2 * ·), o.dst.toList.map (2 * · + 1) ++ (x.bx.map (4 * ·.1) ++ x.tk.map (4 * ·.1 + 2)))
def entNo (all : Array Oper) (o : Oper) (n : Nat) : Nat × List Nat × List Nat := (n, (o.looksAt all).map (2 * · + 1), o.dst.toList.map (2 * · + 1))

/-- A region's operations, each carried out if its guard says so; what is known of a guard is written into its temporary. -/
def opsF (all : Array Oper) : List Oper → Fr → List (Nat × List Nat × List Nat) → (Fr → List (Nat × List Nat × List Nat) → R) → R
  | [], fr, acc, K => K fr acc
  | o :: rest, fr, acc, K =>
    let go := fun (fr : Fr) => opF X fr o fun x => opsF all rest (fr.app o.dst x) (entGo all o acc.length x :: acc) K
    let no := fun (fr : Fr) => opsF all rest (fr.put o.dst .skip) (entNo all o acc.length :: acc) K
    match o.guard with
    | none => go fr
    | some (j, want) => match (all[j]?).bind (·.dst) with
      | none => no fr
      | some t => match fr.tm t with
        | .skip => no fr
        | .one (.d x) => takeB x fun b => br b
            (bif want then go { fr with tm := upd fr.tm t (.one (.d (.bool true))) } else no { fr with tm := upd fr.tm t (.one (.d (.bool true))) })
            (bif want then no { fr with tm := upd fr.tm t (.one (.d (.bool false))) } else go { fr with tm := upd fr.tm t (.one (.d (.bool false))) })
        | _ => none

/-- May the operations come in any order that the edges allow? Those of which none waits for the other look at nothing that the other writes, and write nothing alike. -/
def apartB (a b : Nat × List Nat × List Nat) : Bool := !(a.2.2.any fun k => b.2.1.any (Nat.beq k) || b.2.2.any (Nat.beq k)) && !(b.2.2.any fun k => a.2.1.any (Nat.beq k))
def orderOk (bef : List Nat) : List (Nat × List Nat × List Nat) → Bool
  | [] => true
  | x :: xs => (xs.all fun y => (bef.getD x.1 0).testBit y.1 || apartB x y) && orderOk bef xs
/-- For each operation, those that must come before it. -/
def befs : List Oper → List Nat → List Nat
  | [], acc => acc
  | o :: os, acc => befs os (acc ++ [o.after.toList.foldl (fun s e => bif Region.binds .any e then s ||| 2 ^ e.on ||| acc.getD e.on 0 else s) 0])
def edgesOk : Nat → List Oper → Bool
  | _, [] => true
  | i, o :: os => o.after.toList.all (fun e => !(Region.binds .any e) || Nat.ble (e.on + 1) i) && edgesOk (i + 1) os

def regionF (ops : Array Oper) (draw : Bool) (fr : Fr) (K : Fr → R) : R :=
  bif ops.toList.all (fun o => match o.dst with | some d => Nat.ble (d + 1) X.nt | none => true) then opsF X ops ops.toList fr [] (fun fr acc => bif draw then (bif edgesOk 0 ops.toList && orderOk (befs ops.toList []) acc then K fr else none) else K fr) else none

def liveAt (l : List Nat) : Nat → Bool := fun k => l.any (Nat.beq k)
/-- A cell at a cut: what lives on keeps its meaning, with every count begun anew; all else is forgotten. -/
def normCaps (fr : Fr) (h : Live) : List Cap → Option (List Cap)
  | [] => some []
  | .d x :: cs => (normCaps fr h cs).map (.d x :: ·)
  | .p s e :: cs => match fr.bx s with
    | some b => bif Nat.beq b.e e && liveAt h.bx s then (normCaps fr h cs).map (.p s 0 :: ·) else none
    | none => none
def normC (fr : Fr) (h : Live) (rn : List (Nat × Nat)) : C → C
  | .d x => .d x
  | .own t e => match fr.tk t with | some k => bif Nat.beq k.e e then (match look t rn with | some K => .own K 0 | none => .undef) else .undef | none => .undef
  | .sub t e off len => match fr.tk t with | some k => bif Nat.beq k.e e then (match look t rn with | some K => .sub K 0 off len | none => .undef) else .undef | none => .undef
  | .nil0 => .nil0
  | .ptr s e off => match fr.bx s with | some b => bif Nat.beq b.e e && liveAt h.bx s then .ptr s 0 off else .undef | none => .undef
  | .tptr t e i off => match fr.tk t with | some k => bif Nat.beq k.e e then (match look t rn with | some K => .tptr K 0 i off | none => .undef) else .undef | none => .undef
  | .rptr n r o => .rptr n r o
  | .fn g b cs => match normCaps fr h cs with | some cs => .fn g b cs | none => .undef
  | .ub => .ub
  | .undef => .undef
def normV (fr : Fr) (h : Live) (rn : List (Nat × Nat)) : V → V
  | .one c => .one (normC fr h rn c)
  | .agg cs => .agg (cs.map (normC fr h rn))
  | .tup _ => .any
  | .skip => .any
  | .any => .any
/-- The token that is called K from here on: what the variable holds that is named beside it. -/
def srcT (fr : Fr) (h : Live) (K : Nat) : Nat := match look K h.ren with
  | some t => match fr.tm t with
    | .one (.own k _) => k
    | .one (.sub k _ _ _) => k
    | _ => K
  | none => K
def pinSites : Nat → List PK → List Nat
  | _, [] => []
  | i, k :: ks => match k with
    | .r _ => key i 0 :: pinSites (i + 1) ks
    | _ => pinSites (i + 1) ks
def pinsOf : List Nat := match X.fn with
  | some fn => pinSites 0 (kindsOf X.P X.H X.f fn)
  | none => []
def canon0 (fr : Fr) (h : Live) : Option Lv :=
  bif (pinsOf X).all (fun s => liveAt h.bx s && (match fr.bx s with | some b => Nat.beq b.e 0 | none => false)) && h.bx.all (fun s => (fr.bx s).isSome) && h.tk.all (fun t => (fr.tk (srcT fr h t)).isSome) && distinct (h.tk.map (srcT fr h)) then
    let rn := h.tk.map fun K => (srcT fr h K, K)
    some ⟨h.tm.map fun t => normV fr h rn (fr.tm t), h.bx.map fun s => ((fr.bx s).map fun b => b.cs.map (normC fr h rn)).getD [], h.tk.filterMap fun t => (fr.tk (srcT fr h t)).map fun k => { k with e := 0 }⟩
  else none
/-- Nil slices as data of their kind; those that grow later as new tokens. -/
def fixC (k : LK) (c : C) : C := match c with
  | .nil0 => (match k with | .l e => .d (.list e []) | _ => .nil0)
  | c => c
def fixCs : List LK → List C → List C
  | _, [] => []
  | ks, c :: cs => fixC (ks.headD .a) c :: fixCs ks.tail cs
def fixV (ks : List LK) : V → V
  | .one c => .one (fixC (ks.headD .a) c)
  | .agg cs => .agg (fixCs ks cs)
  | v => v
def fixTm (P : Program) (h : Live) (t : Nat) (v : V) : V := match look t h.kt with | some y => fixV (leafs P y) v | none => v
def fixBx (P : Program) (h : Live) (s : Nat) (cs : List C) : List C := match look s h.kb with | some y => fixCs (leafs P y) cs | none => cs
def fixFr (P : Program) (h : Live) (fr : Fr) : Fr :=
  { fr with tm := fun t => fixTm P h t (fr.tm t), bx := fun s => (fr.bx s).map fun b => ⟨b.e, fixBx P h s b.cs⟩ }
def nilTok (P : Program) (x : Nat × Nat × Nat × TypeId) (fr : Fr) : Fr := match fr.bx x.1 with
  | some b => match b.cs[x.2.1]? with
    | some .nil0 => { fr with tk := upd fr.tk x.2.2.1 (some ⟨nextT fr x.2.2.1, false, x.2.2.2, sz P x.2.2.2, []⟩), bx := upd fr.bx x.1 (some ⟨b.e, b.cs.set x.2.1 (.own x.2.2.1 (nextT fr x.2.2.1))⟩) }
    | _ => fr
  | none => fr
def nilToks (P : Program) : List (Nat × Nat × Nat × TypeId) → Fr → Fr
  | [], fr => fr
  | x :: xs, fr => nilToks P xs (nilTok P x fr)
def prep (P : Program) (h : Live) (fr : Fr) : Fr := fixFr P h (nilToks P h.nb fr)
/-- With what is written no more from here on. -/
def canon (fr : Fr) (h : Live) : Option Lv := canon0 X { prep X.P h fr with tk := upds (prep X.P h fr).tk (freeze (prep X.P h fr) h.fz) } h
def zipL {β : Type} (d : β) : List Nat → List β → Nat → β
  | k :: ks, v :: vs => upd (zipL d ks vs) k v
  | _, _ => fun _ => d
def Fr.ofLv (h : Live) (l : Lv) : Fr :=
  ⟨zipL .any h.tm l.tm, zipL none h.bx (l.bx.map fun cs => some ⟨0, cs⟩), zipL none h.tk (l.tk.map some)⟩

structure Ks where
  nx : Fr → R
  ex : Nat → Fr → R
  rt : Fr → R


def splitB (fr : Fr) (c : Operand) (kt kf : Fr → R) : R := match c with
  | .const (.bool b) => br b (kt fr) (kf fr)
  | .tmp t => match fr.tm t with
    | .one (.d x) => takeB x fun b => br b (kt { fr with tm := upd fr.tm t (.one (.d (.bool true))) }) (kf { fr with tm := upd fr.tm t (.one (.d (.bool false))) })
    | .one .ub => both (kt { fr with tm := upd fr.tm t (.one (.d (.bool true))) }) (kf { fr with tm := upd fr.tm t (.one (.d (.bool false))) })
    | _ => none
  | _ => none

/-- Code from its begin on, at place p. -/
def ev : Nat → Code → Fr → Ks → R
  | _, .skip, fr, K => K.nx fr
  | p, .region _ ops draw, fr, K => match look p (X.H X.f).cuts with
    | some h => match canon X fr h with
      | some l => X.kont p l
      | none => none
    | none => regionF X ops draw fr K.nx
  | p, .seq a b, fr, K => ev (2 * p) a fr { K with nx := fun fr => ev (2 * p + 1) b fr K }
  | p, .cond c a b, fr, K => splitB fr c (fun fr => ev (2 * p) a fr K) (fun fr => ev (2 * p + 1) b fr K)
  | p, .block id a, fr, K => ev (2 * p) a fr { K with ex := fun i fr => bif Nat.beq i id then K.nx fr else K.ex i fr }
  | p, .loop a, fr, K => ev (2 * p) a fr { K with nx := fun _ => none }
  | p, .scope a, fr, K => ev (2 * p) a fr K
  | _, .exit id, fr, K => K.ex id fr
  | _, .ret, fr, K => K.rt fr
  | _, _, _, _ => none

/-- Code from the region at place 'p' (its digits: 'bits') on. -/
def evAt : List Bool → Nat → Code → Fr → Ks → R
  | [], _, .region _ ops draw, fr, K => regionF X ops draw fr K.nx
  | false :: bs, p, .seq a b, fr, K => evAt bs (2 * p) a fr { K with nx := fun fr => ev X (2 * p + 1) b fr K }
  | true :: bs, p, .seq _ b, fr, K => evAt bs (2 * p + 1) b fr K
  | false :: bs, p, .cond _ a _, fr, K => evAt bs (2 * p) a fr K
  | true :: bs, p, .cond _ _ b, fr, K => evAt bs (2 * p + 1) b fr K
  | false :: bs, p, .block id a, fr, K => evAt bs (2 * p) a fr { K with ex := fun i fr => bif Nat.beq i id then K.nx fr else K.ex i fr }
  | false :: bs, p, .loop a, fr, K => evAt bs (2 * p) a fr { K with nx := fun fr => ev X (2 * p) a fr { K with nx := fun _ => none } }
  | false :: bs, p, .scope a, fr, K => evAt bs (2 * p) a fr K
  | _, _, _, _, _ => none

def bitsF : Nat → Nat → List Bool → List Bool
  | 0, _, acc => acc
  | n + 1, p, acc => bif Nat.ble p 1 then acc else bitsF n (p / 2) (Nat.beq (p % 2) 1 :: acc)
def bits (p : Nat) : List Bool := bitsF p p []

/-- What a function is entered with. -/
def capOf (all : List Arg) (ks : List PK) (q : Nat) : Option Cap := match all[q]?, ks[q]? with
  | some (.r _), some (.r _) => some (.p (key q 0) 0)
  | some (.v [x]), some .w => some (.d x)
  | _, _ => none
def capsOf (all : List Arg) (ks : List PK) : List Nat → Option (List Cap)
  | [] => some []
  | q :: qs => match capOf all ks q with
    | some c => (capsOf all ks qs).map (c :: ·)
    | none => none
def entV (all : List Arg) (allk : List PK) : PK → List D → Option V
  | .v t, cs => bif Nat.beq cs.length (sz X.P t) then some (V.ofCells (isAggT X.P t) (cs.map .d)) else none
  | .w, [x] => some (.one (.d x))
  | .f g b ix, [] => (capsOf all allk ix).map fun c => .one (.fn g b c)
  | .n, [] => some (.one .nil0)
  | _, _ => none
def tmE (nr : Nat) (fr : Fr) (i : Nat) (v : V) : Fr := bif Nat.ble (i + 1) nr then { fr with tm := upd fr.tm i v } else fr
def enterF (all : List Arg) (allk : List PK) (nr : Nat) : Nat → List Arg → List PK → Fr → Option Fr
  | _, [], [], fr => some fr
  | i, .v cs :: as, k :: ks, fr => match entV X all allk k cs with
    | some v => enterF all allk nr (i + 1) as ks (tmE nr fr i v)
    | none => none
  | i, .r cs :: as, .r e :: ks, fr => bif Nat.beq cs.length (sz X.P e) && !(Nat.beq cs.length 0) then
      enterF all allk nr (i + 1) as ks { tmE nr fr i (.one (.ptr (key i 0) 0 0)) with bx := upd fr.bx (key i 0) (some ⟨0, cs.map .d⟩) } else none
  | _, _, _, _ => none

def fr0 : Fr := ⟨fun _ => .skip, fun _ => none, fun _ => none⟩

/-- The cells of the results: pointers by the variables that they lead to. -/
def resOne (fr : Fr) : ResultVar → Option V
  | .tmp x => some (fr.tm x)
  | .cell a u => match loadF X fr u (fr.tm a) some with
    | some z => some z.v
    | none => none
def resCells (fr : Fr) : List ResultVar → List TypeId → Option (List C)
  | [], [] => some []
  | r :: rs, t :: ts => match isPtrT X.P t with
    | some e => match r with
      | .tmp x => match fr.tm x with
        | .one (.ptr s ep 0) => match fr.bx s with
          | some b => bif Nat.beq b.e ep && Nat.beq b.cs.length (sz X.P e) && !(Nat.beq (sz X.P e) 0) then (resCells fr rs ts).map (b.cs ++ ·) else none
          | none => none
        | _ => none
      | .cell _ _ => none
    | none => match resOne X fr r with
      | some v => bif Nat.beq v.cells.length (sz X.P t) && V.fits (isAggT X.P t) v && okT X.P t then (resCells fr rs ts).map (v.cells ++ ·) else none
      | none => none
  | _, _ => none
def ptrSites (fr : Fr) : List ResultVar → List TypeId → List Nat
  | r :: rs, t :: ts => (match isPtrT X.P t, r with
    | some _, .tmp x => (match fr.tm x with | .one (.ptr s _ _) => [s] | _ => [])
    | _, _ => []) ++ ptrSites fr rs ts
  | _, _ => []

def refCells (P : Program) (fr : Fr) : Nat → List PK → Option (List C)
  | _, [] => some []
  | i, k :: ks => match k with
    | .r e => match fr.bx (key i 0) with
      | some b => bif Nat.beq b.e 0 && Nat.beq b.cs.length (sz P e) then (refCells P fr (i + 1) ks).map (b.cs ++ ·) else none
      | none => none
    | _ => refCells P fr (i + 1) ks

/-- Which cells of the results are values, which lie behind a pointer. -/
def valPos (P : Program) : List TypeId → List Bool
  | [] => []
  | t :: ts => (match isPtrT P t with | some e => List.replicate (sz P e) false | none => List.replicate (sz P t) true) ++ valPos P ts
/-- Own slices among the result's cells are whole, not shared, each once. -/
def freshOk (P : Program) (fr : Fr) (pos : List Bool) (cs : List C) (fresh : List (Nat × TypeId)) : Bool :=
  fresh.all fun j => (match pos[j.1]? with | some b => b | none => false) && match cs[j.1]? with
    | some .nil0 => true
    | some (.own t e) => (match fr.tk t with | some k => Nat.beq k.e e && !k.fz && (Nat.beq k.et j.2 && Nat.beq k.esz (sz P j.2) || Nat.beq k.esz 0) | none => false) && Nat.beq ((toksOf cs).filter (Nat.beq t)).length 1
    | _ => false

def retF (fn : Func) (fr : Fr) : R := match resCells X fr fn.results.toList fn.resultTypes.toList with
  | none => none
  | some cs => match refCells X.P fr 0 (kindsOf X.P X.H X.f fn) with
    | none => none
    | some rs =>
      let ps := ptrSites X fr fn.results.toList fn.resultTypes.toList
      bif freshOk X.P fr (valPos X.P fn.resultTypes.toList) (cs ++ rs) (X.H X.f).fresh && distinct (ps ++ (List.range (kindsOf X.P X.H X.f fn).length).map fun i => key i 0) then (match toDs fr ((answerTs X.P fn.resultTypes.toList (kindsOf X.P X.H X.f fn)).flatMap (leafs X.P)) (cs ++ rs) with
        | some ds => bif fn.resultTypes.toList.all (flatT X.P) && (kindsOf X.P X.H X.f fn).all (fun k => k.ref.isNone) then scAll ds some else some ds
        | none => none) else none

def ksOf (fn : Func) : Ks := ⟨fun fr => retF X fn fr, fun _ _ => none, fun fr => retF X fn fr⟩

def body (args : List Arg) : R := match X.fn with
  | some fn => bif Nat.beq fn.nfree (X.H X.f).free.length then match fn.body, enterF X args (kindsOf X.P X.H X.f fn) (nreal X.H X.f fn) 0 args (kindsOf X.P X.H X.f fn) fr0 with
    | some c, some fr => ev X 1 c fr (ksOf X fn)
    | _, _ => none else none
  | none => none
def start (args : List Arg) : R := match (X.H X.f).orc with
  | some o => o.run X.call args
  | none => body X args
def bodyAt (p : Nat) (l : Lv) : R := match X.fn, look p (X.H X.f).cuts with
  | some fn, some h => match fn.body with
    | some c => evAt X (bits p) 1 c (Fr.ofLv h l) (ksOf X fn)
    | none => none
  | _, _ => none
end code

/-- The evaluator with so many calls and jumps to go. -/
def run (P : Program) (H : FuncId → Hints) : Nat → FuncId → Option Nat → List Arg → Lv → R
  | 0, _, _, _, _ => none
  | n + 1, f, q, as, l =>
    let X : Env := ⟨P, H, fun g as => run P H n g none as ⟨[], [], []⟩, fun p l => run P H n f (some p) [] l, f⟩
    match q with
    | none => start X as
    | some p => bodyAt X p l

end
end Go.Vm

/- What the evaluator's values mean in memory, and that they go on meaning it while memory grows and other places are written. -/
set_option linter.unusedVariables false
set_option linter.unusedSimpArgs false
namespace Go.Vm

abbrev Pl := Nat → Nat → Prop
abbrev at_ (k o : Nat) : Addr := ⟨k, o, none⟩
theorem at_add (k o n : Nat) : (at_ k o).add n = at_ k (o + n) := by unfold Addr.add; split <;> simp_all

theorem oneC_eq (v : Value) : oneC v = v.oneCell' := by cases v <;> rfl

/-! ### What stays as it was -/
def KeepObj (S : Nat → Prop) (o o' : Option Obj) : Prop :=
  o' = o ∨ ∃ c c' t fz, o = some (.cells c t fz) ∧ o' = some (.cells c' t fz) ∧ c'.size = c.size ∧ ∀ j, ¬ S j → c'[j]? = c[j]?
structure Keep (S : Pl) (w w' : World) : Prop where
  os : w'.os = w.os
  tape : w'.tape = w.tape
  output : w'.output = w.output
  size : w.heap.size ≤ w'.heap.size
  blk : ∀ k, k < w.heap.size → KeepObj (S k) w.heap[k]? w'.heap[k]?

theorem Keep.refl (S : Pl) (w : World) : Keep S w w := ⟨rfl, rfl, rfl, Nat.le_refl _, fun _ _ => .inl rfl⟩
theorem KeepObj.trans {S : Nat → Prop} {a b c : Option Obj} (h : KeepObj S a b) (k : KeepObj S b c) : KeepObj S a c := by
  rcases h with rfl | ⟨x, y, t, fz, rfl, rfl, h1, h2⟩
  · exact k
  · rcases k with rfl | ⟨x', y', t', fz', he, rfl, k1, k2⟩
    · exact .inr ⟨x, y, t, fz, rfl, rfl, h1, h2⟩
    · injection he with he; injection he with he1 he2 he3
      subst he1 he2 he3
      exact .inr ⟨x, y', t, fz, rfl, rfl, k1.trans h1, fun j hj => (k2 j hj).trans (h2 j hj)⟩
theorem KeepObj.mono {S S' : Nat → Prop} {a b : Option Obj} (h : KeepObj S a b) (hs : ∀ j, S j → S' j) : KeepObj S' a b := by
  rcases h with h | ⟨x, y, t, fz, h1, h2, h3, h4⟩
  · exact .inl h
  · exact .inr ⟨x, y, t, fz, h1, h2, h3, fun j hj => h4 j fun hh => hj (hs j hh)⟩
/-- Two steps; what the second one writes lies in new blocks or where writing is allowed. -/
theorem Keep.trans {S T : Pl} {a b c : World} (h : Keep S a b) (k : Keep T b c) (hT : ∀ i o, i < a.heap.size → T i o → S i o) : Keep S a c :=
  ⟨k.os.trans h.os, k.tape.trans h.tape, k.output.trans h.output, Nat.le_trans h.size k.size, fun i hi => (h.blk i hi).trans ((k.blk i (Nat.lt_of_lt_of_le hi h.size)).mono fun o ho => hT i o hi ho)⟩
theorem Keep.mono {S T : Pl} {a b : World} (h : Keep S a b) (hS : ∀ i o, i < a.heap.size → S i o → T i o) : Keep T a b := ⟨h.os, h.tape, h.output, h.size, fun i hi => (h.blk i hi).mono fun o => hS i o hi⟩
theorem KeepObj.cell {S : Nat → Prop} {w w' : World} {k o : Nat} (h : KeepObj S w.heap[k]? w'.heap[k]?) (ho : ¬ S o) : w'.cell? (at_ k o) = w.cell? (at_ k o) := by
  unfold World.cell?
  rcases h with h | ⟨c, c', t, fz, h1, h2, h3, h4⟩
  · simp only [h]
  · simp only [h1, h2]
    simp [h4 o ho]
theorem Keep.cell {S : Pl} {w w' : World} (h : Keep S w w') {k o : Nat} (hk : k < w.heap.size) (ho : ¬ S k o) : w'.cell? (at_ k o) = w.cell? (at_ k o) := (h.blk k hk).cell ho
theorem cell_lt {w : World} {k o : Nat} {v : Value} (h : w.cell? (at_ k o) = some v) : k < w.heap.size := World.block_lt_of_cell? w (at_ k o) h
theorem Keep.cell_some {S : Pl} {w w' : World} (h : Keep S w w') {k o : Nat} {v : Value} (hc : w.cell? (at_ k o) = some v) (ho : ¬ S k o) : w'.cell? (at_ k o) = some v := (h.cell (cell_lt hc) ho).trans hc
theorem Keep.frozen {S : Pl} {w w' : World} (h : Keep S w w') {k o : Nat} (hk : k < w.heap.size) : w'.frozen? (at_ k o) = w.frozen? (at_ k o) := by
  unfold World.frozen?
  rcases h.blk k hk with h | ⟨c, c', t, fz, h1, h2, _⟩
  · simp only [h]
  · simp only [h1, h2]
theorem Keep.alloc (S : Pl) (w : World) (o : Obj) : Keep S w (w.alloc o) := ⟨rfl, rfl, rfl, by simp, fun k hk => .inl (RowKit.Below.heap_alloc w o k hk)⟩
theorem Keep.drew (S : Pl) (w : World) : Keep S w w.drew := ⟨rfl, rfl, rfl, Nat.le_refl _, fun _ _ => .inl rfl⟩
theorem Keep.grown {S : Pl} {w w' : World} {row : Option Nat} (h : w.grownBy w' row) (hr : ∀ k, row = some k → w.heap.size ≤ k) : Keep S w w' :=
  ⟨h.os, h.tape, h.output, h.size, fun k hk => .inl (h.block k hk fun e => by have := hr k e.symm; omega)⟩

/-! ### Data -/
inductive Rd (w : World) (Im : Pl) : D → Value → Prop
  | bool (b : Bool) : Rd w Im (.bool b) (.bool b)
  | int (k : IntKind) (n : Int) : Rd w Im (.int k n) (.int k n)
  | str (s : ByteArray) : Rd w Im (.str s) (.string s)
  | fn (f : FuncId) : Rd w Im (.fn f) (.func (.func f) #[] #[])
  | nilp : Rd w Im .nilp (.pointer none)
  | list (esz : Nat) (rows : List (List D)) (A : Option Addr) (c : Nat) (vals : Nat → Value) (hc : rows.length ≤ c)
      (hl : ∀ row ∈ rows, row.length = esz)
      (ha : rows ≠ [] → ∃ g o, A = some (at_ g o) ∧ ∀ j, j < rows.length * esz → Im g (o + j) ∧ w.cell? (at_ g (o + j)) = some (vals j))
      (hr : ∀ i row, rows[i]? = some row → ∀ j d, row[j]? = some d → Rd w Im d (vals (i * esz + j))) : Rd w Im (.list esz rows) (.slice A rows.length c)

theorem Rd.one {w : World} {Im : Pl} {d : D} {v : Value} (h : Rd w Im d v) : oneC v = true := by cases h <;> rfl
theorem row_in {rows : List (List D)} {esz i j : Nat} {row : List D} {d : D} (hl : ∀ row ∈ rows, row.length = esz) (hi : rows[i]? = some row) (hj : row[j]? = some d) : i < rows.length ∧ j < esz ∧ i * esz + j < rows.length * esz := by
  have h1 := (List.getElem?_eq_some_iff.1 hi).1
  have h2 := (List.getElem?_eq_some_iff.1 hj).1
  have h3 := hl row (List.mem_of_getElem? hi)
  refine ⟨h1, by omega, ?_⟩
  have : i * esz + esz ≤ rows.length * esz := by rw [← Nat.succ_mul]; exact Nat.mul_le_mul_right _ h1
  omega
theorem Rd.step {w w' : World} {Im Im' : Pl} {d : D} {v : Value} (h : Rd w Im d v) (hI : ∀ k o, Im k o → Im' k o) (hw : ∀ k o, Im k o → w'.cell? (at_ k o) = w.cell? (at_ k o)) : Rd w' Im' d v := by
  induction h with
  | bool b => exact .bool b
  | int k n => exact .int k n
  | str s => exact .str s
  | fn f => exact .fn f
  | nilp => exact .nilp
  | list esz rows A c vals hc hl ha hr ih =>
    refine .list esz rows A c vals hc hl (fun hn => ?_) fun i row hi j d hj => ih i row hi j d hj
    obtain ⟨g, o, rfl, h⟩ := ha hn
    exact ⟨g, o, rfl, fun j hj => ⟨hI _ _ (h j hj).1, (hw _ _ (h j hj).1).trans (h j hj).2⟩⟩

/-! ### Frames -/
inductive Own where
  | none
  | b (s : Nat)
  | t (k : Nat)
/-- Where boxes lie, which slice a token stands for, which block it owns; whose a place is; which places are written no more. -/
structure As where
  Im : Pl
  β : Nat → Addr
  τ : Nat → Value
  ω : Nat → Option Nat
  own : Nat → Nat → Own

def CapR (fr : Fr) (w : World) (A : As) : Cap → Value → Prop
  | .p s e, v => (∃ g o, v = .pointer (some (at_ g o))) ∧ ∃ b, fr.bx s = some b ∧ e ≤ b.e ∧ (e = b.e → v = .pointer (some (at_ (A.β s).block ((A.β s).off + 0))))
  | .d x, v => Rd w A.Im x v
def RC' (fr : Fr) (w : World) (A : As) : C → Value → Prop
  | .d x, v => Rd w A.Im x v
  | .own t e, v => ∃ k, fr.tk t = some k ∧ e ≤ k.e ∧ (e = k.e → v = A.τ t)
  | .sub t e off len, v => ∃ k, fr.tk t = some k ∧ e ≤ k.e ∧ (e = k.e → off + len ≤ k.rows.length ∧ ∃ a c, v = .slice a len c ∧ len ≤ c ∧ (0 < len → ∃ g, A.ω t = some g ∧ a = some (at_ g (off * k.esz))))
  | .nil0, v => ∃ a, v = .slice a 0 0
  | .ptr s e off, v => (∃ g o, v = .pointer (some (at_ g o))) ∧ ∃ b, fr.bx s = some b ∧ e ≤ b.e ∧ (e = b.e → v = .pointer (some (at_ (A.β s).block ((A.β s).off + off))))
  | .tptr t e i off, v => (∃ g o, v = .pointer (some (at_ g o))) ∧ ∃ k, fr.tk t = some k ∧ e ≤ k.e ∧ (e = k.e → i < k.rows.length ∧ ∃ g, A.ω t = some g ∧ v = .pointer (some (at_ g (i * k.esz + off))))
  | .rptr esz row off, v => row.length = esz ∧ ∃ g o, v = .pointer (some (at_ g (o + off))) ∧ ∀ j d, row[j]? = some d → ∃ u, A.Im g (o + j) ∧ w.cell? (at_ g (o + j)) = some u ∧ Rd w A.Im d u
  | .fn _ b caps, v => ∃ us : List Value, v = .func (.func b) #[] us.toArray ∧ us.length = caps.length ∧ ∀ (j : Nat) (c : Cap) (u : Value), caps[j]? = some c → us[j]? = some u → CapR fr w A c u
  | .ub, v => ∃ b, v = .bool b
  | .undef, _ => True
def RC (fr : Fr) (w : World) (A : As) (c : C) (v : Value) : Prop := oneC v = true ∧ RC' fr w A c v
def RCs (fr : Fr) (w : World) (A : As) (cs : List C) (vs : List Value) : Prop := vs.length = cs.length ∧ ∀ (j : Nat) (c : C) (v : Value), cs[j]? = some c → vs[j]? = some v → RC fr w A c v
inductive RV (fr : Fr) (w : World) (A : As) : V → Value → Prop
  | one (c : C) (v : Value) (h : RC fr w A c v) : RV fr w A (.one c) v
  | agg (cs : List C) (vs : Array Value) (h : RCs fr w A cs vs.toList) : RV fr w A (.agg cs) (.agg vs)
  | tup (xs : List V) (vs : Array Value) (hl : vs.size = xs.length) (h : ∀ (j : Nat) (x : V) (v : Value), xs[j]? = some x → vs[j]? = some v → RV fr w A x v) : RV fr w A (.tup xs) (.tuple vs)
  | skip : RV fr w A .skip Go.undef
  | any (v : Value) : RV fr w A .any v

def TokRel (w : World) (Im : Pl) (B : Nat) (k : Tk) (v : Value) : Option Nat → Prop
  | none => k.rows = [] ∧ ∃ a, v = .slice a 0 0
  | some g => 0 < k.esz ∧ B ≤ g ∧ (∀ row ∈ k.rows, row.length = k.esz) ∧ ∃ cap cur, v = .slice (some (at_ g 0)) k.rows.length cap ∧ w.heap[g]? = some (.cells cur k.et (0, 0)) ∧ k.rows.length ≤ cap ∧ cap ≤ maxLen ∧
      cur.size = cap * k.esz ∧ ∀ i row, k.rows[i]? = some row → ∀ j d, row[j]? = some d → ∃ u, cur[i * k.esz + j]? = some u ∧ Rd w Im d u

/-- What a call may write of what was there, and what of it is written no more. -/
structure Sp where
  S : Pl
  E : Pl
  pin : Nat → Option Addr
/-- Box 's' as the frame has it. -/
structure BoxOk (w0 : World) (S : Sp) (fr : Fr) (w : World) (A : As) (s : Nat) (b : Bx) : Prop where
  cell : ∀ (j : Nat) (c : C), b.cs[j]? = some c → ∃ v, w.cell? (at_ (A.β s).block ((A.β s).off + j)) = some v ∧ RC fr w A c v
  free : ∀ j, j < b.cs.length → w.frozen? (at_ (A.β s).block ((A.β s).off + j)) = false
  own : ∀ j, j < b.cs.length → A.own (A.β s).block ((A.β s).off + j) = .b s
  may : ∀ j, j < b.cs.length → w0.heap.size ≤ (A.β s).block ∨ S.S (A.β s).block ((A.β s).off + j)
  whole : S.pin s = none → (A.β s).off = 0 ∧ w0.heap.size ≤ (A.β s).block ∧ (A.β s).block < w.heap.size ∧ ∀ o, A.own (A.β s).block o = .b s
structure TokOk (w0 : World) (w : World) (A : As) (t : Nat) (k : Tk) : Prop where
  rel : TokRel w A.Im w0.heap.size k (A.τ t) (A.ω t)
  own : ∀ g, A.ω t = some g → ∀ o, A.own g o = .t t
structure ImOk (fr : Fr) (w : World) (A : As) (k o : Nat) : Prop where
  cell : ∃ v, w.cell? (at_ k o) = some v
  nob : ∀ s, A.own k o ≠ .b s
  tok : ∀ t x, A.own k o = .t t → fr.tk t = some x → A.ω t = some k → x.fz = true ∧ o < x.rows.length * x.esz
structure St (nt : Nat) (w0 : World) (S : Sp) (w : World) (A : As) (fr : Fr) (tmps : Array Value) : Prop where
  ntm : nt ≤ tmps.size
  keep : Keep S.S w0 w
  tm : ∀ t, RV fr w A (fr.tm t) (tmps.getD t Go.undef)
  bx : ∀ s b, fr.bx s = some b → BoxOk w0 S fr w A s b
  tk : ∀ t k, fr.tk t = some k → TokOk w0 w A t k
  im : ∀ k o, A.Im k o → ImOk fr w A k o
  ime : ∀ k o, A.Im k o → k < w0.heap.size → S.E k o
  eim : ∀ k o, S.E k o → A.Im k o
  pin : ∀ s a, S.pin s = some a → ∃ b, fr.bx s = some b ∧ (b.e = 0 → A.β s = a)

theorem CapR.step {fr fr' : Fr} {w w' : World} {A A' : As} {c : Cap} {v : Value} (h : CapR fr w A c v)
    (hB : ∀ s b, fr.bx s = some b → ∃ b', fr'.bx s = some b' ∧ (b.e < b'.e ∨ (b'.e = b.e ∧ A'.β s = A.β s)))
    (hI : ∀ k o, A.Im k o → A'.Im k o) (hw : ∀ k o, A.Im k o → w'.cell? (at_ k o) = w.cell? (at_ k o)) : CapR fr' w' A' c v := by
  cases c with
  | d x => exact Rd.step h hI hw
  | p s e =>
    obtain ⟨hp, b, hb, he, hv⟩ := h
    obtain ⟨b', hb', hh⟩ := hB s b hb
    refine ⟨hp, b', hb', ?_, fun e1 => ?_⟩
    · rcases hh with hh | ⟨hh, _⟩ <;> omega
    · rcases hh with hh | ⟨hh, hβ⟩
      · omega
      · rw [hβ]; exact hv (by omega)
theorem RC.step {fr fr' : Fr} {w w' : World} {A A' : As} {c : C} {v : Value} (h : RC fr w A c v)
    (hB : ∀ s b, fr.bx s = some b → ∃ b', fr'.bx s = some b' ∧ (b.e < b'.e ∨ (b'.e = b.e ∧ A'.β s = A.β s)))
    (hT : ∀ t k, fr.tk t = some k → ∃ k', fr'.tk t = some k' ∧ (k.e < k'.e ∨ (k'.e = k.e ∧ A'.τ t = A.τ t ∧ A'.ω t = A.ω t ∧ k'.rows.length = k.rows.length ∧ k'.esz = k.esz)))
    (hI : ∀ k o, A.Im k o → A'.Im k o) (hw : ∀ k o, A.Im k o → w'.cell? (at_ k o) = w.cell? (at_ k o)) : RC fr' w' A' c v := by
  obtain ⟨h1, h⟩ := h
  refine ⟨h1, ?_⟩
  cases c with
  | d x => exact Rd.step h hI hw
  | own t e =>
    obtain ⟨k, hk, he, hv⟩ := h
    obtain ⟨k', hk', hh⟩ := hT t k hk
    refine ⟨k', hk', ?_, fun e1 => ?_⟩
    · rcases hh with hh | ⟨hh, _⟩ <;> omega
    · rcases hh with hh | ⟨hh, hτ, _⟩
      · omega
      · rw [hτ]; exact hv (by omega)
  | sub t e off len =>
    obtain ⟨k, hk, he, hv⟩ := h
    obtain ⟨k', hk', hh⟩ := hT t k hk
    refine ⟨k', hk', ?_, fun e1 => ?_⟩
    · rcases hh with hh | ⟨hh, _⟩ <;> omega
    · rcases hh with hh | ⟨hh, hτ, hω, hl, hz⟩
      · omega
      · rw [hω, hl, hz]; exact hv (by omega)
  | nil0 => exact h
  | ptr s e off =>
    obtain ⟨hp, b, hb, he, hv⟩ := h
    obtain ⟨b', hb', hh⟩ := hB s b hb
    refine ⟨hp, b', hb', ?_, fun e1 => ?_⟩
    · rcases hh with hh | ⟨hh, _⟩ <;> omega
    · rcases hh with hh | ⟨hh, hβ⟩
      · omega
      · rw [hβ]; exact hv (by omega)
  | tptr t e i off =>
    obtain ⟨hp, k, hk, he, hv⟩ := h
    obtain ⟨k', hk', hh⟩ := hT t k hk
    refine ⟨hp, k', hk', ?_, fun e1 => ?_⟩
    · rcases hh with hh | ⟨hh, _⟩ <;> omega
    · rcases hh with hh | ⟨hh, hτ, hω, hl, hz⟩
      · omega
      · rw [hω, hl, hz]; exact hv (by omega)
  | rptr esz row off =>
    obtain ⟨hl, g, o, rfl, hr⟩ := h
    refine ⟨hl, g, o, rfl, fun j d hj => ?_⟩
    obtain ⟨u, h2, h3, h4⟩ := hr j d hj
    exact ⟨u, hI _ _ h2, (hw _ _ h2).trans h3, Rd.step h4 hI hw⟩
  | fn g b cs =>
    obtain ⟨us, h2, h3, h4⟩ := h
    exact ⟨us, h2, h3, fun j c u h5 h6 => (h4 j c u h5 h6).step hB hI hw⟩
  | ub => exact h
  | undef => exact h

theorem RV.map {fr fr' : Fr} {w w' : World} {A A' : As} {x : V} {v : Value} (h : RV fr w A x v) (hc : ∀ c v, RC fr w A c v → RC fr' w' A' c v) : RV fr' w' A' x v := by
  induction h with
  | one c v h => exact .one c v (hc c v h)
  | agg cs vs h => exact .agg cs vs ⟨h.1, fun j c v h1 h2 => hc c v (h.2 j c v h1 h2)⟩
  | tup xs vs hl h ih => exact .tup xs vs hl ih
  | skip => exact .skip
  | any v => exact .any v

end Go.Vm

/- How a state of the frame goes on when memory is written. -/
set_option linter.unusedVariables false
set_option linter.unusedSimpArgs false
namespace Go.Vm

theorem upd_same {α : Type} (f : Nat → α) (k : Nat) (v : α) : upd f k v k = v := by simp [upd]
theorem upd_ne {α : Type} (f : Nat → α) {k j : Nat} (v : α) (h : j ≠ k) : upd f k v j = f j := by
  have : Nat.beq j k = false := by cases hb : Nat.beq j k with | false => rfl | true => exact absurd (Nat.eq_of_beq_eq_true hb) h
  simp [upd, this]

@[simp] theorem put_bx (fr : Fr) (d : Option Tmp) (v : V) : (fr.put d v).bx = fr.bx := by cases d <;> rfl
@[simp] theorem put_tk (fr : Fr) (d : Option Tmp) (v : V) : (fr.put d v).tk = fr.tk := by cases d <;> rfl

/-- What cells mean hangs on boxes and tokens alone. -/
theorem CapR_congr {fr fr' : Fr} (hb : fr'.bx = fr.bx) (w : World) (A : As) (c : Cap) (v : Value) : CapR fr' w A c v = CapR fr w A c v := by
  cases c <;> simp only [CapR, hb]
theorem RC'_congr {fr fr' : Fr} (hb : fr'.bx = fr.bx) (ht : fr'.tk = fr.tk) (w : World) (A : As) (c : C) (v : Value) : RC' fr' w A c v = RC' fr w A c v := by
  cases c <;> simp only [RC', hb, ht, CapR_congr hb]
theorem RC_congr {fr fr' : Fr} (hb : fr'.bx = fr.bx) (ht : fr'.tk = fr.tk) (w : World) (A : As) (c : C) (v : Value) : RC fr' w A c v = RC fr w A c v := by
  unfold RC; rw [RC'_congr hb ht]
theorem RV.congr {fr fr' : Fr} (hb : fr'.bx = fr.bx) (ht : fr'.tk = fr.tk) {w : World} {A : As} {x : V} {v : Value} (h : RV fr w A x v) : RV fr' w A x v :=
  h.map fun c v h => by rw [RC_congr hb ht]; exact h

section
variable {nt : Nat} {w0 : World} {S : Sp} {w : World} {A : As} {fr : Fr} {tmps : Array Value}

theorem getD_put (a : Act) (d : Option Tmp) (v : Value) (t : Nat) : (a.put d v).tmps.getD t Go.undef = (match d with | some e => if e = t then (if t < a.tmps.size then v else Go.undef) else a.tmps.getD t Go.undef | none => a.tmps.getD t Go.undef) := by
  cases d with
  | none => rfl
  | some e =>
    simp only [Act.put]
    by_cases h : e = t
    · subst h
      simp only [if_true, Array.getD_eq_getD_getElem?]
      by_cases hs : e < a.tmps.size
      · simp [hs]
      · simp [hs]
    · simp [Array.getD_eq_getD_getElem?, Array.getElem?_setIfInBounds_ne h, h]

/-- A temporary is written. -/
theorem St.put {a : Act} (h : St nt w0 S w A fr a.tmps) (d : Option Tmp) (x : V) (v : Value) (hd : ∀ e, d = some e → e < nt) (hv : RV fr w A x v) : St nt w0 S w A (fr.put d x) (a.put d v).tmps where
  ntm := by cases d <;> simpa [Act.put] using h.ntm
  keep := h.keep
  tm := fun t => by
    rw [getD_put]
    cases d with
    | none => exact (h.tm t).congr rfl rfl
    | some e =>
      have hlt := hd e rfl
      have hn : nt ≤ a.tmps.size := h.ntm
      by_cases ht : e = t
      · subst ht
        simp only [if_true]
        rw [if_pos (Nat.lt_of_lt_of_le hlt hn)]
        have : (fr.put (some e) x).tm e = x := by simp [Fr.put, upd_same]
        rw [this]
        exact RV.congr (fr := fr) (by simp) (by simp) hv
      · simp only [ht, if_false]
        have : (fr.put (some e) x).tm t = fr.tm t := by simp [Fr.put, upd_ne _ _ (Ne.symm ht)]
        rw [this]
        exact RV.congr (fr := fr) (by simp) (by simp) (h.tm t)
  bx := fun s b hb => by
    have := h.bx s b (by simpa using hb)
    exact ⟨fun j c hc => by obtain ⟨v, h1, h2⟩ := this.cell j c hc; exact ⟨v, h1, by rw [RC_congr (fr := fr) (by simp) (by simp)]; exact h2⟩, this.free, this.own, this.may, this.whole⟩
  tk := fun t k hk => h.tk t k (by simpa using hk)
  im := fun k o hi => by
    have := h.im k o hi
    exact ⟨this.cell, this.nob, fun t x h1 h2 => this.tok t x h1 (by simpa using h2)⟩
  ime := h.ime
  eim := h.eim
  pin := fun s a ha => by simpa using h.pin s a ha

/-- A temporary whose value is known better. -/
theorem St.know (h : St nt w0 S w A fr tmps) (t : Nat) (x : V) (hv : RV fr w A x (tmps.getD t Go.undef)) : St nt w0 S w A { fr with tm := upd fr.tm t x } tmps where
  ntm := h.ntm
  keep := h.keep
  tm := fun e => by
    by_cases he : e = t
    · subst he
      simp only [upd_same]
      refine RV.congr (fr := fr) ?_ ?_ hv <;> rfl
    · simp only [upd_ne _ _ he]
      refine RV.congr (fr := fr) ?_ ?_ (h.tm e) <;> rfl
  bx := fun s b hb => by
    have := h.bx s b hb
    exact ⟨fun j c hc => by obtain ⟨v, h1, h2⟩ := this.cell j c hc; exact ⟨v, h1, h2⟩, this.free, this.own, this.may, this.whole⟩
  tk := fun t k hk => h.tk t k hk
  im := fun k o hi => by
    have := h.im k o hi
    exact ⟨this.cell, this.nob, this.tok⟩
  ime := h.ime
  eim := h.eim
  pin := h.pin

/-- One step of memory and frame: what is written (T) are places of the call's own. -/
structure Upd (w0 : World) (S : Sp) (w : World) (A : As) (fr : Fr) (w' : World) (A' : As) (fr' : Fr) (T : Pl) : Prop where
  keep : Keep T w w'
  mayT : ∀ k o, T k o → w0.heap.size ≤ k ∨ S.S k o
  imT : ∀ k o, A.Im k o → ¬ T k o
  tm : fr'.tm = fr.tm
  im : ∀ k o, A.Im k o → A'.Im k o
  own : ∀ k o, k < w.heap.size → (A.own k o ≠ .none ∨ A.Im k o) → A'.own k o = A.own k o
  bx : ∀ s b, fr.bx s = some b → ∃ b', fr'.bx s = some b' ∧ (b.e < b'.e ∨ (b'.e = b.e ∧ A'.β s = A.β s))
  tk : ∀ t k, fr.tk t = some k → ∃ k', fr'.tk t = some k' ∧ (k.e < k'.e ∨ (k'.e = k.e ∧ A'.τ t = A.τ t ∧ A'.ω t = A.ω t ∧ k'.rows.length = k.rows.length ∧ k'.esz = k.esz))

variable {w' : World} {A' : As} {fr' : Fr} {T : Pl}
theorem Upd.imw (u : Upd w0 S w A fr w' A' fr' T) (h : St nt w0 S w A fr tmps) : ∀ k o, A.Im k o → w'.cell? (at_ k o) = w.cell? (at_ k o) := fun k o hi => by
  obtain ⟨v, hv⟩ := (h.im k o hi).cell
  exact u.keep.cell (cell_lt hv) (u.imT k o hi)
theorem Upd.rc (u : Upd w0 S w A fr w' A' fr' T) (h : St nt w0 S w A fr tmps) {c : C} {v : Value} (hc : RC fr w A c v) : RC fr' w' A' c v :=
  hc.step u.bx u.tk u.im (u.imw h)
theorem Upd.rv (u : Upd w0 S w A fr w' A' fr' T) (h : St nt w0 S w A fr tmps) {x : V} {v : Value} (hc : RV fr w A x v) : RV fr' w' A' x v := hc.map fun _ _ => u.rc h
theorem Upd.rd (u : Upd w0 S w A fr w' A' fr' T) (h : St nt w0 S w A fr tmps) {x : D} {v : Value} (hc : Rd w A.Im x v) : Rd w' A'.Im x v := hc.step u.im (u.imw h)

theorem St.of_upd (h : St nt w0 S w A fr tmps) (u : Upd w0 S w A fr w' A' fr' T)
    (hbx : ∀ s b, fr'.bx s = some b → (fr.bx s = some b ∧ A'.β s = A.β s ∧ ∀ j, j < b.cs.length → ¬ T (A.β s).block ((A.β s).off + j)) ∨ BoxOk w0 S fr' w' A' s b)
    (htk : ∀ t k, fr'.tk t = some k → ((∃ z, fr.tk t = some z ∧ z.rows = k.rows ∧ z.esz = k.esz ∧ z.et = k.et) ∧ A'.τ t = A.τ t ∧ A'.ω t = A.ω t ∧ ∀ g, A.ω t = some g → ∀ o, ¬ T g o) ∨ TokOk w0 w' A' t k)
    (him : ∀ k o, A'.Im k o → (∃ v, w'.cell? (at_ k o) = some v) ∧ (∀ s, A'.own k o ≠ .b s) ∧ ∀ t x, A'.own k o = .t t → fr'.tk t = some x → A'.ω t = some k → x.fz = true ∧ o < x.rows.length * x.esz) (hie : ∀ k o, A'.Im k o → A.Im k o ∨ w0.heap.size ≤ k) :
    St nt w0 S w' A' fr' tmps where
  ntm := h.ntm
  keep := h.keep.trans u.keep fun i o hi ht => (u.mayT i o ht).resolve_left (by omega)
  tm := fun t => by rw [u.tm]; exact u.rv h (h.tm t)
  bx := fun s b hb => by
    rcases hbx s b hb with ⟨h1, h2, h3⟩ | hh
    · have hk := h.bx s b h1
      refine ⟨fun j c hc => ?_, fun j hj => ?_, fun j hj => ?_, fun j hj => ?_, fun hp => ?_⟩
      · have hj := (List.getElem?_eq_some_iff.1 hc).1
        obtain ⟨v, hv, hr⟩ := hk.cell j c hc
        rw [h2]
        exact ⟨v, u.keep.cell_some hv (h3 j hj), u.rc h hr⟩
      · rw [h2]
        obtain ⟨v, hv, hr⟩ := hk.cell j b.cs[j] (List.getElem?_eq_getElem hj)
        rw [u.keep.frozen (cell_lt hv)]
        exact hk.free j hj
      · rw [h2]
        obtain ⟨v, hv, hr⟩ := hk.cell j b.cs[j] (List.getElem?_eq_getElem hj)
        rw [u.own _ _ (cell_lt hv) (.inl (by rw [hk.own j hj]; simp))]
        exact hk.own j hj
      · rw [h2]; exact hk.may j hj
      · obtain ⟨q1, q2, q3, q4⟩ := hk.whole hp
        rw [h2]
        exact ⟨q1, q2, Nat.lt_of_lt_of_le q3 u.keep.size, fun o => by rw [u.own _ o q3 (.inl (by rw [q4 o]; simp))]; exact q4 o⟩
    · exact hh
  tk := fun t k hk => by
    rcases htk t k hk with ⟨⟨z, h1, hz1, hz2, hz3⟩, h2, h3, h4⟩ | hh
    · have hk := h.tk t z h1
      refine ⟨?_, fun g hg o => ?_⟩
      · have := hk.rel
        rw [h2, h3]
        cases hω : A.ω t with
        | none => rw [hω] at this; exact ⟨hz1 ▸ this.1, this.2⟩
        | some g =>
          rw [hω] at this
          obtain ⟨h5, h6, h7, cap, cur, h8, h9, h10, h11, h12, h13⟩ := this
          rw [hz1, hz2, hz3] at *
          refine ⟨h5, h6, h7, cap, cur, h8, ?_, h10, h11, h12, fun i row hi j d hj => ?_⟩
          · have hlt : g < w.heap.size := (Array.getElem?_eq_some_iff.1 h9).1
            rcases u.keep.blk g hlt with he | ⟨c, c', ty, fz, he1, he2, he3, he4⟩
            · rw [he]; exact h9
            · rw [h9] at he1
              injection he1 with he1; injection he1 with q1 q2 q3
              subst q1 q2 q3
              rw [he2]
              have : c' = cur := Array.ext_getElem? fun i => he4 i (h4 g hω i)
              rw [this]
          · obtain ⟨x, hx1, hx2⟩ := h13 i row hi j d hj
            exact ⟨x, hx1, u.rd h hx2⟩
      · rw [h3] at hg
        have hrel := hk.rel
        rw [hg] at hrel
        obtain ⟨_, _, _, cap, cur, _, h9, _⟩ := hrel
        rw [u.own g o (Array.getElem?_eq_some_iff.1 h9).1 (.inl (by rw [hk.own g hg o]; simp))]
        exact hk.own g hg o
    · exact hh
  im := fun k o hi => ⟨(him k o hi).1, (him k o hi).2.1, (him k o hi).2.2⟩
  ime := fun k o hi hk => h.ime k o ((hie k o hi).resolve_right (by omega)) hk
  eim := fun k o hh => u.im k o (h.eim k o hh)
  pin := fun s a ha => by
    obtain ⟨b, hb, he⟩ := h.pin s a ha
    obtain ⟨b', hb', hh⟩ := u.bx s b hb
    refine ⟨b', hb', fun h0 => ?_⟩
    rcases hh with hh | ⟨hh, hβ⟩
    · omega
    · rw [hβ]; exact he (by omega)

/-- Immutable places stay so while tokens' rows do not shrink and no frozen one thaws. -/
theorem St.im_old (h : St nt w0 S w A fr tmps) (u : Upd w0 S w A fr w' A' fr' T)
    (htk : ∀ t x', fr'.tk t = some x' → ∀ g, A'.ω t = some g → g < w.heap.size → ∃ x, fr.tk t = some x ∧ A.ω t = some g ∧ (x.fz = true → x'.fz = true) ∧ x.rows.length * x.esz ≤ x'.rows.length * x'.esz) :
    ∀ k o, A.Im k o → (∃ v, w'.cell? (at_ k o) = some v) ∧ (∀ s, A'.own k o ≠ .b s) ∧ ∀ t x, A'.own k o = .t t → fr'.tk t = some x → A'.ω t = some k → x.fz = true ∧ o < x.rows.length * x.esz := by
  intro k o hi
  have hh := h.im k o hi
  obtain ⟨v, hv⟩ := hh.cell
  have hlt := cell_lt hv
  refine ⟨⟨v, u.keep.cell_some hv (u.imT k o hi)⟩, fun s => ?_, fun t x h1 h2 h3 => ?_⟩
  · rw [u.own k o hlt (.inr hi)]; exact hh.nob s
  · rw [u.own k o hlt (.inr hi)] at h1
    obtain ⟨y, hy, hω, hf, hl⟩ := htk t x h2 k h3 hlt
    obtain ⟨q1, q2⟩ := hh.tok t y h1 hy hω
    exact ⟨hf q1, by omega⟩

theorem drew_cell (w : World) (k o : Nat) : w.drew.cell? (at_ k o) = w.cell? (at_ k o) := rfl
/-- Nothing but the count of draws. -/
theorem St.drew (h : St nt w0 S w A fr tmps) : St nt w0 S w.drew A fr tmps := by
  have u : Upd w0 S w A fr w.drew A fr (fun _ _ => False) := ⟨Keep.drew _ _, fun _ _ h => h.elim, fun _ _ _ h => h, rfl, fun _ _ h => h, fun _ _ _ _ => rfl, fun s b hb => ⟨b, hb, .inr ⟨rfl, rfl⟩⟩, fun t k hk => ⟨k, hk, .inr ⟨rfl, rfl, rfl, rfl, rfl⟩⟩⟩
  exact h.of_upd u (fun s b hb => .inl ⟨hb, rfl, fun _ _ h => h⟩) (fun t k hk => .inl ⟨⟨k, hk, rfl, rfl, rfl⟩, rfl, rfl, fun _ _ _ h => h⟩)
    (h.im_old u fun t x hx g hg _ => ⟨x, hx, hg, fun h => h, Nat.le_refl _⟩) fun _ _ h => .inl h

end
end Go.Vm

/- Operations that look at no memory. -/
set_option linter.unusedVariables false
set_option linter.unusedSimpArgs false
namespace Go.Vm

section inv
variable {α : Type} {r : α}
theorem br_some {b : Bool} {x y : Option α} (h : br b x y = some r) : (b = true ∧ x = some r) ∨ (b = false ∧ y = some r) := by cases b <;> simp_all [br]
theorem br_req {b : Bool} {x : Option α} (h : br b x none = some r) : b = true ∧ x = some r := by cases b <;> simp_all [br]
theorem br_not {b : Bool} {x : Option α} (h : br b none x = some r) : b = false ∧ x = some r := by cases b <;> simp_all [br]
theorem takeB_some {x : D} {K : Bool → Option α} (h : takeB x K = some r) : ∃ b, x = .bool b ∧ K b = some r := by cases x <;> simp_all [takeB]
theorem takeI_some {k : IntKind} {x : D} {K : Int → Option α} (h : takeI k x K = some r) : ∃ n, x = .int k n ∧ K n = some r := by
  cases x <;> simp_all [takeI]
theorem takeS_some {x : D} {K : ByteArray → Option α} (h : takeS x K = some r) : ∃ s, x = .str s ∧ K s = some r := by cases x <;> simp_all [takeS]
theorem takeL_some {e : Nat} {x : D} {K : List (List D) → Option α} (h : takeL e x K = some r) : ∃ e' rows, x = .list e' rows ∧ (e' = e ∨ rows = []) ∧ K rows = some r := by
  cases x with
  | list e' rows => simp only [takeL] at h; split at h <;> first | exact ⟨e', rows, rfl, by assumption, h⟩ | cases h
  | _ => simp [takeL] at h
theorem takeN_some {x : D} {K : Int → Option α} (h : takeN x K = some r) : ∃ k n, x = .int k n ∧ K n = some r := by
  by_cases hx : ∃ k n, x = .int k n
  · obtain ⟨k, n, rfl⟩ := hx; exact ⟨k, n, rfl, h⟩
  · cases x <;> first | exact absurd ⟨_, _, rfl⟩ hx | cases h
theorem takeR_some {x : D} {K : List (List D) → Option α} (h : takeR x K = some r) : ∃ e l, x = .list e l ∧ K l = some r := by
  by_cases hx : ∃ k n, x = .list k n
  · obtain ⟨k, n, rfl⟩ := hx; exact ⟨k, n, rfl, h⟩
  · cases x <;> first | exact absurd ⟨_, _, rfl⟩ hx | cases h
theorem obind_some {β : Type} {x : Option β} {K : β → Option α} (h : obind x K = some r) : ∃ y, x = some y ∧ K y = some r := by cases x <;> simp_all [obind]
theorem bif_some {c : Bool} {x : Option α} (h : (bif c then x else none) = some r) : c = true ∧ x = some r := by cases c <;> simp_all
theorem bif_not {c : Bool} {x : Option α} (h : (bif c then none else x) = some r) : c = false ∧ x = some r := by cases c <;> simp_all
end inv

variable {fr : Fr} {w : World} {A : As}
theorem RV.d_inv {x : D} {v : Value} (h : RV fr w A (.one (.d x)) v) : Rd w A.Im x v := by cases h with | one c v h => exact h.2
theorem RV.one_inv {c : C} {v : Value} (h : RV fr w A (.one c) v) : RC fr w A c v := by cases h with | one c v h => exact h
theorem RV.agg_inv {cs : List C} {v : Value} (h : RV fr w A (.agg cs) v) : ∃ vs, v = .agg vs ∧ RCs fr w A cs vs.toList := by cases h with | agg cs vs h => exact ⟨vs, rfl, h⟩
theorem Rd.int_inv {Im : Pl} {k : IntKind} {n : Int} {v : Value} (h : Rd w Im (.int k n) v) : v = .int k n := by cases h; rfl
theorem Rd.bool_inv {Im : Pl} {b : Bool} {v : Value} (h : Rd w Im (.bool b) v) : v = .bool b := by cases h; rfl
theorem Rd.str_inv {Im : Pl} {s : ByteArray} {v : Value} (h : Rd w Im (.str s) v) : v = .string s := by cases h; rfl
theorem RV.int (k : IntKind) (n : Int) : RV fr w A (.one (.d (.int k n))) (.int k n) := .one _ _ ⟨rfl, .int k n⟩
theorem RV.bool (b : Bool) : RV fr w A (.one (.d (.bool b))) (.bool b) := .one _ _ ⟨rfl, .bool b⟩
theorem RV.str (s : ByteArray) : RV fr w A (.one (.d (.str s))) (.string s) := .one _ _ ⟨rfl, .str s⟩
theorem RC.d_inv {x : D} {v : Value} (h : RC fr w A (.d x) v) : Rd w A.Im x v := h.2

/-! ### Constants -/
theorem dOf_rd {v : Value} {x : D} {Im : Pl} (h : dOf v = some x) : Rd w Im x v := by
  cases v with
  | bool b => simp [dOf] at h; subst h; exact .bool b
  | int k n => simp [dOf] at h; subst h; exact .int k n
  | string s => simp [dOf] at h; subst h; exact .str s
  | pointer a => cases a <;> simp [dOf] at h; subst h; exact .nilp
  | func f a b =>
    cases f with
    | func f =>
      simp only [dOf] at h
      split at h
      · split at h
        · rename_i h1 h2
          injection h with h
          subst h
          have e1 : a = #[] := by simpa using h1
          have e2 : b = #[] := by simpa using h2
          subst e1 e2
          exact .fn f
        · cases h
      · cases h
    | _ => simp [dOf] at h
  | _ => simp [dOf] at h
theorem cOf_rc {v : Value} (h1 : oneC v = true) : RC fr w A (cOf v) v := by
  refine ⟨h1, ?_⟩
  unfold cOf
  split
  · exact ⟨none, rfl⟩
  · cases hd : dOf v with
    | none => trivial
    | some x => exact dOf_rd hd
theorem vOf_rv (v : Value) : RV fr w A (vOf v) v := by
  unfold vOf
  split
  · rename_i cs
    cases hc : cs.toList.all oneC with
    | false => exact .any _
    | true =>
      refine .agg _ _ ⟨by simp, fun j c v h1 h2 => ?_⟩
      rw [List.getElem?_map, h2] at h1
      simp at h1
      subst h1
      exact cOf_rc (List.all_eq_true.1 hc v (List.mem_of_getElem? h2))
  · exact .any _
  · rename_i h1 h2
    refine .one _ _ (cOf_rc ?_)
    cases v <;> simp_all [oneC]

variable {nt : Nat} {w0 : World} {S : Sp}
theorem val_rv {a : Act} (h : St nt w0 S w A fr a.tmps) (x : Operand) : RV fr w A (val fr x) (a.eval x) := by
  cases x with
  | tmp t => exact h.tm t
  | const v => exact vOf_rv v
  | global g => exact .any _
  | func f => exact .one _ _ ⟨rfl, .fn f⟩

/-! ### Arithmetic -/
variable {P : Program}
theorem cmpI_ok {α : Type} {op : BinOp} {a b : Int} {K : C → Option α} {r : α} (h : cmpI op a b K = some r) :
    ∃ c, (∀ (β : Type) (K' : C → Option β), cmpI op a b K' = K' c) ∧ ∃ x, c = .d (.bool x) ∧ ∀ w, (Op.intCmp op a b).run P w = .ok (.bool x) w := by
  cases op <;> simp only [cmpI] at h <;> first | (cases h; done) | exact ⟨_, fun _ _ => rfl, _, rfl, fun w => rfl⟩
theorem arI_ok {α : Type} {op : BinOp} {k : IntKind} {a b : Int} {K : C → Option α} {r : α} (h : arI op k a b K = some r) (hs : op ≠ .shl) (hs' : op ≠ .shr) (t : TypeId) :
    ∃ c, (∀ (β : Type) (K' : C → Option β), arI op k a b K' = K' c) ∧ ∃ x v, c = .d x ∧ (∀ w, (binOp op t (.int k a) (.int k b)).run P w = .ok v w) ∧ ∀ fr w A, RV fr w A (.one (.d x)) v := by
  cases op <;> simp only [arI] at h
  case shl => exact absurd rfl hs
  case shr => exact absurd rfl hs'
  case quo =>
    obtain ⟨h1, h2⟩ := br_not h
    refine ⟨_, fun β K' => by simp only [arI, h1, br]; rfl, _, _, rfl, fun w => ?_, fun _ _ _ => RV.int _ _⟩
    have : ¬ b = 0 := by simpa using h1
    simp [binOp, Op.intDiv, this]
  case rem =>
    obtain ⟨h1, h2⟩ := br_not h
    refine ⟨_, fun β K' => by simp only [arI, h1, br]; rfl, _, _, rfl, fun w => ?_, fun _ _ _ => RV.int _ _⟩
    have : ¬ b = 0 := by simpa using h1
    simp [binOp, Op.intDiv, this]
  case add => exact ⟨_, fun _ _ => rfl, _, _, rfl, fun w => by simp [binOp, Op.intArith], fun _ _ _ => RV.int _ _⟩
  case sub => exact ⟨_, fun _ _ => rfl, _, _, rfl, fun w => by simp [binOp, Op.intArith], fun _ _ _ => RV.int _ _⟩
  case mul => exact ⟨_, fun _ _ => rfl, _, _, rfl, fun w => by simp [binOp, Op.intArith], fun _ _ _ => RV.int _ _⟩
  case and => exact ⟨_, fun _ _ => rfl, _, _, rfl, fun w => by simp [binOp, Op.intBits], fun _ _ _ => RV.int _ _⟩
  case or => exact ⟨_, fun _ _ => rfl, _, _, rfl, fun w => by simp [binOp, Op.intBits], fun _ _ _ => RV.int _ _⟩
  case xor => exact ⟨_, fun _ _ => rfl, _, _, rfl, fun w => by simp [binOp, Op.intBits], fun _ _ _ => RV.int _ _⟩
  case andNot => exact ⟨_, fun _ _ => rfl, _, _, rfl, fun w => by simp [binOp, Op.intBits], fun _ _ _ => RV.int _ _⟩
  all_goals
    obtain ⟨c, h1, x, rfl, h2⟩ := cmpI_ok (P := P) h
    exact ⟨_, fun β K' => by simp only [arI]; exact h1 β K', _, _, rfl, fun w => by simp only [binOp, ne_eq, not_true_eq_false, if_false]; exact h2 w, fun _ _ _ => RV.bool _⟩
theorem shI_ok {α : Type} {op : BinOp} {k k' : IntKind} {a b : Int} {K : C → Option α} {r : α} (h : shI op k a b K = some r) (t : TypeId) :
    ∃ c, (∀ (β : Type) (K' : C → Option β), shI op k a b K' = K' c) ∧ ∃ x v, c = .d x ∧ (∀ w, (binOp op t (.int k a) (.int k' b)).run P w = .ok v w) ∧ ∀ fr w A, RV fr w A (.one (.d x)) v := by
  cases op <;> simp only [shI] at h <;> try (cases h; done)
  all_goals
    obtain ⟨h1, h2⟩ := br_not h
    have : ¬ b < 0 := by simpa using h1
    exact ⟨_, fun β K' => by simp only [shI, h1, br]; rfl, _, _, rfl, fun w => by simp [binOp, Op.shift, this], fun _ _ _ => RV.int _ _⟩
theorem cmpS_ok {α : Type} {op : BinOp} {a b : ByteArray} {K : C → Option α} {r : α} (h : cmpS op a b K = some r) (t : TypeId) :
    ∃ c, (∀ (β : Type) (K' : C → Option β), cmpS op a b K' = K' c) ∧ ∃ x v, c = .d x ∧ (∀ w, (binOp op t (.string a) (.string b)).run P w = .ok v w) ∧ ∀ fr w A, RV fr w A (.one (.d x)) v := by
  cases op <;> simp only [cmpS] at h <;> try (cases h; done)
  case add =>
    obtain ⟨h1, h2⟩ := br_not h
    have : ¬ ((a.size + b.size : Nat) : Int) > IntKind.i64.max := by simpa using h1
    exact ⟨_, fun β K' => by simp only [cmpS, h1, br]; rfl, _, _, rfl, fun w => by simp only [binOp, Op.stringOp, if_neg this]; rfl, fun _ _ _ => RV.str _⟩
  all_goals exact ⟨_, fun β K' => rfl, _, _, rfl, fun w => by simp [binOp, Op.stringOp], fun _ _ _ => RV.bool _⟩
theorem cmpB_ok {α : Type} {op : BinOp} {a b : Bool} {K : C → Option α} {r : α} (h : cmpB op a b K = some r) (t : TypeId) (ht : P.underlying t = some .bool) :
    ∃ c, (∀ (β : Type) (K' : C → Option β), cmpB op a b K' = K' c) ∧ ∃ x v, c = .d x ∧ (∀ w, (binOp op t (.bool a) (.bool b)).run P w = .ok v w) ∧ ∀ fr w A, RV fr w A (.one (.d x)) v := by
  cases op <;> simp only [cmpB] at h <;> try (cases h; done)
  all_goals exact ⟨_, fun β K' => rfl, _, _, rfl, fun w => by simp [binOp, Op.equal, Op.maxDepth, run_equalIn_bool' w 9999 t a b ht], fun _ _ _ => RV.bool _⟩

/-- A part of an aggregate's cells. -/
def partV (P : Program) (t : TypeId) (vs : List Value) : Value := if isAggT P t then .agg vs.toArray else vs.headD Go.undef
theorem run_underlying' {t : TypeId} {d : TypeDesc} (h : P.underlying t = some d) (w : World) : (underlying t).run P w = .ok d w := by simp [underlying, h]
theorem run_isAgg' {t : TypeId} (hs : (P.underlying t).isSome) (w : World) : (isAgg t).run P w = .ok (isAggT P t) w := by
  obtain ⟨d, hd⟩ := Option.isSome_iff_exists.1 hs
  cases d <;> simp [isAgg, run_underlying' hd, isAggT, hd]
theorem info_of_sz {t : TypeId} {n : Nat} (h : P.cellsOf t = n) (hn : n ≠ 0) : ∃ i, P.info? t = some i ∧ i.size = n := by
  unfold Program.cellsOf at h
  cases hi : P.info? t with
  | none => simp [hi] at h; omega
  | some i => exact ⟨i, rfl, by simpa [hi] using h⟩
theorem run_sizeOf' {t : TypeId} (h : P.cellsOf t ≠ 0) (w : World) : (sizeOf t).run P w = .ok (P.cellsOf t) w := by
  obtain ⟨i, hi, hs⟩ := info_of_sz rfl h
  simp [sizeOf, typeInfo, hi, hs]
theorem und_of_info {t : TypeId} (h : (P.underlying t).isSome) : ∃ i, P.info? t = some i := by
  unfold Program.underlying at h
  cases hi : P.info? t with
  | none => simp [hi] at h
  | some i => exact ⟨i, rfl⟩
theorem run_sizeOf'' {t : TypeId} (h : (P.underlying t).isSome) (w : World) : (sizeOf t).run P w = .ok (P.cellsOf t) w := by
  obtain ⟨i, hi⟩ := und_of_info h
  simp [sizeOf, typeInfo, hi, Program.cellsOf]
theorem run_part {t : TypeId} (ht : (P.underlying t).isSome) (vs : Array Value) (off : Nat) (hl : off + P.cellsOf t ≤ vs.size) (h1 : isAggT P t = false → 0 < P.cellsOf t) (w : World) :
    (part t vs off).run P w = .ok (partV P t ((vs.toList.drop off).take (P.cellsOf t))) w := by
  simp only [part, Sem.run_bind, run_isAgg' ht, Result.andThen_ok, partV]
  cases ha : isAggT P t with
  | true =>
    simp only [if_true, Sem.run_bind, run_sizeOf'' ht, Result.andThen_ok, Sem.run_pure]
    congr 2
    apply Array.ext'
    simp [List.extract_eq_take_drop, Nat.add_sub_cancel_left]
  | false =>
    have := h1 ha
    have hlt : off < vs.size := by omega
    simp only [Bool.false_eq_true, if_false, Array.getElem?_eq_getElem hlt, Sem.run_pure]
    congr 1
    obtain ⟨m, hm⟩ : ∃ m, P.cellsOf t = m + 1 := ⟨P.cellsOf t - 1, by omega⟩
    rw [hm, List.headD_eq_head?_getD, List.head?_take, List.head?_drop]
    simp [hlt]

theorem RCs.cut {cs : List C} {vs : List Value} (h : RCs fr w A cs vs) (off n : Nat) : RCs fr w A ((cs.drop off).take n) ((vs.drop off).take n) := by
  refine ⟨by simp [h.1], fun j c v h1 h2 => ?_⟩
  rw [List.getElem?_take] at h1 h2
  split at h1
  · rw [List.getElem?_drop] at h1
    rw [if_pos (by assumption), List.getElem?_drop] at h2
    exact h.2 _ c v h1 h2
  · cases h1

theorem RCs.one_inv {x : D} {vs : List Value} (h : RCs fr w A [.d x] vs) : ∃ v, vs = [v] ∧ Rd w A.Im x v := by
  obtain ⟨h1, h2⟩ := h
  match vs, h1 with
  | [v], _ => exact ⟨v, rfl, (h2 0 (.d x) v rfl rfl).2⟩

theorem eqT_ok : ∀ (n : Nat) {α : Type} {t : TypeId} {xs ys : List C} {K : Bool → Option α} {r : α}, eqT P n t xs ys K = some r →
    ∃ b, (∀ (β : Type) (K' : Bool → Option β), eqT P n t xs ys K' = K' b) ∧ (P.underlying t).isSome ∧ (isAggT P t = false → xs.length = 1 ∧ ys.length = 1) ∧
      ∀ (fr : Fr) (w : World) (A : As) (m : Nat) (vx vy : List Value), RCs fr w A xs vx → RCs fr w A ys vy → (Op.equalIn (n + m) t (partV P t vx) (partV P t vy)).run P w = .ok b w := by
  intro n
  induction n with
  | zero => intro α t xs ys K r h; simp [eqT] at h
  | succ n ih =>
    intro α t xs ys K r h
    have leaf : ∀ {d : TypeDesc}, P.underlying t = some d → (isAggT P t = false) → ∀ {x y : D} {b : Bool}, xs = [.d x] → ys = [.d y] → (∀ (β : Type) (K' : Bool → Option β), eqT P (n + 1) t [.d x] [.d y] K' = K' b) →
        (∀ (w : World) (Im : Pl) (m : Nat) v u, Rd w Im x v → Rd w Im y u → (Op.equalIn (m + 1) t v u).run P w = .ok b w) →
        ∃ b, (∀ (β : Type) (K' : Bool → Option β), eqT P (n + 1) t xs ys K' = K' b) ∧ (P.underlying t).isSome ∧ (isAggT P t = false → xs.length = 1 ∧ ys.length = 1) ∧
          ∀ (fr : Fr) (w : World) (A : As) (m : Nat) (vx vy : List Value), RCs fr w A xs vx → RCs fr w A ys vy → (Op.equalIn (n + 1 + m) t (partV P t vx) (partV P t vy)).run P w = .ok b w := by
      intro d hd ha x y b hx hy hK hrun
      subst hx hy
      refine ⟨b, hK, by simp [hd], fun _ => ⟨rfl, rfl⟩, fun fr w A m vx vy h1 h2 => ?_⟩
      obtain ⟨v, rfl, q1⟩ := h1.one_inv
      obtain ⟨u, rfl, q2⟩ := h2.one_inv
      rw [show n + 1 + m = (n + m) + 1 by omega]
      simp only [partV, ha, Bool.false_eq_true, if_false, List.headD_cons]
      exact hrun w A.Im _ v u q1 q2
    unfold eqT at h
    split at h
    · rename_i hd
      split at h
      · obtain ⟨a, hx, h'⟩ := takeB_some h
        obtain ⟨b, hy, h''⟩ := takeB_some h'
        clear h h' h''
        subst hx hy
        exact leaf (b := a == b) hd (by simp [isAggT, hd]) rfl rfl (fun β K' => by simp [eqT, hd, takeB]) fun w Im m v u h1 h2 => by rw [h1.bool_inv, h2.bool_inv]; exact run_equalIn_bool' w m t a b hd
      · cases h
    · rename_i k hd
      split at h
      · obtain ⟨a, hx, h'⟩ := takeI_some h
        obtain ⟨b, hy, h''⟩ := takeI_some h'
        clear h h' h''
        subst hx hy
        exact leaf (b := a == b) hd (by simp [isAggT, hd]) rfl rfl (fun β K' => by simp [eqT, hd, takeI]) fun w Im m v u h1 h2 => by rw [h1.int_inv, h2.int_inv]; exact run_equalIn_int w m t k k a b hd
      · cases h
    · rename_i hd
      split at h
      · obtain ⟨a, hx, h'⟩ := takeS_some h
        obtain ⟨b, hy, h''⟩ := takeS_some h'
        clear h h' h''
        subst hx hy
        exact leaf (b := a.toList == b.toList) hd (by simp [isAggT, hd]) rfl rfl (fun β K' => by simp [eqT, hd, takeS]) fun w Im m v u h1 h2 => by rw [h1.str_inv, h2.str_inv]; exact run_equalIn_string w m t a b hd
      · cases h
    · rename_i fs hd
      obtain ⟨hst, h⟩ := bif_not h
      have key : ∀ (l : List Field) {α : Type} {K : Bool → Option α} {r : α}, eqFs P (eqT P n) xs ys l K = some r → ∃ b, (∀ (β : Type) (K' : Bool → Option β), eqFs P (eqT P n) xs ys l K' = K' b) ∧
          ∀ (fr : Fr) (w : World) (A : As) (m : Nat) (vx vy : List Value), RCs fr w A xs vx → RCs fr w A ys vy → (Op.eqFields (n + m) vx.toArray vy.toArray l).run P w = .ok b w := by
        intro l
        induction l with
        | nil => intro α K r h; exact ⟨true, fun _ _ => rfl, fun fr w A m vx vy _ _ => by simp [Op.eqFields]⟩
        | cons f l ihl =>
          intro α K r h
          simp only [eqFs] at h
          obtain ⟨hn, h⟩ := bif_not h
          obtain ⟨hb, h⟩ := bif_some h
          obtain ⟨b, hK, hu, hl1, hrun⟩ := ih h
          rw [hK] at h
          obtain ⟨b2, hK2, hrun2⟩ := ihl h
          have hne : f.name ≠ "_" := by simpa using hn
          simp only [Bool.and_eq_true, Nat.ble_eq] at hb
          refine ⟨b && b2, fun β K' => ?_, fun fr w A m vx vy h1 h2 => ?_⟩
          · simp only [eqFs, hn, cond_false]
            rw [show (Nat.ble (f.offset + sz P f.type) xs.length && Nat.ble (f.offset + sz P f.type) ys.length) = true by simp [Nat.ble_eq, hb.1, hb.2], cond_true, hK, hK2]
          · have g1 : isAggT P f.type = false → 0 < P.cellsOf f.type := fun ha => by
              have := (hl1 ha).1
              rw [List.length_take, List.length_drop] at this
              show 0 < sz P f.type
              omega
            have hx := run_part hu vx.toArray f.offset (by have := h1.1; simp; exact (by have := hb.1; unfold sz at this; omega)) g1 w
            have hy := run_part hu vy.toArray f.offset (by have := h2.1; simp; exact (by have := hb.2; unfold sz at this; omega)) g1 w
            have he := hrun fr w A m _ _ (h1.cut f.offset (sz P f.type)) (h2.cut f.offset (sz P f.type))
            have hr := hrun2 fr w A m vx vy h1 h2
            simp only [Op.eqFields, if_pos hne, Sem.run_bind, hx, hy, Result.andThen_ok, List.toList_toArray]
            unfold sz at he
            rw [he]
            simp only [Result.andThen_ok]
            cases b
            · simp
            · simpa using hr
      obtain ⟨b, hK, hrun⟩ := key fs.toList h
      have ha : isAggT P t = true := by simp [isAggT, hd]
      have hf : P.fieldsOf t = fs := by simp [Program.fieldsOf, hd]
      refine ⟨b, fun β K' => by simp only [eqT, hd, hst, cond_false]; exact hK β K', by simp [hd], (fun hh => by rw [ha] at hh; cases hh), fun fr w A m vx vy h1 h2 => ?_⟩
      rw [show n + 1 + m = (n + m) + 1 by omega]
      simp only [partV, ha, if_true]
      rw [run_equalIn_struct (P := P) w (n + m) t _ _ (by rw [hf]; exact hd) hst, hf]
      exact hrun fr w A m vx vy h1 h2
    · cases h

theorem both_some {α : Type} {x y : Option α} {r : α} (h : both x y = some r) : x = some r ∧ y = some r := by
  unfold both at h
  split at h
  · rename_i e
    exact ⟨h, e ▸ h⟩
  · cases h
theorem both_mk {α : Type} {x y : Option α} {r : α} (hx : x = some r) (hy : y = some r) : both x y = some r := by
  unfold both
  rw [if_pos (hx.trans hy.symm)]
  exact hx
@[simp] theorem both_self {α : Type} (x : Option α) : both x x = x := by
  unfold both
  rw [if_pos rfl]
theorem nilX_ok {α : Type} {x : V} {a b : Option α} {r : α} (h : nilX x a b = some r) : (a = some r ∧ (∀ (β : Type) (a' b' : Option β), nilX x a' b' = a')) ∨ (b = some r ∧ (∀ (β : Type) (a' b' : Option β), nilX x a' b' = b') ∧ ∃ e rows, x = .one (.d (.list e rows)) ∧ rows ≠ []) := by
  unfold nilX at h
  split at h
  · rename_i x
    cases x with
    | list e rows =>
      simp only [takeR] at h
      by_cases hr : rows.length = 0
      · rw [decide_eq_true hr] at h
        exact .inl ⟨h, fun β a' b' => by simp only [nilX, takeR, decide_eq_true hr, br]⟩
      · rw [decide_eq_false hr] at h
        exact .inr ⟨h, fun β a' b' => by simp only [nilX, takeR, decide_eq_false hr, br], e, rows, rfl, fun e => hr (by rw [e]; rfl)⟩
    | _ => cases h
  · exact .inl ⟨h, fun β a' b' => rfl⟩
  · cases h
theorem binF_ok {α : Type} {X : Env} {op : BinOp} {xt yt : TypeId} {x y : V} {K : V → Option α} {r : α} (h : binF X op xt yt x y K = some r) :
    ∃ z, (∀ (β : Type) (K' : V → Option β), binF X op xt yt x y K' = K' z) ∧ ∀ (fr : Fr) (w : World) (A : As) (vx vy : Value) (ox oy : Operand), RV fr w A x vx → RV fr w A y vy →
      ∃ v, (do eqGuard op xt ox oy vx vy; binOp op xt vx vy : Sem Value).run X.P w = .ok v w ∧ RV fr w A z v := by
  have guard1 : ∀ (vx vy : Value) (ox oy : Operand) (w : World), oneC vx = true → oneC vy = true → (∀ t, vx ≠ .iface t .nilIface) → vx ≠ .nilIface → (eqGuard op xt ox oy vx vy).run X.P w = .ok () w := by
    intro vx vy ox oy w h1 h2 _ h3
    cases op <;> simp only [eqGuard] <;> first | rfl | (cases vx <;> first | (cases h1; done) | exact absurd rfl h3 | (cases vy <;> first | rfl | (cases h2; done)))
  unfold binF at h
  split at h
  · rename_i k x y hu
    have ints : ∀ {a b : Int} {z : V} {v : Value} {k' : IntKind}, x = .int k a → y = .int k' b → (∀ (β : Type) (K' : V → Option β), binF X op xt yt (.one (.d x)) (.one (.d y)) K' = K' z) → (∀ w, (binOp op xt (.int k a) (.int k' b)).run X.P w = .ok v w) → (∀ fr w A, RV fr w A z v) →
        ∃ z, (∀ (β : Type) (K' : V → Option β), binF X op xt yt (.one (.d x)) (.one (.d y)) K' = K' z) ∧ ∀ (fr : Fr) (w : World) (A : As) (vx vy : Value) (ox oy : Operand), RV fr w A (.one (.d x)) vx → RV fr w A (.one (.d y)) vy →
          ∃ v, (do eqGuard op xt ox oy vx vy; binOp op xt vx vy : Sem Value).run X.P w = .ok v w ∧ RV fr w A z v := by
      intro a b z v k' hx hy hK hrun hz
      subst hx hy
      refine ⟨z, hK, fun fr w A vx vy ox oy h1 h2 => ⟨v, ?_, hz fr w A⟩⟩
      rw [h1.d_inv.int_inv, h2.d_inv.int_inv]
      simp only [Sem.run_bind, guard1 (.int k a) (.int k' b) ox oy w rfl rfl (by simp) (by simp), Result.andThen_ok]
      exact hrun w
    split at h
    · replace h := takeI_some h; obtain ⟨a, rfl, h⟩ := h
      split at h
      · rename_i k' hu'
        replace h := takeI_some h; obtain ⟨b, rfl, h⟩ := h
        obtain ⟨c, h1, x, v, rfl, h2, h3⟩ := shI_ok (P := X.P) (k' := k') h xt
        exact ints rfl rfl (fun β K' => by simp only [binF, hu, hu', takeI, if_true]; exact h1 β _) h2 h3
      · cases h
    · replace h := takeI_some h; obtain ⟨a, rfl, h⟩ := h
      split at h
      · rename_i k' hu'
        replace h := takeI_some h; obtain ⟨b, rfl, h⟩ := h
        obtain ⟨c, h1, x, v, rfl, h2, h3⟩ := shI_ok (P := X.P) (k' := k') h xt
        exact ints rfl rfl (fun β K' => by simp only [binF, hu, hu', takeI, if_true]; exact h1 β _) h2 h3
      · cases h
    · rename_i hs1 hs2
      replace h := takeI_some h; obtain ⟨a, rfl, h⟩ := h
      replace h := takeI_some h; obtain ⟨b, rfl, h⟩ := h
      obtain ⟨c, h1, x, v, rfl, h2, h3⟩ := arI_ok (P := X.P) h hs1 hs2 xt
      refine ints rfl rfl (fun β K' => ?_) h2 h3
      have g1 := h1 β fun c => K' (.one c)
      cases op <;> first | exact (hs1 rfl).elim | exact (hs2 rfl).elim | (simp only [binF, hu, takeI, if_true]; exact g1)
  · rename_i x y hu
    replace h := takeB_some h; obtain ⟨a, rfl, h⟩ := h
    replace h := takeB_some h; obtain ⟨b, rfl, h⟩ := h
    obtain ⟨c, h1, x, v, rfl, h2, h3⟩ := cmpB_ok (P := X.P) h xt hu
    refine ⟨_, fun β K' => by simp only [binF, hu, takeB]; exact h1 β _, fun fr w A vx vy ox oy q1 q2 => ⟨v, ?_, h3 fr w A⟩⟩
    rw [q1.d_inv.bool_inv, q2.d_inv.bool_inv]
    simp only [Sem.run_bind, guard1 (.bool a) (.bool b) ox oy w rfl rfl (by simp) (by simp), Result.andThen_ok]
    exact h2 w
  · rename_i x y hu
    replace h := takeS_some h; obtain ⟨a, rfl, h⟩ := h
    replace h := takeS_some h; obtain ⟨b, rfl, h⟩ := h
    obtain ⟨c, h1, x, v, rfl, h2, h3⟩ := cmpS_ok (P := X.P) h xt
    refine ⟨_, fun β K' => by simp only [binF, hu, takeS]; exact h1 β _, fun fr w A vx vy ox oy q1 q2 => ⟨v, ?_, h3 fr w A⟩⟩
    rw [q1.d_inv.str_inv, q2.d_inv.str_inv]
    simp only [Sem.run_bind, guard1 (.string a) (.string b) ox oy w rfl rfl (by simp) (by simp), Result.andThen_ok]
    exact h2 w
  · rename_i fs xs ys hu
    obtain ⟨hg, h⟩ := bif_not h
    have ha : isAggT X.P xt = true := by simp [isAggT, hu]
    split at h
    · obtain ⟨b, h1, _, _, h2⟩ := eqT_ok (P := X.P) 60 h
      refine ⟨_, fun β K' => by simp only [binF, hu, hg, cond_false]; exact h1 β _, fun fr w A vx vy ox oy q1 q2 => ?_⟩
      obtain ⟨vx, rfl, p1⟩ := q1.agg_inv
      obtain ⟨vy, rfl, p2⟩ := q2.agg_inv
      have h3 := h2 fr w A 9940 _ _ p1 p2
      simp only [partV, ha, if_true, Array.toArray_toList] at h3
      refine ⟨.bool b, ?_, RV.bool b⟩
      simp only [Sem.run_bind, run_eqGuard_agg (P := X.P) w .eql xt ox oy vx vy hg, Result.andThen_ok, run_eql_struct, h3]
    · obtain ⟨b, h1, _, _, h2⟩ := eqT_ok (P := X.P) 60 h
      refine ⟨_, fun β K' => by simp only [binF, hu, hg, cond_false]; exact h1 β _, fun fr w A vx vy ox oy q1 q2 => ?_⟩
      obtain ⟨vx, rfl, p1⟩ := q1.agg_inv
      obtain ⟨vy, rfl, p2⟩ := q2.agg_inv
      have h3 := h2 fr w A 9940 _ _ p1 p2
      simp only [partV, ha, if_true, Array.toArray_toList] at h3
      refine ⟨.bool (!b), ?_, RV.bool _⟩
      simp only [Sem.run_bind, run_eqGuard_agg (P := X.P) w .neq xt ox oy vx vy hg, Result.andThen_ok, run_neq_struct, h3]
    · cases h
  · cases h

theorem unF_ok {α : Type} {X : Env} {op : UnOp} {xt : TypeId} {x : V} {K : V → Option α} {r : α} (h : unF X op xt x K = some r) :
    ∃ z, (∀ (β : Type) (K' : V → Option β), unF X op xt x K' = K' z) ∧ ∀ (fr : Fr) (w : World) (A : As) (vx : Value), RV fr w A x vx → ∃ v, (Op.unary op vx).run X.P w = .ok v w ∧ RV fr w A z v := by
  unfold unF at h
  split at h
  · rename_i x hu
    replace h := takeB_some h; obtain ⟨b, rfl, h⟩ := h
    refine ⟨_, fun β K' => by simp only [unF, hu, takeB]; rfl, fun fr w A vx q => ?_⟩
    rw [q.d_inv.bool_inv]
    exact ⟨_, rfl, RV.bool _⟩
  · rename_i k x hu
    replace h := takeI_some h; obtain ⟨b, rfl, h⟩ := h
    refine ⟨_, fun β K' => by simp only [unF, hu, takeI, if_true]; rfl, fun fr w A vx q => ?_⟩
    rw [q.d_inv.int_inv]
    exact ⟨_, rfl, RV.int _ _⟩
  · rename_i k x hu
    replace h := takeI_some h; obtain ⟨b, rfl, h⟩ := h
    refine ⟨_, fun β K' => by simp only [unF, hu, takeI, if_true]; rfl, fun fr w A vx q => ?_⟩
    rw [q.d_inv.int_inv]
    exact ⟨_, rfl, RV.int _ _⟩
  · cases h

theorem convF_ok {α : Type} {X : Env} {src dst : TypeId} {x : V} {K : V → Option α} {r : α} (h : convF X src dst x K = some r) :
    ∃ z, (∀ (β : Type) (K' : V → Option β), convF X src dst x K' = K' z) ∧ ∀ (fr : Fr) (w : World) (A : As) (vx : Value), RV fr w A x vx → ∃ v, (convert src dst vx).run X.P w = .ok v w ∧ RV fr w A z v := by
  unfold convF at h
  split at h
  · rename_i k k' x hu hu'
    replace h := takeI_some h; obtain ⟨a, rfl, h⟩ := h
    refine ⟨_, fun β K' => by simp only [convF, hu, hu', takeI, if_true]; rfl, fun fr w A vx q => ?_⟩
    rw [q.d_inv.int_inv]
    refine ⟨_, ?_, RV.int _ _⟩
    simp only [convert, Sem.run_bind, run_underlying' hu, run_underlying' hu', Result.andThen_ok]
    rfl
  · rename_i x hu hu'
    replace h := takeS_some h; obtain ⟨a, rfl, h⟩ := h
    refine ⟨_, fun β K' => by simp only [convF, hu, hu', takeS]; rfl, fun fr w A vx q => ?_⟩
    rw [q.d_inv.str_inv]
    refine ⟨_, ?_, RV.str _⟩
    simp only [convert, Sem.run_bind, run_underlying' hu, run_underlying' hu', Result.andThen_ok]
    rfl
  · cases h

end Go.Vm

/- Operations that read memory, and addresses. -/
set_option linter.unusedVariables false
set_option linter.unusedSimpArgs false
namespace Go.Vm

variable {fr : Fr} {w : World} {A : As} {P : Program} {nt : Nat} {w0 : World} {S : Sp} {tmps : Array Value}

theorem okT_und {t : TypeId} (h : okT P t = true) : (P.underlying t).isSome := by
  unfold okT at h
  split at h
  · cases h
  · rename_i d hd; simp [hd]
theorem okT_sz {t : TypeId} (h : okT P t = true) (ha : isAggT P t = false) : sz P t = 1 := by
  unfold okT at h
  split at h
  · cases h
  · simpa [ha] using h
theorem run_loadVar {t : TypeId} (h : okT P t = true) {k o : Nat} {vs : List Value} (hl : vs.length = sz P t) (hc : ∀ (j : Nat) (v : Value), vs[j]? = some v → w.cell? (at_ k (o + j)) = some v) :
    (loadVar t (at_ k o)).run P w = .ok (partV P t vs) w := by
  have hu := okT_und h
  simp only [loadVar, Sem.run_bind, run_isAgg' hu, Result.andThen_ok, partV]
  cases ha : isAggT P t with
  | true =>
    have := run_loadCells_list (P := P) w (at_ k o) vs fun j v hj => by rw [at_add]; exact hc j v hj
    rw [hl] at this
    unfold sz at this
    simp only [if_true, Sem.run_bind, run_sizeOf'' hu, Result.andThen_ok, this, Sem.run_pure]
  | false =>
    have h1 := okT_sz h ha
    match vs, hl with
    | v :: vs, hl =>
      have := hc 0 v rfl
      simp only [Nat.add_zero] at this
      simp [this]
    | [], hl => simp at hl; omega
theorem RV.ofCells {t : TypeId} (h : okT P t = true) {cs : List C} {vs : List Value} (hl : cs.length = sz P t) (hr : RCs fr w A cs vs) : RV fr w A (V.ofCells (isAggT P t) cs) (partV P t vs) := by
  unfold V.ofCells partV
  cases ha : isAggT P t with
  | true => exact .agg _ _ (by simpa using hr)
  | false =>
    have h1 := okT_sz h ha
    match cs, vs, hr with
    | c :: cs, v :: vs, hr => exact .one _ _ (hr.2 0 c v rfl rfl)
    | [], _, _ => simp at hl; omega
    | c :: cs, [], hr => have := hr.1; simp at this

/-- The cells of a region, as values. -/
theorem region_vals {cs : List C} {k o : Nat} (h : ∀ (j : Nat) (c : C), cs[j]? = some c → ∃ v, w.cell? (at_ k (o + j)) = some v ∧ RC fr w A c v) :
    ∃ vs : List Value, RCs fr w A cs vs ∧ ∀ (j : Nat) (v : Value), vs[j]? = some v → w.cell? (at_ k (o + j)) = some v := by
  induction cs generalizing o with
  | nil => exact ⟨[], ⟨rfl, fun j c v h _ => by simp at h⟩, fun j v h => by simp at h⟩
  | cons c cs ih =>
    obtain ⟨v, h1, h2⟩ := h 0 c rfl
    obtain ⟨vs, h3, h4⟩ := ih (o := o + 1) fun j c hj => by
      have := h (j + 1) c (by simpa using hj)
      rwa [show o + (j + 1) = o + 1 + j by omega] at this
    refine ⟨v :: vs, ⟨by simp [h3.1], fun j c' v' q1 q2 => ?_⟩, fun j v' q => ?_⟩
    · cases j with
      | zero => simp at q1 q2; subst q1 q2; exact h2
      | succ j => exact h3.2 j c' v' (by simpa using q1) (by simpa using q2)
    · cases j with
      | zero => simp at q; subst q; exact h1
      | succ j => rw [show o + (j + 1) = o + 1 + j by omega]; exact h4 j v' (by simpa using q)

theorem getD_row {row : List D} {j : Nat} (h : j < row.length) : row[j]? = some (row.getD j .bad) := by simp [List.getD, List.getElem?_eq_getElem h]
theorem range_map_get {β : Type} {n : Nat} {f : Nat → β} {j : Nat} {c : β} (h : ((List.range n).map f)[j]? = some c) : j < n ∧ c = f j := by
  rw [List.getElem?_map] at h
  cases hj : (List.range n)[j]? with
  | none => simp [hj] at h
  | some x =>
    have h1 := (List.getElem?_eq_some_iff.1 hj).1
    have : x = j := by
      have := (List.getElem?_eq_some_iff.1 hj).2
      simpa using this.symm
    subst this
    simp [hj] at h
    exact ⟨by simpa using h1, h.symm⟩

theorem RV.ptr_inv {s e off : Nat} {v : Value} (h : RV fr w A (.one (.ptr s e off)) v) {b : Bx} (hb : fr.bx s = some b) (he : b.e = e) : v = .pointer (some (at_ (A.β s).block ((A.β s).off + off))) := by
  obtain ⟨_, b', h1, h2, h3⟩ := h.one_inv.2
  rw [hb] at h1; injection h1 with h1; subst h1
  exact h3 he.symm
theorem RV.tptr_inv {t e i off : Nat} {v : Value} (h : RV fr w A (.one (.tptr t e i off)) v) {k : Tk} (hb : fr.tk t = some k) (he : k.e = e) : i < k.rows.length ∧ ∃ g, A.ω t = some g ∧ v = .pointer (some (at_ g (i * k.esz + off))) := by
  obtain ⟨_, b', h1, h2, h3⟩ := h.one_inv.2
  rw [hb] at h1; injection h1 with h1; subst h1
  exact h3 he.symm
theorem RV.rptr_inv {esz off : Nat} {row : List D} {v : Value} (h : RV fr w A (.one (.rptr esz row off)) v) : row.length = esz ∧ ∃ g o, v = .pointer (some (at_ g (o + off))) ∧ ∀ (j : Nat) (d : D), row[j]? = some d → ∃ u, A.Im g (o + j) ∧ w.cell? (at_ g (o + j)) = some u ∧ Rd w A.Im d u := h.one_inv.2
theorem RV.own_inv {t e : Nat} {v : Value} (h : RV fr w A (.one (.own t e)) v) {k : Tk} (hb : fr.tk t = some k) (he : k.e = e) : v = A.τ t := by
  obtain ⟨b', h1, h2, h3⟩ := h.one_inv.2
  rw [hb] at h1; injection h1 with h1; subst h1
  exact h3 he.symm
theorem RV.sub_inv {t e off len : Nat} {v : Value} (h : RV fr w A (.one (.sub t e off len)) v) {k : Tk} (hb : fr.tk t = some k) (he : k.e = e) :
    off + len ≤ k.rows.length ∧ ∃ a c, v = .slice a len c ∧ len ≤ c ∧ (0 < len → ∃ g, A.ω t = some g ∧ a = some (at_ g (off * k.esz))) := by
  obtain ⟨b', h1, h2, h3⟩ := h.one_inv.2
  rw [hb] at h1; injection h1 with h1; subst h1
  exact h3 he.symm

/-- A token's slice as a value. -/
theorem TokRel.slice {Im : Pl} {B : Nat} {k : Tk} {v : Value} {o : Option Nat} (h : TokRel w Im B k v o) : ∃ a c, v = .slice a k.rows.length c ∧ k.rows.length ≤ c ∧ (0 < k.rows.length → ∃ g, o = some g ∧ a = some (at_ g 0)) := by
  cases o with
  | none => obtain ⟨h1, a, rfl⟩ := h; exact ⟨a, 0, by simp [h1], by simp [h1], by simp [h1]⟩
  | some g => obtain ⟨_, _, _, cap, cur, rfl, _, h1, _⟩ := h; exact ⟨_, cap, rfl, h1, fun _ => ⟨g, rfl, rfl⟩⟩
/-- A token's cell. -/
theorem TokRel.cell {Im : Pl} {B : Nat} {k : Tk} {v : Value} {g : Nat} (h : TokRel w Im B k v (some g)) {i j : Nat} {row : List D} {d : D} (hi : k.rows[i]? = some row) (hj : row[j]? = some d) :
    ∃ u, w.cell? (at_ g (i * k.esz + j)) = some u ∧ w.frozen? (at_ g (i * k.esz + j)) = false ∧ Rd w Im d u := by
  obtain ⟨_, _, h2, cap, cur, _, h3, _, _, _, h4⟩ := h
  obtain ⟨u, h5, h6⟩ := h4 i row hi j d hj
  refine ⟨u, ?_, ?_, h6⟩
  · simp [World.cell?, h3, h5]
  · simp [World.frozen?, h3]

theorem loadF_ok {α : Type} {X : Env} {t : TypeId} {a : V} {K : Eff → Option α} {r : α} (h : loadF X fr t a K = some r) :
    ∃ x, (∀ (β : Type) (K' : Eff → Option β), loadF X fr t a K' = K' x) ∧ x.bx = [] ∧ x.tk = [] ∧
      ∀ (nt : Nat) (w0 : World) (S : Sp) (w : World) (A : As) (tmps : Array Value) (va : Value), St nt w0 S w A fr tmps → RV fr w A a va → ∃ v, (Instr.loadAt t va).run X.P w = .ok v w ∧ RV fr w A x.v v := by
  unfold loadF at h
  replace h := bif_some h; obtain ⟨hok, h⟩ := h
  split at h
  · rename_i s e off
    split at h
    · rename_i b hb
      replace h := bif_some h; obtain ⟨hc, h⟩ := h
      refine ⟨_, fun β K' => by simp only [loadF, hok, hb, hc, cond_true]; rfl, rfl, rfl, fun nt w0 S w A tmps va hst hv => ?_⟩
      simp only [Bool.and_eq_true, Nat.beq_eq, Nat.ble_eq] at hc
      have hva := hv.ptr_inv hb hc.1
      subst hva
      have hbo := (hst.bx s b hb).cell
      obtain ⟨vs, h1, h2⟩ := region_vals (fr := fr) (w := w) (A := A) (cs := (b.cs.drop off).take (sz X.P t)) (k := (A.β s).block) (o := (A.β s).off + off) fun j c hj => by
        rw [List.getElem?_take] at hj
        split at hj
        · rw [List.getElem?_drop] at hj
          have := hbo (off + j) c hj
          rwa [← Nat.add_assoc] at this
        · cases hj
      have hl : ((b.cs.drop off).take (sz X.P t)).length = sz X.P t := by rw [List.length_take, List.length_drop]; omega
      refine ⟨partV X.P t vs, ?_, RV.ofCells hok hl h1⟩
      simp only [Instr.loadAt, Instr.sureAddr, Sem.run_bind, Sem.run_pure, Result.andThen_ok]
      exact run_loadVar hok (by rw [h1.1, hl]) h2
    · cases h
  · rename_i k e i off
    split at h
    · rename_i x hx
      replace h := bif_some h; obtain ⟨hc, h⟩ := h
      have hde := fun (β : Type) (K' : List D → Option β) => destrT_eq h K'
      refine ⟨_, fun β K' => by simp only [loadF, hok, hx, hc, cond_true, hde]; rfl, rfl, rfl, fun nt w0 S w A tmps va hst hv => ?_⟩
      simp only [Bool.and_eq_true, Nat.beq_eq, Nat.ble_eq] at hc
      rw [List.map_map]
      obtain ⟨hi, g, hg, hva⟩ := hv.tptr_inv hx hc.1
      subst hva
      have hrel := (hst.tk k x hx).rel
      rw [hg] at hrel
      have hrow : x.rows[i]? = some (x.rows.getD i []) := by simp [List.getD, List.getElem?_eq_getElem hi]
      have hrl : (x.rows.getD i []).length = x.esz := hrel.2.2.1 _ (List.mem_of_getElem? hrow)
      obtain ⟨vs, h1, h2⟩ := region_vals (fr := fr) (w := w) (A := A) (cs := (List.range (sz X.P t)).map fun j => C.d ((x.rows.getD i []).getD (off + j) .bad)) (k := g) (o := i * x.esz + off) fun j c hj => by
        obtain ⟨hj, rfl⟩ := range_map_get hj
        obtain ⟨u, h1, _, h2⟩ := hrel.cell hrow (getD_row (j := off + j) (by omega))
        exact ⟨u, by rwa [Nat.add_assoc], h2.one, h2⟩
      refine ⟨partV X.P t vs, ?_, RV.ofCells hok (by simp) h1⟩
      simp only [Instr.loadAt, Instr.sureAddr, Sem.run_bind, Sem.run_pure, Result.andThen_ok]
      exact run_loadVar hok (by rw [h1.1]; simp) h2
    · cases h
  · rename_i esz row off
    replace h := bif_some h; obtain ⟨hc, h⟩ := h
    refine ⟨_, fun β K' => by simp only [loadF, hok, hc, cond_true]; rfl, rfl, rfl, fun nt w0 S w A tmps va hst hv => ?_⟩
    simp only [Nat.ble_eq] at hc
    obtain ⟨hrl, g, o, hva, hr⟩ := hv.rptr_inv
    subst hva
    obtain ⟨vs, h1, h2⟩ := region_vals (fr := fr) (w := w) (A := A) (cs := (List.range (sz X.P t)).map fun j => C.d (row.getD (off + j) .bad)) (k := g) (o := o + off) fun j c hj => by
      obtain ⟨hj, rfl⟩ := range_map_get hj
      obtain ⟨u, _, h1, h2⟩ := hr (off + j) _ (getD_row (j := off + j) (by omega))
      exact ⟨u, by rwa [Nat.add_assoc], h2.one, h2⟩
    refine ⟨partV X.P t vs, ?_, RV.ofCells hok (by simp) h1⟩
    simp only [Instr.loadAt, Instr.sureAddr, Sem.run_bind, Sem.run_pure, Result.andThen_ok]
    exact run_loadVar hok (by rw [h1.1]; simp) h2
  · cases h

theorem field_eq {X : Env} {t : TypeId} {f off : Nat} {ft : TypeId} (h : field X t f = some (off, ft)) : ∃ (fs : Array Field) (g : Field), X.P.underlying t = some (.struct fs) ∧ fs[f]? = some g ∧ g.offset = off ∧ g.type = ft := by
  unfold field at h
  split at h
  · rename_i fs hfs
    split at h
    · rename_i g hg
      simp at h
      exact ⟨fs, g, hfs, hg, h.1, h.2⟩
    · cases h
  · cases h

theorem beq_false {a b : Nat} (h : Nat.beq a b = false) : a ≠ b := fun e => by subst e; simp [Nat.beq_refl] at h

theorem fieldAddrF_ok {α : Type} {X : Env} {t : TypeId} {a : V} {f : Nat} {K : V → Option α} {r : α} (h : fieldAddrF X t a f K = some r) :
    ∃ z, (∀ (β : Type) (K' : V → Option β), fieldAddrF X t a f K' = K' z) ∧ ∀ (fr : Fr) (w : World) (A : As) (va : Value), RV fr w A a va → ∃ v, (Instr.fieldAt t va f).run X.P w = .ok v w ∧ RV fr w A z v := by
  unfold fieldAddrF at h
  split at h
  · rename_i off ft hf
    replace h := bif_not h; obtain ⟨hz, h⟩ := h
    obtain ⟨fs, g, hu, hg, rfl, rfl⟩ := field_eq hf
    have hne : X.P.cellsOf g.type ≠ 0 := beq_false hz
    have hrun : ∀ (w : World) (k o : Nat), (Instr.fieldAt t (.pointer (some (at_ k o))) f).run X.P w = .ok (.pointer (some (at_ k (o + g.offset)))) w := by
      intro w k o
      simp only [Instr.fieldAt, Sem.run_bind, run_underlying' hu, Result.andThen_ok, hg, Instr.sureAddr, Sem.run_pure, fieldPlace, run_sizeOf' hne, if_neg hne, at_add]
    split at h
    · rename_i s e o
      refine ⟨_, fun β K' => by simp only [fieldAddrF, hf, hz, cond_false]; rfl, fun fr w A va hv => ?_⟩
      obtain ⟨h1, ⟨k, q, rfl⟩, b, hb, he, hh⟩ := hv.one_inv
      refine ⟨_, hrun w _ _, .one _ _ ⟨rfl, ⟨_, _, rfl⟩, b, hb, he, fun e1 => ?_⟩⟩
      have := hh e1
      simp at this
      simp [this, Nat.add_assoc]
    · rename_i s e i o
      refine ⟨_, fun β K' => by simp only [fieldAddrF, hf, hz, cond_false]; rfl, fun fr w A va hv => ?_⟩
      obtain ⟨h1, ⟨k, q, rfl⟩, b, hb, he, hh⟩ := hv.one_inv
      refine ⟨_, hrun w _ _, .one _ _ ⟨rfl, ⟨_, _, rfl⟩, b, hb, he, fun e1 => ?_⟩⟩
      obtain ⟨hi, gg, hg, hh⟩ := hh e1
      refine ⟨hi, gg, hg, ?_⟩
      simp at hh
      simp [hh, Nat.add_assoc]
    · rename_i esz row o
      refine ⟨_, fun β K' => by simp only [fieldAddrF, hf, hz, cond_false]; rfl, fun fr w A va hv => ?_⟩
      obtain ⟨h1, h2, gg, oo, rfl, hr⟩ := hv.one_inv
      exact ⟨_, hrun w _ _, .one _ _ ⟨rfl, h2, gg, oo, by rw [Nat.add_assoc], hr⟩⟩
    · cases h
  · cases h

theorem fieldF_ok {α : Type} {X : Env} {t : TypeId} {a : V} {f : Nat} {K : V → Option α} {r : α} (h : fieldF X t a f K = some r) :
    ∃ z, (∀ (β : Type) (K' : V → Option β), fieldF X t a f K' = K' z) ∧ ∀ (fr : Fr) (w : World) (A : As) (va : Value), RV fr w A a va → ∃ v, (Instr.field t va f).run X.P w = .ok v w ∧ RV fr w A z v := by
  unfold fieldF at h
  split at h
  · rename_i off ft cs hf
    replace h := bif_some h; obtain ⟨hc, h⟩ := h
    obtain ⟨fs, g, hu, hg, rfl, rfl⟩ := field_eq hf
    refine ⟨_, fun β K' => by simp only [fieldF, hf, hc, cond_true]; rfl, fun fr w A va hv => ?_⟩
    obtain ⟨vs, rfl, hr⟩ := hv.agg_inv
    simp only [Bool.and_eq_true, Nat.ble_eq] at hc
    have hl := hr.1
    refine ⟨_, ?_, RV.ofCells hc.2 ?_ (hr.cut g.offset (sz X.P g.type))⟩
    · simp only [Instr.field, Sem.run_bind, run_underlying' hu, Result.andThen_ok, hg, asAgg, Sem.run_pure]
      exact run_part (okT_und hc.2) vs g.offset (by simp at hl; have := hc.1; unfold sz at this; omega) (fun ha => by have := okT_sz hc.2 ha; unfold sz at this; omega) w
    · rw [List.length_take, List.length_drop]; have := hc.1; omega
  · cases h

theorem intT_ok {α : Type} {t : V} {K : Int → Option α} {r : α} (h : intT t K = some r) : ∃ n, (∀ (β : Type) (K' : Int → Option β), intT t K' = K' n) ∧ K n = some r ∧ ∀ (fr : Fr) (w : World) (A : As) (v : Value), RV fr w A t v → ∃ k, v = .int k n := by
  unfold intT at h
  split at h
  · rename_i x
    replace h := takeN_some h; obtain ⟨k, n, rfl, h⟩ := h
    exact ⟨n, fun β K' => rfl, h, fun fr w A v hv => ⟨k, hv.d_inv.int_inv⟩⟩
  · cases h

theorem inB_eq {i : Int} {n : Nat} (h : inB i n = true) : 0 ≤ i ∧ i < (n : Int) := by simpa [inB] using h

/-- What a data list is in memory. -/
theorem Rd.list_inv {Im : Pl} {esz : Nat} {rows : List (List D)} {v : Value} (h : Rd w Im (.list esz rows) v) : ∃ A c, v = .slice A rows.length c ∧ rows.length ≤ c ∧ (∀ row ∈ rows, row.length = esz) ∧
    (rows ≠ [] → ∃ g o, A = some (at_ g o) ∧ ∀ i row, rows[i]? = some row → ∀ (j : Nat) (d : D), row[j]? = some d → ∃ u, Im g (o + (i * esz + j)) ∧ w.cell? (at_ g (o + (i * esz + j))) = some u ∧ Rd w Im d u) := by
  cases h with
  | list _ _ A c vals hc hl ha hr =>
    refine ⟨A, c, rfl, hc, hl, fun hn => ?_⟩
    obtain ⟨g, o, rfl, h⟩ := ha hn
    refine ⟨g, o, rfl, fun i row hi j d hj => ?_⟩
    obtain ⟨_, _, hlt⟩ := row_in hl hi hj
    exact ⟨_, (h _ hlt).1, (h _ hlt).2, hr i row hi j d hj⟩
theorem Rd.mk_list {Im : Pl} {esz : Nat} {rows : List (List D)} {A : Option Addr} {c : Nat} (hc : rows.length ≤ c) (hl : ∀ row ∈ rows, row.length = esz)
    (h : rows ≠ [] → ∃ g o, A = some (at_ g o) ∧ ∀ i row, rows[i]? = some row → ∀ (j : Nat) (d : D), row[j]? = some d → ∃ u, Im g (o + (i * esz + j)) ∧ w.cell? (at_ g (o + (i * esz + j))) = some u ∧ Rd w Im d u) : Rd w Im (.list esz rows) (.slice A rows.length c) := by
  by_cases hn : rows = []
  · subst hn
    exact .list _ _ _ _ (fun _ => Go.undef) hc hl (fun h => absurd rfl h) fun i row hi => by simp at hi
  · obtain ⟨g, o, rfl, h'⟩ := h hn
    have key : ∀ q, q < rows.length * esz → ∃ i row j d, rows[i]? = some row ∧ row[j]? = some d ∧ q = i * esz + j := by
      intro q hq
      have he : 0 < esz := Nat.pos_of_ne_zero fun e => by subst e; simp at hq
      have hi : q / esz < rows.length := (Nat.div_lt_iff_lt_mul he).2 hq
      have hj : q % esz < rows[q / esz].length := by rw [hl _ (List.getElem_mem hi)]; exact Nat.mod_lt _ he
      exact ⟨q / esz, _, q % esz, _, List.getElem?_eq_getElem hi, List.getElem?_eq_getElem hj, by rw [Nat.mul_comm]; exact (Nat.div_add_mod q esz).symm⟩
    refine .list _ _ _ _ (fun q => (w.cell? (at_ g (o + q))).getD Go.undef) hc hl (fun _ => ⟨g, o, rfl, fun q hq => ?_⟩) fun i row hi j d hj => ?_
    · obtain ⟨i, row, j, d, hi, hj, rfl⟩ := key q hq
      obtain ⟨u, h1, h2, _⟩ := h' i row hi j d hj
      exact ⟨h1, by simp [h2]⟩
    · obtain ⟨u, h1, h2, h3⟩ := h' i row hi j d hj
      simpa [h2] using h3

theorem asIntOf_int (k : IntKind) (n : Int) (w : World) : (asIntOf (.int k n)).run P w = .ok (k, n) w := rfl

theorem indexAddrF_ok {α : Type} {X : Env} {t : TypeId} {a i : V} {K : Eff → Option α} {r : α} (h : indexAddrF X fr t a i K = some r) :
    ∃ x, (∀ (β : Type) (K' : Eff → Option β), indexAddrF X fr t a i K' = K' x) ∧ x.bx = [] ∧ x.tk = [] ∧
      ∀ (nt : Nat) (w0 : World) (S : Sp) (w : World) (A : As) (tmps : Array Value) (va vi : Value), St nt w0 S w A fr tmps → RV fr w A a va → RV fr w A i vi → ∃ v, (Instr.indexAt t va vi).run X.P w = .ok v w ∧ RV fr w A x.v v := by
  unfold indexAddrF at h
  split at h
  · rename_i e hu
    have hrun : ∀ (w : World) (k : IntKind) (n : Int) (g o len c : Nat), sz X.P e ≠ 0 → 0 ≤ n → n < (len : Int) → (Instr.indexAt t (.slice (some (at_ g o)) len c) (.int k n)).run X.P w = .ok (.pointer (some (at_ g (o + n.toNat * sz X.P e)))) w := by
      intro w k n g o len c hz h1 h2
      simp only [Instr.indexAt, Sem.run_bind, asIntOf_int, Result.andThen_ok, run_underlying' hu, Sem.run_pure, if_pos (And.intro h1 h2)]
      unfold sz at hz
      simp only [Sem.run_bind, run_sizeOf' hz, Result.andThen_ok, Sem.run_pure, at_add]
      rfl
    split at h
    · rename_i k ep
      split at h
      · rename_i y hy
        replace h := bif_some h; obtain ⟨hc, h⟩ := h
        replace h := intT_ok h; obtain ⟨n, hn, h, hv⟩ := h
        replace h := br_req h; obtain ⟨hb, h⟩ := h
        refine ⟨_, fun β K' => by simp only [indexAddrF, hu, hy, hc, cond_true, hn, hb, br]; rfl, rfl, rfl, fun nt w0 S w A tmps va vi hst ha hi => ?_⟩
        simp only [Bool.and_eq_true, Nat.beq_eq] at hc
        obtain ⟨kk, rfl⟩ := hv fr w A vi hi
        have := ha.own_inv hy hc.1
        subst this
        obtain ⟨h1, h2⟩ := inB_eq hb
        have hrel := (hst.tk k y hy).rel
        obtain ⟨a, c, e1, e2, e3⟩ := hrel.slice
        obtain ⟨g, hg, rfl⟩ := e3 (by omega)
        rw [e1]
        have hz : sz X.P e ≠ 0 := by rw [hg] at hrel; have := hrel.1; omega
        refine ⟨_, hrun w kk n g 0 _ c hz h1 h2, .one _ _ ⟨rfl, ⟨_, _, rfl⟩, y, hy, by omega, fun _ => ⟨by omega, g, hg, ?_⟩⟩⟩
        simp [hc.2]
      · cases h
    · rename_i k ep off len
      split at h
      · rename_i y hy
        replace h := bif_some h; obtain ⟨hc, h⟩ := h
        replace h := intT_ok h; obtain ⟨n, hn, h, hv⟩ := h
        replace h := br_req h; obtain ⟨hb, h⟩ := h
        refine ⟨_, fun β K' => by simp only [indexAddrF, hu, hy, hc, cond_true, hn, hb, br]; rfl, rfl, rfl, fun nt w0 S w A tmps va vi hst ha hi => ?_⟩
        simp only [Bool.and_eq_true, Nat.beq_eq] at hc
        obtain ⟨kk, rfl⟩ := hv fr w A vi hi
        obtain ⟨h0, a, c, rfl, e2, e3⟩ := ha.sub_inv hy hc.1
        obtain ⟨h1, h2⟩ := inB_eq hb
        have hrel := (hst.tk k y hy).rel
        obtain ⟨g, hg, rfl⟩ := e3 (by omega)
        have hz : sz X.P e ≠ 0 := by rw [hg] at hrel; have := hrel.1; omega
        refine ⟨_, hrun w kk n g _ _ c hz h1 h2, .one _ _ ⟨rfl, ⟨_, _, rfl⟩, y, hy, by omega, fun _ => ⟨by omega, g, hg, ?_⟩⟩⟩
        simp [hc.2, Nat.add_mul]
      · cases h
    · replace h := bif_not h; obtain ⟨hz0, h⟩ := h
      have hz := beq_false hz0
      replace h := takeL_some h; obtain ⟨e', rows, rfl, he, h⟩ := h
      replace h := intT_ok h; obtain ⟨n, hn, h, hv⟩ := h
      replace h := br_req h; obtain ⟨hb, h⟩ := h
      have hde := fun (β : Type) (K' : List D → Option β) => destrT_eq h K'
      refine ⟨_, fun β K' => by simp only [indexAddrF, hu, hz0, cond_false, takeL, if_pos he, hn, hb, br, hde]; rfl, rfl, rfl, fun nt w0 S w A tmps va vi hst ha hi => ?_⟩
      obtain ⟨kk, rfl⟩ := hv fr w A vi hi
      obtain ⟨h1, h2⟩ := inB_eq hb
      obtain ⟨a, c, rfl, e2, e3, e4⟩ := ha.d_inv.list_inv
      have hne : rows ≠ [] := fun e => by subst e; simp at h2; omega
      have he : e' = sz X.P e := he.resolve_right hne
      subst he
      obtain ⟨g, o, rfl, e5⟩ := e4 hne
      have hlt : n.toNat < rows.length := by omega
      have hrow : rows[n.toNat]? = some (rows.getD n.toNat []) := by simp [List.getD, List.getElem?_eq_getElem hlt]
      refine ⟨_, hrun w kk n g o _ c hz h1 h2, .one _ _ ⟨rfl, e3 _ (List.mem_of_getElem? hrow), g, o + n.toNat * sz X.P e, by simp, fun j d hj => ?_⟩⟩
      rw [Nat.add_assoc]
      exact e5 _ _ hrow j d hj
    · cases h
  · rename_i m e hu
    replace h := bif_not h; obtain ⟨hz0, h⟩ := h
    have hz := beq_false hz0
    replace h := intT_ok h; obtain ⟨n, hn, h, hv⟩ := h
    replace h := br_req h; obtain ⟨hb, h⟩ := h
    obtain ⟨h1, h2⟩ := inB_eq hb
    have hrun : ∀ (w : World) (k : IntKind) (g o : Nat), (Instr.indexAt t (.pointer (some (at_ g o))) (.int k n)).run X.P w = .ok (.pointer (some (at_ g (o + n.toNat * sz X.P e)))) w := by
      intro w k g o
      simp only [Instr.indexAt, Sem.run_bind, asIntOf_int, Result.andThen_ok, run_underlying' hu, Sem.run_pure, Instr.sureAddr, if_pos (And.intro h1 h2)]
      unfold sz at hz
      simp only [Sem.run_bind, run_sizeOf' hz, Result.andThen_ok, Sem.run_pure, at_add]
      rfl
    split at h
    · rename_i s ep o
      refine ⟨_, fun β K' => by simp only [indexAddrF, hu, hz0, cond_false, hn, hb, br]; rfl, rfl, rfl, fun nt w0 S w A tmps va vi hst ha hi => ?_⟩
      obtain ⟨kk, rfl⟩ := hv fr w A vi hi
      obtain ⟨_, ⟨k, q, rfl⟩, b, hb, he, hh⟩ := ha.one_inv
      refine ⟨_, hrun w kk _ _, .one _ _ ⟨rfl, ⟨_, _, rfl⟩, b, hb, he, fun e1 => ?_⟩⟩
      have := hh e1
      simp at this
      simp [this, Nat.add_assoc]
    · rename_i t' e' i' o
      refine ⟨_, fun β K' => by simp only [indexAddrF, hu, hz0, cond_false, hn, hb, br]; rfl, rfl, rfl, fun nt w0 S w A tmps va vi hst ha hi => ?_⟩
      obtain ⟨kk, rfl⟩ := hv fr w A vi hi
      obtain ⟨_, ⟨k, q, rfl⟩, b, hb, he, hh⟩ := ha.one_inv
      refine ⟨_, hrun w kk _ _, .one _ _ ⟨rfl, ⟨_, _, rfl⟩, b, hb, he, fun e1 => ?_⟩⟩
      obtain ⟨hi, gg, hg, hh⟩ := hh e1
      refine ⟨hi, gg, hg, ?_⟩
      simp at hh
      simp [hh, Nat.add_assoc]
    · rename_i esz row o
      refine ⟨_, fun β K' => by simp only [indexAddrF, hu, hz0, cond_false, hn, hb, br]; rfl, rfl, rfl, fun nt w0 S w A tmps va vi hst ha hi => ?_⟩
      obtain ⟨kk, rfl⟩ := hv fr w A vi hi
      obtain ⟨_, h2, gg, oo, rfl, hr⟩ := ha.one_inv
      exact ⟨_, hrun w kk _ _, .one _ _ ⟨rfl, h2, gg, oo, by rw [Nat.add_assoc], hr⟩⟩
    · cases h
  · cases h

theorem indexF_ok {α : Type} {X : Env} {t : TypeId} {a i : V} {K : V → Option α} {r : α} (h : indexF X t a i K = some r) :
    ∃ z, (∀ (β : Type) (K' : V → Option β), indexF X t a i K' = K' z) ∧ ∀ (fr : Fr) (w : World) (A : As) (va vi : Value), RV fr w A a va → RV fr w A i vi → ∃ v, (Instr.index t va vi).run X.P w = .ok v w ∧ RV fr w A z v := by
  unfold indexF at h
  split at h
  · rename_i x hu
    replace h := takeS_some h; obtain ⟨s, rfl, h⟩ := h
    replace h := intT_ok h; obtain ⟨n, hn, h, hv⟩ := h
    replace h := br_req h; obtain ⟨hb, h⟩ := h
    refine ⟨_, fun β K' => by simp only [indexF, hu, takeS, hn, hb, br]; rfl, fun fr w A va vi ha hi => ?_⟩
    obtain ⟨kk, rfl⟩ := hv fr w A vi hi
    rw [ha.d_inv.str_inv]
    obtain ⟨h1, h2⟩ := inB_eq hb
    have hlt : n.toNat < s.size := by omega
    have hg : s[n.toNat]? = some (s.data.toList.getD n.toNat 0) := by
      rw [getElem?_pos s n.toNat hlt]
      have hl : n.toNat < s.data.toList.length := by rw [Array.length_toList]; exact hlt
      simp only [List.getD_eq_getElem?_getD, List.getElem?_eq_getElem hl, Option.getD_some, Array.getElem_toList]
      rfl
    refine ⟨_, ?_, RV.int _ _⟩
    simp only [Instr.index, Sem.run_bind, asIntOf_int, Result.andThen_ok, run_underlying' hu, if_pos h1, hg, Sem.run_pure]
  · cases h

theorem lenF_ok {α : Type} {X : Env} {t : TypeId} {a : V} {K : Eff → Option α} {r : α} (h : lenF X fr t a K = some r) :
    ∃ x, (∀ (β : Type) (K' : Eff → Option β), lenF X fr t a K' = K' x) ∧ x.bx = [] ∧ x.tk = [] ∧
      ∀ (nt : Nat) (w0 : World) (S : Sp) (w : World) (A : As) (tmps : Array Value) (va : Value) (ty : TypeId) (ts : Array TypeId), ts[0]? = some t → St nt w0 S w A fr tmps → RV fr w A a va → ∃ v, (Builtin.len_ ts ty #[va]).run X.P w = .ok v w ∧ RV fr w A x.v v := by
  unfold lenF at h
  split at h
  · rename_i x hu
    replace h := takeS_some h; obtain ⟨s, rfl, h⟩ := h
    refine ⟨_, fun β K' => by simp only [lenF, hu, takeS]; rfl, rfl, rfl, fun nt w0 S w A tmps va ty ts hts hst ha => ?_⟩
    rw [ha.d_inv.str_inv]
    exact ⟨_, by simp [Builtin.len_, hts, run_underlying' hu]; rfl, RV.int _ _⟩
  · rename_i n e hu
    refine ⟨_, fun β K' => by simp only [lenF, hu]; rfl, rfl, rfl, fun nt w0 S w A tmps va ty ts hts hst ha => ?_⟩
    exact ⟨_, by simp [Builtin.len_, hts, run_underlying' hu]; rfl, RV.int _ _⟩
  · rename_i e hu
    refine ⟨_, fun β K' => by simp only [lenF, hu]; rfl, rfl, rfl, fun nt w0 S w A tmps va ty ts hts hst ha => ?_⟩
    obtain ⟨_, q, rfl⟩ := ha.one_inv
    exact ⟨_, by simp [Builtin.len_, hts, run_underlying' hu]; rfl, RV.int _ _⟩
  · rename_i e x hu
    replace h := takeR_some h; obtain ⟨esz, rows, rfl, h⟩ := h
    refine ⟨_, fun β K' => by simp only [lenF, hu, takeR]; rfl, rfl, rfl, fun nt w0 S w A tmps va ty ts hts hst ha => ?_⟩
    obtain ⟨q, c, rfl, _⟩ := ha.d_inv.list_inv
    exact ⟨_, by simp [Builtin.len_, hts, run_underlying' hu]; rfl, RV.int _ _⟩
  · rename_i e k ep hu
    split at h
    · rename_i y hy
      replace h := bif_some h; obtain ⟨hc, h⟩ := h
      refine ⟨_, fun β K' => by simp only [lenF, hu, hy, hc, cond_true]; rfl, rfl, rfl, fun nt w0 S w A tmps va ty ts hts hst ha => ?_⟩
      have := ha.own_inv hy (Nat.eq_of_beq_eq_true hc)
      subst this
      obtain ⟨q, c, e1, _⟩ := (hst.tk k y hy).rel.slice
      rw [e1]
      exact ⟨_, by simp [Builtin.len_, hts, run_underlying' hu]; rfl, RV.int _ _⟩
    · cases h
  · rename_i e k ep off len hu
    split at h
    · rename_i y hy
      replace h := bif_some h; obtain ⟨hc, h⟩ := h
      refine ⟨_, fun β K' => by simp only [lenF, hu, hy, hc, cond_true]; rfl, rfl, rfl, fun nt w0 S w A tmps va ty ts hts hst ha => ?_⟩
      obtain ⟨_, q, c, rfl, _⟩ := ha.sub_inv hy (Nat.eq_of_beq_eq_true hc)
      exact ⟨_, by simp [Builtin.len_, hts, run_underlying' hu]; rfl, RV.int _ _⟩
    · cases h
  · cases h

theorem minF_ok {α : Type} (mx : Bool) (k : IntKind) : ∀ (vs : List V) {a : Int} {K : V → Option α} {r : α}, minF mx k a vs K = some r →
    ∃ z, (∀ (β : Type) (K' : V → Option β), minF mx k a vs K' = K' z) ∧ ∀ (fr : Fr) (w : World) (A : As) (us : List Value), us.length = vs.length → (∀ (j : Nat) (x : V) (u : Value), vs[j]? = some x → us[j]? = some u → RV fr w A x u) →
      ∃ v, (us.foldlM (if mx then Builtin.max2 else Builtin.min2) (.int k a)).run P w = .ok v w ∧ RV fr w A z v
  | [], a, K, r, h => ⟨_, fun _ _ => rfl, fun fr w A us hl _ => by
      have : us = [] := List.length_eq_zero_iff.1 hl
      subst this
      exact ⟨_, rfl, RV.int _ _⟩⟩
  | .one (.d y) :: vs, a, K, r, h => by
    replace h := takeI_some h; obtain ⟨b, rfl, h⟩ := h
    obtain ⟨z, hz, hh⟩ := minF_ok mx k vs h
    refine ⟨z, fun β K' => by simp only [minF, takeI, if_true]; exact hz β K', fun fr w A us hl hr => ?_⟩
    match us, hl with
    | u :: us, hl =>
      have := (hr 0 _ u rfl rfl).d_inv.int_inv
      subst this
      obtain ⟨v, h1, h2⟩ := hh fr w A us (by simpa using hl) fun j x u h1 h2 => hr (j + 1) x u (by simpa using h1) (by simpa using h2)
      refine ⟨v, ?_, h2⟩
      cases mx <;> simp only [List.foldlM_cons, Sem.run_bind, Bool.false_eq_true, if_false, if_true, Builtin.min2, Builtin.max2, Sem.run_pure, Result.andThen_ok] <;> simpa using h1
  | .one .nil0 :: vs, a, K, r, h => by cases h
  | .one (.own _ _) :: vs, a, K, r, h => by cases h
  | .one (.sub _ _ _ _) :: vs, a, K, r, h => by cases h
  | .one (.ptr _ _ _) :: vs, a, K, r, h => by cases h
  | .one (.tptr _ _ _ _) :: vs, a, K, r, h => by cases h
  | .one (.rptr _ _ _) :: vs, a, K, r, h => by cases h
  | .one (.fn _ _ _) :: vs, a, K, r, h => by cases h
  | .one .undef :: vs, a, K, r, h => by cases h
  | .agg _ :: vs, a, K, r, h => by cases h
  | .tup _ :: vs, a, K, r, h => by cases h
  | .skip :: vs, a, K, r, h => by cases h
  | .any :: vs, a, K, r, h => by cases h

end Go.Vm

/- Cuts of slices; what is appended. -/
set_option linter.unusedVariables false
set_option linter.unusedSimpArgs false
namespace Go.Vm

variable {fr : Fr} {w : World} {A : As} {P : Program} {nt : Nat} {w0 : World} {S : Sp} {tmps : Array Value}

theorem run_bound (k : IntKind) (n : Int) (y : Nat) (code : BoundsCode) (h0 : 0 ≤ n) (h1 : n ≤ (y : Int)) (w : World) : (Instr.sliceBound (.int k n) y code).run P w = .ok n.toNat w := by
  simp only [Instr.sliceBound, Sem.run_bind, asIntOf_int, Result.andThen_ok, if_pos (And.intro h0 h1), Sem.run_pure]

/-- The values of optional operands. -/
def OV (fr : Fr) (w : World) (A : As) (x : Option V) (v : Option Value) : Prop := match x, v with
  | none, none => True
  | some x, some v => RV fr w A x v
  | _, _ => False

theorem cutLo_ok {α : Type} {lo : Option V} {q : Nat} {K : Nat → Option α} {r : α} (h : cutLo lo q K = some r) :
    ∃ l, (∀ (β : Type) (K' : Nat → Option β), cutLo lo q K' = K' l) ∧ K l = some r ∧ l ≤ q ∧
      ∀ (fr : Fr) (w : World) (A : As) (vl : Option Value), OV fr w A lo vl → (vl = none ∧ l = 0) ∨ ∃ k x, vl = some (.int k x) ∧ 0 ≤ x ∧ x ≤ (q : Int) ∧ l = x.toNat := by
  cases lo with
  | none => exact ⟨0, fun _ _ => rfl, h, Nat.zero_le _, fun fr w A vl hv => by cases vl with | none => exact .inl ⟨rfl, rfl⟩ | some v => exact hv.elim⟩
  | some lo =>
    simp only [cutLo] at h
    replace h := intT_ok h; obtain ⟨n, hn, h, hv⟩ := h
    replace h := br_req h; obtain ⟨hb, h⟩ := h
    have hb' : 0 ≤ n ∧ n ≤ (q : Int) := by simpa using hb
    refine ⟨n.toNat, fun β K' => by simp only [cutLo, hn, hb, br], h, by omega, fun fr w A vl ho => ?_⟩
    cases vl with
    | none => exact ho.elim
    | some v =>
      obtain ⟨k, rfl⟩ := hv fr w A v ho
      exact .inr ⟨k, n, rfl, hb'.1, hb'.2, rfl⟩

/-- The values of bounds l ≤ q ≤ len. -/
def Bd (vl vh : Option Value) (l q len : Nat) : Prop :=
  ((vl = none ∧ l = 0) ∨ ∃ k x, vl = some (.int k x) ∧ 0 ≤ x ∧ x ≤ (q : Int) ∧ l = x.toNat) ∧ ((vh = none ∧ q = len) ∨ ∃ k x, vh = some (.int k x) ∧ 0 ≤ x ∧ x ≤ (len : Int) ∧ q = x.toNat)
theorem cutB_ok {α : Type} {lo hi : Option V} {len : Nat} {K : Nat → Nat → Option α} {r : α} (h : cutB lo hi len K = some r) :
    ∃ l q, (∀ (β : Type) (K' : Nat → Nat → Option β), cutB lo hi len K' = K' l q) ∧ K l q = some r ∧ l ≤ q ∧ q ≤ len ∧
      ∀ (fr : Fr) (w : World) (A : As) (vl vh : Option Value), OV fr w A lo vl → OV fr w A hi vh → Bd vl vh l q len := by
  cases hi with
  | none =>
    simp only [cutB] at h
    obtain ⟨l, h1, h2, h3, h4⟩ := cutLo_ok h
    refine ⟨l, len, fun β K' => by simp only [cutB]; exact h1 β _, h2, h3, Nat.le_refl _, fun fr w A vl vh ol oh => ⟨h4 fr w A vl ol, ?_⟩⟩
    cases vh with
    | some v => exact oh.elim
    | none => exact .inl ⟨rfl, rfl⟩
  | some hi =>
    simp only [cutB] at h
    replace h := intT_ok h; obtain ⟨n, hn, h, hv⟩ := h
    replace h := br_req h; obtain ⟨hb, h⟩ := h
    have hb' : 0 ≤ n ∧ n ≤ (len : Int) := by simpa using hb
    obtain ⟨l, h1, h2, h3, h4⟩ := cutLo_ok h
    refine ⟨l, n.toNat, fun β K' => by simp only [cutB, hn, hb, br]; exact h1 β _, h2, h3, by omega, fun fr w A vl vh ol oh => ⟨h4 fr w A vl ol, ?_⟩⟩
    cases vh with
    | none => exact oh.elim
    | some v =>
      obtain ⟨k, rfl⟩ := hv fr w A v oh
      exact .inr ⟨k, n, rfl, hb'.1, hb'.2, rfl⟩

theorem Bd.run {vl vh : Option Value} {l q len : Nat} (h : Bd vl vh l q len) {cap : Nat} (hc : len ≤ cap) (b : Bool) (w : World) : (Instr.sliceBounds b len cap vl vh none).run P w = .ok (l, q, cap) w := by
  obtain ⟨h1, h2⟩ := h
  rcases h1 with ⟨rfl, rfl⟩ | ⟨k, x, rfl, x0, x1, rfl⟩ <;> rcases h2 with ⟨rfl, rfl⟩ | ⟨k', y, rfl, y0, y1, rfl⟩
  · simp [Instr.sliceBounds]
  · simp only [Instr.sliceBounds, Sem.run_bind, Sem.run_pure, Result.andThen_ok, run_bound (P := P) k' y cap _ y0 (by omega) w]
  · simp only [Instr.sliceBounds, Sem.run_bind, Sem.run_pure, Result.andThen_ok, run_bound (P := P) k x q _ x0 x1 w]
  · simp only [Instr.sliceBounds, Sem.run_bind, Sem.run_pure, Result.andThen_ok, run_bound (P := P) k' y cap _ y0 (by omega) w, run_bound (P := P) k x y.toNat _ x0 x1 w]
theorem Bd.runMax {vl vh : Option Value} {l q : Nat} {k : IntKind} {n : Int} (h : Bd vl vh l q n.toNat) (hs : vh.isSome) (h0 : 0 ≤ n) {len cap : Nat} (hc : n ≤ (cap : Int)) (b : Bool) (w : World) :
    (Instr.sliceBounds b len cap vl vh (some (.int k n))).run P w = .ok (l, q, n.toNat) w := by
  obtain ⟨h1, h2⟩ := h
  rcases h2 with ⟨rfl, _⟩ | ⟨k', y, rfl, y0, y1, rfl⟩
  · cases hs
  rcases h1 with ⟨rfl, rfl⟩ | ⟨k'', x, rfl, x0, x1, rfl⟩
  · simp only [Instr.sliceBounds, Sem.run_bind, Sem.run_pure, Result.andThen_ok, run_bound (P := P) k n cap _ h0 hc w, run_bound (P := P) k' y n.toNat _ y0 y1 w]
  · simp only [Instr.sliceBounds, Sem.run_bind, Sem.run_pure, Result.andThen_ok, run_bound (P := P) k n cap _ h0 hc w, run_bound (P := P) k' y n.toNat _ y0 y1 w, run_bound (P := P) k'' x y.toNat _ x0 x1 w]

/-- A cut of a slice in memory, from the bounds. -/
theorem run_cut {t e : TypeId} (hu : P.underlying t = some (.slice e)) (hz : sz P e ≠ 0) (a : Option Addr) (len cap : Nat) (vl vh vm : Option Value) {l q m : Nat} {w : World} (h : (Instr.sliceBounds true len cap vl vh vm).run P w = .ok (l, q, m) w) :
    (Instr.sliceAt t (.slice a len cap) vl vh vm).run P w = .ok (.slice (if m = l then a else a.map (·.add (l * sz P e))) (q - l) (m - l)) w := by
  unfold sz at *
  simp only [Instr.sliceAt, Sem.run_bind, run_underlying' hu, Result.andThen_ok, Instr.slice, h, run_sizeOf' hz, Sem.run_pure]

theorem OV.of {a : Act} (h : St nt w0 S w A fr a.tmps) (o : Option Operand) : OV fr w A (o.map (val fr)) (o.map a.eval) := by
  cases o with
  | none => trivial
  | some x => exact val_rv h x

theorem zeroO_eq {o : Option Operand} (h : zeroO o = true) : ∃ k, o = some (.const (.int k 0)) := by
  unfold zeroO at h
  split at h
  · exact ⟨_, rfl⟩
  · cases h

/-- Cut whatever way the text says, with or without a third bound: the bounds come out. -/
theorem cut_any {α : Type} {lo hi mx : Option Operand} {len : Nat} {K2 : Nat → Nat → Option α} {N : Option α} {r : α}
    (h : cutMx fr lo hi mx len N K2 = some r) :
    ((lo.isNone && zeroO hi && zeroO mx) = true ∧ N = some r ∧ (∀ (β : Type) (K' : Nat → Nat → Option β) (N' : Option β), cutMx fr lo hi mx len N' K' = N')) ∨
    ∃ l q, K2 l q = some r ∧ l ≤ q ∧ q ≤ len ∧ (∀ (β : Type) (K' : Nat → Nat → Option β) (N' : Option β), cutMx fr lo hi mx len N' K' = K' l q) ∧
      ∀ (nt : Nat) (w0 : World) (S : Sp) (w : World) (A : As) (a : Act) (cap : Nat) (P : Program), St nt w0 S w A fr a.tmps → len ≤ cap → ∃ m, q ≤ m ∧ m ≤ cap ∧ (Instr.sliceBounds true len cap (lo.map a.eval) (hi.map a.eval) (mx.map a.eval)).run P w = .ok (l, q, m) w := by
  cases mx with
  | none =>
    simp only [cutMx] at h
    obtain ⟨l, q, hK, h, h1, h2, hbd⟩ := cutB_ok h
    refine .inr ⟨l, q, h, h1, h2, fun β K' N' => by simp only [cutMx]; exact hK β K', fun nt w0 S w A a cap P hst hc => ⟨cap, by omega, Nat.le_refl _, ?_⟩⟩
    exact (hbd fr w A _ _ (OV.of hst lo) (OV.of hst hi)).run hc true w
  | some m =>
    cases hi with
    | none => simp [cutMx] at h
    | some hi =>
      simp only [cutMx] at h
      cases hz : (lo.isNone && zeroO (some hi) && zeroO (some m)) with
      | true =>
        rw [hz, cond_true] at h
        exact .inl ⟨rfl, h, fun β K' N' => by simp only [cutMx, hz, cond_true]⟩
      | false =>
        rw [hz, cond_false] at h
        replace h := intT_ok h; obtain ⟨n, hn, h, hv⟩ := h
        replace h := br_req h; obtain ⟨hb, h⟩ := h
        have hb' : 0 ≤ n ∧ n ≤ (len : Int) := by simpa using hb
        obtain ⟨l, q, hK, h, h1, h2, hbd⟩ := cutB_ok h
        refine .inr ⟨l, q, h, h1, by omega, fun β K' N' => by simp only [cutMx, hz, cond_false, hn, hb, br]; exact hK β K', fun nt w0 S w A a cap P hst hc => ⟨n.toNat, h2, by omega, ?_⟩⟩
        obtain ⟨k, hk⟩ := hv fr w A (a.eval m) (val_rv hst m)
        simp only [Option.map_some, hk]
        exact (hbd fr w A _ _ (OV.of hst lo) (OV.of hst (some hi))).runMax rfl hb'.1 (by omega) true w

theorem sliceF_ok {α : Type} {X : Env} {t : TypeId} {x : V} {lo hi mx : Option Operand} {K : Eff → Option α} {r : α} (h : sliceF X fr t x lo hi mx K = some r) :
    ∃ z, (∀ (β : Type) (K' : Eff → Option β), sliceF X fr t x lo hi mx K' = K' z) ∧ z.bx = [] ∧ z.tk = [] ∧
      ∀ (nt : Nat) (w0 : World) (S : Sp) (w : World) (A : As) (a : Act) (vx : Value), St nt w0 S w A fr a.tmps → RV fr w A x vx →
        ∃ v, (Instr.sliceAt t vx (lo.map a.eval) (hi.map a.eval) (mx.map a.eval)).run X.P w = .ok v w ∧ RV fr w A z.v v := by
  unfold sliceF at h
  split at h
  · rename_i hu
    split at h
    · rename_i x
      replace h := takeS_some h; obtain ⟨s, rfl, h⟩ := h
      obtain ⟨l, q, hK, h, h1, h2, hbd⟩ := cutB_ok h
      refine ⟨_, fun β K' => by simp only [sliceF, hu, takeS, hK]; rfl, rfl, rfl, fun nt w0 S w A a vx hst hx => ?_⟩
      rw [hx.d_inv.str_inv]
      have hb := hbd fr w A _ _ (OV.of hst lo) (OV.of hst hi)
      refine ⟨.string (s.extract l q), ?_, RV.str _⟩
      simp only [Instr.sliceAt, Sem.run_bind, run_underlying' hu, Result.andThen_ok, Instr.slice, Option.map_none, Option.isSome_none, Bool.false_eq_true, if_false, Sem.run_pure, hb.run (P := X.P) (Nat.le_refl _) false w]
    · cases h
  · rename_i e hu
    replace h := bif_not h; obtain ⟨hz0, h⟩ := h
    have hz := beq_false hz0
    -- s[:0:0]
    have zero : ∀ (nt : Nat) (w0 : World) (S : Sp) (w : World) (A : As) (a : Act) (ad : Option Addr) (len cap : Nat), (lo.isNone && zeroO hi && zeroO mx) = true → ∃ v, (Instr.sliceAt t (.slice ad len cap) (lo.map a.eval) (hi.map a.eval) (mx.map a.eval)).run X.P w = .ok v w ∧ RV fr w A (.one .nil0) v := by
      intro nt w0 S w A a ad len cap hh
      simp only [Bool.and_eq_true] at hh
      obtain ⟨⟨h1, h2⟩, h3⟩ := hh
      obtain ⟨k1, rfl⟩ := zeroO_eq h2
      obtain ⟨k2, rfl⟩ := zeroO_eq h3
      have : lo = none := by simpa using h1
      subst this
      refine ⟨.slice ad 0 0, ?_, .one _ _ ⟨rfl, ad, rfl⟩⟩
      have hb : Bd (none : Option Value) (some (.int k1 0)) 0 0 (0 : Int).toNat := ⟨.inl ⟨rfl, rfl⟩, .inr ⟨k1, 0, rfl, by omega, by omega, rfl⟩⟩
      have := run_cut (P := X.P) hu hz ad len cap none (some (.int k1 0)) (some (.int k2 0)) (hb.runMax (P := X.P) (len := len) (cap := cap) (k := k2) rfl (by omega) (by omega) true w)
      simpa [Act.eval] using this
    split at h
    · rename_i k ep
      split at h
      · rename_i y hy
        replace h := bif_some h; obtain ⟨hc, h⟩ := h
        have hcc := hc
        simp only [Bool.and_eq_true, Bool.or_eq_true, Nat.beq_eq] at hc
        rcases cut_any h with ⟨hh, h, hK⟩ | ⟨l, q, h, h1, h2, hK, hrun⟩
        · refine ⟨_, fun β K' => by simp only [sliceF, hu, hz0, cond_false, hy, hcc, cond_true]; exact hK β _ _, rfl, rfl, fun nt w0 S w A a vx hst hx => ?_⟩
          have := hx.own_inv hy hc.1
          subst this
          obtain ⟨ad, c, e1, e2, e3⟩ := (hst.tk k y hy).rel.slice
          rw [e1]
          exact zero nt w0 S w A a ad _ _ hh
        · refine ⟨_, fun β K' => by simp only [sliceF, hu, hz0, cond_false, hy, hcc, cond_true]; exact hK β _ _, rfl, rfl, fun nt w0 S w A a vx hst hx => ?_⟩
          have := hx.own_inv hy hc.1
          subst this
          have hrel := (hst.tk k y hy).rel
          obtain ⟨ad, c, e1, e2, e3⟩ := hrel.slice
          rw [e1]
          obtain ⟨m, m1, m2, hb⟩ := hrun nt w0 S w A a c X.P hst e2
          refine ⟨_, run_cut hu hz ad _ c _ _ _ hb, .one _ _ ⟨rfl, y, hy, by omega, fun _ => ⟨by omega, _, _, rfl, by omega, fun h0 => ?_⟩⟩⟩
          obtain ⟨g, hg, rfl⟩ := e3 (by omega)
          refine ⟨g, hg, ?_⟩
          rw [hg] at hrel
          have := hrel.1
          rw [if_neg (by omega), hc.2.resolve_right (by omega)]
          simp [at_add]
      · cases h
    · rename_i k ep off len
      split at h
      · rename_i y hy
        replace h := bif_some h; obtain ⟨hc, h⟩ := h
        have hcc := hc
        simp only [Bool.and_eq_true, Bool.or_eq_true, Nat.beq_eq] at hc
        rcases cut_any h with ⟨hh, h, hK⟩ | ⟨l, q, h, h1, h2, hK, hrun⟩
        · refine ⟨_, fun β K' => by simp only [sliceF, hu, hz0, cond_false, hy, hcc, cond_true]; exact hK β _ _, rfl, rfl, fun nt w0 S w A a vx hst hx => ?_⟩
          obtain ⟨_, ad, c, rfl, e2, e3⟩ := hx.sub_inv hy hc.1
          exact zero nt w0 S w A a ad _ _ hh
        · refine ⟨_, fun β K' => by simp only [sliceF, hu, hz0, cond_false, hy, hcc, cond_true]; exact hK β _ _, rfl, rfl, fun nt w0 S w A a vx hst hx => ?_⟩
          have hrel := (hst.tk k y hy).rel
          obtain ⟨e0, ad, c, rfl, e2, e3⟩ := hx.sub_inv hy hc.1
          obtain ⟨m, m1, m2, hb⟩ := hrun nt w0 S w A a c X.P hst e2
          refine ⟨_, run_cut hu hz ad _ c _ _ _ hb, .one _ _ ⟨rfl, y, hy, by omega, fun _ => ⟨by omega, _, _, rfl, by omega, fun h0 => ?_⟩⟩⟩
          obtain ⟨g, hg, rfl⟩ := e3 (by omega)
          refine ⟨g, hg, ?_⟩
          rw [hg] at hrel
          have := hrel.1
          rw [if_neg (by omega), hc.2.resolve_right (by omega)]
          simp [Nat.add_mul, at_add]
      · cases h
    · rcases cut_any h with ⟨hh, h, hK⟩ | ⟨l, q, h, h1, h2, hK, hrun⟩
      · refine ⟨_, fun β K' => by simp only [sliceF, hu, hz0, cond_false]; exact hK β _ _, rfl, rfl, fun nt w0 S w A a vx hst hx => ?_⟩
        obtain ⟨_, ad, rfl⟩ := hx.one_inv
        exact zero nt w0 S w A a ad _ _ hh
      · refine ⟨_, fun β K' => by simp only [sliceF, hu, hz0, cond_false]; exact hK β _ _, rfl, rfl, fun nt w0 S w A a vx hst hx => ?_⟩
        obtain ⟨_, ad, rfl⟩ := hx.one_inv
        obtain ⟨m, m1, m2, hb⟩ := hrun nt w0 S w A a 0 X.P hst (by omega)
        have hm : m = 0 := by omega
        have hq : q = 0 := by omega
        have hl : l = 0 := by omega
        subst hm hq hl
        exact ⟨_, run_cut hu hz ad _ 0 _ _ _ hb, .one _ _ ⟨rfl, _, rfl⟩⟩
    · replace h := takeL_some h; obtain ⟨e', rows, rfl, he, h⟩ := h
      rcases cut_any h with ⟨hh, h, hK⟩ | ⟨l, q, h, h1, h2, hK, hrun⟩
      · refine ⟨_, fun β K' => by simp only [sliceF, hu, hz0, cond_false, takeL, if_pos he]; exact hK β _ _, rfl, rfl, fun nt w0 S w A a vx hst hx => ?_⟩
        obtain ⟨ad, c, rfl, _⟩ := hx.d_inv.list_inv
        exact zero nt w0 S w A a ad _ _ hh
      · refine ⟨_, fun β K' => by simp only [sliceF, hu, hz0, cond_false, takeL, if_pos he]; exact hK β _ _, rfl, rfl, fun nt w0 S w A a vx hst hx => ?_⟩
        obtain ⟨ad, c, rfl, e2, e3, e4⟩ := hx.d_inv.list_inv
        obtain ⟨m, m1, m2, hb⟩ := hrun nt w0 S w A a c X.P hst e2
        refine ⟨_, run_cut hu hz ad _ c _ _ _ hb, .one _ _ ⟨rfl, ?_⟩⟩
        have hlen : ((rows.take q).drop l).length = q - l := by rw [List.length_drop, List.length_take]; omega
        have hmk := Rd.mk_list (w := w) (Im := A.Im) (esz := sz X.P e) (rows := (rows.take q).drop l) (A := if m = l then ad else ad.map (·.add (l * sz X.P e))) (c := m - l) (by omega) (fun row hr => ?_) (fun hne => ?_)
        · rwa [hlen] at hmk
        · have hr' := List.mem_of_mem_take (List.mem_of_mem_drop hr)
          rw [e3 row hr']
          exact he.resolve_right fun h => by subst h; cases hr'
        · have hn0 : rows ≠ [] := fun h => by subst h; simp at hne
          have he' := he.resolve_right hn0
          subst he'
          obtain ⟨g, o, rfl, e5⟩ := e4 hn0
          have hql : l < q := by
            have : 0 < ((rows.take q).drop l).length := List.length_pos_iff.2 hne
            omega
          refine ⟨g, o + l * sz X.P e, by rw [if_neg (by omega)]; simp [at_add], fun i row hi j d hj => ?_⟩
          rw [List.getElem?_drop, List.getElem?_take] at hi
          split at hi
          · have := e5 _ row hi j d hj
            rw [show o + l * sz X.P e + (i * sz X.P e + j) = o + ((l + i) * sz X.P e + j) by rw [Nat.add_mul]; omega]
            exact this
          · cases hi
    · cases h
  · cases h

end Go.Vm

/- New variables, new slices, stores, appends: how the state goes on. -/
set_option linter.unusedVariables false
set_option linter.unusedSimpArgs false
namespace Go.Vm

variable {nt : Nat} {w0 : World} {S : Sp} {w : World} {A : As} {fr : Fr} {tmps : Array Value} {P : Program}

theorem nextB_lt {s : Nat} {b : Bx} (h : fr.bx s = some b) : b.e < nextB fr s := by simp [nextB, h]
theorem nextT_lt {s : Nat} {b : Tk} (h : fr.tk s = some b) : b.e < nextT fr s := by simp [nextT, h]

theorem getC {cs : List C} {vs : List Value} (h : RCs fr w A cs vs) {j : Nat} {c : C} (hj : cs[j]? = some c) : ∃ v, vs[j]? = some v ∧ RC fr w A c v := by
  have h1 := (List.getElem?_eq_some_iff.1 hj).1
  have h2 : j < vs.length := by rw [h.1]; exact h1
  exact ⟨_, List.getElem?_eq_getElem h2, h.2 j c _ hj (List.getElem?_eq_getElem h2)⟩
theorem getVs {cs : List C} {vs : List Value} (h : RCs fr w A cs vs) {j : Nat} {v : Value} (hj : vs[j]? = some v) : ∃ c, cs[j]? = some c ∧ RC fr w A c v := by
  have h1 := (List.getElem?_eq_some_iff.1 hj).1
  have h2 : j < cs.length := by rw [← h.1]; exact h1
  exact ⟨_, List.getElem?_eq_getElem h2, h.2 j _ v (List.getElem?_eq_getElem h2) hj⟩

theorem cell_new (w : World) (vs : Array Value) (t : TypeId) (j : Nat) : (w.alloc (.cells vs t)).cell? (at_ w.heap.size j) = vs[j]? := World.cell?_alloc_new w vs t j
theorem frozen_new (w : World) (vs : Array Value) (t : TypeId) (j : Nat) : (w.alloc (.cells vs t)).frozen? (at_ w.heap.size j) = false := World.frozen?_alloc_new w vs t j
theorem cell_alloc (w : World) (o : Obj) {k : Nat} (j : Nat) (h : k < w.heap.size) : (w.alloc o).cell? (at_ k j) = w.cell? (at_ k j) := World.cell?_alloc_lt (a := at_ k j) w o h

/-- A new variable. -/
def As.newBox (A : As) (s g : Nat) : As := { A with β := upd A.β s (at_ g 0), own := fun k o => if k = g then .b s else A.own k o }
theorem St.newBox (h : St nt w0 S w A fr tmps) (s : Nat) {cs : List C} {vs : List Value} (t : TypeId) (hr : RCs fr w A cs vs) :
    Upd w0 S w A fr (w.alloc (.cells vs.toArray t)) (A.newBox s w.heap.size) { fr with bx := upd fr.bx s (some ⟨nextB fr s, cs⟩) } (fun _ _ => False) ∧
    St nt w0 S (w.alloc (.cells vs.toArray t)) (A.newBox s w.heap.size) { fr with bx := upd fr.bx s (some ⟨nextB fr s, cs⟩) } tmps ∧
    RV { fr with bx := upd fr.bx s (some ⟨nextB fr s, cs⟩) } (w.alloc (.cells vs.toArray t)) (A.newBox s w.heap.size) (.one (.ptr s (nextB fr s) 0)) (.pointer (some (at_ w.heap.size 0))) := by
  have u : Upd w0 S w A fr (w.alloc (.cells vs.toArray t)) (A.newBox s w.heap.size) { fr with bx := upd fr.bx s (some ⟨nextB fr s, cs⟩) } (fun _ _ => False) := by
    refine ⟨Keep.alloc _ _ _, fun _ _ h => h.elim, fun _ _ _ h => h, rfl, fun _ _ h => h, fun k o hk _ => ?_, fun s' b hb => ?_, fun t k hk => ⟨k, hk, .inr ⟨rfl, rfl, rfl, rfl, rfl⟩⟩⟩
    · simp only [As.newBox]; rw [if_neg (by omega)]
    · by_cases hs : s' = s
      · subst hs
        exact ⟨_, upd_same _ _ _, .inl (nextB_lt hb)⟩
      · exact ⟨b, (upd_ne _ _ hs).trans hb, .inr ⟨rfl, upd_ne _ _ hs⟩⟩
  have hw0 := h.keep.size
  refine ⟨u, h.of_upd u (fun s' b hb => ?_) (fun t k hk => .inl ⟨⟨k, hk, rfl, rfl, rfl⟩, rfl, rfl, fun _ _ _ h => h⟩) (h.im_old u fun t x hx g hg _ => ⟨x, hx, hg, fun h => h, Nat.le_refl _⟩) (fun _ _ h => .inl h), ?_⟩
  · by_cases hs : s' = s
    · subst hs
      simp only [upd_same, Option.some.injEq] at hb
      subst hb
      have e1 : (A.newBox s' w.heap.size).β s' = at_ w.heap.size 0 := upd_same _ _ _
      refine .inr ⟨fun j c hc => ?_, fun j hj => ?_, fun j hj => ?_, fun j hj => ?_, fun _ => by rw [e1]; exact ⟨rfl, hw0, by simp [at_], fun o => by simp [As.newBox, at_]⟩⟩
      · obtain ⟨v, hv, hcv⟩ := getC hr hc
        rw [e1]
        refine ⟨v, ?_, u.rc h hcv⟩
        simp only [Nat.zero_add]
        rw [cell_new]; simpa using hv
      · rw [e1]; simp only [Nat.zero_add]; exact frozen_new _ _ _ _
      · rw [e1]; simp [As.newBox]
      · rw [e1]; exact .inl hw0
    · exact .inl ⟨(upd_ne _ _ hs).symm.trans hb, upd_ne _ _ hs, fun _ _ h => h⟩
  · refine .one _ _ ⟨rfl, ⟨_, _, rfl⟩, ⟨nextB fr s, cs⟩, upd_same _ _ _, Nat.le_refl _, fun _ => ?_⟩
    have e1 : (A.newBox s w.heap.size).β s = at_ w.heap.size 0 := upd_same _ _ _
    rw [e1]

/-- A new slice of the call's own, or none at all. -/
def As.newTok (A : As) (t : Nat) (v : Value) (g : Option Nat) : As := { A with τ := upd A.τ t v, ω := upd A.ω t g, own := fun k o => if g = some k then .t t else A.own k o }
theorem St.newTok (h : St nt w0 S w A fr tmps) (t : Nat) (k : Tk) (v : Value) (g : Option Nat) {w' : World} (he : k.e = nextT fr t) (hf : k.fz = false)
    (hkeep : Keep (fun _ _ => False) w w') (hg : ∀ x, g = some x → w.heap.size ≤ x)
    (hk : TokRel w' A.Im w0.heap.size k v g) :
    ∀ fr', fr' = { fr with tk := upd fr.tk t (some k) } → ∃ A', Upd w0 S w A fr w' A' fr' (fun _ _ => False) ∧ St nt w0 S w' A' fr' tmps ∧ A'.τ t = v ∧ A'.Im = A.Im ∧ oneC v = true := by
  intro fr' hfr
  subst hfr
  have u : Upd w0 S w A fr w' (A.newTok t v g) { fr with tk := upd fr.tk t (some k) } (fun _ _ => False) := by
    refine ⟨hkeep, fun _ _ h => h.elim, fun _ _ _ h => h, rfl, fun _ _ h => h, fun x o hx _ => ?_, fun s b hb => ⟨b, hb, .inr ⟨rfl, rfl⟩⟩, fun t' k' hk' => ?_⟩
    · simp only [As.newTok]; rw [if_neg (fun e => by have := hg x e; omega)]
    · by_cases hs : t' = t
      · subst hs
        exact ⟨_, upd_same _ _ _, .inl (by rw [he]; exact nextT_lt hk')⟩
      · exact ⟨k', (upd_ne _ _ hs).trans hk', .inr ⟨rfl, upd_ne _ _ hs, upd_ne _ _ hs, rfl, rfl⟩⟩
  have hone : oneC v = true := by
    cases g with
    | none => obtain ⟨_, a, rfl⟩ := hk; rfl
    | some g => obtain ⟨_, _, _, c, u, rfl, _⟩ := hk; rfl
  refine ⟨A.newTok t v g, u, h.of_upd u (fun s b hb => .inl ⟨hb, rfl, fun _ _ h => h⟩) (fun t' k' hk' => ?_) (h.im_old u fun t' x hx y hy hlt => ?_) (fun _ _ h => .inl h), upd_same _ _ _, rfl, hone⟩
  · by_cases hs : t' = t
    · subst hs
      simp only [upd_same, Option.some.injEq] at hk'
      subst hk'
      refine .inr ⟨?_, fun y hy o => ?_⟩
      · have e1 : (A.newTok t' v g).τ t' = v := upd_same _ _ _
        have e2 : (A.newTok t' v g).ω t' = g := upd_same _ _ _
        rw [e1, e2]; exact hk
      · have e2 : (A.newTok t' v g).ω t' = g := upd_same _ _ _
        rw [e2] at hy
        simp [As.newTok, hy]
    · exact .inl ⟨⟨k', (upd_ne _ _ hs).symm.trans hk', rfl, rfl, rfl⟩, upd_ne _ _ hs, upd_ne _ _ hs, fun _ _ _ h => h⟩
  · by_cases hs : t' = t
    · subst hs
      have e2 : (A.newTok t' v g).ω t' = g := upd_same _ _ _
      rw [e2] at hy
      have := hg y hy
      omega
    · exact ⟨x, (upd_ne _ _ hs).symm.trans hx, (upd_ne _ _ hs).symm.trans hy, fun h => h, Nat.le_refl _⟩

/-! ### Freezing -/
def ImF (A : As) (fr : Fr) (ks : List Nat) : Pl := fun k o => A.Im k o ∨ ∃ t ∈ ks, ∃ x, fr.tk t = some x ∧ A.ω t = some k ∧ o < x.rows.length * x.esz
theorem upds_same {α : Type} (f : Nat → Option α) (k : Nat) (v : α) (l : List (Nat × α)) : upds f ((k, v) :: l) k = some v := upd_same _ _ _
theorem upds_ne {α : Type} (f : Nat → Option α) {k j : Nat} (v : α) (l : List (Nat × α)) (h : j ≠ k) : upds f ((k, v) :: l) j = upds f l j := upd_ne _ _ h
theorem upds_freeze (ks : List Nat) (t : Nat) : upds fr.tk (freeze fr ks) t = if t ∈ ks then (fr.tk t).map (fun k => { k with fz := true }) else fr.tk t := by
  induction ks with
  | nil => simp [freeze, upds]
  | cons a ks ih =>
    simp only [freeze]
    cases ha : fr.tk a with
    | none =>
      simp only
      rw [ih]
      by_cases h : t = a
      · subst h; simp [ha]
      · simp [h]
    | some k =>
      simp only
      by_cases h : t = a
      · subst h; rw [upds_same]; simp [ha]
      · rw [upds_ne _ _ _ h, ih]; simp [h]
theorem freeze_mem {ks : List Nat} {t : Nat} {x : Tk} (h : (t, x) ∈ freeze fr ks) : t ∈ ks ∧ ∃ k, fr.tk t = some k ∧ x = { k with fz := true } := by
  induction ks with
  | nil => simp [freeze] at h
  | cons a ks ih =>
    simp only [freeze] at h
    split at h
    · rename_i k hk
      rcases List.mem_cons.1 h with h | h
      · injection h with h1 h2
        subst h1 h2
        exact ⟨List.mem_cons_self, k, hk, rfl⟩
      · exact ⟨List.mem_cons_of_mem _ (ih h).1, (ih h).2⟩
    · exact ⟨List.mem_cons_of_mem _ (ih h).1, (ih h).2⟩


theorem St.freeze (h : St nt w0 S w A fr tmps) (ks : List Nat) : ∀ fr', fr' = { fr with tk := upds fr.tk (freeze fr ks) } →
    Upd w0 S w A fr w { A with Im := ImF A fr ks } fr' (fun _ _ => False) ∧ St nt w0 S w { A with Im := ImF A fr ks } fr' tmps := by
  intro fr' hfr
  subst hfr
  have u : Upd w0 S w A fr w { A with Im := ImF A fr ks } { fr with tk := upds fr.tk (Vm.freeze fr ks) } (fun _ _ => False) := by
    refine ⟨Keep.refl _ _, fun _ _ h => h.elim, fun _ _ _ h => h, rfl, fun _ _ h => .inl h, fun _ _ _ _ => rfl, fun s b hb => ⟨b, hb, .inr ⟨rfl, rfl⟩⟩, fun t k hk => ?_⟩
    by_cases ht : t ∈ ks
    · exact ⟨{ k with fz := true }, by simp only [upds_freeze, if_pos ht, hk]; rfl, .inr ⟨rfl, rfl, rfl, rfl, rfl⟩⟩
    · exact ⟨k, by simp only [upds_freeze, if_neg ht, hk], .inr ⟨rfl, rfl, rfl, rfl, rfl⟩⟩
  have old : ∀ t x, upds fr.tk (Vm.freeze fr ks) t = some x → ∃ z, fr.tk t = some z ∧ z.rows = x.rows ∧ z.esz = x.esz ∧ z.et = x.et ∧ (z.fz = true → x.fz = true) ∧ (t ∈ ks → x.fz = true) := by
    intro t x hx
    rw [upds_freeze] at hx
    by_cases ht : t ∈ ks
    · rw [if_pos ht] at hx
      obtain ⟨z, hz, rfl⟩ := Option.map_eq_some_iff.1 hx
      exact ⟨z, hz, rfl, rfl, rfl, fun _ => rfl, fun _ => rfl⟩
    · rw [if_neg ht] at hx
      exact ⟨x, hx, rfl, rfl, rfl, fun h => h, fun h => absurd h ht⟩
  refine ⟨u, h.of_upd u (fun s b hb => .inl ⟨hb, rfl, fun _ _ h => h⟩) (fun t k hk => ?_) (fun k o hi => ?_) (fun k o hi => ?_)⟩
  · obtain ⟨z, h1, h2, h3, h4, _⟩ := old t k hk
    exact .inl ⟨⟨z, h1, h2, h3, h4⟩, rfl, rfl, fun _ _ _ h => h⟩
  · rcases hi with hi | ⟨t, ht, x, hx, hω, ho⟩
    · refine h.im_old u (fun t x' hx' g hg _ => ?_) k o hi
      obtain ⟨z, h1, h2, h3, h4, h5, _⟩ := old t x' hx'
      exact ⟨z, h1, hg, h5, by rw [h2, h3]; exact Nat.le_refl _⟩
    · have hk := h.tk t x hx
      have hrel := hk.rel
      rw [hω] at hrel
      have hown := hk.own k hω
      refine ⟨?_, fun s => by rw [show ({ A with Im := ImF A fr ks } : As).own = A.own from rfl, hown]; simp, fun t' x' h1 h2 h3 => ?_⟩
      · obtain ⟨h1, h2, h3, cap, cur, _, h4, h5, _, h6, _⟩ := hrel
        have : o < cur.size := by
          rw [h6]
          exact Nat.lt_of_lt_of_le ho (Nat.mul_le_mul_right _ h5)
        exact ⟨cur[o], by simp [World.cell?, h4, this]⟩
      · rw [show ({ A with Im := ImF A fr ks } : As).own = A.own from rfl, hown] at h1
        injection h1 with h1
        subst h1
        obtain ⟨z, q1, q2, q3, q4, q5, q6⟩ := old t x' h2
        rw [hx] at q1
        injection q1 with q1
        subst q1
        exact ⟨q6 ht, by rw [← q2, ← q3]; exact ho⟩
  · rcases hi with hi | ⟨t, ht, x, hx, hω, ho⟩
    · exact .inl hi
    · have hrel := (h.tk t x hx).rel
      rw [hω] at hrel
      exact .inr hrel.2.1

/-- A cell as data, under what is frozen with it. -/
theorem toD_rd (h : St nt w0 S w A fr tmps) {c : C} {x : D} {v : Value} (hx : toD fr c = some x) (hc : RC fr w A c v) {ks : List Nat} (hk : ∀ t ∈ c.toks, t ∈ ks) : Rd w (ImF A fr ks) x v := by
  have tokrd : ∀ {t : Nat} {k : Tk}, t ∈ ks → fr.tk t = some k → ∀ (off len : Nat) (a : Option Addr) (c : Nat), off + len ≤ k.rows.length → len ≤ c → (0 < len → ∃ g, A.ω t = some g ∧ a = some (at_ g (off * k.esz))) →
      Rd w (ImF A fr ks) (.list k.esz ((k.rows.drop off).take len)) (.slice a len c) := by
    intro t k ht hkk off len a c h1 h2 h3
    have hrel := (h.tk t k hkk).rel
    have hl : ((k.rows.drop off).take len).length = len := by rw [List.length_take, List.length_drop]; omega
    have hmk := Rd.mk_list (w := w) (Im := ImF A fr ks) (esz := k.esz) (rows := (k.rows.drop off).take len) (A := a) (c := c) (by omega) (fun row hr => ?_) (fun hne => ?_)
    · rwa [hl] at hmk
    · have hr' := List.mem_of_mem_drop (List.mem_of_mem_take hr)
      cases hω : A.ω t with
      | none => rw [hω] at hrel; rw [hrel.1] at hr'; cases hr'
      | some g => rw [hω] at hrel; exact hrel.2.2.1 row hr'
    · have h0 : 0 < len := by have := List.length_pos_iff.2 hne; omega
      obtain ⟨g, hg, rfl⟩ := h3 h0
      refine ⟨g, off * k.esz, rfl, fun i row hi j d hj => ?_⟩
      rw [List.getElem?_take] at hi
      split at hi
      · rw [List.getElem?_drop] at hi
        rw [hg] at hrel
        obtain ⟨u, hu, _, hd⟩ := hrel.cell hi hj
        have hin := row_in hrel.2.2.1 hi hj
        have e1 : off * k.esz + (i * k.esz + j) = (off + i) * k.esz + j := by rw [Nat.add_mul]; omega
        rw [e1]
        exact ⟨u, .inr ⟨t, ht, k, hkk, hg, hin.2.2⟩, hu, hd.step (fun _ _ h => .inl h) fun _ _ _ => rfl⟩
      · cases hi
  cases c with
  | d y =>
    simp only [toD, Option.some.injEq] at hx
    subst hx
    exact hc.2.step (fun _ _ h => .inl h) fun _ _ _ => rfl
  | nil0 =>
    simp only [toD, Option.some.injEq] at hx
    subst hx
    obtain ⟨_, a, rfl⟩ := hc
    exact Rd.mk_list (rows := []) (Nat.zero_le _) (fun _ h => by cases h) fun h => absurd rfl h
  | own t e =>
    simp only [toD] at hx
    split at hx
    · rename_i k hkk
      replace hx := bif_some hx; obtain ⟨he, hx⟩ := hx
      injection hx with hx
      subst hx
      obtain ⟨_, k', q1, q2, q3⟩ := hc
      rw [hkk] at q1; injection q1 with q1; subst q1
      have := q3 (Nat.eq_of_beq_eq_true he).symm
      subst this
      obtain ⟨a, c, e1, e2, e3⟩ := (h.tk t k hkk).rel.slice
      rw [e1]
      have := tokrd (hk t (by simp [C.toks])) hkk 0 k.rows.length a c (by omega) e2 (fun h0 => by obtain ⟨g, hg, ha⟩ := e3 h0; exact ⟨g, hg, by simpa using ha⟩)
      simpa using this
    · cases hx
  | sub t e off len =>
    simp only [toD] at hx
    split at hx
    · rename_i k hkk
      replace hx := bif_some hx; obtain ⟨he, hx⟩ := hx
      injection hx with hx
      subst hx
      obtain ⟨_, k', q1, q2, q3⟩ := hc
      rw [hkk] at q1; injection q1 with q1; subst q1
      obtain ⟨h1, a, c, rfl, h2, h3⟩ := q3 (Nat.eq_of_beq_eq_true he).symm
      exact tokrd (hk t (by simp [C.toks])) hkk off len a c h1 h2 h3
    · cases hx
  | fn g b cs =>
    cases cs with
    | nil =>
      simp only [toD, Option.some.injEq] at hx
      subst hx
      obtain ⟨_, us, rfl, h2, _⟩ := hc
      have : us = [] := List.length_eq_zero_iff.1 h2
      subst this
      exact Rd.fn b
    | cons c cs => cases hx
  | ptr s e o => simp [toD] at hx
  | tptr t e i o => simp [toD] at hx
  | rptr n r o => simp [toD] at hx
  | ub => simp [toD] at hx
  | undef => simp [toD] at hx
theorem toDk_rd (h : St nt w0 S w A fr tmps) {k : LK} {c : C} {x : D} {v : Value} (hx : toDk fr k c = some x) (hc : RC fr w A c v) {ks : List Nat} (hk : ∀ t ∈ c.toks, t ∈ ks) : Rd w (ImF A fr ks) x v := by
  unfold toDk at hx
  split at hx
  · injection hx with hx
    subst hx
    obtain ⟨_, a, rfl⟩ := hc
    exact Rd.mk_list (rows := []) (Nat.zero_le _) (fun _ h => by cases h) fun h => absurd rfl h
  · exact toD_rd h hx hc hk
theorem toDs_rd (h : St nt w0 S w A fr tmps) {ks : List Nat} : ∀ {cs : List C} {ls : List LK} {ds : List D} {vs : List Value}, toDs fr ls cs = some ds → RCs fr w A cs vs → (∀ t ∈ toksOf cs, t ∈ ks) →
    ds.length = cs.length ∧ ∀ (j : Nat) (d : D) (v : Value), ds[j]? = some d → vs[j]? = some v → Rd w (ImF A fr ks) d v
  | [], ls, ds, vs, hd, hr, hk => by
    simp only [toDs, Option.some.injEq] at hd
    subst hd
    exact ⟨rfl, fun j d v h => by simp at h⟩
  | c :: cs, ls, ds, vs, hd, hr, hk => by
    simp only [toDs] at hd
    split at hd
    · rename_i x hx
      split at hd
      · rename_i xs hxs
        injection hd with hd
        subst hd
        match vs, hr with
        | v :: vs, hr =>
          have ih := toDs_rd h hxs ⟨by simpa using hr.1, fun j c v h1 h2 => hr.2 (j + 1) c v (by simpa using h1) (by simpa using h2)⟩ fun t ht => hk t (by simp only [toksOf, List.flatMap_cons, List.mem_append]; exact .inr ht)
          refine ⟨by simp [ih.1], fun j d u h1 h2 => ?_⟩
          cases j with
          | zero =>
            simp at h1 h2
            subst h1 h2
            exact toDk_rd h hx (hr.2 0 c v rfl rfl) fun t ht => hk t (by simp only [toksOf, List.flatMap_cons, List.mem_append]; exact .inl ht)
          | succ j => exact ih.2 j d u (by simpa using h1) (by simpa using h2)
        | [], hr => have := hr.1; simp at this
      · cases hd
    · cases hd

end Go.Vm

/- Stores and appends: how the state goes on. -/
set_option linter.unusedVariables false
set_option linter.unusedSimpArgs false
namespace Go.Vm

variable {nt : Nat} {w0 : World} {S : Sp} {w : World} {A : As} {fr : Fr} {tmps : Array Value} {P : Program}

theorem keep_setCell (w : World) (k o : Nat) (v : Value) : Keep (fun i j => i = k ∧ j = o) w (w.setCell (at_ k o) v) := by
  refine ⟨rfl, rfl, rfl, by simp, fun i hi => ?_⟩
  by_cases h : i = k
  · subst h
    cases ho : w.heap[i]? with
    | none => exact absurd ho (by simp [hi])
    | some obj =>
      cases obj with
      | cells c t fz =>
        refine .inr ⟨c, c.setIfInBounds o v, t, fz, rfl, ?_, by simp, fun j hj => ?_⟩
        · have hv : w.heap[i] = .cells c t fz := (Array.getElem?_eq_some_iff.1 ho).2
          simp only [World.setCell]
          rw [Array.getElem?_eq_getElem (by simpa using hi), Array.getElem_modify]
          simp [hv]
        · exact Array.getElem?_setIfInBounds_ne (fun e => hj ⟨rfl, e.symm⟩)
      | _ =>
        refine .inl ?_
        have hv := (Array.getElem?_eq_some_iff.1 ho).2
        simp only [World.setCell]
        rw [Array.getElem?_eq_getElem (by simpa using hi), Array.getElem_modify]
        simp [hv]
  · exact .inl (RowKit.Below.heap_setCell w (at_ k o) v i h)
theorem keep_setCells (k : Nat) : ∀ (vs : List Value) (o : Nat) (w : World), Keep (fun i j => i = k ∧ o ≤ j ∧ j < o + vs.length) w (w.setCells k o vs)
  | [], o, w => Keep.refl _ _
  | v :: vs, o, w => by
    refine Keep.trans ((keep_setCell w k o v).mono fun i j _ h => ⟨h.1, by omega, by simp; omega⟩) (keep_setCells k vs (o + 1) _) fun i j _ h => ⟨h.1, by omega, ?_⟩
    have := h.2.2
    simp; omega

theorem splice_len {β : Type} (l : List β) (off : Nat) (new : List β) (h : off + new.length ≤ l.length) : (splice l off new).length = l.length := by
  simp only [splice, List.length_append, List.length_take, List.length_drop]; omega
theorem splice_lo {β : Type} (l : List β) (off : Nat) (new : List β) (h : off + new.length ≤ l.length) {j : Nat} (hj : j < off) : (splice l off new)[j]? = l[j]? := by
  simp only [splice]
  rw [List.append_assoc, List.getElem?_append_left (by rw [List.length_take]; omega), List.getElem?_take, if_pos hj]
theorem splice_mid {β : Type} (l : List β) (off : Nat) (new : List β) (h : off + new.length ≤ l.length) {j : Nat} (h1 : off ≤ j) (h2 : j < off + new.length) : (splice l off new)[j]? = new[j - off]? := by
  simp only [splice]
  rw [List.append_assoc, List.getElem?_append_right (by rw [List.length_take]; omega), List.length_take, Nat.min_eq_left (by omega), List.getElem?_append_left (by omega)]
theorem splice_hi {β : Type} (l : List β) (off : Nat) (new : List β) (h : off + new.length ≤ l.length) {j : Nat} (h1 : off + new.length ≤ j) : (splice l off new)[j]? = l[j]? := by
  simp only [splice]
  rw [List.getElem?_append_right (by rw [List.length_append, List.length_take]; omega), List.length_append, List.length_take, Nat.min_eq_left (by omega), List.getElem?_drop]
  congr 1; omega

theorem RCs.one {cs : List C} {vs : List Value} (h : RCs fr w A cs vs) : ∀ v ∈ vs, v.oneCell' = true := fun v hv => by
  obtain ⟨j, hj⟩ := List.getElem?_of_mem hv
  obtain ⟨c, _, hc⟩ := getVs h hj
  rw [← oneC_eq]; exact hc.1

/-- What is stored in cells that are there and not frozen. -/
theorem run_storeCells' {k o : Nat} {vs : List Value} (hc : ∀ j, j < vs.length → (w.cell? (at_ k (o + j))).isSome = true) (hf : ∀ j, j < vs.length → w.frozen? (at_ k (o + j)) = false) (h1 : ∀ v ∈ vs, v.oneCell' = true) :
    (storeCells (at_ k o) vs).run P w = .ok () (w.setCells k o vs) := by
  have := run_storeCells_cells (P := P) k o vs 0 w (by simpa using hc) (by simpa using hf) h1
  simpa using this

/-- A store into a variable. -/
theorem St.setBox (h : St nt w0 S w A fr tmps) {s : Nat} {b : Bx} (hb : fr.bx s = some b) {off : Nat} {cs : List C} {vs : List Value} (hr : RCs fr w A cs vs) (hl : off + cs.length ≤ b.cs.length) :
    ∀ fr', fr' = { fr with bx := upd fr.bx s (some ⟨b.e, splice b.cs off cs⟩) } →
    (storeCells (at_ (A.β s).block ((A.β s).off + off)) vs).run P w = .ok () (w.setCells (A.β s).block ((A.β s).off + off) vs) ∧ St nt w0 S (w.setCells (A.β s).block ((A.β s).off + off) vs) A fr' tmps := by
  intro fr' hfr
  subst hfr
  have hbo := h.bx s b hb
  have hvl := hr.1
  have cellAt : ∀ j, j < b.cs.length → ∃ v, w.cell? (at_ (A.β s).block ((A.β s).off + j)) = some v ∧ RC fr w A b.cs[j]! v := fun j hj => by
    obtain ⟨v, h1, h2⟩ := hbo.cell j b.cs[j] (List.getElem?_eq_getElem hj)
    exact ⟨v, h1, by rwa [getElem!_pos b.cs j hj]⟩
  have hex : ∀ j, j < vs.length → (w.cell? (at_ (A.β s).block ((A.β s).off + off + j))).isSome = true := fun j hj => by
    obtain ⟨v, h1, _⟩ := cellAt (off + j) (by omega)
    rw [Nat.add_assoc, h1]; rfl
  refine ⟨run_storeCells' hex (fun j hj => by rw [Nat.add_assoc]; exact hbo.free _ (by omega)) hr.one, ?_⟩
  have hk := keep_setCells (A.β s).block vs ((A.β s).off + off) w
  have inT : ∀ k o, (k = (A.β s).block ∧ (A.β s).off + off ≤ o ∧ o < (A.β s).off + off + vs.length) → ∃ j, off ≤ j ∧ j < off + vs.length ∧ o = (A.β s).off + j ∧ k = (A.β s).block := fun k o ⟨h1, h2, h3⟩ => ⟨o - (A.β s).off, by omega, by omega, by omega, h1⟩
  have u : Upd w0 S w A fr (w.setCells (A.β s).block ((A.β s).off + off) vs) A { fr with bx := upd fr.bx s (some ⟨b.e, splice b.cs off cs⟩) } (fun i j => i = (A.β s).block ∧ (A.β s).off + off ≤ j ∧ j < (A.β s).off + off + vs.length) := by
    refine ⟨hk, fun k o ht => ?_, fun k o hi ht => ?_, rfl, fun _ _ h => h, fun _ _ _ _ => rfl, fun s' b' hb' => ?_, fun t k hk => ⟨k, hk, .inr ⟨rfl, rfl, rfl, rfl, rfl⟩⟩⟩
    · obtain ⟨j, h1, h2, rfl, rfl⟩ := inT k o ht
      exact hbo.may j (by omega)
    · obtain ⟨j, h1, h2, rfl, rfl⟩ := inT k o ht
      exact (h.im _ _ hi).nob s (hbo.own j (by omega))
    · by_cases hs : s' = s
      · subst hs
        rw [hb] at hb'; injection hb' with hb'; subst hb'
        exact ⟨_, upd_same _ _ _, .inr ⟨rfl, rfl⟩⟩
      · exact ⟨b', (upd_ne _ _ hs).trans hb', .inr ⟨rfl, rfl⟩⟩
  refine h.of_upd u (fun s' b' hb' => ?_) (fun t k hk => .inl ⟨⟨k, hk, rfl, rfl, rfl⟩, rfl, rfl, fun g hg o ht => ?_⟩) (h.im_old u fun t x hx g hg _ => ⟨x, hx, hg, fun h => h, Nat.le_refl _⟩) fun _ _ h => .inl h
  · by_cases hs : s' = s
    · subst hs
      simp only [upd_same, Option.some.injEq] at hb'
      subst hb'
      have hlen := splice_len b.cs off cs hl
      refine .inr ⟨fun j c hc => ?_, fun j hj => ?_, fun j hj => hbo.own j (by simpa [hlen] using hj), fun j hj => hbo.may j (by simpa [hlen] using hj), fun hp => ⟨(hbo.whole hp).1, (hbo.whole hp).2.1, Nat.lt_of_lt_of_le (hbo.whole hp).2.2.1 hk.size, (hbo.whole hp).2.2.2⟩⟩
      · have hj : j < b.cs.length := by have := (List.getElem?_eq_some_iff.1 hc).1; simpa [hlen] using this
        have hc : (splice b.cs off cs)[j]? = some c := hc
        by_cases h1 : j < off
        · rw [splice_lo b.cs off cs hl h1] at hc
          obtain ⟨v, hv, hcv⟩ := hbo.cell j c hc
          exact ⟨v, hk.cell_some hv (fun ht => by omega), u.rc h hcv⟩
        · by_cases h2 : j < off + cs.length
          · rw [splice_mid b.cs off cs hl (by omega) h2] at hc
            obtain ⟨v, hv, hcv⟩ := getC hr hc
            refine ⟨v, ?_, u.rc h hcv⟩
            have hjl : j - off < vs.length := by omega
            have := World.cell?_setCells_in (A.β s').block vs ((A.β s').off + off) w hex (j - off) hjl
            rw [show (A.β s').off + off + (j - off) = (A.β s').off + j by omega] at this
            rw [this, ← hv, List.getElem?_eq_getElem hjl]
          · rw [splice_hi b.cs off cs hl (by omega)] at hc
            obtain ⟨v, hv, hcv⟩ := hbo.cell j c hc
            exact ⟨v, hk.cell_some hv (fun ht => by omega), u.rc h hcv⟩
      · have hj' : j < b.cs.length := by simpa [hlen] using hj
        obtain ⟨v, hv, _⟩ := cellAt j hj'
        rw [hk.frozen (cell_lt hv)]
        exact hbo.free j hj'
    · have hb2 := (upd_ne _ _ hs).symm.trans hb'
      refine .inl ⟨hb2, rfl, fun j hj ht => ?_⟩
      obtain ⟨j', h1, h2, h3, h4⟩ := inT _ _ ht
      have q1 := (h.bx s' b' hb2).own j hj
      rw [h4, h3, hbo.own j' (by omega)] at q1
      injection q1 with q1
      exact hs q1.symm
  · obtain ⟨j', h1, h2, h3, h4⟩ := inT _ _ ht
    have q1 := (h.tk t k hk).own g hg o
    rw [h4, h3, hbo.own j' (by omega)] at q1
    cases q1

theorem keep_row {T : Pl} {w w' : World} (hk : Keep T w w') {g : Nat} {cur : Array Value} {et : TypeId} (hg : w.heap[g]? = some (.cells cur et (0, 0))) :
    ∃ cur', w'.heap[g]? = some (.cells cur' et (0, 0)) ∧ cur'.size = cur.size ∧ ∀ j, w'.cell? (at_ g j) = cur'[j]? := by
  have hlt : g < w.heap.size := (Array.getElem?_eq_some_iff.1 hg).1
  rcases hk.blk g hlt with he | ⟨c, c', t, fz, h1, h2, h3, _⟩
  · rw [hg] at he
    exact ⟨cur, he, rfl, fun j => by simp [World.cell?, he]⟩
  · rw [hg] at h1
    injection h1 with h1; injection h1 with q1 q2 q3
    subst q1 q2 q3
    exact ⟨c', h2, h3, fun j => by simp [World.cell?, h2]⟩

/-- A store into a slice of the call's own. -/
theorem St.setTok (h : St nt w0 S w A fr tmps) {t : Nat} {k : Tk} (ht : fr.tk t = some k) (hf : k.fz = false) {g : Nat} (hg : A.ω t = some g) {i off : Nat} (hi : i < k.rows.length) {ds : List D} {vs : List Value}
    (hd : ds.length = vs.length) (hr : ∀ (j : Nat) (d : D) (v : Value), ds[j]? = some d → vs[j]? = some v → Rd w A.Im d v) (hl : off + ds.length ≤ k.esz) :
    ∀ fr', fr' = { fr with tk := upd fr.tk t (some { k with rows := k.rows.set i (splice (k.rows.getD i []) off ds) }) } →
    (storeCells (at_ g (i * k.esz + off)) vs).run P w = .ok () (w.setCells g (i * k.esz + off) vs) ∧ St nt w0 S (w.setCells g (i * k.esz + off) vs) A fr' tmps := by
  intro fr' hfr
  subst hfr
  have hto := h.tk t k ht
  have hrel := hto.rel
  rw [hg] at hrel
  obtain ⟨e0, e1, e2, cap, cur, e3, e4, e5, e6, e7, e8⟩ := hrel
  have hrow : k.rows[i]? = some (k.rows.getD i []) := by simp [List.getD, List.getElem?_eq_getElem hi]
  have hrl : (k.rows.getD i []).length = k.esz := e2 _ (List.mem_of_getElem? hrow)
  have hbound : i * k.esz + k.esz ≤ cur.size := by rw [e7, ← Nat.succ_mul]; exact Nat.mul_le_mul_right _ (by omega)
  have hex : ∀ j, j < vs.length → (w.cell? (at_ g (i * k.esz + off + j))).isSome = true := fun j hj => by
    have hh : i * k.esz + off + j < cur.size := by omega
    simp [World.cell?, e4, hh]
  have h1 : ∀ v ∈ vs, v.oneCell' = true := fun v hv => by
    obtain ⟨j, hj⟩ := List.getElem?_of_mem hv
    have hlt := (List.getElem?_eq_some_iff.1 hj).1
    rw [← oneC_eq]; exact (hr j _ v (List.getElem?_eq_getElem (by omega)) hj).one
  refine ⟨run_storeCells' hex (fun j hj => by simp [World.frozen?, e4]) h1, ?_⟩
  have hk := keep_setCells g vs (i * k.esz + off) w
  have u : Upd w0 S w A fr (w.setCells g (i * k.esz + off) vs) A { fr with tk := upd fr.tk t (some { k with rows := k.rows.set i (splice (k.rows.getD i []) off ds) }) } (fun a j => a = g ∧ i * k.esz + off ≤ j ∧ j < i * k.esz + off + vs.length) := by
    refine ⟨hk, fun a o hh => .inl (by rw [hh.1]; exact e1), fun a o hi' hh => ?_, rfl, fun _ _ h => h, fun _ _ _ _ => rfl, fun s b hb => ⟨b, hb, .inr ⟨rfl, rfl⟩⟩, fun t' k' hk' => ?_⟩
    · obtain ⟨rfl, _, _⟩ := hh
      have := (h.im _ _ hi').tok t k (hto.own a hg o) ht hg
      rw [hf] at this
      cases this.1
    · by_cases hs : t' = t
      · subst hs
        rw [ht] at hk'; injection hk' with hk'; subst hk'
        exact ⟨_, upd_same _ _ _, .inr ⟨rfl, rfl, rfl, by simp, rfl⟩⟩
      · exact ⟨k', (upd_ne _ _ hs).trans hk', .inr ⟨rfl, rfl, rfl, rfl, rfl⟩⟩
  refine h.of_upd u (fun s b hb => .inl ⟨hb, rfl, fun j hj hh => ?_⟩) (fun t' k' hk' => ?_) (h.im_old u fun t' x hx y hy _ => ?_) fun _ _ h => .inl h
  · have q1 := (h.bx s b hb).own j hj
    rw [hh.1, hto.own g hg] at q1
    cases q1
  · by_cases hs : t' = t
    · subst hs
      simp only [upd_same, Option.some.injEq] at hk'
      subst hk'
      refine .inr ⟨?_, fun y hy o => hto.own y hy o⟩
      rw [hg]
      obtain ⟨cur', c1, c2, c3⟩ := keep_row hk e4
      have hsp : off + ds.length ≤ (k.rows.getD i []).length := by omega
      refine ⟨e0, e1, fun row hrow' => ?_, cap, cur', by simpa using e3, c1, by simpa using e5, e6, by rw [c2]; exact e7, fun i' row hi' j d hj => ?_⟩
      · rcases List.mem_or_eq_of_mem_set hrow' with hm | rfl
        · exact e2 row hm
        · rw [splice_len _ _ _ hsp]; exact hrl
      · show ∃ u, cur'[i' * k.esz + j]? = some u ∧ _
        by_cases hii : i' = i
        · subst hii
          rw [List.getElem?_set_self (by simpa using hi)] at hi'
          injection hi' with hi'
          subst hi'
          have hjl : j < k.esz := by have := (List.getElem?_eq_some_iff.1 hj).1; rw [splice_len _ _ _ hsp] at this; omega
          by_cases hin : off ≤ j ∧ j < off + ds.length
          · rw [splice_mid _ _ _ hsp hin.1 hin.2] at hj
            have hjv : j - off < vs.length := by omega
            refine ⟨vs[j - off], ?_, u.rd h (hr _ d _ hj (List.getElem?_eq_getElem hjv))⟩
            have := World.cell?_setCells_in g vs (i' * k.esz + off) w hex (j - off) hjv
            rw [show i' * k.esz + off + (j - off) = i' * k.esz + j by omega, c3] at this
            exact this
          · have hj' : (k.rows.getD i' [])[j]? = some d := by
              rw [← hj]
              by_cases hlo : j < off
              · exact (splice_lo _ _ _ hsp hlo).symm
              · exact (splice_hi _ _ _ hsp (by omega)).symm
            obtain ⟨u', q1, q2⟩ := e8 i' _ hrow j d hj'
            refine ⟨u', ?_, u.rd h q2⟩
            rw [← c3]
            refine hk.cell_some ?_ (fun hh => by omega)
            simp [World.cell?, e4, q1]
        · rw [List.getElem?_set_ne (Ne.symm hii)] at hi'
          obtain ⟨u', q1, q2⟩ := e8 i' row hi' j d hj
          refine ⟨u', ?_, u.rd h q2⟩
          rw [← c3]
          refine hk.cell_some (by simp [World.cell?, e4, q1]) (fun hh => ?_)
          have r1 := row_in e2 hi' hj
          have : i' * k.esz + j < i * k.esz ∨ i * k.esz + k.esz ≤ i' * k.esz + j := by
            rcases Nat.lt_or_gt_of_ne hii with hlt | hgt
            · left
              have : i' * k.esz + k.esz ≤ i * k.esz := by rw [← Nat.succ_mul]; exact Nat.mul_le_mul_right _ hlt
              omega
            · right
              have : i * k.esz + k.esz ≤ i' * k.esz := by rw [← Nat.succ_mul]; exact Nat.mul_le_mul_right _ hgt
              omega
          omega
    · have hk2 := (upd_ne _ _ hs).symm.trans hk'
      refine .inl ⟨⟨k', hk2, rfl, rfl, rfl⟩, rfl, rfl, fun y hy o hh => ?_⟩
      have q1 := (h.tk t' k' hk2).own y hy o
      rw [hh.1, hto.own g hg] at q1
      injection q1 with q1
      exact hs q1.symm
  · by_cases hs : t' = t
    · subst hs
      simp only [upd_same, Option.some.injEq] at hx
      subst hx
      exact ⟨k, ht, hy, fun h => h, by simp⟩
    · exact ⟨x, (upd_ne _ _ hs).symm.trans hx, hy, fun h => h, Nat.le_refl _⟩

end Go.Vm

/- Appends; new slices. -/
set_option linter.unusedVariables false
set_option linter.unusedSimpArgs false
namespace Go.Vm

variable {nt : Nat} {w0 : World} {S : Sp} {w : World} {A : As} {fr : Fr} {tmps : Array Value} {P : Program}

/-- Cells that hold rows. -/
def News (w : World) (Im : Pl) (n : Nat) (ys : List (List D)) (news : List Value) : Prop :=
  news.length = ys.length * n ∧ (∀ row ∈ ys, row.length = n) ∧ ∀ i row, ys[i]? = some row → ∀ (j : Nat) (d : D), row[j]? = some d → ∃ u, news[i * n + j]? = some u ∧ Rd w Im d u
theorem cell_of {q n m : Nat} {ys : List (List D)} (hl : ∀ row ∈ ys, row.length = n) (hm : m = ys.length) (hq : q < m * n) : ∃ i row j d, ys[i]? = some row ∧ row[j]? = some d ∧ q = i * n + j := by
  subst hm
  have he : 0 < n := Nat.pos_of_ne_zero fun e => by subst e; simp at hq
  have hi : q / n < ys.length := (Nat.div_lt_iff_lt_mul he).2 hq
  have hj : q % n < ys[q / n].length := by rw [hl _ (List.getElem_mem hi)]; exact Nat.mod_lt _ he
  exact ⟨q / n, _, q % n, _, List.getElem?_eq_getElem hi, List.getElem?_eq_getElem hj, by rw [Nat.mul_comm]; exact (Nat.div_add_mod q n).symm⟩
theorem News.one {Im : Pl} {n : Nat} {ys : List (List D)} {news : List Value} (h : News w Im n ys news) : ∀ u ∈ news, u.oneCell' = true := by
  intro u hu
  obtain ⟨q, hq⟩ := List.getElem?_of_mem hu
  have hlt := (List.getElem?_eq_some_iff.1 hq).1
  obtain ⟨i, row, j, d, h1, h2, rfl⟩ := cell_of h.2.1 rfl (by rw [← h.1]; exact hlt)
  obtain ⟨v, h3, h4⟩ := h.2.2 i row h1 j d h2
  rw [hq] at h3; injection h3 with h3; subst h3
  rw [← oneC_eq]; exact h4.one

/-- Memory that holds rows, as cells. -/
theorem news_of_mem {Im : Pl} {n : Nat} {ys : List (List D)} {g o : Nat} (hl : ∀ row ∈ ys, row.length = n)
    (h : ∀ i row, ys[i]? = some row → ∀ (j : Nat) (d : D), row[j]? = some d → ∃ u, w.cell? (at_ g (o + (i * n + j))) = some u ∧ Rd w Im d u) :
    ∃ news, News w Im n ys news ∧ ∀ (j : Nat) (u : Value), news[j]? = some u → w.cell? (at_ g (o + j)) = some u := by
  refine ⟨(List.range (ys.length * n)).map fun q => (w.cell? (at_ g (o + q))).getD Go.undef, ⟨by simp, hl, fun i row hi j d hj => ?_⟩, fun q u hq => ?_⟩
  · obtain ⟨u, h1, h2⟩ := h i row hi j d hj
    have hlt := (row_in hl hi hj).2.2
    exact ⟨u, by rw [List.getElem?_map, List.getElem?_range hlt]; simp [h1], h2⟩
  · obtain ⟨hlt, rfl⟩ := range_map_get hq
    obtain ⟨i, row, j, d, h1, h2, rfl⟩ := cell_of hl rfl hlt
    obtain ⟨u, h3, h4⟩ := h i row h1 j d h2
    simp [h3]

/-- What is read to be appended. -/
theorem rowsF_ok {α : Type} {esz : Nat} {x : V} {K : List (List D) → List Nat → Option α} {r : α} (h : rowsF fr esz x K = some r) :
    ∃ ys rd, (∀ (β : Type) (K' : List (List D) → List Nat → Option β), rowsF fr esz x K' = K' ys rd) ∧ K ys rd = some r ∧
      ∀ (nt : Nat) (w0 : World) (S : Sp) (w : World) (A : As) (tmps : Array Value) (vx : Value) (P : Program) (t e : TypeId), P.underlying t = some (.slice e) → St nt w0 S w A fr tmps → RV fr w A x vx →
        ∃ news, News w A.Im esz ys news ∧ Src P esz t vx ys.length news w := by
  have mk : ∀ (w : World) (Im : Pl) (P : Program) (t e : TypeId) (a : Option Addr) (c n : Nat) (ys : List (List D)), P.underlying t = some (.slice e) → n = ys.length → (∀ row ∈ ys, row.length = esz) →
      (ys ≠ [] → ∃ g o, a = some (at_ g o) ∧ ∀ i row, ys[i]? = some row → ∀ (j : Nat) (d : D), row[j]? = some d → ∃ u, w.cell? (at_ g (o + (i * esz + j))) = some u ∧ Rd w Im d u) →
      ∃ news, News w Im esz ys news ∧ Src P esz t (.slice a n c) ys.length news w := by
    intro w Im P t e a c n ys ht hn hl hh
    subst hn
    by_cases hy : ys = []
    · subst hy
      refine ⟨[], ⟨by simp, hl, fun i row h => by simp at h⟩, ?_⟩
      cases a with
      | none => exact Src.ofNil w ht c
      | some a => exact Src.ofSlice w ht a 0 c [] (by simp) (fun j u h => by simp at h) (fun u h => by cases h)
    · obtain ⟨g, o, rfl, h2⟩ := hh hy
      obtain ⟨news, h3, h4⟩ := news_of_mem hl h2
      exact ⟨news, h3, Src.ofSlice w ht (at_ g o) _ c news h3.1 (fun j u hj => by rw [at_add]; exact h4 j u hj) h3.one⟩
  unfold rowsF at h
  split at h
  · refine ⟨[], [], fun _ _ => rfl, h, fun nt w0 S w A tmps vx P t e ht hst hx => ?_⟩
    obtain ⟨_, a, rfl⟩ := hx.one_inv
    exact mk w A.Im P t e a 0 0 [] ht rfl (fun _ h => by cases h) fun h => absurd rfl h
  · replace h := takeL_some h; obtain ⟨e', rows, rfl, he, h⟩ := h
    refine ⟨rows, [], fun β K' => by simp only [rowsF, takeL, if_pos he], h, fun nt w0 S w A tmps vx P t e ht hst hx => ?_⟩
    obtain ⟨a, c, rfl, e2, e3, e4⟩ := hx.d_inv.list_inv
    refine mk w A.Im P t e a c _ rows ht rfl (fun row hr => ?_) fun hne => ?_
    · rw [e3 row hr]; exact he.resolve_right fun h => by subst h; cases hr
    · have he' := he.resolve_right hne
      subst he'
      obtain ⟨g, o, rfl, e5⟩ := e4 hne
      exact ⟨g, o, rfl, fun i row hi j d hj => by obtain ⟨u, _, h1, h2⟩ := e5 i row hi j d hj; exact ⟨u, h1, h2⟩⟩
  · rename_i t' ep
    split at h
    · rename_i k hk
      replace h := bif_some h; obtain ⟨hc, h⟩ := h
      have hcc := hc
      simp only [Bool.and_eq_true, Bool.or_eq_true, Nat.beq_eq, List.isEmpty_iff] at hc
      refine ⟨k.rows, _, fun β K' => by simp only [rowsF, hk, hcc, cond_true], h, fun nt w0 S w A tmps vx P t e ht hst hx => ?_⟩
      have := hx.own_inv hk hc.1
      subst this
      have hrel := (hst.tk t' k hk).rel
      obtain ⟨a, c, e1, e2, e3⟩ := hrel.slice
      rw [e1]
      refine mk w A.Im P t e a c _ k.rows ht rfl (fun row hr => ?_) fun hne => ?_
      · have hz := hc.2.resolve_right fun h => by rw [h] at hr; cases hr
        cases hω : A.ω t' with
        | none => rw [hω] at hrel; rw [hrel.1] at hr; cases hr
        | some g => rw [hω] at hrel; rw [← hz]; exact hrel.2.2.1 row hr
      · have hz := hc.2.resolve_right hne
        obtain ⟨g, hg, rfl⟩ := e3 (List.length_pos_iff.2 hne)
        rw [hg] at hrel
        refine ⟨g, 0, rfl, fun i row hi j d hj => ?_⟩
        obtain ⟨u, h1, _, h2⟩ := hrel.cell hi hj
        rw [hz] at h1
        exact ⟨u, by simpa using h1, h2⟩
    · cases h
  · rename_i t' ep off len
    split at h
    · rename_i k hk
      replace h := bif_some h; obtain ⟨hc, h⟩ := h
      have hcc := hc
      simp only [Bool.and_eq_true, Bool.or_eq_true, Nat.beq_eq, List.isEmpty_iff] at hc
      refine ⟨_, _, fun β K' => by simp only [rowsF, hk, hcc, cond_true], h, fun nt w0 S w A tmps vx P t e ht hst hx => ?_⟩
      have hrel := (hst.tk t' k hk).rel
      obtain ⟨e0, a, c, rfl, e2, e3⟩ := hx.sub_inv hk hc.1
      have hlen : ((k.rows.drop off).take len).length = len := by rw [List.length_take, List.length_drop]; omega
      refine mk w A.Im P t e a c len _ ht hlen.symm (fun row hr => ?_) fun hne => ?_
      · have hr' := List.mem_of_mem_drop (List.mem_of_mem_take hr)
        have hz := hc.2.resolve_right fun h => by rw [h] at hr'; cases hr'
        cases hω : A.ω t' with
        | none => rw [hω] at hrel; rw [hrel.1] at hr'; cases hr'
        | some g => rw [hω] at hrel; rw [← hz]; exact hrel.2.2.1 row hr'
      · have h0 : 0 < len := by have := List.length_pos_iff.2 hne; omega
        have hz := hc.2.resolve_right fun h => by rw [h] at e0; simp at e0; omega
        obtain ⟨g, hg, rfl⟩ := e3 h0
        rw [hg] at hrel
        refine ⟨g, off * k.esz, rfl, fun i row hi j d hj => ?_⟩
        rw [List.getElem?_take] at hi
        split at hi
        · rw [List.getElem?_drop] at hi
          obtain ⟨u, h1, _, h2⟩ := hrel.cell hi hj
          rw [← hz]
          exact ⟨u, by rw [show off * k.esz + (i * k.esz + j) = (off + i) * k.esz + j by rw [Nat.add_mul]; omega]; exact h1, h2⟩
        · cases hi
    · cases h
  · cases h

/-- What an append does with what comes. -/
structure ApS (P : Program) (t ty e : TypeId) (i : TypeInfo) (ts : Array TypeId) (x : Value) (m : Nat) (news : List Value) (w : World) : Prop where
  nothing : m = 0 → ∀ (a : Option Addr) (sLen c : Nat), sLen ≤ c → (Builtin.append_ ts ty #[.slice a sLen c, x]).run P w = .ok (.slice a sLen c) w
  room : ∀ (b off sLen sCap : Nat), 0 < m → sLen + m ≤ sCap → (∀ j, j < news.length → (w.cell? ⟨b, off + sLen * i.size + j, none⟩).isSome = true) → (∀ j, j < news.length → w.frozen? ⟨b, off + sLen * i.size + j, none⟩ = false) →
    (Builtin.append_ ts ty #[.slice (some ⟨b, off, none⟩) sLen sCap, x]).run P w = .ok (.slice (some ⟨b, off, none⟩) (sLen + m) sCap) (w.setCells b (off + sLen * i.size) news)
  grow : ∀ (z : Value), i.zero = some z → ∀ (base : Option Addr) (sLen sCap : Nat) (olds : List Value), (Builtin.firstCells i.size sLen (.slice base sLen sCap)).run P w.drew = .ok olds.toArray w.drew → sCap < sLen + m →
    ((sLen + m : Nat) : Int) ≤ 9223372036854775807 → Builtin.nextslicecap (sLen + m) sCap * i.bytes ≤ 281474976710656 →
    (Builtin.append_ ts ty #[.slice base sLen sCap, x]).run P w = .ok (.slice (some ⟨w.heap.size, 0, none⟩) (sLen + m) (grownCap w (sLen + m) sCap e))
        (w.drew.alloc (.cells ((olds ++ news).toArray ++ Builtin.zeroCells z.cells (grownCap w (sLen + m) sCap e - (sLen + m))) e))
theorem ApS.of_src {t ty e : TypeId} {i : TypeInfo} (ht : P.underlying t = some (.slice e)) (hi : P.info? e = some i) {x : Value} {m : Nat} {news : List Value} (hs : Src P i.size t x m news w) : ApS P t ty e i #[t, t] x m news w where
  nothing h a sLen c hc := by
    subst h
    have hn : news = [] := List.eq_nil_of_length_eq_zero (by have := hs.newsLen; omega)
    subst hn
    exact run_append_nothing w t t ty e i ht hi a sLen c hc x hs
  room b off sLen sCap _ h1 h2 h3 := run_append_room_src w t t ty e i ht hi b off sLen sCap x m news hs h1 h2 h3
  grow z hz base sLen sCap olds ho h1 h2 h3 := run_append_grow_src w t t ty e i z ht hi hz base sLen sCap olds ho x m news hs h1 h2 h3
theorem ApS.zeros {t u ty e : TypeId} {i : TypeInfo} {ku kx : IntKind} {z : Value} (ht : P.underlying t = some (.slice e)) (hu : P.underlying u = some (.int ku)) (hi : P.info? e = some i) (hz : i.zero = some z) (hzs : z.cells.size = i.size) (hn0 : i.size ≠ 0) (hb0 : i.bytes ≠ 0) (h1 : ∀ u ∈ z.cells.toList, u.oneCell' = true)
    {l : Int} (h0 : 0 ≤ l) (hb : l.toNat * i.bytes ≤ 140737488355328) : ApS P t ty e i #[t, u] (.int kx l) l.toNat (Builtin.zeroCells z.cells l.toNat).toList w := by
  have hl : l.toNat ≤ 140737488355328 := Nat.le_trans (Nat.le_mul_of_pos_right _ (Nat.pos_of_ne_zero hb0)) hb
  have hw : IntKind.i64.wrap l = l := by simp [IntKind.wrap_i64]; omega
  have hl0 : ¬ l < 0 := by omega
  have hbl : ¬ (281474976710656 < l * (i.bytes : Int)) := by
    have : l * (i.bytes : Int) = ((l.toNat * i.bytes : Nat) : Int) := by rw [Int.natCast_mul, Int.toNat_of_nonneg h0]
    rw [this]; omega
  have hone : ∀ u ∈ (Builtin.zeroCells z.cells l.toNat).toList, u.oneCell' = true := fun u hu => by
    simp only [Builtin.zeroCells, Array.toList_map, List.mem_map, Array.toList_range, List.mem_range] at hu
    obtain ⟨q, hq, rfl⟩ := hu
    have hq' : q % z.cells.size < z.cells.size := Nat.mod_lt _ (by omega)
    refine h1 _ ?_
    rw [getElem!_pos z.cells _ hq']
    exact Array.getElem_mem_toList hq'
  refine ⟨fun h a sLen c hc => ?_, fun b off sLen sCap hm hc h2 h3 => ?_, fun z' hz' base sLen sCap olds ho hc h63 hfit => ?_⟩
  · cases a <;> simp [Builtin.append_, run_underlying ht, run_underlying hu, sizeOf, typeInfo, hi, asInt, asIntOf, hw, hl0, hbl, h, hc, storeCells]
  · have hst := run_storeCells_cells (P := P) b (off + sLen * i.size) (Builtin.zeroCells z.cells l.toNat).toList 0 w (by simpa using h2) (by simpa using h3) hone
    simp only [Nat.add_zero] at hst
    have hnz : ¬ (l.toNat * i.size = 0) := by have := Nat.mul_pos hm (Nat.pos_of_ne_zero hn0); omega
    simp [Builtin.append_, run_underlying ht, run_underlying hu, sizeOf, typeInfo, zeroValue, hi, hz, asInt, asIntOf, hw, hl0, hbl, hc, hnz, Addr.add_lit, hst]
  · rw [hz] at hz'; injection hz' with hz'; subst hz'
    have hn : ¬ (sLen + l.toNat ≤ sCap) := by omega
    have h63' : ¬ (9223372036854775807 < (sLen : Int) + max l 0) := by omega
    have h48' : ¬ (281474976710656 < Builtin.nextslicecap (sLen + l.toNat) sCap * i.bytes) := by omega
    by_cases hl1 : l = 0
    · subst hl1
      have hc' : ¬ (sLen ≤ sCap) := by omega
      have h63'' : ¬ (9223372036854775807 < (sLen : Int)) := by omega
      have h48'' : ¬ (281474976710656 < Builtin.nextslicecap sLen sCap * i.bytes) := by simpa using h48'
      simp [Builtin.append_, run_underlying ht, run_underlying hu, sizeOf, typeInfo, zeroValue, hi, hz, asInt, asIntOf, hw, hc', h63'', h48'', Question.forced, ho, newRow, grownCap, Builtin.zeroCells]
    · have hnz' : ¬ (l.toNat * i.size = 0) := by have := Nat.mul_pos (show 0 < l.toNat by omega) (Nat.pos_of_ne_zero hn0); omega
      simp [Builtin.append_, run_underlying ht, run_underlying hu, sizeOf, typeInfo, zeroValue, hi, hz, asInt, asIntOf, hw, hl0, hbl, hn, h63', h48', hnz', Question.forced, ho, newRow, grownCap]
      congr 2
      apply Array.ext'
      simp [List.append_assoc]

/-- An append, at what is known of the slice and of what comes. -/
theorem append_runG {t ty e : TypeId} {ts : Array TypeId} {n : Nat} (hu : P.underlying t = some (.slice e)) (hn : sz P e = n) (hn0 : n ≠ 0) (hb0 : P.bytesOf e ≠ 0) {z : Value} (hz : (P.info? e).bind (·.zero) = some z) (hzs : z.cells.size = n)
    {Im : Pl} {B : Nat} {k : Tk} {v : Value} {og : Option Nat} (hrel : TokRel w Im B k v og) (hk : (k.et = e ∧ k.esz = n) ∨ k.esz = 0) (hB : B ≤ w.heap.size)
    {ys : List (List D)} {news : List Value} (hnews : News w Im n ys news) {x : Value} (hs : ∀ i, P.info? e = some i → ApS P t ty e i ts x ys.length news w) (hroom : (k.rows.length + ys.length) * P.bytesOf e ≤ room)
    (hIm : ∀ a o, Im a o → ∃ u, w.cell? (at_ a o) = some u) (hIg : ∀ g o, og = some g → Im g o → o < k.rows.length * n) (ep : Nat) :
    ∃ v' w' g', (Builtin.append_ ts ty #[v, x]).run P w = .ok v' w' ∧ TokRel w' Im B ⟨ep, k.fz, e, n, k.rows ++ ys⟩ v' g' ∧ Keep (fun a o => og = some a ∧ k.rows.length * n ≤ o) w w' ∧ (g' = og ∨ g' = some w.heap.size) := by
  obtain ⟨i, hi, hz'⟩ := Option.bind_eq_some_iff.1 hz
  have hsz : i.size = n := by unfold sz at hn; simpa [Program.cellsOf, hi] using hn
  have hby : i.bytes = P.bytesOf e := by simp [Program.bytesOf, hi]
  have hlen : k.rows.length + ys.length ≤ 140737488355328 := by
    have := Nat.le_trans (Nat.le_mul_of_pos_right (k.rows.length + ys.length) (Nat.pos_of_ne_zero hb0)) hroom
    exact this
  -- a row without an address or with none that counts
  have hmem : ∀ {w' : World} {T : Pl}, Keep T w w' → (∀ a o, Im a o → ¬ T a o) → ∀ {d : D} {u : Value}, Rd w Im d u → Rd w' Im d u := fun hk hT d u h => h.step (fun _ _ h => h) fun a o ha => by
    obtain ⟨u, hu⟩ := hIm a o ha
    exact hk.cell (cell_lt hu) (hT a o ha)
  obtain ⟨a, c, rfl, hc, hav⟩ := hrel.slice
  by_cases hm : ys = []
  · subst hm
    have hnil : news = [] := by have := hnews.1; simp at this; exact this
    subst hnil
    refine ⟨_, w, og, (hs i hi).nothing rfl a _ c hc, ?_, Keep.refl _ _, .inl rfl⟩
    cases og with
    | none => obtain ⟨h1, b, h2⟩ := hrel; exact ⟨by simp [h1], b, by simpa [h1] using h2⟩
    | some g =>
      obtain ⟨h1, h2, h3, cap, cur, h4, h5, h6, h7, h8, h9⟩ := hrel
      obtain ⟨q1, q2⟩ := hk.resolve_right (by omega)
      exact ⟨Nat.pos_of_ne_zero hn0, h2, by simpa [q2] using h3, cap, cur, by simpa using h4, by simpa [← q1] using h5, by simpa using h6, h7, by rw [h8, q2], by simpa [q2] using h9⟩
  · have hpos : 0 < ys.length := List.length_pos_iff.2 hm
    -- the arm that grows
    have grow : ∀ (olds : List Value), News w Im n k.rows olds → c < k.rows.length + ys.length → (Builtin.firstCells i.size k.rows.length (.slice a k.rows.length c)).run P w.drew = .ok olds.toArray w.drew →
        ∃ v' w' g', (Builtin.append_ ts ty #[.slice a k.rows.length c, x]).run P w = .ok v' w' ∧ TokRel w' Im B ⟨ep, k.fz, e, n, k.rows ++ ys⟩ v' g' ∧ Keep (fun a o => og = some a ∧ k.rows.length * n ≤ o) w w' ∧ (g' = og ∨ g' = some w.heap.size) := by
      intro olds hol hlt hold
      have hrun := (hs i hi).grow z hz' a k.rows.length c olds hold hlt (by omega) (growslice_fits hlt (by rw [hby]; exact hroom))
      have hge := grownCap_ge w (k.rows.length + ys.length) c e
      have hcm := grownCap_le_maxLen w (k.rows.length + ys.length) c e (by simp only [maxLen]; omega)
      have hkeep : Keep (fun a o => og = some a ∧ k.rows.length * n ≤ o) w (w.drew.alloc (.cells ((olds ++ news).toArray ++ Builtin.zeroCells z.cells (grownCap w (k.rows.length + ys.length) c e - (k.rows.length + ys.length))) e)) :=
        (Keep.drew _ w).trans (Keep.alloc _ _ _) fun _ _ _ h => h
      refine ⟨_, _, some w.heap.size, hrun, ⟨Nat.pos_of_ne_zero hn0, hB, fun row hr => ?_, _, _, by simp, heap_alloc_new w.drew _, by simpa using hge, hcm, ?_, fun q row hq j d hj => ?_⟩, hkeep, .inr rfl⟩
      · rcases List.mem_append.1 hr with hr | hr
        · exact hol.2.1 row hr
        · exact hnews.2.1 row hr
      · simp only [Array.size_append, List.size_toArray, List.length_append, size_zeroCells, hzs, hol.1, hnews.1, ← Nat.add_mul]
        congr 1
        omega
      · have hnoT : ∀ a o, Im a o → ¬ (og = some a ∧ k.rows.length * n ≤ o) := fun a o hi ⟨h1, h2⟩ => by have := hIg a o h1 hi; omega
        have hidx : ∀ u, (olds ++ news)[q * n + j]? = some u → ((olds ++ news).toArray ++ Builtin.zeroCells z.cells (grownCap w (k.rows.length + ys.length) c e - (k.rows.length + ys.length)))[q * n + j]? = some u := fun u hu => by
          have := (List.getElem?_eq_some_iff.1 hu).1
          rw [Array.getElem?_append_left (by simpa using this)]
          simpa using hu
        by_cases hql : q < k.rows.length
        · rw [List.getElem?_append_left hql] at hq
          obtain ⟨u, h1, h2⟩ := hol.2.2 q row hq j d hj
          have hin := (row_in hol.2.1 hq hj).2.2
          exact ⟨u, hidx u (by rw [List.getElem?_append_left (by rw [hol.1]; exact hin)]; exact h1), hmem hkeep hnoT h2⟩
        · rw [List.getElem?_append_right (by omega)] at hq
          obtain ⟨u, h1, h2⟩ := hnews.2.2 _ row hq j d hj
          refine ⟨u, hidx u ?_, hmem hkeep hnoT h2⟩
          have e1 : q * n + j = k.rows.length * n + ((q - k.rows.length) * n + j) := by
            rw [← Nat.add_assoc, ← Nat.add_mul]; congr 2; omega
          rw [e1, List.getElem?_append_right (by rw [hol.1]; omega), hol.1, Nat.add_sub_cancel_left]
          exact h1
    cases og with
    | none =>
      obtain ⟨h1, b, h2⟩ := hrel
      have hc0 : c = 0 := by injection h2
      subst hc0
      refine grow [] ⟨by simp [h1], by simp [h1], by simp [h1]⟩ (by rw [h1]; simp; omega) ?_
      rw [h1]
      cases a <;> simp [Builtin.firstCells, loadCells, loadCellsFrom]
    | some g =>
      obtain ⟨h1, h2, h3, cap, cur, h4, h5, h6, h7, h8, h9⟩ := hrel
      obtain ⟨q1, q2⟩ := hk.resolve_right (by omega)
      injection h4 with h4 _ h4'
      subst h4 h4'
      have holdc : ∀ i row, k.rows[i]? = some row → ∀ (j : Nat) (d : D), row[j]? = some d → ∃ u, w.cell? (at_ g (0 + (i * n + j))) = some u ∧ Rd w Im d u := fun i row hi j d hj => by
        obtain ⟨u, r1, r2⟩ := h9 i row hi j d hj
        rw [q2] at r1
        exact ⟨u, by simp [World.cell?, h5, r1], r2⟩
      by_cases hfit : k.rows.length + ys.length ≤ c
      · have hcs : (k.rows.length + ys.length) * n ≤ cur.size := by rw [h8, q2]; exact Nat.mul_le_mul_right _ hfit
        have hnl := hnews.1
        have hex : ∀ j, j < news.length → (w.cell? (at_ g (k.rows.length * n + j))).isSome = true := fun j hj => by
          have : k.rows.length * n + j < cur.size := by rw [Nat.add_mul] at hcs; omega
          simp [World.cell?, h5, this]
        have hrun := (hs i hi).room g 0 k.rows.length c hpos hfit (by rw [hsz]; simpa using hex) (fun j hj => by simp [World.frozen?, h5])
        rw [hsz, Nat.zero_add] at hrun
        have hkeep := keep_setCells g news (k.rows.length * n) w
        have hkeep' : Keep (fun a o => some g = some a ∧ k.rows.length * n ≤ o) w (w.setCells g (k.rows.length * n) news) := hkeep.mono fun a o _ ⟨r1, r2, _⟩ => ⟨by rw [r1], r2⟩
        obtain ⟨cur', c1, c2, c3⟩ := keep_row hkeep h5
        have hnoT : ∀ a o, Im a o → ¬ (some g = some a ∧ k.rows.length * n ≤ o) := fun a o hi ⟨r1, r2⟩ => by have := hIg a o r1 hi; omega
        refine ⟨_, _, some g, hrun, ⟨Nat.pos_of_ne_zero hn0, h2, fun row hr => ?_, c, cur', by simp, by rw [← q1]; exact c1, by simpa using hfit, h7, by rw [c2, h8, q2], fun q row hq j d hj => ?_⟩, hkeep', .inl rfl⟩
        · rcases List.mem_append.1 hr with hr | hr
          · rw [← q2]; exact h3 row hr
          · exact hnews.2.1 row hr
        · show ∃ u, cur'[q * n + j]? = some u ∧ _
          rw [← c3]
          by_cases hql : q < k.rows.length
          · rw [List.getElem?_append_left hql] at hq
            obtain ⟨u, r1, r2⟩ := holdc q row hq j d hj
            rw [Nat.zero_add] at r1
            have hin := (row_in h3 hq hj).2.2
            rw [q2] at hin
            exact ⟨u, hkeep.cell_some r1 (fun hh => by omega), hmem hkeep' hnoT r2⟩
          · rw [List.getElem?_append_right (by omega)] at hq
            obtain ⟨u, r1, r2⟩ := hnews.2.2 _ row hq j d hj
            have e1 : q * n + j = k.rows.length * n + ((q - k.rows.length) * n + j) := by
              rw [← Nat.add_assoc, ← Nat.add_mul]; congr 2; omega
            have hlt := (List.getElem?_eq_some_iff.1 r1).1
            have := World.cell?_setCells_in g news (k.rows.length * n) w hex _ hlt
            refine ⟨u, ?_, hmem hkeep' hnoT r2⟩
            rw [e1, this, ← r1, List.getElem?_eq_getElem hlt]
      · obtain ⟨olds, r1, r2⟩ := news_of_mem (w := w) (Im := Im) (n := n) (ys := k.rows) (g := g) (o := 0) (by rw [← q2]; exact h3) holdc
        refine grow olds r1 (by omega) ?_
        rw [hsz]
        exact run_firstCells_some w.drew n k.rows.length (at_ g 0) _ c olds r1.1 fun j u hj => by rw [at_add]; exact r2 j u hj
theorem append_run {t ty e : TypeId} {n : Nat} (hu : P.underlying t = some (.slice e)) (hn : sz P e = n) (hn0 : n ≠ 0) (hb0 : P.bytesOf e ≠ 0) {z : Value} (hz : (P.info? e).bind (·.zero) = some z) (hzs : z.cells.size = n)
    {Im : Pl} {B : Nat} {k : Tk} {v : Value} {og : Option Nat} (hrel : TokRel w Im B k v og) (hk : (k.et = e ∧ k.esz = n) ∨ k.esz = 0) (hB : B ≤ w.heap.size)
    {ys : List (List D)} {news : List Value} (hnews : News w Im n ys news) {x : Value} (hs : Src P n t x ys.length news w) (hroom : (k.rows.length + ys.length) * P.bytesOf e ≤ room)
    (hIm : ∀ a o, Im a o → ∃ u, w.cell? (at_ a o) = some u) (hIg : ∀ g o, og = some g → Im g o → o < k.rows.length * n) (ep : Nat) :
    ∃ v' w' g', (Builtin.append_ #[t, t] ty #[v, x]).run P w = .ok v' w' ∧ TokRel w' Im B ⟨ep, k.fz, e, n, k.rows ++ ys⟩ v' g' ∧ Keep (fun a o => og = some a ∧ k.rows.length * n ≤ o) w w' ∧ (g' = og ∨ g' = some w.heap.size) :=
  append_runG hu hn hn0 hb0 hz hzs hrel hk hB hnews (fun i hi => .of_src hu hi (by rw [show i.size = n by unfold sz at hn; simpa [Program.cellsOf, hi] using hn]; exact hs)) hroom hIm hIg ep

end Go.Vm

/- Operations that make or write memory. -/
set_option linter.unusedVariables false
set_option linter.unusedSimpArgs false
namespace Go.Vm

variable {nt : Nat} {w0 : World} {S : Sp} {w : World} {A : As} {fr : Fr} {tmps : Array Value} {P : Program}

/-- Boxes and tokens as an operation leaves them. -/
def Fr.mem (fr : Fr) (x : Eff) : Fr := { fr with bx := upds fr.bx x.bx, tk := upds fr.tk x.tk }
theorem app_eq (fr : Fr) (d : Option Tmp) (x : Eff) : fr.app d x = (fr.mem x).put d x.v := by cases d <;> rfl
theorem mem_nil {x : Eff} (h1 : x.bx = []) (h2 : x.tk = []) : fr.mem x = fr := by simp [Fr.mem, h1, h2, upds]

/-- What an operation must do that the evaluator says does x. -/
def Does (P : Program) (fr : Fr) (x : Eff) (nt : Nat) (w0 : World) (S : Sp) (w : World) (A : As) (tmps : Array Value) (s : Sem Value) : Prop :=
  ∃ v w' A', s.run P w = .ok v w' ∧ St nt w0 S w' A' (fr.mem x) tmps ∧ RV (fr.mem x) w' A' x.v v
theorem Does.read {x : Eff} {s : Sem Value} (h1 : x.bx = []) (h2 : x.tk = []) (h : St nt w0 S w A fr tmps) (hr : ∃ v, s.run P w = .ok v w ∧ RV fr w A x.v v) : Does P fr x nt w0 S w A tmps s := by
  obtain ⟨v, h3, h4⟩ := hr
  exact ⟨v, w, A, h3, by rw [mem_nil h1 h2]; exact h, by rw [mem_nil h1 h2]; exact h4⟩

/-- A token grows. -/
theorem St.appTok (h : St nt w0 S w A fr tmps) {t : Nat} {k k' : Tk} (ht : fr.tk t = some k) (he : k.e < k'.e) (hf : k'.fz = k.fz) (hl : k.rows.length * k.esz ≤ k'.rows.length * k'.esz) {w' : World} {v' : Value} {g' : Option Nat} {m : Nat} (hm : k.rows.length * k.esz ≤ m)
    (hk : Keep (fun a o => A.ω t = some a ∧ m ≤ o) w w') (hr : TokRel w' A.Im w0.heap.size k' v' g') (hg : g' = A.ω t ∨ g' = some w.heap.size) :
    ∀ fr', fr' = { fr with tk := upd fr.tk t (some k') } → ∃ A', St nt w0 S w' A' fr' tmps ∧ A'.τ t = v' ∧ oneC v' = true := by
  intro fr' hfr
  subst hfr
  have hto := h.tk t k ht
  have hone : oneC v' = true := by
    cases g' with
    | none => obtain ⟨_, a, rfl⟩ := hr; rfl
    | some g => obtain ⟨_, _, _, c, u, rfl, _⟩ := hr; rfl
  have himg : ∀ a o, A.Im a o → A.ω t = some a → o < k.rows.length * k.esz := fun a o hi hω => ((h.im a o hi).tok t k (hto.own a hω o) ht hω).2
  have u : Upd w0 S w A fr w' (A.newTok t v' g') { fr with tk := upd fr.tk t (some k') } (fun a o => A.ω t = some a ∧ m ≤ o) := by
    refine ⟨hk, fun a o hh => .inl ?_, fun a o hi hh => ?_, rfl, fun _ _ h => h, fun x o hx _ => ?_, fun s b hb => ⟨b, hb, .inr ⟨rfl, rfl⟩⟩, fun t' z hz => ?_⟩
    · have hrel := hto.rel
      rw [hh.1] at hrel
      exact hrel.2.1
    · have := himg a o hi hh.1; omega
    · simp only [As.newTok]
      split
      · rename_i e1
        rcases hg with hg | hg
        · exact (hto.own x (hg ▸ e1) o).symm
        · rw [hg] at e1; injection e1 with e1; omega
      · rfl
    · by_cases hs : t' = t
      · subst hs
        rw [ht] at hz; injection hz with hz; subst hz
        exact ⟨_, upd_same _ _ _, .inl he⟩
      · exact ⟨z, (upd_ne _ _ hs).trans hz, .inr ⟨rfl, upd_ne _ _ hs, upd_ne _ _ hs, rfl, rfl⟩⟩
  refine ⟨A.newTok t v' g', h.of_upd u (fun s b hb => .inl ⟨hb, rfl, fun j hj hh => ?_⟩) (fun t' z hz => ?_) (h.im_old u fun t' x hx y hy hlt => ?_) (fun _ _ h => .inl h), upd_same _ _ _, hone⟩
  · have q1 := (h.bx s b hb).own j hj
    rw [hto.own _ hh.1] at q1
    cases q1
  · by_cases hs : t' = t
    · subst hs
      simp only [upd_same, Option.some.injEq] at hz
      subst hz
      have e1 : (A.newTok t' v' g').τ t' = v' := upd_same _ _ _
      have e2 : (A.newTok t' v' g').ω t' = g' := upd_same _ _ _
      refine .inr ⟨by rw [e1, e2]; exact hr, fun y hy o => ?_⟩
      rw [e2] at hy
      simp [As.newTok, hy]
    · have hz' := (upd_ne _ _ hs).symm.trans hz
      refine .inl ⟨⟨z, hz', rfl, rfl, rfl⟩, upd_ne _ _ hs, upd_ne _ _ hs, fun y hy o hh => ?_⟩
      have q1 := (h.tk t' z hz').own y hy o
      rw [hto.own _ hh.1] at q1
      injection q1 with q1
      exact hs q1.symm
  · by_cases hs : t' = t
    · subst hs
      simp only [upd_same, Option.some.injEq] at hx
      subst hx
      have e2 : (A.newTok t' v' g').ω t' = g' := upd_same _ _ _
      rw [e2] at hy
      rcases hg with hg | hg
      · exact ⟨k, ht, by rw [← hg]; exact hy, fun hh => by rw [hf]; exact hh, hl⟩
      · rw [hg] at hy; injection hy with hy; omega
    · exact ⟨x, (upd_ne _ _ hs).symm.trans hx, (upd_ne _ _ hs).symm.trans hy, fun h => h, Nat.le_refl _⟩

/-- A token that is not read by others is made shorter. -/
theorem St.cutTok (h : St nt w0 S w A fr tmps) {t : Nat} {k k' : Tk} (ht : fr.tk t = some k) (he : k.e < k'.e) (hf : k.fz = false) {v' : Value} (hr : TokRel w A.Im w0.heap.size k' v' (A.ω t)) :
    ∀ fr', fr' = { fr with tk := upd fr.tk t (some k') } → ∃ A', St nt w0 S w A' fr' tmps ∧ A'.τ t = v' ∧ oneC v' = true := by
  intro fr' hfr
  subst hfr
  have hto := h.tk t k ht
  have hone : oneC v' = true := by
    obtain ⟨a, c, rfl, _⟩ := hr.slice
    rfl
  have u : Upd w0 S w A fr w (A.newTok t v' (A.ω t)) { fr with tk := upd fr.tk t (some k') } (fun _ _ => False) := by
    refine ⟨Keep.refl _ _, fun _ _ hh => hh.elim, fun _ _ _ hh => hh, rfl, fun _ _ h => h, fun x o hx _ => ?_, fun s b hb => ⟨b, hb, .inr ⟨rfl, rfl⟩⟩, fun t' z hz => ?_⟩
    · simp only [As.newTok]
      split
      · rename_i e1
        exact (hto.own x e1 o).symm
      · rfl
    · by_cases hs : t' = t
      · subst hs
        rw [ht] at hz; injection hz with hz; subst hz
        exact ⟨_, upd_same _ _ _, .inl he⟩
      · exact ⟨z, (upd_ne _ _ hs).trans hz, .inr ⟨rfl, upd_ne _ _ hs, upd_ne _ _ hs, rfl, rfl⟩⟩
  refine ⟨A.newTok t v' (A.ω t), h.of_upd u (fun s b hb => .inl ⟨hb, rfl, fun j hj hh => hh⟩) (fun t' z hz => ?_) (fun q o hi => ?_) (fun _ _ h => .inl h), upd_same _ _ _, hone⟩
  · by_cases hs : t' = t
    · subst hs
      simp only [upd_same, Option.some.injEq] at hz
      subst hz
      have e1 : (A.newTok t' v' (A.ω t')).τ t' = v' := upd_same _ _ _
      have e2 : (A.newTok t' v' (A.ω t')).ω t' = A.ω t' := upd_same _ _ _
      refine .inr ⟨by rw [e1, e2]; exact hr, fun y hy o => ?_⟩
      rw [e2] at hy
      simp [As.newTok, hy]
    · have hz' := (upd_ne _ _ hs).symm.trans hz
      exact .inl ⟨⟨z, hz', rfl, rfl, rfl⟩, upd_ne _ _ hs, upd_ne _ _ hs, fun y hy o hh => hh⟩
  · have hh := h.im q o hi
    obtain ⟨v, hv⟩ := hh.cell
    have hown := u.own q o (cell_lt hv) (.inr hi)
    refine ⟨⟨v, hv⟩, fun s => by rw [hown]; exact hh.nob s, fun t' x h1 h2 h3 => ?_⟩
    rw [hown] at h1
    by_cases hs : t' = t
    · subst hs
      have e2 : (A.newTok t' v' (A.ω t')).ω t' = A.ω t' := upd_same _ _ _
      rw [e2] at h3
      have := (hh.tok t' k h1 ht h3).1
      rw [hf] at this; cases this
    · exact hh.tok t' x h1 ((upd_ne _ _ hs).symm.trans h2) ((upd_ne _ _ hs).symm.trans h3)

theorem zeroOk_eq {e : TypeId} (h : zeroOk P e = true) : ∃ z, (P.info? e).bind (·.zero) = some z ∧ z.cells.size = sz P e := by
  unfold zeroOk at h
  split at h
  · rename_i v hv
    exact ⟨v, hv, Nat.eq_of_beq_eq_true h⟩
  · cases h

theorem elemT_eq {t e : TypeId} (h : elemT P t = some e) : P.underlying t = some (.slice e) := by
  unfold elemT at h
  split at h
  · rename_i x hx; injection h with h; subst h; exact hx
  · cases h

theorem appendF_ok {α : Type} {X : Env} {d : Nat} {t : TypeId} {s x : V} {K : Eff → Option α} {r : α} (h : appendF X fr d t s x K = some r) :
    ∃ z, (∀ (β : Type) (K' : Eff → Option β), appendF X fr d t s x K' = K' z) ∧
      ∀ (nt : Nat) (w0 : World) (S : Sp) (w : World) (A : As) (tmps : Array Value) (vs vx : Value) (ty : TypeId), St nt w0 S w A fr tmps → RV fr w A s vs → RV fr w A x vx → Does X.P fr z nt w0 S w A tmps (Builtin.append_ #[t, t] ty #[vs, vx]) := by
  unfold appendF at h
  split at h
  · cases h
  · rename_i e he
    have hu := elemT_eq he
    replace h := bif_not h; obtain ⟨hc, h⟩ := h
    have hcc := hc
    simp only [Bool.or_eq_false_iff, Bool.not_eq_false'] at hc
    obtain ⟨⟨hn0, hb0⟩, hzo⟩ := hc
    have hn0 := beq_false hn0
    have hb0 := beq_false hb0
    obtain ⟨z, hz, hzs⟩ := zeroOk_eq hzo
    replace h := rowsF_ok h; obtain ⟨ys, rd, hK, h, hrows⟩ := h
    split at h
    · rename_i k ep
      split at h
      · rename_i y hy
        replace h := bif_some h; obtain ⟨hq, h⟩ := h
        have hqq := hq
        simp only [Bool.and_eq_true, Bool.or_eq_true, Nat.beq_eq] at hq
        replace h := br_req h; obtain ⟨hroom, h⟩ := h
        refine ⟨_, fun β K' => by simp only [appendF, he, hcc, cond_false, hK, hy, hqq, cond_true, hroom, br]; rfl, fun nt w0 S w A tmps vs vx ty hst hs hx => ?_⟩
        have := hs.own_inv hy hq.1
        subst this
        obtain ⟨news, n1, n2⟩ := hrows nt w0 S w A tmps vx X.P t e hu hst hx
        have hto := hst.tk k y hy
        have hep := hq.1
        have hsz : y.rows.length * y.esz ≤ y.rows.length * sz X.P e := by
          rcases hq.2 with hq | hq
          · rw [hq.2]; exact Nat.le_refl _
          · rw [hq]; simp
        have himg : ∀ g o, A.ω k = some g → A.Im g o → o < y.rows.length * sz X.P e := fun g o hg hi => by
          have := ((hst.im g o hi).tok k y (hto.own g hg o) hy hg).2; omega
        obtain ⟨v', w', g', r1, r2, r3, r4⟩ := append_run (P := X.P) (ty := ty) hu rfl hn0 hb0 hz hzs hto.rel hq.2 hst.keep.size n1 n2 (by simpa using hroom) (fun a o hi => (hst.im a o hi).cell) himg (ep + 1)
        have hle : y.rows.length * y.esz ≤ (y.rows ++ ys).length * sz X.P e := by
          rw [List.length_append, Nat.add_mul]; omega
        obtain ⟨A', s1, s2, s3⟩ := hst.appTok hy (k' := ⟨ep + 1, y.fz, e, sz X.P e, y.rows ++ ys⟩) (by show y.e < ep + 1; omega) rfl hle hsz r3 r2 r4 _ rfl
        exact ⟨v', w', A', r1, s1, .one _ _ ⟨s3, _, upd_same _ _ _, Nat.le_refl _, fun _ => s2.symm⟩⟩
      · cases h
    · replace h := br_req h; obtain ⟨hroom, h⟩ := h
      refine ⟨_, fun β K' => by simp only [appendF, he, hcc, cond_false, hK, hroom, br]; rfl, fun nt w0 S w A tmps vs vx ty hst hs hx => ?_⟩
      obtain ⟨_, a, rfl⟩ := hs.one_inv
      obtain ⟨news, n1, n2⟩ := hrows nt w0 S w A tmps vx X.P t e hu hst hx
      obtain ⟨v', w', g', r1, r2, r3, r4⟩ := append_run (P := X.P) (ty := ty) (k := ⟨0, false, 0, 0, []⟩) (v := .slice a 0 0) (og := none) (Im := A.Im) (B := w0.heap.size) hu rfl hn0 hb0 hz hzs ⟨rfl, a, rfl⟩ (.inr rfl) hst.keep.size n1 n2 (by simpa using hroom) (fun a o hi => (hst.im a o hi).cell) (fun g o hg => by cases hg) (nextT fr (key d 0))
      obtain ⟨A', _, s1, s2, _, s3⟩ := hst.newTok (key d 0) ⟨nextT fr (key d 0), false, e, sz X.P e, ys⟩ v' g' rfl rfl (r3.mono fun a o _ hh => by cases hh.1) (fun q hq => by rcases r4 with r4 | r4 <;> rw [r4] at hq <;> simp at hq; omega) r2 _ rfl
      exact ⟨v', w', A', r1, s1, .one _ _ ⟨s3, _, upd_same _ _ _, Nat.le_refl _, fun _ => s2.symm⟩⟩
    · cases h

theorem zeroF_ok {α : Type} {X : Env} {t : TypeId} {K : List C → Option α} {r : α} (h : zeroF X t K = some r) :
    ∃ v, (X.P.info? t).bind (·.zero) = some v ∧ v.cells.size = sz X.P t ∧ (∀ (β : Type) (K' : List C → Option β), zeroF X t K' = K' (v.cells.toList.map cOf)) ∧ K (v.cells.toList.map cOf) = some r ∧
      (∀ w, (zeroValue t).run X.P w = .ok v w) ∧ ∀ fr w A, RCs fr w A (v.cells.toList.map cOf) v.cells.toList := by
  unfold zeroF at h
  split at h
  · rename_i v hv
    replace h := bif_some h; obtain ⟨hc, h⟩ := h
    have hcc := hc
    simp only [Bool.and_eq_true, Nat.beq_eq] at hc
    obtain ⟨i, hi, hz⟩ := Option.bind_eq_some_iff.1 hv
    refine ⟨v, hv, hc.1, fun β K' => by simp only [zeroF, hv, hcc, cond_true], h, fun w => by simp [zeroValue, typeInfo, hi, hz], fun fr w A => ⟨by simp, fun j c u h1 h2 => ?_⟩⟩
    rw [List.getElem?_map, h2] at h1
    simp at h1
    subst h1
    exact cOf_rc (List.all_eq_true.1 hc.2 u (List.mem_of_getElem? h2))
  · cases h

theorem getElem?_zeroCells {z : Array Value} {l q j : Nat} (hq : q < l) (hj : j < z.size) : (Builtin.zeroCells z l).toList[q * z.size + j]? = z[j]? := by
  have hlt : q * z.size + j < l * z.size := by
    have : q * z.size + z.size ≤ l * z.size := by rw [← Nat.succ_mul]; exact Nat.mul_le_mul_right _ hq
    omega
  have hm : (q * z.size + j) % z.size = j := by rw [Nat.mul_comm, Nat.mul_add_mod, Nat.mod_eq_of_lt hj]
  rw [Array.getElem?_toList]
  simp only [Builtin.zeroCells, Array.getElem?_map, Array.getElem?_range, if_pos hlt, Option.map_some, hm, getElem!_pos z j hj, Array.getElem?_eq_getElem hj]
theorem appendZF_ok {α : Type} {X : Env} {d : Nat} {t u : TypeId} {s x : V} {K : Eff → Option α} {r : α} (h : appendZF X fr d t u s x K = some r) :
    ∃ z, (∀ (β : Type) (K' : Eff → Option β), appendZF X fr d t u s x K' = K' z) ∧
      ∀ (nt : Nat) (w0 : World) (S : Sp) (w : World) (A : As) (tmps : Array Value) (vs vx : Value) (ty : TypeId), St nt w0 S w A fr tmps → RV fr w A s vs → RV fr w A x vx → Does X.P fr z nt w0 S w A tmps (Builtin.append_ #[t, u] ty #[vs, vx]) := by
  unfold appendZF at h
  split at h
  · rename_i e ku he hku
    have hu := elemT_eq he
    replace h := bif_not h; obtain ⟨hc, h⟩ := h
    have hcc := hc
    simp only [Bool.or_eq_false_iff, Bool.not_eq_false'] at hc
    obtain ⟨⟨hn0, hb0⟩, hzo⟩ := hc
    have hn0 := beq_false hn0
    have hb0 := beq_false hb0
    replace h := zeroF_ok h
    obtain ⟨zv, hz, hzs, hK, h, hzr, hrc⟩ := h
    obtain ⟨i, hi, hzi⟩ := Option.bind_eq_some_iff.1 hz
    have hsz : i.size = sz X.P e := by simp [sz, Program.cellsOf, hi]
    have hby : i.bytes = X.P.bytesOf e := by simp [Program.bytesOf, hi]
    split at h
    · rename_i zs hzd
      replace h := intT_ok h; obtain ⟨l, hl, h, hvl⟩ := h
      have hnews : ∀ {nt : Nat} {w0 : World} {S : Sp} {w : World} {A : As} {tmps : Array Value}, St nt w0 S w A fr tmps → News w A.Im (sz X.P e) (List.replicate l.toNat zs) (Builtin.zeroCells zv.cells l.toNat).toList := fun {nt w0 S w A tmps} hst => by
        obtain ⟨hdl, hdr⟩ := toDs_rd hst hzd (hrc fr w A) (ks := []) fun t ht => by
          obtain ⟨c, hc1, hc2⟩ := List.mem_flatMap.1 ht
          obtain ⟨u, _, rfl⟩ := List.mem_map.1 hc1
          unfold cOf at hc2
          split at hc2
          · cases hc2
          · split at hc2 <;> cases hc2
        have hdl' : zs.length = sz X.P e := by simp at hdl; omega
        have him : ∀ k o, ImF A fr [] k o → A.Im k o := fun k o hh => hh.resolve_right fun ⟨t, ht, _⟩ => by cases ht
        refine ⟨by simp [Builtin.zeroCells, hzs], fun row hr => by rw [(List.mem_replicate.1 hr).2]; exact hdl', fun q row hq j x hj => ?_⟩
        have hlt := (List.getElem?_eq_some_iff.1 hq).1
        have hr := (List.mem_replicate.1 (List.mem_of_getElem? hq)).2
        subst hr
        have hjl := (List.getElem?_eq_some_iff.1 hj).1
        simp at hlt
        have hjz : j < zv.cells.size := by omega
        refine ⟨zv.cells[j], ?_, ?_⟩
        · rw [← hzs, getElem?_zeroCells (by omega) hjz, Array.getElem?_eq_getElem hjz]
        · exact Rd.step (hdr j x _ hj (by rw [Array.getElem?_toList]; exact Array.getElem?_eq_getElem hjz)) (fun k o hh => him k o hh) fun k o hh => rfl
      have hap : ∀ (A : As) (w : World) (ty : TypeId) (kx : IntKind), 0 ≤ l → l.toNat * X.P.bytesOf e ≤ room → ∀ i', X.P.info? e = some i' → ApS X.P t ty e i' #[t, u] (.int kx l) l.toNat (Builtin.zeroCells zv.cells l.toNat).toList w := fun A w ty kx h0 hb i' hi' => by
        rw [hi] at hi'; injection hi' with hi'; subst hi'
        refine .zeros hu hku hi hzi (by omega) (by omega) (by omega) (fun q hq => ?_) h0 (by rw [hby]; exact hb)
        obtain ⟨j, hj, hjq⟩ := List.getElem_of_mem hq
        have := (hrc fr w A).2 j (cOf q) q (by rw [List.getElem?_map, List.getElem?_eq_getElem hj, hjq]; rfl) (by rw [List.getElem?_eq_getElem hj, hjq])
        have h1 := this.1
        cases q <;> first | rfl | cases h1
      split at h
      · rename_i k ep
        split at h
        · rename_i y hy
          replace h := bif_some h; obtain ⟨hq, h⟩ := h
          have hqq := hq
          simp only [Bool.and_eq_true, Bool.or_eq_true, Nat.beq_eq] at hq
          replace h := br_req h; obtain ⟨hroom, h⟩ := h
          have hrm : 0 ≤ l ∧ (y.rows.length + l.toNat) * X.P.bytesOf e ≤ room := by simpa using hroom
          have hrm1 : l.toNat * X.P.bytesOf e ≤ room := Nat.le_trans (Nat.mul_le_mul_right _ (Nat.le_add_left _ _)) hrm.2
          refine ⟨_, fun β K' => by unfold appendZF; simp only [he, hku, hcc, cond_false]; rw [hK]; simp only [hzd, hl, hy, hqq, cond_true, hroom, br]; rfl, fun nt w0 S w A tmps vs vx ty hst hs hx => ?_⟩
          obtain ⟨kx, rfl⟩ := hvl fr w A vx hx
          have := hs.own_inv hy hq.1
          subst this
          have hto := hst.tk k y hy
          have hep := hq.1
          have hsz' : y.rows.length * y.esz ≤ y.rows.length * sz X.P e := by
            rcases hq.2 with hq | hq
            · rw [hq.2]; exact Nat.le_refl _
            · rw [hq]; simp
          have himg : ∀ g o, A.ω k = some g → A.Im g o → o < y.rows.length * sz X.P e := fun g o hg hi => by
            have := ((hst.im g o hi).tok k y (hto.own g hg o) hy hg).2; omega
          obtain ⟨v', w', g', r1, r2, r3, r4⟩ := append_runG (P := X.P) (ty := ty) (ts := #[t, u]) (ys := List.replicate l.toNat zs) (x := .int kx l) hu rfl hn0 hb0 hz hzs hto.rel hq.2 hst.keep.size (hnews hst)
            (by rw [List.length_replicate]; exact hap A w ty kx hrm.1 hrm1) (by rw [List.length_replicate]; exact hrm.2) (fun a o hi => (hst.im a o hi).cell) himg (ep + 1)
          have hle : y.rows.length * y.esz ≤ (y.rows ++ List.replicate l.toNat zs).length * sz X.P e := by
            rw [List.length_append, Nat.add_mul]; omega
          obtain ⟨A', s1, s2, s3⟩ := hst.appTok hy (k' := ⟨ep + 1, y.fz, e, sz X.P e, y.rows ++ List.replicate l.toNat zs⟩) (by show y.e < ep + 1; omega) rfl hle hsz' r3 r2 r4 _ rfl
          exact ⟨v', w', A', r1, s1, .one _ _ ⟨s3, _, upd_same _ _ _, Nat.le_refl _, fun _ => s2.symm⟩⟩
        · cases h
      · replace h := br_req h; obtain ⟨hroom, h⟩ := h
        have hrm : 0 ≤ l ∧ l.toNat * X.P.bytesOf e ≤ room := by simpa using hroom
        refine ⟨_, fun β K' => by unfold appendZF; simp only [he, hku, hcc, cond_false]; rw [hK]; simp only [hzd, hl, hroom, br]; rfl, fun nt w0 S w A tmps vs vx ty hst hs hx => ?_⟩
        obtain ⟨kx, rfl⟩ := hvl fr w A vx hx
        obtain ⟨_, a, rfl⟩ := hs.one_inv
        obtain ⟨v', w', g', r1, r2, r3, r4⟩ := append_runG (P := X.P) (ty := ty) (ts := #[t, u]) (ys := List.replicate l.toNat zs) (x := .int kx l) (k := ⟨0, false, 0, 0, []⟩) (v := .slice a 0 0) (og := none) (Im := A.Im) (B := w0.heap.size) hu rfl hn0 hb0 hz hzs ⟨rfl, a, rfl⟩ (.inr rfl) hst.keep.size (hnews hst)
          (by rw [List.length_replicate]; exact hap A w ty kx hrm.1 hrm.2) (by rw [List.length_replicate]; simpa using hrm.2) (fun a o hi => (hst.im a o hi).cell) (fun g o hg => by cases hg) (nextT fr (key d 0))
        obtain ⟨A', _, s1, s2, _, s3⟩ := hst.newTok (key d 0) ⟨nextT fr (key d 0), false, e, sz X.P e, List.replicate l.toNat zs⟩ v' g' rfl rfl (r3.mono fun a o _ hh => by cases hh.1) (fun q hq => by rcases r4 with r4 | r4 <;> rw [r4] at hq <;> simp at hq; omega) r2 _ rfl
        exact ⟨v', w', A', r1, s1, .one _ _ ⟨s3, _, upd_same _ _ _, Nat.le_refl _, fun _ => s2.symm⟩⟩
      · cases h
    · cases h
  · cases h
theorem capF_ok {α : Type} {X : Env} {t : TypeId} {a : V} {K : Eff → Option α} {r : α} (h : capF X t a K = some r) :
    ∃ x, (∀ (β : Type) (K' : Eff → Option β), capF X t a K' = K' x) ∧ x.bx = [] ∧ x.tk = [] ∧
      ∀ (nt : Nat) (w0 : World) (S : Sp) (w : World) (A : As) (tmps : Array Value) (va : Value) (ty : TypeId) (ts : Array TypeId), ts[0]? = some t → St nt w0 S w A fr tmps → RV fr w A a va → ∃ v, (Builtin.cap_ ts ty #[va]).run X.P w = .ok v w ∧ RV fr w A x.v v := by
  unfold capF at h
  split at h
  · rename_i e hu
    refine ⟨_, fun β K' => by simp only [capF, hu]; rfl, rfl, rfl, fun nt w0 S w A tmps va ty ts hts hst ha => ?_⟩
    obtain ⟨_, a, rfl⟩ := ha.one_inv
    exact ⟨.int .i64 0, by simp [Builtin.cap_, hts, run_underlying hu, goInt], .one _ _ ⟨rfl, .int _ _⟩⟩
  · cases h
theorem truncF_ok {α : Type} {X : Env} {t : TypeId} {x : V} {lo hi mx : Option Operand} {K : Eff → Option α} {r : α} (h : truncF X fr t x lo hi mx K = some r) :
    ∃ z, (∀ (β : Type) (K' : Eff → Option β), truncF X fr t x lo hi mx K' = K' z) ∧
      ∀ (nt : Nat) (w0 : World) (S : Sp) (w : World) (A : As) (a : Act) (vx : Value), St nt w0 S w A fr a.tmps → RV fr w A x vx →
        Does X.P fr z nt w0 S w A a.tmps (Instr.sliceAt t vx (lo.map a.eval) (hi.map a.eval) (mx.map a.eval)) := by
  unfold truncF at h
  split at h
  · rename_i e k ep hh he
    have hu := elemT_eq he
    split at h
    · rename_i y hy
      replace h := bif_some h; obtain ⟨hc, h⟩ := h
      have hcc := hc
      simp only [Bool.and_eq_true, Nat.beq_eq, Bool.not_eq_true'] at hc
      obtain ⟨⟨⟨⟨c1, c2⟩, c3⟩, c4⟩, c5⟩ := hc
      have hz := beq_false c4
      obtain ⟨l, q, hK, h, h1, h2, hbd⟩ := cutB_ok h
      refine ⟨_, fun β K' => by simp only [truncF, he, hy, hcc, cond_true]; exact hK β _, fun nt w0 S w A a vx hst hx => ?_⟩
      have := hx.own_inv hy c1
      subst this
      have hto := hst.tk k y hy
      have hrel := hto.rel
      obtain ⟨ad, c, e1, e2, e3⟩ := hrel.slice
      have hb := hbd fr w A none (some (a.eval hh)) (OV.of hst none) (OV.of hst (some hh))
      have hl0 : l = 0 := by
        rcases hb.1 with ⟨_, h⟩ | ⟨_, _, h, _⟩
        · exact h
        · cases h
      subst hl0
      have hrun := run_cut (P := X.P) (w := w) hu hz ad y.rows.length c none (some (a.eval hh)) none (hb.run (P := X.P) e2 true w)
      have hv : (if c = 0 then ad else ad.map (·.add (0 * sz X.P e))) = ad := by
        split
        · rfl
        · cases ad <;> simp [Addr.add]
      rw [hv, Nat.sub_zero, Nat.sub_zero] at hrun
      have hr : TokRel w A.Im w0.heap.size { y with e := ep + 1, rows := y.rows.take q } (.slice ad q c) (A.ω k) := by
        have hql : (y.rows.take q).length = q := by rw [List.length_take]; omega
        rw [e1] at hrel
        cases hω : A.ω k with
        | none =>
          rw [hω] at hrel
          obtain ⟨r1, b, r2⟩ := hrel
          injection r2 with r2 r3 r4
          rw [r1] at h2
          have : q = 0 := by simpa using h2
          exact ⟨by simp [r1], b, by rw [this, r2, r4]⟩
        | some g =>
          rw [hω] at hrel
          obtain ⟨r1, r2, r3, cap, cur, r4, r5, r6, r7, r8, r9⟩ := hrel
          injection r4 with r4 _ r4'
          refine ⟨r1, r2, fun row hr => r3 row (List.mem_of_mem_take hr), cap, cur, by show _ = Value.slice _ (y.rows.take q).length _; rw [hql, r4, r4'], r5, by show (y.rows.take q).length ≤ cap; rw [hql]; omega, r7, r8, fun j row hj => ?_⟩
          refine r9 j row ?_
          rw [List.getElem?_take] at hj
          split at hj
          · exact hj
          · cases hj
      obtain ⟨A', s1, s2, s3⟩ := hst.cutTok hy (k' := { y with e := ep + 1, rows := y.rows.take q }) (by show y.e < ep + 1; omega) c5 hr _ rfl
      rw [e1]
      exact ⟨_, w, A', hrun, s1, .one _ _ ⟨s3, _, upd_same _ _ _, Nat.le_refl _, fun _ => s2.symm⟩⟩
    · cases h
  · cases h

theorem boxF_ok {α : Type} {d : Nat} {cs : List C} {K : Eff → Option α} {r : α} (h : boxF fr d cs K = some r) :
    ∃ z, (∀ (β : Type) (K' : Eff → Option β), boxF fr d cs K' = K' z) ∧ K z = some r ∧
      ∀ (nt : Nat) (w0 : World) (S : Sp) (w : World) (A : As) (tmps : Array Value) (v : Value) (t : TypeId) (P : Program), St nt w0 S w A fr tmps → RCs fr w A cs v.cells.toList → Does P fr z nt w0 S w A tmps (do pure (.pointer (some (← newVar t v)))) := by
  refine ⟨_, fun _ _ => rfl, h, fun nt w0 S w A tmps v t P hst hr => ?_⟩
  obtain ⟨_, s1, s2⟩ := hst.newBox (key d 0) t hr
  refine ⟨.pointer (some (at_ w.heap.size 0)), w.alloc (.cells v.cells t), A.newBox (key d 0) w.heap.size, ?_, ?_, ?_⟩
  · simp [newVar, newRow]
  · simpa [Fr.mem, upds] using s1
  · simpa [Fr.mem, upds] using s2

theorem alloc_ok {α : Type} {X : Env} {d : Nat} {t : TypeId} {K : Eff → Option α} {r : α} (h : (zeroF X t fun z => boxF fr d z K) = some r) :
    ∃ z, (∀ (β : Type) (K' : Eff → Option β), (zeroF X t fun z => boxF fr d z K') = K' z) ∧
      ∀ (nt : Nat) (w0 : World) (S : Sp) (w : World) (A : As) (tmps : Array Value), St nt w0 S w A fr tmps → Does X.P fr z nt w0 S w A tmps (Instr.alloc t true (.tuple #[])) := by
  obtain ⟨v, _, _, hK, h, hrun, hr⟩ := zeroF_ok h
  obtain ⟨z, hK2, _, hd⟩ := boxF_ok h
  refine ⟨z, fun β K' => by rw [hK]; exact hK2 β K', fun nt w0 S w A tmps hst => ?_⟩
  obtain ⟨u, w', A', r1, r2, r3⟩ := hd nt w0 S w A tmps v t X.P hst (hr fr w A)
  refine ⟨u, w', A', ?_, r2, r3⟩
  rw [← r1]
  simp [Instr.alloc, hrun]


theorem cells_one {v : Value} (h : oneC v = true) : v.cells = #[v] := by cases v <;> first | rfl | cases h
theorem RV.cells {x : V} {v : Value} (h : RV fr w A x v) (hp : x.plain = true) : RCs fr w A x.cells v.cells.toList := by
  cases h with
  | one c v hx =>
    rw [cells_one hx.1]
    refine ⟨rfl, fun j c' u h1 h2 => ?_⟩
    cases j with
    | zero => simp [V.cells] at h1 h2; subst h1 h2; exact hx
    | succ j => simp [V.cells] at h1
  | agg cs vs hx => exact hx
  | tup xs vs hl h => cases hp
  | skip => cases hp
  | any v => cases hp

/-- Cells laid over cells: as the model does it. -/
theorem foldl_lay (vs : List Value) (off : Nat) : ∀ (k : Nat) (a : Array Value), off + k + vs.length ≤ a.size → ((vs.zipIdx k).foldl (fun cs (c, j) => cs.setIfInBounds (off + j) c) a).toList = splice a.toList (off + k) vs := by
  induction vs with
  | nil => intro k a h; simp [splice]
  | cons v vs ih =>
    intro k a h
    simp only [List.zipIdx_cons, List.foldl_cons]
    simp only [List.length_cons] at h
    rw [ih (k + 1) _ (by simp; omega)]
    apply List.ext_getElem?
    intro q
    have hl1 : off + (k + 1) + vs.length ≤ (a.setIfInBounds (off + k) v).toList.length := by simp; omega
    have hl2 : off + k + (v :: vs).length ≤ a.toList.length := by simp; omega
    by_cases h1 : q < off + k
    · rw [splice_lo _ _ _ hl1 (by omega), splice_lo _ _ _ hl2 h1]
      simp only [Array.getElem?_toList]
      exact Array.getElem?_setIfInBounds_ne (by omega)
    · by_cases h2 : q = off + k
      · subst h2
        rw [splice_lo _ _ _ hl1 (by omega), splice_mid _ _ _ hl2 (by omega) (by simp)]
        have : off + k < a.size := by omega
        simp [this]
      · by_cases h3 : q < off + k + (v :: vs).length
        · rw [splice_mid _ _ _ hl1 (by omega) (by simp at h3; omega), splice_mid _ _ _ hl2 (by omega) h3]
          rw [show q - (off + k) = (q - (off + (k + 1))) + 1 by omega, List.getElem?_cons_succ]
        · rw [splice_hi _ _ _ hl1 (by simp at h3; omega), splice_hi _ _ _ hl2 (by omega)]
          simp only [Array.getElem?_toList]
          exact Array.getElem?_setIfInBounds_ne (by omega)

theorem RCs.splice {cs new : List C} {vs nvs : List Value} (h : RCs fr w A cs vs) (hn : RCs fr w A new nvs) {off : Nat} (hl : off + new.length ≤ cs.length) : RCs fr w A (splice cs off new) (Vm.splice vs off nvs) := by
  have l1 := h.1
  have l2 := hn.1
  have hl' : off + nvs.length ≤ vs.length := by omega
  refine ⟨by rw [splice_len _ _ _ hl, splice_len _ _ _ hl']; exact l1, fun j c v h1 h2 => ?_⟩
  by_cases q1 : j < off
  · rw [splice_lo _ _ _ hl q1] at h1
    rw [splice_lo _ _ _ hl' q1] at h2
    exact h.2 j c v h1 h2
  · by_cases q2 : j < off + new.length
    · rw [splice_mid _ _ _ hl (by omega) q2] at h1
      rw [splice_mid _ _ _ hl' (by omega) (by omega)] at h2
      exact hn.2 _ c v h1 h2
    · rw [splice_hi _ _ _ hl (by omega)] at h1
      rw [splice_hi _ _ _ hl' (by omega)] at h2
      exact h.2 j c v h1 h2

theorem fillF_ok {place : Nat → Option (Nat × Nat)} : ∀ {parts : List (Nat × V)} {cs cs' : List C} {vs : Array Value} {vparts : List (Nat × Value)}, fillF place cs parts = some cs' → RCs fr w A cs vs.toList → vparts.length = parts.length →
    (∀ (j : Nat) (p : Nat × V) (q : Nat × Value), parts[j]? = some p → vparts[j]? = some q → q.1 = p.1 ∧ RV fr w A p.2 q.2) → ∃ vs', Instr.fill place vs vparts = some vs' ∧ RCs fr w A cs' vs'.toList ∧ vs'.size = vs.size
  | [], cs, cs', vs, vparts, h, hr, hl, hp => by
    have : vparts = [] := List.length_eq_zero_iff.1 hl
    subst this
    simp only [fillF, Option.some.injEq] at h
    subst h
    exact ⟨vs, rfl, hr, rfl⟩
  | (i, v) :: parts, cs, cs', vs, vparts, h, hr, hl, hp => by
    match vparts, hl with
    | (i', u) :: vparts, hl =>
      obtain ⟨e1, hv⟩ := hp 0 _ _ rfl rfl
      simp only at e1
      subst e1
      simp only [fillF] at h
      split at h
      · rename_i off n hpl
        replace h := bif_some h; obtain ⟨hc, h⟩ := h
        simp only [Bool.and_eq_true, Nat.beq_eq, Nat.ble_eq] at hc
        obtain ⟨⟨c1, c2⟩, c3⟩ := hc
        have hcells : RCs fr w A v.cells u.cells.toList := hv.cells c3
        have c1 : v.cells.length = n := c1
        have hsz : u.cells.size = n := by have := hcells.1; simp at this; omega
        have hvl := hr.1
        simp only [Array.length_toList] at hvl
        have hlay := foldl_lay u.cells.toList off 0 vs (by simp; omega)
        have hsp := hr.splice hcells (off := off) (by omega)
        obtain ⟨vs', r1, r2, r3⟩ := fillF_ok (vs := u.cells.zipIdx.foldl (fun cs (c, j) => cs.setIfInBounds (off + j) c) vs) h (by
          rw [← Array.foldl_toList, Array.toList_zipIdx, hlay]; simpa using hsp) (by simpa using hl) fun j p q h1 h2 => hp (j + 1) p q (by simpa using h1) (by simpa using h2)
        refine ⟨vs', ?_, r2, ?_⟩
        · simp only [Instr.fill, hpl, hsz]
          rw [if_neg (by simp; omega)]
          exact r1
        · rw [r3, ← Array.length_toList, ← Array.foldl_toList, Array.toList_zipIdx, hlay, splice_len _ _ _ (by simp; omega)]
          simp
      · cases h

end Go.Vm
