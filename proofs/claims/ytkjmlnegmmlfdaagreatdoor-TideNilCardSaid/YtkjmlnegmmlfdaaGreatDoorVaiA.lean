/-
  The abstract machine: values, objects, states, the meaning of operations and of code. Definitions alone.
-/
import Derived.RangeFuncIn
import Derived.RangeFuncLeaves
import Derived.OrdersIn
import Derived.Below
namespace Go.Vai
open Go
noncomputable section

/-! ### Finite maps from numbers -/
inductive T (α : Type) where
  | leaf
  | node (v : Option α) (l r : T α)

namespace T
variable {α : Type}
noncomputable def get (t : T α) : Nat → Option α :=
  T.rec (motive := fun _ => Nat → Option α) (fun _ => none)
    (fun v _ _ gl gr i => Nat.rec v (fun k _ => Bool.rec (gl (k / 2)) (gr (k / 2)) (Nat.beq (k % 2) 1)) i) t
noncomputable def single (f : Nat) : Nat → α → T α :=
  Nat.rec (motive := fun _ => Nat → α → T α) (fun _ _ => .leaf)
    (fun _ ih i x => Nat.rec (.node (some x) .leaf .leaf) (fun k _ => Bool.rec (.node none (ih (k / 2) x) .leaf) (.node none .leaf (ih (k / 2) x)) (Nat.beq (k % 2) 1)) i) f
noncomputable def set (f : Nat) (t : T α) : Nat → α → T α :=
  T.rec (motive := fun _ => Nat → α → T α) (fun i x => single f i x)
    (fun v l r gl gr i x => Nat.rec (.node (some x) l r) (fun k _ => Bool.rec (.node v (gl (k / 2) x) r) (.node v l (gr (k / 2) x)) (Nat.beq (k % 2) 1)) i) t
end T

/-! ### Values, objects, states -/
/-- A value without places (or any value of the model's own: 'sc'); a place: an object, its generation, a cell, how many cells; a slice: its object, generation, first cell, length, cells an element, how much capacity there is at least. -/
inductive AV where
  | sc (v : Value)
  | ptr (id gen off k : Nat)
  | slice (id gen off len e mc : Nat)
  | map (id : Nat)
  | func (fn : Fn) (first cap : List AV)
  | yield (id : Nat)
  | iface (t : TypeId) (v : AV)
  | agg (vs : List AV)
  | tuple (vs : List AV)

structure AEntry where
  key : AV
  val : AV
  born : Nat

inductive AObj where
  | row (gen mg : Nat) (cells : List AV)
  | map (es : List AEntry) (clock : Nat)
  | iter (m : Option Nat) (since : Nat) (seen : List Nat) (stepped : Nat)
  | loop (st : LoopState) (pend : Option Code) (tmps : T AV) (n : Nat) (params : List Nat) (assign body : Code) (dfr : Nat)
  | dfr (taken : Bool)

structure St where
  h : T AObj
  next : Nat
  hid : List (Nat × Nat)
  log : List Nat

structure Tm where
  t : T AV
  n : Nat
  marks : List Nat

inductive ADesc where
  | bool | int (k : IntKind) | string
  | pointer (e : TypeId) | slice (e : TypeId) | array (n : Nat) (e : TypeId) | map (k e : TypeId)
  | struct (fs : List (Nat × TypeId × Bool))
  | iface | func | other

structure ATy where
  agg : Bool
  size : Nat
  bytes : Nat
  zero : List Value
  d : ADesc
  eq : Bool

structure Env where
  ty : T ATy
  fn : T Func
  gl : T (List Value)

def hidden (id : Nat) : List (Nat × Nat) → Bool
  | [] => false
  | (a, b) :: l => cond (Nat.ble a id && Nat.blt id b) true (hidden id l)
def St.look (σ : St) (id : Nat) : Option AObj := cond (hidden id σ.hid) none (σ.h.get id)
def St.put (σ : St) (id : Nat) (o : AObj) : St := { σ with h := σ.h.set (id + 1) id o, log := id :: σ.log }
def St.new (σ : St) (o : AObj) : St := { σ with h := σ.h.set (σ.next + 1) σ.next o, next := σ.next + 1 }
def Tm.get (τ : Tm) (i : Nat) : AV := (τ.t.get i).getD (.sc undef)
def Tm.set (τ : Tm) (i : Nat) (v : AV) : Tm := { τ with t := τ.t.set (i + 1) i v }
def Tm.put (τ : Tm) (dst : Option Tmp) (v : AV) : Option Tm :=
  match dst with
  | none => some τ
  | some d => cond (Nat.blt d τ.n) (some (τ.set d v)) none

def ev (τ : Tm) : Operand → AV
  | .tmp t => τ.get t
  | .const v => .sc v
  | .global g => .sc (.pointer (some ⟨g, 0, none⟩))
  | .func f => .sc (.func (.func f) #[] #[])

/-- The cells of a value. -/
def cellsOf : AV → List AV
  | .agg vs => vs
  | .sc (.agg cs) => cs.toList.map .sc
  | v => [v]
/-- Is this the value of one cell? -/
def isCell : AV → Bool
  | .agg _ | .tuple _ | .sc (.agg _) | .sc (.tuple _) => false
  | _ => true

def parts? (l : List AV) (off k : Nat) : Option (List AV) :=
  cond (Nat.ble (off + k) l.length) (some ((l.drop off).take k)) none
def over (l : List AV) (off : Nat) (vs : List AV) : List AV := l.take off ++ vs ++ l.drop (off + vs.length)

/-- The part of an aggregate that has a type. -/
def part? (E : Env) (t : TypeId) (cs : List AV) (off : Nat) : Option AV :=
  match E.ty.get t with
  | none => none
  | some ty => cond ty.agg ((parts? cs off ty.size).map .agg) (cs[off]?)

abbrev R := Option (AV × St)

def aNewRow (cells : List AV) (k : AV → AV) (σ : St) : R := cond (cells.all isCell) (some (k (.ptr σ.next 0 0 cells.length), σ.new (.row 0 0 cells))) none
def aAlloc (E : Env) (t : TypeId) (σ : St) : R :=
  match E.ty.get t with
  | none => none
  | some ty => aNewRow (ty.zero.map .sc) id σ
def aBox (v : AV) (σ : St) : R := aNewRow (cellsOf v) id σ

def fillA (place : Nat → Option (Nat × Nat)) (cells : List AV) : List (Nat × AV) → Option (List AV)
  | [] => some cells
  | (i, v) :: rest =>
    match place i with
    | none => none
    | some (off, size) => cond (Nat.beq (cellsOf v).length size && Nat.ble (off + size) cells.length) (fillA place (over cells off (cellsOf v)) rest) none
def aBuild (E : Env) (t : TypeId) (parts : List (Nat × AV)) : Option AV :=
  match E.ty.get t with
  | none => none
  | some ty => match ty.d with
    | .struct fs => cond (fs.all fun p => (E.ty.get p.2.1).isSome) ((fillA (fun i => match fs[i]? with
        | some (off, ft, _) => (E.ty.get ft).map fun fty => (off, fty.size)
        | none => none) (ty.zero.map .sc) parts).map .agg) none
    | .array _ e => match E.ty.get e with
      | some ety => (fillA (fun i => some (i * ety.size, ety.size)) (ty.zero.map .sc) parts).map .agg
      | none => none
    | _ => none
def repl (n : Nat) (z : List AV) : List AV := (List.replicate n z).flatten
def aBuildSlice (E : Env) (t : TypeId) (len : Nat) (parts : List (Nat × AV)) (σ : St) : R :=
  match E.ty.get t with
  | some { d := .slice e, .. } => match E.ty.get e with
    | some ety => cond (Nat.ble (len * ety.size) 16777216 && Nat.blt 0 ety.size) (match fillA (fun i => some (i * ety.size, ety.size)) (repl len (ety.zero.map .sc)) parts with
      | some cells => aNewRow cells (fun _ => .slice σ.next 0 0 len ety.size len) σ
      | none => none) none
    | none => none
  | _ => none

def aLoad (E : Env) (t : TypeId) (a : AV) (σ : St) : R :=
  match a with
  | .ptr id g off k => match σ.look id with
    | some (.row gen mg cells) => cond (Nat.ble mg g && Nat.ble g gen) (match E.ty.get t with
      | some ty => cond ty.agg (cond (Nat.ble ty.size k) ((parts? cells off ty.size).map fun l => (.agg l, σ)) none) (cond (Nat.blt 0 k) ((cells[off]?).map fun v => (v, σ)) none)
      | none => none) none
    | _ => none
  | .sc (.pointer (some ⟨g, o, none⟩)) => match E.ty.get t, E.gl.get g with
    | some ty, some l => cond ty.agg none ((l[o]?).map fun v => (.sc v, σ))
    | _, _ => none
  | _ => none
def aStore (E : Env) (t : TypeId) (a v : AV) (σ : St) : R :=
  match a with
  | .ptr id g off k => match σ.look id with
    | some (.row gen _ cells) => cond (Nat.beq g gen) (match E.ty.get t with
      | some ty => cond (Nat.beq (cellsOf v).length ty.size && Nat.ble ty.size k && Nat.ble (off + ty.size) cells.length && (cellsOf v).all isCell)
          (some (.sc undef, σ.put id (.row gen gen (over cells off (cellsOf v))))) none
      | none => none) none
    | _ => none
  | _ => none

def aFieldAddr (E : Env) (t : TypeId) (a : AV) (f : Nat) : Option AV :=
  match a with
  | .ptr id g off k => match E.ty.get t with
    | some { d := .struct fs, .. } => match fs[f]? with
      | some (fo, ft, _) => match E.ty.get ft with
        | some fty => cond (Nat.blt 0 fty.size && Nat.ble (fo + fty.size) k) (some (.ptr id g (off + fo) fty.size)) none
        | none => none
      | none => none
    | _ => none
  | _ => none
def aField (E : Env) (t : TypeId) (x : AV) (f : Nat) : Option AV :=
  match E.ty.get t with
  | some { d := .struct fs, .. } => match fs[f]? with
    | some (fo, ft, _) => match x with
      | .agg vs => part? E ft vs fo
      | .sc (.agg cs) => part? E ft (cs.toList.map .sc) fo
      | _ => none
    | none => none
  | _ => none
def nat? : AV → Option Nat
  | .sc (.int _ (.ofNat n)) => some n
  | _ => none
def aIndexAddr (E : Env) (t : TypeId) (x ix : AV) : Option AV :=
  match nat? ix, E.ty.get t with
  | some i, some { d := .slice e, .. } => match x, E.ty.get e with
    | .slice id g off len es _, some ety => cond (Nat.blt i len && Nat.beq ety.size es) (some (.ptr id g (off + i * es) es)) none
    | _, _ => none
  | some i, some { d := .array n e, .. } => match x, E.ty.get e with
    | .ptr id g off k, some ety => cond (Nat.blt i n && Nat.blt 0 ety.size && Nat.ble ((i + 1) * ety.size) k) (some (.ptr id g (off + i * ety.size) ety.size)) none
    | .sc (.pointer (some a)), some ety => cond (Nat.blt i n) (some (.sc (.pointer (some (a.add (i * ety.size)))))) none
    | _, _ => none
  | _, _ => none
def aIndex (E : Env) (t : TypeId) (x ix : AV) : Option AV :=
  match nat? ix, E.ty.get t with
  | some i, some { d := .string, .. } => match x with
    | .sc (.string s) => (s.data.toList[i]?).map fun b => .sc (.int .u8 b.toNat)
    | _ => none
  | some i, some { d := .array n e, .. } => match E.ty.get e with
    | some ety => match x with
      | .agg vs => cond (Nat.blt i n) (part? E e vs (i * ety.size)) none
      | .sc (.agg cs) => cond (Nat.blt i n) (part? E e (cs.toList.map .sc) (i * ety.size)) none
      | _ => none
    | none => none
  | _, _ => none

def optNat (o : Option AV) (d : Nat) : Option Nat :=
  match o with
  | none => some d
  | some v => nat? v
def aSlice (E : Env) (t : TypeId) (x : AV) (lo hi mx : Option AV) : Option AV :=
  match E.ty.get t with
  | some { d := .string, .. } => match x, mx with
    | .sc (.string s), none => match optNat lo 0, optNat hi s.size with
      | some l, some h => cond (Nat.ble l h && Nat.ble h s.size) (some (.sc (.string (s.extract l h)))) none
      | _, _ => none
    | _, _ => none
  | some { d := .slice et, .. } => match x with
    | .slice id g off len e mc => match optNat lo 0, optNat hi len, optNat mx mc, E.ty.get et with
      | some l, some h, some m, some ety => cond (Nat.ble l h && Nat.ble h m && Nat.ble m mc && (mx.isNone || hi.isSome) && Nat.beq ety.size e) (some (.slice id g (off + l * e) (h - l) e (m - l))) none
      | _, _, _, _ => none
    | .sc (.slice none 0 0) => match optNat lo 0, optNat hi 0, optNat mx 0, E.ty.get et with
      | some 0, some 0, some 0, some _ => cond (mx.isNone || hi.isSome) (some (.sc (.slice none 0 0))) none
      | _, _, _, _ => none
    | _ => none
  | some { d := .array n e, .. } => match x, E.ty.get e with
    | .ptr id g off k, some ety => match optNat lo 0, optNat hi n, optNat mx n with
      | some l, some h, some m => cond (Nat.ble l h && Nat.ble h m && Nat.ble m n && Nat.ble (n * ety.size) k && Nat.blt 0 ety.size && (mx.isNone || hi.isSome)) (some (.slice id g (off + l * ety.size) (h - l) ety.size (m - l))) none
      | _, _, _ => none
    | _, _ => none
  | _ => none

def aMakeSlice (E : Env) (t : TypeId) (len cap : AV) (σ : St) : R :=
  match nat? len, nat? cap, E.ty.get t with
  | some l, some c, some { d := .slice e, .. } => match E.ty.get e with
    | some ety => cond (Nat.ble l c && Nat.ble c 1073741824 && Nat.ble (ety.bytes) 4096 && Nat.blt 0 ety.size && Nat.beq ety.zero.length ety.size)
        (aNewRow (repl c (ety.zero.map .sc)) (fun _ => .slice σ.next 0 0 l ety.size c) σ) none
    | none => none
  | _, _, _ => none

/-- The cells of a slice (or of a string as bytes). -/
def rowCells (σ : St) : AV → Option (List AV × Nat)
  | .slice id g off len e _ => match σ.look id with
    | some (.row gen mg cells) => cond (Nat.ble mg g && Nat.ble g gen) ((parts? cells off (len * e)).map (·, len)) none
    | _ => none
  | .sc (.slice none 0 0) => some ([], 0)
  | .sc (.string s) => some (s.data.toList.map fun b => .sc (.int .u8 b.toNat), s.size)
  | _ => none
/-- What is appended: the cells of a slice; so many zero values ('append(s, make(..)...)'). -/
def newCells (σ : St) (z : List Value) (x : AV) : Option ATy → Option (List AV × Nat)
  | some { d := .int _, .. } => match nat? x with
    | some n => cond (Nat.ble n 1073741824) (some (repl n (z.map .sc), n)) none
    | none => none
  | some { d := .slice _, .. } | some { d := .string, .. } => rowCells σ x
  | _ => none
def aAppend (E : Env) (t t2 : TypeId) (s x : AV) (σ : St) : R :=
  match E.ty.get t with
  | some { d := .slice et, .. } => match E.ty.get et, newCells σ (((E.ty.get et).map (·.zero)).getD []) x (E.ty.get t2) with
    | some ety, some (new, n) =>
      cond (Nat.beq new.length (n * ety.size) && Nat.blt 0 ety.size && Nat.ble ety.bytes 4096) (match s with
      | .sc (.slice none 0 0) => match n with
        | 0 => some (s, σ)
        | _ => cond (Nat.ble n 1073741824) (aNewRow new (fun _ => .slice σ.next 0 0 n ety.size n) σ) none
      | .slice id g off len e mc => match σ.look id with
        | some (.row gen mg cells) =>
          cond (Nat.beq e ety.size && Nat.ble mg g && Nat.ble g gen) (match Nat.beq n 0 with
          | true => some (s, σ)
          | false => cond (Nat.beq g gen && Nat.ble (len + n) 1073741824 && new.all isCell && Nat.ble (off + len * e) cells.length)
            (match Nat.ble (len + n) mc with
            | true => cond (Nat.ble (off + (len + n) * e) cells.length) (some (.slice id g off (len + n) e mc, σ.put id (.row gen gen (over cells (off + len * e) new)))) none
            | false => some (.slice id (gen + 1) 0 (len + n) e (len + n),
                σ.put id (.row (gen + 1) (cond (Nat.beq off 0 && Nat.beq (len * e) cells.length) mg (gen + 1)) (((cells.take (off + len * e)).drop off) ++ new)))) none) none
        | _ => none
      | _ => none) none
    | _, _ => none
  | _ => none
def aCopy (E : Env) (t : TypeId) (d x : AV) (σ : St) : R :=
  match E.ty.get t with
  | some { d := .slice et, .. } => match E.ty.get et, rowCells σ x with
    | some ety, some (src, n) => cond (Nat.beq src.length (n * ety.size)) (match d with
      | .sc (.slice none 0 0) => some (.sc (.int .i64 0), σ)
      | .slice id g off len e _ => match σ.look id with
        | some (.row gen _ cells) =>
          cond (Nat.beq e ety.size && Nat.beq g gen && src.all isCell && Nat.ble (off + len * e) cells.length && Nat.blt 0 e)
            (some (.sc (.int .i64 (Nat.min n len)), σ.put id (.row gen gen (over cells off (src.take (Nat.min n len * e)))))) none
        | _ => none
      | _ => none) none
    | _, _ => none
  | _ => none
def aClear (E : Env) (t : TypeId) (s : AV) (σ : St) : R :=
  cond (E.ty.get t).isSome (match s with
  | .sc (.slice none 0 0) => some (.tuple [], σ)
  | .slice id g off len e _ => match Nat.beq len 0, E.ty.get t with
    | true, _ => some (.tuple [], σ)
    | false, some { d := .slice et, .. } => match E.ty.get et, σ.look id with
      | some ety, some (.row gen _ cells) =>
        cond (Nat.beq g gen && Nat.beq e ety.size && Nat.beq ety.zero.length e && Nat.ble (off + len * e) cells.length && (ety.zero.map AV.sc).all isCell)
          (some (.tuple [], σ.put id (.row gen gen (over cells off (repl len (ety.zero.map .sc)))))) none
      | _, _ => none
    | _, _ => none
  | _ => none) none
def aLen (E : Env) (t : TypeId) (σ : St) (v : AV) : Option AV :=
  match E.ty.get t with
  | none => none
  | some ty => match ty.d, v with
    | .slice _, .slice _ _ _ len _ _ => some (.sc (.int .i64 len))
    | .slice _, .sc (.slice none 0 0) => some (.sc (.int .i64 0))
    | .string, .sc (.string s) => some (.sc (.int .i64 s.size))
    | .map _ _, .sc (.map none) => some (.sc (.int .i64 0))
    | .map _ _, .map id => match σ.look id with
      | some (.map es _) => some (.sc (.int .i64 es.length))
      | _ => none
    | _, _ => none

/-! equality -/
def eqSl : AV → AV → Option Bool
  | .slice .., .sc (.slice none 0 0) | .sc (.slice none 0 0), .slice .. => some false
  | .sc (.slice none 0 0), .sc (.slice none 0 0) => some true
  | _, _ => none
def eqMp : AV → AV → Option Bool
  | .map _, .sc (.map none) | .sc (.map none), .map _ => some false
  | .sc (.map none), .sc (.map none) => some true
  | _, _ => none
def eqFn : AV → AV → Option Bool
  | .func .., .sc .nilFunc | .sc .nilFunc, .func .. => some false
  | .sc (.func _ _ _), .sc .nilFunc | .sc .nilFunc, .sc (.func _ _ _) => some false
  | .sc .nilFunc, .sc .nilFunc => some true
  | _, _ => none
def isAgg' : AV → Bool
  | .agg _ | .sc (.agg _) => true
  | _ => false
/-- Equality at a type (structs of scalars, structs in structs). -/
def eqAt (E : Env) : Nat → TypeId → AV → AV → Option Bool
  | 0, _, _, _ => none
  | f + 1, t, x, y =>
    match E.ty.get t with
    | none => none
    | some ty => match ty.d with
      | .bool => match x, y with
        | .sc (.bool a), .sc (.bool b) => some (a == b)
        | _, _ => none
      | .int _ => match x, y with
        | .sc (.int k a), .sc (.int k' b) => cond (decide (k = k')) (some (a == b)) none
        | _, _ => none
      | .string => match x, y with
        | .sc (.string a), .sc (.string b) => some (a.data.toList == b.data.toList)
        | _, _ => none
      | .struct fs => cond (ty.eq && isAgg' x && isAgg' y && Nat.beq (cellsOf x).length ty.size && Nat.beq (cellsOf y).length ty.size)
          (fs.foldr (fun p r => match p with
            | (off, ft, true) => match part? E ft (cellsOf x) off, part? E ft (cellsOf y) off with
              | some a, some b => match eqAt E f ft a b with
                | some true => r
                | some false => r.map fun _ => false
                | none => none
              | _, _ => none
            | (_, _, false) => none) (some true)) none
      | _ => none

def intBin (op : BinOp) (k : IntKind) (a b : Int) : Option Value :=
  match op with
  | .add => some (.int k (k.wrap (a + b)))
  | .sub => some (.int k (k.wrap (a - b)))
  | .mul => some (.int k (k.wrap (a * b)))
  | .quo => cond (b == 0) none (some (.int k (k.wrap (a.tdiv b))))
  | .rem => cond (b == 0) none (some (.int k (a.tmod b)))
  | .eql => some (.bool (a == b))
  | .neq => some (.bool (a != b))
  | .lss => some (.bool (decide (a < b)))
  | .leq => some (.bool (decide (a ≤ b)))
  | .gtr => some (.bool (decide (a > b)))
  | .geq => some (.bool (decide (a ≥ b)))
  | .and => some (.int k (k.wrap (BitVec.ofInt k.bits a &&& BitVec.ofInt k.bits b).toNat))
  | .or => some (.int k (k.wrap (BitVec.ofInt k.bits a ||| BitVec.ofInt k.bits b).toNat))
  | .xor => some (.int k (k.wrap (BitVec.ofInt k.bits a ^^^ BitVec.ofInt k.bits b).toNat))
  | _ => none
/-- Equality of two places: of one generation of an object, or of two objects. -/
def eqPtr (σ : St) : AV → AV → Option Bool
  | .ptr i g o _, .ptr j h q _ => cond (Nat.beq i j) (cond (Nat.beq g h) (some (Nat.beq o q)) none) (match σ.look i, σ.look j with
    | some (.row gi mi _), some (.row gj mj _) => cond (Nat.ble mi g && Nat.ble g gi && Nat.ble mj h && Nat.ble h gj) (some false) none
    | _, _ => none)
  | .ptr .., .sc (.pointer none) | .sc (.pointer none), .ptr .. => some false
  | .sc (.pointer none), .sc (.pointer none) => some true
  | _, _ => none
def aBin (E : Env) (σ : St) (op : BinOp) (t : TypeId) (x y : AV) : Option AV :=
  match x, y with
  | .sc (.int k a), .sc (.int k' b) => match op with
    | .shl => cond (decide (0 ≤ b)) (some (.sc (.int k (k.wrap (a * 2 ^ (min b.toNat k.bits)))))) none
    | .shr => cond (decide (0 ≤ b)) (some (.sc (.int k (a.fdiv (2 ^ (min b.toNat k.bits)))))) none
    | _ => cond (decide (k = k')) ((intBin op k a b).map .sc) none
  | .sc (.string a), .sc (.string b) => match op with
    | .eql => some (.sc (.bool (a.data.toList == b.data.toList)))
    | .neq => some (.sc (.bool (!(a.data.toList == b.data.toList))))
    | _ => none
  | .sc (.bool a), .sc (.bool b) => match op, E.ty.get t with
    | .eql, some { d := .bool, .. } => some (.sc (.bool (a == b)))
    | .neq, some { d := .bool, .. } => some (.sc (.bool (!(a == b))))
    | _, _ => none
  | _, _ => match op, E.ty.get t with
    | .eql, some { d := .struct _, .. } => (eqAt E 10 t x y).map fun b => .sc (.bool b)
    | .neq, some { d := .struct _, .. } => (eqAt E 10 t x y).map fun b => .sc (.bool (!b))
    | .eql, some { d := .pointer e, .. } => match E.ty.get e with
      | some ety => cond (Nat.blt 0 ety.size) ((eqPtr σ x y).map fun b => .sc (.bool b)) none
      | none => none
    | .neq, some { d := .pointer e, .. } => match E.ty.get e with
      | some ety => cond (Nat.blt 0 ety.size) ((eqPtr σ x y).map fun b => .sc (.bool (!b))) none
      | none => none
    | .eql, some { d := .slice _, .. } => (eqSl x y).map fun b => .sc (.bool b)
    | .neq, some { d := .slice _, .. } => (eqSl x y).map fun b => .sc (.bool (!b))
    | .eql, some { d := .map _ _, .. } => (eqMp x y).map fun b => .sc (.bool b)
    | .neq, some { d := .map _ _, .. } => (eqMp x y).map fun b => .sc (.bool (!b))
    | .eql, some { d := .func, .. } => (eqFn x y).map fun b => .sc (.bool b)
    | .neq, some { d := .func, .. } => (eqFn x y).map fun b => .sc (.bool (!b))
    | _, _ => none
def aUn (op : UnOp) (x : AV) : Option AV :=
  match op, x with
  | .not, .sc (.bool b) => some (.sc (.bool (!b)))
  | .neg, .sc (.int k n) => some (.sc (.int k (k.wrap (0 - n))))
  | _, _ => none
def aConvert (E : Env) (src dst : TypeId) (x : AV) : Option AV :=
  match x, E.ty.get src, E.ty.get dst with
  | .sc (.int _ n), some _, some { d := .int k, .. } => some (.sc (.int k (k.wrap n)))
  | .sc (.string s), some { d := .string, .. }, some { d := .string, .. } => some (.sc (.string s))
  | _, _, _ => none

/-! maps -/
def keyOk (E : Env) : Nat → TypeId → AV → Bool
  | 0, _, _ => false
  | f + 1, t, v =>
    match E.ty.get t with
    | none => false
    | some ty => match ty.d with
      | .bool | .int _ | .string => match v with
        | .sc (.int ..) | .sc (.string _) | .sc (.bool _) => true
        | _ => false
      | .struct fs => isAgg' v && Nat.beq (cellsOf v).length ty.size && fs.all fun p => p.2.2 && match part? E p.2.1 (cellsOf v) p.1 with
        | some x => keyOk E f p.2.1 x
        | none => false
      | _ => false
def findA (E : Env) (kt : TypeId) (k : AV) : List AEntry → Nat → Option (Option (Nat × AV))
  | [], _ => some none
  | e :: es, i => match eqAt E 10 kt k e.key with
    | some true => some (some (i, e.val))
    | some false => findA E kt k es (i + 1)
    | none => none
def scEq : AV → AV → Bool
  | .sc (.int k a), .sc (.int j b) => decide (k = j) && (a == b)
  | .sc (.string a), .sc (.string b) => a.data.toList == b.data.toList
  | .sc (.bool a), .sc (.bool b) => a == b
  | _, _ => false
def scEqs : List AV → List AV → Bool
  | [], [] => true
  | x :: l, y :: m => scEq x y && scEqs l m
  | _, _ => false
/-- Keys that are of one shape, without places. -/
def sameKeyA (x y : AV) : Bool := scEq x y || (isAgg' x && isAgg' y && scEqs (cellsOf x) (cellsOf y))
def zeroA (ty : ATy) : AV := cond ty.agg (.agg (ty.zero.map .sc)) ((ty.zero.map .sc).headD (.sc undef))
def entriesOf (σ : St) : AV → Option (List AEntry)
  | .sc (.map none) => some []
  | .map id => match σ.look id with
    | some (.map es _) => some es
    | _ => none
  | _ => none
def aLookup (E : Env) (t : TypeId) (m k : AV) (ok : Bool) (σ : St) : Option AV :=
  match E.ty.get t with
  | some { d := .map kt et, .. } => match E.ty.get et, keyOk E 10 kt k with
    | some ety, true => match entriesOf σ m with
      | some es => match findA E kt k es 0 with
        | some (some (_, v)) => some (cond ok (.tuple [v, .sc (.bool true)]) v)
        | some none => some (cond ok (.tuple [zeroA ety, .sc (.bool false)]) (zeroA ety))
        | none => none
      | none => none
    | _, _ => none
  | _ => none
def aUpdate (E : Env) (t : TypeId) (m k v : AV) (σ : St) : R :=
  match E.ty.get t, m with
  | some { d := .map kt _, .. }, .map id => match σ.look id, keyOk E 10 kt k with
    | some (.map es clock), true => match findA E kt k es 0 with
      | some (some (i, _)) => match es[i]? with
        | some e => cond (sameKeyA e.key k) (some (.sc undef, σ.put id (.map (es.modify i fun e => { e with key := k, val := v }) clock))) none
        | none => none
      | some none => some (.sc undef, σ.put id (.map (es ++ [{ key := k, val := v, born := clock }]) (clock + 1)))
      | none => none
    | _, _ => none
  | _, _ => none
def aDelete (E : Env) (t : TypeId) (m k : AV) (σ : St) : R :=
  match E.ty.get t, m with
  | some { d := .map kt _, .. }, .map id => match σ.look id, keyOk E 10 kt k with
    | some (.map es clock), true => match findA E kt k es 0 with
      | some (some (i, _)) => some (.sc undef, σ.put id (.map (es.eraseIdx i) clock))
      | some none => some (.sc undef, σ)
      | none => none
    | _, _ => none
  | _, _ => none
def aRange (E : Env) (t : TypeId) (x : AV) (σ : St) : R :=
  match E.ty.get t with
  | some { d := .map _ _, .. } => match x with
    | .sc (.map none) => some (.ptr σ.next 0 0 0, σ.new (.iter none 0 [] 0))
    | .map id => match σ.look id with
      | some (.map _ clock) => some (.ptr σ.next 0 0 0, σ.new (.iter (some id) clock [] clock))
      | _ => none
    | _ => none
  | _ => none
/-- A step over a map: only where it is forced (at most one entry is left). -/
def aNext (it : AV) (σ : St) : R :=
  match it with
  | .ptr r 0 0 0 => match σ.look r with
    | some (.iter none _ _ _) => some (.tuple [.sc (.bool false)], σ)
    | some (.iter (some m) since seen last) => match σ.look m with
      | some (.map es clock) =>
        cond (!seen.isEmpty && !es.isEmpty && es.all fun e => Nat.ble last e.born) none (
        match es.filter fun e => !(seen.contains e.born) with
        | [] => some (.tuple [.sc (.bool false)], σ)
        | [e] => cond (Nat.blt e.born since) (some (.tuple [.sc (.bool true), e.key, e.val], σ.put r (.iter (some m) since (seen ++ [e.born]) clock))) none
        | _ => none)
      | _ => none
    | _ => none
  | _ => none

def aEntry (it : AV) (σ : St) : Option AV :=
  match it with
  | .ptr r 0 0 0 => match σ.look r with
    | some (.iter (some m) _ seen stepped) => match seen.getLast?, σ.look m with
      | some stamp, some (.map es clock) => cond (Nat.beq clock stepped) ((es.find? fun e => Nat.beq e.born stamp).map fun e => .tuple [e.key, e.val]) none
      | _, _ => none
    | _ => none
  | _ => none

/-! ### What an operation does -/
inductive ANext where
  | value (v : AV)
  | enter (f : FuncId) (args : List AV)
  | round (l : Nat) (args : List AV)

def vals (r : Option AV) (σ : St) : Option (ANext × St) := r.map fun v => (.value v, σ)
def valr (r : R) : Option (ANext × St) := r.map fun p => (.value p.1, p.2)

def max2A (big : Bool) : AV → AV → Option AV
  | .sc (.int k a), .sc (.int _ b) => some (.sc (.int k (cond big (cond (decide (b > a)) b a) (cond (decide (b < a)) b a))))
  | _, _ => none
def foldM2 (f : AV → AV → Option AV) : AV → List AV → Option AV
  | x, [] => some x
  | x, y :: l => match f x y with
    | some z => foldM2 f z l
    | none => none
def aBuiltin (E : Env) (b : Builtin) (ats : List TypeId) (args : List AV) (σ : St) : Option (ANext × St) :=
  match b, ats, args with
  | .len, t :: _, [x] => vals (aLen E t σ x) σ
  | .append, [t, t2], [s, x] => valr (aAppend E t t2 s x σ)
  | .cap, t :: _, [.sc (.slice none 0 0)] => match E.ty.get t with
    | some { d := .slice _, .. } => some (.value (.sc (.int .i64 0)), σ)
    | _ => none
  | .copy, t :: _, [d, x] => valr (aCopy E t d x σ)
  | .clear, t :: _, [x] => valr (aClear E t x σ)
  | .delete, t :: _, [m, k] => valr ((aDelete E t m k σ).map fun p => (.tuple [], p.2))
  | .max, _, x :: l => vals (foldM2 (max2A true) x l) σ
  | .min, _, x :: l => vals (foldM2 (max2A false) x l) σ
  | _, _, _ => none

def aCall (f : AV) (args : List AV) (σ : St) : Option (ANext × St) :=
  match f with
  | .sc (.func (.func g) first cap) => some (.enter g (first.toList.map .sc ++ args ++ cap.toList.map .sc), σ)
  | .func (.func g) first cap => some (.enter g (first ++ args ++ cap), σ)
  | .yield l => some (.round l args, σ)
  | _ => none

def isNilable : AV → Bool
  | .ptr .. | .func (.func _) _ _ | .yield _ | .sc (.func (.func _) _ _) => true
  | _ => false

def aOp (E : Env) (τ : Tm) (op : Op) (σ : St) : Option (ANext × St) :=
  match op with
  | .move x | .assign x => some (.value (ev τ x), σ)
  | .pick c a b => match ev τ c with
    | .sc (.bool true) => some (.value (ev τ a), σ)
    | .sc (.bool false) => some (.value (ev τ b), σ)
    | _ => none
  | .alloc t => valr (aAlloc E t σ)
  | .box _ x => valr (aBox (ev τ x) σ)
  | .build t ps => vals (aBuild E t (ps.toList.map fun p => (p.1, ev τ p.2))) σ
  | .buildSlice t n ps => valr (aBuildSlice E t n (ps.toList.map fun p => (p.1, ev τ p.2)) σ)
  | .load t a => valr (aLoad E t (ev τ a) σ)
  | .store t a x => valr (aStore E t (ev τ a) (ev τ x) σ)
  | .nilCheck x => cond (isNilable (ev τ x)) (some (.value (ev τ x), σ)) none
  | .binOp o t x y _ => vals (aBin E σ o t (ev τ x) (ev τ y)) σ
  | .unOp o _ x => vals (aUn o (ev τ x)) σ
  | .convert s d x => vals (aConvert E s d (ev τ x)) σ
  | .makeFunc fn first cap => match fn with
    | .func _ => some (.value (.func fn (first.toList.map (ev τ)) (cap.toList.map (ev τ))), σ)
    | _ => none
  | .makeMap _ none => some (.value (.map σ.next), σ.new (.map [] 0))
  | .makeSlice t l c => valr (aMakeSlice E t (ev τ l) (ev τ c) σ)
  | .slice t x lo hi mx => vals (aSlice E t (ev τ x) (lo.map (ev τ)) (hi.map (ev τ)) (mx.map (ev τ))) σ
  | .fieldAddr t x f => vals (aFieldAddr E t (ev τ x) f) σ
  | .field t x f => vals (aField E t (ev τ x) f) σ
  | .indexAddr t x i => vals (aIndexAddr E t (ev τ x) (ev τ i)) σ
  | .index t x i => vals (aIndex E t (ev τ x) (ev τ i)) σ
  | .lookup t x i ok => vals (aLookup E t (ev τ x) (ev τ i) ok σ) σ
  | .mapUpdate t m k x | .insert t m k x => valr (aUpdate E t (ev τ m) (ev τ k) (ev τ x) σ)
  | .range t x => valr (aRange E t (ev τ x) σ)
  | .next it false => valr (aNext (ev τ it) σ)
  | .entry it => vals (aEntry (ev τ it) σ) σ
  | .extract x i => match ev τ x with
    | .tuple vs => (vs[i]?).map fun v => (.value v, σ)
    | _ => none
  | .call { callee := .value f, args, .. } => aCall (ev τ f) (args.toList.map (ev τ)) σ
  | .call { callee := .builtin b, args, argTypes } => aBuiltin E b argTypes.toList (args.toList.map (ev τ)) σ
  | _ => none

/-! ### What code does -/
inductive AExit where
  | normal
  | exit (id : Nat)
  | goto (l : Nat)
  | ret

/-- How code and functions are carried out, so deep. -/
structure Ev where
  code : Option Nat → Code → Tm → St → Option (AExit × Tm × St)
  call : FuncId → List AV → St → Option (AV × St)
  round : Nat → List AV → St → Option (AV × St)

def Ev.none : Ev := ⟨fun _ _ _ _ => Option.none, fun _ _ _ => Option.none, fun _ _ _ => Option.none⟩

/-- One operation, the guard said yes: its value. -/
def oper (E : Env) (V : Ev) (τ : Tm) (o : Oper) (σ : St) : Option (AV × St) :=
  match aOp E τ o.op σ with
  | some (.value v, σ') => some (v, σ')
  | some (.enter f args, σ') => V.call f args σ'
  | some (.round l args, σ') => V.round l args σ'
  | none => none

/-- Is the operation wanted? (its guard) -/
def wantedA (ops : List Oper) (τ : Tm) (o : Oper) : Option Bool :=
  match o.guard with
  | none => some true
  | some (j, b) => match ops[j]? with
    | some { dst := some d, .. } => match τ.get d with
      | .sc (.bool x) => some (x == b)
      | .sc (.tuple a) => match a.toList with
        | [] => some false
        | _ => none
      | _ => none
    | _ => none

def opersFrom (E : Env) (V : Ev) (ops : List Oper) : List Oper → Tm → St → Option (Tm × St)
  | [], τ, σ => some (τ, σ)
  | o :: rest, τ, σ =>
    match wantedA ops τ o with
    | some true => match oper E V τ o σ with
      | some (v, σ') => match τ.put o.dst v with
        | some τ' => opersFrom E V ops rest τ' σ'
        | none => none
      | none => none
    | some false => match τ.put o.dst (.sc undef) with
      | some τ' => opersFrom E V ops rest τ' σ
      | none => none
    | none => none

end
end Go.Vai
