/-
  The abstract machine: values, objects, states, the meaning of operations and of code. Definitions alone.
-/
import Derived.RangeFuncIn
import Derived.RangeFuncLeaves
import Derived.OrdersIn
import Derived.Below
import Derived.Laws.AppendOwn
import Derived.Laws.CopyRow
import Derived.Laws.MakeOwn
import Derived.MapKept
import Derived.RangeFuncRecord
import Derived.Laws.StructEq
namespace Go.Vai
open Go
noncomputable section

/-! ### Finite maps from numbers -/
inductive T (α : Type) where
  | leaf
  | node (v : Option α) (l r : T α)

namespace T
variable {α : Type}
noncomputable def get (t : T α) : Nat → Option α :=
  T.rec (motive := fun _ => Nat → Option α) (fun _ => none)
    (fun v _ _ gl gr i => Nat.rec v (fun k _ => Bool.rec (gl (k / 2)) (gr (k / 2)) (Nat.beq (k % 2) 1)) i) t
noncomputable def single (f : Nat) : Nat → α → T α :=
  Nat.rec (motive := fun _ => Nat → α → T α) (fun _ _ => .leaf)
    (fun _ ih i x => Nat.rec (.node (some x) .leaf .leaf) (fun k _ => Bool.rec (.node none (ih (k / 2) x) .leaf) (.node none .leaf (ih (k / 2) x)) (Nat.beq (k % 2) 1)) i) f
noncomputable def set (f : Nat) (t : T α) : Nat → α → T α :=
  T.rec (motive := fun _ => Nat → α → T α) (fun i x => single f i x)
    (fun v l r gl gr i x => Nat.rec (.node (some x) l r) (fun k _ => Bool.rec (.node v (gl (k / 2) x) r) (.node v l (gr (k / 2) x)) (Nat.beq (k % 2) 1)) i) t
end T

/-! ### Values, objects, states -/
/-- A value without places (or any value of the model's own: 'sc'); a place: an object, its generation, a cell, how many cells; a slice: its object, generation, first cell, length, cells an element, how much capacity there is at least.
    What lies in memory that nobody writes, by its contents: a slice (cells an element, length, cells), a place (the cells from there on), a map (keys, values); 'any': whatever it is, but no aggregate. -/
inductive AV where
  | sc (v : Value)
  | ptr (id gen off k : Nat)
  | slice (id gen off len e mc : Nat)
  | map (id : Nat)
  | func (fn : Fn) (first cap : List AV)
  | yield (id : Nat)
  | iface (t : TypeId) (v : AV)
  | agg (vs : List AV)
  | tuple (vs : List AV)
  | fro (e len : Nat) (cells : List AV)
  | adr (cells : List AV)
  | fmap (ks vs : List AV)
  | any

structure AEntry where
  key : AV
  val : AV
  born : Nat

inductive AObj where
  | row (gen mg : Nat) (cells : List AV)
  | map (es : List AEntry) (clock : Nat)
  | iter (m : Option Nat) (since : Nat) (seen : List Nat) (stepped : Nat)
  | loop (st : LoopState) (pend : Option Code) (tmps : T AV) (n : Nat) (params : List Nat) (assign body : Code) (dfr : Nat)
  | dfr (taken : Bool)
  | gone
  | set (ks : List Int)

structure St where
  h : T AObj
  next : Nat
  hid : List (Nat × Nat)
  log : List Nat

structure Tm where
  t : T AV
  n : Nat
  marks : List Nat

inductive ADesc where
  | bool | int (k : IntKind) | string
  | pointer (e : TypeId) | slice (e : TypeId) | array (n : Nat) (e : TypeId) | map (k e : TypeId)
  | struct (fs : List (Nat × TypeId × Bool))
  | iface | func | other

structure ATy where
  agg : Bool
  size : Nat
  bytes : Nat
  zero : List Value
  d : ADesc
  eq : Bool

structure Env where
  ty : T ATy
  fn : T Func
  gl : T (List Value)

def hidden (id : Nat) : List (Nat × Nat) → Bool
  | [] => false
  | (a, b) :: l => cond (Nat.ble a id && Nat.blt id b) true (hidden id l)
def St.look (σ : St) (id : Nat) : Option AObj := cond (hidden id σ.hid) none (σ.h.get id)
def St.put (σ : St) (id : Nat) (o : AObj) : St := St.rec (fun h next hid log => ⟨T.set (Nat.add id 1) h id o, next, hid, id :: log⟩) σ
def St.new (σ : St) (o : AObj) : St := St.rec (fun h next hid log => ⟨T.set (Nat.add next 1) h next o, Nat.add next 1, hid, log⟩) σ
theorem St.put_eq (σ : St) (id : Nat) (o : AObj) : σ.put id o = { σ with h := σ.h.set (id + 1) id o, log := id :: σ.log } := rfl
theorem St.new_eq (σ : St) (o : AObj) : σ.new o = { σ with h := σ.h.set (σ.next + 1) σ.next o, next := σ.next + 1 } := rfl
def Tm.get (τ : Tm) (i : Nat) : AV := (τ.t.get i).getD (.sc undef)
def Tm.set (τ : Tm) (i : Nat) (v : AV) : Tm := Tm.rec (fun t n marks => ⟨T.set (Nat.add i 1) t i v, n, marks⟩) τ
theorem Tm.set_eq (τ : Tm) (i : Nat) (v : AV) : τ.set i v = { τ with t := τ.t.set (i + 1) i v } := rfl
def Tm.put (τ : Tm) (dst : Option Tmp) (v : AV) : Option Tm :=
  match dst with
  | none => some τ
  | some d => cond (Nat.blt d τ.n) (some (τ.set d v)) none

def ev (τ : Tm) : Operand → AV
  | .tmp t => τ.get t
  | .const v => .sc v
  | .global g => .sc (.pointer (some ⟨g, 0, none⟩))
  | .func f => .sc (.func (.func f) #[] #[])

/-- The cells of a value. -/
def cellsOf : AV → List AV
  | .agg vs => vs
  | .sc (.agg cs) => cs.toList.map .sc
  | v => [v]
/-- Is this the value of one cell? -/
def isCell : AV → Bool
  | .agg _ | .tuple _ | .sc (.agg _) | .sc (.tuple _) | .any => false
  | _ => true

def parts? (l : List AV) (off k : Nat) : Option (List AV) :=
  cond (Nat.ble (off + k) l.length) (some ((l.drop off).take k)) none
def over (l : List AV) (off : Nat) (vs : List AV) : List AV := l.take off ++ vs ++ l.drop (off + vs.length)

/-- The part of an aggregate that has a type. -/
def part? (E : Env) (t : TypeId) (cs : List AV) (off : Nat) : Option AV :=
  match E.ty.get t with
  | none => none
  | some ty => cond ty.agg ((parts? cs off ty.size).map .agg) (cs[off]?)

abbrev R := Option (AV × St)

def aNewRow (cells : List AV) (k : AV → AV) (σ : St) : R := cond (cells.all isCell) (some (k (.ptr σ.next 0 0 cells.length), σ.new (.row 0 0 cells))) none
def aAlloc (E : Env) (t : TypeId) (σ : St) : R :=
  match E.ty.get t with
  | none => none
  | some ty => aNewRow (ty.zero.map .sc) id σ
def aBox (v : AV) (σ : St) : R := aNewRow (cellsOf v) id σ

def fillA (place : Nat → Option (Nat × Nat)) (cells : List AV) : List (Nat × AV) → Option (List AV)
  | [] => some cells
  | (i, v) :: rest =>
    match place i with
    | none => none
    | some (off, size) => cond (Nat.beq (cellsOf v).length size && Nat.ble (off + size) cells.length) (fillA place (over cells off (cellsOf v)) rest) none
def aBuild (E : Env) (t : TypeId) (parts : List (Nat × AV)) : Option AV :=
  match E.ty.get t with
  | none => none
  | some ty => match ty.d with
    | .struct fs => cond (fs.all fun p => (E.ty.get p.2.1).isSome) ((fillA (fun i => match fs[i]? with
        | some (off, ft, _) => (E.ty.get ft).map fun fty => (off, fty.size)
        | none => none) (ty.zero.map .sc) parts).map .agg) none
    | .array _ e => match E.ty.get e with
      | some ety => (fillA (fun i => some (i * ety.size, ety.size)) (ty.zero.map .sc) parts).map .agg
      | none => none
    | _ => none
def repl (n : Nat) (z : List AV) : List AV := (List.replicate n z).flatten
def aBuildSlice (E : Env) (t : TypeId) (len : Nat) (parts : List (Nat × AV)) (σ : St) : R :=
  match E.ty.get t with
  | some { d := .slice e, .. } => match E.ty.get e with
    | some ety => cond (Nat.ble (len * ety.size) 16777216 && Nat.blt 0 ety.size) (match fillA (fun i => some (i * ety.size, ety.size)) (repl len (ety.zero.map .sc)) parts with
      | some cells => aNewRow cells (fun _ => .slice σ.next 0 0 len ety.size len) σ
      | none => none) none
    | none => none
  | _ => none

def aLoad (E : Env) (t : TypeId) (a : AV) (σ : St) : R :=
  match a with
  | .ptr id g off k => match σ.look id with
    | some (.row gen mg cells) => cond (Nat.ble mg g && Nat.ble g gen) (match E.ty.get t with
      | some ty => cond ty.agg (cond (Nat.ble ty.size k) ((parts? cells off ty.size).map fun l => (.agg l, σ)) none) (cond (Nat.blt 0 k) ((cells[off]?).map fun v => (v, σ)) none)
      | none => none) none
    | _ => none
  | .sc (.pointer (some ⟨g, o, none⟩)) => match E.ty.get t, E.gl.get g with
    | some ty, some l => cond ty.agg none ((l[o]?).map fun v => (.sc v, σ))
    | _, _ => none
  | .adr cells => match E.ty.get t with
    | some ty => cond ty.agg ((parts? cells 0 ty.size).map fun l => (.agg l, σ)) ((cells[0]?).map fun v => (v, σ))
    | none => none
  | _ => none
def aStore (E : Env) (t : TypeId) (a v : AV) (σ : St) : R :=
  match a with
  | .ptr id g off k => match σ.look id with
    | some (.row gen _ cells) => cond (Nat.beq g gen) (match E.ty.get t with
      | some ty => cond (Nat.beq (cellsOf v).length ty.size && Nat.ble ty.size k && Nat.ble (off + ty.size) cells.length && (cellsOf v).all isCell)
          (some (.sc undef, σ.put id (.row gen gen (over cells off (cellsOf v))))) none
      | none => none) none
    | _ => none
  | _ => none

def aFieldAddr (E : Env) (t : TypeId) (a : AV) (f : Nat) : Option AV :=
  match a with
  | .ptr id g off k => match E.ty.get t with
    | some { d := .struct fs, .. } => match fs[f]? with
      | some (fo, ft, _) => match E.ty.get ft with
        | some fty => cond (Nat.blt 0 fty.size && Nat.ble (fo + fty.size) k) (some (.ptr id g (off + fo) fty.size)) none
        | none => none
      | none => none
    | _ => none
  | .adr cells => match E.ty.get t with
    | some { d := .struct fs, .. } => match fs[f]? with
      | some (fo, ft, _) => match E.ty.get ft with
        | some fty => cond (Nat.blt 0 fty.size) ((parts? cells fo fty.size).map .adr) none
        | none => none
      | none => none
    | _ => none
  | _ => none
def aField (E : Env) (t : TypeId) (x : AV) (f : Nat) : Option AV :=
  match E.ty.get t with
  | some { d := .struct fs, .. } => match fs[f]? with
    | some (fo, ft, _) => match x with
      | .agg vs => part? E ft vs fo
      | .sc (.agg cs) => part? E ft (cs.toList.map .sc) fo
      | _ => none
    | none => none
  | _ => none
def nat? : AV → Option Nat
  | .sc (.int _ (.ofNat n)) => some n
  | _ => none
def aIndexAddr (E : Env) (t : TypeId) (x ix : AV) : Option AV :=
  match nat? ix, E.ty.get t with
  | some i, some { d := .slice e, .. } => match x, E.ty.get e with
    | .slice id g off len es _, some ety => cond (Nat.blt i len && Nat.beq ety.size es) (some (.ptr id g (off + i * es) es)) none
    | .fro es len cells, some ety => cond (Nat.blt i len && Nat.beq ety.size es) ((parts? cells (i * es) es).map .adr) none
    | _, _ => none
  | some i, some { d := .array n e, .. } => match x, E.ty.get e with
    | .ptr id g off k, some ety => cond (Nat.blt i n && Nat.blt 0 ety.size && Nat.ble ((i + 1) * ety.size) k) (some (.ptr id g (off + i * ety.size) ety.size)) none
    | .sc (.pointer (some a)), some ety => cond (Nat.blt i n) (some (.sc (.pointer (some (a.add (i * ety.size)))))) none
    | _, _ => none
  | _, _ => none
def aIndex (E : Env) (t : TypeId) (x ix : AV) : Option AV :=
  match nat? ix, E.ty.get t with
  | some i, some { d := .string, .. } => match x with
    | .sc (.string s) => (s.data.toList[i]?).map fun b => .sc (.int .u8 b.toNat)
    | _ => none
  | some i, some { d := .array n e, .. } => match E.ty.get e with
    | some ety => match x with
      | .agg vs => cond (Nat.blt i n) (part? E e vs (i * ety.size)) none
      | .sc (.agg cs) => cond (Nat.blt i n) (part? E e (cs.toList.map .sc) (i * ety.size)) none
      | _ => none
    | none => none
  | _, _ => none

def optNat (o : Option AV) (d : Nat) : Option Nat :=
  match o with
  | none => some d
  | some v => nat? v
def aSlice (E : Env) (t : TypeId) (x : AV) (lo hi mx : Option AV) : Option AV :=
  match E.ty.get t with
  | some { d := .string, .. } => match x, mx with
    | .sc (.string s), none => match optNat lo 0, optNat hi s.size with
      | some l, some h => cond (Nat.ble l h && Nat.ble h s.size) (some (.sc (.string (s.extract l h)))) none
      | _, _ => none
    | _, _ => none
  | some { d := .slice et, .. } => match x with
    | .slice id g off len e mc => match optNat lo 0, optNat hi len, optNat mx mc, E.ty.get et with
      | some l, some h, some m, some ety => cond (Nat.ble l h && Nat.ble h m && Nat.ble m mc && (mx.isNone || hi.isSome) && Nat.beq ety.size e) (some (.slice id g (off + l * e) (h - l) e (m - l))) none
      | _, _, _, _ => none
    | .sc (.slice none 0 0) => match optNat lo 0, optNat hi 0, optNat mx 0, E.ty.get et with
      | some 0, some 0, some 0, some _ => cond (mx.isNone || hi.isSome) (some (.sc (.slice none 0 0))) none
      | _, _, _, _ => none
    | .fro e len cells => match optNat lo 0, optNat hi len, E.ty.get et with
      | some l, some h, some ety => cond (mx.isNone && Nat.ble l h && Nat.ble h len && Nat.beq ety.size e) ((parts? cells (l * e) ((h - l) * e)).map fun c => .fro e (h - l) c) none
      | _, _, _ => none
    | _ => none
  | some { d := .array n e, .. } => match x, E.ty.get e with
    | .ptr id g off k, some ety => match optNat lo 0, optNat hi n, optNat mx n with
      | some l, some h, some m => cond (Nat.ble l h && Nat.ble h m && Nat.ble m n && Nat.ble (n * ety.size) k && Nat.blt 0 ety.size && (mx.isNone || hi.isSome)) (some (.slice id g (off + l * ety.size) (h - l) ety.size (m - l))) none
      | _, _, _ => none
    | _, _ => none
  | _ => none

def aMakeSlice (E : Env) (t : TypeId) (len cap : AV) (σ : St) : R :=
  match nat? len, nat? cap, E.ty.get t with
  | some l, some c, some { d := .slice e, .. } => match E.ty.get e with
    | some ety => cond (Nat.ble l c && Nat.ble c 1073741824 && Nat.ble (ety.bytes) 4096 && Nat.blt 0 ety.size && Nat.beq ety.zero.length ety.size)
        (aNewRow (repl c (ety.zero.map .sc)) (fun _ => .slice σ.next 0 0 l ety.size c) σ) none
    | none => none
  | _, _, _ => none

/-- The cells of a slice (or of a string as bytes). -/
def rowCells (σ : St) : AV → Option (List AV × Nat)
  | .slice id g off len e _ => match σ.look id with
    | some (.row gen mg cells) => cond (Nat.ble mg g && Nat.ble g gen) ((parts? cells off (len * e)).map (·, len)) none
    | _ => none
  | .sc (.slice none 0 0) => some ([], 0)
  | .sc (.string s) => some (s.data.toList.map fun b => .sc (.int .u8 b.toNat), s.size)
  | .fro _ len cells => some (cells, len)
  | _ => none
/-- What is appended: the cells of a slice; so many zero values ('append(s, make(..)...)'). -/
def newCells (σ : St) (z : List Value) (x : AV) : Option ATy → Option (List AV × Nat)
  | some { d := .int _, .. } => match nat? x with
    | some n => cond (Nat.ble n 1073741824) (some (repl n (z.map .sc), n)) none
    | none => none
  | some { d := .slice _, .. } | some { d := .string, .. } => rowCells σ x
  | _ => none
def aAppend (E : Env) (t t2 : TypeId) (s x : AV) (σ : St) : R :=
  match E.ty.get t with
  | some { d := .slice et, .. } => match E.ty.get et, newCells σ (((E.ty.get et).map (·.zero)).getD []) x (E.ty.get t2) with
    | some ety, some (new, n) =>
      cond (Nat.beq new.length (n * ety.size) && Nat.blt 0 ety.size && Nat.ble ety.bytes 4096) (match s with
      | .sc (.slice none 0 0) => match n with
        | 0 => some (s, σ)
        | _ => cond (Nat.ble n 1073741824) (aNewRow new (fun _ => .slice σ.next 0 0 n ety.size n) σ) none
      | .slice id g off len e mc => match σ.look id with
        | some (.row gen mg cells) =>
          cond (Nat.beq e ety.size && Nat.ble mg g && Nat.ble g gen) (match Nat.beq n 0 with
          | true => some (s, σ)
          | false => cond (Nat.beq g gen && Nat.ble (len + n) 1073741824 && new.all isCell && Nat.ble (off + len * e) cells.length)
            (match Nat.ble (len + n) mc with
            | true => cond (Nat.ble (off + (len + n) * e) cells.length) (some (.slice id g off (len + n) e mc, σ.put id (.row gen gen (over cells (off + len * e) new)))) none
            | false => some (.slice id (gen + 1) 0 (len + n) e (len + n),
                σ.put id (.row (gen + 1) (cond (Nat.beq off 0 && Nat.beq (len * e) cells.length) mg (gen + 1)) (((cells.take (off + len * e)).drop off) ++ new)))) none) none
        | _ => none
      | _ => none) none
    | _, _ => none
  | _ => none
def aCopy (E : Env) (t : TypeId) (d x : AV) (σ : St) : R :=
  match E.ty.get t with
  | some { d := .slice et, .. } => match E.ty.get et, rowCells σ x with
    | some ety, some (src, n) => cond (Nat.beq src.length (n * ety.size)) (match d with
      | .sc (.slice none 0 0) => some (.sc (.int .i64 0), σ)
      | .slice id g off len e _ => match σ.look id with
        | some (.row gen _ cells) =>
          cond (Nat.beq e ety.size && Nat.beq g gen && src.all isCell && Nat.ble (off + len * e) cells.length && Nat.blt 0 e)
            (some (.sc (.int .i64 (Nat.min n len)), σ.put id (.row gen gen (over cells off (src.take (Nat.min n len * e)))))) none
        | _ => none
      | _ => none) none
    | _, _ => none
  | _ => none
def aClear (E : Env) (t : TypeId) (s : AV) (σ : St) : R :=
  cond (E.ty.get t).isSome (match s with
  | .sc (.slice none 0 0) => some (.tuple [], σ)
  | .slice id g off len e _ => match Nat.beq len 0, E.ty.get t with
    | true, _ => some (.tuple [], σ)
    | false, some { d := .slice et, .. } => match E.ty.get et, σ.look id with
      | some ety, some (.row gen _ cells) =>
        cond (Nat.beq g gen && Nat.beq e ety.size && Nat.beq ety.zero.length e && Nat.ble (off + len * e) cells.length && (ety.zero.map AV.sc).all isCell)
          (some (.tuple [], σ.put id (.row gen gen (over cells off (repl len (ety.zero.map .sc)))))) none
      | _, _ => none
    | _, _ => none
  | _ => none) none
def aLen (E : Env) (t : TypeId) (σ : St) (v : AV) : Option AV :=
  match E.ty.get t with
  | none => none
  | some ty => match ty.d, v with
    | .slice _, .slice _ _ _ len _ _ => some (.sc (.int .i64 len))
    | .slice _, .sc (.slice none 0 0) => some (.sc (.int .i64 0))
    | .slice _, .fro _ len _ => some (.sc (.int .i64 len))
    | .map _ _, .fmap ks _ => some (.sc (.int .i64 ks.length))
    | .string, .sc (.string s) => some (.sc (.int .i64 s.size))
    | .map _ _, .sc (.map none) => some (.sc (.int .i64 0))
    | .map _ _, .map id => match σ.look id with
      | some (.map es _) => some (.sc (.int .i64 es.length))
      | _ => none
    | _, _ => none

/-! equality -/
def eqSl : AV → AV → Option Bool
  | .slice .., .sc (.slice none 0 0) | .sc (.slice none 0 0), .slice .. => some false
  | .sc (.slice none 0 0), .sc (.slice none 0 0) => some true
  | .fro _ (_ + 1) _, .sc (.slice none 0 0) | .sc (.slice none 0 0), .fro _ (_ + 1) _ => some false
  | _, _ => none
def eqMp : AV → AV → Option Bool
  | .map _, .sc (.map none) | .sc (.map none), .map _ => some false
  | .sc (.map none), .sc (.map none) => some true
  | _, _ => none
def eqFn : AV → AV → Option Bool
  | .func .., .sc .nilFunc | .sc .nilFunc, .func .. => some false
  | .sc (.func _ _ _), .sc .nilFunc | .sc .nilFunc, .sc (.func _ _ _) => some false
  | .sc .nilFunc, .sc .nilFunc => some true
  | _, _ => none
def isAgg' : AV → Bool
  | .agg _ | .sc (.agg _) => true
  | _ => false
/-- Equality at a type (structs of scalars, structs in structs). -/
def eqAt (E : Env) : Nat → TypeId → AV → AV → Option Bool
  | 0, _, _, _ => none
  | f + 1, t, x, y =>
    match E.ty.get t with
    | none => none
    | some ty => match ty.d with
      | .bool => match x, y with
        | .sc (.bool a), .sc (.bool b) => some (a == b)
        | _, _ => none
      | .int _ => match x, y with
        | .sc (.int k a), .sc (.int k' b) => cond (decide (k = k')) (some (a == b)) none
        | _, _ => none
      | .string => match x, y with
        | .sc (.string a), .sc (.string b) => some (a.data.toList == b.data.toList)
        | _, _ => none
      | .struct fs => cond (ty.eq && isAgg' x && isAgg' y && Nat.beq (cellsOf x).length ty.size && Nat.beq (cellsOf y).length ty.size)
          (fs.foldr (fun p r => match p with
            | (off, ft, true) => match part? E ft (cellsOf x) off, part? E ft (cellsOf y) off with
              | some a, some b => match eqAt E f ft a b with
                | some true => r
                | some false => r.map fun _ => false
                | none => none
              | _, _ => none
            | (_, _, false) => none) (some true)) none
      | _ => none

def intBin (op : BinOp) (k : IntKind) (a b : Int) : Option Value :=
  match op with
  | .add => some (.int k (k.wrap (a + b)))
  | .sub => some (.int k (k.wrap (a - b)))
  | .mul => some (.int k (k.wrap (a * b)))
  | .quo => cond (b == 0) none (some (.int k (k.wrap (a.tdiv b))))
  | .rem => cond (b == 0) none (some (.int k (a.tmod b)))
  | .eql => some (.bool (a == b))
  | .neq => some (.bool (a != b))
  | .lss => some (.bool (decide (a < b)))
  | .leq => some (.bool (decide (a ≤ b)))
  | .gtr => some (.bool (decide (a > b)))
  | .geq => some (.bool (decide (a ≥ b)))
  | .and => some (.int k (k.wrap (BitVec.ofInt k.bits a &&& BitVec.ofInt k.bits b).toNat))
  | .or => some (.int k (k.wrap (BitVec.ofInt k.bits a ||| BitVec.ofInt k.bits b).toNat))
  | .xor => some (.int k (k.wrap (BitVec.ofInt k.bits a ^^^ BitVec.ofInt k.bits b).toNat))
  | _ => none
/-- Equality of two places: of one generation of an object, or of two objects. -/
def eqPtr (σ : St) : AV → AV → Option Bool
  | .ptr i g o _, .ptr j h q _ => cond (Nat.beq i j) (cond (Nat.beq g h) (some (Nat.beq o q)) none) (match σ.look i, σ.look j with
    | some (.row gi mi _), some (.row gj mj _) => cond (Nat.ble mi g && Nat.ble g gi && Nat.ble mj h && Nat.ble h gj) (some false) none
    | _, _ => none)
  | .ptr .., .sc (.pointer none) | .sc (.pointer none), .ptr .. => some false
  | .sc (.pointer none), .sc (.pointer none) => some true
  | _, _ => none
def aBin (E : Env) (σ : St) (op : BinOp) (t : TypeId) (x y : AV) : Option AV :=
  match x, y with
  | .sc (.int k a), .sc (.int k' b) => match op with
    | .shl => cond (decide (0 ≤ b)) (some (.sc (.int k (k.wrap (a * 2 ^ (min b.toNat k.bits)))))) none
    | .shr => cond (decide (0 ≤ b)) (some (.sc (.int k (a.fdiv (2 ^ (min b.toNat k.bits)))))) none
    | _ => cond (decide (k = k')) ((intBin op k a b).map .sc) none
  | .sc (.string a), .sc (.string b) => match op with
    | .eql => some (.sc (.bool (a.data.toList == b.data.toList)))
    | .neq => some (.sc (.bool (!(a.data.toList == b.data.toList))))
    | _ => none
  | .sc (.bool a), .sc (.bool b) => match op, E.ty.get t with
    | .eql, some { d := .bool, .. } => some (.sc (.bool (a == b)))
    | .neq, some { d := .bool, .. } => some (.sc (.bool (!(a == b))))
    | _, _ => none
  | _, _ => match op, E.ty.get t with
    | .eql, some { d := .struct _, .. } => (eqAt E 10 t x y).map fun b => .sc (.bool b)
    | .neq, some { d := .struct _, .. } => (eqAt E 10 t x y).map fun b => .sc (.bool (!b))
    | .eql, some { d := .pointer e, .. } => match E.ty.get e with
      | some ety => cond (Nat.blt 0 ety.size) ((eqPtr σ x y).map fun b => .sc (.bool b)) none
      | none => none
    | .neq, some { d := .pointer e, .. } => match E.ty.get e with
      | some ety => cond (Nat.blt 0 ety.size) ((eqPtr σ x y).map fun b => .sc (.bool (!b))) none
      | none => none
    | .eql, some { d := .slice _, .. } => (eqSl x y).map fun b => .sc (.bool b)
    | .neq, some { d := .slice _, .. } => (eqSl x y).map fun b => .sc (.bool (!b))
    | .eql, some { d := .map _ _, .. } => (eqMp x y).map fun b => .sc (.bool b)
    | .neq, some { d := .map _ _, .. } => (eqMp x y).map fun b => .sc (.bool (!b))
    | .eql, some { d := .func, .. } => (eqFn x y).map fun b => .sc (.bool b)
    | .neq, some { d := .func, .. } => (eqFn x y).map fun b => .sc (.bool (!b))
    | _, _ => none
def aUn (op : UnOp) (x : AV) : Option AV :=
  match op, x with
  | .not, .sc (.bool b) => some (.sc (.bool (!b)))
  | .neg, .sc (.int k n) => some (.sc (.int k (k.wrap (0 - n))))
  | _, _ => none
def aConvert (E : Env) (src dst : TypeId) (x : AV) : Option AV :=
  match x, E.ty.get src, E.ty.get dst with
  | .sc (.int _ n), some _, some { d := .int k, .. } => some (.sc (.int k (k.wrap n)))
  | .sc (.string s), some { d := .string, .. }, some { d := .string, .. } => some (.sc (.string s))
  | _, _, _ => none

/-! maps -/
def keyOk (E : Env) : Nat → TypeId → AV → Bool
  | 0, _, _ => false
  | f + 1, t, v =>
    match E.ty.get t with
    | none => false
    | some ty => match ty.d with
      | .bool | .int _ | .string => match v with
        | .sc (.int ..) | .sc (.string _) | .sc (.bool _) => true
        | _ => false
      | .struct fs => isAgg' v && Nat.beq (cellsOf v).length ty.size && fs.all fun p => p.2.2 && match part? E p.2.1 (cellsOf v) p.1 with
        | some x => keyOk E f p.2.1 x
        | none => false
      | _ => false
def findA (E : Env) (kt : TypeId) (k : AV) : List AEntry → Nat → Option (Option (Nat × AV))
  | [], _ => some none
  | e :: es, i => match eqAt E 10 kt k e.key with
    | some true => some (some (i, e.val))
    | some false => findA E kt k es (i + 1)
    | none => none
def scEq : AV → AV → Bool
  | .sc (.int k a), .sc (.int j b) => decide (k = j) && (a == b)
  | .sc (.string a), .sc (.string b) => a.data.toList == b.data.toList
  | .sc (.bool a), .sc (.bool b) => a == b
  | _, _ => false
def scEqs : List AV → List AV → Bool
  | [], [] => true
  | x :: l, y :: m => scEq x y && scEqs l m
  | _, _ => false
/-- Keys that are of one shape, without places. -/
def sameKeyA (x y : AV) : Bool := scEq x y || (isAgg' x && isAgg' y && scEqs (cellsOf x) (cellsOf y))
def zeroA (ty : ATy) : AV := cond ty.agg (.agg (ty.zero.map .sc)) ((ty.zero.map .sc).headD (.sc undef))
def entriesOf (σ : St) : AV → Option (List AEntry)
  | .sc (.map none) => some []
  | .map id => match σ.look id with
    | some (.map es _) => some es
    | some (.set ks) => some (ks.map fun k => { key := .sc (.int .i64 k), val := .sc (.bool true), born := 0 })
    | _ => none
  | .fmap ks vs => some (List.zipWith (fun k v => { key := k, val := v, born := 0 }) ks vs)
  | _ => none
def aLookup (E : Env) (t : TypeId) (m k : AV) (ok : Bool) (σ : St) : Option AV :=
  match E.ty.get t with
  | some { d := .map kt et, .. } => match E.ty.get et, keyOk E 10 kt k with
    | some ety, true => match entriesOf σ m with
      | some es => match findA E kt k es 0 with
        | some (some (_, v)) => some (cond ok (.tuple [v, .sc (.bool true)]) v)
        | some none => some (cond ok (.tuple [zeroA ety, .sc (.bool false)]) (zeroA ety))
        | none => none
      | none => none
    | _, _ => none
  | _ => none
def aUpdate (E : Env) (t : TypeId) (m k v : AV) (σ : St) : R :=
  match E.ty.get t, m with
  | some { d := .map kt _, .. }, .map id => match σ.look id, keyOk E 10 kt k with
    | some (.map es clock), true => match findA E kt k es 0 with
      | some (some (i, _)) => match es[i]? with
        | some e => cond (sameKeyA e.key k) (some (.sc undef, σ.put id (.map (es.modify i fun e => { e with key := k, val := v }) clock))) none
        | none => none
      | some none => some (.sc undef, σ.put id (.map (es ++ [{ key := k, val := v, born := clock }]) (clock + 1)))
      | none => none
    | _, _ => none
  | _, _ => none
def aDelete (E : Env) (t : TypeId) (m k : AV) (σ : St) : R :=
  match E.ty.get t, m with
  | some { d := .map kt _, .. }, .map id => match σ.look id, keyOk E 10 kt k with
    | some (.map es clock), true => match findA E kt k es 0 with
      | some (some (i, _)) => some (.sc undef, σ.put id (.map (es.eraseIdx i) clock))
      | some none => some (.sc undef, σ)
      | none => none
    | _, _ => none
  | _, _ => none
def aRange (E : Env) (t : TypeId) (x : AV) (σ : St) : R :=
  match E.ty.get t with
  | some { d := .map _ _, .. } => match x with
    | .sc (.map none) => some (.ptr σ.next 0 0 0, σ.new (.iter none 0 [] 0))
    | .map id => match σ.look id with
      | some (.map _ clock) => some (.ptr σ.next 0 0 0, σ.new (.iter (some id) clock [] clock))
      | _ => none
    | _ => none
  | _ => none
/-- A step over a map: only where it is forced (at most one entry is left). -/
def aNext (it : AV) (σ : St) : R :=
  match it with
  | .ptr r 0 0 0 => match σ.look r with
    | some (.iter none _ _ _) => some (.tuple [.sc (.bool false)], σ)
    | some (.iter (some m) since seen last) => match σ.look m with
      | some (.map es clock) =>
        cond (!seen.isEmpty && !es.isEmpty && es.all fun e => Nat.ble last e.born) none (
        match es.filter fun e => !(seen.contains e.born) with
        | [] => some (.tuple [.sc (.bool false)], σ)
        | [e] => cond (Nat.blt e.born since) (some (.tuple [.sc (.bool true), e.key, e.val], σ.put r (.iter (some m) since (seen ++ [e.born]) clock))) none
        | _ => none)
      | _ => none
    | _ => none
  | _ => none

def aEntry (it : AV) (σ : St) : Option AV :=
  match it with
  | .ptr r 0 0 0 => match σ.look r with
    | some (.iter (some m) _ seen stepped) => match seen.getLast?, σ.look m with
      | some stamp, some (.map es clock) => cond (Nat.beq clock stepped) ((es.find? fun e => Nat.beq e.born stamp).map fun e => .tuple [e.key, e.val]) none
      | _, _ => none
    | _ => none
  | _ => none

/-! ### What an operation does -/
inductive ANext where
  | value (v : AV)
  | enter (f : FuncId) (args : List AV)
  | round (l : Nat) (args : List AV)

def vals (r : Option AV) (σ : St) : Option (ANext × St) := r.map fun v => (.value v, σ)
def valr (r : R) : Option (ANext × St) := r.map fun p => (.value p.1, p.2)

def max2A (big : Bool) : AV → AV → Option AV
  | .sc (.int k a), .sc (.int _ b) => some (.sc (.int k (cond big (cond (decide (b > a)) b a) (cond (decide (b < a)) b a))))
  | _, _ => none
def foldM2 (f : AV → AV → Option AV) : AV → List AV → Option AV
  | x, [] => some x
  | x, y :: l => match f x y with
    | some z => foldM2 f z l
    | none => none
def aBuiltin (E : Env) (b : Builtin) (ats : List TypeId) (args : List AV) (σ : St) : Option (ANext × St) :=
  match b, ats, args with
  | .len, t :: _, [x] => vals (aLen E t σ x) σ
  | .append, [t, t2], [s, x] => valr (aAppend E t t2 s x σ)
  | .cap, t :: _, [.sc (.slice none 0 0)] => match E.ty.get t with
    | some { d := .slice _, .. } => some (.value (.sc (.int .i64 0)), σ)
    | _ => none
  | .copy, t :: _, [d, x] => valr (aCopy E t d x σ)
  | .clear, t :: _, [x] => valr (aClear E t x σ)
  | .delete, t :: _, [m, k] => valr ((aDelete E t m k σ).map fun p => (.tuple [], p.2))
  | .max, _, x :: l => vals (foldM2 (max2A true) x l) σ
  | .min, _, x :: l => vals (foldM2 (max2A false) x l) σ
  | _, _, _ => none

def aCall (f : AV) (args : List AV) (σ : St) : Option (ANext × St) :=
  match f with
  | .sc (.func (.func g) first cap) => some (.enter g (first.toList.map .sc ++ args ++ cap.toList.map .sc), σ)
  | .func (.func g) first cap => some (.enter g (first ++ args ++ cap), σ)
  | .yield l => some (.round l args, σ)
  | _ => none

def isNilable : AV → Bool
  | .ptr .. | .func (.func _) _ _ | .yield _ | .sc (.func (.func _) _ _) | .adr _ => true
  | _ => false

def aOp (E : Env) (τ : Tm) (op : Op) (σ : St) : Option (ANext × St) :=
  match op with
  | .move x | .assign x => some (.value (ev τ x), σ)
  | .pick c a b => match ev τ c with
    | .sc (.bool true) => some (.value (ev τ a), σ)
    | .sc (.bool false) => some (.value (ev τ b), σ)
    | _ => none
  | .alloc t => valr (aAlloc E t σ)
  | .box _ x => valr (aBox (ev τ x) σ)
  | .build t ps => vals (aBuild E t (ps.toList.map fun p => (p.1, ev τ p.2))) σ
  | .buildSlice t n ps => valr (aBuildSlice E t n (ps.toList.map fun p => (p.1, ev τ p.2)) σ)
  | .load t a => valr (aLoad E t (ev τ a) σ)
  | .store t a x => valr (aStore E t (ev τ a) (ev τ x) σ)
  | .nilCheck x => cond (isNilable (ev τ x)) (some (.value (ev τ x), σ)) none
  | .binOp o t x y _ => vals (aBin E σ o t (ev τ x) (ev τ y)) σ
  | .unOp o _ x => vals (aUn o (ev τ x)) σ
  | .convert s d x => vals (aConvert E s d (ev τ x)) σ
  | .makeFunc fn first cap => match fn with
    | .func _ => some (.value (.func fn (first.toList.map (ev τ)) (cap.toList.map (ev τ))), σ)
    | _ => none
  | .makeMap _ none => some (.value (.map σ.next), σ.new (.map [] 0))
  | .makeSlice t l c => valr (aMakeSlice E t (ev τ l) (ev τ c) σ)
  | .slice t x lo hi mx => vals (aSlice E t (ev τ x) (lo.map (ev τ)) (hi.map (ev τ)) (mx.map (ev τ))) σ
  | .fieldAddr t x f => vals (aFieldAddr E t (ev τ x) f) σ
  | .field t x f => vals (aField E t (ev τ x) f) σ
  | .indexAddr t x i => vals (aIndexAddr E t (ev τ x) (ev τ i)) σ
  | .index t x i => vals (aIndex E t (ev τ x) (ev τ i)) σ
  | .lookup t x i ok => vals (aLookup E t (ev τ x) (ev τ i) ok σ) σ
  | .mapUpdate t m k x | .insert t m k x => valr (aUpdate E t (ev τ m) (ev τ k) (ev τ x) σ)
  | .range t x => valr (aRange E t (ev τ x) σ)
  | .next it false => valr (aNext (ev τ it) σ)
  | .entry it => vals (aEntry (ev τ it) σ) σ
  | .extract x i => match ev τ x with
    | .tuple vs => (vs[i]?).map fun v => (.value v, σ)
    | _ => none
  | .call { callee := .value f, args, .. } => aCall (ev τ f) (args.toList.map (ev τ)) σ
  | .call { callee := .builtin b, args, argTypes } => aBuiltin E b argTypes.toList (args.toList.map (ev τ)) σ
  | _ => none

/-! ### What code does -/
inductive AExit where
  | normal
  | exit (id : Nat)
  | goto (l : Nat)
  | ret

/-- How code and functions are carried out, so deep. -/
structure Ev where
  code : Option Nat → Code → Tm → St → Option (AExit × Tm × St)
  call : FuncId → List AV → St → Option (AV × St)
  round : Nat → List AV → St → Option (AV × St)

def Ev.none : Ev := ⟨fun _ _ _ _ => Option.none, fun _ _ _ => Option.none, fun _ _ _ => Option.none⟩

/-- One operation, the guard said yes: its value. -/
def oper (E : Env) (V : Ev) (τ : Tm) (o : Oper) (σ : St) : Option (AV × St) :=
  match aOp E τ o.op σ with
  | some (.value v, σ') => some (v, σ')
  | some (.enter f args, σ') => V.call f args σ'
  | some (.round l args, σ') => V.round l args σ'
  | none => none

/-- Is the operation wanted? (its guard) -/
def wantedA (ops : List Oper) (τ : Tm) (o : Oper) : Option Bool :=
  match o.guard with
  | none => some true
  | some (j, b) => match ops[j]? with
    | some { dst := some d, .. } => match τ.get d with
      | .sc (.bool x) => some (x == b)
      | .sc (.tuple a) => match a.toList with
        | [] => some false
        | _ => none
      | _ => none
    | _ => none

def opersFrom (E : Env) (V : Ev) (ops : List Oper) : List Oper → Tm → St → Option (Tm × St)
  | [], τ, σ => some (τ, σ)
  | o :: rest, τ, σ =>
    match wantedA ops τ o with
    | some true => match oper E V τ o σ with
      | some (v, σ') => match τ.put o.dst v with
        | some τ' => opersFrom E V ops rest τ' σ'
        | none => none
      | none => none
    | some false => match τ.put o.dst (.sc undef) with
      | some τ' => opersFrom E V ops rest τ' σ
      | none => none
    | none => none

end
end Go.Vai

/-
  The abstract machine: regions that draw their order, code, calls, rounds. Definitions alone.
-/
namespace Go.Vai
open Go
noncomputable section

/-! ### A region that draws its order -/
def depMask (masks : List Nat) (after : List Edge) : Nat :=
  after.foldl (fun m e => cond (Region.binds .any e) (Nat.lor m (Nat.lor (Nat.shiftLeft 1 e.on) (masks.getD e.on 0))) m) 0
def masksFrom : List Nat → List Oper → List Nat
  | acc, [] => acc
  | acc, o :: l => masksFrom (acc ++ [depMask acc o.after.toList]) l
def masksOf (ops : List Oper) : List Nat := masksFrom [] ops

def idOf : AV → List Nat
  | .ptr id _ _ _ | .slice id _ _ _ _ _ | .map id => [id]
  | _ => []
/-- What 'len' looks at. -/
def idLen : AV → List Nat
  | .map id => [id]
  | _ => []
/-- Which objects an operation looks at, if that can be told beforehand. -/
def foot (τ : Tm) : Op → Option (List Nat)
  | .move _ | .assign _ | .pick .. | .build .. | .nilCheck _ | .unOp .. | .convert .. | .makeFunc .. | .slice .. | .fieldAddr .. | .field .. | .indexAddr .. | .index .. | .extract ..
  | .alloc _ | .box .. | .buildSlice .. | .makeMap .. | .makeSlice .. => some []
  | .binOp _ _ x y _ => some (idOf (ev τ x) ++ idOf (ev τ y))
  | .load _ a | .store _ a _ => some (idOf (ev τ a))
  | .lookup _ m _ _ | .mapUpdate _ m _ _ | .insert _ m _ _ => some (idOf (ev τ m))
  | .call { callee := .builtin .len, args, .. } => some (args.toList.flatMap fun x => idLen (ev τ x))
  | .call { callee := .builtin _, args, .. } => some (args.toList.flatMap fun x => idOf (ev τ x))
  | _ => none
/-- All but some numbers, up to one. -/
def except1 (N : Nat) : List Nat → List (Nat × Nat)
  | [] => [(0, N)]
  | [a] => [(0, Nat.min a N), (a + 1, N)]
  | [a, b] => cond (Nat.ble a b) [(0, Nat.min a N), (a + 1, Nat.min b N), (b + 1, N)] [(0, Nat.min b N), (b + 1, Nat.min a N), (a + 1, N)]
  | _ => []

structure Rec where
  lo : Nat
  hi : Nat
  hid : List (Nat × Nat)
  w : List Nat

def hidFrom (mask : Nat) : Nat → List Rec → List (Nat × Nat)
  | _, [] => []
  | i, r :: l => cond (Nat.testBit mask i || Nat.beq r.lo r.hi) (hidFrom mask (i + 1) l) ((r.lo, r.hi) :: hidFrom mask (i + 1) l)

def St.cover (σ : St) (hid : List (Nat × Nat)) : St := St.rec (fun h next _ _ => ⟨h, next, hid, []⟩) σ
def St.back (σ' σ : St) : St := St.rec (fun h next _ log' => St.rec (fun _ _ hid log => ⟨h, next, hid, log' ++ log⟩) σ) σ'
theorem St.cover_eq (σ : St) (hid : List (Nat × Nat)) : σ.cover hid = { σ with hid := hid, log := [] } := rfl
theorem St.back_eq (σ' σ : St) : σ'.back σ = { σ' with hid := σ.hid, log := σ'.log ++ σ.log } := rfl
def drawFrom (E : Env) (V : Ev) (ops : List Oper) (masks : List Nat) : List Oper → Nat → List Rec → Tm → St → Option (List Rec × Tm × St)
  | [], _, recs, τ, σ => some (recs, τ, σ)
  | o :: rest, j, recs, τ, σ =>
    match wantedA ops τ o with
    | some true =>
      let hid := (match foot τ o.op with | some l => except1 σ.next l | none => []) ++ (hidFrom (masks.getD j 0) 0 recs ++ σ.hid)
      match oper E V τ o (σ.cover hid) with
      | some (v, σ') => match τ.put o.dst v with
        | some τ' => drawFrom E V ops masks rest (j + 1) (recs ++ [⟨σ.next, σ'.next, hid, σ'.log.filter fun id => Nat.blt id σ.next⟩]) τ' (σ'.back σ)
        | none => none
      | none => none
    | some false => match τ.put o.dst (.sc undef) with
      | some τ' => drawFrom E V ops masks rest (j + 1) (recs ++ [⟨σ.next, σ.next, [(0, σ.next)], []⟩]) τ' σ
      | none => none
    | none => none

/-- What is written by an operation is seen by none that is not bound to come before or behind it. -/
def okRecs (masks : List Nat) (recs : List Rec) : Bool :=
  recs.zipIdx.all fun (r, j) => r.w.isEmpty || recs.zipIdx.all fun (q, k) =>
    Nat.beq j k || Nat.testBit (masks.getD k 0) j || Nat.testBit (masks.getD j 0) k || r.w.all fun id => hidden id q.hid || Nat.ble q.hi id
/-- Operations of which none is bound to come before the other one have no temporary between them. -/
def okOps (ops : List Oper) (masks : List Nat) : Bool :=
  ops.zipIdx.all fun (x, j) => ops.zipIdx.all fun (y, k) =>
    Nat.ble k j || Nat.testBit (masks.getD k 0) j || Oper.apart ops.toArray x y
def okEdges (ops : List Oper) : Bool :=
  ops.zipIdx.all fun (x, j) => x.after.toList.all fun e => !(Region.binds .any e) || Nat.blt e.on j
def draw (E : Env) (V : Ev) (ops : List Oper) (τ : Tm) (σ : St) : Option (Tm × St) :=
  let masks := masksOf ops
  cond (okEdges ops && okOps ops masks) (match drawFrom E V ops masks ops 0 [] τ σ with
    | some (recs, τ', σ') => cond (okRecs masks recs) (some (τ', σ')) none
    | none => none) none

/-! ### Code -/
def rangeGo (V : Ev) (rd : Option Nat) (g : AV) (ps : List Tmp) (asg body : Code) (d : Nat) (τ τ1 : Tm) (σ1 : St) : Option (AExit × Tm × St) :=
  match aCall g [.yield σ1.next] (σ1.new (.loop .ready none τ.t τ.n ps asg body d)) with
  | some (.enter f args, σ2) => match V.call f args σ2 with
    | some (_, σ3) => match σ3.look σ1.next with
      | some (.loop st pend _ _ _ _ _ _) => match st with
        | .busy => none
        | _ =>
          match pend with
          | none => some (.normal, τ1, σ3.put σ1.next .gone)
          | some c => V.code rd c τ1 (σ3.put σ1.next .gone)
      | _ => none
    | none => none
  | _ => none
def rangeFuncA (V : Ev) (rd : Option Nat) (g : AV) (ps : List Tmp) (asg body : Code) (τ : Tm) (σ : St) : Option (AExit × Tm × St) :=
  match rd with
  | none => rangeGo V rd g ps asg body σ.next τ { τ with marks := σ.next :: τ.marks } (σ.new (.dfr false))
  | some l0 => match σ.look l0 with
    | some (.loop _ _ _ _ _ _ _ d) => rangeGo V rd g ps asg body d τ τ σ
    | _ => none

def codeStep (E : Env) (V : Ev) (rd : Option Nat) (c : Code) (τ : Tm) (σ : St) : Option (AExit × Tm × St) :=
  match c with
  | .skip | .label _ => some (.normal, τ, σ)
  | .ret => some (.ret, τ, σ)
  | .exit id => some (.exit id, τ, σ)
  | .goto l => some (.goto l, τ, σ)
  | .seq a b => match V.code rd a τ σ with
    | some (.normal, τ', σ') => V.code rd b τ' σ'
    | r => r
  | .cond c x y => match ev τ c with
    | .sc (.bool b) => V.code rd (cond b x y) τ σ
    | _ => none
  | .block id c => match V.code rd c τ σ with
    | some (.exit id', τ', σ') => cond (Nat.beq id' id) (some (.normal, τ', σ')) (some (.exit id', τ', σ'))
    | r => r
  | .loop c => match V.code rd c τ σ with
    | some (.normal, τ', σ') => V.code rd (.loop c) τ' σ'
    | r => r
  | .region _ ops d => cond d ((draw E V ops.toList τ σ).map fun p => (.normal, p.1, p.2)) ((opersFrom E V ops.toList ops.toList τ σ).map fun p => (.normal, p.1, p.2))
  | .rangeFunc g ps asg body => rangeFuncA V rd (ev τ g) ps.toList asg body τ σ
  | .scope _ | .refuse _ => none

/-! ### Calls and rounds -/
def putAll (t : T AV) : Nat → List AV → T AV
  | _, [] => t
  | i, v :: l => putAll (t.set (i + 1) i v) (i + 1) l
def takeMarks : List Nat → St → Option St
  | [], σ => some σ
  | d :: l, σ => match σ.look d with
    | some (.dfr false) => takeMarks l (σ.put d (.dfr true))
    | _ => none
def resultsA (E : Env) (τ : Tm) (σ : St) : List ResultVar → Option (List AV)
  | [] => some []
  | .tmp t :: l => (resultsA E τ σ l).map (τ.get t :: ·)
  | .cell a t :: l => match aLoad E t (τ.get a) σ with
    | some (v, _) => (resultsA E τ σ l).map (v :: ·)
    | none => none
def one : List AV → AV
  | [v] => v
  | l => .tuple l
def callStep (E : Env) (V : Ev) (f : FuncId) (args : List AV) (σ : St) : Option (AV × St) :=
  match E.fn.get f with
  | none => none
  | some fn => match fn.body with
    | none => none
    | some c => cond (Nat.ble args.length fn.ntmps) (match V.code none c { t := putAll .leaf 0 args, n := fn.ntmps, marks := [] } σ with
      | some (.normal, τ, σ') | some (.ret, τ, σ') => match takeMarks τ.marks σ' with
        | some σ'' => (resultsA E τ σ'' fn.results.toList).map fun l => (one l, σ'')
        | none => none
      | _ => none) none

def setParams (n : Nat) (t : T AV) : List Tmp → List AV → Option (T AV)
  | [], [] => some t
  | p :: ps, v :: vs => cond (Nat.blt p n) (setParams n (t.set (p + 1) p v) ps vs) none
  | _, _ => none
def endRoundA (l : Nat) (jump : Option Code) (σ : St) : Option (AV × St) :=
  match σ.look l with
  | some (.loop _ _ tt n ps asg body d) => some (.sc (.bool jump.isNone), σ.put l (.loop (match jump with | none => .ready | some _ => .done) jump tt n ps asg body d))
  | _ => none
def roundStep (V : Ev) (l : Nat) (args : List AV) (σ : St) : Option (AV × St) :=
  match σ.look l with
  | some (.loop _ _ tt n ps asg body _) => match setParams n tt ps args with
    | some t => match V.code (some l) asg { t := t, n := n, marks := [] } σ with
      | some (.normal, τ1, σ1) => match σ1.look l with
        | some (.loop .ready pend tt n ps asg' body' d) => match V.code (some l) body τ1 (σ1.put l (.loop .busy pend tt n ps asg' body' d)) with
          | some (.normal, _, σ2) => endRoundA l none σ2
          | some (.ret, _, σ2) => endRoundA l (some .ret) σ2
          | some (.exit id, _, σ2) => endRoundA l (some (.exit id)) σ2
          | some (.goto t, _, σ2) => endRoundA l (some (.goto t)) σ2
          | none => none
        | _ => none
      | _ => none
    | none => none
  | _ => none

def Ev.next (E : Env) (V : Ev) : Ev := ⟨codeStep E V, callStep E V, roundStep V⟩
def Ev.at (E : Env) : Nat → Ev
  | 0 => Ev.none
  | n + 1 => Ev.next E (Ev.at E n)
def run (E : Env) (n : Nat) (f : FuncId) : Option (AV × St) := (Ev.at E n).call f [] ⟨.leaf, 0, [], []⟩
end
end Go.Vai

/-
  How an abstract state stands to a world of the model: values, objects, states; what a step may turn; how steps follow one another.
-/
namespace Go.Vai
open Go

theorem beqF {a b : Nat} (h : a ≠ b) : Nat.beq a b = false := by
  cases hb : Nat.beq a b with
  | false => rfl
  | true => exact absurd (Nat.eq_of_beq_eq_true hb) h
theorem beqT {a b : Nat} (h : Nat.beq a b = true) : a = b := Nat.eq_of_beq_eq_true h
theorem bleT {a b : Nat} (h : Nat.ble a b = true) : a ≤ b := Nat.le_of_ble_eq_true h
theorem bltT {a b : Nat} (h : Nat.blt a b = true) : a < b := Nat.le_of_ble_eq_true h

/-! ### Tries -/
namespace T
variable {α : Type}
theorem get_leaf (i : Nat) : (T.leaf : T α).get i = none := rfl
theorem get_node (v : Option α) (l r : T α) (j : Nat) : (T.node v l r).get j = if j = 0 then v else if j % 2 = 1 then l.get (j / 2) else r.get ((j - 1) / 2) := by
  cases j with
  | zero => rfl
  | succ k =>
    rw [if_neg (by omega)]
    by_cases h : k % 2 = 1
    · rw [if_neg (by omega)]
      have e : (k + 1 - 1) / 2 = k / 2 := by omega
      rw [e]
      show (Bool.rec (T.get l (k / 2)) (T.get r (k / 2)) (Nat.beq (k % 2) 1) : Option α) = _
      rw [h]; rfl
    · rw [if_pos (by omega)]
      have e : (k + 1) / 2 = k / 2 := by omega
      rw [e]
      show (Bool.rec (T.get l (k / 2)) (T.get r (k / 2)) (Nat.beq (k % 2) 1) : Option α) = _
      rw [beqF h]
theorem get_single (f : Nat) : ∀ (i j : Nat) (x : α), i < f → (single f i x).get j = if j = i then some x else none := by
  induction f with
  | zero => intro i j x h; omega
  | succ f ih =>
    intro i j x h
    cases i with
    | zero =>
      show (T.node (some x) .leaf .leaf : T α).get j = _
      rw [get_node]
      by_cases hj : j = 0
      · rw [if_pos hj, if_pos hj]
      · rw [if_neg hj, if_neg hj, get_leaf, get_leaf]; simp
    | succ k =>
      show (Bool.rec (.node none (single f (k / 2) x) .leaf) (.node none .leaf (single f (k / 2) x)) (Nat.beq (k % 2) 1) : T α).get j = _
      by_cases hk : k % 2 = 1
      · have : Nat.beq (k % 2) 1 = true := by rw [hk]; rfl
        rw [this]
        show (T.node none .leaf (single f (k / 2) x) : T α).get j = _
        rw [get_node, ih _ _ _ (by omega), get_leaf]
        by_cases hj : j = 0
        · rw [if_pos hj, if_neg (by omega)]
        · rw [if_neg hj]
          by_cases hm : j % 2 = 1
          · rw [if_pos hm, if_neg (by omega)]
          · rw [if_neg hm]
            by_cases e : j = k + 1
            · rw [if_pos e, if_pos (by omega)]
            · rw [if_neg e, if_neg (by omega)]
      · rw [beqF hk]
        show (T.node none (single f (k / 2) x) .leaf : T α).get j = _
        rw [get_node, ih _ _ _ (by omega), get_leaf]
        by_cases hj : j = 0
        · rw [if_pos hj, if_neg (by omega)]
        · rw [if_neg hj]
          by_cases hm : j % 2 = 1
          · rw [if_pos hm]
            by_cases e : j = k + 1
            · rw [if_pos e, if_pos (by omega)]
            · rw [if_neg e, if_neg (by omega)]
          · rw [if_neg hm, if_neg (by omega)]
theorem get_set (f : Nat) : ∀ (t : T α) (i j : Nat) (x : α), i < f → (set f t i x).get j = if j = i then some x else t.get j := by
  intro t
  induction t with
  | leaf => intro i j x h; exact get_single f i j x h
  | node v l r ihl ihr =>
    intro i j x h
    cases i with
    | zero =>
      show (T.node (some x) l r).get j = _
      rw [get_node, get_node]
      by_cases hj : j = 0
      · rw [if_pos hj, if_pos hj]
      · rw [if_neg hj, if_neg hj, if_neg hj]
    | succ k =>
      show (Bool.rec (.node v (set f l (k / 2) x) r) (.node v l (set f r (k / 2) x)) (Nat.beq (k % 2) 1) : T α).get j = _
      by_cases hk : k % 2 = 1
      · have : Nat.beq (k % 2) 1 = true := by rw [hk]; rfl
        rw [this]
        show (T.node v l (set f r (k / 2) x) : T α).get j = _
        rw [get_node, get_node, ihr _ _ _ (by omega)]
        by_cases hj : j = 0
        · rw [if_pos hj, if_neg (by omega), if_pos hj]
        · rw [if_neg hj, if_neg hj]
          by_cases hm : j % 2 = 1
          · rw [if_pos hm, if_pos hm, if_neg (by omega)]
          · rw [if_neg hm, if_neg hm]
            by_cases e : j = k + 1
            · rw [if_pos e, if_pos (by omega)]
            · rw [if_neg e, if_neg (by omega)]
      · rw [beqF hk]
        show (T.node v (set f l (k / 2) x) r : T α).get j = _
        rw [get_node, get_node, ihl _ _ _ (by omega)]
        by_cases hj : j = 0
        · rw [if_pos hj, if_neg (by omega), if_pos hj]
        · rw [if_neg hj, if_neg hj]
          by_cases hm : j % 2 = 1
          · rw [if_pos hm, if_pos hm]
            by_cases e : j = k + 1
            · rw [if_pos e, if_pos (by omega)]
            · rw [if_neg e, if_neg (by omega)]
          · rw [if_neg hm, if_neg hm, if_neg (by omega)]
theorem get_set' (t : T α) (i j : Nat) (x : α) : (set (i + 1) t i x).get j = if j = i then some x else t.get j := get_set _ t i j x (by omega)
end T
end Go.Vai

/-
  How an abstract state stands to a world of the model, and what a step may turn.
-/
namespace Go.Vai
open Go

/-- Where an object (in one of its generations) lies: its block, how far its cells are shifted, how many are known, the block's size. -/
structure Loc where
  b : Nat
  s : Nat
  n : Nat
  sz : Nat
/-- Where objects lie; what lies in memory that nobody writes. -/
structure Map where
  loc : Nat → Nat → Option Loc
  gl : Nat → Option Obj
instance : CoeFun Map (fun _ => Nat → Nat → Option Loc) := ⟨Map.loc⟩
structure Sub (β β' : Map) : Prop where
  loc : ∀ id g l, β id g = some l → β' id g = some l
  gl : ∀ b o, β.gl b = some o → β'.gl b = some o
instance {β β' : Map} : CoeFun (Sub β β') (fun _ => ∀ id g l, β id g = some l → β' id g = some l) := ⟨Sub.loc⟩
theorem Sub.refl (β : Map) : Sub β β := ⟨fun _ _ _ h => h, fun _ _ h => h⟩
theorem Sub.trans {a b c : Map} (h : Sub a b) (k : Sub b c) : Sub a c := ⟨fun id g l e => k id g l (h id g l e), fun b o e => k.gl b o (h.gl b o e)⟩

mutual
def VR (β : Map) : AV → Value → Prop
  | .sc v, u => u = v
  | .ptr id g off k, u => ∃ l, β id g = some l ∧ off + k ≤ l.n ∧ l.s + l.n ≤ l.sz ∧ u = .pointer (some ⟨l.b, l.s + off, none⟩)
  | .slice id g off len e mc, u => ∃ l o c, β id g = some l ∧ u = .slice (some ⟨l.b, o, none⟩) len c ∧ mc ≤ c ∧ len ≤ mc ∧ off + mc * e ≤ l.n ∧ l.s + l.n ≤ l.sz ∧ 0 < e ∧ (c = 0 ∨ (o = l.s + off ∧ o + c * e ≤ l.sz))
  | .map id, u => ∃ l, β id 0 = some l ∧ u = .map (some l.b)
  | .func fn first cap, u => ∃ f c, u = .func fn f c ∧ VRs β first f.toList ∧ VRs β cap c.toList
  | .yield id, u => ∃ l, β id 0 = some l ∧ u = .func (.yield l.b) #[] #[]
  | .iface t v, u => ∃ x, u = .iface t x ∧ VR β v x
  | .agg vs, u => ∃ cs, u = .agg cs ∧ VRs β vs cs.toList
  | .tuple vs, u => ∃ cs, u = .tuple cs ∧ VRs β vs cs.toList
  | .fro e len cells, u => 0 < e ∧ cells.length = len * e ∧ ∃ p c, u = .slice p len c ∧ len ≤ c ∧ (p = none → c = 0) ∧ (len = 0 ∨ ∃ b o cs el fz, p = some ⟨b, o, none⟩ ∧ β.gl b = some (.cells cs el fz) ∧ o + len * e ≤ cs.size ∧ VRs β cells ((cs.toList.drop o).take (len * e)))
  | .adr cells, u => 0 < cells.length ∧ ∃ b o cs el fz, u = .pointer (some ⟨b, o, none⟩) ∧ β.gl b = some (.cells cs el fz) ∧ o + cells.length ≤ cs.size ∧ VRs β cells ((cs.toList.drop o).take cells.length)
  | .fmap ks vs, u => ∃ p, u = .map p ∧ ((p = none ∧ ks = [] ∧ vs = []) ∨ ∃ b cs clock, p = some b ∧ β.gl b = some (.map cs clock) ∧ VRs β ks (cs.toList.map (·.key)) ∧ VRs β vs (cs.toList.map (·.val)))
  | .any, u => ∀ cs, u ≠ .agg cs
def VRs (β : Map) : List AV → List Value → Prop
  | [], us => us = []
  | v :: vs, us => ∃ u us', us = u :: us' ∧ VR β v u ∧ VRs β vs us'
end

mutual
theorem VR.mono {β β' : Map} (h : Sub β β') : ∀ (v : AV) (u : Value), VR β v u → VR β' v u
  | .sc _, _, r => by simpa [VR] using r
  | .ptr id g off k, u, r => by
    simp only [VR] at r ⊢
    obtain ⟨l, e, r⟩ := r
    exact ⟨l, h _ _ _ e, r⟩
  | .slice id g off len e mc, u, r => by
    simp only [VR] at r ⊢
    obtain ⟨l, o, c, e, r⟩ := r
    exact ⟨l, o, c, h _ _ _ e, r⟩
  | .map id, u, r => by
    simp only [VR] at r ⊢
    obtain ⟨l, e, r⟩ := r
    exact ⟨l, h _ _ _ e, r⟩
  | .func fn first cap, u, r => by
    simp only [VR] at r ⊢
    obtain ⟨f, c, e, r1, r2⟩ := r
    exact ⟨f, c, e, VRs.mono h first _ r1, VRs.mono h cap _ r2⟩
  | .yield id, u, r => by
    simp only [VR] at r ⊢
    obtain ⟨l, e, r⟩ := r
    exact ⟨l, h _ _ _ e, r⟩
  | .iface t v, u, r => by
    simp only [VR] at r ⊢
    obtain ⟨x, e, r⟩ := r
    exact ⟨x, e, VR.mono h v _ r⟩
  | .agg vs, u, r => by
    simp only [VR] at r ⊢
    obtain ⟨cs, e, r⟩ := r
    exact ⟨cs, e, VRs.mono h vs _ r⟩
  | .tuple vs, u, r => by
    simp only [VR] at r ⊢
    obtain ⟨cs, e, r⟩ := r
    exact ⟨cs, e, VRs.mono h vs _ r⟩
  | .fro e len cells, u, r => by
    simp only [VR] at r ⊢
    obtain ⟨h1, h2, p, c, h3, h4, h5, r⟩ := r
    refine ⟨h1, h2, p, c, h3, h4, h5, ?_⟩
    rcases r with r | ⟨b, o, cs, el, fz, e1, e2, e3, r⟩
    · exact .inl r
    · exact .inr ⟨b, o, cs, el, fz, e1, h.gl _ _ e2, e3, VRs.mono h cells _ r⟩
  | .adr cells, u, r => by
    simp only [VR] at r ⊢
    obtain ⟨h1, b, o, cs, el, fz, e1, e2, e3, r⟩ := r
    exact ⟨h1, b, o, cs, el, fz, e1, h.gl _ _ e2, e3, VRs.mono h cells _ r⟩
  | .fmap ks vs, u, r => by
    simp only [VR] at r ⊢
    obtain ⟨p, e, r⟩ := r
    refine ⟨p, e, ?_⟩
    rcases r with r | ⟨b, cs, clock, e1, e2, r1, r2⟩
    · exact .inl r
    · exact .inr ⟨b, cs, clock, e1, h.gl _ _ e2, VRs.mono h ks _ r1, VRs.mono h vs _ r2⟩
  | .any, u, r => by
    simp only [VR] at r ⊢
    exact r
theorem VRs.mono {β β' : Map} (h : Sub β β') : ∀ (vs : List AV) (us : List Value), VRs β vs us → VRs β' vs us
  | [], _, r => by simpa [VRs] using r
  | v :: vs, us, r => by
    simp only [VRs] at r ⊢
    obtain ⟨u, us', e, r1, r2⟩ := r
    exact ⟨u, us', e, VR.mono h v _ r1, VRs.mono h vs _ r2⟩
end

/-! lists of values -/
theorem VRs.length {β : Map} : ∀ {vs : List AV} {us : List Value}, VRs β vs us → us.length = vs.length
  | [], us, h => by simp only [VRs] at h; simp [h]
  | v :: vs, us, h => by
    simp only [VRs] at h
    obtain ⟨u, us', rfl, _, r⟩ := h
    simp [VRs.length r]
theorem VRs.get {β : Map} : ∀ {vs : List AV} {us : List Value}, VRs β vs us → ∀ (i : Nat) v, vs[i]? = some v → ∃ u, us[i]? = some u ∧ VR β v u
  | [], us, h, i, v, e => by simp at e
  | x :: vs, us, h, i, v, e => by
    simp only [VRs] at h
    obtain ⟨u, us', rfl, r1, r2⟩ := h
    cases i with
    | zero => simp at e; subst e; exact ⟨u, rfl, r1⟩
    | succ i => simp at e; simpa using VRs.get r2 i v e
theorem VRs.of_get {β : Map} : ∀ {vs : List AV} {us : List Value}, us.length = vs.length → (∀ (i : Nat) v u, vs[i]? = some v → us[i]? = some u → VR β v u) → VRs β vs us
  | [], us, h, _ => by simp only [VRs]; exact List.eq_nil_of_length_eq_zero (by simpa using h)
  | v :: vs, [], h, _ => by simp at h
  | v :: vs, u :: us, h, r => by
    simp only [VRs]
    exact ⟨u, us, rfl, r 0 v u rfl rfl, VRs.of_get (by simpa using h) fun i v u hv hu => r (i + 1) v u (by simpa using hv) (by simpa using hu)⟩
theorem VRs.append {β : Map} {vs vs' : List AV} {us us' : List Value} (h : VRs β vs us) (h' : VRs β vs' us') : VRs β (vs ++ vs') (us ++ us') := by
  induction vs generalizing us with
  | nil => simp only [VRs] at h; subst h; simpa using h'
  | cons v vs ih =>
    simp only [VRs] at h
    obtain ⟨u, us2, rfl, r1, r2⟩ := h
    simp only [List.cons_append, VRs]
    exact ⟨u, us2 ++ us', rfl, r1, ih r2⟩
theorem VRs.take {β : Map} {vs : List AV} {us : List Value} (h : VRs β vs us) (n : Nat) : VRs β (vs.take n) (us.take n) := by
  induction vs generalizing us n with
  | nil => simp only [VRs] at h; subst h; simp [VRs]
  | cons v vs ih =>
    simp only [VRs] at h
    obtain ⟨u, us2, rfl, r1, r2⟩ := h
    cases n with
    | zero => simp [VRs]
    | succ n => simp only [List.take_succ_cons, VRs]; exact ⟨u, _, rfl, r1, ih r2 n⟩
theorem VRs.drop {β : Map} {vs : List AV} {us : List Value} (h : VRs β vs us) (n : Nat) : VRs β (vs.drop n) (us.drop n) := by
  induction vs generalizing us n with
  | nil => simp only [VRs] at h; subst h; simp [VRs]
  | cons v vs ih =>
    simp only [VRs] at h
    obtain ⟨u, us2, rfl, r1, r2⟩ := h
    cases n with
    | zero => simp only [List.drop_zero, VRs]; exact ⟨u, us2, rfl, r1, r2⟩
    | succ n => simpa using ih r2 n
theorem VRs.part {β : Map} {vs : List AV} {l : List Value} {o n : Nat} (a k : Nat) (h : VRs β vs ((l.drop o).take n)) (hk : a + k ≤ n) : VRs β ((vs.drop a).take k) ((l.drop (o + a)).take k) := by
  have := (h.drop a).take k
  rw [List.drop_take, List.drop_drop, List.take_take, Nat.min_eq_left (by omega)] at this
  exact this
theorem VRs.sc {β : Map} (l : List Value) : VRs β (l.map .sc) l := by
  induction l with
  | nil => simp [VRs]
  | cons v l ih => simp only [List.map_cons, VRs]; exact ⟨v, l, rfl, by simp [VR], ih⟩
theorem VRs.sc_eq {β : Map} {l : List Value} {us : List Value} (h : VRs β (l.map .sc) us) : us = l := by
  induction l generalizing us with
  | nil => simpa [VRs] using h
  | cons v l ih =>
    simp only [List.map_cons, VRs, VR] at h
    obtain ⟨u, us', rfl, rfl, r⟩ := h
    rw [ih r]
theorem VRs.nil {β : Map} : VRs β [] [] := by simp [VRs]
theorem VRs.cons {β : Map} {v : AV} {vs : List AV} {u : Value} {us : List Value} (h : VR β v u) (h' : VRs β vs us) : VRs β (v :: vs) (u :: us) := by
  simp only [VRs]; exact ⟨u, us, rfl, h, h'⟩
theorem VRs.map {β : Map} {α : Type} (f : α → AV) (g : α → Value) (l : List α) (h : ∀ x ∈ l, VR β (f x) (g x)) : VRs β (l.map f) (l.map g) := by
  induction l with
  | nil => exact VRs.nil
  | cons x l ih => exact VRs.cons (h x (by simp)) (ih fun y hy => h y (by simp [hy]))
theorem VRs.over {β : Map} {l : List AV} {us : List Value} (h : VRs β l us) (off : Nat) {vs : List AV} {xs : List Value} (h' : VRs β vs xs) :
    VRs β (over l off vs) (us.take off ++ xs ++ us.drop (off + xs.length)) := by
  unfold Vai.over
  rw [h'.length]
  exact ((h.take off).append h').append (h.drop _)
theorem VRs.replicate {β : Map} {z : List AV} {zs : List Value} (h : VRs β z zs) (n : Nat) : VRs β (repl n z) ((List.replicate n zs).flatten) := by
  unfold repl
  induction n with
  | zero => simpa using VRs.nil
  | succ n ih => simpa [List.replicate_succ] using h.append ih

/-- The cells of a value, on both sides. -/
theorem VR.cells {β : Map} {v : AV} {u : Value} (h : VR β v u) : VRs β (cellsOf v) u.cells.toList := by
  cases v with
  | sc x =>
    simp only [VR] at h
    subst h
    cases u <;> first
      | (simp only [cellsOf, Value.cells]; exact VRs.cons (by simp [VR]) VRs.nil)
      | (simp only [cellsOf, Value.cells]; exact VRs.sc _)
  | agg vs =>
    simp only [VR] at h
    obtain ⟨cs, rfl, r⟩ := h
    exact r
  | ptr => obtain ⟨l, e, r, r', rfl⟩ := (by simpa only [VR] using h); exact VRs.cons (by simpa only [VR] using h) VRs.nil
  | slice => obtain ⟨l, o, c, e, rfl, r⟩ := (by simpa only [VR] using h); exact VRs.cons (by simpa only [VR] using h) VRs.nil
  | map => obtain ⟨l, e, rfl⟩ := (by simpa only [VR] using h); exact VRs.cons (by simpa only [VR] using h) VRs.nil
  | func => obtain ⟨f, c, rfl, r⟩ := (by simpa only [VR] using h); exact VRs.cons (by simpa only [VR] using h) VRs.nil
  | yield => obtain ⟨l, e, rfl⟩ := (by simpa only [VR] using h); exact VRs.cons (by simpa only [VR] using h) VRs.nil
  | iface => obtain ⟨x, rfl, r⟩ := (by simpa only [VR] using h); exact VRs.cons (by simpa only [VR] using h) VRs.nil
  | tuple => obtain ⟨x, rfl, r⟩ := (by simpa only [VR] using h); exact VRs.cons (by simpa only [VR] using h) VRs.nil
  | fro => obtain ⟨h1, h2, p, c, rfl, h4⟩ := (by simpa only [VR] using h); exact VRs.cons (by simpa only [VR] using h) VRs.nil
  | adr => obtain ⟨h1, b, o, cs, el, fz, rfl, h4⟩ := (by simpa only [VR] using h); exact VRs.cons (by simpa only [VR] using h) VRs.nil
  | fmap => obtain ⟨p, rfl, h4⟩ := (by simpa only [VR] using h); exact VRs.cons (by simpa only [VR] using h) VRs.nil
  | any =>
    have h' : ∀ cs, u ≠ .agg cs := by simpa only [VR] using h
    have e : u.cells.toList = [u] := by
      cases u <;> first | rfl | exact absurd rfl (h' _)
    rw [e]
    exact VRs.cons (by simpa only [VR] using h) VRs.nil
theorem VR.cell {β : Map} {v : AV} {u : Value} (h : VR β v u) (hc : isCell v = true) : u.oneCell' = true := by
  cases v with
  | sc x => simp only [VR] at h; subst h; cases u <;> simp_all [isCell, Value.oneCell']
  | agg | tuple | any => simp [isCell] at hc
  | fro => obtain ⟨h1, h2, p, c, rfl, h4⟩ := (by simpa only [VR] using h); rfl
  | adr => obtain ⟨h1, b, o, cs, el, fz, rfl, h4⟩ := (by simpa only [VR] using h); rfl
  | fmap => obtain ⟨p, rfl, h4⟩ := (by simpa only [VR] using h); rfl
  | ptr => obtain ⟨l, e, r, r', rfl⟩ := (by simpa only [VR] using h); rfl
  | slice => obtain ⟨l, o, c, e, rfl, r⟩ := (by simpa only [VR] using h); rfl
  | map => obtain ⟨l, e, rfl⟩ := (by simpa only [VR] using h); rfl
  | func => obtain ⟨f, c, rfl, r⟩ := (by simpa only [VR] using h); rfl
  | yield => obtain ⟨l, e, rfl⟩ := (by simpa only [VR] using h); rfl
  | iface => obtain ⟨x, rfl, r⟩ := (by simpa only [VR] using h); rfl
theorem VRs.oneCells {β : Map} {vs : List AV} {us : List Value} (h : VRs β vs us) (hc : vs.all isCell = true) : ∀ u ∈ us, u.oneCell' = true := by
  induction vs generalizing us with
  | nil => simp only [VRs] at h; subst h; simp
  | cons v vs ih =>
    simp only [VRs] at h
    obtain ⟨u, us2, rfl, r1, r2⟩ := h
    simp only [List.all_cons, Bool.and_eq_true] at hc
    intro x hx
    rcases List.mem_cons.1 hx with rfl | hx
    · exact r1.cell hc.1
    · exact ih r2 hc.2 x hx

/-! ### Objects -/
/-- The temporaries of a frame. -/
def TmpR (β : Map) (t : T AV) (n : Nat) (a : Array Value) : Prop :=
  a.size = n ∧ (∀ i, n ≤ i → t.get i = none) ∧ ∀ i, i < n → VR β ((t.get i).getD (.sc undef)) (a.getD i undef)
def EntryR (β : Map) (e : AEntry) (c : MapEntry) : Prop := VR β e.key c.key ∧ VR β e.val c.val ∧ c.born = e.born
def EntriesR (β : Map) : List AEntry → List MapEntry → Prop
  | [], cs => cs = []
  | e :: es, cs => ∃ c cs', cs = c :: cs' ∧ EntryR β e c ∧ EntriesR β es cs'
def RowR (β : Map) (w : World) (l : Loc) (cells : List AV) : Prop :=
  ∃ cs el, w.heap[l.b]? = some (.cells cs el (0, 0)) ∧ cs.size = l.sz ∧ l.s + l.n ≤ cs.size ∧ VRs β (cells.take l.n) ((cs.toList.drop l.s).take l.n)
/-- The entries of a map, in whatever order, are these integers, each with true. -/
structure SetOf (es : List AEntry) (clock : Nat) (ks : List Int) : Prop where
  key : ∀ e ∈ es, ∃ k ∈ ks, e.key = .sc (.int .i64 k) ∧ e.val = .sc (.bool true)
  all : ∀ k ∈ ks, ∃ e ∈ es, e.key = .sc (.int .i64 k)
  born : (es.map (·.born)).Nodup
  old : ∀ e ∈ es, e.born < clock
  keys : (es.map (·.key)).Nodup
def ObjR (β : Map) (w : World) (id : Nat) : AObj → Prop
  | .row gen mg cells => mg ≤ gen ∧ cells.all isCell = true ∧ (∀ g, gen < g → β id g = none) ∧
      (∀ g g' l l', mg ≤ g → g ≤ gen → mg ≤ g' → g' ≤ gen → β id g = some l → β id g' = some l' → l.b = l'.b → l.s = l'.s) ∧
      ∀ g, mg ≤ g → g ≤ gen → ∃ l, β id g = some l ∧ l.n ≤ cells.length ∧ (g = gen → l.n = cells.length) ∧ RowR β w l cells
  | .map es clock => ∃ l, β id 0 = some l ∧ ∃ cs, w.heap[l.b]? = some (.map cs clock) ∧ EntriesR β es cs.toList
  | .iter m since seen stepped => ∃ l, β id 0 = some l ∧ l.s = 0 ∧ ∃ mc, w.heap[l.b]? = some (.mapIter mc since seen.toArray stepped) ∧
      (match m with
       | none => mc = none
       | some mid => ∃ lm, β mid 0 = some lm ∧ mc = some lm.b)
  | .loop st pend t n ps asg body d => ∃ l, β id 0 = some l ∧ ∃ r : Loop, w.heap[l.b]? = some (.loop r) ∧ r.state = st ∧ r.pending = pend ∧ r.params.toList = ps ∧ r.assign = asg ∧ r.body = body ∧
      TmpR β t n r.tmps ∧ ∃ ld, β d 0 = some ld ∧ r.defers = ld.b
  | .dfr taken => ∃ l, β id 0 = some l ∧ w.heap[l.b]? = some (.deferred (cond taken none (some [])))
  | .gone => ∃ g l, β id g = some l
  | .set ks => ∃ l, β id 0 = some l ∧ ∃ es clock cs, w.heap[l.b]? = some (.map cs clock) ∧ EntriesR β es cs.toList ∧ SetOf es clock ks

theorem TmpR.mono {β β' : Map} (h : Sub β β') {t : T AV} {n : Nat} {a : Array Value} (r : TmpR β t n a) : TmpR β' t n a :=
  ⟨r.1, r.2.1, fun i hi => VR.mono h _ _ (r.2.2 i hi)⟩
theorem EntryR.mono {β β' : Map} (h : Sub β β') {e : AEntry} {c : MapEntry} (r : EntryR β e c) : EntryR β' e c := ⟨VR.mono h _ _ r.1, VR.mono h _ _ r.2.1, r.2.2⟩
theorem EntriesR.mono {β β' : Map} (h : Sub β β') : ∀ {es : List AEntry} {cs : List MapEntry}, EntriesR β es cs → EntriesR β' es cs
  | [], _, r => r
  | _ :: _, _, ⟨c, cs', e, r1, r2⟩ => ⟨c, cs', e, r1.mono h, EntriesR.mono h r2⟩
theorem RowR.mono {β β' : Map} (h : Sub β β') {w w' : World} {l : Loc} {cells : List AV} (hw : w'.heap[l.b]? = w.heap[l.b]?) (r : RowR β w l cells) : RowR β' w' l cells := by
  obtain ⟨cs, el, e, r1, r2, r3⟩ := r
  exact ⟨cs, el, hw.trans e, r1, r2, VRs.mono h _ _ r3⟩
theorem ObjR.mono {β β' : Map} (h : Sub β β') {w w' : World} {id : Nat} {o : AObj} (hn : ∀ g, β id g = none → β' id g = none)
    (hw : ∀ g l, β id g = some l → w'.heap[l.b]? = w.heap[l.b]?) (r : ObjR β w id o) : ObjR β' w' id o := by
  cases o with
  | row gen mg cells =>
    obtain ⟨h1, h2, h3, h5, h4⟩ := r
    have back : ∀ g l, mg ≤ g → g ≤ gen → β' id g = some l → β id g = some l := by
      intro g l a b e
      obtain ⟨l0, e0, _⟩ := h4 g a b
      rw [h _ _ _ e0] at e
      simp only [Option.some.injEq] at e
      exact e ▸ e0
    refine ⟨h1, h2, fun g hg => hn g (h3 g hg), fun g g' l l' a b a' b' e e' => h5 g g' l l' a b a' b' (back g l a b e) (back g' l' a' b' e'), fun g a b => ?_⟩
    obtain ⟨l, e, r1, r2, r3⟩ := h4 g a b
    exact ⟨l, h _ _ _ e, r1, r2, r3.mono h (hw g l e)⟩
  | map es clock =>
    obtain ⟨l, e, cs, r1, r2⟩ := r
    exact ⟨l, h _ _ _ e, cs, (hw 0 l e).trans r1, r2.mono h⟩
  | iter m since seen stepped =>
    obtain ⟨l, e, r0, mc, r1, r2⟩ := r
    refine ⟨l, h _ _ _ e, r0, mc, (hw 0 l e).trans r1, ?_⟩
    cases m with
    | none => exact r2
    | some mid => obtain ⟨lm, e1, e2⟩ := r2; exact ⟨lm, h _ _ _ e1, e2⟩
  | loop st pend t n ps asg body d =>
    obtain ⟨l, e, r, r1, r2, r3, r4, r5, r6, r7, ld, r8, r9⟩ := r
    exact ⟨l, h _ _ _ e, r, (hw 0 l e).trans r1, r2, r3, r4, r5, r6, r7.mono h, ld, h _ _ _ r8, r9⟩
  | dfr taken =>
    obtain ⟨l, e, r1⟩ := r
    exact ⟨l, h _ _ _ e, (hw 0 l e).trans r1⟩
  | gone =>
    obtain ⟨g, l, e⟩ := r
    exact ⟨g, l, h _ _ _ e⟩
  | set ks =>
    obtain ⟨l, e, es, clock, cs, r1, r2, r3⟩ := r
    exact ⟨l, h _ _ _ e, es, clock, cs, (hw 0 l e).trans r1, r2.mono h, r3⟩

/-! ### States -/
abbrev Look := Nat → Option AObj
structure HR (E : Env) (B : Nat) (β : Map) (look : Look) (w : World) : Prop where
  obj : ∀ id o, look id = some o → ObjR β w id o
  own : ∀ id o g l, look id = some o → β id g = some l → B ≤ l.b ∧ l.b < w.heap.size
  inj : ∀ id o id' o' g g' l l', look id = some o → look id' = some o' → β id g = some l → β id' g' = some l' → l.b = l'.b → id = id'
  gl : ∀ g cs, E.gl.get g = some cs → g < B ∧ ∀ (i : Nat) v, cs[i]? = some v → w.cell? ⟨g, i, none⟩ = some v
  size : B ≤ w.heap.size
  fz : ∀ b o, β.gl b = some o → w.heap[b]? = some o ∧ ∀ id ob g l, look id = some ob → ob ≠ .gone → β id g = some l → l.b ≠ b

/-- What steps may turn: blocks of objects that are seen, and new ones; new places are new blocks, or generations of objects that are seen. -/
structure Step (β β' : Map) (look : Look) (lo hi : Nat) (w w' : World) : Prop where
  sub : Sub β β'
  new : ∀ id g l, β' id g = some l → β id g = some l ∨ (lo ≤ id ∧ id < hi ∧ w.heap.size ≤ l.b) ∨
    ∃ o, look id = some o ∧ (w.heap.size ≤ l.b ∨ ∃ g0 l0, β id g0 = some l0 ∧ l0.b = l.b)
  os : w'.os = w.os
  tape : w'.tape = w.tape
  output : w'.output = w.output
  size : w.heap.size ≤ w'.heap.size
  keep : ∀ b, b < w.heap.size → (∀ id o g l, look id = some o → β id g = some l → l.b ≠ b) → w'.heap[b]? = w.heap[b]?
  fz : ∀ b o, β'.gl b = some o → β.gl b = some o ∨ w.heap.size ≤ b ∨ ∃ id ob g l, look id = some ob ∧ β id g = some l ∧ l.b = b

theorem Step.refl (β : Map) (look : Look) (lo : Nat) (w : World) : Step β β look lo lo w w :=
  ⟨Sub.refl _, fun _ _ _ h => .inl h, rfl, rfl, rfl, Nat.le_refl _, fun _ _ _ => rfl, fun _ _ h => .inl h⟩
def Fresh (β : Map) (lo hi : Nat) : Prop := ∀ id g, lo ≤ id → id < hi → β id g = none

theorem Step.trans {β β1 β2 : Map} {look look1 : Look} {lo mid hi : Nat} {w w1 w2 : World} (h1 : Step β β1 look lo mid w w1) (h2 : Step β1 β2 look1 mid hi w1 w2)
    (hlm : lo ≤ mid) (hmh : mid ≤ hi) (hf : Fresh β lo hi) (hdom : ∀ id o, look1 id = some o → (∃ o', look id = some o') ∨ (lo ≤ id ∧ id < mid)) : Step β β2 look lo hi w w2 where
  sub := h1.sub.trans h2.sub
  new := by
    intro id g l h
    rcases h2.new id g l h with h | ⟨a, b, c⟩ | ⟨o, ho, h⟩
    · rcases h1.new id g l h with h | ⟨a, b, c⟩ | h
      · exact .inl h
      · exact .inr (.inl ⟨a, by omega, c⟩)
      · exact .inr (.inr h)
    · exact .inr (.inl ⟨by omega, b, Nat.le_trans h1.size c⟩)
    · rcases hdom id o ho with ⟨o', ho'⟩ | ⟨a, b⟩
      · refine .inr (.inr ⟨o', ho', ?_⟩)
        rcases h with h | ⟨g0, l0, e0, eb⟩
        · exact .inl (Nat.le_trans h1.size h)
        · rcases h1.new id g0 l0 e0 with h | ⟨_, _, c⟩ | ⟨_, _, h⟩
          · exact .inr ⟨g0, l0, h, eb⟩
          · exact .inl (eb ▸ c)
          · rcases h with h | ⟨g1, l1, e1, eb1⟩
            · exact .inl (eb ▸ h)
            · exact .inr ⟨g1, l1, e1, eb1.trans eb⟩
      · refine .inr (.inl ⟨a, by omega, ?_⟩)
        rcases h with h | ⟨g0, l0, e0, eb⟩
        · exact Nat.le_trans h1.size h
        · rcases h1.new id g0 l0 e0 with h | ⟨_, _, c⟩ | ⟨_, _, h⟩
          · rw [hf id g0 a (by omega)] at h; simp at h
          · exact eb ▸ c
          · rcases h with h | ⟨g1, l1, e1, eb1⟩
            · exact eb ▸ h
            · rw [hf id g1 a (by omega)] at e1; simp at e1
  os := h2.os.trans h1.os
  tape := h2.tape.trans h1.tape
  output := h2.output.trans h1.output
  size := Nat.le_trans h1.size h2.size
  keep := by
    intro b hb hno
    rw [h2.keep b (Nat.lt_of_lt_of_le hb h1.size) ?_, h1.keep b hb hno]
    intro id o g l ho he eb
    rcases h1.new id g l he with h | ⟨_, _, c⟩ | ⟨o', ho', h⟩
    · rcases hdom id o ho with ⟨o', ho'⟩ | ⟨a, b'⟩
      · exact hno id o' g l ho' h eb
      · rw [hf id g a (by omega)] at h; simp at h
    · omega
    · rcases h with h | ⟨g0, l0, e0, eb0⟩
      · omega
      · exact hno id o' g0 l0 ho' e0 (eb0.trans eb)
  fz := by
    intro b o h
    rcases h2.fz b o h with h | h | ⟨id, ob, g, l, ho, he, eb⟩
    · exact h1.fz b o h
    · exact .inr (.inl (Nat.le_trans h1.size h))
    · rcases h1.new id g l he with h | ⟨_, _, c⟩ | ⟨o', ho', h⟩
      · rcases hdom id ob ho with ⟨o', ho'⟩ | ⟨a, b'⟩
        · exact .inr (.inr ⟨id, o', g, l, ho', h, eb⟩)
        · rw [hf id g a (by omega)] at h; simp at h
      · exact .inr (.inl (eb ▸ c))
      · rcases h with h | ⟨g0, l0, e0, eb0⟩
        · exact .inr (.inl (eb ▸ h))
        · exact .inr (.inr ⟨id, o', g0, l0, ho', e0, eb0.trans eb⟩)

theorem Fresh.after {β β1 : Map} {look : Look} {lo mid hi : Nat} {w w1 : World} (hf : Fresh β lo hi) (h1 : Step β β1 look lo mid w w1) (hlm : lo ≤ mid)
    (hl : ∀ id o, look id = some o → id < lo) : Fresh β1 mid hi := by
  intro id g a b
  cases h : β1 id g with
  | none => rfl
  | some l =>
    rcases h1.new id g l h with h | ⟨_, c, _⟩ | ⟨o, ho, _⟩
    · rw [hf id g (by omega) b] at h; simp at h
    · omega
    · have := hl id o ho; omega
theorem Fresh.mono {β : Map} {lo hi lo' hi' : Nat} (h : Fresh β lo hi) (h1 : lo ≤ lo') (h2 : hi' ≤ hi) : Fresh β lo' hi' := fun id g a b => h id g (by omega) (by omega)
end Go.Vai

/-
  The tables; a change at one object; reading and writing cells.
-/
namespace Go.Vai
open Go

/-! ### The tables -/
def descA : TypeDesc → ADesc
  | .bool => .bool
  | .int k => .int k
  | .string => .string
  | .pointer e => .pointer e
  | .slice e => .slice e
  | .array n e => .array n e
  | .map k e => .map k e
  | .struct fs => .struct (fs.toList.map fun f => (f.offset, f.type, f.name != "_"))
  | .interface _ => .iface
  | .func .. => .func
  | _ => .other
def aggA : TypeDesc → Bool
  | .struct _ | .array _ _ => true
  | _ => false
structure TyOk (P : Program) (t : TypeId) (ty : ATy) : Prop where
  info : ∃ i z, P.info? t = some i ∧ i.size = ty.size ∧ i.bytes = ty.bytes ∧ i.zero = some z ∧ z.cells = ty.zero.toArray ∧ ty.zero.length = ty.size
  und : ∃ d, P.underlying t = some d ∧ ty.d = descA d ∧ ty.agg = aggA d
  agg : ty.agg = true → ∃ i, P.info? t = some i ∧ i.zero = some (.agg ty.zero.toArray)
  one : ty.agg = false → ∃ i x, P.info? t = some i ∧ i.zero = some x ∧ ty.zero = [x]
  cells : ty.zero.all (·.oneCell') = true
  eq : ty.eq = true → P.stoodInHeld t = false ∧ P.eqGuardType P.depth t = false
structure EnvOk (E : Env) (P : Program) : Prop where
  ty : ∀ t ty, E.ty.get t = some ty → TyOk P t ty
  fn : ∀ f fn, E.fn.get f = some fn → P.funcs[f]? = some fn ∧ fn.name ≠ "runtime.NumGoroutine"
  mixed : P.follows .mixedOrders = true

section
variable {P : Program} {w : World}
theorem run_sizeOf {t : TypeId} {i : TypeInfo} (h : P.info? t = some i) : (sizeOf t).run P w = .ok i.size w := by simp [sizeOf, typeInfo, program, h, Sem.run]
theorem run_typeInfo {t : TypeId} {i : TypeInfo} (h : P.info? t = some i) : (typeInfo t).run P w = .ok i w := by simp [typeInfo, program, h, Sem.run]
theorem run_zero {t : TypeId} {i : TypeInfo} {z : Value} (h : P.info? t = some i) (hz : i.zero = some z) : (zeroValue t).run P w = .ok z w := by simp [zeroValue, run_typeInfo h, hz]
theorem run_isAgg {t : TypeId} {d : TypeDesc} (h : P.underlying t = some d) : (isAgg t).run P w = .ok (aggA d) w := by
  simp only [isAgg, Sem.run_bind, run_underlying h, Result.andThen_ok]
  cases d <;> simp [aggA]
theorem TyOk.size {t : TypeId} {ty : ATy} (h : TyOk P t ty) : (sizeOf t).run P w = .ok ty.size w := by
  obtain ⟨i, z, hi, hs, _⟩ := h.info
  rw [run_sizeOf hi, hs]
theorem TyOk.isAgg {t : TypeId} {ty : ATy} (h : TyOk P t ty) : (Go.isAgg t).run P w = .ok ty.agg w := by
  obtain ⟨d, hd, _, ha⟩ := h.und
  rw [run_isAgg hd, ha]
theorem TyOk.zero {t : TypeId} {ty : ATy} (h : TyOk P t ty) : ∃ z, (zeroValue t).run P w = .ok z w ∧ z.cells = ty.zero.toArray := by
  obtain ⟨i, z, hi, _, _, hz, hc, _⟩ := h.info
  exact ⟨z, run_zero hi hz, hc⟩
theorem TyOk.slice {t e : TypeId} {ty : ATy} (h : TyOk P t ty) (hd : ty.d = .slice e) : P.underlying t = some (.slice e) := by
  obtain ⟨d, hu, h1, _⟩ := h.und
  rw [hd] at h1
  cases d <;> simp [descA] at h1
  subst h1; exact hu
theorem TyOk.array {t e : TypeId} {n : Nat} {ty : ATy} (h : TyOk P t ty) (hd : ty.d = .array n e) : P.underlying t = some (.array n e) := by
  obtain ⟨d, hu, h1, _⟩ := h.und
  rw [hd] at h1
  cases d <;> simp [descA] at h1
  obtain ⟨rfl, rfl⟩ := h1; exact hu
theorem TyOk.map {t k e : TypeId} {ty : ATy} (h : TyOk P t ty) (hd : ty.d = .map k e) : P.underlying t = some (.map k e) := by
  obtain ⟨d, hu, h1, _⟩ := h.und
  rw [hd] at h1
  cases d <;> simp [descA] at h1
  obtain ⟨rfl, rfl⟩ := h1; exact hu
theorem TyOk.pointer {t e : TypeId} {ty : ATy} (h : TyOk P t ty) (hd : ty.d = .pointer e) : P.underlying t = some (.pointer e) := by
  obtain ⟨d, hu, h1, _⟩ := h.und
  rw [hd] at h1
  cases d <;> simp [descA] at h1
  subst h1; exact hu
theorem TyOk.int {t : TypeId} {k : IntKind} {ty : ATy} (h : TyOk P t ty) (hd : ty.d = .int k) : P.underlying t = some (.int k) := by
  obtain ⟨d, hu, h1, _⟩ := h.und
  rw [hd] at h1
  cases d <;> simp [descA] at h1
  subst h1; exact hu
theorem TyOk.string {t : TypeId} {ty : ATy} (h : TyOk P t ty) (hd : ty.d = .string) : P.underlying t = some .string := by
  obtain ⟨d, hu, h1, _⟩ := h.und
  rw [hd] at h1
  cases d <;> simp [descA] at h1
  exact hu
theorem TyOk.bool {t : TypeId} {ty : ATy} (h : TyOk P t ty) (hd : ty.d = .bool) : P.underlying t = some .bool := by
  obtain ⟨d, hu, h1, _⟩ := h.und
  rw [hd] at h1
  cases d <;> simp [descA] at h1
  exact hu
theorem TyOk.func {t : TypeId} {ty : ATy} (h : TyOk P t ty) (hd : ty.d = .func) : ∃ a b c, P.underlying t = some (.func a b c) := by
  obtain ⟨d, hu, h1, _⟩ := h.und
  rw [hd] at h1
  cases d <;> simp [descA] at h1
  exact ⟨_, _, _, hu⟩
theorem TyOk.struct {t : TypeId} {fs : List (Nat × TypeId × Bool)} {ty : ATy} (h : TyOk P t ty) (hd : ty.d = .struct fs) :
    ∃ fields : Array Field, P.underlying t = some (.struct fields) ∧ fs = fields.toList.map fun f => (f.offset, f.type, f.name != "_") := by
  obtain ⟨d, hu, h1, _⟩ := h.und
  rw [hd] at h1
  cases d <;> simp [descA] at h1
  exact ⟨_, hu, h1⟩
end

/-! ### A change at one object -/
def upd (look : Look) (id : Nat) (o : AObj) : Look := fun i => if i = id then some o else look i
theorem HR.change {E : Env} {B : Nat} {β β' : Map} {look : Look} {w w' : World} (h : HR E B β look w) (id : Nat) (o : AObj) (lo hi : Nat)
    (sub : Sub β β')
    (new : ∀ i g l, β' i g = some l → β i g = some l ∨ (i = id ∧ ((w.heap.size ≤ l.b ∧ l.b < w'.heap.size) ∨ ∃ g0 l0, β id g0 = some l0 ∧ l0.b = l.b)))
    (hid : (∃ o0, look id = some o0 ∧ o0 ≠ .gone) ∨ ((∀ g, β id g = none) ∧ lo ≤ id ∧ id < hi))
    (hos : w'.os = w.os) (htape : w'.tape = w.tape) (hout : w'.output = w.output) (hsize : w.heap.size ≤ w'.heap.size)
    (keep : ∀ b, b < w.heap.size → (∀ g l, β id g = some l → l.b ≠ b) → w'.heap[b]? = w.heap[b]?)
    (ho : ObjR β' w' id o) (hgl : β'.gl = β.gl := by rfl) : HR E B β' (upd look id o) w' ∧ Step β β' look lo hi w w' := by
  have ownid : ∀ g l, β id g = some l → B ≤ l.b ∧ l.b < w.heap.size := by
    intro g l e
    rcases hid with ⟨o0, h0, hg0⟩ | ⟨h0, _⟩
    · exact h.own id o0 g l h0 e
    · rw [h0 g] at e; simp at e
  have ownnew : ∀ g l, β' id g = some l → B ≤ l.b ∧ l.b < w'.heap.size := by
    intro g l e
    rcases new id g l e with e | ⟨_, ⟨a, b⟩ | ⟨g0, l0, e0, eb⟩⟩
    · exact ⟨(ownid g l e).1, Nat.lt_of_lt_of_le (ownid g l e).2 hsize⟩
    · exact ⟨Nat.le_trans h.size a, b⟩
    · have := ownid g0 l0 e0; rw [eb] at this; exact ⟨this.1, Nat.lt_of_lt_of_le this.2 hsize⟩
  have other : ∀ i g l, i ≠ id → β' i g = some l → β i g = some l := by
    intro i g l hi' e
    rcases new i g l e with e | ⟨e, _⟩
    · exact e
    · exact absurd e hi'
  -- a place of another object is none of this one's
  have apart : ∀ i o' g l g' l', i ≠ id → look i = some o' → β i g = some l → β' id g' = some l' → l.b ≠ l'.b := by
    intro i o' g l g' l' hi' ho' e e' eb
    rcases new id g' l' e' with e' | ⟨_, ⟨a, _⟩ | ⟨g0, l0, e0, eb0⟩⟩
    · rcases hid with ⟨o0, h0, hg0⟩ | ⟨h0, _⟩
      · exact hi' (h.inj i o' id o0 g g' l l' ho' h0 e e' eb)
      · rw [h0 g'] at e'; simp at e'
    · have := (h.own i o' g l ho' e).2; omega
    · rcases hid with ⟨o0, h0, hg0⟩ | ⟨h0, _⟩
      · exact hi' (h.inj i o' id o0 g g0 l l0 ho' h0 e e0 (eb.trans eb0.symm))
      · rw [h0 g0] at e0; simp at e0
  have hfz : ∀ b ob, β.gl b = some ob → ∀ g l, β id g = some l → l.b ≠ b := by
    intro b ob hb g l e
    rcases hid with ⟨o0, h0, hg0⟩ | ⟨h0, _⟩
    · exact (h.fz b ob hb).2 id o0 g l h0 hg0 e
    · rw [h0 g] at e; simp at e
  refine ⟨⟨?_, ?_, ?_, ?_, Nat.le_trans h.size hsize, ?_⟩, ⟨sub, ?_, hos, htape, hout, hsize, ?_, fun b o hb => .inl (by rw [hgl] at hb; exact hb)⟩⟩
  · intro i o' hi'
    unfold upd at hi'
    split at hi'
    · rename_i e; subst e; simp at hi'; subst hi'; exact ho
    · rename_i hne
      refine (h.obj i o' hi').mono sub ?_ ?_
      · intro g hg
        cases e : β' i g with
        | none => rfl
        | some l => rw [other i g l hne e] at hg; simp at hg
      · intro g l e
        exact keep l.b (h.own i o' g l hi' e).2 (fun g' l' e' eb => apart i o' g l g' l' hne hi' e (sub _ _ _ e') eb.symm)
  · intro i o' g l hi' e
    unfold upd at hi'
    split at hi'
    · rename_i e'; subst e'; exact ownnew g l e
    · rename_i hne
      have := h.own i o' g l hi' (other i g l hne e)
      exact ⟨this.1, Nat.lt_of_lt_of_le this.2 hsize⟩
  · intro i oi j oj g g' l l' hi' hj e e' eb
    unfold upd at hi' hj
    split at hi'
    · rename_i ei
      split at hj
      · rename_i ej; exact ei.trans ej.symm
      · rename_i hne
        subst ei
        exact absurd eb.symm (apart j oj g' l' g l hne hj (other j g' l' hne e') e)
    · rename_i hne
      split at hj
      · rename_i ej; subst ej
        exact absurd eb (apart i oi g l g' l' hne hi' (other i g l hne e) e')
      · rename_i hne'
        exact h.inj i oi j oj g g' l l' hi' hj (other i g l hne e) (other j g' l' hne' e') eb
  · intro g cs hg
    obtain ⟨hB, hc⟩ := h.gl g cs hg
    refine ⟨hB, fun i v hv => ?_⟩
    rw [World.cell?_of_block (w := w) (keep g (Nat.lt_of_lt_of_le hB h.size) (fun g' l' e' eb => by have := (ownid g' l' e').1; omega))]
    exact hc i v hv
  · intro b ob hb
    rw [hgl] at hb
    obtain ⟨h1, h2⟩ := h.fz b ob hb
    have hlt : b < w.heap.size := (Array.getElem?_eq_some_iff.1 h1).1
    refine ⟨by rw [keep b hlt (hfz b ob hb)]; exact h1, ?_⟩
    intro i o' g l hi' hng e
    unfold upd at hi'
    split at hi'
    · rename_i ei
      subst ei
      rcases new i g l e with e | ⟨_, ⟨a, _⟩ | ⟨g0, l0, e0, eb⟩⟩
      · exact hfz b ob hb g l e
      · omega
      · exact fun eq => hfz b ob hb g0 l0 e0 (eb.trans eq)
    · rename_i hne
      exact h2 i o' g l hi' hng (other i g l hne e)
  · intro i g l e
    rcases new i g l e with e | ⟨rfl, r⟩
    · exact .inl e
    · rcases hid with ⟨o0, h0, hg0⟩ | ⟨h0, ha, hb⟩
      · refine .inr (.inr ⟨o0, h0, ?_⟩)
        rcases r with ⟨a, _⟩ | r
        · exact .inl a
        · exact .inr r
      · refine .inr (.inl ⟨ha, hb, ?_⟩)
        rcases r with ⟨a, _⟩ | ⟨g0, l0, e0, _⟩
        · exact a
        · rw [h0 g0] at e0; simp at e0
  · intro b hb hno
    refine keep b hb ?_
    intro g l e
    rcases hid with ⟨o0, h0, hg0⟩ | ⟨h0, _⟩
    · exact hno id o0 g l h0 e
    · rw [h0 g] at e; simp at e

/-! ### States, traces -/
structure WF (σ : St) : Prop where
  none : ∀ id, σ.next ≤ id → σ.h.get id = Option.none
  vis : ∀ id, σ.next ≤ id → hidden id σ.hid = false
structure Tr (σ σ' : St) : Prop where
  next : σ.next ≤ σ'.next
  hid : σ'.hid = σ.hid
  log : ∃ l, σ'.log = l ++ σ.log ∧ (∀ id, id < σ.next → id ∉ l → σ'.h.get id = σ.h.get id) ∧ ∀ id ∈ l, id < σ.next → hidden id σ.hid = false
  dom : ∀ id, id < σ.next → (σ'.h.get id = Option.none ↔ σ.h.get id = Option.none)
  wf : WF σ → WF σ'
theorem Tr.refl (σ : St) : Tr σ σ := ⟨Nat.le_refl _, rfl, ⟨[], rfl, fun _ _ _ => rfl, fun _ h => by cases h⟩, fun _ _ => Iff.rfl, id⟩
theorem Tr.trans {a b c : St} (h : Tr a b) (k : Tr b c) : Tr a c := by
  obtain ⟨l1, e1, s1, v1⟩ := h.log
  obtain ⟨l2, e2, s2, v2⟩ := k.log
  refine ⟨Nat.le_trans h.next k.next, k.hid.trans h.hid, ⟨l2 ++ l1, by rw [e2, e1, List.append_assoc], ?_, ?_⟩, ?_, fun x => k.wf (h.wf x)⟩
  · intro id hid hn
    simp only [List.mem_append, not_or] at hn
    rw [s2 id (Nat.lt_of_lt_of_le hid h.next) hn.1, s1 id hid hn.2]
  · intro id hm hid
    rcases List.mem_append.1 hm with hm | hm
    · rw [← h.hid]; exact v2 id hm (Nat.lt_of_lt_of_le hid h.next)
    · exact v1 id hm hid
  · intro id hid
    rw [k.dom id (Nat.lt_of_lt_of_le hid h.next), h.dom id hid]
theorem look_some {σ : St} {id : Nat} {o : AObj} (h : σ.look id = some o) : hidden id σ.hid = false ∧ σ.h.get id = some o := by
  unfold St.look at h
  cases e : hidden id σ.hid with
  | true => simp [e] at h
  | false => exact ⟨rfl, by simpa [e] using h⟩
theorem look_lt {σ : St} (hw : WF σ) {id : Nat} {o : AObj} (h : σ.look id = some o) : id < σ.next := by
  rcases Nat.lt_or_ge id σ.next with h' | h'
  · exact h'
  · have := (look_some h).2; rw [hw.none id h'] at this; simp at this
theorem look_put {σ : St} {id : Nat} (o : AObj) (hv : hidden id σ.hid = false) : (σ.put id o).look = upd σ.look id o := by
  funext i
  rw [St.put_eq]; unfold St.look upd
  simp only [T.get_set']
  by_cases e : i = id
  · subst e; simp [hv]
  · simp [e]
theorem look_new {σ : St} (hw : WF σ) (o : AObj) : (σ.new o).look = upd σ.look σ.next o := by
  funext i
  rw [St.new_eq]; unfold St.look upd
  simp only [T.get_set']
  by_cases e : i = σ.next
  · subst e; simp [hw.vis _ (Nat.le_refl _)]
  · simp [e]
theorem Tr.put {σ : St} {id : Nat} {o0 : AObj} (h : σ.look id = some o0) (o : AObj) : Tr σ (σ.put id o) := by
  obtain ⟨hv, hg⟩ := look_some h
  refine ⟨Nat.le_refl _, rfl, ⟨[id], rfl, ?_, ?_⟩, ?_, ?_⟩
  · intro i _ hn
    simp only [St.put_eq, T.get_set']
    rw [if_neg (by simpa using hn)]
  · intro i hm _
    simp at hm; subst hm; exact hv
  · intro i _
    simp only [St.put_eq, T.get_set']
    split
    · rename_i e; subst e; simp [hg]
    · rfl
  · intro hw
    have := look_lt hw h
    refine ⟨fun i hi => ?_, hw.vis⟩
    simp only [St.put_eq, T.get_set']
    have hi' : σ.next ≤ i := hi
    rw [if_neg (by omega)]
    exact hw.none i hi'
theorem Tr.new (σ : St) (o : AObj) : Tr σ (σ.new o) := by
  refine ⟨Nat.le_succ _, rfl, ⟨[], rfl, ?_, fun _ h => by cases h⟩, ?_, ?_⟩
  · intro i hi _
    simp only [St.new_eq, T.get_set']
    rw [if_neg (by omega)]
  · intro i hi
    simp only [St.new_eq, T.get_set']
    rw [if_neg (by omega)]
  · intro hw
    refine ⟨fun i hi => ?_, fun i hi => hw.vis i (by have : σ.next + 1 ≤ i := hi; omega)⟩
    have hi' : σ.next + 1 ≤ i := hi
    simp only [St.new_eq, T.get_set']
    rw [if_neg (by omega)]
    exact hw.none i (by omega)
theorem Tr.lookdom {σ σ' : St} (h : Tr σ σ') : ∀ id o, σ'.look id = some o → (∃ o', σ.look id = some o') ∨ (σ.next ≤ id ∧ (WF σ → id < σ'.next)) := by
  intro id o ho
  obtain ⟨hv, hg⟩ := look_some ho
  rcases Nat.lt_or_ge id σ.next with hlt | hge
  · left
    have hn : σ.h.get id ≠ Option.none := fun e => by rw [(h.dom id hlt).2 e] at hg; simp at hg
    cases e : σ.h.get id with
    | none => exact absurd e hn
    | some o' => exact ⟨o', by unfold St.look; rw [← h.hid, hv, e]; rfl⟩
  · exact .inr ⟨hge, fun hw => look_lt (h.wf hw) ho⟩
end Go.Vai

/-
  The operations that look at no object: each yields, in every world, what the abstract one yields.
-/
namespace Go.Vai
open Go

/-- In every world the model's operation yields a value that stands for the abstract one, and turns nothing. -/
def Pure1 (P : Program) (s : Sem Value) (β : Map) (v : AV) : Prop := ∃ u, VR β v u ∧ ∀ w, s.run P w = .ok u w

theorem condT {α : Type} {b : Bool} {x : Option α} {y : α} (h : cond b x none = some y) : b = true ∧ x = some y := by
  cases b with
  | false => simp at h
  | true => exact ⟨rfl, h⟩
theorem cs_get {β : Map} {vs : List AV} {cs : Array Value} (h : VRs β vs cs.toList) {i : Nat} {v : AV} (e : vs[i]? = some v) : ∃ u, cs[i]? = some u ∧ VR β v u := by
  obtain ⟨u, hu, r⟩ := h.get i v e
  exact ⟨u, by simpa using hu, r⟩
theorem extract_toList (cs : Array Value) (a k : Nat) : (cs.extract a (a + k)).toList = (cs.toList.drop a).take k := by
  simp [Array.toList_extract]
theorem parts?_some {l r : List AV} {off k : Nat} (h : parts? l off k = some r) : off + k ≤ l.length ∧ r = (l.drop off).take k := by
  unfold parts? at h
  obtain ⟨h1, h2⟩ := condT h
  exact ⟨bleT h1, by simpa using h2.symm⟩
theorem part_ok {E : Env} {P : Program} (hE : EnvOk E P) {β : Map} {t : TypeId} {vs : List AV} {cs : Array Value} {off : Nat} {v : AV} (h : part? E t vs off = some v) (hr : VRs β vs cs.toList) :
    Pure1 P (part t cs off) β v := by
  unfold part? at h
  cases ht : E.ty.get t with
  | none => simp [ht] at h
  | some ty =>
    simp only [ht] at h
    have hT := hE.ty t ty ht
    cases ha : ty.agg with
    | true =>
      simp only [ha, cond_true, Option.map_eq_some_iff] at h
      obtain ⟨l, hl, rfl⟩ := h
      obtain ⟨_, rfl⟩ := parts?_some hl
      refine ⟨.agg (cs.extract off (off + ty.size)), ?_, fun w => ?_⟩
      · simp only [VR]
        refine ⟨_, rfl, ?_⟩
        rw [extract_toList]
        exact (hr.drop _).take _
      · simp [part, hT.isAgg, hT.size, ha]
    | false =>
      simp only [ha, cond_false] at h
      obtain ⟨u, hu, r⟩ := cs_get hr h
      exact ⟨u, r, fun w => by simp [part, hT.isAgg, ha, hu]⟩

/-! numbers -/
theorem nat?_int {v : AV} {n : Nat} (h : nat? v = some n) : ∃ k, v = .sc (.int k n) := by
  unfold nat? at h
  split at h
  · simp at h; subst h; exact ⟨_, rfl⟩
  · simp at h
theorem VR.nat {β : Map} {v : AV} {u : Value} {n : Nat} (h : nat? v = some n) (hv : VR β v u) : ∃ k, u = .int k n := by
  obtain ⟨k, rfl⟩ := nat?_int h
  exact ⟨k, by simpa [VR] using hv⟩

/-! fields, indexes -/
theorem fieldAddr_ok {E : Env} {P : Program} (hE : EnvOk E P) {β : Map} {t : TypeId} {a : AV} {f : Nat} {v : AV} {u : Value} (h : aFieldAddr E t a f = some v) (hu : VR β a u) :
    Pure1 P (Instr.fieldAt t u f) β v := by
  unfold aFieldAddr at h
  split at h
  · rename_i id g off k
    split at h
    · rename_i fs _ _ _ _ _ ht
      split at h
      · rename_i fo ft _ hf
        split at h
        · rename_i fty hft
          obtain ⟨h1, h2⟩ := condT h
          simp only [Bool.and_eq_true] at h1
          have hs := bltT h1.1
          have hk := bleT h1.2
          simp at h2
          subst h2
          simp only [VR] at hu
          obtain ⟨l, hl, hn, hnz, rfl⟩ := hu
          have hT := hE.ty t _ ht
          have hF := hE.ty ft _ hft
          obtain ⟨fields, hd, hfs⟩ := hT.struct rfl
          have hfd : ∃ fd : Field, fields[f]? = some fd ∧ fd.offset = fo ∧ fd.type = ft := by
            rw [hfs] at hf
            simp only [List.getElem?_map, Array.getElem?_toList, Option.map_eq_some_iff, Prod.mk.injEq] at hf
            obtain ⟨fd, e, e1, e2, _⟩ := hf
            exact ⟨fd, e, e1, e2⟩
          obtain ⟨fd, e, rfl, rfl⟩ := hfd
          refine ⟨.pointer (some ⟨l.b, l.s + (off + fd.offset), none⟩), ?_, fun w => ?_⟩
          · simp only [VR]
            exact ⟨l, hl, by omega, hnz, rfl⟩
          · have h0 : fty.size ≠ 0 := by omega
            simp [Instr.fieldAt, run_underlying hd, e, Instr.sureAddr, fieldPlace, hF.size, h0, Addr.add_lit, Nat.add_assoc]
        · simp at h
      · simp at h
    · simp at h
  · rename_i cells
    split at h
    · rename_i fs _ _ _ _ _ ht
      split at h
      · rename_i fo ft _ hf
        split at h
        · rename_i fty hft
          obtain ⟨h1, h2⟩ := condT h
          have hs := bltT h1
          simp only [Option.map_eq_some_iff] at h2
          obtain ⟨lst, hp, rfl⟩ := h2
          obtain ⟨hp1, rfl⟩ := parts?_some hp
          simp only [VR] at hu
          obtain ⟨hc0, b, o, cs, el, fz, rfl, hgl, hsz, hr⟩ := hu
          have hT := hE.ty t _ ht
          have hF := hE.ty ft _ hft
          obtain ⟨fields, hd, hfs⟩ := hT.struct rfl
          have hfd : ∃ fd : Field, fields[f]? = some fd ∧ fd.offset = fo ∧ fd.type = ft := by
            rw [hfs] at hf
            simp only [List.getElem?_map, Array.getElem?_toList, Option.map_eq_some_iff, Prod.mk.injEq] at hf
            obtain ⟨fd, e, e1, e2, _⟩ := hf
            exact ⟨fd, e, e1, e2⟩
          obtain ⟨fd, e, rfl, rfl⟩ := hfd
          have hl : ((cells.drop fd.offset).take fty.size).length = fty.size := by simp; omega
          refine ⟨.pointer (some ⟨b, o + fd.offset, none⟩), ?_, fun w => ?_⟩
          · simp only [VR]
            refine ⟨by omega, b, o + fd.offset, cs, el, fz, rfl, hgl, by omega, ?_⟩
            rw [hl]
            exact hr.part _ _ (by omega)
          · have h0 : fty.size ≠ 0 := by omega
            simp [Instr.fieldAt, run_underlying hd, e, Instr.sureAddr, fieldPlace, hF.size, h0, Addr.add_lit]
        · simp at h
      · simp at h
    · simp at h
  · simp at h
theorem field_ok {E : Env} {P : Program} (hE : EnvOk E P) {β : Map} {t : TypeId} {a : AV} {f : Nat} {v : AV} {u : Value} (h : aField E t a f = some v) (hu : VR β a u) :
    Pure1 P (Instr.field t u f) β v := by
  unfold aField at h
  split at h
  · rename_i fs _ _ _ _ _ ht
    split at h
    · rename_i fo ft _ hf
      have hT := hE.ty t _ ht
      obtain ⟨fields, hd, hfs⟩ := hT.struct rfl
      have hfd : ∃ fd : Field, fields[f]? = some fd ∧ fd.offset = fo ∧ fd.type = ft := by
        rw [hfs] at hf
        simp only [List.getElem?_map, Array.getElem?_toList, Option.map_eq_some_iff, Prod.mk.injEq] at hf
        obtain ⟨fd, e, e1, e2, _⟩ := hf
        exact ⟨fd, e, e1, e2⟩
      obtain ⟨fd, e, rfl, rfl⟩ := hfd
      have key : ∀ (vs : List AV) (cs : Array Value), VRs β vs cs.toList → part? E fd.type vs fd.offset = some v → Pure1 P (Instr.field t (.agg cs) f) β v := by
        intro vs cs hr hp
        obtain ⟨u, r, hrun⟩ := part_ok hE hp hr
        exact ⟨u, r, fun w => by simp [Instr.field, run_underlying hd, e, asAgg, hrun]⟩
      split at h
      · simp only [VR] at hu
        obtain ⟨cs, rfl, hr⟩ := hu
        exact key _ cs hr h
      · rename_i cs
        simp only [VR] at hu
        subst hu
        exact key _ cs (VRs.sc _) h
      · simp at h
    · simp at h
  · simp at h
theorem indexAddr_ok {E : Env} {P : Program} (hE : EnvOk E P) {β : Map} {t : TypeId} {x ix v : AV} {u ui : Value} (h : aIndexAddr E t x ix = some v) (hu : VR β x u) (hi : VR β ix ui) :
    Pure1 P (Instr.indexAt t u ui) β v := by
  unfold aIndexAddr at h
  split at h
  · rename_i i _ _ _ _ e _ hn ht
    obtain ⟨k, rfl⟩ := hi.nat hn
    have hT := hE.ty t _ ht
    have hd := hT.slice rfl
    split at h
    · rename_i id g off len es mc ety he
      obtain ⟨h1, h2⟩ := condT h
      simp only [Bool.and_eq_true] at h1
      have hlt := bltT h1.1
      have hes := beqT h1.2
      simp at h2; subst h2
      simp only [VR] at hu
      obtain ⟨l, o, c, hl, rfl, hmc, hlen, hn', hnz, hep, hoc⟩ := hu
      have hee := hE.ty e _ he
      have ho : o = l.s + off := by
        rcases hoc with h | h
        · omega
        · exact h.1
      refine ⟨.pointer (some ⟨l.b, l.s + (off + i * es), none⟩), ?_, fun w => ?_⟩
      · simp only [VR]
        refine ⟨l, hl, ?_, hnz, rfl⟩
        have : (i + 1) * es ≤ mc * es := Nat.mul_le_mul_right _ (by omega)
        rw [Nat.add_mul] at this
        omega
      · subst ho
        have hi2 : (i : Int) < (len : Int) := by omega
        simp [Instr.indexAt, asIntOf, run_underlying hd, hlt, hee.size, Addr.add_lit, hes, Nat.add_assoc]
    · rename_i es len cells ety he
      obtain ⟨h1, h2⟩ := condT h
      simp only [Bool.and_eq_true] at h1
      have hlt := bltT h1.1
      have hes := beqT h1.2
      simp only [Option.map_eq_some_iff] at h2
      obtain ⟨lst, hp, rfl⟩ := h2
      obtain ⟨hp1, rfl⟩ := parts?_some hp
      simp only [VR] at hu
      obtain ⟨hep, hcl, p, c, rfl, hlc, _, r⟩ := hu
      rcases r with r | ⟨b, o, cs, el, fz, rfl, hgl, hsz, hr⟩
      · omega
      · have hee := hE.ty e _ he
        have hl : ((cells.drop (i * es)).take es).length = es := by simp; omega
        refine ⟨.pointer (some ⟨b, o + i * es, none⟩), ?_, fun w => ?_⟩
        · simp only [VR]
          refine ⟨by omega, b, o + i * es, cs, el, fz, rfl, hgl, by omega, ?_⟩
          rw [hl]
          exact hr.part _ _ (by omega)
        · have hi2 : (i : Int) < (len : Int) := by omega
          simp [Instr.indexAt, asIntOf, run_underlying hd, hlt, hee.size, Addr.add_lit, hes]
    · simp at h
  · rename_i i _ _ _ _ n e _ hn ht
    obtain ⟨k, rfl⟩ := hi.nat hn
    have hT := hE.ty t _ ht
    have hd := hT.array rfl
    split at h
    · rename_i id g off k ety he
      obtain ⟨h1, h2⟩ := condT h
      simp only [Bool.and_eq_true] at h1
      have hlt := bltT h1.1.1
      have hk := bleT h1.2
      simp at h2; subst h2
      simp only [VR] at hu
      obtain ⟨l, hl, hn', hnz, rfl⟩ := hu
      have hee := hE.ty e _ he
      refine ⟨.pointer (some ⟨l.b, l.s + (off + i * ety.size), none⟩), ?_, fun w => ?_⟩
      · simp only [VR]
        refine ⟨l, hl, ?_, hnz, rfl⟩
        rw [Nat.add_mul] at hk
        omega
      · simp [Instr.indexAt, asIntOf, run_underlying hd, Instr.sureAddr, hlt, hee.size, Addr.add_lit, Nat.add_assoc]
    · rename_i a ety he
      obtain ⟨h1, h2⟩ := condT h
      have hlt := bltT h1
      simp at h2; subst h2
      simp only [VR] at hu
      subst hu
      have hee := hE.ty e _ he
      refine ⟨.pointer (some (a.add (i * ety.size))), by simp [VR], fun w => ?_⟩
      simp [Instr.indexAt, asIntOf, run_underlying hd, Instr.sureAddr, hlt, hee.size]
    · simp at h
  · simp at h
theorem index_ok {E : Env} {P : Program} (hE : EnvOk E P) {β : Map} {t : TypeId} {x ix v : AV} {u ui : Value} (h : aIndex E t x ix = some v) (hu : VR β x u) (hi : VR β ix ui) :
    Pure1 P (Instr.index t u ui) β v := by
  unfold aIndex at h
  split at h
  · rename_i i _ _ _ _ _ hn ht
    obtain ⟨k, rfl⟩ := hi.nat hn
    have hT := hE.ty t _ ht
    have hd := hT.string rfl
    split at h
    · rename_i s
      simp only [VR] at hu
      subst hu
      simp only [Option.map_eq_some_iff] at h
      obtain ⟨b, hb, rfl⟩ := h
      refine ⟨.int .u8 b.toNat, by simp [VR], fun w => ?_⟩
      have hs : s[i]? = some b := by
        have : s.data[i]? = some b := by simpa using hb
        have hlt : i < s.data.size := (Array.getElem?_eq_some_iff.1 this).1
        have hv : s.data[i] = b := (Array.getElem?_eq_some_iff.1 this).2
        have hlt' : i < s.size := hlt
        rw [getElem?_pos s i hlt']
        exact congrArg some hv
      simp [Instr.index, asIntOf, run_underlying hd, hs]
    · simp at h
  · rename_i i _ _ _ _ n e _ hn ht
    obtain ⟨k, rfl⟩ := hi.nat hn
    have hT := hE.ty t _ ht
    have hd := hT.array rfl
    split at h
    · rename_i ety he
      have hee := hE.ty e _ he
      have key : ∀ (vs : List AV) (cs : Array Value), VRs β vs cs.toList → cond (Nat.blt i n) (part? E e vs (i * ety.size)) none = some v → Pure1 P (Instr.index t (.agg cs) (.int k i)) β v := by
        intro vs cs hr hp
        obtain ⟨h1, h2⟩ := condT hp
        have hlt := bltT h1
        obtain ⟨u, r, hrun⟩ := part_ok hE h2 hr
        exact ⟨u, r, fun w => by simp [Instr.index, asIntOf, run_underlying hd, hlt, hee.size, hrun]⟩
      split at h
      · simp only [VR] at hu
        obtain ⟨cs, rfl, hr⟩ := hu
        exact key _ cs hr h
      · rename_i cs
        simp only [VR] at hu
        subst hu
        exact key _ cs (VRs.sc _) h
      · simp at h
    · simp at h
  · simp at h

/-! arithmetic -/
theorem intBin_ok {P : Program} {op : BinOp} {k : IntKind} {a b : Int} {v : Value} (h : intBin op k a b = some v) (t : TypeId) (w : World) : (binOp op t (.int k a) (.int k b)).run P w = .ok v w := by
  cases op <;> simp only [intBin, Option.some.injEq, reduceCtorEq] at h <;> (try subst h) <;> try (simp [binOp, Op.intArith, Op.intCmp, Op.intBits]; done)
  · cases hb : (b == 0) with
    | true => simp [hb] at h
    | false =>
      simp only [hb, cond_false, Option.some.injEq] at h
      subst h
      have hb0 : ¬ b = 0 := by simpa using hb
      simp [binOp, Op.intDiv, hb0]
  · cases hb : (b == 0) with
    | true => simp [hb] at h
    | false =>
      simp only [hb, cond_false, Option.some.injEq] at h
      subst h
      have hb0 : ¬ b = 0 := by simpa using hb
      simp [binOp, Op.intDiv, hb0]
theorem un_ok {P : Program} {β : Map} {op : UnOp} {x v : AV} {u : Value} (h : aUn op x = some v) (hu : VR β x u) : Pure1 P (Op.unary op u) β v := by
  unfold aUn at h
  split at h
  · simp only [VR] at hu; subst hu
    rename_i b
    simp at h; subst h
    exact ⟨.bool (!b), by simp [VR], fun w => by simp [Op.unary]⟩
  · simp only [VR] at hu; subst hu
    rename_i k n
    simp at h; subst h
    exact ⟨.int k (k.wrap (0 - n)), by simp [VR], fun w => by simp [Op.unary, Op.intArith]⟩
  · simp at h
theorem convert_ok {E : Env} {P : Program} (hE : EnvOk E P) {β : Map} {s d : TypeId} {x v : AV} {u : Value} (h : aConvert E s d x = some v) (hu : VR β x u) : Pure1 P (convert s d u) β v := by
  unfold aConvert at h
  split at h
  · rename_i k' n _ _ _ _ _ k _ hs hd
    simp only [VR] at hu; subst hu
    simp at h; subst h
    obtain ⟨ds, hus, _⟩ := (hE.ty s _ hs).und
    have hud := (hE.ty d _ hd).int rfl
    refine ⟨.int k (k.wrap n), by simp [VR], fun w => ?_⟩
    simp [convert, run_underlying hus, run_underlying hud, Conv.intToInt]
  · rename_i sv _ _ _ _ _ _ _ _ _ _ hs hd
    simp only [VR] at hu; subst hu
    simp at h; subst h
    have hus := (hE.ty s _ hs).string rfl
    have hud := (hE.ty d _ hd).string rfl
    refine ⟨.string sv, by simp [VR], fun w => ?_⟩
    simp [convert, run_underlying hus, run_underlying hud]
  · simp at h

/-! slices -/
theorem run_sliceBound {P : Program} {w : World} (k : IntKind) (n y : Nat) (code : BoundsCode) (h : n ≤ y) : (Instr.sliceBound (.int k n) y code).run P w = .ok n w := by
  have h' : (n : Int) ≤ (y : Int) := by omega
  simp [Instr.sliceBound, asIntOf, h]
theorem optNat_ok {β : Map} {o : Option AV} {oc : Option Value} {d n : Nat} (h : optNat o d = some n) (hr : ∀ v, o = some v → ∃ u, oc = some u ∧ VR β v u) (hn : o = none → oc = none) :
    (o = none ∧ oc = none ∧ n = d) ∨ ∃ k, oc = some (.int k n) := by
  cases o with
  | none => simp [optNat] at h; exact .inl ⟨rfl, hn rfl, h.symm⟩
  | some v =>
    obtain ⟨u, hu, r⟩ := hr v rfl
    obtain ⟨k, rfl⟩ := r.nat (by simpa [optNat] using h)
    exact .inr ⟨k, hu⟩
/-- The bounds of a slice expression: 'mc' is known of the capacity 'c'. -/
theorem bounds_ok {P : Program} {β : Map} {lo hi mx : Option AV} {lc hc mxc : Option Value} {b : Bool} {len mc c l h m : Nat}
    (hl : optNat lo 0 = some l) (hh : optNat hi len = some h) (hm : optNat mx mc = some m)
    (rl : (∀ v, lo = some v → ∃ u, lc = some u ∧ VR β v u) ∧ (lo = none → lc = none)) (rh : (∀ v, hi = some v → ∃ u, hc = some u ∧ VR β v u) ∧ (hi = none → hc = none))
    (rm : (∀ v, mx = some v → ∃ u, mxc = some u ∧ VR β v u) ∧ (mx = none → mxc = none))
    (h1 : l ≤ h) (h2 : h ≤ m) (h3 : m ≤ mc) (h4 : mc ≤ c) (h5 : (mx.isNone || hi.isSome) = true) :
    ∃ mr, m ≤ mr ∧ mr ≤ c ∧ (mx = none → mr = c) ∧ ∀ w, (Instr.sliceBounds b len c lc hc mxc).run P w = .ok (l, h, mr) w := by
  have hL : (lc = none ∧ l = 0) ∨ ∃ k, lc = some (.int k l) := by
    rcases optNat_ok hl rl.1 rl.2 with ⟨_, e, e'⟩ | h
    · exact .inl ⟨e, e'⟩
    · exact .inr h
  have hH : (hi = none ∧ hc = none ∧ h = len) ∨ ∃ k, hc = some (.int k h) := by
    rcases optNat_ok hh rh.1 rh.2 with h | h
    · exact .inl h
    · exact .inr h
  have hM : (mx = none ∧ mxc = none ∧ m = mc) ∨ (mx ≠ none ∧ ∃ k, mxc = some (.int k m)) := by
    rcases optNat_ok hm rm.1 rm.2 with h | ⟨k, h⟩
    · exact .inl h
    · refine .inr ⟨fun e => ?_, k, h⟩
      rw [rm.2 e] at h; simp at h
  clear rl rh rm hl hh hm
  rcases hM with ⟨rfl, rfl, rfl⟩ | ⟨hne, km, rfl⟩
  · refine ⟨c, by omega, Nat.le_refl _, fun _ => rfl, fun w => ?_⟩
    rcases hL with ⟨rfl, rfl⟩ | ⟨kl, rfl⟩ <;> rcases hH with ⟨rfl, rfl, rfl⟩ | ⟨kh, rfl⟩ <;>
      simp [Instr.sliceBounds, run_sliceBound _ _ _ _ h1, run_sliceBound _ _ _ _ (show h ≤ c by omega)]
  · refine ⟨m, Nat.le_refl _, by omega, fun e => absurd e hne, fun w => ?_⟩
    have hhi : ∃ k, hc = some (.int k h) := by
      rcases hH with ⟨rfl, _, _⟩ | h
      · simp only [Option.isSome_none, Bool.or_false, Option.isNone_iff_eq_none] at h5
        exact absurd h5 hne
      · exact h
    obtain ⟨kh, rfl⟩ := hhi
    rcases hL with ⟨rfl, rfl⟩ | ⟨kl, rfl⟩ <;>
      simp [Instr.sliceBounds, run_sliceBound _ _ _ _ h1, run_sliceBound _ _ _ _ h2, run_sliceBound _ _ _ _ (show m ≤ c by omega)]
/-- An operand that may be missing, on both sides. -/
def OptR (β : Map) (o : Option AV) (oc : Option Value) : Prop := (∀ v, o = some v → ∃ u, oc = some u ∧ VR β v u) ∧ (o = none → oc = none)
theorem OptR.none0 {β : Map} {o : Option AV} {oc : Option Value} (h : OptR β o oc) (hs : o.isNone = true) : oc = none := h.2 (by simpa using hs)
theorem slice_ok {E : Env} {P : Program} (hE : EnvOk E P) {β : Map} {t : TypeId} {x v : AV} {lo hi mx : Option AV} {u : Value} {lc hc mxc : Option Value}
    (h : aSlice E t x lo hi mx = some v) (hu : VR β x u) (rl : OptR β lo lc) (rh : OptR β hi hc) (rm : OptR β mx mxc) : Pure1 P (Instr.sliceAt t u lc hc mxc) β v := by
  unfold aSlice at h
  split at h
  · rename_i _ _ _ _ _ ht
    have hd := (hE.ty t _ ht).string rfl
    split at h
    · rename_i s
      split at h
      · rename_i l hh hl hhi
        obtain ⟨h1, h2⟩ := condT h
        simp only [Bool.and_eq_true] at h1
        simp at h2; subst h2
        simp only [VR] at hu; subst hu
        have hmx : mxc = none := rm.2 rfl
        subst hmx
        obtain ⟨mr, _, _, _, hrun⟩ := bounds_ok (P := P) (b := false) (mx := none) (mxc := none) (mc := s.size) (c := s.size) (m := s.size) hl hhi rfl rl rh rm (bleT h1.1) (bleT h1.2) (Nat.le_refl _) (Nat.le_refl _) rfl
        refine ⟨.string (s.extract l hh), by simp [VR], fun w => ?_⟩
        simp [Instr.sliceAt, Instr.slice, run_underlying hd, hrun]
      · simp at h
    · simp at h
  · rename_i _ _ _ _ et _ ht
    have hd := (hE.ty t _ ht).slice rfl
    split at h
    · rename_i id g off len e mc
      split at h
      · rename_i l hh m ety hl hhi hm het
        obtain ⟨h1, h2⟩ := condT h
        simp only [Bool.and_eq_true] at h1
        obtain ⟨⟨⟨⟨a1, a2⟩, a3⟩, a4⟩, a5⟩ := h1
        replace a1 := bleT a1
        replace a2 := bleT a2
        replace a3 := bleT a3
        replace a5 := beqT a5
        simp only [Option.some.injEq] at h2; subst h2
        simp only [VR] at hu
        obtain ⟨L, o, c, hL, rfl, hmc, hlen, hn', hnz, hep, hoc⟩ := hu
        obtain ⟨mr, b1, b2, b3, hrun⟩ := bounds_ok (P := P) (b := true) (c := c) hl hhi hm rl rh rm a1 a2 a3 hmc a4
        have hee := hE.ty et _ het
        refine ⟨.slice (if mr = l then some ⟨L.b, o, none⟩ else some ⟨L.b, o + l * e, none⟩) (hh - l) (mr - l), ?_, fun w => ?_⟩
        · simp only [VR]
          have hk : off + l * e + (m - l) * e ≤ L.n := by
            have : l * e + (m - l) * e = m * e := by rw [← Nat.add_mul]; congr 1; omega
            have : m * e ≤ mc * e := Nat.mul_le_mul_right _ a3
            omega
          by_cases hml : mr = l
          · refine ⟨L, o, mr - l, hL, by simp [hml], by omega, by omega, hk, hnz, hep, .inl (by omega)⟩
          · refine ⟨L, o + l * e, mr - l, hL, by simp [hml], by omega, by omega, hk, hnz, hep, .inr ?_⟩
            rcases hoc with hoc | ⟨ho, hz⟩
            · omega
            · refine ⟨by omega, ?_⟩
              have : l * e + (mr - l) * e = mr * e := by rw [← Nat.add_mul]; congr 1; omega
              have : mr * e ≤ c * e := Nat.mul_le_mul_right _ b2
              omega
        · simp only [Instr.sliceAt, Instr.slice, run_underlying hd, Sem.run_bind, Result.andThen_ok, hrun, hee.size, a5]
          by_cases hml : mr = l <;> simp [hml, Addr.add_lit]
      · simp at h
    · split at h
      · rename_i ety hl hhi hm het
        obtain ⟨h1, h2⟩ := condT h
        simp only [Option.some.injEq] at h2; subst h2
        simp only [VR] at hu; subst hu
        obtain ⟨mr, b1, b2, b3, hrun⟩ := bounds_ok (P := P) (b := true) (c := 0) hl hhi hm rl rh rm (Nat.le_refl _) (Nat.le_refl _) (Nat.le_refl _) (Nat.le_refl _) h1
        have : mr = 0 := by omega
        subst this
        refine ⟨.slice none 0 0, by simp [VR], fun w => ?_⟩
        simp [Instr.sliceAt, Instr.slice, run_underlying hd, hrun, (hE.ty et _ het).size]
      · simp at h
    · rename_i e len cells
      split at h
      · rename_i l hh ety hl hhi het
        obtain ⟨h1, h2⟩ := condT h
        simp only [Bool.and_eq_true] at h1
        obtain ⟨⟨⟨a0, a1⟩, a2⟩, a5⟩ := h1
        replace a1 := bleT a1
        replace a2 := bleT a2
        replace a5 := beqT a5
        simp only [Option.map_eq_some_iff] at h2
        obtain ⟨lst, hp, rfl⟩ := h2
        obtain ⟨hp1, rfl⟩ := parts?_some hp
        simp only [VR] at hu
        obtain ⟨hep, hcl, p, c, rfl, hlc, hpc, r⟩ := hu
        have hmx : mx = none := by simpa using a0
        subst hmx
        obtain ⟨mr, b1, b2, b3, hrun⟩ := bounds_ok (P := P) (b := true) (mc := len) (c := c) (m := len) hl hhi rfl rl rh rm a1 a2 (Nat.le_refl _) hlc rfl
        have hee := hE.ty et _ het
        have hk : l * e + (hh - l) * e = hh * e := by rw [← Nat.add_mul]; congr 1; omega
        have hk2 : hh * e ≤ len * e := Nat.mul_le_mul_right _ a2
        have hl2 : ((cells.drop (l * e)).take ((hh - l) * e)).length = (hh - l) * e := by simp; omega
        cases p with
        | none =>
          have hc0 := hpc rfl
          have : mr = 0 := by omega
          subst this
          have : l = 0 := by omega
          subst this
          have : hh = 0 := by omega
          subst this
          refine ⟨.slice none 0 0, ?_, fun w => ?_⟩
          · simp only [VR]
            exact ⟨hep, by simp, none, 0, rfl, Nat.le_refl _, fun _ => rfl, Or.inl (by simp)⟩
          · simp [Instr.sliceAt, Instr.slice, run_underlying hd, hrun, hee.size]
        | some a =>
          refine ⟨.slice (if mr = l then some a else some (a.add (l * e))) (hh - l) (mr - l), ?_, fun w => ?_⟩
          · simp only [VR]
            refine ⟨hep, hl2, _, _, rfl, by omega, (fun h => by split at h <;> cases h), ?_⟩
            rcases r with r | ⟨b, o, cs, el, fz, hpe, hgl, hsz, hr⟩
            · exact .inl (by omega)
            · cases hpe
              by_cases hml : mr = l
              · exact .inl (by omega)
              · refine .inr ⟨b, o + l * e, cs, el, fz, by simp [hml, Addr.add_lit], hgl, by omega, hr.part _ _ (by omega)⟩
          · simp only [Instr.sliceAt, Instr.slice, run_underlying hd, Sem.run_bind, Result.andThen_ok, hrun, hee.size, a5]
            by_cases hml : mr = l <;> simp [hml]
      · simp at h
    · simp at h
  · rename_i _ _ _ _ n et _ ht
    have hd := (hE.ty t _ ht).array rfl
    split at h
    · rename_i id g off k ety het
      split at h
      · rename_i l hh m hl hhi hm
        obtain ⟨h1, h2⟩ := condT h
        simp only [Bool.and_eq_true] at h1
        obtain ⟨⟨⟨⟨⟨a1, a2⟩, a3⟩, a5⟩, a6⟩, a4⟩ := h1
        replace a1 := bleT a1
        replace a2 := bleT a2
        replace a3 := bleT a3
        replace a5 := bleT a5
        replace a6 := bltT a6
        simp only [Option.some.injEq] at h2; subst h2
        simp only [VR] at hu
        obtain ⟨L, hL, hn', hnz, rfl⟩ := hu
        obtain ⟨mr, b1, b2, b3, hrun⟩ := bounds_ok (P := P) (b := false) (c := n) hl hhi hm rl rh rm a1 a2 a3 (Nat.le_refl _) a4
        have hee := hE.ty et _ het
        refine ⟨.slice (some (if mr = l then ⟨L.b, L.s + off, none⟩ else ⟨L.b, L.s + off + l * ety.size, none⟩)) (hh - l) (mr - l), ?_, fun w => ?_⟩
        · simp only [VR]
          have hmn : mr * ety.size ≤ n * ety.size := Nat.mul_le_mul_right _ b2
          have hmm : m * ety.size ≤ mr * ety.size := Nat.mul_le_mul_right _ b1
          have e1 : l * ety.size + (m - l) * ety.size = m * ety.size := by rw [← Nat.add_mul]; congr 1; omega
          have e2 : l * ety.size + (mr - l) * ety.size = mr * ety.size := by rw [← Nat.add_mul]; congr 1; omega
          by_cases hml : mr = l
          · refine ⟨L, L.s + off, mr - l, hL, by simp [hml], by omega, by omega, by omega, hnz, a6, .inl (by omega)⟩
          · refine ⟨L, L.s + off + l * ety.size, mr - l, hL, by simp [hml], by omega, by omega, by omega, hnz, a6, .inr ⟨by omega, by omega⟩⟩
        · simp only [Instr.sliceAt, run_underlying hd, Sem.run_bind, Result.andThen_ok, Instr.sureAddr, Sem.run_pure, hrun, hee.size]
          by_cases hml : mr = l <;> simp [hml, Addr.add_lit]
      · simp at h
    · simp at h
  · simp at h
end Go.Vai

/-
  Equality, building, and the operations on numbers, strings and places together.
-/
namespace Go.Vai
open Go

theorem isAgg'_ok {β : Map} {x : AV} {u : Value} (h : isAgg' x = true) (hu : VR β x u) : ∃ cs, u = .agg cs ∧ VRs β (cellsOf x) cs.toList := by
  unfold isAgg' at h
  split at h
  · simp only [VR] at hu; obtain ⟨cs, rfl, r⟩ := hu; exact ⟨cs, rfl, r⟩
  · simp only [VR] at hu; subst hu; exact ⟨_, rfl, VRs.sc _⟩
  · simp at h
theorem bytes_beq (a b : ByteArray) : (a.toList == b.toList) = (a.data.toList == b.data.toList) := by rw [ByteArray.toList_eq, ByteArray.toList_eq]
theorem fieldsOf_eq {P : Program} {t : TypeId} {fs : Array Field} (h : P.underlying t = some (.struct fs)) : P.fieldsOf t = fs := by simp [Program.fieldsOf, h]
theorem eqAt_ok {E : Env} {P : Program} (hE : EnvOk E P) {β : Map} : ∀ (f D : Nat) (t : TypeId) (x y : AV) (b : Bool) (u v : Value), f ≤ D → eqAt E f t x y = some b → VR β x u → VR β y v →
    ∀ w, (Op.equalIn D t u v).run P w = .ok b w := by
  intro f
  induction f with
  | zero => intro D t x y b u v _ h; simp [eqAt] at h
  | succ f ih =>
    intro D t x y b u v hD h hu hv w
    obtain ⟨D, rfl⟩ : ∃ D', D = D' + 1 := ⟨D - 1, by omega⟩
    simp only [eqAt] at h
    cases ht : E.ty.get t with
    | none => simp [ht] at h
    | some ty =>
      simp only [ht] at h
      have hT := hE.ty t ty ht
      split at h
      · rename_i hd
        split at h
        · simp only [VR] at hu hv; subst hu; subst hv
          simp only [Option.some.injEq] at h; subst h
          exact run_equalIn_bool w D t _ _ (hT.bool hd)
        · simp at h
      · rename_i k0 hd
        split at h
        · simp only [VR] at hu hv; subst hu; subst hv
          obtain ⟨h1, h2⟩ := condT h
          have hk := of_decide_eq_true h1
          subst hk
          simp only [Option.some.injEq] at h2; subst h2
          exact run_equalIn_int w D t _ _ _ _ (hT.int hd)
        · simp at h
      · rename_i hd
        split at h
        · simp only [VR] at hu hv; subst hu; subst hv
          simp only [Option.some.injEq] at h; subst h
          rw [run_equalIn_string w D t _ _ (hT.string hd), bytes_beq]
        · simp at h
      · rename_i fs hd
        obtain ⟨h1, h2⟩ := condT h
        simp only [Bool.and_eq_true] at h1
        obtain ⟨⟨⟨⟨a1, a2⟩, a3⟩, a4⟩, a5⟩ := h1
        obtain ⟨xs, rfl, rx⟩ := isAgg'_ok a2 hu
        obtain ⟨ys, rfl, ry⟩ := isAgg'_ok a3 hv
        obtain ⟨fields, hun, hfs⟩ := hT.struct hd
        rw [run_equalIn_struct w D t xs ys (by rw [fieldsOf_eq hun]; exact hun) (hT.eq a1).1, fieldsOf_eq hun]
        subst hfs
        clear hun hd a1 a2 a3 a4 a5 h hu hv
        revert b
        generalize fields.toList = l
        induction l with
        | nil => intro b h2; simp only [List.map_nil, List.foldr_nil, Option.some.injEq] at h2; subst h2; simp [Op.eqFields]
        | cons fd l ihl =>
          intro b h2
          simp only [List.map_cons, List.foldr_cons] at h2
          cases hn : (fd.name != "_") with
          | false => simp [hn] at h2
          | true =>
            simp only [hn] at h2
            have hn' : fd.name ≠ "_" := by simpa using hn
            split at h2
            · rename_i a c hp hq
              obtain ⟨ua, ra, runa⟩ := part_ok hE hp rx
              obtain ⟨uc, rc, runc⟩ := part_ok hE hq ry
              split at h2
              · rename_i he
                have := ih D fd.type a c true ua uc (by omega) he ra rc w
                simp only [Op.eqFields, hn', ne_eq, not_false_eq_true, if_true, Sem.run_bind, runa, runc, Result.andThen_ok, this, Bool.not_true, Bool.false_eq_true, if_false]
                exact ihl b h2
              · rename_i he
                have := ih D fd.type a c false ua uc (by omega) he ra rc w
                simp only [Option.map_eq_some_iff] at h2
                obtain ⟨_, _, rfl⟩ := h2
                simp only [Op.eqFields, hn', ne_eq, not_false_eq_true, if_true, Sem.run_bind, runa, runc, Result.andThen_ok, this, Bool.not_false, Sem.run_pure]
              · simp at h2
            · simp at h2
      · simp at h

section nils
variable {P : Program} {β : Map} {x y : AV} {b : Bool} {u v : Value} {w : World} {t : TypeId}
theorem eqSl_ok (D : Nat) {e : TypeId} (h : eqSl x y = some b) (hu : VR β x u) (hv : VR β y v) (ht : P.underlying t = some (.slice e)) : (Op.equalIn (D + 1) t u v).run P w = .ok b w := by
  unfold eqSl at h
  split at h <;> simp only [Option.some.injEq, reduceCtorEq] at h <;> subst h <;> simp only [VR] at hu hv
  · obtain ⟨l, o, c, _, rfl, _⟩ := hu; subst hv
    simp [Op.equalIn, run_underlying ht]
  · obtain ⟨l, o, c, _, rfl, _⟩ := hv; subst hu
    simp [Op.equalIn, run_underlying ht]
  · subst hu; subst hv
    simp [Op.equalIn, run_underlying ht]
  · obtain ⟨_, _, p, c, rfl, h4, h5, r⟩ := hu
    subst hv
    rcases r with r | ⟨b, o, cs, el, fz, rfl, _⟩
    · omega
    · simp [Op.equalIn, run_underlying ht]
  · obtain ⟨_, _, p, c, rfl, h4, h5, r⟩ := hv
    subst hu
    rcases r with r | ⟨b, o, cs, el, fz, rfl, _⟩
    · omega
    · simp [Op.equalIn, run_underlying ht]
theorem eqMp_ok (D : Nat) {k e : TypeId} (h : eqMp x y = some b) (hu : VR β x u) (hv : VR β y v) (ht : P.underlying t = some (.map k e)) : (Op.equalIn (D + 1) t u v).run P w = .ok b w := by
  unfold eqMp at h
  split at h <;> simp only [Option.some.injEq, reduceCtorEq] at h <;> subst h <;> simp only [VR] at hu hv
  · obtain ⟨l, _, rfl⟩ := hu; subst hv
    simp [Op.equalIn, run_underlying ht]
  · obtain ⟨l, _, rfl⟩ := hv; subst hu
    simp [Op.equalIn, run_underlying ht]
  · subst hu; subst hv
    simp [Op.equalIn, run_underlying ht]
theorem eqFn_ok (D : Nat) {a c : Array TypeId} {e : Bool} (h : eqFn x y = some b) (hu : VR β x u) (hv : VR β y v) (ht : P.underlying t = some (.func a c e)) : (Op.equalIn (D + 1) t u v).run P w = .ok b w := by
  unfold eqFn at h
  split at h <;> simp only [Option.some.injEq, reduceCtorEq] at h <;> subst h <;> simp only [VR] at hu hv
  · obtain ⟨l, _, rfl, _⟩ := hu; subst hv
    simp [Op.equalIn, run_underlying ht]
  · obtain ⟨l, _, rfl, _⟩ := hv; subst hu
    simp [Op.equalIn, run_underlying ht]
  · subst hu; subst hv
    simp [Op.equalIn, run_underlying ht]
  · subst hu; subst hv
    simp [Op.equalIn, run_underlying ht]
  · subst hu; subst hv
    simp [Op.equalIn, run_underlying ht]
theorem run_sameAddr_apart {a c : Addr} {ca cc : Array Value} {ta tc : TypeId} (ha : w.heap[a.block]? = some (.cells ca ta (0, 0))) (hc : w.heap[c.block]? = some (.cells cc tc (0, 0))) (hne : a.block ≠ c.block) :
    (sameAddr a c).run P w = .ok false w := by
  have f1 : ∀ o s, w.frozen? ⟨a.block, o, s⟩ = false := by intro o s; simp [World.frozen?, ha]
  have f2 : ∀ o s, w.frozen? ⟨c.block, o, s⟩ = false := by intro o s; simp [World.frozen?, hc]
  have s1 : w.shape? a.block = some (ta, ca.size) := by simp [World.shape?, ha]
  have s2 : w.shape? c.block = some (tc, cc.size) := by simp [World.shape?, hc]
  obtain ⟨ab, ao, as⟩ := a
  obtain ⟨cb, co, cs⟩ := c
  simp only at f1 f2 s1 s2 hne
  have hne' : (ab == cb) = false := by simpa using hne
  simp [sameAddr, hne', frozen, noView, viewAt, shape, mayBeOne, stringish, Sem.run, f1, f2, s1, s2]
theorem eqPtr_ok (D : Nat) {E : Env} {B : Nat} {σ : St} (hR : HR E B β σ.look w) {e : TypeId} {n : Nat} (h : eqPtr σ x y = some b) (hu : VR β x u) (hv : VR β y v) (ht : P.underlying t = some (.pointer e))
    (hs : (sizeOf e).run P w = .ok n w) (hn : n ≠ 0) : (Op.equalIn (D + 1) t u v).run P w = .ok b w := by
  unfold eqPtr at h
  split at h
  · rename_i i g o _ j h' q _
    simp only [VR] at hu hv
    obtain ⟨l, hl, _, _, rfl⟩ := hu
    obtain ⟨l', hl', _, _, rfl⟩ := hv
    cases hij : Nat.beq i j with
    | true =>
      have hij := beqT hij
      subst hij
      simp only [hij, cond_true] at h
      obtain ⟨h1, h2⟩ := condT h
      have hgh := beqT h1
      subst hgh
      rw [hl] at hl'
      simp only [Option.some.injEq] at hl' h2
      subst hl'; subst h2
      have e1 : (({ block := l.b, off := l.s + o } : Addr) == { block := l.b, off := l.s + q }) = Nat.beq o q := by
        by_cases hoq : o = q
        · subst hoq; simp
        · rw [beqF hoq, beq_eq_false_iff_ne]
          intro e; simp only [Addr.mk.injEq] at e; omega
      simp [Op.equalIn, run_underlying ht, hs, hn, sameAddr, e1]
    | false =>
      simp only [hij, cond_false] at h
      split at h
      · rename_i gi mi ci gj mj cj hi hj
        obtain ⟨h1, h2⟩ := condT h
        simp only [Bool.and_eq_true] at h1
        simp only [Option.some.injEq] at h2
        subst h2
        have hne : i ≠ j := by intro e; subst e; simp at hij
        have oi := hR.obj i _ hi
        have oj := hR.obj j _ hj
        obtain ⟨L, hL, _, _, cs, el, hc, _⟩ := oi.2.2.2.2 g (bleT h1.1.1.1) (bleT h1.1.1.2)
        obtain ⟨L', hL', _, _, cs', el', hc', _⟩ := oj.2.2.2.2 h' (bleT h1.1.2) (bleT h1.2)
        rw [hl] at hL; rw [hl'] at hL'
        simp only [Option.some.injEq] at hL hL'
        subst hL; subst hL'
        have hb : l.b ≠ l'.b := fun e => hne (hR.inj i _ j _ g h' l l' hi hj hl hl' e)
        have := run_sameAddr_apart (P := P) (w := w) (a := ⟨l.b, l.s + o, none⟩) (c := ⟨l'.b, l'.s + q, none⟩) hc hc' hb
        simp [Op.equalIn, run_underlying ht, hs, hn, this]
      · simp at h
  · simp only [VR] at hu hv
    obtain ⟨l, _, _, _, rfl⟩ := hu; subst hv
    simp only [Option.some.injEq] at h; subst h
    simp [Op.equalIn, run_underlying ht]
  · simp only [VR] at hu hv
    obtain ⟨l, _, _, _, rfl⟩ := hv; subst hu
    simp only [Option.some.injEq] at h; subst h
    simp [Op.equalIn, run_underlying ht]
  · simp only [VR] at hu hv
    subst hu; subst hv
    simp only [Option.some.injEq] at h; subst h
    simp [Op.equalIn, run_underlying ht]
  · simp at h
theorem equal_eq (t : TypeId) (u v : Value) : Op.equal t u v = Op.equalIn (9999 + 1) t u v := rfl
end nils
/-! '==', '!=', numbers, strings -/
section bins
variable {E : Env} {P : Program} {β : Map} {B : Nat} {σ : St} {w : World}
/-- The values with which '==' goes by the type. -/
def goesByType : Value → Bool
  | .pointer _ | .slice .. | .map _ | .func .. | .nilFunc | .bool _ | .agg _ => true
  | _ => false
theorem run_eql {t : TypeId} {u v : Value} {b : Bool} (h : goesByType u = true) (h' : goesByType v = true) (hr : (Op.equal t u v).run P w = .ok b w) : (binOp .eql t u v).run P w = .ok (.bool b) w := by
  cases u <;> simp only [goesByType, Bool.false_eq_true] at h <;> cases v <;> simp only [goesByType, Bool.false_eq_true] at h' <;> simp [binOp, hr]
theorem run_neq {t : TypeId} {u v : Value} {b : Bool} (h : goesByType u = true) (h' : goesByType v = true) (hr : (Op.equal t u v).run P w = .ok b w) : (binOp .neq t u v).run P w = .ok (.bool (!b)) w := by
  cases u <;> simp only [goesByType, Bool.false_eq_true] at h <;> cases v <;> simp only [goesByType, Bool.false_eq_true] at h' <;> simp [binOp, hr]
theorem run_eqGuard_other (op : BinOp) (t : TypeId) (x y : Operand) {u v : Value} (h : (∀ cs, u ≠ .agg cs) ∧ u ≠ .nilIface) : (eqGuard op t x y u v).run P w = .ok () w := by
  cases u <;> first
    | (exact absurd rfl (h.1 _))
    | (exact absurd rfl h.2)
    | (cases op <;> simp [eqGuard])
theorem eqSl_by {x y : AV} {b : Bool} {u v : Value} (h : eqSl x y = some b) (hu : VR β x u) (hv : VR β y v) : (goesByType u = true ∧ goesByType v = true) ∧ ((∀ cs, u ≠ .agg cs) ∧ u ≠ .nilIface) := by
  unfold eqSl at h
  split at h <;> (try simp only [VR] at hu hv)
  · obtain ⟨l, o, c, _, rfl, _⟩ := hu; subst hv; simp [goesByType]
  · obtain ⟨l, o, c, _, rfl, _⟩ := hv; subst hu; simp [goesByType]
  · subst hu; subst hv; simp [goesByType]
  · obtain ⟨_, _, p, c, rfl, _⟩ := hu; subst hv; simp [goesByType]
  · obtain ⟨_, _, p, c, rfl, _⟩ := hv; subst hu; simp [goesByType]
  · simp at h
theorem eqMp_by {x y : AV} {b : Bool} {u v : Value} (h : eqMp x y = some b) (hu : VR β x u) (hv : VR β y v) : (goesByType u = true ∧ goesByType v = true) ∧ ((∀ cs, u ≠ .agg cs) ∧ u ≠ .nilIface) := by
  unfold eqMp at h
  split at h <;> (try simp only [VR] at hu hv)
  · obtain ⟨l, _, rfl⟩ := hu; subst hv; simp [goesByType]
  · obtain ⟨l, _, rfl⟩ := hv; subst hu; simp [goesByType]
  · subst hu; subst hv; simp [goesByType]
  · simp at h
theorem eqFn_by {x y : AV} {b : Bool} {u v : Value} (h : eqFn x y = some b) (hu : VR β x u) (hv : VR β y v) : (goesByType u = true ∧ goesByType v = true) ∧ ((∀ cs, u ≠ .agg cs) ∧ u ≠ .nilIface) := by
  unfold eqFn at h
  split at h <;> (try simp only [VR] at hu hv)
  · obtain ⟨l, _, rfl, _⟩ := hu; subst hv; simp [goesByType]
  · obtain ⟨l, _, rfl, _⟩ := hv; subst hu; simp [goesByType]
  · subst hu; subst hv; simp [goesByType]
  · subst hu; subst hv; simp [goesByType]
  · subst hu; subst hv; simp [goesByType]
  · simp at h
theorem eqPtr_by {x y : AV} {b : Bool} {u v : Value} (h : eqPtr σ x y = some b) (hu : VR β x u) (hv : VR β y v) : (goesByType u = true ∧ goesByType v = true) ∧ ((∀ cs, u ≠ .agg cs) ∧ u ≠ .nilIface) := by
  unfold eqPtr at h
  split at h <;> (try simp only [VR] at hu hv)
  · obtain ⟨l, _, _, _, rfl⟩ := hu; obtain ⟨l', _, _, _, rfl⟩ := hv; simp [goesByType]
  · obtain ⟨l, _, _, _, rfl⟩ := hu; subst hv; simp [goesByType]
  · obtain ⟨l, _, _, _, rfl⟩ := hv; subst hu; simp [goesByType]
  · subst hu; subst hv; simp [goesByType]
  · simp at h
theorem bin_ok (hE : EnvOk E P) (hR : HR E B β σ.look w) {op : BinOp} {t : TypeId} {x y v : AV} {ux uy : Value} (h : aBin E σ op t x y = some v) (hx : VR β x ux) (hy : VR β y uy) (ox oy : Operand) :
    ∃ r, VR β v r ∧ (do eqGuard op t ox oy ux uy; binOp op t ux uy : Sem Value).run P w = .ok r w := by
  have fin : ∀ (b : Bool), ((goesByType ux = true ∧ goesByType uy = true) ∧ ((∀ cs, ux ≠ .agg cs) ∧ ux ≠ .nilIface)) → (Op.equal t ux uy).run P w = .ok b w →
      (op = .eql → v = .sc (.bool b)) → (op = .neq → v = .sc (.bool (!b))) → (op = .eql ∨ op = .neq) →
      ∃ r, VR β v r ∧ (do eqGuard op t ox oy ux uy; binOp op t ux uy : Sem Value).run P w = .ok r w := by
    intro b hb hr h1 h2 h3
    rcases h3 with rfl | rfl
    · exact ⟨.bool b, by rw [h1 rfl]; simp [VR], by simp [run_eqGuard_other _ _ _ _ hb.2, run_eql hb.1.1 hb.1.2 hr]⟩
    · exact ⟨.bool (!b), by rw [h2 rfl]; simp [VR], by simp [run_eqGuard_other _ _ _ _ hb.2, run_neq hb.1.1 hb.1.2 hr]⟩
  unfold aBin at h
  split at h
  · rename_i k a k' b
    simp only [VR] at hx hy; subst hx; subst hy
    have g0 : (eqGuard op t ox oy (.int k a) (.int k' b)).run P w = .ok () w := run_eqGuard_other _ _ _ _ (by simp)
    split at h
    · obtain ⟨h1, h2⟩ := condT h
      have hb := of_decide_eq_true h1
      simp only [Option.some.injEq] at h2; subst h2
      have hb' : ¬ b < 0 := by omega
      exact ⟨.int k (k.wrap (a * 2 ^ (min b.toNat k.bits))), by simp [VR], by simp [g0, binOp, Op.shift, hb']⟩
    · obtain ⟨h1, h2⟩ := condT h
      have hb := of_decide_eq_true h1
      simp only [Option.some.injEq] at h2; subst h2
      have hb' : ¬ b < 0 := by omega
      exact ⟨.int k (a.fdiv (2 ^ (min b.toNat k.bits))), by simp [VR], by simp [g0, binOp, Op.shift, hb']⟩
    · obtain ⟨h1, h2⟩ := condT h
      have hk := of_decide_eq_true h1
      subst hk
      simp only [Option.map_eq_some_iff] at h2
      obtain ⟨r, hr, rfl⟩ := h2
      exact ⟨r, by simp [VR], by simp only [Sem.run_bind, g0, Result.andThen_ok]; exact intBin_ok hr t w⟩
  · rename_i a b
    simp only [VR] at hx hy; subst hx; subst hy
    have g0 : (eqGuard op t ox oy (.string a) (.string b)).run P w = .ok () w := run_eqGuard_other _ _ _ _ (by simp)
    split at h
    · simp only [Option.some.injEq] at h; subst h
      exact ⟨.bool (a.data.toList == b.data.toList), by simp [VR], by simp only [Sem.run_bind, g0, Result.andThen_ok]; simp only [binOp, Op.stringOp, bytes_beq, Sem.run_pure]⟩
    · simp only [Option.some.injEq] at h; subst h
      exact ⟨.bool (!(a.data.toList == b.data.toList)), by simp [VR], by simp only [Sem.run_bind, g0, Result.andThen_ok]; simp only [binOp, Op.stringOp, bytes_beq, Sem.run_pure]⟩
    · simp at h
  · rename_i a b
    simp only [VR] at hx hy; subst hx; subst hy
    split at h
    · rename_i _ _ _ _ _ ht
      simp only [Option.some.injEq] at h
      refine fin (a == b) (by simp [goesByType]) ?_ (fun _ => h.symm) (fun e => by cases e) (.inl rfl)
      rw [equal_eq]; exact run_equalIn_bool w _ t a b ((hE.ty t _ ht).bool rfl)
    · rename_i _ _ _ _ _ ht
      simp only [Option.some.injEq] at h
      refine fin (a == b) (by simp [goesByType]) ?_ (fun e => by cases e) (fun _ => h.symm) (.inr rfl)
      rw [equal_eq]; exact run_equalIn_bool w _ t a b ((hE.ty t _ ht).bool rfl)
    · simp at h
  · split at h
    · rename_i _ _ _ _ fs _ ht
      simp only [Option.map_eq_some_iff] at h
      obtain ⟨b, hb, rfl⟩ := h
      have hT := hE.ty t _ ht
      have hr := eqAt_ok hE 10 (9999 + 1) t x y b ux uy (by omega) hb hx hy w
      have hb' := hb
      simp only [eqAt, ht] at hb'
      obtain ⟨h1, _⟩ := condT hb'
      simp only [Bool.and_eq_true] at h1
      obtain ⟨xs, rfl, _⟩ := isAgg'_ok h1.1.1.1.2 hx
      obtain ⟨ys, rfl, _⟩ := isAgg'_ok h1.1.1.2 hy
      have hg := run_eqGuard_agg w .eql t ox oy xs ys (hT.eq h1.1.1.1.1).2
      exact ⟨.bool b, by simp [VR], by simp only [Sem.run_bind, hg, Result.andThen_ok]; exact run_eql rfl rfl hr⟩
    · rename_i _ _ _ _ fs _ ht
      simp only [Option.map_eq_some_iff] at h
      obtain ⟨b, hb, rfl⟩ := h
      have hT := hE.ty t _ ht
      have hr := eqAt_ok hE 10 (9999 + 1) t x y b ux uy (by omega) hb hx hy w
      have hb' := hb
      simp only [eqAt, ht] at hb'
      obtain ⟨h1, _⟩ := condT hb'
      simp only [Bool.and_eq_true] at h1
      obtain ⟨xs, rfl, _⟩ := isAgg'_ok h1.1.1.1.2 hx
      obtain ⟨ys, rfl, _⟩ := isAgg'_ok h1.1.1.2 hy
      have hg := run_eqGuard_agg w .neq t ox oy xs ys (hT.eq h1.1.1.1.1).2
      exact ⟨.bool (!b), by simp [VR], by simp only [Sem.run_bind, hg, Result.andThen_ok]; exact run_neq rfl rfl hr⟩
    · rename_i _ _ _ _ e _ ht
      split at h
      · rename_i ety he
        obtain ⟨h1, h2⟩ := condT h
        have h1 := bltT h1
        simp only [Option.map_eq_some_iff] at h2
        obtain ⟨b, hb, rfl⟩ := h2
        refine fin b (eqPtr_by hb hx hy) ?_ (fun _ => rfl) (fun e => by cases e) (.inl rfl)
        rw [equal_eq]; exact eqPtr_ok _ hR hb hx hy ((hE.ty t _ ht).pointer rfl) (hE.ty e _ he).size (by omega)
      · simp at h
    · rename_i _ _ _ _ e _ ht
      split at h
      · rename_i ety he
        obtain ⟨h1, h2⟩ := condT h
        have h1 := bltT h1
        simp only [Option.map_eq_some_iff] at h2
        obtain ⟨b, hb, rfl⟩ := h2
        refine fin b (eqPtr_by hb hx hy) ?_ (fun e => by cases e) (fun _ => rfl) (.inr rfl)
        rw [equal_eq]; exact eqPtr_ok _ hR hb hx hy ((hE.ty t _ ht).pointer rfl) (hE.ty e _ he).size (by omega)
      · simp at h
    · rename_i _ _ _ _ e _ ht
      simp only [Option.map_eq_some_iff] at h
      obtain ⟨b, hb, rfl⟩ := h
      refine fin b (eqSl_by hb hx hy) ?_ (fun _ => rfl) (fun e => by cases e) (.inl rfl)
      rw [equal_eq]; exact eqSl_ok _ hb hx hy ((hE.ty t _ ht).slice rfl)
    · rename_i _ _ _ _ e _ ht
      simp only [Option.map_eq_some_iff] at h
      obtain ⟨b, hb, rfl⟩ := h
      refine fin b (eqSl_by hb hx hy) ?_ (fun e => by cases e) (fun _ => rfl) (.inr rfl)
      rw [equal_eq]; exact eqSl_ok _ hb hx hy ((hE.ty t _ ht).slice rfl)
    · rename_i _ _ _ _ k e _ ht
      simp only [Option.map_eq_some_iff] at h
      obtain ⟨b, hb, rfl⟩ := h
      refine fin b (eqMp_by hb hx hy) ?_ (fun _ => rfl) (fun e => by cases e) (.inl rfl)
      rw [equal_eq]; exact eqMp_ok _ hb hx hy ((hE.ty t _ ht).map rfl)
    · rename_i _ _ _ _ k e _ ht
      simp only [Option.map_eq_some_iff] at h
      obtain ⟨b, hb, rfl⟩ := h
      refine fin b (eqMp_by hb hx hy) ?_ (fun e => by cases e) (fun _ => rfl) (.inr rfl)
      rw [equal_eq]; exact eqMp_ok _ hb hx hy ((hE.ty t _ ht).map rfl)
    · rename_i _ _ _ _ _ ht
      simp only [Option.map_eq_some_iff] at h
      obtain ⟨b, hb, rfl⟩ := h
      obtain ⟨a, c, e, hf⟩ := (hE.ty t _ ht).func rfl
      refine fin b (eqFn_by hb hx hy) ?_ (fun _ => rfl) (fun e => by cases e) (.inl rfl)
      rw [equal_eq]; exact eqFn_ok _ hb hx hy hf
    · rename_i _ _ _ _ _ ht
      simp only [Option.map_eq_some_iff] at h
      obtain ⟨b, hb, rfl⟩ := h
      obtain ⟨a, c, e, hf⟩ := (hE.ty t _ ht).func rfl
      refine fin b (eqFn_by hb hx hy) ?_ (fun e => by cases e) (fun _ => rfl) (.inr rfl)
      rw [equal_eq]; exact eqFn_ok _ hb hx hy hf
    · simp at h
end bins
end Go.Vai

/-
  Building structs, arrays and slices; new rows; loads and stores.
-/
namespace Go.Vai
open Go

/-! ### Filling cells -/
theorem seg_foldl (off : Nat) : ∀ (l : List Value) (k : Nat) (cells : Array Value), off + k + l.length ≤ cells.size →
    (l.zipIdx k).foldl (fun cs p => cs.setIfInBounds (off + p.2) p.1) cells = (cells.toList.take (off + k) ++ l ++ cells.toList.drop (off + k + l.length)).toArray
  | [], k, cells, _ => by simp
  | v :: l, k, cells, h => by
    simp only [List.zipIdx_cons, List.foldl_cons]
    rw [seg_foldl off l (k + 1) _ (by simp at h ⊢; omega)]
    have e := list_seg_step cells.toList (off + k) v l (by simp at h ⊢; omega)
    simp only [Array.toList_setIfInBounds, List.length_cons]
    rw [show off + (k + 1) = off + k + 1 by omega, show off + k + (l.length + 1) = off + k + (l.length + 1) from rfl, ← e]
theorem seg_array (off : Nat) (v cells : Array Value) (h : off + v.size ≤ cells.size) :
    v.zipIdx.foldl (fun cs (p : Value × Nat) => cs.setIfInBounds (off + p.2) p.1) cells = (cells.toList.take off ++ v.toList ++ cells.toList.drop (off + v.size)).toArray := by
  have := seg_foldl off v.toList 0 cells (by simpa using h)
  simp only [Nat.add_zero, Array.length_toList] at this
  rw [← this, ← Array.foldl_toList, Array.toList_zipIdx]
def PartsR (β : Map) : List (Nat × AV) → List (Nat × Value) → Prop
  | [], q => q = []
  | p :: l, q => ∃ u q', q = (p.1, u) :: q' ∧ VR β p.2 u ∧ PartsR β l q'
theorem fill_ok {β : Map} {place place' : Nat → Option (Nat × Nat)} (hp : ∀ i x, place i = some x → place' i = some x) : ∀ (l : List (Nat × AV)) (q : List (Nat × Value)) (cells : List AV) (cs : Array Value) (r : List AV),
    fillA place cells l = some r → VRs β cells cs.toList → PartsR β l q → ∃ rc, Instr.fill place' cs q = some rc ∧ VRs β r rc.toList
  | [], q, cells, cs, r, h, hr, hq => by
    simp only [PartsR] at hq; subst hq
    simp only [fillA, Option.some.injEq] at h; subst h
    exact ⟨cs, rfl, hr⟩
  | (i, v) :: l, q, cells, cs, r, h, hr, hq => by
    simp only [PartsR] at hq
    obtain ⟨u, q', rfl, hv, hq⟩ := hq
    simp only [fillA] at h
    split at h
    · simp at h
    · rename_i off size hpl
      obtain ⟨h1, h2⟩ := condT h
      simp only [Bool.and_eq_true] at h1
      have hs := beqT h1.1
      have hf := bleT h1.2
      have hc := hv.cells
      have e1 : u.cells.size = size := by have := hc.length; simp at this; omega
      have e2 : cs.size = cells.length := by simpa using hr.length
      simp only [Instr.fill, hp i _ hpl]
      rw [if_neg (by simp; omega), seg_array off u.cells cs (by omega)]
      refine fill_ok hp l q' _ _ r h2 ?_ hq
      have := hr.over off hc
      simpa using this

section builds
variable {E : Env} {P : Program} {β : Map}
theorem zero_ok (hE : EnvOk E P) {t : TypeId} {ty : ATy} (ht : E.ty.get t = some ty) : ∃ z, (∀ w, (zeroValue t).run P w = .ok z w) ∧ z.cells = ty.zero.toArray ∧ z.cells.size = ty.size ∧ (ty.agg = true → z = .agg ty.zero.toArray) ∧ (ty.agg = false → ∃ x, z = x ∧ ty.zero = [x] ∨ True) := by
  obtain ⟨i, z, hi, hs, _, hz, hc, hl⟩ := (hE.ty t ty ht).info
  refine ⟨z, fun w => run_zero hi hz, hc, by simp [hc, hl], fun ha => ?_, fun _ => ⟨z, .inr trivial⟩⟩
  obtain ⟨i', hi', hz'⟩ := (hE.ty t ty ht).agg ha
  rw [hi] at hi'; simp only [Option.some.injEq] at hi'; subst hi'
  rw [hz] at hz'; simpa using hz'
theorem build_ok (hE : EnvOk E P) {t : TypeId} {ps : List (Nat × AV)} {q : Array (Nat × Value)} {v : AV} (h : aBuild E t ps = some v) (hq : PartsR β ps q.toList) : Pure1 P (Instr.build t q) β v := by
  unfold aBuild at h
  split at h
  · simp at h
  · rename_i ty ht
    obtain ⟨z, hz, hzc, _⟩ := zero_ok hE ht
    have hT := hE.ty t ty ht
    split at h
    · rename_i fs hd
      obtain ⟨h1, h2⟩ := condT h
      simp only [Option.map_eq_some_iff] at h2
      obtain ⟨r, hr, rfl⟩ := h2
      obtain ⟨fields, hu, hfs⟩ := hT.struct hd
      -- the places
      have hpl : ∀ l : List Field, (∀ f ∈ l, (E.ty.get f.type).isSome = true) → l.mapM (fun f => (P.info? f.type).map fun i => (f.offset, i.size)) = some (l.map fun f => (f.offset, ((E.ty.get f.type).map (·.size)).getD 0)) := by
        intro l hl
        induction l with
        | nil => rfl
        | cons f l ih =>
          obtain ⟨fty, hf⟩ := Option.isSome_iff_exists.1 (hl f (by simp))
          obtain ⟨i, _, hi, hs, _⟩ := (hE.ty _ _ hf).info
          rw [List.mapM_cons, ih (fun g hg => hl g (by simp [hg]))]
          simp [hi, hf, hs]
      have hall : ∀ f ∈ fields.toList, (E.ty.get f.type).isSome = true := by
        intro f hf
        rw [hfs, List.all_map, List.all_eq_true] at h1
        exact h1 f hf
      have hpl' := hpl fields.toList hall
      have hpp : ∀ (i : Nat) (x : Nat × Nat), (fun (i : Nat) => match fs[i]? with
          | some (off, ft, _) => (E.ty.get ft).map fun fty => (off, fty.size)
          | none => none) i = some x → (fun (i : Nat) => (fields.toList.map fun f => (f.offset, ((E.ty.get f.type).map (·.size)).getD 0))[i]?) i = some x := by
        intro i x hx
        simp only at hx ⊢
        rw [hfs] at hx
        simp only [List.getElem?_map] at hx
        cases hf : fields.toList[i]? with
        | none => simp [hf] at hx
        | some fd =>
          simp only [hf, Option.map_some] at hx
          simp only [List.getElem?_map, hf, Option.map_some]
          cases hg : E.ty.get fd.type with
          | none => simp [hg] at hx
          | some fty => simp [hg] at hx; simp [hx]
      obtain ⟨rc, hrc, rr⟩ := fill_ok (β := β) hpp ps q.toList _ z.cells r hr (by rw [hzc]; exact VRs.sc _) hq
      refine ⟨.agg rc, by simp only [VR]; exact ⟨rc, rfl, rr⟩, fun w => ?_⟩
      generalize (fields.toList.map fun f => (f.offset, ((E.ty.get f.type).map (·.size)).getD 0)) = L at hpl' hrc
      simp [Instr.build, hz w, run_underlying hu, Array.mapM_eq_mapM_toList, run_places w _ _ hpl', hrc]
    · rename_i n e hd
      split at h
      · rename_i ety he
        simp only [Option.map_eq_some_iff] at h
        obtain ⟨r, hr, rfl⟩ := h
        obtain ⟨rc, hrc, rr⟩ := fill_ok (β := β) (place' := fun i => some (i * ety.size, ety.size)) (fun i x hx => hx) ps q.toList _ z.cells r hr (by rw [hzc]; exact VRs.sc _) hq
        refine ⟨.agg rc, by simp only [VR]; exact ⟨rc, rfl, rr⟩, fun w => ?_⟩
        simp [Instr.build, hz w, run_underlying (hT.array hd), (hE.ty e _ he).size, hrc]
      · simp at h
    · simp at h
end builds

/-! ### What an operation on objects does -/
/-- The model's operation goes through, its value stands for 'v', and the world stands for σ' behind it. -/
def Does (E : Env) (B : Nat) (P : Program) (β : Map) (σ σ' : St) (w : World) (s : Sem Value) (v : AV) : Prop :=
  ∃ β' u w', s.run P w = .ok u w' ∧ VR β' v u ∧ HR E B β' σ'.look w' ∧ Step β β' σ.look σ.next σ'.next w w'
theorem Pure1.does {E : Env} {B : Nat} {P : Program} {β : Map} {σ : St} {w : World} {s : Sem Value} {v : AV} (h : Pure1 P s β v) (hR : HR E B β σ.look w) : Does E B P β σ σ w s v := by
  obtain ⟨u, r, hrun⟩ := h
  exact ⟨β, u, w, hrun w, r, hR, Step.refl _ _ _ _⟩
/-- One place more. -/
def put1 (β : Map) (id g : Nat) (l : Loc) : Map := ⟨fun i h => if i = id ∧ h = g then some l else β i h, β.gl⟩
theorem put1_at (β : Map) (id g : Nat) (l : Loc) (i h : Nat) : put1 β id g l i h = if i = id ∧ h = g then some l else β i h := rfl
theorem put1_sub {β : Map} {id g : Nat} {l : Loc} (h : β id g = none) : Sub β (put1 β id g l) := by
  refine ⟨?_, fun _ _ h => h⟩
  intro i k x e
  unfold put1
  simp only
  split
  · rename_i e'; obtain ⟨rfl, rfl⟩ := e'; rw [h] at e; simp at e
  · exact e
theorem put1_same (β : Map) (id g : Nat) (l : Loc) : put1 β id g l id g = some l := by simp [put1]
theorem put1_new {β : Map} {id g : Nat} {l : Loc} {i k : Nat} {x : Loc} (e : put1 β id g l i k = some x) : β i k = some x ∨ (i = id ∧ k = g ∧ x = l) := by
  unfold put1 at e
  simp only at e
  split at e
  · rename_i e'; simp at e; exact .inr ⟨e'.1, e'.2, e.symm⟩
  · exact .inl e

section news
variable {E : Env} {P : Program} {β : Map} {B : Nat} {σ : St} {w : World}
/-- A new object of whatever kind, in a new block. -/
theorem new_ok (hR : HR E B β σ.look w) (hW : WF σ) (hF : Fresh β σ.next (σ.next + 1)) (o : AObj) (ob : Obj) (w' : World) (hh : w'.heap = w.heap.push ob) (hos : w'.os = w.os) (htape : w'.tape = w.tape)
    (hout : w'.output = w.output) (l : Loc) (hl : l.b = w.heap.size) (ho : ObjR (put1 β σ.next 0 l) w' σ.next o) :
    HR E B (put1 β σ.next 0 l) (σ.new o).look w' ∧ Step β (put1 β σ.next 0 l) σ.look σ.next (σ.new o).next w w' := by
  have hnone : ∀ g, β σ.next g = none := fun g => hF σ.next g (Nat.le_refl _) (Nat.lt_succ_self _)
  have hsz : w'.heap.size = w.heap.size + 1 := by rw [hh]; simp
  rw [look_new hW]
  refine hR.change σ.next o σ.next (σ.next + 1) (put1_sub (hnone 0)) ?_ (.inr ⟨hnone, Nat.le_refl _, Nat.lt_succ_self _⟩) hos htape hout (by omega) ?_ ho
  · intro i g x e
    rcases put1_new e with e | ⟨rfl, _, rfl⟩
    · exact .inl e
    · exact .inr ⟨rfl, .inl ⟨by omega, by omega⟩⟩
  · intro b hb _
    rw [hh, Array.getElem?_push, if_neg (by omega)]
theorem newRow_ok (hR : HR E B β σ.look w) (hW : WF σ) (hF : Fresh β σ.next (σ.next + 1)) {cells : List AV} {cs : Array Value} (el : TypeId) (w' : World) (hh : w'.heap = w.heap.push (.cells cs el (0, 0))) (hos : w'.os = w.os)
    (htape : w'.tape = w.tape) (hout : w'.output = w.output) (hc : cells.all isCell = true) (n : Nat) (hn : n = cells.length) (hr : VRs β cells (cs.toList.take n)) (hle : n ≤ cs.size) :
    HR E B (put1 β σ.next 0 ⟨w.heap.size, 0, n, cs.size⟩) (σ.new (.row 0 0 cells)).look w' ∧
      Step β (put1 β σ.next 0 ⟨w.heap.size, 0, n, cs.size⟩) σ.look σ.next (σ.new (.row 0 0 cells)).next w w' := by
  have hnone : ∀ g, β σ.next g = none := fun g => hF σ.next g (Nat.le_refl _) (Nat.lt_succ_self _)
  refine new_ok hR hW hF _ _ w' hh hos htape hout _ rfl ⟨Nat.le_refl _, hc, ?_, ?_, ?_⟩
  · intro g hg
    rw [put1_at, if_neg (by omega)]
    exact hnone g
  · intro g g' l l' _ b _ b' e e' _
    have hg : g = 0 := by omega
    have hg' : g' = 0 := by omega
    subst hg; subst hg'
    rw [e] at e'; simp at e'; rw [e']
  · intro g _ hg
    have hg0 : g = 0 := by omega
    subst hg0
    refine ⟨_, put1_same _ _ _ _, by simp [hn], fun _ => hn, cs, el, by simp [hh], rfl, by simpa using hle, ?_⟩
    simp only [List.drop_zero, hn, List.take_length]
    exact VRs.mono (put1_sub (hnone 0)) _ _ (hn ▸ hr)
theorem run_newRow (el : TypeId) (cs : Array Value) : (newRow el cs).run P w = .ok ⟨w.heap.size, 0, none⟩ { w with heap := w.heap.push (.cells cs el (0, 0)) } := by
  simp [newRow, newObj, Sem.run]
theorem box_ok (hR : HR E B β σ.look w) (hW : WF σ) {v x : AV} {u : Value} {σ' : St} (h : aBox x σ = some (v, σ')) (hF : Fresh β σ.next σ'.next) (hu : VR β x u) (t : TypeId) :
    Does E B P β σ σ' w (Instr.box t u) v := by
  unfold aBox aNewRow at h
  obtain ⟨h1, h2⟩ := condT h
  simp only [Option.some.injEq, Prod.mk.injEq, id] at h2
  obtain ⟨rfl, rfl⟩ := h2
  have hc := hu.cells
  have hlen : u.cells.size = (cellsOf x).length := by simpa using hc.length
  have := newRow_ok hR hW hF t { w with heap := w.heap.push (.cells u.cells t (0, 0)) } rfl rfl rfl rfl h1 (cellsOf x).length rfl (by rw [List.take_of_length_le (by simp [hlen])]; exact hc) (by omega)
  refine ⟨_, .pointer (some ⟨w.heap.size, 0, none⟩), _, ?_, ?_, this.1, this.2⟩
  · simp [Instr.box, newVar, run_newRow]
  · simp only [VR]
    exact ⟨_, put1_same _ _ _ _, by simp, by simp [hlen], rfl⟩
theorem alloc_ok (hE : EnvOk E P) (hR : HR E B β σ.look w) (hW : WF σ) {v : AV} {σ' : St} {t : TypeId} (h : aAlloc E t σ = some (v, σ')) (hF : Fresh β σ.next σ'.next) :
    Does E B P β σ σ' w (Instr.alloc t true (.tuple #[])) v := by
  unfold aAlloc at h
  split at h
  · simp at h
  · rename_i ty ht
    unfold aNewRow at h
    obtain ⟨h1, h2⟩ := condT h
    simp only [Option.some.injEq, Prod.mk.injEq, id] at h2
    obtain ⟨rfl, rfl⟩ := h2
    obtain ⟨z, hz, hzc, _⟩ := zero_ok hE ht
    have hlen : z.cells.size = (ty.zero.map AV.sc).length := by simp [hzc]
    have := newRow_ok hR hW hF t { w with heap := w.heap.push (.cells z.cells t (0, 0)) } rfl rfl rfl rfl h1 (ty.zero.map AV.sc).length rfl (by rw [List.take_of_length_le (by simp [hlen]), hzc]; exact VRs.sc _) (by omega)
    refine ⟨_, .pointer (some ⟨w.heap.size, 0, none⟩), _, ?_, ?_, this.1, this.2⟩
    · simp [Instr.alloc, hz w, newVar, run_newRow]
    · simp only [VR]
      exact ⟨_, put1_same _ _ _ _, by simp, by simp [hlen], rfl⟩
end news
end Go.Vai
