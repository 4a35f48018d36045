/-
  The abstract machine: regions that draw their order, code, calls, rounds. Definitions alone.
-/
import Derived.Test.YtkjmlnegmmlfdaaGreatDoorVaiA
namespace Go.Vai
open Go
noncomputable section

/-! ### A region that draws its order -/
def depMask (masks : List Nat) (after : List Edge) : Nat :=
  after.foldl (fun m e => cond (Region.binds .any e) (Nat.lor m (Nat.lor (Nat.shiftLeft 1 e.on) (masks.getD e.on 0))) m) 0
def masksFrom : List Nat → List Oper → List Nat
  | acc, [] => acc
  | acc, o :: l => masksFrom (acc ++ [depMask acc o.after.toList]) l
def masksOf (ops : List Oper) : List Nat := masksFrom [] ops

def idOf : AV → List Nat
  | .ptr id _ _ _ | .slice id _ _ _ _ _ | .map id => [id]
  | _ => []
/-- Which objects an operation looks at, if that can be told beforehand. -/
def foot (τ : Tm) : Op → Option (List Nat)
  | .move _ | .assign _ | .pick .. | .build .. | .nilCheck _ | .unOp .. | .convert .. | .makeFunc .. | .slice .. | .fieldAddr .. | .field .. | .indexAddr .. | .index .. | .extract ..
  | .alloc _ | .box .. | .buildSlice .. | .makeMap .. | .makeSlice .. => some []
  | .binOp _ _ x y _ => some (idOf (ev τ x) ++ idOf (ev τ y))
  | .load _ a | .store _ a _ => some (idOf (ev τ a))
  | .lookup _ m _ _ | .mapUpdate _ m _ _ | .insert _ m _ _ => some (idOf (ev τ m))
  | .call { callee := .builtin _, args, .. } => some (args.toList.flatMap fun x => idOf (ev τ x))
  | _ => none
/-- All but some numbers, up to one. -/
def except1 (N : Nat) : List Nat → List (Nat × Nat)
  | [] => [(0, N)]
  | [a] => [(0, Nat.min a N), (a + 1, N)]
  | [a, b] => cond (Nat.ble a b) [(0, Nat.min a N), (a + 1, Nat.min b N), (b + 1, N)] [(0, Nat.min b N), (b + 1, Nat.min a N), (a + 1, N)]
  | _ => []

structure Rec where
  lo : Nat
  hi : Nat
  hid : List (Nat × Nat)
  w : List Nat

def hidFrom (mask : Nat) : Nat → List Rec → List (Nat × Nat)
  | _, [] => []
  | i, r :: l => cond (Nat.testBit mask i || Nat.beq r.lo r.hi) (hidFrom mask (i + 1) l) ((r.lo, r.hi) :: hidFrom mask (i + 1) l)

def drawFrom (E : Env) (V : Ev) (ops : List Oper) (masks : List Nat) : List Oper → Nat → List Rec → Tm → St → Option (List Rec × Tm × St)
  | [], _, recs, τ, σ => some (recs, τ, σ)
  | o :: rest, j, recs, τ, σ =>
    match wantedA ops τ o with
    | some true =>
      let hid := (match foot τ o.op with | some l => except1 σ.next l | none => []) ++ (hidFrom (masks.getD j 0) 0 recs ++ σ.hid)
      match oper E V τ o { σ with hid := hid, log := [] } with
      | some (v, σ') => match τ.put o.dst v with
        | some τ' => drawFrom E V ops masks rest (j + 1) (recs ++ [⟨σ.next, σ'.next, hid, σ'.log.filter fun id => Nat.blt id σ.next⟩]) τ' { σ' with hid := σ.hid, log := σ'.log ++ σ.log }
        | none => none
      | none => none
    | some false => match τ.put o.dst (.sc undef) with
      | some τ' => drawFrom E V ops masks rest (j + 1) (recs ++ [⟨σ.next, σ.next, [(0, σ.next)], []⟩]) τ' σ
      | none => none
    | none => none

/-- What is written by an operation is seen by none that is not bound to come before or behind it. -/
def okRecs (masks : List Nat) (recs : List Rec) : Bool :=
  recs.zipIdx.all fun (r, j) => r.w.isEmpty || recs.zipIdx.all fun (q, k) =>
    Nat.beq j k || Nat.testBit (masks.getD k 0) j || Nat.testBit (masks.getD j 0) k || r.w.all fun id => hidden id q.hid || Nat.ble q.hi id
/-- Operations of which none is bound to come before the other one have no temporary between them. -/
def okOps (ops : List Oper) (masks : List Nat) : Bool :=
  ops.zipIdx.all fun (x, j) => ops.zipIdx.all fun (y, k) =>
    Nat.ble k j || Nat.testBit (masks.getD k 0) j || Oper.apart ops.toArray x y
def okEdges (ops : List Oper) : Bool :=
  ops.zipIdx.all fun (x, j) => x.after.toList.all fun e => !(Region.binds .any e) || Nat.blt e.on j
def draw (E : Env) (V : Ev) (ops : List Oper) (τ : Tm) (σ : St) : Option (Tm × St) :=
  let masks := masksOf ops
  cond (okEdges ops && okOps ops masks) (match drawFrom E V ops masks ops 0 [] τ σ with
    | some (recs, τ', σ') => cond (okRecs masks recs) (some (τ', σ')) none
    | none => none) none

/-! ### Code -/
def rangeGo (V : Ev) (rd : Option Nat) (g : AV) (ps : List Tmp) (asg body : Code) (d : Nat) (τ τ1 : Tm) (σ1 : St) : Option (AExit × Tm × St) :=
  match aCall g [.yield σ1.next] (σ1.new (.loop .ready none τ.t τ.n ps asg body d)) with
  | some (.enter f args, σ2) => match V.call f args σ2 with
    | some (_, σ3) => match σ3.look σ1.next with
      | some (.loop st pend tt n ps asg body d) => match st with
        | .busy => none
        | _ =>
          match pend with
          | none => some (.normal, τ1, σ3.put σ1.next (.loop .exhausted pend tt n ps asg body d))
          | some c => V.code rd c τ1 (σ3.put σ1.next (.loop .exhausted pend tt n ps asg body d))
      | _ => none
    | none => none
  | _ => none
def rangeFuncA (V : Ev) (rd : Option Nat) (g : AV) (ps : List Tmp) (asg body : Code) (τ : Tm) (σ : St) : Option (AExit × Tm × St) :=
  match rd with
  | none => rangeGo V rd g ps asg body σ.next τ { τ with marks := σ.next :: τ.marks } (σ.new (.dfr false))
  | some l0 => match σ.look l0 with
    | some (.loop _ _ _ _ _ _ _ d) => rangeGo V rd g ps asg body d τ τ σ
    | _ => none

def codeStep (E : Env) (V : Ev) (rd : Option Nat) (c : Code) (τ : Tm) (σ : St) : Option (AExit × Tm × St) :=
  match c with
  | .skip | .label _ => some (.normal, τ, σ)
  | .ret => some (.ret, τ, σ)
  | .exit id => some (.exit id, τ, σ)
  | .goto l => some (.goto l, τ, σ)
  | .seq a b => match V.code rd a τ σ with
    | some (.normal, τ', σ') => V.code rd b τ' σ'
    | r => r
  | .cond c x y => match ev τ c with
    | .sc (.bool b) => V.code rd (cond b x y) τ σ
    | _ => none
  | .block id c => match V.code rd c τ σ with
    | some (.exit id', τ', σ') => cond (Nat.beq id' id) (some (.normal, τ', σ')) (some (.exit id', τ', σ'))
    | r => r
  | .loop c => match V.code rd c τ σ with
    | some (.normal, τ', σ') => V.code rd (.loop c) τ' σ'
    | r => r
  | .region _ ops d => cond d ((draw E V ops.toList τ σ).map fun p => (.normal, p.1, p.2)) ((opersFrom E V ops.toList ops.toList τ σ).map fun p => (.normal, p.1, p.2))
  | .rangeFunc g ps asg body => rangeFuncA V rd (ev τ g) ps.toList asg body τ σ
  | .scope _ | .refuse _ => none

/-! ### Calls and rounds -/
def putAll (t : T AV) : Nat → List AV → T AV
  | _, [] => t
  | i, v :: l => putAll (t.set (i + 1) i v) (i + 1) l
def takeMarks : List Nat → St → Option St
  | [], σ => some σ
  | d :: l, σ => match σ.look d with
    | some (.dfr false) => takeMarks l (σ.put d (.dfr true))
    | _ => none
def resultsA (E : Env) (τ : Tm) (σ : St) : List ResultVar → Option (List AV)
  | [] => some []
  | .tmp t :: l => (resultsA E τ σ l).map (τ.get t :: ·)
  | .cell a t :: l => match aLoad E t (τ.get a) σ with
    | some (v, _) => (resultsA E τ σ l).map (v :: ·)
    | none => none
def one : List AV → AV
  | [v] => v
  | l => .tuple l
def callStep (E : Env) (V : Ev) (f : FuncId) (args : List AV) (σ : St) : Option (AV × St) :=
  match E.fn.get f with
  | none => none
  | some fn => match fn.body with
    | none => none
    | some c => cond (Nat.ble args.length fn.ntmps) (match V.code none c { t := putAll .leaf 0 args, n := fn.ntmps, marks := [] } σ with
      | some (.normal, τ, σ') | some (.ret, τ, σ') => match takeMarks τ.marks σ' with
        | some σ'' => (resultsA E τ σ'' fn.results.toList).map fun l => (one l, σ'')
        | none => none
      | _ => none) none

def setParams (n : Nat) (t : T AV) : List Tmp → List AV → Option (T AV)
  | [], [] => some t
  | p :: ps, v :: vs => cond (Nat.blt p n) (setParams n (t.set (p + 1) p v) ps vs) none
  | _, _ => none
def endRoundA (l : Nat) (jump : Option Code) (σ : St) : Option (AV × St) :=
  match σ.look l with
  | some (.loop _ _ tt n ps asg body d) => some (.sc (.bool jump.isNone), σ.put l (.loop (match jump with | none => .ready | some _ => .done) jump tt n ps asg body d))
  | _ => none
def roundStep (V : Ev) (l : Nat) (args : List AV) (σ : St) : Option (AV × St) :=
  match σ.look l with
  | some (.loop _ _ tt n ps asg body _) => match setParams n tt ps args with
    | some t => match V.code (some l) asg { t := t, n := n, marks := [] } σ with
      | some (.normal, τ1, σ1) => match σ1.look l with
        | some (.loop .ready pend tt n ps asg' body' d) => match V.code (some l) body τ1 (σ1.put l (.loop .busy pend tt n ps asg' body' d)) with
          | some (.normal, _, σ2) => endRoundA l none σ2
          | some (.ret, _, σ2) => endRoundA l (some .ret) σ2
          | some (.exit id, _, σ2) => endRoundA l (some (.exit id)) σ2
          | some (.goto t, _, σ2) => endRoundA l (some (.goto t)) σ2
          | none => none
        | _ => none
      | _ => none
    | none => none
  | _ => none

def Ev.next (E : Env) (V : Ev) : Ev := ⟨codeStep E V, callStep E V, roundStep V⟩
def Ev.at (E : Env) : Nat → Ev
  | 0 => Ev.none
  | n + 1 => Ev.next E (Ev.at E n)
def run (E : Env) (n : Nat) (f : FuncId) : Option (AV × St) := (Ev.at E n).call f [] ⟨.leaf, 0, [], []⟩
end
end Go.Vai
