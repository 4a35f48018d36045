/-
  The machine once more (VaiZma): operations. Each is shown to be the machine's own.
-/
import Derived.Test.YtdmffnbnnknklaaGreatDoorVm3
import Derived.Laws.IdiomRangeMap
namespace Go.Vai
open Go

/-! ### Operations -/
noncomputable def someF (v : AV) (σ : St) : R1 := some (v, σ)
noncomputable def valF (o : Option AV) (σ : St) : R1 := Option.rec (motive := fun _ => R1) none (fun v => some (v, σ)) o
theorem valF_eq (o : Option AV) (σ : St) : valF o σ = match vals o σ with | some (.value v, σ') => some (v, σ') | _ => none := by cases o <;> rfl
noncomputable def mapF (τ : Tm) (l : List Operand) : List AV := List.rec (motive := fun _ => List AV) [] (fun x _ ih => evF τ x :: ih) l
theorem mapF_eq (τ : Tm) : ∀ l, mapF τ l = l.map (ev τ)
  | [] => rfl
  | x :: l => by
    show evF τ x :: mapF τ l = _
    rw [evF_eq, mapF_eq τ l]; rfl
noncomputable def pickF (c a b : AV) (σ : St) : R1 :=
  match c with
  | .sc (.bool x) => Bool.rec (motive := fun _ => R1) (some (b, σ)) (some (a, σ)) x
  | _ => none
noncomputable def toR1 (V : Ev) : Option (ANext × St) → R1
  | some (.value v, σ) => some (v, σ)
  | some (.enter f args, σ) => V.call f args σ
  | some (.round l args, σ) => V.round l args σ
  | none => none
noncomputable def callA (V : Ev) (c : Call) (E : Env) (τ : Tm) (σ : St) : R1 :=
  match c with
  | { callee := .value f, args, .. } => toR1 V (aCall (evF τ f) (mapF τ args.toList) σ)
  | { callee := .builtin b, args, argTypes } => toR1 V (aBuiltin E b argTypes.toList (mapF τ args.toList) σ)
  | _ => none
noncomputable def slowF (E : Env) (V : Ev) (τ : Tm) (op : Op) (σ : St) : R1 := toR1 V (aOp E τ op σ)
noncomputable def extractF (v : AV) (i : Nat) (σ : St) : R1 :=
  match v with
  | .tuple vs => Option.rec (motive := fun _ => R1) none (fun x => some (x, σ)) (nthF i vs)
  | _ => none
noncomputable def nilCheckF (v : AV) (σ : St) : R1 := Bool.rec (motive := fun _ => R1) none (some (v, σ)) (isNilable v)
noncomputable def makeFuncF (τ : Tm) (fn : Fn) (first cap : Array Operand) (σ : St) : R1 :=
  match fn with
  | .func _ => some (.func fn (mapF τ first.toList) (mapF τ cap.toList), σ)
  | _ => none

noncomputable def operF (E : Env) (V : Ev) (τ : Tm) (op : Op) (σ : St) : R1 :=
  Op.rec (motive := fun _ => Env → Ev → Tm → St → R1)
    (move := fun x _ _ τ σ => some (evF τ x, σ))
    (assign := fun x _ _ τ σ => some (evF τ x, σ))
    (pick := fun c a b _ _ τ σ => pickF (evF τ c) (evF τ a) (evF τ b) σ)
    (alloc := fun t E _ _ σ => aAlloc E t σ)
    (box := fun _ x _ _ τ σ => aBox (evF τ x) σ)
    (build := fun t ps E V τ σ => slowF E V τ (.build t ps) σ)
    (buildSlice := fun t n ps E V τ σ => slowF E V τ (.buildSlice t n ps) σ)
    (insert := fun t m k x E _ τ σ => aUpdate E t (evF τ m) (evF τ k) (evF τ x) σ)
    (load := fun t a E _ τ σ => loadF E t (evF τ a) σ)
    (store := fun t a x E _ τ σ => storeF E t (evF τ a) (evF τ x) σ)
    (ready := fun _ _ _ _ _ => none)
    (waits := fun _ _ _ _ _ => none)
    (nilCheck := fun x _ _ τ σ => nilCheckF (evF τ x) σ)
    (binOp := fun o t x y _ E _ τ σ => binF E σ o t (evF τ x) (evF τ y))
    (unOp := fun o _ x _ _ τ σ => valF (aUn o (evF τ x)) σ)
    (convert := fun s d x E _ τ σ => valF (aConvert E s d (evF τ x)) σ)
    (sliceToArrayPointer := fun _ _ _ _ _ _ => none)
    (makeInterface := fun _ _ _ _ _ _ => none)
    (makeFunc := fun fn first cap _ _ τ σ => makeFuncF τ fn first cap σ)
    (makeMap := fun t r E V τ σ => slowF E V τ (.makeMap t r) σ)
    (makeChan := fun _ _ _ _ _ _ => none)
    (makeSlice := fun t l c E _ τ σ => aMakeSlice E t (evF τ l) (evF τ c) σ)
    (slice := fun t x lo hi mx E V τ σ => slowF E V τ (.slice t x lo hi mx) σ)
    (fieldAddr := fun t x f E _ τ σ => fieldAddrF E t (evF τ x) f σ)
    (field := fun t x f E _ τ σ => valF (aField E t (evF τ x) f) σ)
    (indexAddr := fun t x i E _ τ σ => valF (aIndexAddr E t (evF τ x) (evF τ i)) σ)
    (index := fun t x i E _ τ σ => valF (aIndex E t (evF τ x) (evF τ i)) σ)
    (lookup := fun t x i ok E _ τ σ => valF (aLookup E t (evF τ x) (evF τ i) ok σ) σ)
    (mapUpdate := fun t m k x E _ τ σ => aUpdate E t (evF τ m) (evF τ k) (evF τ x) σ)
    (mapEntry := fun _ _ _ _ _ _ _ => none)
    (entryStore := fun _ _ _ _ _ _ _ _ => none)
    (range := fun t x E _ τ σ => aRange E t (evF τ x) σ)
    (next := fun it s E V τ σ => slowF E V τ (.next it s) σ)
    (entry := fun it _ _ τ σ => valF (aEntry (evF τ it) σ) σ)
    (typeAssert := fun _ _ _ _ _ _ _ _ => none)
    (extract := fun x i _ _ τ σ => extractF (evF τ x) i σ)
    (call := fun c E V τ σ => callA V c E τ σ)
    (go := fun _ _ _ _ _ => none)
    (defer := fun _ _ _ _ _ => none)
    (panic := fun _ _ _ _ _ => none)
    (send := fun _ _ _ _ _ _ => none)
    (recv := fun _ _ _ _ _ _ _ => none)
    (select := fun _ _ _ _ _ _ => none)
    op E V τ σ
theorem toR1_vals (V : Ev) (o : Option AV) (σ : St) : toR1 V (vals o σ) = valF o σ := by cases o <;> rfl
theorem toR1_valr (V : Ev) (r : R) : toR1 V (valr r) = r := by
  cases r with
  | none => rfl
  | some p => rfl
theorem oper_toR1 (E : Env) (V : Ev) (τ : Tm) (o : Oper) (σ : St) : oper E V τ o σ = toR1 V (aOp E τ o.op σ) := by
  unfold oper toR1
  rfl
theorem operF_eq (E : Env) (V : Ev) (τ : Tm) (op : Op) (σ : St) : operF E V τ op σ = toR1 V (aOp E τ op σ) := by
  cases op with
  | move x => simp only [operF, aOp, evF_eq]; rfl
  | assign x => simp only [operF, aOp, evF_eq]; rfl
  | pick c a b =>
    simp only [operF, aOp, evF_eq]
    unfold pickF
    cases ev τ c with
    | sc v =>
      cases v with
      | bool x => cases x <;> rfl
      | _ => rfl
    | _ => rfl
  | load t a => simp only [operF, aOp, evF_eq, loadF_eq, toR1_valr]; rfl
  | store t a x => simp only [operF, aOp, evF_eq, storeF_eq, toR1_valr]; rfl
  | binOp o t x y _ =>
    simp only [operF, aOp, evF_eq, binF_eq, toR1_vals]
    cases aBin E σ o t (ev τ x) (ev τ y) <;> rfl
  | fieldAddr t x f =>
    simp only [operF, aOp, evF_eq, fieldAddrF_eq, toR1_vals]
    cases aFieldAddr E t (ev τ x) f <;> rfl
  | nilCheck x =>
    simp only [operF, aOp, evF_eq]
    unfold nilCheckF
    cases isNilable (ev τ x) <;> rfl
  | extract x i =>
    simp only [operF, aOp, evF_eq]
    unfold extractF
    cases ev τ x with
    | tuple vs =>
      simp only [nthF_eq]
      cases vs[i]? <;> rfl
    | _ => rfl
  | makeFunc fn first cap =>
    simp only [operF, aOp]
    unfold makeFuncF
    cases fn <;> simp only [mapF_eq] <;> rfl
  | call c =>
    obtain ⟨callee, args, ats⟩ := c
    simp only [operF]
    unfold callA
    cases callee <;> simp only [mapF_eq, evF_eq] <;> rfl
  | _ => first | rfl | (simp only [operF, aOp, toR1_vals, evF_eq]; done) | (simp only [operF, aOp, toR1_valr, evF_eq]; rfl)
end Go.Vai

/-
  The machine once more (VaiZn): regions, code, calls, all of it: 'EvF.at E n = Ev.at E n'.
-/
namespace Go.Vai
open Go

/-! ### Plain regions -/
noncomputable def doF (E : Env) (V : Ev) (τ : Tm) (o : Oper) (σ : St) (k : Tm → St → R2) : R2 :=
  Option.rec (motive := fun _ => R2) none (fun p => Prod.rec (motive := fun _ => R2) (fun v σ' => putK τ o.dst v (fun τ' => k τ' σ')) p) (operF E V τ o.op σ)
noncomputable def guardF (E : Env) (V : Ev) (ops : List Oper) (τ : Tm) (o : Oper) (σ : St) (k : Tm → St → R2) : R2 :=
  match wantedA ops τ o with
  | some true => doF E V τ o σ k
  | some false => putK τ o.dst (.sc undef) (fun τ' => k τ' σ)
  | none => none
noncomputable def opersF (E : Env) (V : Ev) (ops l : List Oper) : Tm → St → R2 :=
  List.rec (motive := fun _ => Tm → St → R2) (fun τ σ => some (τ, σ))
    (fun o _ ih τ σ => Option.rec (motive := fun _ => R2) (doF E V τ o σ ih) (fun _ => guardF E V ops τ o σ ih) (Oper.guard o)) l
theorem doF_eq (E : Env) (V : Ev) (τ : Tm) (o : Oper) (σ : St) (k : Tm → St → R2) :
    doF E V τ o σ k = match oper E V τ o σ with | some (v, σ') => (match τ.put o.dst v with | some τ' => k τ' σ' | none => none) | none => none := by
  unfold doF
  rw [operF_eq, ← oper_toR1]
  cases oper E V τ o σ with
  | none => rfl
  | some p => obtain ⟨v, σ'⟩ := p; exact putK_eq _ _ _ _
theorem opersF_eq (E : Env) (V : Ev) (ops : List Oper) : ∀ (l : List Oper) (τ : Tm) (σ : St), opersF E V ops l τ σ = opersFrom E V ops l τ σ
  | [], _, _ => rfl
  | o :: l, τ, σ => by
    have hf : opersF E V ops l = opersFrom E V ops l := funext fun τ => funext fun σ => opersF_eq E V ops l τ σ
    have key : guardF E V ops τ o σ (opersF E V ops l) = opersFrom E V ops (o :: l) τ σ := by
      rw [hf]
      unfold guardF
      simp only [opersFrom]
      cases wantedA ops τ o with
      | none => rfl
      | some b =>
        cases b with
        | false => exact putK_eq _ _ _ _
        | true => exact doF_eq _ _ _ _ _ _
    show (Option.rec (doF E V τ o σ (opersF E V ops l)) (fun _ => guardF E V ops τ o σ (opersF E V ops l)) o.guard : R2) = _
    rw [← key]
    cases hg : o.guard with
    | some g => rfl
    | none =>
      unfold guardF wantedA
      rw [hg]

/-! ### Regions that draw their order -/
noncomputable def hidR (mask : Nat) (l : List Rec) : Nat → List (Nat × Nat) → List (Nat × Nat) :=
  List.rec (motive := fun _ => Nat → List (Nat × Nat) → List (Nat × Nat)) (fun _ acc => acc)
    (fun r _ ih i acc => Nat.rec (motive := fun _ => List (Nat × Nat)) acc (fun k _ => Bool.rec (motive := fun _ => List (Nat × Nat))
      (Bool.rec (motive := fun _ => List (Nat × Nat)) (ih k ((Rec.lo r, Rec.hi r) :: acc)) (ih k acc) (Nat.beq (Rec.lo r) (Rec.hi r))) (ih k acc) (Nat.testBit mask k)) i) l
theorem hidFrom_append (mask : Nat) : ∀ (l : List Rec) (i : Nat) (m : List Rec), hidFrom mask i (l ++ m) = hidFrom mask i l ++ hidFrom mask (i + l.length) m
  | [], _, _ => rfl
  | r :: l, i, m => by
    have e : i + (r :: l).length = i + 1 + l.length := by simp; omega
    simp only [List.cons_append, hidFrom]
    rw [hidFrom_append mask l (i + 1) m, e]
    cases (Nat.testBit mask i || Nat.beq r.lo r.hi) <;> rfl
theorem hidR_eq (mask : Nat) : ∀ (l : List Rec) (acc : List (Nat × Nat)), hidR mask l l.length acc = hidFrom mask 0 l.reverse ++ acc
  | [], _ => rfl
  | r :: l, acc => by
    show (Bool.rec (Bool.rec (hidR mask l l.length ((r.lo, r.hi) :: acc)) (hidR mask l l.length acc) (Nat.beq r.lo r.hi)) (hidR mask l l.length acc) (Nat.testBit mask l.length) : List (Nat × Nat)) = _
    rw [hidR_eq mask l, hidR_eq mask l, List.reverse_cons, hidFrom_append]
    simp only [List.length_reverse, Nat.zero_add, hidFrom]
    cases Nat.testBit mask l.length <;> cases Nat.beq r.lo r.hi <;> simp
noncomputable def footF (τ : Tm) (op : Op) (next : Nat) (rest : List (Nat × Nat)) : List (Nat × Nat) :=
  match foot τ op with
  | some l => except1 next l ++ rest
  | none => rest
def R4 := Option (List Rec × Tm × St)
noncomputable def putK4 (τ : Tm) (dst : Option Tmp) (v : AV) (k : Tm → R4) : R4 :=
  Option.rec (motive := fun _ => R4) (k τ) (fun d => Tm.rec (motive := fun _ => R4) (fun t n marks => Bool.rec (motive := fun _ => R4) none (k ⟨setP (pathOf d) t v, n, marks⟩) (Nat.ble (Nat.succ d) n)) τ) dst
theorem putK4_eq (τ : Tm) (dst : Option Tmp) (v : AV) (k : Tm → R4) : putK4 τ dst v k = match τ.put dst v with | some τ' => k τ' | none => none := by
  cases dst with
  | none => rfl
  | some d =>
    cases τ with
    | mk t n marks =>
      show (Bool.rec none (k ⟨setP (pathOf d) t v, n, marks⟩) (Nat.ble (Nat.succ d) n) : R4) = _
      rw [setP_eq]
      simp only [Tm.put, Nat.blt]
      cases Nat.ble (Nat.succ d) n <;> rfl
/-- The run with its records turned round (the newest first). -/
noncomputable def doD (E : Env) (V : Ev) (hid : List (Nat × Nat)) (τ : Tm) (o : Oper) (σ : St) (recs : List Rec) (k : List Rec → Tm → St → R4) : R4 :=
  Option.rec (motive := fun _ => R4) none (fun p => Prod.rec (motive := fun _ => R4) (fun v σ' => putK4 τ o.dst v (fun τ' =>
    k (⟨St.next σ, St.next σ', hid, (St.log σ').filter fun id => Nat.blt id (St.next σ)⟩ :: recs) τ' (St.back σ' σ))) p) (operF E V τ o.op (St.cover σ hid))
noncomputable def guardD (E : Env) (V : Ev) (ops : List Oper) (hid : List (Nat × Nat)) (τ : Tm) (o : Oper) (σ : St) (recs : List Rec) (k : List Rec → Tm → St → R4) : R4 :=
  match wantedA ops τ o with
  | some true => doD E V hid τ o σ recs k
  | some false => putK4 τ o.dst (.sc undef) (fun τ' => k (⟨St.next σ, St.next σ, [(0, St.next σ)], []⟩ :: recs) τ' σ)
  | none => none
noncomputable def drawR (E : Env) (V : Ev) (ops : List Oper) (masks : List Nat) (l : List Oper) : Nat → List Rec → Tm → St → R4 :=
  List.rec (motive := fun _ => Nat → List Rec → Tm → St → R4) (fun _ recs τ σ => some (recs, τ, σ))
    (fun o _ ih j recs τ σ => guardD E V ops (footF τ (Oper.op o) (St.next σ) (hidR (masks.getD j 0) recs j (St.hid σ))) τ o σ recs (ih (Nat.succ j))) l
noncomputable def unR (r : R4) : R4 := match r with | some (recs, τ, σ) => some (recs.reverse, τ, σ) | none => none
theorem drawR_eq (E : Env) (V : Ev) (ops : List Oper) (masks : List Nat) : ∀ (l : List Oper) (recs : List Rec) (τ : Tm) (σ : St),
    unR (drawR E V ops masks l recs.length recs τ σ) = drawFrom E V ops masks l recs.length recs.reverse τ σ
  | [], recs, τ, σ => rfl
  | o :: l, recs, τ, σ => by
    have hh : footF τ o.op σ.next (hidR (masks.getD recs.length 0) recs recs.length σ.hid) =
        (match foot τ o.op with | some l => except1 σ.next l | none => []) ++ (hidFrom (masks.getD recs.length 0) 0 recs.reverse ++ σ.hid) := by
      unfold footF
      rw [hidR_eq]
      cases foot τ o.op <;> rfl
    have ih : ∀ (r : Rec) (τ' : Tm) (σ' : St), unR (drawR E V ops masks l (Nat.succ recs.length) (r :: recs) τ' σ') = drawFrom E V ops masks l (recs.length + 1) (recs.reverse ++ [r]) τ' σ' := by
      intro r τ' σ'
      have := drawR_eq E V ops masks l (r :: recs) τ' σ'
      rw [List.reverse_cons] at this
      exact this
    show unR (guardD E V ops (footF τ o.op σ.next (hidR (masks.getD recs.length 0) recs recs.length σ.hid)) τ o σ recs (drawR E V ops masks l (Nat.succ recs.length))) = _
    rw [hh]
    unfold guardD
    simp only [drawFrom]
    cases wantedA ops τ o with
    | none => rfl
    | some b =>
      cases b with
      | true =>
        simp only [doD]
        rw [operF_eq, ← oper_toR1]
        cases oper E V τ o (σ.cover ((match foot τ o.op with | some l => except1 σ.next l | none => []) ++ (hidFrom (masks.getD recs.length 0) 0 recs.reverse ++ σ.hid))) with
        | none => rfl
        | some p =>
          obtain ⟨v, σ'⟩ := p
          simp only [putK4_eq]
          cases τ.put o.dst v with
          | none => rfl
          | some τ' => exact ih _ _ _
      | false =>
        simp only [putK4_eq]
        cases τ.put o.dst (.sc undef) with
        | none => rfl
        | some τ' => exact ih _ _ _
noncomputable def drawF (E : Env) (V : Ev) (ops : List Oper) (τ : Tm) (σ : St) : R2 :=
  Bool.rec (motive := fun _ => R2) none (match drawR E V ops (masksOf ops) ops 0 [] τ σ with
    | some (recs, τ', σ') => Bool.rec (motive := fun _ => R2) none (some (τ', σ')) (okRecs (masksOf ops) recs.reverse)
    | none => none) (okEdges ops && okOps ops (masksOf ops))
theorem drawF_eq (E : Env) (V : Ev) (ops : List Oper) (τ : Tm) (σ : St) : drawF E V ops τ σ = draw E V ops τ σ := by
  unfold drawF draw
  have h := drawR_eq E V ops (masksOf ops) ops [] τ σ
  simp only [List.length_nil, List.reverse_nil] at h
  show _ = cond (okEdges ops && okOps ops (masksOf ops)) (match drawFrom E V ops (masksOf ops) ops 0 [] τ σ with
    | some (recs, τ', σ') => cond (okRecs (masksOf ops) recs) (some (τ', σ')) none
    | none => none) none
  rw [← h]
  cases (okEdges ops && okOps ops (masksOf ops)) with
  | false => rfl
  | true =>
    cases drawR E V ops (masksOf ops) ops 0 [] τ σ with
    | none => rfl
    | some p =>
      obtain ⟨recs, τ', σ'⟩ := p
      simp only [unR, cond_true]
      cases okRecs (masksOf ops) recs.reverse <;> rfl

/-! ### Code -/
def R3 := Option (AExit × Tm × St)
noncomputable def seqK (r : R3) (k : Tm → St → R3) : R3 :=
  Option.rec (motive := fun _ => R3) none (fun p => Prod.rec (motive := fun _ => R3) (fun x q =>
    AExit.rec (motive := fun _ => R3) (Prod.rec (motive := fun _ => R3) (fun τ σ => k τ σ) q) (fun i => some (.exit i, q)) (fun l => some (.goto l, q)) (some (.ret, q)) x) p) r
theorem seqK_eq (r : R3) (k : Tm → St → R3) : seqK r k = match r with | some (.normal, τ, σ) => k τ σ | r => r := by
  cases r with
  | none => rfl
  | some p =>
    obtain ⟨x, τ, σ⟩ := p
    cases x <;> rfl
noncomputable def blockK (id : Nat) (r : R3) : R3 :=
  Option.rec (motive := fun _ => R3) none (fun p => Prod.rec (motive := fun _ => R3) (fun x q =>
    AExit.rec (motive := fun _ => R3) (some (.normal, q)) (fun i => Bool.rec (motive := fun _ => R3) (some (.exit i, q)) (some (.normal, q)) (Nat.beq i id)) (fun l => some (.goto l, q)) (some (.ret, q)) x) p) r
noncomputable def condK (V : Ev) (rd : Option Nat) (v : AV) (x y : Code) (τ : Tm) (σ : St) : R3 :=
  match v with
  | .sc (.bool b) => Bool.rec (motive := fun _ => R3) (Ev.code V rd y τ σ) (Ev.code V rd x τ σ) b
  | _ => none
noncomputable def normK (r : R2) : R3 := Option.rec (motive := fun _ => R3) none (fun p => some (.normal, p)) r
noncomputable def codeF (E : Env) (V : Ev) (rd : Option Nat) (c : Code) (τ : Tm) (σ : St) : R3 :=
  Code.rec (motive := fun _ => Env → Ev → Option Nat → Tm → St → R3)
    (skip := fun _ _ _ τ σ => some (.normal, τ, σ))
    (region := fun _ ops d E V _ τ σ => Bool.rec (motive := fun _ => R3) (normK (opersF E V ops.toList ops.toList τ σ)) (normK (drawF E V ops.toList τ σ)) d)
    (seq := fun a b _ _ _ V rd τ σ => seqK (Ev.code V rd a τ σ) (Ev.code V rd b))
    (cond := fun c x y _ _ _ V rd τ σ => condK V rd (evF τ c) x y τ σ)
    (block := fun id c _ _ V rd τ σ => blockK id (Ev.code V rd c τ σ))
    (loop := fun c _ _ V rd τ σ => seqK (Ev.code V rd c τ σ) (Ev.code V rd (.loop c)))
    (rangeFunc := fun g ps asg body _ _ _ V rd τ σ => rangeFuncA V rd (evF τ g) ps.toList asg body τ σ)
    (exit := fun id _ _ _ τ σ => some (.exit id, τ, σ))
    (scope := fun _ _ _ _ _ _ _ => none)
    (label := fun _ _ _ _ τ σ => some (.normal, τ, σ))
    (goto := fun l _ _ _ τ σ => some (.goto l, τ, σ))
    (ret := fun _ _ _ τ σ => some (.ret, τ, σ))
    (refuse := fun _ _ _ _ _ _ => none)
    c E V rd τ σ
theorem codeF_eq (E : Env) (V : Ev) (rd : Option Nat) (c : Code) (τ : Tm) (σ : St) : codeF E V rd c τ σ = codeStep E V rd c τ σ := by
  cases c with
  | region id ops d =>
    cases d with
    | false =>
      show normK (opersF E V ops.toList ops.toList τ σ) = (opersFrom E V ops.toList ops.toList τ σ).map fun p => (.normal, p.1, p.2)
      rw [opersF_eq]
      cases opersFrom E V ops.toList ops.toList τ σ <;> rfl
    | true =>
      show normK (drawF E V ops.toList τ σ) = (draw E V ops.toList τ σ).map fun p => (.normal, p.1, p.2)
      rw [drawF_eq]
      cases draw E V ops.toList τ σ <;> rfl
  | seq a b => exact seqK_eq _ _
  | loop c => exact seqK_eq _ _
  | cond c x y =>
    show condK V rd (evF τ c) x y τ σ = _
    rw [evF_eq]
    unfold condK
    simp only [codeStep]
    cases ev τ c with
    | sc v =>
      cases v with
      | bool b => cases b <;> rfl
      | _ => rfl
    | _ => rfl
  | block id c =>
    show blockK id (V.code rd c τ σ) = _
    simp only [codeStep]
    cases V.code rd c τ σ with
    | none => rfl
    | some p =>
      obtain ⟨x, τ', σ'⟩ := p
      cases x with
      | exit i =>
        simp only [blockK]
        cases Nat.beq i id <;> rfl
      | _ => rfl
  | rangeFunc g ps asg body =>
    show rangeFuncA V rd (evF τ g) ps.toList asg body τ σ = _
    rw [evF_eq]
    rfl
  | _ => rfl

/-! ### Calls -/
noncomputable def putAllF (l : List AV) : T AV → Nat → T AV :=
  List.rec (motive := fun _ => T AV → Nat → T AV) (fun t _ => t) (fun v _ ih t i => ih (setP (pathOf i) t v) (Nat.succ i)) l
theorem putAllF_eq : ∀ (l : List AV) (t : T AV) (i : Nat), putAllF l t i = putAll t i l
  | [], _, _ => rfl
  | v :: l, t, i => by
    show putAllF l (setP (pathOf i) t v) (Nat.succ i) = _
    rw [putAllF_eq l, setP_eq]
    rfl
noncomputable def lenF (l : List AV) : Nat := List.rec (motive := fun _ => Nat) 0 (fun _ _ ih => Nat.succ ih) l
theorem lenF_eq : ∀ l, lenF l = l.length
  | [] => rfl
  | _ :: l => congrArg Nat.succ (lenF_eq l)
noncomputable def resK (E : Env) (τ : Tm) (σ : St) (l : List ResultVar) : (List AV → R1) → R1 :=
  List.rec (motive := fun _ => (List AV → R1) → R1) (fun k => k []) (fun r _ ih k =>
    ResultVar.rec (motive := fun _ => R1) (fun t => ih fun vs => k (getT τ t :: vs))
      (fun a t => Option.rec (motive := fun _ => R1) none (fun p => ih fun vs => k (Prod.fst p :: vs)) (aLoad E t (getT τ a) σ)) r) l
theorem resK_eq (E : Env) (τ : Tm) (σ : St) : ∀ (l : List ResultVar) (k : List AV → R1), resK E τ σ l k = match resultsA E τ σ l with | some vs => k vs | none => none
  | [], k => rfl
  | .tmp t :: l, k => by
    show resK E τ σ l (fun vs => k (getT τ t :: vs)) = _
    rw [resK_eq E τ σ l, getT_eq]
    simp only [resultsA]
    cases resultsA E τ σ l <;> rfl
  | .cell a t :: l, k => by
    show (Option.rec none (fun p => resK E τ σ l fun vs => k (Prod.fst p :: vs)) (aLoad E t (getT τ a) σ) : R1) = _
    rw [getT_eq]
    simp only [resultsA]
    cases aLoad E t (τ.get a) σ with
    | none => rfl
    | some p =>
      show resK E τ σ l (fun vs => k (p.1 :: vs)) = _
      rw [resK_eq E τ σ l]
      obtain ⟨v, _⟩ := p
      cases resultsA E τ σ l <;> rfl
noncomputable def finF (E : Env) (fn : Func) (τ : Tm) (σ : St) : R1 :=
  match takeMarks (Tm.marks τ) σ with
  | some σ' => resK E τ σ' fn.results.toList (fun vs => some (one vs, σ'))
  | none => none
noncomputable def retK (r : R3) (k : Tm → St → R1) : R1 :=
  Option.rec (motive := fun _ => R1) none (fun p => Prod.rec (motive := fun _ => R1) (fun x q => Prod.rec (motive := fun _ => R1) (fun τ σ =>
    AExit.rec (motive := fun _ => R1) (k τ σ) (fun _ => none) (fun _ => none) (k τ σ) x) q) p) r
noncomputable def callF (E : Env) (V : Ev) (f : FuncId) (args : List AV) (σ : St) : R1 :=
  Option.rec (motive := fun _ => R1) none (fun fn => Option.rec (motive := fun _ => R1) none (fun c =>
    Bool.rec (motive := fun _ => R1) none (retK (Ev.code V none c ⟨putAllF args .leaf 0, Func.ntmps fn, []⟩ σ) (finF E fn)) (Nat.ble (lenF args) (Func.ntmps fn))) (Func.body fn)) (T.get (Env.fn E) f)
theorem callF_eq (E : Env) (V : Ev) (f : FuncId) (args : List AV) (σ : St) : callF E V f args σ = callStep E V f args σ := by
  unfold callF callStep
  cases E.fn.get f with
  | none => rfl
  | some fn =>
    simp only
    cases fn.body with
    | none => rfl
    | some c =>
      simp only [lenF_eq, putAllF_eq]
      cases Nat.ble args.length fn.ntmps with
      | false => rfl
      | true =>
        simp only [cond_true]
        cases V.code none c ⟨putAll .leaf 0 args, fn.ntmps, []⟩ σ with
        | none => rfl
        | some p =>
          obtain ⟨x, τ, σ'⟩ := p
          have fin : finF E fn τ σ' = match takeMarks τ.marks σ' with | some σ'' => (resultsA E τ σ'' fn.results.toList).map fun l => (one l, σ'') | none => none := by
            unfold finF
            cases takeMarks τ.marks σ' with
            | none => rfl
            | some σ'' =>
              refine (resK_eq E τ σ'' fn.results.toList _).trans ?_
              show _ = (resultsA E τ σ'' fn.results.toList).map fun l => (one l, σ'')
              cases resultsA E τ σ'' fn.results.toList <;> rfl
          cases x <;> first | rfl | exact fin

noncomputable def EvF.at (E : Env) (n : Nat) : Ev := Nat.rec (motive := fun _ => Ev) Ev.none (fun _ V => ⟨codeF E V, callF E V, roundStep V⟩) n
theorem EvF.at_eq (E : Env) : ∀ n, EvF.at E n = Ev.at E n
  | 0 => rfl
  | n + 1 => by
    show (⟨codeF E (EvF.at E n), callF E (EvF.at E n), roundStep (EvF.at E n)⟩ : Ev) = ⟨codeStep E (Ev.at E n), callStep E (Ev.at E n), roundStep (Ev.at E n)⟩
    rw [EvF.at_eq E n]
    have h1 : codeF E (Ev.at E n) = codeStep E (Ev.at E n) := by
      funext rd c τ σ
      exact codeF_eq E _ rd c τ σ
    have h2 : callF E (Ev.at E n) = callStep E (Ev.at E n) := by
      funext f args σ
      exact callF_eq E _ f args σ
    rw [h1, h2]
noncomputable def runF (E : Env) (n : Nat) (f : FuncId) : Option (AV × St) := (EvF.at E n).call f [] ⟨.leaf, 0, [], []⟩
theorem runF_eq (E : Env) (n : Nat) (f : FuncId) : runF E n f = run E n f := by
  unfold runF run
  rw [EvF.at_eq]
end Go.Vai

/-
  Equality of states by a boolean function; calls whose outcome is known; loops so many rounds at a time.
-/
namespace Go.Vai
open Go

/-! ### Equality, decided -/
section
variable {α : Type}
noncomputable def sameL (f : α → α → Bool) (l : List α) : List α → Bool :=
  List.rec (motive := fun _ => List α → Bool) (fun m => List.rec (motive := fun _ => Bool) true (fun _ _ _ => false) m)
    (fun x _ ih m => List.rec (motive := fun _ => Bool) false (fun y m' _ => Bool.rec (motive := fun _ => Bool) false (ih m') (f x y)) m) l
theorem sameL_ok {f : α → α → Bool} (hf : ∀ x y, f x y = true → x = y) : ∀ (l m : List α), sameL f l m = true → l = m
  | [], [], _ => rfl
  | [], _ :: _, h => by cases h
  | _ :: _, [], h => by cases h
  | x :: l, y :: m, h => by
    have h' : (Bool.rec false (sameL f l m) (f x y) : Bool) = true := h
    cases hx : f x y with
    | false => rw [hx] at h'; cases h'
    | true =>
      rw [hx] at h'
      rw [hf x y hx, sameL_ok hf l m h']
noncomputable def sameOpt (f : α → α → Bool) (a b : Option α) : Bool :=
  Option.rec (motive := fun _ => Bool) (Option.rec (motive := fun _ => Bool) true (fun _ => false) b) (fun x => Option.rec (motive := fun _ => Bool) false (fun y => f x y) b) a
theorem sameOpt_ok {f : α → α → Bool} (hf : ∀ x y, f x y = true → x = y) : ∀ (a b : Option α), sameOpt f a b = true → a = b
  | none, none, _ => rfl
  | none, some _, h => by cases h
  | some _, none, h => by cases h
  | some x, some y, h => by rw [hf x y h]
noncomputable def sameT (f : α → α → Bool) (t : T α) : T α → Bool :=
  T.rec (motive := fun _ => T α → Bool) (fun u => T.rec (motive := fun _ => Bool) true (fun _ _ _ _ _ => false) u)
    (fun v _ _ ihl ihr u => T.rec (motive := fun _ => Bool) false (fun v' l' r' _ _ => Bool.rec (motive := fun _ => Bool) false (Bool.rec (motive := fun _ => Bool) false (ihr r') (ihl l')) (sameOpt f v v')) u) t
theorem sameT_ok {f : α → α → Bool} (hf : ∀ x y, f x y = true → x = y) : ∀ (t u : T α), sameT f t u = true → t = u
  | .leaf, .leaf, _ => rfl
  | .leaf, .node _ _ _, h => by cases h
  | .node _ _ _, .leaf, h => by cases h
  | .node v l r, .node v' l' r', h => by
    have h' : (Bool.rec false (Bool.rec false (sameT f r r') (sameT f l l')) (sameOpt f v v') : Bool) = true := h
    cases hv : sameOpt f v v' with
    | false => rw [hv] at h'; cases h'
    | true =>
      rw [hv] at h'
      cases hl : sameT f l l' with
      | false => rw [hl] at h'; cases h'
      | true =>
        rw [hl] at h'
        rw [sameOpt_ok hf v v' hv, sameT_ok hf l l' hl, sameT_ok hf r r' h']
end
theorem beq_ok (a b : Nat) (h : Nat.beq a b = true) : a = b := beqT h
noncomputable def sameB (a b : Bool) : Bool := Bool.rec (motive := fun _ => Bool) (notF b) b a
theorem sameB_ok (a b : Bool) (h : sameB a b = true) : a = b := by cases a <;> cases b <;> first | rfl | cases h
noncomputable def sameI (k : IntKind) (a : Int) (j : IntKind) (b : Int) : Bool := Bool.rec (motive := fun _ => Bool) false (eqF a b) (decide (k = j))
theorem sameI_ok {k : IntKind} {a : Int} {j : IntKind} {b : Int} (h : sameI k a j b = true) : k = j ∧ a = b := by
  unfold sameI at h
  cases hd : decide (k = j) with
  | false => rw [hd] at h; cases h
  | true =>
    rw [hd] at h
    refine ⟨of_decide_eq_true hd, ?_⟩
    have : eqF a b = true := h
    rw [eqF_eq] at this
    simpa using this
noncomputable def sameV : Nat → Value → Value → Bool
  | 0, _, _ => false
  | n + 1, a, b => match a, b with
    | .int k a, .int j b => sameI k a j b
    | .bool a, .bool b => sameB a b
    | .string a, .string b => a.data.toList == b.data.toList
    | .pointer none, .pointer none => true
    | .slice none 0 0, .slice none 0 0 => true
    | .map none, .map none => true
    | .nilFunc, .nilFunc => true
    | .nilIface, .nilIface => true
    | .func (.func f) a b, .func (.func g) c d => Nat.beq f g && sameL (sameV n) a.toList c.toList && sameL (sameV n) b.toList d.toList
    | .agg a, .agg b => sameL (sameV n) a.toList b.toList
    | .tuple a, .tuple b => sameL (sameV n) a.toList b.toList
    | _, _ => false
theorem sameV_ok : ∀ (n : Nat) (a b : Value), sameV n a b = true → a = b
  | 0, _, _, h => by cases h
  | n + 1, a, b, h => by
    unfold sameV at h
    split at h
    · obtain ⟨rfl, rfl⟩ := sameI_ok h; rfl
    · rw [sameB_ok _ _ h]
    · rename_i a b
      have : a.data.toList = b.data.toList := by simpa using h
      cases a with | mk a => cases b with | mk b => simp only at this; rw [Array.toList_inj.1 this]
    · rfl
    · rfl
    · rfl
    · rfl
    · rfl
    · rename_i f a b g c d
      simp only [Bool.and_eq_true] at h
      obtain ⟨⟨h1, h2⟩, h3⟩ := h
      rw [beqT h1, Array.toList_inj.1 (sameL_ok (sameV_ok n) _ _ h2), Array.toList_inj.1 (sameL_ok (sameV_ok n) _ _ h3)]
    · rw [Array.toList_inj.1 (sameL_ok (sameV_ok n) _ _ h)]
    · rw [Array.toList_inj.1 (sameL_ok (sameV_ok n) _ _ h)]
    · cases h
noncomputable def sameA : Nat → AV → AV → Bool
  | 0, _, _ => false
  | n + 1, a, b => match a, b with
    | .sc a, .sc b => sameV n a b
    | .ptr i g o k, .ptr i' g' o' k' => Nat.beq i i' && Nat.beq g g' && Nat.beq o o' && Nat.beq k k'
    | .slice i g o l e m, .slice i' g' o' l' e' m' => Nat.beq i i' && Nat.beq g g' && Nat.beq o o' && Nat.beq l l' && Nat.beq e e' && Nat.beq m m'
    | .map i, .map j => Nat.beq i j
    | .yield i, .yield j => Nat.beq i j
    | .func (.func f) a b, .func (.func g) c d => Nat.beq f g && sameL (sameA n) a c && sameL (sameA n) b d
    | .agg a, .agg b => sameL (sameA n) a b
    | .tuple a, .tuple b => sameL (sameA n) a b
    | _, _ => false
theorem sameA_ok : ∀ (n : Nat) (a b : AV), sameA n a b = true → a = b
  | 0, _, _, h => by cases h
  | n + 1, a, b, h => by
    unfold sameA at h
    split at h
    · rw [sameV_ok n _ _ h]
    · simp only [Bool.and_eq_true] at h
      obtain ⟨⟨⟨h1, h2⟩, h3⟩, h4⟩ := h
      rw [beqT h1, beqT h2, beqT h3, beqT h4]
    · simp only [Bool.and_eq_true] at h
      obtain ⟨⟨⟨⟨⟨h1, h2⟩, h3⟩, h4⟩, h5⟩, h6⟩ := h
      rw [beqT h1, beqT h2, beqT h3, beqT h4, beqT h5, beqT h6]
    · rw [beqT h]
    · rw [beqT h]
    · simp only [Bool.and_eq_true] at h
      obtain ⟨⟨h1, h2⟩, h3⟩ := h
      rw [beqT h1, sameL_ok (sameA_ok n) _ _ h2, sameL_ok (sameA_ok n) _ _ h3]
    · rw [sameL_ok (sameA_ok n) _ _ h]
    · rw [sameL_ok (sameA_ok n) _ _ h]
    · cases h
noncomputable def sameE (a b : AEntry) : Bool := Nat.beq a.born b.born && sameA 6 a.key b.key && sameA 6 a.val b.val
theorem sameE_ok (a b : AEntry) (h : sameE a b = true) : a = b := by
  cases a; cases b
  simp only [sameE, Bool.and_eq_true] at h
  obtain ⟨⟨h1, h2⟩, h3⟩ := h
  rw [beqT h1, sameA_ok _ _ _ h2, sameA_ok _ _ _ h3]
noncomputable def sameO (a b : AObj) : Bool :=
  match a, b with
  | .row g m l, .row g' m' l' => Nat.beq g g' && Nat.beq m m' && sameL (sameA 6) l l'
  | .map es c, .map es' c' => Nat.beq c c' && sameL sameE es es'
  | .iter m s l k, .iter m' s' l' k' => sameOpt Nat.beq m m' && Nat.beq s s' && sameL Nat.beq l l' && Nat.beq k k'
  | .dfr a, .dfr b => sameB a b
  | .gone, .gone => true
  | .set a, .set b => sameL eqF a b
  | _, _ => false
theorem sameO_ok (a b : AObj) (h : sameO a b = true) : a = b := by
  unfold sameO at h
  split at h
  · simp only [Bool.and_eq_true] at h
    obtain ⟨⟨h1, h2⟩, h3⟩ := h
    rw [beqT h1, beqT h2, sameL_ok (sameA_ok 6) _ _ h3]
  · simp only [Bool.and_eq_true] at h
    obtain ⟨h1, h2⟩ := h
    rw [beqT h1, sameL_ok sameE_ok _ _ h2]
  · simp only [Bool.and_eq_true] at h
    obtain ⟨⟨⟨h1, h2⟩, h3⟩, h4⟩ := h
    rw [sameOpt_ok beq_ok _ _ h1, beqT h2, sameL_ok beq_ok _ _ h3, beqT h4]
  · rw [sameB_ok _ _ h]
  · rfl
  · rw [sameL_ok (fun x y h => by rw [eqF_eq] at h; simpa using h) _ _ h]
  · cases h
noncomputable def sameP (a b : Nat × Nat) : Bool := Prod.rec (motive := fun _ => Bool) (fun x y => Prod.rec (motive := fun _ => Bool) (fun x' y' => Bool.rec (motive := fun _ => Bool) false (Nat.beq y y') (Nat.beq x x')) b) a
theorem sameP_ok (a b : Nat × Nat) (h : sameP a b = true) : a = b := by
  obtain ⟨x, y⟩ := a
  obtain ⟨x', y'⟩ := b
  have h' : (Bool.rec false (Nat.beq y y') (Nat.beq x x') : Bool) = true := h
  cases hx : Nat.beq x x' with
  | false => rw [hx] at h'; cases h'
  | true => rw [hx] at h'; rw [beqT hx, beqT h']
noncomputable def sameSt (a b : St) : Bool := Nat.beq (St.next a) (St.next b) && sameL sameP (St.hid a) (St.hid b) && sameL Nat.beq (St.log a) (St.log b) && sameT sameO (St.h a) (St.h b)
theorem sameSt_ok (a b : St) (h : sameSt a b = true) : a = b := by
  cases a; cases b
  simp only [sameSt, Bool.and_eq_true] at h
  obtain ⟨⟨⟨h1, h2⟩, h3⟩, h4⟩ := h
  rw [beqT h1, sameL_ok sameP_ok _ _ h2, sameL_ok beq_ok _ _ h3, sameT_ok sameO_ok _ _ h4]
noncomputable def sameTm (a b : Tm) : Bool := Nat.beq (Tm.n a) (Tm.n b) && sameL Nat.beq (Tm.marks a) (Tm.marks b) && sameT (sameA 8) (Tm.t a) (Tm.t b)
theorem sameTm_ok (a b : Tm) (h : sameTm a b = true) : a = b := by
  cases a; cases b
  simp only [sameTm, Bool.and_eq_true] at h
  obtain ⟨⟨h1, h2⟩, h3⟩ := h
  rw [beqT h1, sameL_ok beq_ok _ _ h2, sameT_ok (sameA_ok 8) _ _ h3]

/-! ### Calls whose outcome is known -/
def CodeOk (E : Env) (P : Program) (rd : Option Nat) (c : Code) (τ : Tm) (σ : St) (x : AExit) (τ' : Tm) (σ' : St) : Prop := Tr σ σ' ∧ CodeSound E P rd c τ σ x τ' σ'
def CallOk (E : Env) (P : Program) (f : FuncId) (args : List AV) (σ : St) (v : AV) (σ' : St) : Prop := Tr σ σ' ∧ (∃ fn, E.fn.get f = some fn ∧ fn.body ≠ none) ∧
    ∀ (B : Nat) (β : Map) (w : World) (us : List Value) (F : Fence) (n : Nat), Open F → HR E B β σ.look w → WF σ → Fresh β σ.next σ'.next → VRs β args us → CallsIn F n P f us.toArray w (RetP E B β σ σ' w v)
structure Entry where
  f : FuncId
  args : List AV
  σ : St
  v : AV
  σ' : St
noncomputable def hit (e : Entry) (f : FuncId) (args : List AV) (σ : St) : Bool :=
  Bool.rec (motive := fun _ => Bool) false (Bool.rec (motive := fun _ => Bool) false (Bool.rec (motive := fun _ => Bool) false (sameSt (Entry.σ e) σ) (sameL (sameA 8) (Entry.args e) args))
    (Nat.beq (St.next (Entry.σ e)) (St.next σ))) (Nat.beq (Entry.f e) f)
theorem hit_ok {e : Entry} {f : FuncId} {args : List AV} {σ : St} (h : hit e f args σ = true) : e.f = f ∧ e.args = args ∧ e.σ = σ := by
  unfold hit at h
  cases h1 : Nat.beq e.f f with
  | false => rw [h1] at h; cases h
  | true =>
    rw [h1] at h
    cases h2 : Nat.beq e.σ.next σ.next with
    | false => rw [h2] at h; cases h
    | true =>
      rw [h2] at h
      cases h3 : sameL (sameA 8) e.args args with
      | false => rw [h3] at h; cases h
      | true =>
        rw [h3] at h
        exact ⟨beqT h1, sameL_ok (sameA_ok 8) _ _ h3, sameSt_ok _ _ h⟩
noncomputable def knownF (l : List Entry) (f : FuncId) (args : List AV) (σ : St) (slow : R1) : R1 :=
  List.rec (motive := fun _ => R1) slow (fun e _ ih => Bool.rec (motive := fun _ => R1) ih (some (Entry.v e, Entry.σ' e)) (hit e f args σ)) l
theorem knownF_ok : ∀ (l : List Entry) {f : FuncId} {args : List AV} {σ : St} {slow : R1} {r : AV × St}, knownF l f args σ slow = some r → slow = some r ∨ ∃ e ∈ l, e.f = f ∧ e.args = args ∧ e.σ = σ ∧ r = (e.v, e.σ')
  | [], _, _, _, _, _, h => .inl h
  | e :: l, f, args, σ, slow, r, h => by
    have h' : (Bool.rec (knownF l f args σ slow) (some (e.v, e.σ')) (hit e f args σ) : R1) = some r := h
    cases hh : hit e f args σ with
    | false =>
      rw [hh] at h'
      rcases knownF_ok l h' with h2 | ⟨e', he, hr⟩
      · exact .inl h2
      · exact .inr ⟨e', List.mem_cons_of_mem _ he, hr⟩
    | true =>
      rw [hh] at h'
      obtain ⟨h1, h2, h3⟩ := hit_ok hh
      exact .inr ⟨e, List.mem_cons_self, h1, h2, h3, (Option.some.inj h').symm⟩
noncomputable def EvK.at (E : Env) (l : List Entry) (n : Nat) : Ev :=
  Nat.rec (motive := fun _ => Ev) Ev.none (fun _ V => ⟨codeF E V, fun f args σ => knownF l f args σ (callF E V f args σ), roundStep V⟩) n
def Known (E : Env) (P : Program) (l : List Entry) : Prop := ∀ e ∈ l, CallOk E P e.f e.args e.σ e.v e.σ'
section
variable {E : Env} {P : Program}
theorem known_sound (hE : EnvOk E P) {l : List Entry} (hl : Known E P l) : ∀ n, Sound E P (EvK.at E l n)
  | 0 => none_sound
  | n + 1 => by
    have ih := known_sound hE hl n
    have hs := next_sound hE (draw_ok hE) ih
    refine ⟨?_, ?_, ?_⟩
    · intro rd c τ σ x τ' σ' h
      have h' : codeF E (EvK.at E l n) rd c τ σ = some (x, τ', σ') := h
      rw [codeF_eq] at h'
      exact hs.code rd c τ σ x τ' σ' h'
    · intro f args σ v σ' h
      have h' : knownF l f args σ (callF E (EvK.at E l n) f args σ) = some (v, σ') := h
      rcases knownF_ok l h' with h2 | ⟨e, he, h1, h2, h3, hr⟩
      · rw [callF_eq] at h2
        exact hs.call f args σ v σ' h2
      · cases hr
        subst h1 h2 h3
        exact hl e he
    · intro l' args σ v σ' h
      exact hs.round l' args σ v σ' h

/-! ### Loops, so many rounds at a time; code in pieces -/
noncomputable def roundsF (V : Ev) (rd : Option Nat) (c : Code) (k : Nat) : Tm → St → R2 :=
  Nat.rec (motive := fun _ => Tm → St → R2) (fun τ σ => some (τ, σ)) (fun _ ih τ σ => Option.rec (motive := fun _ => R2) none (fun p => Prod.rec (motive := fun _ => R2) (fun x q =>
    AExit.rec (motive := fun _ => R2) (Prod.rec (motive := fun _ => R2) (fun τ' σ' => ih τ' σ') q) (fun _ => none) (fun _ => none) none x) p) (Ev.code V rd c τ σ)) k
theorem loop_ok {rd : Option Nat} {c : Code} {τ τ1 τ' : Tm} {σ σ1 σ' : St} {x : AExit} (h1 : CodeOk E P rd c τ σ .normal τ1 σ1) (h2 : CodeOk E P rd (.loop c) τ1 σ1 x τ' σ') : CodeOk E P rd (.loop c) τ σ x τ' σ' := by
  obtain ⟨t1, s1⟩ := h1
  obtain ⟨t2, s2⟩ := h2
  refine ⟨t1.trans t2, fun B β w a F n Q hO hrd hR hW hF ht hQ => loopJ_round (wpL_wpIn (s1 B β w a F n _ hO hrd hR hW (fresh_first t2 hF) ht ?_))⟩
  intro β1 w1 a1 hR1 hS1 ht1
  refine s2 B β1 w1 a1 F n Q hO (hrd.mono hS1.sub) hR1 (t1.wf hW) (fresh_then t1 hW hF hS1) ht1 ?_
  intro β2 w2 a2 hR2 hS2 ht2
  exact hQ β2 w2 a2 hR2 (step_trans t1 t2 hW hF hS1 hS2) ht2
theorem rounds_ok {V : Ev} (hV : Sound E P V) {rd : Option Nat} {c : Code} {x : AExit} {τ' : Tm} {σ' : St} : ∀ (k : Nat) (τ τ1 : Tm) (σ σ1 : St), roundsF V rd c k τ σ = some (τ1, σ1) →
    CodeOk E P rd (.loop c) τ1 σ1 x τ' σ' → CodeOk E P rd (.loop c) τ σ x τ' σ'
  | 0, τ, τ1, σ, σ1, h, h2 => by cases h; exact h2
  | k + 1, τ, τ1, σ, σ1, h, h2 => by
    have h' : (Option.rec none (fun p => Prod.rec (fun x q => AExit.rec (Prod.rec (fun τ' σ' => roundsF V rd c k τ' σ') q) (fun _ => none) (fun _ => none) none x) p) (V.code rd c τ σ) : R2) = some (τ1, σ1) := h
    cases hc : V.code rd c τ σ with
    | none => rw [hc] at h'; cases h'
    | some p =>
      obtain ⟨y, τ2, σ2⟩ := p
      rw [hc] at h'
      cases y with
      | normal => exact loop_ok (hV.code _ _ _ _ _ _ _ hc) (rounds_ok hV k τ2 τ1 σ2 σ1 h' h2)
      | _ => cases h'
theorem seq_ok {rd : Option Nat} {c d : Code} {τ τ1 τ' : Tm} {σ σ1 σ' : St} {x : AExit} (h1 : CodeOk E P rd c τ σ .normal τ1 σ1) (h2 : CodeOk E P rd d τ1 σ1 x τ' σ') : CodeOk E P rd (.seq c d) τ σ x τ' σ' := by
  obtain ⟨t1, s1⟩ := h1
  obtain ⟨t2, s2⟩ := h2
  refine ⟨t1.trans t2, fun B β w a F n Q hO hrd hR hW hF ht hQ => wpIn_seq (wpL_wpIn (s1 B β w a F n _ hO hrd hR hW (fresh_first t2 hF) ht ?_))⟩
  intro β1 w1 a1 hR1 hS1 ht1
  refine wpL_wpIn (s2 B β1 w1 a1 F n Q hO (hrd.mono hS1.sub) hR1 (t1.wf hW) (fresh_then t1 hW hF hS1) ht1 ?_)
  intro β2 w2 a2 hR2 hS2 ht2
  exact hQ β2 w2 a2 hR2 (step_trans t1 t2 hW hF hS1 hS2) ht2
open Classical in
/-- One run of code is known. -/
noncomputable def oneCode (rd : Option Nat) (c : Code) (τ : Tm) (σ : St) (r : AExit × Tm × St) : Ev :=
  ⟨fun rd' c' τ' σ' => if rd' = rd ∧ c' = c ∧ τ' = τ ∧ σ' = σ then some r else none, fun _ _ _ => none, fun _ _ _ => none⟩
theorem oneCode_sound {rd : Option Nat} {c : Code} {τ τ' : Tm} {σ σ' : St} {x : AExit} (h : CodeOk E P rd c τ σ x τ' σ') : Sound E P (oneCode rd c τ σ (x, τ', σ')) := by
  refine ⟨?_, fun _ _ _ _ _ h => (by cases h), fun _ _ _ _ _ h => (by cases h)⟩
  intro rd1 c1 τ1 σ1 x1 τ2 σ2 h1
  simp only [oneCode] at h1
  split at h1
  · rename_i e
    obtain ⟨rfl, rfl, rfl, rfl⟩ := e
    cases h1
    exact h
  · cases h1
theorem block_ok (hE : EnvOk E P) {rd : Option Nat} {id : Nat} {c : Code} {τ τ' : Tm} {σ σ' : St} {x : AExit} (h : CodeOk E P rd c τ σ x τ' σ') :
    CodeOk E P rd (.block id c) τ σ (match x with | .exit i => cond (Nat.beq i id) .normal (.exit i) | y => y) τ' σ' := by
  refine code_step hE (draw_ok hE) (oneCode_sound h) ?_
  simp only [codeStep, oneCode, and_self, if_true]
  cases x with
  | exit i =>
    simp only
    cases Nat.beq i id <;> rfl
  | _ => rfl
theorem call_ok' (hE : EnvOk E P) {f : FuncId} {fn : Func} {c : Code} {args : List AV} {τ : Tm} {σ σ1 : St} {x : AExit} {v : AV} {σ' : St} (hf : E.fn.get f = some fn) (hc : fn.body = some c) (ha : Nat.ble args.length fn.ntmps = true)
    (h : CodeOk E P none c ⟨putAll .leaf 0 args, fn.ntmps, []⟩ σ x τ σ1) (hx : x = .normal ∨ x = .ret) (hfin : finF E fn τ σ1 = some (v, σ')) : CallOk E P f args σ v σ' := by
  refine call_step hE (oneCode_sound h) ?_
  rw [← callF_eq]
  unfold callF
  rw [hf]
  simp only [hc, lenF_eq, ha, putAllF_eq, oneCode, and_self, if_true]
  rcases hx with rfl | rfl <;> exact hfin
theorem closed_call {f : FuncId} {v : AV} {σ : St} (h : CallOk E P f [] ⟨.leaf, 0, [], []⟩ v σ) {w : World}
    (hgl : ∀ g cs, E.gl.get g = some cs → g < w.heap.size ∧ ∀ (i : Nat) v, cs[i]? = some v → w.cell? ⟨g, i, none⟩ = some v) :
    Calls P f #[] w fun e w' => ∃ β u, e = .returned u ∧ VR β v u ∧ w'.os = w.os ∧ w'.tape = w.tape ∧ w'.output = w.output ∧ w.heap.size ≤ w'.heap.size ∧ ∀ b, b < w.heap.size → w'.heap[b]? = w.heap[b]? := by
  obtain ⟨_, _, hc⟩ := h
  have hR : HR E w.heap.size ⟨fun _ _ => none, fun _ => none⟩ (⟨.leaf, 0, [], []⟩ : St).look w := by
    refine ⟨?_, ?_, ?_, hgl, Nat.le_refl _, fun b o hb => by cases hb⟩
    · intro id o ho; simp [St.look, hidden, T.get] at ho
    · intro id o g l ho; simp [St.look, hidden, T.get] at ho
    · intro id o id' o' g g' l l' ho; simp [St.look, hidden, T.get] at ho
  have hW : WF ⟨.leaf, 0, [], []⟩ := ⟨fun id _ => rfl, fun id _ => rfl⟩
  have hOp : Open Fence.wide := ⟨fun _ => trivial, rfl⟩
  have := callsIn_wide.1 (hc w.heap.size ⟨fun _ _ => none, fun _ => none⟩ w [] Fence.wide 0 hOp hR hW (fun _ _ _ _ => rfl) (by simp [VRs]))
  refine Calls.mono this ?_
  rintro e w' ⟨β, u, rfl, hv, _, hS⟩
  exact ⟨β, u, rfl, hv, hS.os, hS.tape, hS.output, hS.size, fun b hb => hS.keep b hb fun id o g l ho => by simp [St.look, hidden, T.get] at ho⟩

/-! ### Outcomes held against what is written down -/
noncomputable def isCall (r : R1) (v : AV) (σ : St) : Bool := Option.rec (motive := fun _ => Bool) false (fun p => Prod.rec (motive := fun _ => Bool) (fun v' σ' => Bool.rec (motive := fun _ => Bool) false (sameSt σ σ') (sameA 8 v v')) p) r
theorem isCall_ok {r : R1} {v : AV} {σ : St} (h : isCall r v σ = true) : r = some (v, σ) := by
  cases r with
  | none => cases h
  | some p =>
    obtain ⟨v', σ'⟩ := p
    have h' : (Bool.rec false (sameSt σ σ') (sameA 8 v v') : Bool) = true := h
    cases hv : sameA 8 v v' with
    | false => rw [hv] at h'; cases h'
    | true =>
      rw [hv] at h'
      rw [sameA_ok _ _ _ hv, sameSt_ok _ _ h']
noncomputable def isRun (r : R2) (τ : Tm) (σ : St) : Bool := Option.rec (motive := fun _ => Bool) false (fun p => Prod.rec (motive := fun _ => Bool) (fun τ' σ' => Bool.rec (motive := fun _ => Bool) false (sameSt σ σ') (sameTm τ τ')) p) r
theorem isRun_ok {r : R2} {τ : Tm} {σ : St} (h : isRun r τ σ = true) : r = some (τ, σ) := by
  cases r with
  | none => cases h
  | some p =>
    obtain ⟨τ', σ'⟩ := p
    have h' : (Bool.rec false (sameSt σ σ') (sameTm τ τ') : Bool) = true := h
    cases hv : sameTm τ τ' with
    | false => rw [hv] at h'; cases h'
    | true =>
      rw [hv] at h'
      rw [sameTm_ok _ _ hv, sameSt_ok _ _ h']
/-- The run of code that comes to an exit: as a run, with the exit asked besides. -/
noncomputable def exitF (x : AExit) (r : R3) : R2 :=
  match r, x with
  | some (.normal, p), .normal => some p
  | some (.ret, p), .ret => some p
  | some (.exit i, p), .exit j => Bool.rec (motive := fun _ => R2) none (some p) (Nat.beq i j)
  | _, _ => none
theorem exitF_ok {x : AExit} {r : R3} {τ : Tm} {σ : St} (h : exitF x r = some (τ, σ)) : r = some (x, τ, σ) := by
  cases r with
  | none => cases x <;> cases h
  | some p =>
    obtain ⟨y, q⟩ := p
    cases y with
    | normal => cases x <;> first | (have h' : (some q : R2) = some (τ, σ) := h; cases h'; rfl) | cases h
    | ret => cases x <;> first | (have h' : (some q : R2) = some (τ, σ) := h; cases h'; rfl) | cases h
    | goto l => cases x <;> cases h
    | exit i =>
      cases x with
      | exit j =>
        have h' : (Bool.rec none (some q) (Nat.beq i j) : R2) = some (τ, σ) := h
        cases hb : Nat.beq i j with
        | false => rw [hb] at h'; cases h'
        | true =>
          rw [hb] at h'
          cases h'
          rw [beqT hb]
      | _ => cases h
theorem callOk_of (hE : EnvOk E P) {l : List Entry} (hl : Known E P l) {n : Nat} {f : FuncId} {args : List AV} {σ : St} {v : AV} {σ' : St} (h : isCall ((EvK.at E l n).call f args σ) v σ' = true) : CallOk E P f args σ v σ' :=
  (known_sound hE hl n).call _ _ _ _ _ (isCall_ok h)
theorem codeOk_of (hE : EnvOk E P) {l : List Entry} (hl : Known E P l) {n : Nat} {rd : Option Nat} {c : Code} {τ τ' : Tm} {σ σ' : St} {x : AExit} (h : isRun (exitF x ((EvK.at E l n).code rd c τ σ)) τ' σ' = true) : CodeOk E P rd c τ σ x τ' σ' :=
  (known_sound hE hl n).code _ _ _ _ _ _ _ (exitF_ok (isRun_ok h))
theorem roundsOk_of (hE : EnvOk E P) {l : List Entry} (hl : Known E P l) {n : Nat} {rd : Option Nat} {c : Code} {k : Nat} {τ τ1 τ' : Tm} {σ σ1 σ' : St} {x : AExit} (h : isRun (roundsF (EvK.at E l n) rd c k τ σ) τ1 σ1 = true)
    (h2 : CodeOk E P rd (.loop c) τ1 σ1 x τ' σ') : CodeOk E P rd (.loop c) τ σ x τ' σ' :=
  rounds_ok (known_sound hE hl n) k τ τ1 σ σ1 (isRun_ok h) h2
/-- Objects laid into a heap. -/
noncomputable def putsF (l : List (Nat × AObj)) : T AObj → T AObj :=
  List.rec (motive := fun _ => T AObj → T AObj) (fun t => t) (fun p _ ih t => Prod.rec (motive := fun _ => T AObj) (fun i o => ih (T.set (Nat.succ i) t i o)) p) l
end
end Go.Vai

/-
  Short words for values and objects that are written out.
-/
namespace Go.Vai
open Go
def vi (n : Nat) : AV := .sc (.int .i64 (.ofNat n))
def vy (n : Nat) : AV := .sc (.int .u8 (.ofNat n))
def vk (k : IntKind) (n : Int) : AV := .sc (.int k n)
def vt : AV := .sc (.bool true)
def vf : AV := .sc (.bool false)
def vq (l : List Nat) : AV := .sc (.string ⟨(l.map UInt8.ofNat).toArray⟩)
def vn : AV := .sc (.pointer none)
def vz : AV := .sc (.slice none 0 0)
def vm : AV := .sc (.map none)
def vx : AV := .sc .nilFunc
def vj : AV := .sc .nilIface
def vg (f : Nat) : AV := .sc (.func (.func f) #[] #[])
def va (l : List Value) : AV := .sc (.agg l.toArray)
def wi (n : Nat) : Value := .int .i64 (.ofNat n)
def wy (n : Nat) : Value := .int .u8 (.ofNat n)
def wk (k : IntKind) (n : Int) : Value := .int k n
def wt : Value := .bool true
def wf : Value := .bool false
def wq (l : List Nat) : Value := .string ⟨(l.map UInt8.ofNat).toArray⟩
def wn : Value := .pointer none
def wz : Value := .slice none 0 0
def wm : Value := .map none
def wx : Value := .nilFunc
def vp (i g o k : Nat) : AV := .ptr i g o k
def vs (i g o l e m : Nat) : AV := .slice i g o l e m
def vmap (i : Nat) : AV := .map i
def vyield (i : Nat) : AV := .yield i
def vfn (f : Nat) (a b : List AV) : AV := .func (.func f) a b
def ro (g m : Nat) (l : List AV) : AObj := .row g m l
/-- Temporaries laid into a trie. -/
noncomputable def putsV (l : List (Nat × AV)) : T AV → T AV :=
  List.rec (motive := fun _ => T AV → T AV) (fun t => t) (fun p _ ih t => Prod.rec (motive := fun _ => T AV) (fun i o => ih (T.set (Nat.succ i) t i o)) p) l
/-- The law's own call: it answers true. -/
noncomputable def isTrueK (r : R1) : Bool := match r with
  | some (.sc (.bool true), _) => true
  | _ => false
theorem trueCall {E : Env} {P : Program} (hE : EnvOk E P) {l : List Entry} (hl : Known E P l) {n : Nat} {f : FuncId} (h : isTrueK ((EvK.at E l n).call f [] ⟨.leaf, 0, [], []⟩) = true) : ∃ σ, CallOk E P f [] ⟨.leaf, 0, [], []⟩ (.sc (.bool true)) σ := by
  cases hc : (EvK.at E l n).call f [] ⟨.leaf, 0, [], []⟩ with
  | none => rw [hc] at h; cases h
  | some p =>
    obtain ⟨v, σ⟩ := p
    rw [hc] at h
    cases v with
    | sc v =>
      cases v with
      | bool b =>
        cases b with
        | true => exact ⟨σ, (known_sound hE hl n).call _ _ _ _ _ hc⟩
        | false => cases h
      | _ => cases h
    | _ => cases h
theorem known_nil {E : Env} {P : Program} : Known E P [] := fun e he => by cases he
theorem known_cons {E : Env} {P : Program} {e : Entry} {l : List Entry} (h : CallOk E P e.f e.args e.σ e.v e.σ') (hl : Known E P l) : Known E P (e :: l) := fun e' he => by
  rcases List.mem_cons.1 he with rfl | he
  · exact h
  · exact hl e' he

/-! ### A call whose body ends in one long loop -/
noncomputable def normalK (r : R3) (k : Tm → St → R2) : R2 := Option.rec (motive := fun _ => R2) none (fun p => Prod.rec (motive := fun _ => R2) (fun x q =>
    AExit.rec (motive := fun _ => R2) (Prod.rec (motive := fun _ => R2) (fun τ' σ' => k τ' σ') q) (fun _ => none) (fun _ => none) none x) p) r
noncomputable def spineF (V : Ev) (rd : Option Nat) (k : Nat) : Code → Tm → St → R2 :=
  Nat.rec (motive := fun _ => Code → Tm → St → R2) (fun _ τ σ => some (τ, σ)) (fun _ ih c τ σ => match c with
    | .seq a b => normalK (Ev.code V rd a τ σ) (ih b)
    | _ => none) k
def rightC : Nat → Code → Code
  | 0, c => c
  | k + 1, .seq _ b => rightC k b
  | _ + 1, c => c
def blockId : Code → Nat
  | .block id _ => id
  | _ => 0
def loopIn : Code → Code
  | .block _ (.loop c) => c
  | c => c
def bodyOf (fn : Func) : Code := fn.body.getD .skip
section
variable {E : Env} {P : Program} {V : Ev}
theorem spine_ok (hV : Sound E P V) {rd : Option Nat} {x : AExit} {τ' : Tm} {σ' : St} : ∀ (k : Nat) (c : Code) (τ τ1 : Tm) (σ σ1 : St), spineF V rd k c τ σ = some (τ1, σ1) →
    CodeOk E P rd (rightC k c) τ1 σ1 x τ' σ' → CodeOk E P rd c τ σ x τ' σ'
  | 0, c, τ, τ1, σ, σ1, h, h2 => by cases h; exact h2
  | k + 1, c, τ, τ1, σ, σ1, h, h2 => by
    cases c with
    | seq a b =>
      have h' : normalK (V.code rd a τ σ) (spineF V rd k b) = some (τ1, σ1) := h
      cases hc : V.code rd a τ σ with
      | none => rw [hc] at h'; cases h'
      | some p =>
        obtain ⟨y, τ2, σ2⟩ := p
        rw [hc] at h'
        cases y with
        | normal => exact seq_ok (hV.code _ _ _ _ _ _ _ hc) (spine_ok hV k b τ2 τ1 σ2 σ1 h' h2)
        | _ => cases h'
    | _ => cases h
noncomputable def endF (E : Env) (fn : Func) (V : Ev) (c : Code) (τ : Tm) (σ : St) : R1 :=
  match Ev.code V none (.loop c) τ σ with
  | some (.ret, q) => finF E fn q.1 q.2
  | _ => none
theorem loopCall_ok (hE : EnvOk E P) {V' : Ev} (hV : Sound E P V) (hV' : Sound E P V') {f : FuncId} {fn : Func} {c B : Code} {id k : Nat} {args : List AV} {τ1 τn : Tm} {σ σ1 σn σ' : St} {v : AV}
    (hf : E.fn.get f = some fn) (hc : fn.body = some c) (ha : Nat.ble args.length fn.ntmps = true) (hb : rightC k c = .block id (.loop B))
    (h1 : spineF V none k c ⟨putAll .leaf 0 args, fn.ntmps, []⟩ σ = some (τ1, σ1))
    (h2 : ∀ x τ' σ', CodeOk E P none (.loop B) τn σn x τ' σ' → CodeOk E P none (.loop B) τ1 σ1 x τ' σ')
    (h3 : endF E fn V' B τn σn = some (v, σ')) : CallOk E P f args σ v σ' := by
  unfold endF at h3
  cases hx : V'.code none (.loop B) τn σn with
  | none => rw [hx] at h3; cases h3
  | some p =>
    obtain ⟨y, τe, σe⟩ := p
    rw [hx] at h3
    cases y with
    | ret =>
      have hl := h2 _ _ _ (hV'.code _ _ _ _ _ _ _ hx)
      have hbk := block_ok hE (id := id) hl
      rw [← hb] at hbk
      exact call_ok' hE hf hc ha (spine_ok hV k c _ _ _ _ h1 hbk) (.inr rfl) h3
    | _ => cases h3
end
end Go.Vai

/-
  Values without objects; a slice whose object nobody else knows, told by its contents.
-/
namespace Go.Vai
open Go
mutual
/-- Without objects. -/
def plain : AV → Bool
  | .sc _ | .any => true
  | .ptr .. | .slice .. | .map _ | .yield _ => false
  | .func _ a b => plains a && plains b
  | .iface _ v => plain v
  | .agg l | .tuple l => plains l
  | .fro _ _ l | .adr l => plains l
  | .fmap k v => plains k && plains v
def plains : List AV → Bool
  | [] => true
  | v :: l => plain v && plains l
end
theorem plains_iff {l : List AV} : plains l = true ↔ ∀ v ∈ l, plain v = true := by
  induction l with
  | nil => simp [plains]
  | cons v l ih => simp [plains, ih]
theorem plains_map {α : Type} {f : α → AV} (h : ∀ x, plain (f x) = true) (l : List α) : plains (l.map f) = true := by
  rw [plains_iff]; intro v hv; obtain ⟨x, _, rfl⟩ := List.mem_map.1 hv; exact h x
theorem plains_append {l m : List AV} : plains (l ++ m) = (plains l && plains m) := by
  induction l with
  | nil => simp [plains]
  | cons v l ih => simp [plains, ih, Bool.and_assoc]
theorem plains_flatMap {α : Type} {f : α → List AV} (h : ∀ x, plains (f x) = true) (l : List α) : plains (l.flatMap f) = true := by
  induction l with
  | nil => rfl
  | cons x l ih => simp [List.flatMap_cons, plains_append, h x, ih]
mutual
/-- Without objects and without memory. -/
def shut : AV → Bool
  | .sc _ | .any => true
  | .agg l | .tuple l => shuts l
  | _ => false
def shuts : List AV → Bool
  | [] => true
  | v :: l => shut v && shuts l
end
mutual
theorem plain_vr {β β' : Map} (hg : ∀ b o, β.gl b = some o → β'.gl b = some o) : ∀ (v : AV) (u : Value), plain v = true → VR β v u → VR β' v u
  | .sc _, _, _, r => by simpa [VR] using r
  | .any, _, _, r => by simp only [VR] at r ⊢; exact r
  | .ptr .., _, h, _ | .slice .., _, h, _ | .map _, _, h, _ | .yield _, _, h, _ => by simp [plain] at h
  | .func fn a b, u, h, r => by
    simp only [plain, Bool.and_eq_true] at h
    simp only [VR] at r ⊢
    obtain ⟨f, c, e, r1, r2⟩ := r
    exact ⟨f, c, e, plains_vr hg a _ h.1 r1, plains_vr hg b _ h.2 r2⟩
  | .iface t v, u, h, r => by
    simp only [plain] at h
    simp only [VR] at r ⊢
    obtain ⟨x, e, r⟩ := r
    exact ⟨x, e, plain_vr hg v _ h r⟩
  | .agg l, u, h, r => by
    simp only [plain] at h
    simp only [VR] at r ⊢
    obtain ⟨x, e, r⟩ := r
    exact ⟨x, e, plains_vr hg l _ h r⟩
  | .tuple l, u, h, r => by
    simp only [plain] at h
    simp only [VR] at r ⊢
    obtain ⟨x, e, r⟩ := r
    exact ⟨x, e, plains_vr hg l _ h r⟩
  | .fro e len l, u, h, r => by
    simp only [plain] at h
    simp only [VR] at r ⊢
    obtain ⟨h1, h2, p, c, h3, h4, h5, r⟩ := r
    refine ⟨h1, h2, p, c, h3, h4, h5, ?_⟩
    rcases r with r | ⟨b, o, cs, el, fz, e1, e2, e3, r⟩
    · exact .inl r
    · exact .inr ⟨b, o, cs, el, fz, e1, hg _ _ e2, e3, plains_vr hg l _ h r⟩
  | .adr l, u, h, r => by
    simp only [plain] at h
    simp only [VR] at r ⊢
    obtain ⟨h1, b, o, cs, el, fz, e1, e2, e3, r⟩ := r
    exact ⟨h1, b, o, cs, el, fz, e1, hg _ _ e2, e3, plains_vr hg l _ h r⟩
  | .fmap k v, u, h, r => by
    simp only [plain, Bool.and_eq_true] at h
    simp only [VR] at r ⊢
    obtain ⟨p, e, r⟩ := r
    refine ⟨p, e, ?_⟩
    rcases r with r | ⟨b, cs, clock, e1, e2, r1, r2⟩
    · exact .inl r
    · exact .inr ⟨b, cs, clock, e1, hg _ _ e2, plains_vr hg k _ h.1 r1, plains_vr hg v _ h.2 r2⟩
theorem plains_vr {β β' : Map} (hg : ∀ b o, β.gl b = some o → β'.gl b = some o) : ∀ (l : List AV) (us : List Value), plains l = true → VRs β l us → VRs β' l us
  | [], _, _, r => by simpa [VRs] using r
  | v :: l, us, h, r => by
    simp only [plains, Bool.and_eq_true] at h
    simp only [VRs] at r ⊢
    obtain ⟨u, us', e, r1, r2⟩ := r
    exact ⟨u, us', e, plain_vr hg v _ h.1 r1, plains_vr hg l _ h.2 r2⟩
end
mutual
theorem shut_vr {β β' : Map} : ∀ (v : AV) (u : Value), shut v = true → VR β v u → VR β' v u
  | .sc _, _, _, r => by simpa [VR] using r
  | .any, _, _, r => by simp only [VR] at r ⊢; exact r
  | .ptr .., _, h, _ | .slice .., _, h, _ | .map _, _, h, _ | .yield _, _, h, _ | .func .., _, h, _ | .iface .., _, h, _ | .fro .., _, h, _ | .adr _, _, h, _ | .fmap .., _, h, _ => by simp [shut] at h
  | .agg l, u, h, r => by
    simp only [shut] at h
    simp only [VR] at r ⊢
    obtain ⟨x, e, r⟩ := r
    exact ⟨x, e, shuts_vr l _ h r⟩
  | .tuple l, u, h, r => by
    simp only [shut] at h
    simp only [VR] at r ⊢
    obtain ⟨x, e, r⟩ := r
    exact ⟨x, e, shuts_vr l _ h r⟩
theorem shuts_vr {β β' : Map} : ∀ (l : List AV) (us : List Value), shuts l = true → VRs β l us → VRs β' l us
  | [], _, _, r => by simpa [VRs] using r
  | v :: l, us, h, r => by
    simp only [shuts, Bool.and_eq_true] at h
    simp only [VRs] at r ⊢
    obtain ⟨u, us', e, r1, r2⟩ := r
    exact ⟨u, us', e, shut_vr v _ h.1 r1, shuts_vr l _ h.2 r2⟩
end


/-- A slice is told by its contents from now on; its object is gone. -/
inductive Frost (σ : St) : AV → St → AV → Prop
  | row (id gen mg e len : Nat) (cells : List AV) (hl : σ.look id = some (.row gen mg cells)) (hc : cells.length = len * e) (hp : plains cells = true) : Frost σ (.slice id gen 0 len e len) (σ.put id .gone) (.fro e len cells)
  | nil (e : Nat) (h : 0 < e) : Frost σ (.sc (.slice none 0 0)) σ (.fro e 0 [])
section
variable {E : Env} {B : Nat} {β : Map} {σ σ' : St} {w : World} {v v' : AV} {u : Value}
theorem Frost.tr (h : Frost σ v σ' v') : Tr σ σ' := by
  cases h with
  | row id gen mg e len cells hl hc hp => exact Tr.put hl _
  | nil e h => exact Tr.refl _
theorem Frost.next (h : Frost σ v σ' v') : σ'.next = σ.next := by
  cases h with
  | row => rfl
  | nil => rfl
theorem frost_ok (hR : HR E B β σ.look w) (hv : VR β v u) (h : Frost σ v σ' v') : ∃ β', VR β' v' u ∧ HR E B β' σ'.look w ∧ Step β β' σ.look σ.next σ'.next w w := by
  cases h with
  | nil e h =>
    refine ⟨β, ?_, hR, Step.refl _ _ _ _⟩
    simp only [VR] at hv ⊢
    exact ⟨h, by simp, none, 0, hv, Nat.le_refl _, fun _ => rfl, Or.inl (by simp)⟩
  | row id gen mg e len cells hl hc hp =>
    simp only [VR] at hv
    obtain ⟨L, o, c, hL, rfl, hmc, _, hn, hsz, he, hco⟩ := hv
    have hmg := (hR.obj id _ hl).1
    obtain ⟨_, hnl, hrow, _⟩ := row_at hR hl hmg (Nat.le_refl _) hL
    obtain ⟨cs, el, e1, e2, e3⟩ := hrow.seg (off := 0) (k := len * e) (by omega)
    have hw : ∀ b o, β.gl b = some o → w.heap[b]? = some o := fun b o hb => (hR.fz b o hb).1
    have glc : ∀ b o, (if b = L.b then w.heap[b]? else β.gl b) = some o → w.heap[b]? = some o := by
      intro b o hb
      split at hb
      · exact hb
      · exact hw b o hb
    have sub : Sub β ⟨β.loc, fun b => if b = L.b then w.heap[b]? else β.gl b⟩ := by
      refine ⟨fun _ _ _ h => h, fun b o hb => ?_⟩
      show (if b = L.b then w.heap[b]? else β.gl b) = some o
      split
      · exact hw b o hb
      · exact hb
    rw [look_put _ (look_some hl).1]
    have some' : ∀ i o', upd σ.look id .gone i = some o' → ∃ o0, σ.look i = some o0 := by
      intro i o' ho
      unfold upd at ho
      split at ho
      · rename_i ei; subst ei; exact ⟨_, hl⟩
      · exact ⟨o', ho⟩
    refine ⟨⟨β.loc, fun b => if b = L.b then w.heap[b]? else β.gl b⟩, ?_, ⟨?_, ?_, ?_, hR.gl, hR.size, ?_⟩, ⟨sub, fun _ _ _ h => .inl h, rfl, rfl, rfl, Nat.le_refl _, fun _ _ _ => rfl, ?_⟩⟩
    · simp only [VR]
      refine ⟨he, hc, _, _, rfl, by omega, (fun h => by cases h), ?_⟩
      rcases hco with hc0 | ⟨rfl, hcz⟩
      · exact .inl (by omega)
      · refine .inr ⟨L.b, L.s + 0, cs, el, (0, 0), rfl, ?_, by omega, ?_⟩
        · show (if L.b = L.b then w.heap[L.b]? else _) = _
          rw [if_pos rfl]; exact e1
        · have hcells : (cells.drop 0).take (len * e) = cells := by rw [List.drop_zero, List.take_of_length_le (by omega)]
          rw [hcells] at e3
          exact plains_vr (β := β) sub.gl cells _ hp e3
    · intro i o' ho
      unfold upd at ho
      split at ho
      · rename_i ei; subst ei; cases ho; exact ⟨gen, L, hL⟩
      · exact (hR.obj i o' ho).mono sub (fun g h => h) (fun _ _ _ => rfl)
    · intro i o' g l ho e
      obtain ⟨o0, h0⟩ := some' i o' ho
      exact hR.own i o0 g l h0 e
    · intro i oi j oj g g' l l' hi hj e e' eb
      obtain ⟨o0, h0⟩ := some' i oi hi
      obtain ⟨o1, h1⟩ := some' j oj hj
      exact hR.inj i o0 j o1 g g' l l' h0 h1 e e' eb
    · intro b ob hb
      refine ⟨glc b ob hb, ?_⟩
      intro i o' g l ho hng e eb
      unfold upd at ho
      split at ho
      · cases ho; exact hng rfl
      · rename_i hne
        have hb' : (if b = L.b then w.heap[b]? else β.gl b) = some ob := hb
        split at hb'
        · rename_i ebl
          exact hne (hR.inj i o' id _ g gen l L ho hl e hL (eb.trans ebl))
        · exact (hR.fz b ob hb').2 i o' g l ho hng e eb
    · intro b ob hb
      have hb' : (if b = L.b then w.heap[b]? else β.gl b) = some ob := hb
      split at hb'
      · rename_i ebl; exact .inr (.inr ⟨id, _, gen, L, hl, hL, ebl.symm⟩)
      · exact .inl hb'
end
end Go.Vai

/-
  What code does where an order is open: triples over abstract states, with many outcomes.
-/
namespace Go.Vai
open Go

/-- So much room there is for new objects ('none': no bound). -/
def Room (N : Option Nat) (hi : Nat) : Prop := ∀ n, N = some n → hi ≤ n
theorem Room.le {N : Option Nat} {a b : Nat} (h : Room N b) (hab : a ≤ b) : Room N a := fun n e => Nat.le_trans hab (h n e)
def FreshN (N : Option Nat) (β : Map) (lo : Nat) : Prop := ∀ id g, lo ≤ id → (∀ n, N = some n → id < n) → β id g = none
theorem FreshN.to {N : Option Nat} {β : Map} {lo hi : Nat} (h : FreshN N β lo) (hr : Room N hi) : Fresh β lo hi := fun id g a b => h id g a fun n e => Nat.lt_of_lt_of_le b (hr n e)
theorem FreshN.of {β : Map} {lo hi : Nat} (h : Fresh β lo hi) : FreshN (some hi) β lo := fun id g a b => h id g a (b hi rfl)
section
variable {E : Env} {P : Program} {B : Nat} {N : Option Nat}
theorem freshN_then {σ σ1 : St} {β β1 : Map} {w w1 : World} (t : Tr σ σ1) (hW : WF σ) (hF : FreshN N β σ.next) (h : Step β β1 σ.look σ.next σ1.next w w1) : FreshN N β1 σ1.next := by
  intro id g hid hn
  exact (fresh_then (σ2 := ⟨.leaf, id + 1, [], []⟩) t hW (hF.to fun n e => hn n e) h) id g hid (Nat.lt_succ_self id)

/-- Whatever the outcome, it is one of R. -/
def Trip (N : Option Nat) (E : Env) (P : Program) (rd : Option Nat) (c : Code) (τ : Tm) (σ : St) (R : AExit → Tm → St → Prop) : Prop :=
  ∀ (B : Nat) (β : Map) (w : World) (a : Act) (F : Fence) (n : Nat) (Q : Exit → Act → World → Prop), Open F → RdOk β rd F.round → HR E B β σ.look w → WF σ → FreshN N β σ.next → FrR β τ a →
    (∀ x τ' σ' β' w' a', R x τ' σ' → Room N σ'.next → Tr σ σ' → HR E B β' σ'.look w' → Step β β' σ.look σ.next σ'.next w w' → FrR β' τ' a' → Q (exitC x) a' w') → wpL F n P Q c a w
theorem Trip.of_ok {rd : Option Nat} {c : Code} {τ τ' : Tm} {σ σ' : St} {x : AExit} {R : AExit → Tm → St → Prop} (h : CodeOk E P rd c τ σ x τ' σ') (hR : R x τ' σ') (hN : Room N σ'.next) : Trip N E P rd c τ σ R := by
  intro B β w a F n Q hO hrd hHR hW hF ht hQ
  obtain ⟨t, s⟩ := h
  exact s B β w a F n Q hO hrd hHR hW (hF.to hN) ht fun β' w' a' hR' hS ht' => hQ _ _ _ _ _ _ hR hN t hR' hS ht'
theorem Trip.mono {rd : Option Nat} {c : Code} {τ : Tm} {σ : St} {R R' : AExit → Tm → St → Prop} (h : Trip N E P rd c τ σ R) (hR : ∀ x τ' σ', Tr σ σ' → R x τ' σ' → R' x τ' σ') : Trip N E P rd c τ σ R' := by
  intro B β w a F n Q hO hrd hHR hW hF ht hQ
  exact h B β w a F n Q hO hrd hHR hW hF ht fun x τ' σ' β' w' a' hr hn t hR' hS ht' => hQ x τ' σ' β' w' a' (hR _ _ _ t hr) hn t hR' hS ht'
/-- One after the other. -/
theorem Trip.seq {rd : Option Nat} {c d : Code} {τ : Tm} {σ : St} {R1 R : AExit → Tm → St → Prop} (h1 : Trip N E P rd c τ σ R1) (h2 : ∀ τ1 σ1, Tr σ σ1 → R1 .normal τ1 σ1 → Trip N E P rd d τ1 σ1 R)
    (h3 : ∀ x τ1 σ1, x ≠ .normal → R1 x τ1 σ1 → R x τ1 σ1) : Trip N E P rd (.seq c d) τ σ R := by
  intro B β w a F n Q hO hrd hHR hW hF ht hQ
  refine wpIn_seq (wpL_wpIn (h1 B β w a F n _ hO hrd hHR hW hF ht ?_))
  intro x τ1 σ1 β1 w1 a1 hr hn1 t1 hR1 hS1 ht1
  by_cases hx : x = .normal
  · subst hx
    refine wpL_wpIn (h2 τ1 σ1 t1 hr B β1 w1 a1 F n Q hO (hrd.mono hS1.sub) hR1 (t1.wf hW) (freshN_then t1 hW hF hS1) ht1 ?_)
    intro y τ2 σ2 β2 w2 a2 hr2 hn2 t2 hR2 hS2 ht2
    exact hQ y τ2 σ2 β2 w2 a2 hr2 hn2 (t1.trans t2) hR2 (step_trans t1 t2 hW (hF.to hn2) hS1 hS2) ht2
  · exact thenQ hx (hQ x τ1 σ1 β1 w1 a1 (h3 x τ1 σ1 hx hr) hn1 t1 hR1 hS1 ht1)
/-- A loop, by a measure. -/
theorem Trip.loop {rd : Option Nat} {c : Code} {R : AExit → Tm → St → Prop} (I : Nat → Tm → St → Prop)
    (h : ∀ m τ σ, I m τ σ → Trip N E P rd c τ σ (fun x τ' σ' => match x with | .normal => ∃ k, k < m ∧ I k τ' σ' | x => R x τ' σ')) : ∀ (m : Nat) (τ : Tm) (σ : St), I m τ σ → Trip N E P rd (.loop c) τ σ R := by
  intro m
  induction m using Nat.strongRecOn with
  | ind m ih =>
    intro τ σ hI B β w a F n Q hO hrd hHR hW hF ht hQ
    refine loopJ_round (wpL_wpIn (h m τ σ hI B β w a F n _ hO hrd hHR hW hF ht ?_))
    intro x τ1 σ1 β1 w1 a1 hr hn1 t1 hR1 hS1 ht1
    by_cases hx : x = .normal
    · subst hx
      obtain ⟨k, hk, hI1⟩ := hr
      refine ih k hk τ1 σ1 hI1 B β1 w1 a1 F n Q hO (hrd.mono hS1.sub) hR1 (t1.wf hW) (freshN_then t1 hW hF hS1) ht1 ?_
      intro y τ2 σ2 β2 w2 a2 hr2 hn2 t2 hR2 hS2 ht2
      exact hQ y τ2 σ2 β2 w2 a2 hr2 hn2 (t1.trans t2) hR2 (step_trans t1 t2 hW (hF.to hn2) hS1 hS2) ht2
    · refine thenQ hx (hQ x τ1 σ1 β1 w1 a1 ?_ hn1 t1 hR1 hS1 ht1)
      cases x with
      | normal => exact absurd rfl hx
      | _ => exact hr
theorem Trip.cond {rd : Option Nat} {v : Operand} {c d : Code} {τ : Tm} {σ : St} {R : AExit → Tm → St → Prop} (b : Bool) (hv : ev τ v = .sc (.bool b)) (h : Trip N E P rd (bif b then c else d) τ σ R) : Trip N E P rd (.cond v c d) τ σ R := by
  intro B β w a F n Q hO hrd hHR hW hF ht hQ
  have hv' := ev_ok ht.1 v
  rw [hv] at hv'
  simp only [VR] at hv'
  refine wpIn_cond hv' ?_
  have := wpL_wpIn (h B β w a F n Q hO hrd hHR hW hF ht hQ)
  cases b <;> simpa using this
theorem Trip.block {rd : Option Nat} {id : Nat} {c : Code} {τ : Tm} {σ : St} {R : AExit → Tm → St → Prop}
    (h : Trip N E P rd c τ σ (fun x τ' σ' => R (match x with | .exit i => bif Nat.beq i id then .normal else .exit i | y => y) τ' σ')) : Trip N E P rd (.block id c) τ σ R := by
  intro B β w a F n Q hO hrd hHR hW hF ht hQ
  refine wpIn_block (wpL_wpIn (h B β w a F n _ hO hrd hHR hW hF ht ?_))
  intro x τ1 σ1 β1 w1 a1 hr hn1 t1 hR1 hS1 ht1
  have := hQ _ τ1 σ1 β1 w1 a1 hr hn1 t1 hR1 hS1 ht1
  cases x with
  | exit i =>
    cases hb : Nat.beq i id with
    | true =>
      have e := beqT hb
      subst e
      simp only [hb, cond_true] at this
      simpa [exitC, Exit.inBlock] using this
    | false =>
      have hne : i ≠ id := by intro e; subst e; simp at hb
      simp only [hb, cond_false] at this
      simpa [exitC, Exit.inBlock, hne] using this
  | normal => exact this
  | goto l => exact this
  | ret => exact this
end
end Go.Vai

/-
  A step over a map in an order that is open; regions with such steps; calls with many outcomes.
-/
namespace Go.Vai
open Go

section
variable {E : Env} {P : Program} {β : Map} {B : Nat} {σ : St} {w : World}
theorem nextN_ok (hR : HR E B β σ.look w) {r m since last clock : Nat} {seen : List Nat} {es : List AEntry} {ui : Value} (hlook : σ.look r = some (.iter (some m) since seen last)) (hmap : σ.look m = some (.map es clock))
    (hold : ∀ e ∈ es, e.born < since) (hsl : since ≤ last) (hne : (es.filter fun e => !(seen.contains e.born)) ≠ []) (hi : VR β (.ptr r 0 0 0) ui) (ty : TypeId) :
    ∃ e ∈ es.filter (fun e => !(seen.contains e.born)), Does E B P β σ (σ.put r (.iter (some m) since (seen ++ [e.born]) clock)) w (Instr.next ui false ty) (.tuple [.sc (.bool true), e.key, e.val]) := by
  simp only [VR] at hi
  obtain ⟨l, hl, _, _, rfl⟩ := hi
  obtain ⟨l', hl', hs0, mc, hh, lm, hlm, hmc⟩ := hR.obj r _ hlook
  rw [hl] at hl'; simp only [Option.some.injEq] at hl'; subst hl'
  subst hmc
  obtain ⟨lm', hlm', cs, hhm, hr⟩ := hR.obj m _ hmap
  rw [hlm] at hlm'; simp only [Option.some.injEq] at hlm'; subst hlm'
  have mem : ∀ {es : List AEntry} {cs : List MapEntry}, EntriesR β es cs → ∀ c ∈ cs, ∃ e ∈ es, EntryR β e c := by
    intro es
    induction es with
    | nil => intro cs h c hc; simp only [EntriesR] at h; subst h; cases hc
    | cons x es ih =>
      intro cs h c hc
      obtain ⟨d, cs', rfl, r1, r2⟩ := h
      rcases List.mem_cons.1 hc with rfl | hc
      · exact ⟨x, List.mem_cons_self, r1⟩
      · obtain ⟨e, he, hec⟩ := ih r2 c hc
        exact ⟨e, List.mem_cons_of_mem _ he, hec⟩
  have hcold : ∀ c ∈ cs.toList, c.born < since := by
    intro c hc
    obtain ⟨e, he, hec⟩ := mem hr c hc
    rw [hec.2.2]
    exact hold e he
  have hfil : EntriesR β (es.filter fun e => !(seen.contains e.born)) (cs.filter fun e => !seen.toArray.contains e.born).toList := by
    rw [Array.toList_filter]
    refine hr.filter fun e c hec => ?_
    rw [hec.2.2]
    simp
  have hgone := next_test_false seen.toArray cs since last hcold hsl
  have hgetr : (getObj l.b).run P w = .ok (.mapIter (some lm.b) since seen.toArray last) w := by simp [getObj, Sem.run, hh]
  have hgetm : (getObj lm.b).run P w = .ok (.map cs clock) w := MapKept.run_getObj_map hhm
  generalize hL : (cs.filter fun e => !seen.toArray.contains e.born) = L at hfil
  have hLold : ∀ c ∈ L.toList, c.born < since := by
    intro c hc
    rw [← hL] at hc
    exact hcold c (by simp at hc ⊢; exact hc.1)
  have hne' : L.size ≠ 0 := by
    intro h0
    have : L = #[] := Array.eq_empty_of_size_eq_zero h0
    subst this
    exact hne (List.eq_nil_of_length_eq_zero hfil.length.symm)
  have e1 : L.filter (fun x => decide (x.born < since)) = L := Array.filter_eq_self.2 (fun x hx => by simpa using hLold x (by simpa using hx))
  have e2 : L.filter (fun x => decide (x.born ≥ since)) = #[] := by
    rw [Array.filter_eq_empty_iff]
    intro x hx
    have := hLold x (by simpa using hx)
    simp
    omega
  have hch : ∃ (j : Nat) (w1 : World), j < L.size ∧ w1.heap = w.heap ∧ w1.os = w.os ∧ w1.tape = w.tape ∧ w1.output = w.output ∧ (choose (Question.mapNext L.size)).run P w = .ok j w1 := by
    by_cases hf : L.size ≤ 1
    · exact ⟨0, w, by omega, rfl, rfl, rfl, rfl, by simp [choose, Sem.run, Question.forced, hf]⟩
    · exact ⟨_, w.drew, Nat.mod_lt _ (by omega), rfl, rfl, rfl, rfl, by
        simp only [choose, Sem.run, Question.forced, decide_eq_true_eq, hf, if_false, Question.cut]
        rfl⟩
  obtain ⟨j, w1, hj, hw1, hw2, hw3, hw4, hrun⟩ := hch
  obtain ⟨e, he, hec⟩ := mem hfil L[j] (by simp)
  refine ⟨e, he, ?_⟩
  have hlt := (hR.own r _ 0 l hlook hl).2
  have hP : HR E B β (upd σ.look r (.iter (some m) since (seen ++ [e.born]) clock)) (w1.putObj l.b (.mapIter (some lm.b) since (seen.toArray.push L[j].born) clock)) ∧
      Step β β σ.look σ.next σ.next w (w1.putObj l.b (.mapIter (some lm.b) since (seen.toArray.push L[j].born) clock)) := by
    refine hR.change r _ σ.next σ.next (Sub.refl _) (fun i g x e => .inl e) (.inl ⟨_, hlook, fun e => by cases e⟩) hw2 hw3 hw4 (by simp [World.putObj, hw1]) ?_ ?_
    · intro b _ hno
      have : (w1.putObj l.b (.mapIter (some lm.b) since (seen.toArray.push L[j].born) clock)).heap[b]? = w1.heap[b]? := World.putObj_heap_other (fun e => hno 0 l hl e.symm)
      rw [this, hw1]
    · refine ⟨l, hl, hs0, some lm.b, ?_, lm, hlm, rfl⟩
      rw [World.putObj_heap_same (by rw [hw1]; exact hlt), hec.2.2]
      simp
  refine ⟨β, .tuple #[.bool true, L[j].key, L[j].val], _, ?_, ?_, by rw [look_put _ (look_some hlook).1]; exact hP.1, hP.2⟩
  · have hne2 : L.isEmpty = false := by simp [Array.isEmpty, hne']
    simp only [Instr.next, hs0, Nat.add_zero, Sem.run_bind, hgetr, Result.andThen_ok, hgetm, hgone, Bool.false_eq_true, if_false, hL, e1, e2, Array.append_empty, hne2, Array.empty_append, Array.size_map, hrun, Array.getElem?_map, Array.getElem?_eq_getElem hj, Option.map_some]
    simp [setObj, Sem.run, hw1, hh, World.putObj]
  · simp only [VR]
    exact ⟨_, rfl, VRs.cons (by simp [VR]) (VRs.cons hec.1 (VRs.cons hec.2.1 VRs.nil))⟩
end
end Go.Vai

/-
  Regions with steps over maps in an open order, and with calls of many outcomes; calls with many outcomes.
-/
namespace Go.Vai
open Go

section
variable {E : Env} {P : Program} {N : Option Nat}
/-- A call: whatever the outcome, it is one of R. -/
def CallTrip (N : Option Nat) (E : Env) (P : Program) (f : FuncId) (args : List AV) (σ : St) (R : AV → St → Prop) : Prop :=
  (∃ fn, E.fn.get f = some fn ∧ fn.body ≠ none) ∧
    ∀ (B : Nat) (β : Map) (w : World) (us : List Value) (F : Fence) (n : Nat), Open F → HR E B β σ.look w → WF σ → FreshN N β σ.next → VRs β args us → CallsIn F n P f us.toArray w fun e w' => ∃ v σ', R v σ' ∧ Room N σ'.next ∧ Tr σ σ' ∧ RetP E B β σ σ' w v e w'
theorem CallTrip.of_ok {f : FuncId} {args : List AV} {σ σ' : St} {v : AV} {R : AV → St → Prop} (h : CallOk E P f args σ v σ') (hR : R v σ') (hN : Room N σ'.next) : CallTrip N E P f args σ R := by
  obtain ⟨t, hf, hc⟩ := h
  exact ⟨hf, fun B β w us F n hO hHR hW hF hus => CallsIn.mono (hc B β w us F n hO hHR hW (hF.to hN) hus) fun e w' hr => ⟨v, σ', hR, hN, t, hr⟩⟩
theorem CallTrip.mono {f : FuncId} {args : List AV} {σ : St} {R R' : AV → St → Prop} (h : CallTrip N E P f args σ R) (hR : ∀ v σ', Tr σ σ' → R v σ' → R' v σ') : CallTrip N E P f args σ R' :=
  ⟨h.1, fun B β w us F n hO hHR hW hF hus => CallsIn.mono (h.2 B β w us F n hO hHR hW hF hus) fun _ _ ⟨v, σ', hr, hn, t, hp⟩ => ⟨v, σ', hR v σ' t hr, hn, t, hp⟩⟩
/-- Many outcomes that are all described by one state. -/
theorem CallTrip.ok {f : FuncId} {args : List AV} {σ σ' : St} {v : AV} {R : AV → St → Prop} (h : CallTrip N E P f args σ R)
    (hR : ∀ v1 σ1, R v1 σ1 → v1 = v ∧ σ1.next = σ'.next ∧ ∀ (B : Nat) (β : Map) (w : World), HR E B β σ1.look w → HR E B β σ'.look w) : ∀ (B : Nat) (β : Map) (w : World) (us : List Value) (F : Fence) (n : Nat), Open F → HR E B β σ.look w → WF σ → FreshN N β σ.next → VRs β args us → CallsIn F n P f us.toArray w (RetP E B β σ σ' w v) := by
  intro B β w us F n hO hHR hW hF hus
  refine CallsIn.mono (h.2 B β w us F n hO hHR hW hF hus) ?_
  rintro e w' ⟨v1, σ1, hr, _, _, β', u, he, hv, hR', hS⟩
  obtain ⟨rfl, hn, hd⟩ := hR v1 σ1 hr
  exact ⟨β', u, he, hv, hd _ _ _ hR', hn ▸ hS⟩

/-- A round of a loop over a function: whatever the outcome, it is one of R. -/
def RoundTrip (N : Option Nat) (E : Env) (P : Program) (l : Nat) (args : List AV) (σ : St) (R : AV → St → Prop) : Prop :=
  ∀ (B : Nat) (β : Map) (w : World) (us : List Value) (lc : Loc) (F : Fence) (n : Nat), Open F → HR E B β σ.look w → WF σ → FreshN N β σ.next → β l 0 = some lc → VRs β args us →
    ∃ f tmps asg body, (Instr.yield lc.b us.toArray).run P w = .ok (.round lc.b f tmps asg body) w ∧ RoundIn F n P lc.b f tmps asg body w fun e w' => ∃ v σ', R v σ' ∧ Room N σ'.next ∧ Tr σ σ' ∧ RetP E B β σ σ' w v e w'
/-- Operations one after the other; a step over a map, or a call, may have many outcomes. -/
def OpersN (N : Option Nat) (E : Env) (P : Program) (V : Ev) (ops : List Oper) : List Oper → Tm → St → (Tm → St → Prop) → Prop
  | [], τ, σ, K => K τ σ
  | o :: rest, τ, σ, K =>
    (wantedA ops τ o = some false ∧ ∃ τ1, τ.put o.dst (.sc undef) = some τ1 ∧ OpersN N E P V ops rest τ1 σ K) ∨
    (wantedA ops τ o = some true ∧ ((∃ v σ1 τ1, oper E V τ o σ = some (v, σ1) ∧ Room N σ1.next ∧ τ.put o.dst v = some τ1 ∧ OpersN N E P V ops rest τ1 σ1 K) ∨
      (∃ it r m since seen last es clock, o.op = .next it false ∧ ev τ it = .ptr r 0 0 0 ∧ σ.look r = some (.iter (some m) since seen last) ∧ σ.look m = some (.map es clock) ∧ (∀ e ∈ es, e.born < since) ∧ since ≤ last ∧
        (es.filter fun e => !(seen.contains e.born)) ≠ [] ∧ ∀ e ∈ es.filter (fun e => !(seen.contains e.born)), ∃ τ1, τ.put o.dst (.tuple [.sc (.bool true), e.key, e.val]) = some τ1 ∧
          OpersN N E P V ops rest τ1 (σ.put r (.iter (some m) since (seen ++ [e.born]) clock)) K) ∨
      (∃ f args R, aOp E τ o.op σ = some (.enter f args, σ) ∧ CallTrip N E P f args σ R ∧ ∀ v σ1, Tr σ σ1 → R v σ1 → ∃ τ1, τ.put o.dst v = some τ1 ∧ OpersN N E P V ops rest τ1 σ1 K) ∨
      (∃ v σ1 v' σ2 τ1, oper E V τ o σ = some (v, σ1) ∧ Room N σ1.next ∧ Frost σ1 v σ2 v' ∧ τ.put o.dst v' = some τ1 ∧ OpersN N E P V ops rest τ1 σ2 K) ∨
      (∃ l args R, aOp E τ o.op σ = some (.round l args, σ) ∧ RoundTrip N E P l args σ R ∧ ∀ v σ1, Tr σ σ1 → R v σ1 → ∃ τ1, τ.put o.dst v = some τ1 ∧ OpersN N E P V ops rest τ1 σ1 K)))
theorem opersN_ok {V : Ev} (hE : EnvOk E P) (hV : Sound E P V) (ops : List Oper) {F : Fence} {n : Nat} {Q : Exit → Act → World → Prop} (hO : Open F) {B : Nat} :
    ∀ (rest : List Oper) (j : Nat) (τ : Tm) (σ : St) (β : Map) (w : World) (a : Act) (K : Tm → St → Prop), ops.drop j = rest → OpersN N E P V ops rest τ σ K → HR E B β σ.look w → WF σ → FreshN N β σ.next → FrR β τ a → Room N σ.next →
      (∀ τ' σ' β' w' a', K τ' σ' → Room N σ'.next → Tr σ σ' → HR E B β' σ'.look w' → Step β β' σ.look σ.next σ'.next w w' → FrR β' τ' a' → Q .normal a' w') → wpOpsIn F n P ops.toArray Q (List.range' j rest.length) a w
  | [], j, τ, σ, β, w, a, K, _, h, hR, hW, hF, ht, hN, hQ => by
    simp only [List.length_nil, List.range'_zero, wpOpsIn]
    exact hQ τ σ β w a h hN (Tr.refl _) hR (Step.refl _ _ _ _) ht
  | o :: rest, j, τ, σ, β, w, a, K, hd, h, hR, hW, hF, ht, hN, hQ => by
    have hj : ops[j]? = some o := by
      have := congrArg List.head? hd
      simpa using this
    have hd' : ops.drop (j + 1) = rest := by
      have := congrArg List.tail hd
      simpa [List.tail_drop] using this
    simp only [List.length_cons, List.range'_succ, wpOpsIn, List.getElem?_toArray, hj]
    have go : ∀ (σ1 : St) (τ1 : Tm) (v : AV), Tr σ σ1 → Room N σ1.next → τ.put o.dst v = some τ1 → OpersN N E P V ops rest τ1 σ1 K → ∀ β' u w', VR β' v u → HR E B β' σ1.look w' → Step β β' σ.look σ.next σ1.next w w' →
        wpOpsIn F n P ops.toArray Q (List.range' (j + 1) rest.length) (a.put o.dst u) w' := by
      intro σ1 τ1 v t1 hn1 hput hrest β' u w' hv hR' hS
      refine opersN_ok hE hV ops hO rest (j + 1) τ1 σ1 β' w' _ K hd' hrest hR' (t1.wf hW) (freshN_then t1 hW hF hS) ((ht.mono hS.sub).put hput hv) hn1 ?_
      intro τ2 σ2 β2 w2 a2 hk hn2 t2 hR2 hS2 ht2
      exact hQ τ2 σ2 β2 w2 a2 hk hn2 (t1.trans t2) hR2 (step_trans t1 t2 hW (hF.to hn2) hS hS2) ht2
    rcases h with ⟨hw, τ1, hput, hrest⟩ | ⟨hw, h⟩
    · rw [wanted_ok hw ht.1]
      simp only [Bool.false_eq_true, if_false]
      exact ⟨fun f _ => hO.1 f, go σ τ1 _ (Tr.refl _) hN hput hrest β undef w (by simp [VR]) hR (Step.refl _ _ _ _)⟩
    · rw [wanted_ok hw ht.1]
      simp only [if_true]
      rcases h with ⟨v, σ1, τ1, h1, hn1, hput, hrest⟩ | ⟨it, r, m, since, seen, last, es, clock, hop, hit, hlook, hmap, hold, hsl, hne, hall⟩ | ⟨f, args, R, haop, htrip, hall⟩ | ⟨v, σ1, v', σ2, τ1, h1, hn1, hfr, hput, hrest⟩ | ⟨l, args, R, haop, htrip, hall⟩
      · have t1 := oper_tr hV h1
        exact oper_ok hE hV h1 hO hR hW (hF.to hn1) ht.1 fun β' u w' hv hR' hS => go σ1 τ1 v t1 hn1 hput hrest β' u w' hv hR' hS
      · have hv := ev_ok ht.1 it
        rw [hit] at hv
        obtain ⟨e, he, hdoes⟩ := nextN_ok hR hlook hmap hold hsl hne hv o.type
        obtain ⟨τ1, hput, hrest⟩ := hall e he
        refine ⟨fun f _ => hO.1 f, ?_⟩
        rw [Oper.semAt_eq _ _ _ (by intro c hc; rw [hop] at hc; cases hc)]
        obtain ⟨β', u, w', hrun, hvu, hR', hS⟩ := hdoes
        have hex : (execOp a.eval o).run P w = .ok (.value u) w' := by
          obtain ⟨dst, op, type, pos, after, guard⟩ := o
          simp only at hop
          subst hop
          have hrun' : (Instr.next (a.eval it) false type).run P w = .ok u w' := hrun
          simp [execOp, hrun']
        rw [hex, Oper.uponIn_value]
        exact go _ τ1 _ (Tr.put hlook _) hN hput hrest β' u w' hvu hR' hS
      · have hdef : ∀ c, o.op ≠ .defer c := op_defer haop
        refine ⟨fun f _ => hO.1 f, ?_⟩
        rw [Oper.semAt_eq _ _ _ hdef]
        obtain ⟨⟨fn, hfn, hb⟩, hcall⟩ := htrip
        obtain ⟨_, us, hus, hrun⟩ := op_ok hE hR hW (fun x => ev_ok ht.1 x) haop (hF.to hN)
        rw [hrun fn hfn hb, Oper.uponIn_enter]
        refine ⟨by intro e; rw [hO.2] at e; simp at e, CallsIn.mono (hcall B β w us F (n - 1) hO hR hW hF hus) ?_⟩
        rintro e w' ⟨v, σ1, hr, hn1, t1, β', u, rfl, hv, hR', hS⟩
        obtain ⟨τ1, hput, hrest⟩ := hall v σ1 t1 hr
        exact go σ1 τ1 v t1 hn1 hput hrest β' u w' hv hR' hS
      · have t1 := oper_tr hV h1
        have t2 := hfr.tr
        have hn2 : Room N σ2.next := by rw [hfr.next]; exact hn1
        refine oper_ok hE hV h1 hO hR hW (hF.to hn1) ht.1 fun β' u w' hv hR' hS => ?_
        obtain ⟨β2, hv2, hR2, hS2⟩ := frost_ok hR' hv hfr
        exact go σ2 τ1 v' (t1.trans t2) hn2 hput hrest β2 u w' hv2 hR2 (step_trans t1 t2 hW (hF.to hn2) hS hS2)
      · have hdef : ∀ c, o.op ≠ .defer c := op_defer haop
        refine ⟨fun f _ => hO.1 f, ?_⟩
        rw [Oper.semAt_eq _ _ _ hdef]
        obtain ⟨_, lc, us, hlc, hus, hrun⟩ := op_ok hE hR hW (fun x => ev_ok ht.1 x) haop (hF.to hN)
        obtain ⟨f, tmps, asg, body, hy, hin⟩ := htrip B β w us lc F (n - 1) hO hR hW hF hlc hus
        rw [hrun, hy, Oper.uponIn_round]
        refine ⟨by intro e; rw [hO.2] at e; simp at e, RoundIn.mono hin ?_⟩
        rintro e w' ⟨v, σ1, hr, hn1, t1, β', u, rfl, hv, hR', hS⟩
        obtain ⟨τ1, hput, hrest⟩ := hall v σ1 t1 hr
        exact go σ1 τ1 v t1 hn1 hput hrest β' u w' hv hR' hS
theorem Trip.region {V : Ev} (hE : EnvOk E P) (hV : Sound E P V) {rd : Option Nat} {id : Nat} {ops : Array Oper} {τ : Tm} {σ : St} {R : AExit → Tm → St → Prop} (h : OpersN N E P V ops.toList ops.toList τ σ (R .normal)) (hN : Room N σ.next) : Trip N E P rd (.region id ops false) τ σ R := by
  intro B β w a F n Q hO hrd hHR hW hF ht hQ
  refine wpIn_region ?_
  have := opersN_ok (n := n) hE hV ops.toList hO ops.toList 0 τ σ β w a (R .normal) (by simp) h hHR hW hF ht hN (fun τ' σ' β' w' a' hk hn t hR' hS ht' => hQ .normal τ' σ' β' w' a' hk hn t hR' hS ht')
  simpa [List.range_eq_range'] using this
theorem Trip.call (hE : EnvOk E P) {f : FuncId} {fn : Func} {c : Code} {args : List AV} {σ : St} {R : AV → St → Prop} (hfn : E.fn.get f = some fn) (hc : fn.body = some c) (hn : args.length ≤ fn.ntmps)
    (h : Trip N E P none c ⟨putAll .leaf 0 args, fn.ntmps, []⟩ σ (fun x τ σ1 => (x = .normal ∨ x = .ret) ∧ ∃ σ2 l, takeMarks τ.marks σ1 = some σ2 ∧ resultsA E τ σ2 fn.results.toList = some l ∧ Room N σ2.next ∧ R (one l) σ2)) : CallTrip N E P f args σ R := by
  refine ⟨⟨fn, hfn, by rw [hc]; simp⟩, fun B β w us F n hO hR hW hF hus => ?_⟩
  have hO' : Open { F with round := none } := hO
  have hbody : c.wpIn { F with round := none } n P (bodyPostM { F with round := none } n P fn (fun e w' => ∃ v σ', R v σ' ∧ Room N σ'.next ∧ Tr σ σ' ∧ RetP E B β σ σ' w v e w')) { tmps := us.toArray ++ Array.replicate (fn.ntmps - us.toArray.size) undef, defers := [] } w := by
    refine wpL_wpIn (h B β w _ _ n _ hO' rfl hR hW hF ⟨args_tmps hus hn, rfl⟩ ?_)
    intro x τ σ1 β1 w1 a1 hr hn1 t1 hR1 hS1 ht1
    obtain ⟨hx, σ2, l, hm, hl, hn2, hres⟩ := hr
    have t2 := takeMarks_tr _ _ _ hm
    have hleave : LeavesInM { F with round := none } n P fn a1.tmps (fun e w' => ∃ v σ', R v σ' ∧ Room N σ'.next ∧ Tr σ σ' ∧ RetP E B β σ σ' w v e w') a1.defers .returning w1 := by
      refine leaves_ok τ.marks a1.defers σ1 σ2 β1 w1 hm ht1.2 hR1 (t1.wf hW) ((freshN_then t1 hW hF hS1).to hn2) ?_
      intro w2 hR2 hS2
      obtain ⟨u, hrun, hvu⟩ := results_ok (P := P) hE hR2 ht1.1 hl
      exact ⟨u, hrun, one l, σ2, hres, hn2, t1.trans t2, β1, u, rfl, hvu, hR2, step_trans t1 t2 hW (hF.to hn2) hS1 hS2⟩
    rcases hx with rfl | rfl <;> exact hleave
  exact callsIn_of_wp_marks (F := { F with round := none }) (hE.fn f fn hfn).1 hc (hO.1 f) hbody
end
end Go.Vai

/-
  Sets of integers: an integer more; operations by steps.
-/
namespace Go.Vai
open Go

theorem SetOf.congr {es : List AEntry} {c : Nat} {ks ks' : List Int} (h : SetOf es c ks) (hk : ∀ k, k ∈ ks ↔ k ∈ ks') : SetOf es c ks' :=
  ⟨fun e he => by obtain ⟨k, hm, r⟩ := h.key e he; exact ⟨k, (hk k).1 hm, r⟩, fun k hm => h.all k ((hk k).2 hm), h.born, h.old, h.keys⟩
theorem SetOf.nil : SetOf [] 0 [] := ⟨fun _ h => (by cases h), fun _ h => (by cases h), List.nodup_nil, fun _ h => (by cases h), List.nodup_nil⟩
theorem findA_at {E : Env} {kt : TypeId} {k : AV} : ∀ (es : List AEntry) (n i : Nat) (v : AV), findA E kt k es n = some (some (i, v)) → ∃ e, n ≤ i ∧ es[i - n]? = some e ∧ e.val = v ∧ eqAt E 10 kt k e.key = some true
  | [], n, i, v, h => by simp [findA] at h
  | e :: es, n, i, v, h => by
    unfold findA at h
    split at h
    · rename_i hq
      cases h
      exact ⟨e, Nat.le_refl _, by simp, rfl, hq⟩
    · obtain ⟨e', h1, h2, h3, h4⟩ := findA_at es (n + 1) i v h
      refine ⟨e', by omega, ?_, h3, h4⟩
      have : i - n = (i - (n + 1)) + 1 := by omega
      rw [this, List.getElem?_cons_succ]
      exact h2
    · cases h
section
variable {E : Env} {P : Program} {N : Option Nat} {V : Ev} {ops : List Oper}
theorem upd_set {tm ti tb : TypeId} {a1 : Bool} {a2 a3 : Nat} {a4 : List Value} {a5 : Bool} {σ : St} {id clk : Nat} {out : List AEntry} {ks : List Int} {k : Int} (ht : E.ty.get tm = some ⟨a1, a2, a3, a4, .map ti tb, a5⟩) (hko : keyOk E 10 ti (.sc (.int .i64 k)) = true)
    (heq : ∀ a i, eqAt E 10 ti (.sc (.int .i64 a)) (.sc (.int .i64 i)) = some (a == i)) (hl : σ.look id = some (.map out clk)) (hs : SetOf out clk ks) :
    ∃ out' clk', aUpdate E tm (.map id) (.sc (.int .i64 k)) (.sc (.bool true)) σ = some (.sc undef, σ.put id (.map out' clk')) ∧ SetOf out' clk' (k :: ks) := by
  have keys : ∀ e ∈ out, ∃ j, e.key = .sc (.int .i64 j) := fun e he => by
    obtain ⟨j, _, hj, _⟩ := hs.key e he
    exact ⟨j, hj⟩
  unfold aUpdate
  rw [ht]
  simp only [hl, hko]
  rcases findA_int (heq k) out 0 keys with ⟨h1, h2⟩ | ⟨i, e, he, hke, h1⟩
  · rw [h1]
    refine ⟨_, _, rfl, ?_⟩
    refine ⟨?_, ?_, ?_, ?_, ?_⟩
    · intro e he
      rcases List.mem_append.1 he with he | he
      · obtain ⟨j, hj, r⟩ := hs.key e he
        exact ⟨j, List.mem_cons_of_mem _ hj, r⟩
      · simp only [List.mem_singleton] at he
        subst he
        exact ⟨k, List.mem_cons_self, rfl, rfl⟩
    · intro j hj
      rcases List.mem_cons.1 hj with rfl | hj
      · exact ⟨_, List.mem_append_right _ (List.mem_singleton.2 rfl), rfl⟩
      · obtain ⟨e, he, r⟩ := hs.all j hj
        exact ⟨e, List.mem_append_left _ he, r⟩
    · rw [List.map_append, List.nodup_append]
      refine ⟨hs.born, by simp, ?_⟩
      intro a ha b hb
      simp only [List.map_cons, List.map_nil, List.mem_singleton] at hb
      obtain ⟨e, he, rfl⟩ := List.mem_map.1 ha
      have := hs.old e he
      omega
    · intro e he
      rcases List.mem_append.1 he with he | he
      · have := hs.old e he; omega
      · simp only [List.mem_singleton] at he; subst he; simp
    · rw [List.map_append, List.nodup_append]
      refine ⟨hs.keys, by simp, ?_⟩
      intro a ha b hb
      simp only [List.map_cons, List.map_nil, List.mem_singleton] at hb
      obtain ⟨e, he, rfl⟩ := List.mem_map.1 ha
      subst hb
      exact h2 e he
  · obtain ⟨e', _, hat, hv, hq⟩ := findA_at _ _ _ _ h1
    simp only [Nat.sub_zero] at hat
    have hmem : e' ∈ out := List.mem_of_getElem? hat
    obtain ⟨j, hj, hkj, hvj⟩ := hs.key e' hmem
    rw [hkj, heq] at hq
    have hjk : k = j := by simpa using hq
    subst hjk
    rw [h1]
    simp only [hat]
    have hsk : sameKeyA e'.key (.sc (.int .i64 k)) = true := by rw [hkj]; simp [sameKeyA, scEq]
    rw [hsk]
    refine ⟨_, _, rfl, ?_⟩
    have hmod : out.modify i (fun e => { e with key := AV.sc (.int .i64 k), val := AV.sc (.bool true) }) = out := by
      apply List.ext_getElem?
      intro n
      rw [List.getElem?_modify]
      by_cases hn : i = n
      · subst hn
        rw [hat]
        obtain ⟨k', v', b'⟩ := e'
        simp only at hkj hvj
        simp [hkj, hvj]
      · cases out[n]? <;> simp [hn]
    rw [hmod]
    exact hs.congr fun x => ⟨fun h => List.mem_cons_of_mem _ h, fun h => by rcases List.mem_cons.1 h with rfl | h; exact hj; exact h⟩

theorem OpersN.step {o : Oper} {rest : List Oper} {τ : Tm} {σ σ1 : St} {K : Tm → St → Prop} {d : Nat} {v : AV} (hg : o.guard = none) (hd : o.dst = some d) (hn : d < τ.n) (ho : aOp E τ o.op σ = some (.value v, σ1)) (hN : Room N σ1.next)
    (h : OpersN N E P V ops rest (τ.set d v) σ1 K) : OpersN N E P V ops (o :: rest) τ σ K := by
  refine .inr ⟨by unfold wantedA; rw [hg], .inl ⟨v, σ1, τ.set d v, by unfold oper; rw [ho], hN, ?_, h⟩⟩
  rw [hd]
  have : Nat.blt d τ.n = true := Nat.ble_eq_true_of_le hn
  simp [Tm.put, this]
theorem OpersN.unit {o : Oper} {rest : List Oper} {τ : Tm} {σ σ1 : St} {K : Tm → St → Prop} {v : AV} (hg : o.guard = none) (hd : o.dst = none) (ho : aOp E τ o.op σ = some (.value v, σ1)) (hN : Room N σ1.next)
    (h : OpersN N E P V ops rest τ σ1 K) : OpersN N E P V ops (o :: rest) τ σ K := by
  refine .inr ⟨by unfold wantedA; rw [hg], .inl ⟨v, σ1, τ, by unfold oper; rw [ho], hN, ?_, h⟩⟩
  rw [hd]
  rfl
theorem Tm.get_set (τ : Tm) (i j : Nat) (v : AV) : (τ.set i v).get j = if j = i then v else τ.get j := by
  rw [Tm.set_eq]
  unfold Tm.get
  simp only [T.get_set']
  split <;> rfl
theorem Tm.set_n (τ : Tm) (i : Nat) (v : AV) : (τ.set i v).n = τ.n := by rw [Tm.set_eq]
theorem Tm.set_marks (τ : Tm) (i : Nat) (v : AV) : (τ.set i v).marks = τ.marks := by rw [Tm.set_eq]
end
end Go.Vai

/-
  A loop over a map in an open order, whose rounds end normally.
-/
namespace Go.Vai
open Go

def unseen (es : List AEntry) (seen : List Nat) : List AEntry := es.filter fun e => !(seen.contains e.born)
theorem unseen_less {es : List AEntry} {seen : List Nat} {e : AEntry} (he : e ∈ unseen es seen) : (unseen es (seen ++ [e.born])).length < (unseen es seen).length := by
  unfold unseen at *
  rw [List.mem_filter] at he
  refine filter_lt (fun e => !(seen.contains e.born)) (fun x => !((seen ++ [e.born]).contains x.born)) ?_ e he.2 (by simp) es he.1
  intro x hx
  simp at hx ⊢
  exact hx.1
section
variable {E : Env} {P : Program} {N : Option Nat} {V : Ev}
theorem Trip.skip {rd : Option Nat} {τ : Tm} {σ : St} {R : AExit → Tm → St → Prop} (h : R .normal τ σ) (hN : Room N σ.next) : Trip N E P rd .skip τ σ R := by
  intro B β w a F n Q hO hrd hHR hW hF ht hQ
  exact wpIn_skip (hQ .normal τ σ β w a h hN (Tr.refl _) hHR (Step.refl _ _ _ _) ht)
theorem Trip.exit {rd : Option Nat} {i : Nat} {τ : Tm} {σ : St} {R : AExit → Tm → St → Prop} (h : R (.exit i) τ σ) (hN : Room N σ.next) : Trip N E P rd (.exit i) τ σ R := by
  intro B β w a F n Q hO hrd hHR hW hF ht hQ
  exact wpIn_exit (hQ (.exit i) τ σ β w a h hN (Tr.refl _) hHR (Step.refl _ _ _ _) ht)
theorem Trip.ret {rd : Option Nat} {τ : Tm} {σ : St} {R : AExit → Tm → St → Prop} (h : R .ret τ σ) (hN : Room N σ.next) : Trip N E P rd .ret τ σ R := by
  intro B β w a F n Q hO hrd hHR hW hF ht hQ
  exact wpIn_ret (hQ .ret τ σ β w a h hN (Tr.refl _) hHR (Step.refl _ _ _ _) ht)
theorem Trip.range (hE : EnvOk E P) {rd : Option Nat} {b0 i1 tn tk it r ids since clock : Nat} {es : List AEntry} {ty1 ty2 : TypeId} {p1 p2 : String} {a1 a2 : Array Edge} {BODY : Code} {R : AExit → Tm → St → Prop}
    (J : List Nat → Tm → St → Prop)
    (hJ : ∀ seen τ σ, J seen τ σ → Room N σ.next ∧ tn < τ.n ∧ tk < τ.n ∧ τ.get it = .ptr r 0 0 0 ∧ (∃ last, σ.look r = some (.iter (some ids) since seen last) ∧ since ≤ last) ∧ σ.look ids = some (.map es clock) ∧ ∀ e ∈ es, e.born < since)
    (hend : ∀ seen τ σ, J seen τ σ → unseen es seen = [] → R .normal ((τ.set tn (.tuple [.sc (.bool false)])).set tk (.sc (.bool false))) σ)
    (hbody : ∀ seen τ σ e, J seen τ σ → e ∈ unseen es seen →
      Trip N E P rd BODY ((τ.set tn (.tuple [.sc (.bool true), e.key, e.val])).set tk (.sc (.bool true))) (σ.put r (.iter (some ids) since (seen ++ [e.born]) clock)) fun x τ' σ' => x = .normal ∧ J (seen ++ [e.born]) τ' σ')
    {seen : List Nat} {τ : Tm} {σ : St} (h0 : J seen τ σ) :
    Trip N E P rd (.block b0 (.loop (.seq (.region i1 #[⟨some tn, .next (.tmp it) false, ty1, p1, a1, none⟩, ⟨some tk, .extract (.tmp tn) 0, ty2, p2, a2, none⟩] false) (.seq (.cond (.tmp tk) .skip (.exit b0)) BODY)))) τ σ R := by
  have hV : Sound E P Ev.none := none_sound
  refine Trip.block ?_
  refine Trip.loop (fun m τ σ => ∃ seen, J seen τ σ ∧ m = (unseen es seen).length) ?_ _ τ σ ⟨seen, h0, rfl⟩
  rintro m τ σ ⟨seen, hj, rfl⟩
  obtain ⟨hN, htn, htk, hit, ⟨last, hlr, hsl⟩, hlm, hold⟩ := hJ seen τ σ hj
  -- the step and its flag
  refine Trip.seq (R1 := fun x τ1 σ1 => x = .normal ∧ ((unseen es seen = [] ∧ τ1 = (τ.set tn (.tuple [.sc (.bool false)])).set tk (.sc (.bool false)) ∧ σ1 = σ) ∨
    ∃ e ∈ unseen es seen, τ1 = (τ.set tn (.tuple [.sc (.bool true), e.key, e.val])).set tk (.sc (.bool true)) ∧ σ1 = σ.put r (.iter (some ids) since (seen ++ [e.born]) clock))) ?_ ?_ ?_
  · refine Trip.region hE hV ?_ hN
    by_cases hu : unseen es seen = []
    · refine OpersN.step rfl rfl htn (v := .tuple [.sc (.bool false)]) (σ1 := σ) ?_ hN ?_
      · simp only [aOp, ev, hit, aNext, hlr, hlm]
        have hg : (!seen.isEmpty && !es.isEmpty && es.all fun e => Nat.ble last e.born) = false := by
          cases es with
          | nil => simp
          | cons e es =>
            have : Nat.ble last e.born = false := by
              cases hb : Nat.ble last e.born with
              | false => rfl
              | true => have := bleT hb; have := hold e List.mem_cons_self; omega
            simp [this]
        rw [hg]
        have hu' : (es.filter fun e => !(seen.contains e.born)) = [] := hu
        rw [hu']
        rfl
      · refine OpersN.step rfl rfl (by rw [Tm.set_n]; exact htk) (v := .sc (.bool false)) (σ1 := σ) ?_ hN ?_
        · simp only [aOp, ev, Tm.get_set, if_true]; rfl
        · exact ⟨rfl, .inl ⟨hu, rfl, rfl⟩⟩
    · refine .inr ⟨rfl, .inr (.inl ⟨.tmp it, r, ids, since, seen, last, es, clock, rfl, hit, hlr, hlm, hold, hsl, hu, fun e he => ?_⟩)⟩
      refine ⟨τ.set tn (.tuple [.sc (.bool true), e.key, e.val]), ?_, ?_⟩
      · have : Nat.blt tn τ.n = true := Nat.ble_eq_true_of_le htn
        simp [Tm.put, this]
      · refine OpersN.step rfl rfl (by rw [Tm.set_n]; exact htk) (v := .sc (.bool true)) (σ1 := σ.put r (.iter (some ids) since (seen ++ [e.born]) clock)) ?_ hN ?_
        · simp only [aOp, ev, Tm.get_set, if_true]; rfl
        · exact ⟨rfl, .inr ⟨e, he, rfl, rfl⟩⟩
  · rintro τ1 σ1 _ ⟨_, h⟩
    rcases h with ⟨hu, rfl, hs⟩ | ⟨e, he, rfl, rfl⟩
    · replace hs := hs.symm
      subst hs
      refine Trip.seq (R1 := fun x τ1 σ1 => x = .exit b0 ∧ τ1 = (τ.set tn (.tuple [.sc (.bool false)])).set tk (.sc (.bool false)) ∧ σ1 = σ) ?_ (fun _ _ _ h => by cases h.1) ?_
      · exact Trip.cond false (by simp [ev, Tm.get_set]) (Trip.exit ⟨rfl, rfl, rfl⟩ hN)
      · rintro x τ1 σ1 _ ⟨rfl, rfl, hs⟩
        replace hs := hs.symm
        subst hs
        have hb : Nat.beq b0 b0 = true := by simp
        simp only [hb, cond_true]
        exact hend seen τ σ hj hu
    · refine Trip.seq (R1 := fun x τ1 σ1 => x = .normal ∧ τ1 = (τ.set tn (.tuple [.sc (.bool true), e.key, e.val])).set tk (.sc (.bool true)) ∧ σ1 = σ.put r (.iter (some ids) since (seen ++ [e.born]) clock)) ?_ ?_ ?_
      · exact Trip.cond true (by simp [ev, Tm.get_set]) (Trip.skip ⟨rfl, rfl, rfl⟩ hN)
      · rintro τ1 σ1 _ ⟨_, rfl, rfl⟩
        refine (hbody seen τ σ e hj he).mono ?_
        rintro x τ' σ' _ ⟨rfl, hj'⟩
        exact ⟨_, unseen_less he, _, hj', rfl⟩
      · rintro x τ1 σ1 hx ⟨rfl, _⟩
        exact absurd rfl hx
  · rintro x τ1 σ1 hx ⟨rfl, _⟩
    exact absurd rfl hx
end
end Go.Vai

/-
  One round that lays a key of a set into another set.
-/
namespace Go.Vai
open Go

def seenKeys (es : List AEntry) (seen : List Nat) (k : Int) : Prop := ∃ e ∈ es, e.born ∈ seen ∧ e.key = .sc (.int .i64 k)
/-- What stands while a loop goes over the entries of a set, and another set grows. -/
structure Grow (S : St) (es : List AEntry) (clock ids n0 r : Nat) (seen : List Nat) (has : Int → Prop) (σ : St) : Prop where
  src : σ.look ids = some (.map es clock)
  it : σ.look r = some (.iter (some ids) clock seen clock)
  out : ∃ o c ks, σ.look n0 = some (.map o c) ∧ SetOf o c ks ∧ ∀ k, k ∈ ks ↔ has k
  next : σ.next = S.next
  hid : σ.hid = S.hid
  keep : ∀ id, id ≠ n0 → id ≠ r → σ.h.get id = S.h.get id
  ne : n0 ≠ r ∧ ids ≠ n0 ∧ ids ≠ r
theorem look_of_put {σ : St} {id i : Nat} {o o0 : AObj} (h : σ.look id = some o0) : (σ.put id o).look i = if i = id then some o else σ.look i := by
  rw [look_put _ (look_some h).1]
  unfold upd
  rfl
theorem find_mem {es : List AEntry} {e : AEntry} (hn : (es.map (·.born)).Nodup) (he : e ∈ es) : es.find? (fun x => Nat.beq x.born e.born) = some e := by
  induction es with
  | nil => cases he
  | cons x es ih =>
    have hn' : x.born ∉ es.map (·.born) ∧ (es.map (·.born)).Nodup := List.nodup_cons.1 hn
    rcases List.mem_cons.1 he with rfl | h
    · simp
    · have hx : Nat.beq x.born e.born = false := beqF fun hb => hn'.1 (by rw [hb]; exact List.mem_map.2 ⟨e, h, rfl⟩)
      rw [List.find?_cons, hx]
      exact ih hn'.2 h
section
variable {S σ : St} {es : List AEntry} {clock ids n0 r : Nat} {seen : List Nat} {has : Int → Prop} {ks : List Int}
theorem Grow.look_r (h : Grow S es clock ids n0 r seen has σ) (s : List Nat) (i : Nat) : (σ.put r (.iter (some ids) clock s clock)).look i = if i = r then some (.iter (some ids) clock s clock) else σ.look i := look_of_put h.it
/-- The key that the round reads. -/
theorem Grow.entry (h : Grow S es clock ids n0 r seen has σ) (hs : SetOf es clock ks) {e : AEntry} (he : e ∈ es) :
    aEntry (.ptr r 0 0 0) (σ.put r (.iter (some ids) clock (seen ++ [e.born]) clock)) = some (.tuple [e.key, e.val]) := by
  have h1 : (σ.put r (.iter (some ids) clock (seen ++ [e.born]) clock)).look r = some (.iter (some ids) clock (seen ++ [e.born]) clock) := by rw [h.look_r, if_pos rfl]
  have h2 : (σ.put r (.iter (some ids) clock (seen ++ [e.born]) clock)).look ids = some (.map es clock) := by rw [h.look_r, if_neg h.ne.2.2]; exact h.src
  unfold aEntry
  simp only [h1, h2, List.getLast?_concat]
  have hb : Nat.beq clock clock = true := by simp
  rw [hb, find_mem hs.born he]
  rfl
/-- The round that lays nothing. -/
theorem Grow.pass (h : Grow S es clock ids n0 r seen has σ) (e : AEntry) : Grow S es clock ids n0 r (seen ++ [e.born]) has (σ.put r (.iter (some ids) clock (seen ++ [e.born]) clock)) where
  src := by rw [h.look_r, if_neg h.ne.2.2]; exact h.src
  it := by rw [h.look_r, if_pos rfl]
  out := by
    obtain ⟨o, c, ks, h1, h2⟩ := h.out
    exact ⟨o, c, ks, by rw [h.look_r, if_neg h.ne.1]; exact h1, h2⟩
  next := h.next
  hid := h.hid
  keep := fun id h1 h2 => by
    rw [St.put_eq]
    simp only [T.get_set', if_neg h2]
    exact h.keep id h1 h2
  ne := h.ne
/-- The round that lays its key. -/
theorem Grow.lay {E : Env} {tm ti tb : TypeId} {a1 : Bool} {a2 a3 : Nat} {a4 : List Value} {a5 : Bool} (h : Grow S es clock ids n0 r seen has σ) (ht : E.ty.get tm = some ⟨a1, a2, a3, a4, .map ti tb, a5⟩) {k : Int} (hko : keyOk E 10 ti (.sc (.int .i64 k)) = true)
    (heq : ∀ a i, eqAt E 10 ti (.sc (.int .i64 a)) (.sc (.int .i64 i)) = some (a == i)) :
    ∃ o' c', aUpdate E tm (.map n0) (.sc (.int .i64 k)) (.sc (.bool true)) σ = some (.sc undef, σ.put n0 (.map o' c')) ∧ Grow S es clock ids n0 r seen (fun x => x = k ∨ has x) (σ.put n0 (.map o' c')) := by
  obtain ⟨o, c, ks, h1, h2, h3⟩ := h.out
  obtain ⟨o', c', hu, hs'⟩ := upd_set ht hko heq h1 h2
  refine ⟨o', c', hu, ?_, ?_, ⟨o', c', k :: ks, ?_, hs', fun x => by rw [List.mem_cons, h3]⟩, h.next, h.hid, ?_, h.ne⟩
  · rw [look_of_put h1, if_neg h.ne.2.1]; exact h.src
  · rw [look_of_put h1, if_neg (Ne.symm h.ne.1)]; exact h.it
  · rw [look_of_put h1, if_pos rfl]
  · intro id i1 i2
    rw [St.put_eq]
    simp only [T.get_set', if_neg i1]
    exact h.keep id i1 i2
theorem Grow.mono {has' : Int → Prop} (h : Grow S es clock ids n0 r seen has σ) (hh : ∀ k, has k ↔ has' k) : Grow S es clock ids n0 r seen has' σ :=
  ⟨h.src, h.it, by obtain ⟨o, c, ks, h1, h2, h3⟩ := h.out; exact ⟨o, c, ks, h1, h2, fun k => (h3 k).trans (hh k)⟩, h.next, h.hid, h.keep, h.ne⟩
end
end Go.Vai

/-
  The loop of a function that lays a set's integers into another set (frame's set.with).
-/
namespace Go.Vai
open Go

theorem all_seen {es : List AEntry} {seen : List Nat} (h : unseen es seen = []) : ∀ e ∈ es, e.born ∈ seen := by
  intro e he
  cases hc : seen.contains e.born with
  | true => simpa using hc
  | false =>
    have : e ∈ unseen es seen := by unfold unseen; rw [List.mem_filter]; exact ⟨he, by rw [hc]; rfl⟩
    rw [h] at this
    cases this
theorem seenKeys_all {es : List AEntry} {clock : Nat} {ks : List Int} (hs : SetOf es clock ks) {seen : List Nat} (h : unseen es seen = []) (k : Int) : seenKeys es seen k ↔ k ∈ ks := by
  constructor
  · rintro ⟨e, he, _, hk⟩
    obtain ⟨j, hj, hkj, _⟩ := hs.key e he
    rw [hk] at hkj
    cases hkj
    exact hj
  · intro hk
    obtain ⟨e, he, hke⟩ := hs.all k hk
    exact ⟨e, he, all_seen h e he, hke⟩
theorem seenKeys_more {es : List AEntry} {clock : Nat} {ks : List Int} (hs : SetOf es clock ks) {seen : List Nat} {e : AEntry} (he : e ∈ es) {k : Int} (hk : e.key = .sc (.int .i64 k)) (x : Int) : seenKeys es (seen ++ [e.born]) x ↔ x = k ∨ seenKeys es seen x := by
  constructor
  · rintro ⟨e', he', hb, hk'⟩
    rcases List.mem_append.1 hb with hb | hb
    · exact .inr ⟨e', he', hb, hk'⟩
    · simp only [List.mem_singleton] at hb
      have h1 := find_mem hs.born he
      have h2 := find_mem hs.born he'
      rw [hb] at h2
      rw [h1] at h2
      cases h2
      rw [hk] at hk'
      cases hk'
      exact .inl rfl
  · rintro (rfl | ⟨e', he', hb, hk'⟩)
    · exact ⟨e, he, by simp, hk⟩
    · exact ⟨e', he', List.mem_append_left _ hb, hk'⟩
/-- But for some temporaries a frame stands as it stood. -/
structure Same (τ0 : Tm) (l : List Nat) (τ : Tm) : Prop where
  n : τ.n = τ0.n
  marks : τ.marks = τ0.marks
  get : ∀ i, i ∉ l → τ.get i = τ0.get i
theorem Same.refl (τ : Tm) (l : List Nat) : Same τ l τ := ⟨rfl, rfl, fun _ _ => rfl⟩
theorem Same.set {τ0 τ : Tm} {l : List Nat} (h : Same τ0 l τ) {i : Nat} (hi : i ∈ l) (v : AV) : Same τ0 l (τ.set i v) :=
  ⟨by rw [Tm.set_n]; exact h.n, by rw [Tm.set_marks]; exact h.marks, fun j hj => by rw [Tm.get_set, if_neg (by intro e; subst e; exact hj hi)]; exact h.get j hj⟩
section
variable {E : Env} {P : Program} {N : Option Nat}
theorem Trip.withLoop (hE : EnvOk E P) {rd : Option Nat} {S : St} {τ0 : Tm} {es : List AEntry} {clock ids n0 r : Nat} {ks : List Int} {has0 : Int → Prop} (hs : SetOf es clock ks) (hN : Room N S.next) (hn : τ0.n = 28) (h5 : τ0.get 5 = .map n0) (h11 : τ0.get 11 = .ptr r 0 0 0)
    {tm ti tb : TypeId} {a1 : Bool} {a2 a3 : Nat} {a4 : List Value} {a5 : Bool} (ht : E.ty.get tm = some ⟨a1, a2, a3, a4, .map ti tb, a5⟩) (hko : ∀ k, keyOk E 10 ti (.sc (.int .i64 k)) = true)
    (heq : ∀ a i, eqAt E 10 ti (.sc (.int .i64 a)) (.sc (.int .i64 i)) = some (a == i))
    {b0 b1 i1 i2 i3 : Nat} {y1 y2 y3 y4 y5 y6 y7 y8 : TypeId} {p1 p2 p3 p4 p5 p6 p7 p8 : String} {d1 d2 d3 d4 d5 d6 d7 d8 : Array Edge}
    (h0 : Grow S es clock ids n0 r [] has0 S) :
    Trip N E P rd (.block b0 (.loop (.seq (.region i1 #[⟨some 12, .next (.tmp 11) false, y1, p1, d1, none⟩, ⟨some 13, .extract (.tmp 12) 0, y2, p2, d2, none⟩] false) (.seq (.cond (.tmp 13) .skip (.exit b0))
      (.block b1 (.seq (.region i2 #[⟨some 14, .entry (.tmp 11), y3, p3, d3, none⟩, ⟨some 15, .extract (.tmp 14) 0, y4, p4, d4, none⟩, ⟨some 6, .assign (.tmp 15), y5, p5, d5, none⟩] false)
        (.region i3 #[⟨some 16, .move (.tmp 5), y6, p6, d6, none⟩, ⟨some 17, .move (.tmp 6), y7, p7, d7, none⟩, ⟨none, .mapUpdate tm (.tmp 16) (.tmp 17) (.const (.bool true)), y8, p8, d8, none⟩] false))))))) τ0 S
      fun x τ σ => x = .normal ∧ Same τ0 [12, 13, 14, 15, 6, 16, 17] τ ∧ ∃ seen, Grow S es clock ids n0 r seen (fun k => has0 k ∨ k ∈ ks) σ := by
  have hV : Sound E P Ev.none := none_sound
  refine Trip.range (r := r) (ids := ids) (since := clock) (clock := clock) (es := es) hE (fun seen τ σ => Same τ0 [12, 13, 14, 15, 6, 16, 17] τ ∧ Grow S es clock ids n0 r seen (fun k => has0 k ∨ seenKeys es seen k) σ) ?_ ?_ ?_ (seen := [])
    ⟨Same.refl _ _, h0.mono fun k => ⟨.inl, fun h => h.elim id fun ⟨e, _, hb, _⟩ => by cases hb⟩⟩
  · rintro seen τ σ ⟨hτ, hσ⟩
    refine ⟨by rw [hσ.next]; exact hN, by rw [hτ.n, hn]; omega, by rw [hτ.n, hn]; omega, by rw [hτ.get 11 (by decide)]; exact h11, ⟨clock, hσ.it, Nat.le_refl _⟩, hσ.src, hs.old⟩
  · rintro seen τ σ ⟨hτ, hσ⟩ hu
    exact ⟨rfl, (hτ.set (by decide) _).set (by decide) _, seen, hσ.mono fun k => by rw [seenKeys_all hs hu]⟩
  · rintro seen τ σ e ⟨hτ, hσ⟩ he
    have hmem : e ∈ es := (List.mem_filter.1 he).1
    obtain ⟨k, hk, hkey, _⟩ := hs.key e hmem
    have hp := hσ.pass e
    have hN1 : Room N (σ.put r (.iter (some ids) clock (seen ++ [e.born]) clock)).next := by rw [hp.next]; exact hN
    have hτ1 : Same τ0 [12, 13, 14, 15, 6, 16, 17] ((τ.set 12 (.tuple [.sc (.bool true), e.key, e.val])).set 13 (.sc (.bool true))) := (hτ.set (by decide) _).set (by decide) _
    generalize hτ' : (τ.set 12 (.tuple [.sc (.bool true), e.key, e.val])).set 13 (.sc (.bool true)) = τ1 at hτ1
    have hent := hσ.entry hs hmem
    generalize hσ' : σ.put r (.iter (some ids) clock (seen ++ [e.born]) clock) = σ1 at hp hN1 hent
    have lt : ∀ i, i < 28 → i < τ1.n := fun i hi => by rw [hτ1.n, hn]; exact hi
    refine Trip.block ?_
    refine Trip.seq (R1 := fun x τ2 σ2 => x = .normal ∧ σ2 = σ1 ∧ Same τ0 [12, 13, 14, 15, 6, 16, 17] τ2 ∧ τ2.get 6 = .sc (.int .i64 k)) ?_ ?_ ?_
    · refine Trip.region hE hV ?_ hN1
      refine OpersN.step rfl rfl (lt 14 (by omega)) (v := .tuple [e.key, e.val]) (σ1 := σ1) ?_ hN1 ?_
      · simp only [aOp, ev, hτ1.get 11 (by decide), h11, hent]; rfl
      · refine OpersN.step rfl rfl (by rw [Tm.set_n]; exact lt 15 (by omega)) (v := e.key) (σ1 := σ1) ?_ hN1 ?_
        · simp only [aOp, ev, Tm.get_set, if_true]; rfl
        · refine OpersN.step rfl rfl (by rw [Tm.set_n, Tm.set_n]; exact lt 6 (by omega)) (v := e.key) (σ1 := σ1) ?_ hN1 ?_
          · simp only [aOp, ev, Tm.get_set, if_true]
          · exact ⟨rfl, rfl, ((hτ1.set (by decide) _).set (by decide) _).set (by decide) _, by rw [Tm.get_set, if_pos rfl]; exact hkey⟩
    · rintro τ2 σ2 _ ⟨_, rfl, hτ2, h6⟩
      have lt2 : ∀ i, i < 28 → i < τ2.n := fun i hi => by rw [hτ2.n, hn]; exact hi
      obtain ⟨o', c', hu, hg⟩ := hp.lay ht (hko k) heq
      refine Trip.region hE hV ?_ hN1
      refine OpersN.step rfl rfl (lt2 16 (by omega)) (v := .map n0) (σ1 := σ2) ?_ hN1 ?_
      · simp only [aOp, ev, hτ2.get 5 (by decide), h5]
      · refine OpersN.step rfl rfl (by rw [Tm.set_n]; exact lt2 17 (by omega)) (v := .sc (.int .i64 k)) (σ1 := σ2) ?_ hN1 ?_
        · simp only [aOp, ev, Tm.get_set]; simp [h6]
        · refine OpersN.unit rfl rfl (v := .sc undef) (σ1 := σ2.put n0 (.map o' c')) ?_ (by rw [hg.next]; exact hN) ?_
          · simp only [aOp, ev, Tm.get_set]
            simp only [if_true, show (16 : Nat) = 17 ↔ False from by decide, if_false, hu]
            rfl
          · refine ⟨rfl, (hτ2.set (by decide) _).set (by decide) _, hg.mono fun x => ?_⟩
            rw [seenKeys_more hs hmem hkey]
            constructor
            · rintro (h | h | h)
              · exact .inr (.inl h)
              · exact .inl h
              · exact .inr (.inr h)
            · rintro (h | h | h)
              · exact .inr (.inl h)
              · exact .inl h
              · exact .inr (.inr h)
    · rintro x τ2 σ2 hx ⟨rfl, _⟩
      exact absurd rfl hx
end
end Go.Vai

/-
  set.with's second loop: over a slice of one integer.
-/
namespace Go.Vai
open Go
section
variable {E : Env} {P : Program} {N : Option Nat}
theorem Grow.other {S σ : St} {es : List AEntry} {clock ids n0 r : Nat} {seen : List Nat} {has : Int → Prop} (h : Grow S es clock ids n0 r seen has σ) {i : Nat} (h1 : i ≠ n0) (h2 : i ≠ r) : σ.look i = S.look i := by
  unfold St.look
  rw [h.hid, h.keep i h1 h2]
/-- The place of a slice's only integer. -/
structure OneInt (S : St) (l : AV) (x : Int) (i : Nat) : Prop where
  sl : ∃ g off mc gen mg cells, l = .slice i g off 1 1 mc ∧ S.look i = some (.row gen mg cells) ∧ Nat.ble mg g = true ∧ Nat.ble g gen = true ∧ cells[off]? = some (.sc (.int .i64 x))
theorem Trip.oneLoop (hE : EnvOk E P) {rd : Option Nat} {S σ0 : St} {τ0 : Tm} {es : List AEntry} {clock ids n0 r il : Nat} {seen : List Nat} {x : Int} {l : AV} {has0 : Int → Prop} (hN : Room N S.next) (hn : τ0.n = 28) (h5 : τ0.get 5 = .map n0) (h18 : τ0.get 18 = l) (h19 : τ0.get 19 = .sc (.int .i64 1)) (h20 : τ0.get 20 = .sc (.int .i64 0))
    (hl : OneInt S l x il) (hil : il ≠ n0 ∧ il ≠ r)
    {tm ti tb tsl : TypeId} {a1 : Bool} {a2 a3 : Nat} {a4 : List Value} {a5 : Bool} (ht : E.ty.get tm = some ⟨a1, a2, a3, a4, .map ti tb, a5⟩) (hko : ∀ k, keyOk E 10 ti (.sc (.int .i64 k)) = true)
    (heq : ∀ a i, eqAt E 10 ti (.sc (.int .i64 a)) (.sc (.int .i64 i)) = some (a == i))
    {c1 : Bool} {c2 c3 : Nat} {c4 : List Value} {c5 : Bool} (htsl : E.ty.get tsl = some ⟨c1, c2, c3, c4, .slice ti, c5⟩) {e3 : Nat} {e4 : List Value} {e6 : ADesc} {e5 : Bool} (hti : E.ty.get ti = some ⟨false, 1, e3, e4, e6, e5⟩)
    {b2 b3 i7 i8 i9 i10 : Nat} {y1 y2 y3 y4 y5 y6 y7 y8 y9 z1 z2 : TypeId} {p1 p2 p3 p4 p5 p6 p7 p8 p9 : String} {d1 d2 d3 d4 d5 d6 d7 d8 d9 : Array Edge}
    (h0 : Grow S es clock ids n0 r seen has0 σ0) :
    Trip N E P rd (.block b2 (.loop (.seq (.region i7 #[⟨some 21, .binOp .lss z1 (.tmp 20) (.tmp 19) z2, y1, p1, d1, none⟩] false) (.seq (.cond (.tmp 21) .skip (.exit b2))
      (.seq (.block b3 (.seq (.region i8 #[⟨some 22, .indexAddr tsl (.tmp 18) (.tmp 20), y2, p2, d2, none⟩, ⟨some 23, .load ti (.tmp 22), y3, p3, d3, none⟩, ⟨some 8, .assign (.tmp 23), y4, p4, d4, none⟩] false)
        (.region i9 #[⟨some 24, .move (.tmp 5), y5, p5, d5, none⟩, ⟨some 25, .move (.tmp 8), y6, p6, d6, none⟩, ⟨none, .mapUpdate tm (.tmp 24) (.tmp 25) (.const (.bool true)), y7, p7, d7, none⟩] false)))
      (.region i10 #[⟨some 26, .binOp .add z1 (.tmp 20) (.const (.int .i64 1)) z2, y8, p8, d8, none⟩, ⟨some 20, .move (.tmp 26), y9, p9, d9, none⟩] false)))))) τ0 σ0
      fun y τ σ => y = .normal ∧ Same τ0 [21, 22, 23, 8, 24, 25, 26, 20] τ ∧ Grow S es clock ids n0 r seen (fun k => k = x ∨ has0 k) σ := by
  have hV : Sound E P Ev.none := none_sound
  obtain ⟨g, off, mc, gen, mg, cells, rfl, hrow, hg1, hg2, hcell⟩ := hl.sl
  refine Trip.block ?_
  refine Trip.loop (fun m τ σ => Same τ0 [21, 22, 23, 8, 24, 25, 26, 20] τ ∧ ((m = 1 ∧ τ.get 20 = .sc (.int .i64 0) ∧ Grow S es clock ids n0 r seen has0 σ) ∨ (m = 0 ∧ τ.get 20 = .sc (.int .i64 1) ∧ Grow S es clock ids n0 r seen (fun k => k = x ∨ has0 k) σ))) ?_ 1 τ0 σ0
    ⟨Same.refl _ _, .inl ⟨rfl, h20, h0⟩⟩
  rintro m τ σ ⟨hτ, h⟩
  have lt : ∀ i, i < 28 → i < τ.n := fun i hi => by rw [hτ.n, hn]; exact hi
  have hNσ : Room N σ.next := by
    rcases h with ⟨_, _, h⟩ | ⟨_, _, h⟩ <;> (rw [h.next]; exact hN)
  have w19 : τ.get 19 = .sc (.int .i64 1) := by rw [hτ.get 19 (by decide)]; exact h19
  rcases h with ⟨rfl, w20, hσ⟩ | ⟨rfl, w20, hσ⟩
  · -- the round
    refine Trip.seq (R1 := fun y τ1 σ1 => y = .normal ∧ σ1 = σ ∧ τ1 = τ.set 21 (.sc (.bool true))) ?_ ?_ (by rintro y _ _ hy ⟨rfl, _⟩; exact absurd rfl hy)
    · refine Trip.region hE hV ?_ hNσ
      refine OpersN.step rfl rfl (lt 21 (by omega)) (v := .sc (.bool true)) (σ1 := σ) ?_ hNσ ⟨rfl, rfl, rfl⟩
      simp only [aOp, ev, w20, w19]; rfl
    · rintro τ1 σ1 _ ⟨_, rfl, rfl⟩
      refine Trip.seq (R1 := fun y τ1 σ2 => y = .normal ∧ σ2 = σ1 ∧ τ1 = τ.set 21 (.sc (.bool true))) (Trip.cond true (by simp [ev, Tm.get_set]) (Trip.skip ⟨rfl, rfl, rfl⟩ hNσ)) ?_ (by rintro y _ _ hy ⟨rfl, _⟩; exact absurd rfl hy)
      rintro τ1 σ2 _ ⟨_, rfl, rfl⟩
      have hτ1 : Same τ0 [21, 22, 23, 8, 24, 25, 26, 20] (τ.set 21 (.sc (.bool true))) := hτ.set (by decide) _
      have v20 : (τ.set 21 (.sc (.bool true))).get 20 = .sc (.int .i64 0) := by rw [Tm.get_set, if_neg (by decide)]; exact w20
      generalize τ.set 21 (.sc (.bool true)) = τ1 at hτ1 v20
      have lt1 : ∀ i, i < 28 → i < τ1.n := fun i hi => by rw [hτ1.n, hn]; exact hi
      have hrow' : σ2.look il = some (.row gen mg cells) := by rw [hσ.other hil.1 hil.2]; exact hrow
      refine Trip.seq (R1 := fun y τ2 σ3 => y = .normal ∧ Same τ0 [21, 22, 23, 8, 24, 25, 26, 20] τ2 ∧ τ2.get 20 = .sc (.int .i64 0) ∧ Grow S es clock ids n0 r seen (fun k => k = x ∨ has0 k) σ3) ?_ ?_ (by rintro y _ _ hy ⟨rfl, _⟩; exact absurd rfl hy)
      · refine Trip.block ?_
        refine Trip.seq (R1 := fun y τ2 σ3 => y = .normal ∧ σ3 = σ2 ∧ Same τ0 [21, 22, 23, 8, 24, 25, 26, 20] τ2 ∧ τ2.get 20 = .sc (.int .i64 0) ∧ τ2.get 8 = .sc (.int .i64 x)) ?_ ?_ (by rintro y _ _ hy ⟨rfl, _⟩; exact absurd rfl hy)
        · refine Trip.region hE hV ?_ hNσ
          refine OpersN.step rfl rfl (lt1 22 (by omega)) (v := .ptr il g off 1) (σ1 := σ2) ?_ hNσ ?_
          · simp only [aOp, ev, v20, hτ1.get 18 (by decide), h18, aIndexAddr, nat?, htsl, hti]
            simp [vals]
            rfl
          · refine OpersN.step rfl rfl (by rw [Tm.set_n]; exact lt1 23 (by omega)) (v := .sc (.int .i64 x)) (σ1 := σ2) ?_ hNσ ?_
            · simp only [aOp, ev, Tm.get_set, if_true, aLoad, hrow', hg1, hg2, hti, hcell]; rfl
            · refine OpersN.step rfl rfl (by rw [Tm.set_n, Tm.set_n]; exact lt1 8 (by omega)) (v := .sc (.int .i64 x)) (σ1 := σ2) ?_ hNσ ?_
              · simp only [aOp, ev, Tm.get_set, if_true]
              · exact ⟨rfl, rfl, ((hτ1.set (by decide) _).set (by decide) _).set (by decide) _, by simp [Tm.get_set, v20], by simp [Tm.get_set]⟩
        · rintro τ2 σ3 _ ⟨_, rfl, hτ2, u20, u8⟩
          have lt2 : ∀ i, i < 28 → i < τ2.n := fun i hi => by rw [hτ2.n, hn]; exact hi
          obtain ⟨o', c', hu, hg⟩ := hσ.lay ht (hko x) heq
          refine Trip.region hE hV ?_ hNσ
          refine OpersN.step rfl rfl (lt2 24 (by omega)) (v := .map n0) (σ1 := σ3) ?_ hNσ ?_
          · simp only [aOp, ev, hτ2.get 5 (by decide), h5]
          · refine OpersN.step rfl rfl (by rw [Tm.set_n]; exact lt2 25 (by omega)) (v := .sc (.int .i64 x)) (σ1 := σ3) ?_ hNσ ?_
            · simp only [aOp, ev, Tm.get_set]; simp [u8]
            · refine OpersN.unit rfl rfl (v := .sc undef) (σ1 := σ3.put n0 (.map o' c')) ?_ (by rw [hg.next]; exact hN) ?_
              · simp only [aOp, ev, Tm.get_set]
                simp only [if_true, show (24 : Nat) = 25 ↔ False from by decide, if_false, hu]
                rfl
              · exact ⟨rfl, (hτ2.set (by decide) _).set (by decide) _, by simp [Tm.get_set, u20], hg⟩
      · rintro τ2 σ3 _ ⟨_, hτ2, u20, hg⟩
        have lt2 : ∀ i, i < 28 → i < τ2.n := fun i hi => by rw [hτ2.n, hn]; exact hi
        have hN3 : Room N σ3.next := by rw [hg.next]; exact hN
        refine Trip.region hE hV ?_ hN3
        refine OpersN.step rfl rfl (lt2 26 (by omega)) (v := .sc (.int .i64 1)) (σ1 := σ3) ?_ hN3 ?_
        · simp only [aOp, ev, u20]; rfl
        · refine OpersN.step rfl rfl (by rw [Tm.set_n]; exact lt2 20 (by omega)) (v := .sc (.int .i64 1)) (σ1 := σ3) ?_ hN3 ?_
          · simp only [aOp, ev, Tm.get_set, if_true]
          · exact ⟨0, by omega, (hτ2.set (by decide) _).set (by decide) _, .inr ⟨rfl, by simp [Tm.get_set], hg⟩⟩
  · -- the end
    refine Trip.seq (R1 := fun y τ1 σ1 => y = .normal ∧ σ1 = σ ∧ τ1 = τ.set 21 (.sc (.bool false))) ?_ ?_ (by rintro y _ _ hy ⟨rfl, _⟩; exact absurd rfl hy)
    · refine Trip.region hE hV ?_ hNσ
      refine OpersN.step rfl rfl (lt 21 (by omega)) (v := .sc (.bool false)) (σ1 := σ) ?_ hNσ ⟨rfl, rfl, rfl⟩
      simp only [aOp, ev, w20, w19]; rfl
    · rintro τ1 σ1 _ ⟨_, rfl, rfl⟩
      refine Trip.seq (R1 := fun y τ1 σ2 => y = .exit b2 ∧ σ2 = σ1 ∧ τ1 = τ.set 21 (.sc (.bool false))) (Trip.cond false (by simp [ev, Tm.get_set]) (Trip.exit ⟨rfl, rfl, rfl⟩ hNσ)) (by rintro _ _ _ ⟨h, _⟩; cases h) ?_
      rintro y τ1 σ2 _ ⟨rfl, rfl, rfl⟩
      have hb : Nat.beq b2 b2 = true := by simp
      simp only [hb, cond_true]
      exact ⟨trivial, hτ.set (by decide) _, hσ⟩
end
end Go.Vai

/-
  set.with as a whole, its source a set that is there, its slice of one integer.
-/
namespace Go.Vai
open Go
section
variable {E : Env} {P : Program} {N : Option Nat}
theorem Trip.wf {rd : Option Nat} {c : Code} {τ : Tm} {σ : St} {R : AExit → Tm → St → Prop} (h : WF σ → Trip N E P rd c τ σ R) : Trip N E P rd c τ σ R :=
  fun B β w a F n Q hO hrd hHR hW hF ht hQ => h hW B β w a F n Q hO hrd hHR hW hF ht hQ
/-- What set.with leaves. -/
structure WithR (σ : St) (ids : Nat) (has : Int → Prop) (v : AV) (σ' : St) : Prop where
  v : v = .map σ.next
  out : ∃ o c ks, σ'.look σ.next = some (.map o c) ∧ SetOf o c ks ∧ ∀ k, k ∈ ks ↔ has k
  next : σ'.next = σ.next + 1 + 1
  hid : σ'.hid = σ.hid
  keep : ∀ id, id ≠ σ.next → id ≠ σ.next + 1 → σ'.h.get id = σ.h.get id
  src : σ'.look ids = σ.look ids
theorem Trip.withBody (hE : EnvOk E P) {σ : St} {τ0 : Tm} {es : List AEntry} {clock ids il : Nat} {ks : List Int} {x : Int} {l : AV} (hN : Room N (σ.next + 1 + 1)) (hn : τ0.n = 28) (h0 : τ0.get 0 = .map ids) (h1 : τ0.get 1 = l) (hm : τ0.marks = [])
    (hsrc : σ.look ids = some (.map es clock)) (hl : OneInt σ l x il)
    {tm ti tb tsl : TypeId} {a1 : Bool} {a2 a3 : Nat} {a4 : List Value} {a5 : Bool} (ht : E.ty.get tm = some ⟨a1, a2, a3, a4, .map ti tb, a5⟩) (_hko : ∀ k, keyOk E 10 ti (.sc (.int .i64 k)) = true)
    (_heq : ∀ a i, eqAt E 10 ti (.sc (.int .i64 a)) (.sc (.int .i64 i)) = some (a == i))
    {c1 : Bool} {c2 c3 : Nat} {c4 : List Value} {c5 : Bool} (htsl : E.ty.get tsl = some ⟨c1, c2, c3, c4, .slice ti, c5⟩) {e3 : Nat} {e4 : List Value} {e6 : ADesc} {e5 : Bool} (_hti : E.ty.get ti = some ⟨false, 1, e3, e4, e6, e5⟩)
    {L1 L2 : Code} {i0 i1 i2 i6 i11 : Nat} {y1 y2 y3 y4 y5 y6 y7 y8 y9 y10 : TypeId} {p1 p2 p3 p4 p5 p6 p7 p8 p9 p10 : String} {d1 d2 d3 d4 d5 d6 d7 d8 d9 d10 : Array Edge}
    (hL1 : ∀ (S : St) (τ : Tm) (n0 r : Nat), Room N S.next → τ.n = 28 → τ.get 5 = .map n0 → τ.get 11 = .ptr r 0 0 0 → Grow S es clock ids n0 r [] (fun _ => False) S →
      Trip N E P none L1 τ S fun y τ' σ' => y = .normal ∧ Same τ [12, 13, 14, 15, 6, 16, 17] τ' ∧ ∃ seen, Grow S es clock ids n0 r seen (fun k => False ∨ k ∈ ks) σ')
    (hL2 : ∀ (S σ0 : St) (τ : Tm) (n0 r : Nat) (seen : List Nat) (has0 : Int → Prop), Room N S.next → τ.n = 28 → τ.get 5 = .map n0 → τ.get 18 = l → τ.get 19 = .sc (.int .i64 1) → τ.get 20 = .sc (.int .i64 0) → OneInt S l x il → il ≠ n0 ∧ il ≠ r → Grow S es clock ids n0 r seen has0 σ0 →
      Trip N E P none L2 τ σ0 fun y τ' σ' => y = .normal ∧ Same τ [21, 22, 23, 8, 24, 25, 26, 20] τ' ∧ Grow S es clock ids n0 r seen (fun k => k = x ∨ has0 k) σ') :
    Trip N E P none (.seq (.region i0 #[⟨some 4, .assign (.const (.map none)), y1, p1, d1, none⟩] false) (.seq (.region i1 #[⟨some 9, .makeMap tm none, y2, p2, d2, none⟩, ⟨some 5, .assign (.tmp 9), y3, p3, d3, none⟩] false)
      (.seq (.seq (.region i2 #[⟨some 10, .move (.tmp 0), y4, p4, d4, none⟩, ⟨some 11, .range tm (.tmp 10), y5, p5, d5, none⟩] false) L1)
        (.seq (.seq (.region i6 #[⟨some 18, .move (.tmp 1), y6, p6, d6, none⟩, ⟨some 19, .call { callee := .builtin .len, args := #[.tmp 18], argTypes := #[tsl] }, y7, p7, d7, none⟩, ⟨some 20, .move (.const (.int .i64 0)), y8, p8, d8, none⟩] false) L2)
          (.seq (.region i11 #[⟨some 27, .move (.tmp 5), y9, p9, d9, none⟩, ⟨some 4, .assign (.tmp 27), y10, p10, d10, none⟩] false) .ret))))) τ0 σ
      fun y τ' σ' => y = .ret ∧ τ'.marks = [] ∧ WithR σ ids (fun k => k = x ∨ k ∈ ks) (τ'.get 4) σ' := by
  refine Trip.wf fun hW => ?_
  have hV : Sound E P Ev.none := none_sound
  have hids : ids < σ.next := look_lt hW hsrc
  have hN0 : Room N σ.next := hN.le (by omega)
  have bad : ∀ {y : AExit} {X : Prop}, y ≠ .normal → y = .normal ∧ X → False := fun h1 h2 => h1 h2.1
  -- region 0
  refine Trip.seq (R1 := fun y τ1 σ1 => y = .normal ∧ σ1 = σ ∧ τ1 = τ0.set 4 (.sc (.map none))) ?_ ?_ (fun _ _ _ hy h => (bad hy h).elim)
  · refine Trip.region hE hV ?_ hN0
    exact OpersN.step rfl rfl (by omega) (v := .sc (.map none)) (σ1 := σ) rfl hN0 ⟨rfl, rfl, rfl⟩
  rintro τ1 σ1 _ ⟨_, hσ1, rfl⟩
  replace hσ1 := hσ1.symm
  subst hσ1
  -- region 1
  refine Trip.seq (R1 := fun y τ1 σ1 => y = .normal ∧ σ1 = σ.new (.map [] 0) ∧ τ1 = ((τ0.set 4 (.sc (.map none))).set 9 (.map σ.next)).set 5 (.map σ.next)) ?_ ?_ (fun _ _ _ hy h => (bad hy h).elim)
  · refine Trip.region hE hV ?_ hN0
    have hN1 : Room N (σ.new (.map [] 0)).next := hN.le (by rw [St.new_eq]; exact Nat.le_succ _)
    refine OpersN.step rfl rfl (by rw [Tm.set_n]; omega) (v := .map σ.next) (σ1 := σ.new (.map [] 0)) rfl hN1 ?_
    refine OpersN.step rfl rfl (by rw [Tm.set_n, Tm.set_n]; omega) (v := .map σ.next) (σ1 := σ.new (.map [] 0)) ?_ hN1 ⟨rfl, rfl, rfl⟩
    simp only [aOp, ev, Tm.get_set, if_true]
  rintro τ1 σ1 t1 ⟨_, rfl, rfl⟩
  have hW1 : WF (σ.new (.map [] 0)) := t1.wf hW
  have hlk1 : (σ.new (.map [] 0)).look = upd σ.look σ.next (.map [] 0) := look_new hW _
  have hlm : (σ.new (.map [] 0)).look ids = some (.map es clock) := by rw [hlk1]; unfold upd; rw [if_neg (by omega)]; exact hsrc
  have hn1 : (σ.new (.map [] 0)).next = σ.next + 1 := rfl
  -- region 2 and the first loop
  refine Trip.seq (R1 := fun y τ2 σ2 => y = .normal ∧ Same τ0 [4, 9, 5, 10, 11, 12, 13, 14, 15, 6, 16, 17] τ2 ∧ τ2.get 5 = .map σ.next ∧
    ∃ S seen, OneInt S l x il ∧ il ≠ σ.next ∧ il ≠ σ.next + 1 ∧ Room N S.next ∧ S.next = σ.next + 1 + 1 ∧ S.hid = σ.hid ∧ (∀ id, id ≠ σ.next → id ≠ σ.next + 1 → S.h.get id = σ.h.get id) ∧ Grow S es clock ids σ.next (σ.next + 1) seen (fun k => False ∨ k ∈ ks) σ2) ?_ ?_ (fun _ _ _ hy h => (bad hy h).elim)
  · refine Trip.seq (R1 := fun y τ2 σ2 => y = .normal ∧ σ2 = (σ.new (.map [] 0)).new (.iter (some ids) clock [] clock) ∧ τ2 = ((((τ0.set 4 (.sc (.map none))).set 9 (.map σ.next)).set 5 (.map σ.next)).set 10 (.map ids)).set 11 (.ptr (σ.next + 1) 0 0 0)) ?_ ?_ (fun _ _ _ hy h => (bad hy h).elim)
    · refine Trip.region hE hV ?_ (hN.le (by rw [hn1]; omega))
      refine OpersN.step rfl rfl (by simp only [Tm.set_n]; omega) (v := .map ids) (σ1 := σ.new (.map [] 0)) ?_ (hN.le (by rw [hn1]; omega)) ?_
      · simp [aOp, ev, Tm.get_set, h0]
      · refine OpersN.step rfl rfl (by simp only [Tm.set_n]; omega) (v := .ptr (σ.next + 1) 0 0 0) (σ1 := (σ.new (.map [] 0)).new (.iter (some ids) clock [] clock)) ?_ hN ⟨rfl, rfl, rfl⟩
        simp only [aOp, ev, Tm.get_set, if_true, aRange, ht, hlm]
        rfl
    · rintro τ2 σ2 t2 ⟨_, rfl, rfl⟩
      have hlk2 : ((σ.new (.map [] 0)).new (.iter (some ids) clock [] clock)).look = upd (upd σ.look σ.next (.map [] 0)) (σ.next + 1) (.iter (some ids) clock [] clock) := by
        rw [look_new hW1, hlk1]; rfl
      obtain ⟨g, off, mc, gen, mg, cells, hl1, hl2, hl3⟩ := hl.sl
      have hil : il < σ.next := look_lt hW hl2
      have hone : OneInt ((σ.new (.map [] 0)).new (.iter (some ids) clock [] clock)) l x il := ⟨g, off, mc, gen, mg, cells, hl1, by rw [hlk2]; unfold upd; rw [if_neg (by omega), if_neg (by omega)]; exact hl2, hl3⟩
      have hkeep : ∀ id, id ≠ σ.next → id ≠ σ.next + 1 → ((σ.new (.map [] 0)).new (.iter (some ids) clock [] clock)).h.get id = σ.h.get id := by
        intro id i1 i2
        rw [St.new_eq, St.new_eq]
        simp only [T.get_set']
        rw [if_neg i2, if_neg i1]
      refine (hL1 _ _ σ.next (σ.next + 1) hN (by simp only [Tm.set_n]; exact hn) (by simp [Tm.get_set]) (by simp [Tm.get_set]) ⟨?_, ?_, ⟨[], 0, [], ?_, SetOf.nil, fun k => by simp⟩, rfl, rfl, fun _ _ _ => rfl, by omega, by omega, by omega⟩).mono ?_
      · rw [hlk2]; unfold upd; rw [if_neg (by omega), if_neg (by omega)]; exact hsrc
      · rw [hlk2]; unfold upd; rw [if_pos rfl]
      · rw [hlk2]; unfold upd; rw [if_neg (by omega), if_pos rfl]
      · rintro y τ3 σ3 _ ⟨rfl, hsame, seen, hg⟩
        refine ⟨rfl, ⟨by rw [hsame.n]; simp only [Tm.set_n], by rw [hsame.marks]; simp only [Tm.set_marks], fun i hi => ?_⟩, ?_, _, seen, hone, by omega, by omega, hN, rfl, rfl, hkeep, hg⟩
        · simp only [List.mem_cons, List.not_mem_nil, or_false, not_or] at hi
          obtain ⟨i4, i9, i5, i10, i11, i12, i13, i14, i15, i6, i16, i17⟩ := hi
          rw [hsame.get i (by simp [i12, i13, i14, i15, i6, i16, i17])]
          simp [Tm.get_set, i4, i9, i5, i10, i11]
        · rw [hsame.get 5 (by decide)]
          simp [Tm.get_set]
  rintro τ2 σ2 _ ⟨_, hsame, g5, S, seen, hone, hil1, hil2, hNS, hSn, hSh, hSk, hg⟩
  have hN2 : Room N σ2.next := by rw [hg.next]; exact hNS
  have lt2 : ∀ i, i < 28 → i < τ2.n := fun i hi => by rw [hsame.n, hn]; exact hi
  have g1 : τ2.get 1 = l := by rw [hsame.get 1 (by decide)]; exact h1
  -- region 6 and the second loop
  refine Trip.seq (R1 := fun y τ3 σ3 => y = .normal ∧ τ3.n = 28 ∧ τ3.marks = [] ∧ τ3.get 5 = .map σ.next ∧ Grow S es clock ids σ.next (σ.next + 1) seen (fun k => k = x ∨ (False ∨ k ∈ ks)) σ3) ?_ ?_ (fun _ _ _ hy h => (bad hy h).elim)
  · obtain ⟨g, off, mc, gen, mg, cells, hl1, hl2⟩ := hone.sl
    refine Trip.seq (R1 := fun y τ3 σ3 => y = .normal ∧ σ3 = σ2 ∧ τ3 = ((τ2.set 18 l).set 19 (.sc (.int .i64 1))).set 20 (.sc (.int .i64 0))) ?_ ?_ (fun _ _ _ hy h => (bad hy h).elim)
    · refine Trip.region hE hV ?_ hN2
      refine OpersN.step rfl rfl (lt2 18 (by omega)) (v := l) (σ1 := σ2) ?_ hN2 ?_
      · simp only [aOp, ev, g1]
      · refine OpersN.step rfl rfl (by simp only [Tm.set_n]; exact lt2 19 (by omega)) (v := .sc (.int .i64 1)) (σ1 := σ2) ?_ hN2 ?_
        · simp only [aOp, List.map_cons, List.map_nil, ev, Tm.get_set, if_true, aBuiltin, aLen, htsl, hl1]
          rfl
        · exact OpersN.step rfl rfl (by simp only [Tm.set_n]; exact lt2 20 (by omega)) (v := .sc (.int .i64 0)) (σ1 := σ2) rfl hN2 ⟨rfl, rfl, rfl⟩
    · rintro τ3 σ3 _ ⟨_, rfl, rfl⟩
      refine (hL2 S _ _ σ.next (σ.next + 1) seen _ hNS (by simp only [Tm.set_n]; rw [hsame.n]; exact hn) (by simp [Tm.get_set, g5]) (by simp [Tm.get_set]) (by simp [Tm.get_set]) (by simp [Tm.get_set]) hone ⟨hil1, hil2⟩ hg).mono ?_
      rintro y τ4 σ4 _ ⟨rfl, hs4, hg4⟩
      refine ⟨rfl, by rw [hs4.n]; simp only [Tm.set_n]; rw [hsame.n]; exact hn, by rw [hs4.marks]; simp only [Tm.set_marks]; rw [hsame.marks]; exact hm, ?_, hg4⟩
      rw [hs4.get 5 (by decide)]
      simp [Tm.get_set, g5]
  rintro τ3 σ3 _ ⟨_, m1, m2, m3, hg3⟩
  have hN3 : Room N σ3.next := by rw [hg3.next]; exact hNS
  refine Trip.seq (R1 := fun y τ4 σ4 => y = .normal ∧ σ4 = σ3 ∧ τ4 = (τ3.set 27 (.map σ.next)).set 4 (.map σ.next)) ?_ ?_ (fun _ _ _ hy h => (bad hy h).elim)
  · refine Trip.region hE hV ?_ hN3
    refine OpersN.step rfl rfl (by omega) (v := .map σ.next) (σ1 := σ3) ?_ hN3 ?_
    · simp only [aOp, ev, m3]
    · refine OpersN.step rfl rfl (by simp only [Tm.set_n]; omega) (v := .map σ.next) (σ1 := σ3) ?_ hN3 ⟨rfl, rfl, rfl⟩
      simp only [aOp, ev, Tm.get_set, if_true]
  · rintro τ4 σ4 _ ⟨_, rfl, rfl⟩
    refine Trip.ret ⟨rfl, by simp only [Tm.set_marks]; exact m2, by simp [Tm.get_set], ?_, by rw [hg3.next, hSn], by rw [hg3.hid, hSh], fun id i1 i2 => (hg3.keep id i1 i2).trans (hSk id i1 i2), by rw [hg3.src, hsrc]⟩ hN3
    obtain ⟨o, c, ks', h1', h2', h3'⟩ := hg3.out
    exact ⟨o, c, ks', h1', h2', fun k => by rw [h3']; simp⟩
end
end Go.Vai

/-
  From many outcomes to one: a set that a call has made.
-/
namespace Go.Vai
open Go
section
variable {E : Env} {P : Program} {B : Nat} {β : Map} {w : World}
/-- A set that is there, with the entries that stand there. -/
theorem HR.open_set {look : Look} (hR : HR E B β look w) {ids : Nat} {ks : List Int} (h : look ids = some (.set ks)) : ∃ es clock, SetOf es clock ks ∧ HR E B β (upd look ids (.map es clock)) w := by
  obtain ⟨l, hl, es, clock, cs, h1, h2, h3⟩ := hR.obj ids _ h
  have some' : ∀ id o, upd look ids (.map es clock) id = some o → ∃ o', look id = some o' := by
    intro id o ho
    unfold upd at ho
    split at ho
    · rename_i e; subst e; exact ⟨_, h⟩
    · exact ⟨o, ho⟩
  have some2 : ∀ id o, upd look ids (.map es clock) id = some o → o ≠ .gone → ∃ o', look id = some o' ∧ o' ≠ .gone := by
    intro id o ho hng
    unfold upd at ho
    split at ho
    · rename_i e; subst e; exact ⟨_, h, fun e => by cases e⟩
    · exact ⟨o, ho, hng⟩
  refine ⟨es, clock, h3, ?_, ?_, ?_, hR.gl, hR.size, fun b o hb => ⟨(hR.fz b o hb).1, fun id ob g l ho hng e => by obtain ⟨o', ho', hg'⟩ := some2 id ob ho hng; exact (hR.fz b o hb).2 id o' g l ho' hg' e⟩⟩
  · intro id o ho
    unfold upd at ho
    split at ho
    · rename_i e
      subst e
      cases ho
      exact ⟨l, hl, cs, h1, h2⟩
    · exact hR.obj id o ho
  · intro id o g l ho e
    obtain ⟨o', ho'⟩ := some' id o ho
    exact hR.own id o' g l ho' e
  · intro id o id' o' g g' l l' ho ho' e e' eb
    obtain ⟨p, hp⟩ := some' id o ho
    obtain ⟨p', hp'⟩ := some' id' o' ho'
    exact hR.inj id p id' p' g g' l l' hp hp' e e' eb
/-- A state that knows less, and sets in place of maps. -/
theorem HR.shut {look look' : Look} (hR : HR E B β look w) (h : ∀ id o, look' id = some o → look id = some o ∨ ∃ es clock ks, o = .set ks ∧ look id = some (.map es clock) ∧ SetOf es clock ks) : HR E B β look' w := by
  have some' : ∀ id o, look' id = some o → ∃ o', look id = some o' := by
    intro id o ho
    rcases h id o ho with h1 | ⟨es, clock, ks, _, h1, _⟩
    · exact ⟨o, h1⟩
    · exact ⟨_, h1⟩
  have some2 : ∀ id o, look' id = some o → o ≠ .gone → ∃ o', look id = some o' ∧ o' ≠ .gone := by
    intro id o ho hng
    rcases h id o ho with h1 | ⟨es, clock, ks, _, h1, _⟩
    · exact ⟨o, h1, hng⟩
    · exact ⟨_, h1, fun e => by cases e⟩
  refine ⟨?_, ?_, ?_, hR.gl, hR.size, fun b o hb => ⟨(hR.fz b o hb).1, fun id ob g l ho hng e => by obtain ⟨o', ho', hg'⟩ := some2 id ob ho hng; exact (hR.fz b o hb).2 id o' g l ho' hg' e⟩⟩
  · intro id o ho
    rcases h id o ho with h1 | ⟨es, clock, ks, rfl, h1, hs⟩
    · exact hR.obj id o h1
    · obtain ⟨l, hl, cs, h2, h3⟩ := hR.obj id _ h1
      exact ⟨l, hl, es, clock, cs, h2, h3, hs⟩
  · intro id o g l ho e
    obtain ⟨o', ho'⟩ := some' id o ho
    exact hR.own id o' g l ho' e
  · intro id o id' o' g g' l l' ho ho' e e' eb
    obtain ⟨p, hp⟩ := some' id o ho
    obtain ⟨p', hp'⟩ := some' id' o' ho'
    exact hR.inj id p id' p' g g' l l' hp hp' e e' eb
/-- What a step may turn hangs on which objects are seen alone. -/
theorem Step.dom {β' : Map} {look look' : Look} {lo hi : Nat} {w' : World} (h : Step β β' look lo hi w w') (hd : ∀ id, (∃ o, look id = some o) ↔ ∃ o, look' id = some o) : Step β β' look' lo hi w w' :=
  { sub := h.sub
    new := fun id g l e => by
      rcases h.new id g l e with h1 | h1 | ⟨o, ho, h1⟩
      · exact .inl h1
      · exact .inr (.inl h1)
      · obtain ⟨o', ho'⟩ := (hd id).1 ⟨o, ho⟩
        exact .inr (.inr ⟨o', ho', h1⟩)
    os := h.os
    tape := h.tape
    output := h.output
    size := h.size
    keep := fun b hb hno => h.keep b hb fun id o g l ho e => by
      obtain ⟨o', ho'⟩ := (hd id).1 ⟨o, ho⟩
      exact hno id o' g l ho' e
    fz := fun b o hb => by
      rcases h.fz b o hb with h1 | h1 | ⟨id, ob, g, l, ho, h1⟩
      · exact .inl h1
      · exact .inr (.inl h1)
      · obtain ⟨o', ho'⟩ := (hd id).1 ⟨ob, ho⟩
        exact .inr (.inr ⟨id, o', g, l, ho', h1⟩) }
end
end Go.Vai

/-
  A call that makes a set out of a set: its many outcomes as one.
-/
namespace Go.Vai
open Go
section
variable {E : Env} {P : Program}
/-- One state for all outcomes: a set more. -/
noncomputable def setSt (σ : St) (ks : List Int) : St := ⟨T.set (σ.next + 1) σ.h σ.next (.set ks), σ.next + 1 + 1, σ.hid, σ.log⟩
theorem setSt_get (σ : St) (ks : List Int) (id : Nat) : (setSt σ ks).h.get id = if id = σ.next then some (.set ks) else σ.h.get id := by
  unfold setSt
  simp only [T.get_set']
theorem setSt_look (σ : St) (ks : List Int) (id : Nat) (h : id ≠ σ.next) : (setSt σ ks).look id = σ.look id := by
  unfold St.look
  rw [setSt_get, if_neg h]
  rfl
theorem setSt_tr (σ : St) (ks : List Int) : Tr σ (setSt σ ks) := by
  refine ⟨by show σ.next ≤ σ.next + 1 + 1; omega, rfl, ⟨[], rfl, fun id hid _ => by rw [setSt_get, if_neg (by omega)], fun _ h => by cases h⟩, fun id hid => by rw [setSt_get, if_neg (by omega)], fun hw => ⟨fun id hid => ?_, fun id hid => ?_⟩⟩
  · have hid' : σ.next + 1 + 1 ≤ id := hid
    rw [setSt_get, if_neg (by omega)]
    exact hw.none id (by omega)
  · have hid' : σ.next + 1 + 1 ≤ id := hid
    exact hw.vis id (by omega)
theorem setCall_ok {f : FuncId} {args : List AV} {σ : St} {ids : Nat} {ks ks' : List Int} (hsrc : σ.look ids = some (.set ks))
    (hfn : ∃ fn, E.fn.get f = some fn ∧ fn.body ≠ none)
    (h : ∀ es clock, SetOf es clock ks → ∀ (σe : St), σe = ⟨T.set (ids + 1) σ.h ids (.map es clock), σ.next, σ.hid, σ.log⟩ → σe.look = upd σ.look ids (.map es clock) →
      CallTrip (some (σ.next + 1 + 1)) E P f args σe (WithR σe ids fun k => k ∈ ks')) :
    CallOk E P f args σ (.map σ.next) (setSt σ ks') := by
  refine ⟨setSt_tr σ ks', hfn, fun B β w us F n hO hR hW hF hus => ?_⟩
  have hids : ids < σ.next := look_lt hW hsrc
  obtain ⟨es, clock, hs, hRe⟩ := hR.open_set hsrc
  have hlook : (⟨T.set (ids + 1) σ.h ids (.map es clock), σ.next, σ.hid, σ.log⟩ : St).look = upd σ.look ids (.map es clock) := by
    have := look_put (σ := σ) (id := ids) (.map es clock) (look_some hsrc).1
    rw [St.put_eq] at this
    exact this
  have hWe : WF ⟨T.set (ids + 1) σ.h ids (.map es clock), σ.next, σ.hid, σ.log⟩ := ⟨fun id hid => by simp only [T.get_set']; rw [if_neg (by have : σ.next ≤ id := hid; omega)]; exact hW.none id hid, hW.vis⟩
  obtain ⟨_, hc⟩ := h es clock hs _ rfl hlook
  refine CallsIn.mono (hc B β w us F n hO (by rw [hlook]; exact hRe) hWe (FreshN.of hF) hus) ?_
  rintro e w' ⟨v, σ1, hr, _, _, β', u, he, hv, hR', hS⟩
  obtain ⟨hv0, ⟨o, c, kk, hout, hso, hkk⟩, hnext, hhid, hkeep, hl1⟩ := hr
  rw [hlook] at hl1
  unfold upd at hl1
  rw [if_pos rfl] at hl1
  subst hv0
  have dom : ∀ id, (∃ o, (⟨T.set (ids + 1) σ.h ids (.map es clock), σ.next, σ.hid, σ.log⟩ : St).look id = some o) ↔ ∃ o, σ.look id = some o := by
    intro id
    rw [hlook]
    unfold upd
    by_cases hi : id = ids
    · subst hi; simp [hsrc]
    · rw [if_neg hi]
  refine ⟨β', u, he, hv, hR'.shut ?_, ?_⟩
  · intro id ob ho
    by_cases h1 : id = σ.next
    · subst h1
      right
      have : (setSt σ ks').look σ.next = some ob := ho
      unfold St.look at this
      rw [setSt_get, if_pos rfl] at this
      have hob : ob = .set ks' := by
        cases hh : hidden σ.next (setSt σ ks').hid with
        | true => rw [hh] at this; cases this
        | false => rw [hh] at this; cases this; rfl
      exact ⟨o, c, ks', hob, hout, hso.congr fun k => hkk k⟩
    · rw [setSt_look σ ks' id h1] at ho
      have hlt := look_lt hW ho
      by_cases h2 : id = ids
      · subst h2
        rw [hsrc] at ho
        cases ho
        exact .inr ⟨es, clock, ks, rfl, hl1, hs⟩
      · left
        have hk := hkeep id (by show id ≠ σ.next; exact h1) (by show id ≠ σ.next + 1; omega)
        have : (⟨T.set (ids + 1) σ.h ids (.map es clock), σ.next, σ.hid, σ.log⟩ : St).look id = some ob := by
          rw [hlook]; unfold upd; rw [if_neg h2]; exact ho
        unfold St.look at this ⊢
        rw [hhid, hk]
        exact this
  · have hS2 := hS.dom dom
    have hn : σ1.next = (setSt σ ks').next := hnext
    rw [← hn]
    exact hS2
end
end Go.Vai

/-
  set.with: a call with a set that is there and a slice of one integer.
-/
namespace Go.Vai
open Go
section
variable {E : Env} {P : Program} {N : Option Nat}
/-- From the body to the call. -/
theorem withCall_of (hE : EnvOk E P) {f : FuncId} {fn : Func} {c : Code} {ids : Nat} {l : AV} {σ : St} {has : Int → Prop} (hfn : E.fn.get f = some fn) (hc : fn.body = some c) (hn : fn.ntmps = 28) (hres : fn.results.toList = [.tmp 4]) (hN : Room N (σ.next + 1 + 1))
    (h : Trip N E P none c ⟨putAll .leaf 0 [.map ids, l], 28, []⟩ σ fun y τ' σ' => y = .ret ∧ τ'.marks = [] ∧ WithR σ ids has (τ'.get 4) σ') : CallTrip N E P f [.map ids, l] σ (WithR σ ids has) := by
  refine Trip.call hE hfn hc (by rw [hn]; exact (by decide : 2 ≤ 28)) ?_
  rw [hn]
  refine h.mono ?_
  rintro y τ σ1 _ ⟨rfl, hm, hr⟩
  refine ⟨.inr rfl, σ1, [τ.get 4], by rw [hm]; rfl, by rw [hres]; rfl, by rw [hr.next]; exact hN, hr⟩
end
end Go.Vai
