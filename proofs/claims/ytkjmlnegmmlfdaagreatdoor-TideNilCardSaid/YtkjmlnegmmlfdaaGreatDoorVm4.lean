/-
  Equality of states by a boolean function; calls whose outcome is known; loops so many rounds at a time.
-/
import Derived.Test.YtkjmlnegmmlfdaaGreatDoorVm3
namespace Go.Vai
open Go

/-! ### Equality, decided -/
section
variable {α : Type}
noncomputable def sameL (f : α → α → Bool) (l : List α) : List α → Bool :=
  List.rec (motive := fun _ => List α → Bool) (fun m => List.rec (motive := fun _ => Bool) true (fun _ _ _ => false) m)
    (fun x _ ih m => List.rec (motive := fun _ => Bool) false (fun y m' _ => Bool.rec (motive := fun _ => Bool) false (ih m') (f x y)) m) l
theorem sameL_ok {f : α → α → Bool} (hf : ∀ x y, f x y = true → x = y) : ∀ (l m : List α), sameL f l m = true → l = m
  | [], [], _ => rfl
  | [], _ :: _, h => by cases h
  | _ :: _, [], h => by cases h
  | x :: l, y :: m, h => by
    have h' : (Bool.rec false (sameL f l m) (f x y) : Bool) = true := h
    cases hx : f x y with
    | false => rw [hx] at h'; cases h'
    | true =>
      rw [hx] at h'
      rw [hf x y hx, sameL_ok hf l m h']
noncomputable def sameOpt (f : α → α → Bool) (a b : Option α) : Bool :=
  Option.rec (motive := fun _ => Bool) (Option.rec (motive := fun _ => Bool) true (fun _ => false) b) (fun x => Option.rec (motive := fun _ => Bool) false (fun y => f x y) b) a
theorem sameOpt_ok {f : α → α → Bool} (hf : ∀ x y, f x y = true → x = y) : ∀ (a b : Option α), sameOpt f a b = true → a = b
  | none, none, _ => rfl
  | none, some _, h => by cases h
  | some _, none, h => by cases h
  | some x, some y, h => by rw [hf x y h]
noncomputable def sameT (f : α → α → Bool) (t : T α) : T α → Bool :=
  T.rec (motive := fun _ => T α → Bool) (fun u => T.rec (motive := fun _ => Bool) true (fun _ _ _ _ _ => false) u)
    (fun v _ _ ihl ihr u => T.rec (motive := fun _ => Bool) false (fun v' l' r' _ _ => Bool.rec (motive := fun _ => Bool) false (Bool.rec (motive := fun _ => Bool) false (ihr r') (ihl l')) (sameOpt f v v')) u) t
theorem sameT_ok {f : α → α → Bool} (hf : ∀ x y, f x y = true → x = y) : ∀ (t u : T α), sameT f t u = true → t = u
  | .leaf, .leaf, _ => rfl
  | .leaf, .node _ _ _, h => by cases h
  | .node _ _ _, .leaf, h => by cases h
  | .node v l r, .node v' l' r', h => by
    have h' : (Bool.rec false (Bool.rec false (sameT f r r') (sameT f l l')) (sameOpt f v v') : Bool) = true := h
    cases hv : sameOpt f v v' with
    | false => rw [hv] at h'; cases h'
    | true =>
      rw [hv] at h'
      cases hl : sameT f l l' with
      | false => rw [hl] at h'; cases h'
      | true =>
        rw [hl] at h'
        rw [sameOpt_ok hf v v' hv, sameT_ok hf l l' hl, sameT_ok hf r r' h']
end
theorem beq_ok (a b : Nat) (h : Nat.beq a b = true) : a = b := beqT h
noncomputable def sameB (a b : Bool) : Bool := Bool.rec (motive := fun _ => Bool) (notF b) b a
theorem sameB_ok (a b : Bool) (h : sameB a b = true) : a = b := by cases a <;> cases b <;> first | rfl | cases h
noncomputable def sameI (k : IntKind) (a : Int) (j : IntKind) (b : Int) : Bool := Bool.rec (motive := fun _ => Bool) false (eqF a b) (decide (k = j))
theorem sameI_ok {k : IntKind} {a : Int} {j : IntKind} {b : Int} (h : sameI k a j b = true) : k = j ∧ a = b := by
  unfold sameI at h
  cases hd : decide (k = j) with
  | false => rw [hd] at h; cases h
  | true =>
    rw [hd] at h
    refine ⟨of_decide_eq_true hd, ?_⟩
    have : eqF a b = true := h
    rw [eqF_eq] at this
    simpa using this
noncomputable def sameV : Nat → Value → Value → Bool
  | 0, _, _ => false
  | n + 1, a, b => match a, b with
    | .int k a, .int j b => sameI k a j b
    | .bool a, .bool b => sameB a b
    | .string a, .string b => a.data.toList == b.data.toList
    | .pointer none, .pointer none => true
    | .slice none 0 0, .slice none 0 0 => true
    | .map none, .map none => true
    | .nilFunc, .nilFunc => true
    | .nilIface, .nilIface => true
    | .func (.func f) a b, .func (.func g) c d => Nat.beq f g && sameL (sameV n) a.toList c.toList && sameL (sameV n) b.toList d.toList
    | .agg a, .agg b => sameL (sameV n) a.toList b.toList
    | .tuple a, .tuple b => sameL (sameV n) a.toList b.toList
    | _, _ => false
theorem sameV_ok : ∀ (n : Nat) (a b : Value), sameV n a b = true → a = b
  | 0, _, _, h => by cases h
  | n + 1, a, b, h => by
    unfold sameV at h
    split at h
    · obtain ⟨rfl, rfl⟩ := sameI_ok h; rfl
    · rw [sameB_ok _ _ h]
    · rename_i a b
      have : a.data.toList = b.data.toList := by simpa using h
      cases a with | mk a => cases b with | mk b => simp only at this; rw [Array.toList_inj.1 this]
    · rfl
    · rfl
    · rfl
    · rfl
    · rfl
    · rename_i f a b g c d
      simp only [Bool.and_eq_true] at h
      obtain ⟨⟨h1, h2⟩, h3⟩ := h
      rw [beqT h1, Array.toList_inj.1 (sameL_ok (sameV_ok n) _ _ h2), Array.toList_inj.1 (sameL_ok (sameV_ok n) _ _ h3)]
    · rw [Array.toList_inj.1 (sameL_ok (sameV_ok n) _ _ h)]
    · rw [Array.toList_inj.1 (sameL_ok (sameV_ok n) _ _ h)]
    · cases h
noncomputable def sameA : Nat → AV → AV → Bool
  | 0, _, _ => false
  | n + 1, a, b => match a, b with
    | .sc a, .sc b => sameV n a b
    | .ptr i g o k, .ptr i' g' o' k' => Nat.beq i i' && Nat.beq g g' && Nat.beq o o' && Nat.beq k k'
    | .slice i g o l e m, .slice i' g' o' l' e' m' => Nat.beq i i' && Nat.beq g g' && Nat.beq o o' && Nat.beq l l' && Nat.beq e e' && Nat.beq m m'
    | .map i, .map j => Nat.beq i j
    | .yield i, .yield j => Nat.beq i j
    | .func (.func f) a b, .func (.func g) c d => Nat.beq f g && sameL (sameA n) a c && sameL (sameA n) b d
    | .agg a, .agg b => sameL (sameA n) a b
    | .tuple a, .tuple b => sameL (sameA n) a b
    | _, _ => false
theorem sameA_ok : ∀ (n : Nat) (a b : AV), sameA n a b = true → a = b
  | 0, _, _, h => by cases h
  | n + 1, a, b, h => by
    unfold sameA at h
    split at h
    · rw [sameV_ok n _ _ h]
    · simp only [Bool.and_eq_true] at h
      obtain ⟨⟨⟨h1, h2⟩, h3⟩, h4⟩ := h
      rw [beqT h1, beqT h2, beqT h3, beqT h4]
    · simp only [Bool.and_eq_true] at h
      obtain ⟨⟨⟨⟨⟨h1, h2⟩, h3⟩, h4⟩, h5⟩, h6⟩ := h
      rw [beqT h1, beqT h2, beqT h3, beqT h4, beqT h5, beqT h6]
    · rw [beqT h]
    · rw [beqT h]
    · simp only [Bool.and_eq_true] at h
      obtain ⟨⟨h1, h2⟩, h3⟩ := h
      rw [beqT h1, sameL_ok (sameA_ok n) _ _ h2, sameL_ok (sameA_ok n) _ _ h3]
    · rw [sameL_ok (sameA_ok n) _ _ h]
    · rw [sameL_ok (sameA_ok n) _ _ h]
    · cases h
noncomputable def sameE (a b : AEntry) : Bool := Nat.beq a.born b.born && sameA 6 a.key b.key && sameA 6 a.val b.val
theorem sameE_ok (a b : AEntry) (h : sameE a b = true) : a = b := by
  cases a; cases b
  simp only [sameE, Bool.and_eq_true] at h
  obtain ⟨⟨h1, h2⟩, h3⟩ := h
  rw [beqT h1, sameA_ok _ _ _ h2, sameA_ok _ _ _ h3]
noncomputable def sameO (a b : AObj) : Bool :=
  match a, b with
  | .row g m l, .row g' m' l' => Nat.beq g g' && Nat.beq m m' && sameL (sameA 6) l l'
  | .map es c, .map es' c' => Nat.beq c c' && sameL sameE es es'
  | .iter m s l k, .iter m' s' l' k' => sameOpt Nat.beq m m' && Nat.beq s s' && sameL Nat.beq l l' && Nat.beq k k'
  | .dfr a, .dfr b => sameB a b
  | .gone, .gone => true
  | _, _ => false
theorem sameO_ok (a b : AObj) (h : sameO a b = true) : a = b := by
  unfold sameO at h
  split at h
  · simp only [Bool.and_eq_true] at h
    obtain ⟨⟨h1, h2⟩, h3⟩ := h
    rw [beqT h1, beqT h2, sameL_ok (sameA_ok 6) _ _ h3]
  · simp only [Bool.and_eq_true] at h
    obtain ⟨h1, h2⟩ := h
    rw [beqT h1, sameL_ok sameE_ok _ _ h2]
  · simp only [Bool.and_eq_true] at h
    obtain ⟨⟨⟨h1, h2⟩, h3⟩, h4⟩ := h
    rw [sameOpt_ok beq_ok _ _ h1, beqT h2, sameL_ok beq_ok _ _ h3, beqT h4]
  · rw [sameB_ok _ _ h]
  · rfl
  · cases h
noncomputable def sameP (a b : Nat × Nat) : Bool := Prod.rec (motive := fun _ => Bool) (fun x y => Prod.rec (motive := fun _ => Bool) (fun x' y' => Bool.rec (motive := fun _ => Bool) false (Nat.beq y y') (Nat.beq x x')) b) a
theorem sameP_ok (a b : Nat × Nat) (h : sameP a b = true) : a = b := by
  obtain ⟨x, y⟩ := a
  obtain ⟨x', y'⟩ := b
  have h' : (Bool.rec false (Nat.beq y y') (Nat.beq x x') : Bool) = true := h
  cases hx : Nat.beq x x' with
  | false => rw [hx] at h'; cases h'
  | true => rw [hx] at h'; rw [beqT hx, beqT h']
noncomputable def sameSt (a b : St) : Bool := Nat.beq (St.next a) (St.next b) && sameL sameP (St.hid a) (St.hid b) && sameL Nat.beq (St.log a) (St.log b) && sameT sameO (St.h a) (St.h b)
theorem sameSt_ok (a b : St) (h : sameSt a b = true) : a = b := by
  cases a; cases b
  simp only [sameSt, Bool.and_eq_true] at h
  obtain ⟨⟨⟨h1, h2⟩, h3⟩, h4⟩ := h
  rw [beqT h1, sameL_ok sameP_ok _ _ h2, sameL_ok beq_ok _ _ h3, sameT_ok sameO_ok _ _ h4]
noncomputable def sameTm (a b : Tm) : Bool := Nat.beq (Tm.n a) (Tm.n b) && sameL Nat.beq (Tm.marks a) (Tm.marks b) && sameT (sameA 8) (Tm.t a) (Tm.t b)
theorem sameTm_ok (a b : Tm) (h : sameTm a b = true) : a = b := by
  cases a; cases b
  simp only [sameTm, Bool.and_eq_true] at h
  obtain ⟨⟨h1, h2⟩, h3⟩ := h
  rw [beqT h1, sameL_ok beq_ok _ _ h2, sameT_ok (sameA_ok 8) _ _ h3]

/-! ### Calls whose outcome is known -/
def CodeOk (E : Env) (P : Program) (rd : Option Nat) (c : Code) (τ : Tm) (σ : St) (x : AExit) (τ' : Tm) (σ' : St) : Prop := Tr σ σ' ∧ CodeSound E P rd c τ σ x τ' σ'
def CallOk (E : Env) (P : Program) (f : FuncId) (args : List AV) (σ : St) (v : AV) (σ' : St) : Prop := Tr σ σ' ∧ (∃ fn, E.fn.get f = some fn ∧ fn.body ≠ none) ∧
    ∀ (B : Nat) (β : Map) (w : World) (us : List Value) (F : Fence) (n : Nat), Open F → HR E B β σ.look w → WF σ → Fresh β σ.next σ'.next → VRs β args us → CallsIn F n P f us.toArray w (RetP E B β σ σ' w v)
structure Entry where
  f : FuncId
  args : List AV
  σ : St
  v : AV
  σ' : St
noncomputable def hit (e : Entry) (f : FuncId) (args : List AV) (σ : St) : Bool :=
  Bool.rec (motive := fun _ => Bool) false (Bool.rec (motive := fun _ => Bool) false (Bool.rec (motive := fun _ => Bool) false (sameSt (Entry.σ e) σ) (sameL (sameA 8) (Entry.args e) args))
    (Nat.beq (St.next (Entry.σ e)) (St.next σ))) (Nat.beq (Entry.f e) f)
theorem hit_ok {e : Entry} {f : FuncId} {args : List AV} {σ : St} (h : hit e f args σ = true) : e.f = f ∧ e.args = args ∧ e.σ = σ := by
  unfold hit at h
  cases h1 : Nat.beq e.f f with
  | false => rw [h1] at h; cases h
  | true =>
    rw [h1] at h
    cases h2 : Nat.beq e.σ.next σ.next with
    | false => rw [h2] at h; cases h
    | true =>
      rw [h2] at h
      cases h3 : sameL (sameA 8) e.args args with
      | false => rw [h3] at h; cases h
      | true =>
        rw [h3] at h
        exact ⟨beqT h1, sameL_ok (sameA_ok 8) _ _ h3, sameSt_ok _ _ h⟩
noncomputable def knownF (l : List Entry) (f : FuncId) (args : List AV) (σ : St) (slow : R1) : R1 :=
  List.rec (motive := fun _ => R1) slow (fun e _ ih => Bool.rec (motive := fun _ => R1) ih (some (Entry.v e, Entry.σ' e)) (hit e f args σ)) l
theorem knownF_ok : ∀ (l : List Entry) {f : FuncId} {args : List AV} {σ : St} {slow : R1} {r : AV × St}, knownF l f args σ slow = some r → slow = some r ∨ ∃ e ∈ l, e.f = f ∧ e.args = args ∧ e.σ = σ ∧ r = (e.v, e.σ')
  | [], _, _, _, _, _, h => .inl h
  | e :: l, f, args, σ, slow, r, h => by
    have h' : (Bool.rec (knownF l f args σ slow) (some (e.v, e.σ')) (hit e f args σ) : R1) = some r := h
    cases hh : hit e f args σ with
    | false =>
      rw [hh] at h'
      rcases knownF_ok l h' with h2 | ⟨e', he, hr⟩
      · exact .inl h2
      · exact .inr ⟨e', List.mem_cons_of_mem _ he, hr⟩
    | true =>
      rw [hh] at h'
      obtain ⟨h1, h2, h3⟩ := hit_ok hh
      exact .inr ⟨e, List.mem_cons_self, h1, h2, h3, (Option.some.inj h').symm⟩
noncomputable def EvK.at (E : Env) (l : List Entry) (n : Nat) : Ev :=
  Nat.rec (motive := fun _ => Ev) Ev.none (fun _ V => ⟨codeF E V, fun f args σ => knownF l f args σ (callF E V f args σ), roundStep V⟩) n
def Known (E : Env) (P : Program) (l : List Entry) : Prop := ∀ e ∈ l, CallOk E P e.f e.args e.σ e.v e.σ'
section
variable {E : Env} {P : Program}
theorem known_sound (hE : EnvOk E P) {l : List Entry} (hl : Known E P l) : ∀ n, Sound E P (EvK.at E l n)
  | 0 => none_sound
  | n + 1 => by
    have ih := known_sound hE hl n
    have hs := next_sound hE (draw_ok hE) ih
    refine ⟨?_, ?_, ?_⟩
    · intro rd c τ σ x τ' σ' h
      have h' : codeF E (EvK.at E l n) rd c τ σ = some (x, τ', σ') := h
      rw [codeF_eq] at h'
      exact hs.code rd c τ σ x τ' σ' h'
    · intro f args σ v σ' h
      have h' : knownF l f args σ (callF E (EvK.at E l n) f args σ) = some (v, σ') := h
      rcases knownF_ok l h' with h2 | ⟨e, he, h1, h2, h3, hr⟩
      · rw [callF_eq] at h2
        exact hs.call f args σ v σ' h2
      · cases hr
        subst h1 h2 h3
        exact hl e he
    · intro l' args σ v σ' h
      exact hs.round l' args σ v σ' h

/-! ### Loops, so many rounds at a time; code in pieces -/
noncomputable def roundsF (V : Ev) (rd : Option Nat) (c : Code) (k : Nat) : Tm → St → R2 :=
  Nat.rec (motive := fun _ => Tm → St → R2) (fun τ σ => some (τ, σ)) (fun _ ih τ σ => Option.rec (motive := fun _ => R2) none (fun p => Prod.rec (motive := fun _ => R2) (fun x q =>
    AExit.rec (motive := fun _ => R2) (Prod.rec (motive := fun _ => R2) (fun τ' σ' => ih τ' σ') q) (fun _ => none) (fun _ => none) none x) p) (Ev.code V rd c τ σ)) k
theorem loop_ok {rd : Option Nat} {c : Code} {τ τ1 τ' : Tm} {σ σ1 σ' : St} {x : AExit} (h1 : CodeOk E P rd c τ σ .normal τ1 σ1) (h2 : CodeOk E P rd (.loop c) τ1 σ1 x τ' σ') : CodeOk E P rd (.loop c) τ σ x τ' σ' := by
  obtain ⟨t1, s1⟩ := h1
  obtain ⟨t2, s2⟩ := h2
  refine ⟨t1.trans t2, fun B β w a F n Q hO hrd hR hW hF ht hQ => loopJ_round (wpL_wpIn (s1 B β w a F n _ hO hrd hR hW (fresh_first t2 hF) ht ?_))⟩
  intro β1 w1 a1 hR1 hS1 ht1
  refine s2 B β1 w1 a1 F n Q hO (hrd.mono hS1.sub) hR1 (t1.wf hW) (fresh_then t1 hW hF hS1) ht1 ?_
  intro β2 w2 a2 hR2 hS2 ht2
  exact hQ β2 w2 a2 hR2 (step_trans t1 t2 hW hF hS1 hS2) ht2
theorem rounds_ok {V : Ev} (hV : Sound E P V) {rd : Option Nat} {c : Code} {x : AExit} {τ' : Tm} {σ' : St} : ∀ (k : Nat) (τ τ1 : Tm) (σ σ1 : St), roundsF V rd c k τ σ = some (τ1, σ1) →
    CodeOk E P rd (.loop c) τ1 σ1 x τ' σ' → CodeOk E P rd (.loop c) τ σ x τ' σ'
  | 0, τ, τ1, σ, σ1, h, h2 => by cases h; exact h2
  | k + 1, τ, τ1, σ, σ1, h, h2 => by
    have h' : (Option.rec none (fun p => Prod.rec (fun x q => AExit.rec (Prod.rec (fun τ' σ' => roundsF V rd c k τ' σ') q) (fun _ => none) (fun _ => none) none x) p) (V.code rd c τ σ) : R2) = some (τ1, σ1) := h
    cases hc : V.code rd c τ σ with
    | none => rw [hc] at h'; cases h'
    | some p =>
      obtain ⟨y, τ2, σ2⟩ := p
      rw [hc] at h'
      cases y with
      | normal => exact loop_ok (hV.code _ _ _ _ _ _ _ hc) (rounds_ok hV k τ2 τ1 σ2 σ1 h' h2)
      | _ => cases h'
theorem seq_ok {rd : Option Nat} {c d : Code} {τ τ1 τ' : Tm} {σ σ1 σ' : St} {x : AExit} (h1 : CodeOk E P rd c τ σ .normal τ1 σ1) (h2 : CodeOk E P rd d τ1 σ1 x τ' σ') : CodeOk E P rd (.seq c d) τ σ x τ' σ' := by
  obtain ⟨t1, s1⟩ := h1
  obtain ⟨t2, s2⟩ := h2
  refine ⟨t1.trans t2, fun B β w a F n Q hO hrd hR hW hF ht hQ => wpIn_seq (wpL_wpIn (s1 B β w a F n _ hO hrd hR hW (fresh_first t2 hF) ht ?_))⟩
  intro β1 w1 a1 hR1 hS1 ht1
  refine wpL_wpIn (s2 B β1 w1 a1 F n Q hO (hrd.mono hS1.sub) hR1 (t1.wf hW) (fresh_then t1 hW hF hS1) ht1 ?_)
  intro β2 w2 a2 hR2 hS2 ht2
  exact hQ β2 w2 a2 hR2 (step_trans t1 t2 hW hF hS1 hS2) ht2
open Classical in
/-- One run of code is known. -/
noncomputable def oneCode (rd : Option Nat) (c : Code) (τ : Tm) (σ : St) (r : AExit × Tm × St) : Ev :=
  ⟨fun rd' c' τ' σ' => if rd' = rd ∧ c' = c ∧ τ' = τ ∧ σ' = σ then some r else none, fun _ _ _ => none, fun _ _ _ => none⟩
theorem oneCode_sound {rd : Option Nat} {c : Code} {τ τ' : Tm} {σ σ' : St} {x : AExit} (h : CodeOk E P rd c τ σ x τ' σ') : Sound E P (oneCode rd c τ σ (x, τ', σ')) := by
  refine ⟨?_, fun _ _ _ _ _ h => (by cases h), fun _ _ _ _ _ h => (by cases h)⟩
  intro rd1 c1 τ1 σ1 x1 τ2 σ2 h1
  simp only [oneCode] at h1
  split at h1
  · rename_i e
    obtain ⟨rfl, rfl, rfl, rfl⟩ := e
    cases h1
    exact h
  · cases h1
theorem block_ok (hE : EnvOk E P) {rd : Option Nat} {id : Nat} {c : Code} {τ τ' : Tm} {σ σ' : St} {x : AExit} (h : CodeOk E P rd c τ σ x τ' σ') :
    CodeOk E P rd (.block id c) τ σ (match x with | .exit i => cond (Nat.beq i id) .normal (.exit i) | y => y) τ' σ' := by
  refine code_step hE (draw_ok hE) (oneCode_sound h) ?_
  simp only [codeStep, oneCode, and_self, if_true]
  cases x with
  | exit i =>
    simp only
    cases Nat.beq i id <;> rfl
  | _ => rfl
theorem call_ok' (hE : EnvOk E P) {f : FuncId} {fn : Func} {c : Code} {args : List AV} {τ : Tm} {σ σ1 : St} {x : AExit} {v : AV} {σ' : St} (hf : E.fn.get f = some fn) (hc : fn.body = some c) (ha : Nat.ble args.length fn.ntmps = true)
    (h : CodeOk E P none c ⟨putAll .leaf 0 args, fn.ntmps, []⟩ σ x τ σ1) (hx : x = .normal ∨ x = .ret) (hfin : finF E fn τ σ1 = some (v, σ')) : CallOk E P f args σ v σ' := by
  refine call_step hE (oneCode_sound h) ?_
  rw [← callF_eq]
  unfold callF
  rw [hf]
  simp only [hc, lenF_eq, ha, putAllF_eq, oneCode, and_self, if_true]
  rcases hx with rfl | rfl <;> exact hfin
theorem closed_call {f : FuncId} {v : AV} {σ : St} (h : CallOk E P f [] ⟨.leaf, 0, [], []⟩ v σ) {w : World}
    (hgl : ∀ g cs, E.gl.get g = some cs → g < w.heap.size ∧ ∀ (i : Nat) v, cs[i]? = some v → w.cell? ⟨g, i, none⟩ = some v) :
    Calls P f #[] w fun e w' => ∃ β u, e = .returned u ∧ VR β v u ∧ w'.os = w.os ∧ w'.tape = w.tape ∧ w'.output = w.output ∧ w.heap.size ≤ w'.heap.size ∧ ∀ b, b < w.heap.size → w'.heap[b]? = w.heap[b]? := by
  obtain ⟨_, _, hc⟩ := h
  have hR : HR E w.heap.size (fun _ _ => none) (⟨.leaf, 0, [], []⟩ : St).look w := by
    refine ⟨?_, ?_, ?_, hgl, Nat.le_refl _⟩
    · intro id o ho; simp [St.look, hidden, T.get] at ho
    · intro id o g l ho; simp [St.look, hidden, T.get] at ho
    · intro id o id' o' g g' l l' ho; simp [St.look, hidden, T.get] at ho
  have hW : WF ⟨.leaf, 0, [], []⟩ := ⟨fun id _ => rfl, fun id _ => rfl⟩
  have hOp : Open Fence.wide := ⟨fun _ => trivial, rfl⟩
  have := callsIn_wide.1 (hc w.heap.size (fun _ _ => none) w [] Fence.wide 0 hOp hR hW (fun _ _ _ _ => rfl) (by simp [VRs]))
  refine Calls.mono this ?_
  rintro e w' ⟨β, u, rfl, hv, _, hS⟩
  exact ⟨β, u, rfl, hv, hS.os, hS.tape, hS.output, hS.size, fun b hb => hS.keep b hb fun id o g l ho => by simp [St.look, hidden, T.get] at ho⟩

/-! ### Outcomes held against what is written down -/
noncomputable def isCall (r : R1) (v : AV) (σ : St) : Bool := Option.rec (motive := fun _ => Bool) false (fun p => Prod.rec (motive := fun _ => Bool) (fun v' σ' => Bool.rec (motive := fun _ => Bool) false (sameSt σ σ') (sameA 8 v v')) p) r
theorem isCall_ok {r : R1} {v : AV} {σ : St} (h : isCall r v σ = true) : r = some (v, σ) := by
  cases r with
  | none => cases h
  | some p =>
    obtain ⟨v', σ'⟩ := p
    have h' : (Bool.rec false (sameSt σ σ') (sameA 8 v v') : Bool) = true := h
    cases hv : sameA 8 v v' with
    | false => rw [hv] at h'; cases h'
    | true =>
      rw [hv] at h'
      rw [sameA_ok _ _ _ hv, sameSt_ok _ _ h']
noncomputable def isRun (r : R2) (τ : Tm) (σ : St) : Bool := Option.rec (motive := fun _ => Bool) false (fun p => Prod.rec (motive := fun _ => Bool) (fun τ' σ' => Bool.rec (motive := fun _ => Bool) false (sameSt σ σ') (sameTm τ τ')) p) r
theorem isRun_ok {r : R2} {τ : Tm} {σ : St} (h : isRun r τ σ = true) : r = some (τ, σ) := by
  cases r with
  | none => cases h
  | some p =>
    obtain ⟨τ', σ'⟩ := p
    have h' : (Bool.rec false (sameSt σ σ') (sameTm τ τ') : Bool) = true := h
    cases hv : sameTm τ τ' with
    | false => rw [hv] at h'; cases h'
    | true =>
      rw [hv] at h'
      rw [sameTm_ok _ _ hv, sameSt_ok _ _ h']
/-- The run of code that comes to an exit: as a run, with the exit asked besides. -/
noncomputable def exitF (x : AExit) (r : R3) : R2 :=
  match r, x with
  | some (.normal, p), .normal => some p
  | some (.ret, p), .ret => some p
  | some (.exit i, p), .exit j => Bool.rec (motive := fun _ => R2) none (some p) (Nat.beq i j)
  | _, _ => none
theorem exitF_ok {x : AExit} {r : R3} {τ : Tm} {σ : St} (h : exitF x r = some (τ, σ)) : r = some (x, τ, σ) := by
  cases r with
  | none => cases x <;> cases h
  | some p =>
    obtain ⟨y, q⟩ := p
    cases y with
    | normal => cases x <;> first | (have h' : (some q : R2) = some (τ, σ) := h; cases h'; rfl) | cases h
    | ret => cases x <;> first | (have h' : (some q : R2) = some (τ, σ) := h; cases h'; rfl) | cases h
    | goto l => cases x <;> cases h
    | exit i =>
      cases x with
      | exit j =>
        have h' : (Bool.rec none (some q) (Nat.beq i j) : R2) = some (τ, σ) := h
        cases hb : Nat.beq i j with
        | false => rw [hb] at h'; cases h'
        | true =>
          rw [hb] at h'
          cases h'
          rw [beqT hb]
      | _ => cases h
theorem callOk_of (hE : EnvOk E P) {l : List Entry} (hl : Known E P l) {n : Nat} {f : FuncId} {args : List AV} {σ : St} {v : AV} {σ' : St} (h : isCall ((EvK.at E l n).call f args σ) v σ' = true) : CallOk E P f args σ v σ' :=
  (known_sound hE hl n).call _ _ _ _ _ (isCall_ok h)
theorem codeOk_of (hE : EnvOk E P) {l : List Entry} (hl : Known E P l) {n : Nat} {rd : Option Nat} {c : Code} {τ τ' : Tm} {σ σ' : St} {x : AExit} (h : isRun (exitF x ((EvK.at E l n).code rd c τ σ)) τ' σ' = true) : CodeOk E P rd c τ σ x τ' σ' :=
  (known_sound hE hl n).code _ _ _ _ _ _ _ (exitF_ok (isRun_ok h))
theorem roundsOk_of (hE : EnvOk E P) {l : List Entry} (hl : Known E P l) {n : Nat} {rd : Option Nat} {c : Code} {k : Nat} {τ τ1 τ' : Tm} {σ σ1 σ' : St} {x : AExit} (h : isRun (roundsF (EvK.at E l n) rd c k τ σ) τ1 σ1 = true)
    (h2 : CodeOk E P rd (.loop c) τ1 σ1 x τ' σ') : CodeOk E P rd (.loop c) τ σ x τ' σ' :=
  rounds_ok (known_sound hE hl n) k τ τ1 σ σ1 (isRun_ok h) h2
/-- Objects laid into a heap. -/
noncomputable def putsF (l : List (Nat × AObj)) : T AObj → T AObj :=
  List.rec (motive := fun _ => T AObj → T AObj) (fun t => t) (fun p _ ih t => Prod.rec (motive := fun _ => T AObj) (fun i o => ih (T.set (Nat.succ i) t i o)) p) l
end
end Go.Vai

/-
  Short words for values and objects that are written out.
-/
namespace Go.Vai
open Go
def vi (n : Nat) : AV := .sc (.int .i64 (.ofNat n))
def vy (n : Nat) : AV := .sc (.int .u8 (.ofNat n))
def vk (k : IntKind) (n : Int) : AV := .sc (.int k n)
def vt : AV := .sc (.bool true)
def vf : AV := .sc (.bool false)
def vq (l : List Nat) : AV := .sc (.string ⟨(l.map UInt8.ofNat).toArray⟩)
def vn : AV := .sc (.pointer none)
def vz : AV := .sc (.slice none 0 0)
def vm : AV := .sc (.map none)
def vx : AV := .sc .nilFunc
def vj : AV := .sc .nilIface
def vg (f : Nat) : AV := .sc (.func (.func f) #[] #[])
def va (l : List Value) : AV := .sc (.agg l.toArray)
def wi (n : Nat) : Value := .int .i64 (.ofNat n)
def wy (n : Nat) : Value := .int .u8 (.ofNat n)
def wk (k : IntKind) (n : Int) : Value := .int k n
def wt : Value := .bool true
def wf : Value := .bool false
def wq (l : List Nat) : Value := .string ⟨(l.map UInt8.ofNat).toArray⟩
def wn : Value := .pointer none
def wz : Value := .slice none 0 0
def wm : Value := .map none
def wx : Value := .nilFunc
def vp (i g o k : Nat) : AV := .ptr i g o k
def vs (i g o l e m : Nat) : AV := .slice i g o l e m
def vmap (i : Nat) : AV := .map i
def vyield (i : Nat) : AV := .yield i
def vfn (f : Nat) (a b : List AV) : AV := .func (.func f) a b
def ro (g m : Nat) (l : List AV) : AObj := .row g m l
/-- Temporaries laid into a trie. -/
noncomputable def putsV (l : List (Nat × AV)) : T AV → T AV :=
  List.rec (motive := fun _ => T AV → T AV) (fun t => t) (fun p _ ih t => Prod.rec (motive := fun _ => T AV) (fun i o => ih (T.set (Nat.succ i) t i o)) p) l
/-- The law's own call: it answers true. -/
noncomputable def isTrueK (r : R1) : Bool := match r with
  | some (.sc (.bool true), _) => true
  | _ => false
theorem trueCall {E : Env} {P : Program} (hE : EnvOk E P) {l : List Entry} (hl : Known E P l) {n : Nat} {f : FuncId} (h : isTrueK ((EvK.at E l n).call f [] ⟨.leaf, 0, [], []⟩) = true) : ∃ σ, CallOk E P f [] ⟨.leaf, 0, [], []⟩ (.sc (.bool true)) σ := by
  cases hc : (EvK.at E l n).call f [] ⟨.leaf, 0, [], []⟩ with
  | none => rw [hc] at h; cases h
  | some p =>
    obtain ⟨v, σ⟩ := p
    rw [hc] at h
    cases v with
    | sc v =>
      cases v with
      | bool b =>
        cases b with
        | true => exact ⟨σ, (known_sound hE hl n).call _ _ _ _ _ hc⟩
        | false => cases h
      | _ => cases h
    | _ => cases h
theorem known_nil {E : Env} {P : Program} : Known E P [] := fun e he => by cases he
theorem known_cons {E : Env} {P : Program} {e : Entry} {l : List Entry} (h : CallOk E P e.f e.args e.σ e.v e.σ') (hl : Known E P l) : Known E P (e :: l) := fun e' he => by
  rcases List.mem_cons.1 he with rfl | he
  · exact h
  · exact hl e' he

/-! ### A call whose body ends in one long loop -/
noncomputable def normalK (r : R3) (k : Tm → St → R2) : R2 := Option.rec (motive := fun _ => R2) none (fun p => Prod.rec (motive := fun _ => R2) (fun x q =>
    AExit.rec (motive := fun _ => R2) (Prod.rec (motive := fun _ => R2) (fun τ' σ' => k τ' σ') q) (fun _ => none) (fun _ => none) none x) p) r
noncomputable def spineF (V : Ev) (rd : Option Nat) (k : Nat) : Code → Tm → St → R2 :=
  Nat.rec (motive := fun _ => Code → Tm → St → R2) (fun _ τ σ => some (τ, σ)) (fun _ ih c τ σ => match c with
    | .seq a b => normalK (Ev.code V rd a τ σ) (ih b)
    | _ => none) k
def rightC : Nat → Code → Code
  | 0, c => c
  | k + 1, .seq _ b => rightC k b
  | _ + 1, c => c
def blockId : Code → Nat
  | .block id _ => id
  | _ => 0
def loopIn : Code → Code
  | .block _ (.loop c) => c
  | c => c
def bodyOf (fn : Func) : Code := fn.body.getD .skip
section
variable {E : Env} {P : Program} {V : Ev}
theorem spine_ok (hV : Sound E P V) {rd : Option Nat} {x : AExit} {τ' : Tm} {σ' : St} : ∀ (k : Nat) (c : Code) (τ τ1 : Tm) (σ σ1 : St), spineF V rd k c τ σ = some (τ1, σ1) →
    CodeOk E P rd (rightC k c) τ1 σ1 x τ' σ' → CodeOk E P rd c τ σ x τ' σ'
  | 0, c, τ, τ1, σ, σ1, h, h2 => by cases h; exact h2
  | k + 1, c, τ, τ1, σ, σ1, h, h2 => by
    cases c with
    | seq a b =>
      have h' : normalK (V.code rd a τ σ) (spineF V rd k b) = some (τ1, σ1) := h
      cases hc : V.code rd a τ σ with
      | none => rw [hc] at h'; cases h'
      | some p =>
        obtain ⟨y, τ2, σ2⟩ := p
        rw [hc] at h'
        cases y with
        | normal => exact seq_ok (hV.code _ _ _ _ _ _ _ hc) (spine_ok hV k b τ2 τ1 σ2 σ1 h' h2)
        | _ => cases h'
    | _ => cases h
noncomputable def endF (E : Env) (fn : Func) (V : Ev) (c : Code) (τ : Tm) (σ : St) : R1 :=
  match Ev.code V none (.loop c) τ σ with
  | some (.ret, q) => finF E fn q.1 q.2
  | _ => none
theorem loopCall_ok (hE : EnvOk E P) {V' : Ev} (hV : Sound E P V) (hV' : Sound E P V') {f : FuncId} {fn : Func} {c B : Code} {id k : Nat} {args : List AV} {τ1 τn : Tm} {σ σ1 σn σ' : St} {v : AV}
    (hf : E.fn.get f = some fn) (hc : fn.body = some c) (ha : Nat.ble args.length fn.ntmps = true) (hb : rightC k c = .block id (.loop B))
    (h1 : spineF V none k c ⟨putAll .leaf 0 args, fn.ntmps, []⟩ σ = some (τ1, σ1))
    (h2 : ∀ x τ' σ', CodeOk E P none (.loop B) τn σn x τ' σ' → CodeOk E P none (.loop B) τ1 σ1 x τ' σ')
    (h3 : endF E fn V' B τn σn = some (v, σ')) : CallOk E P f args σ v σ' := by
  unfold endF at h3
  cases hx : V'.code none (.loop B) τn σn with
  | none => rw [hx] at h3; cases h3
  | some p =>
    obtain ⟨y, τe, σe⟩ := p
    rw [hx] at h3
    cases y with
    | ret =>
      have hl := h2 _ _ _ (hV'.code _ _ _ _ _ _ _ hx)
      have hbk := block_ok hE (id := id) hl
      rw [← hb] at hbk
      exact call_ok' hE hf hc ha (spine_ok hV k c _ _ _ _ h1 hbk) (.inr rfl) h3
    | _ => cases h3
end
end Go.Vai
