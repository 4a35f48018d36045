/-
  What is said of code, of calls and of rounds; operations with calls in them; plain regions; control.
-/
import Derived.Test.YtkjmlnegmmlfdaaGreatDoorVaiU
namespace Go.Vai
open Go

def MarksR (β : Map) : List Nat → List Deferred → Prop
  | [], ds => ds = []
  | d :: l, ds => ∃ ld ds', β d 0 = some ld ∧ ds = { target := .collected ld.b, args := #[] } :: ds' ∧ MarksR β l ds'
theorem MarksR.mono {β β' : Map} (h : Sub β β') : ∀ {l : List Nat} {ds : List Deferred}, MarksR β l ds → MarksR β' l ds
  | [], _, r => r
  | _ :: _, _, ⟨ld, ds', e, r1, r2⟩ => ⟨ld, ds', h _ _ _ e, r1, MarksR.mono h r2⟩
def FrR (β : Map) (τ : Tm) (a : Act) : Prop := TmpR β τ.t τ.n a.tmps ∧ MarksR β τ.marks a.defers
theorem FrR.mono {β β' : Map} (h : Sub β β') {τ : Tm} {a : Act} (r : FrR β τ a) : FrR β' τ a := ⟨r.1.mono h, r.2.mono h⟩
theorem FrR.put {β : Map} {τ τ' : Tm} {a : Act} {dst : Option Tmp} {v : AV} {u : Value} (r : FrR β τ a) (h : τ.put dst v = some τ') (hv : VR β v u) : FrR β τ' (a.put dst u) := by
  obtain ⟨h1, h2, h3⟩ := put_ok h hv r.1
  exact ⟨h1, by rw [h2, h3]; exact r.2⟩

def Open (F : Fence) : Prop := (∀ f, F.fn f) ∧ F.depth = none
def RdOk (β : Map) : Option Nat → Option Nat → Prop
  | none, r => r = none
  | some l, r => ∃ lc, β l 0 = some lc ∧ r = some lc.b
theorem RdOk.mono {β β' : Map} (h : Sub β β') {rd r : Option Nat} (k : RdOk β rd r) : RdOk β' rd r := by
  cases rd with
  | none => exact k
  | some l => obtain ⟨lc, e, k⟩ := k; exact ⟨lc, h _ _ _ e, k⟩
def exitC : AExit → Exit
  | .normal => .normal
  | .exit id => .exit id
  | .goto l => .goto l
  | .ret => .ret

/-- Behind a call or a round. -/
def RetP (E : Env) (B : Nat) (β : Map) (σ σ' : St) (w : World) (v : AV) (e : Ending) (w' : World) : Prop :=
  ∃ β' u, e = .returned u ∧ VR β' v u ∧ HR E B β' σ'.look w' ∧ Step β β' σ.look σ.next σ'.next w w'

def loopJ (F : Fence) (n : Nat) (P : Program) (Q : Exit → Act → World → Prop) (c : Code) (a : Act) (w : World) : Prop :=
  ∀ (b : Frame) (k : List Item) (cs : List Frame), b.roundOf = F.round → F.fn b.fn → F.room (cs.length + 1 + n) →
    ∃ e a' w', Q e a' w' ∧ ArrivesIn (Machine.fenced P F) P (lone (b.atR a (.code c :: .inLoop c :: k)) cs w) b k cs e a' w'
def wpL (F : Fence) (n : Nat) (P : Program) (Q : Exit → Act → World → Prop) : Code → Act → World → Prop
  | .loop c, a, w => loopJ F n P Q c a w
  | c, a, w => c.wpIn F n P Q a w
theorem wpL_wpIn {F : Fence} {n : Nat} {P : Program} {Q : Exit → Act → World → Prop} {c : Code} {a : Act} {w : World} (h : wpL F n P Q c a w) : c.wpIn F n P Q a w := by
  cases c with
  | loop c =>
    intro b k cs hro hb hr
    obtain ⟨e, a', w', hq, harr⟩ := h b k cs hro hb hr
    exact ⟨e, a', w', hq, .of_steps (.one (fenced_calm hb hr rfl) stepR_loop) harr⟩
  | _ => exact h
theorem loopJ_round {F : Fence} {n : Nat} {P : Program} {Q : Exit → Act → World → Prop} {c : Code} {a : Act} {w : World} (h : c.wpIn F n P (Exit.then (loopJ F n P Q c) Q) a w) : loopJ F n P Q c a w := by
  intro b k cs hro hb hr
  obtain ⟨e, a₁, w₁, hq, harr⟩ := h b (.inLoop c :: k) cs hro hb hr
  cases e with
  | normal =>
    obtain ⟨e₂, a₂, w₂, hq₂, harr₂⟩ := hq b k cs hro hb hr
    exact ⟨e₂, a₂, w₂, hq₂, .of_steps (StepsIn.trans harr (.one (fenced_calm hb hr rfl) stepR_inLoop)) harr₂⟩
  | exit id => exact ⟨_, a₁, w₁, hq, .pass (x := .inLoop c) rfl (fun _ _ => .inl (by simp)) harr⟩
  | goto l => exact ⟨_, a₁, w₁, hq, .pass (x := .inLoop c) rfl (fun _ _ => .inl (by simp)) harr⟩
  | ret => exact ⟨_, a₁, w₁, hq, .pass (x := .inLoop c) rfl (fun _ _ => .inl (by simp)) harr⟩
  | panic ch => exact ⟨_, a₁, w₁, hq, .pass (x := .inLoop c) rfl (fun _ _ => .inl (by simp)) harr⟩
  | outgrown => exact ⟨_, a₁, w₁, hq, .pass (x := .inLoop c) rfl (fun _ _ => .inl (by simp)) harr⟩

def CodeSound (E : Env) (P : Program) (rd : Option Nat) (c : Code) (τ : Tm) (σ : St) (x : AExit) (τ' : Tm) (σ' : St) : Prop :=
  ∀ (B : Nat) (β : Map) (w : World) (a : Act) (F : Fence) (n : Nat) (Q : Exit → Act → World → Prop), Open F → RdOk β rd F.round → HR E B β σ.look w → WF σ → Fresh β σ.next σ'.next → FrR β τ a →
    (∀ β' w' a', HR E B β' σ'.look w' → Step β β' σ.look σ.next σ'.next w w' → FrR β' τ' a' → Q (exitC x) a' w') → wpL F n P Q c a w
structure Sound (E : Env) (P : Program) (V : Ev) : Prop where
  code : ∀ rd c τ σ x τ' σ', V.code rd c τ σ = some (x, τ', σ') → Tr σ σ' ∧ CodeSound E P rd c τ σ x τ' σ'
  call : ∀ f args σ v σ', V.call f args σ = some (v, σ') → Tr σ σ' ∧ (∃ fn, E.fn.get f = some fn ∧ fn.body ≠ none) ∧
    ∀ (B : Nat) (β : Map) (w : World) (us : List Value) (F : Fence) (n : Nat), Open F → HR E B β σ.look w → WF σ → Fresh β σ.next σ'.next → VRs β args us → CallsIn F n P f us.toArray w (RetP E B β σ σ' w v)
  round : ∀ l args σ v σ', V.round l args σ = some (v, σ') → Tr σ σ' ∧
    ∀ (B : Nat) (β : Map) (w : World) (us : List Value) (lc : Loc) (F : Fence) (n : Nat), Open F → HR E B β σ.look w → WF σ → Fresh β σ.next σ'.next → β l 0 = some lc → VRs β args us →
      ∃ f tmps asg body, (Instr.yield lc.b us.toArray).run P w = .ok (.round lc.b f tmps asg body) w ∧ RoundIn F n P lc.b f tmps asg body w (RetP E B β σ σ' w v)

section
variable {E : Env} {P : Program} {V : Ev} {σ σ1 σ2 : St} {β β1 β2 : Map} {w w1 w2 : World} {B : Nat}
theorem step_trans (t1 : Tr σ σ1) (t2 : Tr σ1 σ2) (hW : WF σ) (hF : Fresh β σ.next σ2.next) (h1 : Step β β1 σ.look σ.next σ1.next w w1) (h2 : Step β1 β2 σ1.look σ1.next σ2.next w1 w2) :
    Step β β2 σ.look σ.next σ2.next w w2 :=
  h1.trans h2 t1.next t2.next hF fun id o ho => (t1.lookdom id o ho).imp (fun x => x) fun ⟨a, b⟩ => ⟨a, b hW⟩
theorem fresh_first (t2 : Tr σ1 σ2) (hF : Fresh β σ.next σ2.next) : Fresh β σ.next σ1.next := hF.mono (Nat.le_refl _) t2.next
theorem fresh_then (t1 : Tr σ σ1) (hW : WF σ) (hF : Fresh β σ.next σ2.next) (h1 : Step β β1 σ.look σ.next σ1.next w w1) : Fresh β1 σ1.next σ2.next :=
  hF.after h1 t1.next fun _ _ ho => look_lt hW ho

/-! one operation -/
theorem oper_tr (hV : Sound E P V) {τ : Tm} {o : Oper} {v : AV} {σ' : St} (h : oper E V τ o σ = some (v, σ')) : Tr σ σ' := by
  unfold oper at h
  split at h
  · rename_i h0
    simp only [Option.some.injEq, Prod.mk.injEq] at h
    obtain ⟨_, rfl⟩ := h
    exact op_tr h0
  · rename_i h0
    exact (op_tr h0).trans (hV.call _ _ _ _ _ h).1
  · rename_i h0
    exact (op_tr h0).trans (hV.round _ _ _ _ _ h).1
  · simp at h
theorem oper_defer {τ : Tm} {o : Oper} {v : AV} {σ' : St} (h : oper E V τ o σ = some (v, σ')) : ∀ c, o.op ≠ .defer c := by
  unfold oper at h
  split at h
  · rename_i h0; exact op_defer h0
  · rename_i h0; exact op_defer h0
  · rename_i h0; exact op_defer h0
  · simp at h
theorem oper_ok (hE : EnvOk E P) (hV : Sound E P V) {τ : Tm} {o : Oper} {v : AV} {σ' : St} (h : oper E V τ o σ = some (v, σ')) {a : Act} {F : Fence} {n : Nat} {K : Act → World → Prop} {Q : Exit → Act → World → Prop}
    (hO : Open F) (hR : HR E B β σ.look w) (hW : WF σ) (hF : Fresh β σ.next σ'.next) (ht : TmpR β τ.t τ.n a.tmps)
    (hK : ∀ β' u w', VR β' v u → HR E B β' σ'.look w' → Step β β' σ.look σ.next σ'.next w w' → K (a.put o.dst u) w') : o.wpIn F n P a w K Q := by
  have hd := oper_defer h
  refine ⟨fun f _ => hO.1 f, ?_⟩
  rw [Oper.semAt_eq _ _ _ hd]
  have hρ := fun x => ev_ok ht x
  have hdep : F.depth.isSome = true → 1 ≤ n := by intro e; rw [hO.2] at e; simp at e
  unfold oper at h
  split at h
  · rename_i v' σ1 h0
    simp only [Option.some.injEq, Prod.mk.injEq] at h
    obtain ⟨rfl, rfl⟩ := h
    obtain ⟨β', u, w', hrun, hv, hR', hS⟩ := op_ok hE hR hW hρ h0 hF
    rcases hrun with hrun | ⟨rfl, hrun⟩
    · rw [hrun, Oper.uponIn_value]; exact hK β' u w' hv hR' hS
    · rw [hrun, Oper.uponIn_skip]; exact hK β' _ w' hv hR' hS
  · rename_i f args σ1 h0
    obtain ⟨ht1, ⟨fn, hfn, hb⟩, hcall⟩ := hV.call _ _ _ _ _ h
    obtain ⟨rfl, us, hus, hrun⟩ := op_ok hE hR hW hρ h0 (hF.mono (Nat.le_refl _) ht1.next)
    rw [hrun fn hfn hb, Oper.uponIn_enter]
    refine ⟨hdep, CallsIn.mono (hcall B β w us F (n - 1) hO hR hW hF hus) ?_⟩
    rintro e w' ⟨β', u, rfl, hv, hR', hS⟩
    exact hK β' u w' hv hR' hS
  · rename_i l args σ1 h0
    obtain ⟨ht1, hround⟩ := hV.round _ _ _ _ _ h
    obtain ⟨rfl, lc, us, hlc, hus, hrun⟩ := op_ok hE hR hW hρ h0 (hF.mono (Nat.le_refl _) ht1.next)
    obtain ⟨f, tmps, asg, body, hy, hin⟩ := hround B β w us lc F (n - 1) hO hR hW hF hlc hus
    rw [hrun, hy, Oper.uponIn_round]
    refine ⟨hdep, RoundIn.mono hin ?_⟩
    rintro e w' ⟨β', u, rfl, hv, hR', hS⟩
    exact hK β' u w' hv hR' hS
  · simp at h

/-! guards -/
theorem wanted_ok {ops : List Oper} {τ : Tm} {o : Oper} {b : Bool} (h : wantedA ops τ o = some b) {a : Act} (ht : TmpR β τ.t τ.n a.tmps) : Region.wanted o (yielded ops.toArray a.tmps) = b := by
  unfold wantedA at h
  unfold Region.wanted
  split at h
  · rename_i hg
    simp only [Option.some.injEq] at h; subst h
    simp [hg]
  · rename_i j want hg
    simp only [hg]
    split at h
    · rename_i d op1 ty1 pos1 af1 gd1 hj
      have hv := ev_ok ht (.tmp d)
      simp only [ev, Act.eval] at hv
      have hy : ∀ u, VR β (τ.get d) u → a.tmps.getD d undef = u → (∀ q, u = .bool q → yielded ops.toArray a.tmps j = some q) ∧ ((∀ q, u ≠ .bool q) → yielded ops.toArray a.tmps j = none) := by
        intro u _ hu
        unfold yielded
        rw [List.getElem?_toArray, hj]
        simp only [Option.bind_some]
        rw [Array.getD_eq_getD_getElem?] at hu
        cases hx : a.tmps[d]? with
        | none =>
          rw [hx] at hu
          simp only [Option.getD_none] at hu
          subst hu
          exact ⟨fun q e => by simp [undef] at e, fun _ => rfl⟩
        | some y =>
          rw [hx] at hu
          simp only [Option.getD_some] at hu
          subst hu
          exact ⟨fun q e => by subst e; rfl, fun e => by cases y <;> first | rfl | exact absurd rfl (e _)⟩
      split at h
      · rename_i q e
        simp only [Option.some.injEq] at h; subst h
        rw [e] at hv
        simp only [VR] at hv
        rw [(hy _ (by rw [e]; simp [VR]) hv).1 q rfl]
        cases q <;> cases want <;> rfl
      · rename_i arr e
        split at h
        · simp only [Option.some.injEq] at h; subst h
          rw [e] at hv
          simp only [VR] at hv
          rw [(hy _ (by rw [e]; simp [VR]) hv).2 (by intro q e'; cases e')]
          rfl
        · simp at h
      · simp at h
    · simp at h
end
end Go.Vai
