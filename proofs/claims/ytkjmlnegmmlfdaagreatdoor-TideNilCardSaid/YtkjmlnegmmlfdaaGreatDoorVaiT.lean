/-
  One operation: the abstract machine against the model, all kinds.
-/
import Derived.Test.YtkjmlnegmmlfdaaGreatDoorVaiS
namespace Go.Vai
open Go

section
variable {E : Env} {P : Program} {β : Map} {B : Nat} {σ σ' : St} {w : World}
theorem OpRes.congr {s s' : Sem Next} {nx : ANext} (e : s'.run P w = s.run P w) (h : OpRes E B P β σ σ' w s nx) : OpRes E B P β σ σ' w s' nx := by
  cases nx with
  | value v => simp only [OpRes, e] at h ⊢; exact h
  | enter f args => simp only [OpRes, e] at h ⊢; exact h
  | round l args => simp only [OpRes, e] at h ⊢; exact h
theorem ev_ok {τ : Tm} {a : Act} (h : TmpR β τ.t τ.n a.tmps) (o : Operand) : VR β (ev τ o) (a.eval o) := by
  cases o with
  | tmp t =>
    simp only [ev, Tm.get, Act.eval]
    rcases Nat.lt_or_ge t τ.n with hlt | hge
    · exact h.2.2 t hlt
    · rw [h.2.1 t hge]
      have : a.tmps.getD t undef = undef := by
        have hs := h.1
        rw [Array.getD_eq_getD_getElem?, Array.getElem?_eq_none (by omega)]
        rfl
      simp [this, VR]
  | const v => simp [ev, Act.eval, VR]
  | global g => simp [ev, Act.eval, VR]
  | func f => simp [ev, Act.eval, VR]
theorem OptR.of {τ : Tm} {ρ : Operand → Value} (hρ : ∀ o, VR β (ev τ o) (ρ o)) (o : Option Operand) : OptR β (o.map (ev τ)) (o.map ρ) := by
  cases o with
  | none => exact ⟨by simp, by simp⟩
  | some x => exact ⟨by intro v hv; simp at hv; subst hv; exact ⟨_, rfl, hρ x⟩, by simp⟩
theorem VRs.ev {τ : Tm} {ρ : Operand → Value} (hρ : ∀ o, VR β (ev τ o) (ρ o)) (l : Array Operand) : VRs β (l.toList.map (ev τ)) (l.map ρ).toList := by
  rw [Array.toList_map]
  exact VRs.map _ _ _ fun x _ => hρ x
theorem run_resolve (ρ : Operand → Value) (f : Operand) (args : Array Operand) (ats : Array TypeId) (ty : TypeId) (w : World) {fn : Fn} {first cap : Array Value} (h : ρ f = .func fn first cap) :
    (resolve ρ { callee := .value f, args := args, argTypes := ats } ty).run P w = .ok { target := .fn fn cap, args := first ++ args.map ρ } w := by
  simp [resolve, h, Deferred.ofValue]
theorem run_callFunc (hE : EnvOk E P) {f : FuncId} {fn : Func} (hf : E.fn.get f = some fn) (hb : fn.body ≠ none) (args : Array Value) : (callFunc f args).run P w = .ok (.enter f args) w := by
  obtain ⟨h1, h2⟩ := hE.fn f fn hf
  simp [callFunc, h1, h2, hb]
theorem call_ok (hE : EnvOk E P) (_hR : HR E B β σ.look w) {f : AV} {args : List AV} {nx : ANext} (h : aCall f args σ = some (nx, σ')) {uf : Value} {uargs : Array Value} (hf : VR β f uf) (ha : VRs β args uargs.toList) :
    OpRes E B P β σ σ' w (do let d ← Deferred.ofValue uf uargs; invoke d.target d.args) nx := by
  unfold aCall at h
  split at h
  · rename_i g first cap
    simp only [Option.some.injEq, Prod.mk.injEq] at h
    obtain ⟨rfl, rfl⟩ := h
    simp only [VR] at hf; subst hf
    refine ⟨rfl, first.toList ++ uargs.toList ++ cap.toList, ((VRs.sc _).append ha).append (VRs.sc _), fun fn hfn hb => ?_⟩
    simp only [Deferred.ofValue, Sem.run_bind, Sem.run_pure, Result.andThen_ok, invoke, run_callFunc hE hfn hb]
    congr 2
    apply Array.ext'
    simp
  · rename_i g first cap
    simp only [Option.some.injEq, Prod.mk.injEq] at h
    obtain ⟨rfl, rfl⟩ := h
    simp only [VR] at hf
    obtain ⟨uf1, uc1, rfl, h1, h2⟩ := hf
    refine ⟨rfl, uf1.toList ++ uargs.toList ++ uc1.toList, (h1.append ha).append h2, fun fn hfn hb => ?_⟩
    simp only [Deferred.ofValue, Sem.run_bind, Sem.run_pure, Result.andThen_ok, invoke, run_callFunc hE hfn hb]
    congr 2
    apply Array.ext'
    simp
  · rename_i l
    simp only [Option.some.injEq, Prod.mk.injEq] at h
    obtain ⟨rfl, rfl⟩ := h
    simp only [VR] at hf
    obtain ⟨lc, hlc, rfl⟩ := hf
    refine ⟨rfl, lc, uargs.toList, hlc, ha, ?_⟩
    simp [Deferred.ofValue, invoke]
  · simp at h
theorem op_ok (hE : EnvOk E P) (hR : HR E B β σ.look w) (hW : WF σ) {τ : Tm} {ρ : Operand → Value} (hρ : ∀ o, VR β (ev τ o) (ρ o)) {o : Oper} {nx : ANext} (h : aOp E τ o.op σ = some (nx, σ')) (hF : Fresh β σ.next σ'.next) :
    OpRes E B P β σ σ' w (execOp ρ o) nx := by
  obtain ⟨dst, op, type, pos, after, guard⟩ := o
  have same : ∀ (x : AV) (u : Value) (s : Sem Next), VR β x u → s.run P w = .ok (.value u) w → OpRes E B P β σ σ w s (.value x) := fun x u s hx hs => ⟨β, u, w, .inl hs, hx, hR, Step.refl _ _ _ _⟩
  have parts : ∀ ps : Array (Nat × Operand), PartsR β (ps.toList.map fun p => (p.1, ev τ p.2)) (ps.map fun (i, x) => (i, ρ x)).toList := by
    intro ps
    rw [Array.toList_map]
    generalize ps.toList = l
    induction l with
    | nil => simp [PartsR]
    | cons p l ih => simp only [List.map_cons, PartsR]; exact ⟨_, _, rfl, hρ _, ih⟩
  unfold aOp at h
  simp only at h
  split at h
  · simp only [Option.some.injEq, Prod.mk.injEq] at h; obtain ⟨rfl, rfl⟩ := h
    exact same _ _ _ (hρ _) (by simp [execOp])
  · simp only [Option.some.injEq, Prod.mk.injEq] at h; obtain ⟨rfl, rfl⟩ := h
    exact same _ _ _ (hρ _) (by simp [execOp])
  · rename_i c x y
    have hc := hρ c
    split at h
    · rename_i e
      simp only [Option.some.injEq, Prod.mk.injEq] at h; obtain ⟨rfl, rfl⟩ := h
      rw [e] at hc; simp only [VR] at hc
      exact same _ _ _ (hρ _) (by simp [execOp, hc, asBool])
    · rename_i e
      simp only [Option.some.injEq, Prod.mk.injEq] at h; obtain ⟨rfl, rfl⟩ := h
      rw [e] at hc; simp only [VR] at hc
      exact same _ _ _ (hρ _) (by simp [execOp, hc, asBool])
    · simp at h
  · obtain ⟨v, hv, rfl⟩ := valr_some h
    exact (alloc_ok hE hR hW hv hF).res
  · obtain ⟨v, hv, rfl⟩ := valr_some h
    exact (box_ok hR hW hv hF (hρ _) _).res
  · obtain ⟨v, hv, rfl, rfl⟩ := vals_some h
    exact (build_ok hE hv (parts _)).res hR
  · obtain ⟨v, hv, rfl⟩ := valr_some h
    exact (buildSlice_ok hE hR hW hv hF (parts _)).res
  · obtain ⟨v, hv, rfl⟩ := valr_some h
    obtain ⟨rfl, r, hrun, hvr⟩ := load_ok hE hR hv (hρ _)
    exact Does.res ⟨β, r, w, hrun, hvr, hR, Step.refl _ _ _ _⟩
  · obtain ⟨v, hv, rfl⟩ := valr_some h
    exact unit_res (store_ok hE hR hv (hρ _) (hρ _))
  · rename_i x
    obtain ⟨h1, h2⟩ := condT h
    simp only [Option.some.injEq, Prod.mk.injEq] at h2; obtain ⟨rfl, rfl⟩ := h2
    have hx := hρ x
    refine same _ _ _ hx ?_
    generalize hu : ρ x = u at hx
    generalize ev τ x = ax at h1 hx
    simp only [execOp, hu]
    unfold isNilable at h1
    split at h1
    · simp only [VR] at hx; obtain ⟨l, _, _, _, rfl⟩ := hx; simp
    · simp only [VR] at hx; obtain ⟨f, c, rfl, _, _⟩ := hx; simp
    · simp only [VR] at hx; obtain ⟨l, _, rfl⟩ := hx; simp
    · simp only [VR] at hx; subst hx; simp
    · simp at h1
  · obtain ⟨v, hv, rfl, rfl⟩ := vals_some h
    obtain ⟨r, hvr, hrun⟩ := bin_ok hE hR hv (hρ _) (hρ _) _ _
    exact Does.res ⟨β, r, w, hrun, hvr, hR, Step.refl _ _ _ _⟩
  · obtain ⟨v, hv, rfl, rfl⟩ := vals_some h
    exact (un_ok hv (hρ _)).res hR
  · obtain ⟨v, hv, rfl, rfl⟩ := vals_some h
    exact (convert_ok hE hv (hρ _)).res hR
  · rename_i fn first cap
    split at h
    · rename_i g
      simp only [Option.some.injEq, Prod.mk.injEq] at h; obtain ⟨rfl, rfl⟩ := h
      refine same _ (.func (.func g) (first.map ρ) (cap.map ρ)) _ ?_ (by simp [execOp, Instr.makeFunc])
      simp only [VR]
      exact ⟨_, _, rfl, VRs.ev hρ _, VRs.ev hρ _⟩
    · simp at h
  · simp only [Option.some.injEq, Prod.mk.injEq] at h; obtain ⟨rfl, rfl⟩ := h
    exact (makeMap_ok hR hW hF _).res
  · obtain ⟨v, hv, rfl⟩ := valr_some h
    exact (makeSlice_ok hE hR hW hv hF (hρ _) (hρ _)).res
  · obtain ⟨v, hv, rfl, rfl⟩ := vals_some h
    exact (slice_ok hE hv (hρ _) (OptR.of hρ _) (OptR.of hρ _) (OptR.of hρ _)).res hR
  · obtain ⟨v, hv, rfl, rfl⟩ := vals_some h
    exact (fieldAddr_ok hE hv (hρ _)).res hR
  · obtain ⟨v, hv, rfl, rfl⟩ := vals_some h
    exact (field_ok hE hv (hρ _)).res hR
  · obtain ⟨v, hv, rfl, rfl⟩ := vals_some h
    exact (indexAddr_ok hE hv (hρ _) (hρ _)).res hR
  · obtain ⟨v, hv, rfl, rfl⟩ := vals_some h
    exact (index_ok hE hv (hρ _) (hρ _)).res hR
  · obtain ⟨v, hv, rfl, rfl⟩ := vals_some h
    exact (lookup_ok hE hR hv (hρ _) (hρ _)).res
  · obtain ⟨v, hv, rfl⟩ := valr_some h
    exact unit_res (update_ok hE hR hv (hρ _) (hρ _) (hρ _))
  · obtain ⟨v, hv, rfl⟩ := valr_some h
    exact unit_res (update_ok hE hR hv (hρ _) (hρ _) (hρ _))
  · obtain ⟨v, hv, rfl⟩ := valr_some h
    exact (range_ok hE hR hW hv hF (hρ _)).res
  · obtain ⟨v, hv, rfl⟩ := valr_some h
    exact (next_ok hR hv (hρ _) _).res
  · obtain ⟨v, hv, rfl, rfl⟩ := vals_some h
    exact (entry_ok hR hv (hρ _)).res
  · rename_i x i
    have hx := hρ x
    split at h
    · rename_i vs e
      simp only [Option.map_eq_some_iff, Prod.mk.injEq] at h
      obtain ⟨v, hv, rfl, rfl⟩ := h
      rw [e] at hx; simp only [VR] at hx
      obtain ⟨cs, hcs, hr⟩ := hx
      obtain ⟨u, hu, hvu⟩ := cs_get hr hv
      exact same _ _ _ hvu (by simp [execOp, hcs, Instr.extract, hu])
    · simp at h
  · rename_i f args ats
    have := call_ok (B := B) hE hR h (hρ f) (VRs.ev hρ args)
    exact this
  · rename_i b args ats
    have hb := fun cs => builtin_ok hE hR hW h hF (VRs.ev hρ args) type cs
    refine OpRes.congr ?_ (hb ((args.map fun | .const _ => true | _ => false)))
    simp only [execOp, resolve, invoke, Sem.run_bind, Sem.run_pure, Result.andThen_ok]
    rfl
  · simp at h
end
end Go.Vai
