/-
  Functions: results, calls. Control.
-/
import Derived.Test.YtkjmlnegmmlfdaaGreatDoorVaiW
namespace Go.Vai
open Go

section
variable {E : Env} {P : Program} {V : Ev} {B : Nat} {β : Map} {σ : St} {w : World}
theorem loadVar_ok (hE : EnvOk E P) (hR : HR E B β σ.look w) {v a : AV} {u : Value} {σ' : St} {t : TypeId} (h : aLoad E t a σ = some (v, σ')) (hu : VR β a u) :
    ∃ r, (do loadVar t (← asAddr u) : Sem Value).run P w = .ok r w ∧ VR β v r := by
  obtain ⟨_, r, hrun, hv⟩ := load_ok (P := P) hE hR h hu
  refine ⟨r, ?_, hv⟩
  have hp : ∃ ad, u = .pointer (some ad) := by
    unfold aLoad at h
    split at h
    · simp only [VR] at hu; obtain ⟨l, _, _, _, rfl⟩ := hu; exact ⟨_, rfl⟩
    · simp only [VR] at hu; exact ⟨_, hu⟩
    · simp at h
  obtain ⟨ad, rfl⟩ := hp
  simp only [Instr.loadAt, Instr.sureAddr, Sem.run_bind, Sem.run_pure, Result.andThen_ok] at hrun
  simp only [asAddr, Sem.run_bind, Sem.run_pure, Result.andThen_ok, hrun]
/-- One result, as the model reads it. -/
def resF (tmps : Array Value) (r : ResultVar) : Sem Value :=
  match r with
  | .tmp t => pure (tmps.getD t undef)
  | .cell ad t => do loadVar t (← asAddr (tmps.getD ad undef))
theorem resultsL_ok (hE : EnvOk E P) (hR : HR E B β σ.look w) {τ : Tm} {a : Act} (ht : TmpR β τ.t τ.n a.tmps) : ∀ (rs : List ResultVar) (l : List AV), resultsA E τ σ rs = some l →
    ∃ us, (rs.mapM (resF a.tmps)).run P w = .ok us w ∧ VRs β l us
  | [], l, h => by
    simp only [resultsA, Option.some.injEq] at h; subst h
    exact ⟨[], by simp, VRs.nil⟩
  | .tmp t :: rs, l, h => by
    simp only [resultsA, Option.map_eq_some_iff] at h
    obtain ⟨l', hl', rfl⟩ := h
    obtain ⟨us, hrun, hv⟩ := resultsL_ok hE hR ht rs l' hl'
    exact ⟨a.tmps.getD t undef :: us, by simp [List.mapM_cons, resF, hrun], VRs.cons (ev_ok ht (.tmp t)) hv⟩
  | .cell ad t :: rs, l, h => by
    simp only [resultsA] at h
    split at h
    · rename_i v σ1 hv1
      simp only [Option.map_eq_some_iff] at h
      obtain ⟨l', hl', rfl⟩ := h
      obtain ⟨us, hrun, hv⟩ := resultsL_ok hE hR ht rs l' hl'
      obtain ⟨r, hr, hvr⟩ := loadVar_ok (P := P) hE hR hv1 (ev_ok ht (.tmp ad))
      refine ⟨r :: us, ?_, VRs.cons hvr hv⟩
      simp only [Act.eval] at hr
      have hr' : (resF a.tmps (.cell ad t)).run P w = .ok r w := hr
      rw [List.mapM_cons, Sem.run_bind, hr', Result.andThen_ok, Sem.run_bind, hrun, Result.andThen_ok, Sem.run_pure]
    · simp at h
theorem results_ok (hE : EnvOk E P) (hR : HR E B β σ.look w) {τ : Tm} {a : Act} (ht : TmpR β τ.t τ.n a.tmps) {fn : Func} {l : List AV} (h : resultsA E τ σ fn.results.toList = some l) :
    ∃ u, (results fn a.tmps).run P w = .ok u w ∧ VR β (one l) u := by
  obtain ⟨us, hrun, hv⟩ := resultsL_ok (P := P) hE hR ht _ _ h
  refine ⟨if h : us.toArray.size = 1 then us.toArray[0] else .tuple us.toArray, ?_, ?_⟩
  · have e : results fn a.tmps = (do let vs ← fn.results.mapM (resF a.tmps); pure (if h : vs.size = 1 then vs[0] else .tuple vs)) := by
      unfold results
      congr 2
    rw [e, Array.mapM_eq_mapM_toList]
    simp only [Sem.run_bind, map_eq_pure_bind, hrun, Result.andThen_ok, Sem.run_pure]
  · have hl := hv.length
    cases l with
    | nil => simp only [VRs] at hv; subst hv; simp [one, VR, VRs]
    | cons x l =>
      cases l with
      | nil => obtain ⟨ux, rfl, hx⟩ := hv.one; simpa [one] using hx
      | cons y l =>
        have : ¬ us.toArray.size = 1 := by simp at hl ⊢; omega
        rw [dif_neg this]
        simp only [one, VR]
        exact ⟨_, rfl, by simpa using hv⟩
theorem call_step (hE : EnvOk E P) (hV : Sound E P V) {f : FuncId} {args : List AV} {v : AV} {σ' : St} (h : callStep E V f args σ = some (v, σ')) :
    Tr σ σ' ∧ (∃ fn, E.fn.get f = some fn ∧ fn.body ≠ none) ∧
    ∀ (B : Nat) (β : Map) (w : World) (us : List Value) (F : Fence) (n : Nat), Open F → HR E B β σ.look w → WF σ → Fresh β σ.next σ'.next → VRs β args us → CallsIn F n P f us.toArray w (RetP E B β σ σ' w v) := by
  unfold callStep at h
  split at h
  · simp at h
  · rename_i fn hfn
    split at h
    · simp at h
    · rename_i c hc
      obtain ⟨hn, h⟩ := condT h
      replace hn := bleT hn
      have core : ∀ x τ σ1, V.code none c { t := putAll .leaf 0 args, n := fn.ntmps, marks := [] } σ = some (x, τ, σ1) → (x = .normal ∨ x = .ret) →
          (match takeMarks τ.marks σ1 with
            | some σ'' => (resultsA E τ σ'' fn.results.toList).map fun l => (one l, σ'')
            | none => none) = some (v, σ') →
          Tr σ σ' ∧ ∀ (B : Nat) (β : Map) (w : World) (us : List Value) (F : Fence) (n : Nat), Open F → HR E B β σ.look w → WF σ → Fresh β σ.next σ'.next → VRs β args us → CallsIn F n P f us.toArray w (RetP E B β σ σ' w v) := by
        intro x τ σ1 hcode hx h
        split at h
        · rename_i σ2 hm
          simp only [Option.map_eq_some_iff, Prod.mk.injEq] at h
          obtain ⟨l, hl, rfl, rfl⟩ := h
          obtain ⟨t1, hs⟩ := hV.code _ _ _ _ _ _ _ hcode
          have t2 := takeMarks_tr _ _ _ hm
          refine ⟨t1.trans t2, fun B β w us F n hO hR hW hF hus => ?_⟩
          have hO' : Open { F with round := none } := hO
          have hbody : c.wpIn { F with round := none } n P (bodyPostM { F with round := none } n P fn (RetP E B β σ σ2 w (one l))) { tmps := us.toArray ++ Array.replicate (fn.ntmps - us.toArray.size) undef, defers := [] } w := by
            refine wpL_wpIn (hs B β w _ _ n _ hO' rfl hR hW (fresh_first t2 hF) ⟨args_tmps hus hn, rfl⟩ ?_)
            intro β1 w1 a1 hR1 hS1 ht1
            have hleave : LeavesInM { F with round := none } n P fn a1.tmps (RetP E B β σ σ2 w (one l)) a1.defers .returning w1 := by
              refine leaves_ok τ.marks a1.defers σ1 σ2 β1 w1 hm ht1.2 hR1 (t1.wf hW) (fresh_then t1 hW hF hS1) ?_
              intro w2 hR2 hS2
              obtain ⟨u, hrun, hvu⟩ := results_ok (P := P) hE hR2 ht1.1 hl
              exact ⟨u, hrun, β1, u, rfl, hvu, hR2, step_trans t1 t2 hW hF hS1 hS2⟩
            rcases hx with rfl | rfl <;> exact hleave
          exact callsIn_of_wp_marks (F := { F with round := none }) (hE.fn f fn hfn).1 hc (hO.1 f) hbody
        · simp at h
      have hb : fn.body ≠ none := by rw [hc]; simp
      split at h
      · rename_i τ σ1 hcode
        obtain ⟨a, b⟩ := core _ _ _ hcode (.inl rfl) h
        exact ⟨a, ⟨fn, hfn, hb⟩, b⟩
      · rename_i τ σ1 hcode
        obtain ⟨a, b⟩ := core _ _ _ hcode (.inr rfl) h
        exact ⟨a, ⟨fn, hfn, hb⟩, b⟩
      · simp at h
end
end Go.Vai
