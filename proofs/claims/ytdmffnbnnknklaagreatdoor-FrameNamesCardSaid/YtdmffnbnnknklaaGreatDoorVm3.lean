/-
  Plain regions; calls.
-/
import Derived.Test.YtdmffnbnnknklaaGreatDoorVm2
import Derived.IntWalk
namespace Go.Vai
open Go

section
variable {E : Env} {P : Program} {V : Ev} {B : Nat}
theorem opersFrom_tr (hV : Sound E P V) (ops : List Oper) : ∀ (rest : List Oper) (τ τ' : Tm) (σ σ' : St), opersFrom E V ops rest τ σ = some (τ', σ') → Tr σ σ'
  | [], τ, τ', σ, σ', h => by
    simp only [opersFrom, Option.some.injEq, Prod.mk.injEq] at h
    obtain ⟨_, rfl⟩ := h
    exact Tr.refl _
  | o :: rest, τ, τ', σ, σ', h => by
    simp only [opersFrom] at h
    split at h
    · split at h
      · rename_i v σ1 h1
        split at h
        · exact (oper_tr hV h1).trans (opersFrom_tr hV ops rest _ _ _ _ h)
        · simp at h
      · simp at h
    · split at h
      · exact opersFrom_tr hV ops rest _ _ _ _ h
      · simp at h
    · simp at h
theorem opersFrom_ok (hE : EnvOk E P) (hV : Sound E P V) (ops : List Oper) {F : Fence} {n : Nat} {Q : Exit → Act → World → Prop} (hO : Open F) :
    ∀ (rest : List Oper) (j : Nat) (τ τ' : Tm) (σ σ' : St) (β : Map) (w : World) (a : Act), ops.drop j = rest → opersFrom E V ops rest τ σ = some (τ', σ') → HR E B β σ.look w → WF σ → Fresh β σ.next σ'.next → FrR β τ a →
      (∀ β' w' a', HR E B β' σ'.look w' → Step β β' σ.look σ.next σ'.next w w' → FrR β' τ' a' → Q .normal a' w') → wpOpsIn F n P ops.toArray Q (List.range' j rest.length) a w
  | [], j, τ, τ', σ, σ', β, w, a, _, h, hR, hW, hF, ht, hQ => by
    simp only [opersFrom, Option.some.injEq, Prod.mk.injEq] at h
    obtain ⟨rfl, rfl⟩ := h
    simp only [List.length_nil, List.range'_zero, wpOpsIn]
    exact hQ β w a hR (Step.refl _ _ _ _) ht
  | o :: rest, j, τ, τ', σ, σ', β, w, a, hd, h, hR, hW, hF, ht, hQ => by
    have hj : ops[j]? = some o := by
      have := congrArg List.head? hd
      simpa using this
    have hd' : ops.drop (j + 1) = rest := by
      have := congrArg List.tail hd
      simpa [List.tail_drop] using this
    simp only [opersFrom] at h
    simp only [List.length_cons, List.range'_succ, wpOpsIn, List.getElem?_toArray, hj]
    split at h
    · rename_i hw
      rw [wanted_ok hw ht.1]
      simp only [if_true]
      split at h
      · rename_i v σ1 h1
        split at h
        · rename_i τ1 hput
          have t1 := oper_tr hV h1
          have t2 := opersFrom_tr hV ops rest _ _ _ _ h
          refine oper_ok hE hV h1 hO hR hW (fresh_first t2 hF) ht.1 ?_
          intro β' u w' hv hR' hS
          refine opersFrom_ok hE hV ops hO rest (j + 1) τ1 τ' σ1 σ' β' w' _ hd' h hR' (t1.wf hW) (fresh_then t1 hW hF hS) ((ht.mono hS.sub).put hput hv) ?_
          intro β2 w2 a2 hR2 hS2 ht2
          exact hQ β2 w2 a2 hR2 (step_trans t1 t2 hW hF hS hS2) ht2
        · simp at h
      · simp at h
    · rename_i hw
      rw [wanted_ok hw ht.1]
      simp only [Bool.false_eq_true, if_false]
      split at h
      · rename_i τ1 hput
        exact ⟨fun f _ => hO.1 f, opersFrom_ok hE hV ops hO rest (j + 1) τ1 τ' σ σ' β w _ hd' h hR hW hF (ht.put hput (by simp [VR])) hQ⟩
      · simp at h
    · simp at h
theorem region_ok (hE : EnvOk E P) (hV : Sound E P V) {ops : Array Oper} {rd : Option Nat} {id : Nat} {τ τ' : Tm} {σ σ' : St} (h : opersFrom E V ops.toList ops.toList τ σ = some (τ', σ')) :
    Tr σ σ' ∧ CodeSound E P rd (.region id ops false) τ σ .normal τ' σ' := by
  refine ⟨opersFrom_tr hV _ _ _ _ _ _ h, fun B β w a F n Q hO _ hR hW hF ht hQ => wpIn_region ?_⟩
  have := opersFrom_ok (n := n) hE hV ops.toList hO ops.toList 0 τ τ' σ σ' β w a (by simp) h hR hW hF ht hQ
  simpa [List.range_eq_range'] using this

/-! calls -/
theorem putAll_get : ∀ (l : List AV) (t : T AV) (i j : Nat), (putAll t i l).get j = if i ≤ j ∧ j < i + l.length then l[j - i]? else t.get j
  | [], t, i, j => by
    simp only [putAll, List.length_nil, Nat.add_zero]
    rw [if_neg (by omega)]
  | v :: l, t, i, j => by
    simp only [putAll, List.length_cons]
    rw [putAll_get l _ (i + 1) j, T.get_set']
    by_cases h1 : j = i
    · subst h1
      rw [if_neg (by omega), if_pos rfl, if_pos (by omega)]
      simp
    · by_cases h2 : i + 1 ≤ j ∧ j < i + 1 + l.length
      · rw [if_pos h2, if_pos (by omega)]
        have : j - i = (j - (i + 1)) + 1 := by omega
        rw [this, List.getElem?_cons_succ]
      · rw [if_neg h2, if_neg h1, if_neg (by omega)]
theorem args_tmps {β : Map} {args : List AV} {us : List Value} (h : VRs β args us) {n : Nat} (hn : args.length ≤ n) :
    TmpR β (putAll .leaf 0 args) n (us.toArray ++ Array.replicate (n - us.toArray.size) undef) := by
  have hl := h.length
  refine ⟨by simp; omega, ?_, ?_⟩
  · intro i hi
    rw [putAll_get, if_neg (by omega)]
    rfl
  · intro i hi
    rw [putAll_get, Array.getD_eq_getD_getElem?]
    by_cases hlt : i < args.length
    · rw [if_pos (by omega)]
      obtain ⟨u, hu, hv⟩ := h.get i args[i] (by simp [hlt])
      rw [Array.getElem?_append_left (by simp; omega)]
      simp [hlt, hu, hv]
    · rw [if_neg (by omega), Array.getElem?_append_right (by simp; omega)]
      simp [T.get, VR]
      rw [Array.getElem?_replicate]
      split <;> simp

theorem takeMarks_tr : ∀ (l : List Nat) (σ σ' : St), takeMarks l σ = some σ' → Tr σ σ'
  | [], σ, σ', h => by simp only [takeMarks, Option.some.injEq] at h; subst h; exact Tr.refl _
  | d :: l, σ, σ', h => by
    simp only [takeMarks] at h
    split at h
    · rename_i hl
      exact (Tr.put hl _).trans (takeMarks_tr l _ _ h)
    · simp at h
theorem leaves_ok {F : Fence} {n : Nat} {fn : Func} {tmps : Array Value} {R : Ending → World → Prop} : ∀ (l : List Nat) (ds : List Deferred) (σ σ' : St) (β : Map) (w : World), takeMarks l σ = some σ' → MarksR β l ds → HR E B β σ.look w → WF σ → Fresh β σ.next σ'.next →
    (∀ w', HR E B β σ'.look w' → Step β β σ.look σ.next σ'.next w w' → LeavesIn F n P fn tmps R [] .returning w') → LeavesInM F n P fn tmps R ds .returning w
  | [], ds, σ, σ', β, w, h, hm, hR, hW, hF, hQ => by
    simp only [takeMarks, Option.some.injEq] at h; subst h
    simp only [MarksR] at hm; subst hm
    exact hQ w hR (Step.refl _ _ _ _)
  | d :: l, ds, σ, σ', β, w, h, hm, hR, hW, hF, hQ => by
    obtain ⟨ld, ds', hd, rfl, hm'⟩ := hm
    simp only [takeMarks] at h
    split at h
    · rename_i hl
      obtain ⟨l0, hl0, hh⟩ := hR.obj d _ hl
      rw [hd] at hl0; simp only [Option.some.injEq] at hl0; subst hl0
      have hlt : ld.b < w.heap.size := (hR.own d _ 0 ld hl hd).2
      have t1 := Tr.put hl (.dfr true)
      have t2 := takeMarks_tr l _ _ h
      have hP := putObj_ok hR hl hd (.dfr true) (.deferred none) ⟨ld, hd, World.putObj_heap_same hlt⟩ σ.next (σ.put d (.dfr true)).next
      rw [← look_put _ (look_some hl).1] at hP
      refine ⟨by simp, .inl ⟨ld.b, w.putObj ld.b (.deferred none), rfl, ?_, ?_⟩⟩
      · simp only [cond_false] at hh
        simp [Instr.takeDeferred, getObj, setObj, Sem.run, hh, World.putObj]
      · refine leaves_ok l ds' _ σ' β _ h hm' hP.1 (t1.wf hW) (fresh_then t1 hW hF hP.2) ?_
        intro w' hR' hS'
        exact hQ w' hR' (step_trans t1 t2 hW hF hP.2 hS')
    · simp at h
end
end Go.Vai

/-
  Functions: results, calls. Control.
-/
namespace Go.Vai
open Go

section
variable {E : Env} {P : Program} {V : Ev} {B : Nat} {β : Map} {σ : St} {w : World}
theorem loadVar_ok (hE : EnvOk E P) (hR : HR E B β σ.look w) {v a : AV} {u : Value} {σ' : St} {t : TypeId} (h : aLoad E t a σ = some (v, σ')) (hu : VR β a u) :
    ∃ r, (do loadVar t (← asAddr u) : Sem Value).run P w = .ok r w ∧ VR β v r := by
  obtain ⟨_, r, hrun, hv⟩ := load_ok (P := P) hE hR h hu
  refine ⟨r, ?_, hv⟩
  have hp : ∃ ad, u = .pointer (some ad) := by
    unfold aLoad at h
    split at h
    · simp only [VR] at hu; obtain ⟨l, _, _, _, rfl⟩ := hu; exact ⟨_, rfl⟩
    · simp only [VR] at hu; exact ⟨_, hu⟩
    · simp only [VR] at hu; obtain ⟨_, _, _, _, _, _, rfl, _⟩ := hu; exact ⟨_, rfl⟩
    · simp at h
  obtain ⟨ad, rfl⟩ := hp
  simp only [Instr.loadAt, Instr.sureAddr, Sem.run_bind, Sem.run_pure, Result.andThen_ok] at hrun
  simp only [asAddr, Sem.run_bind, Sem.run_pure, Result.andThen_ok, hrun]
/-- One result, as the model reads it. -/
def resF (tmps : Array Value) (r : ResultVar) : Sem Value :=
  match r with
  | .tmp t => pure (tmps.getD t undef)
  | .cell ad t => do loadVar t (← asAddr (tmps.getD ad undef))
theorem resultsL_ok (hE : EnvOk E P) (hR : HR E B β σ.look w) {τ : Tm} {a : Act} (ht : TmpR β τ.t τ.n a.tmps) : ∀ (rs : List ResultVar) (l : List AV), resultsA E τ σ rs = some l →
    ∃ us, (rs.mapM (resF a.tmps)).run P w = .ok us w ∧ VRs β l us
  | [], l, h => by
    simp only [resultsA, Option.some.injEq] at h; subst h
    exact ⟨[], by simp, VRs.nil⟩
  | .tmp t :: rs, l, h => by
    simp only [resultsA, Option.map_eq_some_iff] at h
    obtain ⟨l', hl', rfl⟩ := h
    obtain ⟨us, hrun, hv⟩ := resultsL_ok hE hR ht rs l' hl'
    exact ⟨a.tmps.getD t undef :: us, by simp [List.mapM_cons, resF, hrun], VRs.cons (ev_ok ht (.tmp t)) hv⟩
  | .cell ad t :: rs, l, h => by
    simp only [resultsA] at h
    split at h
    · rename_i v σ1 hv1
      simp only [Option.map_eq_some_iff] at h
      obtain ⟨l', hl', rfl⟩ := h
      obtain ⟨us, hrun, hv⟩ := resultsL_ok hE hR ht rs l' hl'
      obtain ⟨r, hr, hvr⟩ := loadVar_ok (P := P) hE hR hv1 (ev_ok ht (.tmp ad))
      refine ⟨r :: us, ?_, VRs.cons hvr hv⟩
      simp only [Act.eval] at hr
      have hr' : (resF a.tmps (.cell ad t)).run P w = .ok r w := hr
      rw [List.mapM_cons, Sem.run_bind, hr', Result.andThen_ok, Sem.run_bind, hrun, Result.andThen_ok, Sem.run_pure]
    · simp at h
theorem results_ok (hE : EnvOk E P) (hR : HR E B β σ.look w) {τ : Tm} {a : Act} (ht : TmpR β τ.t τ.n a.tmps) {fn : Func} {l : List AV} (h : resultsA E τ σ fn.results.toList = some l) :
    ∃ u, (results fn a.tmps).run P w = .ok u w ∧ VR β (one l) u := by
  obtain ⟨us, hrun, hv⟩ := resultsL_ok (P := P) hE hR ht _ _ h
  refine ⟨if h : us.toArray.size = 1 then us.toArray[0] else .tuple us.toArray, ?_, ?_⟩
  · have e : results fn a.tmps = (do let vs ← fn.results.mapM (resF a.tmps); pure (if h : vs.size = 1 then vs[0] else .tuple vs)) := by
      unfold results
      congr 2
    rw [e, Array.mapM_eq_mapM_toList]
    simp only [Sem.run_bind, map_eq_pure_bind, hrun, Result.andThen_ok, Sem.run_pure]
  · have hl := hv.length
    cases l with
    | nil => simp only [VRs] at hv; subst hv; simp [one, VR, VRs]
    | cons x l =>
      cases l with
      | nil => obtain ⟨ux, rfl, hx⟩ := hv.one; simpa [one] using hx
      | cons y l =>
        have : ¬ us.toArray.size = 1 := by simp at hl ⊢; omega
        rw [dif_neg this]
        simp only [one, VR]
        exact ⟨_, rfl, by simpa using hv⟩
theorem call_step (hE : EnvOk E P) (hV : Sound E P V) {f : FuncId} {args : List AV} {v : AV} {σ' : St} (h : callStep E V f args σ = some (v, σ')) :
    Tr σ σ' ∧ (∃ fn, E.fn.get f = some fn ∧ fn.body ≠ none) ∧
    ∀ (B : Nat) (β : Map) (w : World) (us : List Value) (F : Fence) (n : Nat), Open F → HR E B β σ.look w → WF σ → Fresh β σ.next σ'.next → VRs β args us → CallsIn F n P f us.toArray w (RetP E B β σ σ' w v) := by
  unfold callStep at h
  split at h
  · simp at h
  · rename_i fn hfn
    split at h
    · simp at h
    · rename_i c hc
      obtain ⟨hn, h⟩ := condT h
      replace hn := bleT hn
      have core : ∀ x τ σ1, V.code none c { t := putAll .leaf 0 args, n := fn.ntmps, marks := [] } σ = some (x, τ, σ1) → (x = .normal ∨ x = .ret) →
          (match takeMarks τ.marks σ1 with
            | some σ'' => (resultsA E τ σ'' fn.results.toList).map fun l => (one l, σ'')
            | none => none) = some (v, σ') →
          Tr σ σ' ∧ ∀ (B : Nat) (β : Map) (w : World) (us : List Value) (F : Fence) (n : Nat), Open F → HR E B β σ.look w → WF σ → Fresh β σ.next σ'.next → VRs β args us → CallsIn F n P f us.toArray w (RetP E B β σ σ' w v) := by
        intro x τ σ1 hcode hx h
        split at h
        · rename_i σ2 hm
          simp only [Option.map_eq_some_iff, Prod.mk.injEq] at h
          obtain ⟨l, hl, rfl, rfl⟩ := h
          obtain ⟨t1, hs⟩ := hV.code _ _ _ _ _ _ _ hcode
          have t2 := takeMarks_tr _ _ _ hm
          refine ⟨t1.trans t2, fun B β w us F n hO hR hW hF hus => ?_⟩
          have hO' : Open { F with round := none } := hO
          have hbody : c.wpIn { F with round := none } n P (bodyPostM { F with round := none } n P fn (RetP E B β σ σ2 w (one l))) { tmps := us.toArray ++ Array.replicate (fn.ntmps - us.toArray.size) undef, defers := [] } w := by
            refine wpL_wpIn (hs B β w _ _ n _ hO' rfl hR hW (fresh_first t2 hF) ⟨args_tmps hus hn, rfl⟩ ?_)
            intro β1 w1 a1 hR1 hS1 ht1
            have hleave : LeavesInM { F with round := none } n P fn a1.tmps (RetP E B β σ σ2 w (one l)) a1.defers .returning w1 := by
              refine leaves_ok τ.marks a1.defers σ1 σ2 β1 w1 hm ht1.2 hR1 (t1.wf hW) (fresh_then t1 hW hF hS1) ?_
              intro w2 hR2 hS2
              obtain ⟨u, hrun, hvu⟩ := results_ok (P := P) hE hR2 ht1.1 hl
              exact ⟨u, hrun, β1, u, rfl, hvu, hR2, step_trans t1 t2 hW hF hS1 hS2⟩
            rcases hx with rfl | rfl <;> exact hleave
          exact callsIn_of_wp_marks (F := { F with round := none }) (hE.fn f fn hfn).1 hc (hO.1 f) hbody
        · simp at h
      have hb : fn.body ≠ none := by rw [hc]; simp
      split at h
      · rename_i τ σ1 hcode
        obtain ⟨a, b⟩ := core _ _ _ hcode (.inl rfl) h
        exact ⟨a, ⟨fn, hfn, hb⟩, b⟩
      · rename_i τ σ1 hcode
        obtain ⟨a, b⟩ := core _ _ _ hcode (.inr rfl) h
        exact ⟨a, ⟨fn, hfn, hb⟩, b⟩
      · simp at h
end
end Go.Vai

/-
  Rounds; ranges over functions.
-/
namespace Go.Vai
open Go

section
variable {E : Env} {P : Program} {V : Ev} {B : Nat} {β : Map} {σ : St} {w : World}
theorem setParams_ok {n : Nat} : ∀ (ps : List Tmp) (args : List AV) (t t' : T AV) (us : List Value) (tmps : Array Value), setParams n t ps args = some t' → VRs β args us → TmpR β t n tmps →
    us.length = ps.length ∧ TmpR β t' n ((ps.zip us).foldl (fun tmps (p : Tmp × Value) => tmps.setIfInBounds p.1 p.2) tmps)
  | [], [], t, t', us, tmps, h, hu, ht => by
    simp only [setParams, Option.some.injEq] at h; subst h
    simp only [VRs] at hu; subst hu
    exact ⟨rfl, by simpa using ht⟩
  | p :: ps, v :: vs, t, t', us, tmps, h, hu, ht => by
    simp only [setParams] at h
    obtain ⟨h1, h2⟩ := condT h
    simp only [VRs] at hu
    obtain ⟨u, us', rfl, hv, hus⟩ := hu
    have h3 := put_ok (τ := ⟨t, n, []⟩) (a := ⟨tmps, []⟩) (dst := some p) (v := v) (u := u) (τ' := ⟨t.set (p + 1) p v, n, []⟩) (by simp [Tm.put, h1, Tm.set_eq]) hv ht
    obtain ⟨e, r⟩ := setParams_ok ps vs _ t' us' (tmps.setIfInBounds p u) h2 hus h3.1
    exact ⟨by simp [e], by simpa using r⟩
  | [], _ :: _, _, _, _, _, h, _, _ => by simp [setParams] at h
  | _ :: _, [], _, _, _, _, h, _, _ => by simp [setParams] at h
theorem run_getLoop {l : Nat} {r : Loop} (h : w.heap[l]? = some (.loop r)) : (Instr.getLoop l).run P w = .ok r w := by simp [Instr.getLoop, getObj, Sem.run, h]
theorem loop_at (hR : HR E B β σ.look w) {id : Nat} {st : LoopState} {pend : Option Code} {tt : T AV} {n : Nat} {ps : List Nat} {asg body : Code} {d : Nat} (h : σ.look id = some (.loop st pend tt n ps asg body d)) {l : Loc} (hl : β id 0 = some l) :
    ∃ r : Loop, w.heap[l.b]? = some (.loop r) ∧ r.state = st ∧ r.pending = pend ∧ r.params.toList = ps ∧ r.assign = asg ∧ r.body = body ∧ TmpR β tt n r.tmps ∧ (∃ ld, β d 0 = some ld ∧ r.defers = ld.b) ∧ l.b < w.heap.size := by
  obtain ⟨l', hl', r, h1, h2, h3, h4, h5, h6, h7, h8⟩ := hR.obj id _ h
  rw [hl] at hl'; simp only [Option.some.injEq] at hl'; subst hl'
  exact ⟨r, h1, h2, h3, h4, h5, h6, h7, h8, (hR.own id _ 0 l h hl).2⟩
/-- A loop's record turned. -/
theorem loop_put (hR : HR E B β σ.look w) {id : Nat} {st : LoopState} {pend : Option Code} {tt : T AV} {n : Nat} {ps : List Nat} {asg body : Code} {d : Nat} (h : σ.look id = some (.loop st pend tt n ps asg body d)) {l : Loc} (hl : β id 0 = some l)
    {r : Loop} (hr : w.heap[l.b]? = some (.loop r)) (st' : LoopState) (pend' : Option Code) :
    HR E B β (σ.put id (.loop st' pend' tt n ps asg body d)).look (w.putObj l.b (.loop { r with state := st', pending := pend' })) ∧
      Step β β σ.look σ.next (σ.put id (.loop st' pend' tt n ps asg body d)).next w (w.putObj l.b (.loop { r with state := st', pending := pend' })) := by
  obtain ⟨r', h1, h2, h3, h4, h5, h6, h7, h8, hlt⟩ := loop_at hR h hl
  rw [hr] at h1
  simp only [Option.some.injEq, Obj.loop.injEq] at h1
  subst h1
  rw [look_put _ (look_some h).1]
  exact putObj_ok hR h hl (.loop st' pend' tt n ps asg body d) (.loop { r with state := st', pending := pend' }) ⟨l, hl, _, World.putObj_heap_same hlt, rfl, rfl, h4, h5, h6, h7, h8⟩ σ.next σ.next
theorem gone_put (hR : HR E B β σ.look w) {id : Nat} {o : AObj} (h : σ.look id = some o) {l : Loc} (hl : β id 0 = some l) (r : Loop) (hg : o ≠ .gone := by first | assumption | (intro e; cases e)) :
    HR E B β (σ.put id .gone).look (w.putObj l.b (.loop r)) ∧ Step β β σ.look σ.next (σ.put id .gone).next w (w.putObj l.b (.loop r)) := by
  rw [look_put _ (look_some h).1]
  exact putObj_ok hR h hl .gone (.loop r) ⟨0, l, hl⟩ σ.next σ.next hg
theorem endRound_tr {l : Nat} {jump : Option Code} {v : AV} {σ' : St} (h : endRoundA l jump σ = some (v, σ')) : Tr σ σ' := by
  unfold endRoundA at h
  split at h
  · rename_i hl
    simp only [Option.some.injEq, Prod.mk.injEq] at h
    obtain ⟨_, rfl⟩ := h
    exact Tr.put hl _
  · simp at h
theorem endRound_ok (hR : HR E B β σ.look w) {l : Nat} {jump : Option Code} {v : AV} {σ' : St} (h : endRoundA l jump σ = some (v, σ')) {lc : Loc} (hl : β l 0 = some lc) :
    ∃ u w', (Instr.endRound lc.b jump).run P w = .ok u w' ∧ VR β v u ∧ HR E B β σ'.look w' ∧ Step β β σ.look σ.next σ'.next w w' := by
  unfold endRoundA at h
  split at h
  · rename_i st pend tt n ps asg body d hlook
    simp only [Option.some.injEq, Prod.mk.injEq] at h
    obtain ⟨rfl, rfl⟩ := h
    obtain ⟨r, hr, _⟩ := loop_at hR hlook hl
    have hP := loop_put hR hlook hl hr (match jump with | none => .ready | some _ => .done) jump
    refine ⟨.bool jump.isNone, _, ?_, by simp [VR], hP.1, hP.2⟩
    cases jump <;> simp [Instr.endRound, run_getLoop hr, setObj, Sem.run, hr, World.putObj]
  · simp at h
theorem round_step (hV : Sound E P V) {l : Nat} {args : List AV} {v : AV} {σ' : St} (h : roundStep V l args σ = some (v, σ')) : Tr σ σ' ∧
    ∀ (B : Nat) (β : Map) (w : World) (us : List Value) (lc : Loc) (F : Fence) (n : Nat), Open F → HR E B β σ.look w → WF σ → Fresh β σ.next σ'.next → β l 0 = some lc → VRs β args us →
      ∃ f tmps asg body, (Instr.yield lc.b us.toArray).run P w = .ok (.round lc.b f tmps asg body) w ∧ RoundIn F n P lc.b f tmps asg body w (RetP E B β σ σ' w v) := by
  unfold roundStep at h
  split at h
  · rename_i st pend tt nn ps asg body d hlook
    split at h
    · rename_i t hset
      split at h
      · rename_i τ1 σ1 hasg
        split at h
        · rename_i pend1 tt1 n1 ps1 asg1 body1 d1 hlook1
          obtain ⟨tA, sA⟩ := hV.code _ _ _ _ _ _ _ hasg
          have tB := Tr.put hlook1 (.loop .busy pend1 tt1 n1 ps1 asg1 body1 d1)
          have core : ∀ x τ2 σ2 jump, V.code (some l) body τ1 (σ1.put l (.loop .busy pend1 tt1 n1 ps1 asg1 body1 d1)) = some (x, τ2, σ2) → endRoundA l jump σ2 = some (v, σ') →
              (∀ R, (∀ (a : Act) w, (∃ u w', (Instr.endRound (R : Nat × (Ending → World → Prop)).1 jump).run P w = .ok u w' ∧ R.2 (.returned u) w') → roundPost P R.1 R.2 (exitC x) a w)) →
              Tr σ σ' ∧ ∀ (B : Nat) (β : Map) (w : World) (us : List Value) (lc : Loc) (F : Fence) (n : Nat), Open F → HR E B β σ.look w → WF σ → Fresh β σ.next σ'.next → β l 0 = some lc → VRs β args us →
                ∃ f tmps asg body, (Instr.yield lc.b us.toArray).run P w = .ok (.round lc.b f tmps asg body) w ∧ RoundIn F n P lc.b f tmps asg body w (RetP E B β σ σ' w v) := by
            intro x τ2 σ2 jump hbody hend hpost
            obtain ⟨tC, sC⟩ := hV.code _ _ _ _ _ _ _ hbody
            have tD := endRound_tr hend
            have tAB := tA.trans tB
            have tABC := tAB.trans tC
            refine ⟨tABC.trans tD, fun B β w us lc F n hO hR hW hF hl hus => ?_⟩
            obtain ⟨r, hr, _, _, h4, h5, h6, h7, _, _⟩ := loop_at hR hlook hl
            obtain ⟨hlen, htm⟩ := setParams_ok ps args tt t us r.tmps hset hus h7
            refine ⟨r.fn, (ps.zip us).foldl (fun tmps (p : Tmp × Value) => tmps.setIfInBounds p.1 p.2) r.tmps, asg, body, ?_, ?_⟩
            · have hsz : us.toArray.size = r.params.size := by
                have := congrArg List.length h4
                simp at this ⊢
                omega
              have hz : (r.params.zip us.toArray).toList = ps.zip us := by rw [Array.toList_zip, h4]
              have hfold : (r.params.zip us.toArray).foldl (fun tmps (x : Tmp × Value) => match x with | (t, a) => tmps.setIfInBounds t a) r.tmps = (ps.zip us).foldl (fun tmps (p : Tmp × Value) => tmps.setIfInBounds p.1 p.2) r.tmps := by
                rw [← Array.foldl_toList, hz]
              simp only [Instr.yield, Sem.run_bind, run_getLoop hr, Result.andThen_ok]
              rw [if_neg (by simpa using hsz)]
              simp only [Sem.run_pure, h5, h6]
              rw [← hfold]
            · refine roundIn_of_wpIn (hO.1 _) ?_
              refine wpL_wpIn (sA B β w _ (F.inRound lc.b) n _ hO ⟨lc, hl, rfl⟩ hR hW (hF.mono (Nat.le_refl _) ((tB.trans tC).trans tD).next) ⟨htm, rfl⟩ ?_)
              intro β1 w1 a1 hR1 hS1 ht1
              have hl1 := hS1.sub _ _ _ hl
              obtain ⟨r1, hr1, hst1, hpend1, _⟩ := loop_at hR1 hlook1 hl1
              have hP := loop_put hR1 hlook1 hl1 hr1 .busy pend1
              have hrr : ({ r1 with state := .busy, pending := pend1 } : Loop) = { r1 with state := .busy } := by rw [← hpend1]
              rw [hrr] at hP
              refine ⟨w1.putObj lc.b (.loop { r1 with state := .busy }), ?_, ?_⟩
              · simp [Instr.beginRound, run_getLoop hr1, setObj, Sem.run, hr1, hst1, World.putObj]
              · have hSAB := step_trans tA tB hW (hF.mono (Nat.le_refl _) (tC.trans tD).next) hS1 hP.2
                have hFB := fresh_then tAB hW hF hSAB
                refine wpL_wpIn (sC B β1 _ a1 (F.inRound lc.b) n _ hO ⟨lc, hl1, rfl⟩ hP.1 (tAB.wf hW) (fresh_first tD hFB) ht1 ?_)
                intro β2 w2 a2 hR2 hS2 ht2
                have hl2 := hS2.sub _ _ _ hl1
                obtain ⟨u, w3, hrun, hvu, hR3, hS3⟩ := endRound_ok (P := P) hR2 hend hl2
                refine hpost (lc.b, RetP E B β σ σ' w v) a2 w2 ⟨u, w3, hrun, β2, u, rfl, hvu, hR3, ?_⟩
                have hSABC := step_trans tAB tC hW (hF.mono (Nat.le_refl _) tD.next) hSAB hS2
                exact step_trans tABC tD hW hF hSABC hS3
          split at h
          · rename_i hbody; exact core _ _ _ _ hbody h (fun R a w hq => hq)
          · rename_i hbody; exact core _ _ _ _ hbody h (fun R a w hq => hq)
          · rename_i hbody; exact core _ _ _ _ hbody h (fun R a w hq => hq)
          · rename_i hbody; exact core _ _ _ _ hbody h (fun R a w hq => hq)
          · simp at h
        · simp at h
      · simp at h
    · simp at h
  · simp at h
end
end Go.Vai

/-
  The statement that ranges over a function.
-/
namespace Go.Vai
open Go

section
variable {E : Env} {P : Program} {V : Ev} {B : Nat} {β : Map} {σ : St} {w : World}
theorem call_enter (hE : EnvOk E P) {f : AV} {args as : List AV} {fid : FuncId} {σ' : St} (h : aCall f args σ = some (.enter fid as, σ')) {uf : Value} {uargs : List Value} (hf : VR β f uf) (ha : VRs β args uargs) :
    σ' = σ ∧ ∃ fn' first cap, uf = .func fn' first cap ∧ ∃ us, VRs β as us ∧ ∀ fn, E.fn.get fid = some fn → fn.body ≠ none → ∀ w, (invoke (.fn fn' cap) (first ++ uargs.toArray)).run P w = .ok (.enter fid us.toArray) w := by
  unfold aCall at h
  split at h
  · rename_i g first cap
    simp only [Option.some.injEq, Prod.mk.injEq, ANext.enter.injEq] at h
    obtain ⟨⟨rfl, rfl⟩, rfl⟩ := h
    simp only [VR] at hf; subst hf
    refine ⟨rfl, _, _, _, rfl, first.toList ++ uargs ++ cap.toList, ((VRs.sc _).append ha).append (VRs.sc _), fun fn hfn hb w => ?_⟩
    simp only [invoke, run_callFunc hE hfn hb]
    congr 2
    apply Array.ext'
    simp
  · rename_i g first cap
    simp only [Option.some.injEq, Prod.mk.injEq, ANext.enter.injEq] at h
    obtain ⟨⟨rfl, rfl⟩, rfl⟩ := h
    simp only [VR] at hf
    obtain ⟨uf1, uc1, rfl, h1, h2⟩ := hf
    refine ⟨rfl, _, _, _, rfl, uf1.toList ++ uargs ++ uc1.toList, (h1.append ha).append h2, fun fn hfn hb w => ?_⟩
    simp only [invoke, run_callFunc hE hfn hb]
    congr 2
    apply Array.ext'
    simp
  · simp at h
  · simp at h
/-- The loop's record laid. -/
theorem loop_new (hR : HR E B β σ.look w) (hW : WF σ) (hF : Fresh β σ.next (σ.next + 1)) {a : Act} {τ : Tm} (ht : TmpR β τ.t τ.n a.tmps) (fn : FuncId) (ps : Array Tmp) (asg body : Code) {d : Nat} {ld : Loc} (hd : β d 0 = some ld) :
    let w1 := w.alloc (.loop { state := .ready, pending := none, fn, tmps := a.tmps, params := ps, assign := asg, body, defers := ld.b })
    HR E B (put1 β σ.next 0 ⟨w.heap.size, 0, 0, 0⟩) (σ.new (.loop .ready none τ.t τ.n ps.toList asg body d)).look w1 ∧
      Step β (put1 β σ.next 0 ⟨w.heap.size, 0, 0, 0⟩) σ.look σ.next (σ.new (.loop .ready none τ.t τ.n ps.toList asg body d)).next w w1 := by
  intro w1
  have hnone : β σ.next 0 = none := hF σ.next 0 (Nat.le_refl _) (Nat.lt_succ_self _)
  have hsub := put1_sub (l := ⟨w.heap.size, 0, 0, 0⟩) hnone
  exact new_ok hR hW hF _ (.loop { state := .ready, pending := none, fn, tmps := a.tmps, params := ps, assign := asg, body, defers := ld.b }) w1 rfl rfl rfl rfl ⟨w.heap.size, 0, 0, 0⟩ rfl
    ⟨_, put1_same _ _ _ _, _, (MapKept.heap_alloc w _).1, rfl, rfl, rfl, rfl, rfl, ht.mono hsub, ld, hsub _ _ _ hd, rfl⟩
/-- Behind the start: the call, the pending jump. -/
theorem range_core (hE : EnvOk E P) (hV : Sound E P V) {rd : Option Nat} {τ τ1 τ' : Tm} {σ1 σ' : St} {d : Nat} {g : Operand} {ps : Array Tmp} {asg body : Code} {x : AExit}
    (h : rangeGo V rd (ev τ g) ps.toList asg body d τ τ1 σ1 = some (x, τ', σ')) :
    Tr (σ1.new (.loop .ready none τ.t τ.n ps.toList asg body d)) σ' ∧ ∀ (B : Nat) (β1 : Map) (w1 : World) (a a1 : Act) (F : Fence) (n : Nat) (Q : Exit → Act → World → Prop) (lb : Nat), Open F → RdOk β1 rd F.round →
      HR E B β1 (σ1.new (.loop .ready none τ.t τ.n ps.toList asg body d)).look w1 → WF σ1 → Fresh β1 (σ1.next + 1) σ'.next → FrR β1 τ1 a1 → VR β1 (ev τ g) (a.eval g) → (∃ lc, β1 σ1.next 0 = some lc ∧ lc.b = lb) →
      (∀ β' w' a', HR E B β' σ'.look w' → Step β1 β' (σ1.new (.loop .ready none τ.t τ.n ps.toList asg body d)).look (σ1.next + 1) σ'.next w1 w' → FrR β' τ' a' → Q (exitC x) a' w') →
      ∃ (dd : Deferred) (f : FuncId) (args : Array Value), (resolve a.eval (rangeCall g lb) 0).run P w1 = .ok dd w1 ∧ (invoke dd.target dd.args).run P w1 = .ok (.enter f args) w1 ∧
        CallsIn F (n - 1) P f args w1 (rangePost F n P lb Q a1) := by
  have tN := Tr.new σ1 (.loop .ready none τ.t τ.n ps.toList asg body d)
  unfold rangeGo at h
  split at h
  · rename_i f args σ2 hc
    split at h
    · rename_i v3 σ3 hcall
      split at h
      · rename_i st pend tt n0 ps0 asg0 body0 d0 hlook
        obtain ⟨t3, ⟨fn, hfn, hb⟩, hcs⟩ := hV.call _ _ _ _ _ hcall
        have hσ2 := call_tr hc
        subst hσ2
        have tput := Tr.put hlook .gone
        have main : ∀ (σ' : St), Tr (σ3.put σ1.next .gone) σ' → st ≠ .busy → ∀ (B : Nat) (β1 : Map) (w1 : World) (a a1 : Act) (F : Fence) (n : Nat) (Q : Exit → Act → World → Prop) (lb : Nat), Open F → RdOk β1 rd F.round →
            HR E B β1 (σ1.new (.loop .ready none τ.t τ.n ps.toList asg body d)).look w1 → WF σ1 → Fresh β1 (σ1.next + 1) σ'.next → FrR β1 τ1 a1 → VR β1 (ev τ g) (a.eval g) → (∃ lc, β1 σ1.next 0 = some lc ∧ lc.b = lb) →
            (∀ β4 w4, HR E B β4 (σ3.put σ1.next .gone).look w4 → RdOk β4 rd F.round → WF (σ3.put σ1.next .gone) →
              Fresh β4 (σ3.put σ1.next .gone).next σ'.next → FrR β4 τ1 a1 →
              Step β1 β4 (σ1.new (.loop .ready none τ.t τ.n ps.toList asg body d)).look (σ1.next + 1) (σ3.put σ1.next .gone).next w1 w4 →
              (match (generalizing := false) pend with | none => Q .normal a1 w4 | some c => c.wpIn F n P Q a1 w4)) →
            ∃ (dd : Deferred) (f : FuncId) (args : Array Value), (resolve a.eval (rangeCall g lb) 0).run P w1 = .ok dd w1 ∧ (invoke dd.target dd.args).run P w1 = .ok (.enter f args) w1 ∧
              CallsIn F (n - 1) P f args w1 (rangePost F n P lb Q a1) := by
          intro σ' t4 hst B β1 w1 a a1 F n Q lb hO hrd hR hW hF ht hg ⟨lc, hlc, hlb⟩ hQ
          subst hlb
          obtain ⟨_, fn', first, cap, huf, us, hus, hinv⟩ := call_enter (P := P) hE hc hg (uargs := [.func (.yield lc.b) #[] #[]]) (VRs.cons (by simp only [VR]; exact ⟨lc, hlc, rfl⟩) VRs.nil)
          have hWL := tN.wf hW
          refine ⟨_, f, us.toArray, run_resolve a.eval g _ _ 0 w1 huf, ?_, ?_⟩
          · have := hinv fn hfn hb w1
            simpa [Act.eval] using this
          · refine CallsIn.mono (hcs B β1 w1 us F (n - 1) hO hR hWL (hF.mono (Nat.le_refl _) (tput.trans t4).next) hus) ?_
            rintro e w3 ⟨β3, u, rfl, hv, hR3, hS3⟩
            have hl3 := hS3.sub _ _ _ hlc
            obtain ⟨r, hr, hrst, hrp, _⟩ := loop_at hR3 hlook hl3
            have hP := gone_put hR3 hlook hl3 { r with state := .exhausted }
            have hS34 := step_trans t3 tput hWL (hF.mono (Nat.le_refl _) t4.next) hS3 hP.2
            refine ⟨pend, w3.putObj lc.b (.loop { r with state := .exhausted }), ?_, ?_⟩
            · have hb : r.state ≠ LoopState.busy := by rw [hrst]; exact hst
              simp [Instr.endLoop, run_getLoop hr, hb, setObj, Sem.run, hr, World.putObj, hrp]
            · exact hQ β3 _ hP.1 (hrd.mono hS3.sub) ((t3.trans tput).wf hWL) (fresh_then (t3.trans tput) hWL hF hS34) (ht.mono hS3.sub) hS34
        split at h
        · simp at h
        · rename_i hst
          split at h
          · simp only [Option.some.injEq, Prod.mk.injEq] at h
            obtain ⟨rfl, rfl, rfl⟩ := h
            refine ⟨t3.trans tput, ?_⟩
            intro B β1 w1 a a1 F n Q lb hO hrd hR hW hF ht hg hlc hQ
            refine main _ (Tr.refl _) (fun e => hst e) B β1 w1 a a1 F n Q lb hO hrd hR hW hF ht hg hlc ?_
            intro β4 w4 hR4 _ _ _ ht4 hS4
            exact hQ β4 w4 a1 hR4 hS4 ht4
          · rename_i c
            obtain ⟨t4, s4⟩ := hV.code _ _ _ _ _ _ _ h
            refine ⟨(t3.trans tput).trans t4, ?_⟩
            intro B β1 w1 a a1 F n Q lb hO hrd hR hW hF ht hg hlc hQ
            refine main _ t4 (fun e => hst e) B β1 w1 a a1 F n Q lb hO hrd hR hW hF ht hg hlc ?_
            intro β4 w4 hR4 hrd4 hW4 hF4 ht4 hS4
            refine wpL_wpIn (s4 B β4 w4 a1 F n Q hO hrd4 hR4 hW4 hF4 ht4 ?_)
            intro β5 w5 a5 hR5 hS5 ht5
            exact hQ β5 w5 a5 hR5 (step_trans (t3.trans tput) t4 (tN.wf hW) hF hS4 hS5) ht5
      · simp at h
    · simp at h
  · simp at h
theorem run_enterLoop_none (fn : FuncId) (tmps : Array Value) (ps : Array Tmp) (asg body : Code) :
    (Instr.enterLoop fn tmps ps asg body none).run P w = .ok (w.heap.size + 1, [{ target := .collected w.heap.size, args := #[] }])
      ((w.alloc (.deferred (some []))).alloc (.loop { state := .ready, pending := none, fn, tmps, params := ps, assign := asg, body, defers := w.heap.size })) := by
  simp [Instr.enterLoop, newObj, Sem.run]
theorem run_enterLoop_some (fn : FuncId) (tmps : Array Value) (ps : Array Tmp) (asg body : Code) {l : Nat} {r : Loop} (h : w.heap[l]? = some (.loop r)) :
    (Instr.enterLoop fn tmps ps asg body (some l)).run P w = .ok (w.heap.size, [])
      (w.alloc (.loop { state := .ready, pending := none, fn, tmps, params := ps, assign := asg, body, defers := r.defers })) := by
  simp [Instr.enterLoop, run_getLoop h, newObj, Sem.run]
theorem rangeFunc_ok (hE : EnvOk E P) (hV : Sound E P V) {rd : Option Nat} {τ τ' : Tm} {σ' : St} {g : Operand} {ps : Array Tmp} {asg body : Code} {x : AExit}
    (h : rangeFuncA V rd (ev τ g) ps.toList asg body τ σ = some (x, τ', σ')) : Tr σ σ' ∧ CodeSound E P rd (.rangeFunc g ps asg body) τ σ x τ' σ' := by
  unfold rangeFuncA at h
  split at h
  · -- an outermost loop
    obtain ⟨t1, hc⟩ := range_core (P := P) hE hV h
    have t0 := Tr.new σ (.dfr false)
    have tN := Tr.new (σ.new (.dfr false)) (.loop .ready none τ.t τ.n ps.toList asg body σ.next)
    refine ⟨(t0.trans tN).trans t1, fun B β w a F n Q hO hrd hR hW hF ht hQ => wpIn_rangeFunc fun fn _ => ?_⟩
    simp only [RdOk] at hrd
    have hrd0 := hrd
    rw [hrd]
    have hle2 : σ.next + 1 + 1 ≤ σ'.next := t1.next
    have hN1 := new_ok hR hW (hF.mono (Nat.le_refl _) (by omega)) (.dfr false) (.deferred (some [])) (w.alloc (.deferred (some []))) rfl rfl rfl rfl ⟨w.heap.size, 0, 0, 0⟩ rfl
      ⟨_, put1_same _ _ _ _, (MapKept.heap_alloc w _).1⟩
    have hW1 := t0.wf hW
    have hF1 := fresh_then t0 hW hF hN1.2
    have ht1 : FrR (put1 β σ.next 0 ⟨w.heap.size, 0, 0, 0⟩) τ a := ht.mono hN1.2.sub
    have hL := loop_new (a := a) (τ := τ) hN1.1 hW1 (hF1.mono (Nat.le_refl _) hle2) ht1.1 fn ps asg body (put1_same β σ.next 0 ⟨w.heap.size, 0, 0, 0⟩)
    have hS := step_trans t0 tN hW (hF.mono (Nat.le_refl _) hle2) hN1.2 hL.2
    have hF2 := fresh_then (t0.trans tN) hW hF hS
    obtain ⟨dd, f, args, hres, hinv, hcall⟩ := hc B _ _ a { a with defers := [{ target := .collected w.heap.size, args := #[] }] ++ a.defers } F n Q (w.heap.size + 1) hO (by simpa [RdOk] using hrd0) hL.1 hW1 hF2
      ⟨ht1.1.mono hL.2.sub, ⟨w.heap.size, 0, 0, 0⟩, a.defers, hL.2.sub _ _ _ (put1_same _ _ _ _), rfl, ht1.2.mono hL.2.sub⟩
      (VR.mono hS.sub _ _ (ev_ok ht.1 g)) ⟨_, put1_same _ _ _ _, by simp⟩
      (fun β' w' a' hR' hS' ht' => hQ β' w' a' hR' (step_trans (t0.trans tN) t1 hW hF hS hS') ht')
    exact ⟨w.heap.size + 1, _, _, dd, _, f, args, _, run_enterLoop_none fn a.tmps ps asg body, hres, fun f' _ => hO.1 f', hinv, (fun e => by rw [hO.2] at e; simp at e), hcall⟩
  · rename_i l0
    split at h
    · rename_i st0 pend0 tt0 n0 ps0 asg0 body0 d hlook
      obtain ⟨t1, hc⟩ := range_core (P := P) hE hV h
      have tN := Tr.new σ (.loop .ready none τ.t τ.n ps.toList asg body d)
      refine ⟨tN.trans t1, fun B β w a F n Q hO hrd hR hW hF ht hQ => wpIn_rangeFunc fun fn _ => ?_⟩
      have hrd0 := hrd
      obtain ⟨lc, hlc, hro⟩ := hrd
      rw [hro]
      obtain ⟨r, hr, _, _, _, _, _, _, ⟨ld, hld, hrd'⟩, _⟩ := loop_at hR hlook hlc
      have hle2 : σ.next + 1 ≤ σ'.next := t1.next
      have hL := loop_new (a := a) (τ := τ) hR hW (hF.mono (Nat.le_refl _) hle2) ht.1 fn ps asg body hld
      have hF2 := fresh_then tN hW hF hL.2
      have ht1 := ht.mono hL.2.sub
      obtain ⟨dd, f, args, hres, hinv, hcall⟩ := hc B _ _ a { a with defers := [] ++ a.defers } F n Q w.heap.size hO (hrd0.mono hL.2.sub) hL.1 hW hF2 ht1
        (VR.mono hL.2.sub _ _ (ev_ok ht.1 g)) ⟨_, put1_same _ _ _ _, rfl⟩
        (fun β' w' a' hR' hS' ht' => hQ β' w' a' hR' (step_trans tN t1 hW hF hL.2 hS') ht')
      have hrun := run_enterLoop_some (P := P) fn a.tmps ps asg body hr
      rw [hrd'] at hrun
      exact ⟨w.heap.size, _, _, dd, _, f, args, _, hrun, hres, fun f' _ => hO.1 f', hinv, (fun e => by rw [hO.2] at e; simp at e), hcall⟩
    · simp at h
end
end Go.Vai

/-
  Code: one step deeper; all depths. (What is drawn: a hypothesis here.)
-/
namespace Go.Vai
open Go

/-- Regions that draw their order. -/
def DrawOk (E : Env) (P : Program) : Prop :=
  ∀ V, Sound E P V → ∀ (rd : Option Nat) (id : Nat) (ops : Array Oper) τ σ τ' σ', draw E V ops.toList τ σ = some (τ', σ') → Tr σ σ' ∧ CodeSound E P rd (.region id ops true) τ σ .normal τ' σ'
section
variable {E : Env} {P : Program} {V : Ev}
theorem thenQ {next : Act → World → Prop} {Q : Exit → Act → World → Prop} {x : AExit} (hx : x ≠ .normal) {a : Act} {w : World} (h : Q (exitC x) a w) : Exit.then next Q (exitC x) a w := by
  cases x <;> first | exact absurd rfl hx | exact h
theorem code_step (hE : EnvOk E P) (hD : DrawOk E P) (hV : Sound E P V) {rd : Option Nat} {c : Code} {τ τ' : Tm} {σ σ' : St} {x : AExit} (h : codeStep E V rd c τ σ = some (x, τ', σ')) :
    Tr σ σ' ∧ CodeSound E P rd c τ σ x τ' σ' := by
  have stay : ∀ {y : AExit}, some (y, τ, σ) = some (x, τ', σ') → (∀ (F : Fence) n Q a w, Q (exitC y) a w → wpL F n P Q c a w) → Tr σ σ' ∧ CodeSound E P rd c τ σ x τ' σ' := by
    intro y h hq
    simp only [Option.some.injEq, Prod.mk.injEq] at h
    obtain ⟨rfl, rfl, rfl⟩ := h
    exact ⟨Tr.refl _, fun B β w a F n Q _ _ hR _ _ ht hQ => hq F n Q a w (hQ β w a hR (Step.refl _ _ _ _) ht)⟩
  unfold codeStep at h
  split at h
  · exact stay h fun F n Q a w hq => wpIn_skip hq
  · exact stay h fun F n Q a w hq => wpIn_label hq
  · exact stay h fun F n Q a w hq => wpIn_ret hq
  · exact stay h fun F n Q a w hq => wpIn_exit hq
  · exact stay h fun F n Q a w hq => wpIn_goto hq
  · -- seq
    rename_i c1 c2
    split at h
    · rename_i τ1 σ1 h1
      obtain ⟨t1, s1⟩ := hV.code _ _ _ _ _ _ _ h1
      obtain ⟨t2, s2⟩ := hV.code _ _ _ _ _ _ _ h
      refine ⟨t1.trans t2, fun B β w a F n Q hO hrd hR hW hF ht hQ => wpIn_seq (wpL_wpIn (s1 B β w a F n _ hO hrd hR hW (fresh_first t2 hF) ht ?_))⟩
      intro β1 w1 a1 hR1 hS1 ht1
      refine wpL_wpIn (s2 B β1 w1 a1 F n Q hO (hrd.mono hS1.sub) hR1 (t1.wf hW) (fresh_then t1 hW hF hS1) ht1 ?_)
      intro β2 w2 a2 hR2 hS2 ht2
      exact hQ β2 w2 a2 hR2 (step_trans t1 t2 hW hF hS1 hS2) ht2
    · rename_i hno
      have hx : x ≠ .normal := by
        intro e; subst e; exact hno _ _ h
      obtain ⟨t1, s1⟩ := hV.code _ _ _ _ _ _ _ h
      exact ⟨t1, fun B β w a F n Q hO hrd hR hW hF ht hQ => wpIn_seq (wpL_wpIn (s1 B β w a F n _ hO hrd hR hW hF ht fun β1 w1 a1 hR1 hS1 ht1 => thenQ hx (hQ β1 w1 a1 hR1 hS1 ht1)))⟩
  · -- cond
    rename_i cnd c1 c2
    split at h
    · rename_i b hc
      obtain ⟨t1, s1⟩ := hV.code _ _ _ _ _ _ _ h
      refine ⟨t1, fun B β w a F n Q hO hrd hR hW hF ht hQ => ?_⟩
      have hv := ev_ok ht.1 cnd
      rw [hc] at hv
      simp only [VR] at hv
      refine wpIn_cond hv ?_
      have := wpL_wpIn (s1 B β w a F n Q hO hrd hR hW hF ht hQ)
      cases b <;> simpa using this
    · simp at h
  · -- block
    rename_i id c1
    split at h
    · rename_i id' τ1 σ1 h1
      obtain ⟨t1, s1⟩ := hV.code _ _ _ _ _ _ _ h1
      cases hid : Nat.beq id' id with
      | true =>
        rw [hid] at h
        simp only [cond_true, Option.some.injEq, Prod.mk.injEq] at h
        obtain ⟨rfl, rfl, rfl⟩ := h
        refine ⟨t1, fun B β w a F n Q hO hrd hR hW hF ht hQ => wpIn_block (wpL_wpIn (s1 B β w a F n _ hO hrd hR hW hF ht ?_))⟩
        intro β1 w1 a1 hR1 hS1 ht1
        simp only [exitC, Exit.inBlock, if_pos (beqT hid)]
        exact hQ β1 w1 a1 hR1 hS1 ht1
      | false =>
        rw [hid] at h
        simp only [cond_false, Option.some.injEq, Prod.mk.injEq] at h
        obtain ⟨rfl, rfl, rfl⟩ := h
        have hne : id' ≠ id := by intro e; subst e; simp at hid
        refine ⟨t1, fun B β w a F n Q hO hrd hR hW hF ht hQ => wpIn_block (wpL_wpIn (s1 B β w a F n _ hO hrd hR hW hF ht ?_))⟩
        intro β1 w1 a1 hR1 hS1 ht1
        simp only [exitC, Exit.inBlock, if_neg hne]
        exact hQ β1 w1 a1 hR1 hS1 ht1
    · rename_i hno
      obtain ⟨t1, s1⟩ := hV.code _ _ _ _ _ _ _ h
      refine ⟨t1, fun B β w a F n Q hO hrd hR hW hF ht hQ => wpIn_block (wpL_wpIn (s1 B β w a F n _ hO hrd hR hW hF ht ?_))⟩
      intro β1 w1 a1 hR1 hS1 ht1
      have := hQ β1 w1 a1 hR1 hS1 ht1
      cases x with
      | exit id' => exact absurd h (hno _ _ _)
      | normal => exact this
      | goto l => exact this
      | ret => exact this
  · -- loop
    rename_i c1
    split at h
    · rename_i τ1 σ1 h1
      obtain ⟨t1, s1⟩ := hV.code _ _ _ _ _ _ _ h1
      obtain ⟨t2, s2⟩ := hV.code _ _ _ _ _ _ _ h
      refine ⟨t1.trans t2, fun B β w a F n Q hO hrd hR hW hF ht hQ => loopJ_round (wpL_wpIn (s1 B β w a F n _ hO hrd hR hW (fresh_first t2 hF) ht ?_))⟩
      intro β1 w1 a1 hR1 hS1 ht1
      refine s2 B β1 w1 a1 F n Q hO (hrd.mono hS1.sub) hR1 (t1.wf hW) (fresh_then t1 hW hF hS1) ht1 ?_
      intro β2 w2 a2 hR2 hS2 ht2
      exact hQ β2 w2 a2 hR2 (step_trans t1 t2 hW hF hS1 hS2) ht2
    · rename_i hno
      have hx : x ≠ .normal := by
        intro e; subst e; exact hno _ _ h
      obtain ⟨t1, s1⟩ := hV.code _ _ _ _ _ _ _ h
      exact ⟨t1, fun B β w a F n Q hO hrd hR hW hF ht hQ => loopJ_round (wpL_wpIn (s1 B β w a F n _ hO hrd hR hW hF ht fun β1 w1 a1 hR1 hS1 ht1 => thenQ hx (hQ β1 w1 a1 hR1 hS1 ht1)))⟩
  · -- region
    rename_i id ops d
    cases d with
    | true =>
      simp only [cond_true, Option.map_eq_some_iff, Prod.mk.injEq] at h
      obtain ⟨⟨τ1, σ1⟩, h1, rfl, rfl, rfl⟩ := h
      exact hD V hV rd id ops τ σ τ1 σ1 h1
    | false =>
      simp only [cond_false, Option.map_eq_some_iff, Prod.mk.injEq] at h
      obtain ⟨⟨τ1, σ1⟩, h1, rfl, rfl, rfl⟩ := h
      exact region_ok hE hV h1
  · exact rangeFunc_ok hE hV h
  · simp at h
  · simp at h
theorem next_sound (hE : EnvOk E P) (hD : DrawOk E P) (hV : Sound E P V) : Sound E P (Ev.next E V) where
  code := fun _ _ _ _ _ _ _ h => code_step hE hD hV h
  call := fun _ _ _ _ _ h => call_step hE hV h
  round := fun _ _ _ _ _ h => round_step hV h
theorem none_sound : Sound E P Ev.none where
  code := fun _ _ _ _ _ _ _ h => by simp [Ev.none] at h
  call := fun _ _ _ _ _ h => by simp [Ev.none] at h
  round := fun _ _ _ _ _ h => by simp [Ev.none] at h
theorem at_sound (hE : EnvOk E P) (hD : DrawOk E P) : ∀ n, Sound E P (Ev.at E n)
  | 0 => none_sound
  | n + 1 => next_sound hE hD (at_sound hE hD n)
end
end Go.Vai

/-
  Drawn regions: what an operation reads of the temporaries; steps in another order; masks.
-/
namespace Go.Vai
open Go

section
variable {E : Env} {P : Program} {V : Ev}
theorem aOp_congr {τ τ' : Tm} {op : Op} (h : ∀ x ∈ op.operands, ev τ x = ev τ' x) (σ : St) : aOp E τ op σ = aOp E τ' op σ := by
  have parts : ∀ ps : Array (Nat × Operand), (∀ x ∈ (ps.toList.map (·.2)).toArray, ev τ x = ev τ' x) → (ps.toList.map fun p => (p.1, ev τ p.2)) = ps.toList.map fun p => (p.1, ev τ' p.2) := by
    intro ps hp
    apply List.map_congr_left
    intro p hp'
    rw [hp p.2 (by simp; exact ⟨p.1, by simpa using hp'⟩)]
  have arr : ∀ l : Array Operand, (∀ x ∈ l, ev τ x = ev τ' x) → l.toList.map (ev τ) = l.toList.map (ev τ') := by
    intro l hl
    apply List.map_congr_left
    intro x hx
    exact hl x (by simpa using hx)
  have opt : ∀ o : Option Operand, (∀ x ∈ o.toArray, ev τ x = ev τ' x) → o.map (ev τ) = o.map (ev τ') := by
    intro o ho
    cases o with
    | none => rfl
    | some x => simp [ho x (by simp)]
  cases op with
  | build t ps => simp only [aOp, parts ps h]
  | buildSlice t n ps => simp only [aOp, parts ps h]
  | makeFunc fn first cap =>
    simp only [Op.operands] at h
    simp only [aOp, arr first (fun x hx => h x (by simp [hx])), arr cap (fun x hx => h x (by simp [hx]))]
  | slice t x l hh m =>
    simp only [Op.operands] at h
    simp only [aOp, h x (by simp), opt l (fun y hy => h y (by simp at hy ⊢; simp [hy])), opt hh (fun y hy => h y (by simp at hy ⊢; simp [hy])), opt m (fun y hy => h y (by simp at hy ⊢; simp [hy]))]
  | call c =>
    obtain ⟨callee, args, ats⟩ := c
    cases callee with
    | value f =>
      simp only [Op.operands, Call.operands] at h
      simp only [aOp, h f (by simp), arr args (fun x hx => h x (by simp [hx]))]
    | builtin b =>
      simp only [Op.operands, Call.operands] at h
      simp only [aOp, arr args (fun x hx => h x (by simp [hx]))]
    | _ => simp only [aOp]
  | makeMap t r => cases r <;> simp only [aOp]
  | next it s => cases s <;> simp only [aOp, h it (by simp [Op.operands])]
  | _ => first
    | (simp only [aOp]; done)
    | (simp only [Op.operands] at h
       simp only [aOp]
       simp [h])
theorem oper_congr {τ τ' : Tm} {o : Oper} (h : ∀ x ∈ o.op.operands, ev τ x = ev τ' x) (σ : St) : oper E V τ o σ = oper E V τ' o σ := by
  unfold oper
  rw [aOp_congr h]

theorem Step.trans' {β β1 β2 : Map} {look look1 : Look} {lo hi lo2 hi2 : Nat} {w w1 w2 : World} (h1 : Step β β1 look lo hi w w1) (h2 : Step β1 β2 look1 lo2 hi2 w1 w2)
    (hl : lo ≤ lo2) (hh : hi2 ≤ hi) (hf : Fresh β lo hi) (hdom : ∀ id o, look1 id = some o → (∃ o', look id = some o') ∨ (lo ≤ id ∧ id < hi)) : Step β β2 look lo hi w w2 where
  sub := h1.sub.trans h2.sub
  new := by
    intro id g l h
    rcases h2.new id g l h with h | ⟨a, b, c⟩ | ⟨o, ho, h⟩
    · exact h1.new id g l h
    · exact .inr (.inl ⟨by omega, by omega, Nat.le_trans h1.size c⟩)
    · rcases hdom id o ho with ⟨o', ho'⟩ | ⟨a, b⟩
      · refine .inr (.inr ⟨o', ho', ?_⟩)
        rcases h with h | ⟨g0, l0, e0, eb⟩
        · exact .inl (Nat.le_trans h1.size h)
        · rcases h1.new id g0 l0 e0 with h | ⟨_, _, c⟩ | ⟨_, _, h⟩
          · exact .inr ⟨g0, l0, h, eb⟩
          · exact .inl (eb ▸ c)
          · rcases h with h | ⟨g1, l1, e1, eb1⟩
            · exact .inl (eb ▸ h)
            · exact .inr ⟨g1, l1, e1, eb1.trans eb⟩
      · refine .inr (.inl ⟨a, b, ?_⟩)
        rcases h with h | ⟨g0, l0, e0, eb⟩
        · exact Nat.le_trans h1.size h
        · rcases h1.new id g0 l0 e0 with h | ⟨_, _, c⟩ | ⟨_, _, h⟩
          · rw [hf id g0 a b] at h; simp at h
          · exact eb ▸ c
          · rcases h with h | ⟨g1, l1, e1, eb1⟩
            · exact eb ▸ h
            · rw [hf id g1 a b] at e1; simp at e1
  os := h2.os.trans h1.os
  tape := h2.tape.trans h1.tape
  output := h2.output.trans h1.output
  size := Nat.le_trans h1.size h2.size
  keep := by
    intro b hb hno
    rw [h2.keep b (Nat.lt_of_lt_of_le hb h1.size) ?_, h1.keep b hb hno]
    intro id o g l ho he eb
    rcases h1.new id g l he with h | ⟨_, _, c⟩ | ⟨o', ho', h⟩
    · rcases hdom id o ho with ⟨o', ho'⟩ | ⟨a, b'⟩
      · exact hno id o' g l ho' h eb
      · rw [hf id g a b'] at h; simp at h
    · omega
    · rcases h with h | ⟨g0, l0, e0, eb0⟩
      · omega
      · exact hno id o' g0 l0 ho' e0 (eb0.trans eb)
  fz := by
    intro b o h
    rcases h2.fz b o h with h | h | ⟨id, ob, g, l, ho, he, eb⟩
    · exact h1.fz b o h
    · exact .inr (.inl (Nat.le_trans h1.size h))
    · rcases h1.new id g l he with h | ⟨_, _, c⟩ | ⟨o', ho', h⟩
      · rcases hdom id ob ho with ⟨o', ho'⟩ | ⟨a, b'⟩
        · exact .inr (.inr ⟨id, o', g, l, ho', h, eb⟩)
        · rw [hf id g a b'] at h; simp at h
      · exact .inr (.inl (eb ▸ c))
      · rcases h with h | ⟨g0, l0, e0, eb0⟩
        · exact .inr (.inl (eb ▸ h))
        · exact .inr (.inr ⟨id, o', g0, l0, ho', e0, eb0.trans eb⟩)

/-! masks -/
theorem testBit_shl1 (i j : Nat) : Nat.testBit (Nat.shiftLeft 1 i) j = decide (i = j) := by
  show Nat.testBit (1 <<< i) j = _
  rw [Nat.one_shiftLeft, Nat.testBit_two_pow]
theorem depMask_bit (masks : List Nat) (j : Nat) : ∀ (l : List Edge) (m : Nat), Nat.testBit (l.foldl (fun m e => cond (Region.binds .any e) (Nat.lor m (Nat.lor (Nat.shiftLeft 1 e.on) (masks.getD e.on 0))) m) m) j = true →
    Nat.testBit m j = true ∨ ∃ e ∈ l, Region.binds .any e = true ∧ (e.on = j ∨ Nat.testBit (masks.getD e.on 0) j = true)
  | [], m, h => .inl h
  | e :: l, m, h => by
    simp only [List.foldl_cons] at h
    rcases depMask_bit masks j l _ h with h | ⟨e', he', r⟩
    · cases hb : Region.binds .any e with
      | false => rw [hb] at h; exact .inl h
      | true =>
        rw [hb] at h
        simp only [cond_true] at h
        have h' : Nat.testBit (m ||| ((Nat.shiftLeft 1 e.on) ||| (masks.getD e.on 0))) j = true := h
        rw [Nat.testBit_or, Nat.testBit_or, testBit_shl1] at h'
        simp only [Bool.or_eq_true, decide_eq_true_eq] at h'
        rcases h' with h' | h' | h'
        · exact .inl h'
        · exact .inr ⟨e, by simp, hb, .inl h'⟩
        · exact .inr ⟨e, by simp, hb, .inr h'⟩
    · exact .inr ⟨e', by simp [he'], r⟩
theorem masksFrom_spec : ∀ (l : List Oper) (acc : List Nat), ∃ r, masksFrom acc l = acc ++ r ∧ r.length = l.length ∧
    ∀ i o, l[i]? = some o → (masksFrom acc l)[acc.length + i]? = some (depMask ((masksFrom acc l).take (acc.length + i)) o.after.toList)
  | [], acc => ⟨[], by simp [masksFrom], rfl, fun i o h => by simp at h⟩
  | x :: l, acc => by
    obtain ⟨r, h1, h2, h3⟩ := masksFrom_spec l (acc ++ [depMask acc x.after.toList])
    have e : masksFrom acc (x :: l) = masksFrom (acc ++ [depMask acc x.after.toList]) l := rfl
    refine ⟨depMask acc x.after.toList :: r, by rw [e, h1]; simp, by simp [h2], fun i o ho => ?_⟩
    rw [e]
    cases i with
    | zero =>
      simp only [List.getElem?_cons_zero, Option.some.injEq] at ho
      subst ho
      rw [h1]
      simp
    | succ i =>
      have := h3 i o (by simpa using ho)
      simp only [List.length_append, List.length_cons, List.length_nil] at this
      rw [show acc.length + (i + 1) = acc.length + 1 + i by omega]
      exact this
/-- A mask's bit: along an edge. -/
theorem mask_bit {ops : List Oper} (hE : okEdges ops = true) {k j : Nat} (h : Nat.testBit ((masksOf ops).getD k 0) j = true) :
    ∃ o, ops[k]? = some o ∧ ∃ e ∈ o.after, Region.binds .any e = true ∧ e.on < k ∧ (e.on = j ∨ Nat.testBit ((masksOf ops).getD e.on 0) j = true) := by
  obtain ⟨r, h1, h2, h3⟩ := masksFrom_spec ops []
  have hm : masksOf ops = masksFrom [] ops := rfl
  rw [← hm] at h1 h3
  simp only [List.nil_append, List.length_nil, Nat.zero_add] at h1 h3
  cases ho : ops[k]? with
  | none =>
    have hlen : (masksOf ops).length ≤ k := by
      rw [h1, h2]; simpa using ho
    rw [List.getD_eq_getElem?_getD, List.getElem?_eq_none hlen] at h
    simp at h
  | some o =>
    refine ⟨o, rfl, ?_⟩
    rw [List.getD_eq_getElem?_getD, h3 k o ho] at h
    simp only [Option.getD_some] at h
    have hedge : ∀ e ∈ o.after, Region.binds .any e = true → e.on < k := by
      intro e he hb
      unfold okEdges at hE
      rw [List.all_eq_true] at hE
      have := hE (o, k) (by rw [List.mem_zipIdx_iff_getElem?]; simpa using ho)
      rw [List.all_eq_true] at this
      have := this e (by simpa using he)
      simp only [hb, Bool.not_true, Bool.false_or] at this
      exact bltT this
    rcases depMask_bit _ j _ 0 h with h | ⟨e, he, hb, hr⟩
    · simp at h
    · have he' : e ∈ o.after := by simpa using he
      have hlt := hedge e he' hb
      refine ⟨e, he', hb, hlt, ?_⟩
      rcases hr with hr | hr
      · exact .inl hr
      · right
        rw [List.getD_eq_getElem?_getD, List.getElem?_take, if_pos hlt] at hr
        rw [List.getD_eq_getElem?_getD]
        exact hr
theorem mask_lt {ops : List Oper} (hE : okEdges ops = true) : ∀ (k j : Nat), Nat.testBit ((masksOf ops).getD k 0) j = true → j < k := by
  intro k
  induction k using Nat.strongRecOn with
  | _ k ih =>
    intro j h
    obtain ⟨o, _, e, _, _, hlt, hr⟩ := mask_bit hE h
    rcases hr with rfl | hr
    · exact hlt
    · exact Nat.lt_trans (ih e.on hlt j hr) hlt
/-- What is closed under the edges is closed under the masks. -/
theorem mask_closed {ops : List Oper} (hE : okEdges ops = true) {D : Nat → Prop} (hD : ∀ k o, ops[k]? = some o → D k → ∀ e ∈ o.after, Region.binds .any e = true → D e.on) :
    ∀ (k j : Nat), D k → Nat.testBit ((masksOf ops).getD k 0) j = true → D j := by
  intro k
  induction k using Nat.strongRecOn with
  | _ k ih =>
    intro j hk h
    obtain ⟨o, ho, e, he, hb, hlt, hr⟩ := mask_bit hE h
    have hde := hD k o ho hk e he hb
    rcases hr with rfl | hr
    · exact hde
    · exact ih e.on hlt j hde hr
theorem mask_ready {ops : List Oper} (hE : okEdges ops = true) {D : Nat → Prop} (hD : ∀ k o, ops[k]? = some o → D k → ∀ e ∈ o.after, Region.binds .any e = true → D e.on) {k : Nat} {o : Oper} (ho : ops[k]? = some o)
    (hr : ∀ e ∈ o.after, Region.binds .any e = true → D e.on) {j : Nat} (h : Nat.testBit ((masksOf ops).getD k 0) j = true) : D j := by
  obtain ⟨o', ho', e, he, hb, _, hr'⟩ := mask_bit hE h
  rw [ho] at ho'; simp only [Option.some.injEq] at ho'; subst ho'
  rcases hr' with rfl | hr'
  · exact hr e he hb
  · exact mask_closed hE hD e.on j (hr e he hb) hr'
end
end Go.Vai

/-
  Drawn regions: the run in the text's order, laid out.
-/
namespace Go.Vai
open Go

/-- What is hidden from the k-th operation. -/
noncomputable def footHid (τ : Tm) (op : Op) (N : Nat) : List (Nat × Nat) := match foot τ op with | some l => except1 N l | none => []
noncomputable def hidAt (masks : List Nat) (recs : List Rec) (k : Nat) (τ : Tm) (op : Op) (σ : St) : List (Nat × Nat) :=
  footHid τ op σ.next ++ (hidFrom (masks.getD k 0) 0 (recs.take k) ++ σ.hid)
/-- One operation of the run. -/
structure StepAt (E : Env) (V : Ev) (ops : List Oper) (masks : List Nat) (recs : List Rec) (σs : Nat → St) (τs : Nat → Tm) (vs : Nat → AV) (k : Nat) (o : Oper) (r : Rec) : Prop where
  at' : recs[k]? = some r
  put : (τs k).put o.dst (vs k) = some (τs (k + 1))
  lo : r.lo = (σs k).next
  hi : r.hi = (σs (k + 1)).next
  run : (wantedA ops (τs k) o = some true ∧ r.hid = hidAt masks recs k (τs k) o.op (σs k) ∧
      ∃ σ1, oper E V (τs k) o { σs k with hid := r.hid, log := [] } = some (vs k, σ1) ∧ σs (k + 1) = { σ1 with hid := (σs k).hid, log := σ1.log ++ (σs k).log } ∧ r.w = σ1.log.filter fun id => Nat.blt id (σs k).next) ∨
    (wantedA ops (τs k) o = some false ∧ vs k = .sc undef ∧ σs (k + 1) = σs k ∧ r.w = [] ∧ r.hid = [(0, (σs k).next)])
theorem drawFrom_run (E : Env) (V : Ev) (ops : List Oper) (masks : List Nat) : ∀ (rest : List Oper) (j : Nat) (recs : List Rec) (τ : Tm) (σ : St) (recs' : List Rec) (τ' : Tm) (σ' : St), ops.drop j = rest → j ≤ ops.length → recs.length = j →
    drawFrom E V ops masks rest j recs τ σ = some (recs', τ', σ') → ∃ (σs : Nat → St) (τs : Nat → Tm) (vs : Nat → AV), σs j = σ ∧ τs j = τ ∧ σs ops.length = σ' ∧ τs ops.length = τ' ∧ recs'.take j = recs ∧
      ∀ k o, j ≤ k → ops[k]? = some o → ∃ r, StepAt E V ops masks recs' σs τs vs k o r
  | [], j, recs, τ, σ, recs', τ', σ', hd, hj, hl, h => by
    simp only [drawFrom, Option.some.injEq, Prod.mk.injEq] at h
    obtain ⟨rfl, rfl, rfl⟩ := h
    have hlen : ops.length ≤ j := by simpa using hd
    have e : ops.length = j := by omega
    refine ⟨fun _ => σ, fun _ => τ, fun _ => .sc undef, rfl, rfl, rfl, rfl, by rw [← hl, List.take_length], fun k o hk ho => ?_⟩
    rw [List.getElem?_eq_none (by omega)] at ho
    simp at ho
  | o :: rest, j, recs, τ, σ, recs', τ', σ', hd, hj, hl, h => by
    have hlt : j < ops.length := by
      rcases Nat.lt_or_ge j ops.length with h | h
      · exact h
      · rw [List.drop_eq_nil_of_le h] at hd; simp at hd
    have ho : ops[j]? = some o := by
      have := congrArg List.head? hd
      simpa using this
    have hd' : ops.drop (j + 1) = rest := by
      have := congrArg List.tail hd
      simpa [List.tail_drop] using this
    -- the head laid before the rest
    have join : ∀ (r : Rec) (τ1 : Tm) (σ1 : St) (v : AV), drawFrom E V ops masks rest (j + 1) (recs ++ [r]) τ1 σ1 = some (recs', τ', σ') →
        (∀ (σs : Nat → St) (τs : Nat → Tm) (vs : Nat → AV), σs j = σ → τs j = τ → σs (j + 1) = σ1 → τs (j + 1) = τ1 → vs j = v → recs'.take j = recs → recs'[j]? = some r → StepAt E V ops masks recs' σs τs vs j o r) →
        ∃ (σs : Nat → St) (τs : Nat → Tm) (vs : Nat → AV), σs j = σ ∧ τs j = τ ∧ σs ops.length = σ' ∧ τs ops.length = τ' ∧ recs'.take j = recs ∧
          ∀ k o, j ≤ k → ops[k]? = some o → ∃ r, StepAt E V ops masks recs' σs τs vs k o r := by
      intro r τ1 σ1 v hrest hst
      obtain ⟨σs, τs, vs, e1, e2, e3, e4, e5, e6⟩ := drawFrom_run E V ops masks rest (j + 1) (recs ++ [r]) τ1 σ1 recs' τ' σ' hd' hlt (by simp [hl]) hrest
      have htake : recs'.take j = recs := by
        have := congrArg (List.take j) e5
        rw [List.take_take, Nat.min_eq_left (by omega)] at this
        rw [this, ← hl, List.take_left]
      have hget : recs'[j]? = some r := by
        have := congrArg (fun l => l[j]?) e5
        simp only [List.getElem?_take, if_pos (Nat.lt_succ_self j)] at this
        rw [this, ← hl]
        simp
      refine ⟨fun k => if k = j then σ else σs k, fun k => if k = j then τ else τs k, fun k => if k = j then v else vs k, by simp, by simp, ?_, ?_, htake, ?_⟩
      · simp only []; rw [if_neg (by omega)]; exact e3
      · simp only []; rw [if_neg (by omega)]; exact e4
      · intro k o' hk ho'
        by_cases e : k = j
        · subst e
          rw [ho] at ho'; simp only [Option.some.injEq] at ho'; subst ho'
          exact ⟨r, hst _ _ _ (by simp) (by simp) (by simp [e1]) (by simp [e2]) (by simp) htake hget⟩
        · obtain ⟨r', hr'⟩ := e6 k o' (by omega) ho'
          refine ⟨r', ?_⟩
          have n1 : k ≠ j := e
          have n2 : k + 1 ≠ j := by omega
          exact ⟨hr'.at', by simp only [n1, n2, if_false]; exact hr'.put, by simp only [n1, if_false]; exact hr'.lo, by simp only [n2, if_false]; exact hr'.hi,
            by simp only [n1, n2, if_false]; exact hr'.run⟩
    simp only [drawFrom, St.cover_eq, St.back_eq] at h
    split at h
    · rename_i hw
      split at h
      · rename_i v σ1 h1
        split at h
        · rename_i τ1 hput
          refine join _ τ1 _ v h ?_
          intro σs τs vs a1 a2 a3 a4 a5 a6 a7
          refine ⟨a7, by rw [a2, a4, a5]; exact hput, by rw [a1], by rw [a3], .inl ⟨by rw [a2]; exact hw, ?_, σ1, ?_, by rw [a3, a1], by rw [a1]⟩⟩
          · rw [a1, a2]
            unfold hidAt footHid
            rw [a6]
            cases foot τ o.op <;> rfl
          · rw [a1, a2, a5]; exact h1
        · simp at h
      · simp at h
    · rename_i hw
      split at h
      · rename_i τ1 hput
        refine join _ τ1 _ (.sc undef) h ?_
        intro σs τs vs a1 a2 a3 a4 a5 a6 a7
        exact ⟨a7, by rw [a2, a4, a5]; exact hput, by rw [a1], by rw [a3], .inr ⟨by rw [a2]; exact hw, a5, by rw [a3, a1], rfl, by rw [a1]⟩⟩
      · simp at h
    · simp at h
end Go.Vai

/-
  Drawn regions: what is hidden, what is touched, in the text's order.
-/
namespace Go.Vai
open Go

theorem hidden_append (id : Nat) : ∀ (a b : List (Nat × Nat)), hidden id (a ++ b) = (hidden id a || hidden id b)
  | [], b => rfl
  | (x, y) :: a, b => by
    simp only [List.cons_append, hidden, hidden_append id a b]
    cases (Nat.ble x id && Nat.blt id y) <;> rfl
theorem hidden_cons (id x y : Nat) (l : List (Nat × Nat)) : hidden id ((x, y) :: l) = true ↔ (x ≤ id ∧ id < y) ∨ hidden id l = true := by
  simp only [hidden]
  cases h : (Nat.ble x id && Nat.blt id y) with
  | true =>
    simp only [Bool.and_eq_true] at h
    simp [bleT h.1, bltT h.2]
  | false =>
    simp only [cond_false]
    constructor
    · exact .inr
    · rintro (⟨h1, h2⟩ | h')
      · have : Nat.ble x id = true := by simpa using h1
        have h3 : Nat.blt id y = true := by simpa using h2
        rw [this, h3] at h; simp at h
      · exact h'
theorem except1_vis (N id : Nat) (h : N ≤ id) (l : List Nat) : hidden id (except1 N l) = false := by
  cases hh : hidden id (except1 N l) with
  | false => rfl
  | true =>
    exfalso
    unfold except1 at hh
    split at hh
    · rw [hidden_cons] at hh
      rcases hh with hh | hh
      · omega
      · simp [hidden] at hh
    · rename_i a
      rw [hidden_cons, hidden_cons] at hh
      have := Nat.min_le_right a N
      rcases hh with hh | hh | hh
      · have h2 : id < Nat.min a N := hh.2
        have h3 : Nat.min a N ≤ N := this
        omega
      · omega
      · simp [hidden] at hh
    · rename_i a b
      cases hb : Nat.ble a b with
      | true =>
        rw [hb] at hh
        simp only [cond_true, hidden_cons] at hh
        have h1 : Nat.min a N ≤ N := Nat.min_le_right a N
        have h2 : Nat.min b N ≤ N := Nat.min_le_right b N
        rcases hh with hh | hh | hh | hh
        · omega
        · omega
        · omega
        · simp [hidden] at hh
      | false =>
        rw [hb] at hh
        simp only [cond_false, hidden_cons] at hh
        have h1 : Nat.min a N ≤ N := Nat.min_le_right a N
        have h2 : Nat.min b N ≤ N := Nat.min_le_right b N
        rcases hh with hh | hh | hh | hh
        · omega
        · omega
        · omega
        · simp [hidden] at hh
    · simp [hidden] at hh
theorem hidFrom_true {mask id : Nat} : ∀ {l : List Rec} {i : Nat}, hidden id (hidFrom mask i l) = true ↔ ∃ j r, l[j]? = some r ∧ Nat.testBit mask (i + j) = false ∧ r.lo ≤ id ∧ id < r.hi
  | [], i => by simp [hidFrom, hidden]
  | r :: l, i => by
    simp only [hidFrom]
    cases hb : (Nat.testBit mask i || Nat.beq r.lo r.hi) with
    | true =>
      simp only [cond_true]
      rw [hidFrom_true]
      constructor
      · rintro ⟨j, q, h1, h2, h3⟩
        exact ⟨j + 1, q, by simpa using h1, by rw [← h2]; congr 1; omega, h3⟩
      · rintro ⟨j, q, h1, h2, h3⟩
        cases j with
        | zero =>
          simp only [List.getElem?_cons_zero, Option.some.injEq] at h1
          subst h1
          rw [Nat.add_zero] at h2
          rw [h2] at hb
          have := beqT (by simpa using hb : Nat.beq r.lo r.hi = true)
          omega
        | succ j => exact ⟨j, q, by simpa using h1, by rw [← h2]; congr 1; omega, h3⟩
    | false =>
      simp only [cond_false]
      rw [hidden_cons, hidFrom_true]
      simp only [Bool.or_eq_false_iff] at hb
      constructor
      · rintro (h | ⟨j, q, h1, h2, h3⟩)
        · exact ⟨0, r, rfl, by simpa using hb.1, h⟩
        · exact ⟨j + 1, q, by simpa using h1, by rw [← h2]; congr 1; omega, h3⟩
      · rintro ⟨j, q, h1, h2, h3⟩
        cases j with
        | zero =>
          simp only [List.getElem?_cons_zero, Option.some.injEq] at h1
          subst h1
          exact .inl h3
        | succ j => exact .inr ⟨j, q, by simpa using h1, by rw [← h2]; congr 1; omega, h3⟩

section
variable {E : Env} {P : Program} {V : Ev} {ops : List Oper} {masks : List Nat} {recs : List Rec} {σs : Nat → St} {τs : Nat → Tm} {vs : Nat → AV}
/-- All of the run. -/
def RunAt (E : Env) (V : Ev) (ops : List Oper) (masks : List Nat) (recs : List Rec) (σs : Nat → St) (τs : Nat → Tm) (vs : Nat → AV) : Prop :=
  ∀ k o, ops[k]? = some o → ∃ r, StepAt E V ops masks recs σs τs vs k o r
def Touch (recs : List Rec) (k id : Nat) : Prop := ∃ r, recs[k]? = some r ∧ (id ∈ r.w ∨ (r.lo ≤ id ∧ id < r.hi))
theorem step_facts (hV : Sound E P V) {k : Nat} {o : Oper} {r : Rec} (h : StepAt E V ops masks recs σs τs vs k o r) (hpre : ∀ j r', j < k → recs[j]? = some r' → r'.hi ≤ (σs k).next) :
    Tr (σs k) (σs (k + 1)) ∧ (∀ id, ¬ Touch recs k id → WF (σs k) → (σs (k + 1)).h.get id = (σs k).h.get id) := by
  rcases h.run with ⟨hw, hhid, σ1, hop, hs, hwr⟩ | ⟨hw, hv, hs, hwr, hh⟩
  · have t := oper_tr hV hop
    obtain ⟨l, e1, s1, v1⟩ := t.log
    simp only [List.append_nil] at e1
    have hvis : WF (σs k) → ∀ id, (σs k).next ≤ id → hidden id r.hid = false := by
      intro hW id hid
      rw [hhid]
      unfold hidAt
      rw [hidden_append, hidden_append, hW.vis id hid]
      have h1 : hidden id (footHid (τs k) o.op (σs k).next) = false := by
        unfold footHid
        cases foot (τs k) o.op with
        | none => rfl
        | some l => exact except1_vis _ _ hid l
      rw [h1]
      simp only [Bool.false_or, Bool.or_false]
      cases hx : hidden id (hidFrom (masks.getD k 0) 0 (recs.take k)) with
      | false => rfl
      | true =>
        obtain ⟨j, r', hj, _, _, hlt⟩ := hidFrom_true.1 hx
        rw [List.getElem?_take] at hj
        split at hj
        · rename_i hjk
          have := hpre j r' hjk hj
          omega
        · simp at hj
    have hhs : ∀ id, hidden id r.hid = false → hidden id (σs k).hid = false := by
      intro id hid
      rw [hhid] at hid
      unfold hidAt at hid
      rw [hidden_append, hidden_append] at hid
      simp only [Bool.or_eq_false_iff] at hid
      exact hid.2.2
    refine ⟨⟨?_, by rw [hs], ⟨l, by rw [hs, e1], ?_, ?_⟩, ?_, ?_⟩, ?_⟩
    · rw [hs]; exact t.next
    · intro id hid hn; rw [hs]; exact s1 id hid hn
    · intro id hm hid; exact hhs id (v1 id hm hid)
    · intro id hid; rw [hs]; exact t.dom id hid
    · intro hW
      have hW1 := t.wf ⟨hW.none, hvis hW⟩
      rw [hs]
      refine ⟨hW1.none, fun id hid => ?_⟩
      have hn : (σs k).next ≤ σ1.next := t.next
      exact hW.vis id (Nat.le_trans hn hid)
    · intro id hnt hW
      have hW1 := t.wf ⟨hW.none, hvis hW⟩
      rw [hs]
      have hn : (σs k).next ≤ σ1.next := t.next
      rcases Nat.lt_or_ge id (σs k).next with hlt | hge
      · refine s1 id hlt fun hm => hnt ⟨r, h.at', .inl ?_⟩
        rw [hwr, List.mem_filter, e1]
        exact ⟨hm, by simpa using hlt⟩
      · rw [hW.none id hge]
        have hge1 : σ1.next ≤ id := by
          rcases Nat.lt_or_ge id σ1.next with h' | h'
          · exfalso
            refine hnt ⟨r, h.at', .inr ⟨by rw [h.lo]; exact hge, by rw [h.hi, hs]; exact h'⟩⟩
          · exact h'
        exact hW1.none id hge1
  · rw [hs]
    exact ⟨Tr.refl _, fun _ _ _ => rfl⟩
end
end Go.Vai

/-
  Drawn regions: the state behind some of the operations.
-/
namespace Go.Vai
open Go

section
variable {E : Env} {P : Program} {V : Ev} {ops : List Oper} {masks : List Nat} {recs : List Rec} {σs : Nat → St} {τs : Nat → Tm} {vs : Nat → AV}
theorem chain (hV : Sound E P V) (hr : RunAt E V ops masks recs σs τs vs) : ∀ m, m ≤ ops.length →
    Tr (σs 0) (σs m) ∧ (∀ j r, j < m → recs[j]? = some r → r.hi ≤ (σs m).next ∧ (σs 0).next ≤ r.lo) ∧ (∀ j, j ≤ m → (σs j).next ≤ (σs m).next)
  | 0, _ => ⟨Tr.refl _, fun j r h => by omega, fun j h => by have : j = 0 := by omega
                                                             subst this; exact Nat.le_refl _⟩
  | m + 1, hm => by
    obtain ⟨t, h1, h2⟩ := chain hV hr m (by omega)
    have hlt : m < ops.length := by omega
    obtain ⟨r, hs⟩ := hr m ops[m] (by simp [hlt])
    obtain ⟨t1, _⟩ := step_facts hV hs (fun j r' hj hr' => (h1 j r' hj hr').1)
    refine ⟨t.trans t1, ?_, ?_⟩
    · intro j r' hj hr'
      by_cases e : j = m
      · subst e
        rw [hs.at'] at hr'; simp only [Option.some.injEq] at hr'; subst hr'
        exact ⟨by rw [hs.hi]; exact Nat.le_refl _, by rw [hs.lo]; exact t.next⟩
      · obtain ⟨a, b⟩ := h1 j r' (by omega) hr'
        exact ⟨Nat.le_trans a t1.next, b⟩
    · intro j hj
      by_cases e : j = m + 1
      · subst e; exact Nat.le_refl _
      · exact Nat.le_trans (h2 j (by omega)) t1.next
theorem untouched (hV : Sound E P V) (hr : RunAt E V ops masks recs σs τs vs) (hW : WF (σs 0)) {k id : Nat} (hk : k < ops.length) (h : ¬ Touch recs k id) : (σs (k + 1)).h.get id = (σs k).h.get id := by
  obtain ⟨t, h1, _⟩ := chain hV hr k (by omega)
  obtain ⟨r, hs⟩ := hr k ops[k] (by simp [hk])
  exact (step_facts hV hs (fun j r' hj hr' => (h1 j r' hj hr').1)).2 id h (t.wf hW)

open Classical in
/-- The heap behind those operations among the first m that are in D. -/
noncomputable def hD (D : Nat → Bool) (recs : List Rec) (σs : Nat → St) : Nat → Nat → Option AObj
  | 0, id => (σs 0).h.get id
  | m + 1, id => if D m = true ∧ Touch recs m id then (σs (m + 1)).h.get id else hD D recs σs m id
theorem hD_all (hV : Sound E P V) (hr : RunAt E V ops masks recs σs τs vs) (hW : WF (σs 0)) {D : Nat → Bool} {id : Nat} : ∀ m, m ≤ ops.length → (∀ k, k < m → Touch recs k id → D k = true) → hD D recs σs m id = (σs m).h.get id
  | 0, _, _ => rfl
  | m + 1, hm, h => by
    unfold hD
    by_cases ht : Touch recs m id
    · rw [if_pos ⟨h m (by omega) ht, ht⟩]
    · rw [if_neg (fun e => ht e.2), hD_all hV hr hW m (by omega) (fun k hk => h k (by omega))]
      exact (untouched hV hr hW (by omega) ht).symm
theorem hD_none {D : Nat → Bool} {id : Nat} (i : Nat) : ∀ m, i ≤ m → (∀ k, i ≤ k → k < m → D k = true → ¬ Touch recs k id) → hD D recs σs m id = hD D recs σs i id
  | 0, hi, _ => by have : i = 0 := by omega
                   subst this; rfl
  | m + 1, hi, h => by
    by_cases e : i = m + 1
    · subst e; rfl
    · conv => lhs; unfold hD
      rw [if_neg (fun hh => h m (by omega) (by omega) hh.1 hh.2), hD_none i m (by omega) (fun k a b => h k a (by omega))]
theorem hD_congr {D D' : Nat → Bool} {id : Nat} : ∀ m, (∀ k, k < m → Touch recs k id → D k = D' k) → hD D recs σs m id = hD D' recs σs m id
  | 0, _ => rfl
  | m + 1, h => by
    unfold hD
    by_cases ht : Touch recs m id
    · rw [h m (by omega) ht, hD_congr m (fun k hk => h k (by omega))]
    · rw [if_neg (fun e => ht e.2), if_neg (fun e => ht e.2), hD_congr m (fun k hk => h k (by omega))]

/-! temporaries -/
/-- The temporaries behind those operations among the first m that are in D. -/
noncomputable def tD (D : Nat → Bool) (ops : List Oper) (τ : Tm) (vs : Nat → AV) : Nat → Tm
  | 0 => τ
  | m + 1 => cond (D m) (match ops[m]? with
    | some o => match o.dst with | some d => (tD D ops τ vs m).set d (vs m) | none => tD D ops τ vs m
    | none => tD D ops τ vs m) (tD D ops τ vs m)
theorem tD_meta {D : Nat → Bool} {τ : Tm} : ∀ m, (tD D ops τ vs m).n = τ.n ∧ (tD D ops τ vs m).marks = τ.marks
  | 0 => ⟨rfl, rfl⟩
  | m + 1 => by
    have ih := tD_meta (D := D) (τ := τ) m
    unfold tD
    cases D m with
    | false => exact ih
    | true =>
      simp only [cond_true]
      split
      · split
        · exact ih
        · exact ih
      · exact ih
theorem tD_get {D : Nat → Bool} {τ : Tm} (m t : Nat) : (tD D ops τ vs (m + 1)).t.get t = if D m = true ∧ ∃ o, ops[m]? = some o ∧ o.dst = some t then some (vs m) else (tD D ops τ vs m).t.get t := by
  conv => lhs; unfold tD
  cases hD : D m with
  | false => simp
  | true =>
    simp only [cond_true, true_and]
    split
    · rename_i o ho
      split
      · rename_i d hd
        simp only [Tm.set_eq, T.get_set']
        by_cases e : t = d
        · subst e
          rw [if_pos rfl, if_pos ⟨o, ho, hd⟩]
        · rw [if_neg e, if_neg]
          rintro ⟨o', ho', hd'⟩
          rw [ho] at ho'; simp only [Option.some.injEq] at ho'; subst ho'
          rw [hd] at hd'; simp only [Option.some.injEq] at hd'
          exact e hd'.symm
      · rename_i hd
        rw [if_neg]
        rintro ⟨o', ho', hd'⟩
        rw [ho] at ho'; simp only [Option.some.injEq] at ho'; subst ho'
        rw [hd] at hd'; simp at hd'
    · rename_i ho
      rw [if_neg]
      rintro ⟨o', ho', _⟩
      rw [ho] at ho'; simp at ho'
end
end Go.Vai

/-
  Drawn regions: what an operation sees is the same in every order.
-/
namespace Go.Vai
open Go

theorem okRecs_spec {masks : List Nat} {recs : List Rec} (h : okRecs masks recs = true) {j k : Nat} {r q : Rec} (hj : recs[j]? = some r) (hk : recs[k]? = some q) {id : Nat} (hid : id ∈ r.w) (hne : j ≠ k) :
    Nat.testBit (masks.getD k 0) j = true ∨ Nat.testBit (masks.getD j 0) k = true ∨ hidden id q.hid = true ∨ q.hi ≤ id := by
  unfold okRecs at h
  rw [List.all_eq_true] at h
  have h1 := h (r, j) (by rw [List.mem_zipIdx_iff_getElem?]; simpa using hj)
  simp only [Bool.or_eq_true] at h1
  rcases h1 with h1 | h1
  · have : r.w = [] := by simpa using h1
    rw [this] at hid; cases hid
  · rw [List.all_eq_true] at h1
    have h2 := h1 (q, k) (by rw [List.mem_zipIdx_iff_getElem?]; simpa using hk)
    simp only [Bool.or_eq_true] at h2
    rcases h2 with ((h2 | h2) | h2) | h2
    · exact absurd (beqT h2) hne
    · exact .inl h2
    · exact .inr (.inl h2)
    · rw [List.all_eq_true] at h2
      have h3 := h2 id hid
      simp only [Bool.or_eq_true] at h3
      rcases h3 with h3 | h3
      · exact .inr (.inr (.inl h3))
      · exact .inr (.inr (.inr (bleT h3)))
theorem okOps_spec {ops : List Oper} {masks : List Nat} (h : okOps ops masks = true) {j k : Nat} {x y : Oper} (hj : ops[j]? = some x) (hk : ops[k]? = some y) (hlt : j < k) (hm : Nat.testBit (masks.getD k 0) j = false) :
    x.apart ops.toArray y = true := by
  unfold okOps at h
  rw [List.all_eq_true] at h
  have h1 := h (x, j) (by rw [List.mem_zipIdx_iff_getElem?]; simpa using hj)
  rw [List.all_eq_true] at h1
  have h2 := h1 (y, k) (by rw [List.mem_zipIdx_iff_getElem?]; simpa using hk)
  simp only [Bool.or_eq_true] at h2
  rcases h2 with (h2 | h2) | h2
  · have := bleT h2; omega
  · rw [hm] at h2; simp at h2
  · exact h2

/-- Sets of operations: closed; what an operation that may come next needs. -/
structure Next (ops : List Oper) (D : Nat → Bool) (i : Nat) : Prop where
  out : D i = false
  dom : ∀ k, D k = true → k < ops.length
  pred : ∀ j, Nat.testBit ((masksOf ops).getD i 0) j = true → D j = true
  closed : ∀ k j, D k = true → Nat.testBit ((masksOf ops).getD k 0) j = true → D j = true
section
variable {E : Env} {P : Program} {V : Ev} {ops : List Oper} {recs : List Rec} {σs : Nat → St} {τs : Nat → Tm} {vs : Nat → AV} {D : Nat → Bool} {i : Nat}
theorem wvis (hV : Sound E P V) {masks : List Nat} {o : Oper} {r : Rec} (hs : StepAt E V ops masks recs σs τs vs i o r) {id : Nat} (h : id ∈ r.w) : hidden id r.hid = false ∧ id < (σs i).next := by
  rcases hs.run with ⟨_, _, σ1, hop, _, hwr⟩ | ⟨_, _, _, hwr, _⟩
  · have t := oper_tr hV hop
    obtain ⟨l, e1, _, v1⟩ := t.log
    simp only [List.append_nil] at e1
    rw [hwr, List.mem_filter] at h
    have hlt := bltT h.2
    exact ⟨v1 id (by rw [← e1]; exact h.1) hlt, hlt⟩
  · rw [hwr] at h; cases h
theorem sees (hV : Sound E P V) (hr : RunAt E V ops (masksOf ops) recs σs τs vs) (hW : WF (σs 0)) (hE : okEdges ops = true) (hK : okRecs (masksOf ops) recs = true) (hN : Next ops D i) {o : Oper} {r : Rec} (ho : ops[i]? = some o)
    (hs : StepAt E V ops (masksOf ops) recs σs τs vs i o r) {id : Nat} (hlt : id < (σs i).next) (hv : hidden id r.hid = false) :
    hD D recs σs ops.length id = (σs i).h.get id := by
  have hi : i < ops.length := by
    rcases Nat.lt_or_ge i ops.length with h | h
    · exact h
    · rw [List.getElem?_eq_none h] at ho; simp at ho
  have hmono := fun j m (hm : m ≤ ops.length) (hj : j ≤ m) => (chain hV hr m hm).2.2 j hj
  have hhi : (σs i).next ≤ r.hi := by rw [hs.hi]; exact hmono i (i + 1) hi (by omega)
  have get : ∀ k, k < ops.length → ∃ ok rk, ops[k]? = some ok ∧ StepAt E V ops (masksOf ops) recs σs τs vs k ok rk := by
    intro k hk
    obtain ⟨rk, h⟩ := hr k ops[k] (by simp [hk])
    exact ⟨ops[k], rk, by simp [hk], h⟩
  rw [hD_none i ops.length (by omega) ?_, hD_all hV hr hW i (by omega) ?_]
  · -- before
    intro k hk ht
    obtain ⟨ok, rk, hok, hsk⟩ := get k (by omega)
    obtain ⟨r', hr', ht⟩ := ht
    rw [hsk.at'] at hr'; simp only [Option.some.injEq] at hr'; subst hr'
    rcases ht with ht | ⟨ha, hb⟩
    · rcases okRecs_spec hK hsk.at' hs.at' ht (by omega) with h | h | h | h
      · exact hN.pred k h
      · have := mask_lt hE k i h; omega
      · rw [hv] at h; simp at h
      · omega
    · rcases hs.run with ⟨_, hhid, _⟩ | ⟨_, _, _, _, hhid⟩
      · rw [hhid] at hv
        unfold hidAt at hv
        rw [hidden_append, hidden_append] at hv
        simp only [Bool.or_eq_false_iff] at hv
        cases hm : Nat.testBit ((masksOf ops).getD i 0) k with
        | true => exact hN.pred k hm
        | false =>
          have : hidden id (hidFrom ((masksOf ops).getD i 0) 0 (recs.take i)) = true :=
            hidFrom_true.2 ⟨k, rk, by rw [List.getElem?_take, if_pos hk]; exact hsk.at', by rw [Nat.zero_add]; exact hm, ha, hb⟩
          rw [this] at hv; simp at hv
      · rw [hhid] at hv
        have : hidden id [(0, (σs i).next)] = true := by rw [hidden_cons]; exact .inl ⟨by omega, hlt⟩
        rw [this] at hv; simp at hv
  · -- behind
    intro k hik hk hDk ht
    have hne : k ≠ i := by intro e; subst e; rw [hN.out] at hDk; simp at hDk
    obtain ⟨ok, rk, hok, hsk⟩ := get k hk
    obtain ⟨r', hr', ht⟩ := ht
    rw [hsk.at'] at hr'; simp only [Option.some.injEq] at hr'; subst hr'
    rcases ht with ht | ⟨ha, hb⟩
    · rcases okRecs_spec hK hsk.at' hs.at' ht hne with h | h | h | h
      · have := mask_lt hE i k h; omega
      · have := hN.closed k i hDk h; rw [hN.out] at this; simp at this
      · rw [hv] at h; simp at h
      · omega
    · rw [hsk.lo] at ha
      have := hmono i k (by omega) hik
      omega
/-- Among those in D and the next one, the next one is the last that touches what it touches. -/
theorem touches (hV : Sound E P V) (hr : RunAt E V ops (masksOf ops) recs σs τs vs) (hE : okEdges ops = true) (hK : okRecs (masksOf ops) recs = true) (hN : Next ops D i) {o : Oper} {r : Rec} (ho : ops[i]? = some o)
    (hs : StepAt E V ops (masksOf ops) recs σs τs vs i o r) {id : Nat} (ht : Touch recs i id) :
    hD (fun k => D k || Nat.beq k i) recs σs ops.length id = (σs (i + 1)).h.get id := by
  have hi : i < ops.length := by
    rcases Nat.lt_or_ge i ops.length with h | h
    · exact h
    · rw [List.getElem?_eq_none h] at ho; simp at ho
  have hmono := fun j m (hm : m ≤ ops.length) (hj : j ≤ m) => (chain hV hr m hm).2.2 j hj
  rw [hD_none (i + 1) ops.length (by omega) ?_]
  · unfold hD
    rw [if_pos ⟨by simp, ht⟩]
  · intro k hik hk hDk htk
    have hDk' : D k = true := by
      simp only [Bool.or_eq_true] at hDk
      rcases hDk with h | h
      · exact h
      · have := beqT h; omega
    obtain ⟨rk, hsk⟩ := hr k ops[k] (by simp [hk])
    obtain ⟨r', hr', htk⟩ := htk
    rw [hsk.at'] at hr'; simp only [Option.some.injEq] at hr'; subst hr'
    obtain ⟨r2, hr2, ht⟩ := ht
    rw [hs.at'] at hr2; simp only [Option.some.injEq] at hr2; subst hr2
    have bitD : Nat.testBit ((masksOf ops).getD k 0) i = true → False := fun h => by
      have := hN.closed k i hDk' h; rw [hN.out] at this; simp at this
    have bitI : Nat.testBit ((masksOf ops).getD i 0) k = true → False := fun h => by
      have := mask_lt hE i k h; omega
    have hhi : (σs i).next ≤ r.hi := by rw [hs.hi]; exact hmono i (i + 1) hi (by omega)
    rcases ht with ht | ⟨ha, hb⟩
    · obtain ⟨hv, hlt⟩ := wvis hV hs ht
      rcases htk with htk | ⟨hc, hd⟩
      · rcases okRecs_spec hK hsk.at' hs.at' htk (by omega) with h | h | h | h
        · exact bitI h
        · exact bitD h
        · rw [hv] at h; simp at h
        · omega
      · rw [hsk.lo] at hc
        have := hmono i k (by omega) (by omega)
        omega
    · -- made by the next one
      rcases htk with htk | ⟨hc, hd⟩
      · obtain ⟨hv, hlt⟩ := wvis hV hsk htk
        rcases hsk.run with ⟨_, hhid, _⟩ | ⟨_, _, _, hwr, _⟩
        · rw [hhid] at hv
          unfold hidAt at hv
          rw [hidden_append, hidden_append] at hv
          simp only [Bool.or_eq_false_iff] at hv
          cases hm : Nat.testBit ((masksOf ops).getD k 0) i with
          | true => exact bitD hm
          | false =>
            have : hidden id (hidFrom ((masksOf ops).getD k 0) 0 (recs.take k)) = true :=
              hidFrom_true.2 ⟨i, r, by rw [List.getElem?_take, if_pos (by omega)]; exact hs.at', by rw [Nat.zero_add]; exact hm, ha, hb⟩
            rw [this] at hv; simp at hv
        · rw [hwr] at htk; cases htk
      · rw [hsk.lo] at hc
        rw [hs.hi] at hb
        have := hmono (i + 1) k (by omega) (by omega)
        omega
end
end Go.Vai

/-
  Drawn regions: the temporaries in another order.
-/
namespace Go.Vai
open Go

section
variable {E : Env} {P : Program} {V : Ev} {ops : List Oper} {recs : List Rec} {σs : Nat → St} {τs : Nat → Tm} {vs : Nat → AV} {D : Nat → Bool} {i : Nat} {masks : List Nat}
theorem put_facts {k : Nat} {o : Oper} {r : Rec} (hs : StepAt E V ops masks recs σs τs vs k o r) : (τs (k + 1)).n = (τs k).n ∧ (τs (k + 1)).marks = (τs k).marks ∧ (∀ d, o.dst = some d → d < (τs k).n) ∧
    ∀ t, (τs (k + 1)).t.get t = if o.dst = some t then some (vs k) else (τs k).t.get t := by
  have h := hs.put
  cases hd : o.dst with
  | none =>
    rw [hd] at h
    simp only [Tm.put, Option.some.injEq] at h
    rw [← h]
    exact ⟨rfl, rfl, fun d e => by simp at e, fun t => by simp⟩
  | some d =>
    rw [hd] at h
    simp only [Tm.put] at h
    obtain ⟨h1, h2⟩ := condT h
    simp only [Option.some.injEq] at h2
    rw [← h2]
    refine ⟨rfl, rfl, fun d' e => by simp at e; subst e; exact bltT h1, fun t => ?_⟩
    simp only [Tm.set_eq, T.get_set', Option.some.injEq]
    by_cases e : t = d
    · subst e; simp
    · rw [if_neg e, if_neg (fun e' => e e'.symm)]
theorem tmeta (hr : RunAt E V ops masks recs σs τs vs) : ∀ m, m ≤ ops.length → (τs m).n = (τs 0).n ∧ (τs m).marks = (τs 0).marks
  | 0, _ => ⟨rfl, rfl⟩
  | m + 1, hm => by
    obtain ⟨a, b⟩ := tmeta hr m (by omega)
    obtain ⟨r, hs⟩ := hr m ops[m] (by simp)
    obtain ⟨h1, h2, _⟩ := put_facts hs
    exact ⟨h1.trans a, h2.trans b⟩
theorem tD_all (hr : RunAt E V ops masks recs σs τs vs) {t : Nat} : ∀ m, m ≤ ops.length → (∀ k o, k < m → ops[k]? = some o → o.dst = some t → D k = true) → (tD D ops (τs 0) vs m).t.get t = (τs m).t.get t
  | 0, _, _ => rfl
  | m + 1, hm, h => by
    have hlt : m < ops.length := by omega
    obtain ⟨r, hs⟩ := hr m ops[m] (by simp [hlt])
    obtain ⟨_, _, _, hg⟩ := put_facts hs
    rw [tD_get, hg, tD_all hr m (by omega) (fun k o hk => h k o (by omega))]
    by_cases e : ops[m].dst = some t
    · rw [if_pos e, if_pos ⟨h m ops[m] (by omega) (by simp [hlt]) e, ops[m], by simp [hlt], e⟩]
    · rw [if_neg e, if_neg]
      rintro ⟨_, o', ho', e'⟩
      rw [List.getElem?_eq_getElem hlt] at ho'
      simp only [Option.some.injEq] at ho'
      subst ho'
      exact e e'
theorem tD_none {τ : Tm} {t : Nat} (i : Nat) : ∀ m, i ≤ m → (∀ k o, i ≤ k → k < m → D k = true → ops[k]? = some o → o.dst ≠ some t) → (tD D ops τ vs m).t.get t = (tD D ops τ vs i).t.get t
  | 0, hi, _ => by have : i = 0 := by omega
                   subst this; rfl
  | m + 1, hi, h => by
    by_cases e : i = m + 1
    · subst e; rfl
    · rw [tD_get, if_neg, tD_none i m (by omega) (fun k o a b => h k o a (by omega))]
      rintro ⟨hD, o, ho, hd⟩
      exact h m o (by omega) (by omega) hD ho hd
theorem tD_congr {D' : Nat → Bool} {τ : Tm} {t : Nat} : ∀ m, (∀ k o, k < m → ops[k]? = some o → o.dst = some t → D k = D' k) → (tD D ops τ vs m).t.get t = (tD D' ops τ vs m).t.get t
  | 0, _ => rfl
  | m + 1, h => by
    rw [tD_get, tD_get, tD_congr m (fun k o hk => h k o (by omega))]
    by_cases e : ∃ o, ops[m]? = some o ∧ o.dst = some t
    · obtain ⟨o, ho, hd⟩ := e
      rw [h m o (by omega) ho hd]
    · rw [if_neg (fun x => e x.2), if_neg (fun x => e x.2)]
/-- What an operation looks at among the temporaries. -/
theorem looks (hr : RunAt E V ops (masksOf ops) recs σs τs vs) (hO : okOps ops (masksOf ops) = true) (hN : Next ops D i) {o : Oper} (ho : ops[i]? = some o) {t : Nat} (ht : t ∈ o.looksAt ops.toArray) :
    (tD D ops (τs 0) vs ops.length).t.get t = (τs i).t.get t := by
  have hi : i < ops.length := by
    rcases Nat.lt_or_ge i ops.length with h | h
    · exact h
    · rw [List.getElem?_eq_none h] at ho; simp at ho
  rw [tD_none i ops.length (by omega) ?_, tD_all hr i (by omega) ?_]
  · intro k ok hk hok hd
    cases hm : Nat.testBit ((masksOf ops).getD i 0) k with
    | true => exact hN.pred k hm
    | false => exact absurd ht ((Oper.apart_spec (okOps_spec hO hok ho hk hm)).1 t hd)
  · intro k ok hik hk hDk hok hd
    have hne : k ≠ i := by intro e; subst e; rw [hN.out] at hDk; simp at hDk
    cases hm : Nat.testBit ((masksOf ops).getD k 0) i with
    | true => have := hN.closed k i hDk hm; rw [hN.out] at this; simp at this
    | false => exact (Oper.apart_spec (okOps_spec hO ho hok (by omega) hm)).2.2 t hd ht
theorem looks_ev (hr : RunAt E V ops (masksOf ops) recs σs τs vs) (hO : okOps ops (masksOf ops) = true) (hN : Next ops D i) {o : Oper} (ho : ops[i]? = some o) :
    ∀ x ∈ o.op.operands, ev (tD D ops (τs 0) vs ops.length) x = ev (τs i) x := by
  intro x hx
  cases x with
  | tmp t =>
    simp only [ev, Tm.get]
    rw [looks hr hO hN ho]
    exact List.mem_append_left _ (List.mem_filterMap.2 ⟨.tmp t, by simpa using hx, rfl⟩)
  | _ => rfl
theorem looks_wanted (hr : RunAt E V ops (masksOf ops) recs σs τs vs) (hO : okOps ops (masksOf ops) = true) (hN : Next ops D i) {o : Oper} (ho : ops[i]? = some o) :
    wantedA ops (tD D ops (τs 0) vs ops.length) o = wantedA ops (τs i) o := by
  unfold wantedA
  cases hg : o.guard with
  | none => rfl
  | some g =>
    obtain ⟨j, b⟩ := g
    simp only []
    cases hj : ops[j]? with
    | none => rfl
    | some oj =>
      obtain ⟨dst, op, ty, pos, af, gd⟩ := oj
      cases dst with
      | none => rfl
      | some d =>
        simp only [Tm.get]
        rw [looks hr hO hN ho]
        refine List.mem_append_right _ ?_
        rw [hg]
        simp [hj]
/-- One operation more: its temporary. -/
theorem tD_more (hO : okOps ops (masksOf ops) = true) (hN : Next ops D i) {o : Oper} (ho : ops[i]? = some o) (t : Nat) :
    (tD (fun k => D k || Nat.beq k i) ops (τs 0) vs ops.length).t.get t = if o.dst = some t then some (vs i) else (tD D ops (τs 0) vs ops.length).t.get t := by
  have hi : i < ops.length := by
    rcases Nat.lt_or_ge i ops.length with h | h
    · exact h
    · rw [List.getElem?_eq_none h] at ho; simp at ho
  by_cases hd : o.dst = some t
  · rw [if_pos hd, tD_none (i + 1) ops.length (by omega) ?_, tD_get, if_pos ⟨by simp, o, ho, hd⟩]
    intro k ok hik hk hDk hok hdk
    have hDk' : D k = true := by
      simp only [Bool.or_eq_true] at hDk
      rcases hDk with h | h
      · exact h
      · have := beqT h; omega
    cases hm : Nat.testBit ((masksOf ops).getD k 0) i with
    | true => have := hN.closed k i hDk' hm; rw [hN.out] at this; simp at this
    | false => exact (Oper.apart_spec (okOps_spec hO ho hok (by omega) hm)).2.1 t hd hdk
  · rw [if_neg hd]
    refine tD_congr _ fun k ok hk hok hdk => ?_
    have hne : k ≠ i := by
      intro e; subst e
      rw [ho] at hok; simp only [Option.some.injEq] at hok; subst hok
      exact hd hdk
    have : Nat.beq k i = false := by
      cases hb : Nat.beq k i with
      | false => rfl
      | true => exact absurd (beqT hb) hne
    rw [this, Bool.or_false]
end
end Go.Vai

/-
  Drawn regions: the world behind one operation more.
-/
namespace Go.Vai
open Go

section
variable {E : Env} {B : Nat} {β β' : Map} {w w' : World} {look look1 look1' L : Look} {lo hi : Nat}
theorem HR.sub (h : HR E B β look w) (hs : ∀ id o, look1 id = some o → look id = some o) : HR E B β look1 w :=
  ⟨fun id o ho => h.obj id o (hs id o ho), fun id o g l ho e => h.own id o g l (hs id o ho) e, fun id o id' o' g g' l l' ho ho' => h.inj id o id' o' g g' l l' (hs id o ho) (hs id' o' ho'), h.gl, h.size, fun b o hb => ⟨(h.fz b o hb).1, fun id ob g l ho hg e => (h.fz b o hb).2 id ob g l (hs id ob ho) hg e⟩⟩
theorem HR.join (h : HR E B β look w) (h' : HR E B β' look1' w') (hS : Step β β' look1 lo hi w w') (sub : ∀ id o, look1 id = some o → look id = some o)
    (hL : ∀ id o, L id = some o → look1' id = some o ∨ (look id = some o ∧ look1 id = none ∧ ¬ (lo ≤ id ∧ id < hi)))
    (vis : ∀ id o, look1' id = some o → (∃ o', look1 id = some o') ∨ (lo ≤ id ∧ id < hi)) (hF : Fresh β lo hi) : HR E B β' L w' := by
  have old : ∀ id g l, look1 id = none → ¬ (lo ≤ id ∧ id < hi) → β' id g = some l → β id g = some l := by
    intro id g l h1 h2 e
    rcases hS.new id g l e with e | ⟨a, b, _⟩ | ⟨o, ho, _⟩
    · exact e
    · exact absurd ⟨a, b⟩ h2
    · rw [h1] at ho; simp at ho
  -- one that is seen, and one that is not
  have mixed : ∀ id id' o o' g g' l l', look1' id = some o → look id' = some o' → look1 id' = none → ¬ (lo ≤ id' ∧ id' < hi) → β' id g = some l → β' id' g' = some l' → l.b = l'.b → id = id' := by
    intro id id' o o' g g' l l' h1 h2 h3 h4 e e' eb
    have e0' := old id' g' l' h3 h4 e'
    have hown := (h.own id' o' g' l' h2 e0').2
    rcases hS.new id g l e with e | ⟨_, _, c⟩ | ⟨o1, ho1, c⟩
    · rcases vis id o h1 with ⟨o1, ho1⟩ | ⟨a, b⟩
      · exact h.inj id o1 id' o' g g' l l' (sub id o1 ho1) h2 e e0' eb
      · rw [hF id g a b] at e; simp at e
    · omega
    · rcases c with c | ⟨g0, l0, e0, eb0⟩
      · omega
      · exact h.inj id o1 id' o' g0 g' l0 l' (sub id o1 ho1) h2 e0 e0' (eb0.trans eb)
  refine ⟨?_, ?_, ?_, h'.gl, h'.size, ?_⟩
  · intro id o ho
    rcases hL id o ho with ho | ⟨ho, h1, h2⟩
    · exact h'.obj id o ho
    · refine (h.obj id o ho).mono hS.sub ?_ ?_
      · intro g hg
        cases e : β' id g with
        | none => rfl
        | some l => rw [old id g l h1 h2 e] at hg; simp at hg
      · intro g l e
        refine hS.keep l.b (h.own id o g l ho e).2 ?_
        intro id' o' g' l' ho' e' eb
        have := h.inj id' o' id o g' g l' l (sub id' o' ho') ho e' e eb
        subst this
        rw [h1] at ho'; simp at ho'
  · intro id o g l ho e
    rcases hL id o ho with ho | ⟨ho, h1, h2⟩
    · exact h'.own id o g l ho e
    · have := h.own id o g l ho (old id g l h1 h2 e)
      exact ⟨this.1, Nat.lt_of_lt_of_le this.2 hS.size⟩
  · intro id o id' o' g g' l l' ho ho' e e' eb
    rcases hL id o ho with ho | ⟨ho, h1, h2⟩
    · rcases hL id' o' ho' with ho' | ⟨ho', h1', h2'⟩
      · exact h'.inj id o id' o' g g' l l' ho ho' e e' eb
      · exact mixed id id' o o' g g' l l' ho ho' h1' h2' e e' eb
    · rcases hL id' o' ho' with ho' | ⟨ho', h1', h2'⟩
      · exact (mixed id' id o' o g' g l' l ho' ho h1 h2 e' e eb.symm).symm
      · exact h.inj id o id' o' g g' l l' ho ho' (old id g l h1 h2 e) (old id' g' l' h1' h2' e') eb
  · intro b o hb
    refine ⟨(h'.fz b o hb).1, ?_⟩
    intro id ob g l ho hng e
    rcases hL id ob ho with ho | ⟨ho, h1, h2⟩
    · exact (h'.fz b o hb).2 id ob g l ho hng e
    · have e0 := old id g l h1 h2 e
      intro eb
      rcases hS.fz b o hb with hb | hb | ⟨id1, ob1, g1, l1, ho1, e1, eb1⟩
      · exact (h.fz b o hb).2 id ob g l ho hng e0 eb
      · have := (h.own id ob g l ho e0).2; omega
      · have := h.inj id1 ob1 id ob g1 g l1 l (sub id1 ob1 ho1) ho e1 e0 (eb1.trans eb.symm)
        subst this
        rw [h1] at ho1; simp at ho1
theorem ObjR.some_loc {id : Nat} {o : AObj} (h : ObjR β w id o) : ∃ g l, β id g = some l := by
  cases o with
  | row gen mg cells =>
    obtain ⟨h1, _, _, _, h4⟩ := h
    obtain ⟨l, e, _⟩ := h4 gen h1 (Nat.le_refl _)
    exact ⟨gen, l, e⟩
  | map es clock => obtain ⟨l, e, _⟩ := h; exact ⟨0, l, e⟩
  | iter m since seen stepped => obtain ⟨l, e, _⟩ := h; exact ⟨0, l, e⟩
  | loop st pend t n ps asg body d => obtain ⟨l, e, _⟩ := h; exact ⟨0, l, e⟩
  | dfr taken => obtain ⟨l, e, _⟩ := h; exact ⟨0, l, e⟩
  | gone => exact h
  | set ks => obtain ⟨l, e, _⟩ := h; exact ⟨0, l, e⟩
end
section
variable {E : Env} {P : Program} {V : Ev} {ops : List Oper} {masks : List Nat} {recs : List Rec} {σs : Nat → St} {τs : Nat → Tm} {vs : Nat → AV}
theorem rvis {k : Nat} {o : Oper} {r : Rec} (h : StepAt E V ops masks recs σs τs vs k o r) (hpre : ∀ j r', j < k → recs[j]? = some r' → r'.hi ≤ (σs k).next) (hW : WF (σs k)) {id : Nat} (hid : (σs k).next ≤ id) :
    hidden id r.hid = false := by
  rcases h.run with ⟨_, hhid, _⟩ | ⟨_, _, _, _, hh⟩
  · rw [hhid]
    unfold hidAt
    rw [hidden_append, hidden_append, hW.vis id hid]
    have h1 : hidden id (footHid (τs k) o.op (σs k).next) = false := by
      unfold footHid
      cases foot (τs k) o.op with
      | none => rfl
      | some l => exact except1_vis _ _ hid l
    rw [h1]
    simp only [Bool.false_or, Bool.or_false]
    cases hx : hidden id (hidFrom (masks.getD k 0) 0 (recs.take k)) with
    | false => rfl
    | true =>
      obtain ⟨j, r', hj, _, _, hlt⟩ := hidFrom_true.1 hx
      rw [List.getElem?_take] at hj
      split at hj
      · rename_i hjk
        have := hpre j r' hjk hj
        omega
      · simp at hj
  · rw [hh]
    cases hx : hidden id [(0, (σs k).next)] with
    | false => rfl
    | true =>
      rw [hidden_cons] at hx
      rcases hx with hx | hx
      · omega
      · simp [hidden] at hx
theorem rsub {k : Nat} {o : Oper} {r : Rec} (h : StepAt E V ops masks recs σs τs vs k o r) {id : Nat} (hlt : id < (σs k).next) (hv : hidden id r.hid = false) : hidden id (σs k).hid = false := by
  rcases h.run with ⟨_, hhid, _⟩ | ⟨_, _, _, _, hh⟩
  · rw [hhid] at hv
    unfold hidAt at hv
    rw [hidden_append, hidden_append] at hv
    simp only [Bool.or_eq_false_iff] at hv
    exact hv.2.2
  · rw [hh] at hv
    have : hidden id [(0, (σs k).next)] = true := by rw [hidden_cons]; exact .inl ⟨by omega, hlt⟩
    rw [this] at hv; simp at hv
end
end Go.Vai

/-
  Drawn regions: one operation more, in whatever order.
-/
namespace Go.Vai
open Go

noncomputable def lookD (D : Nat → Bool) (recs : List Rec) (σs : Nat → St) (n : Nat) : Look := fun id => cond (hidden id (σs 0).hid) none (hD D recs σs n id)
structure DInv (E : Env) (B : Nat) (β0 : Map) (w0 : World) (ops : List Oper) (recs : List Rec) (σs : Nat → St) (τ0 : Tm) (vs : Nat → AV) (D : Nat → Bool) (β : Map) (a : Act) (w : World) : Prop where
  hr : HR E B β (lookD D recs σs ops.length) w
  st : Step β0 β (σs 0).look (σs 0).next (σs ops.length).next w0 w
  tm : TmpR β (tD D ops τ0 vs ops.length).t τ0.n a.tmps
  mks : MarksR β τ0.marks a.defers
  fr : ∀ id g l, β id g = some l → (σs 0).next ≤ id → id < (σs ops.length).next → ∃ k r, D k = true ∧ recs[k]? = some r ∧ r.lo ≤ id ∧ id < r.hi
section
variable {E : Env} {P : Program} {V : Ev} {B : Nat} {β0 β : Map} {w0 w : World} {ops : List Oper} {recs : List Rec} {σs : Nat → St} {τs : Nat → Tm} {vs : Nat → AV} {D : Nat → Bool} {i : Nat} {a : Act}
theorem tmp_more (hO : okOps ops (masksOf ops) = true) (hr : RunAt E V ops (masksOf ops) recs σs τs vs) (hN : Next ops D i) {o : Oper} (ho : ops[i]? = some o) {u : Value} (hv : VR β (vs i) u)
    (ht : TmpR β (tD D ops (τs 0) vs ops.length).t (τs 0).n a.tmps) : TmpR β (tD (fun k => D k || Nat.beq k i) ops (τs 0) vs ops.length).t (τs 0).n (a.put o.dst u).tmps := by
  have hi : i < ops.length := by
    rcases Nat.lt_or_ge i ops.length with h | h
    · exact h
    · rw [List.getElem?_eq_none h] at ho; simp at ho
  obtain ⟨r, hs⟩ := hr i o ho
  obtain ⟨_, _, hdn, _⟩ := put_facts hs
  have hn0 := (tmeta hr i (by omega)).1
  have hnD := (tD_meta (D := D) (ops := ops) (vs := vs) (τ := τs 0) ops.length).1
  have hput : ∃ τ'', (tD D ops (τs 0) vs ops.length).put o.dst (vs i) = some τ'' ∧ ∀ t, τ''.t.get t = if o.dst = some t then some (vs i) else (tD D ops (τs 0) vs ops.length).t.get t := by
    cases hd : o.dst with
    | none => exact ⟨_, rfl, fun t => by simp⟩
    | some d =>
      have hlt := hdn d hd
      refine ⟨(tD D ops (τs 0) vs ops.length).set d (vs i), ?_, fun t => ?_⟩
      · simp only [Tm.put]
        have : Nat.blt d (tD D ops (τs 0) vs ops.length).n = true := by
          rw [hnD, ← hn0]; simpa using hlt
        rw [this]; rfl
      · simp only [Tm.set_eq, T.get_set', Option.some.injEq]
        by_cases e : t = d
        · subst e; simp
        · rw [if_neg e, if_neg (fun e' => e e'.symm)]
  obtain ⟨τ'', h1, h2⟩ := hput
  have h3 := (put_ok h1 hv (by rw [hnD]; exact ht)).1
  have hn'' : τ''.n = (τs 0).n := by
    have := h3.1
    have h4 := ht.1
    have : (a.put o.dst u).tmps.size = a.tmps.size := by cases o.dst <;> simp [Act.put]
    omega
  obtain ⟨g1, g2, g3⟩ := h3
  have hget : ∀ t, (tD (fun k => D k || Nat.beq k i) ops (τs 0) vs ops.length).t.get t = τ''.t.get t := fun t => by rw [tD_more hO hN ho, h2]
  refine ⟨by rw [g1, hn''], fun t ht' => by rw [hget]; exact g2 t (by omega), fun t ht' => by rw [hget]; exact g3 t (by omega)⟩
theorem inv_skip (hO : okOps ops (masksOf ops) = true) (hr : RunAt E V ops (masksOf ops) recs σs τs vs) (hN : Next ops D i) {o : Oper} {r : Rec} (ho : ops[i]? = some o)
    (hs : StepAt E V ops (masksOf ops) recs σs τs vs i o r) (hw : wantedA ops (τs i) o = some false) (hI : DInv E B β0 w0 ops recs σs (τs 0) vs D β a w) :
    DInv E B β0 w0 ops recs σs (τs 0) vs (fun k => D k || Nat.beq k i) β (a.put o.dst undef) w := by
  rcases hs.run with ⟨hw', _⟩ | ⟨_, hv, hsucc, hwr, _⟩
  · rw [hw] at hw'; simp at hw'
  · have hnt : ∀ id, ¬ Touch recs i id := by
      rintro id ⟨r', hr', h⟩
      rw [hs.at'] at hr'; simp only [Option.some.injEq] at hr'; subst hr'
      rcases h with h | ⟨h1, h2⟩
      · rw [hwr] at h; cases h
      · rw [hs.lo] at h1; rw [hs.hi, hsucc] at h2; omega
    have hl : lookD (fun k => D k || Nat.beq k i) recs σs ops.length = lookD D recs σs ops.length := by
      funext id
      unfold lookD
      rw [hD_congr (D := fun k => D k || Nat.beq k i) (D' := D) ops.length]
      intro k _ ht
      have hne : k ≠ i := fun e => hnt id (e ▸ ht)
      have : Nat.beq k i = false := by
        cases hb : Nat.beq k i with
        | false => rfl
        | true => exact absurd (beqT hb) hne
      rw [this, Bool.or_false]
    refine ⟨by rw [hl]; exact hI.hr, hI.st, tmp_more hO hr hN ho (by rw [hv]; simp [VR]) hI.tm, ?_, ?_⟩
    · have : (a.put o.dst undef).defers = a.defers := by cases o.dst <;> rfl
      rw [this]; exact hI.mks
    · intro id g l e h1 h2
      obtain ⟨k, r', hk, hrest⟩ := hI.fr id g l e h1 h2
      exact ⟨k, r', by simp [hk], hrest⟩
end
end Go.Vai

/-
  Drawn regions: one operation more that is wanted.
-/
namespace Go.Vai
open Go

section
variable {E : Env} {P : Program} {V : Ev} {B : Nat} {β0 β : Map} {w0 w : World} {ops : List Oper} {recs : List Rec} {σs : Nat → St} {τs : Nat → Tm} {vs : Nat → AV} {D : Nat → Bool} {i : Nat} {a : Act}
theorem inv_step (hE : EnvOk E P) (hV : Sound E P V) (hr : RunAt E V ops (masksOf ops) recs σs τs vs) (hW0 : WF (σs 0)) (hEd : okEdges ops = true) (hO : okOps ops (masksOf ops) = true) (hK : okRecs (masksOf ops) recs = true)
    (hN : Next ops D i) {o : Oper} {r : Rec} (ho : ops[i]? = some o) (hs : StepAt E V ops (masksOf ops) recs σs τs vs i o r) (hw : wantedA ops (τs i) o = some true) (hF0 : Fresh β0 (σs 0).next (σs ops.length).next)
    (hI : DInv E B β0 w0 ops recs σs (τs 0) vs D β a w) {F : Fence} {n : Nat} {Q : Exit → Act → World → Prop} {K : Act → World → Prop} (hOp : Open F)
    (hQ : ∀ β' a' w', DInv E B β0 w0 ops recs σs (τs 0) vs (fun k => D k || Nat.beq k i) β' a' w' → K a' w') : o.wpIn F n P a w K Q := by
  have hi : i < ops.length := by
    rcases Nat.lt_or_ge i ops.length with h | h
    · exact h
    · rw [List.getElem?_eq_none h] at ho; simp at ho
  have hmono := fun j m (hm : m ≤ ops.length) (hj : j ≤ m) => (chain hV hr m hm).2.2 j hj
  obtain ⟨ti, hpre, _⟩ := chain hV hr i (by omega)
  have hpre' := fun j r' (hj : j < i) hr' => (hpre j r' hj hr').1
  have hWi := ti.wf hW0
  obtain ⟨t1, _⟩ := step_facts hV hs hpre'
  obtain ⟨σ1, hop, hsucc⟩ : ∃ σ1, oper E V (τs i) o { σs i with hid := r.hid, log := [] } = some (vs i, σ1) ∧ σs (i + 1) = { σ1 with hid := (σs i).hid, log := σ1.log ++ (σs i).log } := by
    rcases hs.run with ⟨_, _, σ1, hop, hsucc, _⟩ | ⟨hw', _⟩
    · exact ⟨σ1, hop, hsucc⟩
    · rw [hw] at hw'; simp at hw'
  have tO := oper_tr hV hop
  have hWs : WF { σs i with hid := r.hid, log := [] } := ⟨hWi.none, fun id hid => rvis hs hpre' hWi hid⟩
  have hW1 := tO.wf hWs
  have hn1 : σ1.next = (σs (i + 1)).next := by rw [hsucc]
  have hhi1 : (σs (i + 1)).next ≤ (σs ops.length).next := hmono (i + 1) ops.length (Nat.le_refl _) hi
  have h0i : (σs 0).next ≤ (σs i).next := ti.next
  -- what it sees
  have sub : ∀ id ob, ({ σs i with hid := r.hid, log := [] } : St).look id = some ob → lookD D recs σs ops.length id = some ob := by
    intro id ob hl
    obtain ⟨hv, hg⟩ := look_some hl
    have hlt : id < (σs i).next := look_lt hWs hl
    unfold lookD
    rw [sees hV hr hW0 hEd hK hN ho hs hlt hv]
    have h1 := rsub hs hlt hv
    rw [ti.hid] at h1
    rw [h1]
    exact hg
  have hF : Fresh β (σs i).next σ1.next := by
    intro id g h1 h2
    cases e : β id g with
    | none => rfl
    | some l =>
      exfalso
      obtain ⟨k, rk, hk, hrk, ha, hb⟩ := hI.fr id g l e (by omega) (by omega)
      have hki : k < ops.length := hN.dom k hk
      obtain ⟨rk', hsk⟩ := hr k ops[k] (by simp [hki])
      have := hsk.at'
      rw [hrk] at this; simp only [Option.some.injEq] at this; subst this
      rw [hsk.lo] at ha; rw [hsk.hi] at hb
      rcases Nat.lt_trichotomy k i with h | h | h
      · have := hmono (k + 1) i (by omega) (by omega); omega
      · subst h; rw [hN.out] at hk; simp at hk
      · have := hmono (i + 1) k (by omega) (by omega); omega
  have hop' : oper E V (tD D ops (τs 0) vs ops.length) o { σs i with hid := r.hid, log := [] } = some (vs i, σ1) := by
    rw [oper_congr (looks_ev hr hO hN ho)]; exact hop
  have hnD := (tD_meta (D := D) (ops := ops) (vs := vs) (τ := τs 0) ops.length).1
  refine oper_ok hE hV hop' hOp (hI.hr.sub sub) hWs hF (by rw [hnD]; exact hI.tm) ?_
  intro β' u w' hv hR' hS
  refine hQ β' _ w' ⟨?_, ?_, ?_, ?_, ?_⟩
  · -- the heap
    refine hI.hr.join hR' hS sub ?_ ?_ hF
    · intro id ob hl
      have hh1 : (σs (i + 1)).h.get id = σ1.h.get id := by rw [hsucc]
      have hlook1 : ∀ ob, σ1.h.get id = some ob → hidden id r.hid = false → σ1.look id = some ob := by
        intro ob h1 h2
        unfold St.look
        rw [tO.hid]
        show cond (hidden id r.hid) none _ = _
        rw [h2]; exact h1
      unfold lookD at hl
      cases hvis : hidden id (σs 0).hid with
      | true => rw [hvis] at hl; simp at hl
      | false =>
        rw [hvis] at hl
        simp only [cond_false] at hl
        by_cases ht : Touch recs i id
        · rw [touches hV hr hEd hK hN ho hs ht, hh1] at hl
          refine .inl (hlook1 ob hl ?_)
          obtain ⟨r2, hr2, ht⟩ := ht
          rw [hs.at'] at hr2; simp only [Option.some.injEq] at hr2; subst hr2
          rcases ht with ht | ⟨h1, _⟩
          · exact (wvis hV hs ht).1
          · rw [hs.lo] at h1; exact rvis hs hpre' hWi h1
        · have hc : hD (fun k => D k || Nat.beq k i) recs σs ops.length id = hD D recs σs ops.length id := by
            refine hD_congr ops.length fun k _ htk => ?_
            have hne : k ≠ i := fun e => ht (e ▸ htk)
            have : Nat.beq k i = false := by
              cases hb : Nat.beq k i with
              | false => rfl
              | true => exact absurd (beqT hb) hne
            rw [this, Bool.or_false]
          rw [hc] at hl
          have hlD : lookD D recs σs ops.length id = some ob := by unfold lookD; rw [hvis]; exact hl
          cases hsee : ({ σs i with hid := r.hid, log := [] } : St).look id with
          | none =>
            refine .inr ⟨hlD, rfl, fun ⟨h1, h2⟩ => ht ⟨r, hs.at', .inr ⟨by rw [hs.lo]; exact h1, by rw [hs.hi, ← hn1]; exact h2⟩⟩⟩
          | some o2 =>
            have e := sub id o2 hsee
            rw [hlD] at e; simp only [Option.some.injEq] at e; subst e
            obtain ⟨hv2, hg2⟩ := look_some hsee
            refine .inl (hlook1 ob ?_ hv2)
            rw [← hh1, untouched hV hr hW0 hi ht]
            exact hg2
    · intro id ob hl
      exact (tO.lookdom id ob hl).imp (fun x => x) fun ⟨x, y⟩ => ⟨x, y hWs⟩
  · refine hI.st.trans' hS (by exact h0i) (by omega) hF0 ?_
    intro id ob hl
    obtain ⟨hv', hg⟩ := look_some hl
    have hlt : id < (σs i).next := look_lt hWs hl
    have hl' : (σs i).look id = some ob := by
      unfold St.look
      rw [rsub hs hlt hv']
      exact hg
    rcases ti.lookdom id ob hl' with h | ⟨x, _⟩
    · exact .inl h
    · exact .inr ⟨x, Nat.lt_of_lt_of_le hlt (hmono i ops.length (Nat.le_refl _) (by omega))⟩
  · exact tmp_more hO hr hN ho hv (hI.tm.mono hS.sub)
  · have : (a.put o.dst u).defers = a.defers := by cases o.dst <;> rfl
    rw [this]; exact hI.mks.mono hS.sub
  · intro id g l e h1 h2
    rcases hS.new id g l e with e | ⟨x, y, _⟩ | ⟨ob, hob, _⟩
    · obtain ⟨k, rk, hk, hrest⟩ := hI.fr id g l e h1 h2
      exact ⟨k, rk, by simp [hk], hrest⟩
    · exact ⟨i, r, by simp, hs.at', by rw [hs.lo]; exact x, by rw [hs.hi, ← hn1]; exact y⟩
    · obtain ⟨g', l', e'⟩ := (hI.hr.obj id ob (sub id ob hob)).some_loc
      obtain ⟨k, rk, hk, hrest⟩ := hI.fr id g' l' e' h1 h2
      exact ⟨k, rk, by simp [hk], hrest⟩
end
end Go.Vai

/-
  Drawn regions: every order.
-/
namespace Go.Vai
open Go

def cnt (D : Nat → Bool) : Nat → Nat
  | 0 => 0
  | m + 1 => cnt D m + cond (D m) 1 0
theorem cnt_le (D : Nat → Bool) : ∀ m, cnt D m ≤ m
  | 0 => Nat.le_refl _
  | m + 1 => by
    have := cnt_le D m
    unfold cnt
    cases D m <;> simp <;> omega
theorem cnt_full {D : Nat → Bool} : ∀ m, m ≤ cnt D m → ∀ k, k < m → D k = true
  | 0, _, k, hk => by omega
  | m + 1, h, k, hk => by
    have h1 := cnt_le D m
    unfold cnt at h
    cases hD : D m with
    | false => rw [hD] at h; simp at h; omega
    | true =>
      rw [hD] at h
      simp at h
      by_cases e : k = m
      · subst e; exact hD
      · exact cnt_full m h k (by omega)
theorem cnt_more {D : Nat → Bool} {i : Nat} (hi : D i = false) : ∀ m, cnt (fun k => D k || Nat.beq k i) m = cnt D m + (if i < m then 1 else 0)
  | 0 => by simp [cnt]
  | m + 1 => by
    have ih := cnt_more hi m
    unfold cnt
    rw [ih]
    by_cases e : m = i
    · subst e
      simp [hi]
    · have hb : Nat.beq m i = false := by
        cases h : Nat.beq m i with
        | false => rfl
        | true => exact absurd (beqT h) e
      rw [hb, Bool.or_false]
      by_cases hl : i < m
      · rw [if_pos hl, if_pos (by omega)]; omega
      · rw [if_neg hl, if_neg (by omega)]; rfl
section
variable {E : Env} {P : Program} {V : Ev} {B : Nat} {β0 : Map} {w0 : World} {ops : List Oper} {recs : List Rec} {σs : Nat → St} {τs : Nat → Tm} {vs : Nat → AV}
theorem any_ok (hE : EnvOk E P) (hV : Sound E P V) (hr : RunAt E V ops (masksOf ops) recs σs τs vs) (hW0 : WF (σs 0)) (hEd : okEdges ops = true) (hO : okOps ops (masksOf ops) = true) (hK : okRecs (masksOf ops) recs = true)
    (hF0 : Fresh β0 (σs 0).next (σs ops.length).next) {F : Fence} {n : Nat} {Q : Exit → Act → World → Prop} (hOp : Open F)
    (hQ : ∀ D β a w, (∀ k, k < ops.length → D k = true) → DInv E B β0 w0 ops recs σs (τs 0) vs D β a w → Q .normal a w) :
    ∀ (fuel : Nat) (listed : Array Bool) (β : Map) (a : Act) (w : World), listed.size = ops.length → ops.length ≤ fuel + cnt (fun k => listed.getD k false) ops.length →
      (∀ k o, ops[k]? = some o → listed.getD k false = true → ∀ e ∈ o.after, Region.binds .any e = true → listed.getD e.on false = true) →
      DInv E B β0 w0 ops recs σs (τs 0) vs (fun k => listed.getD k false) β a w → wpAnyIn F n P .any ops.toArray Q fuel listed a w := by
  intro fuel
  have eqD : ∀ (listed : Array Bool) k, k < listed.size → listed.getD k true = listed.getD k false := by
    intro listed k hk
    simp [Array.getD_eq_getD_getElem?, hk]
  induction fuel with
  | zero =>
    intro listed β a w hsz hc hcl hI
    have hall : ∀ k, k < ops.length → listed.getD k false = true := cnt_full ops.length (by omega)
    refine ⟨?_, hQ _ β a w hall hI⟩
    cases hrd : Region.ready .any ops.toArray listed with
    | nil => rfl
    | cons i l =>
      have hm : i ∈ Region.ready .any ops.toArray listed := by rw [hrd]; simp
      obtain ⟨h1, o, ho, _⟩ := mem_ready.1 hm
      have hi : i < ops.length := by
        rw [List.getElem?_toArray] at ho
        exact (List.getElem?_eq_some_iff.1 ho).1
      rw [eqD listed i (by omega), hall i hi] at h1
      simp at h1
  | succ fuel ih =>
    intro listed β a w hsz hc hcl hI
    refine ⟨fun hrd => ?_, fun i hi => ?_⟩
    · refine hQ _ β a w ?_ hI
      intro k
      induction k using Nat.strongRecOn with
      | _ k ihk =>
        intro hk
        cases hD : listed.getD k false with
        | true => rfl
        | false =>
          exfalso
          have hmem : k ∈ Region.ready .any ops.toArray listed := by
            refine mem_ready.2 ⟨by rw [eqD listed k (by omega)]; exact hD, ops[k], by simp [hk], ?_⟩
            intro e he hb
            unfold okEdges at hEd
            rw [List.all_eq_true] at hEd
            have h1 := hEd (ops[k], k) (by rw [List.mem_zipIdx_iff_getElem?]; simp [hk])
            rw [List.all_eq_true] at h1
            have h2 := h1 e (by simpa using he)
            simp only [hb, Bool.not_true, Bool.false_or] at h2
            have hlt := bltT h2
            exact ihk e.on hlt (by omega)
          rw [hrd] at hmem
          cases hmem
    · obtain ⟨h1, o, ho, hedge⟩ := mem_ready.1 hi
      have ho' : ops[i]? = some o := by simpa using ho
      have hil : i < ops.length := (List.getElem?_eq_some_iff.1 ho').1
      have hDi : listed.getD i false = false := by rw [← eqD listed i (by omega)]; exact h1
      have hN : Next ops (fun k => listed.getD k false) i :=
        ⟨hDi, fun k hk => by
            rcases Nat.lt_or_ge k ops.length with h | h
            · exact h
            · simp [Array.getD_eq_getD_getElem?, Array.getElem?_eq_none (by omega : listed.size ≤ k)] at hk,
          fun j hj => mask_ready hEd (D := fun k => listed.getD k false = true) hcl ho' hedge hj,
          fun k j hk hj => mask_closed hEd (D := fun k => listed.getD k false = true) hcl k j hk hj⟩
      have hset : (fun k => (listed.setIfInBounds i true).getD k false) = fun k => listed.getD k false || Nat.beq k i := by
        funext k
        rw [Array.getD_eq_getD_getElem?, Array.getD_eq_getD_getElem?]
        by_cases e : k = i
        · subst e
          rw [Array.getElem?_setIfInBounds_self_of_lt (by omega)]
          simp
        · rw [Array.getElem?_setIfInBounds_ne (by omega)]
          have : Nat.beq k i = false := by
            cases hb : Nat.beq k i with
            | false => rfl
            | true => exact absurd (beqT hb) e
          rw [this, Bool.or_false]
      have hnext : ∀ β' a' w', DInv E B β0 w0 ops recs σs (τs 0) vs (fun k => listed.getD k false || Nat.beq k i) β' a' w' → wpAnyIn F n P .any ops.toArray Q fuel (listed.setIfInBounds i true) a' w' := by
        intro β' a' w' hI'
        refine ih (listed.setIfInBounds i true) β' a' w' (by simp [hsz]) ?_ ?_ (by rw [hset]; exact hI')
        · rw [hset, cnt_more hDi, if_pos hil]; omega
        · intro k ok hok hk e he hb
          have hs2 := congrFun hset
          rw [hs2] at hk ⊢
          simp only [Bool.or_eq_true] at hk ⊢
          rcases hk with hk | hk
          · exact .inl (hcl k ok hok hk e he hb)
          · have := beqT hk
            subst this
            rw [ho'] at hok; simp only [Option.some.injEq] at hok; subst hok
            exact .inl (hedge e he hb)
      obtain ⟨r, hs⟩ := hr i o ho'
      have hwant : wantedA ops (tD (fun k => listed.getD k false) ops (τs 0) vs ops.length) o = wantedA ops (τs i) o := looks_wanted hr hO hN ho'
      have hnD := (tD_meta (D := fun k => listed.getD k false) (ops := ops) (vs := vs) (τ := τs 0) ops.length).1
      unfold wpOpIn
      rw [ho]
      simp only []
      rcases hs.run with ⟨hw, _⟩ | ⟨hw, _⟩
      · rw [wanted_ok (hwant.trans hw) (by rw [hnD]; exact hI.tm)]
        simp only [if_true]
        exact inv_step hE hV hr hW0 hEd hO hK hN ho' hs hw hF0 hI hOp hnext
      · rw [wanted_ok (hwant.trans hw) (by rw [hnD]; exact hI.tm)]
        simp only [Bool.false_eq_true, if_false]
        exact ⟨fun f _ => hOp.1 f, hnext β _ w (inv_skip hO hr hN ho' hs hw hI)⟩
theorem draw_ok (hE : EnvOk E P) : DrawOk E P := by
  intro V hV rd id ops τ σ τ' σ' h
  unfold draw at h
  simp only at h
  obtain ⟨h1, h2⟩ := condT h
  simp only [Bool.and_eq_true] at h1
  obtain ⟨hEd, hO⟩ := h1
  split at h2
  · rename_i recs τ1 σ1 hd
    obtain ⟨hK, h3⟩ := condT h2
    simp only [Option.some.injEq, Prod.mk.injEq] at h3
    obtain ⟨rfl, rfl⟩ := h3
    obtain ⟨σs, τs, vs, e1, e2, e3, e4, _, hr0⟩ := drawFrom_run E V ops.toList (masksOf ops.toList) ops.toList 0 [] τ σ recs τ1 σ1 (by simp) (Nat.zero_le _) rfl hd
    have hr : RunAt E V ops.toList (masksOf ops.toList) recs σs τs vs := fun k o ho => hr0 k o (Nat.zero_le _) ho
    have ht := (chain hV hr ops.toList.length (Nat.le_refl _)).1
    rw [e1, e3] at ht
    refine ⟨ht, fun B β w a F n Q hOp hrd hR hW hF hfr hQ => wpIn_region_any hE.mixed ?_⟩
    subst e1; subst e2; subst e3; subst e4
    have hops : ops.toList.toArray = ops := by simp
    have hempty : ∀ m, hD (fun k => (Array.replicate ops.size false).getD k false) recs σs m = fun id => (σs 0).h.get id := by
      intro m
      funext id
      have := hD_none (D := fun k => (Array.replicate ops.size false).getD k false) (recs := recs) (σs := σs) (id := id) 0 m (Nat.zero_le _) (by
        intro k _ _ hk
        simp [Array.getD_eq_getD_getElem?, Array.getElem?_replicate] at hk
        split at hk <;> simp at hk)
      rw [this]; rfl
    have hk0 : ∀ k, (Array.replicate ops.size false).getD k false = false := by
      intro k
      rw [Array.getD_eq_getD_getElem?, Array.getElem?_replicate]
      split <;> rfl
    have hl0 : lookD (fun k => (Array.replicate ops.size false).getD k false) recs σs ops.toList.length = (σs 0).look := by
      funext id
      unfold lookD
      rw [hempty]
      rfl
    have hstart : DInv E B β w ops.toList recs σs (τs 0) vs (fun k => (Array.replicate ops.size false).getD k false) β a { w with drawn := w.drawn + 1 } := by
      refine ⟨?_, ⟨Sub.refl _, fun _ _ _ e => .inl e, rfl, rfl, rfl, Nat.le_refl _, fun _ _ _ => rfl, fun _ _ h => .inl h⟩, ?_, hfr.2, ?_⟩
      · rw [hl0]
        exact ⟨fun id o ho => (hR.obj id o ho).mono (Sub.refl _) (fun g e => e) (fun g l _ => rfl), hR.own, hR.inj, hR.gl, hR.size, hR.fz⟩
      · obtain ⟨g1, g2, g3⟩ := hfr.1
        have hg : ∀ t, (tD (fun k => (Array.replicate ops.size false).getD k false) ops.toList (τs 0) vs ops.toList.length).t.get t = (τs 0).t.get t := fun t => by
          rw [tD_none 0 ops.toList.length (Nat.zero_le _) (fun k o _ _ hk => by rw [hk0 k] at hk; simp at hk)]
          rfl
        exact ⟨g1, fun t ht' => by rw [hg]; exact g2 t ht', fun t ht' => by rw [hg]; exact g3 t ht'⟩
      · intro id g l e h1 h2
        rw [hF id g h1 h2] at e; simp at e
    have key := any_ok (n := n) (Q := Q) hE hV hr hW hEd hO hK hF hOp (fun D β' a' w' hall hI => by
      refine hQ β' w' a' ?_ hI.st ⟨?_, ?_⟩
      · have : lookD D recs σs ops.toList.length = (σs ops.toList.length).look := by
          funext id
          unfold lookD St.look
          rw [hD_all hV hr hW ops.toList.length (Nat.le_refl _) (fun k hk _ => hall k hk), ht.hid]
        rw [← this]; exact hI.hr
      · obtain ⟨g1, g2, g3⟩ := hI.tm
        have hn := (tmeta hr ops.toList.length (Nat.le_refl _)).1
        have hg : ∀ t, (tD D ops.toList (τs 0) vs ops.toList.length).t.get t = (τs ops.toList.length).t.get t := fun t => tD_all hr _ (Nat.le_refl _) (fun k o hk _ _ => hall k hk)
        exact ⟨by rw [g1, hn], fun t ht' => by rw [← hg]; exact g2 t (by omega), fun t ht' => by rw [← hg]; exact g3 t (by omega)⟩
      · rw [(tmeta hr ops.toList.length (Nat.le_refl _)).2]; exact hI.mks) ops.size (Array.replicate ops.size false) β a { w with drawn := w.drawn + 1 } (by simp) (by simp) (fun k o _ hk => by rw [hk0 k] at hk; simp at hk) hstart
    rw [hops] at key
    exact key
  · simp at h2
end
end Go.Vai

/-
  A closed run of the abstract machine: what the program's function does in every world.
-/
namespace Go.Vai
open Go

theorem closed_ok {E : Env} {P : Program} (hE : EnvOk E P) {n : Nat} {f : FuncId} {v : AV} {σ : St} (h : run E n f = some (v, σ)) {w : World}
    (hgl : ∀ g cs, E.gl.get g = some cs → g < w.heap.size ∧ ∀ (i : Nat) v, cs[i]? = some v → w.cell? ⟨g, i, none⟩ = some v) :
    Calls P f #[] w fun e w' => ∃ β u, e = .returned u ∧ VR β v u ∧ w'.os = w.os ∧ w'.tape = w.tape ∧ w'.output = w.output ∧ w.heap.size ≤ w'.heap.size ∧ ∀ b, b < w.heap.size → w'.heap[b]? = w.heap[b]? := by
  obtain ⟨_, _, hc⟩ := (at_sound hE (draw_ok hE) n).call f [] _ v σ h
  have hR : HR E w.heap.size ⟨fun _ _ => none, fun _ => none⟩ (⟨.leaf, 0, [], []⟩ : St).look w := by
    refine ⟨?_, ?_, ?_, hgl, Nat.le_refl _, fun b o hb => by cases hb⟩
    · intro id o ho; simp [St.look, hidden, T.get] at ho
    · intro id o g l ho; simp [St.look, hidden, T.get] at ho
    · intro id o id' o' g g' l l' ho; simp [St.look, hidden, T.get] at ho
  have hW : WF ⟨.leaf, 0, [], []⟩ := ⟨fun id _ => rfl, fun id _ => rfl⟩
  have hOp : Open Fence.wide := ⟨fun _ => trivial, rfl⟩
  have := callsIn_wide.1 (hc w.heap.size ⟨fun _ _ => none, fun _ => none⟩ w [] Fence.wide 0 hOp hR hW (fun _ _ _ _ => rfl) (by simp [VRs]))
  refine Calls.mono this ?_
  rintro e w' ⟨β, u, rfl, hv, _, hS⟩
  exact ⟨β, u, rfl, hv, hS.os, hS.tape, hS.output, hS.size, fun b hb => hS.keep b hb fun id o g l ho => by simp [St.look, hidden, T.get] at ho⟩
end Go.Vai

/-
  All entries of a trie.
-/
namespace Go.Vai
open Go

def T.All {α : Type} : (Nat → α → Prop) → T α → Prop
  | _, .leaf => True
  | p, .node v l r => (∀ x, v = some x → p 0 x) ∧ T.All (fun j x => p (2 * j + 1) x) l ∧ T.All (fun j x => p (2 * j + 2) x) r
theorem T.all_get {α : Type} : ∀ (t : T α) (p : Nat → α → Prop) (i : Nat) (x : α), T.All p t → t.get i = some x → p i x
  | .leaf, _, _, _, _, h => by simp [T.get] at h
  | .node v l r, p, i, x, ha, h => by
    obtain ⟨h0, h1, h2⟩ := ha
    rw [T.get_node] at h
    by_cases hi : i = 0
    · rw [if_pos hi] at h
      subst hi
      exact h0 x h
    · rw [if_neg hi] at h
      by_cases hm : i % 2 = 1
      · rw [if_pos hm] at h
        have := T.all_get l _ (i / 2) x h1 h
        have e : 2 * (i / 2) + 1 = i := by omega
        simpa only [e] using this
      · rw [if_neg hm] at h
        have := T.all_get r _ ((i - 1) / 2) x h2 h
        have e : 2 * ((i - 1) / 2) + 2 = i := by omega
        simpa only [e] using this
end Go.Vai
namespace Go.Vai
theorem T.one {α : Type} {p : α → Prop} {y : α} (h : p y) : ∀ x, some y = some x → p x := fun x e => by cases e; exact h
theorem T.zero {α : Type} {p : α → Prop} : ∀ x : α, (none : Option α) = some x → p x := fun x e => by cases e
end Go.Vai

/-
  The machine once more, in a form that the kernel carries out in fewer steps: tries by paths, operands, cells, loading and storing, sums. Each is shown to be the machine's own.
-/
namespace Go.Vai
open Go

/-! ### Tries by paths -/
noncomputable def path (f : Nat) : Nat → List Bool :=
  Nat.rec (motive := fun _ => Nat → List Bool) (fun _ => []) (fun _ ih i => Nat.rec (motive := fun _ => List Bool) [] (fun k _ => (Nat.beq (k % 2) 1) :: (ih (k / 2))) i) f
noncomputable def pathOf (i : Nat) : List Bool := path (Nat.succ i) i
section
variable {α : Type}
noncomputable def leftOf (t : T α) : T α := T.rec (motive := fun _ => T α) .leaf (fun _ l _ _ _ => l) t
noncomputable def rightOf (t : T α) : T α := T.rec (motive := fun _ => T α) .leaf (fun _ _ r _ _ => r) t
noncomputable def valOf (t : T α) : Option α := T.rec (motive := fun _ => Option α) none (fun v _ _ _ _ => v) t
noncomputable def getP (p : List Bool) : T α → Option α :=
  List.rec (motive := fun _ => T α → Option α) valOf (fun b _ ih t => Bool.rec (motive := fun _ => Option α) (ih (leftOf t)) (ih (rightOf t)) b) p
noncomputable def setP (p : List Bool) : T α → α → T α :=
  List.rec (motive := fun _ => T α → α → T α) (fun t x => T.rec (motive := fun _ => α → T α) (fun x => .node (some x) .leaf .leaf) (fun _ l r _ _ x => .node (some x) l r) t x)
    (fun b _ ih t x => Bool.rec (motive := fun _ => T α) (.node (valOf t) (ih (leftOf t) x) (rightOf t)) (.node (valOf t) (leftOf t) (ih (rightOf t) x)) b) p
theorem getP_leaf : ∀ (p : List Bool), getP p (T.leaf : T α) = none
  | [] => rfl
  | b :: p => by cases b <;> exact getP_leaf p
theorem getP_path : ∀ (f i : Nat) (t : T α), i < f → getP (path f i) t = t.get i
  | 0, i, t, h => by omega
  | f + 1, 0, t, _ => by cases t <;> rfl
  | f + 1, k + 1, t, h => by
    cases t with
    | leaf => exact getP_leaf _
    | node v l r =>
      show (Bool.rec (getP (path f (k / 2)) l) (getP (path f (k / 2)) r) (Nat.beq (k % 2) 1) : Option α) = Bool.rec (l.get (k / 2)) (r.get (k / 2)) (Nat.beq (k % 2) 1)
      rw [getP_path f (k / 2) l (by omega), getP_path f (k / 2) r (by omega)]
theorem setP_path : ∀ (f f' i : Nat) (t : T α) (x : α), i < f → i < f' → setP (path f i) t x = T.set f' t i x
  | 0, _, _, _, _, h, _ => by omega
  | f + 1, f', 0, t, x, _, h' => by
    cases t with
    | leaf =>
      cases f' with
      | zero => omega
      | succ g => rfl
    | node v l r => rfl
  | f + 1, f', k + 1, t, x, h, h' => by
    cases t with
    | leaf =>
      cases f' with
      | zero => omega
      | succ g =>
        show (Bool.rec (.node none (setP (path f (k / 2)) .leaf x) .leaf) (.node none .leaf (setP (path f (k / 2)) .leaf x)) (Nat.beq (k % 2) 1) : T α) =
          Bool.rec (.node none (T.single g (k / 2) x) .leaf) (.node none .leaf (T.single g (k / 2) x)) (Nat.beq (k % 2) 1)
        rw [setP_path f g (k / 2) .leaf x (by omega) (by omega)]
        rfl
    | node v l r =>
      show (Bool.rec (.node v (setP (path f (k / 2)) l x) r) (.node v l (setP (path f (k / 2)) r x)) (Nat.beq (k % 2) 1) : T α) =
        Bool.rec (.node v (T.set f' l (k / 2) x) r) (.node v l (T.set f' r (k / 2) x)) (Nat.beq (k % 2) 1)
      rw [setP_path f f' (k / 2) l x (by omega) (by omega), setP_path f f' (k / 2) r x (by omega) (by omega)]
theorem getP_eq (t : T α) (i : Nat) : getP (pathOf i) t = t.get i := getP_path _ _ _ (Nat.lt_succ_self _)
theorem setP_eq (t : T α) (i : Nat) (x : α) : setP (pathOf i) t x = T.set (i + 1) t i x := setP_path _ _ _ _ _ (Nat.lt_succ_self _) (Nat.lt_succ_self _)
end

/-! ### Operands and temporaries -/
noncomputable def getT (τ : Tm) (i : Nat) : AV := Option.rec (motive := fun _ => AV) (.sc undef) (fun v => v) (getP (pathOf i) (Tm.t τ))
theorem getT_eq (τ : Tm) (i : Nat) : getT τ i = τ.get i := by
  unfold getT Tm.get
  rw [getP_eq]
  cases τ.t.get i <;> rfl
noncomputable def evF (τ : Tm) (x : Operand) : AV :=
  Operand.rec (motive := fun _ => AV) (fun i => getT τ i) (fun v => .sc v) (fun g => .sc (.pointer (some ⟨g, 0, none⟩))) (fun f => .sc (.func (.func f) #[] #[])) x
theorem evF_eq (τ : Tm) (x : Operand) : evF τ x = ev τ x := by
  cases x with
  | tmp i => exact getT_eq τ i
  | _ => rfl
theorem evF_eq' : evF = ev := funext fun τ => funext fun x => evF_eq τ x

def R2 := Option (Tm × St)
noncomputable def putK (τ : Tm) (dst : Option Tmp) (v : AV) (k : Tm → R2) : R2 :=
  Option.rec (motive := fun _ => R2) (k τ) (fun d => Tm.rec (motive := fun _ => R2) (fun t n marks => Bool.rec (motive := fun _ => R2) none (k ⟨setP (pathOf d) t v, n, marks⟩) (Nat.ble (Nat.succ d) n)) τ) dst
theorem putK_eq (τ : Tm) (dst : Option Tmp) (v : AV) (k : Tm → R2) : putK τ dst v k = match τ.put dst v with | some τ' => k τ' | none => none := by
  cases dst with
  | none => rfl
  | some d =>
    cases τ with
    | mk t n marks =>
      show (Bool.rec none (k ⟨setP (pathOf d) t v, n, marks⟩) (Nat.ble (Nat.succ d) n) : R2) = _
      rw [setP_eq]
      simp only [Tm.put, Nat.blt]
      cases Nat.ble (Nat.succ d) n <;> rfl

/-! ### Objects -/
noncomputable def hiddenF (id : Nat) (l : List (Nat × Nat)) : Bool :=
  List.rec (motive := fun _ => Bool) false (fun p _ ih => Prod.rec (motive := fun _ => Bool) (fun a b => Bool.rec (motive := fun _ => Bool) ih (Bool.rec (motive := fun _ => Bool) ih true (Nat.ble (Nat.succ id) b)) (Nat.ble a id)) p) l
theorem hiddenF_eq (id : Nat) : ∀ l, hiddenF id l = hidden id l
  | [] => rfl
  | (a, b) :: l => by
    show (Bool.rec (hiddenF id l) (Bool.rec (hiddenF id l) true (Nat.ble (Nat.succ id) b)) (Nat.ble a id) : Bool) = _
    rw [hiddenF_eq id l]
    simp only [hidden, Nat.blt]
    cases Nat.ble a id <;> cases Nat.ble (Nat.succ id) b <;> rfl
noncomputable def lookF (σ : St) (id : Nat) : Option AObj :=
  St.rec (motive := fun _ => Option AObj) (fun h _ hid _ => Bool.rec (motive := fun _ => Option AObj) (T.get h id) none (hiddenF id hid)) σ
theorem lookF_eq (σ : St) (id : Nat) : lookF σ id = σ.look id := by
  cases σ with
  | mk h next hid log =>
    show (Bool.rec (T.get h id) none (hiddenF id hid) : Option AObj) = _
    rw [hiddenF_eq]
    unfold St.look
    cases hidden id hid <;> rfl
noncomputable def rowK {β : Type} (σ : St) (id : Nat) (k : Nat → Nat → List AV → Option β) : Option β :=
  Option.rec (motive := fun _ => Option β) none (fun o => match o with | .row gen mg cells => k gen mg cells | _ => none) (lookF σ id)
/-- Is the list so long? -/
noncomputable def longF (l : List AV) : Nat → Bool :=
  List.rec (motive := fun _ => Nat → Bool) (fun n => Nat.beq n 0) (fun _ _ ih n => Nat.rec (motive := fun _ => Bool) true (fun m _ => ih m) n) l
theorem longF_eq : ∀ (l : List AV) (n : Nat), longF l n = Nat.ble n l.length
  | [], 0 => rfl
  | [], _ + 1 => rfl
  | _ :: _, 0 => rfl
  | _ :: l, n + 1 => longF_eq l n
noncomputable def dropF (n : Nat) : List AV → List AV :=
  Nat.rec (motive := fun _ => List AV → List AV) (fun l => l) (fun _ ih l => List.rec (motive := fun _ => List AV) [] (fun _ l' _ => ih l') l) n
theorem dropF_eq : ∀ (n : Nat) (l : List AV), dropF n l = l.drop n
  | 0, _ => rfl
  | _ + 1, [] => rfl
  | n + 1, _ :: l => dropF_eq n l
noncomputable def nthF (n : Nat) : List AV → Option AV :=
  Nat.rec (motive := fun _ => List AV → Option AV) (fun l => List.rec (motive := fun _ => Option AV) none (fun x _ _ => some x) l) (fun _ ih l => List.rec (motive := fun _ => Option AV) none (fun _ l' _ => ih l') l) n
theorem nthF_eq : ∀ (n : Nat) (l : List AV), nthF n l = l[n]?
  | 0, [] => rfl
  | 0, _ :: _ => rfl
  | _ + 1, [] => rfl
  | n + 1, _ :: l => nthF_eq n l
/-- So many from the front, if there are so many. -/
noncomputable def takeF (k : Nat) : List AV → (List AV → Option (AV × St)) → Option (AV × St) :=
  Nat.rec (motive := fun _ => List AV → (List AV → Option (AV × St)) → Option (AV × St)) (fun _ c => c []) (fun _ ih l c => List.rec (motive := fun _ => Option (AV × St)) none (fun x l' _ => ih l' fun r => c (x :: r)) l) k
theorem takeF_eq : ∀ (k : Nat) (l : List AV) (c : List AV → Option (AV × St)), takeF k l c = cond (Nat.ble k l.length) (c (l.take k)) none
  | 0, l, c => by cases l <;> rfl
  | k + 1, [], c => rfl
  | k + 1, x :: l, c => takeF_eq k l fun r => c (x :: r)

/-! ### Loading and storing -/
def R1 := Option (AV × St)
noncomputable def loadCells (ty : ATy) (off k : Nat) (cells : List AV) (σ : St) : R1 :=
  Bool.rec (motive := fun _ => R1) (Nat.rec (motive := fun _ => R1) none (fun _ _ => Option.rec (motive := fun _ => R1) none (fun v => some (v, σ)) (nthF off cells)) k)
    (Bool.rec (motive := fun _ => R1) none (Nat.rec (motive := fun _ => R1) ((parts? cells off 0).map fun l => (.agg l, σ)) (fun m _ => takeF (Nat.succ m) (dropF off cells) fun l => some (.agg l, σ)) (ATy.size ty)) (Nat.ble (ATy.size ty) k)) (ATy.agg ty)
theorem loadCells_eq (ty : ATy) (off k : Nat) (cells : List AV) (σ : St) : loadCells ty off k cells σ =
    cond ty.agg (cond (Nat.ble ty.size k) ((parts? cells off ty.size).map fun l => (.agg l, σ)) none) (cond (Nat.blt 0 k) ((cells[off]?).map fun v => (v, σ)) none) := by
  unfold loadCells
  cases ty.agg with
  | false =>
    cases k with
    | zero => rfl
    | succ k =>
      show (Option.rec none (fun v => some (v, σ)) (nthF off cells) : R1) = (cells[off]?).map fun v => (v, σ)
      rw [nthF_eq]
      cases cells[off]? <;> rfl
  | true =>
    cases Nat.ble ty.size k with
    | false => rfl
    | true =>
      cases hs : ty.size with
      | zero => rfl
      | succ m =>
        show takeF (m + 1) (dropF off cells) (fun l => some (.agg l, σ)) = (parts? cells off (m + 1)).map fun l => (.agg l, σ)
        rw [takeF_eq, dropF_eq]
        unfold parts?
        have : Nat.ble (m + 1) (cells.drop off).length = Nat.ble (off + (m + 1)) cells.length := by
          rw [Bool.eq_iff_iff]; simp; omega
        rw [this]
        cases Nat.ble (off + (m + 1)) cells.length <;> rfl
noncomputable def loadRow (ty : ATy) (g off k : Nat) (o : AObj) (σ : St) : R1 :=
  match o with
  | .row gen mg cells => Bool.rec (motive := fun _ => R1) none (Bool.rec (motive := fun _ => R1) none (loadCells ty off k cells σ) (Nat.ble g gen)) (Nat.ble mg g)
  | _ => none
noncomputable def loadF (E : Env) (t : TypeId) (a : AV) (σ : St) : R1 :=
  match a with
  | .ptr id g off k => Option.rec (motive := fun _ => R1) none (fun ty => Option.rec (motive := fun _ => R1) none (fun o => loadRow ty g off k o σ) (lookF σ id)) (T.get (Env.ty E) t)
  | a => aLoad E t a σ
theorem loadF_eq (E : Env) (t : TypeId) (a : AV) (σ : St) : loadF E t a σ = aLoad E t a σ := by
  unfold loadF
  cases a with
  | ptr id g off k =>
    simp only [aLoad, lookF_eq]
    cases E.ty.get t with
    | none =>
      cases σ.look id with
      | none => rfl
      | some o =>
        cases o with
        | row gen mg cells =>
          dsimp only
          cases (Nat.ble mg g && Nat.ble g gen) <;> rfl
        | _ => rfl
    | some ty =>
      cases σ.look id with
      | none => rfl
      | some o =>
        cases o with
        | row gen mg cells =>
          show (Bool.rec none (Bool.rec none (loadCells ty off k cells σ) (Nat.ble g gen)) (Nat.ble mg g) : R1) = _
          rw [loadCells_eq]
          dsimp only
          cases Nat.ble mg g <;> cases Nat.ble g gen <;> rfl
        | _ => rfl
  | _ => rfl
/-- One cell is replaced. -/
noncomputable def setN (off : Nat) (v : AV) : List AV → (List AV → R1) → R1 :=
  Nat.rec (motive := fun _ => List AV → (List AV → R1) → R1) (fun l c => List.rec (motive := fun _ => R1) none (fun _ l' _ => c (v :: l')) l)
    (fun _ ih l c => List.rec (motive := fun _ => R1) none (fun x l' _ => ih l' fun r => c (x :: r)) l) off
theorem setN_eq : ∀ (off : Nat) (v : AV) (l : List AV) (c : List AV → R1), setN off v l c = cond (Nat.ble (off + 1) l.length) (c (over l off [v])) none
  | 0, v, [], c => rfl
  | 0, v, x :: l, c => by
    have : Nat.ble (0 + 1) (x :: l).length = true := by simp
    rw [this]; rfl
  | off + 1, v, [], c => rfl
  | off + 1, v, x :: l, c => by
    show setN off v l (fun r => c (x :: r)) = _
    rw [setN_eq off v l]
    have : Nat.ble (off + 1 + 1) (x :: l).length = Nat.ble (off + 1) l.length := by
      rw [Bool.eq_iff_iff]; simp
    rw [this]
    cases Nat.ble (off + 1) l.length with
    | false => rfl
    | true => simp [over]
noncomputable def storeOne (ty : ATy) (id gen off k : Nat) (v : AV) (cells : List AV) (σ : St) : R1 :=
  Bool.rec (motive := fun _ => R1) none (Nat.rec (motive := fun _ => R1) none (fun _ _ => setN off v cells fun l => some (.sc undef, σ.put id (.row gen gen l))) k) (Nat.beq (ATy.size ty) 1)
noncomputable def storeMany (ty : ATy) (id gen off k : Nat) (v : AV) (cells : List AV) (σ : St) : R1 :=
  cond (Nat.beq (cellsOf v).length ty.size && Nat.ble ty.size k && Nat.ble (off + ty.size) cells.length && (cellsOf v).all isCell)
    (some (.sc undef, σ.put id (.row gen gen (over cells off (cellsOf v))))) none
noncomputable def storeRow (ty : ATy) (g id off k : Nat) (v : AV) (o : AObj) (σ : St) : R1 :=
  match o with
  | .row gen _ cells => Bool.rec (motive := fun _ => R1) none (Bool.rec (motive := fun _ => R1) (storeMany ty id gen off k v cells σ) (storeOne ty id gen off k v cells σ) (isCell v)) (Nat.beq g gen)
  | _ => none
theorem cellsOf_cell {v : AV} (h : isCell v = true) : cellsOf v = [v] := by
  unfold cellsOf
  split
  · simp [isCell] at h
  · simp [isCell] at h
  · rfl
theorem storeOne_eq (ty : ATy) (id gen off k : Nat) (v : AV) (cells : List AV) (σ : St) (h : isCell v = true) : storeOne ty id gen off k v cells σ = storeMany ty id gen off k v cells σ := by
  unfold storeOne storeMany
  rw [cellsOf_cell h]
  have h1 : ([v] : List AV).all isCell = true := by simp [h]
  have h2 : Nat.beq ([v] : List AV).length ty.size = Nat.beq ty.size 1 := by
    rw [Bool.eq_iff_iff]; simp; omega
  rw [h1, h2]
  cases hs : Nat.beq ty.size 1 with
  | false => rfl
  | true =>
    have hs' : ty.size = 1 := by simpa using hs
    rw [hs']
    cases k with
    | zero => rfl
    | succ k =>
      refine (setN_eq off v cells fun l => some (.sc undef, σ.put id (.row gen gen l))).trans ?_
      have h3 : Nat.ble 1 (k + 1) = true := by simp
      rw [h3]
      cases Nat.ble (off + 1) cells.length <;> rfl
noncomputable def storeF (E : Env) (t : TypeId) (a v : AV) (σ : St) : R1 :=
  match a with
  | .ptr id g off k => Option.rec (motive := fun _ => R1) none (fun ty => Option.rec (motive := fun _ => R1) none (fun o => storeRow ty g id off k v o σ) (lookF σ id)) (T.get (Env.ty E) t)
  | a => aStore E t a v σ
theorem storeF_eq (E : Env) (t : TypeId) (a v : AV) (σ : St) : storeF E t a v σ = aStore E t a v σ := by
  unfold storeF
  cases a with
  | ptr id g off k =>
    simp only [aStore, lookF_eq]
    cases E.ty.get t with
    | none =>
      cases σ.look id with
      | none => rfl
      | some o =>
        cases o with
        | row gen mg cells =>
          dsimp only
          cases Nat.beq g gen <;> rfl
        | _ => rfl
    | some ty =>
      cases σ.look id with
      | none => rfl
      | some o =>
        cases o with
        | row gen mg cells =>
          show (Bool.rec none (Bool.rec (storeMany ty id gen off k v cells σ) (storeOne ty id gen off k v cells σ) (isCell v)) (Nat.beq g gen) : R1) = _
          dsimp only
          cases Nat.beq g gen with
          | false => rfl
          | true =>
            cases hc : isCell v with
            | false => rfl
            | true => exact storeOne_eq _ _ _ _ _ _ _ _ hc
        | _ => rfl
  | _ => rfl

/-! ### Places of fields and elements -/
noncomputable def fieldInfo (E : Env) (t : TypeId) (f : Nat) : Option (Nat × Nat) :=
  match E.ty.get t with
  | some { d := .struct fs, .. } => match fs[f]? with
    | some (fo, ft, _) => match E.ty.get ft with
      | some fty => cond (Nat.blt 0 fty.size) (some (fo, fty.size)) none
      | none => none
    | none => none
  | _ => none
noncomputable def fieldAddrF (E : Env) (t : TypeId) (a : AV) (f : Nat) (σ : St) : R1 :=
  match a with
  | .ptr id g off k => Option.rec (motive := fun _ => R1) none (fun p => Prod.rec (motive := fun _ => R1) (fun fo sz => Bool.rec (motive := fun _ => R1) none (some (.ptr id g (Nat.add off fo) sz, σ)) (Nat.ble (Nat.add fo sz) k)) p) (fieldInfo E t f)
  | x => (aFieldAddr E t x f).map fun v => (v, σ)
theorem fieldAddrF_eq (E : Env) (t : TypeId) (a : AV) (f : Nat) (σ : St) : fieldAddrF E t a f σ = (aFieldAddr E t a f).map fun v => (v, σ) := by
  unfold fieldAddrF
  cases a with
  | ptr id g off k =>
    unfold aFieldAddr
    simp only [fieldInfo]
    cases E.ty.get t with
    | none => rfl
    | some ty =>
      obtain ⟨a1, a2, a3, a4, d, a5⟩ := ty
      cases d with
      | struct fs =>
        simp only
        cases fs[f]? with
        | none => rfl
        | some p =>
          obtain ⟨fo, ft, x⟩ := p
          simp only
          cases E.ty.get ft with
          | none => rfl
          | some fty =>
            simp only
            cases Nat.blt 0 fty.size with
            | false => rfl
            | true =>
              show (Bool.rec none (some (AV.ptr id g (Nat.add off fo) fty.size, σ)) (Nat.ble (Nat.add fo fty.size) k) : R1) = (cond (true && Nat.ble (fo + fty.size) k) (some (AV.ptr id g (off + fo) fty.size)) none).map _
              cases h : Nat.ble (fo + fty.size) k with
              | false => rfl
              | true => rfl
      | _ => rfl
  | _ => rfl

/-! ### Sums -/
noncomputable def wrapMax (k : IntKind) : Nat := IntKind.rec (motive := fun _ => Nat) 127 32767 2147483647 9223372036854775807 255 65535 4294967295 18446744073709551615 k
noncomputable def wrapF (k : IntKind) (n : Int) : Int :=
  Int.rec (motive := fun _ => Int) (fun m => Bool.rec (motive := fun _ => Int) (k.wrap (Int.ofNat m)) (Int.ofNat m) (Nat.ble m (wrapMax k))) (fun m => k.wrap (Int.negSucc m)) n
theorem wrapF_eq (k : IntKind) (n : Int) : wrapF k n = k.wrap n := by
  cases n with
  | negSucc m => rfl
  | ofNat m =>
    show (Bool.rec (k.wrap (Int.ofNat m)) (Int.ofNat m) (Nat.ble m (wrapMax k)) : Int) = _
    cases h : Nat.ble m (wrapMax k) with
    | false => rfl
    | true =>
      have h' : m ≤ wrapMax k := Nat.le_of_ble_eq_true h
      suffices hw : k.wrap (m : Int) = (m : Int) from hw.symm
      cases k with
      | i8 => have : m ≤ 127 := h'; exact IntWalk.i8_in _ ⟨by omega, by omega⟩
      | i16 => have : m ≤ 32767 := h'; exact IntWalk.i16_in _ ⟨by omega, by omega⟩
      | i32 => have : m ≤ 2147483647 := h'; exact IntWalk.i32_in _ ⟨by omega, by omega⟩
      | i64 => have : m ≤ 9223372036854775807 := h'; exact IntWalk.i64_in _ ⟨by omega, by omega⟩
      | u8 => have : m ≤ 255 := h'; exact IntWalk.u8_in _ ⟨by omega, by omega⟩
      | u16 => have : m ≤ 65535 := h'; exact IntWalk.u16_in _ ⟨by omega, by omega⟩
      | u32 => have : m ≤ 4294967295 := h'; exact IntWalk.u32_in _ ⟨by omega, by omega⟩
      | u64 => have : m ≤ 18446744073709551615 := h'; exact IntWalk.u64_in _ ⟨by omega, by omega⟩
noncomputable def addF (a b : Int) : Int := Int.rec (motive := fun _ => Int) (fun m => Int.rec (motive := fun _ => Int) (fun n => Int.ofNat (Nat.add m n)) (fun n => Int.ofNat m + Int.negSucc n) b) (fun m => Int.negSucc m + b) a
theorem addF_eq (a b : Int) : addF a b = a + b := by cases a <;> cases b <;> rfl
noncomputable def ltF (a b : Int) : Bool := Int.rec (motive := fun _ => Bool) (fun m => Int.rec (motive := fun _ => Bool) (fun n => Nat.ble (Nat.succ m) n) (fun n => decide (Int.ofNat m < Int.negSucc n)) b) (fun m => decide (Int.negSucc m < b)) a
theorem ltF_eq (a b : Int) : ltF a b = decide (a < b) := by
  cases a with
  | negSucc m => rfl
  | ofNat m =>
    cases b with
    | negSucc n => rfl
    | ofNat n =>
      show Nat.ble (Nat.succ m) n = _
      rw [Bool.eq_iff_iff]; simp; omega
noncomputable def leF (a b : Int) : Bool := Int.rec (motive := fun _ => Bool) (fun m => Int.rec (motive := fun _ => Bool) (fun n => Nat.ble m n) (fun n => decide (Int.ofNat m ≤ Int.negSucc n)) b) (fun m => decide (Int.negSucc m ≤ b)) a
theorem leF_eq (a b : Int) : leF a b = decide (a ≤ b) := by
  cases a with
  | negSucc m => rfl
  | ofNat m =>
    cases b with
    | negSucc n => rfl
    | ofNat n =>
      show Nat.ble m n = _
      rw [Bool.eq_iff_iff]; simp
noncomputable def eqF (a b : Int) : Bool := Int.rec (motive := fun _ => Bool) (fun m => Int.rec (motive := fun _ => Bool) (fun n => Nat.beq m n) (fun n => Int.ofNat m == Int.negSucc n) b) (fun m => Int.negSucc m == b) a
theorem eqF_eq (a b : Int) : eqF a b = (a == b) := by
  cases a with
  | negSucc m => rfl
  | ofNat m =>
    cases b with
    | negSucc n => rfl
    | ofNat n =>
      show Nat.beq m n = _
      rw [Bool.eq_iff_iff]; simp; omega
noncomputable def notF (b : Bool) : Bool := Bool.rec (motive := fun _ => Bool) true false b
theorem notF_eq (b : Bool) : notF b = !b := by cases b <;> rfl
noncomputable def intF (σ : St) (op : BinOp) (k : IntKind) (a b : Int) (slow : R1) : R1 :=
  BinOp.rec (motive := fun _ => St → IntKind → Int → Int → R1 → R1)
    (add := fun σ k a b _ => some (.sc (.int k (wrapF k (addF a b))), σ))
    (sub := fun σ k a b _ => some (.sc (.int k (wrapF k (a - b))), σ))
    (mul := fun _ _ _ _ slow => slow) (quo := fun _ _ _ _ slow => slow) (rem := fun _ _ _ _ slow => slow) (and := fun _ _ _ _ slow => slow) (or := fun _ _ _ _ slow => slow)
    (xor := fun _ _ _ _ slow => slow) (shl := fun _ _ _ _ slow => slow) (shr := fun _ _ _ _ slow => slow) (andNot := fun _ _ _ _ slow => slow)
    (eql := fun σ _ a b _ => some (.sc (.bool (eqF a b)), σ))
    (neq := fun σ _ a b _ => some (.sc (.bool (notF (eqF a b))), σ))
    (lss := fun σ _ a b _ => some (.sc (.bool (ltF a b)), σ))
    (leq := fun σ _ a b _ => some (.sc (.bool (leF a b)), σ))
    (gtr := fun σ _ a b _ => some (.sc (.bool (ltF b a)), σ))
    (geq := fun σ _ a b _ => some (.sc (.bool (leF b a)), σ))
    op σ k a b slow
noncomputable def binF (E : Env) (σ : St) (o : BinOp) (t : TypeId) (x y : AV) : R1 :=
  match x, y with
  | .sc (.int k a), .sc (.int k' b) => Bool.rec (motive := fun _ => R1) ((aBin E σ o t (.sc (.int k a)) (.sc (.int k' b))).map fun v => (v, σ))
      (intF σ o k a b ((aBin E σ o t (.sc (.int k a)) (.sc (.int k' b))).map fun v => (v, σ))) (decide (k = k'))
  | x, y => (aBin E σ o t x y).map fun v => (v, σ)
theorem binF_int (E : Env) (σ : St) (o : BinOp) (t : TypeId) (k : IntKind) (a : Int) (k' : IntKind) (b : Int) : binF E σ o t (.sc (.int k a)) (.sc (.int k' b)) = (aBin E σ o t (.sc (.int k a)) (.sc (.int k' b))).map fun v => (v, σ) := by
    unfold binF
    dsimp only
    cases hd : decide (k = k') with
    | false => rfl
    | true =>
      show intF σ o k a b ((aBin E σ o t (.sc (.int k a)) (.sc (.int k' b))).map fun v => (v, σ)) = _
      cases o with
      | add =>
        show some (AV.sc (.int k (wrapF k (addF a b))), σ) = ((cond (decide (k = k')) ((intBin .add k a b).map AV.sc) none).map fun v => (v, σ))
        rw [hd, wrapF_eq, addF_eq]
        rfl
      | sub =>
        show some (AV.sc (.int k (wrapF k (a - b))), σ) = ((cond (decide (k = k')) ((intBin .sub k a b).map AV.sc) none).map fun v => (v, σ))
        rw [hd, wrapF_eq]
        rfl
      | eql =>
        show some (AV.sc (.bool (eqF a b)), σ) = ((cond (decide (k = k')) ((intBin .eql k a b).map AV.sc) none).map fun v => (v, σ))
        rw [hd, eqF_eq]
        rfl
      | neq =>
        show some (AV.sc (.bool (notF (eqF a b))), σ) = ((cond (decide (k = k')) ((intBin .neq k a b).map AV.sc) none).map fun v => (v, σ))
        rw [hd, eqF_eq, notF_eq]
        rfl
      | lss =>
        show some (AV.sc (.bool (ltF a b)), σ) = ((cond (decide (k = k')) ((intBin .lss k a b).map AV.sc) none).map fun v => (v, σ))
        rw [hd, ltF_eq]
        rfl
      | leq =>
        show some (AV.sc (.bool (leF a b)), σ) = ((cond (decide (k = k')) ((intBin .leq k a b).map AV.sc) none).map fun v => (v, σ))
        rw [hd, leF_eq]
        rfl
      | gtr =>
        show some (AV.sc (.bool (ltF b a)), σ) = ((cond (decide (k = k')) ((intBin .gtr k a b).map AV.sc) none).map fun v => (v, σ))
        rw [hd, ltF_eq]
        rfl
      | geq =>
        show some (AV.sc (.bool (leF b a)), σ) = ((cond (decide (k = k')) ((intBin .geq k a b).map AV.sc) none).map fun v => (v, σ))
        rw [hd, leF_eq]
        rfl
      | _ => rfl
theorem binF_eq (E : Env) (σ : St) (o : BinOp) (t : TypeId) (x y : AV) : binF E σ o t x y = (aBin E σ o t x y).map fun v => (v, σ) := by
  cases x with
  | sc v =>
    cases v with
    | int k a =>
      cases y with
      | sc u =>
        cases u with
        | int k' b => exact binF_int _ _ _ _ _ _ _ _
        | _ => rfl
      | _ => rfl
    | _ => rfl
  | _ => rfl
end Go.Vai
