/-
  Rounds; ranges over functions.
-/
import Derived.Test.YtkjmlnegmmlfdaaGreatDoorVaiX
namespace Go.Vai
open Go

section
variable {E : Env} {P : Program} {V : Ev} {B : Nat} {β : Map} {σ : St} {w : World}
theorem setParams_ok {n : Nat} : ∀ (ps : List Tmp) (args : List AV) (t t' : T AV) (us : List Value) (tmps : Array Value), setParams n t ps args = some t' → VRs β args us → TmpR β t n tmps →
    us.length = ps.length ∧ TmpR β t' n ((ps.zip us).foldl (fun tmps (p : Tmp × Value) => tmps.setIfInBounds p.1 p.2) tmps)
  | [], [], t, t', us, tmps, h, hu, ht => by
    simp only [setParams, Option.some.injEq] at h; subst h
    simp only [VRs] at hu; subst hu
    exact ⟨rfl, by simpa using ht⟩
  | p :: ps, v :: vs, t, t', us, tmps, h, hu, ht => by
    simp only [setParams] at h
    obtain ⟨h1, h2⟩ := condT h
    simp only [VRs] at hu
    obtain ⟨u, us', rfl, hv, hus⟩ := hu
    have h3 := put_ok (τ := ⟨t, n, []⟩) (a := ⟨tmps, []⟩) (dst := some p) (v := v) (u := u) (τ' := ⟨t.set (p + 1) p v, n, []⟩) (by simp [Tm.put, h1, Tm.set]) hv ht
    obtain ⟨e, r⟩ := setParams_ok ps vs _ t' us' (tmps.setIfInBounds p u) h2 hus h3.1
    exact ⟨by simp [e], by simpa using r⟩
  | [], _ :: _, _, _, _, _, h, _, _ => by simp [setParams] at h
  | _ :: _, [], _, _, _, _, h, _, _ => by simp [setParams] at h
theorem run_getLoop {l : Nat} {r : Loop} (h : w.heap[l]? = some (.loop r)) : (Instr.getLoop l).run P w = .ok r w := by simp [Instr.getLoop, getObj, Sem.run, h]
theorem loop_at (hR : HR E B β σ.look w) {id : Nat} {st : LoopState} {pend : Option Code} {tt : T AV} {n : Nat} {ps : List Nat} {asg body : Code} {d : Nat} (h : σ.look id = some (.loop st pend tt n ps asg body d)) {l : Loc} (hl : β id 0 = some l) :
    ∃ r : Loop, w.heap[l.b]? = some (.loop r) ∧ r.state = st ∧ r.pending = pend ∧ r.params.toList = ps ∧ r.assign = asg ∧ r.body = body ∧ TmpR β tt n r.tmps ∧ (∃ ld, β d 0 = some ld ∧ r.defers = ld.b) ∧ l.b < w.heap.size := by
  obtain ⟨l', hl', r, h1, h2, h3, h4, h5, h6, h7, h8⟩ := hR.obj id _ h
  rw [hl] at hl'; simp only [Option.some.injEq] at hl'; subst hl'
  exact ⟨r, h1, h2, h3, h4, h5, h6, h7, h8, (hR.own id _ 0 l h hl).2⟩
/-- A loop's record turned. -/
theorem loop_put (hR : HR E B β σ.look w) {id : Nat} {st : LoopState} {pend : Option Code} {tt : T AV} {n : Nat} {ps : List Nat} {asg body : Code} {d : Nat} (h : σ.look id = some (.loop st pend tt n ps asg body d)) {l : Loc} (hl : β id 0 = some l)
    {r : Loop} (hr : w.heap[l.b]? = some (.loop r)) (st' : LoopState) (pend' : Option Code) :
    HR E B β (σ.put id (.loop st' pend' tt n ps asg body d)).look (w.putObj l.b (.loop { r with state := st', pending := pend' })) ∧
      Step β β σ.look σ.next (σ.put id (.loop st' pend' tt n ps asg body d)).next w (w.putObj l.b (.loop { r with state := st', pending := pend' })) := by
  obtain ⟨r', h1, h2, h3, h4, h5, h6, h7, h8, hlt⟩ := loop_at hR h hl
  rw [hr] at h1
  simp only [Option.some.injEq, Obj.loop.injEq] at h1
  subst h1
  rw [look_put _ (look_some h).1]
  exact putObj_ok hR h hl (.loop st' pend' tt n ps asg body d) (.loop { r with state := st', pending := pend' }) ⟨l, hl, _, World.putObj_heap_same hlt, rfl, rfl, h4, h5, h6, h7, h8⟩ σ.next σ.next
theorem endRound_tr {l : Nat} {jump : Option Code} {v : AV} {σ' : St} (h : endRoundA l jump σ = some (v, σ')) : Tr σ σ' := by
  unfold endRoundA at h
  split at h
  · rename_i hl
    simp only [Option.some.injEq, Prod.mk.injEq] at h
    obtain ⟨_, rfl⟩ := h
    exact Tr.put hl _
  · simp at h
theorem endRound_ok (hR : HR E B β σ.look w) {l : Nat} {jump : Option Code} {v : AV} {σ' : St} (h : endRoundA l jump σ = some (v, σ')) {lc : Loc} (hl : β l 0 = some lc) :
    ∃ u w', (Instr.endRound lc.b jump).run P w = .ok u w' ∧ VR β v u ∧ HR E B β σ'.look w' ∧ Step β β σ.look σ.next σ'.next w w' := by
  unfold endRoundA at h
  split at h
  · rename_i st pend tt n ps asg body d hlook
    simp only [Option.some.injEq, Prod.mk.injEq] at h
    obtain ⟨rfl, rfl⟩ := h
    obtain ⟨r, hr, _⟩ := loop_at hR hlook hl
    have hP := loop_put hR hlook hl hr (match jump with | none => .ready | some _ => .done) jump
    refine ⟨.bool jump.isNone, _, ?_, by simp [VR], hP.1, hP.2⟩
    cases jump <;> simp [Instr.endRound, run_getLoop hr, setObj, Sem.run, hr, World.putObj]
  · simp at h
theorem round_step (hV : Sound E P V) {l : Nat} {args : List AV} {v : AV} {σ' : St} (h : roundStep V l args σ = some (v, σ')) : Tr σ σ' ∧
    ∀ (B : Nat) (β : Map) (w : World) (us : List Value) (lc : Loc) (F : Fence) (n : Nat), Open F → HR E B β σ.look w → WF σ → Fresh β σ.next σ'.next → β l 0 = some lc → VRs β args us →
      ∃ f tmps asg body, (Instr.yield lc.b us.toArray).run P w = .ok (.round lc.b f tmps asg body) w ∧ RoundIn F n P lc.b f tmps asg body w (RetP E B β σ σ' w v) := by
  unfold roundStep at h
  split at h
  · rename_i st pend tt nn ps asg body d hlook
    split at h
    · rename_i t hset
      split at h
      · rename_i τ1 σ1 hasg
        split at h
        · rename_i pend1 tt1 n1 ps1 asg1 body1 d1 hlook1
          obtain ⟨tA, sA⟩ := hV.code _ _ _ _ _ _ _ hasg
          have tB := Tr.put hlook1 (.loop .busy pend1 tt1 n1 ps1 asg1 body1 d1)
          have core : ∀ x τ2 σ2 jump, V.code (some l) body τ1 (σ1.put l (.loop .busy pend1 tt1 n1 ps1 asg1 body1 d1)) = some (x, τ2, σ2) → endRoundA l jump σ2 = some (v, σ') →
              (∀ R, (∀ (a : Act) w, (∃ u w', (Instr.endRound (R : Nat × (Ending → World → Prop)).1 jump).run P w = .ok u w' ∧ R.2 (.returned u) w') → roundPost P R.1 R.2 (exitC x) a w)) →
              Tr σ σ' ∧ ∀ (B : Nat) (β : Map) (w : World) (us : List Value) (lc : Loc) (F : Fence) (n : Nat), Open F → HR E B β σ.look w → WF σ → Fresh β σ.next σ'.next → β l 0 = some lc → VRs β args us →
                ∃ f tmps asg body, (Instr.yield lc.b us.toArray).run P w = .ok (.round lc.b f tmps asg body) w ∧ RoundIn F n P lc.b f tmps asg body w (RetP E B β σ σ' w v) := by
            intro x τ2 σ2 jump hbody hend hpost
            obtain ⟨tC, sC⟩ := hV.code _ _ _ _ _ _ _ hbody
            have tD := endRound_tr hend
            have tAB := tA.trans tB
            have tABC := tAB.trans tC
            refine ⟨tABC.trans tD, fun B β w us lc F n hO hR hW hF hl hus => ?_⟩
            obtain ⟨r, hr, _, _, h4, h5, h6, h7, _, _⟩ := loop_at hR hlook hl
            obtain ⟨hlen, htm⟩ := setParams_ok ps args tt t us r.tmps hset hus h7
            refine ⟨r.fn, (ps.zip us).foldl (fun tmps (p : Tmp × Value) => tmps.setIfInBounds p.1 p.2) r.tmps, asg, body, ?_, ?_⟩
            · have hsz : us.toArray.size = r.params.size := by
                have := congrArg List.length h4
                simp at this ⊢
                omega
              have hz : (r.params.zip us.toArray).toList = ps.zip us := by rw [Array.toList_zip, h4]
              have hfold : (r.params.zip us.toArray).foldl (fun tmps (x : Tmp × Value) => match x with | (t, a) => tmps.setIfInBounds t a) r.tmps = (ps.zip us).foldl (fun tmps (p : Tmp × Value) => tmps.setIfInBounds p.1 p.2) r.tmps := by
                rw [← Array.foldl_toList, hz]
              simp only [Instr.yield, Sem.run_bind, run_getLoop hr, Result.andThen_ok]
              rw [if_neg (by simpa using hsz)]
              simp only [Sem.run_pure, h5, h6]
              rw [← hfold]
            · refine roundIn_of_wpIn (hO.1 _) ?_
              refine wpL_wpIn (sA B β w _ (F.inRound lc.b) n _ hO ⟨lc, hl, rfl⟩ hR hW (hF.mono (Nat.le_refl _) ((tB.trans tC).trans tD).next) ⟨htm, rfl⟩ ?_)
              intro β1 w1 a1 hR1 hS1 ht1
              have hl1 := hS1.sub _ _ _ hl
              obtain ⟨r1, hr1, hst1, hpend1, _⟩ := loop_at hR1 hlook1 hl1
              have hP := loop_put hR1 hlook1 hl1 hr1 .busy pend1
              have hrr : ({ r1 with state := .busy, pending := pend1 } : Loop) = { r1 with state := .busy } := by rw [← hpend1]
              rw [hrr] at hP
              refine ⟨w1.putObj lc.b (.loop { r1 with state := .busy }), ?_, ?_⟩
              · simp [Instr.beginRound, run_getLoop hr1, setObj, Sem.run, hr1, hst1, World.putObj]
              · have hSAB := step_trans tA tB hW (hF.mono (Nat.le_refl _) (tC.trans tD).next) hS1 hP.2
                have hFB := fresh_then tAB hW hF hSAB
                refine wpL_wpIn (sC B β1 _ a1 (F.inRound lc.b) n _ hO ⟨lc, hl1, rfl⟩ hP.1 (tAB.wf hW) (fresh_first tD hFB) ht1 ?_)
                intro β2 w2 a2 hR2 hS2 ht2
                have hl2 := hS2.sub _ _ _ hl1
                obtain ⟨u, w3, hrun, hvu, hR3, hS3⟩ := endRound_ok (P := P) hR2 hend hl2
                refine hpost (lc.b, RetP E B β σ σ' w v) a2 w2 ⟨u, w3, hrun, β2, u, rfl, hvu, hR3, ?_⟩
                have hSABC := step_trans tAB tC hW (hF.mono (Nat.le_refl _) tD.next) hSAB hS2
                exact step_trans tABC tD hW hF hSABC hS3
          split at h
          · rename_i hbody; exact core _ _ _ _ hbody h (fun R a w hq => hq)
          · rename_i hbody; exact core _ _ _ _ hbody h (fun R a w hq => hq)
          · rename_i hbody; exact core _ _ _ _ hbody h (fun R a w hq => hq)
          · rename_i hbody; exact core _ _ _ _ hbody h (fun R a w hq => hq)
          · simp at h
        · simp at h
      · simp at h
    · simp at h
  · simp at h
end
end Go.Vai
