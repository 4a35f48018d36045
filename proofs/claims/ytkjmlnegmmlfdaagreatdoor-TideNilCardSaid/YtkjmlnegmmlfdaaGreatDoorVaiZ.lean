/-
  The statement that ranges over a function.
-/
import Derived.Test.YtkjmlnegmmlfdaaGreatDoorVaiY
namespace Go.Vai
open Go

section
variable {E : Env} {P : Program} {V : Ev} {B : Nat} {β : Map} {σ : St} {w : World}
theorem call_enter (hE : EnvOk E P) {f : AV} {args as : List AV} {fid : FuncId} {σ' : St} (h : aCall f args σ = some (.enter fid as, σ')) {uf : Value} {uargs : List Value} (hf : VR β f uf) (ha : VRs β args uargs) :
    σ' = σ ∧ ∃ fn' first cap, uf = .func fn' first cap ∧ ∃ us, VRs β as us ∧ ∀ fn, E.fn.get fid = some fn → fn.body ≠ none → ∀ w, (invoke (.fn fn' cap) (first ++ uargs.toArray)).run P w = .ok (.enter fid us.toArray) w := by
  unfold aCall at h
  split at h
  · rename_i g first cap
    simp only [Option.some.injEq, Prod.mk.injEq, ANext.enter.injEq] at h
    obtain ⟨⟨rfl, rfl⟩, rfl⟩ := h
    simp only [VR] at hf; subst hf
    refine ⟨rfl, _, _, _, rfl, first.toList ++ uargs ++ cap.toList, ((VRs.sc _).append ha).append (VRs.sc _), fun fn hfn hb w => ?_⟩
    simp only [invoke, run_callFunc hE hfn hb]
    congr 2
    apply Array.ext'
    simp
  · rename_i g first cap
    simp only [Option.some.injEq, Prod.mk.injEq, ANext.enter.injEq] at h
    obtain ⟨⟨rfl, rfl⟩, rfl⟩ := h
    simp only [VR] at hf
    obtain ⟨uf1, uc1, rfl, h1, h2⟩ := hf
    refine ⟨rfl, _, _, _, rfl, uf1.toList ++ uargs ++ uc1.toList, (h1.append ha).append h2, fun fn hfn hb w => ?_⟩
    simp only [invoke, run_callFunc hE hfn hb]
    congr 2
    apply Array.ext'
    simp
  · simp at h
  · simp at h
/-- The loop's record laid. -/
theorem loop_new (hR : HR E B β σ.look w) (hW : WF σ) (hF : Fresh β σ.next (σ.next + 1)) {a : Act} {τ : Tm} (ht : TmpR β τ.t τ.n a.tmps) (fn : FuncId) (ps : Array Tmp) (asg body : Code) {d : Nat} {ld : Loc} (hd : β d 0 = some ld) :
    let w1 := w.alloc (.loop { state := .ready, pending := none, fn, tmps := a.tmps, params := ps, assign := asg, body, defers := ld.b })
    HR E B (put1 β σ.next 0 ⟨w.heap.size, 0, 0, 0⟩) (σ.new (.loop .ready none τ.t τ.n ps.toList asg body d)).look w1 ∧
      Step β (put1 β σ.next 0 ⟨w.heap.size, 0, 0, 0⟩) σ.look σ.next (σ.new (.loop .ready none τ.t τ.n ps.toList asg body d)).next w w1 := by
  intro w1
  have hnone : β σ.next 0 = none := hF σ.next 0 (Nat.le_refl _) (Nat.lt_succ_self _)
  have hsub := put1_sub (l := ⟨w.heap.size, 0, 0, 0⟩) hnone
  exact new_ok hR hW hF _ (.loop { state := .ready, pending := none, fn, tmps := a.tmps, params := ps, assign := asg, body, defers := ld.b }) w1 rfl rfl rfl rfl ⟨w.heap.size, 0, 0, 0⟩ rfl
    ⟨_, put1_same _ _ _ _, _, (MapKept.heap_alloc w _).1, rfl, rfl, rfl, rfl, rfl, ht.mono hsub, ld, hsub _ _ _ hd, rfl⟩
/-- Behind the start: the call, the pending jump. -/
theorem range_core (hE : EnvOk E P) (hV : Sound E P V) {rd : Option Nat} {τ τ1 τ' : Tm} {σ1 σ' : St} {d : Nat} {g : Operand} {ps : Array Tmp} {asg body : Code} {x : AExit}
    (h : rangeGo V rd (ev τ g) ps.toList asg body d τ τ1 σ1 = some (x, τ', σ')) :
    Tr (σ1.new (.loop .ready none τ.t τ.n ps.toList asg body d)) σ' ∧ ∀ (B : Nat) (β1 : Map) (w1 : World) (a a1 : Act) (F : Fence) (n : Nat) (Q : Exit → Act → World → Prop) (lb : Nat), Open F → RdOk β1 rd F.round →
      HR E B β1 (σ1.new (.loop .ready none τ.t τ.n ps.toList asg body d)).look w1 → WF σ1 → Fresh β1 (σ1.next + 1) σ'.next → FrR β1 τ1 a1 → VR β1 (ev τ g) (a.eval g) → (∃ lc, β1 σ1.next 0 = some lc ∧ lc.b = lb) →
      (∀ β' w' a', HR E B β' σ'.look w' → Step β1 β' (σ1.new (.loop .ready none τ.t τ.n ps.toList asg body d)).look (σ1.next + 1) σ'.next w1 w' → FrR β' τ' a' → Q (exitC x) a' w') →
      ∃ (dd : Deferred) (f : FuncId) (args : Array Value), (resolve a.eval (rangeCall g lb) 0).run P w1 = .ok dd w1 ∧ (invoke dd.target dd.args).run P w1 = .ok (.enter f args) w1 ∧
        CallsIn F (n - 1) P f args w1 (rangePost F n P lb Q a1) := by
  have tN := Tr.new σ1 (.loop .ready none τ.t τ.n ps.toList asg body d)
  unfold rangeGo at h
  split at h
  · rename_i f args σ2 hc
    split at h
    · rename_i v3 σ3 hcall
      split at h
      · rename_i st pend tt n0 ps0 asg0 body0 d0 hlook
        obtain ⟨t3, ⟨fn, hfn, hb⟩, hcs⟩ := hV.call _ _ _ _ _ hcall
        have hσ2 := call_tr hc
        subst hσ2
        have tput := Tr.put hlook (.loop .exhausted pend tt n0 ps0 asg0 body0 d0)
        have main : ∀ (σ' : St), Tr (σ3.put σ1.next (.loop .exhausted pend tt n0 ps0 asg0 body0 d0)) σ' → st ≠ .busy → ∀ (B : Nat) (β1 : Map) (w1 : World) (a a1 : Act) (F : Fence) (n : Nat) (Q : Exit → Act → World → Prop) (lb : Nat), Open F → RdOk β1 rd F.round →
            HR E B β1 (σ1.new (.loop .ready none τ.t τ.n ps.toList asg body d)).look w1 → WF σ1 → Fresh β1 (σ1.next + 1) σ'.next → FrR β1 τ1 a1 → VR β1 (ev τ g) (a.eval g) → (∃ lc, β1 σ1.next 0 = some lc ∧ lc.b = lb) →
            (∀ β4 w4, HR E B β4 (σ3.put σ1.next (.loop .exhausted pend tt n0 ps0 asg0 body0 d0)).look w4 → RdOk β4 rd F.round → WF (σ3.put σ1.next (.loop .exhausted pend tt n0 ps0 asg0 body0 d0)) →
              Fresh β4 (σ3.put σ1.next (.loop .exhausted pend tt n0 ps0 asg0 body0 d0)).next σ'.next → FrR β4 τ1 a1 →
              Step β1 β4 (σ1.new (.loop .ready none τ.t τ.n ps.toList asg body d)).look (σ1.next + 1) (σ3.put σ1.next (.loop .exhausted pend tt n0 ps0 asg0 body0 d0)).next w1 w4 →
              (match (generalizing := false) pend with | none => Q .normal a1 w4 | some c => c.wpIn F n P Q a1 w4)) →
            ∃ (dd : Deferred) (f : FuncId) (args : Array Value), (resolve a.eval (rangeCall g lb) 0).run P w1 = .ok dd w1 ∧ (invoke dd.target dd.args).run P w1 = .ok (.enter f args) w1 ∧
              CallsIn F (n - 1) P f args w1 (rangePost F n P lb Q a1) := by
          intro σ' t4 hst B β1 w1 a a1 F n Q lb hO hrd hR hW hF ht hg ⟨lc, hlc, hlb⟩ hQ
          subst hlb
          obtain ⟨_, fn', first, cap, huf, us, hus, hinv⟩ := call_enter (P := P) hE hc hg (uargs := [.func (.yield lc.b) #[] #[]]) (VRs.cons (by simp only [VR]; exact ⟨lc, hlc, rfl⟩) VRs.nil)
          have hWL := tN.wf hW
          refine ⟨_, f, us.toArray, run_resolve a.eval g _ _ 0 w1 huf, ?_, ?_⟩
          · have := hinv fn hfn hb w1
            simpa [Act.eval] using this
          · refine CallsIn.mono (hcs B β1 w1 us F (n - 1) hO hR hWL (hF.mono (Nat.le_refl _) (tput.trans t4).next) hus) ?_
            rintro e w3 ⟨β3, u, rfl, hv, hR3, hS3⟩
            have hl3 := hS3.sub _ _ _ hlc
            obtain ⟨r, hr, hrst, hrp, _⟩ := loop_at hR3 hlook hl3
            have hP := loop_put hR3 hlook hl3 hr .exhausted pend
            have hrr : ({ r with state := .exhausted, pending := pend } : Loop) = { r with state := .exhausted } := by rw [← hrp]
            rw [hrr] at hP
            have hS34 := step_trans t3 tput hWL (hF.mono (Nat.le_refl _) t4.next) hS3 hP.2
            refine ⟨pend, w3.putObj lc.b (.loop { r with state := .exhausted }), ?_, ?_⟩
            · have hb : r.state ≠ LoopState.busy := by rw [hrst]; exact hst
              simp [Instr.endLoop, run_getLoop hr, hb, setObj, Sem.run, hr, World.putObj, hrp]
            · exact hQ β3 _ hP.1 (hrd.mono hS3.sub) ((t3.trans tput).wf hWL) (fresh_then (t3.trans tput) hWL hF hS34) (ht.mono hS3.sub) hS34
        split at h
        · simp at h
        · rename_i hst
          split at h
          · simp only [Option.some.injEq, Prod.mk.injEq] at h
            obtain ⟨rfl, rfl, rfl⟩ := h
            refine ⟨t3.trans tput, ?_⟩
            intro B β1 w1 a a1 F n Q lb hO hrd hR hW hF ht hg hlc hQ
            refine main _ (Tr.refl _) (fun e => hst e) B β1 w1 a a1 F n Q lb hO hrd hR hW hF ht hg hlc ?_
            intro β4 w4 hR4 _ _ _ ht4 hS4
            exact hQ β4 w4 a1 hR4 hS4 ht4
          · rename_i c
            obtain ⟨t4, s4⟩ := hV.code _ _ _ _ _ _ _ h
            refine ⟨(t3.trans tput).trans t4, ?_⟩
            intro B β1 w1 a a1 F n Q lb hO hrd hR hW hF ht hg hlc hQ
            refine main _ t4 (fun e => hst e) B β1 w1 a a1 F n Q lb hO hrd hR hW hF ht hg hlc ?_
            intro β4 w4 hR4 hrd4 hW4 hF4 ht4 hS4
            refine wpL_wpIn (s4 B β4 w4 a1 F n Q hO hrd4 hR4 hW4 hF4 ht4 ?_)
            intro β5 w5 a5 hR5 hS5 ht5
            exact hQ β5 w5 a5 hR5 (step_trans (t3.trans tput) t4 (tN.wf hW) hF hS4 hS5) ht5
      · simp at h
    · simp at h
  · simp at h
theorem run_enterLoop_none (fn : FuncId) (tmps : Array Value) (ps : Array Tmp) (asg body : Code) :
    (Instr.enterLoop fn tmps ps asg body none).run P w = .ok (w.heap.size + 1, [{ target := .collected w.heap.size, args := #[] }])
      ((w.alloc (.deferred (some []))).alloc (.loop { state := .ready, pending := none, fn, tmps, params := ps, assign := asg, body, defers := w.heap.size })) := by
  simp [Instr.enterLoop, newObj, Sem.run]
theorem run_enterLoop_some (fn : FuncId) (tmps : Array Value) (ps : Array Tmp) (asg body : Code) {l : Nat} {r : Loop} (h : w.heap[l]? = some (.loop r)) :
    (Instr.enterLoop fn tmps ps asg body (some l)).run P w = .ok (w.heap.size, [])
      (w.alloc (.loop { state := .ready, pending := none, fn, tmps, params := ps, assign := asg, body, defers := r.defers })) := by
  simp [Instr.enterLoop, run_getLoop h, newObj, Sem.run]
theorem rangeFunc_ok (hE : EnvOk E P) (hV : Sound E P V) {rd : Option Nat} {τ τ' : Tm} {σ' : St} {g : Operand} {ps : Array Tmp} {asg body : Code} {x : AExit}
    (h : rangeFuncA V rd (ev τ g) ps.toList asg body τ σ = some (x, τ', σ')) : Tr σ σ' ∧ CodeSound E P rd (.rangeFunc g ps asg body) τ σ x τ' σ' := by
  unfold rangeFuncA at h
  split at h
  · -- an outermost loop
    obtain ⟨t1, hc⟩ := range_core (P := P) hE hV h
    have t0 := Tr.new σ (.dfr false)
    have tN := Tr.new (σ.new (.dfr false)) (.loop .ready none τ.t τ.n ps.toList asg body σ.next)
    refine ⟨(t0.trans tN).trans t1, fun B β w a F n Q hO hrd hR hW hF ht hQ => wpIn_rangeFunc fun fn _ => ?_⟩
    simp only [RdOk] at hrd
    have hrd0 := hrd
    rw [hrd]
    have hle2 : σ.next + 1 + 1 ≤ σ'.next := t1.next
    have hN1 := new_ok hR hW (hF.mono (Nat.le_refl _) (by omega)) (.dfr false) (.deferred (some [])) (w.alloc (.deferred (some []))) rfl rfl rfl rfl ⟨w.heap.size, 0, 0, 0⟩ rfl
      ⟨_, put1_same _ _ _ _, (MapKept.heap_alloc w _).1⟩
    have hW1 := t0.wf hW
    have hF1 := fresh_then t0 hW hF hN1.2
    have ht1 : FrR (put1 β σ.next 0 ⟨w.heap.size, 0, 0, 0⟩) τ a := ht.mono hN1.2.sub
    have hL := loop_new (a := a) (τ := τ) hN1.1 hW1 (hF1.mono (Nat.le_refl _) hle2) ht1.1 fn ps asg body (put1_same β σ.next 0 ⟨w.heap.size, 0, 0, 0⟩)
    have hS := step_trans t0 tN hW (hF.mono (Nat.le_refl _) hle2) hN1.2 hL.2
    have hF2 := fresh_then (t0.trans tN) hW hF hS
    obtain ⟨dd, f, args, hres, hinv, hcall⟩ := hc B _ _ a { a with defers := [{ target := .collected w.heap.size, args := #[] }] ++ a.defers } F n Q (w.heap.size + 1) hO (by simpa [RdOk] using hrd0) hL.1 hW1 hF2
      ⟨ht1.1.mono hL.2.sub, ⟨w.heap.size, 0, 0, 0⟩, a.defers, hL.2.sub _ _ _ (put1_same _ _ _ _), rfl, ht1.2.mono hL.2.sub⟩
      (VR.mono hS.sub _ _ (ev_ok ht.1 g)) ⟨_, put1_same _ _ _ _, by simp⟩
      (fun β' w' a' hR' hS' ht' => hQ β' w' a' hR' (step_trans (t0.trans tN) t1 hW hF hS hS') ht')
    exact ⟨w.heap.size + 1, _, _, dd, _, f, args, _, run_enterLoop_none fn a.tmps ps asg body, hres, fun f' _ => hO.1 f', hinv, (fun e => by rw [hO.2] at e; simp at e), hcall⟩
  · rename_i l0
    split at h
    · rename_i st0 pend0 tt0 n0 ps0 asg0 body0 d hlook
      obtain ⟨t1, hc⟩ := range_core (P := P) hE hV h
      have tN := Tr.new σ (.loop .ready none τ.t τ.n ps.toList asg body d)
      refine ⟨tN.trans t1, fun B β w a F n Q hO hrd hR hW hF ht hQ => wpIn_rangeFunc fun fn _ => ?_⟩
      have hrd0 := hrd
      obtain ⟨lc, hlc, hro⟩ := hrd
      rw [hro]
      obtain ⟨r, hr, _, _, _, _, _, _, ⟨ld, hld, hrd'⟩, _⟩ := loop_at hR hlook hlc
      have hle2 : σ.next + 1 ≤ σ'.next := t1.next
      have hL := loop_new (a := a) (τ := τ) hR hW (hF.mono (Nat.le_refl _) hle2) ht.1 fn ps asg body hld
      have hF2 := fresh_then tN hW hF hL.2
      have ht1 := ht.mono hL.2.sub
      obtain ⟨dd, f, args, hres, hinv, hcall⟩ := hc B _ _ a { a with defers := [] ++ a.defers } F n Q w.heap.size hO (hrd0.mono hL.2.sub) hL.1 hW hF2 ht1
        (VR.mono hL.2.sub _ _ (ev_ok ht.1 g)) ⟨_, put1_same _ _ _ _, rfl⟩
        (fun β' w' a' hR' hS' ht' => hQ β' w' a' hR' (step_trans tN t1 hW hF hL.2 hS') ht')
      have hrun := run_enterLoop_some (P := P) fn a.tmps ps asg body hr
      rw [hrd'] at hrun
      exact ⟨w.heap.size, _, _, dd, _, f, args, _, hrun, hres, fun f' _ => hO.1 f', hinv, (fun e => by rw [hO.2] at e; simp at e), hcall⟩
    · simp at h
end
end Go.Vai
