/-
  Drawn regions: one operation more that is wanted.
-/
import Derived.Test.YtkjmlnegmmlfdaaGreatDoorVaiZi
namespace Go.Vai
open Go

section
variable {E : Env} {P : Program} {V : Ev} {B : Nat} {β0 β : Map} {w0 w : World} {ops : List Oper} {recs : List Rec} {σs : Nat → St} {τs : Nat → Tm} {vs : Nat → AV} {D : Nat → Bool} {i : Nat} {a : Act}
theorem inv_step (hE : EnvOk E P) (hV : Sound E P V) (hr : RunAt E V ops (masksOf ops) recs σs τs vs) (hW0 : WF (σs 0)) (hEd : okEdges ops = true) (hO : okOps ops (masksOf ops) = true) (hK : okRecs (masksOf ops) recs = true)
    (hN : Next ops D i) {o : Oper} {r : Rec} (ho : ops[i]? = some o) (hs : StepAt E V ops (masksOf ops) recs σs τs vs i o r) (hw : wantedA ops (τs i) o = some true) (hF0 : Fresh β0 (σs 0).next (σs ops.length).next)
    (hI : DInv E B β0 w0 ops recs σs (τs 0) vs D β a w) {F : Fence} {n : Nat} {Q : Exit → Act → World → Prop} {K : Act → World → Prop} (hOp : Open F)
    (hQ : ∀ β' a' w', DInv E B β0 w0 ops recs σs (τs 0) vs (fun k => D k || Nat.beq k i) β' a' w' → K a' w') : o.wpIn F n P a w K Q := by
  have hi : i < ops.length := by
    rcases Nat.lt_or_ge i ops.length with h | h
    · exact h
    · rw [List.getElem?_eq_none h] at ho; simp at ho
  have hmono := fun j m (hm : m ≤ ops.length) (hj : j ≤ m) => (chain hV hr m hm).2.2 j hj
  obtain ⟨ti, hpre, _⟩ := chain hV hr i (by omega)
  have hpre' := fun j r' (hj : j < i) hr' => (hpre j r' hj hr').1
  have hWi := ti.wf hW0
  obtain ⟨t1, _⟩ := step_facts hV hs hpre'
  obtain ⟨σ1, hop, hsucc⟩ : ∃ σ1, oper E V (τs i) o { σs i with hid := r.hid, log := [] } = some (vs i, σ1) ∧ σs (i + 1) = { σ1 with hid := (σs i).hid, log := σ1.log ++ (σs i).log } := by
    rcases hs.run with ⟨_, _, σ1, hop, hsucc, _⟩ | ⟨hw', _⟩
    · exact ⟨σ1, hop, hsucc⟩
    · rw [hw] at hw'; simp at hw'
  have tO := oper_tr hV hop
  have hWs : WF { σs i with hid := r.hid, log := [] } := ⟨hWi.none, fun id hid => rvis hs hpre' hWi hid⟩
  have hW1 := tO.wf hWs
  have hn1 : σ1.next = (σs (i + 1)).next := by rw [hsucc]
  have hhi1 : (σs (i + 1)).next ≤ (σs ops.length).next := hmono (i + 1) ops.length (Nat.le_refl _) hi
  have h0i : (σs 0).next ≤ (σs i).next := ti.next
  -- what it sees
  have sub : ∀ id ob, ({ σs i with hid := r.hid, log := [] } : St).look id = some ob → lookD D recs σs ops.length id = some ob := by
    intro id ob hl
    obtain ⟨hv, hg⟩ := look_some hl
    have hlt : id < (σs i).next := look_lt hWs hl
    unfold lookD
    rw [sees hV hr hW0 hEd hK hN ho hs hlt hv]
    have h1 := rsub hs hlt hv
    rw [ti.hid] at h1
    rw [h1]
    exact hg
  have hF : Fresh β (σs i).next σ1.next := by
    intro id g h1 h2
    cases e : β id g with
    | none => rfl
    | some l =>
      exfalso
      obtain ⟨k, rk, hk, hrk, ha, hb⟩ := hI.fr id g l e (by omega) (by omega)
      have hki : k < ops.length := hN.dom k hk
      obtain ⟨rk', hsk⟩ := hr k ops[k] (by simp [hki])
      have := hsk.at'
      rw [hrk] at this; simp only [Option.some.injEq] at this; subst this
      rw [hsk.lo] at ha; rw [hsk.hi] at hb
      rcases Nat.lt_trichotomy k i with h | h | h
      · have := hmono (k + 1) i (by omega) (by omega); omega
      · subst h; rw [hN.out] at hk; simp at hk
      · have := hmono (i + 1) k (by omega) (by omega); omega
  have hop' : oper E V (tD D ops (τs 0) vs ops.length) o { σs i with hid := r.hid, log := [] } = some (vs i, σ1) := by
    rw [oper_congr (looks_ev hr hO hN ho)]; exact hop
  have hnD := (tD_meta (D := D) (ops := ops) (vs := vs) (τ := τs 0) ops.length).1
  refine oper_ok hE hV hop' hOp (hI.hr.sub sub) hWs hF (by rw [hnD]; exact hI.tm) ?_
  intro β' u w' hv hR' hS
  refine hQ β' _ w' ⟨?_, ?_, ?_, ?_, ?_⟩
  · -- the heap
    refine hI.hr.join hR' hS sub ?_ ?_ hF
    · intro id ob hl
      have hh1 : (σs (i + 1)).h.get id = σ1.h.get id := by rw [hsucc]
      have hlook1 : ∀ ob, σ1.h.get id = some ob → hidden id r.hid = false → σ1.look id = some ob := by
        intro ob h1 h2
        unfold St.look
        rw [tO.hid]
        show cond (hidden id r.hid) none _ = _
        rw [h2]; exact h1
      unfold lookD at hl
      cases hvis : hidden id (σs 0).hid with
      | true => rw [hvis] at hl; simp at hl
      | false =>
        rw [hvis] at hl
        simp only [cond_false] at hl
        by_cases ht : Touch recs i id
        · rw [touches hV hr hEd hK hN ho hs ht, hh1] at hl
          refine .inl (hlook1 ob hl ?_)
          obtain ⟨r2, hr2, ht⟩ := ht
          rw [hs.at'] at hr2; simp only [Option.some.injEq] at hr2; subst hr2
          rcases ht with ht | ⟨h1, _⟩
          · exact (wvis hV hs ht).1
          · rw [hs.lo] at h1; exact rvis hs hpre' hWi h1
        · have hc : hD (fun k => D k || Nat.beq k i) recs σs ops.length id = hD D recs σs ops.length id := by
            refine hD_congr ops.length fun k _ htk => ?_
            have hne : k ≠ i := fun e => ht (e ▸ htk)
            have : Nat.beq k i = false := by
              cases hb : Nat.beq k i with
              | false => rfl
              | true => exact absurd (beqT hb) hne
            rw [this, Bool.or_false]
          rw [hc] at hl
          have hlD : lookD D recs σs ops.length id = some ob := by unfold lookD; rw [hvis]; exact hl
          cases hsee : ({ σs i with hid := r.hid, log := [] } : St).look id with
          | none =>
            refine .inr ⟨hlD, rfl, fun ⟨h1, h2⟩ => ht ⟨r, hs.at', .inr ⟨by rw [hs.lo]; exact h1, by rw [hs.hi, ← hn1]; exact h2⟩⟩⟩
          | some o2 =>
            have e := sub id o2 hsee
            rw [hlD] at e; simp only [Option.some.injEq] at e; subst e
            obtain ⟨hv2, hg2⟩ := look_some hsee
            refine .inl (hlook1 ob ?_ hv2)
            rw [← hh1, untouched hV hr hW0 hi ht]
            exact hg2
    · intro id ob hl
      exact (tO.lookdom id ob hl).imp (fun x => x) fun ⟨x, y⟩ => ⟨x, y hWs⟩
  · refine hI.st.trans' hS (by exact h0i) (by omega) hF0 ?_
    intro id ob hl
    obtain ⟨hv', hg⟩ := look_some hl
    have hlt : id < (σs i).next := look_lt hWs hl
    have hl' : (σs i).look id = some ob := by
      unfold St.look
      rw [rsub hs hlt hv']
      exact hg
    rcases ti.lookdom id ob hl' with h | ⟨x, _⟩
    · exact .inl h
    · exact .inr ⟨x, Nat.lt_of_lt_of_le hlt (hmono i ops.length (Nat.le_refl _) (by omega))⟩
  · exact tmp_more hO hr hN ho hv (hI.tm.mono hS.sub)
  · have : (a.put o.dst u).defers = a.defers := by cases o.dst <;> rfl
    rw [this]; exact hI.mks.mono hS.sub
  · intro id g l e h1 h2
    rcases hS.new id g l e with e | ⟨x, y, _⟩ | ⟨ob, hob, _⟩
    · obtain ⟨k, rk, hk, hrest⟩ := hI.fr id g l e h1 h2
      exact ⟨k, rk, by simp [hk], hrest⟩
    · exact ⟨i, r, by simp, hs.at', by rw [hs.lo]; exact x, by rw [hs.hi, ← hn1]; exact y⟩
    · obtain ⟨g', l', e'⟩ := (hI.hr.obj id ob (sub id ob hob)).some_loc
      obtain ⟨k, rk, hk, hrest⟩ := hI.fr id g' l' e' h1 h2
      exact ⟨k, rk, by simp [hk], hrest⟩
end
end Go.Vai
