/-
  Ranges over maps, step by forced step; new maps.
-/
import Derived.Test.YtkjmlnegmmlfdaaGreatDoorVaiQ
namespace Go.Vai
open Go

section
variable {E : Env} {P : Program} {β : Map} {B : Nat} {σ : St} {w : World}
theorem makeMap_ok (hR : HR E B β σ.look w) (hW : WF σ) (hF : Fresh β σ.next (σ.next + 1)) (t : TypeId) : Does E B P β σ (σ.new (.map [] 0)) w (Instr.makeMap t none) (.map σ.next) := by
  have := new_ok hR hW hF (.map [] 0) (.map #[] 0) (w.alloc (.map #[] 0)) rfl rfl rfl rfl ⟨w.heap.size, 0, 0, 0⟩ rfl
    ⟨_, put1_same _ _ _ _, #[], (MapKept.heap_alloc w _).1, by simp [EntriesR]⟩
  refine ⟨_, .map (some w.heap.size), _, ?_, ?_, this.1, this.2⟩
  · simp [Instr.makeMap]
  · simp only [VR]; exact ⟨_, put1_same _ _ _ _, rfl⟩
theorem range_ok (hE : EnvOk E P) (hR : HR E B β σ.look w) (hW : WF σ) {v x : AV} {ux : Value} {t : TypeId} {σ' : St} (h : aRange E t x σ = some (v, σ')) (hF : Fresh β σ.next σ'.next) (hx : VR β x ux) :
    Does E B P β σ σ' w (Instr.range t ux) v := by
  unfold aRange at h
  split at h
  · rename_i _ _ _ _ kt et _ ht
    have hu := (hE.ty t _ ht).map rfl
    split at h
    · simp only [Option.some.injEq, Prod.mk.injEq] at h
      obtain ⟨rfl, rfl⟩ := h
      simp only [VR] at hx; subst hx
      have := new_ok hR hW hF (.iter none 0 [] 0) (.mapIter none 0 #[] 0) (w.alloc (.mapIter none 0 #[] 0)) rfl rfl rfl rfl ⟨w.heap.size, 0, 0, 0⟩ rfl
        ⟨_, put1_same _ _ _ _, rfl, none, (MapKept.heap_alloc w _).1, rfl⟩
      refine ⟨_, .pointer (some ⟨w.heap.size, 0, none⟩), _, ?_, ?_, this.1, this.2⟩
      · simp [Instr.range, run_underlying hu]
      · simp only [VR]; exact ⟨_, put1_same _ _ _ _, by simp, by simp, rfl⟩
    · rename_i id
      split at h
      · rename_i es clock hlook
        simp only [Option.some.injEq, Prod.mk.injEq] at h
        obtain ⟨rfl, rfl⟩ := h
        simp only [VR] at hx
        obtain ⟨l, hl, rfl⟩ := hx
        obtain ⟨l', hl', cs, hh, hr⟩ := hR.obj id _ hlook
        rw [hl] at hl'; simp only [Option.some.injEq] at hl'; subst hl'
        have hnone : β σ.next 0 = none := hF σ.next 0 (Nat.le_refl _) (Nat.lt_succ_self _)
        have := new_ok hR hW hF (.iter (some id) clock [] clock) (.mapIter (some l.b) clock #[] clock) (w.alloc (.mapIter (some l.b) clock #[] clock)) rfl rfl rfl rfl ⟨w.heap.size, 0, 0, 0⟩ rfl
          ⟨_, put1_same _ _ _ _, rfl, some l.b, (MapKept.heap_alloc w _).1, l, put1_sub hnone _ _ _ hl, rfl⟩
        refine ⟨_, .pointer (some ⟨w.heap.size, 0, none⟩), _, ?_, ?_, this.1, this.2⟩
        · simp [Instr.range, run_underlying hu, MapKept.run_getObj_map hh]
        · simp only [VR]; exact ⟨_, put1_same _ _ _ _, by simp, by simp, rfl⟩
      · simp at h
    · simp at h
  · simp at h

theorem EntriesR.filter {es : List AEntry} {cs : List MapEntry} (h : EntriesR β es cs) {p : AEntry → Bool} {q : MapEntry → Bool} (hpq : ∀ e c, EntryR β e c → p e = q c) : EntriesR β (es.filter p) (cs.filter q) := by
  induction es generalizing cs with
  | nil => simp only [EntriesR] at h; subst h; simp [EntriesR]
  | cons x es ih =>
    obtain ⟨d, cs', rfl, r1, r2⟩ := h
    simp only [List.filter_cons, hpq _ _ r1]
    split
    · exact ⟨d, _, rfl, r1, ih r2⟩
    · exact ih r2
theorem EntriesR.all {es : List AEntry} {cs : List MapEntry} (h : EntriesR β es cs) {p : AEntry → Bool} {q : MapEntry → Bool} (hpq : ∀ e c, EntryR β e c → p e = q c) : es.all p = cs.all q := by
  induction es generalizing cs with
  | nil => simp only [EntriesR] at h; subst h; rfl
  | cons x es ih =>
    obtain ⟨d, cs', rfl, r1, r2⟩ := h
    simp only [List.all_cons, hpq _ _ r1, ih r2]
theorem EntriesR.find {es : List AEntry} {cs : List MapEntry} (h : EntriesR β es cs) {p : AEntry → Bool} {q : MapEntry → Bool} (hpq : ∀ e c, EntryR β e c → p e = q c) {e : AEntry} (he : es.find? p = some e) :
    ∃ c, cs.find? q = some c ∧ EntryR β e c := by
  induction es generalizing cs with
  | nil => simp at he
  | cons x es ih =>
    obtain ⟨d, cs', rfl, r1, r2⟩ := h
    simp only [List.find?_cons, hpq _ _ r1] at he ⊢
    split at he
    · simp only [Option.some.injEq] at he; subst he
      rename_i hq
      exact ⟨d, by simp, r1⟩
    · rename_i hq
      simpa [hq] using ih r2 he

theorem next_ok (hR : HR E B β σ.look w) {v it : AV} {ui : Value} {σ' : St} (h : aNext it σ = some (v, σ')) (hi : VR β it ui) (ty : TypeId) : Does E B P β σ σ' w (Instr.next ui false ty) v := by
  unfold aNext at h
  split at h
  · rename_i r
    simp only [VR] at hi
    obtain ⟨l, hl, _, _, rfl⟩ := hi
    split at h
    · rename_i since seen last hlook
      simp only [Option.some.injEq, Prod.mk.injEq] at h
      obtain ⟨rfl, rfl⟩ := h
      obtain ⟨l', hl', hs0, mc, hh, hmc⟩ := hR.obj r _ hlook
      rw [hl] at hl'; simp only [Option.some.injEq] at hl'; subst hl'
      simp only at hmc
      subst hmc
      refine ⟨β, .tuple #[.bool false], w, ?_, ?_, hR, Step.refl _ _ _ _⟩
      · simp [Instr.next, hs0, getObj, Sem.run, hh]
      · simp only [VR]; exact ⟨_, rfl, VRs.cons (by simp [VR]) VRs.nil⟩
    · rename_i m since seen last hlook
      obtain ⟨l', hl', hs0, mc, hh, lm, hlm, hmc⟩ := hR.obj r _ hlook
      rw [hl] at hl'; simp only [Option.some.injEq] at hl'; subst hl'
      subst hmc
      split at h
      · rename_i es clock hmap
        obtain ⟨lm', hlm', cs, hhm, hr⟩ := hR.obj m _ hmap
        rw [hlm] at hlm'; simp only [Option.some.injEq] at hlm'; subst hlm'
        cases hgone : (!seen.isEmpty && !es.isEmpty && es.all fun e => Nat.ble last e.born) with
        | true => rw [hgone] at h; simp at h
        | false =>
          rw [hgone] at h
          simp only [cond_false] at h
          have hlen := hr.length
          have hgone' : (!seen.toArray.isEmpty && !cs.isEmpty && cs.all (·.born ≥ last)) = false := by
            rw [← hgone]
            have h1 : seen.toArray.isEmpty = seen.isEmpty := by cases seen <;> simp
            have h2 : cs.isEmpty = es.isEmpty := by
              rw [← Array.isEmpty_toList]
              cases es with
              | nil => simp at hlen; simp [hlen]
              | cons e es => cases hcl : cs.toList with
                | nil => rw [hcl] at hlen; simp at hlen
                | cons => simp
            have h3 : cs.all (·.born ≥ last) = es.all fun e => Nat.ble last e.born := by
              rw [← Array.all_toList]
              refine (hr.all fun e c hec => ?_).symm
              rw [hec.2.2, Bool.eq_iff_iff]
              simp
            rw [h1, h2, h3]
          have hfil : EntriesR β (es.filter fun e => !(seen.contains e.born)) (cs.filter fun e => !seen.toArray.contains e.born).toList := by
            rw [Array.toList_filter]
            refine hr.filter fun e c hec => ?_
            rw [hec.2.2]
            simp
          have hgetr : (getObj l.b).run P w = .ok (.mapIter (some lm.b) since seen.toArray last) w := by simp [getObj, Sem.run, hh]
          have hgetm : (getObj lm.b).run P w = .ok (.map cs clock) w := MapKept.run_getObj_map hhm
          split at h
          · rename_i he
            simp only [Option.some.injEq, Prod.mk.injEq] at h
            obtain ⟨rfl, rfl⟩ := h
            rw [he] at hfil
            simp only [EntriesR] at hfil
            have hleft : (cs.filter fun e => !seen.toArray.contains e.born) = #[] := Array.toList_inj.1 (by simpa using hfil)
            refine ⟨β, .tuple #[.bool false], w, ?_, ?_, hR, Step.refl _ _ _ _⟩
            · simp only [Instr.next, hs0, Nat.add_zero, Sem.run_bind, hgetr, Result.andThen_ok, hgetm, hgone', Bool.false_eq_true, if_false, hleft]
              simp [Question.forced]
            · simp only [VR]; exact ⟨_, rfl, VRs.cons (by simp [VR]) VRs.nil⟩
          · rename_i e he
            obtain ⟨h1, h2⟩ := condT h
            replace h1 := bltT h1
            simp only [Option.some.injEq, Prod.mk.injEq] at h2
            obtain ⟨rfl, rfl⟩ := h2
            rw [he] at hfil
            obtain ⟨c, cs', hc, hec, hcs'⟩ := hfil
            simp only [EntriesR] at hcs'; subst hcs'
            have hleft : (cs.filter fun e => !seen.toArray.contains e.born) = #[c] := Array.toList_inj.1 (by simpa using hc)
            have hb : c.born < since := by rw [hec.2.2]; exact h1
            have hb' : ¬ (since ≤ c.born) := by omega
            have hP := putObj_ok hR hlook hl (.iter (some m) since (seen ++ [e.born]) clock) (.mapIter (some lm.b) since (seen.toArray.push c.born) clock)
              ⟨l, hl, hs0, some lm.b, by rw [World.putObj_heap_same (hR.own r _ 0 l hlook hl).2, hec.2.2]; simp, lm, hlm, rfl⟩ σ.next σ.next
            refine ⟨β, .tuple #[.bool true, c.key, c.val], _, ?_, ?_, by rw [look_put _ (look_some hlook).1]; exact hP.1, hP.2⟩
            · simp only [Instr.next, hs0, Nat.add_zero, Sem.run_bind, hgetr, Result.andThen_ok, hgetm, hgone', Bool.false_eq_true, if_false, hleft]
              simp [Question.forced, hb, hb', setObj, Sem.run, hh, World.putObj]
            · simp only [VR]; exact ⟨_, rfl, VRs.cons (by simp [VR]) (VRs.cons hec.1 (VRs.cons hec.2.1 VRs.nil))⟩
          · simp at h
      · simp at h
    · simp at h
  · simp at h

theorem entry_ok (hR : HR E B β σ.look w) {v it : AV} {ui : Value} (h : aEntry it σ = some v) (hi : VR β it ui) : Does E B P β σ σ w (Instr.entry ui) v := by
  unfold aEntry at h
  split at h
  · rename_i r
    simp only [VR] at hi
    obtain ⟨l, hl, _, _, rfl⟩ := hi
    split at h
    · rename_i m since seen stepped hlook
      obtain ⟨l', hl', hs0, mc, hh, lm, hlm, hmc⟩ := hR.obj r _ hlook
      rw [hl] at hl'; simp only [Option.some.injEq] at hl'; subst hl'
      subst hmc
      split at h
      · rename_i stamp es clock hst hmap
        obtain ⟨lm', hlm', cs, hhm, hr⟩ := hR.obj m _ hmap
        rw [hlm] at hlm'; simp only [Option.some.injEq] at hlm'; subst hlm'
        obtain ⟨h1, h2⟩ := condT h
        replace h1 := beqT h1
        subst h1
        simp only [Option.map_eq_some_iff] at h2
        obtain ⟨e, he, rfl⟩ := h2
        obtain ⟨c, hc, hec⟩ := hr.find (q := fun e => e.born == stamp) (fun e c hec => by rw [hec.2.2, Bool.eq_iff_iff]; simp) he
        have hc' : cs.find? (fun e => e.born == stamp) = some c := by rw [← Array.find?_toList]; exact hc
        have hback : seen.toArray.back? = some stamp := by simpa using hst
        have hgetr : (getObj l.b).run P w = .ok (.mapIter (some lm.b) since seen.toArray clock) w := by simp [getObj, Sem.run, hh]
        have hgetm : (getObj lm.b).run P w = .ok (.map cs clock) w := MapKept.run_getObj_map hhm
        refine ⟨β, .tuple #[c.key, c.val], w, ?_, ?_, hR, Step.refl _ _ _ _⟩
        · simp only [Instr.entry, hs0, Nat.add_zero, Sem.run_bind, hgetr, Result.andThen_ok, hback, hgetm, bne_self_eq_false, Bool.false_eq_true, if_false, hc', Sem.run_pure]
        · simp only [VR]; exact ⟨_, rfl, VRs.cons hec.1 (VRs.cons hec.2.1 VRs.nil)⟩
      · simp at h
    · simp at h
  · simp at h
end
end Go.Vai
