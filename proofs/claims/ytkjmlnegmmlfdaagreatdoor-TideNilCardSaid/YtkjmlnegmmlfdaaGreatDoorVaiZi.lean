/-
  Drawn regions: one operation more, in whatever order.
-/
import Derived.Test.YtkjmlnegmmlfdaaGreatDoorVaiZh
namespace Go.Vai
open Go

noncomputable def lookD (D : Nat → Bool) (recs : List Rec) (σs : Nat → St) (n : Nat) : Look := fun id => cond (hidden id (σs 0).hid) none (hD D recs σs n id)
structure DInv (E : Env) (B : Nat) (β0 : Map) (w0 : World) (ops : List Oper) (recs : List Rec) (σs : Nat → St) (τ0 : Tm) (vs : Nat → AV) (D : Nat → Bool) (β : Map) (a : Act) (w : World) : Prop where
  hr : HR E B β (lookD D recs σs ops.length) w
  st : Step β0 β (σs 0).look (σs 0).next (σs ops.length).next w0 w
  tm : TmpR β (tD D ops τ0 vs ops.length).t τ0.n a.tmps
  mks : MarksR β τ0.marks a.defers
  fr : ∀ id g l, β id g = some l → (σs 0).next ≤ id → id < (σs ops.length).next → ∃ k r, D k = true ∧ recs[k]? = some r ∧ r.lo ≤ id ∧ id < r.hi
section
variable {E : Env} {P : Program} {V : Ev} {B : Nat} {β0 β : Map} {w0 w : World} {ops : List Oper} {recs : List Rec} {σs : Nat → St} {τs : Nat → Tm} {vs : Nat → AV} {D : Nat → Bool} {i : Nat} {a : Act}
theorem tmp_more (hO : okOps ops (masksOf ops) = true) (hr : RunAt E V ops (masksOf ops) recs σs τs vs) (hN : Next ops D i) {o : Oper} (ho : ops[i]? = some o) {u : Value} (hv : VR β (vs i) u)
    (ht : TmpR β (tD D ops (τs 0) vs ops.length).t (τs 0).n a.tmps) : TmpR β (tD (fun k => D k || Nat.beq k i) ops (τs 0) vs ops.length).t (τs 0).n (a.put o.dst u).tmps := by
  have hi : i < ops.length := by
    rcases Nat.lt_or_ge i ops.length with h | h
    · exact h
    · rw [List.getElem?_eq_none h] at ho; simp at ho
  obtain ⟨r, hs⟩ := hr i o ho
  obtain ⟨_, _, hdn, _⟩ := put_facts hs
  have hn0 := (tmeta hr i (by omega)).1
  have hnD := (tD_meta (D := D) (ops := ops) (vs := vs) (τ := τs 0) ops.length).1
  have hput : ∃ τ'', (tD D ops (τs 0) vs ops.length).put o.dst (vs i) = some τ'' ∧ ∀ t, τ''.t.get t = if o.dst = some t then some (vs i) else (tD D ops (τs 0) vs ops.length).t.get t := by
    cases hd : o.dst with
    | none => exact ⟨_, rfl, fun t => by simp⟩
    | some d =>
      have hlt := hdn d hd
      refine ⟨(tD D ops (τs 0) vs ops.length).set d (vs i), ?_, fun t => ?_⟩
      · simp only [Tm.put]
        have : Nat.blt d (tD D ops (τs 0) vs ops.length).n = true := by
          rw [hnD, ← hn0]; simpa using hlt
        rw [this]; rfl
      · simp only [Tm.set, T.get_set', Option.some.injEq]
        by_cases e : t = d
        · subst e; simp
        · rw [if_neg e, if_neg (fun e' => e e'.symm)]
  obtain ⟨τ'', h1, h2⟩ := hput
  have h3 := (put_ok h1 hv (by rw [hnD]; exact ht)).1
  have hn'' : τ''.n = (τs 0).n := by
    have := h3.1
    have h4 := ht.1
    have : (a.put o.dst u).tmps.size = a.tmps.size := by cases o.dst <;> simp [Act.put]
    omega
  obtain ⟨g1, g2, g3⟩ := h3
  have hget : ∀ t, (tD (fun k => D k || Nat.beq k i) ops (τs 0) vs ops.length).t.get t = τ''.t.get t := fun t => by rw [tD_more hO hN ho, h2]
  refine ⟨by rw [g1, hn''], fun t ht' => by rw [hget]; exact g2 t (by omega), fun t ht' => by rw [hget]; exact g3 t (by omega)⟩
theorem inv_skip (hO : okOps ops (masksOf ops) = true) (hr : RunAt E V ops (masksOf ops) recs σs τs vs) (hN : Next ops D i) {o : Oper} {r : Rec} (ho : ops[i]? = some o)
    (hs : StepAt E V ops (masksOf ops) recs σs τs vs i o r) (hw : wantedA ops (τs i) o = some false) (hI : DInv E B β0 w0 ops recs σs (τs 0) vs D β a w) :
    DInv E B β0 w0 ops recs σs (τs 0) vs (fun k => D k || Nat.beq k i) β (a.put o.dst undef) w := by
  rcases hs.run with ⟨hw', _⟩ | ⟨_, hv, hsucc, hwr, _⟩
  · rw [hw] at hw'; simp at hw'
  · have hnt : ∀ id, ¬ Touch recs i id := by
      rintro id ⟨r', hr', h⟩
      rw [hs.at'] at hr'; simp only [Option.some.injEq] at hr'; subst hr'
      rcases h with h | ⟨h1, h2⟩
      · rw [hwr] at h; cases h
      · rw [hs.lo] at h1; rw [hs.hi, hsucc] at h2; omega
    have hl : lookD (fun k => D k || Nat.beq k i) recs σs ops.length = lookD D recs σs ops.length := by
      funext id
      unfold lookD
      rw [hD_congr (D := fun k => D k || Nat.beq k i) (D' := D) ops.length]
      intro k _ ht
      have hne : k ≠ i := fun e => hnt id (e ▸ ht)
      have : Nat.beq k i = false := by
        cases hb : Nat.beq k i with
        | false => rfl
        | true => exact absurd (beqT hb) hne
      rw [this, Bool.or_false]
    refine ⟨by rw [hl]; exact hI.hr, hI.st, tmp_more hO hr hN ho (by rw [hv]; simp [VR]) hI.tm, ?_, ?_⟩
    · have : (a.put o.dst undef).defers = a.defers := by cases o.dst <;> rfl
      rw [this]; exact hI.mks
    · intro id g l e h1 h2
      obtain ⟨k, r', hk, hrest⟩ := hI.fr id g l e h1 h2
      exact ⟨k, r', by simp [hk], hrest⟩
end
end Go.Vai
