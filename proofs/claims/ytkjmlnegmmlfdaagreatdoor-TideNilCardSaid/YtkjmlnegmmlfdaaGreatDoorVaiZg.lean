/-
  Drawn regions: the temporaries in another order.
-/
import Derived.Test.YtkjmlnegmmlfdaaGreatDoorVaiZf
namespace Go.Vai
open Go

section
variable {E : Env} {P : Program} {V : Ev} {ops : List Oper} {recs : List Rec} {σs : Nat → St} {τs : Nat → Tm} {vs : Nat → AV} {D : Nat → Bool} {i : Nat} {masks : List Nat}
theorem put_facts {k : Nat} {o : Oper} {r : Rec} (hs : StepAt E V ops masks recs σs τs vs k o r) : (τs (k + 1)).n = (τs k).n ∧ (τs (k + 1)).marks = (τs k).marks ∧ (∀ d, o.dst = some d → d < (τs k).n) ∧
    ∀ t, (τs (k + 1)).t.get t = if o.dst = some t then some (vs k) else (τs k).t.get t := by
  have h := hs.put
  cases hd : o.dst with
  | none =>
    rw [hd] at h
    simp only [Tm.put, Option.some.injEq] at h
    rw [← h]
    exact ⟨rfl, rfl, fun d e => by simp at e, fun t => by simp⟩
  | some d =>
    rw [hd] at h
    simp only [Tm.put] at h
    obtain ⟨h1, h2⟩ := condT h
    simp only [Option.some.injEq] at h2
    rw [← h2]
    refine ⟨rfl, rfl, fun d' e => by simp at e; subst e; exact bltT h1, fun t => ?_⟩
    simp only [Tm.set, T.get_set', Option.some.injEq]
    by_cases e : t = d
    · subst e; simp
    · rw [if_neg e, if_neg (fun e' => e e'.symm)]
theorem tmeta (hr : RunAt E V ops masks recs σs τs vs) : ∀ m, m ≤ ops.length → (τs m).n = (τs 0).n ∧ (τs m).marks = (τs 0).marks
  | 0, _ => ⟨rfl, rfl⟩
  | m + 1, hm => by
    obtain ⟨a, b⟩ := tmeta hr m (by omega)
    obtain ⟨r, hs⟩ := hr m ops[m] (by simp)
    obtain ⟨h1, h2, _⟩ := put_facts hs
    exact ⟨h1.trans a, h2.trans b⟩
theorem tD_all (hr : RunAt E V ops masks recs σs τs vs) {t : Nat} : ∀ m, m ≤ ops.length → (∀ k o, k < m → ops[k]? = some o → o.dst = some t → D k = true) → (tD D ops (τs 0) vs m).t.get t = (τs m).t.get t
  | 0, _, _ => rfl
  | m + 1, hm, h => by
    have hlt : m < ops.length := by omega
    obtain ⟨r, hs⟩ := hr m ops[m] (by simp [hlt])
    obtain ⟨_, _, _, hg⟩ := put_facts hs
    rw [tD_get, hg, tD_all hr m (by omega) (fun k o hk => h k o (by omega))]
    by_cases e : ops[m].dst = some t
    · rw [if_pos e, if_pos ⟨h m ops[m] (by omega) (by simp [hlt]) e, ops[m], by simp [hlt], e⟩]
    · rw [if_neg e, if_neg]
      rintro ⟨_, o', ho', e'⟩
      rw [List.getElem?_eq_getElem hlt] at ho'
      simp only [Option.some.injEq] at ho'
      subst ho'
      exact e e'
theorem tD_none {τ : Tm} {t : Nat} (i : Nat) : ∀ m, i ≤ m → (∀ k o, i ≤ k → k < m → D k = true → ops[k]? = some o → o.dst ≠ some t) → (tD D ops τ vs m).t.get t = (tD D ops τ vs i).t.get t
  | 0, hi, _ => by have : i = 0 := by omega
                   subst this; rfl
  | m + 1, hi, h => by
    by_cases e : i = m + 1
    · subst e; rfl
    · rw [tD_get, if_neg, tD_none i m (by omega) (fun k o a b => h k o a (by omega))]
      rintro ⟨hD, o, ho, hd⟩
      exact h m o (by omega) (by omega) hD ho hd
theorem tD_congr {D' : Nat → Bool} {τ : Tm} {t : Nat} : ∀ m, (∀ k o, k < m → ops[k]? = some o → o.dst = some t → D k = D' k) → (tD D ops τ vs m).t.get t = (tD D' ops τ vs m).t.get t
  | 0, _ => rfl
  | m + 1, h => by
    rw [tD_get, tD_get, tD_congr m (fun k o hk => h k o (by omega))]
    by_cases e : ∃ o, ops[m]? = some o ∧ o.dst = some t
    · obtain ⟨o, ho, hd⟩ := e
      rw [h m o (by omega) ho hd]
    · rw [if_neg (fun x => e x.2), if_neg (fun x => e x.2)]
/-- What an operation looks at among the temporaries. -/
theorem looks (hr : RunAt E V ops (masksOf ops) recs σs τs vs) (hO : okOps ops (masksOf ops) = true) (hN : Next ops D i) {o : Oper} (ho : ops[i]? = some o) {t : Nat} (ht : t ∈ o.looksAt ops.toArray) :
    (tD D ops (τs 0) vs ops.length).t.get t = (τs i).t.get t := by
  have hi : i < ops.length := by
    rcases Nat.lt_or_ge i ops.length with h | h
    · exact h
    · rw [List.getElem?_eq_none h] at ho; simp at ho
  rw [tD_none i ops.length (by omega) ?_, tD_all hr i (by omega) ?_]
  · intro k ok hk hok hd
    cases hm : Nat.testBit ((masksOf ops).getD i 0) k with
    | true => exact hN.pred k hm
    | false => exact absurd ht ((Oper.apart_spec (okOps_spec hO hok ho hk hm)).1 t hd)
  · intro k ok hik hk hDk hok hd
    have hne : k ≠ i := by intro e; subst e; rw [hN.out] at hDk; simp at hDk
    cases hm : Nat.testBit ((masksOf ops).getD k 0) i with
    | true => have := hN.closed k i hDk hm; rw [hN.out] at this; simp at this
    | false => exact (Oper.apart_spec (okOps_spec hO ho hok (by omega) hm)).2.2 t hd ht
theorem looks_ev (hr : RunAt E V ops (masksOf ops) recs σs τs vs) (hO : okOps ops (masksOf ops) = true) (hN : Next ops D i) {o : Oper} (ho : ops[i]? = some o) :
    ∀ x ∈ o.op.operands, ev (tD D ops (τs 0) vs ops.length) x = ev (τs i) x := by
  intro x hx
  cases x with
  | tmp t =>
    simp only [ev, Tm.get]
    rw [looks hr hO hN ho]
    exact List.mem_append_left _ (List.mem_filterMap.2 ⟨.tmp t, by simpa using hx, rfl⟩)
  | _ => rfl
theorem looks_wanted (hr : RunAt E V ops (masksOf ops) recs σs τs vs) (hO : okOps ops (masksOf ops) = true) (hN : Next ops D i) {o : Oper} (ho : ops[i]? = some o) :
    wantedA ops (tD D ops (τs 0) vs ops.length) o = wantedA ops (τs i) o := by
  unfold wantedA
  cases hg : o.guard with
  | none => rfl
  | some g =>
    obtain ⟨j, b⟩ := g
    simp only []
    cases hj : ops[j]? with
    | none => rfl
    | some oj =>
      obtain ⟨dst, op, ty, pos, af, gd⟩ := oj
      cases dst with
      | none => rfl
      | some d =>
        simp only [Tm.get]
        rw [looks hr hO hN ho]
        refine List.mem_append_right _ ?_
        rw [hg]
        simp [hj]
/-- One operation more: its temporary. -/
theorem tD_more (hO : okOps ops (masksOf ops) = true) (hN : Next ops D i) {o : Oper} (ho : ops[i]? = some o) (t : Nat) :
    (tD (fun k => D k || Nat.beq k i) ops (τs 0) vs ops.length).t.get t = if o.dst = some t then some (vs i) else (tD D ops (τs 0) vs ops.length).t.get t := by
  have hi : i < ops.length := by
    rcases Nat.lt_or_ge i ops.length with h | h
    · exact h
    · rw [List.getElem?_eq_none h] at ho; simp at ho
  by_cases hd : o.dst = some t
  · rw [if_pos hd, tD_none (i + 1) ops.length (by omega) ?_, tD_get, if_pos ⟨by simp, o, ho, hd⟩]
    intro k ok hik hk hDk hok hdk
    have hDk' : D k = true := by
      simp only [Bool.or_eq_true] at hDk
      rcases hDk with h | h
      · exact h
      · have := beqT h; omega
    cases hm : Nat.testBit ((masksOf ops).getD k 0) i with
    | true => have := hN.closed k i hDk' hm; rw [hN.out] at this; simp at this
    | false => exact (Oper.apart_spec (okOps_spec hO ho hok (by omega) hm)).2.1 t hd hdk
  · rw [if_neg hd]
    refine tD_congr _ fun k ok hk hok hdk => ?_
    have hne : k ≠ i := by
      intro e; subst e
      rw [ho] at hok; simp only [Option.some.injEq] at hok; subst hok
      exact hd hdk
    have : Nat.beq k i = false := by
      cases hb : Nat.beq k i with
      | false => rfl
      | true => exact absurd (beqT hb) hne
    rw [this, Bool.or_false]
end
end Go.Vai
