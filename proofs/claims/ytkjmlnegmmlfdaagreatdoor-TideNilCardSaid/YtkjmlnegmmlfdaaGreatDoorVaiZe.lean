/-
  Drawn regions: the state behind some of the operations.
-/
import Derived.Test.YtkjmlnegmmlfdaaGreatDoorVaiZd
namespace Go.Vai
open Go

section
variable {E : Env} {P : Program} {V : Ev} {ops : List Oper} {masks : List Nat} {recs : List Rec} {σs : Nat → St} {τs : Nat → Tm} {vs : Nat → AV}
theorem chain (hV : Sound E P V) (hr : RunAt E V ops masks recs σs τs vs) : ∀ m, m ≤ ops.length →
    Tr (σs 0) (σs m) ∧ (∀ j r, j < m → recs[j]? = some r → r.hi ≤ (σs m).next ∧ (σs 0).next ≤ r.lo) ∧ (∀ j, j ≤ m → (σs j).next ≤ (σs m).next)
  | 0, _ => ⟨Tr.refl _, fun j r h => by omega, fun j h => by have : j = 0 := by omega
                                                             subst this; exact Nat.le_refl _⟩
  | m + 1, hm => by
    obtain ⟨t, h1, h2⟩ := chain hV hr m (by omega)
    have hlt : m < ops.length := by omega
    obtain ⟨r, hs⟩ := hr m ops[m] (by simp [hlt])
    obtain ⟨t1, _⟩ := step_facts hV hs (fun j r' hj hr' => (h1 j r' hj hr').1)
    refine ⟨t.trans t1, ?_, ?_⟩
    · intro j r' hj hr'
      by_cases e : j = m
      · subst e
        rw [hs.at'] at hr'; simp only [Option.some.injEq] at hr'; subst hr'
        exact ⟨by rw [hs.hi]; exact Nat.le_refl _, by rw [hs.lo]; exact t.next⟩
      · obtain ⟨a, b⟩ := h1 j r' (by omega) hr'
        exact ⟨Nat.le_trans a t1.next, b⟩
    · intro j hj
      by_cases e : j = m + 1
      · subst e; exact Nat.le_refl _
      · exact Nat.le_trans (h2 j (by omega)) t1.next
theorem untouched (hV : Sound E P V) (hr : RunAt E V ops masks recs σs τs vs) (hW : WF (σs 0)) {k id : Nat} (hk : k < ops.length) (h : ¬ Touch recs k id) : (σs (k + 1)).h.get id = (σs k).h.get id := by
  obtain ⟨t, h1, _⟩ := chain hV hr k (by omega)
  obtain ⟨r, hs⟩ := hr k ops[k] (by simp [hk])
  exact (step_facts hV hs (fun j r' hj hr' => (h1 j r' hj hr').1)).2 id h (t.wf hW)

open Classical in
/-- The heap behind those operations among the first m that are in D. -/
noncomputable def hD (D : Nat → Bool) (recs : List Rec) (σs : Nat → St) : Nat → Nat → Option AObj
  | 0, id => (σs 0).h.get id
  | m + 1, id => if D m = true ∧ Touch recs m id then (σs (m + 1)).h.get id else hD D recs σs m id
theorem hD_all (hV : Sound E P V) (hr : RunAt E V ops masks recs σs τs vs) (hW : WF (σs 0)) {D : Nat → Bool} {id : Nat} : ∀ m, m ≤ ops.length → (∀ k, k < m → Touch recs k id → D k = true) → hD D recs σs m id = (σs m).h.get id
  | 0, _, _ => rfl
  | m + 1, hm, h => by
    unfold hD
    by_cases ht : Touch recs m id
    · rw [if_pos ⟨h m (by omega) ht, ht⟩]
    · rw [if_neg (fun e => ht e.2), hD_all hV hr hW m (by omega) (fun k hk => h k (by omega))]
      exact (untouched hV hr hW (by omega) ht).symm
theorem hD_none {D : Nat → Bool} {id : Nat} (i : Nat) : ∀ m, i ≤ m → (∀ k, i ≤ k → k < m → D k = true → ¬ Touch recs k id) → hD D recs σs m id = hD D recs σs i id
  | 0, hi, _ => by have : i = 0 := by omega
                   subst this; rfl
  | m + 1, hi, h => by
    by_cases e : i = m + 1
    · subst e; rfl
    · conv => lhs; unfold hD
      rw [if_neg (fun hh => h m (by omega) (by omega) hh.1 hh.2), hD_none i m (by omega) (fun k a b => h k a (by omega))]
theorem hD_congr {D D' : Nat → Bool} {id : Nat} : ∀ m, (∀ k, k < m → Touch recs k id → D k = D' k) → hD D recs σs m id = hD D' recs σs m id
  | 0, _ => rfl
  | m + 1, h => by
    unfold hD
    by_cases ht : Touch recs m id
    · rw [h m (by omega) ht, hD_congr m (fun k hk => h k (by omega))]
    · rw [if_neg (fun e => ht e.2), if_neg (fun e => ht e.2), hD_congr m (fun k hk => h k (by omega))]

/-! temporaries -/
/-- The temporaries behind those operations among the first m that are in D. -/
noncomputable def tD (D : Nat → Bool) (ops : List Oper) (τ : Tm) (vs : Nat → AV) : Nat → Tm
  | 0 => τ
  | m + 1 => cond (D m) (match ops[m]? with
    | some o => match o.dst with | some d => (tD D ops τ vs m).set d (vs m) | none => tD D ops τ vs m
    | none => tD D ops τ vs m) (tD D ops τ vs m)
theorem tD_meta {D : Nat → Bool} {τ : Tm} : ∀ m, (tD D ops τ vs m).n = τ.n ∧ (tD D ops τ vs m).marks = τ.marks
  | 0 => ⟨rfl, rfl⟩
  | m + 1 => by
    have ih := tD_meta (D := D) (τ := τ) m
    unfold tD
    cases D m with
    | false => exact ih
    | true =>
      simp only [cond_true]
      split
      · split
        · exact ih
        · exact ih
      · exact ih
theorem tD_get {D : Nat → Bool} {τ : Tm} (m t : Nat) : (tD D ops τ vs (m + 1)).t.get t = if D m = true ∧ ∃ o, ops[m]? = some o ∧ o.dst = some t then some (vs m) else (tD D ops τ vs m).t.get t := by
  conv => lhs; unfold tD
  cases hD : D m with
  | false => simp
  | true =>
    simp only [cond_true, true_and]
    split
    · rename_i o ho
      split
      · rename_i d hd
        simp only [Tm.set, T.get_set']
        by_cases e : t = d
        · subst e
          rw [if_pos rfl, if_pos ⟨o, ho, hd⟩]
        · rw [if_neg e, if_neg]
          rintro ⟨o', ho', hd'⟩
          rw [ho] at ho'; simp only [Option.some.injEq] at ho'; subst ho'
          rw [hd] at hd'; simp only [Option.some.injEq] at hd'
          exact e hd'.symm
      · rename_i hd
        rw [if_neg]
        rintro ⟨o', ho', hd'⟩
        rw [ho] at ho'; simp only [Option.some.injEq] at ho'; subst ho'
        rw [hd] at hd'; simp at hd'
    · rename_i ho
      rw [if_neg]
      rintro ⟨o', ho', _⟩
      rw [ho] at ho'; simp at ho'
end
end Go.Vai
