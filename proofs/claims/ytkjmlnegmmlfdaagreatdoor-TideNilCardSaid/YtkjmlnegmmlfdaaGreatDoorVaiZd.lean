/-
  Drawn regions: what is hidden, what is touched, in the text's order.
-/
import Derived.Test.YtkjmlnegmmlfdaaGreatDoorVaiZc
namespace Go.Vai
open Go

theorem hidden_append (id : Nat) : ∀ (a b : List (Nat × Nat)), hidden id (a ++ b) = (hidden id a || hidden id b)
  | [], b => rfl
  | (x, y) :: a, b => by
    simp only [List.cons_append, hidden, hidden_append id a b]
    cases (Nat.ble x id && Nat.blt id y) <;> rfl
theorem hidden_cons (id x y : Nat) (l : List (Nat × Nat)) : hidden id ((x, y) :: l) = true ↔ (x ≤ id ∧ id < y) ∨ hidden id l = true := by
  simp only [hidden]
  cases h : (Nat.ble x id && Nat.blt id y) with
  | true =>
    simp only [Bool.and_eq_true] at h
    simp [bleT h.1, bltT h.2]
  | false =>
    simp only [cond_false]
    constructor
    · exact .inr
    · rintro (⟨h1, h2⟩ | h')
      · have : Nat.ble x id = true := by simpa using h1
        have h3 : Nat.blt id y = true := by simpa using h2
        rw [this, h3] at h; simp at h
      · exact h'
theorem except1_vis (N id : Nat) (h : N ≤ id) (l : List Nat) : hidden id (except1 N l) = false := by
  cases hh : hidden id (except1 N l) with
  | false => rfl
  | true =>
    exfalso
    unfold except1 at hh
    split at hh
    · rw [hidden_cons] at hh
      rcases hh with hh | hh
      · omega
      · simp [hidden] at hh
    · rename_i a
      rw [hidden_cons, hidden_cons] at hh
      have := Nat.min_le_right a N
      rcases hh with hh | hh | hh
      · have h2 : id < Nat.min a N := hh.2
        have h3 : Nat.min a N ≤ N := this
        omega
      · omega
      · simp [hidden] at hh
    · rename_i a b
      cases hb : Nat.ble a b with
      | true =>
        rw [hb] at hh
        simp only [cond_true, hidden_cons] at hh
        have h1 : Nat.min a N ≤ N := Nat.min_le_right a N
        have h2 : Nat.min b N ≤ N := Nat.min_le_right b N
        rcases hh with hh | hh | hh | hh
        · omega
        · omega
        · omega
        · simp [hidden] at hh
      | false =>
        rw [hb] at hh
        simp only [cond_false, hidden_cons] at hh
        have h1 : Nat.min a N ≤ N := Nat.min_le_right a N
        have h2 : Nat.min b N ≤ N := Nat.min_le_right b N
        rcases hh with hh | hh | hh | hh
        · omega
        · omega
        · omega
        · simp [hidden] at hh
    · simp [hidden] at hh
theorem hidFrom_true {mask id : Nat} : ∀ {l : List Rec} {i : Nat}, hidden id (hidFrom mask i l) = true ↔ ∃ j r, l[j]? = some r ∧ Nat.testBit mask (i + j) = false ∧ r.lo ≤ id ∧ id < r.hi
  | [], i => by simp [hidFrom, hidden]
  | r :: l, i => by
    simp only [hidFrom]
    cases hb : (Nat.testBit mask i || Nat.beq r.lo r.hi) with
    | true =>
      simp only [cond_true]
      rw [hidFrom_true]
      constructor
      · rintro ⟨j, q, h1, h2, h3⟩
        exact ⟨j + 1, q, by simpa using h1, by rw [← h2]; congr 1; omega, h3⟩
      · rintro ⟨j, q, h1, h2, h3⟩
        cases j with
        | zero =>
          simp only [List.getElem?_cons_zero, Option.some.injEq] at h1
          subst h1
          rw [Nat.add_zero] at h2
          rw [h2] at hb
          have := beqT (by simpa using hb : Nat.beq r.lo r.hi = true)
          omega
        | succ j => exact ⟨j, q, by simpa using h1, by rw [← h2]; congr 1; omega, h3⟩
    | false =>
      simp only [cond_false]
      rw [hidden_cons, hidFrom_true]
      simp only [Bool.or_eq_false_iff] at hb
      constructor
      · rintro (h | ⟨j, q, h1, h2, h3⟩)
        · exact ⟨0, r, rfl, by simpa using hb.1, h⟩
        · exact ⟨j + 1, q, by simpa using h1, by rw [← h2]; congr 1; omega, h3⟩
      · rintro ⟨j, q, h1, h2, h3⟩
        cases j with
        | zero =>
          simp only [List.getElem?_cons_zero, Option.some.injEq] at h1
          subst h1
          exact .inl h3
        | succ j => exact .inr ⟨j, q, by simpa using h1, by rw [← h2]; congr 1; omega, h3⟩

section
variable {E : Env} {P : Program} {V : Ev} {ops : List Oper} {masks : List Nat} {recs : List Rec} {σs : Nat → St} {τs : Nat → Tm} {vs : Nat → AV}
/-- All of the run. -/
def RunAt (E : Env) (V : Ev) (ops : List Oper) (masks : List Nat) (recs : List Rec) (σs : Nat → St) (τs : Nat → Tm) (vs : Nat → AV) : Prop :=
  ∀ k o, ops[k]? = some o → ∃ r, StepAt E V ops masks recs σs τs vs k o r
def Touch (recs : List Rec) (k id : Nat) : Prop := ∃ r, recs[k]? = some r ∧ (id ∈ r.w ∨ (r.lo ≤ id ∧ id < r.hi))
theorem step_facts (hV : Sound E P V) {k : Nat} {o : Oper} {r : Rec} (h : StepAt E V ops masks recs σs τs vs k o r) (hpre : ∀ j r', j < k → recs[j]? = some r' → r'.hi ≤ (σs k).next) :
    Tr (σs k) (σs (k + 1)) ∧ (∀ id, ¬ Touch recs k id → WF (σs k) → (σs (k + 1)).h.get id = (σs k).h.get id) := by
  rcases h.run with ⟨hw, hhid, σ1, hop, hs, hwr⟩ | ⟨hw, hv, hs, hwr, hh⟩
  · have t := oper_tr hV hop
    obtain ⟨l, e1, s1, v1⟩ := t.log
    simp only [List.append_nil] at e1
    have hvis : WF (σs k) → ∀ id, (σs k).next ≤ id → hidden id r.hid = false := by
      intro hW id hid
      rw [hhid]
      unfold hidAt
      rw [hidden_append, hidden_append, hW.vis id hid]
      have h1 : hidden id (footHid (τs k) o.op (σs k).next) = false := by
        unfold footHid
        cases foot (τs k) o.op with
        | none => rfl
        | some l => exact except1_vis _ _ hid l
      rw [h1]
      simp only [Bool.false_or, Bool.or_false]
      cases hx : hidden id (hidFrom (masks.getD k 0) 0 (recs.take k)) with
      | false => rfl
      | true =>
        obtain ⟨j, r', hj, _, _, hlt⟩ := hidFrom_true.1 hx
        rw [List.getElem?_take] at hj
        split at hj
        · rename_i hjk
          have := hpre j r' hjk hj
          omega
        · simp at hj
    have hhs : ∀ id, hidden id r.hid = false → hidden id (σs k).hid = false := by
      intro id hid
      rw [hhid] at hid
      unfold hidAt at hid
      rw [hidden_append, hidden_append] at hid
      simp only [Bool.or_eq_false_iff] at hid
      exact hid.2.2
    refine ⟨⟨?_, by rw [hs], ⟨l, by rw [hs, e1], ?_, ?_⟩, ?_, ?_⟩, ?_⟩
    · rw [hs]; exact t.next
    · intro id hid hn; rw [hs]; exact s1 id hid hn
    · intro id hm hid; exact hhs id (v1 id hm hid)
    · intro id hid; rw [hs]; exact t.dom id hid
    · intro hW
      have hW1 := t.wf ⟨hW.none, hvis hW⟩
      rw [hs]
      refine ⟨hW1.none, fun id hid => ?_⟩
      have hn : (σs k).next ≤ σ1.next := t.next
      exact hW.vis id (Nat.le_trans hn hid)
    · intro id hnt hW
      have hW1 := t.wf ⟨hW.none, hvis hW⟩
      rw [hs]
      have hn : (σs k).next ≤ σ1.next := t.next
      rcases Nat.lt_or_ge id (σs k).next with hlt | hge
      · refine s1 id hlt fun hm => hnt ⟨r, h.at', .inl ?_⟩
        rw [hwr, List.mem_filter, e1]
        exact ⟨hm, by simpa using hlt⟩
      · rw [hW.none id hge]
        have hge1 : σ1.next ≤ id := by
          rcases Nat.lt_or_ge id σ1.next with h' | h'
          · exfalso
            refine hnt ⟨r, h.at', .inr ⟨by rw [h.lo]; exact hge, by rw [h.hi, hs]; exact h'⟩⟩
          · exact h'
        exact hW1.none id hge1
  · rw [hs]
    exact ⟨Tr.refl _, fun _ _ _ => rfl⟩
end
end Go.Vai
