/-
  What an operation may turn in the abstract state; temporaries.
-/
import Derived.Test.YtkjmlnegmmlfdaaGreatDoorVaiT
namespace Go.Vai
open Go

section
variable {E : Env} {σ σ' : St} {v : AV}
theorem newRow_tr {cells : List AV} {k : AV → AV} (h : aNewRow cells k σ = some (v, σ')) : Tr σ σ' := by
  unfold aNewRow at h
  obtain ⟨_, h⟩ := condT h
  simp only [Option.some.injEq, Prod.mk.injEq] at h
  obtain ⟨_, rfl⟩ := h
  exact Tr.new _ _
theorem alloc_tr {t : TypeId} (h : aAlloc E t σ = some (v, σ')) : Tr σ σ' := by
  unfold aAlloc at h
  split at h
  · simp at h
  · exact newRow_tr h
theorem buildSlice_tr {t : TypeId} {n : Nat} {ps : List (Nat × AV)} (h : aBuildSlice E t n ps σ = some (v, σ')) : Tr σ σ' := by
  unfold aBuildSlice at h
  split at h
  · split at h
    · obtain ⟨_, h⟩ := condT h
      split at h
      · exact newRow_tr h
      · simp at h
    · simp at h
  · simp at h
theorem load_tr {t : TypeId} {a : AV} (h : aLoad E t a σ = some (v, σ')) : σ' = σ := by
  unfold aLoad at h
  split at h
  · split at h
    · obtain ⟨_, h⟩ := condT h
      split at h
      · rename_i ty _
        cases ha : ty.agg with
        | true =>
          simp only [ha, cond_true] at h
          obtain ⟨_, h⟩ := condT h
          simp only [Option.map_eq_some_iff, Prod.mk.injEq] at h
          obtain ⟨_, _, _, rfl⟩ := h; rfl
        | false =>
          simp only [ha, cond_false] at h
          obtain ⟨_, h⟩ := condT h
          simp only [Option.map_eq_some_iff, Prod.mk.injEq] at h
          obtain ⟨_, _, _, rfl⟩ := h; rfl
      · simp at h
    · simp at h
  · split at h
    · rename_i ty _ _ _
      cases ha : ty.agg with
      | true => simp [ha] at h
      | false =>
        simp only [ha, cond_false, Option.map_eq_some_iff, Prod.mk.injEq] at h
        obtain ⟨_, _, _, rfl⟩ := h; rfl
    · simp at h
  · simp at h
theorem store_tr {t : TypeId} {a x : AV} (h : aStore E t a x σ = some (v, σ')) : Tr σ σ' := by
  unfold aStore at h
  split at h
  · split at h
    · rename_i hlook
      obtain ⟨_, h⟩ := condT h
      split at h
      · obtain ⟨_, h⟩ := condT h
        simp only [Option.some.injEq, Prod.mk.injEq] at h
        obtain ⟨_, rfl⟩ := h
        exact Tr.put hlook _
      · simp at h
    · simp at h
  · simp at h
theorem makeSlice_tr {t : TypeId} {l c : AV} (h : aMakeSlice E t l c σ = some (v, σ')) : Tr σ σ' := by
  unfold aMakeSlice at h
  split at h
  · split at h
    · obtain ⟨_, h⟩ := condT h
      exact newRow_tr h
    · simp at h
  · simp at h
theorem update_tr {t : TypeId} {m k x : AV} (h : aUpdate E t m k x σ = some (v, σ')) : Tr σ σ' := by
  unfold aUpdate at h
  split at h
  · split at h
    · rename_i hlook _
      split at h
      · split at h
        · obtain ⟨_, h⟩ := condT h
          simp only [Option.some.injEq, Prod.mk.injEq] at h
          obtain ⟨_, rfl⟩ := h
          exact Tr.put hlook _
        · simp at h
      · simp only [Option.some.injEq, Prod.mk.injEq] at h
        obtain ⟨_, rfl⟩ := h
        exact Tr.put hlook _
      · simp at h
    · simp at h
  · simp at h
theorem delete_tr {t : TypeId} {m k : AV} (h : aDelete E t m k σ = some (v, σ')) : Tr σ σ' := by
  unfold aDelete at h
  split at h
  · split at h
    · rename_i hlook _
      split at h
      · simp only [Option.some.injEq, Prod.mk.injEq] at h
        obtain ⟨_, rfl⟩ := h
        exact Tr.put hlook _
      · simp only [Option.some.injEq, Prod.mk.injEq] at h
        obtain ⟨_, rfl⟩ := h
        exact Tr.refl _
      · simp at h
    · simp at h
  · simp at h
theorem range_tr {t : TypeId} {x : AV} (h : aRange E t x σ = some (v, σ')) : Tr σ σ' := by
  unfold aRange at h
  split at h
  · split at h
    · simp only [Option.some.injEq, Prod.mk.injEq] at h
      obtain ⟨_, rfl⟩ := h
      exact Tr.new _ _
    · split at h
      · simp only [Option.some.injEq, Prod.mk.injEq] at h
        obtain ⟨_, rfl⟩ := h
        exact Tr.new _ _
      · simp at h
    · simp at h
  · simp at h
theorem next_tr {it : AV} (h : aNext it σ = some (v, σ')) : Tr σ σ' := by
  unfold aNext at h
  split at h
  · split at h
    · simp only [Option.some.injEq, Prod.mk.injEq] at h
      obtain ⟨_, rfl⟩ := h
      exact Tr.refl _
    · rename_i hlook
      split at h
      · rename_i seen last _ es clock _
        cases hg : (!seen.isEmpty && !es.isEmpty && es.all fun e => Nat.ble last e.born) with
        | true => rw [hg] at h; simp at h
        | false =>
          rw [hg] at h
          simp only [cond_false] at h
          split at h
          · simp only [Option.some.injEq, Prod.mk.injEq] at h
            obtain ⟨_, rfl⟩ := h
            exact Tr.refl _
          · obtain ⟨_, h⟩ := condT h
            simp only [Option.some.injEq, Prod.mk.injEq] at h
            obtain ⟨_, rfl⟩ := h
            exact Tr.put hlook _
          · simp at h
      · simp at h
    · simp at h
  · simp at h
theorem append_tr {t t2 : TypeId} {s x : AV} (h : aAppend E t t2 s x σ = some (v, σ')) : Tr σ σ' := by
  unfold aAppend at h
  split at h
  · split at h
    · obtain ⟨_, h⟩ := condT h
      split at h
      · split at h
        · simp only [Option.some.injEq, Prod.mk.injEq] at h
          obtain ⟨_, rfl⟩ := h
          exact Tr.refl _
        · obtain ⟨_, h⟩ := condT h
          exact newRow_tr h
      · split at h
        · rename_i hlook
          obtain ⟨_, h⟩ := condT h
          split at h
          · simp only [Option.some.injEq, Prod.mk.injEq] at h
            obtain ⟨_, rfl⟩ := h
            exact Tr.refl _
          · obtain ⟨_, h⟩ := condT h
            split at h
            · obtain ⟨_, h⟩ := condT h
              simp only [Option.some.injEq, Prod.mk.injEq] at h
              obtain ⟨_, rfl⟩ := h
              exact Tr.put hlook _
            · simp only [Option.some.injEq, Prod.mk.injEq] at h
              obtain ⟨_, rfl⟩ := h
              exact Tr.put hlook _
        · simp at h
      · simp at h
    · simp at h
  · simp at h
theorem copy_tr {t : TypeId} {d x : AV} (h : aCopy E t d x σ = some (v, σ')) : Tr σ σ' := by
  unfold aCopy at h
  split at h
  · split at h
    · obtain ⟨_, h⟩ := condT h
      split at h
      · simp only [Option.some.injEq, Prod.mk.injEq] at h
        obtain ⟨_, rfl⟩ := h
        exact Tr.refl _
      · split at h
        · rename_i hlook
          obtain ⟨_, h⟩ := condT h
          simp only [Option.some.injEq, Prod.mk.injEq] at h
          obtain ⟨_, rfl⟩ := h
          exact Tr.put hlook _
        · simp at h
      · simp at h
    · simp at h
  · simp at h
theorem clear_tr {t : TypeId} {x : AV} (h : aClear E t x σ = some (v, σ')) : Tr σ σ' := by
  unfold aClear at h
  replace h := (condT h).2
  split at h
  · simp only [Option.some.injEq, Prod.mk.injEq] at h
    obtain ⟨_, rfl⟩ := h
    exact Tr.refl _
  · split at h
    · simp only [Option.some.injEq, Prod.mk.injEq] at h
      obtain ⟨_, rfl⟩ := h
      exact Tr.refl _
    · split at h
      · rename_i hlook
        obtain ⟨_, h⟩ := condT h
        simp only [Option.some.injEq, Prod.mk.injEq] at h
        obtain ⟨_, rfl⟩ := h
        exact Tr.put hlook _
      · simp at h
    · simp at h
  · simp at h
theorem vals_tr {r : Option AV} {nx : ANext} (h : vals r σ = some (nx, σ')) : Tr σ σ' := by
  obtain ⟨_, _, _, rfl⟩ := vals_some h
  exact Tr.refl _
theorem builtin_tr {b : Builtin} {ats : List TypeId} {args : List AV} {nx : ANext} (h : aBuiltin E b ats args σ = some (nx, σ')) : Tr σ σ' := by
  unfold aBuiltin at h
  split at h
  · exact vals_tr h
  · obtain ⟨v, hv, _⟩ := valr_some h; exact append_tr hv
  · split at h
    · simp only [Option.some.injEq, Prod.mk.injEq] at h
      obtain ⟨_, rfl⟩ := h
      exact Tr.refl _
    · simp at h
  · obtain ⟨v, hv, _⟩ := valr_some h; exact copy_tr hv
  · obtain ⟨v, hv, _⟩ := valr_some h; exact clear_tr hv
  · obtain ⟨v, hv, _⟩ := valr_some h
    simp only [Option.map_eq_some_iff, Prod.mk.injEq] at hv
    obtain ⟨⟨v1, σ1⟩, hv1, _, rfl⟩ := hv
    exact delete_tr hv1
  · exact vals_tr h
  · exact vals_tr h
  · simp at h
theorem call_tr {f : AV} {args : List AV} {nx : ANext} (h : aCall f args σ = some (nx, σ')) : σ' = σ := by
  unfold aCall at h
  split at h <;> simp only [Option.some.injEq, Prod.mk.injEq, reduceCtorEq] at h
  all_goals (obtain ⟨_, rfl⟩ := h; rfl)
theorem op_tr {τ : Tm} {op : Op} {nx : ANext} (h : aOp E τ op σ = some (nx, σ')) : Tr σ σ' := by
  have keep : ∀ {x : ANext}, some (x, σ) = some (nx, σ') → Tr σ σ' := by
    intro x h
    simp only [Option.some.injEq, Prod.mk.injEq] at h
    obtain ⟨_, rfl⟩ := h
    exact Tr.refl _
  unfold aOp at h
  split at h
  · exact keep h
  · exact keep h
  · split at h
    · exact keep h
    · exact keep h
    · simp at h
  · obtain ⟨v, hv, _⟩ := valr_some h; exact alloc_tr hv
  · obtain ⟨v, hv, _⟩ := valr_some h; exact newRow_tr hv
  · exact vals_tr h
  · obtain ⟨v, hv, _⟩ := valr_some h; exact buildSlice_tr hv
  · obtain ⟨v, hv, _⟩ := valr_some h; rw [load_tr hv]; exact Tr.refl _
  · obtain ⟨v, hv, _⟩ := valr_some h; exact store_tr hv
  · exact keep (condT h).2
  · exact vals_tr h
  · exact vals_tr h
  · exact vals_tr h
  · split at h
    · exact keep h
    · simp at h
  · simp only [Option.some.injEq, Prod.mk.injEq] at h
    obtain ⟨_, rfl⟩ := h
    exact Tr.new _ _
  · obtain ⟨v, hv, _⟩ := valr_some h; exact makeSlice_tr hv
  · exact vals_tr h
  · exact vals_tr h
  · exact vals_tr h
  · exact vals_tr h
  · exact vals_tr h
  · exact vals_tr h
  · obtain ⟨v, hv, _⟩ := valr_some h; exact update_tr hv
  · obtain ⟨v, hv, _⟩ := valr_some h; exact update_tr hv
  · obtain ⟨v, hv, _⟩ := valr_some h; exact range_tr hv
  · obtain ⟨v, hv, _⟩ := valr_some h; exact next_tr hv
  · exact vals_tr h
  · split at h
    · simp only [Option.map_eq_some_iff, Prod.mk.injEq] at h
      obtain ⟨_, _, _, rfl⟩ := h
      exact Tr.refl _
    · simp at h
  · rw [call_tr h]; exact Tr.refl _
  · exact builtin_tr h
  · simp at h
theorem op_defer {τ : Tm} {op : Op} {nx : ANext} (h : aOp E τ op σ = some (nx, σ')) : ∀ c, op ≠ .defer c := by
  intro c e
  subst e
  simp [aOp] at h
end

/-! temporaries -/
section
variable {β : Map} {τ τ' : Tm} {a : Act}
theorem put_ok {dst : Option Tmp} {v : AV} {u : Value} (h : τ.put dst v = some τ') (hv : VR β v u) (ht : TmpR β τ.t τ.n a.tmps) :
    TmpR β τ'.t τ'.n (a.put dst u).tmps ∧ τ'.marks = τ.marks ∧ (a.put dst u).defers = a.defers := by
  cases dst with
  | none =>
    simp only [Tm.put, Option.some.injEq] at h; subst h
    exact ⟨ht, rfl, rfl⟩
  | some d =>
    simp only [Tm.put] at h
    obtain ⟨h1, h2⟩ := condT h
    replace h1 := bltT h1
    simp only [Option.some.injEq] at h2; subst h2
    obtain ⟨t1, t2, t3⟩ := ht
    refine ⟨⟨by simp [Act.put, Tm.set, t1], ?_, ?_⟩, rfl, rfl⟩
    · intro i hi
      simp only [Tm.set] at hi ⊢
      rw [T.get_set', if_neg (by omega)]
      exact t2 i hi
    · intro i hi
      simp only [Tm.set] at hi
      simp only [Tm.set, Act.put]
      rw [T.get_set']
      by_cases e : i = d
      · subst e
        rw [if_pos rfl, Array.getD_eq_getD_getElem?, Array.getElem?_setIfInBounds_self_of_lt (by omega)]
        exact hv
      · rw [if_neg e, Array.getD_eq_getD_getElem?, Array.getElem?_setIfInBounds_ne (by omega), ← Array.getD_eq_getD_getElem?]
        exact t3 i hi
end
end Go.Vai
