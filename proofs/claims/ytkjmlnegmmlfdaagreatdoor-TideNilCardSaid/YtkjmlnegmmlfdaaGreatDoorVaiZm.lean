/-
  All entries of a trie.
-/
import Derived.Test.YtkjmlnegmmlfdaaGreatDoorVaiZl
namespace Go.Vai
open Go

def T.All {α : Type} : (Nat → α → Prop) → T α → Prop
  | _, .leaf => True
  | p, .node v l r => (∀ x, v = some x → p 0 x) ∧ T.All (fun j x => p (2 * j + 1) x) l ∧ T.All (fun j x => p (2 * j + 2) x) r
theorem T.all_get {α : Type} : ∀ (t : T α) (p : Nat → α → Prop) (i : Nat) (x : α), T.All p t → t.get i = some x → p i x
  | .leaf, _, _, _, _, h => by simp [T.get] at h
  | .node v l r, p, i, x, ha, h => by
    obtain ⟨h0, h1, h2⟩ := ha
    rw [T.get_node] at h
    by_cases hi : i = 0
    · rw [if_pos hi] at h
      subst hi
      exact h0 x h
    · rw [if_neg hi] at h
      by_cases hm : i % 2 = 1
      · rw [if_pos hm] at h
        have := T.all_get l _ (i / 2) x h1 h
        have e : 2 * (i / 2) + 1 = i := by omega
        simpa only [e] using this
      · rw [if_neg hm] at h
        have := T.all_get r _ ((i - 1) / 2) x h2 h
        have e : 2 * ((i - 1) / 2) + 2 = i := by omega
        simpa only [e] using this
end Go.Vai
namespace Go.Vai
theorem T.one {α : Type} {p : α → Prop} {y : α} (h : p y) : ∀ x, some y = some x → p x := fun x e => by cases e; exact h
theorem T.zero {α : Type} {p : α → Prop} : ∀ x : α, (none : Option α) = some x → p x := fun x e => by cases e
end Go.Vai
