/-
  How an abstract state stands to a world of the model: values, objects, states; what a step may turn; how steps follow one another.
-/
import Derived.Test.YtkjmlnegmmlfdaaGreatDoorVaiB
import Derived.Laws.AppendOwn
import Derived.Laws.CopyRow
import Derived.Laws.MakeOwn
import Derived.MapKept
import Derived.RangeFuncRecord
namespace Go.Vai
open Go

theorem beqF {a b : Nat} (h : a ≠ b) : Nat.beq a b = false := by
  cases hb : Nat.beq a b with
  | false => rfl
  | true => exact absurd (Nat.eq_of_beq_eq_true hb) h
theorem beqT {a b : Nat} (h : Nat.beq a b = true) : a = b := Nat.eq_of_beq_eq_true h
theorem bleT {a b : Nat} (h : Nat.ble a b = true) : a ≤ b := Nat.le_of_ble_eq_true h
theorem bltT {a b : Nat} (h : Nat.blt a b = true) : a < b := Nat.le_of_ble_eq_true h

/-! ### Tries -/
namespace T
variable {α : Type}
theorem get_leaf (i : Nat) : (T.leaf : T α).get i = none := rfl
theorem get_node (v : Option α) (l r : T α) (j : Nat) : (T.node v l r).get j = if j = 0 then v else if j % 2 = 1 then l.get (j / 2) else r.get ((j - 1) / 2) := by
  cases j with
  | zero => rfl
  | succ k =>
    rw [if_neg (by omega)]
    by_cases h : k % 2 = 1
    · rw [if_neg (by omega)]
      have e : (k + 1 - 1) / 2 = k / 2 := by omega
      rw [e]
      show (Bool.rec (T.get l (k / 2)) (T.get r (k / 2)) (Nat.beq (k % 2) 1) : Option α) = _
      rw [h]; rfl
    · rw [if_pos (by omega)]
      have e : (k + 1) / 2 = k / 2 := by omega
      rw [e]
      show (Bool.rec (T.get l (k / 2)) (T.get r (k / 2)) (Nat.beq (k % 2) 1) : Option α) = _
      rw [beqF h]
theorem get_single (f : Nat) : ∀ (i j : Nat) (x : α), i < f → (single f i x).get j = if j = i then some x else none := by
  induction f with
  | zero => intro i j x h; omega
  | succ f ih =>
    intro i j x h
    cases i with
    | zero =>
      show (T.node (some x) .leaf .leaf : T α).get j = _
      rw [get_node]
      by_cases hj : j = 0
      · rw [if_pos hj, if_pos hj]
      · rw [if_neg hj, if_neg hj, get_leaf, get_leaf]; simp
    | succ k =>
      show (Bool.rec (.node none (single f (k / 2) x) .leaf) (.node none .leaf (single f (k / 2) x)) (Nat.beq (k % 2) 1) : T α).get j = _
      by_cases hk : k % 2 = 1
      · have : Nat.beq (k % 2) 1 = true := by rw [hk]; rfl
        rw [this]
        show (T.node none .leaf (single f (k / 2) x) : T α).get j = _
        rw [get_node, ih _ _ _ (by omega), get_leaf]
        by_cases hj : j = 0
        · rw [if_pos hj, if_neg (by omega)]
        · rw [if_neg hj]
          by_cases hm : j % 2 = 1
          · rw [if_pos hm, if_neg (by omega)]
          · rw [if_neg hm]
            by_cases e : j = k + 1
            · rw [if_pos e, if_pos (by omega)]
            · rw [if_neg e, if_neg (by omega)]
      · rw [beqF hk]
        show (T.node none (single f (k / 2) x) .leaf : T α).get j = _
        rw [get_node, ih _ _ _ (by omega), get_leaf]
        by_cases hj : j = 0
        · rw [if_pos hj, if_neg (by omega)]
        · rw [if_neg hj]
          by_cases hm : j % 2 = 1
          · rw [if_pos hm]
            by_cases e : j = k + 1
            · rw [if_pos e, if_pos (by omega)]
            · rw [if_neg e, if_neg (by omega)]
          · rw [if_neg hm, if_neg (by omega)]
theorem get_set (f : Nat) : ∀ (t : T α) (i j : Nat) (x : α), i < f → (set f t i x).get j = if j = i then some x else t.get j := by
  intro t
  induction t with
  | leaf => intro i j x h; exact get_single f i j x h
  | node v l r ihl ihr =>
    intro i j x h
    cases i with
    | zero =>
      show (T.node (some x) l r).get j = _
      rw [get_node, get_node]
      by_cases hj : j = 0
      · rw [if_pos hj, if_pos hj]
      · rw [if_neg hj, if_neg hj, if_neg hj]
    | succ k =>
      show (Bool.rec (.node v (set f l (k / 2) x) r) (.node v l (set f r (k / 2) x)) (Nat.beq (k % 2) 1) : T α).get j = _
      by_cases hk : k % 2 = 1
      · have : Nat.beq (k % 2) 1 = true := by rw [hk]; rfl
        rw [this]
        show (T.node v l (set f r (k / 2) x) : T α).get j = _
        rw [get_node, get_node, ihr _ _ _ (by omega)]
        by_cases hj : j = 0
        · rw [if_pos hj, if_neg (by omega), if_pos hj]
        · rw [if_neg hj, if_neg hj]
          by_cases hm : j % 2 = 1
          · rw [if_pos hm, if_pos hm, if_neg (by omega)]
          · rw [if_neg hm, if_neg hm]
            by_cases e : j = k + 1
            · rw [if_pos e, if_pos (by omega)]
            · rw [if_neg e, if_neg (by omega)]
      · rw [beqF hk]
        show (T.node v (set f l (k / 2) x) r : T α).get j = _
        rw [get_node, get_node, ihl _ _ _ (by omega)]
        by_cases hj : j = 0
        · rw [if_pos hj, if_neg (by omega), if_pos hj]
        · rw [if_neg hj, if_neg hj]
          by_cases hm : j % 2 = 1
          · rw [if_pos hm, if_pos hm]
            by_cases e : j = k + 1
            · rw [if_pos e, if_pos (by omega)]
            · rw [if_neg e, if_neg (by omega)]
          · rw [if_neg hm, if_neg hm, if_neg (by omega)]
theorem get_set' (t : T α) (i j : Nat) (x : α) : (set (i + 1) t i x).get j = if j = i then some x else t.get j := get_set _ t i j x (by omega)
end T
end Go.Vai
