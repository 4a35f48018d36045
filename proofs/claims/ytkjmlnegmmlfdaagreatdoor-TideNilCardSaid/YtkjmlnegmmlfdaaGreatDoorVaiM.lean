/-
  A row's new generation: in its own block, or in a new one.
-/
import Derived.Test.YtkjmlnegmmlfdaaGreatDoorVaiL
namespace Go.Vai
open Go

theorem seg_grow (cs us : List Value) (s k : Nat) (h : s + k ≤ cs.length) (j m : Nat) (hj : j + m ≤ s + k) :
    ((cs.take (s + k) ++ us ++ cs.drop (s + k + us.length)).drop j).take m = (cs.drop j).take m := by
  rw [List.append_assoc, List.drop_append_of_le_length (by simp; omega), List.take_append_of_le_length (by simp; omega), List.drop_take, List.take_take, Nat.min_eq_left (by omega)]
theorem seg_grow' (cs us : List Value) (s k : Nat) (h : s + k ≤ cs.length) :
    ((cs.take (s + k) ++ us ++ cs.drop (s + k + us.length)).drop s).take (k + us.length) = (cs.drop s).take k ++ us := by
  rw [List.append_assoc, List.drop_append_of_le_length (by simp; omega), List.drop_take]
  have e : s + k - s = k := by omega
  rw [e]
  have hl : ((cs.drop s).take k).length = k := by simp; omega
  rw [List.take_append, hl, List.take_of_length_le (by omega)]
  congr 1
  have e2 : k + us.length - k = us.length := by omega
  rw [e2, List.take_append_of_le_length (by omega), List.take_length]

section
variable {E : Env} {P : Program} {β : Map} {B : Nat} {σ : St} {w : World}
theorem genNew (hR : HR E B β σ.look w) {id gen mg : Nat} {cells : List AV} (h : σ.look id = some (.row gen mg cells)) {l : Loc} (hl : β id gen = some l) {off k : Nat} (hk : off + k ≤ cells.length)
    {new : List AV} (hc : new.all isCell = true) (L : Loc) (hLn : L.n = k + new.length) (w' : World)
    (hLb : L.b = l.b ∧ L.s = l.s + off ∨ L.b = w.heap.size) (hown : L.b < w'.heap.size)
    (hos : w'.os = w.os) (htape : w'.tape = w.tape) (hout : w'.output = w.output) (hsize : w.heap.size ≤ w'.heap.size)
    (keep : ∀ b, b < w.heap.size → b ≠ l.b → w'.heap[b]? = w.heap[b]?)
    (same : ∀ L0 : Loc, L0.b = l.b → (L0.s = l.s) → off = 0 → L0.n ≤ k → L0.s + L0.n ≤ L0.sz → RowR β w L0 cells → ∃ cs el, w'.heap[L0.b]? = some (.cells cs el (0, 0)) ∧ cs.size = L0.sz ∧ L0.s + L0.n ≤ cs.size ∧ VRs β (cells.take L0.n) ((cs.toList.drop L0.s).take L0.n))
    (row : RowR β w' L (((cells.take (off + k)).drop off) ++ new)) (lo hi : Nat) :
    HR E B (put1 β id (gen + 1) L) (upd σ.look id (.row (gen + 1) (cond (Nat.beq off 0 && Nat.beq k cells.length) mg (gen + 1)) (((cells.take (off + k)).drop off) ++ new))) w' ∧
      Step β (put1 β id (gen + 1) L) σ.look lo hi w w' := by
  obtain ⟨hmg, hall, hnone, hsame, hrows⟩ := hR.obj id _ h
  have hnew : β id (gen + 1) = none := hnone _ (by omega)
  have hown0 := hR.own id _ gen l h hl
  have hsub := put1_sub (l := L) hnew
  have hclen : (((cells.take (off + k)).drop off) ++ new).length = k + new.length := by simp; omega
  refine hR.change id _ lo hi hsub ?_ (.inl ⟨_, h⟩) hos htape hout hsize ?_ ?_
  · intro i g x e
    rcases put1_new e with e | ⟨rfl, _, rfl⟩
    · exact .inl e
    · refine .inr ⟨rfl, ?_⟩
      rcases hLb with ⟨hb, _⟩ | hb
      · exact .inr ⟨gen, l, hl, hb.symm⟩
      · exact .inl ⟨by omega, hown⟩
  · intro b hb hno
    exact keep b hb fun e => hno gen l hl e.symm
  · have old : ∀ g, g ≠ gen + 1 → put1 β id (gen + 1) L id g = β id g := by
      intro g hg; unfold put1; rw [if_neg (by omega)]
    have hmgE : ∀ g, cond (Nat.beq off 0 && Nat.beq k cells.length) mg (gen + 1) ≤ g → g ≤ gen + 1 → g = gen + 1 ∨ (off = 0 ∧ k = cells.length ∧ mg ≤ g ∧ g ≤ gen) := by
      intro g a b
      cases hcnd : (Nat.beq off 0 && Nat.beq k cells.length) with
      | false => rw [hcnd] at a; simp at a; exact .inl (by omega)
      | true =>
        rw [hcnd] at a
        simp only [Bool.and_eq_true] at hcnd
        have h1 := beqT hcnd.1
        have h2 := beqT hcnd.2
        simp only [cond_true] at a
        by_cases e : g = gen + 1
        · exact .inl e
        · exact .inr ⟨h1, h2, a, by omega⟩
    refine ⟨?_, ?_, ?_, ?_, ?_⟩
    · cases (Nat.beq off 0 && Nat.beq k cells.length) <;> simp <;> omega
    · rw [List.all_append, Bool.and_eq_true]
      refine ⟨?_, hc⟩
      rw [List.all_eq_true] at hall ⊢
      exact fun x hx => hall x (List.mem_of_mem_take (List.mem_of_mem_drop hx))
    · intro g hg
      rw [old g (by omega)]
      exact hnone g (by omega)
    · intro g g' x x' a b a' b' e e' eb
      rcases hmgE g a b with rfl | ⟨h0, hk0, a1, b1⟩
      · rw [put1_same] at e; simp only [Option.some.injEq] at e; subst e
        rcases hmgE g' a' b' with rfl | ⟨h0, hk0, a1', b1'⟩
        · rw [put1_same] at e'; simp only [Option.some.injEq] at e'; subst e'; rfl
        · rw [old g' (by omega)] at e'
          rcases hLb with ⟨hb, hs⟩ | hb
          · have := hsame gen g' l x' hmg (Nat.le_refl _) a1' b1' hl e' (by omega)
            omega
          · have := (hR.own id _ g' x' h e').2; omega
      · rw [old g (by omega)] at e
        rcases hmgE g' a' b' with rfl | ⟨_, _, a1', b1'⟩
        · rw [put1_same] at e'; simp only [Option.some.injEq] at e'; subst e'
          rcases hLb with ⟨hb, hs⟩ | hb
          · have := hsame gen g l x hmg (Nat.le_refl _) a1 b1 hl e (by omega)
            omega
          · have := (hR.own id _ g x h e).2; omega
        · rw [old g' (by omega)] at e'
          exact hsame g g' x x' a1 b1 a1' b1' e e' eb
    · intro g a b
      rcases hmgE g a b with rfl | ⟨h0, hk0, a1, b1⟩
      · refine ⟨L, put1_same _ _ _ _, by omega, fun _ => by omega, ?_⟩
        obtain ⟨cs, el, r1, r2, r3, r4⟩ := row
        exact ⟨cs, el, r1, r2, r3, VRs.mono hsub _ _ r4⟩
      · obtain ⟨x, e, r1, r2, r3⟩ := hrows g a1 b1
        refine ⟨x, by rw [old g (by omega)]; exact e, by omega, fun e => by omega, ?_⟩
        subst h0
        have htake : (((cells.take (0 + k)).drop 0) ++ new).take x.n = cells.take x.n := by
          rw [List.drop_zero, Nat.zero_add, hk0, List.take_length, List.take_append_of_le_length (by omega)]
        have hown1 := hR.own id _ g x h e
        by_cases eb : x.b = l.b
        · have hs := hsame g gen x l a1 b1 hmg (Nat.le_refl _) e hl eb
          obtain ⟨cs0, el0, q1, q2, q3, q4⟩ := r3
          obtain ⟨cs, el, p1, p2, p3, p4⟩ := same x eb hs rfl (by omega) (by omega) ⟨cs0, el0, q1, q2, q3, q4⟩
          exact ⟨cs, el, p1, p2, p3, by rw [htake]; exact VRs.mono hsub _ _ p4⟩
        · obtain ⟨cs, el, p1, p2, p3, p4⟩ := r3
          exact ⟨cs, el, (keep x.b hown1.2 eb).trans p1, p2, p3, by rw [htake]; exact VRs.mono hsub _ _ p4⟩
end
end Go.Vai
