/-
  Drawn regions: the world behind one operation more.
-/
import Derived.Test.YtkjmlnegmmlfdaaGreatDoorVaiZg
namespace Go.Vai
open Go

section
variable {E : Env} {B : Nat} {β β' : Map} {w w' : World} {look look1 look1' L : Look} {lo hi : Nat}
theorem HR.sub (h : HR E B β look w) (hs : ∀ id o, look1 id = some o → look id = some o) : HR E B β look1 w :=
  ⟨fun id o ho => h.obj id o (hs id o ho), fun id o g l ho e => h.own id o g l (hs id o ho) e, fun id o id' o' g g' l l' ho ho' => h.inj id o id' o' g g' l l' (hs id o ho) (hs id' o' ho'), h.gl, h.size⟩
theorem HR.join (h : HR E B β look w) (h' : HR E B β' look1' w') (hS : Step β β' look1 lo hi w w') (sub : ∀ id o, look1 id = some o → look id = some o)
    (hL : ∀ id o, L id = some o → look1' id = some o ∨ (look id = some o ∧ look1 id = none ∧ ¬ (lo ≤ id ∧ id < hi)))
    (vis : ∀ id o, look1' id = some o → (∃ o', look1 id = some o') ∨ (lo ≤ id ∧ id < hi)) (hF : Fresh β lo hi) : HR E B β' L w' := by
  have old : ∀ id g l, look1 id = none → ¬ (lo ≤ id ∧ id < hi) → β' id g = some l → β id g = some l := by
    intro id g l h1 h2 e
    rcases hS.new id g l e with e | ⟨a, b, _⟩ | ⟨o, ho, _⟩
    · exact e
    · exact absurd ⟨a, b⟩ h2
    · rw [h1] at ho; simp at ho
  -- one that is seen, and one that is not
  have mixed : ∀ id id' o o' g g' l l', look1' id = some o → look id' = some o' → look1 id' = none → ¬ (lo ≤ id' ∧ id' < hi) → β' id g = some l → β' id' g' = some l' → l.b = l'.b → id = id' := by
    intro id id' o o' g g' l l' h1 h2 h3 h4 e e' eb
    have e0' := old id' g' l' h3 h4 e'
    have hown := (h.own id' o' g' l' h2 e0').2
    rcases hS.new id g l e with e | ⟨_, _, c⟩ | ⟨o1, ho1, c⟩
    · rcases vis id o h1 with ⟨o1, ho1⟩ | ⟨a, b⟩
      · exact h.inj id o1 id' o' g g' l l' (sub id o1 ho1) h2 e e0' eb
      · rw [hF id g a b] at e; simp at e
    · omega
    · rcases c with c | ⟨g0, l0, e0, eb0⟩
      · omega
      · exact h.inj id o1 id' o' g0 g' l0 l' (sub id o1 ho1) h2 e0 e0' (eb0.trans eb)
  refine ⟨?_, ?_, ?_, h'.gl, h'.size⟩
  · intro id o ho
    rcases hL id o ho with ho | ⟨ho, h1, h2⟩
    · exact h'.obj id o ho
    · refine (h.obj id o ho).mono hS.sub ?_ ?_
      · intro g hg
        cases e : β' id g with
        | none => rfl
        | some l => rw [old id g l h1 h2 e] at hg; simp at hg
      · intro g l e
        refine hS.keep l.b (h.own id o g l ho e).2 ?_
        intro id' o' g' l' ho' e' eb
        have := h.inj id' o' id o g' g l' l (sub id' o' ho') ho e' e eb
        subst this
        rw [h1] at ho'; simp at ho'
  · intro id o g l ho e
    rcases hL id o ho with ho | ⟨ho, h1, h2⟩
    · exact h'.own id o g l ho e
    · have := h.own id o g l ho (old id g l h1 h2 e)
      exact ⟨this.1, Nat.lt_of_lt_of_le this.2 hS.size⟩
  · intro id o id' o' g g' l l' ho ho' e e' eb
    rcases hL id o ho with ho | ⟨ho, h1, h2⟩
    · rcases hL id' o' ho' with ho' | ⟨ho', h1', h2'⟩
      · exact h'.inj id o id' o' g g' l l' ho ho' e e' eb
      · exact mixed id id' o o' g g' l l' ho ho' h1' h2' e e' eb
    · rcases hL id' o' ho' with ho' | ⟨ho', h1', h2'⟩
      · exact (mixed id' id o' o g' g l' l ho' ho h1 h2 e' e eb.symm).symm
      · exact h.inj id o id' o' g g' l l' ho ho' (old id g l h1 h2 e) (old id' g' l' h1' h2' e') eb
theorem ObjR.some_loc {id : Nat} {o : AObj} (h : ObjR β w id o) : ∃ g l, β id g = some l := by
  cases o with
  | row gen mg cells =>
    obtain ⟨h1, _, _, _, h4⟩ := h
    obtain ⟨l, e, _⟩ := h4 gen h1 (Nat.le_refl _)
    exact ⟨gen, l, e⟩
  | map es clock => obtain ⟨l, e, _⟩ := h; exact ⟨0, l, e⟩
  | iter m since seen stepped => obtain ⟨l, e, _⟩ := h; exact ⟨0, l, e⟩
  | loop st pend t n ps asg body d => obtain ⟨l, e, _⟩ := h; exact ⟨0, l, e⟩
  | dfr taken => obtain ⟨l, e, _⟩ := h; exact ⟨0, l, e⟩
end
section
variable {E : Env} {P : Program} {V : Ev} {ops : List Oper} {masks : List Nat} {recs : List Rec} {σs : Nat → St} {τs : Nat → Tm} {vs : Nat → AV}
theorem rvis {k : Nat} {o : Oper} {r : Rec} (h : StepAt E V ops masks recs σs τs vs k o r) (hpre : ∀ j r', j < k → recs[j]? = some r' → r'.hi ≤ (σs k).next) (hW : WF (σs k)) {id : Nat} (hid : (σs k).next ≤ id) :
    hidden id r.hid = false := by
  rcases h.run with ⟨_, hhid, _⟩ | ⟨_, _, _, _, hh⟩
  · rw [hhid]
    unfold hidAt
    rw [hidden_append, hidden_append, hW.vis id hid]
    have h1 : hidden id (footHid (τs k) o.op (σs k).next) = false := by
      unfold footHid
      cases foot (τs k) o.op with
      | none => rfl
      | some l => exact except1_vis _ _ hid l
    rw [h1]
    simp only [Bool.false_or, Bool.or_false]
    cases hx : hidden id (hidFrom (masks.getD k 0) 0 (recs.take k)) with
    | false => rfl
    | true =>
      obtain ⟨j, r', hj, _, _, hlt⟩ := hidFrom_true.1 hx
      rw [List.getElem?_take] at hj
      split at hj
      · rename_i hjk
        have := hpre j r' hjk hj
        omega
      · simp at hj
  · rw [hh]
    cases hx : hidden id [(0, (σs k).next)] with
    | false => rfl
    | true =>
      rw [hidden_cons] at hx
      rcases hx with hx | hx
      · omega
      · simp [hidden] at hx
theorem rsub {k : Nat} {o : Oper} {r : Rec} (h : StepAt E V ops masks recs σs τs vs k o r) {id : Nat} (hlt : id < (σs k).next) (hv : hidden id r.hid = false) : hidden id (σs k).hid = false := by
  rcases h.run with ⟨_, hhid, _⟩ | ⟨_, _, _, _, hh⟩
  · rw [hhid] at hv
    unfold hidAt at hv
    rw [hidden_append, hidden_append] at hv
    simp only [Bool.or_eq_false_iff] at hv
    exact hv.2.2
  · rw [hh] at hv
    have : hidden id [(0, (σs k).next)] = true := by rw [hidden_cons]; exact .inl ⟨by omega, hlt⟩
    rw [this] at hv; simp at hv
end
end Go.Vai
