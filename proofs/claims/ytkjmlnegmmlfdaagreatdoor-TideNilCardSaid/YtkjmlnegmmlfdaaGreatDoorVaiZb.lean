/-
  Drawn regions: what an operation reads of the temporaries; steps in another order; masks.
-/
import Derived.Test.YtkjmlnegmmlfdaaGreatDoorVaiZa
namespace Go.Vai
open Go

section
variable {E : Env} {P : Program} {V : Ev}
theorem aOp_congr {τ τ' : Tm} {op : Op} (h : ∀ x ∈ op.operands, ev τ x = ev τ' x) (σ : St) : aOp E τ op σ = aOp E τ' op σ := by
  have parts : ∀ ps : Array (Nat × Operand), (∀ x ∈ (ps.toList.map (·.2)).toArray, ev τ x = ev τ' x) → (ps.toList.map fun p => (p.1, ev τ p.2)) = ps.toList.map fun p => (p.1, ev τ' p.2) := by
    intro ps hp
    apply List.map_congr_left
    intro p hp'
    rw [hp p.2 (by simp; exact ⟨p.1, by simpa using hp'⟩)]
  have arr : ∀ l : Array Operand, (∀ x ∈ l, ev τ x = ev τ' x) → l.toList.map (ev τ) = l.toList.map (ev τ') := by
    intro l hl
    apply List.map_congr_left
    intro x hx
    exact hl x (by simpa using hx)
  have opt : ∀ o : Option Operand, (∀ x ∈ o.toArray, ev τ x = ev τ' x) → o.map (ev τ) = o.map (ev τ') := by
    intro o ho
    cases o with
    | none => rfl
    | some x => simp [ho x (by simp)]
  cases op with
  | build t ps => simp only [aOp, parts ps h]
  | buildSlice t n ps => simp only [aOp, parts ps h]
  | makeFunc fn first cap =>
    simp only [Op.operands] at h
    simp only [aOp, arr first (fun x hx => h x (by simp [hx])), arr cap (fun x hx => h x (by simp [hx]))]
  | slice t x l hh m =>
    simp only [Op.operands] at h
    simp only [aOp, h x (by simp), opt l (fun y hy => h y (by simp at hy ⊢; simp [hy])), opt hh (fun y hy => h y (by simp at hy ⊢; simp [hy])), opt m (fun y hy => h y (by simp at hy ⊢; simp [hy]))]
  | call c =>
    obtain ⟨callee, args, ats⟩ := c
    cases callee with
    | value f =>
      simp only [Op.operands, Call.operands] at h
      simp only [aOp, h f (by simp), arr args (fun x hx => h x (by simp [hx]))]
    | builtin b =>
      simp only [Op.operands, Call.operands] at h
      simp only [aOp, arr args (fun x hx => h x (by simp [hx]))]
    | _ => simp only [aOp]
  | makeMap t r => cases r <;> simp only [aOp]
  | next it s => cases s <;> simp only [aOp, h it (by simp [Op.operands])]
  | _ => first
    | (simp only [aOp]; done)
    | (simp only [Op.operands] at h
       simp only [aOp]
       simp [h])
theorem oper_congr {τ τ' : Tm} {o : Oper} (h : ∀ x ∈ o.op.operands, ev τ x = ev τ' x) (σ : St) : oper E V τ o σ = oper E V τ' o σ := by
  unfold oper
  rw [aOp_congr h]

theorem Step.trans' {β β1 β2 : Map} {look look1 : Look} {lo hi lo2 hi2 : Nat} {w w1 w2 : World} (h1 : Step β β1 look lo hi w w1) (h2 : Step β1 β2 look1 lo2 hi2 w1 w2)
    (hl : lo ≤ lo2) (hh : hi2 ≤ hi) (hf : Fresh β lo hi) (hdom : ∀ id o, look1 id = some o → (∃ o', look id = some o') ∨ (lo ≤ id ∧ id < hi)) : Step β β2 look lo hi w w2 where
  sub := h1.sub.trans h2.sub
  new := by
    intro id g l h
    rcases h2.new id g l h with h | ⟨a, b, c⟩ | ⟨o, ho, h⟩
    · exact h1.new id g l h
    · exact .inr (.inl ⟨by omega, by omega, Nat.le_trans h1.size c⟩)
    · rcases hdom id o ho with ⟨o', ho'⟩ | ⟨a, b⟩
      · refine .inr (.inr ⟨o', ho', ?_⟩)
        rcases h with h | ⟨g0, l0, e0, eb⟩
        · exact .inl (Nat.le_trans h1.size h)
        · rcases h1.new id g0 l0 e0 with h | ⟨_, _, c⟩ | ⟨_, _, h⟩
          · exact .inr ⟨g0, l0, h, eb⟩
          · exact .inl (eb ▸ c)
          · rcases h with h | ⟨g1, l1, e1, eb1⟩
            · exact .inl (eb ▸ h)
            · exact .inr ⟨g1, l1, e1, eb1.trans eb⟩
      · refine .inr (.inl ⟨a, b, ?_⟩)
        rcases h with h | ⟨g0, l0, e0, eb⟩
        · exact Nat.le_trans h1.size h
        · rcases h1.new id g0 l0 e0 with h | ⟨_, _, c⟩ | ⟨_, _, h⟩
          · rw [hf id g0 a b] at h; simp at h
          · exact eb ▸ c
          · rcases h with h | ⟨g1, l1, e1, eb1⟩
            · exact eb ▸ h
            · rw [hf id g1 a b] at e1; simp at e1
  os := h2.os.trans h1.os
  tape := h2.tape.trans h1.tape
  output := h2.output.trans h1.output
  size := Nat.le_trans h1.size h2.size
  keep := by
    intro b hb hno
    rw [h2.keep b (Nat.lt_of_lt_of_le hb h1.size) ?_, h1.keep b hb hno]
    intro id o g l ho he eb
    rcases h1.new id g l he with h | ⟨_, _, c⟩ | ⟨o', ho', h⟩
    · rcases hdom id o ho with ⟨o', ho'⟩ | ⟨a, b'⟩
      · exact hno id o' g l ho' h eb
      · rw [hf id g a b'] at h; simp at h
    · omega
    · rcases h with h | ⟨g0, l0, e0, eb0⟩
      · omega
      · exact hno id o' g0 l0 ho' e0 (eb0.trans eb)

/-! masks -/
theorem testBit_shl1 (i j : Nat) : Nat.testBit (Nat.shiftLeft 1 i) j = decide (i = j) := by
  show Nat.testBit (1 <<< i) j = _
  rw [Nat.one_shiftLeft, Nat.testBit_two_pow]
theorem depMask_bit (masks : List Nat) (j : Nat) : ∀ (l : List Edge) (m : Nat), Nat.testBit (l.foldl (fun m e => cond (Region.binds .any e) (Nat.lor m (Nat.lor (Nat.shiftLeft 1 e.on) (masks.getD e.on 0))) m) m) j = true →
    Nat.testBit m j = true ∨ ∃ e ∈ l, Region.binds .any e = true ∧ (e.on = j ∨ Nat.testBit (masks.getD e.on 0) j = true)
  | [], m, h => .inl h
  | e :: l, m, h => by
    simp only [List.foldl_cons] at h
    rcases depMask_bit masks j l _ h with h | ⟨e', he', r⟩
    · cases hb : Region.binds .any e with
      | false => rw [hb] at h; exact .inl h
      | true =>
        rw [hb] at h
        simp only [cond_true] at h
        have h' : Nat.testBit (m ||| ((Nat.shiftLeft 1 e.on) ||| (masks.getD e.on 0))) j = true := h
        rw [Nat.testBit_or, Nat.testBit_or, testBit_shl1] at h'
        simp only [Bool.or_eq_true, decide_eq_true_eq] at h'
        rcases h' with h' | h' | h'
        · exact .inl h'
        · exact .inr ⟨e, by simp, hb, .inl h'⟩
        · exact .inr ⟨e, by simp, hb, .inr h'⟩
    · exact .inr ⟨e', by simp [he'], r⟩
theorem masksFrom_spec : ∀ (l : List Oper) (acc : List Nat), ∃ r, masksFrom acc l = acc ++ r ∧ r.length = l.length ∧
    ∀ i o, l[i]? = some o → (masksFrom acc l)[acc.length + i]? = some (depMask ((masksFrom acc l).take (acc.length + i)) o.after.toList)
  | [], acc => ⟨[], by simp [masksFrom], rfl, fun i o h => by simp at h⟩
  | x :: l, acc => by
    obtain ⟨r, h1, h2, h3⟩ := masksFrom_spec l (acc ++ [depMask acc x.after.toList])
    have e : masksFrom acc (x :: l) = masksFrom (acc ++ [depMask acc x.after.toList]) l := rfl
    refine ⟨depMask acc x.after.toList :: r, by rw [e, h1]; simp, by simp [h2], fun i o ho => ?_⟩
    rw [e]
    cases i with
    | zero =>
      simp only [List.getElem?_cons_zero, Option.some.injEq] at ho
      subst ho
      rw [h1]
      simp
    | succ i =>
      have := h3 i o (by simpa using ho)
      simp only [List.length_append, List.length_cons, List.length_nil] at this
      rw [show acc.length + (i + 1) = acc.length + 1 + i by omega]
      exact this
/-- A mask's bit: along an edge. -/
theorem mask_bit {ops : List Oper} (hE : okEdges ops = true) {k j : Nat} (h : Nat.testBit ((masksOf ops).getD k 0) j = true) :
    ∃ o, ops[k]? = some o ∧ ∃ e ∈ o.after, Region.binds .any e = true ∧ e.on < k ∧ (e.on = j ∨ Nat.testBit ((masksOf ops).getD e.on 0) j = true) := by
  obtain ⟨r, h1, h2, h3⟩ := masksFrom_spec ops []
  have hm : masksOf ops = masksFrom [] ops := rfl
  rw [← hm] at h1 h3
  simp only [List.nil_append, List.length_nil, Nat.zero_add] at h1 h3
  cases ho : ops[k]? with
  | none =>
    have hlen : (masksOf ops).length ≤ k := by
      rw [h1, h2]; simpa using ho
    rw [List.getD_eq_getElem?_getD, List.getElem?_eq_none hlen] at h
    simp at h
  | some o =>
    refine ⟨o, rfl, ?_⟩
    rw [List.getD_eq_getElem?_getD, h3 k o ho] at h
    simp only [Option.getD_some] at h
    have hedge : ∀ e ∈ o.after, Region.binds .any e = true → e.on < k := by
      intro e he hb
      unfold okEdges at hE
      rw [List.all_eq_true] at hE
      have := hE (o, k) (by rw [List.mem_zipIdx_iff_getElem?]; simpa using ho)
      rw [List.all_eq_true] at this
      have := this e (by simpa using he)
      simp only [hb, Bool.not_true, Bool.false_or] at this
      exact bltT this
    rcases depMask_bit _ j _ 0 h with h | ⟨e, he, hb, hr⟩
    · simp at h
    · have he' : e ∈ o.after := by simpa using he
      have hlt := hedge e he' hb
      refine ⟨e, he', hb, hlt, ?_⟩
      rcases hr with hr | hr
      · exact .inl hr
      · right
        rw [List.getD_eq_getElem?_getD, List.getElem?_take, if_pos hlt] at hr
        rw [List.getD_eq_getElem?_getD]
        exact hr
theorem mask_lt {ops : List Oper} (hE : okEdges ops = true) : ∀ (k j : Nat), Nat.testBit ((masksOf ops).getD k 0) j = true → j < k := by
  intro k
  induction k using Nat.strongRecOn with
  | _ k ih =>
    intro j h
    obtain ⟨o, _, e, _, _, hlt, hr⟩ := mask_bit hE h
    rcases hr with rfl | hr
    · exact hlt
    · exact Nat.lt_trans (ih e.on hlt j hr) hlt
/-- What is closed under the edges is closed under the masks. -/
theorem mask_closed {ops : List Oper} (hE : okEdges ops = true) {D : Nat → Prop} (hD : ∀ k o, ops[k]? = some o → D k → ∀ e ∈ o.after, Region.binds .any e = true → D e.on) :
    ∀ (k j : Nat), D k → Nat.testBit ((masksOf ops).getD k 0) j = true → D j := by
  intro k
  induction k using Nat.strongRecOn with
  | _ k ih =>
    intro j hk h
    obtain ⟨o, ho, e, he, hb, hlt, hr⟩ := mask_bit hE h
    have hde := hD k o ho hk e he hb
    rcases hr with rfl | hr
    · exact hde
    · exact ih e.on hlt j hde hr
theorem mask_ready {ops : List Oper} (hE : okEdges ops = true) {D : Nat → Prop} (hD : ∀ k o, ops[k]? = some o → D k → ∀ e ∈ o.after, Region.binds .any e = true → D e.on) {k : Nat} {o : Oper} (ho : ops[k]? = some o)
    (hr : ∀ e ∈ o.after, Region.binds .any e = true → D e.on) {j : Nat} (h : Nat.testBit ((masksOf ops).getD k 0) j = true) : D j := by
  obtain ⟨o', ho', e, he, hb, _, hr'⟩ := mask_bit hE h
  rw [ho] at ho'; simp only [Option.some.injEq] at ho'; subst ho'
  rcases hr' with rfl | hr'
  · exact hr e he hb
  · exact mask_closed hE hD e.on j (hr e he hb) hr'
end
end Go.Vai
