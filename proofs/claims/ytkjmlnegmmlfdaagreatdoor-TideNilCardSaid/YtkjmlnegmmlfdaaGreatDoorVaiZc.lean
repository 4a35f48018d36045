/-
  Drawn regions: the run in the text's order, laid out.
-/
import Derived.Test.YtkjmlnegmmlfdaaGreatDoorVaiZb
namespace Go.Vai
open Go

/-- What is hidden from the k-th operation. -/
noncomputable def footHid (τ : Tm) (op : Op) (N : Nat) : List (Nat × Nat) := match foot τ op with | some l => except1 N l | none => []
noncomputable def hidAt (masks : List Nat) (recs : List Rec) (k : Nat) (τ : Tm) (op : Op) (σ : St) : List (Nat × Nat) :=
  footHid τ op σ.next ++ (hidFrom (masks.getD k 0) 0 (recs.take k) ++ σ.hid)
/-- One operation of the run. -/
structure StepAt (E : Env) (V : Ev) (ops : List Oper) (masks : List Nat) (recs : List Rec) (σs : Nat → St) (τs : Nat → Tm) (vs : Nat → AV) (k : Nat) (o : Oper) (r : Rec) : Prop where
  at' : recs[k]? = some r
  put : (τs k).put o.dst (vs k) = some (τs (k + 1))
  lo : r.lo = (σs k).next
  hi : r.hi = (σs (k + 1)).next
  run : (wantedA ops (τs k) o = some true ∧ r.hid = hidAt masks recs k (τs k) o.op (σs k) ∧
      ∃ σ1, oper E V (τs k) o { σs k with hid := r.hid, log := [] } = some (vs k, σ1) ∧ σs (k + 1) = { σ1 with hid := (σs k).hid, log := σ1.log ++ (σs k).log } ∧ r.w = σ1.log.filter fun id => Nat.blt id (σs k).next) ∨
    (wantedA ops (τs k) o = some false ∧ vs k = .sc undef ∧ σs (k + 1) = σs k ∧ r.w = [] ∧ r.hid = [(0, (σs k).next)])
theorem drawFrom_run (E : Env) (V : Ev) (ops : List Oper) (masks : List Nat) : ∀ (rest : List Oper) (j : Nat) (recs : List Rec) (τ : Tm) (σ : St) (recs' : List Rec) (τ' : Tm) (σ' : St), ops.drop j = rest → j ≤ ops.length → recs.length = j →
    drawFrom E V ops masks rest j recs τ σ = some (recs', τ', σ') → ∃ (σs : Nat → St) (τs : Nat → Tm) (vs : Nat → AV), σs j = σ ∧ τs j = τ ∧ σs ops.length = σ' ∧ τs ops.length = τ' ∧ recs'.take j = recs ∧
      ∀ k o, j ≤ k → ops[k]? = some o → ∃ r, StepAt E V ops masks recs' σs τs vs k o r
  | [], j, recs, τ, σ, recs', τ', σ', hd, hj, hl, h => by
    simp only [drawFrom, Option.some.injEq, Prod.mk.injEq] at h
    obtain ⟨rfl, rfl, rfl⟩ := h
    have hlen : ops.length ≤ j := by simpa using hd
    have e : ops.length = j := by omega
    refine ⟨fun _ => σ, fun _ => τ, fun _ => .sc undef, rfl, rfl, rfl, rfl, by rw [← hl, List.take_length], fun k o hk ho => ?_⟩
    rw [List.getElem?_eq_none (by omega)] at ho
    simp at ho
  | o :: rest, j, recs, τ, σ, recs', τ', σ', hd, hj, hl, h => by
    have hlt : j < ops.length := by
      rcases Nat.lt_or_ge j ops.length with h | h
      · exact h
      · rw [List.drop_eq_nil_of_le h] at hd; simp at hd
    have ho : ops[j]? = some o := by
      have := congrArg List.head? hd
      simpa using this
    have hd' : ops.drop (j + 1) = rest := by
      have := congrArg List.tail hd
      simpa [List.tail_drop] using this
    -- the head laid before the rest
    have join : ∀ (r : Rec) (τ1 : Tm) (σ1 : St) (v : AV), drawFrom E V ops masks rest (j + 1) (recs ++ [r]) τ1 σ1 = some (recs', τ', σ') →
        (∀ (σs : Nat → St) (τs : Nat → Tm) (vs : Nat → AV), σs j = σ → τs j = τ → σs (j + 1) = σ1 → τs (j + 1) = τ1 → vs j = v → recs'.take j = recs → recs'[j]? = some r → StepAt E V ops masks recs' σs τs vs j o r) →
        ∃ (σs : Nat → St) (τs : Nat → Tm) (vs : Nat → AV), σs j = σ ∧ τs j = τ ∧ σs ops.length = σ' ∧ τs ops.length = τ' ∧ recs'.take j = recs ∧
          ∀ k o, j ≤ k → ops[k]? = some o → ∃ r, StepAt E V ops masks recs' σs τs vs k o r := by
      intro r τ1 σ1 v hrest hst
      obtain ⟨σs, τs, vs, e1, e2, e3, e4, e5, e6⟩ := drawFrom_run E V ops masks rest (j + 1) (recs ++ [r]) τ1 σ1 recs' τ' σ' hd' hlt (by simp [hl]) hrest
      have htake : recs'.take j = recs := by
        have := congrArg (List.take j) e5
        rw [List.take_take, Nat.min_eq_left (by omega)] at this
        rw [this, ← hl, List.take_left]
      have hget : recs'[j]? = some r := by
        have := congrArg (fun l => l[j]?) e5
        simp only [List.getElem?_take, if_pos (Nat.lt_succ_self j)] at this
        rw [this, ← hl]
        simp
      refine ⟨fun k => if k = j then σ else σs k, fun k => if k = j then τ else τs k, fun k => if k = j then v else vs k, by simp, by simp, ?_, ?_, htake, ?_⟩
      · simp only []; rw [if_neg (by omega)]; exact e3
      · simp only []; rw [if_neg (by omega)]; exact e4
      · intro k o' hk ho'
        by_cases e : k = j
        · subst e
          rw [ho] at ho'; simp only [Option.some.injEq] at ho'; subst ho'
          exact ⟨r, hst _ _ _ (by simp) (by simp) (by simp [e1]) (by simp [e2]) (by simp) htake hget⟩
        · obtain ⟨r', hr'⟩ := e6 k o' (by omega) ho'
          refine ⟨r', ?_⟩
          have n1 : k ≠ j := e
          have n2 : k + 1 ≠ j := by omega
          exact ⟨hr'.at', by simp only [n1, n2, if_false]; exact hr'.put, by simp only [n1, if_false]; exact hr'.lo, by simp only [n2, if_false]; exact hr'.hi,
            by simp only [n1, n2, if_false]; exact hr'.run⟩
    simp only [drawFrom] at h
    split at h
    · rename_i hw
      split at h
      · rename_i v σ1 h1
        split at h
        · rename_i τ1 hput
          refine join _ τ1 _ v h ?_
          intro σs τs vs a1 a2 a3 a4 a5 a6 a7
          refine ⟨a7, by rw [a2, a4, a5]; exact hput, by rw [a1], by rw [a3], .inl ⟨by rw [a2]; exact hw, ?_, σ1, ?_, by rw [a3, a1], by rw [a1]⟩⟩
          · rw [a1, a2]
            unfold hidAt footHid
            rw [a6]
            cases foot τ o.op <;> rfl
          · rw [a1, a2, a5]; exact h1
        · simp at h
      · simp at h
    · rename_i hw
      split at h
      · rename_i τ1 hput
        refine join _ τ1 _ (.sc undef) h ?_
        intro σs τs vs a1 a2 a3 a4 a5 a6 a7
        exact ⟨a7, by rw [a2, a4, a5]; exact hput, by rw [a1], by rw [a3], .inr ⟨by rw [a2]; exact hw, a5, by rw [a3, a1], rfl, by rw [a1]⟩⟩
      · simp at h
    · simp at h
end Go.Vai
