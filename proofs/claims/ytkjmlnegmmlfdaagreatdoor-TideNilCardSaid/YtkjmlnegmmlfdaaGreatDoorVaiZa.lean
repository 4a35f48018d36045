/-
  Code: one step deeper; all depths. (What is drawn: a hypothesis here.)
-/
import Derived.Test.YtkjmlnegmmlfdaaGreatDoorVaiZ
namespace Go.Vai
open Go

/-- Regions that draw their order. -/
def DrawOk (E : Env) (P : Program) : Prop :=
  ∀ V, Sound E P V → ∀ (rd : Option Nat) (id : Nat) (ops : Array Oper) τ σ τ' σ', draw E V ops.toList τ σ = some (τ', σ') → Tr σ σ' ∧ CodeSound E P rd (.region id ops true) τ σ .normal τ' σ'
section
variable {E : Env} {P : Program} {V : Ev}
theorem thenQ {next : Act → World → Prop} {Q : Exit → Act → World → Prop} {x : AExit} (hx : x ≠ .normal) {a : Act} {w : World} (h : Q (exitC x) a w) : Exit.then next Q (exitC x) a w := by
  cases x <;> first | exact absurd rfl hx | exact h
theorem code_step (hE : EnvOk E P) (hD : DrawOk E P) (hV : Sound E P V) {rd : Option Nat} {c : Code} {τ τ' : Tm} {σ σ' : St} {x : AExit} (h : codeStep E V rd c τ σ = some (x, τ', σ')) :
    Tr σ σ' ∧ CodeSound E P rd c τ σ x τ' σ' := by
  have stay : ∀ {y : AExit}, some (y, τ, σ) = some (x, τ', σ') → (∀ (F : Fence) n Q a w, Q (exitC y) a w → wpL F n P Q c a w) → Tr σ σ' ∧ CodeSound E P rd c τ σ x τ' σ' := by
    intro y h hq
    simp only [Option.some.injEq, Prod.mk.injEq] at h
    obtain ⟨rfl, rfl, rfl⟩ := h
    exact ⟨Tr.refl _, fun B β w a F n Q _ _ hR _ _ ht hQ => hq F n Q a w (hQ β w a hR (Step.refl _ _ _ _) ht)⟩
  unfold codeStep at h
  split at h
  · exact stay h fun F n Q a w hq => wpIn_skip hq
  · exact stay h fun F n Q a w hq => wpIn_label hq
  · exact stay h fun F n Q a w hq => wpIn_ret hq
  · exact stay h fun F n Q a w hq => wpIn_exit hq
  · exact stay h fun F n Q a w hq => wpIn_goto hq
  · -- seq
    rename_i c1 c2
    split at h
    · rename_i τ1 σ1 h1
      obtain ⟨t1, s1⟩ := hV.code _ _ _ _ _ _ _ h1
      obtain ⟨t2, s2⟩ := hV.code _ _ _ _ _ _ _ h
      refine ⟨t1.trans t2, fun B β w a F n Q hO hrd hR hW hF ht hQ => wpIn_seq (wpL_wpIn (s1 B β w a F n _ hO hrd hR hW (fresh_first t2 hF) ht ?_))⟩
      intro β1 w1 a1 hR1 hS1 ht1
      refine wpL_wpIn (s2 B β1 w1 a1 F n Q hO (hrd.mono hS1.sub) hR1 (t1.wf hW) (fresh_then t1 hW hF hS1) ht1 ?_)
      intro β2 w2 a2 hR2 hS2 ht2
      exact hQ β2 w2 a2 hR2 (step_trans t1 t2 hW hF hS1 hS2) ht2
    · rename_i hno
      have hx : x ≠ .normal := by
        intro e; subst e; exact hno _ _ h
      obtain ⟨t1, s1⟩ := hV.code _ _ _ _ _ _ _ h
      exact ⟨t1, fun B β w a F n Q hO hrd hR hW hF ht hQ => wpIn_seq (wpL_wpIn (s1 B β w a F n _ hO hrd hR hW hF ht fun β1 w1 a1 hR1 hS1 ht1 => thenQ hx (hQ β1 w1 a1 hR1 hS1 ht1)))⟩
  · -- cond
    rename_i cnd c1 c2
    split at h
    · rename_i b hc
      obtain ⟨t1, s1⟩ := hV.code _ _ _ _ _ _ _ h
      refine ⟨t1, fun B β w a F n Q hO hrd hR hW hF ht hQ => ?_⟩
      have hv := ev_ok ht.1 cnd
      rw [hc] at hv
      simp only [VR] at hv
      refine wpIn_cond hv ?_
      have := wpL_wpIn (s1 B β w a F n Q hO hrd hR hW hF ht hQ)
      cases b <;> simpa using this
    · simp at h
  · -- block
    rename_i id c1
    split at h
    · rename_i id' τ1 σ1 h1
      obtain ⟨t1, s1⟩ := hV.code _ _ _ _ _ _ _ h1
      cases hid : Nat.beq id' id with
      | true =>
        rw [hid] at h
        simp only [cond_true, Option.some.injEq, Prod.mk.injEq] at h
        obtain ⟨rfl, rfl, rfl⟩ := h
        refine ⟨t1, fun B β w a F n Q hO hrd hR hW hF ht hQ => wpIn_block (wpL_wpIn (s1 B β w a F n _ hO hrd hR hW hF ht ?_))⟩
        intro β1 w1 a1 hR1 hS1 ht1
        simp only [exitC, Exit.inBlock, if_pos (beqT hid)]
        exact hQ β1 w1 a1 hR1 hS1 ht1
      | false =>
        rw [hid] at h
        simp only [cond_false, Option.some.injEq, Prod.mk.injEq] at h
        obtain ⟨rfl, rfl, rfl⟩ := h
        have hne : id' ≠ id := by intro e; subst e; simp at hid
        refine ⟨t1, fun B β w a F n Q hO hrd hR hW hF ht hQ => wpIn_block (wpL_wpIn (s1 B β w a F n _ hO hrd hR hW hF ht ?_))⟩
        intro β1 w1 a1 hR1 hS1 ht1
        simp only [exitC, Exit.inBlock, if_neg hne]
        exact hQ β1 w1 a1 hR1 hS1 ht1
    · rename_i hno
      obtain ⟨t1, s1⟩ := hV.code _ _ _ _ _ _ _ h
      refine ⟨t1, fun B β w a F n Q hO hrd hR hW hF ht hQ => wpIn_block (wpL_wpIn (s1 B β w a F n _ hO hrd hR hW hF ht ?_))⟩
      intro β1 w1 a1 hR1 hS1 ht1
      have := hQ β1 w1 a1 hR1 hS1 ht1
      cases x with
      | exit id' => exact absurd h (hno _ _ _)
      | normal => exact this
      | goto l => exact this
      | ret => exact this
  · -- loop
    rename_i c1
    split at h
    · rename_i τ1 σ1 h1
      obtain ⟨t1, s1⟩ := hV.code _ _ _ _ _ _ _ h1
      obtain ⟨t2, s2⟩ := hV.code _ _ _ _ _ _ _ h
      refine ⟨t1.trans t2, fun B β w a F n Q hO hrd hR hW hF ht hQ => loopJ_round (wpL_wpIn (s1 B β w a F n _ hO hrd hR hW (fresh_first t2 hF) ht ?_))⟩
      intro β1 w1 a1 hR1 hS1 ht1
      refine s2 B β1 w1 a1 F n Q hO (hrd.mono hS1.sub) hR1 (t1.wf hW) (fresh_then t1 hW hF hS1) ht1 ?_
      intro β2 w2 a2 hR2 hS2 ht2
      exact hQ β2 w2 a2 hR2 (step_trans t1 t2 hW hF hS1 hS2) ht2
    · rename_i hno
      have hx : x ≠ .normal := by
        intro e; subst e; exact hno _ _ h
      obtain ⟨t1, s1⟩ := hV.code _ _ _ _ _ _ _ h
      exact ⟨t1, fun B β w a F n Q hO hrd hR hW hF ht hQ => loopJ_round (wpL_wpIn (s1 B β w a F n _ hO hrd hR hW hF ht fun β1 w1 a1 hR1 hS1 ht1 => thenQ hx (hQ β1 w1 a1 hR1 hS1 ht1)))⟩
  · -- region
    rename_i id ops d
    cases d with
    | true =>
      simp only [cond_true, Option.map_eq_some_iff, Prod.mk.injEq] at h
      obtain ⟨⟨τ1, σ1⟩, h1, rfl, rfl, rfl⟩ := h
      exact hD V hV rd id ops τ σ τ1 σ1 h1
    | false =>
      simp only [cond_false, Option.map_eq_some_iff, Prod.mk.injEq] at h
      obtain ⟨⟨τ1, σ1⟩, h1, rfl, rfl, rfl⟩ := h
      exact region_ok hE hV h1
  · exact rangeFunc_ok hE hV h
  · simp at h
  · simp at h
theorem next_sound (hE : EnvOk E P) (hD : DrawOk E P) (hV : Sound E P V) : Sound E P (Ev.next E V) where
  code := fun _ _ _ _ _ _ _ h => code_step hE hD hV h
  call := fun _ _ _ _ _ h => call_step hE hV h
  round := fun _ _ _ _ _ h => round_step hV h
theorem none_sound : Sound E P Ev.none where
  code := fun _ _ _ _ _ _ _ h => by simp [Ev.none] at h
  call := fun _ _ _ _ _ h => by simp [Ev.none] at h
  round := fun _ _ _ _ _ h => by simp [Ev.none] at h
theorem at_sound (hE : EnvOk E P) (hD : DrawOk E P) : ∀ n, Sound E P (Ev.at E n)
  | 0 => none_sound
  | n + 1 => next_sound hE hD (at_sound hE hD n)
end
end Go.Vai
