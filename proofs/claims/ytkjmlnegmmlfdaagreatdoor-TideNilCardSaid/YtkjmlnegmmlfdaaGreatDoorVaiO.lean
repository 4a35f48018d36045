/-
  copy, clear, len, cap, max, min.
-/
import Derived.Test.YtkjmlnegmmlfdaaGreatDoorVaiN
namespace Go.Vai
open Go

section
variable {E : Env} {P : Program} {β : Map} {B : Nat} {σ : St} {w : World}
theorem copy_ok (hE : EnvOk E P) (hR : HR E B β σ.look w) {v d x : AV} {ud ux : Value} {σ' : St} {t : TypeId} {ats : Array TypeId}
    (h : aCopy E t d x σ = some (v, σ')) (hd : VR β d ud) (hx : VR β x ux) (hat : ats[0]? = some t) (ty : TypeId) : Does E B P β σ σ' w (Builtin.copy_ ats ty #[ud, ux]) v := by
  unfold aCopy at h
  split at h
  · rename_i _ _ _ _ e _ ht
    split at h
    · rename_i ety src n he hsrc
      obtain ⟨h1, h2⟩ := condT h
      replace h1 := beqT h1
      have hu := (hE.ty t _ ht).slice rfl
      have hT := hE.ty e _ he
      obtain ⟨news, hv, hlen, hfc⟩ := rowCells_ok (P := P) hR hsrc hx ety.size h1
      split at h2
      · simp only [Option.some.injEq, Prod.mk.injEq] at h2
        obtain ⟨rfl, rfl⟩ := h2
        simp only [VR] at hd; subst hd
        have := hfc 0 (Nat.zero_le _) w rfl
        refine ⟨β, .int .i64 0, w, ?_, by simp [VR], hR, Step.refl _ _ _ _⟩
        simp [Builtin.copy_, hat, run_underlying hu, hlen, hT.size, this, goInt]
      · rename_i id g off len es mc
        split at h2
        · rename_i gen mg cells hlook
          obtain ⟨b1, b2⟩ := condT h2
          simp only [Bool.and_eq_true] at b1
          obtain ⟨⟨⟨⟨c1, c2⟩, c3⟩, c4⟩, c5⟩ := b1
          replace c1 := beqT c1; replace c2 := beqT c2; replace c4 := bleT c4; replace c5 := bltT c5
          subst c1; subst c2
          simp only [Option.some.injEq, Prod.mk.injEq] at b2
          obtain ⟨rfl, rfl⟩ := b2
          simp only [VR] at hd
          obtain ⟨l, o, c, hl, rfl, hc, hlm, hoff, hsz, hpos, hco⟩ := hd
          have hm := hfc (Nat.min n len) (Nat.min_le_left _ _) w rfl
          have hmul : Nat.min n len * ety.size ≤ len * ety.size := Nat.mul_le_mul_right _ (Nat.min_le_right _ _)
          have hmul2 : Nat.min n len * ety.size ≤ n * ety.size := Nat.mul_le_mul_right _ (Nat.min_le_left _ _)
          have htl : (src.take (Nat.min n len * ety.size)).length = Nat.min n len * ety.size := by simp; omega
          have hcell : (src.take (Nat.min n len * ety.size)).all isCell = true := by
            rw [List.all_eq_true] at c3 ⊢
            exact fun y hy => c3 y (List.mem_of_mem_take hy)
          obtain ⟨cs, el, q1, q2, q3, q4, q5⟩ := rowStore_ok (off := off) (vs := src.take (Nat.min n len * ety.size)) hR hlook hl (by omega) hcell (hv.take _) σ.next σ.next
          refine ⟨β, .int .i64 (Nat.min n len : Nat), _, ?_, by simp [VR], by rw [look_put _ (look_some hlook).1]; exact q4, q5⟩
          rcases hco with hc0 | ⟨ho, hoc⟩
          · have h0 : Nat.min n len = 0 := by
              have : len = 0 := by omega
              subst this; simp
            rw [h0] at hm ⊢
            have hself := setRow_self w l.b cs el (0, 0) q1
            simp only [Nat.zero_mul, List.take_zero, List.append_nil, List.length_nil, Nat.add_zero, List.take_append_drop, Array.toArray_toList] at hm ⊢
            rw [hself]
            simp [Builtin.copy_, hat, run_underlying hu, hlen, hT.size, h0, hm, goInt, storeCells]
          · subst ho
            have hst := run_storeCells_at P l.b (l.s + off) el _ 0 cs w q1 (by simpa [Nat.add_assoc] using q2) q3
            simp only [Nat.add_zero] at hst
            simp [Builtin.copy_, hat, run_underlying hu, hlen, hT.size, hm, goInt, hst]
        · simp at h2
      · simp at h2
    · simp at h
  · simp at h
theorem clear_ok (hE : EnvOk E P) (hR : HR E B β σ.look w) {v x : AV} {ux : Value} {σ' : St} {t : TypeId} {ats : Array TypeId}
    (h : aClear E t x σ = some (v, σ')) (hx : VR β x ux) (hat : ats[0]? = some t) (ty : TypeId) : Does E B P β σ σ' w (Builtin.clear_ ats ty #[ux]) v := by
  unfold aClear at h
  have hsome := (condT h).1
  replace h := (condT h).2
  obtain ⟨aty, haty⟩ := Option.isSome_iff_exists.1 hsome
  obtain ⟨d, hd, _⟩ := (hE.ty t aty haty).und
  split at h
  · simp only [Option.some.injEq, Prod.mk.injEq] at h
    obtain ⟨rfl, rfl⟩ := h
    simp only [VR] at hx; subst hx
    refine ⟨β, .tuple #[], w, ?_, by simp [VR, VRs], hR, Step.refl _ _ _ _⟩
    simp [Builtin.clear_, hat, run_underlying hd]
  · rename_i id g off len es mc
    split at h
    · rename_i hl0
      replace hl0 := beqT hl0
      simp only [Option.some.injEq, Prod.mk.injEq] at h
      obtain ⟨rfl, rfl⟩ := h
      simp only [VR] at hx
      obtain ⟨l, o, c, hl, rfl, hc, hlm, hoff, hsz, hpos, hco⟩ := hx
      subst hl0
      refine ⟨β, .tuple #[], w, ?_, by simp [VR, VRs], hR, Step.refl _ _ _ _⟩
      simp [Builtin.clear_, hat, run_underlying hd]
    · rename_i _ _ _ _ e _ hl0 ht
      split at h
      · rename_i ety gen mg cells he hlook
        obtain ⟨b1, b2⟩ := condT h
        simp only [Bool.and_eq_true] at b1
        obtain ⟨⟨⟨⟨c1, c2⟩, c3⟩, c4⟩, c5⟩ := b1
        replace c1 := beqT c1; replace c2 := beqT c2; replace c3 := beqT c3; replace c4 := bleT c4
        subst c1; subst c2
        simp only [Option.some.injEq, Prod.mk.injEq] at b2
        obtain ⟨rfl, rfl⟩ := b2
        simp only [VR] at hx
        obtain ⟨l, o, c, hl, rfl, hc, hlm, hoff, hsz, hpos, hco⟩ := hx
        have hlen0 : len ≠ 0 := by intro e0; subst e0; simp at hl0
        have hu := (hE.ty t _ ht).slice rfl
        obtain ⟨z, hz, hzc, hzs, _⟩ := zero_ok hE he
        rcases hco with hc0 | ⟨ho, hoc⟩
        · omega
        subst ho
        have hall : (repl len (ety.zero.map .sc)).all isCell = true := by
          rw [List.all_eq_true] at c5 ⊢
          intro y hy
          unfold repl at hy
          simp only [List.mem_flatten, List.mem_replicate] at hy
          obtain ⟨l', ⟨_, rfl⟩, hy⟩ := hy
          exact c5 y hy
        have hvr : VRs β (repl len (ety.zero.map .sc)) (Builtin.zeroCells z.cells len).toList := by
          rw [zeroCells_list, hzc]
          exact VRs.replicate (VRs.sc _) len
        have hrl : (repl len (ety.zero.map AV.sc)).length = len * ety.size := by rw [repl_length]; simp [c3]
        obtain ⟨cs, el, q1, q2, q3, q4, q5⟩ := rowStore_ok (off := off) (vs := repl len (ety.zero.map .sc)) hR hlook hl (by omega) hall hvr σ.next σ.next
        have hst := run_storeCells_at P l.b (l.s + off) el _ 0 cs w q1 (by simpa [Nat.add_assoc] using q2) q3
        simp only [Nat.add_zero] at hst
        refine ⟨β, .tuple #[], _, ?_, by simp [VR, VRs], by rw [look_put _ (look_some hlook).1]; exact q4, q5⟩
        cases len with
        | zero => exact absurd rfl hlen0
        | succ m => simp [Builtin.clear_, hat, run_underlying hu, hz w, hst]
      · simp at h
    · simp at h
  · simp at h
theorem EntriesR.length : ∀ {es : List AEntry} {cs : List MapEntry}, EntriesR β es cs → cs.length = es.length
  | [], _, h => by simp only [EntriesR] at h; subst h; rfl
  | e :: es, _, ⟨c, cs', h, _, r⟩ => by subst h; simp [EntriesR.length r]
theorem len_ok (hE : EnvOk E P) (hR : HR E B β σ.look w) {v x : AV} {ux : Value} {t : TypeId} {ats : Array TypeId}
    (h : aLen E t σ x = some v) (hx : VR β x ux) (hat : ats[0]? = some t) (ty : TypeId) : Does E B P β σ σ w (Builtin.len_ ats ty #[ux]) v := by
  unfold aLen at h
  split at h
  · simp at h
  · rename_i aty ht
    have hT := hE.ty t _ ht
    split at h
    · rename_i hd
      simp only [Option.some.injEq] at h; subst h
      simp only [VR] at hx
      obtain ⟨l, o, c, hl, rfl, _⟩ := hx
      exact ⟨β, .int .i64 _, w, by simp [Builtin.len_, hat, run_underlying (hT.slice hd), goInt]; rfl, by simp [VR], hR, Step.refl _ _ _ _⟩
    · rename_i hd
      simp only [Option.some.injEq] at h; subst h
      simp only [VR] at hx; subst hx
      exact ⟨β, .int .i64 _, w, by simp [Builtin.len_, hat, run_underlying (hT.slice hd), goInt]; rfl, by simp [VR], hR, Step.refl _ _ _ _⟩
    · rename_i hd
      simp only [Option.some.injEq] at h; subst h
      simp only [VR] at hx; subst hx
      exact ⟨β, .int .i64 _, w, by simp [Builtin.len_, hat, run_underlying (hT.string hd), goInt]; rfl, by simp [VR], hR, Step.refl _ _ _ _⟩
    · rename_i hd
      simp only [Option.some.injEq] at h; subst h
      simp only [VR] at hx; subst hx
      exact ⟨β, .int .i64 _, w, by simp [Builtin.len_, hat, run_underlying (hT.map hd), goInt]; rfl, by simp [VR], hR, Step.refl _ _ _ _⟩
    · rename_i id hd
      split at h
      · rename_i es clock hlook
        simp only [Option.some.injEq] at h; subst h
        simp only [VR] at hx
        obtain ⟨l, hl, rfl⟩ := hx
        obtain ⟨l', hl', cs, hh, hes⟩ := hR.obj id _ hlook
        rw [hl] at hl'; simp only [Option.some.injEq] at hl'; subst hl'
        have := hes.length
        simp at this
        refine ⟨β, .int .i64 es.length, w, ?_, by simp [VR], hR, Step.refl _ _ _ _⟩
        simp [Builtin.len_, hat, run_underlying (hT.map hd), goInt, getObj, Sem.run, hh, this]
      · simp at h
    · simp at h
end
end Go.Vai
