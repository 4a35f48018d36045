/-
  One operation: the abstract machine against the model.
-/
import Derived.Test.YtkjmlnegmmlfdaaGreatDoorVaiR
namespace Go.Vai
open Go

/-- What the model's operation comes to, against the abstract one's outcome. -/
def OpRes (E : Env) (B : Nat) (P : Program) (β : Map) (σ σ' : St) (w : World) (s : Sem Next) : ANext → Prop
  | .value v => ∃ β' u w', (s.run P w = .ok (.value u) w' ∨ (u = undef ∧ s.run P w = .ok .skip w')) ∧ VR β' v u ∧ HR E B β' σ'.look w' ∧ Step β β' σ.look σ.next σ'.next w w'
  | .enter f args => σ' = σ ∧ ∃ us, VRs β args us ∧ ∀ fn, E.fn.get f = some fn → fn.body ≠ none → s.run P w = .ok (.enter f us.toArray) w
  | .round l args => σ' = σ ∧ ∃ lc us, β l 0 = some lc ∧ VRs β args us ∧ s.run P w = (Instr.yield lc.b us.toArray).run P w

section
variable {E : Env} {P : Program} {β : Map} {B : Nat} {σ σ' : St} {w : World}
theorem Does.res {s : Sem Value} {v : AV} (h : Does E B P β σ σ' w s v) : OpRes E B P β σ σ' w (do pure (.value (← s))) (.value v) := by
  obtain ⟨β', u, w', h1, h2, h3, h4⟩ := h
  exact ⟨β', u, w', .inl (by simp [h1]), h2, h3, h4⟩
theorem Pure1.res {s : Sem Value} {v : AV} (h : Pure1 P s β v) (hR : HR E B β σ.look w) : OpRes E B P β σ σ w (do pure (.value (← s))) (.value v) := (h.does hR).res
theorem unit_res {s : Sem Unit} {v : AV} (h : v = .sc undef ∧ ∃ w', s.run P w = .ok () w' ∧ HR E B β σ'.look w' ∧ Step β β σ.look σ.next σ'.next w w') :
    OpRes E B P β σ σ' w (do s; pure .skip) (.value v) := by
  obtain ⟨rfl, w', h1, h2, h3⟩ := h
  exact ⟨β, undef, w', .inr ⟨rfl, by simp [h1]⟩, by simp [VR], h2, h3⟩
theorem vals_some {r : Option AV} {nx : ANext} (h : vals r σ = some (nx, σ')) : ∃ v, r = some v ∧ nx = .value v ∧ σ' = σ := by
  unfold vals at h
  simp only [Option.map_eq_some_iff, Prod.mk.injEq] at h
  obtain ⟨v, hv, rfl, rfl⟩ := h
  exact ⟨v, hv, rfl, rfl⟩
theorem valr_some {r : R} {nx : ANext} (h : valr r = some (nx, σ')) : ∃ v, r = some (v, σ') ∧ nx = .value v := by
  unfold valr at h
  simp only [Option.map_eq_some_iff, Prod.mk.injEq] at h
  obtain ⟨⟨v, σ1⟩, hv, rfl, rfl⟩ := h
  exact ⟨v, hv, rfl⟩
theorem max2_ok {big : Bool} {x y v : AV} {ux uy : Value} (h : max2A big x y = some v) (hx : VR β x ux) (hy : VR β y uy) :
    ∃ u, VR β v u ∧ ((cond big Builtin.max2 Builtin.min2) ux uy).run P w = .ok u w := by
  unfold max2A at h
  split at h
  · rename_i k a k' b
    simp only [Option.some.injEq] at h; subst h
    simp only [VR] at hx hy; subst hx; subst hy
    refine ⟨.int k (cond big (cond (decide (b > a)) b a) (cond (decide (b < a)) b a)), by simp only [VR], ?_⟩
    cases big
    · simp only [cond_false, Builtin.min2, Sem.run_pure]
      by_cases c : b < a <;> simp [c]
    · simp only [cond_true, Builtin.max2, Sem.run_pure]
      by_cases c : a < b <;> simp [c]
  · simp at h
theorem foldM2_ok {big : Bool} : ∀ (l : List AV) (ul : List Value) (x v : AV) (ux : Value), foldM2 (max2A big) x l = some v → VR β x ux → VRs β l ul →
    ∃ u, VR β v u ∧ (ul.foldlM (cond big Builtin.max2 Builtin.min2) ux).run P w = .ok u w
  | [], ul, x, v, ux, h, hx, hl => by
    simp only [foldM2, Option.some.injEq] at h; subst h
    simp only [VRs] at hl; subst hl
    exact ⟨ux, hx, by simp⟩
  | y :: l, ul, x, v, ux, h, hx, hl => by
    simp only [VRs] at hl
    obtain ⟨uy, ul', rfl, hy, hl'⟩ := hl
    simp only [foldM2] at h
    split at h
    · rename_i z hz
      obtain ⟨uz, hvz, hrun⟩ := max2_ok (P := P) (w := w) hz hx hy
      obtain ⟨u, hv, hr⟩ := foldM2_ok l ul' z v uz h hvz hl'
      exact ⟨u, hv, by simp [List.foldlM_cons, hrun, hr]⟩
    · simp at h
theorem arr2 {α : Type} {a : Array α} {x y : α} (h : a.toList = [x, y]) : a = #[x, y] := by
  cases a; simp at h; subst h; rfl
theorem arr1 {α : Type} {a : Array α} {x : α} (h : a.toList = [x]) : a = #[x] := by
  cases a; simp at h; subst h; rfl
theorem VRs.two {x y : AV} {us : List Value} (h : VRs β [x, y] us) : ∃ ux uy, us = [ux, uy] ∧ VR β x ux ∧ VR β y uy := by
  simp only [VRs] at h
  obtain ⟨ux, _, rfl, hx, uy, _, rfl, hy, rfl⟩ := h
  exact ⟨ux, uy, rfl, hx, hy⟩
theorem VRs.one {x : AV} {us : List Value} (h : VRs β [x] us) : ∃ ux, us = [ux] ∧ VR β x ux := by
  simp only [VRs] at h
  obtain ⟨ux, _, rfl, hx, rfl⟩ := h
  exact ⟨ux, rfl, hx⟩
theorem ats_get {ats : Array TypeId} {t : TypeId} {l : List TypeId} (h : ats.toList = t :: l) : ats[0]? = some t := by
  rw [← Array.getElem?_toList, h]; rfl

theorem builtin_ok (hE : EnvOk E P) (hR : HR E B β σ.look w) (hW : WF σ) {b : Builtin} {ats : Array TypeId} {args : List AV} {uargs : Array Value} {nx : ANext} (h : aBuiltin E b ats.toList args σ = some (nx, σ')) (hF : Fresh β σ.next σ'.next)
    (hargs : VRs β args uargs.toList) (ty : TypeId) (cs : Array Bool) : OpRes E B P β σ σ' w (builtin b ats ty cs uargs) nx := by
  unfold aBuiltin at h
  split at h
  · rename_i t rest x hats
    obtain ⟨v, hv, rfl, rfl⟩ := vals_some h
    obtain ⟨ux, hux, hx⟩ := hargs.one
    rw [arr1 hux]
    exact (len_ok hE hR hv hx (ats_get hats) ty).res
  · rename_i t t2 s x hats
    obtain ⟨v, hv, rfl⟩ := valr_some h
    obtain ⟨us, ux, hu, hs, hx⟩ := hargs.two
    rw [arr2 hu, arr2 hats]
    exact (append_ok hE hR hW hv hF hs hx ty).res
  · rename_i t rest hats
    split at h
    · rename_i e _ ht
      simp only [Option.some.injEq, Prod.mk.injEq] at h
      obtain ⟨rfl, rfl⟩ := h
      obtain ⟨ux, hux, hx⟩ := hargs.one
      rw [arr1 hux]
      simp only [VR] at hx; subst hx
      have : Does E B P β σ σ w (Builtin.cap_ ats ty #[.slice none 0 0]) (.sc (.int .i64 0)) :=
        ⟨β, .int .i64 0, w, by simp [Builtin.cap_, ats_get hats, run_underlying ((hE.ty t _ ht).slice rfl), goInt], by simp [VR], hR, Step.refl _ _ _ _⟩
      exact this.res
    · simp at h
  · rename_i t rest d x hats
    obtain ⟨v, hv, rfl⟩ := valr_some h
    obtain ⟨us, ux, hu, hs, hx⟩ := hargs.two
    rw [arr2 hu]
    exact (copy_ok hE hR hv hs hx (ats_get hats) ty).res
  · rename_i t rest x hats
    obtain ⟨v, hv, rfl⟩ := valr_some h
    obtain ⟨ux, hux, hx⟩ := hargs.one
    rw [arr1 hux]
    exact (clear_ok hE hR hv hx (ats_get hats) ty).res
  · rename_i t rest m k hats
    obtain ⟨v, hv, rfl⟩ := valr_some h
    simp only [Option.map_eq_some_iff, Prod.mk.injEq] at hv
    obtain ⟨⟨v1, σ1⟩, hv1, rfl, rfl⟩ := hv
    obtain ⟨um, uk, hu, hm, hk⟩ := hargs.two
    rw [arr2 hu]
    exact (delete_ok hE hR hv1 hm hk (ats_get hats) ty).res
  · rename_i x l
    obtain ⟨v, hv, rfl, rfl⟩ := vals_some h
    have hargs' := hargs
    simp only [VRs] at hargs'
    obtain ⟨ux, ul, hu, hx, hl⟩ := hargs'
    obtain ⟨u, hvu, hrun⟩ := foldM2_ok (P := P) (w := w) l ul x v ux hv hx hl
    have : Does E B P β _ _ w (Builtin.max_ ats ty uargs) v := ⟨β, u, w, by simp only [Builtin.max_, hu]; exact hrun, hvu, hR, Step.refl _ _ _ _⟩
    exact this.res
  · rename_i x l
    obtain ⟨v, hv, rfl, rfl⟩ := vals_some h
    have hargs' := hargs
    simp only [VRs] at hargs'
    obtain ⟨ux, ul, hu, hx, hl⟩ := hargs'
    obtain ⟨u, hvu, hrun⟩ := foldM2_ok (P := P) (w := w) l ul x v ux hv hx hl
    have : Does E B P β _ _ w (Builtin.min_ ats ty uargs) v := ⟨β, u, w, by simp only [Builtin.min_, hu]; exact hrun, hvu, hR, Step.refl _ _ _ _⟩
    exact this.res
  · simp at h
end
end Go.Vai
