/-
  Drawn regions: every order.
-/
import Derived.Test.YtkjmlnegmmlfdaaGreatDoorVaiZj
namespace Go.Vai
open Go

def cnt (D : Nat → Bool) : Nat → Nat
  | 0 => 0
  | m + 1 => cnt D m + cond (D m) 1 0
theorem cnt_le (D : Nat → Bool) : ∀ m, cnt D m ≤ m
  | 0 => Nat.le_refl _
  | m + 1 => by
    have := cnt_le D m
    unfold cnt
    cases D m <;> simp <;> omega
theorem cnt_full {D : Nat → Bool} : ∀ m, m ≤ cnt D m → ∀ k, k < m → D k = true
  | 0, _, k, hk => by omega
  | m + 1, h, k, hk => by
    have h1 := cnt_le D m
    unfold cnt at h
    cases hD : D m with
    | false => rw [hD] at h; simp at h; omega
    | true =>
      rw [hD] at h
      simp at h
      by_cases e : k = m
      · subst e; exact hD
      · exact cnt_full m h k (by omega)
theorem cnt_more {D : Nat → Bool} {i : Nat} (hi : D i = false) : ∀ m, cnt (fun k => D k || Nat.beq k i) m = cnt D m + (if i < m then 1 else 0)
  | 0 => by simp [cnt]
  | m + 1 => by
    have ih := cnt_more hi m
    unfold cnt
    rw [ih]
    by_cases e : m = i
    · subst e
      simp [hi]
    · have hb : Nat.beq m i = false := by
        cases h : Nat.beq m i with
        | false => rfl
        | true => exact absurd (beqT h) e
      rw [hb, Bool.or_false]
      by_cases hl : i < m
      · rw [if_pos hl, if_pos (by omega)]; omega
      · rw [if_neg hl, if_neg (by omega)]; rfl
section
variable {E : Env} {P : Program} {V : Ev} {B : Nat} {β0 : Map} {w0 : World} {ops : List Oper} {recs : List Rec} {σs : Nat → St} {τs : Nat → Tm} {vs : Nat → AV}
theorem any_ok (hE : EnvOk E P) (hV : Sound E P V) (hr : RunAt E V ops (masksOf ops) recs σs τs vs) (hW0 : WF (σs 0)) (hEd : okEdges ops = true) (hO : okOps ops (masksOf ops) = true) (hK : okRecs (masksOf ops) recs = true)
    (hF0 : Fresh β0 (σs 0).next (σs ops.length).next) {F : Fence} {n : Nat} {Q : Exit → Act → World → Prop} (hOp : Open F)
    (hQ : ∀ D β a w, (∀ k, k < ops.length → D k = true) → DInv E B β0 w0 ops recs σs (τs 0) vs D β a w → Q .normal a w) :
    ∀ (fuel : Nat) (listed : Array Bool) (β : Map) (a : Act) (w : World), listed.size = ops.length → ops.length ≤ fuel + cnt (fun k => listed.getD k false) ops.length →
      (∀ k o, ops[k]? = some o → listed.getD k false = true → ∀ e ∈ o.after, Region.binds .any e = true → listed.getD e.on false = true) →
      DInv E B β0 w0 ops recs σs (τs 0) vs (fun k => listed.getD k false) β a w → wpAnyIn F n P .any ops.toArray Q fuel listed a w := by
  intro fuel
  have eqD : ∀ (listed : Array Bool) k, k < listed.size → listed.getD k true = listed.getD k false := by
    intro listed k hk
    simp [Array.getD_eq_getD_getElem?, hk]
  induction fuel with
  | zero =>
    intro listed β a w hsz hc hcl hI
    have hall : ∀ k, k < ops.length → listed.getD k false = true := cnt_full ops.length (by omega)
    refine ⟨?_, hQ _ β a w hall hI⟩
    cases hrd : Region.ready .any ops.toArray listed with
    | nil => rfl
    | cons i l =>
      have hm : i ∈ Region.ready .any ops.toArray listed := by rw [hrd]; simp
      obtain ⟨h1, o, ho, _⟩ := mem_ready.1 hm
      have hi : i < ops.length := by
        rw [List.getElem?_toArray] at ho
        exact (List.getElem?_eq_some_iff.1 ho).1
      rw [eqD listed i (by omega), hall i hi] at h1
      simp at h1
  | succ fuel ih =>
    intro listed β a w hsz hc hcl hI
    refine ⟨fun hrd => ?_, fun i hi => ?_⟩
    · refine hQ _ β a w ?_ hI
      intro k
      induction k using Nat.strongRecOn with
      | _ k ihk =>
        intro hk
        cases hD : listed.getD k false with
        | true => rfl
        | false =>
          exfalso
          have hmem : k ∈ Region.ready .any ops.toArray listed := by
            refine mem_ready.2 ⟨by rw [eqD listed k (by omega)]; exact hD, ops[k], by simp [hk], ?_⟩
            intro e he hb
            unfold okEdges at hEd
            rw [List.all_eq_true] at hEd
            have h1 := hEd (ops[k], k) (by rw [List.mem_zipIdx_iff_getElem?]; simp [hk])
            rw [List.all_eq_true] at h1
            have h2 := h1 e (by simpa using he)
            simp only [hb, Bool.not_true, Bool.false_or] at h2
            have hlt := bltT h2
            exact ihk e.on hlt (by omega)
          rw [hrd] at hmem
          cases hmem
    · obtain ⟨h1, o, ho, hedge⟩ := mem_ready.1 hi
      have ho' : ops[i]? = some o := by simpa using ho
      have hil : i < ops.length := (List.getElem?_eq_some_iff.1 ho').1
      have hDi : listed.getD i false = false := by rw [← eqD listed i (by omega)]; exact h1
      have hN : Next ops (fun k => listed.getD k false) i :=
        ⟨hDi, fun k hk => by
            rcases Nat.lt_or_ge k ops.length with h | h
            · exact h
            · simp [Array.getD_eq_getD_getElem?, Array.getElem?_eq_none (by omega : listed.size ≤ k)] at hk,
          fun j hj => mask_ready hEd (D := fun k => listed.getD k false = true) hcl ho' hedge hj,
          fun k j hk hj => mask_closed hEd (D := fun k => listed.getD k false = true) hcl k j hk hj⟩
      have hset : (fun k => (listed.setIfInBounds i true).getD k false) = fun k => listed.getD k false || Nat.beq k i := by
        funext k
        rw [Array.getD_eq_getD_getElem?, Array.getD_eq_getD_getElem?]
        by_cases e : k = i
        · subst e
          rw [Array.getElem?_setIfInBounds_self_of_lt (by omega)]
          simp
        · rw [Array.getElem?_setIfInBounds_ne (by omega)]
          have : Nat.beq k i = false := by
            cases hb : Nat.beq k i with
            | false => rfl
            | true => exact absurd (beqT hb) e
          rw [this, Bool.or_false]
      have hnext : ∀ β' a' w', DInv E B β0 w0 ops recs σs (τs 0) vs (fun k => listed.getD k false || Nat.beq k i) β' a' w' → wpAnyIn F n P .any ops.toArray Q fuel (listed.setIfInBounds i true) a' w' := by
        intro β' a' w' hI'
        refine ih (listed.setIfInBounds i true) β' a' w' (by simp [hsz]) ?_ ?_ (by rw [hset]; exact hI')
        · rw [hset, cnt_more hDi, if_pos hil]; omega
        · intro k ok hok hk e he hb
          have hs2 := congrFun hset
          rw [hs2] at hk ⊢
          simp only [Bool.or_eq_true] at hk ⊢
          rcases hk with hk | hk
          · exact .inl (hcl k ok hok hk e he hb)
          · have := beqT hk
            subst this
            rw [ho'] at hok; simp only [Option.some.injEq] at hok; subst hok
            exact .inl (hedge e he hb)
      obtain ⟨r, hs⟩ := hr i o ho'
      have hwant : wantedA ops (tD (fun k => listed.getD k false) ops (τs 0) vs ops.length) o = wantedA ops (τs i) o := looks_wanted hr hO hN ho'
      have hnD := (tD_meta (D := fun k => listed.getD k false) (ops := ops) (vs := vs) (τ := τs 0) ops.length).1
      unfold wpOpIn
      rw [ho]
      simp only []
      rcases hs.run with ⟨hw, _⟩ | ⟨hw, _⟩
      · rw [wanted_ok (hwant.trans hw) (by rw [hnD]; exact hI.tm)]
        simp only [if_true]
        exact inv_step hE hV hr hW0 hEd hO hK hN ho' hs hw hF0 hI hOp hnext
      · rw [wanted_ok (hwant.trans hw) (by rw [hnD]; exact hI.tm)]
        simp only [Bool.false_eq_true, if_false]
        exact ⟨fun f _ => hOp.1 f, hnext β _ w (inv_skip hO hr hN ho' hs hw hI)⟩
theorem draw_ok (hE : EnvOk E P) : DrawOk E P := by
  intro V hV rd id ops τ σ τ' σ' h
  unfold draw at h
  simp only at h
  obtain ⟨h1, h2⟩ := condT h
  simp only [Bool.and_eq_true] at h1
  obtain ⟨hEd, hO⟩ := h1
  split at h2
  · rename_i recs τ1 σ1 hd
    obtain ⟨hK, h3⟩ := condT h2
    simp only [Option.some.injEq, Prod.mk.injEq] at h3
    obtain ⟨rfl, rfl⟩ := h3
    obtain ⟨σs, τs, vs, e1, e2, e3, e4, _, hr0⟩ := drawFrom_run E V ops.toList (masksOf ops.toList) ops.toList 0 [] τ σ recs τ1 σ1 (by simp) (Nat.zero_le _) rfl hd
    have hr : RunAt E V ops.toList (masksOf ops.toList) recs σs τs vs := fun k o ho => hr0 k o (Nat.zero_le _) ho
    have ht := (chain hV hr ops.toList.length (Nat.le_refl _)).1
    rw [e1, e3] at ht
    refine ⟨ht, fun B β w a F n Q hOp hrd hR hW hF hfr hQ => wpIn_region_any hE.mixed ?_⟩
    subst e1; subst e2; subst e3; subst e4
    have hops : ops.toList.toArray = ops := by simp
    have hempty : ∀ m, hD (fun k => (Array.replicate ops.size false).getD k false) recs σs m = fun id => (σs 0).h.get id := by
      intro m
      funext id
      have := hD_none (D := fun k => (Array.replicate ops.size false).getD k false) (recs := recs) (σs := σs) (id := id) 0 m (Nat.zero_le _) (by
        intro k _ _ hk
        simp [Array.getD_eq_getD_getElem?, Array.getElem?_replicate] at hk
        split at hk <;> simp at hk)
      rw [this]; rfl
    have hk0 : ∀ k, (Array.replicate ops.size false).getD k false = false := by
      intro k
      rw [Array.getD_eq_getD_getElem?, Array.getElem?_replicate]
      split <;> rfl
    have hl0 : lookD (fun k => (Array.replicate ops.size false).getD k false) recs σs ops.toList.length = (σs 0).look := by
      funext id
      unfold lookD
      rw [hempty]
      rfl
    have hstart : DInv E B β w ops.toList recs σs (τs 0) vs (fun k => (Array.replicate ops.size false).getD k false) β a { w with drawn := w.drawn + 1 } := by
      refine ⟨?_, ⟨Sub.refl _, fun _ _ _ e => .inl e, rfl, rfl, rfl, Nat.le_refl _, fun _ _ _ => rfl⟩, ?_, hfr.2, ?_⟩
      · rw [hl0]
        exact ⟨fun id o ho => (hR.obj id o ho).mono (Sub.refl _) (fun g e => e) (fun g l _ => rfl), hR.own, hR.inj, hR.gl, hR.size⟩
      · obtain ⟨g1, g2, g3⟩ := hfr.1
        have hg : ∀ t, (tD (fun k => (Array.replicate ops.size false).getD k false) ops.toList (τs 0) vs ops.toList.length).t.get t = (τs 0).t.get t := fun t => by
          rw [tD_none 0 ops.toList.length (Nat.zero_le _) (fun k o _ _ hk => by rw [hk0 k] at hk; simp at hk)]
          rfl
        exact ⟨g1, fun t ht' => by rw [hg]; exact g2 t ht', fun t ht' => by rw [hg]; exact g3 t ht'⟩
      · intro id g l e h1 h2
        rw [hF id g h1 h2] at e; simp at e
    have key := any_ok (n := n) (Q := Q) hE hV hr hW hEd hO hK hF hOp (fun D β' a' w' hall hI => by
      refine hQ β' w' a' ?_ hI.st ⟨?_, ?_⟩
      · have : lookD D recs σs ops.toList.length = (σs ops.toList.length).look := by
          funext id
          unfold lookD St.look
          rw [hD_all hV hr hW ops.toList.length (Nat.le_refl _) (fun k hk _ => hall k hk), ht.hid]
        rw [← this]; exact hI.hr
      · obtain ⟨g1, g2, g3⟩ := hI.tm
        have hn := (tmeta hr ops.toList.length (Nat.le_refl _)).1
        have hg : ∀ t, (tD D ops.toList (τs 0) vs ops.toList.length).t.get t = (τs ops.toList.length).t.get t := fun t => tD_all hr _ (Nat.le_refl _) (fun k o hk _ _ => hall k hk)
        exact ⟨by rw [g1, hn], fun t ht' => by rw [← hg]; exact g2 t (by omega), fun t ht' => by rw [← hg]; exact g3 t (by omega)⟩
      · rw [(tmeta hr ops.toList.length (Nat.le_refl _)).2]; exact hI.mks) ops.size (Array.replicate ops.size false) β a { w with drawn := w.drawn + 1 } (by simp) (by simp) (fun k o _ hk => by rw [hk0 k] at hk; simp at hk) hstart
    rw [hops] at key
    exact key
  · simp at h2
end
end Go.Vai
