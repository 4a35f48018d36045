/-
  The tables; a change at one object; reading and writing cells.
-/
import Derived.Test.YtkjmlnegmmlfdaaGreatDoorVaiD
namespace Go.Vai
open Go

/-! ### The tables -/
def descA : TypeDesc → ADesc
  | .bool => .bool
  | .int k => .int k
  | .string => .string
  | .pointer e => .pointer e
  | .slice e => .slice e
  | .array n e => .array n e
  | .map k e => .map k e
  | .struct fs => .struct (fs.toList.map fun f => (f.offset, f.type, f.name != "_"))
  | .interface _ => .iface
  | .func .. => .func
  | _ => .other
def aggA : TypeDesc → Bool
  | .struct _ | .array _ _ => true
  | _ => false
structure TyOk (P : Program) (t : TypeId) (ty : ATy) : Prop where
  info : ∃ i z, P.info? t = some i ∧ i.size = ty.size ∧ i.bytes = ty.bytes ∧ i.zero = some z ∧ z.cells = ty.zero.toArray ∧ ty.zero.length = ty.size
  und : ∃ d, P.underlying t = some d ∧ ty.d = descA d ∧ ty.agg = aggA d
  agg : ty.agg = true → ∃ i, P.info? t = some i ∧ i.zero = some (.agg ty.zero.toArray)
  one : ty.agg = false → ∃ i x, P.info? t = some i ∧ i.zero = some x ∧ ty.zero = [x]
  cells : ty.zero.all (·.oneCell') = true
  eq : ty.eq = true → P.stoodInHeld t = false ∧ P.eqGuardType P.depth t = false
structure EnvOk (E : Env) (P : Program) : Prop where
  ty : ∀ t ty, E.ty.get t = some ty → TyOk P t ty
  fn : ∀ f fn, E.fn.get f = some fn → P.funcs[f]? = some fn ∧ fn.name ≠ "runtime.NumGoroutine"
  mixed : P.follows .mixedOrders = true

section
variable {P : Program} {w : World}
theorem run_sizeOf {t : TypeId} {i : TypeInfo} (h : P.info? t = some i) : (sizeOf t).run P w = .ok i.size w := by simp [sizeOf, typeInfo, program, h, Sem.run]
theorem run_typeInfo {t : TypeId} {i : TypeInfo} (h : P.info? t = some i) : (typeInfo t).run P w = .ok i w := by simp [typeInfo, program, h, Sem.run]
theorem run_zero {t : TypeId} {i : TypeInfo} {z : Value} (h : P.info? t = some i) (hz : i.zero = some z) : (zeroValue t).run P w = .ok z w := by simp [zeroValue, run_typeInfo h, hz]
theorem run_isAgg {t : TypeId} {d : TypeDesc} (h : P.underlying t = some d) : (isAgg t).run P w = .ok (aggA d) w := by
  simp only [isAgg, Sem.run_bind, run_underlying h, Result.andThen_ok]
  cases d <;> simp [aggA]
theorem TyOk.size {t : TypeId} {ty : ATy} (h : TyOk P t ty) : (sizeOf t).run P w = .ok ty.size w := by
  obtain ⟨i, z, hi, hs, _⟩ := h.info
  rw [run_sizeOf hi, hs]
theorem TyOk.isAgg {t : TypeId} {ty : ATy} (h : TyOk P t ty) : (Go.isAgg t).run P w = .ok ty.agg w := by
  obtain ⟨d, hd, _, ha⟩ := h.und
  rw [run_isAgg hd, ha]
theorem TyOk.zero {t : TypeId} {ty : ATy} (h : TyOk P t ty) : ∃ z, (zeroValue t).run P w = .ok z w ∧ z.cells = ty.zero.toArray := by
  obtain ⟨i, z, hi, _, _, hz, hc, _⟩ := h.info
  exact ⟨z, run_zero hi hz, hc⟩
theorem TyOk.slice {t e : TypeId} {ty : ATy} (h : TyOk P t ty) (hd : ty.d = .slice e) : P.underlying t = some (.slice e) := by
  obtain ⟨d, hu, h1, _⟩ := h.und
  rw [hd] at h1
  cases d <;> simp [descA] at h1
  subst h1; exact hu
theorem TyOk.array {t e : TypeId} {n : Nat} {ty : ATy} (h : TyOk P t ty) (hd : ty.d = .array n e) : P.underlying t = some (.array n e) := by
  obtain ⟨d, hu, h1, _⟩ := h.und
  rw [hd] at h1
  cases d <;> simp [descA] at h1
  obtain ⟨rfl, rfl⟩ := h1; exact hu
theorem TyOk.map {t k e : TypeId} {ty : ATy} (h : TyOk P t ty) (hd : ty.d = .map k e) : P.underlying t = some (.map k e) := by
  obtain ⟨d, hu, h1, _⟩ := h.und
  rw [hd] at h1
  cases d <;> simp [descA] at h1
  obtain ⟨rfl, rfl⟩ := h1; exact hu
theorem TyOk.pointer {t e : TypeId} {ty : ATy} (h : TyOk P t ty) (hd : ty.d = .pointer e) : P.underlying t = some (.pointer e) := by
  obtain ⟨d, hu, h1, _⟩ := h.und
  rw [hd] at h1
  cases d <;> simp [descA] at h1
  subst h1; exact hu
theorem TyOk.int {t : TypeId} {k : IntKind} {ty : ATy} (h : TyOk P t ty) (hd : ty.d = .int k) : P.underlying t = some (.int k) := by
  obtain ⟨d, hu, h1, _⟩ := h.und
  rw [hd] at h1
  cases d <;> simp [descA] at h1
  subst h1; exact hu
theorem TyOk.string {t : TypeId} {ty : ATy} (h : TyOk P t ty) (hd : ty.d = .string) : P.underlying t = some .string := by
  obtain ⟨d, hu, h1, _⟩ := h.und
  rw [hd] at h1
  cases d <;> simp [descA] at h1
  exact hu
theorem TyOk.bool {t : TypeId} {ty : ATy} (h : TyOk P t ty) (hd : ty.d = .bool) : P.underlying t = some .bool := by
  obtain ⟨d, hu, h1, _⟩ := h.und
  rw [hd] at h1
  cases d <;> simp [descA] at h1
  exact hu
theorem TyOk.func {t : TypeId} {ty : ATy} (h : TyOk P t ty) (hd : ty.d = .func) : ∃ a b c, P.underlying t = some (.func a b c) := by
  obtain ⟨d, hu, h1, _⟩ := h.und
  rw [hd] at h1
  cases d <;> simp [descA] at h1
  exact ⟨_, _, _, hu⟩
theorem TyOk.struct {t : TypeId} {fs : List (Nat × TypeId × Bool)} {ty : ATy} (h : TyOk P t ty) (hd : ty.d = .struct fs) :
    ∃ fields : Array Field, P.underlying t = some (.struct fields) ∧ fs = fields.toList.map fun f => (f.offset, f.type, f.name != "_") := by
  obtain ⟨d, hu, h1, _⟩ := h.und
  rw [hd] at h1
  cases d <;> simp [descA] at h1
  exact ⟨_, hu, h1⟩
end

/-! ### A change at one object -/
def upd (look : Look) (id : Nat) (o : AObj) : Look := fun i => if i = id then some o else look i
theorem HR.change {E : Env} {B : Nat} {β β' : Map} {look : Look} {w w' : World} (h : HR E B β look w) (id : Nat) (o : AObj) (lo hi : Nat)
    (sub : Sub β β')
    (new : ∀ i g l, β' i g = some l → β i g = some l ∨ (i = id ∧ ((w.heap.size ≤ l.b ∧ l.b < w'.heap.size) ∨ ∃ g0 l0, β id g0 = some l0 ∧ l0.b = l.b)))
    (hid : (∃ o0, look id = some o0) ∨ ((∀ g, β id g = none) ∧ lo ≤ id ∧ id < hi))
    (hos : w'.os = w.os) (htape : w'.tape = w.tape) (hout : w'.output = w.output) (hsize : w.heap.size ≤ w'.heap.size)
    (keep : ∀ b, b < w.heap.size → (∀ g l, β id g = some l → l.b ≠ b) → w'.heap[b]? = w.heap[b]?)
    (ho : ObjR β' w' id o) : HR E B β' (upd look id o) w' ∧ Step β β' look lo hi w w' := by
  have ownid : ∀ g l, β id g = some l → B ≤ l.b ∧ l.b < w.heap.size := by
    intro g l e
    rcases hid with ⟨o0, h0⟩ | ⟨h0, _⟩
    · exact h.own id o0 g l h0 e
    · rw [h0 g] at e; simp at e
  have ownnew : ∀ g l, β' id g = some l → B ≤ l.b ∧ l.b < w'.heap.size := by
    intro g l e
    rcases new id g l e with e | ⟨_, ⟨a, b⟩ | ⟨g0, l0, e0, eb⟩⟩
    · exact ⟨(ownid g l e).1, Nat.lt_of_lt_of_le (ownid g l e).2 hsize⟩
    · exact ⟨Nat.le_trans h.size a, b⟩
    · have := ownid g0 l0 e0; rw [eb] at this; exact ⟨this.1, Nat.lt_of_lt_of_le this.2 hsize⟩
  have other : ∀ i g l, i ≠ id → β' i g = some l → β i g = some l := by
    intro i g l hi' e
    rcases new i g l e with e | ⟨e, _⟩
    · exact e
    · exact absurd e hi'
  -- a place of another object is none of this one's
  have apart : ∀ i o' g l g' l', i ≠ id → look i = some o' → β i g = some l → β' id g' = some l' → l.b ≠ l'.b := by
    intro i o' g l g' l' hi' ho' e e' eb
    rcases new id g' l' e' with e' | ⟨_, ⟨a, _⟩ | ⟨g0, l0, e0, eb0⟩⟩
    · rcases hid with ⟨o0, h0⟩ | ⟨h0, _⟩
      · exact hi' (h.inj i o' id o0 g g' l l' ho' h0 e e' eb)
      · rw [h0 g'] at e'; simp at e'
    · have := (h.own i o' g l ho' e).2; omega
    · rcases hid with ⟨o0, h0⟩ | ⟨h0, _⟩
      · exact hi' (h.inj i o' id o0 g g0 l l0 ho' h0 e e0 (eb.trans eb0.symm))
      · rw [h0 g0] at e0; simp at e0
  refine ⟨⟨?_, ?_, ?_, ?_, Nat.le_trans h.size hsize⟩, ⟨sub, ?_, hos, htape, hout, hsize, ?_⟩⟩
  · intro i o' hi'
    unfold upd at hi'
    split at hi'
    · rename_i e; subst e; simp at hi'; subst hi'; exact ho
    · rename_i hne
      refine (h.obj i o' hi').mono sub ?_ ?_
      · intro g hg
        cases e : β' i g with
        | none => rfl
        | some l => rw [other i g l hne e] at hg; simp at hg
      · intro g l e
        exact keep l.b (h.own i o' g l hi' e).2 (fun g' l' e' eb => apart i o' g l g' l' hne hi' e (sub _ _ _ e') eb.symm)
  · intro i o' g l hi' e
    unfold upd at hi'
    split at hi'
    · rename_i e'; subst e'; exact ownnew g l e
    · rename_i hne
      have := h.own i o' g l hi' (other i g l hne e)
      exact ⟨this.1, Nat.lt_of_lt_of_le this.2 hsize⟩
  · intro i oi j oj g g' l l' hi' hj e e' eb
    unfold upd at hi' hj
    split at hi'
    · rename_i ei
      split at hj
      · rename_i ej; exact ei.trans ej.symm
      · rename_i hne
        subst ei
        exact absurd eb.symm (apart j oj g' l' g l hne hj (other j g' l' hne e') e)
    · rename_i hne
      split at hj
      · rename_i ej; subst ej
        exact absurd eb (apart i oi g l g' l' hne hi' (other i g l hne e) e')
      · rename_i hne'
        exact h.inj i oi j oj g g' l l' hi' hj (other i g l hne e) (other j g' l' hne' e') eb
  · intro g cs hg
    obtain ⟨hB, hc⟩ := h.gl g cs hg
    refine ⟨hB, fun i v hv => ?_⟩
    rw [World.cell?_of_block (w := w) (keep g (Nat.lt_of_lt_of_le hB h.size) (fun g' l' e' eb => by have := (ownid g' l' e').1; omega))]
    exact hc i v hv
  · intro i g l e
    rcases new i g l e with e | ⟨rfl, r⟩
    · exact .inl e
    · rcases hid with ⟨o0, h0⟩ | ⟨h0, ha, hb⟩
      · refine .inr (.inr ⟨o0, h0, ?_⟩)
        rcases r with ⟨a, _⟩ | r
        · exact .inl a
        · exact .inr r
      · refine .inr (.inl ⟨ha, hb, ?_⟩)
        rcases r with ⟨a, _⟩ | ⟨g0, l0, e0, _⟩
        · exact a
        · rw [h0 g0] at e0; simp at e0
  · intro b hb hno
    refine keep b hb ?_
    intro g l e
    rcases hid with ⟨o0, h0⟩ | ⟨h0, _⟩
    · exact hno id o0 g l h0 e
    · rw [h0 g] at e; simp at e

/-! ### States, traces -/
structure WF (σ : St) : Prop where
  none : ∀ id, σ.next ≤ id → σ.h.get id = Option.none
  vis : ∀ id, σ.next ≤ id → hidden id σ.hid = false
structure Tr (σ σ' : St) : Prop where
  next : σ.next ≤ σ'.next
  hid : σ'.hid = σ.hid
  log : ∃ l, σ'.log = l ++ σ.log ∧ (∀ id, id < σ.next → id ∉ l → σ'.h.get id = σ.h.get id) ∧ ∀ id ∈ l, id < σ.next → hidden id σ.hid = false
  dom : ∀ id, id < σ.next → (σ'.h.get id = Option.none ↔ σ.h.get id = Option.none)
  wf : WF σ → WF σ'
theorem Tr.refl (σ : St) : Tr σ σ := ⟨Nat.le_refl _, rfl, ⟨[], rfl, fun _ _ _ => rfl, fun _ h => by cases h⟩, fun _ _ => Iff.rfl, id⟩
theorem Tr.trans {a b c : St} (h : Tr a b) (k : Tr b c) : Tr a c := by
  obtain ⟨l1, e1, s1, v1⟩ := h.log
  obtain ⟨l2, e2, s2, v2⟩ := k.log
  refine ⟨Nat.le_trans h.next k.next, k.hid.trans h.hid, ⟨l2 ++ l1, by rw [e2, e1, List.append_assoc], ?_, ?_⟩, ?_, fun x => k.wf (h.wf x)⟩
  · intro id hid hn
    simp only [List.mem_append, not_or] at hn
    rw [s2 id (Nat.lt_of_lt_of_le hid h.next) hn.1, s1 id hid hn.2]
  · intro id hm hid
    rcases List.mem_append.1 hm with hm | hm
    · rw [← h.hid]; exact v2 id hm (Nat.lt_of_lt_of_le hid h.next)
    · exact v1 id hm hid
  · intro id hid
    rw [k.dom id (Nat.lt_of_lt_of_le hid h.next), h.dom id hid]
theorem look_some {σ : St} {id : Nat} {o : AObj} (h : σ.look id = some o) : hidden id σ.hid = false ∧ σ.h.get id = some o := by
  unfold St.look at h
  cases e : hidden id σ.hid with
  | true => simp [e] at h
  | false => exact ⟨rfl, by simpa [e] using h⟩
theorem look_lt {σ : St} (hw : WF σ) {id : Nat} {o : AObj} (h : σ.look id = some o) : id < σ.next := by
  rcases Nat.lt_or_ge id σ.next with h' | h'
  · exact h'
  · have := (look_some h).2; rw [hw.none id h'] at this; simp at this
theorem look_put {σ : St} {id : Nat} (o : AObj) (hv : hidden id σ.hid = false) : (σ.put id o).look = upd σ.look id o := by
  funext i
  unfold St.look St.put upd
  simp only [T.get_set']
  by_cases e : i = id
  · subst e; simp [hv]
  · simp [e]
theorem look_new {σ : St} (hw : WF σ) (o : AObj) : (σ.new o).look = upd σ.look σ.next o := by
  funext i
  unfold St.look St.new upd
  simp only [T.get_set']
  by_cases e : i = σ.next
  · subst e; simp [hw.vis _ (Nat.le_refl _)]
  · simp [e]
theorem Tr.put {σ : St} {id : Nat} {o0 : AObj} (h : σ.look id = some o0) (o : AObj) : Tr σ (σ.put id o) := by
  obtain ⟨hv, hg⟩ := look_some h
  refine ⟨Nat.le_refl _, rfl, ⟨[id], rfl, ?_, ?_⟩, ?_, ?_⟩
  · intro i _ hn
    simp only [St.put, T.get_set']
    rw [if_neg (by simpa using hn)]
  · intro i hm _
    simp at hm; subst hm; exact hv
  · intro i _
    simp only [St.put, T.get_set']
    split
    · rename_i e; subst e; simp [hg]
    · rfl
  · intro hw
    have := look_lt hw h
    refine ⟨fun i hi => ?_, hw.vis⟩
    simp only [St.put, T.get_set']
    have hi' : σ.next ≤ i := hi
    rw [if_neg (by omega)]
    exact hw.none i hi'
theorem Tr.new (σ : St) (o : AObj) : Tr σ (σ.new o) := by
  refine ⟨Nat.le_succ _, rfl, ⟨[], rfl, ?_, fun _ h => by cases h⟩, ?_, ?_⟩
  · intro i hi _
    simp only [St.new, T.get_set']
    rw [if_neg (by omega)]
  · intro i hi
    simp only [St.new, T.get_set']
    rw [if_neg (by omega)]
  · intro hw
    refine ⟨fun i hi => ?_, fun i hi => hw.vis i (by have : σ.next + 1 ≤ i := hi; omega)⟩
    have hi' : σ.next + 1 ≤ i := hi
    simp only [St.new, T.get_set']
    rw [if_neg (by omega)]
    exact hw.none i (by omega)
theorem Tr.lookdom {σ σ' : St} (h : Tr σ σ') : ∀ id o, σ'.look id = some o → (∃ o', σ.look id = some o') ∨ (σ.next ≤ id ∧ (WF σ → id < σ'.next)) := by
  intro id o ho
  obtain ⟨hv, hg⟩ := look_some ho
  rcases Nat.lt_or_ge id σ.next with hlt | hge
  · left
    have hn : σ.h.get id ≠ Option.none := fun e => by rw [(h.dom id hlt).2 e] at hg; simp at hg
    cases e : σ.h.get id with
    | none => exact absurd e hn
    | some o' => exact ⟨o', by unfold St.look; rw [← h.hid, hv, e]; rfl⟩
  · exact .inr ⟨hge, fun hw => look_lt (h.wf hw) ho⟩
end Go.Vai
