/-
  Building structs, arrays and slices; new rows; loads and stores.
-/
import Derived.Test.YtkjmlnegmmlfdaaGreatDoorVaiG
namespace Go.Vai
open Go

/-! ### Filling cells -/
theorem seg_foldl (off : Nat) : ∀ (l : List Value) (k : Nat) (cells : Array Value), off + k + l.length ≤ cells.size →
    (l.zipIdx k).foldl (fun cs p => cs.setIfInBounds (off + p.2) p.1) cells = (cells.toList.take (off + k) ++ l ++ cells.toList.drop (off + k + l.length)).toArray
  | [], k, cells, _ => by simp
  | v :: l, k, cells, h => by
    simp only [List.zipIdx_cons, List.foldl_cons]
    rw [seg_foldl off l (k + 1) _ (by simp at h ⊢; omega)]
    have e := list_seg_step cells.toList (off + k) v l (by simp at h ⊢; omega)
    simp only [Array.toList_setIfInBounds, List.length_cons]
    rw [show off + (k + 1) = off + k + 1 by omega, show off + k + (l.length + 1) = off + k + (l.length + 1) from rfl, ← e]
theorem seg_array (off : Nat) (v cells : Array Value) (h : off + v.size ≤ cells.size) :
    v.zipIdx.foldl (fun cs (p : Value × Nat) => cs.setIfInBounds (off + p.2) p.1) cells = (cells.toList.take off ++ v.toList ++ cells.toList.drop (off + v.size)).toArray := by
  have := seg_foldl off v.toList 0 cells (by simpa using h)
  simp only [Nat.add_zero, Array.length_toList] at this
  rw [← this, ← Array.foldl_toList, Array.toList_zipIdx]
def PartsR (β : Map) : List (Nat × AV) → List (Nat × Value) → Prop
  | [], q => q = []
  | p :: l, q => ∃ u q', q = (p.1, u) :: q' ∧ VR β p.2 u ∧ PartsR β l q'
theorem fill_ok {β : Map} {place place' : Nat → Option (Nat × Nat)} (hp : ∀ i x, place i = some x → place' i = some x) : ∀ (l : List (Nat × AV)) (q : List (Nat × Value)) (cells : List AV) (cs : Array Value) (r : List AV),
    fillA place cells l = some r → VRs β cells cs.toList → PartsR β l q → ∃ rc, Instr.fill place' cs q = some rc ∧ VRs β r rc.toList
  | [], q, cells, cs, r, h, hr, hq => by
    simp only [PartsR] at hq; subst hq
    simp only [fillA, Option.some.injEq] at h; subst h
    exact ⟨cs, rfl, hr⟩
  | (i, v) :: l, q, cells, cs, r, h, hr, hq => by
    simp only [PartsR] at hq
    obtain ⟨u, q', rfl, hv, hq⟩ := hq
    simp only [fillA] at h
    split at h
    · simp at h
    · rename_i off size hpl
      obtain ⟨h1, h2⟩ := condT h
      simp only [Bool.and_eq_true] at h1
      have hs := beqT h1.1
      have hf := bleT h1.2
      have hc := hv.cells
      have e1 : u.cells.size = size := by have := hc.length; simp at this; omega
      have e2 : cs.size = cells.length := by simpa using hr.length
      simp only [Instr.fill, hp i _ hpl]
      rw [if_neg (by simp; omega), seg_array off u.cells cs (by omega)]
      refine fill_ok hp l q' _ _ r h2 ?_ hq
      have := hr.over off hc
      simpa using this

section builds
variable {E : Env} {P : Program} {β : Map}
theorem zero_ok (hE : EnvOk E P) {t : TypeId} {ty : ATy} (ht : E.ty.get t = some ty) : ∃ z, (∀ w, (zeroValue t).run P w = .ok z w) ∧ z.cells = ty.zero.toArray ∧ z.cells.size = ty.size ∧ (ty.agg = true → z = .agg ty.zero.toArray) ∧ (ty.agg = false → ∃ x, z = x ∧ ty.zero = [x] ∨ True) := by
  obtain ⟨i, z, hi, hs, _, hz, hc, hl⟩ := (hE.ty t ty ht).info
  refine ⟨z, fun w => run_zero hi hz, hc, by simp [hc, hl], fun ha => ?_, fun _ => ⟨z, .inr trivial⟩⟩
  obtain ⟨i', hi', hz'⟩ := (hE.ty t ty ht).agg ha
  rw [hi] at hi'; simp only [Option.some.injEq] at hi'; subst hi'
  rw [hz] at hz'; simpa using hz'
theorem build_ok (hE : EnvOk E P) {t : TypeId} {ps : List (Nat × AV)} {q : Array (Nat × Value)} {v : AV} (h : aBuild E t ps = some v) (hq : PartsR β ps q.toList) : Pure1 P (Instr.build t q) β v := by
  unfold aBuild at h
  split at h
  · simp at h
  · rename_i ty ht
    obtain ⟨z, hz, hzc, _⟩ := zero_ok hE ht
    have hT := hE.ty t ty ht
    split at h
    · rename_i fs hd
      obtain ⟨h1, h2⟩ := condT h
      simp only [Option.map_eq_some_iff] at h2
      obtain ⟨r, hr, rfl⟩ := h2
      obtain ⟨fields, hu, hfs⟩ := hT.struct hd
      -- the places
      have hpl : ∀ l : List Field, (∀ f ∈ l, (E.ty.get f.type).isSome = true) → l.mapM (fun f => (P.info? f.type).map fun i => (f.offset, i.size)) = some (l.map fun f => (f.offset, ((E.ty.get f.type).map (·.size)).getD 0)) := by
        intro l hl
        induction l with
        | nil => rfl
        | cons f l ih =>
          obtain ⟨fty, hf⟩ := Option.isSome_iff_exists.1 (hl f (by simp))
          obtain ⟨i, _, hi, hs, _⟩ := (hE.ty _ _ hf).info
          rw [List.mapM_cons, ih (fun g hg => hl g (by simp [hg]))]
          simp [hi, hf, hs]
      have hall : ∀ f ∈ fields.toList, (E.ty.get f.type).isSome = true := by
        intro f hf
        rw [hfs, List.all_map, List.all_eq_true] at h1
        exact h1 f hf
      have hpl' := hpl fields.toList hall
      have hpp : ∀ (i : Nat) (x : Nat × Nat), (fun (i : Nat) => match fs[i]? with
          | some (off, ft, _) => (E.ty.get ft).map fun fty => (off, fty.size)
          | none => none) i = some x → (fun (i : Nat) => (fields.toList.map fun f => (f.offset, ((E.ty.get f.type).map (·.size)).getD 0))[i]?) i = some x := by
        intro i x hx
        simp only at hx ⊢
        rw [hfs] at hx
        simp only [List.getElem?_map] at hx
        cases hf : fields.toList[i]? with
        | none => simp [hf] at hx
        | some fd =>
          simp only [hf, Option.map_some] at hx
          simp only [List.getElem?_map, hf, Option.map_some]
          cases hg : E.ty.get fd.type with
          | none => simp [hg] at hx
          | some fty => simp [hg] at hx; simp [hx]
      obtain ⟨rc, hrc, rr⟩ := fill_ok (β := β) hpp ps q.toList _ z.cells r hr (by rw [hzc]; exact VRs.sc _) hq
      refine ⟨.agg rc, by simp only [VR]; exact ⟨rc, rfl, rr⟩, fun w => ?_⟩
      generalize (fields.toList.map fun f => (f.offset, ((E.ty.get f.type).map (·.size)).getD 0)) = L at hpl' hrc
      simp [Instr.build, hz w, run_underlying hu, Array.mapM_eq_mapM_toList, run_places w _ _ hpl', hrc]
    · rename_i n e hd
      split at h
      · rename_i ety he
        simp only [Option.map_eq_some_iff] at h
        obtain ⟨r, hr, rfl⟩ := h
        obtain ⟨rc, hrc, rr⟩ := fill_ok (β := β) (place' := fun i => some (i * ety.size, ety.size)) (fun i x hx => hx) ps q.toList _ z.cells r hr (by rw [hzc]; exact VRs.sc _) hq
        refine ⟨.agg rc, by simp only [VR]; exact ⟨rc, rfl, rr⟩, fun w => ?_⟩
        simp [Instr.build, hz w, run_underlying (hT.array hd), (hE.ty e _ he).size, hrc]
      · simp at h
    · simp at h
end builds

/-! ### What an operation on objects does -/
/-- The model's operation goes through, its value stands for 'v', and the world stands for σ' behind it. -/
def Does (E : Env) (B : Nat) (P : Program) (β : Map) (σ σ' : St) (w : World) (s : Sem Value) (v : AV) : Prop :=
  ∃ β' u w', s.run P w = .ok u w' ∧ VR β' v u ∧ HR E B β' σ'.look w' ∧ Step β β' σ.look σ.next σ'.next w w'
theorem Pure1.does {E : Env} {B : Nat} {P : Program} {β : Map} {σ : St} {w : World} {s : Sem Value} {v : AV} (h : Pure1 P s β v) (hR : HR E B β σ.look w) : Does E B P β σ σ w s v := by
  obtain ⟨u, r, hrun⟩ := h
  exact ⟨β, u, w, hrun w, r, hR, Step.refl _ _ _ _⟩
/-- One place more. -/
def put1 (β : Map) (id g : Nat) (l : Loc) : Map := fun i h => if i = id ∧ h = g then some l else β i h
theorem put1_sub {β : Map} {id g : Nat} {l : Loc} (h : β id g = none) : Sub β (put1 β id g l) := by
  intro i k x e
  unfold put1
  split
  · rename_i e'; obtain ⟨rfl, rfl⟩ := e'; rw [h] at e; simp at e
  · exact e
theorem put1_same (β : Map) (id g : Nat) (l : Loc) : put1 β id g l id g = some l := by simp [put1]
theorem put1_new {β : Map} {id g : Nat} {l : Loc} {i k : Nat} {x : Loc} (e : put1 β id g l i k = some x) : β i k = some x ∨ (i = id ∧ k = g ∧ x = l) := by
  unfold put1 at e
  split at e
  · rename_i e'; simp at e; exact .inr ⟨e'.1, e'.2, e.symm⟩
  · exact .inl e

section news
variable {E : Env} {P : Program} {β : Map} {B : Nat} {σ : St} {w : World}
/-- A new object of whatever kind, in a new block. -/
theorem new_ok (hR : HR E B β σ.look w) (hW : WF σ) (hF : Fresh β σ.next (σ.next + 1)) (o : AObj) (ob : Obj) (w' : World) (hh : w'.heap = w.heap.push ob) (hos : w'.os = w.os) (htape : w'.tape = w.tape)
    (hout : w'.output = w.output) (l : Loc) (hl : l.b = w.heap.size) (ho : ObjR (put1 β σ.next 0 l) w' σ.next o) :
    HR E B (put1 β σ.next 0 l) (σ.new o).look w' ∧ Step β (put1 β σ.next 0 l) σ.look σ.next (σ.new o).next w w' := by
  have hnone : ∀ g, β σ.next g = none := fun g => hF σ.next g (Nat.le_refl _) (Nat.lt_succ_self _)
  have hsz : w'.heap.size = w.heap.size + 1 := by rw [hh]; simp
  rw [look_new hW]
  refine hR.change σ.next o σ.next (σ.next + 1) (put1_sub (hnone 0)) ?_ (.inr ⟨hnone, Nat.le_refl _, Nat.lt_succ_self _⟩) hos htape hout (by omega) ?_ ho
  · intro i g x e
    rcases put1_new e with e | ⟨rfl, _, rfl⟩
    · exact .inl e
    · exact .inr ⟨rfl, .inl ⟨by omega, by omega⟩⟩
  · intro b hb _
    rw [hh, Array.getElem?_push, if_neg (by omega)]
theorem newRow_ok (hR : HR E B β σ.look w) (hW : WF σ) (hF : Fresh β σ.next (σ.next + 1)) {cells : List AV} {cs : Array Value} (el : TypeId) (w' : World) (hh : w'.heap = w.heap.push (.cells cs el (0, 0))) (hos : w'.os = w.os)
    (htape : w'.tape = w.tape) (hout : w'.output = w.output) (hc : cells.all isCell = true) (n : Nat) (hn : n = cells.length) (hr : VRs β cells (cs.toList.take n)) (hle : n ≤ cs.size) :
    HR E B (put1 β σ.next 0 ⟨w.heap.size, 0, n, cs.size⟩) (σ.new (.row 0 0 cells)).look w' ∧
      Step β (put1 β σ.next 0 ⟨w.heap.size, 0, n, cs.size⟩) σ.look σ.next (σ.new (.row 0 0 cells)).next w w' := by
  have hnone : ∀ g, β σ.next g = none := fun g => hF σ.next g (Nat.le_refl _) (Nat.lt_succ_self _)
  refine new_ok hR hW hF _ _ w' hh hos htape hout _ rfl ⟨Nat.le_refl _, hc, ?_, ?_, ?_⟩
  · intro g hg
    unfold put1
    rw [if_neg (by omega)]
    exact hnone g
  · intro g g' l l' _ b _ b' e e' _
    have hg : g = 0 := by omega
    have hg' : g' = 0 := by omega
    subst hg; subst hg'
    rw [e] at e'; simp at e'; rw [e']
  · intro g _ hg
    have hg0 : g = 0 := by omega
    subst hg0
    refine ⟨_, put1_same _ _ _ _, by simp [hn], fun _ => hn, cs, el, by simp [hh], rfl, by simpa using hle, ?_⟩
    simp only [List.drop_zero, hn, List.take_length]
    exact VRs.mono (put1_sub (hnone 0)) _ _ (hn ▸ hr)
theorem run_newRow (el : TypeId) (cs : Array Value) : (newRow el cs).run P w = .ok ⟨w.heap.size, 0, none⟩ { w with heap := w.heap.push (.cells cs el (0, 0)) } := by
  simp [newRow, newObj, Sem.run]
theorem box_ok (hR : HR E B β σ.look w) (hW : WF σ) {v x : AV} {u : Value} {σ' : St} (h : aBox x σ = some (v, σ')) (hF : Fresh β σ.next σ'.next) (hu : VR β x u) (t : TypeId) :
    Does E B P β σ σ' w (Instr.box t u) v := by
  unfold aBox aNewRow at h
  obtain ⟨h1, h2⟩ := condT h
  simp only [Option.some.injEq, Prod.mk.injEq, id] at h2
  obtain ⟨rfl, rfl⟩ := h2
  have hc := hu.cells
  have hlen : u.cells.size = (cellsOf x).length := by simpa using hc.length
  have := newRow_ok hR hW hF t { w with heap := w.heap.push (.cells u.cells t (0, 0)) } rfl rfl rfl rfl h1 (cellsOf x).length rfl (by rw [List.take_of_length_le (by simp [hlen])]; exact hc) (by omega)
  refine ⟨_, .pointer (some ⟨w.heap.size, 0, none⟩), _, ?_, ?_, this.1, this.2⟩
  · simp [Instr.box, newVar, run_newRow]
  · simp only [VR]
    exact ⟨_, put1_same _ _ _ _, by simp, by simp [hlen], rfl⟩
theorem alloc_ok (hE : EnvOk E P) (hR : HR E B β σ.look w) (hW : WF σ) {v : AV} {σ' : St} {t : TypeId} (h : aAlloc E t σ = some (v, σ')) (hF : Fresh β σ.next σ'.next) :
    Does E B P β σ σ' w (Instr.alloc t true (.tuple #[])) v := by
  unfold aAlloc at h
  split at h
  · simp at h
  · rename_i ty ht
    unfold aNewRow at h
    obtain ⟨h1, h2⟩ := condT h
    simp only [Option.some.injEq, Prod.mk.injEq, id] at h2
    obtain ⟨rfl, rfl⟩ := h2
    obtain ⟨z, hz, hzc, _⟩ := zero_ok hE ht
    have hlen : z.cells.size = (ty.zero.map AV.sc).length := by simp [hzc]
    have := newRow_ok hR hW hF t { w with heap := w.heap.push (.cells z.cells t (0, 0)) } rfl rfl rfl rfl h1 (ty.zero.map AV.sc).length rfl (by rw [List.take_of_length_le (by simp [hlen]), hzc]; exact VRs.sc _) (by omega)
    refine ⟨_, .pointer (some ⟨w.heap.size, 0, none⟩), _, ?_, ?_, this.1, this.2⟩
    · simp [Instr.alloc, hz w, newVar, run_newRow]
    · simp only [VR]
      exact ⟨_, put1_same _ _ _ _, by simp, by simp [hlen], rfl⟩
end news
end Go.Vai
