/-
  A closed run of the abstract machine: what the program's function does in every world.
-/
import Derived.Test.YtkjmlnegmmlfdaaGreatDoorVaiZk
namespace Go.Vai
open Go

theorem closed_ok {E : Env} {P : Program} (hE : EnvOk E P) {n : Nat} {f : FuncId} {v : AV} {σ : St} (h : run E n f = some (v, σ)) {w : World}
    (hgl : ∀ g cs, E.gl.get g = some cs → g < w.heap.size ∧ ∀ (i : Nat) v, cs[i]? = some v → w.cell? ⟨g, i, none⟩ = some v) :
    Calls P f #[] w fun e w' => ∃ β u, e = .returned u ∧ VR β v u ∧ w'.os = w.os ∧ w'.tape = w.tape ∧ w'.output = w.output ∧ w.heap.size ≤ w'.heap.size ∧ ∀ b, b < w.heap.size → w'.heap[b]? = w.heap[b]? := by
  obtain ⟨_, _, hc⟩ := (at_sound hE (draw_ok hE) n).call f [] _ v σ h
  have hR : HR E w.heap.size (fun _ _ => none) (⟨.leaf, 0, [], []⟩ : St).look w := by
    refine ⟨?_, ?_, ?_, hgl, Nat.le_refl _⟩
    · intro id o ho; simp [St.look, hidden, T.get] at ho
    · intro id o g l ho; simp [St.look, hidden, T.get] at ho
    · intro id o id' o' g g' l l' ho; simp [St.look, hidden, T.get] at ho
  have hW : WF ⟨.leaf, 0, [], []⟩ := ⟨fun id _ => rfl, fun id _ => rfl⟩
  have hOp : Open Fence.wide := ⟨fun _ => trivial, rfl⟩
  have := callsIn_wide.1 (hc w.heap.size (fun _ _ => none) w [] Fence.wide 0 hOp hR hW (fun _ _ _ _ => rfl) (by simp [VRs]))
  refine Calls.mono this ?_
  rintro e w' ⟨β, u, rfl, hv, _, hS⟩
  exact ⟨β, u, rfl, hv, hS.os, hS.tape, hS.output, hS.size, fun b hb => hS.keep b hb fun id o g l ho => by simp [St.look, hidden, T.get] at ho⟩
end Go.Vai
