/-
  Slices that are built and made; loads, stores.
-/
import Derived.Test.YtkjmlnegmmlfdaaGreatDoorVaiH
namespace Go.Vai
open Go

theorem repl_length (n : Nat) (z : List AV) : (repl n z).length = n * z.length := by
  unfold repl
  simp
theorem madeCells_list (z : Array Value) (n : Nat) : (madeCells z (n * z.size)).toList = (List.replicate n z.toList).flatten := by
  unfold madeCells
  simp only [Array.toList_map, Array.toList_range]
  induction n with
  | zero => simp
  | succ n ih =>
    rw [Nat.add_mul, Nat.one_mul, List.range_add, List.map_append, ih, List.replicate_succ', List.flatten_append]
    congr 1
    simp only [List.map_map, List.flatten_cons, List.flatten_nil, List.append_nil]
    apply List.ext_getElem
    · simp
    · intro i h1 h2
      simp only [List.length_map, List.length_range] at h1
      simp only [List.getElem_map, List.getElem_range, Function.comp, Array.getElem_toList]
      rw [Nat.add_comm, Nat.add_mul_mod_self_right, Nat.mod_eq_of_lt h1]
      exact getElem!_pos z i h1

section slices
variable {E : Env} {P : Program} {β : Map} {B : Nat} {σ : St} {w : World}
theorem buildSlice_ok (hE : EnvOk E P) (hR : HR E B β σ.look w) (hW : WF σ) {v : AV} {σ' : St} {t : TypeId} {n : Nat} {ps : List (Nat × AV)} {q : Array (Nat × Value)}
    (h : aBuildSlice E t n ps σ = some (v, σ')) (hF : Fresh β σ.next σ'.next) (hq : PartsR β ps q.toList) : Does E B P β σ σ' w (Instr.buildSlice t n q) v := by
  unfold aBuildSlice at h
  split at h
  · rename_i _ _ _ _ e _ ht
    split at h
    · rename_i ety he
      obtain ⟨h1, h2⟩ := condT h
      simp only [Bool.and_eq_true] at h1
      have hle := bleT h1.1
      have hpos := bltT h1.2
      split at h2
      · rename_i cells hfill
        unfold aNewRow at h2
        obtain ⟨h3, h4⟩ := condT h2
        simp only [Option.some.injEq, Prod.mk.injEq] at h4
        obtain ⟨rfl, rfl⟩ := h4
        obtain ⟨z, hz, hzc, hzs, _⟩ := zero_ok hE he
        have hz0 : VRs β (repl n (ety.zero.map .sc)) (madeCells z.cells (n * ety.size)).toList := by
          rw [← hzs, madeCells_list, hzc]
          exact VRs.replicate (VRs.sc _) n
        obtain ⟨rc, hrc, rr⟩ := fill_ok (β := β) (place' := fun i => some (i * ety.size, ety.size)) (fun i x hx => hx) ps q.toList _ _ cells hfill hz0 hq
        have hlen : rc.size = cells.length := by simpa using rr.length
        have hcl : cells.length = n * ety.size := by
          have := rr.length
          have hf : rc.size = (madeCells z.cells (n * ety.size)).size := by
            have : ∀ (l : List (Nat × Value)) (cs r : Array Value), Instr.fill (fun i => some (i * ety.size, ety.size)) cs l = some r → r.size = cs.size := by
              intro l
              induction l with
              | nil => intro cs r h; simp [Instr.fill] at h; subst h; rfl
              | cons p l ih =>
                intro cs r h
                obtain ⟨i, u⟩ := p
                simp only [Instr.fill] at h
                split at h
                · simp at h
                · rename_i hc
                  simp only [not_or, Decidable.not_not, Bool.or_eq_true, decide_eq_true_eq, Nat.not_lt] at hc
                  rw [ih _ _ h, seg_array _ _ _ (by omega)]
                  simp; omega
            exact this _ _ _ hrc
          rw [← hlen, hf, size_madeCells]
        have := newRow_ok hR hW hF e { w with heap := w.heap.push (.cells rc e (0, 0)) } rfl rfl rfl rfl h3 cells.length rfl (by rw [List.take_of_length_le (by simp [hlen])]; exact rr) (by omega)
        refine ⟨_, .slice (some ⟨w.heap.size, 0, none⟩) n n, _, ?_, ?_, this.1, this.2⟩
        · have hu := (hE.ty t _ ht).slice rfl
          have hsz := (hE.ty e _ he).size (w := w)
          have hle' : ¬ (n * ety.size > 2 ^ 24) := by omega
          simp only [Instr.buildSlice, Sem.run_bind, run_underlying hu, Result.andThen_ok, hsz]
          rw [if_neg hle']
          by_cases hn : n * ety.size = 0
          · have hrc' : Instr.fill (fun i => some (i * ety.size, ety.size)) ((Array.range (n * ety.size)).map ((#[] : Array Value)[· % (#[] : Array Value).size]!)) q.toList = some rc := by
              have e1 : (Array.range (n * ety.size)).map ((#[] : Array Value)[· % (#[] : Array Value).size]!) = madeCells z.cells (n * ety.size) := by rw [hn]; unfold madeCells; simp
              rw [e1]; exact hrc
            rw [if_pos hn, Sem.run_bind, Sem.run_pure, Result.andThen_ok, hrc']
            simp [run_newRow]
          · have hrc' : Instr.fill (fun i => some (i * ety.size, ety.size)) ((Array.range (n * ety.size)).map (z.cells[· % z.cells.size]!)) q.toList = some rc := hrc
            rw [if_neg hn, Sem.run_bind, hz w, Result.andThen_ok, Sem.run_bind, Sem.run_pure, Result.andThen_ok, hrc']
            simp [run_newRow]
        · simp only [VR]
          exact ⟨_, 0, n, put1_same _ _ _ _, rfl, Nat.le_refl _, Nat.le_refl _, by simp; omega, by simp; omega, hpos, .inr ⟨by simp, by simp; omega⟩⟩
      · simp at h2
    · simp at h
  · simp at h
theorem makeSlice_ok (hE : EnvOk E P) (hR : HR E B β σ.look w) (hW : WF σ) {v l c : AV} {ul uc : Value} {σ' : St} {t : TypeId} (h : aMakeSlice E t l c σ = some (v, σ')) (hF : Fresh β σ.next σ'.next)
    (hl : VR β l ul) (hc : VR β c uc) : Does E B P β σ σ' w (Instr.makeSlice t ul uc) v := by
  unfold aMakeSlice at h
  split at h
  · rename_i ln cn _ _ _ _ e _ hln hcn ht
    obtain ⟨kl, rfl⟩ := hl.nat hln
    obtain ⟨kc, rfl⟩ := hc.nat hcn
    split at h
    · rename_i ety he
      obtain ⟨h1, h2⟩ := condT h
      simp only [Bool.and_eq_true] at h1
      obtain ⟨⟨⟨⟨a1, a2⟩, a3⟩, a4⟩, a5⟩ := h1
      replace a1 := bleT a1; replace a2 := bleT a2; replace a3 := bleT a3; replace a4 := bltT a4; replace a5 := beqT a5
      unfold aNewRow at h2
      obtain ⟨h3, h4⟩ := condT h2
      simp only [Option.some.injEq, Prod.mk.injEq] at h4
      obtain ⟨rfl, rfl⟩ := h4
      obtain ⟨i, z, hi, hs, hb, hz, hzc, hzl⟩ := (hE.ty e ety he).info
      have hzs : z.cells.size = ety.size := by simp [hzc, hzl]
      have hrr : VRs β (repl cn (ety.zero.map .sc)) (madeCells z.cells (cn * ety.size)).toList := by
        rw [← hzs, madeCells_list, hzc]
        exact VRs.replicate (VRs.sc _) cn
      have hcl : (repl cn (ety.zero.map AV.sc)).length = cn * ety.size := by rw [repl_length]; simp [hzl]
      have := newRow_ok hR hW hF e (w.alloc (.cells (madeCells z.cells (cn * ety.size)) e)) rfl rfl rfl rfl h3 _ rfl
        (by rw [List.take_of_length_le (by simp [size_madeCells, hcl])]; exact hrr) (by simp [size_madeCells, hcl])
      have hbytes : (i.bytes : Int) * (cn : Int) ≤ 281474976710656 := by
        have : i.bytes * cn ≤ 4096 * 1073741824 := Nat.mul_le_mul (by omega) a2
        have e2 : ((i.bytes * cn : Nat) : Int) = (i.bytes : Int) * (cn : Int) := by simp
        omega
      refine ⟨_, .slice (some ⟨w.heap.size, 0, none⟩) ln cn, _, ?_, ?_, this.1, this.2⟩
      · have hrun := run_make (P := P) w t e i z ((hE.ty t _ ht).slice rfl) hi hz kl kc (ln : Int) (cn : Int) (by omega) (by omega) hbytes (by omega)
        rw [hs] at hrun
        simpa using hrun
      · simp only [VR]
        refine ⟨_, 0, cn, put1_same _ _ _ _, rfl, Nat.le_refl _, a1, by simp [hcl], by simp [hcl, size_madeCells], a4, .inr ⟨by simp, by simp [size_madeCells]⟩⟩
    · simp at h
  · simp at h
end slices
end Go.Vai
