/-
  Append, on both sides.
-/
import Derived.Test.YtkjmlnegmmlfdaaGreatDoorVaiK
namespace Go.Vai
open Go

section
variable {E : Env} {P : Program} {β : Map} {B : Nat} {σ : St} {w : World}
theorem rowCells_ok (hR : HR E B β σ.look w) {x : AV} {u : Value} {cs : List AV} {n : Nat} (h : rowCells σ x = some (cs, n)) (hu : VR β x u) (size : Nat) (hlen : cs.length = n * size) :
    ∃ news, VRs β cs news ∧ (∀ w', (Builtin.lenOf u).run P w' = .ok n w') ∧
      ∀ m, m ≤ n → ∀ w' : World, w'.heap = w.heap → (Builtin.firstCells size m u).run P w' = .ok (news.take (m * size)).toArray w' := by
  unfold rowCells at h
  split at h
  · rename_i id g off len e mc
    split at h
    · rename_i gen mg cells hlook
      obtain ⟨h1, h2⟩ := condT h
      simp only [Bool.and_eq_true] at h1
      simp only [Option.map_eq_some_iff, Prod.mk.injEq] at h2
      obtain ⟨lst, hp, rfl, rfl⟩ := h2
      obtain ⟨hp1, rfl⟩ := parts?_some hp
      simp only [VR] at hu
      obtain ⟨l, o, c, hl, rfl, hc, hlm, hoff, hsz, hpos, hco⟩ := hu
      obtain ⟨hn, _, hrow, _⟩ := row_at hR hlook (bleT h1.1) (bleT h1.2) hl
      have hle : off + len * e ≤ l.n := by
        have := Nat.mul_le_mul_right e hlm
        omega
      obtain ⟨blk, el, e1, e2, e3⟩ := hrow.seg (off := off) (k := len * e) hle
      refine ⟨_, e3, fun w' => rfl, fun m hm w' hw' => ?_⟩
      have hnl := e3.length
      rcases hco with hco | ⟨ho, _⟩
      · have hm0 : m = 0 := by omega
        subst hm0
        have := run_firstCells_some (P := P) w' size 0 ⟨l.b, o, none⟩ len c [] (by simp) (by simp)
        simpa using this
      · subst ho
        refine run_firstCells_some (P := P) w' size m ⟨l.b, l.s + off, none⟩ len c _ ?_ ?_
        · rw [List.length_take, hnl, hlen]
          exact Nat.min_eq_left (Nat.mul_le_mul_right _ hm)
        · intro j v hj
          have hj' : ((blk.toList.drop (l.s + off)).take (len * e))[j]? = some v := by
            rw [List.getElem?_take] at hj
            split at hj
            · exact hj
            · simp at hj
          exact cells_at (w := w') (by rw [hw']; exact e1) hj'
    · simp at h
  · simp only [Option.some.injEq, Prod.mk.injEq] at h
    obtain ⟨rfl, rfl⟩ := h
    simp only [VR] at hu; subst hu
    refine ⟨[], VRs.nil, fun w' => rfl, fun m hm w' _ => ?_⟩
    have hm0 : m = 0 := by omega
    subst hm0
    simpa using run_firstCells_none w' size 0 0 0
  · rename_i s
    simp only [Option.some.injEq, Prod.mk.injEq] at h
    obtain ⟨rfl, rfl⟩ := h
    simp only [VR] at hu; subst hu
    refine ⟨byteCells s, VRs.map _ _ _ (fun _ _ => by simp [VR]), fun w' => rfl, fun m hm w' _ => ?_⟩
    have hl : (byteCells s).length = s.size := byteCells_length s
    have hl2 : s.size = s.size * size := by simpa using hlen
    have hmm : m * size = m := by
      rcases Nat.eq_zero_or_pos s.size with h0 | h0
      · have : m = 0 := by omega
        subst this; simp
      · have : size = 1 := Nat.eq_of_mul_eq_mul_left h0 (by omega)
        simp [this]
    rw [hmm]
    simp only [Builtin.firstCells, Sem.run_pure, byteCells]
    congr 1
    apply Array.ext'
    simp
  · simp at h
theorem zeroCells_list (z : Array Value) (n : Nat) : (Builtin.zeroCells z n).toList = (List.replicate n z.toList).flatten := madeCells_list z n
theorem newCells_ok (hE : EnvOk E P) (hR : HR E B β σ.look w) {x : AV} {u : Value} {new : List AV} {n : Nat} {t t2 e : TypeId} {ety : ATy} {i : TypeInfo} {z : Value} (ty : TypeId)
    (h : newCells σ (((E.ty.get e).map (·.zero)).getD []) x (E.ty.get t2) = some (new, n)) (he : E.ty.get e = some ety) (hu : VR β x u) (hlen : new.length = n * ety.size) (hc : new.all isCell = true)
    (hpos : 0 < ety.size) (hby : ety.bytes ≤ 4096)
    (ht : P.underlying t = some (.slice e)) (hi : P.info? e = some i) (his : i.size = ety.size) (hib : i.bytes = ety.bytes) (hz : i.zero = some z) (hzc : z.cells = ety.zero.toArray) (hzl : ety.zero.length = ety.size) :
    ∃ news, AppOk P t t2 ty e i z u n news w ∧ VRs β new news := by
  rw [he] at h
  simp only [Option.map_some, Option.getD_some] at h
  cases ht2 : E.ty.get t2 with
  | none => simp [ht2, newCells] at h
  | some ty2 =>
    have hT2 := hE.ty t2 ty2 ht2
    rw [ht2] at h
    have src : rowCells σ x = some (new, n) → ((∃ e', P.underlying t2 = some (.slice e')) ∨ P.underlying t2 = some .string) → ∃ news, AppOk P t t2 ty e i z u n news w ∧ VRs β new news := by
      intro hr hk
      obtain ⟨news, hv, hl, hf⟩ := rowCells_ok (P := P) hR hr hu i.size (by rw [his]; exact hlen)
      have hnl : news.length = n * i.size := by rw [hv.length, hlen, his]
      have htk : news.take (n * i.size) = news := by rw [← hnl, List.take_length]
      refine ⟨news, AppOk.ofSrc ht hi hz ⟨hk, hl, ?_, ?_, hnl, hv.oneCells hc⟩, hv⟩
      · have := hf n (Nat.le_refl _) w rfl
        rwa [htk] at this
      · have := hf n (Nat.le_refl _) w.drew rfl
        rwa [htk] at this
    unfold newCells at h
    split at h
    · rename_i k _ e1
      simp only [Option.some.injEq] at e1
      subst e1
      split at h
      · rename_i m hm
        obtain ⟨h1, h2⟩ := condT h
        simp only [Option.some.injEq, Prod.mk.injEq] at h2
        obtain ⟨rfl, rfl⟩ := h2
        obtain ⟨k', rfl⟩ := VR.nat hm hu
        have hvr : VRs β (repl m (ety.zero.map .sc)) (Builtin.zeroCells z.cells m).toList := by
          rw [zeroCells_list, hzc]
          exact VRs.replicate (VRs.sc _) m
        refine ⟨_, AppOk.ofZeros ht (hT2.int rfl) hi hz (by rw [hzc, his]; simp [hzl]) (by omega) (bleT h1) (by omega) (hvr.oneCells hc), hvr⟩
      · simp at h
    · rename_i e1
      simp only [Option.some.injEq] at e1
      subst e1
      exact src h (.inl ⟨_, hT2.slice rfl⟩)
    · rename_i e1
      simp only [Option.some.injEq] at e1
      subst e1
      exact src h (.inr (hT2.string rfl))
    · simp at h
end
end Go.Vai
