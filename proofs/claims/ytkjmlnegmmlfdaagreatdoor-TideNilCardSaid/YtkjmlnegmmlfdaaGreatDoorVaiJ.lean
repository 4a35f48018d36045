/-
  Loads and stores; appends, copies.
-/
import Derived.Test.YtkjmlnegmmlfdaaGreatDoorVaiI
namespace Go.Vai
open Go

theorem take_drop_take (l : List AV) (n off k : Nat) (h : off + k ≤ n) : ((l.take n).drop off).take k = (l.drop off).take k := by
  rw [List.drop_take, List.take_take, Nat.min_eq_left (by omega)]
theorem seg_over (cs us : List Value) (s n off : Nat) (h : off + us.length ≤ n) (hn : s + n ≤ cs.length) :
    ((cs.take (s + off) ++ us ++ cs.drop (s + off + us.length)).drop s).take n = ((cs.drop s).take n).take off ++ us ++ ((cs.drop s).take n).drop (off + us.length) := by
  have e1 : (cs.take (s + off) ++ us ++ cs.drop (s + off + us.length)).drop s = (cs.drop s).take off ++ us ++ cs.drop (s + off + us.length) := by
    rw [List.append_assoc, List.drop_append_of_le_length (by simp; omega), ← List.append_assoc, List.drop_take]
    congr 3; omega
  rw [e1, List.take_take, Nat.min_eq_left (by omega), List.drop_take, List.drop_drop]
  have hlen : ((cs.drop s).take off ++ us).length = off + us.length := by simp; omega
  rw [List.take_append, List.take_of_length_le (by omega), hlen, Nat.add_assoc]
section rows
variable {E : Env} {P : Program} {β : Map} {B : Nat} {σ : St} {w : World}
theorem RowR.seg {l : Loc} {cells : List AV} (h : RowR β w l cells) {off k : Nat} (hk : off + k ≤ l.n) :
    ∃ cs el, w.heap[l.b]? = some (.cells cs el (0, 0)) ∧ l.s + l.n ≤ cs.size ∧ VRs β ((cells.drop off).take k) ((cs.toList.drop (l.s + off)).take k) := by
  obtain ⟨cs, el, h1, h2, h3, h4⟩ := h
  refine ⟨cs, el, h1, h3, ?_⟩
  have := (h4.drop off).take k
  rw [take_drop_take _ _ _ _ hk] at this
  rw [List.drop_take, List.take_take, Nat.min_eq_left (by omega), List.drop_drop] at this
  exact this
/-- The cells of a block, one by one. -/
theorem cells_at {b s k : Nat} {cs : Array Value} {el : TypeId} (h : w.heap[b]? = some (.cells cs el (0, 0))) {j : Nat} {v : Value} (e : ((cs.toList.drop s).take k)[j]? = some v) :
    w.cell? ((⟨b, s, none⟩ : Addr).add j) = some v := by
  rw [Addr.add_lit]
  rw [List.getElem?_take] at e
  split at e
  · rw [List.getElem?_drop] at e
    simp only [World.cell?, h]
    simpa using e
  · simp at e
end rows
section mem
variable {E : Env} {P : Program} {β : Map} {B : Nat} {σ : St} {w : World}
/-- A row in one of its living generations. -/
theorem row_at (hR : HR E B β σ.look w) {id gen mg g : Nat} {cells : List AV} (h : σ.look id = some (.row gen mg cells)) (h1 : mg ≤ g) (h2 : g ≤ gen) {l : Loc} (hl : β id g = some l) :
    l.n ≤ cells.length ∧ (g = gen → l.n = cells.length) ∧ RowR β w l cells ∧ cells.all isCell = true := by
  obtain ⟨_, hc, _, _, hg⟩ := hR.obj id _ h
  obtain ⟨l', e, r1, r2, r3⟩ := hg g h1 h2
  rw [hl] at e; simp only [Option.some.injEq] at e; subst e
  exact ⟨r1, r2, r3, hc⟩
theorem load_ok (hE : EnvOk E P) (hR : HR E B β σ.look w) {v a : AV} {u : Value} {σ' : St} {t : TypeId} (h : aLoad E t a σ = some (v, σ')) (hu : VR β a u) : σ' = σ ∧ ∃ r, (Instr.loadAt t u).run P w = .ok r w ∧ VR β v r := by
  unfold aLoad at h
  split at h
  · rename_i id g off k
    split at h
    · rename_i gen mg cells hlook
      obtain ⟨h1, h2⟩ := condT h
      simp only [Bool.and_eq_true] at h1
      simp only [VR] at hu
      obtain ⟨l, hl, hk, hnz, rfl⟩ := hu
      obtain ⟨hn, _, hrow, _⟩ := row_at hR hlook (bleT h1.1) (bleT h1.2) hl
      split at h2
      · rename_i ty ht
        have hT := hE.ty t ty ht
        cases ha : ty.agg with
        | true =>
          simp only [ha, cond_true] at h2
          obtain ⟨h3, h4⟩ := condT h2
          replace h3 := bleT h3
          simp only [Option.map_eq_some_iff, Prod.mk.injEq] at h4
          obtain ⟨lst, hp, rfl, rfl⟩ := h4
          obtain ⟨hp1, rfl⟩ := parts?_some hp
          obtain ⟨cs, el, e1, e2, e3⟩ := hrow.seg (off := off) (k := ty.size) (by omega)
          refine ⟨rfl, .agg (((cs.toList.drop (l.s + off)).take ty.size).toArray), ?_, by simp only [VR]; exact ⟨_, rfl, by simpa using e3⟩⟩
          have hlen : ((cs.toList.drop (l.s + off)).take ty.size).length = ty.size := by simp; omega
          have hld := run_loadCells_list (P := P) w ⟨l.b, l.s + off, none⟩ ((cs.toList.drop (l.s + off)).take ty.size) (fun j v e => cells_at e1 e)
          rw [hlen] at hld
          simp only [Instr.loadAt, Instr.sureAddr, Sem.run_bind, Sem.run_pure, Result.andThen_ok, loadVar, hT.isAgg, ha, if_true, hT.size, hld]
        | false =>
          simp only [ha, cond_false] at h2
          obtain ⟨h3, h4⟩ := condT h2
          replace h3 := bltT h3
          simp only [Option.map_eq_some_iff, Prod.mk.injEq] at h4
          obtain ⟨x, hx, rfl, rfl⟩ := h4
          obtain ⟨cs, el, e1, e2, e3⟩ := hrow.seg (off := off) (k := 1) (by omega)
          obtain ⟨r, hr, hv⟩ := e3.get 0 x (by rw [List.getElem?_take, if_pos (by omega), List.getElem?_drop]; simpa using hx)
          refine ⟨rfl, r, ?_, hv⟩
          have hcell := cells_at e1 hr
          have hadd : (⟨l.b, l.s + off, none⟩ : Addr).add 0 = ⟨l.b, l.s + off, none⟩ := rfl
          rw [hadd] at hcell
          simp [Instr.loadAt, Instr.sureAddr, loadVar, hT.isAgg, ha, load, Sem.run, hcell]
      · simp at h2
    · simp at h
  · rename_i g o
    split at h
    · rename_i ty lst ht hg
      cases ha : ty.agg with
      | true => simp [ha] at h
      | false =>
        simp only [ha, cond_false, Option.map_eq_some_iff, Prod.mk.injEq] at h
        obtain ⟨x, hx, rfl, rfl⟩ := h
        simp only [VR] at hu; subst hu
        have hT := hE.ty t ty ht
        have hcell := (hR.gl g lst hg).2 o x hx
        refine ⟨rfl, x, ?_, by simp [VR]⟩
        simp [Instr.loadAt, Instr.sureAddr, loadVar, hT.isAgg, ha, load, Sem.run, hcell]
    · simp at h
  · simp at h

theorem over_length {l vs : List AV} {off : Nat} (h : off + vs.length ≤ l.length) : (over l off vs).length = l.length := by
  unfold over; simp; omega
theorem over_isCell {l vs : List AV} {off : Nat} (h : l.all isCell = true) (h' : vs.all isCell = true) : (over l off vs).all isCell = true := by
  unfold over
  simp only [List.all_append, Bool.and_eq_true]
  refine ⟨⟨?_, h'⟩, ?_⟩
  · rw [List.all_eq_true] at h ⊢; exact fun x hx => h x (List.mem_of_mem_take hx)
  · rw [List.all_eq_true] at h ⊢; exact fun x hx => h x (List.mem_of_mem_drop hx)
/-- A store into the cells of a row's last generation. -/
theorem rowStore_ok (hR : HR E B β σ.look w) {id gen mg off : Nat} {cells vs : List AV} {us : List Value} (h : σ.look id = some (.row gen mg cells)) {l : Loc} (hl : β id gen = some l)
    (hk : off + vs.length ≤ cells.length) (hc : vs.all isCell = true) (hv : VRs β vs us) (lo hi : Nat) :
    ∃ (cs : Array Value) (el : TypeId), w.heap[l.b]? = some (.cells cs el (0, 0)) ∧ l.s + off + us.length ≤ cs.size ∧ (∀ u ∈ us, u.oneCell' = true) ∧
      HR E B β (upd σ.look id (.row gen gen (over cells off vs))) (w.setRow l.b (cs.toList.take (l.s + off) ++ us ++ cs.toList.drop (l.s + off + us.length)).toArray) ∧
      Step β β σ.look lo hi w (w.setRow l.b (cs.toList.take (l.s + off) ++ us ++ cs.toList.drop (l.s + off + us.length)).toArray) := by
  have hmg : mg ≤ gen := (hR.obj id _ h).1
  obtain ⟨_, hn, hrow, hall⟩ := row_at hR h hmg (Nat.le_refl _) hl
  have hn := hn rfl
  obtain ⟨cs, el, e1, e2, e3, e4⟩ := hrow
  have hlen := hv.length
  have hown := hR.own id _ gen l h hl
  refine ⟨cs, el, e1, by omega, hv.oneCells hc, ?_⟩
  refine hR.change id _ lo hi (Sub.refl _) (fun i g x e => .inl e) (.inl ⟨_, h⟩) rfl rfl rfl (by simp [World.setRow]) ?_ ?_
  · intro b _ hno
    exact setRow_other w l.b b _ (fun e => hno gen l hl e.symm)
  · have hlc : (over cells off vs).length = cells.length := over_length hk
    refine ⟨Nat.le_refl _, over_isCell hall hc, (hR.obj id _ h).2.2.1, fun g g' x x' a b a' b' e e' _ => ?_, fun g a b => ?_⟩
    · have hg : g = gen := by omega
      have hg' : g' = gen := by omega
      subst hg; subst hg'
      rw [e] at e'; simp at e'; rw [e']
    have hg : g = gen := by omega
    subst hg
    refine ⟨l, hl, by omega, fun _ => by omega, _, el, setRow_heap w l.b cs _ el (0, 0) e1, ?_, ?_, ?_⟩
    · simp; omega
    · simp; omega
    · have hov := e4.over off hv
      have hseg := seg_over cs.toList us l.s l.n off (by omega) (by simpa using e3)
      simp only [hseg]
      rw [List.take_of_length_le (by omega)]
      rwa [List.take_of_length_le (by omega)] at hov
theorem store_ok (hE : EnvOk E P) (hR : HR E B β σ.look w) {v a x : AV} {u ux : Value} {σ' : St} {t : TypeId} (h : aStore E t a x σ = some (v, σ')) (hu : VR β a u) (hx : VR β x ux) :
    v = .sc undef ∧ ∃ w', (Instr.storeAt t u ux).run P w = .ok () w' ∧ HR E B β σ'.look w' ∧ Step β β σ.look σ.next σ'.next w w' := by
  unfold aStore at h
  split at h
  · rename_i id g off k
    split at h
    · rename_i gen mg cells hlook
      obtain ⟨h1, h2⟩ := condT h
      have hg := beqT h1
      subst hg
      split at h2
      · rename_i ty ht
        obtain ⟨h3, h4⟩ := condT h2
        simp only [Bool.and_eq_true] at h3
        obtain ⟨⟨⟨a1, a2⟩, a3⟩, a4⟩ := h3
        replace a1 := beqT a1; replace a2 := bleT a2; replace a3 := bleT a3
        simp only [Option.some.injEq, Prod.mk.injEq] at h4
        obtain ⟨rfl, rfl⟩ := h4
        simp only [VR] at hu
        obtain ⟨l, hl, hk, hnz, rfl⟩ := hu
        have hT := hE.ty t ty ht
        have hcs := hx.cells
        obtain ⟨cs, el, e1, e2, e3, e4, e5⟩ := rowStore_ok (vs := cellsOf x) hR hlook hl (by rw [a1]; exact a3) a4 hcs σ.next (σ.put id (.row g g (over cells off (cellsOf x)))).next
        refine ⟨rfl, _, ?_, ?_, e5⟩
        · have hst := run_storeCells_at P l.b (l.s + off) el ux.cells.toList 0 cs w e1 (by simpa using e2) e3
          have hsz : ux.cells.size = ty.size := by have := hcs.length; simp at this; omega
          simp only [Nat.add_zero] at hst
          simp only [Instr.storeAt, Instr.sureAddr, Sem.run_bind, Sem.run_pure, Result.andThen_ok, storeVar, hT.size]
          rw [if_neg (by simp [hsz])]
          exact hst
        · rw [look_put _ (look_some hlook).1]; exact e4
      · simp at h2
    · simp at h
  · simp at h
end mem
end Go.Vai
