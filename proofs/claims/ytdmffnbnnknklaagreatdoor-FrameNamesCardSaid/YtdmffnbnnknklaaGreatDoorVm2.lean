/-
  Slices that are built and made; loads, stores.
-/
import Derived.Test.YtdmffnbnnknklaaGreatDoorVm1
import Derived.Deep.AppendSrc
import Derived.MapKept
import Derived.RangeFuncRecord
namespace Go.Vai
open Go

theorem repl_length (n : Nat) (z : List AV) : (repl n z).length = n * z.length := by
  unfold repl
  simp
theorem madeCells_list (z : Array Value) (n : Nat) : (madeCells z (n * z.size)).toList = (List.replicate n z.toList).flatten := by
  unfold madeCells
  simp only [Array.toList_map, Array.toList_range]
  induction n with
  | zero => simp
  | succ n ih =>
    rw [Nat.add_mul, Nat.one_mul, List.range_add, List.map_append, ih, List.replicate_succ', List.flatten_append]
    congr 1
    simp only [List.map_map, List.flatten_cons, List.flatten_nil, List.append_nil]
    apply List.ext_getElem
    · simp
    · intro i h1 h2
      simp only [List.length_map, List.length_range] at h1
      simp only [List.getElem_map, List.getElem_range, Function.comp, Array.getElem_toList]
      rw [Nat.add_comm, Nat.add_mul_mod_self_right, Nat.mod_eq_of_lt h1]
      exact getElem!_pos z i h1

section slices
variable {E : Env} {P : Program} {β : Map} {B : Nat} {σ : St} {w : World}
theorem buildSlice_ok (hE : EnvOk E P) (hR : HR E B β σ.look w) (hW : WF σ) {v : AV} {σ' : St} {t : TypeId} {n : Nat} {ps : List (Nat × AV)} {q : Array (Nat × Value)}
    (h : aBuildSlice E t n ps σ = some (v, σ')) (hF : Fresh β σ.next σ'.next) (hq : PartsR β ps q.toList) : Does E B P β σ σ' w (Instr.buildSlice t n q) v := by
  unfold aBuildSlice at h
  split at h
  · rename_i _ _ _ _ e _ ht
    split at h
    · rename_i ety he
      obtain ⟨h1, h2⟩ := condT h
      simp only [Bool.and_eq_true] at h1
      have hle := bleT h1.1
      have hpos := bltT h1.2
      split at h2
      · rename_i cells hfill
        unfold aNewRow at h2
        obtain ⟨h3, h4⟩ := condT h2
        simp only [Option.some.injEq, Prod.mk.injEq] at h4
        obtain ⟨rfl, rfl⟩ := h4
        obtain ⟨z, hz, hzc, hzs, _⟩ := zero_ok hE he
        have hz0 : VRs β (repl n (ety.zero.map .sc)) (madeCells z.cells (n * ety.size)).toList := by
          rw [← hzs, madeCells_list, hzc]
          exact VRs.replicate (VRs.sc _) n
        obtain ⟨rc, hrc, rr⟩ := fill_ok (β := β) (place' := fun i => some (i * ety.size, ety.size)) (fun i x hx => hx) ps q.toList _ _ cells hfill hz0 hq
        have hlen : rc.size = cells.length := by simpa using rr.length
        have hcl : cells.length = n * ety.size := by
          have := rr.length
          have hf : rc.size = (madeCells z.cells (n * ety.size)).size := by
            have : ∀ (l : List (Nat × Value)) (cs r : Array Value), Instr.fill (fun i => some (i * ety.size, ety.size)) cs l = some r → r.size = cs.size := by
              intro l
              induction l with
              | nil => intro cs r h; simp [Instr.fill] at h; subst h; rfl
              | cons p l ih =>
                intro cs r h
                obtain ⟨i, u⟩ := p
                simp only [Instr.fill] at h
                split at h
                · simp at h
                · rename_i hc
                  simp only [not_or, Decidable.not_not, Bool.or_eq_true, decide_eq_true_eq, Nat.not_lt] at hc
                  rw [ih _ _ h, seg_array _ _ _ (by omega)]
                  simp; omega
            exact this _ _ _ hrc
          rw [← hlen, hf, size_madeCells]
        have := newRow_ok hR hW hF e { w with heap := w.heap.push (.cells rc e (0, 0)) } rfl rfl rfl rfl h3 cells.length rfl (by rw [List.take_of_length_le (by simp [hlen])]; exact rr) (by omega)
        refine ⟨_, .slice (some ⟨w.heap.size, 0, none⟩) n n, _, ?_, ?_, this.1, this.2⟩
        · have hu := (hE.ty t _ ht).slice rfl
          have hsz := (hE.ty e _ he).size (w := w)
          have hle' : ¬ (n * ety.size > 2 ^ 24) := by omega
          simp only [Instr.buildSlice, Sem.run_bind, run_underlying hu, Result.andThen_ok, hsz]
          rw [if_neg hle']
          by_cases hn : n * ety.size = 0
          · have hrc' : Instr.fill (fun i => some (i * ety.size, ety.size)) ((Array.range (n * ety.size)).map ((#[] : Array Value)[· % (#[] : Array Value).size]!)) q.toList = some rc := by
              have e1 : (Array.range (n * ety.size)).map ((#[] : Array Value)[· % (#[] : Array Value).size]!) = madeCells z.cells (n * ety.size) := by rw [hn]; unfold madeCells; simp
              rw [e1]; exact hrc
            rw [if_pos hn, Sem.run_bind, Sem.run_pure, Result.andThen_ok, hrc']
            simp [run_newRow]
          · have hrc' : Instr.fill (fun i => some (i * ety.size, ety.size)) ((Array.range (n * ety.size)).map (z.cells[· % z.cells.size]!)) q.toList = some rc := hrc
            rw [if_neg hn, Sem.run_bind, hz w, Result.andThen_ok, Sem.run_bind, Sem.run_pure, Result.andThen_ok, hrc']
            simp [run_newRow]
        · simp only [VR]
          exact ⟨_, 0, n, put1_same _ _ _ _, rfl, Nat.le_refl _, Nat.le_refl _, by simp; omega, by simp; omega, hpos, .inr ⟨by simp, by simp; omega⟩⟩
      · simp at h2
    · simp at h
  · simp at h
theorem makeSlice_ok (hE : EnvOk E P) (hR : HR E B β σ.look w) (hW : WF σ) {v l c : AV} {ul uc : Value} {σ' : St} {t : TypeId} (h : aMakeSlice E t l c σ = some (v, σ')) (hF : Fresh β σ.next σ'.next)
    (hl : VR β l ul) (hc : VR β c uc) : Does E B P β σ σ' w (Instr.makeSlice t ul uc) v := by
  unfold aMakeSlice at h
  split at h
  · rename_i ln cn _ _ _ _ e _ hln hcn ht
    obtain ⟨kl, rfl⟩ := hl.nat hln
    obtain ⟨kc, rfl⟩ := hc.nat hcn
    split at h
    · rename_i ety he
      obtain ⟨h1, h2⟩ := condT h
      simp only [Bool.and_eq_true] at h1
      obtain ⟨⟨⟨⟨a1, a2⟩, a3⟩, a4⟩, a5⟩ := h1
      replace a1 := bleT a1; replace a2 := bleT a2; replace a3 := bleT a3; replace a4 := bltT a4; replace a5 := beqT a5
      unfold aNewRow at h2
      obtain ⟨h3, h4⟩ := condT h2
      simp only [Option.some.injEq, Prod.mk.injEq] at h4
      obtain ⟨rfl, rfl⟩ := h4
      obtain ⟨i, z, hi, hs, hb, hz, hzc, hzl⟩ := (hE.ty e ety he).info
      have hzs : z.cells.size = ety.size := by simp [hzc, hzl]
      have hrr : VRs β (repl cn (ety.zero.map .sc)) (madeCells z.cells (cn * ety.size)).toList := by
        rw [← hzs, madeCells_list, hzc]
        exact VRs.replicate (VRs.sc _) cn
      have hcl : (repl cn (ety.zero.map AV.sc)).length = cn * ety.size := by rw [repl_length]; simp [hzl]
      have := newRow_ok hR hW hF e (w.alloc (.cells (madeCells z.cells (cn * ety.size)) e)) rfl rfl rfl rfl h3 _ rfl
        (by rw [List.take_of_length_le (by simp [size_madeCells, hcl])]; exact hrr) (by simp [size_madeCells, hcl])
      have hbytes : (i.bytes : Int) * (cn : Int) ≤ 281474976710656 := by
        have : i.bytes * cn ≤ 4096 * 1073741824 := Nat.mul_le_mul (by omega) a2
        have e2 : ((i.bytes * cn : Nat) : Int) = (i.bytes : Int) * (cn : Int) := by simp
        omega
      refine ⟨_, .slice (some ⟨w.heap.size, 0, none⟩) ln cn, _, ?_, ?_, this.1, this.2⟩
      · have hrun := run_make (P := P) w t e i z ((hE.ty t _ ht).slice rfl) hi hz kl kc (ln : Int) (cn : Int) (by omega) (by omega) hbytes (by omega)
        rw [hs] at hrun
        simpa using hrun
      · simp only [VR]
        refine ⟨_, 0, cn, put1_same _ _ _ _, rfl, Nat.le_refl _, a1, by simp [hcl], by simp [hcl, size_madeCells], a4, .inr ⟨by simp, by simp [size_madeCells]⟩⟩
    · simp at h
  · simp at h
end slices
end Go.Vai

/-
  Loads and stores; appends, copies.
-/
namespace Go.Vai
open Go

theorem take_drop_take (l : List AV) (n off k : Nat) (h : off + k ≤ n) : ((l.take n).drop off).take k = (l.drop off).take k := by
  rw [List.drop_take, List.take_take, Nat.min_eq_left (by omega)]
theorem seg_over (cs us : List Value) (s n off : Nat) (h : off + us.length ≤ n) (hn : s + n ≤ cs.length) :
    ((cs.take (s + off) ++ us ++ cs.drop (s + off + us.length)).drop s).take n = ((cs.drop s).take n).take off ++ us ++ ((cs.drop s).take n).drop (off + us.length) := by
  have e1 : (cs.take (s + off) ++ us ++ cs.drop (s + off + us.length)).drop s = (cs.drop s).take off ++ us ++ cs.drop (s + off + us.length) := by
    rw [List.append_assoc, List.drop_append_of_le_length (by simp; omega), ← List.append_assoc, List.drop_take]
    congr 3; omega
  rw [e1, List.take_take, Nat.min_eq_left (by omega), List.drop_take, List.drop_drop]
  have hlen : ((cs.drop s).take off ++ us).length = off + us.length := by simp; omega
  rw [List.take_append, List.take_of_length_le (by omega), hlen, Nat.add_assoc]
section rows
variable {E : Env} {P : Program} {β : Map} {B : Nat} {σ : St} {w : World}
theorem RowR.seg {l : Loc} {cells : List AV} (h : RowR β w l cells) {off k : Nat} (hk : off + k ≤ l.n) :
    ∃ cs el, w.heap[l.b]? = some (.cells cs el (0, 0)) ∧ l.s + l.n ≤ cs.size ∧ VRs β ((cells.drop off).take k) ((cs.toList.drop (l.s + off)).take k) := by
  obtain ⟨cs, el, h1, h2, h3, h4⟩ := h
  refine ⟨cs, el, h1, h3, ?_⟩
  have := (h4.drop off).take k
  rw [take_drop_take _ _ _ _ hk] at this
  rw [List.drop_take, List.take_take, Nat.min_eq_left (by omega), List.drop_drop] at this
  exact this
/-- The cells of a block, one by one. -/
theorem cells_at {b s k : Nat} {cs : Array Value} {el : TypeId} {fz : Nat × Nat} (h : w.heap[b]? = some (.cells cs el fz)) {j : Nat} {v : Value} (e : ((cs.toList.drop s).take k)[j]? = some v) :
    w.cell? ((⟨b, s, none⟩ : Addr).add j) = some v := by
  rw [Addr.add_lit]
  rw [List.getElem?_take] at e
  split at e
  · rw [List.getElem?_drop] at e
    simp only [World.cell?, h]
    simpa using e
  · simp at e
end rows
section mem
variable {E : Env} {P : Program} {β : Map} {B : Nat} {σ : St} {w : World}
/-- A row in one of its living generations. -/
theorem row_at (hR : HR E B β σ.look w) {id gen mg g : Nat} {cells : List AV} (h : σ.look id = some (.row gen mg cells)) (h1 : mg ≤ g) (h2 : g ≤ gen) {l : Loc} (hl : β id g = some l) :
    l.n ≤ cells.length ∧ (g = gen → l.n = cells.length) ∧ RowR β w l cells ∧ cells.all isCell = true := by
  obtain ⟨_, hc, _, _, hg⟩ := hR.obj id _ h
  obtain ⟨l', e, r1, r2, r3⟩ := hg g h1 h2
  rw [hl] at e; simp only [Option.some.injEq] at e; subst e
  exact ⟨r1, r2, r3, hc⟩
theorem load_ok (hE : EnvOk E P) (hR : HR E B β σ.look w) {v a : AV} {u : Value} {σ' : St} {t : TypeId} (h : aLoad E t a σ = some (v, σ')) (hu : VR β a u) : σ' = σ ∧ ∃ r, (Instr.loadAt t u).run P w = .ok r w ∧ VR β v r := by
  unfold aLoad at h
  split at h
  · rename_i id g off k
    split at h
    · rename_i gen mg cells hlook
      obtain ⟨h1, h2⟩ := condT h
      simp only [Bool.and_eq_true] at h1
      simp only [VR] at hu
      obtain ⟨l, hl, hk, hnz, rfl⟩ := hu
      obtain ⟨hn, _, hrow, _⟩ := row_at hR hlook (bleT h1.1) (bleT h1.2) hl
      split at h2
      · rename_i ty ht
        have hT := hE.ty t ty ht
        cases ha : ty.agg with
        | true =>
          simp only [ha, cond_true] at h2
          obtain ⟨h3, h4⟩ := condT h2
          replace h3 := bleT h3
          simp only [Option.map_eq_some_iff, Prod.mk.injEq] at h4
          obtain ⟨lst, hp, rfl, rfl⟩ := h4
          obtain ⟨hp1, rfl⟩ := parts?_some hp
          obtain ⟨cs, el, e1, e2, e3⟩ := hrow.seg (off := off) (k := ty.size) (by omega)
          refine ⟨rfl, .agg (((cs.toList.drop (l.s + off)).take ty.size).toArray), ?_, by simp only [VR]; exact ⟨_, rfl, by simpa using e3⟩⟩
          have hlen : ((cs.toList.drop (l.s + off)).take ty.size).length = ty.size := by simp; omega
          have hld := run_loadCells_list (P := P) w ⟨l.b, l.s + off, none⟩ ((cs.toList.drop (l.s + off)).take ty.size) (fun j v e => cells_at e1 e)
          rw [hlen] at hld
          simp only [Instr.loadAt, Instr.sureAddr, Sem.run_bind, Sem.run_pure, Result.andThen_ok, loadVar, hT.isAgg, ha, if_true, hT.size, hld]
        | false =>
          simp only [ha, cond_false] at h2
          obtain ⟨h3, h4⟩ := condT h2
          replace h3 := bltT h3
          simp only [Option.map_eq_some_iff, Prod.mk.injEq] at h4
          obtain ⟨x, hx, rfl, rfl⟩ := h4
          obtain ⟨cs, el, e1, e2, e3⟩ := hrow.seg (off := off) (k := 1) (by omega)
          obtain ⟨r, hr, hv⟩ := e3.get 0 x (by rw [List.getElem?_take, if_pos (by omega), List.getElem?_drop]; simpa using hx)
          refine ⟨rfl, r, ?_, hv⟩
          have hcell := cells_at e1 hr
          have hadd : (⟨l.b, l.s + off, none⟩ : Addr).add 0 = ⟨l.b, l.s + off, none⟩ := rfl
          rw [hadd] at hcell
          simp [Instr.loadAt, Instr.sureAddr, loadVar, hT.isAgg, ha, load, Sem.run, hcell]
      · simp at h2
    · simp at h
  · rename_i g o
    split at h
    · rename_i ty lst ht hg
      cases ha : ty.agg with
      | true => simp [ha] at h
      | false =>
        simp only [ha, cond_false, Option.map_eq_some_iff, Prod.mk.injEq] at h
        obtain ⟨x, hx, rfl, rfl⟩ := h
        simp only [VR] at hu; subst hu
        have hT := hE.ty t ty ht
        have hcell := (hR.gl g lst hg).2 o x hx
        refine ⟨rfl, x, ?_, by simp [VR]⟩
        simp [Instr.loadAt, Instr.sureAddr, loadVar, hT.isAgg, ha, load, Sem.run, hcell]
    · simp at h
  · rename_i cells
    split at h
    · rename_i ty ht
      have hT := hE.ty t ty ht
      simp only [VR] at hu
      obtain ⟨hc0, b, o, cs, el, fz, rfl, hgl, hsz, hr⟩ := hu
      have e1 := (hR.fz b _ hgl).1
      have hcl := hr.length
      cases ha : ty.agg with
      | true =>
        simp only [ha, cond_true, Option.map_eq_some_iff, Prod.mk.injEq] at h
        obtain ⟨lst, hp, rfl, rfl⟩ := h
        obtain ⟨hp1, rfl⟩ := parts?_some hp
        have hp2 : 0 + ty.size ≤ cells.length := hp1
        have e3 := hr.part 0 ty.size (by omega)
        simp only [Nat.add_zero] at e3
        refine ⟨rfl, .agg (((cs.toList.drop o).take ty.size).toArray), ?_, by simp only [VR]; exact ⟨_, rfl, by simpa using e3⟩⟩
        have hlen : ((cs.toList.drop o).take ty.size).length = ty.size := by simp; omega
        have hld := run_loadCells_list (P := P) w ⟨b, o, none⟩ ((cs.toList.drop o).take ty.size) (fun j v e => cells_at e1 e)
        rw [hlen] at hld
        simp only [Instr.loadAt, Instr.sureAddr, Sem.run_bind, Sem.run_pure, Result.andThen_ok, loadVar, hT.isAgg, ha, if_true, hT.size, hld]
      | false =>
        simp only [ha, cond_false, Option.map_eq_some_iff, Prod.mk.injEq] at h
        obtain ⟨x, hx, rfl, rfl⟩ := h
        obtain ⟨r, hr', hv⟩ := hr.get 0 x hx
        refine ⟨rfl, r, ?_, hv⟩
        have hcell := cells_at e1 hr'
        have hadd : (⟨b, o, none⟩ : Addr).add 0 = ⟨b, o, none⟩ := rfl
        rw [hadd] at hcell
        simp [Instr.loadAt, Instr.sureAddr, loadVar, hT.isAgg, ha, load, Sem.run, hcell]
    · simp at h
  · simp at h

theorem over_length {l vs : List AV} {off : Nat} (h : off + vs.length ≤ l.length) : (over l off vs).length = l.length := by
  unfold over; simp; omega
theorem over_isCell {l vs : List AV} {off : Nat} (h : l.all isCell = true) (h' : vs.all isCell = true) : (over l off vs).all isCell = true := by
  unfold over
  simp only [List.all_append, Bool.and_eq_true]
  refine ⟨⟨?_, h'⟩, ?_⟩
  · rw [List.all_eq_true] at h ⊢; exact fun x hx => h x (List.mem_of_mem_take hx)
  · rw [List.all_eq_true] at h ⊢; exact fun x hx => h x (List.mem_of_mem_drop hx)
/-- A store into the cells of a row's last generation. -/
theorem rowStore_ok (hR : HR E B β σ.look w) {id gen mg off : Nat} {cells vs : List AV} {us : List Value} (h : σ.look id = some (.row gen mg cells)) {l : Loc} (hl : β id gen = some l)
    (hk : off + vs.length ≤ cells.length) (hc : vs.all isCell = true) (hv : VRs β vs us) (lo hi : Nat) :
    ∃ (cs : Array Value) (el : TypeId), w.heap[l.b]? = some (.cells cs el (0, 0)) ∧ l.s + off + us.length ≤ cs.size ∧ (∀ u ∈ us, u.oneCell' = true) ∧
      HR E B β (upd σ.look id (.row gen gen (over cells off vs))) (w.setRow l.b (cs.toList.take (l.s + off) ++ us ++ cs.toList.drop (l.s + off + us.length)).toArray) ∧
      Step β β σ.look lo hi w (w.setRow l.b (cs.toList.take (l.s + off) ++ us ++ cs.toList.drop (l.s + off + us.length)).toArray) := by
  have hmg : mg ≤ gen := (hR.obj id _ h).1
  obtain ⟨_, hn, hrow, hall⟩ := row_at hR h hmg (Nat.le_refl _) hl
  have hn := hn rfl
  obtain ⟨cs, el, e1, e2, e3, e4⟩ := hrow
  have hlen := hv.length
  have hown := hR.own id _ gen l h hl
  refine ⟨cs, el, e1, by omega, hv.oneCells hc, ?_⟩
  refine hR.change id _ lo hi (Sub.refl _) (fun i g x e => .inl e) (.inl ⟨_, h, fun e => by cases e⟩) rfl rfl rfl (by simp [World.setRow]) ?_ ?_
  · intro b _ hno
    exact setRow_other w l.b b _ (fun e => hno gen l hl e.symm)
  · have hlc : (over cells off vs).length = cells.length := over_length hk
    refine ⟨Nat.le_refl _, over_isCell hall hc, (hR.obj id _ h).2.2.1, fun g g' x x' a b a' b' e e' _ => ?_, fun g a b => ?_⟩
    · have hg : g = gen := by omega
      have hg' : g' = gen := by omega
      subst hg; subst hg'
      rw [e] at e'; simp at e'; rw [e']
    have hg : g = gen := by omega
    subst hg
    refine ⟨l, hl, by omega, fun _ => by omega, _, el, setRow_heap w l.b cs _ el (0, 0) e1, ?_, ?_, ?_⟩
    · simp; omega
    · simp; omega
    · have hov := e4.over off hv
      have hseg := seg_over cs.toList us l.s l.n off (by omega) (by simpa using e3)
      simp only [hseg]
      rw [List.take_of_length_le (by omega)]
      rwa [List.take_of_length_le (by omega)] at hov
theorem store_ok (hE : EnvOk E P) (hR : HR E B β σ.look w) {v a x : AV} {u ux : Value} {σ' : St} {t : TypeId} (h : aStore E t a x σ = some (v, σ')) (hu : VR β a u) (hx : VR β x ux) :
    v = .sc undef ∧ ∃ w', (Instr.storeAt t u ux).run P w = .ok () w' ∧ HR E B β σ'.look w' ∧ Step β β σ.look σ.next σ'.next w w' := by
  unfold aStore at h
  split at h
  · rename_i id g off k
    split at h
    · rename_i gen mg cells hlook
      obtain ⟨h1, h2⟩ := condT h
      have hg := beqT h1
      subst hg
      split at h2
      · rename_i ty ht
        obtain ⟨h3, h4⟩ := condT h2
        simp only [Bool.and_eq_true] at h3
        obtain ⟨⟨⟨a1, a2⟩, a3⟩, a4⟩ := h3
        replace a1 := beqT a1; replace a2 := bleT a2; replace a3 := bleT a3
        simp only [Option.some.injEq, Prod.mk.injEq] at h4
        obtain ⟨rfl, rfl⟩ := h4
        simp only [VR] at hu
        obtain ⟨l, hl, hk, hnz, rfl⟩ := hu
        have hT := hE.ty t ty ht
        have hcs := hx.cells
        obtain ⟨cs, el, e1, e2, e3, e4, e5⟩ := rowStore_ok (vs := cellsOf x) hR hlook hl (by rw [a1]; exact a3) a4 hcs σ.next (σ.put id (.row g g (over cells off (cellsOf x)))).next
        refine ⟨rfl, _, ?_, ?_, e5⟩
        · have hst := run_storeCells_at P l.b (l.s + off) el ux.cells.toList 0 cs w e1 (by simpa using e2) e3
          have hsz : ux.cells.size = ty.size := by have := hcs.length; simp at this; omega
          simp only [Nat.add_zero] at hst
          simp only [Instr.storeAt, Instr.sureAddr, Sem.run_bind, Sem.run_pure, Result.andThen_ok, storeVar, hT.size]
          rw [if_neg (by simp [hsz])]
          exact hst
        · rw [look_put _ (look_some hlook).1]; exact e4
      · simp at h2
    · simp at h
  · simp at h
end mem
end Go.Vai

/-
  Append: what the model's builtin does, given what is appended.
-/
namespace Go.Vai
open Go

/-- What the builtin does with what is appended: where there is room, and where there is none. -/
structure AppOk (P : Program) (t tx ty e : TypeId) (i : TypeInfo) (z x : Value) (n : Nat) (news : List Value) (w : World) : Prop where
  len : news.length = n * i.size
  one : ∀ u ∈ news, u.oneCell' = true
  room : ∀ (a : Addr) sLen sCap w', sLen + n ≤ sCap → (storeCells (a.add (sLen * i.size)) news).run P w = .ok () w' →
    (Builtin.append_ #[t, tx] ty #[.slice (some a) sLen sCap, x]).run P w = .ok (.slice (some a) (sLen + n) sCap) w'
  nil : n = 0 → (Builtin.append_ #[t, tx] ty #[.slice none 0 0, x]).run P w = .ok (.slice none 0 0) w
  grow : ∀ (base : Option Addr) sLen sCap (olds : List Value), (Builtin.firstCells i.size sLen (.slice base sLen sCap)).run P w.drew = .ok olds.toArray w.drew →
    sCap < sLen + n → sLen + n ≤ 1073741824 → i.bytes ≤ 4096 →
    (Builtin.append_ #[t, tx] ty #[.slice base sLen sCap, x]).run P w =
      .ok (.slice (some ⟨w.heap.size, 0, none⟩) (sLen + n) (grownCap w (sLen + n) sCap e))
        (w.drew.alloc (.cells ((olds ++ news).toArray ++ Builtin.zeroCells z.cells (grownCap w (sLen + n) sCap e - (sLen + n))) e))

section
variable {P : Program} {w : World}
theorem fits {need old bytes : Nat} (h : old < need) (h1 : need ≤ 1073741824) (h2 : bytes ≤ 4096) : Builtin.nextslicecap need old * bytes ≤ 281474976710656 := by
  refine growslice_fits h ?_
  have := Nat.mul_le_mul h1 h2
  omega
theorem AppOk.ofSrc {t tx ty e : TypeId} {i : TypeInfo} {z x : Value} {n : Nat} {news : List Value} (ht : P.underlying t = some (.slice e)) (hi : P.info? e = some i) (hz : i.zero = some z)
    (hs : Src P i.size tx x n news w) : AppOk P t tx ty e i z x n news w where
  len := hs.newsLen
  one := hs.one
  room := by
    intro a sLen sCap w' hroom hst
    rcases hs.kind with ⟨e', hk⟩ | hk <;> simp [Builtin.append_, run_underlying ht, run_underlying hk, sizeOf, typeInfo, hi, hs.len, hroom, hs.cells, hst]
  nil := by
    intro h0
    subst h0
    rcases hs.kind with ⟨e', hk⟩ | hk <;> simp [Builtin.append_, run_underlying ht, run_underlying hk, sizeOf, typeInfo, hi, hs.len, hs.cells]
  grow := by
    intro base sLen sCap olds hold hg hle hb
    exact run_append_grow_src w t tx ty e i z ht hi hz base sLen sCap olds hold x n news hs hg (by omega) (fits hg hle hb)
theorem run_asInt' (k : IntKind) (x : Int) (w : World) : (asInt (.int k x)).run P w = .ok x w := by simp [asInt, asIntOf]
theorem AppOk.ofZeros {t tx ty e : TypeId} {i : TypeInfo} {z : Value} {n : Nat} {k k' : IntKind} (ht : P.underlying t = some (.slice e)) (hk : P.underlying tx = some (.int k')) (hi : P.info? e = some i) (hz : i.zero = some z)
    (hzs : z.cells.size = i.size) (hsz : 0 < i.size) (hn : n ≤ 1073741824) (hby : i.bytes ≤ 4096) (hone : ∀ u ∈ (Builtin.zeroCells z.cells n).toList, u.oneCell' = true) :
    AppOk P t tx ty e i z (.int k n) n (Builtin.zeroCells z.cells n).toList w := by
  have hwr : IntKind.i64.wrap (n : Int) = n := by
    have : IntKind.i64.wrap (n : Int) = (n : Int) := by
      unfold IntKind.wrap
      simp [IntKind.bits, IntKind.signed]
      omega
    exact this
  have hnn : ¬ ((n : Int) < 0) := by omega
  have hmul : n * i.bytes ≤ 1073741824 * 4096 := Nat.mul_le_mul hn hby
  have h48 : ¬ (281474976710656 < (n : Int) * (i.bytes : Int)) := by
    have : ((n * i.bytes : Nat) : Int) = (n : Int) * (i.bytes : Int) := by simp
    omega
  have hne : i.size ≠ 0 := by omega
  have hwr0 : IntKind.i64.wrap (0 : Int) = 0 := by decide
  have hnz : n ≠ 0 → ¬ (n * i.size = 0) := by
    intro h e
    rcases Nat.mul_eq_zero.1 e with e | e <;> omega
  have hz0 : n = 0 → Builtin.zeroCells z.cells n = #[] := by intro h; subst h; simp [Builtin.zeroCells]
  refine ⟨by simp [size_zeroCells, hzs], hone, ?_, ?_, ?_⟩
  · intro a sLen sCap w' hroom hst
    by_cases h0 : n = 0
    · have e0 := hz0 h0
      subst h0
      rw [e0] at hst
      simp only [Nat.add_zero] at hroom
      simp at hst
      simp [Builtin.append_, run_underlying ht, run_underlying hk, sizeOf, typeInfo, hi, hroom, run_asInt', hwr0, hst]
    · simp [Builtin.append_, run_underlying ht, run_underlying hk, sizeOf, typeInfo, zeroValue, hi, hz, hroom, run_asInt', hwr, hnn, h48, hnz h0, hst]
  · intro h0
    subst h0
    simp [Builtin.append_, run_underlying ht, run_underlying hk, sizeOf, typeInfo, hi, run_asInt', hwr0]
  · intro base sLen sCap olds hold hg hle hb
    have hroom : ¬ (sLen + n ≤ sCap) := by omega
    have h63 : ¬ (9223372036854775807 < ((sLen : Int) + (n : Int))) := by omega
    have hfit := fits (bytes := i.bytes) hg hle hb
    have h48' : ¬ (281474976710656 < Builtin.nextslicecap (sLen + n) sCap * i.bytes) := by omega
    by_cases h0 : n = 0
    · have e0 := hz0 h0
      subst h0
      rw [e0]
      simp only [Nat.add_zero] at hroom h48' ⊢
      simp only [Int.ofNat_zero, Int.add_zero] at h63
      simp [Builtin.append_, run_underlying ht, run_underlying hk, sizeOf, typeInfo, zeroValue, hi, hz, run_asInt', hwr0, hroom, h63, h48', Question.forced, hold, newRow, grownCap]
    · simp [Builtin.append_, run_underlying ht, run_underlying hk, sizeOf, typeInfo, zeroValue, hi, hz, run_asInt', hwr, hroom, hnn, h48, h63, h48', hnz h0, Question.forced, hold, newRow, grownCap]
      congr 2
      apply Array.ext'
      simp [List.append_assoc]
end
end Go.Vai

/-
  Append, on both sides.
-/
namespace Go.Vai
open Go

section
variable {E : Env} {P : Program} {β : Map} {B : Nat} {σ : St} {w : World}
theorem rowCells_ok (hR : HR E B β σ.look w) {x : AV} {u : Value} {cs : List AV} {n : Nat} (h : rowCells σ x = some (cs, n)) (hu : VR β x u) (size : Nat) (hlen : cs.length = n * size) :
    ∃ news, VRs β cs news ∧ (∀ w', (Builtin.lenOf u).run P w' = .ok n w') ∧
      ∀ m, m ≤ n → ∀ w' : World, w'.heap = w.heap → (Builtin.firstCells size m u).run P w' = .ok (news.take (m * size)).toArray w' := by
  unfold rowCells at h
  split at h
  · rename_i id g off len e mc
    split at h
    · rename_i gen mg cells hlook
      obtain ⟨h1, h2⟩ := condT h
      simp only [Bool.and_eq_true] at h1
      simp only [Option.map_eq_some_iff, Prod.mk.injEq] at h2
      obtain ⟨lst, hp, rfl, rfl⟩ := h2
      obtain ⟨hp1, rfl⟩ := parts?_some hp
      simp only [VR] at hu
      obtain ⟨l, o, c, hl, rfl, hc, hlm, hoff, hsz, hpos, hco⟩ := hu
      obtain ⟨hn, _, hrow, _⟩ := row_at hR hlook (bleT h1.1) (bleT h1.2) hl
      have hle : off + len * e ≤ l.n := by
        have := Nat.mul_le_mul_right e hlm
        omega
      obtain ⟨blk, el, e1, e2, e3⟩ := hrow.seg (off := off) (k := len * e) hle
      refine ⟨_, e3, fun w' => rfl, fun m hm w' hw' => ?_⟩
      have hnl := e3.length
      rcases hco with hco | ⟨ho, _⟩
      · have hm0 : m = 0 := by omega
        subst hm0
        have := run_firstCells_some (P := P) w' size 0 ⟨l.b, o, none⟩ len c [] (by simp) (by simp)
        simpa using this
      · subst ho
        refine run_firstCells_some (P := P) w' size m ⟨l.b, l.s + off, none⟩ len c _ ?_ ?_
        · rw [List.length_take, hnl, hlen]
          exact Nat.min_eq_left (Nat.mul_le_mul_right _ hm)
        · intro j v hj
          have hj' : ((blk.toList.drop (l.s + off)).take (len * e))[j]? = some v := by
            rw [List.getElem?_take] at hj
            split at hj
            · exact hj
            · simp at hj
          exact cells_at (w := w') (by rw [hw']; exact e1) hj'
    · simp at h
  · simp only [Option.some.injEq, Prod.mk.injEq] at h
    obtain ⟨rfl, rfl⟩ := h
    simp only [VR] at hu; subst hu
    refine ⟨[], VRs.nil, fun w' => rfl, fun m hm w' _ => ?_⟩
    have hm0 : m = 0 := by omega
    subst hm0
    simpa using run_firstCells_none w' size 0 0 0
  · rename_i s
    simp only [Option.some.injEq, Prod.mk.injEq] at h
    obtain ⟨rfl, rfl⟩ := h
    simp only [VR] at hu; subst hu
    refine ⟨byteCells s, VRs.map _ _ _ (fun _ _ => by simp [VR]), fun w' => rfl, fun m hm w' _ => ?_⟩
    have hl : (byteCells s).length = s.size := byteCells_length s
    have hl2 : s.size = s.size * size := by simpa using hlen
    have hmm : m * size = m := by
      rcases Nat.eq_zero_or_pos s.size with h0 | h0
      · have : m = 0 := by omega
        subst this; simp
      · have : size = 1 := Nat.eq_of_mul_eq_mul_left h0 (by omega)
        simp [this]
    rw [hmm]
    simp only [Builtin.firstCells, Sem.run_pure, byteCells]
    congr 1
    apply Array.ext'
    simp
  · rename_i e len cells
    simp only [Option.some.injEq, Prod.mk.injEq] at h
    obtain ⟨rfl, rfl⟩ := h
    simp only [VR] at hu
    obtain ⟨hep, hcl, p, c, rfl, hlc, hpc, r⟩ := hu
    rcases r with rfl | ⟨b, o, blk, el, fz, rfl, hgl, hsz, hr⟩
    · have : cells = [] := List.eq_nil_of_length_eq_zero (by simpa using hcl)
      subst this
      refine ⟨[], VRs.nil, fun w' => rfl, fun m hm w' _ => ?_⟩
      have hm0 : m = 0 := by omega
      subst hm0
      cases p with
      | none => simpa using run_firstCells_none w' size 0 0 c
      | some a => simpa using run_firstCells_some (P := P) w' size 0 a 0 c [] (by simp) (by simp)
    · have e1 := (hR.fz b _ hgl).1
      have hnl := hr.length
      refine ⟨_, hr, fun w' => rfl, fun m hm w' hw' => ?_⟩
      refine run_firstCells_some (P := P) w' size m ⟨b, o, none⟩ len c _ ?_ ?_
      · rw [List.length_take, hnl, hlen]
        exact Nat.min_eq_left (Nat.mul_le_mul_right _ hm)
      · intro j v hj
        have hj' : ((blk.toList.drop o).take (len * e))[j]? = some v := by
          rw [List.getElem?_take] at hj
          split at hj
          · exact hj
          · simp at hj
        exact cells_at (w := w') (by rw [hw']; exact e1) hj'
  · simp at h
theorem zeroCells_list (z : Array Value) (n : Nat) : (Builtin.zeroCells z n).toList = (List.replicate n z.toList).flatten := madeCells_list z n
theorem newCells_ok (hE : EnvOk E P) (hR : HR E B β σ.look w) {x : AV} {u : Value} {new : List AV} {n : Nat} {t t2 e : TypeId} {ety : ATy} {i : TypeInfo} {z : Value} (ty : TypeId)
    (h : newCells σ (((E.ty.get e).map (·.zero)).getD []) x (E.ty.get t2) = some (new, n)) (he : E.ty.get e = some ety) (hu : VR β x u) (hlen : new.length = n * ety.size) (hc : new.all isCell = true)
    (hpos : 0 < ety.size) (hby : ety.bytes ≤ 4096)
    (ht : P.underlying t = some (.slice e)) (hi : P.info? e = some i) (his : i.size = ety.size) (hib : i.bytes = ety.bytes) (hz : i.zero = some z) (hzc : z.cells = ety.zero.toArray) (hzl : ety.zero.length = ety.size) :
    ∃ news, AppOk P t t2 ty e i z u n news w ∧ VRs β new news := by
  rw [he] at h
  simp only [Option.map_some, Option.getD_some] at h
  cases ht2 : E.ty.get t2 with
  | none => simp [ht2, newCells] at h
  | some ty2 =>
    have hT2 := hE.ty t2 ty2 ht2
    rw [ht2] at h
    have src : rowCells σ x = some (new, n) → ((∃ e', P.underlying t2 = some (.slice e')) ∨ P.underlying t2 = some .string) → ∃ news, AppOk P t t2 ty e i z u n news w ∧ VRs β new news := by
      intro hr hk
      obtain ⟨news, hv, hl, hf⟩ := rowCells_ok (P := P) hR hr hu i.size (by rw [his]; exact hlen)
      have hnl : news.length = n * i.size := by rw [hv.length, hlen, his]
      have htk : news.take (n * i.size) = news := by rw [← hnl, List.take_length]
      refine ⟨news, AppOk.ofSrc ht hi hz ⟨hk, hl, ?_, ?_, hnl, hv.oneCells hc⟩, hv⟩
      · have := hf n (Nat.le_refl _) w rfl
        rwa [htk] at this
      · have := hf n (Nat.le_refl _) w.drew rfl
        rwa [htk] at this
    unfold newCells at h
    split at h
    · rename_i k _ e1
      simp only [Option.some.injEq] at e1
      subst e1
      split at h
      · rename_i m hm
        obtain ⟨h1, h2⟩ := condT h
        simp only [Option.some.injEq, Prod.mk.injEq] at h2
        obtain ⟨rfl, rfl⟩ := h2
        obtain ⟨k', rfl⟩ := VR.nat hm hu
        have hvr : VRs β (repl m (ety.zero.map .sc)) (Builtin.zeroCells z.cells m).toList := by
          rw [zeroCells_list, hzc]
          exact VRs.replicate (VRs.sc _) m
        refine ⟨_, AppOk.ofZeros ht (hT2.int rfl) hi hz (by rw [hzc, his]; simp [hzl]) (by omega) (bleT h1) (by omega) (hvr.oneCells hc), hvr⟩
      · simp at h
    · rename_i e1
      simp only [Option.some.injEq] at e1
      subst e1
      exact src h (.inl ⟨_, hT2.slice rfl⟩)
    · rename_i e1
      simp only [Option.some.injEq] at e1
      subst e1
      exact src h (.inr (hT2.string rfl))
    · simp at h
end
end Go.Vai

/-
  A row's new generation: in its own block, or in a new one.
-/
namespace Go.Vai
open Go

theorem seg_grow (cs us : List Value) (s k : Nat) (h : s + k ≤ cs.length) (j m : Nat) (hj : j + m ≤ s + k) :
    ((cs.take (s + k) ++ us ++ cs.drop (s + k + us.length)).drop j).take m = (cs.drop j).take m := by
  rw [List.append_assoc, List.drop_append_of_le_length (by simp; omega), List.take_append_of_le_length (by simp; omega), List.drop_take, List.take_take, Nat.min_eq_left (by omega)]
theorem seg_grow' (cs us : List Value) (s k : Nat) (h : s + k ≤ cs.length) :
    ((cs.take (s + k) ++ us ++ cs.drop (s + k + us.length)).drop s).take (k + us.length) = (cs.drop s).take k ++ us := by
  rw [List.append_assoc, List.drop_append_of_le_length (by simp; omega), List.drop_take]
  have e : s + k - s = k := by omega
  rw [e]
  have hl : ((cs.drop s).take k).length = k := by simp; omega
  rw [List.take_append, hl, List.take_of_length_le (by omega)]
  congr 1
  have e2 : k + us.length - k = us.length := by omega
  rw [e2, List.take_append_of_le_length (by omega), List.take_length]

section
variable {E : Env} {P : Program} {β : Map} {B : Nat} {σ : St} {w : World}
theorem genNew (hR : HR E B β σ.look w) {id gen mg : Nat} {cells : List AV} (h : σ.look id = some (.row gen mg cells)) {l : Loc} (hl : β id gen = some l) {off k : Nat} (hk : off + k ≤ cells.length)
    {new : List AV} (hc : new.all isCell = true) (L : Loc) (hLn : L.n = k + new.length) (w' : World)
    (hLb : L.b = l.b ∧ L.s = l.s + off ∨ L.b = w.heap.size) (hown : L.b < w'.heap.size)
    (hos : w'.os = w.os) (htape : w'.tape = w.tape) (hout : w'.output = w.output) (hsize : w.heap.size ≤ w'.heap.size)
    (keep : ∀ b, b < w.heap.size → b ≠ l.b → w'.heap[b]? = w.heap[b]?)
    (same : ∀ L0 : Loc, L0.b = l.b → (L0.s = l.s) → off = 0 → L0.n ≤ k → L0.s + L0.n ≤ L0.sz → RowR β w L0 cells → ∃ cs el, w'.heap[L0.b]? = some (.cells cs el (0, 0)) ∧ cs.size = L0.sz ∧ L0.s + L0.n ≤ cs.size ∧ VRs β (cells.take L0.n) ((cs.toList.drop L0.s).take L0.n))
    (row : RowR β w' L (((cells.take (off + k)).drop off) ++ new)) (lo hi : Nat) :
    HR E B (put1 β id (gen + 1) L) (upd σ.look id (.row (gen + 1) (cond (Nat.beq off 0 && Nat.beq k cells.length) mg (gen + 1)) (((cells.take (off + k)).drop off) ++ new))) w' ∧
      Step β (put1 β id (gen + 1) L) σ.look lo hi w w' := by
  obtain ⟨hmg, hall, hnone, hsame, hrows⟩ := hR.obj id _ h
  have hnew : β id (gen + 1) = none := hnone _ (by omega)
  have hown0 := hR.own id _ gen l h hl
  have hsub := put1_sub (l := L) hnew
  have hclen : (((cells.take (off + k)).drop off) ++ new).length = k + new.length := by simp; omega
  refine hR.change id _ lo hi hsub ?_ (.inl ⟨_, h, fun e => by cases e⟩) hos htape hout hsize ?_ ?_
  · intro i g x e
    rcases put1_new e with e | ⟨rfl, _, rfl⟩
    · exact .inl e
    · refine .inr ⟨rfl, ?_⟩
      rcases hLb with ⟨hb, _⟩ | hb
      · exact .inr ⟨gen, l, hl, hb.symm⟩
      · exact .inl ⟨by omega, hown⟩
  · intro b hb hno
    exact keep b hb fun e => hno gen l hl e.symm
  · have old : ∀ g, g ≠ gen + 1 → put1 β id (gen + 1) L id g = β id g := by
      intro g hg; rw [put1_at, if_neg (by omega)]
    have hmgE : ∀ g, cond (Nat.beq off 0 && Nat.beq k cells.length) mg (gen + 1) ≤ g → g ≤ gen + 1 → g = gen + 1 ∨ (off = 0 ∧ k = cells.length ∧ mg ≤ g ∧ g ≤ gen) := by
      intro g a b
      cases hcnd : (Nat.beq off 0 && Nat.beq k cells.length) with
      | false => rw [hcnd] at a; simp at a; exact .inl (by omega)
      | true =>
        rw [hcnd] at a
        simp only [Bool.and_eq_true] at hcnd
        have h1 := beqT hcnd.1
        have h2 := beqT hcnd.2
        simp only [cond_true] at a
        by_cases e : g = gen + 1
        · exact .inl e
        · exact .inr ⟨h1, h2, a, by omega⟩
    refine ⟨?_, ?_, ?_, ?_, ?_⟩
    · cases (Nat.beq off 0 && Nat.beq k cells.length) <;> simp <;> omega
    · rw [List.all_append, Bool.and_eq_true]
      refine ⟨?_, hc⟩
      rw [List.all_eq_true] at hall ⊢
      exact fun x hx => hall x (List.mem_of_mem_take (List.mem_of_mem_drop hx))
    · intro g hg
      rw [old g (by omega)]
      exact hnone g (by omega)
    · intro g g' x x' a b a' b' e e' eb
      rcases hmgE g a b with rfl | ⟨h0, hk0, a1, b1⟩
      · rw [put1_same] at e; simp only [Option.some.injEq] at e; subst e
        rcases hmgE g' a' b' with rfl | ⟨h0, hk0, a1', b1'⟩
        · rw [put1_same] at e'; simp only [Option.some.injEq] at e'; subst e'; rfl
        · rw [old g' (by omega)] at e'
          rcases hLb with ⟨hb, hs⟩ | hb
          · have := hsame gen g' l x' hmg (Nat.le_refl _) a1' b1' hl e' (by omega)
            omega
          · have := (hR.own id _ g' x' h e').2; omega
      · rw [old g (by omega)] at e
        rcases hmgE g' a' b' with rfl | ⟨_, _, a1', b1'⟩
        · rw [put1_same] at e'; simp only [Option.some.injEq] at e'; subst e'
          rcases hLb with ⟨hb, hs⟩ | hb
          · have := hsame gen g l x hmg (Nat.le_refl _) a1 b1 hl e (by omega)
            omega
          · have := (hR.own id _ g x h e).2; omega
        · rw [old g' (by omega)] at e'
          exact hsame g g' x x' a1 b1 a1' b1' e e' eb
    · intro g a b
      rcases hmgE g a b with rfl | ⟨h0, hk0, a1, b1⟩
      · refine ⟨L, put1_same _ _ _ _, by omega, fun _ => by omega, ?_⟩
        obtain ⟨cs, el, r1, r2, r3, r4⟩ := row
        exact ⟨cs, el, r1, r2, r3, VRs.mono hsub _ _ r4⟩
      · obtain ⟨x, e, r1, r2, r3⟩ := hrows g a1 b1
        refine ⟨x, by rw [old g (by omega)]; exact e, by omega, fun e => by omega, ?_⟩
        subst h0
        have htake : (((cells.take (0 + k)).drop 0) ++ new).take x.n = cells.take x.n := by
          rw [List.drop_zero, Nat.zero_add, hk0, List.take_length, List.take_append_of_le_length (by omega)]
        have hown1 := hR.own id _ g x h e
        by_cases eb : x.b = l.b
        · have hs := hsame g gen x l a1 b1 hmg (Nat.le_refl _) e hl eb
          obtain ⟨cs0, el0, q1, q2, q3, q4⟩ := r3
          obtain ⟨cs, el, p1, p2, p3, p4⟩ := same x eb hs rfl (by omega) (by omega) ⟨cs0, el0, q1, q2, q3, q4⟩
          exact ⟨cs, el, p1, p2, p3, by rw [htake]; exact VRs.mono hsub _ _ p4⟩
        · obtain ⟨cs, el, p1, p2, p3, p4⟩ := r3
          exact ⟨cs, el, (keep x.b hown1.2 eb).trans p1, p2, p3, by rw [htake]; exact VRs.mono hsub _ _ p4⟩
end
end Go.Vai

/-
  Append: the abstract operation against the model's.
-/
namespace Go.Vai
open Go

section
variable {E : Env} {P : Program} {β : Map} {B : Nat} {σ : St} {w : World}
theorem RowR.size {l : Loc} {cells : List AV} (hR : RowR β w l cells) : l.s + l.n ≤ l.sz := by
  obtain ⟨cs, el, h1, h2, h3, h4⟩ := hR
  omega
theorem append_ok (hE : EnvOk E P) (hR : HR E B β σ.look w) (hW : WF σ) {v s x : AV} {us ux : Value} {σ' : St} {t t2 : TypeId}
    (h : aAppend E t t2 s x σ = some (v, σ')) (hF : Fresh β σ.next σ'.next) (hs : VR β s us) (hx : VR β x ux) (ty : TypeId) : Does E B P β σ σ' w (Builtin.append_ #[t, t2] ty #[us, ux]) v := by
  unfold aAppend at h
  split at h
  · rename_i _ _ _ _ e _ ht
    split at h
    · rename_i ety new n he hnew
      obtain ⟨h1, h2⟩ := condT h
      simp only [Bool.and_eq_true] at h1
      obtain ⟨⟨a1, a2⟩, a3⟩ := h1
      replace a1 := beqT a1; replace a2 := bltT a2; replace a3 := bleT a3
      have hu := (hE.ty t _ ht).slice rfl
      have hT := hE.ty e _ he
      obtain ⟨i, z, hi, his, hib, hz, hzc, hzl⟩ := hT.info
      have appok : new.all isCell = true → ∃ news, AppOk P t t2 ty e i z ux n news w ∧ VRs β new news := fun hc =>
        newCells_ok hE hR ty hnew he hx a1 hc a2 a3 hu hi his hib hz hzc hzl
      have zsize : z.cells.size = ety.size := by rw [hzc]; simp [hzl]
      split at h2
      · -- a nil slice
        simp only [VR] at hs; subst hs
        cases n with
        | zero =>
          simp only [Option.some.injEq, Prod.mk.injEq] at h2
          obtain ⟨rfl, rfl⟩ := h2
          have hn0 : new = [] := List.eq_nil_of_length_eq_zero (by omega)
          obtain ⟨news, hA, hv⟩ := appok (by subst hn0; rfl)
          exact ⟨β, _, w, hA.nil rfl, by simp [VR], hR, Step.refl _ _ _ _⟩
        | succ m =>
          simp only at h2
          obtain ⟨b1, b2⟩ := condT h2
          unfold aNewRow at b2
          obtain ⟨b3, b4⟩ := condT b2
          simp only [Option.some.injEq, Prod.mk.injEq] at b4
          obtain ⟨rfl, rfl⟩ := b4
          obtain ⟨news, hA, hv⟩ := appok b3
          have hrun := hA.grow none 0 0 [] (by simpa using run_firstCells_none (P := P) w.drew i.size 0 0 0) (by omega) (by have := bleT b1; omega) (by omega)
          simp only [Nat.zero_add, List.nil_append] at hrun
          have hge := grownCap_ge w (m + 1) 0 e
          have hnl : news.length = (m + 1) * ety.size := by rw [hA.len, his]
          have hsz : (news.toArray ++ Builtin.zeroCells z.cells (grownCap w (m + 1) 0 e - (m + 1))).size = grownCap w (m + 1) 0 e * ety.size := by
            simp only [Array.size_append, List.size_toArray, size_zeroCells, zsize, hnl, ← Nat.add_mul]
            congr 1; omega
          have hlen : new.length = (m + 1) * ety.size := a1
          have := newRow_ok hR hW hF e (w.drew.alloc (.cells (news.toArray ++ Builtin.zeroCells z.cells (grownCap w (m + 1) 0 e - (m + 1))) e)) rfl rfl rfl rfl b3 new.length rfl
            (by rw [← hv.length]; simpa using hv) (by rw [hsz, hlen]; exact Nat.mul_le_mul_right _ hge)
          refine ⟨_, _, _, hrun, ?_, this.1, this.2⟩
          simp only [VR]
          refine ⟨_, 0, _, put1_same _ _ _ _, rfl, hge, Nat.le_refl _, ?_, ?_, a2, .inr ⟨by simp, ?_⟩⟩
          · simp [hlen]
          · simp only [hsz, hlen, Nat.zero_add]; exact Nat.mul_le_mul_right _ hge
          · simp only [hsz, Nat.zero_add]; exact Nat.le_refl _
      · -- a slice
        rename_i id g off len es mc
        split at h2
        · rename_i gen mg cells hlook
          obtain ⟨b1, b2⟩ := condT h2
          simp only [Bool.and_eq_true] at b1
          obtain ⟨⟨c1, c2⟩, c3⟩ := b1
          replace c1 := beqT c1; replace c2 := bleT c2; replace c3 := bleT c3
          subst c1
          simp only [VR] at hs
          obtain ⟨l, o, c, hl, rfl, hc, hlm, hoff, hsz, hpos, hco⟩ := hs
          cases hn0 : Nat.beq n 0 with
          | true =>
            have hn := beqT hn0
            subst hn
            rw [hn0] at b2
            simp only [Option.some.injEq, Prod.mk.injEq] at b2
            obtain ⟨rfl, rfl⟩ := b2
            have hnw : new = [] := List.eq_nil_of_length_eq_zero (by omega)
            obtain ⟨news, hA, hv⟩ := appok (by subst hnw; rfl)
            have hnn : news = [] := List.eq_nil_of_length_eq_zero (by rw [hv.length, hnw]; rfl)
            have hrun := hA.room ⟨l.b, o, none⟩ len c w (by omega) (by subst hnn; simp [storeCells])
            refine ⟨β, _, w, hrun, ?_, hR, Step.refl _ _ _ _⟩
            simp only [VR]
            exact ⟨l, o, c, hl, rfl, hc, hlm, hoff, hsz, hpos, hco⟩
          | false =>
            rw [hn0] at b2
            simp only at b2
            obtain ⟨d1, d2⟩ := condT b2
            simp only [Bool.and_eq_true] at d1
            obtain ⟨⟨⟨d3, d4⟩, d5⟩, d6⟩ := d1
            replace d3 := beqT d3; replace d4 := bleT d4; replace d6 := bleT d6
            subst d3
            have hnp : 0 < n := by
              rcases Nat.eq_zero_or_pos n with e0 | e0
              · subst e0; simp at hn0
              · exact e0
            obtain ⟨news, hA, hv⟩ := appok d5
            have hnl : news.length = n * ety.size := by rw [hA.len, his]
            obtain ⟨hln, hlg, hrow, hall⟩ := row_at hR hlook c2 c3 hl
            have hlg := hlg rfl
            have hmul : (len + n) * ety.size = len * ety.size + n * ety.size := Nat.add_mul _ _ _
            cases hfit : Nat.ble (len + n) mc with
            | true =>
              rw [hfit] at d2
              simp only at d2
              obtain ⟨f1, f2⟩ := condT d2
              replace f1 := bleT f1
              simp only [Option.some.injEq, Prod.mk.injEq] at f2
              obtain ⟨rfl, rfl⟩ := f2
              have hfit := bleT hfit
              rcases hco with hc0 | ⟨ho, hoc⟩
              · omega
              subst ho
              obtain ⟨cs, el, q1, q2, q3, q4, q5⟩ := rowStore_ok (off := off + len * ety.size) (vs := new) hR hlook hl (by omega) d5 hv σ.next σ.next
              have hst := run_storeCells_at P l.b (l.s + off + len * ety.size) el news 0 cs w q1 (by simpa [Nat.add_assoc] using q2) q3
              simp only [Nat.add_zero] at hst
              have hrun := hA.room ⟨l.b, l.s + off, none⟩ len c _ (by omega) (by rw [Addr.add_lit, his]; exact hst)
              refine ⟨β, _, _, hrun, ?_, ?_, ?_⟩
              · simp only [VR]
                exact ⟨l, _, c, hl, rfl, hc, hfit, hoff, hsz, hpos, .inr ⟨rfl, hoc⟩⟩
              · rw [look_put _ (look_some hlook).1]
                simpa [Nat.add_assoc] using q4
              · show Step β β σ.look σ.next σ.next w _
                simpa [Nat.add_assoc] using q5
            | false =>
              rw [hfit] at d2
              simp only [Option.some.injEq, Prod.mk.injEq] at d2
              obtain ⟨rfl, rfl⟩ := d2
              have hclen : new.length = n * ety.size := a1
              have hrow' := hrow
              obtain ⟨blk, el, e1, e2, e3, e4⟩ := hrow'
              have hll : (l.s + off) + len * ety.size ≤ blk.size := by omega
              by_cases hroom : len + n ≤ c
              · -- there was room
                rcases hco with hc0 | ⟨ho, hoc⟩
                · omega
                subst ho
                have hcap : (len + n) * ety.size ≤ c * ety.size := Nat.mul_le_mul_right _ hroom
                have hst := run_storeCells_at P l.b (l.s + off + len * ety.size) el news 0 blk w e1 (by omega) (hv.oneCells d5)
                simp only [Nat.add_zero] at hst
                have hrun := hA.room ⟨l.b, l.s + off, none⟩ len c _ hroom (by rw [Addr.add_lit, his]; exact hst)
                have hG := genNew hR hlook hl (off := off) (k := len * ety.size) d6 d5 ⟨l.b, l.s + off, len * ety.size + n * ety.size, l.sz⟩ (by simp [hclen])
                  (w.setRow l.b (blk.toList.take (l.s + off + len * ety.size) ++ news ++ blk.toList.drop (l.s + off + len * ety.size + news.length)).toArray)
                  (.inl ⟨rfl, rfl⟩) (by simpa [World.setRow] using (hR.own id _ g l hlook hl).2) rfl rfl rfl (by simp [World.setRow])
                  (fun b hb hne => setRow_other w l.b b _ hne)
                  (fun L0 hb hs h0 hn hz hr => by
                    obtain ⟨cs0, el0, p1, p2, p3, p4⟩ := hr
                    rw [hb, e1] at p1
                    simp only [Option.some.injEq, Obj.cells.injEq] at p1
                    obtain ⟨rfl, rfl, _⟩ := p1
                    subst h0
                    refine ⟨_, el, by rw [hb]; exact setRow_heap w l.b blk _ el (0, 0) e1, ?_, ?_, ?_⟩
                    · simp; omega
                    · simp; omega
                    · simp only []
                      rw [seg_grow _ _ (l.s + 0) (len * ety.size) (by simpa using hll) _ _ (by omega)]
                      exact p4)
                  (by
                    refine ⟨_, el, setRow_heap w l.b blk _ el (0, 0) e1, ?_, ?_, ?_⟩
                    · simp; omega
                    · simp; omega
                    · simp only []
                      have := seg_grow' blk.toList news (l.s + off) (len * ety.size) (by simpa using hll)
                      rw [hnl] at this
                      rw [hnl, this]
                      rw [List.take_of_length_le (by simp; omega)]
                      refine VRs.append ?_ hv
                      obtain ⟨cs2, el2, p1, p2, p3⟩ := hrow.seg (off := off) (k := len * ety.size) (by omega)
                      rw [e1] at p1
                      simp only [Option.some.injEq, Obj.cells.injEq] at p1
                      obtain ⟨rfl, rfl, _⟩ := p1
                      rw [List.drop_take]
                      have : off + len * ety.size - off = len * ety.size := by omega
                      rw [this]
                      exact p3)
                  σ.next σ.next
                refine ⟨_, _, _, hrun, ?_, (by rw [look_put _ (look_some hlook).1]; exact hG.1), hG.2⟩
                simp only [VR]
                refine ⟨_, l.s + off, c, put1_same _ _ _ _, rfl, hroom, Nat.le_refl _, ?_, ?_, hpos, .inr ⟨by simp, hoc⟩⟩
                · simp; omega
                · simp only []; omega
              · -- a new block
                have holds : (Builtin.firstCells i.size len (.slice (some ⟨l.b, o, none⟩) len c)).run P w.drew = .ok ((blk.toList.drop (l.s + off)).take (len * ety.size)).toArray w.drew := by
                  rw [his]
                  rcases hco with hc0 | ⟨ho, hoc⟩
                  · have : len = 0 := by omega
                    subst this
                    have := run_firstCells_some (P := P) w.drew ety.size 0 ⟨l.b, o, none⟩ 0 c [] (by simp) (by simp)
                    simpa using this
                  · subst ho
                    refine run_firstCells_some (P := P) w.drew ety.size len ⟨l.b, l.s + off, none⟩ len c _ (by simp; omega) ?_
                    intro j v hj
                    exact cells_at (w := w.drew) e1 hj
                have hrun := hA.grow (some ⟨l.b, o, none⟩) len c _ holds (by omega) d4 (by omega)
                have hge := grownCap_ge w (len + n) c e
                have hol : ((blk.toList.drop (l.s + off)).take (len * ety.size)).length = len * ety.size := by simp; omega
                generalize hG : grownCap w (len + n) c e = G at hrun hge
                have hsz' : ((((blk.toList.drop (l.s + off)).take (len * ety.size)) ++ news).toArray ++ Builtin.zeroCells z.cells (G - (len + n))).size = G * ety.size := by
                  simp only [Array.size_append, List.size_toArray, List.length_append, size_zeroCells, zsize, hnl, hol, ← Nat.add_mul]
                  congr 1; omega
                have hcap : (len + n) * ety.size ≤ G * ety.size := Nat.mul_le_mul_right _ hge
                have hN := genNew hR hlook hl (off := off) (k := len * ety.size) d6 d5 ⟨w.heap.size, 0, len * ety.size + n * ety.size, G * ety.size⟩ (by simp [hclen])
                  (w.drew.alloc (.cells ((((blk.toList.drop (l.s + off)).take (len * ety.size)) ++ news).toArray ++ Builtin.zeroCells z.cells (G - (len + n))) e))
                  (.inr rfl) (by simp) rfl rfl rfl (by simp)
                  (fun b hb hne => heap_alloc_old w.drew _ b hb)
                  (fun L0 hb hs h0 hn hz hr => by
                    obtain ⟨cs0, el0, p1, p2, p3, p4⟩ := hr
                    refine ⟨cs0, el0, ?_, p2, p3, p4⟩
                    rw [← p1]
                    exact heap_alloc_old w.drew _ _ (by rw [hb]; exact (hR.own id _ g l hlook hl).2))
                  (by
                    refine ⟨_, e, heap_alloc_new w.drew _, hsz', ?_, ?_⟩
                    · simp only [hsz']; omega
                    · have hl1 : (((cells.take (off + len * ety.size)).drop off) ++ new).length = len * ety.size + n * ety.size := by simp; omega
                      have hl2 : (((blk.toList.drop (l.s + off)).take (len * ety.size)) ++ news).length = len * ety.size + n * ety.size := by rw [List.length_append, hol, hnl]
                      have t1 : (((cells.take (off + len * ety.size)).drop off) ++ new).take (len * ety.size + n * ety.size) = ((cells.take (off + len * ety.size)).drop off) ++ new := List.take_of_length_le (by omega)
                      have t2 : (((((blk.toList.drop (l.s + off)).take (len * ety.size)) ++ news).toArray ++ Builtin.zeroCells z.cells (G - (len + n))).toList.drop 0).take (len * ety.size + n * ety.size) = ((blk.toList.drop (l.s + off)).take (len * ety.size)) ++ news := by
                        rw [List.drop_zero, Array.toList_append, List.toList_toArray, List.take_append_of_le_length (by omega), List.take_of_length_le (by omega)]
                      simp only [t1, t2]
                      refine VRs.append ?_ hv
                      obtain ⟨cs2, el2, p1, p2, p3⟩ := hrow.seg (off := off) (k := len * ety.size) (by omega)
                      rw [e1] at p1
                      simp only [Option.some.injEq, Obj.cells.injEq] at p1
                      obtain ⟨rfl, rfl, _⟩ := p1
                      rw [List.drop_take]
                      have : off + len * ety.size - off = len * ety.size := by omega
                      rw [this]
                      exact p3)
                  σ.next σ.next
                refine ⟨_, _, _, hrun, ?_, (by rw [look_put _ (look_some hlook).1]; exact hN.1), hN.2⟩
                simp only [VR]
                refine ⟨_, 0, G, put1_same _ _ _ _, rfl, hge, Nat.le_refl _, ?_, ?_, hpos, .inr ⟨by simp, ?_⟩⟩
                · simp only [Nat.zero_add]; omega
                · simp only [Nat.zero_add]; omega
                · simp
        · simp at h2
      · simp at h2
    · simp at h
  · simp at h
end
end Go.Vai

/-
  copy, clear, len, cap, max, min.
-/
namespace Go.Vai
open Go

section
variable {E : Env} {P : Program} {β : Map} {B : Nat} {σ : St} {w : World}
theorem copy_ok (hE : EnvOk E P) (hR : HR E B β σ.look w) {v d x : AV} {ud ux : Value} {σ' : St} {t : TypeId} {ats : Array TypeId}
    (h : aCopy E t d x σ = some (v, σ')) (hd : VR β d ud) (hx : VR β x ux) (hat : ats[0]? = some t) (ty : TypeId) : Does E B P β σ σ' w (Builtin.copy_ ats ty #[ud, ux]) v := by
  unfold aCopy at h
  split at h
  · rename_i _ _ _ _ e _ ht
    split at h
    · rename_i ety src n he hsrc
      obtain ⟨h1, h2⟩ := condT h
      replace h1 := beqT h1
      have hu := (hE.ty t _ ht).slice rfl
      have hT := hE.ty e _ he
      obtain ⟨news, hv, hlen, hfc⟩ := rowCells_ok (P := P) hR hsrc hx ety.size h1
      split at h2
      · simp only [Option.some.injEq, Prod.mk.injEq] at h2
        obtain ⟨rfl, rfl⟩ := h2
        simp only [VR] at hd; subst hd
        have := hfc 0 (Nat.zero_le _) w rfl
        refine ⟨β, .int .i64 0, w, ?_, by simp [VR], hR, Step.refl _ _ _ _⟩
        simp [Builtin.copy_, hat, run_underlying hu, hlen, hT.size, this, goInt]
      · rename_i id g off len es mc
        split at h2
        · rename_i gen mg cells hlook
          obtain ⟨b1, b2⟩ := condT h2
          simp only [Bool.and_eq_true] at b1
          obtain ⟨⟨⟨⟨c1, c2⟩, c3⟩, c4⟩, c5⟩ := b1
          replace c1 := beqT c1; replace c2 := beqT c2; replace c4 := bleT c4; replace c5 := bltT c5
          subst c1; subst c2
          simp only [Option.some.injEq, Prod.mk.injEq] at b2
          obtain ⟨rfl, rfl⟩ := b2
          simp only [VR] at hd
          obtain ⟨l, o, c, hl, rfl, hc, hlm, hoff, hsz, hpos, hco⟩ := hd
          have hm := hfc (Nat.min n len) (Nat.min_le_left _ _) w rfl
          have hmul : Nat.min n len * ety.size ≤ len * ety.size := Nat.mul_le_mul_right _ (Nat.min_le_right _ _)
          have hmul2 : Nat.min n len * ety.size ≤ n * ety.size := Nat.mul_le_mul_right _ (Nat.min_le_left _ _)
          have htl : (src.take (Nat.min n len * ety.size)).length = Nat.min n len * ety.size := by simp; omega
          have hcell : (src.take (Nat.min n len * ety.size)).all isCell = true := by
            rw [List.all_eq_true] at c3 ⊢
            exact fun y hy => c3 y (List.mem_of_mem_take hy)
          obtain ⟨cs, el, q1, q2, q3, q4, q5⟩ := rowStore_ok (off := off) (vs := src.take (Nat.min n len * ety.size)) hR hlook hl (by omega) hcell (hv.take _) σ.next σ.next
          refine ⟨β, .int .i64 (Nat.min n len : Nat), _, ?_, by simp [VR], by rw [look_put _ (look_some hlook).1]; exact q4, q5⟩
          rcases hco with hc0 | ⟨ho, hoc⟩
          · have h0 : Nat.min n len = 0 := by
              have : len = 0 := by omega
              subst this; simp
            rw [h0] at hm ⊢
            have hself := setRow_self w l.b cs el (0, 0) q1
            simp only [Nat.zero_mul, List.take_zero, List.append_nil, List.length_nil, Nat.add_zero, List.take_append_drop, Array.toArray_toList] at hm ⊢
            rw [hself]
            simp [Builtin.copy_, hat, run_underlying hu, hlen, hT.size, h0, hm, goInt, storeCells]
          · subst ho
            have hst := run_storeCells_at P l.b (l.s + off) el _ 0 cs w q1 (by simpa [Nat.add_assoc] using q2) q3
            simp only [Nat.add_zero] at hst
            simp [Builtin.copy_, hat, run_underlying hu, hlen, hT.size, hm, goInt, hst]
        · simp at h2
      · simp at h2
    · simp at h
  · simp at h
theorem clear_ok (hE : EnvOk E P) (hR : HR E B β σ.look w) {v x : AV} {ux : Value} {σ' : St} {t : TypeId} {ats : Array TypeId}
    (h : aClear E t x σ = some (v, σ')) (hx : VR β x ux) (hat : ats[0]? = some t) (ty : TypeId) : Does E B P β σ σ' w (Builtin.clear_ ats ty #[ux]) v := by
  unfold aClear at h
  have hsome := (condT h).1
  replace h := (condT h).2
  obtain ⟨aty, haty⟩ := Option.isSome_iff_exists.1 hsome
  obtain ⟨d, hd, _⟩ := (hE.ty t aty haty).und
  split at h
  · simp only [Option.some.injEq, Prod.mk.injEq] at h
    obtain ⟨rfl, rfl⟩ := h
    simp only [VR] at hx; subst hx
    refine ⟨β, .tuple #[], w, ?_, by simp [VR, VRs], hR, Step.refl _ _ _ _⟩
    simp [Builtin.clear_, hat, run_underlying hd]
  · rename_i id g off len es mc
    split at h
    · rename_i hl0
      replace hl0 := beqT hl0
      simp only [Option.some.injEq, Prod.mk.injEq] at h
      obtain ⟨rfl, rfl⟩ := h
      simp only [VR] at hx
      obtain ⟨l, o, c, hl, rfl, hc, hlm, hoff, hsz, hpos, hco⟩ := hx
      subst hl0
      refine ⟨β, .tuple #[], w, ?_, by simp [VR, VRs], hR, Step.refl _ _ _ _⟩
      simp [Builtin.clear_, hat, run_underlying hd]
    · rename_i _ _ _ _ e _ hl0 ht
      split at h
      · rename_i ety gen mg cells he hlook
        obtain ⟨b1, b2⟩ := condT h
        simp only [Bool.and_eq_true] at b1
        obtain ⟨⟨⟨⟨c1, c2⟩, c3⟩, c4⟩, c5⟩ := b1
        replace c1 := beqT c1; replace c2 := beqT c2; replace c3 := beqT c3; replace c4 := bleT c4
        subst c1; subst c2
        simp only [Option.some.injEq, Prod.mk.injEq] at b2
        obtain ⟨rfl, rfl⟩ := b2
        simp only [VR] at hx
        obtain ⟨l, o, c, hl, rfl, hc, hlm, hoff, hsz, hpos, hco⟩ := hx
        have hlen0 : len ≠ 0 := by intro e0; subst e0; simp at hl0
        have hu := (hE.ty t _ ht).slice rfl
        obtain ⟨z, hz, hzc, hzs, _⟩ := zero_ok hE he
        rcases hco with hc0 | ⟨ho, hoc⟩
        · omega
        subst ho
        have hall : (repl len (ety.zero.map .sc)).all isCell = true := by
          rw [List.all_eq_true] at c5 ⊢
          intro y hy
          unfold repl at hy
          simp only [List.mem_flatten, List.mem_replicate] at hy
          obtain ⟨l', ⟨_, rfl⟩, hy⟩ := hy
          exact c5 y hy
        have hvr : VRs β (repl len (ety.zero.map .sc)) (Builtin.zeroCells z.cells len).toList := by
          rw [zeroCells_list, hzc]
          exact VRs.replicate (VRs.sc _) len
        have hrl : (repl len (ety.zero.map AV.sc)).length = len * ety.size := by rw [repl_length]; simp [c3]
        obtain ⟨cs, el, q1, q2, q3, q4, q5⟩ := rowStore_ok (off := off) (vs := repl len (ety.zero.map .sc)) hR hlook hl (by omega) hall hvr σ.next σ.next
        have hst := run_storeCells_at P l.b (l.s + off) el _ 0 cs w q1 (by simpa [Nat.add_assoc] using q2) q3
        simp only [Nat.add_zero] at hst
        refine ⟨β, .tuple #[], _, ?_, by simp [VR, VRs], by rw [look_put _ (look_some hlook).1]; exact q4, q5⟩
        cases len with
        | zero => exact absurd rfl hlen0
        | succ m => simp [Builtin.clear_, hat, run_underlying hu, hz w, hst]
      · simp at h
    · simp at h
  · simp at h
theorem EntriesR.length : ∀ {es : List AEntry} {cs : List MapEntry}, EntriesR β es cs → cs.length = es.length
  | [], _, h => by simp only [EntriesR] at h; subst h; rfl
  | e :: es, _, ⟨c, cs', h, _, r⟩ => by subst h; simp [EntriesR.length r]
theorem len_ok (hE : EnvOk E P) (hR : HR E B β σ.look w) {v x : AV} {ux : Value} {t : TypeId} {ats : Array TypeId}
    (h : aLen E t σ x = some v) (hx : VR β x ux) (hat : ats[0]? = some t) (ty : TypeId) : Does E B P β σ σ w (Builtin.len_ ats ty #[ux]) v := by
  unfold aLen at h
  split at h
  · simp at h
  · rename_i aty ht
    have hT := hE.ty t _ ht
    split at h
    · rename_i hd
      simp only [Option.some.injEq] at h; subst h
      simp only [VR] at hx
      obtain ⟨l, o, c, hl, rfl, _⟩ := hx
      exact ⟨β, .int .i64 _, w, by simp [Builtin.len_, hat, run_underlying (hT.slice hd), goInt]; rfl, by simp [VR], hR, Step.refl _ _ _ _⟩
    · rename_i hd
      simp only [Option.some.injEq] at h; subst h
      simp only [VR] at hx; subst hx
      exact ⟨β, .int .i64 _, w, by simp [Builtin.len_, hat, run_underlying (hT.slice hd), goInt]; rfl, by simp [VR], hR, Step.refl _ _ _ _⟩
    · rename_i hd
      simp only [Option.some.injEq] at h; subst h
      simp only [VR] at hx
      obtain ⟨_, _, p, c, rfl, _⟩ := hx
      exact ⟨β, .int .i64 _, w, by simp [Builtin.len_, hat, run_underlying (hT.slice hd), goInt]; rfl, by simp [VR], hR, Step.refl _ _ _ _⟩
    · rename_i hd
      simp only [Option.some.injEq] at h; subst h
      simp only [VR] at hx
      obtain ⟨p, rfl, r⟩ := hx
      rcases r with ⟨rfl, rfl, _⟩ | ⟨b, cs, clock, rfl, hgl, r1, _⟩
      · exact ⟨β, .int .i64 _, w, by simp [Builtin.len_, hat, run_underlying (hT.map hd), goInt]; rfl, by simp [VR], hR, Step.refl _ _ _ _⟩
      · have e1 := (hR.fz b _ hgl).1
        have := r1.length
        simp at this
        refine ⟨β, .int .i64 (cs.size : Nat), w, ?_, by simp [VR, this], hR, Step.refl _ _ _ _⟩
        simp [Builtin.len_, hat, run_underlying (hT.map hd), goInt, getObj, Sem.run, e1]
    · rename_i hd
      simp only [Option.some.injEq] at h; subst h
      simp only [VR] at hx; subst hx
      exact ⟨β, .int .i64 _, w, by simp [Builtin.len_, hat, run_underlying (hT.string hd), goInt]; rfl, by simp [VR], hR, Step.refl _ _ _ _⟩
    · rename_i hd
      simp only [Option.some.injEq] at h; subst h
      simp only [VR] at hx; subst hx
      exact ⟨β, .int .i64 _, w, by simp [Builtin.len_, hat, run_underlying (hT.map hd), goInt]; rfl, by simp [VR], hR, Step.refl _ _ _ _⟩
    · rename_i id hd
      split at h
      · rename_i es clock hlook
        simp only [Option.some.injEq] at h; subst h
        simp only [VR] at hx
        obtain ⟨l, hl, rfl⟩ := hx
        obtain ⟨l', hl', cs, hh, hes⟩ := hR.obj id _ hlook
        rw [hl] at hl'; simp only [Option.some.injEq] at hl'; subst hl'
        have := hes.length
        simp at this
        refine ⟨β, .int .i64 es.length, w, ?_, by simp [VR], hR, Step.refl _ _ _ _⟩
        simp [Builtin.len_, hat, run_underlying (hT.map hd), goInt, getObj, Sem.run, hh, this]
      · simp at h
    · simp at h
end
end Go.Vai

/-
  Maps.
-/
namespace Go.Vai
open Go

section
variable {E : Env} {P : Program} {β : Map} {B : Nat} {σ : St} {w : World}
/-- An object that is no row: laid anew in its block. -/
theorem putObj_ok (hR : HR E B β σ.look w) {id : Nat} {o0 : AObj} (h : σ.look id = some o0) {l : Loc} (hl : β id 0 = some l) (o : AObj) (ob : Obj) (ho : ObjR β (w.putObj l.b ob) id o) (lo hi : Nat) (hg : o0 ≠ .gone := by first | (intro e; cases e) | assumption) :
    HR E B β (upd σ.look id o) (w.putObj l.b ob) ∧ Step β β σ.look lo hi w (w.putObj l.b ob) := by
  refine hR.change id o lo hi (Sub.refl _) (fun i g x e => .inl e) (.inl ⟨_, h, hg⟩) rfl rfl rfl (by simp) ?_ ho
  intro b _ hno
  exact World.putObj_heap_other (fun e => hno 0 l hl e.symm)

theorem scEq_ok {x y : AV} {u v : Value} (h : scEq x y = true) (hu : VR β x u) (hv : VR β y v) : u = v ∧ ∀ n, Instr.sameBits n u v = true := by
  unfold scEq at h
  split at h
  · simp only [VR] at hu hv; subst hu; subst hv
    simp only [Bool.and_eq_true, decide_eq_true_eq, beq_iff_eq] at h
    obtain ⟨rfl, rfl⟩ := h
    exact ⟨rfl, fun n => by cases n <;> simp [Instr.sameBits]⟩
  · rename_i a b
    simp only [VR] at hu hv; subst hu; subst hv
    simp only [beq_iff_eq] at h
    have e : a = b := by
      cases a; cases b
      simp only [ByteArray.mk.injEq]
      exact Array.toList_inj.1 h
    subst e
    exact ⟨rfl, fun n => by cases n <;> simp [Instr.sameBits, MapKept.bytes_beq]⟩
  · simp only [VR] at hu hv; subst hu; subst hv
    simp only [beq_iff_eq] at h
    subst h
    exact ⟨rfl, fun n => by cases n <;> simp [Instr.sameBits]⟩
  · simp at h
theorem scEqs_ok : ∀ {xs ys : List AV} {us vs : List Value}, scEqs xs ys = true → VRs β xs us → VRs β ys vs → us = vs ∧ ∀ n, (us.zip vs).all (fun (x, y) => Instr.sameBits n x y) = true
  | [], [], us, vs, _, hu, hv => by simp only [VRs] at hu hv; subst hu; subst hv; exact ⟨rfl, fun _ => rfl⟩
  | x :: xs, y :: ys, us, vs, h, hu, hv => by
    simp only [scEqs, Bool.and_eq_true] at h
    simp only [VRs] at hu hv
    obtain ⟨u, us', rfl, r1, r2⟩ := hu
    obtain ⟨v, vs', rfl, q1, q2⟩ := hv
    obtain ⟨e1, s1⟩ := scEq_ok h.1 r1 q1
    obtain ⟨e2, s2⟩ := scEqs_ok h.2 r2 q2
    exact ⟨by rw [e1, e2], fun n => by simp only [List.zip_cons_cons, List.all_cons, Bool.and_eq_true]; exact ⟨s1 n, s2 n⟩⟩
  | [], _ :: _, _, _, h, _, _ => by simp [scEqs] at h
  | _ :: _, [], _, _, h, _, _ => by simp [scEqs] at h
theorem sameKey_ok {x y : AV} {u v : Value} (h : sameKeyA x y = true) (hu : VR β x u) (hv : VR β y v) : (Instr.keyThatStays u v).run P w = .ok v w := by
  have hs : Instr.sameBits 10000 u v = true := by
    unfold sameKeyA at h
    rw [Bool.or_eq_true] at h
    rcases h with h | h
    · exact (scEq_ok h hu hv).2 _
    · simp only [Bool.and_eq_true] at h
      obtain ⟨xs, rfl, rx⟩ := isAgg'_ok h.1.1 hu
      obtain ⟨ys, rfl, ry⟩ := isAgg'_ok h.1.2 hv
      obtain ⟨e, s⟩ := scEqs_ok h.2 rx ry
      have e' : xs = ys := Array.toList_inj.1 e
      subst e'
      rw [show (10000 : Nat) = 9999 + 1 from rfl]
      simp only [Instr.sameBits, beq_self_eq_true, Bool.true_and]
      exact s 9999
  simp [Instr.keyThatStays, hs]

/-! finding a key -/
def FindR (β : Map) : Option (Nat × AV) → Option (Nat × Value) → Prop
  | none, a => a = none
  | some (i, v), a => ∃ u, a = some (i, u) ∧ VR β v u
theorem asking_ok (hE : EnvOk E P) {kt : TypeId} {k : AV} {uk : Value} (hk : VR β k uk) : ∀ (es : List AEntry) (cs : List MapEntry) (i : Nat) (r : Option (Nat × AV)), findA E kt k es i = some r → EntriesR β es cs →
    ∃ a, (Instr.findAsking kt uk cs i).run P w = .ok a w ∧ FindR β r a
  | [], cs, i, r, h, hr => by
    simp only [findA, Option.some.injEq] at h; subst h
    simp only [EntriesR] at hr; subst hr
    exact ⟨none, by simp [Instr.findAsking], rfl⟩
  | e :: es, cs, i, r, h, hr => by
    obtain ⟨c, cs', rfl, ⟨hkey, hval, _⟩, hrest⟩ := hr
    simp only [findA] at h
    split at h
    · rename_i he
      simp only [Option.some.injEq] at h; subst h
      have := eqAt_ok hE 10 Op.maxDepth kt k e.key true uk c.key (by decide) he hk hkey w
      exact ⟨some (i, c.val), by simp [Instr.findAsking, Op.equal, this], _, rfl, hval⟩
    · rename_i he
      have := eqAt_ok hE 10 Op.maxDepth kt k e.key false uk c.key (by decide) he hk hkey w
      obtain ⟨a, ha, hra⟩ := asking_ok hE hk es cs' (i + 1) r h hrest
      exact ⟨a, by simp [Instr.findAsking, Op.equal, this, ha], hra⟩
    · simp at h
theorem sameNow_ok (hE : EnvOk E P) {kt : TypeId} {d : TypeDesc} (hd : P.underlying kt = some d) {k y : AV} {uk uy : Value} (hk : VR β k uk) (hy : VR β y uy) {b b' : Bool} (h : eqAt E 10 kt k y = some b)
    (h' : Instr.sameNow d uk uy = some b') (w : World) : b = b' := by
  have h0 := eqAt_ok hE 10 (9 + 1) kt k y b uk uy (by omega) h hk hy w
  unfold Instr.sameNow at h'
  split at h'
  · split at h'
    · rename_i e
      subst e
      simp only [Option.some.injEq] at h'; subst h'
      rw [run_equalIn_int w 9 kt _ _ _ _ hd] at h0
      simpa using h0.symm
    · simp at h'
  · simp only [Option.some.injEq] at h'; subst h'
    rw [run_equalIn_string w 9 kt _ _ hd, bytes_beq] at h0
    rename_i x y
    have e : (x == y) = (x.data.toList == y.data.toList) := by
      cases x; cases y
      rw [Bool.eq_iff_iff, MapKept.bytes_beq]
      simp [ByteArray.mk.injEq]
    rw [e]
    simpa using h0.symm
  · simp only [Option.some.injEq] at h'; subst h'
    rw [run_equalIn_bool w 9 kt _ _ hd] at h0
    simpa using h0.symm
  · simp at h'
theorem now_ok (hE : EnvOk E P) {kt : TypeId} {d : TypeDesc} (hd : P.underlying kt = some d) {k : AV} {uk : Value} (hk : VR β k uk) (w : World) : ∀ (es : List AEntry) (cs : List MapEntry) (i : Nat) (r : Option (Nat × AV)) (a : Option (Nat × Value)),
    findA E kt k es i = some r → EntriesR β es cs → Instr.findNow d uk cs i = some a → FindR β r a
  | [], cs, i, r, a, h, hr, ha => by
    simp only [findA, Option.some.injEq] at h; subst h
    simp only [EntriesR] at hr; subst hr
    simp only [Instr.findNow, Option.some.injEq] at ha; subst ha
    rfl
  | e :: es, cs, i, r, a, h, hr, ha => by
    obtain ⟨c, cs', rfl, ⟨hkey, hval, _⟩, hrest⟩ := hr
    simp only [findA] at h
    simp only [Instr.findNow] at ha
    split at ha
    · rename_i hs
      simp only [Option.some.injEq] at ha; subst ha
      split at h
      · simp only [Option.some.injEq] at h; subst h
        exact ⟨_, rfl, hval⟩
      · rename_i he
        have := sameNow_ok hE hd hk hkey he hs w
        simp at this
      · simp at h
    · rename_i hs
      split at h
      · rename_i he
        have := sameNow_ok hE hd hk hkey he hs w
        simp at this
      · exact now_ok hE hd hk w es cs' (i + 1) r a h hrest ha
      · simp at h
    · simp at ha
theorem find_ok (hE : EnvOk E P) {kt : TypeId} {d : TypeDesc} (hd : P.underlying kt = some d) {k : AV} {uk : Value} (hk : VR β k uk) {es : List AEntry} {cs : List MapEntry} {r : Option (Nat × AV)} (h : findA E kt k es 0 = some r) (hr : EntriesR β es cs) :
    ∃ a, (Instr.findKey kt uk cs).run P w = .ok a w ∧ FindR β r a := by
  cases ha : Instr.findNow d uk cs 0 with
  | none =>
    obtain ⟨a, h1, h2⟩ := asking_ok (w := w) hE hk es cs 0 r h hr
    exact ⟨a, by simp [Instr.findKey, run_underlying hd, ha, h1], h2⟩
  | some a => exact ⟨a, by simp [Instr.findKey, run_underlying hd, ha], now_ok hE hd hk w es cs 0 r a h hr ha⟩

/-! keys that may be asked for -/
theorem keyOk_ok (hE : EnvOk E P) (em : Bool) : ∀ (f D : Nat) (t : TypeId) (v : AV) (u : Value), f ≤ D → keyOk E f t v = true → VR β v u → (Instr.checkKey em D t u).run P w = .ok () w := by
  intro f
  induction f with
  | zero => intro D t v u _ h; simp [keyOk] at h
  | succ f ih =>
    intro D t v u hD h hu
    obtain ⟨D, rfl⟩ : ∃ D', D = D' + 1 := ⟨D - 1, by omega⟩
    simp only [keyOk] at h
    cases ht : E.ty.get t with
    | none => simp [ht] at h
    | some ty =>
      simp only [ht] at h
      have hT := hE.ty t ty ht
      have plain : (P.underlying t = some .bool ∨ (∃ k, P.underlying t = some (.int k)) ∨ P.underlying t = some .string) → (Instr.checkKey em (D + 1) t u).run P w = .ok () w := by
        intro hp
        rcases hp with hp | ⟨k, hp⟩ | hp <;> (rw [Instr.checkKey]; simp only [Sem.run_bind, run_underlying hp, Result.andThen_ok]; cases u <;> rfl)
      split at h
      · rename_i hd; exact plain (.inl (hT.bool hd))
      · rename_i hd; exact plain (.inr (.inl ⟨_, hT.int hd⟩))
      · rename_i hd; exact plain (.inr (.inr (hT.string hd)))
      · rename_i fs hd
        simp only [Bool.and_eq_true] at h
        obtain ⟨⟨h1, _⟩, h3⟩ := h
        obtain ⟨xs, rfl, rx⟩ := isAgg'_ok h1 hu
        obtain ⟨fields, hun, hfs⟩ := hT.struct hd
        rw [Instr.checkKey]
        simp only [Sem.run_bind, run_underlying hun, Result.andThen_ok]
        rw [← Array.forIn_toList]
        subst hfs
        clear hun hd hu
        generalize fields.toList = L at h3
        induction L with
        | nil => simp
        | cons fd L ihl =>
          simp only [List.map_cons, List.all_cons, Bool.and_eq_true] at h3
          obtain ⟨⟨hn, hp⟩, hrest⟩ := h3
          have hn' : fd.name ≠ "_" := by simpa using hn
          split at hp
          · rename_i x hx
            obtain ⟨ux, rux, run⟩ := part_ok hE hx rx
            have p2 := ih D fd.type x ux (by omega) hp rux
            simp only [List.forIn_cons, Sem.run_bind, hn', ne_eq, not_false_eq_true, if_true, run, Result.andThen_ok, p2, Sem.run_pure]
            exact ihl hrest
          · simp at hp
      · simp at h
end
end Go.Vai

/-
  Operations on maps.
-/
namespace Go.Vai
open Go

section
variable {E : Env} {P : Program} {β : Map} {B : Nat} {σ : St} {w : World}
theorem zeroA_ok (hE : EnvOk E P) {t : TypeId} {ty : ATy} (ht : E.ty.get t = some ty) :
    ∃ z, (∀ w, (zeroValue t).run P w = .ok z w) ∧ VR β (zeroA ty) z := by
  unfold zeroA
  have hT := hE.ty t ty ht
  cases ha : ty.agg with
  | true =>
    obtain ⟨i, hi, hz⟩ := hT.agg ha
    exact ⟨_, fun w => run_zero hi hz, by simp only [cond_true, VR]; exact ⟨_, rfl, by simpa using VRs.sc _⟩⟩
  | false =>
    obtain ⟨i, x, hi, hz, hx⟩ := hT.one ha
    exact ⟨x, fun w => run_zero hi hz, by simp [hx, VR]⟩
/-- Keys of a set of integers: equality to them is decided for one as for all. -/
theorem eqAt_int {E : Env} {kt : TypeId} {k : AV} {j : Int} {b : Bool} (h : eqAt E 10 kt k (.sc (.int .i64 j)) = some b) : ∃ a, k = .sc (.int .i64 a) ∧ ∀ i, eqAt E 10 kt k (.sc (.int .i64 i)) = some (a == i) := by
  unfold eqAt at h
  cases ht : E.ty.get kt with
  | none => rw [ht] at h; simp at h
  | some ty =>
    rw [ht] at h
    simp only at h
    cases hd : ty.d <;> rw [hd] at h <;> simp only at h
    case int kk =>
      split at h
      · rename_i k1 a k2 b2 e
        cases hk : decide (k1 = k2) with
        | false => rw [hk] at h; simp at h
        | true =>
          have hk' := of_decide_eq_true hk
          cases e
          subst hk'
          exact ⟨a, rfl, fun i => by unfold eqAt; rw [ht]; simp only [hd]; simp⟩
      · simp at h
    case struct fs =>
      have : isAgg' (.sc (.int .i64 j)) = false := rfl
      rw [this] at h
      simp at h
    all_goals first | (simp at h; done) | (split at h <;> simp_all)
theorem findA_int {E : Env} {kt : TypeId} {k : AV} {a : Int} (h : ∀ i, eqAt E 10 kt k (.sc (.int .i64 i)) = some (a == i)) : ∀ (es : List AEntry) (n : Nat), (∀ e ∈ es, ∃ j, e.key = .sc (.int .i64 j)) →
    (findA E kt k es n = some none ∧ ∀ e ∈ es, e.key ≠ .sc (.int .i64 a)) ∨ ∃ i e, e ∈ es ∧ e.key = .sc (.int .i64 a) ∧ findA E kt k es n = some (some (i, e.val))
  | [], n, _ => .inl ⟨rfl, fun _ h => by cases h⟩
  | e :: es, n, hk => by
    obtain ⟨j, hj⟩ := hk e List.mem_cons_self
    unfold findA
    rw [hj, h j]
    cases hb : (a == j) with
    | true =>
      have : a = j := by simpa using hb
      subst this
      exact .inr ⟨n, e, List.mem_cons_self, hj, rfl⟩
    | false =>
      have hne : a ≠ j := by intro e; subst e; simp at hb
      rcases findA_int h es (n + 1) (fun e he => hk e (List.mem_cons_of_mem _ he)) with ⟨h1, h2⟩ | ⟨i, e', he, hke, h1⟩
      · refine .inl ⟨h1, fun x hx => ?_⟩
        rcases List.mem_cons.1 hx with rfl | hx
        · rw [hj]; intro e; cases e; exact hne rfl
        · exact h2 x hx
      · exact .inr ⟨i, e', List.mem_cons_of_mem _ he, hke, h1⟩
/-- Looking up in a set is looking up in whatever list of its entries. -/
theorem findA_set {E : Env} {kt : TypeId} {k : AV} {es : List AEntry} {clock : Nat} {ks : List Int} (hs : SetOf es clock ks) {r : Option (Nat × AV)}
    (h : findA E kt k (ks.map fun k => { key := .sc (.int .i64 k), val := .sc (.bool true), born := 0 }) 0 = some r) : ∃ r', findA E kt k es 0 = some r' ∧ r'.map (·.2) = r.map (·.2) := by
  cases ks with
  | nil =>
    cases es with
    | nil => exact ⟨r, h, rfl⟩
    | cons e es => obtain ⟨j, hj, _⟩ := hs.key e List.mem_cons_self; cases hj
  | cons j0 ks =>
    have h0 := h
    simp only [List.map_cons, findA] at h0
    have : ∃ b, eqAt E 10 kt k (.sc (.int .i64 j0)) = some b := by
      cases hq : eqAt E 10 kt k (.sc (.int .i64 j0)) with
      | none => rw [hq] at h0; simp at h0
      | some b => exact ⟨b, rfl⟩
    obtain ⟨b, hb⟩ := this
    obtain ⟨a, _, hall⟩ := eqAt_int hb
    have keys : ∀ e ∈ es, ∃ j, e.key = .sc (.int .i64 j) := fun e he => by
      obtain ⟨j, _, hj, _⟩ := hs.key e he
      exact ⟨j, hj⟩
    have fkeys : ∀ e ∈ ((j0 :: ks).map fun k => ({ key := .sc (.int .i64 k), val := .sc (.bool true), born := 0 } : AEntry)), ∃ j, e.key = .sc (.int .i64 j) := fun e he => by
      obtain ⟨j, _, rfl⟩ := List.mem_map.1 he
      exact ⟨j, rfl⟩
    rcases findA_int hall es 0 keys with ⟨h1, h2⟩ | ⟨i, e, he, hke, h1⟩
    · rcases findA_int hall _ 0 fkeys with ⟨g1, _⟩ | ⟨i', e', he', hke', g1⟩
      · rw [g1] at h
        cases h
        exact ⟨none, h1, rfl⟩
      · obtain ⟨j, hj, rfl⟩ := List.mem_map.1 he'
        simp only [AV.sc.injEq, Value.int.injEq, true_and] at hke'
        subst hke'
        obtain ⟨e2, he2, hk2⟩ := hs.all _ hj
        exact absurd hk2 (h2 e2 he2)
    · rcases findA_int hall _ 0 fkeys with ⟨g1, g2⟩ | ⟨i', e', he', hke', g1⟩
      · obtain ⟨j, hj, hkj, _⟩ := hs.key e he
        rw [hke] at hkj
        simp only [AV.sc.injEq, Value.int.injEq, true_and] at hkj
        subst hkj
        exact absurd rfl (g2 { key := .sc (.int .i64 a), val := .sc (.bool true), born := 0 } (List.mem_map.2 ⟨a, hj, rfl⟩))
      · obtain ⟨j, hj, rfl⟩ := List.mem_map.1 he'
        rw [g1] at h
        cases h
        obtain ⟨_, _, _, hv⟩ := hs.key e he
        exact ⟨some (i, e.val), h1, by simp [hv]⟩
theorem findA_congr {E : Env} {kt : TypeId} {k : AV} : ∀ (es es' : List AEntry) (i : Nat), es.map (fun e => (e.key, e.val)) = es'.map (fun e => (e.key, e.val)) → findA E kt k es i = findA E kt k es' i
  | [], [], _, _ => rfl
  | [], _ :: _, _, h => by simp at h
  | _ :: _, [], _, h => by simp at h
  | e :: es, e' :: es', i, h => by
    simp only [List.map_cons, List.cons.injEq, Prod.mk.injEq] at h
    unfold findA
    rw [h.1.1, h.1.2, findA_congr es es' (i + 1) h.2]
theorem EntriesR.of_lists {β : Map} : ∀ (cs : List MapEntry) (ks vs : List AV), VRs β ks (cs.map (·.key)) → VRs β vs (cs.map (·.val)) →
    ∃ es, EntriesR β es cs ∧ es.map (fun e => (e.key, e.val)) = (List.zipWith (fun k v => ({ key := k, val := v, born := 0 } : AEntry)) ks vs).map (fun e => (e.key, e.val))
  | [], ks, vs, h1, h2 => by
    have := h1.length
    have : ks = [] := List.eq_nil_of_length_eq_zero (by simpa using this.symm)
    subst this
    exact ⟨[], by simp [EntriesR], by simp⟩
  | c :: cs, [], _, h1, _ => by simp [VRs] at h1
  | c :: cs, _ :: _, [], _, h2 => by simp [VRs] at h2
  | c :: cs, k :: ks, v :: vs, h1, h2 => by
    simp only [List.map_cons, VRs, List.cons.injEq] at h1 h2
    obtain ⟨_, _, ⟨rfl, rfl⟩, a1, a2⟩ := h1
    obtain ⟨_, _, ⟨rfl, rfl⟩, b1, b2⟩ := h2
    obtain ⟨es, h3, h4⟩ := EntriesR.of_lists cs ks vs a2 b2
    refine ⟨⟨k, v, c.born⟩ :: es, ?_, by simp [h4]⟩
    simp only [EntriesR]
    exact ⟨c, cs, rfl, ⟨a1, b1, rfl⟩, h3⟩
theorem lookup_ok (hE : EnvOk E P) (hR : HR E B β σ.look w) {v m k : AV} {um uk : Value} {t : TypeId} {ok : Bool} (h : aLookup E t m k ok σ = some v) (hm : VR β m um) (hk : VR β k uk) :
    Does E B P β σ σ w (Instr.lookup t um uk ok) v := by
  unfold aLookup at h
  split at h
  · rename_i _ _ _ _ kt et _ ht
    split at h
    · rename_i ety het hkey
      have hu := (hE.ty t _ ht).map rfl
      obtain ⟨z, hz, hzr⟩ := zeroA_ok (β := β) hE het
      have core : ∀ (es : List AEntry) (cs : Array MapEntry), EntriesR β es cs.toList →
          (match findA E kt k es 0 with
            | some (some (_, v)) => some (cond ok (.tuple [v, .sc (.bool true)]) v)
            | some none => some (cond ok (.tuple [zeroA ety, .sc (.bool false)]) (zeroA ety))
            | none => none) = some v →
          ((um = .map none ∧ cs = #[]) ∨ ∃ r c, um = .map (some r) ∧ w.heap[r]? = some (.map cs c)) → Does E B P β σ σ w (Instr.lookup t um uk ok) v := by
        intro es cs hr hv hc
        have hck : ∀ em, (Instr.checkKey em 10000 kt uk).run P w = .ok () w := fun em => keyOk_ok hE em 10 10000 kt k uk (by omega) hkey hk
        have hkd : ∃ d, P.underlying kt = some d := by
          cases hkt : E.ty.get kt with
          | none => simp [keyOk, hkt] at hkey
          | some kty => obtain ⟨d, hd, _⟩ := (hE.ty kt kty hkt).und; exact ⟨d, hd⟩
        obtain ⟨d, hd⟩ := hkd
        split at hv
        · rename_i i x hf
          obtain ⟨a, ha, hfr⟩ := find_ok (w := w) hE hd hk hf hr
          obtain ⟨ux, rfl, hux⟩ := hfr
          simp only [Option.some.injEq] at hv; subst hv
          refine ⟨β, cond ok (.tuple #[ux, .bool true]) ux, w, ?_, ?_, hR, Step.refl _ _ _ _⟩
          · rcases hc with ⟨rfl, rfl⟩ | ⟨r, c, rfl, hc⟩
            · cases ok <;> simp [Instr.lookup, run_underlying hu, hck, ha]
            · cases ok <;> simp [Instr.lookup, run_underlying hu, MapKept.run_getObj_map hc, hck, ha]
          · cases ok
            · exact hux
            · simp only [cond_true, VR]; exact ⟨_, rfl, VRs.cons hux (VRs.cons (by simp [VR]) VRs.nil)⟩
        · rename_i hf
          obtain ⟨a, ha, hfr⟩ := find_ok (w := w) hE hd hk hf hr
          simp only [FindR] at hfr
          subst hfr
          simp only [Option.some.injEq] at hv; subst hv
          refine ⟨β, cond ok (.tuple #[z, .bool false]) z, w, ?_, ?_, hR, Step.refl _ _ _ _⟩
          · rcases hc with ⟨rfl, rfl⟩ | ⟨r, c, rfl, hc⟩
            · cases ok <;> simp [Instr.lookup, run_underlying hu, hck, ha, hz w]
            · cases ok <;> simp [Instr.lookup, run_underlying hu, MapKept.run_getObj_map hc, hck, ha, hz w]
          · cases ok
            · exact hzr
            · simp only [cond_true, VR]; exact ⟨_, rfl, VRs.cons hzr (VRs.cons (by simp [VR]) VRs.nil)⟩
        · simp at hv
      split at h
      · rename_i es hes
        unfold entriesOf at hes
        split at hes
        · simp only [Option.some.injEq] at hes; subst hes
          simp only [VR] at hm; subst hm
          exact core [] #[] (by simp [EntriesR]) h (.inl ⟨rfl, rfl⟩)
        · rename_i id
          split at hes
          · rename_i es' clock hlook
            simp only [Option.some.injEq] at hes; subst hes
            simp only [VR] at hm
            obtain ⟨l, hl, rfl⟩ := hm
            obtain ⟨l', hl', cs, hh, hr⟩ := hR.obj id _ hlook
            rw [hl] at hl'; simp only [Option.some.injEq] at hl'; subst hl'
            exact core es' cs hr h (.inr ⟨_, clock, rfl, hh⟩)
          · rename_i ks hlook
            simp only [Option.some.injEq] at hes; subst hes
            simp only [VR] at hm
            obtain ⟨l, hl, rfl⟩ := hm
            obtain ⟨l', hl', es', clock, cs, hh, hr, hset⟩ := hR.obj id _ hlook
            rw [hl] at hl'; simp only [Option.some.injEq] at hl'; subst hl'
            refine core es' cs hr ?_ (.inr ⟨_, clock, rfl, hh⟩)
            split at h
            · rename_i i x hf
              obtain ⟨r', h1, h2⟩ := findA_set hset hf
              cases r' with
              | none => simp at h2
              | some p =>
                obtain ⟨i', x'⟩ := p
                simp only [Option.map_some, Option.some.injEq] at h2
                subst h2
                rw [h1]
                exact h
            · rename_i hf
              obtain ⟨r', h1, h2⟩ := findA_set hset hf
              cases r' with
              | none => rw [h1]; exact h
              | some p => simp at h2
            · simp at h
          · simp at hes
        · rename_i fks fvs
          simp only [Option.some.injEq] at hes; subst hes
          simp only [VR] at hm
          obtain ⟨p, rfl, r⟩ := hm
          rcases r with ⟨rfl, rfl, rfl⟩ | ⟨b, cs, clock, rfl, hgl, r1, r2⟩
          · exact core [] #[] (by simp [EntriesR]) h (.inl ⟨rfl, rfl⟩)
          · obtain ⟨es, h3, h4⟩ := EntriesR.of_lists cs.toList fks fvs (by simpa using r1) (by simpa using r2)
            refine core es cs h3 ?_ (.inr ⟨_, clock, rfl, (hR.fz b _ hgl).1⟩)
            rw [findA_congr _ _ 0 h4]
            exact h
        · simp at hes
      · simp at h
    · simp at h
  · simp at h

theorem EntriesR.push {es : List AEntry} {cs : List MapEntry} (h : EntriesR β es cs) {e : AEntry} {c : MapEntry} (h' : EntryR β e c) : EntriesR β (es ++ [e]) (cs ++ [c]) := by
  induction es generalizing cs with
  | nil => simp only [EntriesR] at h; subst h; exact ⟨c, [], rfl, h', rfl⟩
  | cons x es ih =>
    obtain ⟨d, cs', rfl, r1, r2⟩ := h
    exact ⟨d, cs' ++ [c], rfl, r1, ih r2⟩
theorem EntriesR.modify {es : List AEntry} {cs : List MapEntry} (h : EntriesR β es cs) (i : Nat) {f : AEntry → AEntry} {g : MapEntry → MapEntry} (hfg : ∀ e c, EntryR β e c → EntryR β (f e) (g c)) :
    EntriesR β (es.modify i f) (cs.modify i g) := by
  induction es generalizing cs i with
  | nil => simp only [EntriesR] at h; subst h; cases i <;> simp [EntriesR]
  | cons x es ih =>
    obtain ⟨d, cs', rfl, r1, r2⟩ := h
    cases i with
    | zero => exact ⟨_, _, by simp, hfg _ _ r1, r2⟩
    | succ i => exact ⟨_, _, by simp, r1, ih r2 i⟩
theorem EntriesR.eraseIdx {es : List AEntry} {cs : List MapEntry} (h : EntriesR β es cs) (i : Nat) : EntriesR β (es.eraseIdx i) (cs.eraseIdx i) := by
  induction es generalizing cs i with
  | nil => simp only [EntriesR] at h; subst h; cases i <;> simp [EntriesR]
  | cons x es ih =>
    obtain ⟨d, cs', rfl, r1, r2⟩ := h
    cases i with
    | zero => simpa using r2
    | succ i => exact ⟨_, _, by simp, r1, ih r2 i⟩
theorem EntriesR.get {es : List AEntry} {cs : List MapEntry} (h : EntriesR β es cs) {i : Nat} {e : AEntry} (he : es[i]? = some e) : ∃ c, cs[i]? = some c ∧ EntryR β e c := by
  induction es generalizing cs i with
  | nil => simp at he
  | cons x es ih =>
    obtain ⟨d, cs', rfl, r1, r2⟩ := h
    cases i with
    | zero => simp at he; subst he; exact ⟨d, rfl, r1⟩
    | succ i => simpa using ih r2 (by simpa using he)
theorem find_get (E : Env) (kt : TypeId) (k : AV) : ∀ (es : List AEntry) (i j : Nat) (v : AV), findA E kt k es i = some (some (j, v)) → i ≤ j ∧ ∃ e, es[j - i]? = some e ∧ e.val = v
  | [], i, j, v, h => by simp [findA] at h
  | e :: es, i, j, v, h => by
    simp only [findA] at h
    split at h
    · simp only [Option.some.injEq, Prod.mk.injEq] at h
      obtain ⟨rfl, rfl⟩ := h
      exact ⟨Nat.le_refl _, e, by simp, rfl⟩
    · obtain ⟨a, e', b, c⟩ := find_get E kt k es (i + 1) j v h
      refine ⟨by omega, e', ?_, c⟩
      have : j - i = (j - (i + 1)) + 1 := by omega
      rw [this, List.getElem?_cons_succ]
      exact b
    · simp at h

theorem update_ok (hE : EnvOk E P) (hR : HR E B β σ.look w) {r m k v : AV} {um uk uv : Value} {t : TypeId} {σ' : St} (h : aUpdate E t m k v σ = some (r, σ')) (hm : VR β m um) (hk : VR β k uk) (hv : VR β v uv) :
    r = .sc undef ∧ ∃ w', (Instr.mapUpdate t um uk uv).run P w = .ok () w' ∧ HR E B β σ'.look w' ∧ Step β β σ.look σ.next σ'.next w w' := by
  unfold aUpdate at h
  split at h
  · rename_i _ _ _ _ kt et _ id ht
    split at h
    · rename_i es clock hlook hkey
      have hu := (hE.ty t _ ht).map rfl
      simp only [VR] at hm
      obtain ⟨l, hl, rfl⟩ := hm
      obtain ⟨l', hl', cs, hh, hr⟩ := hR.obj id _ hlook
      rw [hl] at hl'; simp only [Option.some.injEq] at hl'; subst hl'
      have hlt : l.b < w.heap.size := (hR.own id _ 0 l hlook hl).2
      have hck : ∀ em, (Instr.checkKey em 10000 kt uk).run P w = .ok () w := fun em => keyOk_ok hE em 10 10000 kt k uk (by omega) hkey hk
      have hkd : ∃ d, P.underlying kt = some d := by
        cases hkt : E.ty.get kt with
        | none => simp [keyOk, hkt] at hkey
        | some kty => obtain ⟨d, hd, _⟩ := (hE.ty kt kty hkt).und; exact ⟨d, hd⟩
      obtain ⟨d, hd⟩ := hkd
      split at h
      · rename_i i x hf
        split at h
        · rename_i e he
          obtain ⟨h1, h2⟩ := condT h
          simp only [Option.some.injEq, Prod.mk.injEq] at h2
          obtain ⟨rfl, rfl⟩ := h2
          obtain ⟨a, ha, hfr⟩ := find_ok (w := w) hE hd hk hf hr
          obtain ⟨ux, rfl, hux⟩ := hfr
          obtain ⟨c, hc, hce⟩ := hr.get he
          have hc' : cs[i]? = some c := by simpa using hc
          have hst := sameKey_ok (P := P) (w := w) h1 hce.1 hk
          have hP := putObj_ok hR hlook hl (.map (es.modify i fun e => { e with key := k, val := v }) clock) (.map (cs.modify i fun e => { e with key := uk, val := uv }) clock)
            ⟨l, hl, _, World.putObj_heap_same hlt, by rw [Array.toList_modify]; exact hr.modify i fun e c hec => ⟨hk, hv, hec.2.2⟩⟩ σ.next σ.next
          refine ⟨rfl, _, ?_, by rw [look_put _ (look_some hlook).1]; exact hP.1, hP.2⟩
          simp [Instr.mapUpdate, run_underlying hu, MapKept.run_getObj_map hh, hck, ha, hc', hst, MapKept.run_setObj_map _ hh, World.putObj]
        · simp at h
      · rename_i hf
        simp only [Option.some.injEq, Prod.mk.injEq] at h
        obtain ⟨rfl, rfl⟩ := h
        obtain ⟨a, ha, hfr⟩ := find_ok (w := w) hE hd hk hf hr
        simp only [FindR] at hfr
        subst hfr
        have hP := putObj_ok hR hlook hl (.map (es ++ [{ key := k, val := v, born := clock }]) (clock + 1)) (.map (cs.push { key := uk, val := uv, born := clock }) (clock + 1))
          ⟨l, hl, _, World.putObj_heap_same hlt, by rw [Array.toList_push]; exact hr.push ⟨hk, hv, rfl⟩⟩ σ.next σ.next
        refine ⟨rfl, _, ?_, by rw [look_put _ (look_some hlook).1]; exact hP.1, hP.2⟩
        simp [Instr.mapUpdate, run_underlying hu, MapKept.run_getObj_map hh, hck, ha, MapKept.run_setObj_map _ hh, World.putObj]
      · simp at h
    · simp at h
  · simp at h

theorem delete_ok (hE : EnvOk E P) (hR : HR E B β σ.look w) {r m k : AV} {um uk : Value} {t : TypeId} {σ' : St} {ats : Array TypeId} (h : aDelete E t m k σ = some (r, σ')) (hm : VR β m um) (hk : VR β k uk) (hat : ats[0]? = some t) (ty : TypeId) :
    Does E B P β σ σ' w (Builtin.delete_ ats ty #[um, uk]) (.tuple []) := by
  unfold aDelete at h
  split at h
  · rename_i _ _ _ _ kt et _ id ht
    split at h
    · rename_i es clock hlook hkey
      have hu := (hE.ty t _ ht).map rfl
      simp only [VR] at hm
      obtain ⟨l, hl, rfl⟩ := hm
      obtain ⟨l', hl', cs, hh, hr⟩ := hR.obj id _ hlook
      rw [hl] at hl'; simp only [Option.some.injEq] at hl'; subst hl'
      have hlt : l.b < w.heap.size := (hR.own id _ 0 l hlook hl).2
      have hck : ∀ em, (Instr.checkKey em 10000 kt uk).run P w = .ok () w := fun em => keyOk_ok hE em 10 10000 kt k uk (by omega) hkey hk
      have hkd : ∃ d, P.underlying kt = some d := by
        cases hkt : E.ty.get kt with
        | none => simp [keyOk, hkt] at hkey
        | some kty => obtain ⟨d, hd, _⟩ := (hE.ty kt kty hkt).und; exact ⟨d, hd⟩
      obtain ⟨d, hd⟩ := hkd
      split at h
      · rename_i i x hf
        simp only [Option.some.injEq, Prod.mk.injEq] at h
        obtain ⟨rfl, rfl⟩ := h
        obtain ⟨a, ha, hfr⟩ := find_ok (w := w) hE hd hk hf hr
        obtain ⟨ux, rfl, hux⟩ := hfr
        have htl : (cs.eraseIdxIfInBounds i).toList = cs.toList.eraseIdx i := by
          unfold Array.eraseIdxIfInBounds
          split
          · simp
          · rename_i hge
            rw [List.eraseIdx_of_length_le (by simpa using hge)]
        have hP := putObj_ok hR hlook hl (.map (es.eraseIdx i) clock) (.map (cs.eraseIdxIfInBounds i) clock)
          ⟨l, hl, _, World.putObj_heap_same hlt, by rw [htl]; exact hr.eraseIdx i⟩ σ.next σ.next
        refine ⟨β, .tuple #[], _, ?_, by simp [VR, VRs], by rw [look_put _ (look_some hlook).1]; exact hP.1, hP.2⟩
        simp [Builtin.delete_, hat, run_underlying hu, MapKept.run_getObj_map hh, hck, ha, MapKept.run_setObj_map _ hh, World.putObj]
      · rename_i hf
        simp only [Option.some.injEq, Prod.mk.injEq] at h
        obtain ⟨rfl, rfl⟩ := h
        obtain ⟨a, ha, hfr⟩ := find_ok (w := w) hE hd hk hf hr
        simp only [FindR] at hfr
        subst hfr
        have hP := putObj_ok hR hlook hl (.map es clock) (.map cs clock) ⟨l, hl, _, World.putObj_heap_same hlt, hr⟩ σ.next σ.next
        have hsame : upd σ.look id (.map es clock) = σ.look := by
          funext j; unfold upd
          split
          · rename_i e; subst e; exact hlook.symm
          · rfl
        rw [hsame] at hP
        refine ⟨β, .tuple #[], _, ?_, by simp [VR, VRs], hP.1, hP.2⟩
        simp [Builtin.delete_, hat, run_underlying hu, MapKept.run_getObj_map hh, hck, ha, MapKept.run_setObj_map _ hh, World.putObj]
      · simp at h
    · simp at h
  · simp at h
end
end Go.Vai

/-
  Ranges over maps, step by forced step; new maps.
-/
namespace Go.Vai
open Go

section
variable {E : Env} {P : Program} {β : Map} {B : Nat} {σ : St} {w : World}
theorem makeMap_ok (hR : HR E B β σ.look w) (hW : WF σ) (hF : Fresh β σ.next (σ.next + 1)) (t : TypeId) : Does E B P β σ (σ.new (.map [] 0)) w (Instr.makeMap t none) (.map σ.next) := by
  have := new_ok hR hW hF (.map [] 0) (.map #[] 0) (w.alloc (.map #[] 0)) rfl rfl rfl rfl ⟨w.heap.size, 0, 0, 0⟩ rfl
    ⟨_, put1_same _ _ _ _, #[], (MapKept.heap_alloc w _).1, by simp [EntriesR]⟩
  refine ⟨_, .map (some w.heap.size), _, ?_, ?_, this.1, this.2⟩
  · simp [Instr.makeMap]
  · simp only [VR]; exact ⟨_, put1_same _ _ _ _, rfl⟩
theorem range_ok (hE : EnvOk E P) (hR : HR E B β σ.look w) (hW : WF σ) {v x : AV} {ux : Value} {t : TypeId} {σ' : St} (h : aRange E t x σ = some (v, σ')) (hF : Fresh β σ.next σ'.next) (hx : VR β x ux) :
    Does E B P β σ σ' w (Instr.range t ux) v := by
  unfold aRange at h
  split at h
  · rename_i _ _ _ _ kt et _ ht
    have hu := (hE.ty t _ ht).map rfl
    split at h
    · simp only [Option.some.injEq, Prod.mk.injEq] at h
      obtain ⟨rfl, rfl⟩ := h
      simp only [VR] at hx; subst hx
      have := new_ok hR hW hF (.iter none 0 [] 0) (.mapIter none 0 #[] 0) (w.alloc (.mapIter none 0 #[] 0)) rfl rfl rfl rfl ⟨w.heap.size, 0, 0, 0⟩ rfl
        ⟨_, put1_same _ _ _ _, rfl, none, (MapKept.heap_alloc w _).1, rfl⟩
      refine ⟨_, .pointer (some ⟨w.heap.size, 0, none⟩), _, ?_, ?_, this.1, this.2⟩
      · simp [Instr.range, run_underlying hu]
      · simp only [VR]; exact ⟨_, put1_same _ _ _ _, by simp, by simp, rfl⟩
    · rename_i id
      split at h
      · rename_i es clock hlook
        simp only [Option.some.injEq, Prod.mk.injEq] at h
        obtain ⟨rfl, rfl⟩ := h
        simp only [VR] at hx
        obtain ⟨l, hl, rfl⟩ := hx
        obtain ⟨l', hl', cs, hh, hr⟩ := hR.obj id _ hlook
        rw [hl] at hl'; simp only [Option.some.injEq] at hl'; subst hl'
        have hnone : β σ.next 0 = none := hF σ.next 0 (Nat.le_refl _) (Nat.lt_succ_self _)
        have := new_ok hR hW hF (.iter (some id) clock [] clock) (.mapIter (some l.b) clock #[] clock) (w.alloc (.mapIter (some l.b) clock #[] clock)) rfl rfl rfl rfl ⟨w.heap.size, 0, 0, 0⟩ rfl
          ⟨_, put1_same _ _ _ _, rfl, some l.b, (MapKept.heap_alloc w _).1, l, put1_sub hnone _ _ _ hl, rfl⟩
        refine ⟨_, .pointer (some ⟨w.heap.size, 0, none⟩), _, ?_, ?_, this.1, this.2⟩
        · simp [Instr.range, run_underlying hu, MapKept.run_getObj_map hh]
        · simp only [VR]; exact ⟨_, put1_same _ _ _ _, by simp, by simp, rfl⟩
      · simp at h
    · simp at h
  · simp at h

theorem EntriesR.filter {es : List AEntry} {cs : List MapEntry} (h : EntriesR β es cs) {p : AEntry → Bool} {q : MapEntry → Bool} (hpq : ∀ e c, EntryR β e c → p e = q c) : EntriesR β (es.filter p) (cs.filter q) := by
  induction es generalizing cs with
  | nil => simp only [EntriesR] at h; subst h; simp [EntriesR]
  | cons x es ih =>
    obtain ⟨d, cs', rfl, r1, r2⟩ := h
    simp only [List.filter_cons, hpq _ _ r1]
    split
    · exact ⟨d, _, rfl, r1, ih r2⟩
    · exact ih r2
theorem EntriesR.all {es : List AEntry} {cs : List MapEntry} (h : EntriesR β es cs) {p : AEntry → Bool} {q : MapEntry → Bool} (hpq : ∀ e c, EntryR β e c → p e = q c) : es.all p = cs.all q := by
  induction es generalizing cs with
  | nil => simp only [EntriesR] at h; subst h; rfl
  | cons x es ih =>
    obtain ⟨d, cs', rfl, r1, r2⟩ := h
    simp only [List.all_cons, hpq _ _ r1, ih r2]
theorem EntriesR.find {es : List AEntry} {cs : List MapEntry} (h : EntriesR β es cs) {p : AEntry → Bool} {q : MapEntry → Bool} (hpq : ∀ e c, EntryR β e c → p e = q c) {e : AEntry} (he : es.find? p = some e) :
    ∃ c, cs.find? q = some c ∧ EntryR β e c := by
  induction es generalizing cs with
  | nil => simp at he
  | cons x es ih =>
    obtain ⟨d, cs', rfl, r1, r2⟩ := h
    simp only [List.find?_cons, hpq _ _ r1] at he ⊢
    split at he
    · simp only [Option.some.injEq] at he; subst he
      rename_i hq
      exact ⟨d, by simp, r1⟩
    · rename_i hq
      simpa [hq] using ih r2 he

theorem next_ok (hR : HR E B β σ.look w) {v it : AV} {ui : Value} {σ' : St} (h : aNext it σ = some (v, σ')) (hi : VR β it ui) (ty : TypeId) : Does E B P β σ σ' w (Instr.next ui false ty) v := by
  unfold aNext at h
  split at h
  · rename_i r
    simp only [VR] at hi
    obtain ⟨l, hl, _, _, rfl⟩ := hi
    split at h
    · rename_i since seen last hlook
      simp only [Option.some.injEq, Prod.mk.injEq] at h
      obtain ⟨rfl, rfl⟩ := h
      obtain ⟨l', hl', hs0, mc, hh, hmc⟩ := hR.obj r _ hlook
      rw [hl] at hl'; simp only [Option.some.injEq] at hl'; subst hl'
      simp only at hmc
      subst hmc
      refine ⟨β, .tuple #[.bool false], w, ?_, ?_, hR, Step.refl _ _ _ _⟩
      · simp [Instr.next, hs0, getObj, Sem.run, hh]
      · simp only [VR]; exact ⟨_, rfl, VRs.cons (by simp [VR]) VRs.nil⟩
    · rename_i m since seen last hlook
      obtain ⟨l', hl', hs0, mc, hh, lm, hlm, hmc⟩ := hR.obj r _ hlook
      rw [hl] at hl'; simp only [Option.some.injEq] at hl'; subst hl'
      subst hmc
      split at h
      · rename_i es clock hmap
        obtain ⟨lm', hlm', cs, hhm, hr⟩ := hR.obj m _ hmap
        rw [hlm] at hlm'; simp only [Option.some.injEq] at hlm'; subst hlm'
        cases hgone : (!seen.isEmpty && !es.isEmpty && es.all fun e => Nat.ble last e.born) with
        | true => rw [hgone] at h; simp at h
        | false =>
          rw [hgone] at h
          simp only [cond_false] at h
          have hlen := hr.length
          have hgone' : (!seen.toArray.isEmpty && !cs.isEmpty && cs.all (·.born ≥ last)) = false := by
            rw [← hgone]
            have h1 : seen.toArray.isEmpty = seen.isEmpty := by cases seen <;> simp
            have h2 : cs.isEmpty = es.isEmpty := by
              rw [← Array.isEmpty_toList]
              cases es with
              | nil => simp at hlen; simp [hlen]
              | cons e es => cases hcl : cs.toList with
                | nil => rw [hcl] at hlen; simp at hlen
                | cons => simp
            have h3 : cs.all (·.born ≥ last) = es.all fun e => Nat.ble last e.born := by
              rw [← Array.all_toList]
              refine (hr.all fun e c hec => ?_).symm
              rw [hec.2.2, Bool.eq_iff_iff]
              simp
            rw [h1, h2, h3]
          have hfil : EntriesR β (es.filter fun e => !(seen.contains e.born)) (cs.filter fun e => !seen.toArray.contains e.born).toList := by
            rw [Array.toList_filter]
            refine hr.filter fun e c hec => ?_
            rw [hec.2.2]
            simp
          have hgetr : (getObj l.b).run P w = .ok (.mapIter (some lm.b) since seen.toArray last) w := by simp [getObj, Sem.run, hh]
          have hgetm : (getObj lm.b).run P w = .ok (.map cs clock) w := MapKept.run_getObj_map hhm
          split at h
          · rename_i he
            simp only [Option.some.injEq, Prod.mk.injEq] at h
            obtain ⟨rfl, rfl⟩ := h
            rw [he] at hfil
            simp only [EntriesR] at hfil
            have hleft : (cs.filter fun e => !seen.toArray.contains e.born) = #[] := Array.toList_inj.1 (by simpa using hfil)
            refine ⟨β, .tuple #[.bool false], w, ?_, ?_, hR, Step.refl _ _ _ _⟩
            · simp only [Instr.next, hs0, Nat.add_zero, Sem.run_bind, hgetr, Result.andThen_ok, hgetm, hgone', Bool.false_eq_true, if_false, hleft]
              simp [Question.forced]
            · simp only [VR]; exact ⟨_, rfl, VRs.cons (by simp [VR]) VRs.nil⟩
          · rename_i e he
            obtain ⟨h1, h2⟩ := condT h
            replace h1 := bltT h1
            simp only [Option.some.injEq, Prod.mk.injEq] at h2
            obtain ⟨rfl, rfl⟩ := h2
            rw [he] at hfil
            obtain ⟨c, cs', hc, hec, hcs'⟩ := hfil
            simp only [EntriesR] at hcs'; subst hcs'
            have hleft : (cs.filter fun e => !seen.toArray.contains e.born) = #[c] := Array.toList_inj.1 (by simpa using hc)
            have hb : c.born < since := by rw [hec.2.2]; exact h1
            have hb' : ¬ (since ≤ c.born) := by omega
            have hP := putObj_ok hR hlook hl (.iter (some m) since (seen ++ [e.born]) clock) (.mapIter (some lm.b) since (seen.toArray.push c.born) clock)
              ⟨l, hl, hs0, some lm.b, by rw [World.putObj_heap_same (hR.own r _ 0 l hlook hl).2, hec.2.2]; simp, lm, hlm, rfl⟩ σ.next σ.next
            refine ⟨β, .tuple #[.bool true, c.key, c.val], _, ?_, ?_, by rw [look_put _ (look_some hlook).1]; exact hP.1, hP.2⟩
            · simp only [Instr.next, hs0, Nat.add_zero, Sem.run_bind, hgetr, Result.andThen_ok, hgetm, hgone', Bool.false_eq_true, if_false, hleft]
              simp [Question.forced, hb, hb', setObj, Sem.run, hh, World.putObj]
            · simp only [VR]; exact ⟨_, rfl, VRs.cons (by simp [VR]) (VRs.cons hec.1 (VRs.cons hec.2.1 VRs.nil))⟩
          · simp at h
      · simp at h
    · simp at h
  · simp at h

theorem entry_ok (hR : HR E B β σ.look w) {v it : AV} {ui : Value} (h : aEntry it σ = some v) (hi : VR β it ui) : Does E B P β σ σ w (Instr.entry ui) v := by
  unfold aEntry at h
  split at h
  · rename_i r
    simp only [VR] at hi
    obtain ⟨l, hl, _, _, rfl⟩ := hi
    split at h
    · rename_i m since seen stepped hlook
      obtain ⟨l', hl', hs0, mc, hh, lm, hlm, hmc⟩ := hR.obj r _ hlook
      rw [hl] at hl'; simp only [Option.some.injEq] at hl'; subst hl'
      subst hmc
      split at h
      · rename_i stamp es clock hst hmap
        obtain ⟨lm', hlm', cs, hhm, hr⟩ := hR.obj m _ hmap
        rw [hlm] at hlm'; simp only [Option.some.injEq] at hlm'; subst hlm'
        obtain ⟨h1, h2⟩ := condT h
        replace h1 := beqT h1
        subst h1
        simp only [Option.map_eq_some_iff] at h2
        obtain ⟨e, he, rfl⟩ := h2
        obtain ⟨c, hc, hec⟩ := hr.find (q := fun e => e.born == stamp) (fun e c hec => by rw [hec.2.2, Bool.eq_iff_iff]; simp) he
        have hc' : cs.find? (fun e => e.born == stamp) = some c := by rw [← Array.find?_toList]; exact hc
        have hback : seen.toArray.back? = some stamp := by simpa using hst
        have hgetr : (getObj l.b).run P w = .ok (.mapIter (some lm.b) since seen.toArray clock) w := by simp [getObj, Sem.run, hh]
        have hgetm : (getObj lm.b).run P w = .ok (.map cs clock) w := MapKept.run_getObj_map hhm
        refine ⟨β, .tuple #[c.key, c.val], w, ?_, ?_, hR, Step.refl _ _ _ _⟩
        · simp only [Instr.entry, hs0, Nat.add_zero, Sem.run_bind, hgetr, Result.andThen_ok, hback, hgetm, bne_self_eq_false, Bool.false_eq_true, if_false, hc', Sem.run_pure]
        · simp only [VR]; exact ⟨_, rfl, VRs.cons hec.1 (VRs.cons hec.2.1 VRs.nil)⟩
      · simp at h
    · simp at h
  · simp at h
end
end Go.Vai

/-
  One operation: the abstract machine against the model.
-/
namespace Go.Vai
open Go

/-- What the model's operation comes to, against the abstract one's outcome. -/
def OpRes (E : Env) (B : Nat) (P : Program) (β : Map) (σ σ' : St) (w : World) (s : Sem Next) : ANext → Prop
  | .value v => ∃ β' u w', (s.run P w = .ok (.value u) w' ∨ (u = undef ∧ s.run P w = .ok .skip w')) ∧ VR β' v u ∧ HR E B β' σ'.look w' ∧ Step β β' σ.look σ.next σ'.next w w'
  | .enter f args => σ' = σ ∧ ∃ us, VRs β args us ∧ ∀ fn, E.fn.get f = some fn → fn.body ≠ none → s.run P w = .ok (.enter f us.toArray) w
  | .round l args => σ' = σ ∧ ∃ lc us, β l 0 = some lc ∧ VRs β args us ∧ s.run P w = (Instr.yield lc.b us.toArray).run P w

section
variable {E : Env} {P : Program} {β : Map} {B : Nat} {σ σ' : St} {w : World}
theorem Does.res {s : Sem Value} {v : AV} (h : Does E B P β σ σ' w s v) : OpRes E B P β σ σ' w (do pure (.value (← s))) (.value v) := by
  obtain ⟨β', u, w', h1, h2, h3, h4⟩ := h
  exact ⟨β', u, w', .inl (by simp [h1]), h2, h3, h4⟩
theorem Pure1.res {s : Sem Value} {v : AV} (h : Pure1 P s β v) (hR : HR E B β σ.look w) : OpRes E B P β σ σ w (do pure (.value (← s))) (.value v) := (h.does hR).res
theorem unit_res {s : Sem Unit} {v : AV} (h : v = .sc undef ∧ ∃ w', s.run P w = .ok () w' ∧ HR E B β σ'.look w' ∧ Step β β σ.look σ.next σ'.next w w') :
    OpRes E B P β σ σ' w (do s; pure .skip) (.value v) := by
  obtain ⟨rfl, w', h1, h2, h3⟩ := h
  exact ⟨β, undef, w', .inr ⟨rfl, by simp [h1]⟩, by simp [VR], h2, h3⟩
theorem vals_some {r : Option AV} {nx : ANext} (h : vals r σ = some (nx, σ')) : ∃ v, r = some v ∧ nx = .value v ∧ σ' = σ := by
  unfold vals at h
  simp only [Option.map_eq_some_iff, Prod.mk.injEq] at h
  obtain ⟨v, hv, rfl, rfl⟩ := h
  exact ⟨v, hv, rfl, rfl⟩
theorem valr_some {r : R} {nx : ANext} (h : valr r = some (nx, σ')) : ∃ v, r = some (v, σ') ∧ nx = .value v := by
  unfold valr at h
  simp only [Option.map_eq_some_iff, Prod.mk.injEq] at h
  obtain ⟨⟨v, σ1⟩, hv, rfl, rfl⟩ := h
  exact ⟨v, hv, rfl⟩
theorem max2_ok {big : Bool} {x y v : AV} {ux uy : Value} (h : max2A big x y = some v) (hx : VR β x ux) (hy : VR β y uy) :
    ∃ u, VR β v u ∧ ((cond big Builtin.max2 Builtin.min2) ux uy).run P w = .ok u w := by
  unfold max2A at h
  split at h
  · rename_i k a k' b
    simp only [Option.some.injEq] at h; subst h
    simp only [VR] at hx hy; subst hx; subst hy
    refine ⟨.int k (cond big (cond (decide (b > a)) b a) (cond (decide (b < a)) b a)), by simp only [VR], ?_⟩
    cases big
    · simp only [cond_false, Builtin.min2, Sem.run_pure]
      by_cases c : b < a <;> simp [c]
    · simp only [cond_true, Builtin.max2, Sem.run_pure]
      by_cases c : a < b <;> simp [c]
  · simp at h
theorem foldM2_ok {big : Bool} : ∀ (l : List AV) (ul : List Value) (x v : AV) (ux : Value), foldM2 (max2A big) x l = some v → VR β x ux → VRs β l ul →
    ∃ u, VR β v u ∧ (ul.foldlM (cond big Builtin.max2 Builtin.min2) ux).run P w = .ok u w
  | [], ul, x, v, ux, h, hx, hl => by
    simp only [foldM2, Option.some.injEq] at h; subst h
    simp only [VRs] at hl; subst hl
    exact ⟨ux, hx, by simp⟩
  | y :: l, ul, x, v, ux, h, hx, hl => by
    simp only [VRs] at hl
    obtain ⟨uy, ul', rfl, hy, hl'⟩ := hl
    simp only [foldM2] at h
    split at h
    · rename_i z hz
      obtain ⟨uz, hvz, hrun⟩ := max2_ok (P := P) (w := w) hz hx hy
      obtain ⟨u, hv, hr⟩ := foldM2_ok l ul' z v uz h hvz hl'
      exact ⟨u, hv, by simp [List.foldlM_cons, hrun, hr]⟩
    · simp at h
theorem arr2 {α : Type} {a : Array α} {x y : α} (h : a.toList = [x, y]) : a = #[x, y] := by
  cases a; simp at h; subst h; rfl
theorem arr1 {α : Type} {a : Array α} {x : α} (h : a.toList = [x]) : a = #[x] := by
  cases a; simp at h; subst h; rfl
theorem VRs.two {x y : AV} {us : List Value} (h : VRs β [x, y] us) : ∃ ux uy, us = [ux, uy] ∧ VR β x ux ∧ VR β y uy := by
  simp only [VRs] at h
  obtain ⟨ux, _, rfl, hx, uy, _, rfl, hy, rfl⟩ := h
  exact ⟨ux, uy, rfl, hx, hy⟩
theorem VRs.one {x : AV} {us : List Value} (h : VRs β [x] us) : ∃ ux, us = [ux] ∧ VR β x ux := by
  simp only [VRs] at h
  obtain ⟨ux, _, rfl, hx, rfl⟩ := h
  exact ⟨ux, rfl, hx⟩
theorem ats_get {ats : Array TypeId} {t : TypeId} {l : List TypeId} (h : ats.toList = t :: l) : ats[0]? = some t := by
  rw [← Array.getElem?_toList, h]; rfl

theorem builtin_ok (hE : EnvOk E P) (hR : HR E B β σ.look w) (hW : WF σ) {b : Builtin} {ats : Array TypeId} {args : List AV} {uargs : Array Value} {nx : ANext} (h : aBuiltin E b ats.toList args σ = some (nx, σ')) (hF : Fresh β σ.next σ'.next)
    (hargs : VRs β args uargs.toList) (ty : TypeId) (cs : Array Bool) : OpRes E B P β σ σ' w (builtin b ats ty cs uargs) nx := by
  unfold aBuiltin at h
  split at h
  · rename_i t rest x hats
    obtain ⟨v, hv, rfl, rfl⟩ := vals_some h
    obtain ⟨ux, hux, hx⟩ := hargs.one
    rw [arr1 hux]
    exact (len_ok hE hR hv hx (ats_get hats) ty).res
  · rename_i t t2 s x hats
    obtain ⟨v, hv, rfl⟩ := valr_some h
    obtain ⟨us, ux, hu, hs, hx⟩ := hargs.two
    rw [arr2 hu, arr2 hats]
    exact (append_ok hE hR hW hv hF hs hx ty).res
  · rename_i t rest hats
    split at h
    · rename_i e _ ht
      simp only [Option.some.injEq, Prod.mk.injEq] at h
      obtain ⟨rfl, rfl⟩ := h
      obtain ⟨ux, hux, hx⟩ := hargs.one
      rw [arr1 hux]
      simp only [VR] at hx; subst hx
      have : Does E B P β σ σ w (Builtin.cap_ ats ty #[.slice none 0 0]) (.sc (.int .i64 0)) :=
        ⟨β, .int .i64 0, w, by simp [Builtin.cap_, ats_get hats, run_underlying ((hE.ty t _ ht).slice rfl), goInt], by simp [VR], hR, Step.refl _ _ _ _⟩
      exact this.res
    · simp at h
  · rename_i t rest d x hats
    obtain ⟨v, hv, rfl⟩ := valr_some h
    obtain ⟨us, ux, hu, hs, hx⟩ := hargs.two
    rw [arr2 hu]
    exact (copy_ok hE hR hv hs hx (ats_get hats) ty).res
  · rename_i t rest x hats
    obtain ⟨v, hv, rfl⟩ := valr_some h
    obtain ⟨ux, hux, hx⟩ := hargs.one
    rw [arr1 hux]
    exact (clear_ok hE hR hv hx (ats_get hats) ty).res
  · rename_i t rest m k hats
    obtain ⟨v, hv, rfl⟩ := valr_some h
    simp only [Option.map_eq_some_iff, Prod.mk.injEq] at hv
    obtain ⟨⟨v1, σ1⟩, hv1, rfl, rfl⟩ := hv
    obtain ⟨um, uk, hu, hm, hk⟩ := hargs.two
    rw [arr2 hu]
    exact (delete_ok hE hR hv1 hm hk (ats_get hats) ty).res
  · rename_i x l
    obtain ⟨v, hv, rfl, rfl⟩ := vals_some h
    have hargs' := hargs
    simp only [VRs] at hargs'
    obtain ⟨ux, ul, hu, hx, hl⟩ := hargs'
    obtain ⟨u, hvu, hrun⟩ := foldM2_ok (P := P) (w := w) l ul x v ux hv hx hl
    have : Does E B P β _ _ w (Builtin.max_ ats ty uargs) v := ⟨β, u, w, by simp only [Builtin.max_, hu]; exact hrun, hvu, hR, Step.refl _ _ _ _⟩
    exact this.res
  · rename_i x l
    obtain ⟨v, hv, rfl, rfl⟩ := vals_some h
    have hargs' := hargs
    simp only [VRs] at hargs'
    obtain ⟨ux, ul, hu, hx, hl⟩ := hargs'
    obtain ⟨u, hvu, hrun⟩ := foldM2_ok (P := P) (w := w) l ul x v ux hv hx hl
    have : Does E B P β _ _ w (Builtin.min_ ats ty uargs) v := ⟨β, u, w, by simp only [Builtin.min_, hu]; exact hrun, hvu, hR, Step.refl _ _ _ _⟩
    exact this.res
  · simp at h
end
end Go.Vai

/-
  One operation: the abstract machine against the model, all kinds.
-/
namespace Go.Vai
open Go

section
variable {E : Env} {P : Program} {β : Map} {B : Nat} {σ σ' : St} {w : World}
theorem OpRes.congr {s s' : Sem Next} {nx : ANext} (e : s'.run P w = s.run P w) (h : OpRes E B P β σ σ' w s nx) : OpRes E B P β σ σ' w s' nx := by
  cases nx with
  | value v => simp only [OpRes, e] at h ⊢; exact h
  | enter f args => simp only [OpRes, e] at h ⊢; exact h
  | round l args => simp only [OpRes, e] at h ⊢; exact h
theorem ev_ok {τ : Tm} {a : Act} (h : TmpR β τ.t τ.n a.tmps) (o : Operand) : VR β (ev τ o) (a.eval o) := by
  cases o with
  | tmp t =>
    simp only [ev, Tm.get, Act.eval]
    rcases Nat.lt_or_ge t τ.n with hlt | hge
    · exact h.2.2 t hlt
    · rw [h.2.1 t hge]
      have : a.tmps.getD t undef = undef := by
        have hs := h.1
        rw [Array.getD_eq_getD_getElem?, Array.getElem?_eq_none (by omega)]
        rfl
      simp [this, VR]
  | const v => simp [ev, Act.eval, VR]
  | global g => simp [ev, Act.eval, VR]
  | func f => simp [ev, Act.eval, VR]
theorem OptR.of {τ : Tm} {ρ : Operand → Value} (hρ : ∀ o, VR β (ev τ o) (ρ o)) (o : Option Operand) : OptR β (o.map (ev τ)) (o.map ρ) := by
  cases o with
  | none => exact ⟨by simp, by simp⟩
  | some x => exact ⟨by intro v hv; simp at hv; subst hv; exact ⟨_, rfl, hρ x⟩, by simp⟩
theorem VRs.ev {τ : Tm} {ρ : Operand → Value} (hρ : ∀ o, VR β (ev τ o) (ρ o)) (l : Array Operand) : VRs β (l.toList.map (ev τ)) (l.map ρ).toList := by
  rw [Array.toList_map]
  exact VRs.map _ _ _ fun x _ => hρ x
theorem run_resolve (ρ : Operand → Value) (f : Operand) (args : Array Operand) (ats : Array TypeId) (ty : TypeId) (w : World) {fn : Fn} {first cap : Array Value} (h : ρ f = .func fn first cap) :
    (resolve ρ { callee := .value f, args := args, argTypes := ats } ty).run P w = .ok { target := .fn fn cap, args := first ++ args.map ρ } w := by
  simp [resolve, h, Deferred.ofValue]
theorem run_callFunc (hE : EnvOk E P) {f : FuncId} {fn : Func} (hf : E.fn.get f = some fn) (hb : fn.body ≠ none) (args : Array Value) : (callFunc f args).run P w = .ok (.enter f args) w := by
  obtain ⟨h1, h2⟩ := hE.fn f fn hf
  simp [callFunc, h1, h2, hb]
theorem call_ok (hE : EnvOk E P) (_hR : HR E B β σ.look w) {f : AV} {args : List AV} {nx : ANext} (h : aCall f args σ = some (nx, σ')) {uf : Value} {uargs : Array Value} (hf : VR β f uf) (ha : VRs β args uargs.toList) :
    OpRes E B P β σ σ' w (do let d ← Deferred.ofValue uf uargs; invoke d.target d.args) nx := by
  unfold aCall at h
  split at h
  · rename_i g first cap
    simp only [Option.some.injEq, Prod.mk.injEq] at h
    obtain ⟨rfl, rfl⟩ := h
    simp only [VR] at hf; subst hf
    refine ⟨rfl, first.toList ++ uargs.toList ++ cap.toList, ((VRs.sc _).append ha).append (VRs.sc _), fun fn hfn hb => ?_⟩
    simp only [Deferred.ofValue, Sem.run_bind, Sem.run_pure, Result.andThen_ok, invoke, run_callFunc hE hfn hb]
    congr 2
    apply Array.ext'
    simp
  · rename_i g first cap
    simp only [Option.some.injEq, Prod.mk.injEq] at h
    obtain ⟨rfl, rfl⟩ := h
    simp only [VR] at hf
    obtain ⟨uf1, uc1, rfl, h1, h2⟩ := hf
    refine ⟨rfl, uf1.toList ++ uargs.toList ++ uc1.toList, (h1.append ha).append h2, fun fn hfn hb => ?_⟩
    simp only [Deferred.ofValue, Sem.run_bind, Sem.run_pure, Result.andThen_ok, invoke, run_callFunc hE hfn hb]
    congr 2
    apply Array.ext'
    simp
  · rename_i l
    simp only [Option.some.injEq, Prod.mk.injEq] at h
    obtain ⟨rfl, rfl⟩ := h
    simp only [VR] at hf
    obtain ⟨lc, hlc, rfl⟩ := hf
    refine ⟨rfl, lc, uargs.toList, hlc, ha, ?_⟩
    simp [Deferred.ofValue, invoke]
  · simp at h
theorem op_ok (hE : EnvOk E P) (hR : HR E B β σ.look w) (hW : WF σ) {τ : Tm} {ρ : Operand → Value} (hρ : ∀ o, VR β (ev τ o) (ρ o)) {o : Oper} {nx : ANext} (h : aOp E τ o.op σ = some (nx, σ')) (hF : Fresh β σ.next σ'.next) :
    OpRes E B P β σ σ' w (execOp ρ o) nx := by
  obtain ⟨dst, op, type, pos, after, guard⟩ := o
  have same : ∀ (x : AV) (u : Value) (s : Sem Next), VR β x u → s.run P w = .ok (.value u) w → OpRes E B P β σ σ w s (.value x) := fun x u s hx hs => ⟨β, u, w, .inl hs, hx, hR, Step.refl _ _ _ _⟩
  have parts : ∀ ps : Array (Nat × Operand), PartsR β (ps.toList.map fun p => (p.1, ev τ p.2)) (ps.map fun (i, x) => (i, ρ x)).toList := by
    intro ps
    rw [Array.toList_map]
    generalize ps.toList = l
    induction l with
    | nil => simp [PartsR]
    | cons p l ih => simp only [List.map_cons, PartsR]; exact ⟨_, _, rfl, hρ _, ih⟩
  unfold aOp at h
  simp only at h
  split at h
  · simp only [Option.some.injEq, Prod.mk.injEq] at h; obtain ⟨rfl, rfl⟩ := h
    exact same _ _ _ (hρ _) (by simp [execOp])
  · simp only [Option.some.injEq, Prod.mk.injEq] at h; obtain ⟨rfl, rfl⟩ := h
    exact same _ _ _ (hρ _) (by simp [execOp])
  · rename_i c x y
    have hc := hρ c
    split at h
    · rename_i e
      simp only [Option.some.injEq, Prod.mk.injEq] at h; obtain ⟨rfl, rfl⟩ := h
      rw [e] at hc; simp only [VR] at hc
      exact same _ _ _ (hρ _) (by simp [execOp, hc, asBool])
    · rename_i e
      simp only [Option.some.injEq, Prod.mk.injEq] at h; obtain ⟨rfl, rfl⟩ := h
      rw [e] at hc; simp only [VR] at hc
      exact same _ _ _ (hρ _) (by simp [execOp, hc, asBool])
    · simp at h
  · obtain ⟨v, hv, rfl⟩ := valr_some h
    exact (alloc_ok hE hR hW hv hF).res
  · obtain ⟨v, hv, rfl⟩ := valr_some h
    exact (box_ok hR hW hv hF (hρ _) _).res
  · obtain ⟨v, hv, rfl, rfl⟩ := vals_some h
    exact (build_ok hE hv (parts _)).res hR
  · obtain ⟨v, hv, rfl⟩ := valr_some h
    exact (buildSlice_ok hE hR hW hv hF (parts _)).res
  · obtain ⟨v, hv, rfl⟩ := valr_some h
    obtain ⟨rfl, r, hrun, hvr⟩ := load_ok hE hR hv (hρ _)
    exact Does.res ⟨β, r, w, hrun, hvr, hR, Step.refl _ _ _ _⟩
  · obtain ⟨v, hv, rfl⟩ := valr_some h
    exact unit_res (store_ok hE hR hv (hρ _) (hρ _))
  · rename_i x
    obtain ⟨h1, h2⟩ := condT h
    simp only [Option.some.injEq, Prod.mk.injEq] at h2; obtain ⟨rfl, rfl⟩ := h2
    have hx := hρ x
    refine same _ _ _ hx ?_
    generalize hu : ρ x = u at hx
    generalize ev τ x = ax at h1 hx
    simp only [execOp, hu]
    unfold isNilable at h1
    split at h1
    · simp only [VR] at hx; obtain ⟨l, _, _, _, rfl⟩ := hx; simp
    · simp only [VR] at hx; obtain ⟨f, c, rfl, _, _⟩ := hx; simp
    · simp only [VR] at hx; obtain ⟨l, _, rfl⟩ := hx; simp
    · simp only [VR] at hx; subst hx; simp
    · simp only [VR] at hx; obtain ⟨_, _, _, _, _, _, rfl, _⟩ := hx; simp
    · simp at h1
  · obtain ⟨v, hv, rfl, rfl⟩ := vals_some h
    obtain ⟨r, hvr, hrun⟩ := bin_ok hE hR hv (hρ _) (hρ _) _ _
    exact Does.res ⟨β, r, w, hrun, hvr, hR, Step.refl _ _ _ _⟩
  · obtain ⟨v, hv, rfl, rfl⟩ := vals_some h
    exact (un_ok hv (hρ _)).res hR
  · obtain ⟨v, hv, rfl, rfl⟩ := vals_some h
    exact (convert_ok hE hv (hρ _)).res hR
  · rename_i fn first cap
    split at h
    · rename_i g
      simp only [Option.some.injEq, Prod.mk.injEq] at h; obtain ⟨rfl, rfl⟩ := h
      refine same _ (.func (.func g) (first.map ρ) (cap.map ρ)) _ ?_ (by simp [execOp, Instr.makeFunc])
      simp only [VR]
      exact ⟨_, _, rfl, VRs.ev hρ _, VRs.ev hρ _⟩
    · simp at h
  · simp only [Option.some.injEq, Prod.mk.injEq] at h; obtain ⟨rfl, rfl⟩ := h
    exact (makeMap_ok hR hW hF _).res
  · obtain ⟨v, hv, rfl⟩ := valr_some h
    exact (makeSlice_ok hE hR hW hv hF (hρ _) (hρ _)).res
  · obtain ⟨v, hv, rfl, rfl⟩ := vals_some h
    exact (slice_ok hE hv (hρ _) (OptR.of hρ _) (OptR.of hρ _) (OptR.of hρ _)).res hR
  · obtain ⟨v, hv, rfl, rfl⟩ := vals_some h
    exact (fieldAddr_ok hE hv (hρ _)).res hR
  · obtain ⟨v, hv, rfl, rfl⟩ := vals_some h
    exact (field_ok hE hv (hρ _)).res hR
  · obtain ⟨v, hv, rfl, rfl⟩ := vals_some h
    exact (indexAddr_ok hE hv (hρ _) (hρ _)).res hR
  · obtain ⟨v, hv, rfl, rfl⟩ := vals_some h
    exact (index_ok hE hv (hρ _) (hρ _)).res hR
  · obtain ⟨v, hv, rfl, rfl⟩ := vals_some h
    exact (lookup_ok hE hR hv (hρ _) (hρ _)).res
  · obtain ⟨v, hv, rfl⟩ := valr_some h
    exact unit_res (update_ok hE hR hv (hρ _) (hρ _) (hρ _))
  · obtain ⟨v, hv, rfl⟩ := valr_some h
    exact unit_res (update_ok hE hR hv (hρ _) (hρ _) (hρ _))
  · obtain ⟨v, hv, rfl⟩ := valr_some h
    exact (range_ok hE hR hW hv hF (hρ _)).res
  · obtain ⟨v, hv, rfl⟩ := valr_some h
    exact (next_ok hR hv (hρ _) _).res
  · obtain ⟨v, hv, rfl, rfl⟩ := vals_some h
    exact (entry_ok hR hv (hρ _)).res
  · rename_i x i
    have hx := hρ x
    split at h
    · rename_i vs e
      simp only [Option.map_eq_some_iff, Prod.mk.injEq] at h
      obtain ⟨v, hv, rfl, rfl⟩ := h
      rw [e] at hx; simp only [VR] at hx
      obtain ⟨cs, hcs, hr⟩ := hx
      obtain ⟨u, hu, hvu⟩ := cs_get hr hv
      exact same _ _ _ hvu (by simp [execOp, hcs, Instr.extract, hu])
    · simp at h
  · rename_i f args ats
    have := call_ok (B := B) hE hR h (hρ f) (VRs.ev hρ args)
    exact this
  · rename_i b args ats
    have hb := fun cs => builtin_ok hE hR hW h hF (VRs.ev hρ args) type cs
    refine OpRes.congr ?_ (hb ((args.map fun | .const _ => true | _ => false)))
    simp only [execOp, resolve, invoke, Sem.run_bind, Sem.run_pure, Result.andThen_ok]
    rfl
  · simp at h
end
end Go.Vai

/-
  What an operation may turn in the abstract state; temporaries.
-/
namespace Go.Vai
open Go

section
variable {E : Env} {σ σ' : St} {v : AV}
theorem newRow_tr {cells : List AV} {k : AV → AV} (h : aNewRow cells k σ = some (v, σ')) : Tr σ σ' := by
  unfold aNewRow at h
  obtain ⟨_, h⟩ := condT h
  simp only [Option.some.injEq, Prod.mk.injEq] at h
  obtain ⟨_, rfl⟩ := h
  exact Tr.new _ _
theorem alloc_tr {t : TypeId} (h : aAlloc E t σ = some (v, σ')) : Tr σ σ' := by
  unfold aAlloc at h
  split at h
  · simp at h
  · exact newRow_tr h
theorem buildSlice_tr {t : TypeId} {n : Nat} {ps : List (Nat × AV)} (h : aBuildSlice E t n ps σ = some (v, σ')) : Tr σ σ' := by
  unfold aBuildSlice at h
  split at h
  · split at h
    · obtain ⟨_, h⟩ := condT h
      split at h
      · exact newRow_tr h
      · simp at h
    · simp at h
  · simp at h
theorem load_tr {t : TypeId} {a : AV} (h : aLoad E t a σ = some (v, σ')) : σ' = σ := by
  unfold aLoad at h
  split at h
  · split at h
    · obtain ⟨_, h⟩ := condT h
      split at h
      · rename_i ty _
        cases ha : ty.agg with
        | true =>
          simp only [ha, cond_true] at h
          obtain ⟨_, h⟩ := condT h
          simp only [Option.map_eq_some_iff, Prod.mk.injEq] at h
          obtain ⟨_, _, _, rfl⟩ := h; rfl
        | false =>
          simp only [ha, cond_false] at h
          obtain ⟨_, h⟩ := condT h
          simp only [Option.map_eq_some_iff, Prod.mk.injEq] at h
          obtain ⟨_, _, _, rfl⟩ := h; rfl
      · simp at h
    · simp at h
  · split at h
    · rename_i ty _ _ _
      cases ha : ty.agg with
      | true => simp [ha] at h
      | false =>
        simp only [ha, cond_false, Option.map_eq_some_iff, Prod.mk.injEq] at h
        obtain ⟨_, _, _, rfl⟩ := h; rfl
    · simp at h
  · split at h
    · rename_i ty _
      cases ha : ty.agg with
      | true =>
        simp only [ha, cond_true, Option.map_eq_some_iff, Prod.mk.injEq] at h
        obtain ⟨_, _, _, rfl⟩ := h; rfl
      | false =>
        simp only [ha, cond_false, Option.map_eq_some_iff, Prod.mk.injEq] at h
        obtain ⟨_, _, _, rfl⟩ := h; rfl
    · simp at h
  · simp at h
theorem store_tr {t : TypeId} {a x : AV} (h : aStore E t a x σ = some (v, σ')) : Tr σ σ' := by
  unfold aStore at h
  split at h
  · split at h
    · rename_i hlook
      obtain ⟨_, h⟩ := condT h
      split at h
      · obtain ⟨_, h⟩ := condT h
        simp only [Option.some.injEq, Prod.mk.injEq] at h
        obtain ⟨_, rfl⟩ := h
        exact Tr.put hlook _
      · simp at h
    · simp at h
  · simp at h
theorem makeSlice_tr {t : TypeId} {l c : AV} (h : aMakeSlice E t l c σ = some (v, σ')) : Tr σ σ' := by
  unfold aMakeSlice at h
  split at h
  · split at h
    · obtain ⟨_, h⟩ := condT h
      exact newRow_tr h
    · simp at h
  · simp at h
theorem update_tr {t : TypeId} {m k x : AV} (h : aUpdate E t m k x σ = some (v, σ')) : Tr σ σ' := by
  unfold aUpdate at h
  split at h
  · split at h
    · rename_i hlook _
      split at h
      · split at h
        · obtain ⟨_, h⟩ := condT h
          simp only [Option.some.injEq, Prod.mk.injEq] at h
          obtain ⟨_, rfl⟩ := h
          exact Tr.put hlook _
        · simp at h
      · simp only [Option.some.injEq, Prod.mk.injEq] at h
        obtain ⟨_, rfl⟩ := h
        exact Tr.put hlook _
      · simp at h
    · simp at h
  · simp at h
theorem delete_tr {t : TypeId} {m k : AV} (h : aDelete E t m k σ = some (v, σ')) : Tr σ σ' := by
  unfold aDelete at h
  split at h
  · split at h
    · rename_i hlook _
      split at h
      · simp only [Option.some.injEq, Prod.mk.injEq] at h
        obtain ⟨_, rfl⟩ := h
        exact Tr.put hlook _
      · simp only [Option.some.injEq, Prod.mk.injEq] at h
        obtain ⟨_, rfl⟩ := h
        exact Tr.refl _
      · simp at h
    · simp at h
  · simp at h
theorem range_tr {t : TypeId} {x : AV} (h : aRange E t x σ = some (v, σ')) : Tr σ σ' := by
  unfold aRange at h
  split at h
  · split at h
    · simp only [Option.some.injEq, Prod.mk.injEq] at h
      obtain ⟨_, rfl⟩ := h
      exact Tr.new _ _
    · split at h
      · simp only [Option.some.injEq, Prod.mk.injEq] at h
        obtain ⟨_, rfl⟩ := h
        exact Tr.new _ _
      · simp at h
    · simp at h
  · simp at h
theorem next_tr {it : AV} (h : aNext it σ = some (v, σ')) : Tr σ σ' := by
  unfold aNext at h
  split at h
  · split at h
    · simp only [Option.some.injEq, Prod.mk.injEq] at h
      obtain ⟨_, rfl⟩ := h
      exact Tr.refl _
    · rename_i hlook
      split at h
      · rename_i seen last _ es clock _
        cases hg : (!seen.isEmpty && !es.isEmpty && es.all fun e => Nat.ble last e.born) with
        | true => rw [hg] at h; simp at h
        | false =>
          rw [hg] at h
          simp only [cond_false] at h
          split at h
          · simp only [Option.some.injEq, Prod.mk.injEq] at h
            obtain ⟨_, rfl⟩ := h
            exact Tr.refl _
          · obtain ⟨_, h⟩ := condT h
            simp only [Option.some.injEq, Prod.mk.injEq] at h
            obtain ⟨_, rfl⟩ := h
            exact Tr.put hlook _
          · simp at h
      · simp at h
    · simp at h
  · simp at h
theorem append_tr {t t2 : TypeId} {s x : AV} (h : aAppend E t t2 s x σ = some (v, σ')) : Tr σ σ' := by
  unfold aAppend at h
  split at h
  · split at h
    · obtain ⟨_, h⟩ := condT h
      split at h
      · split at h
        · simp only [Option.some.injEq, Prod.mk.injEq] at h
          obtain ⟨_, rfl⟩ := h
          exact Tr.refl _
        · obtain ⟨_, h⟩ := condT h
          exact newRow_tr h
      · split at h
        · rename_i hlook
          obtain ⟨_, h⟩ := condT h
          split at h
          · simp only [Option.some.injEq, Prod.mk.injEq] at h
            obtain ⟨_, rfl⟩ := h
            exact Tr.refl _
          · obtain ⟨_, h⟩ := condT h
            split at h
            · obtain ⟨_, h⟩ := condT h
              simp only [Option.some.injEq, Prod.mk.injEq] at h
              obtain ⟨_, rfl⟩ := h
              exact Tr.put hlook _
            · simp only [Option.some.injEq, Prod.mk.injEq] at h
              obtain ⟨_, rfl⟩ := h
              exact Tr.put hlook _
        · simp at h
      · simp at h
    · simp at h
  · simp at h
theorem copy_tr {t : TypeId} {d x : AV} (h : aCopy E t d x σ = some (v, σ')) : Tr σ σ' := by
  unfold aCopy at h
  split at h
  · split at h
    · obtain ⟨_, h⟩ := condT h
      split at h
      · simp only [Option.some.injEq, Prod.mk.injEq] at h
        obtain ⟨_, rfl⟩ := h
        exact Tr.refl _
      · split at h
        · rename_i hlook
          obtain ⟨_, h⟩ := condT h
          simp only [Option.some.injEq, Prod.mk.injEq] at h
          obtain ⟨_, rfl⟩ := h
          exact Tr.put hlook _
        · simp at h
      · simp at h
    · simp at h
  · simp at h
theorem clear_tr {t : TypeId} {x : AV} (h : aClear E t x σ = some (v, σ')) : Tr σ σ' := by
  unfold aClear at h
  replace h := (condT h).2
  split at h
  · simp only [Option.some.injEq, Prod.mk.injEq] at h
    obtain ⟨_, rfl⟩ := h
    exact Tr.refl _
  · split at h
    · simp only [Option.some.injEq, Prod.mk.injEq] at h
      obtain ⟨_, rfl⟩ := h
      exact Tr.refl _
    · split at h
      · rename_i hlook
        obtain ⟨_, h⟩ := condT h
        simp only [Option.some.injEq, Prod.mk.injEq] at h
        obtain ⟨_, rfl⟩ := h
        exact Tr.put hlook _
      · simp at h
    · simp at h
  · simp at h
theorem vals_tr {r : Option AV} {nx : ANext} (h : vals r σ = some (nx, σ')) : Tr σ σ' := by
  obtain ⟨_, _, _, rfl⟩ := vals_some h
  exact Tr.refl _
theorem builtin_tr {b : Builtin} {ats : List TypeId} {args : List AV} {nx : ANext} (h : aBuiltin E b ats args σ = some (nx, σ')) : Tr σ σ' := by
  unfold aBuiltin at h
  split at h
  · exact vals_tr h
  · obtain ⟨v, hv, _⟩ := valr_some h; exact append_tr hv
  · split at h
    · simp only [Option.some.injEq, Prod.mk.injEq] at h
      obtain ⟨_, rfl⟩ := h
      exact Tr.refl _
    · simp at h
  · obtain ⟨v, hv, _⟩ := valr_some h; exact copy_tr hv
  · obtain ⟨v, hv, _⟩ := valr_some h; exact clear_tr hv
  · obtain ⟨v, hv, _⟩ := valr_some h
    simp only [Option.map_eq_some_iff, Prod.mk.injEq] at hv
    obtain ⟨⟨v1, σ1⟩, hv1, _, rfl⟩ := hv
    exact delete_tr hv1
  · exact vals_tr h
  · exact vals_tr h
  · simp at h
theorem call_tr {f : AV} {args : List AV} {nx : ANext} (h : aCall f args σ = some (nx, σ')) : σ' = σ := by
  unfold aCall at h
  split at h <;> simp only [Option.some.injEq, Prod.mk.injEq, reduceCtorEq] at h
  all_goals (obtain ⟨_, rfl⟩ := h; rfl)
theorem op_tr {τ : Tm} {op : Op} {nx : ANext} (h : aOp E τ op σ = some (nx, σ')) : Tr σ σ' := by
  have keep : ∀ {x : ANext}, some (x, σ) = some (nx, σ') → Tr σ σ' := by
    intro x h
    simp only [Option.some.injEq, Prod.mk.injEq] at h
    obtain ⟨_, rfl⟩ := h
    exact Tr.refl _
  unfold aOp at h
  split at h
  · exact keep h
  · exact keep h
  · split at h
    · exact keep h
    · exact keep h
    · simp at h
  · obtain ⟨v, hv, _⟩ := valr_some h; exact alloc_tr hv
  · obtain ⟨v, hv, _⟩ := valr_some h; exact newRow_tr hv
  · exact vals_tr h
  · obtain ⟨v, hv, _⟩ := valr_some h; exact buildSlice_tr hv
  · obtain ⟨v, hv, _⟩ := valr_some h; rw [load_tr hv]; exact Tr.refl _
  · obtain ⟨v, hv, _⟩ := valr_some h; exact store_tr hv
  · exact keep (condT h).2
  · exact vals_tr h
  · exact vals_tr h
  · exact vals_tr h
  · split at h
    · exact keep h
    · simp at h
  · simp only [Option.some.injEq, Prod.mk.injEq] at h
    obtain ⟨_, rfl⟩ := h
    exact Tr.new _ _
  · obtain ⟨v, hv, _⟩ := valr_some h; exact makeSlice_tr hv
  · exact vals_tr h
  · exact vals_tr h
  · exact vals_tr h
  · exact vals_tr h
  · exact vals_tr h
  · exact vals_tr h
  · obtain ⟨v, hv, _⟩ := valr_some h; exact update_tr hv
  · obtain ⟨v, hv, _⟩ := valr_some h; exact update_tr hv
  · obtain ⟨v, hv, _⟩ := valr_some h; exact range_tr hv
  · obtain ⟨v, hv, _⟩ := valr_some h; exact next_tr hv
  · exact vals_tr h
  · split at h
    · simp only [Option.map_eq_some_iff, Prod.mk.injEq] at h
      obtain ⟨_, _, _, rfl⟩ := h
      exact Tr.refl _
    · simp at h
  · rw [call_tr h]; exact Tr.refl _
  · exact builtin_tr h
  · simp at h
theorem op_defer {τ : Tm} {op : Op} {nx : ANext} (h : aOp E τ op σ = some (nx, σ')) : ∀ c, op ≠ .defer c := by
  intro c e
  subst e
  simp [aOp] at h
end

/-! temporaries -/
section
variable {β : Map} {τ τ' : Tm} {a : Act}
theorem put_ok {dst : Option Tmp} {v : AV} {u : Value} (h : τ.put dst v = some τ') (hv : VR β v u) (ht : TmpR β τ.t τ.n a.tmps) :
    TmpR β τ'.t τ'.n (a.put dst u).tmps ∧ τ'.marks = τ.marks ∧ (a.put dst u).defers = a.defers := by
  cases dst with
  | none =>
    simp only [Tm.put, Option.some.injEq] at h; subst h
    exact ⟨ht, rfl, rfl⟩
  | some d =>
    simp only [Tm.put] at h
    obtain ⟨h1, h2⟩ := condT h
    replace h1 := bltT h1
    simp only [Option.some.injEq] at h2; subst h2
    obtain ⟨t1, t2, t3⟩ := ht
    refine ⟨⟨by simp [Act.put, Tm.set_eq, t1], ?_, ?_⟩, rfl, rfl⟩
    · intro i hi
      simp only [Tm.set_eq] at hi ⊢
      rw [T.get_set', if_neg (by omega)]
      exact t2 i hi
    · intro i hi
      simp only [Tm.set_eq] at hi
      simp only [Tm.set_eq, Act.put]
      rw [T.get_set']
      by_cases e : i = d
      · subst e
        rw [if_pos rfl, Array.getD_eq_getD_getElem?, Array.getElem?_setIfInBounds_self_of_lt (by omega)]
        exact hv
      · rw [if_neg e, Array.getD_eq_getD_getElem?, Array.getElem?_setIfInBounds_ne (by omega), ← Array.getD_eq_getD_getElem?]
        exact t3 i hi
end
end Go.Vai

/-
  What is said of code, of calls and of rounds; operations with calls in them; plain regions; control.
-/
namespace Go.Vai
open Go

def MarksR (β : Map) : List Nat → List Deferred → Prop
  | [], ds => ds = []
  | d :: l, ds => ∃ ld ds', β d 0 = some ld ∧ ds = { target := .collected ld.b, args := #[] } :: ds' ∧ MarksR β l ds'
theorem MarksR.mono {β β' : Map} (h : Sub β β') : ∀ {l : List Nat} {ds : List Deferred}, MarksR β l ds → MarksR β' l ds
  | [], _, r => r
  | _ :: _, _, ⟨ld, ds', e, r1, r2⟩ => ⟨ld, ds', h _ _ _ e, r1, MarksR.mono h r2⟩
def FrR (β : Map) (τ : Tm) (a : Act) : Prop := TmpR β τ.t τ.n a.tmps ∧ MarksR β τ.marks a.defers
theorem FrR.mono {β β' : Map} (h : Sub β β') {τ : Tm} {a : Act} (r : FrR β τ a) : FrR β' τ a := ⟨r.1.mono h, r.2.mono h⟩
theorem FrR.put {β : Map} {τ τ' : Tm} {a : Act} {dst : Option Tmp} {v : AV} {u : Value} (r : FrR β τ a) (h : τ.put dst v = some τ') (hv : VR β v u) : FrR β τ' (a.put dst u) := by
  obtain ⟨h1, h2, h3⟩ := put_ok h hv r.1
  exact ⟨h1, by rw [h2, h3]; exact r.2⟩

def Open (F : Fence) : Prop := (∀ f, F.fn f) ∧ F.depth = none
def RdOk (β : Map) : Option Nat → Option Nat → Prop
  | none, r => r = none
  | some l, r => ∃ lc, β l 0 = some lc ∧ r = some lc.b
theorem RdOk.mono {β β' : Map} (h : Sub β β') {rd r : Option Nat} (k : RdOk β rd r) : RdOk β' rd r := by
  cases rd with
  | none => exact k
  | some l => obtain ⟨lc, e, k⟩ := k; exact ⟨lc, h _ _ _ e, k⟩
def exitC : AExit → Exit
  | .normal => .normal
  | .exit id => .exit id
  | .goto l => .goto l
  | .ret => .ret

/-- Behind a call or a round. -/
def RetP (E : Env) (B : Nat) (β : Map) (σ σ' : St) (w : World) (v : AV) (e : Ending) (w' : World) : Prop :=
  ∃ β' u, e = .returned u ∧ VR β' v u ∧ HR E B β' σ'.look w' ∧ Step β β' σ.look σ.next σ'.next w w'

def loopJ (F : Fence) (n : Nat) (P : Program) (Q : Exit → Act → World → Prop) (c : Code) (a : Act) (w : World) : Prop :=
  ∀ (b : Frame) (k : List Item) (cs : List Frame), b.roundOf = F.round → F.fn b.fn → F.room (cs.length + 1 + n) →
    ∃ e a' w', Q e a' w' ∧ ArrivesIn (Machine.fenced P F) P (lone (b.atR a (.code c :: .inLoop c :: k)) cs w) b k cs e a' w'
def wpL (F : Fence) (n : Nat) (P : Program) (Q : Exit → Act → World → Prop) : Code → Act → World → Prop
  | .loop c, a, w => loopJ F n P Q c a w
  | c, a, w => c.wpIn F n P Q a w
theorem wpL_wpIn {F : Fence} {n : Nat} {P : Program} {Q : Exit → Act → World → Prop} {c : Code} {a : Act} {w : World} (h : wpL F n P Q c a w) : c.wpIn F n P Q a w := by
  cases c with
  | loop c =>
    intro b k cs hro hb hr
    obtain ⟨e, a', w', hq, harr⟩ := h b k cs hro hb hr
    exact ⟨e, a', w', hq, .of_steps (.one (fenced_calm hb hr rfl) stepR_loop) harr⟩
  | _ => exact h
theorem loopJ_round {F : Fence} {n : Nat} {P : Program} {Q : Exit → Act → World → Prop} {c : Code} {a : Act} {w : World} (h : c.wpIn F n P (Exit.then (loopJ F n P Q c) Q) a w) : loopJ F n P Q c a w := by
  intro b k cs hro hb hr
  obtain ⟨e, a₁, w₁, hq, harr⟩ := h b (.inLoop c :: k) cs hro hb hr
  cases e with
  | normal =>
    obtain ⟨e₂, a₂, w₂, hq₂, harr₂⟩ := hq b k cs hro hb hr
    exact ⟨e₂, a₂, w₂, hq₂, .of_steps (StepsIn.trans harr (.one (fenced_calm hb hr rfl) stepR_inLoop)) harr₂⟩
  | exit id => exact ⟨_, a₁, w₁, hq, .pass (x := .inLoop c) rfl (fun _ _ => .inl (by simp)) harr⟩
  | goto l => exact ⟨_, a₁, w₁, hq, .pass (x := .inLoop c) rfl (fun _ _ => .inl (by simp)) harr⟩
  | ret => exact ⟨_, a₁, w₁, hq, .pass (x := .inLoop c) rfl (fun _ _ => .inl (by simp)) harr⟩
  | panic ch => exact ⟨_, a₁, w₁, hq, .pass (x := .inLoop c) rfl (fun _ _ => .inl (by simp)) harr⟩
  | outgrown => exact ⟨_, a₁, w₁, hq, .pass (x := .inLoop c) rfl (fun _ _ => .inl (by simp)) harr⟩

def CodeSound (E : Env) (P : Program) (rd : Option Nat) (c : Code) (τ : Tm) (σ : St) (x : AExit) (τ' : Tm) (σ' : St) : Prop :=
  ∀ (B : Nat) (β : Map) (w : World) (a : Act) (F : Fence) (n : Nat) (Q : Exit → Act → World → Prop), Open F → RdOk β rd F.round → HR E B β σ.look w → WF σ → Fresh β σ.next σ'.next → FrR β τ a →
    (∀ β' w' a', HR E B β' σ'.look w' → Step β β' σ.look σ.next σ'.next w w' → FrR β' τ' a' → Q (exitC x) a' w') → wpL F n P Q c a w
structure Sound (E : Env) (P : Program) (V : Ev) : Prop where
  code : ∀ rd c τ σ x τ' σ', V.code rd c τ σ = some (x, τ', σ') → Tr σ σ' ∧ CodeSound E P rd c τ σ x τ' σ'
  call : ∀ f args σ v σ', V.call f args σ = some (v, σ') → Tr σ σ' ∧ (∃ fn, E.fn.get f = some fn ∧ fn.body ≠ none) ∧
    ∀ (B : Nat) (β : Map) (w : World) (us : List Value) (F : Fence) (n : Nat), Open F → HR E B β σ.look w → WF σ → Fresh β σ.next σ'.next → VRs β args us → CallsIn F n P f us.toArray w (RetP E B β σ σ' w v)
  round : ∀ l args σ v σ', V.round l args σ = some (v, σ') → Tr σ σ' ∧
    ∀ (B : Nat) (β : Map) (w : World) (us : List Value) (lc : Loc) (F : Fence) (n : Nat), Open F → HR E B β σ.look w → WF σ → Fresh β σ.next σ'.next → β l 0 = some lc → VRs β args us →
      ∃ f tmps asg body, (Instr.yield lc.b us.toArray).run P w = .ok (.round lc.b f tmps asg body) w ∧ RoundIn F n P lc.b f tmps asg body w (RetP E B β σ σ' w v)

section
variable {E : Env} {P : Program} {V : Ev} {σ σ1 σ2 : St} {β β1 β2 : Map} {w w1 w2 : World} {B : Nat}
theorem step_trans (t1 : Tr σ σ1) (t2 : Tr σ1 σ2) (hW : WF σ) (hF : Fresh β σ.next σ2.next) (h1 : Step β β1 σ.look σ.next σ1.next w w1) (h2 : Step β1 β2 σ1.look σ1.next σ2.next w1 w2) :
    Step β β2 σ.look σ.next σ2.next w w2 :=
  h1.trans h2 t1.next t2.next hF fun id o ho => (t1.lookdom id o ho).imp (fun x => x) fun ⟨a, b⟩ => ⟨a, b hW⟩
theorem fresh_first (t2 : Tr σ1 σ2) (hF : Fresh β σ.next σ2.next) : Fresh β σ.next σ1.next := hF.mono (Nat.le_refl _) t2.next
theorem fresh_then (t1 : Tr σ σ1) (hW : WF σ) (hF : Fresh β σ.next σ2.next) (h1 : Step β β1 σ.look σ.next σ1.next w w1) : Fresh β1 σ1.next σ2.next :=
  hF.after h1 t1.next fun _ _ ho => look_lt hW ho

/-! one operation -/
theorem oper_tr (hV : Sound E P V) {τ : Tm} {o : Oper} {v : AV} {σ' : St} (h : oper E V τ o σ = some (v, σ')) : Tr σ σ' := by
  unfold oper at h
  split at h
  · rename_i h0
    simp only [Option.some.injEq, Prod.mk.injEq] at h
    obtain ⟨_, rfl⟩ := h
    exact op_tr h0
  · rename_i h0
    exact (op_tr h0).trans (hV.call _ _ _ _ _ h).1
  · rename_i h0
    exact (op_tr h0).trans (hV.round _ _ _ _ _ h).1
  · simp at h
theorem oper_defer {τ : Tm} {o : Oper} {v : AV} {σ' : St} (h : oper E V τ o σ = some (v, σ')) : ∀ c, o.op ≠ .defer c := by
  unfold oper at h
  split at h
  · rename_i h0; exact op_defer h0
  · rename_i h0; exact op_defer h0
  · rename_i h0; exact op_defer h0
  · simp at h
theorem oper_ok (hE : EnvOk E P) (hV : Sound E P V) {τ : Tm} {o : Oper} {v : AV} {σ' : St} (h : oper E V τ o σ = some (v, σ')) {a : Act} {F : Fence} {n : Nat} {K : Act → World → Prop} {Q : Exit → Act → World → Prop}
    (hO : Open F) (hR : HR E B β σ.look w) (hW : WF σ) (hF : Fresh β σ.next σ'.next) (ht : TmpR β τ.t τ.n a.tmps)
    (hK : ∀ β' u w', VR β' v u → HR E B β' σ'.look w' → Step β β' σ.look σ.next σ'.next w w' → K (a.put o.dst u) w') : o.wpIn F n P a w K Q := by
  have hd := oper_defer h
  refine ⟨fun f _ => hO.1 f, ?_⟩
  rw [Oper.semAt_eq _ _ _ hd]
  have hρ := fun x => ev_ok ht x
  have hdep : F.depth.isSome = true → 1 ≤ n := by intro e; rw [hO.2] at e; simp at e
  unfold oper at h
  split at h
  · rename_i v' σ1 h0
    simp only [Option.some.injEq, Prod.mk.injEq] at h
    obtain ⟨rfl, rfl⟩ := h
    obtain ⟨β', u, w', hrun, hv, hR', hS⟩ := op_ok hE hR hW hρ h0 hF
    rcases hrun with hrun | ⟨rfl, hrun⟩
    · rw [hrun, Oper.uponIn_value]; exact hK β' u w' hv hR' hS
    · rw [hrun, Oper.uponIn_skip]; exact hK β' _ w' hv hR' hS
  · rename_i f args σ1 h0
    obtain ⟨ht1, ⟨fn, hfn, hb⟩, hcall⟩ := hV.call _ _ _ _ _ h
    obtain ⟨rfl, us, hus, hrun⟩ := op_ok hE hR hW hρ h0 (hF.mono (Nat.le_refl _) ht1.next)
    rw [hrun fn hfn hb, Oper.uponIn_enter]
    refine ⟨hdep, CallsIn.mono (hcall B β w us F (n - 1) hO hR hW hF hus) ?_⟩
    rintro e w' ⟨β', u, rfl, hv, hR', hS⟩
    exact hK β' u w' hv hR' hS
  · rename_i l args σ1 h0
    obtain ⟨ht1, hround⟩ := hV.round _ _ _ _ _ h
    obtain ⟨rfl, lc, us, hlc, hus, hrun⟩ := op_ok hE hR hW hρ h0 (hF.mono (Nat.le_refl _) ht1.next)
    obtain ⟨f, tmps, asg, body, hy, hin⟩ := hround B β w us lc F (n - 1) hO hR hW hF hlc hus
    rw [hrun, hy, Oper.uponIn_round]
    refine ⟨hdep, RoundIn.mono hin ?_⟩
    rintro e w' ⟨β', u, rfl, hv, hR', hS⟩
    exact hK β' u w' hv hR' hS
  · simp at h

/-! guards -/
theorem wanted_ok {ops : List Oper} {τ : Tm} {o : Oper} {b : Bool} (h : wantedA ops τ o = some b) {a : Act} (ht : TmpR β τ.t τ.n a.tmps) : Region.wanted o (yielded ops.toArray a.tmps) = b := by
  unfold wantedA at h
  unfold Region.wanted
  split at h
  · rename_i hg
    simp only [Option.some.injEq] at h; subst h
    simp [hg]
  · rename_i j want hg
    simp only [hg]
    split at h
    · rename_i d op1 ty1 pos1 af1 gd1 hj
      have hv := ev_ok ht (.tmp d)
      simp only [ev, Act.eval] at hv
      have hy : ∀ u, VR β (τ.get d) u → a.tmps.getD d undef = u → (∀ q, u = .bool q → yielded ops.toArray a.tmps j = some q) ∧ ((∀ q, u ≠ .bool q) → yielded ops.toArray a.tmps j = none) := by
        intro u _ hu
        unfold yielded
        rw [List.getElem?_toArray, hj]
        simp only [Option.bind_some]
        rw [Array.getD_eq_getD_getElem?] at hu
        cases hx : a.tmps[d]? with
        | none =>
          rw [hx] at hu
          simp only [Option.getD_none] at hu
          subst hu
          exact ⟨fun q e => by simp [undef] at e, fun _ => rfl⟩
        | some y =>
          rw [hx] at hu
          simp only [Option.getD_some] at hu
          subst hu
          exact ⟨fun q e => by subst e; rfl, fun e => by cases y <;> first | rfl | exact absurd rfl (e _)⟩
      split at h
      · rename_i q e
        simp only [Option.some.injEq] at h; subst h
        rw [e] at hv
        simp only [VR] at hv
        rw [(hy _ (by rw [e]; simp [VR]) hv).1 q rfl]
        cases q <;> cases want <;> rfl
      · rename_i arr e
        split at h
        · simp only [Option.some.injEq] at h; subst h
          rw [e] at hv
          simp only [VR] at hv
          rw [(hy _ (by rw [e]; simp [VR]) hv).2 (by intro q e'; cases e')]
          rfl
        · simp at h
      · simp at h
    · simp at h
end
end Go.Vai
