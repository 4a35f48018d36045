/-
  Append: the abstract operation against the model's.
-/
import Derived.Test.YtkjmlnegmmlfdaaGreatDoorVaiM
namespace Go.Vai
open Go

section
variable {E : Env} {P : Program} {β : Map} {B : Nat} {σ : St} {w : World}
theorem RowR.size {l : Loc} {cells : List AV} (hR : RowR β w l cells) : l.s + l.n ≤ l.sz := by
  obtain ⟨cs, el, h1, h2, h3, h4⟩ := hR
  omega
theorem append_ok (hE : EnvOk E P) (hR : HR E B β σ.look w) (hW : WF σ) {v s x : AV} {us ux : Value} {σ' : St} {t t2 : TypeId}
    (h : aAppend E t t2 s x σ = some (v, σ')) (hF : Fresh β σ.next σ'.next) (hs : VR β s us) (hx : VR β x ux) (ty : TypeId) : Does E B P β σ σ' w (Builtin.append_ #[t, t2] ty #[us, ux]) v := by
  unfold aAppend at h
  split at h
  · rename_i _ _ _ _ e _ ht
    split at h
    · rename_i ety new n he hnew
      obtain ⟨h1, h2⟩ := condT h
      simp only [Bool.and_eq_true] at h1
      obtain ⟨⟨a1, a2⟩, a3⟩ := h1
      replace a1 := beqT a1; replace a2 := bltT a2; replace a3 := bleT a3
      have hu := (hE.ty t _ ht).slice rfl
      have hT := hE.ty e _ he
      obtain ⟨i, z, hi, his, hib, hz, hzc, hzl⟩ := hT.info
      have appok : new.all isCell = true → ∃ news, AppOk P t t2 ty e i z ux n news w ∧ VRs β new news := fun hc =>
        newCells_ok hE hR ty hnew he hx a1 hc a2 a3 hu hi his hib hz hzc hzl
      have zsize : z.cells.size = ety.size := by rw [hzc]; simp [hzl]
      split at h2
      · -- a nil slice
        simp only [VR] at hs; subst hs
        cases n with
        | zero =>
          simp only [Option.some.injEq, Prod.mk.injEq] at h2
          obtain ⟨rfl, rfl⟩ := h2
          have hn0 : new = [] := List.eq_nil_of_length_eq_zero (by omega)
          obtain ⟨news, hA, hv⟩ := appok (by subst hn0; rfl)
          exact ⟨β, _, w, hA.nil rfl, by simp [VR], hR, Step.refl _ _ _ _⟩
        | succ m =>
          simp only at h2
          obtain ⟨b1, b2⟩ := condT h2
          unfold aNewRow at b2
          obtain ⟨b3, b4⟩ := condT b2
          simp only [Option.some.injEq, Prod.mk.injEq] at b4
          obtain ⟨rfl, rfl⟩ := b4
          obtain ⟨news, hA, hv⟩ := appok b3
          have hrun := hA.grow none 0 0 [] (by simpa using run_firstCells_none (P := P) w.drew i.size 0 0 0) (by omega) (by have := bleT b1; omega) (by omega)
          simp only [Nat.zero_add, List.nil_append] at hrun
          have hge := grownCap_ge w (m + 1) 0 e
          have hnl : news.length = (m + 1) * ety.size := by rw [hA.len, his]
          have hsz : (news.toArray ++ Builtin.zeroCells z.cells (grownCap w (m + 1) 0 e - (m + 1))).size = grownCap w (m + 1) 0 e * ety.size := by
            simp only [Array.size_append, List.size_toArray, size_zeroCells, zsize, hnl, ← Nat.add_mul]
            congr 1; omega
          have hlen : new.length = (m + 1) * ety.size := a1
          have := newRow_ok hR hW hF e (w.drew.alloc (.cells (news.toArray ++ Builtin.zeroCells z.cells (grownCap w (m + 1) 0 e - (m + 1))) e)) rfl rfl rfl rfl b3 new.length rfl
            (by rw [← hv.length]; simpa using hv) (by rw [hsz, hlen]; exact Nat.mul_le_mul_right _ hge)
          refine ⟨_, _, _, hrun, ?_, this.1, this.2⟩
          simp only [VR]
          refine ⟨_, 0, _, put1_same _ _ _ _, rfl, hge, Nat.le_refl _, ?_, ?_, a2, .inr ⟨by simp, ?_⟩⟩
          · simp [hlen]
          · simp only [hsz, hlen, Nat.zero_add]; exact Nat.mul_le_mul_right _ hge
          · simp only [hsz, Nat.zero_add]; exact Nat.le_refl _
      · -- a slice
        rename_i id g off len es mc
        split at h2
        · rename_i gen mg cells hlook
          obtain ⟨b1, b2⟩ := condT h2
          simp only [Bool.and_eq_true] at b1
          obtain ⟨⟨c1, c2⟩, c3⟩ := b1
          replace c1 := beqT c1; replace c2 := bleT c2; replace c3 := bleT c3
          subst c1
          simp only [VR] at hs
          obtain ⟨l, o, c, hl, rfl, hc, hlm, hoff, hsz, hpos, hco⟩ := hs
          cases hn0 : Nat.beq n 0 with
          | true =>
            have hn := beqT hn0
            subst hn
            rw [hn0] at b2
            simp only [Option.some.injEq, Prod.mk.injEq] at b2
            obtain ⟨rfl, rfl⟩ := b2
            have hnw : new = [] := List.eq_nil_of_length_eq_zero (by omega)
            obtain ⟨news, hA, hv⟩ := appok (by subst hnw; rfl)
            have hnn : news = [] := List.eq_nil_of_length_eq_zero (by rw [hv.length, hnw]; rfl)
            have hrun := hA.room ⟨l.b, o, none⟩ len c w (by omega) (by subst hnn; simp [storeCells])
            refine ⟨β, _, w, hrun, ?_, hR, Step.refl _ _ _ _⟩
            simp only [VR]
            exact ⟨l, o, c, hl, rfl, hc, hlm, hoff, hsz, hpos, hco⟩
          | false =>
            rw [hn0] at b2
            simp only at b2
            obtain ⟨d1, d2⟩ := condT b2
            simp only [Bool.and_eq_true] at d1
            obtain ⟨⟨⟨d3, d4⟩, d5⟩, d6⟩ := d1
            replace d3 := beqT d3; replace d4 := bleT d4; replace d6 := bleT d6
            subst d3
            have hnp : 0 < n := by
              rcases Nat.eq_zero_or_pos n with e0 | e0
              · subst e0; simp at hn0
              · exact e0
            obtain ⟨news, hA, hv⟩ := appok d5
            have hnl : news.length = n * ety.size := by rw [hA.len, his]
            obtain ⟨hln, hlg, hrow, hall⟩ := row_at hR hlook c2 c3 hl
            have hlg := hlg rfl
            have hmul : (len + n) * ety.size = len * ety.size + n * ety.size := Nat.add_mul _ _ _
            cases hfit : Nat.ble (len + n) mc with
            | true =>
              rw [hfit] at d2
              simp only at d2
              obtain ⟨f1, f2⟩ := condT d2
              replace f1 := bleT f1
              simp only [Option.some.injEq, Prod.mk.injEq] at f2
              obtain ⟨rfl, rfl⟩ := f2
              have hfit := bleT hfit
              rcases hco with hc0 | ⟨ho, hoc⟩
              · omega
              subst ho
              obtain ⟨cs, el, q1, q2, q3, q4, q5⟩ := rowStore_ok (off := off + len * ety.size) (vs := new) hR hlook hl (by omega) d5 hv σ.next σ.next
              have hst := run_storeCells_at P l.b (l.s + off + len * ety.size) el news 0 cs w q1 (by simpa [Nat.add_assoc] using q2) q3
              simp only [Nat.add_zero] at hst
              have hrun := hA.room ⟨l.b, l.s + off, none⟩ len c _ (by omega) (by rw [Addr.add_lit, his]; exact hst)
              refine ⟨β, _, _, hrun, ?_, ?_, ?_⟩
              · simp only [VR]
                exact ⟨l, _, c, hl, rfl, hc, hfit, hoff, hsz, hpos, .inr ⟨rfl, hoc⟩⟩
              · rw [look_put _ (look_some hlook).1]
                simpa [Nat.add_assoc] using q4
              · show Step β β σ.look σ.next σ.next w _
                simpa [Nat.add_assoc] using q5
            | false =>
              rw [hfit] at d2
              simp only [Option.some.injEq, Prod.mk.injEq] at d2
              obtain ⟨rfl, rfl⟩ := d2
              have hclen : new.length = n * ety.size := a1
              have hrow' := hrow
              obtain ⟨blk, el, e1, e2, e3, e4⟩ := hrow'
              have hll : (l.s + off) + len * ety.size ≤ blk.size := by omega
              by_cases hroom : len + n ≤ c
              · -- there was room
                rcases hco with hc0 | ⟨ho, hoc⟩
                · omega
                subst ho
                have hcap : (len + n) * ety.size ≤ c * ety.size := Nat.mul_le_mul_right _ hroom
                have hst := run_storeCells_at P l.b (l.s + off + len * ety.size) el news 0 blk w e1 (by omega) (hv.oneCells d5)
                simp only [Nat.add_zero] at hst
                have hrun := hA.room ⟨l.b, l.s + off, none⟩ len c _ hroom (by rw [Addr.add_lit, his]; exact hst)
                have hG := genNew hR hlook hl (off := off) (k := len * ety.size) d6 d5 ⟨l.b, l.s + off, len * ety.size + n * ety.size, l.sz⟩ (by simp [hclen])
                  (w.setRow l.b (blk.toList.take (l.s + off + len * ety.size) ++ news ++ blk.toList.drop (l.s + off + len * ety.size + news.length)).toArray)
                  (.inl ⟨rfl, rfl⟩) (by simpa [World.setRow] using (hR.own id _ g l hlook hl).2) rfl rfl rfl (by simp [World.setRow])
                  (fun b hb hne => setRow_other w l.b b _ hne)
                  (fun L0 hb hs h0 hn hz hr => by
                    obtain ⟨cs0, el0, p1, p2, p3, p4⟩ := hr
                    rw [hb, e1] at p1
                    simp only [Option.some.injEq, Obj.cells.injEq] at p1
                    obtain ⟨rfl, rfl, _⟩ := p1
                    subst h0
                    refine ⟨_, el, by rw [hb]; exact setRow_heap w l.b blk _ el (0, 0) e1, ?_, ?_, ?_⟩
                    · simp; omega
                    · simp; omega
                    · simp only []
                      rw [seg_grow _ _ (l.s + 0) (len * ety.size) (by simpa using hll) _ _ (by omega)]
                      exact p4)
                  (by
                    refine ⟨_, el, setRow_heap w l.b blk _ el (0, 0) e1, ?_, ?_, ?_⟩
                    · simp; omega
                    · simp; omega
                    · simp only []
                      have := seg_grow' blk.toList news (l.s + off) (len * ety.size) (by simpa using hll)
                      rw [hnl] at this
                      rw [hnl, this]
                      rw [List.take_of_length_le (by simp; omega)]
                      refine VRs.append ?_ hv
                      obtain ⟨cs2, el2, p1, p2, p3⟩ := hrow.seg (off := off) (k := len * ety.size) (by omega)
                      rw [e1] at p1
                      simp only [Option.some.injEq, Obj.cells.injEq] at p1
                      obtain ⟨rfl, rfl, _⟩ := p1
                      rw [List.drop_take]
                      have : off + len * ety.size - off = len * ety.size := by omega
                      rw [this]
                      exact p3)
                  σ.next σ.next
                refine ⟨_, _, _, hrun, ?_, (by rw [look_put _ (look_some hlook).1]; exact hG.1), hG.2⟩
                simp only [VR]
                refine ⟨_, l.s + off, c, put1_same _ _ _ _, rfl, hroom, Nat.le_refl _, ?_, ?_, hpos, .inr ⟨by simp, hoc⟩⟩
                · simp; omega
                · simp only []; omega
              · -- a new block
                have holds : (Builtin.firstCells i.size len (.slice (some ⟨l.b, o, none⟩) len c)).run P w.drew = .ok ((blk.toList.drop (l.s + off)).take (len * ety.size)).toArray w.drew := by
                  rw [his]
                  rcases hco with hc0 | ⟨ho, hoc⟩
                  · have : len = 0 := by omega
                    subst this
                    have := run_firstCells_some (P := P) w.drew ety.size 0 ⟨l.b, o, none⟩ 0 c [] (by simp) (by simp)
                    simpa using this
                  · subst ho
                    refine run_firstCells_some (P := P) w.drew ety.size len ⟨l.b, l.s + off, none⟩ len c _ (by simp; omega) ?_
                    intro j v hj
                    exact cells_at (w := w.drew) e1 hj
                have hrun := hA.grow (some ⟨l.b, o, none⟩) len c _ holds (by omega) d4 (by omega)
                have hge := grownCap_ge w (len + n) c e
                have hol : ((blk.toList.drop (l.s + off)).take (len * ety.size)).length = len * ety.size := by simp; omega
                generalize hG : grownCap w (len + n) c e = G at hrun hge
                have hsz' : ((((blk.toList.drop (l.s + off)).take (len * ety.size)) ++ news).toArray ++ Builtin.zeroCells z.cells (G - (len + n))).size = G * ety.size := by
                  simp only [Array.size_append, List.size_toArray, List.length_append, size_zeroCells, zsize, hnl, hol, ← Nat.add_mul]
                  congr 1; omega
                have hcap : (len + n) * ety.size ≤ G * ety.size := Nat.mul_le_mul_right _ hge
                have hN := genNew hR hlook hl (off := off) (k := len * ety.size) d6 d5 ⟨w.heap.size, 0, len * ety.size + n * ety.size, G * ety.size⟩ (by simp [hclen])
                  (w.drew.alloc (.cells ((((blk.toList.drop (l.s + off)).take (len * ety.size)) ++ news).toArray ++ Builtin.zeroCells z.cells (G - (len + n))) e))
                  (.inr rfl) (by simp) rfl rfl rfl (by simp)
                  (fun b hb hne => heap_alloc_old w.drew _ b hb)
                  (fun L0 hb hs h0 hn hz hr => by
                    obtain ⟨cs0, el0, p1, p2, p3, p4⟩ := hr
                    refine ⟨cs0, el0, ?_, p2, p3, p4⟩
                    rw [← p1]
                    exact heap_alloc_old w.drew _ _ (by rw [hb]; exact (hR.own id _ g l hlook hl).2))
                  (by
                    refine ⟨_, e, heap_alloc_new w.drew _, hsz', ?_, ?_⟩
                    · simp only [hsz']; omega
                    · have hl1 : (((cells.take (off + len * ety.size)).drop off) ++ new).length = len * ety.size + n * ety.size := by simp; omega
                      have hl2 : (((blk.toList.drop (l.s + off)).take (len * ety.size)) ++ news).length = len * ety.size + n * ety.size := by rw [List.length_append, hol, hnl]
                      have t1 : (((cells.take (off + len * ety.size)).drop off) ++ new).take (len * ety.size + n * ety.size) = ((cells.take (off + len * ety.size)).drop off) ++ new := List.take_of_length_le (by omega)
                      have t2 : (((((blk.toList.drop (l.s + off)).take (len * ety.size)) ++ news).toArray ++ Builtin.zeroCells z.cells (G - (len + n))).toList.drop 0).take (len * ety.size + n * ety.size) = ((blk.toList.drop (l.s + off)).take (len * ety.size)) ++ news := by
                        rw [List.drop_zero, Array.toList_append, List.toList_toArray, List.take_append_of_le_length (by omega), List.take_of_length_le (by omega)]
                      simp only [t1, t2]
                      refine VRs.append ?_ hv
                      obtain ⟨cs2, el2, p1, p2, p3⟩ := hrow.seg (off := off) (k := len * ety.size) (by omega)
                      rw [e1] at p1
                      simp only [Option.some.injEq, Obj.cells.injEq] at p1
                      obtain ⟨rfl, rfl, _⟩ := p1
                      rw [List.drop_take]
                      have : off + len * ety.size - off = len * ety.size := by omega
                      rw [this]
                      exact p3)
                  σ.next σ.next
                refine ⟨_, _, _, hrun, ?_, (by rw [look_put _ (look_some hlook).1]; exact hN.1), hN.2⟩
                simp only [VR]
                refine ⟨_, 0, G, put1_same _ _ _ _, rfl, hge, Nat.le_refl _, ?_, ?_, hpos, .inr ⟨by simp, ?_⟩⟩
                · simp only [Nat.zero_add]; omega
                · simp only [Nat.zero_add]; omega
                · simp
        · simp at h2
      · simp at h2
    · simp at h
  · simp at h
end
end Go.Vai
