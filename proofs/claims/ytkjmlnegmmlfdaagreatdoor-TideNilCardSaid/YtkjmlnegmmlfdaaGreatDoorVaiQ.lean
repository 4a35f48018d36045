/-
  Operations on maps.
-/
import Derived.Test.YtkjmlnegmmlfdaaGreatDoorVaiP
namespace Go.Vai
open Go

section
variable {E : Env} {P : Program} {β : Map} {B : Nat} {σ : St} {w : World}
theorem zeroA_ok (hE : EnvOk E P) {t : TypeId} {ty : ATy} (ht : E.ty.get t = some ty) :
    ∃ z, (∀ w, (zeroValue t).run P w = .ok z w) ∧ VR β (zeroA ty) z := by
  unfold zeroA
  have hT := hE.ty t ty ht
  cases ha : ty.agg with
  | true =>
    obtain ⟨i, hi, hz⟩ := hT.agg ha
    exact ⟨_, fun w => run_zero hi hz, by simp only [cond_true, VR]; exact ⟨_, rfl, by simpa using VRs.sc _⟩⟩
  | false =>
    obtain ⟨i, x, hi, hz, hx⟩ := hT.one ha
    exact ⟨x, fun w => run_zero hi hz, by simp [hx, VR]⟩
theorem lookup_ok (hE : EnvOk E P) (hR : HR E B β σ.look w) {v m k : AV} {um uk : Value} {t : TypeId} {ok : Bool} (h : aLookup E t m k ok σ = some v) (hm : VR β m um) (hk : VR β k uk) :
    Does E B P β σ σ w (Instr.lookup t um uk ok) v := by
  unfold aLookup at h
  split at h
  · rename_i _ _ _ _ kt et _ ht
    split at h
    · rename_i ety het hkey
      have hu := (hE.ty t _ ht).map rfl
      obtain ⟨z, hz, hzr⟩ := zeroA_ok (β := β) hE het
      have core : ∀ (es : List AEntry) (cs : Array MapEntry), EntriesR β es cs.toList →
          (match findA E kt k es 0 with
            | some (some (_, v)) => some (cond ok (.tuple [v, .sc (.bool true)]) v)
            | some none => some (cond ok (.tuple [zeroA ety, .sc (.bool false)]) (zeroA ety))
            | none => none) = some v →
          ((um = .map none ∧ cs = #[]) ∨ ∃ r c, um = .map (some r) ∧ w.heap[r]? = some (.map cs c)) → Does E B P β σ σ w (Instr.lookup t um uk ok) v := by
        intro es cs hr hv hc
        have hck : ∀ em, (Instr.checkKey em 10000 kt uk).run P w = .ok () w := fun em => keyOk_ok hE em 10 10000 kt k uk (by omega) hkey hk
        have hkd : ∃ d, P.underlying kt = some d := by
          cases hkt : E.ty.get kt with
          | none => simp [keyOk, hkt] at hkey
          | some kty => obtain ⟨d, hd, _⟩ := (hE.ty kt kty hkt).und; exact ⟨d, hd⟩
        obtain ⟨d, hd⟩ := hkd
        split at hv
        · rename_i i x hf
          obtain ⟨a, ha, hfr⟩ := find_ok (w := w) hE hd hk hf hr
          obtain ⟨ux, rfl, hux⟩ := hfr
          simp only [Option.some.injEq] at hv; subst hv
          refine ⟨β, cond ok (.tuple #[ux, .bool true]) ux, w, ?_, ?_, hR, Step.refl _ _ _ _⟩
          · rcases hc with ⟨rfl, rfl⟩ | ⟨r, c, rfl, hc⟩
            · cases ok <;> simp [Instr.lookup, run_underlying hu, hck, ha]
            · cases ok <;> simp [Instr.lookup, run_underlying hu, MapKept.run_getObj_map hc, hck, ha]
          · cases ok
            · exact hux
            · simp only [cond_true, VR]; exact ⟨_, rfl, VRs.cons hux (VRs.cons (by simp [VR]) VRs.nil)⟩
        · rename_i hf
          obtain ⟨a, ha, hfr⟩ := find_ok (w := w) hE hd hk hf hr
          simp only [FindR] at hfr
          subst hfr
          simp only [Option.some.injEq] at hv; subst hv
          refine ⟨β, cond ok (.tuple #[z, .bool false]) z, w, ?_, ?_, hR, Step.refl _ _ _ _⟩
          · rcases hc with ⟨rfl, rfl⟩ | ⟨r, c, rfl, hc⟩
            · cases ok <;> simp [Instr.lookup, run_underlying hu, hck, ha, hz w]
            · cases ok <;> simp [Instr.lookup, run_underlying hu, MapKept.run_getObj_map hc, hck, ha, hz w]
          · cases ok
            · exact hzr
            · simp only [cond_true, VR]; exact ⟨_, rfl, VRs.cons hzr (VRs.cons (by simp [VR]) VRs.nil)⟩
        · simp at hv
      split at h
      · rename_i es hes
        unfold entriesOf at hes
        split at hes
        · simp only [Option.some.injEq] at hes; subst hes
          simp only [VR] at hm; subst hm
          exact core [] #[] (by simp [EntriesR]) h (.inl ⟨rfl, rfl⟩)
        · rename_i id
          split at hes
          · rename_i es' clock hlook
            simp only [Option.some.injEq] at hes; subst hes
            simp only [VR] at hm
            obtain ⟨l, hl, rfl⟩ := hm
            obtain ⟨l', hl', cs, hh, hr⟩ := hR.obj id _ hlook
            rw [hl] at hl'; simp only [Option.some.injEq] at hl'; subst hl'
            exact core es' cs hr h (.inr ⟨_, clock, rfl, hh⟩)
          · simp at hes
        · simp at hes
      · simp at h
    · simp at h
  · simp at h

theorem EntriesR.push {es : List AEntry} {cs : List MapEntry} (h : EntriesR β es cs) {e : AEntry} {c : MapEntry} (h' : EntryR β e c) : EntriesR β (es ++ [e]) (cs ++ [c]) := by
  induction es generalizing cs with
  | nil => simp only [EntriesR] at h; subst h; exact ⟨c, [], rfl, h', rfl⟩
  | cons x es ih =>
    obtain ⟨d, cs', rfl, r1, r2⟩ := h
    exact ⟨d, cs' ++ [c], rfl, r1, ih r2⟩
theorem EntriesR.modify {es : List AEntry} {cs : List MapEntry} (h : EntriesR β es cs) (i : Nat) {f : AEntry → AEntry} {g : MapEntry → MapEntry} (hfg : ∀ e c, EntryR β e c → EntryR β (f e) (g c)) :
    EntriesR β (es.modify i f) (cs.modify i g) := by
  induction es generalizing cs i with
  | nil => simp only [EntriesR] at h; subst h; cases i <;> simp [EntriesR]
  | cons x es ih =>
    obtain ⟨d, cs', rfl, r1, r2⟩ := h
    cases i with
    | zero => exact ⟨_, _, by simp, hfg _ _ r1, r2⟩
    | succ i => exact ⟨_, _, by simp, r1, ih r2 i⟩
theorem EntriesR.eraseIdx {es : List AEntry} {cs : List MapEntry} (h : EntriesR β es cs) (i : Nat) : EntriesR β (es.eraseIdx i) (cs.eraseIdx i) := by
  induction es generalizing cs i with
  | nil => simp only [EntriesR] at h; subst h; cases i <;> simp [EntriesR]
  | cons x es ih =>
    obtain ⟨d, cs', rfl, r1, r2⟩ := h
    cases i with
    | zero => simpa using r2
    | succ i => exact ⟨_, _, by simp, r1, ih r2 i⟩
theorem EntriesR.get {es : List AEntry} {cs : List MapEntry} (h : EntriesR β es cs) {i : Nat} {e : AEntry} (he : es[i]? = some e) : ∃ c, cs[i]? = some c ∧ EntryR β e c := by
  induction es generalizing cs i with
  | nil => simp at he
  | cons x es ih =>
    obtain ⟨d, cs', rfl, r1, r2⟩ := h
    cases i with
    | zero => simp at he; subst he; exact ⟨d, rfl, r1⟩
    | succ i => simpa using ih r2 (by simpa using he)
theorem find_get (E : Env) (kt : TypeId) (k : AV) : ∀ (es : List AEntry) (i j : Nat) (v : AV), findA E kt k es i = some (some (j, v)) → i ≤ j ∧ ∃ e, es[j - i]? = some e ∧ e.val = v
  | [], i, j, v, h => by simp [findA] at h
  | e :: es, i, j, v, h => by
    simp only [findA] at h
    split at h
    · simp only [Option.some.injEq, Prod.mk.injEq] at h
      obtain ⟨rfl, rfl⟩ := h
      exact ⟨Nat.le_refl _, e, by simp, rfl⟩
    · obtain ⟨a, e', b, c⟩ := find_get E kt k es (i + 1) j v h
      refine ⟨by omega, e', ?_, c⟩
      have : j - i = (j - (i + 1)) + 1 := by omega
      rw [this, List.getElem?_cons_succ]
      exact b
    · simp at h

theorem update_ok (hE : EnvOk E P) (hR : HR E B β σ.look w) {r m k v : AV} {um uk uv : Value} {t : TypeId} {σ' : St} (h : aUpdate E t m k v σ = some (r, σ')) (hm : VR β m um) (hk : VR β k uk) (hv : VR β v uv) :
    r = .sc undef ∧ ∃ w', (Instr.mapUpdate t um uk uv).run P w = .ok () w' ∧ HR E B β σ'.look w' ∧ Step β β σ.look σ.next σ'.next w w' := by
  unfold aUpdate at h
  split at h
  · rename_i _ _ _ _ kt et _ id ht
    split at h
    · rename_i es clock hlook hkey
      have hu := (hE.ty t _ ht).map rfl
      simp only [VR] at hm
      obtain ⟨l, hl, rfl⟩ := hm
      obtain ⟨l', hl', cs, hh, hr⟩ := hR.obj id _ hlook
      rw [hl] at hl'; simp only [Option.some.injEq] at hl'; subst hl'
      have hlt : l.b < w.heap.size := (hR.own id _ 0 l hlook hl).2
      have hck : ∀ em, (Instr.checkKey em 10000 kt uk).run P w = .ok () w := fun em => keyOk_ok hE em 10 10000 kt k uk (by omega) hkey hk
      have hkd : ∃ d, P.underlying kt = some d := by
        cases hkt : E.ty.get kt with
        | none => simp [keyOk, hkt] at hkey
        | some kty => obtain ⟨d, hd, _⟩ := (hE.ty kt kty hkt).und; exact ⟨d, hd⟩
      obtain ⟨d, hd⟩ := hkd
      split at h
      · rename_i i x hf
        split at h
        · rename_i e he
          obtain ⟨h1, h2⟩ := condT h
          simp only [Option.some.injEq, Prod.mk.injEq] at h2
          obtain ⟨rfl, rfl⟩ := h2
          obtain ⟨a, ha, hfr⟩ := find_ok (w := w) hE hd hk hf hr
          obtain ⟨ux, rfl, hux⟩ := hfr
          obtain ⟨c, hc, hce⟩ := hr.get he
          have hc' : cs[i]? = some c := by simpa using hc
          have hst := sameKey_ok (P := P) (w := w) h1 hce.1 hk
          have hP := putObj_ok hR hlook hl (.map (es.modify i fun e => { e with key := k, val := v }) clock) (.map (cs.modify i fun e => { e with key := uk, val := uv }) clock)
            ⟨l, hl, _, World.putObj_heap_same hlt, by rw [Array.toList_modify]; exact hr.modify i fun e c hec => ⟨hk, hv, hec.2.2⟩⟩ σ.next σ.next
          refine ⟨rfl, _, ?_, by rw [look_put _ (look_some hlook).1]; exact hP.1, hP.2⟩
          simp [Instr.mapUpdate, run_underlying hu, MapKept.run_getObj_map hh, hck, ha, hc', hst, MapKept.run_setObj_map _ hh, World.putObj]
        · simp at h
      · rename_i hf
        simp only [Option.some.injEq, Prod.mk.injEq] at h
        obtain ⟨rfl, rfl⟩ := h
        obtain ⟨a, ha, hfr⟩ := find_ok (w := w) hE hd hk hf hr
        simp only [FindR] at hfr
        subst hfr
        have hP := putObj_ok hR hlook hl (.map (es ++ [{ key := k, val := v, born := clock }]) (clock + 1)) (.map (cs.push { key := uk, val := uv, born := clock }) (clock + 1))
          ⟨l, hl, _, World.putObj_heap_same hlt, by rw [Array.toList_push]; exact hr.push ⟨hk, hv, rfl⟩⟩ σ.next σ.next
        refine ⟨rfl, _, ?_, by rw [look_put _ (look_some hlook).1]; exact hP.1, hP.2⟩
        simp [Instr.mapUpdate, run_underlying hu, MapKept.run_getObj_map hh, hck, ha, MapKept.run_setObj_map _ hh, World.putObj]
      · simp at h
    · simp at h
  · simp at h

theorem delete_ok (hE : EnvOk E P) (hR : HR E B β σ.look w) {r m k : AV} {um uk : Value} {t : TypeId} {σ' : St} {ats : Array TypeId} (h : aDelete E t m k σ = some (r, σ')) (hm : VR β m um) (hk : VR β k uk) (hat : ats[0]? = some t) (ty : TypeId) :
    Does E B P β σ σ' w (Builtin.delete_ ats ty #[um, uk]) (.tuple []) := by
  unfold aDelete at h
  split at h
  · rename_i _ _ _ _ kt et _ id ht
    split at h
    · rename_i es clock hlook hkey
      have hu := (hE.ty t _ ht).map rfl
      simp only [VR] at hm
      obtain ⟨l, hl, rfl⟩ := hm
      obtain ⟨l', hl', cs, hh, hr⟩ := hR.obj id _ hlook
      rw [hl] at hl'; simp only [Option.some.injEq] at hl'; subst hl'
      have hlt : l.b < w.heap.size := (hR.own id _ 0 l hlook hl).2
      have hck : ∀ em, (Instr.checkKey em 10000 kt uk).run P w = .ok () w := fun em => keyOk_ok hE em 10 10000 kt k uk (by omega) hkey hk
      have hkd : ∃ d, P.underlying kt = some d := by
        cases hkt : E.ty.get kt with
        | none => simp [keyOk, hkt] at hkey
        | some kty => obtain ⟨d, hd, _⟩ := (hE.ty kt kty hkt).und; exact ⟨d, hd⟩
      obtain ⟨d, hd⟩ := hkd
      split at h
      · rename_i i x hf
        simp only [Option.some.injEq, Prod.mk.injEq] at h
        obtain ⟨rfl, rfl⟩ := h
        obtain ⟨a, ha, hfr⟩ := find_ok (w := w) hE hd hk hf hr
        obtain ⟨ux, rfl, hux⟩ := hfr
        have htl : (cs.eraseIdxIfInBounds i).toList = cs.toList.eraseIdx i := by
          unfold Array.eraseIdxIfInBounds
          split
          · simp
          · rename_i hge
            rw [List.eraseIdx_of_length_le (by simpa using hge)]
        have hP := putObj_ok hR hlook hl (.map (es.eraseIdx i) clock) (.map (cs.eraseIdxIfInBounds i) clock)
          ⟨l, hl, _, World.putObj_heap_same hlt, by rw [htl]; exact hr.eraseIdx i⟩ σ.next σ.next
        refine ⟨β, .tuple #[], _, ?_, by simp [VR, VRs], by rw [look_put _ (look_some hlook).1]; exact hP.1, hP.2⟩
        simp [Builtin.delete_, hat, run_underlying hu, MapKept.run_getObj_map hh, hck, ha, MapKept.run_setObj_map _ hh, World.putObj]
      · rename_i hf
        simp only [Option.some.injEq, Prod.mk.injEq] at h
        obtain ⟨rfl, rfl⟩ := h
        obtain ⟨a, ha, hfr⟩ := find_ok (w := w) hE hd hk hf hr
        simp only [FindR] at hfr
        subst hfr
        have hP := putObj_ok hR hlook hl (.map es clock) (.map cs clock) ⟨l, hl, _, World.putObj_heap_same hlt, hr⟩ σ.next σ.next
        have hsame : upd σ.look id (.map es clock) = σ.look := by
          funext j; unfold upd
          split
          · rename_i e; subst e; exact hlook.symm
          · rfl
        rw [hsame] at hP
        refine ⟨β, .tuple #[], _, ?_, by simp [VR, VRs], hP.1, hP.2⟩
        simp [Builtin.delete_, hat, run_underlying hu, MapKept.run_getObj_map hh, hck, ha, MapKept.run_setObj_map _ hh, World.putObj]
      · simp at h
    · simp at h
  · simp at h
end
end Go.Vai
