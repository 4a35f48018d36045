/-
  Maps.
-/
import Derived.Test.YtkjmlnegmmlfdaaGreatDoorVaiO
import Derived.MapKept
import Derived.RangeFuncRecord
namespace Go.Vai
open Go

section
variable {E : Env} {P : Program} {β : Map} {B : Nat} {σ : St} {w : World}
/-- An object that is no row: laid anew in its block. -/
theorem putObj_ok (hR : HR E B β σ.look w) {id : Nat} {o0 : AObj} (h : σ.look id = some o0) {l : Loc} (hl : β id 0 = some l) (o : AObj) (ob : Obj) (ho : ObjR β (w.putObj l.b ob) id o) (lo hi : Nat) :
    HR E B β (upd σ.look id o) (w.putObj l.b ob) ∧ Step β β σ.look lo hi w (w.putObj l.b ob) := by
  refine hR.change id o lo hi (Sub.refl _) (fun i g x e => .inl e) (.inl ⟨_, h⟩) rfl rfl rfl (by simp) ?_ ho
  intro b _ hno
  exact World.putObj_heap_other (fun e => hno 0 l hl e.symm)

theorem scEq_ok {x y : AV} {u v : Value} (h : scEq x y = true) (hu : VR β x u) (hv : VR β y v) : u = v ∧ ∀ n, Instr.sameBits n u v = true := by
  unfold scEq at h
  split at h
  · simp only [VR] at hu hv; subst hu; subst hv
    simp only [Bool.and_eq_true, decide_eq_true_eq, beq_iff_eq] at h
    obtain ⟨rfl, rfl⟩ := h
    exact ⟨rfl, fun n => by cases n <;> simp [Instr.sameBits]⟩
  · rename_i a b
    simp only [VR] at hu hv; subst hu; subst hv
    simp only [beq_iff_eq] at h
    have e : a = b := by
      cases a; cases b
      simp only [ByteArray.mk.injEq]
      exact Array.toList_inj.1 h
    subst e
    exact ⟨rfl, fun n => by cases n <;> simp [Instr.sameBits, MapKept.bytes_beq]⟩
  · simp only [VR] at hu hv; subst hu; subst hv
    simp only [beq_iff_eq] at h
    subst h
    exact ⟨rfl, fun n => by cases n <;> simp [Instr.sameBits]⟩
  · simp at h
theorem scEqs_ok : ∀ {xs ys : List AV} {us vs : List Value}, scEqs xs ys = true → VRs β xs us → VRs β ys vs → us = vs ∧ ∀ n, (us.zip vs).all (fun (x, y) => Instr.sameBits n x y) = true
  | [], [], us, vs, _, hu, hv => by simp only [VRs] at hu hv; subst hu; subst hv; exact ⟨rfl, fun _ => rfl⟩
  | x :: xs, y :: ys, us, vs, h, hu, hv => by
    simp only [scEqs, Bool.and_eq_true] at h
    simp only [VRs] at hu hv
    obtain ⟨u, us', rfl, r1, r2⟩ := hu
    obtain ⟨v, vs', rfl, q1, q2⟩ := hv
    obtain ⟨e1, s1⟩ := scEq_ok h.1 r1 q1
    obtain ⟨e2, s2⟩ := scEqs_ok h.2 r2 q2
    exact ⟨by rw [e1, e2], fun n => by simp only [List.zip_cons_cons, List.all_cons, Bool.and_eq_true]; exact ⟨s1 n, s2 n⟩⟩
  | [], _ :: _, _, _, h, _, _ => by simp [scEqs] at h
  | _ :: _, [], _, _, h, _, _ => by simp [scEqs] at h
theorem sameKey_ok {x y : AV} {u v : Value} (h : sameKeyA x y = true) (hu : VR β x u) (hv : VR β y v) : (Instr.keyThatStays u v).run P w = .ok v w := by
  have hs : Instr.sameBits 10000 u v = true := by
    unfold sameKeyA at h
    rw [Bool.or_eq_true] at h
    rcases h with h | h
    · exact (scEq_ok h hu hv).2 _
    · simp only [Bool.and_eq_true] at h
      obtain ⟨xs, rfl, rx⟩ := isAgg'_ok h.1.1 hu
      obtain ⟨ys, rfl, ry⟩ := isAgg'_ok h.1.2 hv
      obtain ⟨e, s⟩ := scEqs_ok h.2 rx ry
      have e' : xs = ys := Array.toList_inj.1 e
      subst e'
      rw [show (10000 : Nat) = 9999 + 1 from rfl]
      simp only [Instr.sameBits, beq_self_eq_true, Bool.true_and]
      exact s 9999
  simp [Instr.keyThatStays, hs]

/-! finding a key -/
def FindR (β : Map) : Option (Nat × AV) → Option (Nat × Value) → Prop
  | none, a => a = none
  | some (i, v), a => ∃ u, a = some (i, u) ∧ VR β v u
theorem asking_ok (hE : EnvOk E P) {kt : TypeId} {k : AV} {uk : Value} (hk : VR β k uk) : ∀ (es : List AEntry) (cs : List MapEntry) (i : Nat) (r : Option (Nat × AV)), findA E kt k es i = some r → EntriesR β es cs →
    ∃ a, (Instr.findAsking kt uk cs i).run P w = .ok a w ∧ FindR β r a
  | [], cs, i, r, h, hr => by
    simp only [findA, Option.some.injEq] at h; subst h
    simp only [EntriesR] at hr; subst hr
    exact ⟨none, by simp [Instr.findAsking], rfl⟩
  | e :: es, cs, i, r, h, hr => by
    obtain ⟨c, cs', rfl, ⟨hkey, hval, _⟩, hrest⟩ := hr
    simp only [findA] at h
    split at h
    · rename_i he
      simp only [Option.some.injEq] at h; subst h
      have := eqAt_ok hE 10 Op.maxDepth kt k e.key true uk c.key (by decide) he hk hkey w
      exact ⟨some (i, c.val), by simp [Instr.findAsking, Op.equal, this], _, rfl, hval⟩
    · rename_i he
      have := eqAt_ok hE 10 Op.maxDepth kt k e.key false uk c.key (by decide) he hk hkey w
      obtain ⟨a, ha, hra⟩ := asking_ok hE hk es cs' (i + 1) r h hrest
      exact ⟨a, by simp [Instr.findAsking, Op.equal, this, ha], hra⟩
    · simp at h
theorem sameNow_ok (hE : EnvOk E P) {kt : TypeId} {d : TypeDesc} (hd : P.underlying kt = some d) {k y : AV} {uk uy : Value} (hk : VR β k uk) (hy : VR β y uy) {b b' : Bool} (h : eqAt E 10 kt k y = some b)
    (h' : Instr.sameNow d uk uy = some b') (w : World) : b = b' := by
  have h0 := eqAt_ok hE 10 (9 + 1) kt k y b uk uy (by omega) h hk hy w
  unfold Instr.sameNow at h'
  split at h'
  · split at h'
    · rename_i e
      subst e
      simp only [Option.some.injEq] at h'; subst h'
      rw [run_equalIn_int w 9 kt _ _ _ _ hd] at h0
      simpa using h0.symm
    · simp at h'
  · simp only [Option.some.injEq] at h'; subst h'
    rw [run_equalIn_string w 9 kt _ _ hd, bytes_beq] at h0
    rename_i x y
    have e : (x == y) = (x.data.toList == y.data.toList) := by
      cases x; cases y
      rw [Bool.eq_iff_iff, MapKept.bytes_beq]
      simp [ByteArray.mk.injEq]
    rw [e]
    simpa using h0.symm
  · simp only [Option.some.injEq] at h'; subst h'
    rw [run_equalIn_bool w 9 kt _ _ hd] at h0
    simpa using h0.symm
  · simp at h'
theorem now_ok (hE : EnvOk E P) {kt : TypeId} {d : TypeDesc} (hd : P.underlying kt = some d) {k : AV} {uk : Value} (hk : VR β k uk) (w : World) : ∀ (es : List AEntry) (cs : List MapEntry) (i : Nat) (r : Option (Nat × AV)) (a : Option (Nat × Value)),
    findA E kt k es i = some r → EntriesR β es cs → Instr.findNow d uk cs i = some a → FindR β r a
  | [], cs, i, r, a, h, hr, ha => by
    simp only [findA, Option.some.injEq] at h; subst h
    simp only [EntriesR] at hr; subst hr
    simp only [Instr.findNow, Option.some.injEq] at ha; subst ha
    rfl
  | e :: es, cs, i, r, a, h, hr, ha => by
    obtain ⟨c, cs', rfl, ⟨hkey, hval, _⟩, hrest⟩ := hr
    simp only [findA] at h
    simp only [Instr.findNow] at ha
    split at ha
    · rename_i hs
      simp only [Option.some.injEq] at ha; subst ha
      split at h
      · simp only [Option.some.injEq] at h; subst h
        exact ⟨_, rfl, hval⟩
      · rename_i he
        have := sameNow_ok hE hd hk hkey he hs w
        simp at this
      · simp at h
    · rename_i hs
      split at h
      · rename_i he
        have := sameNow_ok hE hd hk hkey he hs w
        simp at this
      · exact now_ok hE hd hk w es cs' (i + 1) r a h hrest ha
      · simp at h
    · simp at ha
theorem find_ok (hE : EnvOk E P) {kt : TypeId} {d : TypeDesc} (hd : P.underlying kt = some d) {k : AV} {uk : Value} (hk : VR β k uk) {es : List AEntry} {cs : List MapEntry} {r : Option (Nat × AV)} (h : findA E kt k es 0 = some r) (hr : EntriesR β es cs) :
    ∃ a, (Instr.findKey kt uk cs).run P w = .ok a w ∧ FindR β r a := by
  cases ha : Instr.findNow d uk cs 0 with
  | none =>
    obtain ⟨a, h1, h2⟩ := asking_ok (w := w) hE hk es cs 0 r h hr
    exact ⟨a, by simp [Instr.findKey, run_underlying hd, ha, h1], h2⟩
  | some a => exact ⟨a, by simp [Instr.findKey, run_underlying hd, ha], now_ok hE hd hk w es cs 0 r a h hr ha⟩

/-! keys that may be asked for -/
theorem keyOk_ok (hE : EnvOk E P) (em : Bool) : ∀ (f D : Nat) (t : TypeId) (v : AV) (u : Value), f ≤ D → keyOk E f t v = true → VR β v u → (Instr.checkKey em D t u).run P w = .ok () w := by
  intro f
  induction f with
  | zero => intro D t v u _ h; simp [keyOk] at h
  | succ f ih =>
    intro D t v u hD h hu
    obtain ⟨D, rfl⟩ : ∃ D', D = D' + 1 := ⟨D - 1, by omega⟩
    simp only [keyOk] at h
    cases ht : E.ty.get t with
    | none => simp [ht] at h
    | some ty =>
      simp only [ht] at h
      have hT := hE.ty t ty ht
      have plain : (P.underlying t = some .bool ∨ (∃ k, P.underlying t = some (.int k)) ∨ P.underlying t = some .string) → (Instr.checkKey em (D + 1) t u).run P w = .ok () w := by
        intro hp
        rcases hp with hp | ⟨k, hp⟩ | hp <;> (rw [Instr.checkKey]; simp only [Sem.run_bind, run_underlying hp, Result.andThen_ok]; cases u <;> rfl)
      split at h
      · rename_i hd; exact plain (.inl (hT.bool hd))
      · rename_i hd; exact plain (.inr (.inl ⟨_, hT.int hd⟩))
      · rename_i hd; exact plain (.inr (.inr (hT.string hd)))
      · rename_i fs hd
        simp only [Bool.and_eq_true] at h
        obtain ⟨⟨h1, _⟩, h3⟩ := h
        obtain ⟨xs, rfl, rx⟩ := isAgg'_ok h1 hu
        obtain ⟨fields, hun, hfs⟩ := hT.struct hd
        rw [Instr.checkKey]
        simp only [Sem.run_bind, run_underlying hun, Result.andThen_ok]
        rw [← Array.forIn_toList]
        subst hfs
        clear hun hd hu
        generalize fields.toList = L at h3
        induction L with
        | nil => simp
        | cons fd L ihl =>
          simp only [List.map_cons, List.all_cons, Bool.and_eq_true] at h3
          obtain ⟨⟨hn, hp⟩, hrest⟩ := h3
          have hn' : fd.name ≠ "_" := by simpa using hn
          split at hp
          · rename_i x hx
            obtain ⟨ux, rux, run⟩ := part_ok hE hx rx
            have p2 := ih D fd.type x ux (by omega) hp rux
            simp only [List.forIn_cons, Sem.run_bind, hn', ne_eq, not_false_eq_true, if_true, run, Result.andThen_ok, p2, Sem.run_pure]
            exact ihl hrest
          · simp at hp
      · simp at h
end
end Go.Vai
