/-
  Equality, building, and the operations on numbers, strings and places together.
-/
import Derived.Test.YtkjmlnegmmlfdaaGreatDoorVaiF
namespace Go.Vai
open Go

theorem isAgg'_ok {β : Map} {x : AV} {u : Value} (h : isAgg' x = true) (hu : VR β x u) : ∃ cs, u = .agg cs ∧ VRs β (cellsOf x) cs.toList := by
  unfold isAgg' at h
  split at h
  · simp only [VR] at hu; obtain ⟨cs, rfl, r⟩ := hu; exact ⟨cs, rfl, r⟩
  · simp only [VR] at hu; subst hu; exact ⟨_, rfl, VRs.sc _⟩
  · simp at h
theorem bytes_beq (a b : ByteArray) : (a.toList == b.toList) = (a.data.toList == b.data.toList) := by rw [ByteArray.toList_eq, ByteArray.toList_eq]
theorem fieldsOf_eq {P : Program} {t : TypeId} {fs : Array Field} (h : P.underlying t = some (.struct fs)) : P.fieldsOf t = fs := by simp [Program.fieldsOf, h]
theorem eqAt_ok {E : Env} {P : Program} (hE : EnvOk E P) {β : Map} : ∀ (f D : Nat) (t : TypeId) (x y : AV) (b : Bool) (u v : Value), f ≤ D → eqAt E f t x y = some b → VR β x u → VR β y v →
    ∀ w, (Op.equalIn D t u v).run P w = .ok b w := by
  intro f
  induction f with
  | zero => intro D t x y b u v _ h; simp [eqAt] at h
  | succ f ih =>
    intro D t x y b u v hD h hu hv w
    obtain ⟨D, rfl⟩ : ∃ D', D = D' + 1 := ⟨D - 1, by omega⟩
    simp only [eqAt] at h
    cases ht : E.ty.get t with
    | none => simp [ht] at h
    | some ty =>
      simp only [ht] at h
      have hT := hE.ty t ty ht
      split at h
      · rename_i hd
        split at h
        · simp only [VR] at hu hv; subst hu; subst hv
          simp only [Option.some.injEq] at h; subst h
          exact run_equalIn_bool w D t _ _ (hT.bool hd)
        · simp at h
      · rename_i k0 hd
        split at h
        · simp only [VR] at hu hv; subst hu; subst hv
          obtain ⟨h1, h2⟩ := condT h
          have hk := of_decide_eq_true h1
          subst hk
          simp only [Option.some.injEq] at h2; subst h2
          exact run_equalIn_int w D t _ _ _ _ (hT.int hd)
        · simp at h
      · rename_i hd
        split at h
        · simp only [VR] at hu hv; subst hu; subst hv
          simp only [Option.some.injEq] at h; subst h
          rw [run_equalIn_string w D t _ _ (hT.string hd), bytes_beq]
        · simp at h
      · rename_i fs hd
        obtain ⟨h1, h2⟩ := condT h
        simp only [Bool.and_eq_true] at h1
        obtain ⟨⟨⟨⟨a1, a2⟩, a3⟩, a4⟩, a5⟩ := h1
        obtain ⟨xs, rfl, rx⟩ := isAgg'_ok a2 hu
        obtain ⟨ys, rfl, ry⟩ := isAgg'_ok a3 hv
        obtain ⟨fields, hun, hfs⟩ := hT.struct hd
        rw [run_equalIn_struct w D t xs ys (by rw [fieldsOf_eq hun]; exact hun) (hT.eq a1).1, fieldsOf_eq hun]
        subst hfs
        clear hun hd a1 a2 a3 a4 a5 h hu hv
        revert b
        generalize fields.toList = l
        induction l with
        | nil => intro b h2; simp only [List.map_nil, List.foldr_nil, Option.some.injEq] at h2; subst h2; simp [Op.eqFields]
        | cons fd l ihl =>
          intro b h2
          simp only [List.map_cons, List.foldr_cons] at h2
          cases hn : (fd.name != "_") with
          | false => simp [hn] at h2
          | true =>
            simp only [hn] at h2
            have hn' : fd.name ≠ "_" := by simpa using hn
            split at h2
            · rename_i a c hp hq
              obtain ⟨ua, ra, runa⟩ := part_ok hE hp rx
              obtain ⟨uc, rc, runc⟩ := part_ok hE hq ry
              split at h2
              · rename_i he
                have := ih D fd.type a c true ua uc (by omega) he ra rc w
                simp only [Op.eqFields, hn', ne_eq, not_false_eq_true, if_true, Sem.run_bind, runa, runc, Result.andThen_ok, this, Bool.not_true, Bool.false_eq_true, if_false]
                exact ihl b h2
              · rename_i he
                have := ih D fd.type a c false ua uc (by omega) he ra rc w
                simp only [Option.map_eq_some_iff] at h2
                obtain ⟨_, _, rfl⟩ := h2
                simp only [Op.eqFields, hn', ne_eq, not_false_eq_true, if_true, Sem.run_bind, runa, runc, Result.andThen_ok, this, Bool.not_false, Sem.run_pure]
              · simp at h2
            · simp at h2
      · simp at h

section nils
variable {P : Program} {β : Map} {x y : AV} {b : Bool} {u v : Value} {w : World} {t : TypeId}
theorem eqSl_ok (D : Nat) {e : TypeId} (h : eqSl x y = some b) (hu : VR β x u) (hv : VR β y v) (ht : P.underlying t = some (.slice e)) : (Op.equalIn (D + 1) t u v).run P w = .ok b w := by
  unfold eqSl at h
  split at h <;> simp only [Option.some.injEq, reduceCtorEq] at h <;> subst h <;> simp only [VR] at hu hv
  · obtain ⟨l, o, c, _, rfl, _⟩ := hu; subst hv
    simp [Op.equalIn, run_underlying ht]
  · obtain ⟨l, o, c, _, rfl, _⟩ := hv; subst hu
    simp [Op.equalIn, run_underlying ht]
  · subst hu; subst hv
    simp [Op.equalIn, run_underlying ht]
theorem eqMp_ok (D : Nat) {k e : TypeId} (h : eqMp x y = some b) (hu : VR β x u) (hv : VR β y v) (ht : P.underlying t = some (.map k e)) : (Op.equalIn (D + 1) t u v).run P w = .ok b w := by
  unfold eqMp at h
  split at h <;> simp only [Option.some.injEq, reduceCtorEq] at h <;> subst h <;> simp only [VR] at hu hv
  · obtain ⟨l, _, rfl⟩ := hu; subst hv
    simp [Op.equalIn, run_underlying ht]
  · obtain ⟨l, _, rfl⟩ := hv; subst hu
    simp [Op.equalIn, run_underlying ht]
  · subst hu; subst hv
    simp [Op.equalIn, run_underlying ht]
theorem eqFn_ok (D : Nat) {a c : Array TypeId} {e : Bool} (h : eqFn x y = some b) (hu : VR β x u) (hv : VR β y v) (ht : P.underlying t = some (.func a c e)) : (Op.equalIn (D + 1) t u v).run P w = .ok b w := by
  unfold eqFn at h
  split at h <;> simp only [Option.some.injEq, reduceCtorEq] at h <;> subst h <;> simp only [VR] at hu hv
  · obtain ⟨l, _, rfl, _⟩ := hu; subst hv
    simp [Op.equalIn, run_underlying ht]
  · obtain ⟨l, _, rfl, _⟩ := hv; subst hu
    simp [Op.equalIn, run_underlying ht]
  · subst hu; subst hv
    simp [Op.equalIn, run_underlying ht]
  · subst hu; subst hv
    simp [Op.equalIn, run_underlying ht]
  · subst hu; subst hv
    simp [Op.equalIn, run_underlying ht]
theorem run_sameAddr_apart {a c : Addr} {ca cc : Array Value} {ta tc : TypeId} (ha : w.heap[a.block]? = some (.cells ca ta (0, 0))) (hc : w.heap[c.block]? = some (.cells cc tc (0, 0))) (hne : a.block ≠ c.block) :
    (sameAddr a c).run P w = .ok false w := by
  have f1 : ∀ o s, w.frozen? ⟨a.block, o, s⟩ = false := by intro o s; simp [World.frozen?, ha]
  have f2 : ∀ o s, w.frozen? ⟨c.block, o, s⟩ = false := by intro o s; simp [World.frozen?, hc]
  have s1 : w.shape? a.block = some (ta, ca.size) := by simp [World.shape?, ha]
  have s2 : w.shape? c.block = some (tc, cc.size) := by simp [World.shape?, hc]
  obtain ⟨ab, ao, as⟩ := a
  obtain ⟨cb, co, cs⟩ := c
  simp only at f1 f2 s1 s2 hne
  have hne' : (ab == cb) = false := by simpa using hne
  simp [sameAddr, hne', frozen, noView, viewAt, shape, mayBeOne, stringish, Sem.run, f1, f2, s1, s2]
theorem eqPtr_ok (D : Nat) {E : Env} {B : Nat} {σ : St} (hR : HR E B β σ.look w) {e : TypeId} {n : Nat} (h : eqPtr σ x y = some b) (hu : VR β x u) (hv : VR β y v) (ht : P.underlying t = some (.pointer e))
    (hs : (sizeOf e).run P w = .ok n w) (hn : n ≠ 0) : (Op.equalIn (D + 1) t u v).run P w = .ok b w := by
  unfold eqPtr at h
  split at h
  · rename_i i g o _ j h' q _
    simp only [VR] at hu hv
    obtain ⟨l, hl, _, _, rfl⟩ := hu
    obtain ⟨l', hl', _, _, rfl⟩ := hv
    cases hij : Nat.beq i j with
    | true =>
      have hij := beqT hij
      subst hij
      simp only [hij, cond_true] at h
      obtain ⟨h1, h2⟩ := condT h
      have hgh := beqT h1
      subst hgh
      rw [hl] at hl'
      simp only [Option.some.injEq] at hl' h2
      subst hl'; subst h2
      have e1 : (({ block := l.b, off := l.s + o } : Addr) == { block := l.b, off := l.s + q }) = Nat.beq o q := by
        by_cases hoq : o = q
        · subst hoq; simp
        · rw [beqF hoq, beq_eq_false_iff_ne]
          intro e; simp only [Addr.mk.injEq] at e; omega
      simp [Op.equalIn, run_underlying ht, hs, hn, sameAddr, e1]
    | false =>
      simp only [hij, cond_false] at h
      split at h
      · rename_i gi mi ci gj mj cj hi hj
        obtain ⟨h1, h2⟩ := condT h
        simp only [Bool.and_eq_true] at h1
        simp only [Option.some.injEq] at h2
        subst h2
        have hne : i ≠ j := by intro e; subst e; simp at hij
        have oi := hR.obj i _ hi
        have oj := hR.obj j _ hj
        obtain ⟨L, hL, _, _, cs, el, hc, _⟩ := oi.2.2.2.2 g (bleT h1.1.1.1) (bleT h1.1.1.2)
        obtain ⟨L', hL', _, _, cs', el', hc', _⟩ := oj.2.2.2.2 h' (bleT h1.1.2) (bleT h1.2)
        rw [hl] at hL; rw [hl'] at hL'
        simp only [Option.some.injEq] at hL hL'
        subst hL; subst hL'
        have hb : l.b ≠ l'.b := fun e => hne (hR.inj i _ j _ g h' l l' hi hj hl hl' e)
        have := run_sameAddr_apart (P := P) (w := w) (a := ⟨l.b, l.s + o, none⟩) (c := ⟨l'.b, l'.s + q, none⟩) hc hc' hb
        simp [Op.equalIn, run_underlying ht, hs, hn, this]
      · simp at h
  · simp only [VR] at hu hv
    obtain ⟨l, _, _, _, rfl⟩ := hu; subst hv
    simp only [Option.some.injEq] at h; subst h
    simp [Op.equalIn, run_underlying ht]
  · simp only [VR] at hu hv
    obtain ⟨l, _, _, _, rfl⟩ := hv; subst hu
    simp only [Option.some.injEq] at h; subst h
    simp [Op.equalIn, run_underlying ht]
  · simp only [VR] at hu hv
    subst hu; subst hv
    simp only [Option.some.injEq] at h; subst h
    simp [Op.equalIn, run_underlying ht]
  · simp at h
theorem equal_eq (t : TypeId) (u v : Value) : Op.equal t u v = Op.equalIn (9999 + 1) t u v := rfl
end nils
/-! '==', '!=', numbers, strings -/
section bins
variable {E : Env} {P : Program} {β : Map} {B : Nat} {σ : St} {w : World}
/-- The values with which '==' goes by the type. -/
def goesByType : Value → Bool
  | .pointer _ | .slice .. | .map _ | .func .. | .nilFunc | .bool _ | .agg _ => true
  | _ => false
theorem run_eql {t : TypeId} {u v : Value} {b : Bool} (h : goesByType u = true) (h' : goesByType v = true) (hr : (Op.equal t u v).run P w = .ok b w) : (binOp .eql t u v).run P w = .ok (.bool b) w := by
  cases u <;> simp only [goesByType, Bool.false_eq_true] at h <;> cases v <;> simp only [goesByType, Bool.false_eq_true] at h' <;> simp [binOp, hr]
theorem run_neq {t : TypeId} {u v : Value} {b : Bool} (h : goesByType u = true) (h' : goesByType v = true) (hr : (Op.equal t u v).run P w = .ok b w) : (binOp .neq t u v).run P w = .ok (.bool (!b)) w := by
  cases u <;> simp only [goesByType, Bool.false_eq_true] at h <;> cases v <;> simp only [goesByType, Bool.false_eq_true] at h' <;> simp [binOp, hr]
theorem run_eqGuard_other (op : BinOp) (t : TypeId) (x y : Operand) {u v : Value} (h : (∀ cs, u ≠ .agg cs) ∧ u ≠ .nilIface) : (eqGuard op t x y u v).run P w = .ok () w := by
  cases u <;> first
    | (exact absurd rfl (h.1 _))
    | (exact absurd rfl h.2)
    | (cases op <;> simp [eqGuard])
theorem eqSl_by {x y : AV} {b : Bool} {u v : Value} (h : eqSl x y = some b) (hu : VR β x u) (hv : VR β y v) : (goesByType u = true ∧ goesByType v = true) ∧ ((∀ cs, u ≠ .agg cs) ∧ u ≠ .nilIface) := by
  unfold eqSl at h
  split at h <;> (try simp only [VR] at hu hv)
  · obtain ⟨l, o, c, _, rfl, _⟩ := hu; subst hv; simp [goesByType]
  · obtain ⟨l, o, c, _, rfl, _⟩ := hv; subst hu; simp [goesByType]
  · subst hu; subst hv; simp [goesByType]
  · simp at h
theorem eqMp_by {x y : AV} {b : Bool} {u v : Value} (h : eqMp x y = some b) (hu : VR β x u) (hv : VR β y v) : (goesByType u = true ∧ goesByType v = true) ∧ ((∀ cs, u ≠ .agg cs) ∧ u ≠ .nilIface) := by
  unfold eqMp at h
  split at h <;> (try simp only [VR] at hu hv)
  · obtain ⟨l, _, rfl⟩ := hu; subst hv; simp [goesByType]
  · obtain ⟨l, _, rfl⟩ := hv; subst hu; simp [goesByType]
  · subst hu; subst hv; simp [goesByType]
  · simp at h
theorem eqFn_by {x y : AV} {b : Bool} {u v : Value} (h : eqFn x y = some b) (hu : VR β x u) (hv : VR β y v) : (goesByType u = true ∧ goesByType v = true) ∧ ((∀ cs, u ≠ .agg cs) ∧ u ≠ .nilIface) := by
  unfold eqFn at h
  split at h <;> (try simp only [VR] at hu hv)
  · obtain ⟨l, _, rfl, _⟩ := hu; subst hv; simp [goesByType]
  · obtain ⟨l, _, rfl, _⟩ := hv; subst hu; simp [goesByType]
  · subst hu; subst hv; simp [goesByType]
  · subst hu; subst hv; simp [goesByType]
  · subst hu; subst hv; simp [goesByType]
  · simp at h
theorem eqPtr_by {x y : AV} {b : Bool} {u v : Value} (h : eqPtr σ x y = some b) (hu : VR β x u) (hv : VR β y v) : (goesByType u = true ∧ goesByType v = true) ∧ ((∀ cs, u ≠ .agg cs) ∧ u ≠ .nilIface) := by
  unfold eqPtr at h
  split at h <;> (try simp only [VR] at hu hv)
  · obtain ⟨l, _, _, _, rfl⟩ := hu; obtain ⟨l', _, _, _, rfl⟩ := hv; simp [goesByType]
  · obtain ⟨l, _, _, _, rfl⟩ := hu; subst hv; simp [goesByType]
  · obtain ⟨l, _, _, _, rfl⟩ := hv; subst hu; simp [goesByType]
  · subst hu; subst hv; simp [goesByType]
  · simp at h
theorem bin_ok (hE : EnvOk E P) (hR : HR E B β σ.look w) {op : BinOp} {t : TypeId} {x y v : AV} {ux uy : Value} (h : aBin E σ op t x y = some v) (hx : VR β x ux) (hy : VR β y uy) (ox oy : Operand) :
    ∃ r, VR β v r ∧ (do eqGuard op t ox oy ux uy; binOp op t ux uy : Sem Value).run P w = .ok r w := by
  have fin : ∀ (b : Bool), ((goesByType ux = true ∧ goesByType uy = true) ∧ ((∀ cs, ux ≠ .agg cs) ∧ ux ≠ .nilIface)) → (Op.equal t ux uy).run P w = .ok b w →
      (op = .eql → v = .sc (.bool b)) → (op = .neq → v = .sc (.bool (!b))) → (op = .eql ∨ op = .neq) →
      ∃ r, VR β v r ∧ (do eqGuard op t ox oy ux uy; binOp op t ux uy : Sem Value).run P w = .ok r w := by
    intro b hb hr h1 h2 h3
    rcases h3 with rfl | rfl
    · exact ⟨.bool b, by rw [h1 rfl]; simp [VR], by simp [run_eqGuard_other _ _ _ _ hb.2, run_eql hb.1.1 hb.1.2 hr]⟩
    · exact ⟨.bool (!b), by rw [h2 rfl]; simp [VR], by simp [run_eqGuard_other _ _ _ _ hb.2, run_neq hb.1.1 hb.1.2 hr]⟩
  unfold aBin at h
  split at h
  · rename_i k a k' b
    simp only [VR] at hx hy; subst hx; subst hy
    have g0 : (eqGuard op t ox oy (.int k a) (.int k' b)).run P w = .ok () w := run_eqGuard_other _ _ _ _ (by simp)
    split at h
    · obtain ⟨h1, h2⟩ := condT h
      have hb := of_decide_eq_true h1
      simp only [Option.some.injEq] at h2; subst h2
      have hb' : ¬ b < 0 := by omega
      exact ⟨.int k (k.wrap (a * 2 ^ (min b.toNat k.bits))), by simp [VR], by simp [g0, binOp, Op.shift, hb']⟩
    · obtain ⟨h1, h2⟩ := condT h
      have hb := of_decide_eq_true h1
      simp only [Option.some.injEq] at h2; subst h2
      have hb' : ¬ b < 0 := by omega
      exact ⟨.int k (a.fdiv (2 ^ (min b.toNat k.bits))), by simp [VR], by simp [g0, binOp, Op.shift, hb']⟩
    · obtain ⟨h1, h2⟩ := condT h
      have hk := of_decide_eq_true h1
      subst hk
      simp only [Option.map_eq_some_iff] at h2
      obtain ⟨r, hr, rfl⟩ := h2
      exact ⟨r, by simp [VR], by simp only [Sem.run_bind, g0, Result.andThen_ok]; exact intBin_ok hr t w⟩
  · rename_i a b
    simp only [VR] at hx hy; subst hx; subst hy
    have g0 : (eqGuard op t ox oy (.string a) (.string b)).run P w = .ok () w := run_eqGuard_other _ _ _ _ (by simp)
    split at h
    · simp only [Option.some.injEq] at h; subst h
      exact ⟨.bool (a.data.toList == b.data.toList), by simp [VR], by simp only [Sem.run_bind, g0, Result.andThen_ok]; simp only [binOp, Op.stringOp, bytes_beq, Sem.run_pure]⟩
    · simp only [Option.some.injEq] at h; subst h
      exact ⟨.bool (!(a.data.toList == b.data.toList)), by simp [VR], by simp only [Sem.run_bind, g0, Result.andThen_ok]; simp only [binOp, Op.stringOp, bytes_beq, Sem.run_pure]⟩
    · simp at h
  · rename_i a b
    simp only [VR] at hx hy; subst hx; subst hy
    split at h
    · rename_i _ _ _ _ _ ht
      simp only [Option.some.injEq] at h
      refine fin (a == b) (by simp [goesByType]) ?_ (fun _ => h.symm) (fun e => by cases e) (.inl rfl)
      rw [equal_eq]; exact run_equalIn_bool w _ t a b ((hE.ty t _ ht).bool rfl)
    · rename_i _ _ _ _ _ ht
      simp only [Option.some.injEq] at h
      refine fin (a == b) (by simp [goesByType]) ?_ (fun e => by cases e) (fun _ => h.symm) (.inr rfl)
      rw [equal_eq]; exact run_equalIn_bool w _ t a b ((hE.ty t _ ht).bool rfl)
    · simp at h
  · split at h
    · rename_i _ _ _ _ fs _ ht
      simp only [Option.map_eq_some_iff] at h
      obtain ⟨b, hb, rfl⟩ := h
      have hT := hE.ty t _ ht
      have hr := eqAt_ok hE 10 (9999 + 1) t x y b ux uy (by omega) hb hx hy w
      have hb' := hb
      simp only [eqAt, ht] at hb'
      obtain ⟨h1, _⟩ := condT hb'
      simp only [Bool.and_eq_true] at h1
      obtain ⟨xs, rfl, _⟩ := isAgg'_ok h1.1.1.1.2 hx
      obtain ⟨ys, rfl, _⟩ := isAgg'_ok h1.1.1.2 hy
      have hg := run_eqGuard_agg w .eql t ox oy xs ys (hT.eq h1.1.1.1.1).2
      exact ⟨.bool b, by simp [VR], by simp only [Sem.run_bind, hg, Result.andThen_ok]; exact run_eql rfl rfl hr⟩
    · rename_i _ _ _ _ fs _ ht
      simp only [Option.map_eq_some_iff] at h
      obtain ⟨b, hb, rfl⟩ := h
      have hT := hE.ty t _ ht
      have hr := eqAt_ok hE 10 (9999 + 1) t x y b ux uy (by omega) hb hx hy w
      have hb' := hb
      simp only [eqAt, ht] at hb'
      obtain ⟨h1, _⟩ := condT hb'
      simp only [Bool.and_eq_true] at h1
      obtain ⟨xs, rfl, _⟩ := isAgg'_ok h1.1.1.1.2 hx
      obtain ⟨ys, rfl, _⟩ := isAgg'_ok h1.1.1.2 hy
      have hg := run_eqGuard_agg w .neq t ox oy xs ys (hT.eq h1.1.1.1.1).2
      exact ⟨.bool (!b), by simp [VR], by simp only [Sem.run_bind, hg, Result.andThen_ok]; exact run_neq rfl rfl hr⟩
    · rename_i _ _ _ _ e _ ht
      split at h
      · rename_i ety he
        obtain ⟨h1, h2⟩ := condT h
        have h1 := bltT h1
        simp only [Option.map_eq_some_iff] at h2
        obtain ⟨b, hb, rfl⟩ := h2
        refine fin b (eqPtr_by hb hx hy) ?_ (fun _ => rfl) (fun e => by cases e) (.inl rfl)
        rw [equal_eq]; exact eqPtr_ok _ hR hb hx hy ((hE.ty t _ ht).pointer rfl) (hE.ty e _ he).size (by omega)
      · simp at h
    · rename_i _ _ _ _ e _ ht
      split at h
      · rename_i ety he
        obtain ⟨h1, h2⟩ := condT h
        have h1 := bltT h1
        simp only [Option.map_eq_some_iff] at h2
        obtain ⟨b, hb, rfl⟩ := h2
        refine fin b (eqPtr_by hb hx hy) ?_ (fun e => by cases e) (fun _ => rfl) (.inr rfl)
        rw [equal_eq]; exact eqPtr_ok _ hR hb hx hy ((hE.ty t _ ht).pointer rfl) (hE.ty e _ he).size (by omega)
      · simp at h
    · rename_i _ _ _ _ e _ ht
      simp only [Option.map_eq_some_iff] at h
      obtain ⟨b, hb, rfl⟩ := h
      refine fin b (eqSl_by hb hx hy) ?_ (fun _ => rfl) (fun e => by cases e) (.inl rfl)
      rw [equal_eq]; exact eqSl_ok _ hb hx hy ((hE.ty t _ ht).slice rfl)
    · rename_i _ _ _ _ e _ ht
      simp only [Option.map_eq_some_iff] at h
      obtain ⟨b, hb, rfl⟩ := h
      refine fin b (eqSl_by hb hx hy) ?_ (fun e => by cases e) (fun _ => rfl) (.inr rfl)
      rw [equal_eq]; exact eqSl_ok _ hb hx hy ((hE.ty t _ ht).slice rfl)
    · rename_i _ _ _ _ k e _ ht
      simp only [Option.map_eq_some_iff] at h
      obtain ⟨b, hb, rfl⟩ := h
      refine fin b (eqMp_by hb hx hy) ?_ (fun _ => rfl) (fun e => by cases e) (.inl rfl)
      rw [equal_eq]; exact eqMp_ok _ hb hx hy ((hE.ty t _ ht).map rfl)
    · rename_i _ _ _ _ k e _ ht
      simp only [Option.map_eq_some_iff] at h
      obtain ⟨b, hb, rfl⟩ := h
      refine fin b (eqMp_by hb hx hy) ?_ (fun e => by cases e) (fun _ => rfl) (.inr rfl)
      rw [equal_eq]; exact eqMp_ok _ hb hx hy ((hE.ty t _ ht).map rfl)
    · rename_i _ _ _ _ _ ht
      simp only [Option.map_eq_some_iff] at h
      obtain ⟨b, hb, rfl⟩ := h
      obtain ⟨a, c, e, hf⟩ := (hE.ty t _ ht).func rfl
      refine fin b (eqFn_by hb hx hy) ?_ (fun _ => rfl) (fun e => by cases e) (.inl rfl)
      rw [equal_eq]; exact eqFn_ok _ hb hx hy hf
    · rename_i _ _ _ _ _ ht
      simp only [Option.map_eq_some_iff] at h
      obtain ⟨b, hb, rfl⟩ := h
      obtain ⟨a, c, e, hf⟩ := (hE.ty t _ ht).func rfl
      refine fin b (eqFn_by hb hx hy) ?_ (fun e => by cases e) (fun _ => rfl) (.inr rfl)
      rw [equal_eq]; exact eqFn_ok _ hb hx hy hf
    · simp at h
end bins
end Go.Vai
