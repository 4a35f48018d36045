/-
  The operations that look at no object: each yields, in every world, what the abstract one yields.
-/
import Derived.Test.YtkjmlnegmmlfdaaGreatDoorVaiE
import Derived.Laws.StructEq
namespace Go.Vai
open Go

/-- In every world the model's operation yields a value that stands for the abstract one, and turns nothing. -/
def Pure1 (P : Program) (s : Sem Value) (β : Map) (v : AV) : Prop := ∃ u, VR β v u ∧ ∀ w, s.run P w = .ok u w

theorem condT {α : Type} {b : Bool} {x : Option α} {y : α} (h : cond b x none = some y) : b = true ∧ x = some y := by
  cases b with
  | false => simp at h
  | true => exact ⟨rfl, h⟩
theorem cs_get {β : Map} {vs : List AV} {cs : Array Value} (h : VRs β vs cs.toList) {i : Nat} {v : AV} (e : vs[i]? = some v) : ∃ u, cs[i]? = some u ∧ VR β v u := by
  obtain ⟨u, hu, r⟩ := h.get i v e
  exact ⟨u, by simpa using hu, r⟩
theorem extract_toList (cs : Array Value) (a k : Nat) : (cs.extract a (a + k)).toList = (cs.toList.drop a).take k := by
  simp [Array.toList_extract]
theorem parts?_some {l r : List AV} {off k : Nat} (h : parts? l off k = some r) : off + k ≤ l.length ∧ r = (l.drop off).take k := by
  unfold parts? at h
  obtain ⟨h1, h2⟩ := condT h
  exact ⟨bleT h1, by simpa using h2.symm⟩
theorem part_ok {E : Env} {P : Program} (hE : EnvOk E P) {β : Map} {t : TypeId} {vs : List AV} {cs : Array Value} {off : Nat} {v : AV} (h : part? E t vs off = some v) (hr : VRs β vs cs.toList) :
    Pure1 P (part t cs off) β v := by
  unfold part? at h
  cases ht : E.ty.get t with
  | none => simp [ht] at h
  | some ty =>
    simp only [ht] at h
    have hT := hE.ty t ty ht
    cases ha : ty.agg with
    | true =>
      simp only [ha, cond_true, Option.map_eq_some_iff] at h
      obtain ⟨l, hl, rfl⟩ := h
      obtain ⟨_, rfl⟩ := parts?_some hl
      refine ⟨.agg (cs.extract off (off + ty.size)), ?_, fun w => ?_⟩
      · simp only [VR]
        refine ⟨_, rfl, ?_⟩
        rw [extract_toList]
        exact (hr.drop _).take _
      · simp [part, hT.isAgg, hT.size, ha]
    | false =>
      simp only [ha, cond_false] at h
      obtain ⟨u, hu, r⟩ := cs_get hr h
      exact ⟨u, r, fun w => by simp [part, hT.isAgg, ha, hu]⟩

/-! numbers -/
theorem nat?_int {v : AV} {n : Nat} (h : nat? v = some n) : ∃ k, v = .sc (.int k n) := by
  unfold nat? at h
  split at h
  · simp at h; subst h; exact ⟨_, rfl⟩
  · simp at h
theorem VR.nat {β : Map} {v : AV} {u : Value} {n : Nat} (h : nat? v = some n) (hv : VR β v u) : ∃ k, u = .int k n := by
  obtain ⟨k, rfl⟩ := nat?_int h
  exact ⟨k, by simpa [VR] using hv⟩

/-! fields, indexes -/
theorem fieldAddr_ok {E : Env} {P : Program} (hE : EnvOk E P) {β : Map} {t : TypeId} {a : AV} {f : Nat} {v : AV} {u : Value} (h : aFieldAddr E t a f = some v) (hu : VR β a u) :
    Pure1 P (Instr.fieldAt t u f) β v := by
  unfold aFieldAddr at h
  split at h
  · rename_i id g off k
    split at h
    · rename_i fs _ _ _ _ _ ht
      split at h
      · rename_i fo ft _ hf
        split at h
        · rename_i fty hft
          obtain ⟨h1, h2⟩ := condT h
          simp only [Bool.and_eq_true] at h1
          have hs := bltT h1.1
          have hk := bleT h1.2
          simp at h2
          subst h2
          simp only [VR] at hu
          obtain ⟨l, hl, hn, hnz, rfl⟩ := hu
          have hT := hE.ty t _ ht
          have hF := hE.ty ft _ hft
          obtain ⟨fields, hd, hfs⟩ := hT.struct rfl
          have hfd : ∃ fd : Field, fields[f]? = some fd ∧ fd.offset = fo ∧ fd.type = ft := by
            rw [hfs] at hf
            simp only [List.getElem?_map, Array.getElem?_toList, Option.map_eq_some_iff, Prod.mk.injEq] at hf
            obtain ⟨fd, e, e1, e2, _⟩ := hf
            exact ⟨fd, e, e1, e2⟩
          obtain ⟨fd, e, rfl, rfl⟩ := hfd
          refine ⟨.pointer (some ⟨l.b, l.s + (off + fd.offset), none⟩), ?_, fun w => ?_⟩
          · simp only [VR]
            exact ⟨l, hl, by omega, hnz, rfl⟩
          · have h0 : fty.size ≠ 0 := by omega
            simp [Instr.fieldAt, run_underlying hd, e, Instr.sureAddr, fieldPlace, hF.size, h0, Addr.add_lit, Nat.add_assoc]
        · simp at h
      · simp at h
    · simp at h
  · simp at h
theorem field_ok {E : Env} {P : Program} (hE : EnvOk E P) {β : Map} {t : TypeId} {a : AV} {f : Nat} {v : AV} {u : Value} (h : aField E t a f = some v) (hu : VR β a u) :
    Pure1 P (Instr.field t u f) β v := by
  unfold aField at h
  split at h
  · rename_i fs _ _ _ _ _ ht
    split at h
    · rename_i fo ft _ hf
      have hT := hE.ty t _ ht
      obtain ⟨fields, hd, hfs⟩ := hT.struct rfl
      have hfd : ∃ fd : Field, fields[f]? = some fd ∧ fd.offset = fo ∧ fd.type = ft := by
        rw [hfs] at hf
        simp only [List.getElem?_map, Array.getElem?_toList, Option.map_eq_some_iff, Prod.mk.injEq] at hf
        obtain ⟨fd, e, e1, e2, _⟩ := hf
        exact ⟨fd, e, e1, e2⟩
      obtain ⟨fd, e, rfl, rfl⟩ := hfd
      have key : ∀ (vs : List AV) (cs : Array Value), VRs β vs cs.toList → part? E fd.type vs fd.offset = some v → Pure1 P (Instr.field t (.agg cs) f) β v := by
        intro vs cs hr hp
        obtain ⟨u, r, hrun⟩ := part_ok hE hp hr
        exact ⟨u, r, fun w => by simp [Instr.field, run_underlying hd, e, asAgg, hrun]⟩
      split at h
      · simp only [VR] at hu
        obtain ⟨cs, rfl, hr⟩ := hu
        exact key _ cs hr h
      · rename_i cs
        simp only [VR] at hu
        subst hu
        exact key _ cs (VRs.sc _) h
      · simp at h
    · simp at h
  · simp at h
theorem indexAddr_ok {E : Env} {P : Program} (hE : EnvOk E P) {β : Map} {t : TypeId} {x ix v : AV} {u ui : Value} (h : aIndexAddr E t x ix = some v) (hu : VR β x u) (hi : VR β ix ui) :
    Pure1 P (Instr.indexAt t u ui) β v := by
  unfold aIndexAddr at h
  split at h
  · rename_i i _ _ _ _ e _ hn ht
    obtain ⟨k, rfl⟩ := hi.nat hn
    have hT := hE.ty t _ ht
    have hd := hT.slice rfl
    split at h
    · rename_i id g off len es mc ety he
      obtain ⟨h1, h2⟩ := condT h
      simp only [Bool.and_eq_true] at h1
      have hlt := bltT h1.1
      have hes := beqT h1.2
      simp at h2; subst h2
      simp only [VR] at hu
      obtain ⟨l, o, c, hl, rfl, hmc, hlen, hn', hnz, hep, hoc⟩ := hu
      have hee := hE.ty e _ he
      have ho : o = l.s + off := by
        rcases hoc with h | h
        · omega
        · exact h.1
      refine ⟨.pointer (some ⟨l.b, l.s + (off + i * es), none⟩), ?_, fun w => ?_⟩
      · simp only [VR]
        refine ⟨l, hl, ?_, hnz, rfl⟩
        have : (i + 1) * es ≤ mc * es := Nat.mul_le_mul_right _ (by omega)
        rw [Nat.add_mul] at this
        omega
      · subst ho
        have hi2 : (i : Int) < (len : Int) := by omega
        simp [Instr.indexAt, asIntOf, run_underlying hd, hlt, hee.size, Addr.add_lit, hes, Nat.add_assoc]
    · simp at h
  · rename_i i _ _ _ _ n e _ hn ht
    obtain ⟨k, rfl⟩ := hi.nat hn
    have hT := hE.ty t _ ht
    have hd := hT.array rfl
    split at h
    · rename_i id g off k ety he
      obtain ⟨h1, h2⟩ := condT h
      simp only [Bool.and_eq_true] at h1
      have hlt := bltT h1.1.1
      have hk := bleT h1.2
      simp at h2; subst h2
      simp only [VR] at hu
      obtain ⟨l, hl, hn', hnz, rfl⟩ := hu
      have hee := hE.ty e _ he
      refine ⟨.pointer (some ⟨l.b, l.s + (off + i * ety.size), none⟩), ?_, fun w => ?_⟩
      · simp only [VR]
        refine ⟨l, hl, ?_, hnz, rfl⟩
        rw [Nat.add_mul] at hk
        omega
      · simp [Instr.indexAt, asIntOf, run_underlying hd, Instr.sureAddr, hlt, hee.size, Addr.add_lit, Nat.add_assoc]
    · rename_i a ety he
      obtain ⟨h1, h2⟩ := condT h
      have hlt := bltT h1
      simp at h2; subst h2
      simp only [VR] at hu
      subst hu
      have hee := hE.ty e _ he
      refine ⟨.pointer (some (a.add (i * ety.size))), by simp [VR], fun w => ?_⟩
      simp [Instr.indexAt, asIntOf, run_underlying hd, Instr.sureAddr, hlt, hee.size]
    · simp at h
  · simp at h
theorem index_ok {E : Env} {P : Program} (hE : EnvOk E P) {β : Map} {t : TypeId} {x ix v : AV} {u ui : Value} (h : aIndex E t x ix = some v) (hu : VR β x u) (hi : VR β ix ui) :
    Pure1 P (Instr.index t u ui) β v := by
  unfold aIndex at h
  split at h
  · rename_i i _ _ _ _ _ hn ht
    obtain ⟨k, rfl⟩ := hi.nat hn
    have hT := hE.ty t _ ht
    have hd := hT.string rfl
    split at h
    · rename_i s
      simp only [VR] at hu
      subst hu
      simp only [Option.map_eq_some_iff] at h
      obtain ⟨b, hb, rfl⟩ := h
      refine ⟨.int .u8 b.toNat, by simp [VR], fun w => ?_⟩
      have hs : s[i]? = some b := by
        have : s.data[i]? = some b := by simpa using hb
        have hlt : i < s.data.size := (Array.getElem?_eq_some_iff.1 this).1
        have hv : s.data[i] = b := (Array.getElem?_eq_some_iff.1 this).2
        have hlt' : i < s.size := hlt
        rw [getElem?_pos s i hlt']
        exact congrArg some hv
      simp [Instr.index, asIntOf, run_underlying hd, hs]
    · simp at h
  · rename_i i _ _ _ _ n e _ hn ht
    obtain ⟨k, rfl⟩ := hi.nat hn
    have hT := hE.ty t _ ht
    have hd := hT.array rfl
    split at h
    · rename_i ety he
      have hee := hE.ty e _ he
      have key : ∀ (vs : List AV) (cs : Array Value), VRs β vs cs.toList → cond (Nat.blt i n) (part? E e vs (i * ety.size)) none = some v → Pure1 P (Instr.index t (.agg cs) (.int k i)) β v := by
        intro vs cs hr hp
        obtain ⟨h1, h2⟩ := condT hp
        have hlt := bltT h1
        obtain ⟨u, r, hrun⟩ := part_ok hE h2 hr
        exact ⟨u, r, fun w => by simp [Instr.index, asIntOf, run_underlying hd, hlt, hee.size, hrun]⟩
      split at h
      · simp only [VR] at hu
        obtain ⟨cs, rfl, hr⟩ := hu
        exact key _ cs hr h
      · rename_i cs
        simp only [VR] at hu
        subst hu
        exact key _ cs (VRs.sc _) h
      · simp at h
    · simp at h
  · simp at h

/-! arithmetic -/
theorem intBin_ok {P : Program} {op : BinOp} {k : IntKind} {a b : Int} {v : Value} (h : intBin op k a b = some v) (t : TypeId) (w : World) : (binOp op t (.int k a) (.int k b)).run P w = .ok v w := by
  cases op <;> simp only [intBin, Option.some.injEq, reduceCtorEq] at h <;> (try subst h) <;> try (simp [binOp, Op.intArith, Op.intCmp, Op.intBits]; done)
  · cases hb : (b == 0) with
    | true => simp [hb] at h
    | false =>
      simp only [hb, cond_false, Option.some.injEq] at h
      subst h
      have hb0 : ¬ b = 0 := by simpa using hb
      simp [binOp, Op.intDiv, hb0]
  · cases hb : (b == 0) with
    | true => simp [hb] at h
    | false =>
      simp only [hb, cond_false, Option.some.injEq] at h
      subst h
      have hb0 : ¬ b = 0 := by simpa using hb
      simp [binOp, Op.intDiv, hb0]
theorem un_ok {P : Program} {β : Map} {op : UnOp} {x v : AV} {u : Value} (h : aUn op x = some v) (hu : VR β x u) : Pure1 P (Op.unary op u) β v := by
  unfold aUn at h
  split at h
  · simp only [VR] at hu; subst hu
    rename_i b
    simp at h; subst h
    exact ⟨.bool (!b), by simp [VR], fun w => by simp [Op.unary]⟩
  · simp only [VR] at hu; subst hu
    rename_i k n
    simp at h; subst h
    exact ⟨.int k (k.wrap (0 - n)), by simp [VR], fun w => by simp [Op.unary, Op.intArith]⟩
  · simp at h
theorem convert_ok {E : Env} {P : Program} (hE : EnvOk E P) {β : Map} {s d : TypeId} {x v : AV} {u : Value} (h : aConvert E s d x = some v) (hu : VR β x u) : Pure1 P (convert s d u) β v := by
  unfold aConvert at h
  split at h
  · rename_i k' n _ _ _ _ _ k _ hs hd
    simp only [VR] at hu; subst hu
    simp at h; subst h
    obtain ⟨ds, hus, _⟩ := (hE.ty s _ hs).und
    have hud := (hE.ty d _ hd).int rfl
    refine ⟨.int k (k.wrap n), by simp [VR], fun w => ?_⟩
    simp [convert, run_underlying hus, run_underlying hud, Conv.intToInt]
  · rename_i sv _ _ _ _ _ _ _ _ _ _ hs hd
    simp only [VR] at hu; subst hu
    simp at h; subst h
    have hus := (hE.ty s _ hs).string rfl
    have hud := (hE.ty d _ hd).string rfl
    refine ⟨.string sv, by simp [VR], fun w => ?_⟩
    simp [convert, run_underlying hus, run_underlying hud]
  · simp at h

/-! slices -/
theorem run_sliceBound {P : Program} {w : World} (k : IntKind) (n y : Nat) (code : BoundsCode) (h : n ≤ y) : (Instr.sliceBound (.int k n) y code).run P w = .ok n w := by
  have h' : (n : Int) ≤ (y : Int) := by omega
  simp [Instr.sliceBound, asIntOf, h]
theorem optNat_ok {β : Map} {o : Option AV} {oc : Option Value} {d n : Nat} (h : optNat o d = some n) (hr : ∀ v, o = some v → ∃ u, oc = some u ∧ VR β v u) (hn : o = none → oc = none) :
    (o = none ∧ oc = none ∧ n = d) ∨ ∃ k, oc = some (.int k n) := by
  cases o with
  | none => simp [optNat] at h; exact .inl ⟨rfl, hn rfl, h.symm⟩
  | some v =>
    obtain ⟨u, hu, r⟩ := hr v rfl
    obtain ⟨k, rfl⟩ := r.nat (by simpa [optNat] using h)
    exact .inr ⟨k, hu⟩
/-- The bounds of a slice expression: 'mc' is known of the capacity 'c'. -/
theorem bounds_ok {P : Program} {β : Map} {lo hi mx : Option AV} {lc hc mxc : Option Value} {b : Bool} {len mc c l h m : Nat}
    (hl : optNat lo 0 = some l) (hh : optNat hi len = some h) (hm : optNat mx mc = some m)
    (rl : (∀ v, lo = some v → ∃ u, lc = some u ∧ VR β v u) ∧ (lo = none → lc = none)) (rh : (∀ v, hi = some v → ∃ u, hc = some u ∧ VR β v u) ∧ (hi = none → hc = none))
    (rm : (∀ v, mx = some v → ∃ u, mxc = some u ∧ VR β v u) ∧ (mx = none → mxc = none))
    (h1 : l ≤ h) (h2 : h ≤ m) (h3 : m ≤ mc) (h4 : mc ≤ c) (h5 : (mx.isNone || hi.isSome) = true) :
    ∃ mr, m ≤ mr ∧ mr ≤ c ∧ (mx = none → mr = c) ∧ ∀ w, (Instr.sliceBounds b len c lc hc mxc).run P w = .ok (l, h, mr) w := by
  have hL : (lc = none ∧ l = 0) ∨ ∃ k, lc = some (.int k l) := by
    rcases optNat_ok hl rl.1 rl.2 with ⟨_, e, e'⟩ | h
    · exact .inl ⟨e, e'⟩
    · exact .inr h
  have hH : (hi = none ∧ hc = none ∧ h = len) ∨ ∃ k, hc = some (.int k h) := by
    rcases optNat_ok hh rh.1 rh.2 with h | h
    · exact .inl h
    · exact .inr h
  have hM : (mx = none ∧ mxc = none ∧ m = mc) ∨ (mx ≠ none ∧ ∃ k, mxc = some (.int k m)) := by
    rcases optNat_ok hm rm.1 rm.2 with h | ⟨k, h⟩
    · exact .inl h
    · refine .inr ⟨fun e => ?_, k, h⟩
      rw [rm.2 e] at h; simp at h
  clear rl rh rm hl hh hm
  rcases hM with ⟨rfl, rfl, rfl⟩ | ⟨hne, km, rfl⟩
  · refine ⟨c, by omega, Nat.le_refl _, fun _ => rfl, fun w => ?_⟩
    rcases hL with ⟨rfl, rfl⟩ | ⟨kl, rfl⟩ <;> rcases hH with ⟨rfl, rfl, rfl⟩ | ⟨kh, rfl⟩ <;>
      simp [Instr.sliceBounds, run_sliceBound _ _ _ _ h1, run_sliceBound _ _ _ _ (show h ≤ c by omega)]
  · refine ⟨m, Nat.le_refl _, by omega, fun e => absurd e hne, fun w => ?_⟩
    have hhi : ∃ k, hc = some (.int k h) := by
      rcases hH with ⟨rfl, _, _⟩ | h
      · simp only [Option.isSome_none, Bool.or_false, Option.isNone_iff_eq_none] at h5
        exact absurd h5 hne
      · exact h
    obtain ⟨kh, rfl⟩ := hhi
    rcases hL with ⟨rfl, rfl⟩ | ⟨kl, rfl⟩ <;>
      simp [Instr.sliceBounds, run_sliceBound _ _ _ _ h1, run_sliceBound _ _ _ _ h2, run_sliceBound _ _ _ _ (show m ≤ c by omega)]
/-- An operand that may be missing, on both sides. -/
def OptR (β : Map) (o : Option AV) (oc : Option Value) : Prop := (∀ v, o = some v → ∃ u, oc = some u ∧ VR β v u) ∧ (o = none → oc = none)
theorem OptR.none0 {β : Map} {o : Option AV} {oc : Option Value} (h : OptR β o oc) (hs : o.isNone = true) : oc = none := h.2 (by simpa using hs)
theorem slice_ok {E : Env} {P : Program} (hE : EnvOk E P) {β : Map} {t : TypeId} {x v : AV} {lo hi mx : Option AV} {u : Value} {lc hc mxc : Option Value}
    (h : aSlice E t x lo hi mx = some v) (hu : VR β x u) (rl : OptR β lo lc) (rh : OptR β hi hc) (rm : OptR β mx mxc) : Pure1 P (Instr.sliceAt t u lc hc mxc) β v := by
  unfold aSlice at h
  split at h
  · rename_i _ _ _ _ _ ht
    have hd := (hE.ty t _ ht).string rfl
    split at h
    · rename_i s
      split at h
      · rename_i l hh hl hhi
        obtain ⟨h1, h2⟩ := condT h
        simp only [Bool.and_eq_true] at h1
        simp at h2; subst h2
        simp only [VR] at hu; subst hu
        have hmx : mxc = none := rm.2 rfl
        subst hmx
        obtain ⟨mr, _, _, _, hrun⟩ := bounds_ok (P := P) (b := false) (mx := none) (mxc := none) (mc := s.size) (c := s.size) (m := s.size) hl hhi rfl rl rh rm (bleT h1.1) (bleT h1.2) (Nat.le_refl _) (Nat.le_refl _) rfl
        refine ⟨.string (s.extract l hh), by simp [VR], fun w => ?_⟩
        simp [Instr.sliceAt, Instr.slice, run_underlying hd, hrun]
      · simp at h
    · simp at h
  · rename_i _ _ _ _ et _ ht
    have hd := (hE.ty t _ ht).slice rfl
    split at h
    · rename_i id g off len e mc
      split at h
      · rename_i l hh m ety hl hhi hm het
        obtain ⟨h1, h2⟩ := condT h
        simp only [Bool.and_eq_true] at h1
        obtain ⟨⟨⟨⟨a1, a2⟩, a3⟩, a4⟩, a5⟩ := h1
        replace a1 := bleT a1
        replace a2 := bleT a2
        replace a3 := bleT a3
        replace a5 := beqT a5
        simp only [Option.some.injEq] at h2; subst h2
        simp only [VR] at hu
        obtain ⟨L, o, c, hL, rfl, hmc, hlen, hn', hnz, hep, hoc⟩ := hu
        obtain ⟨mr, b1, b2, b3, hrun⟩ := bounds_ok (P := P) (b := true) (c := c) hl hhi hm rl rh rm a1 a2 a3 hmc a4
        have hee := hE.ty et _ het
        refine ⟨.slice (if mr = l then some ⟨L.b, o, none⟩ else some ⟨L.b, o + l * e, none⟩) (hh - l) (mr - l), ?_, fun w => ?_⟩
        · simp only [VR]
          have hk : off + l * e + (m - l) * e ≤ L.n := by
            have : l * e + (m - l) * e = m * e := by rw [← Nat.add_mul]; congr 1; omega
            have : m * e ≤ mc * e := Nat.mul_le_mul_right _ a3
            omega
          by_cases hml : mr = l
          · refine ⟨L, o, mr - l, hL, by simp [hml], by omega, by omega, hk, hnz, hep, .inl (by omega)⟩
          · refine ⟨L, o + l * e, mr - l, hL, by simp [hml], by omega, by omega, hk, hnz, hep, .inr ?_⟩
            rcases hoc with hoc | ⟨ho, hz⟩
            · omega
            · refine ⟨by omega, ?_⟩
              have : l * e + (mr - l) * e = mr * e := by rw [← Nat.add_mul]; congr 1; omega
              have : mr * e ≤ c * e := Nat.mul_le_mul_right _ b2
              omega
        · simp only [Instr.sliceAt, Instr.slice, run_underlying hd, Sem.run_bind, Result.andThen_ok, hrun, hee.size, a5]
          by_cases hml : mr = l <;> simp [hml, Addr.add_lit]
      · simp at h
    · split at h
      · rename_i ety hl hhi hm het
        obtain ⟨h1, h2⟩ := condT h
        simp only [Option.some.injEq] at h2; subst h2
        simp only [VR] at hu; subst hu
        obtain ⟨mr, b1, b2, b3, hrun⟩ := bounds_ok (P := P) (b := true) (c := 0) hl hhi hm rl rh rm (Nat.le_refl _) (Nat.le_refl _) (Nat.le_refl _) (Nat.le_refl _) h1
        have : mr = 0 := by omega
        subst this
        refine ⟨.slice none 0 0, by simp [VR], fun w => ?_⟩
        simp [Instr.sliceAt, Instr.slice, run_underlying hd, hrun, (hE.ty et _ het).size]
      · simp at h
    · simp at h
  · rename_i _ _ _ _ n et _ ht
    have hd := (hE.ty t _ ht).array rfl
    split at h
    · rename_i id g off k ety het
      split at h
      · rename_i l hh m hl hhi hm
        obtain ⟨h1, h2⟩ := condT h
        simp only [Bool.and_eq_true] at h1
        obtain ⟨⟨⟨⟨⟨a1, a2⟩, a3⟩, a5⟩, a6⟩, a4⟩ := h1
        replace a1 := bleT a1
        replace a2 := bleT a2
        replace a3 := bleT a3
        replace a5 := bleT a5
        replace a6 := bltT a6
        simp only [Option.some.injEq] at h2; subst h2
        simp only [VR] at hu
        obtain ⟨L, hL, hn', hnz, rfl⟩ := hu
        obtain ⟨mr, b1, b2, b3, hrun⟩ := bounds_ok (P := P) (b := false) (c := n) hl hhi hm rl rh rm a1 a2 a3 (Nat.le_refl _) a4
        have hee := hE.ty et _ het
        refine ⟨.slice (some (if mr = l then ⟨L.b, L.s + off, none⟩ else ⟨L.b, L.s + off + l * ety.size, none⟩)) (hh - l) (mr - l), ?_, fun w => ?_⟩
        · simp only [VR]
          have hmn : mr * ety.size ≤ n * ety.size := Nat.mul_le_mul_right _ b2
          have hmm : m * ety.size ≤ mr * ety.size := Nat.mul_le_mul_right _ b1
          have e1 : l * ety.size + (m - l) * ety.size = m * ety.size := by rw [← Nat.add_mul]; congr 1; omega
          have e2 : l * ety.size + (mr - l) * ety.size = mr * ety.size := by rw [← Nat.add_mul]; congr 1; omega
          by_cases hml : mr = l
          · refine ⟨L, L.s + off, mr - l, hL, by simp [hml], by omega, by omega, by omega, hnz, a6, .inl (by omega)⟩
          · refine ⟨L, L.s + off + l * ety.size, mr - l, hL, by simp [hml], by omega, by omega, by omega, hnz, a6, .inr ⟨by omega, by omega⟩⟩
        · simp only [Instr.sliceAt, run_underlying hd, Sem.run_bind, Result.andThen_ok, Instr.sureAddr, Sem.run_pure, hrun, hee.size]
          by_cases hml : mr = l <;> simp [hml, Addr.add_lit]
      · simp at h
    · simp at h
  · simp at h
end Go.Vai
