/-
  How an abstract state stands to a world of the model, and what a step may turn.
-/
import Derived.Test.YtkjmlnegmmlfdaaGreatDoorVaiC
namespace Go.Vai
open Go

/-- Where an object (in one of its generations) lies: its block, how far its cells are shifted, how many are known, the block's size. -/
structure Loc where
  b : Nat
  s : Nat
  n : Nat
  sz : Nat
abbrev Map := Nat → Nat → Option Loc
def Sub (β β' : Map) : Prop := ∀ id g l, β id g = some l → β' id g = some l
theorem Sub.refl (β : Map) : Sub β β := fun _ _ _ h => h
theorem Sub.trans {a b c : Map} (h : Sub a b) (k : Sub b c) : Sub a c := fun id g l e => k id g l (h id g l e)

mutual
def VR (β : Map) : AV → Value → Prop
  | .sc v, u => u = v
  | .ptr id g off k, u => ∃ l, β id g = some l ∧ off + k ≤ l.n ∧ l.s + l.n ≤ l.sz ∧ u = .pointer (some ⟨l.b, l.s + off, none⟩)
  | .slice id g off len e mc, u => ∃ l o c, β id g = some l ∧ u = .slice (some ⟨l.b, o, none⟩) len c ∧ mc ≤ c ∧ len ≤ mc ∧ off + mc * e ≤ l.n ∧ l.s + l.n ≤ l.sz ∧ 0 < e ∧ (c = 0 ∨ (o = l.s + off ∧ o + c * e ≤ l.sz))
  | .map id, u => ∃ l, β id 0 = some l ∧ u = .map (some l.b)
  | .func fn first cap, u => ∃ f c, u = .func fn f c ∧ VRs β first f.toList ∧ VRs β cap c.toList
  | .yield id, u => ∃ l, β id 0 = some l ∧ u = .func (.yield l.b) #[] #[]
  | .iface t v, u => ∃ x, u = .iface t x ∧ VR β v x
  | .agg vs, u => ∃ cs, u = .agg cs ∧ VRs β vs cs.toList
  | .tuple vs, u => ∃ cs, u = .tuple cs ∧ VRs β vs cs.toList
def VRs (β : Map) : List AV → List Value → Prop
  | [], us => us = []
  | v :: vs, us => ∃ u us', us = u :: us' ∧ VR β v u ∧ VRs β vs us'
end

mutual
theorem VR.mono {β β' : Map} (h : Sub β β') : ∀ (v : AV) (u : Value), VR β v u → VR β' v u
  | .sc _, _, r => by simpa [VR] using r
  | .ptr id g off k, u, r => by
    simp only [VR] at r ⊢
    obtain ⟨l, e, r⟩ := r
    exact ⟨l, h _ _ _ e, r⟩
  | .slice id g off len e mc, u, r => by
    simp only [VR] at r ⊢
    obtain ⟨l, o, c, e, r⟩ := r
    exact ⟨l, o, c, h _ _ _ e, r⟩
  | .map id, u, r => by
    simp only [VR] at r ⊢
    obtain ⟨l, e, r⟩ := r
    exact ⟨l, h _ _ _ e, r⟩
  | .func fn first cap, u, r => by
    simp only [VR] at r ⊢
    obtain ⟨f, c, e, r1, r2⟩ := r
    exact ⟨f, c, e, VRs.mono h first _ r1, VRs.mono h cap _ r2⟩
  | .yield id, u, r => by
    simp only [VR] at r ⊢
    obtain ⟨l, e, r⟩ := r
    exact ⟨l, h _ _ _ e, r⟩
  | .iface t v, u, r => by
    simp only [VR] at r ⊢
    obtain ⟨x, e, r⟩ := r
    exact ⟨x, e, VR.mono h v _ r⟩
  | .agg vs, u, r => by
    simp only [VR] at r ⊢
    obtain ⟨cs, e, r⟩ := r
    exact ⟨cs, e, VRs.mono h vs _ r⟩
  | .tuple vs, u, r => by
    simp only [VR] at r ⊢
    obtain ⟨cs, e, r⟩ := r
    exact ⟨cs, e, VRs.mono h vs _ r⟩
theorem VRs.mono {β β' : Map} (h : Sub β β') : ∀ (vs : List AV) (us : List Value), VRs β vs us → VRs β' vs us
  | [], _, r => by simpa [VRs] using r
  | v :: vs, us, r => by
    simp only [VRs] at r ⊢
    obtain ⟨u, us', e, r1, r2⟩ := r
    exact ⟨u, us', e, VR.mono h v _ r1, VRs.mono h vs _ r2⟩
end

/-! lists of values -/
theorem VRs.length {β : Map} : ∀ {vs : List AV} {us : List Value}, VRs β vs us → us.length = vs.length
  | [], us, h => by simp only [VRs] at h; simp [h]
  | v :: vs, us, h => by
    simp only [VRs] at h
    obtain ⟨u, us', rfl, _, r⟩ := h
    simp [VRs.length r]
theorem VRs.get {β : Map} : ∀ {vs : List AV} {us : List Value}, VRs β vs us → ∀ (i : Nat) v, vs[i]? = some v → ∃ u, us[i]? = some u ∧ VR β v u
  | [], us, h, i, v, e => by simp at e
  | x :: vs, us, h, i, v, e => by
    simp only [VRs] at h
    obtain ⟨u, us', rfl, r1, r2⟩ := h
    cases i with
    | zero => simp at e; subst e; exact ⟨u, rfl, r1⟩
    | succ i => simp at e; simpa using VRs.get r2 i v e
theorem VRs.of_get {β : Map} : ∀ {vs : List AV} {us : List Value}, us.length = vs.length → (∀ (i : Nat) v u, vs[i]? = some v → us[i]? = some u → VR β v u) → VRs β vs us
  | [], us, h, _ => by simp only [VRs]; exact List.eq_nil_of_length_eq_zero (by simpa using h)
  | v :: vs, [], h, _ => by simp at h
  | v :: vs, u :: us, h, r => by
    simp only [VRs]
    exact ⟨u, us, rfl, r 0 v u rfl rfl, VRs.of_get (by simpa using h) fun i v u hv hu => r (i + 1) v u (by simpa using hv) (by simpa using hu)⟩
theorem VRs.append {β : Map} {vs vs' : List AV} {us us' : List Value} (h : VRs β vs us) (h' : VRs β vs' us') : VRs β (vs ++ vs') (us ++ us') := by
  induction vs generalizing us with
  | nil => simp only [VRs] at h; subst h; simpa using h'
  | cons v vs ih =>
    simp only [VRs] at h
    obtain ⟨u, us2, rfl, r1, r2⟩ := h
    simp only [List.cons_append, VRs]
    exact ⟨u, us2 ++ us', rfl, r1, ih r2⟩
theorem VRs.take {β : Map} {vs : List AV} {us : List Value} (h : VRs β vs us) (n : Nat) : VRs β (vs.take n) (us.take n) := by
  induction vs generalizing us n with
  | nil => simp only [VRs] at h; subst h; simp [VRs]
  | cons v vs ih =>
    simp only [VRs] at h
    obtain ⟨u, us2, rfl, r1, r2⟩ := h
    cases n with
    | zero => simp [VRs]
    | succ n => simp only [List.take_succ_cons, VRs]; exact ⟨u, _, rfl, r1, ih r2 n⟩
theorem VRs.drop {β : Map} {vs : List AV} {us : List Value} (h : VRs β vs us) (n : Nat) : VRs β (vs.drop n) (us.drop n) := by
  induction vs generalizing us n with
  | nil => simp only [VRs] at h; subst h; simp [VRs]
  | cons v vs ih =>
    simp only [VRs] at h
    obtain ⟨u, us2, rfl, r1, r2⟩ := h
    cases n with
    | zero => simp only [List.drop_zero, VRs]; exact ⟨u, us2, rfl, r1, r2⟩
    | succ n => simpa using ih r2 n
theorem VRs.sc {β : Map} (l : List Value) : VRs β (l.map .sc) l := by
  induction l with
  | nil => simp [VRs]
  | cons v l ih => simp only [List.map_cons, VRs]; exact ⟨v, l, rfl, by simp [VR], ih⟩
theorem VRs.sc_eq {β : Map} {l : List Value} {us : List Value} (h : VRs β (l.map .sc) us) : us = l := by
  induction l generalizing us with
  | nil => simpa [VRs] using h
  | cons v l ih =>
    simp only [List.map_cons, VRs, VR] at h
    obtain ⟨u, us', rfl, rfl, r⟩ := h
    rw [ih r]
theorem VRs.nil {β : Map} : VRs β [] [] := by simp [VRs]
theorem VRs.cons {β : Map} {v : AV} {vs : List AV} {u : Value} {us : List Value} (h : VR β v u) (h' : VRs β vs us) : VRs β (v :: vs) (u :: us) := by
  simp only [VRs]; exact ⟨u, us, rfl, h, h'⟩
theorem VRs.map {β : Map} {α : Type} (f : α → AV) (g : α → Value) (l : List α) (h : ∀ x ∈ l, VR β (f x) (g x)) : VRs β (l.map f) (l.map g) := by
  induction l with
  | nil => exact VRs.nil
  | cons x l ih => exact VRs.cons (h x (by simp)) (ih fun y hy => h y (by simp [hy]))
theorem VRs.over {β : Map} {l : List AV} {us : List Value} (h : VRs β l us) (off : Nat) {vs : List AV} {xs : List Value} (h' : VRs β vs xs) :
    VRs β (over l off vs) (us.take off ++ xs ++ us.drop (off + xs.length)) := by
  unfold Vai.over
  rw [h'.length]
  exact ((h.take off).append h').append (h.drop _)
theorem VRs.replicate {β : Map} {z : List AV} {zs : List Value} (h : VRs β z zs) (n : Nat) : VRs β (repl n z) ((List.replicate n zs).flatten) := by
  unfold repl
  induction n with
  | zero => simpa using VRs.nil
  | succ n ih => simpa [List.replicate_succ] using h.append ih

/-- The cells of a value, on both sides. -/
theorem VR.cells {β : Map} {v : AV} {u : Value} (h : VR β v u) : VRs β (cellsOf v) u.cells.toList := by
  cases v with
  | sc x =>
    simp only [VR] at h
    subst h
    cases u <;> first
      | (simp only [cellsOf, Value.cells]; exact VRs.cons (by simp [VR]) VRs.nil)
      | (simp only [cellsOf, Value.cells]; exact VRs.sc _)
  | agg vs =>
    simp only [VR] at h
    obtain ⟨cs, rfl, r⟩ := h
    exact r
  | ptr => obtain ⟨l, e, r, r', rfl⟩ := (by simpa only [VR] using h); exact VRs.cons (by simpa only [VR] using h) VRs.nil
  | slice => obtain ⟨l, o, c, e, rfl, r⟩ := (by simpa only [VR] using h); exact VRs.cons (by simpa only [VR] using h) VRs.nil
  | map => obtain ⟨l, e, rfl⟩ := (by simpa only [VR] using h); exact VRs.cons (by simpa only [VR] using h) VRs.nil
  | func => obtain ⟨f, c, rfl, r⟩ := (by simpa only [VR] using h); exact VRs.cons (by simpa only [VR] using h) VRs.nil
  | yield => obtain ⟨l, e, rfl⟩ := (by simpa only [VR] using h); exact VRs.cons (by simpa only [VR] using h) VRs.nil
  | iface => obtain ⟨x, rfl, r⟩ := (by simpa only [VR] using h); exact VRs.cons (by simpa only [VR] using h) VRs.nil
  | tuple => obtain ⟨x, rfl, r⟩ := (by simpa only [VR] using h); exact VRs.cons (by simpa only [VR] using h) VRs.nil
theorem VR.cell {β : Map} {v : AV} {u : Value} (h : VR β v u) (hc : isCell v = true) : u.oneCell' = true := by
  cases v with
  | sc x => simp only [VR] at h; subst h; cases u <;> simp_all [isCell, Value.oneCell']
  | agg | tuple => simp [isCell] at hc
  | ptr => obtain ⟨l, e, r, r', rfl⟩ := (by simpa only [VR] using h); rfl
  | slice => obtain ⟨l, o, c, e, rfl, r⟩ := (by simpa only [VR] using h); rfl
  | map => obtain ⟨l, e, rfl⟩ := (by simpa only [VR] using h); rfl
  | func => obtain ⟨f, c, rfl, r⟩ := (by simpa only [VR] using h); rfl
  | yield => obtain ⟨l, e, rfl⟩ := (by simpa only [VR] using h); rfl
  | iface => obtain ⟨x, rfl, r⟩ := (by simpa only [VR] using h); rfl
theorem VRs.oneCells {β : Map} {vs : List AV} {us : List Value} (h : VRs β vs us) (hc : vs.all isCell = true) : ∀ u ∈ us, u.oneCell' = true := by
  induction vs generalizing us with
  | nil => simp only [VRs] at h; subst h; simp
  | cons v vs ih =>
    simp only [VRs] at h
    obtain ⟨u, us2, rfl, r1, r2⟩ := h
    simp only [List.all_cons, Bool.and_eq_true] at hc
    intro x hx
    rcases List.mem_cons.1 hx with rfl | hx
    · exact r1.cell hc.1
    · exact ih r2 hc.2 x hx

/-! ### Objects -/
/-- The temporaries of a frame. -/
def TmpR (β : Map) (t : T AV) (n : Nat) (a : Array Value) : Prop :=
  a.size = n ∧ (∀ i, n ≤ i → t.get i = none) ∧ ∀ i, i < n → VR β ((t.get i).getD (.sc undef)) (a.getD i undef)
def EntryR (β : Map) (e : AEntry) (c : MapEntry) : Prop := VR β e.key c.key ∧ VR β e.val c.val ∧ c.born = e.born
def EntriesR (β : Map) : List AEntry → List MapEntry → Prop
  | [], cs => cs = []
  | e :: es, cs => ∃ c cs', cs = c :: cs' ∧ EntryR β e c ∧ EntriesR β es cs'
def RowR (β : Map) (w : World) (l : Loc) (cells : List AV) : Prop :=
  ∃ cs el, w.heap[l.b]? = some (.cells cs el (0, 0)) ∧ cs.size = l.sz ∧ l.s + l.n ≤ cs.size ∧ VRs β (cells.take l.n) ((cs.toList.drop l.s).take l.n)
def ObjR (β : Map) (w : World) (id : Nat) : AObj → Prop
  | .row gen mg cells => mg ≤ gen ∧ cells.all isCell = true ∧ (∀ g, gen < g → β id g = none) ∧
      (∀ g g' l l', mg ≤ g → g ≤ gen → mg ≤ g' → g' ≤ gen → β id g = some l → β id g' = some l' → l.b = l'.b → l.s = l'.s) ∧
      ∀ g, mg ≤ g → g ≤ gen → ∃ l, β id g = some l ∧ l.n ≤ cells.length ∧ (g = gen → l.n = cells.length) ∧ RowR β w l cells
  | .map es clock => ∃ l, β id 0 = some l ∧ ∃ cs, w.heap[l.b]? = some (.map cs clock) ∧ EntriesR β es cs.toList
  | .iter m since seen stepped => ∃ l, β id 0 = some l ∧ l.s = 0 ∧ ∃ mc, w.heap[l.b]? = some (.mapIter mc since seen.toArray stepped) ∧
      (match m with
       | none => mc = none
       | some mid => ∃ lm, β mid 0 = some lm ∧ mc = some lm.b)
  | .loop st pend t n ps asg body d => ∃ l, β id 0 = some l ∧ ∃ r : Loop, w.heap[l.b]? = some (.loop r) ∧ r.state = st ∧ r.pending = pend ∧ r.params.toList = ps ∧ r.assign = asg ∧ r.body = body ∧
      TmpR β t n r.tmps ∧ ∃ ld, β d 0 = some ld ∧ r.defers = ld.b
  | .dfr taken => ∃ l, β id 0 = some l ∧ w.heap[l.b]? = some (.deferred (cond taken none (some [])))

theorem TmpR.mono {β β' : Map} (h : Sub β β') {t : T AV} {n : Nat} {a : Array Value} (r : TmpR β t n a) : TmpR β' t n a :=
  ⟨r.1, r.2.1, fun i hi => VR.mono h _ _ (r.2.2 i hi)⟩
theorem EntryR.mono {β β' : Map} (h : Sub β β') {e : AEntry} {c : MapEntry} (r : EntryR β e c) : EntryR β' e c := ⟨VR.mono h _ _ r.1, VR.mono h _ _ r.2.1, r.2.2⟩
theorem EntriesR.mono {β β' : Map} (h : Sub β β') : ∀ {es : List AEntry} {cs : List MapEntry}, EntriesR β es cs → EntriesR β' es cs
  | [], _, r => r
  | _ :: _, _, ⟨c, cs', e, r1, r2⟩ => ⟨c, cs', e, r1.mono h, EntriesR.mono h r2⟩
theorem RowR.mono {β β' : Map} (h : Sub β β') {w w' : World} {l : Loc} {cells : List AV} (hw : w'.heap[l.b]? = w.heap[l.b]?) (r : RowR β w l cells) : RowR β' w' l cells := by
  obtain ⟨cs, el, e, r1, r2, r3⟩ := r
  exact ⟨cs, el, hw.trans e, r1, r2, VRs.mono h _ _ r3⟩
theorem ObjR.mono {β β' : Map} (h : Sub β β') {w w' : World} {id : Nat} {o : AObj} (hn : ∀ g, β id g = none → β' id g = none)
    (hw : ∀ g l, β id g = some l → w'.heap[l.b]? = w.heap[l.b]?) (r : ObjR β w id o) : ObjR β' w' id o := by
  cases o with
  | row gen mg cells =>
    obtain ⟨h1, h2, h3, h5, h4⟩ := r
    have back : ∀ g l, mg ≤ g → g ≤ gen → β' id g = some l → β id g = some l := by
      intro g l a b e
      obtain ⟨l0, e0, _⟩ := h4 g a b
      rw [h _ _ _ e0] at e
      simp only [Option.some.injEq] at e
      exact e ▸ e0
    refine ⟨h1, h2, fun g hg => hn g (h3 g hg), fun g g' l l' a b a' b' e e' => h5 g g' l l' a b a' b' (back g l a b e) (back g' l' a' b' e'), fun g a b => ?_⟩
    obtain ⟨l, e, r1, r2, r3⟩ := h4 g a b
    exact ⟨l, h _ _ _ e, r1, r2, r3.mono h (hw g l e)⟩
  | map es clock =>
    obtain ⟨l, e, cs, r1, r2⟩ := r
    exact ⟨l, h _ _ _ e, cs, (hw 0 l e).trans r1, r2.mono h⟩
  | iter m since seen stepped =>
    obtain ⟨l, e, r0, mc, r1, r2⟩ := r
    refine ⟨l, h _ _ _ e, r0, mc, (hw 0 l e).trans r1, ?_⟩
    cases m with
    | none => exact r2
    | some mid => obtain ⟨lm, e1, e2⟩ := r2; exact ⟨lm, h _ _ _ e1, e2⟩
  | loop st pend t n ps asg body d =>
    obtain ⟨l, e, r, r1, r2, r3, r4, r5, r6, r7, ld, r8, r9⟩ := r
    exact ⟨l, h _ _ _ e, r, (hw 0 l e).trans r1, r2, r3, r4, r5, r6, r7.mono h, ld, h _ _ _ r8, r9⟩
  | dfr taken =>
    obtain ⟨l, e, r1⟩ := r
    exact ⟨l, h _ _ _ e, (hw 0 l e).trans r1⟩

/-! ### States -/
abbrev Look := Nat → Option AObj
structure HR (E : Env) (B : Nat) (β : Map) (look : Look) (w : World) : Prop where
  obj : ∀ id o, look id = some o → ObjR β w id o
  own : ∀ id o g l, look id = some o → β id g = some l → B ≤ l.b ∧ l.b < w.heap.size
  inj : ∀ id o id' o' g g' l l', look id = some o → look id' = some o' → β id g = some l → β id' g' = some l' → l.b = l'.b → id = id'
  gl : ∀ g cs, E.gl.get g = some cs → g < B ∧ ∀ (i : Nat) v, cs[i]? = some v → w.cell? ⟨g, i, none⟩ = some v
  size : B ≤ w.heap.size

/-- What steps may turn: blocks of objects that are seen, and new ones; new places are new blocks, or generations of objects that are seen. -/
structure Step (β β' : Map) (look : Look) (lo hi : Nat) (w w' : World) : Prop where
  sub : Sub β β'
  new : ∀ id g l, β' id g = some l → β id g = some l ∨ (lo ≤ id ∧ id < hi ∧ w.heap.size ≤ l.b) ∨
    ∃ o, look id = some o ∧ (w.heap.size ≤ l.b ∨ ∃ g0 l0, β id g0 = some l0 ∧ l0.b = l.b)
  os : w'.os = w.os
  tape : w'.tape = w.tape
  output : w'.output = w.output
  size : w.heap.size ≤ w'.heap.size
  keep : ∀ b, b < w.heap.size → (∀ id o g l, look id = some o → β id g = some l → l.b ≠ b) → w'.heap[b]? = w.heap[b]?

theorem Step.refl (β : Map) (look : Look) (lo : Nat) (w : World) : Step β β look lo lo w w :=
  ⟨Sub.refl _, fun _ _ _ h => .inl h, rfl, rfl, rfl, Nat.le_refl _, fun _ _ _ => rfl⟩
def Fresh (β : Map) (lo hi : Nat) : Prop := ∀ id g, lo ≤ id → id < hi → β id g = none

theorem Step.trans {β β1 β2 : Map} {look look1 : Look} {lo mid hi : Nat} {w w1 w2 : World} (h1 : Step β β1 look lo mid w w1) (h2 : Step β1 β2 look1 mid hi w1 w2)
    (hlm : lo ≤ mid) (hmh : mid ≤ hi) (hf : Fresh β lo hi) (hdom : ∀ id o, look1 id = some o → (∃ o', look id = some o') ∨ (lo ≤ id ∧ id < mid)) : Step β β2 look lo hi w w2 where
  sub := h1.sub.trans h2.sub
  new := by
    intro id g l h
    rcases h2.new id g l h with h | ⟨a, b, c⟩ | ⟨o, ho, h⟩
    · rcases h1.new id g l h with h | ⟨a, b, c⟩ | h
      · exact .inl h
      · exact .inr (.inl ⟨a, by omega, c⟩)
      · exact .inr (.inr h)
    · exact .inr (.inl ⟨by omega, b, Nat.le_trans h1.size c⟩)
    · rcases hdom id o ho with ⟨o', ho'⟩ | ⟨a, b⟩
      · refine .inr (.inr ⟨o', ho', ?_⟩)
        rcases h with h | ⟨g0, l0, e0, eb⟩
        · exact .inl (Nat.le_trans h1.size h)
        · rcases h1.new id g0 l0 e0 with h | ⟨_, _, c⟩ | ⟨_, _, h⟩
          · exact .inr ⟨g0, l0, h, eb⟩
          · exact .inl (eb ▸ c)
          · rcases h with h | ⟨g1, l1, e1, eb1⟩
            · exact .inl (eb ▸ h)
            · exact .inr ⟨g1, l1, e1, eb1.trans eb⟩
      · refine .inr (.inl ⟨a, by omega, ?_⟩)
        rcases h with h | ⟨g0, l0, e0, eb⟩
        · exact Nat.le_trans h1.size h
        · rcases h1.new id g0 l0 e0 with h | ⟨_, _, c⟩ | ⟨_, _, h⟩
          · rw [hf id g0 a (by omega)] at h; simp at h
          · exact eb ▸ c
          · rcases h with h | ⟨g1, l1, e1, eb1⟩
            · exact eb ▸ h
            · rw [hf id g1 a (by omega)] at e1; simp at e1
  os := h2.os.trans h1.os
  tape := h2.tape.trans h1.tape
  output := h2.output.trans h1.output
  size := Nat.le_trans h1.size h2.size
  keep := by
    intro b hb hno
    rw [h2.keep b (Nat.lt_of_lt_of_le hb h1.size) ?_, h1.keep b hb hno]
    intro id o g l ho he eb
    rcases h1.new id g l he with h | ⟨_, _, c⟩ | ⟨o', ho', h⟩
    · rcases hdom id o ho with ⟨o', ho'⟩ | ⟨a, b'⟩
      · exact hno id o' g l ho' h eb
      · rw [hf id g a (by omega)] at h; simp at h
    · omega
    · rcases h with h | ⟨g0, l0, e0, eb0⟩
      · omega
      · exact hno id o' g0 l0 ho' e0 (eb0.trans eb)

theorem Fresh.after {β β1 : Map} {look : Look} {lo mid hi : Nat} {w w1 : World} (hf : Fresh β lo hi) (h1 : Step β β1 look lo mid w w1) (hlm : lo ≤ mid)
    (hl : ∀ id o, look id = some o → id < lo) : Fresh β1 mid hi := by
  intro id g a b
  cases h : β1 id g with
  | none => rfl
  | some l =>
    rcases h1.new id g l h with h | ⟨_, c, _⟩ | ⟨o, ho, _⟩
    · rw [hf id g (by omega) b] at h; simp at h
    · omega
    · have := hl id o ho; omega
theorem Fresh.mono {β : Map} {lo hi lo' hi' : Nat} (h : Fresh β lo hi) (h1 : lo ≤ lo') (h2 : hi' ≤ hi) : Fresh β lo' hi' := fun id g a b => h id g (by omega) (by omega)
end Go.Vai
