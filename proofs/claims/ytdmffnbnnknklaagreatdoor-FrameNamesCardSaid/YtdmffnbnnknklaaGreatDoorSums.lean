/- Sets that are gone over in an open order: what set.with, set.both and the loop of follows come to; the machine that takes them so. -/
import Derived.Test.YtdmffnbnnknklaaGreatDoorEnv
/-
  set.with and set.both as calls (functions 86 and 87 of the fn seat).
-/
namespace Go.Vai
open Go
def insSet (x : Int) (ks : List Int) : List Int := bif ks.contains x then ks else x :: ks
theorem mem_insSet (x : Int) (ks : List Int) (k : Int) : k ∈ insSet x ks ↔ k = x ∨ k ∈ ks := by
  unfold insSet
  cases h : ks.contains x with
  | true => 
    have hm : x ∈ ks := by simpa using h
    constructor
    · exact .inr
    · rintro (rfl | h1)
      · exact hm
      · exact h1
  | false => simp
theorem OneInt.other {S S1 : St} {l : AV} {x : Int} {i : Nat} (h : OneInt S l x i) (h1 : S1.look i = S.look i) : OneInt S1 l x i := by
  obtain ⟨g, off, mc, gen, mg, cells, a, b, c⟩ := h.sl
  exact ⟨g, off, mc, gen, mg, cells, a, by rw [h1]; exact b, c⟩
theorem with_ok {σ : St} {ids il : Nat} {ks : List Int} {x : Int} {l : AV} (hsrc : σ.look ids = some (.set ks)) (hl : OneInt σ l x il) : CallOk env Go.Proofs.Tryz.prog 86 [.map ids, l] σ (.map σ.next) (setSt σ (insSet x ks)) := by
  refine setCall_ok hsrc ⟨Go.Proofs.Tryz.f86, rfl, by show Go.Proofs.Tryz.f86.body ≠ none; unfold Go.Proofs.Tryz.f86; simp⟩ (fun es clock hs σe hσe hlook => ?_)
  have hne : il ≠ ids := by
    rintro rfl
    obtain ⟨g, off, mc, gen, mg, cells, a, b, c⟩ := hl.sl
    rw [hsrc] at b; cases b
  have hle : OneInt σe l x il := hl.other (by rw [hlook]; unfold upd; rw [if_neg hne])
  have hse : σe.look ids = some (.map es clock) := by rw [hlook]; unfold upd; rw [if_pos rfl]
  have hnx : σe.next = σ.next := by rw [hσe]
  have hN : Room (some (σ.next + 1 + 1)) (σe.next + 1 + 1) := by rw [hnx]; intro n h; cases h; exact Nat.le_refl _
  refine (withCall_of (N := some (σ.next + 1 + 1)) envOk (fn := Go.Proofs.Tryz.f86) (has := fun k => k = x ∨ k ∈ ks) rfl rfl rfl rfl hN ?_).mono ?_
  · exact Trip.withBody (τ0 := ⟨putAll .leaf 0 [.map ids, l], 28, []⟩) (l := l) envOk hN rfl rfl rfl rfl hse hle (tm := 94) (ti := 3) (tb := 4) (tsl := 27) rfl (fun k => rfl) (fun a i => rfl) rfl rfl
      (fun S τ n0 r h1 h2 h3 h4 h5 => Trip.withLoop envOk hs h1 h2 h3 h4 rfl (fun k => rfl) (fun a i => rfl) h5)
      (fun S σ0 τ n0 r seen has0 h1 h2 h3 h4 h5 h6 h7 h8 h9 => Trip.oneLoop envOk h1 h2 h3 h4 h5 h6 h7 h8 rfl (fun k => rfl) (fun a i => rfl) rfl rfl h9)
  · rintro v σ1 _ h
    obtain ⟨o, c, kk, h1, h2, h3⟩ := h.out
    exact ⟨h.v, ⟨o, c, kk, h1, h2, fun k => by rw [h3, mem_insSet]⟩, h.next, h.hid, h.keep, h.src⟩
end Go.Vai

/-
  A set is looked up.
-/
namespace Go.Vai
open Go
theorem findA_fset {E : Env} {kt : TypeId} (heq : ∀ a i, eqAt E 10 kt (.sc (.int .i64 a)) (.sc (.int .i64 i)) = some (a == i)) (k : Int) : ∀ (ks : List Int) (n : Nat),
    (k ∈ ks ∧ ∃ i, findA E kt (.sc (.int .i64 k)) (ks.map fun k => ({ key := .sc (.int .i64 k), val := .sc (.bool true), born := 0 } : AEntry)) n = some (some (i, .sc (.bool true)))) ∨
    (k ∉ ks ∧ findA E kt (.sc (.int .i64 k)) (ks.map fun k => ({ key := .sc (.int .i64 k), val := .sc (.bool true), born := 0 } : AEntry)) n = some none)
  | [], n => .inr ⟨by simp, rfl⟩
  | x :: ks, n => by
    have ih := findA_fset heq k ks (n + 1)
    simp only [List.map_cons, findA, heq]
    by_cases h : k = x
    · subst h
      exact .inl ⟨List.mem_cons_self, n, by simp⟩
    · have hb : (k == x) = false := by simpa using h
      simp only [hb]
      rcases ih with ⟨h1, i, h2⟩ | ⟨h1, h2⟩
      · exact .inl ⟨List.mem_cons_of_mem _ h1, i, h2⟩
      · exact .inr ⟨by simp [h, h1], h2⟩
theorem lookup_set {σ : St} {id : Nat} {ks : List Int} (h : σ.look id = some (.set ks)) (k : Int) : aLookup env 94 (.map id) (.sc (.int .i64 k)) false σ = some (.sc (.bool (ks.contains k))) := by
  have h3 : env.ty.get 94 = some ty94 := rfl
  have h4 : env.ty.get 4 = some ty4 := rfl
  have hk : keyOk env 10 3 (.sc (.int .i64 k)) = true := rfl
  unfold aLookup
  rw [h3]
  simp only [ty94, h4, hk, entriesOf, h]
  rcases findA_fset (E := env) (kt := 3) (fun a i => rfl) k ks 0 with ⟨h1, i, h2⟩ | ⟨h1, h2⟩
  · rw [h2]
    have : ks.contains k = true := by simpa using h1
    rw [this]; rfl
  · rw [h2]
    have : ks.contains k = false := by simpa using h1
    rw [this]; rfl
end Go.Vai

/-
  set.both: its loop.
-/
namespace Go.Vai
open Go
theorem seenKeys_more' {es : List AEntry} {clock : Nat} {ks : List Int} (hs : SetOf es clock ks) {seen : List Nat} {e : AEntry} (he : e ∈ es) {k : Int} (hk : e.key = .sc (.int .i64 k)) (p : Int → Prop) (x : Int) : (seenKeys es (seen ++ [e.born]) x ∧ p x) ↔ (x = k ∧ p k) ∨ (seenKeys es seen x ∧ p x) := by
  rw [seenKeys_more hs he hk]
  constructor
  · rintro ⟨rfl | h, h2⟩
    · exact .inl ⟨rfl, h2⟩
    · exact .inr ⟨h, h2⟩
  · rintro (⟨rfl, h2⟩ | ⟨h, h2⟩)
    · exact ⟨.inl rfl, h2⟩
    · exact ⟨.inr h, h2⟩
theorem bothLoop {N : Option Nat} {rd : Option Nat} {S : St} {τ0 : Tm} {es : List AEntry} {clock ids idx n0 r : Nat} {ks kx : List Int} (hs : SetOf es clock ks) (hN : Room N S.next) (hn : τ0.n = 20) (h1 : τ0.get 1 = .map idx) (h5 : τ0.get 5 = .map n0) (h9 : τ0.get 9 = .ptr r 0 0 0)
    (hx : S.look idx = some (.set kx)) (hix : idx ≠ n0 ∧ idx ≠ r)
    {b0 b1 i1 i2 i3 i4 : Nat} {y1 y2 y3 y4 y5 y6 y7 y8 z1 z2 z3 : TypeId} {p1 p2 p3 p4 p5 p6 p7 p8 q1 q2 q3 : String} {d1 d2 d3 d4 d5 d6 d7 d8 e1 e2 e3 : Array Edge}
    (h0 : Grow S es clock ids n0 r [] (fun _ => False) S) :
    Trip N env Go.Proofs.Tryz.prog rd (.block b0 (.loop (.seq (.region i1 #[⟨some 10, .next (.tmp 9) false, y1, p1, d1, none⟩, ⟨some 11, .extract (.tmp 10) 0, y2, p2, d2, none⟩] false) (.seq (.cond (.tmp 11) .skip (.exit b0))
      (.block b1 (.seq (.region i2 #[⟨some 12, .entry (.tmp 9), y3, p3, d3, none⟩, ⟨some 13, .extract (.tmp 12) 0, y4, p4, d4, none⟩, ⟨some 6, .assign (.tmp 13), y5, p5, d5, none⟩] false)
        (.seq (.region i4 #[⟨some 14, .move (.tmp 1), z1, q1, e1, none⟩, ⟨some 15, .move (.tmp 6), z2, q2, e2, none⟩, ⟨some 16, .lookup 94 (.tmp 14) (.tmp 15) false, z3, q3, e3, none⟩] false)
          (.cond (.tmp 16) (.region i3 #[⟨some 17, .move (.tmp 5), y6, p6, d6, none⟩, ⟨some 18, .move (.tmp 6), y7, p7, d7, none⟩, ⟨none, .mapUpdate 94 (.tmp 17) (.tmp 18) (.const (.bool true)), y8, p8, d8, none⟩] false) .skip)))))))) τ0 S
      fun x τ σ => x = .normal ∧ Same τ0 [10, 11, 12, 13, 6, 14, 15, 16, 17, 18] τ ∧ ∃ seen, Grow S es clock ids n0 r seen (fun k => k ∈ ks ∧ k ∈ kx) σ := by
  have hV : Sound env Go.Proofs.Tryz.prog Ev.none := none_sound
  refine Trip.range (r := r) (ids := ids) (since := clock) (clock := clock) (es := es) envOk (fun seen τ σ => Same τ0 [10, 11, 12, 13, 6, 14, 15, 16, 17, 18] τ ∧ Grow S es clock ids n0 r seen (fun k => seenKeys es seen k ∧ k ∈ kx) σ) ?_ ?_ ?_ (seen := [])
    ⟨Same.refl _ _, h0.mono fun k => ⟨False.elim, fun ⟨⟨e, _, hb, _⟩, _⟩ => by cases hb⟩⟩
  · rintro seen τ σ ⟨hτ, hσ⟩
    refine ⟨by rw [hσ.next]; exact hN, by rw [hτ.n, hn]; omega, by rw [hτ.n, hn]; omega, by rw [hτ.get 9 (by decide)]; exact h9, ⟨clock, hσ.it, Nat.le_refl _⟩, hσ.src, hs.old⟩
  · rintro seen τ σ ⟨hτ, hσ⟩ hu
    exact ⟨rfl, (hτ.set (by decide) _).set (by decide) _, seen, hσ.mono fun k => by rw [seenKeys_all hs hu]⟩
  · rintro seen τ σ e ⟨hτ, hσ⟩ he
    have hmem : e ∈ es := (List.mem_filter.1 he).1
    obtain ⟨k, hk, hkey, _⟩ := hs.key e hmem
    have hp := hσ.pass e
    have hN1 : Room N (σ.put r (.iter (some ids) clock (seen ++ [e.born]) clock)).next := by rw [hp.next]; exact hN
    have hτ1 : Same τ0 [10, 11, 12, 13, 6, 14, 15, 16, 17, 18] ((τ.set 10 (.tuple [.sc (.bool true), e.key, e.val])).set 11 (.sc (.bool true))) := (hτ.set (by decide) _).set (by decide) _
    generalize hτ' : (τ.set 10 (.tuple [.sc (.bool true), e.key, e.val])).set 11 (.sc (.bool true)) = τ1 at hτ1
    have hent := hσ.entry hs hmem
    have hlx : (σ.put r (.iter (some ids) clock (seen ++ [e.born]) clock)).look idx = some (.set kx) := by rw [hp.other hix.1 hix.2]; exact hx
    generalize hσ' : σ.put r (.iter (some ids) clock (seen ++ [e.born]) clock) = σ1 at hp hN1 hent hlx
    have lt : ∀ i, i < 20 → i < τ1.n := fun i hi => by rw [hτ1.n, hn]; exact hi
    refine Trip.block ?_
    refine Trip.seq (R1 := fun x τ2 σ2 => x = .normal ∧ σ2 = σ1 ∧ Same τ0 [10, 11, 12, 13, 6, 14, 15, 16, 17, 18] τ2 ∧ τ2.get 6 = .sc (.int .i64 k)) ?_ ?_ ?_
    · refine Trip.region envOk hV ?_ hN1
      refine OpersN.step rfl rfl (lt 12 (by omega)) (v := .tuple [e.key, e.val]) (σ1 := σ1) ?_ hN1 ?_
      · simp only [aOp, ev, hτ1.get 9 (by decide), h9, hent]; rfl
      · refine OpersN.step rfl rfl (by rw [Tm.set_n]; exact lt 13 (by omega)) (v := e.key) (σ1 := σ1) ?_ hN1 ?_
        · simp only [aOp, ev, Tm.get_set, if_true]; rfl
        · refine OpersN.step rfl rfl (by rw [Tm.set_n, Tm.set_n]; exact lt 6 (by omega)) (v := e.key) (σ1 := σ1) ?_ hN1 ?_
          · simp only [aOp, ev, Tm.get_set, if_true]
          · exact ⟨rfl, rfl, ((hτ1.set (by decide) _).set (by decide) _).set (by decide) _, by rw [Tm.get_set, if_pos rfl]; exact hkey⟩
    · rintro τ2 σ2 _ ⟨_, rfl, hτ2, h6⟩
      have lt2 : ∀ i, i < 20 → i < τ2.n := fun i hi => by rw [hτ2.n, hn]; exact hi
      have g1 : τ2.get 1 = .map idx := by rw [hτ2.get 1 (by decide)]; exact h1
      refine Trip.seq (R1 := fun x τ3 σ3 => x = .normal ∧ σ3 = σ2 ∧ Same τ0 [10, 11, 12, 13, 6, 14, 15, 16, 17, 18] τ3 ∧ τ3.get 6 = .sc (.int .i64 k) ∧ τ3.get 16 = .sc (.bool (kx.contains k))) ?_ ?_ ?_
      · refine Trip.region envOk hV ?_ hN1
        refine OpersN.step rfl rfl (lt2 14 (by omega)) (v := .map idx) (σ1 := σ2) ?_ hN1 ?_
        · simp only [aOp, ev, g1]
        · refine OpersN.step rfl rfl (by rw [Tm.set_n]; exact lt2 15 (by omega)) (v := .sc (.int .i64 k)) (σ1 := σ2) ?_ hN1 ?_
          · simp only [aOp, ev, Tm.get_set]; simp [h6]
          · refine OpersN.step rfl rfl (by rw [Tm.set_n, Tm.set_n]; exact lt2 16 (by omega)) (v := .sc (.bool (kx.contains k))) (σ1 := σ2) ?_ hN1 ?_
            · simp only [aOp, ev, Tm.get_set, if_true, show (14 : Nat) = 15 ↔ False from by decide, if_false, lookup_set hlx]; rfl
            · exact ⟨rfl, rfl, ((hτ2.set (by decide) _).set (by decide) _).set (by decide) _, by simp [Tm.get_set, h6], by simp [Tm.get_set]⟩
      · rintro τ3 σ3 _ ⟨_, rfl, hτ3, h63, h16⟩
        have lt3 : ∀ i, i < 20 → i < τ3.n := fun i hi => by rw [hτ3.n, hn]; exact hi
        refine Trip.cond (kx.contains k) h16 ?_
        cases hb : kx.contains k
        rotate_left
        · show Trip _ _ _ _ (.region _ _ _) _ _ _
          have hb : k ∈ kx := by simpa using hb
          obtain ⟨o', c', hu, hg⟩ := hp.lay (E := env) (tm := 94) (ti := 3) (tb := 4) rfl (k := k) rfl (fun a i => rfl)
          refine Trip.region envOk hV ?_ hN1
          refine OpersN.step rfl rfl (lt3 17 (by omega)) (v := .map n0) (σ1 := σ3) ?_ hN1 ?_
          · simp only [aOp, ev, hτ3.get 5 (by decide), h5]
          · refine OpersN.step rfl rfl (by rw [Tm.set_n]; exact lt3 18 (by omega)) (v := .sc (.int .i64 k)) (σ1 := σ3) ?_ hN1 ?_
            · simp only [aOp, ev, Tm.get_set]; simp [h63]
            · refine OpersN.unit rfl rfl (v := .sc undef) (σ1 := σ3.put n0 (.map o' c')) ?_ (by rw [hg.next]; exact hN) ?_
              · simp only [aOp, ev, Tm.get_set]
                simp only [if_true, show (17 : Nat) = 18 ↔ False from by decide, if_false, hu]
                rfl
              · refine ⟨rfl, (hτ3.set (by decide) _).set (by decide) _, hg.mono fun x => ?_⟩
                rw [seenKeys_more' hs hmem hkey (fun x => x ∈ kx)]
                simp only [hb, and_true]
        · show Trip _ _ _ _ .skip _ _ _
          have hb : k ∉ kx := by simpa using hb
          refine Trip.skip ⟨rfl, hτ3, hp.mono fun x => ?_⟩ hN1
          rw [seenKeys_more' hs hmem hkey (fun x => x ∈ kx)]
          simp only [hb, and_false, false_or]
      · rintro x τ3 σ3 hx ⟨rfl, _⟩
        exact absurd rfl hx
    · rintro x τ2 σ2 hx ⟨rfl, _⟩
      exact absurd rfl hx
end Go.Vai

/-
  set.both as a call.
-/
namespace Go.Vai
open Go
theorem both_ok {σ : St} {ids idx : Nat} {ks kx : List Int} (hsrc : σ.look ids = some (.set ks)) (hx : σ.look idx = some (.set kx)) (hne : idx ≠ ids) : CallOk env Go.Proofs.Tryz.prog 87 [.map ids, .map idx] σ (.map σ.next) (setSt σ (ks.filter fun k => kx.contains k)) := by
  refine setCall_ok hsrc ⟨Go.Proofs.Tryz.f87, rfl, by show Go.Proofs.Tryz.f87.body ≠ none; unfold Go.Proofs.Tryz.f87; simp⟩ (fun es clock hs σe hσe hlook => ?_)
  have hxe : σe.look idx = some (.set kx) := by rw [hlook]; unfold upd; rw [if_neg hne]; exact hx
  have hse : σe.look ids = some (.map es clock) := by rw [hlook]; unfold upd; rw [if_pos rfl]
  have hnx : σe.next = σ.next := by rw [hσe]
  have hN : Room (some (σ.next + 1 + 1)) (σe.next + 1 + 1) := by rw [hnx]; intro n h; cases h; exact Nat.le_refl _
  generalize hNN : some (σ.next + 1 + 1) = N at hN
  clear hNN
  have hV : Sound env Go.Proofs.Tryz.prog Ev.none := none_sound
  have bad : ∀ {y : AExit} {X : Prop}, y ≠ .normal → y = .normal ∧ X → False := fun h1 h2 => h1 h2.1
  refine Trip.call envOk (fn := Go.Proofs.Tryz.f87) rfl rfl (by show 2 ≤ 20; decide) ?_
  show Trip N env _ none _ ⟨putAll .leaf 0 [.map ids, .map idx], 20, []⟩ σe _
  refine Trip.mono (R := fun y τ' σ' => y = .ret ∧ τ'.marks = [] ∧ WithR σe ids (fun k => k ∈ ks.filter fun k => kx.contains k) (τ'.get 4) σ') ?_ ?_
  rotate_left
  · rintro y τ σ1 _ ⟨rfl, hm, hr⟩
    exact ⟨.inr rfl, σ1, [τ.get 4], by rw [hm]; rfl, rfl, by rw [hr.next]; exact hN, hr⟩
  have h0 : (⟨putAll .leaf 0 [.map ids, .map idx], 20, []⟩ : Tm).get 0 = .map ids := rfl
  have h1 : (⟨putAll .leaf 0 [.map ids, .map idx], 20, []⟩ : Tm).get 1 = .map idx := rfl
  have hn : (⟨putAll .leaf 0 [.map ids, .map idx], 20, []⟩ : Tm).n = 20 := rfl
  have hm : (⟨putAll .leaf 0 [.map ids, .map idx], 20, []⟩ : Tm).marks = [] := rfl
  generalize (⟨putAll .leaf 0 [.map ids, .map idx], 20, []⟩ : Tm) = τ0 at h0 h1 hn hm ⊢
  refine Trip.wf fun hW => ?_
  have hids : ids < σe.next := look_lt hW hse
  have hidx : idx < σe.next := look_lt hW hxe
  have hN0 : Room N σe.next := hN.le (by omega)
  refine Trip.seq (R1 := fun y τ1 σ1 => y = .normal ∧ σ1 = σe ∧ τ1 = τ0.set 4 (.sc (.map none))) ?_ ?_ (fun _ _ _ hy h => (bad hy h).elim)
  · refine Trip.region envOk hV ?_ hN0
    exact OpersN.step rfl rfl (by omega) (v := .sc (.map none)) (σ1 := σe) rfl hN0 ⟨rfl, rfl, rfl⟩
  rintro τ1 σ1 _ ⟨_, hσ1, rfl⟩
  replace hσ1 := hσ1.symm
  subst hσ1
  refine Trip.seq (R1 := fun y τ1 σ1 => y = .normal ∧ σ1 = σe.new (.map [] 0) ∧ τ1 = ((τ0.set 4 (.sc (.map none))).set 7 (.map σe.next)).set 5 (.map σe.next)) ?_ ?_ (fun _ _ _ hy h => (bad hy h).elim)
  · refine Trip.region envOk hV ?_ hN0
    have hN1 : Room N (σe.new (.map [] 0)).next := hN.le (by rw [St.new_eq]; exact Nat.le_succ _)
    refine OpersN.step rfl rfl (by rw [Tm.set_n]; omega) (v := .map σe.next) (σ1 := σe.new (.map [] 0)) rfl hN1 ?_
    refine OpersN.step rfl rfl (by rw [Tm.set_n, Tm.set_n]; omega) (v := .map σe.next) (σ1 := σe.new (.map [] 0)) ?_ hN1 ⟨rfl, rfl, rfl⟩
    simp only [aOp, ev, Tm.get_set, if_true]
  rintro τ1 σ1 t1 ⟨_, rfl, rfl⟩
  have hW1 : WF (σe.new (.map [] 0)) := t1.wf hW
  have hlk1 : (σe.new (.map [] 0)).look = upd σe.look σe.next (.map [] 0) := look_new hW _
  have hlm : (σe.new (.map [] 0)).look ids = some (.map es clock) := by rw [hlk1]; unfold upd; rw [if_neg (by omega)]; exact hse
  have hn1 : (σe.new (.map [] 0)).next = σe.next + 1 := rfl
  have ht : env.ty.get 94 = some ty94 := rfl
  refine Trip.seq (R1 := fun y τ2 σ2 => y = .normal ∧ τ2.n = 20 ∧ τ2.marks = [] ∧ τ2.get 5 = .map σe.next ∧
    ∃ seen, Grow ((σe.new (.map [] 0)).new (.iter (some ids) clock [] clock)) es clock ids σe.next (σe.next + 1) seen (fun k => k ∈ ks ∧ k ∈ kx) σ2) ?_ ?_ (fun _ _ _ hy h => (bad hy h).elim)
  · refine Trip.seq (R1 := fun y τ2 σ2 => y = .normal ∧ σ2 = (σe.new (.map [] 0)).new (.iter (some ids) clock [] clock) ∧ τ2 = ((((τ0.set 4 (.sc (.map none))).set 7 (.map σe.next)).set 5 (.map σe.next)).set 8 (.map ids)).set 9 (.ptr (σe.next + 1) 0 0 0)) ?_ ?_ (fun _ _ _ hy h => (bad hy h).elim)
    · refine Trip.region envOk hV ?_ (hN.le (by rw [hn1]; omega))
      refine OpersN.step rfl rfl (by simp only [Tm.set_n]; omega) (v := .map ids) (σ1 := σe.new (.map [] 0)) ?_ (hN.le (by rw [hn1]; omega)) ?_
      · simp [aOp, ev, Tm.get_set, h0]
      · refine OpersN.step rfl rfl (by simp only [Tm.set_n]; omega) (v := .ptr (σe.next + 1) 0 0 0) (σ1 := (σe.new (.map [] 0)).new (.iter (some ids) clock [] clock)) ?_ hN ⟨rfl, rfl, rfl⟩
        simp only [aOp, ev, Tm.get_set, if_true, aRange, ht, ty94, hlm]
        rfl
    · rintro τ2 σ2 t2 ⟨_, rfl, rfl⟩
      have hlk2 : ((σe.new (.map [] 0)).new (.iter (some ids) clock [] clock)).look = upd (upd σe.look σe.next (.map [] 0)) (σe.next + 1) (.iter (some ids) clock [] clock) := by
        rw [look_new hW1, hlk1]; rfl
      refine (bothLoop (ids := ids) (ks := ks) (kx := kx) (idx := idx) (n0 := σe.next) (r := σe.next + 1) hs hN (by simp only [Tm.set_n]; exact hn) (by simp [Tm.get_set, h1]) (by simp [Tm.get_set]) (by simp [Tm.get_set]) ?_ ⟨by omega, by omega⟩ ⟨?_, ?_, ⟨[], 0, [], ?_, SetOf.nil, fun k => by simp⟩, rfl, rfl, fun _ _ _ => rfl, by omega, by omega, by omega⟩).mono ?_
      · rw [hlk2]; unfold upd; rw [if_neg (by omega), if_neg (by omega)]; exact hxe
      · rw [hlk2]; unfold upd; rw [if_neg (by omega), if_neg (by omega)]; exact hse
      · rw [hlk2]; unfold upd; rw [if_pos rfl]
      · rw [hlk2]; unfold upd; rw [if_neg (by omega), if_pos rfl]
      · rintro y τ3 σ3 _ ⟨rfl, hsame, seen, hg⟩
        refine ⟨rfl, by rw [hsame.n]; simp only [Tm.set_n]; exact hn, by rw [hsame.marks]; simp only [Tm.set_marks]; exact hm, by rw [hsame.get 5 (by decide)]; simp [Tm.get_set], seen, hg⟩
  rintro τ3 σ3 _ ⟨_, m1, m2, m3, seen, hg3⟩
  have hN3 : Room N σ3.next := by rw [hg3.next]; exact hN
  refine Trip.seq (R1 := fun y τ4 σ4 => y = .normal ∧ σ4 = σ3 ∧ τ4 = (τ3.set 19 (.map σe.next)).set 4 (.map σe.next)) ?_ ?_ (fun _ _ _ hy h => (bad hy h).elim)
  · refine Trip.region envOk hV ?_ hN3
    refine OpersN.step rfl rfl (by omega) (v := .map σe.next) (σ1 := σ3) ?_ hN3 ?_
    · simp only [aOp, ev, m3]
    · refine OpersN.step rfl rfl (by simp only [Tm.set_n]; omega) (v := .map σe.next) (σ1 := σ3) ?_ hN3 ⟨rfl, rfl, rfl⟩
      simp only [aOp, ev, Tm.get_set, if_true]
  · rintro τ4 σ4 _ ⟨_, rfl, rfl⟩
    refine Trip.ret ⟨rfl, by simp only [Tm.set_marks]; exact m2, by simp [Tm.get_set], ?_, by rw [hg3.next]; rfl, by rw [hg3.hid]; rfl, fun id i1 i2 => (hg3.keep id i1 i2).trans ?_, by rw [hg3.src, hse]⟩ hN3
    · obtain ⟨o, c, ks', h1', h2', h3'⟩ := hg3.out
      exact ⟨o, c, ks', h1', h2', fun k => by rw [h3']; simp⟩
    · rw [St.new_eq, St.new_eq]
      simp only [T.get_set']
      rw [if_neg i2, if_neg i1]
end Go.Vai

/-
  The loop of follows: a set grows by all of another one.
-/
namespace Go.Vai
open Go
section
variable {E : Env} {P : Program} {N : Option Nat} {V : Ev} {ops : List Oper}
theorem OpersN.callOk {o : Oper} {rest : List Oper} {τ : Tm} {σ σ1 : St} {K : Tm → St → Prop} {d : Nat} {v : AV} {f : FuncId} {args : List AV} (hg : o.guard = none) (hd : o.dst = some d) (hn : d < τ.n) (ho : aOp E τ o.op σ = some (.enter f args, σ)) (hc : CallOk E P f args σ v σ1) (hN : Room N σ1.next)
    (h : OpersN N E P V ops rest (τ.set d v) σ1 K) : OpersN N E P V ops (o :: rest) τ σ K := by
  unfold OpersN
  refine .inr ⟨by unfold wantedA; rw [hg], .inr (.inr (.inl ⟨f, args, fun v' σ' => v' = v ∧ σ' = σ1, ho, CallTrip.of_ok hc ⟨rfl, rfl⟩ hN, ?_⟩))⟩
  rintro v' σ' _ ⟨rfl, rfl⟩
  refine ⟨τ.set d v', ?_, h⟩
  have : Nat.blt d τ.n = true := Nat.ble_eq_true_of_le hn
  rw [hd]
  simp [Tm.put, this]
end
theorem seen_len {es : List AEntry} {seen : List Nat} (hb : (es.map (·.born)).Nodup) (hs : seen.Nodup) (h1 : ∀ x ∈ seen, x ∈ es.map (·.born)) (h2 : ∀ e ∈ es, e.born ∈ seen) : seen.length = es.length := by
  have hp : seen.Perm (es.map (·.born)) := (List.perm_ext_iff_of_nodup hs hb).2 fun x => ⟨h1 x, fun h => by obtain ⟨e, he, rfl⟩ := List.mem_map.1 h; exact h2 e he⟩
  rw [hp.length_eq, List.length_map]
theorem nodup_len : ∀ (a b : List Nat), a.Nodup → a ⊆ b → a.length ≤ b.length
  | [], _, _, _ => Nat.zero_le _
  | x :: a, b, hn, hs => by
    obtain ⟨h1, h2⟩ := List.nodup_cons.1 hn
    have hx : x ∈ b := hs List.mem_cons_self
    have h3 : a ⊆ b.erase x := fun y hy => (List.mem_erase_of_ne (by rintro rfl; exact h1 hy)).2 (hs (List.mem_cons_of_mem _ hy))
    have h4 := nodup_len a _ h2 h3
    rw [List.length_erase_of_mem hx] at h4
    have : 0 < b.length := List.length_pos_of_mem hx
    simp only [List.length_cons]
    omega
theorem seen_lt {es : List AEntry} {seen : List Nat} (hs : seen.Nodup) (h1 : ∀ x ∈ seen, x ∈ es.map (·.born)) {e : AEntry} (he : e ∈ es) (hn : e.born ∉ seen) : seen.length < es.length := by
  have h2 : (e.born :: seen).Nodup := List.nodup_cons.2 ⟨hn, hs⟩
  have h3 : (e.born :: seen) ⊆ es.map (·.born) := fun x hx => by
    rcases List.mem_cons.1 hx with rfl | hx
    · exact List.mem_map.2 ⟨e, he, rfl⟩
    · exact h1 x hx
  have := nodup_len _ _ h2 h3
  simp only [List.length_cons, List.length_map] at this
  omega
theorem keys_len {es : List AEntry} {c : Nat} {ks : List Int} (h : SetOf es c ks) (hn : ks.Nodup) : es.length = ks.length := by
  have h1 : (ks.map fun k => AV.sc (.int .i64 k)).Nodup := by
    refine List.Pairwise.map _ (fun a b hab => ?_) hn
    intro e; injection e with e; injection e with _ e; exact hab e
  have hp : (es.map (·.key)).Perm (ks.map fun k => AV.sc (.int .i64 k)) := (List.perm_ext_iff_of_nodup h.keys h1).2 fun x => by
    constructor
    · intro hx
      obtain ⟨e, he, rfl⟩ := List.mem_map.1 hx
      obtain ⟨k, hk, hkey, _⟩ := h.key e he
      exact List.mem_map.2 ⟨k, hk, hkey.symm⟩
    · intro hx
      obtain ⟨k, hk, rfl⟩ := List.mem_map.1 hx
      obtain ⟨e, he, hkey⟩ := h.all k hk
      exact List.mem_map.2 ⟨e, he, hkey⟩
  have := hp.length_eq
  simpa using this
end Go.Vai

/-
  The loop of follows: one round, and all of them.
-/
namespace Go.Vai
open Go
/-- The number of the set that grows, after so many rounds. -/
def curF (m0 b n : Nat) : Nat := if n = 0 then m0 else b + 3 * (n - 1) + 1
structure Fol (S : St) (es : List AEntry) (clock ids r m0 : Nat) (ko : List Int) (seen : List Nat) (σ : St) : Prop where
  next : σ.next = S.next + 3 * seen.length
  it : σ.look r = some (.iter (some ids) clock seen clock)
  src : σ.look ids = some (.map es clock)
  out : ∃ kk, σ.look (curF m0 S.next seen.length) = some (.set kk) ∧ ∀ k, k ∈ kk ↔ k ∈ ko ∨ seenKeys es seen k
  hid : σ.hid = S.hid
  keep : ∀ id, id < S.next → id ≠ r → σ.h.get id = S.h.get id
  nodup : seen.Nodup
  sub : ∀ x ∈ seen, x ∈ es.map (·.born)
theorem next_new (σ : St) (o : AObj) : (σ.new o).next = σ.next + 1 := rfl
theorem setSt_new {σ : St} (hW : WF σ) (ks : List Int) : (setSt σ ks).look σ.next = some (.set ks) := by
  unfold St.look
  rw [setSt_get, if_pos rfl]
  have : hidden σ.next (setSt σ ks).hid = false := hW.vis σ.next (Nat.le_refl _)
  rw [this]
  rfl
def folTmps : List Nat := [40, 41, 42, 43, 11, 44, 45, 46, 47, 7]
/-- No aggregate. -/
def flat : AV → Bool
  | .agg _ => false
  | .sc (.agg _) => false
  | _ => true
structure SameF (τ0 τ : Tm) : Prop where
  same : Same τ0 folTmps τ
  na : ∀ i ∈ folTmps, flat (τ.get i) = true
theorem SameF.set {τ0 τ : Tm} (h : SameF τ0 τ) {i : Nat} (hi : i ∈ folTmps) {v : AV} (hv : flat v = true) : SameF τ0 (τ.set i v) := by
  refine ⟨h.same.set hi v, fun j hj => ?_⟩
  rw [Tm.get_set]
  split
  · exact hv
  · exact h.na j hj
theorem SameF.n {τ0 τ : Tm} (h : SameF τ0 τ) : τ.n = τ0.n := h.same.n
theorem SameF.get {τ0 τ : Tm} (h : SameF τ0 τ) (i : Nat) (hi : i ∉ folTmps) : τ.get i = τ0.get i := h.same.get i hi
theorem folLoop {N : Option Nat} {rd : Option Nat} {S : St} {τ0 : Tm} {es : List AEntry} {clock ids r m0 : Nat} {ks ko : List Int} (hs : SetOf es clock ks) (hN : Room N (S.next + 3 * es.length)) (hn : τ0.n = 59) (h7 : τ0.get 7 = .map m0) (h39 : τ0.get 39 = .ptr r 0 0 0)
    (hm : m0 < S.next ∧ m0 ≠ r) (hr : r < S.next) (hid : ids < S.next ∧ ids ≠ r)
    {b0 b1 i1 i2 i3 : Nat} {y1 y2 y3 y4 y5 y6 y7 y8 y9 y10 : TypeId} {at1 : Array TypeId} {p1 p2 p3 p4 p5 p6 p7 p8 p9 p10 : String} {d1 d2 d3 d4 d5 d6 d7 d8 d9 d10 : Array Edge}
    (h0 : Fol S es clock ids r m0 ko [] S) (hna : ∀ i ∈ folTmps, flat (τ0.get i) = true) :
    Trip N env Go.Proofs.Tryz.prog rd (.block b0 (.loop (.seq (.region i1 #[⟨some 40, .next (.tmp 39) false, y1, p1, d1, none⟩, ⟨some 41, .extract (.tmp 40) 0, y2, p2, d2, none⟩] false) (.seq (.cond (.tmp 41) .skip (.exit b0))
      (.block b1 (.seq (.region i2 #[⟨some 42, .entry (.tmp 39), y3, p3, d3, none⟩, ⟨some 43, .extract (.tmp 42) 0, y4, p4, d4, none⟩, ⟨some 11, .assign (.tmp 43), y5, p5, d5, none⟩] false)
        (.region i3 #[⟨some 44, .move (.tmp 7), y6, p6, d6, none⟩, ⟨some 45, .move (.tmp 11), y7, p7, d7, none⟩, ⟨some 46, .buildSlice 27 1 #[(0, .tmp 45)], y8, p8, d8, none⟩, ⟨some 47, .call { callee := .value (.func 86), args := #[.tmp 44, .tmp 46], argTypes := at1 }, y9, p9, d9, none⟩, ⟨some 7, .assign (.tmp 47), y10, p10, d10, none⟩] false))))))) τ0 S
      fun x τ σ => x = .normal ∧ SameF τ0 τ ∧ ∃ seen, seen.length = es.length ∧ unseen es seen = [] ∧ τ.get 7 = .map (curF m0 S.next es.length) ∧ Fol S es clock ids r m0 ko seen σ := by
  have hV : Sound env Go.Proofs.Tryz.prog Ev.none := none_sound
  have hroom : ∀ {n : Nat}, n ≤ es.length → Room N (S.next + 3 * n) := fun h => hN.le (by omega)
  have hlen : ∀ {seen : List Nat} {σ : St}, Fol S es clock ids r m0 ko seen σ → seen.length ≤ es.length := fun h => by
    have := nodup_len _ _ h.nodup (fun x hx => h.sub x hx)
    simpa using this
  refine Trip.range (r := r) (ids := ids) (since := clock) (clock := clock) (es := es) envOk (fun seen τ σ => SameF τ0 τ ∧ τ.get 7 = .map (curF m0 S.next seen.length) ∧ Fol S es clock ids r m0 ko seen σ) ?_ ?_ ?_ (seen := [])
    ⟨⟨Same.refl _ _, hna⟩, h7, h0⟩
  · rintro seen τ σ ⟨hτ, _, hσ⟩
    refine ⟨by rw [hσ.next]; exact hroom (hlen hσ), by rw [hτ.n, hn]; omega, by rw [hτ.n, hn]; omega, by rw [hτ.get 39 (by decide)]; exact h39, ⟨clock, hσ.it, Nat.le_refl _⟩, hσ.src, hs.old⟩
  · rintro seen τ σ ⟨hτ, hτ7, hσ⟩ hu
    have hl := seen_len hs.born hσ.nodup hσ.sub (all_seen hu)
    refine ⟨rfl, (hτ.set (by decide) (by first | rfl | exact hfk)).set (by decide) (by first | rfl | exact hfk), seen, hl, hu, ?_, hσ⟩
    simp only [Tm.get_set]
    rw [← hl]
    simpa using hτ7
  · rintro seen τ σ e ⟨hτ, hτ7, hσ⟩ he
    have hmem : e ∈ es := (List.mem_filter.1 he).1
    have hnew : e.born ∉ seen := by
      have := (List.mem_filter.1 he).2
      simpa using this
    have hlt := seen_lt hσ.nodup hσ.sub hmem hnew
    obtain ⟨k, hk, hkey, _⟩ := hs.key e hmem
    have hfk : flat e.key = true := by rw [hkey]; rfl
    refine Trip.wf fun hW1 => ?_
    generalize hτ' : (τ.set 40 (.tuple [.sc (.bool true), e.key, e.val])).set 41 (.sc (.bool true)) = τ1
    have hτ1 : SameF τ0 τ1 := by rw [← hτ']; exact (hτ.set (by decide) (by first | rfl | exact hfk)).set (by decide) (by first | rfl | exact hfk)
    have h71 : τ1.get 7 = .map (curF m0 S.next seen.length) := by rw [← hτ']; simp only [Tm.get_set]; simpa using hτ7
    have hl1 : ∀ i, (σ.put r (.iter (some ids) clock (seen ++ [e.born]) clock)).look i = if i = r then some (.iter (some ids) clock (seen ++ [e.born]) clock) else σ.look i := fun i => look_of_put hσ.it
    have hh1 : ∀ i, i ≠ r → (σ.put r (.iter (some ids) clock (seen ++ [e.born]) clock)).h.get i = σ.h.get i := fun i hi => by
      rw [St.put_eq]; simp only [T.get_set']; rw [if_neg hi]
    have hnx1 : (σ.put r (.iter (some ids) clock (seen ++ [e.born]) clock)).next = S.next + 3 * seen.length := by rw [St.put_eq]; exact hσ.next
    have hhid1 : (σ.put r (.iter (some ids) clock (seen ++ [e.born]) clock)).hid = S.hid := by rw [St.put_eq]; exact hσ.hid
    generalize hσ' : σ.put r (.iter (some ids) clock (seen ++ [e.born]) clock) = σ1 at hW1 hl1 hh1 hnx1 hhid1 ⊢
    obtain ⟨kk, hcur, hkk⟩ := hσ.out
    have hcr : curF m0 S.next seen.length ≠ r := by unfold curF; split <;> omega
    have hcur1 : σ1.look (curF m0 S.next seen.length) = some (.set kk) := by rw [hl1, if_neg hcr]; exact hcur
    have hit1 : σ1.look r = some (.iter (some ids) clock (seen ++ [e.born]) clock) := by rw [hl1, if_pos rfl]
    have hsrc1 : σ1.look ids = some (.map es clock) := by rw [hl1, if_neg hid.2]; exact hσ.src
    have hN1 : Room N σ1.next := by rw [hnx1]; exact hroom (by omega)
    have lt : ∀ i, i < 59 → i < τ1.n := fun i hi => by rw [hτ1.n, hn]; exact hi
    have hent : aEntry (.ptr r 0 0 0) σ1 = some (.tuple [e.key, e.val]) := by
      unfold aEntry
      simp only [hit1, hsrc1, List.getLast?_concat]
      have hb : Nat.beq clock clock = true := by simp
      rw [hb, find_mem hs.born hmem]
      rfl
    refine Trip.block ?_
    refine Trip.seq (R1 := fun x τ2 σ2 => x = .normal ∧ σ2 = σ1 ∧ SameF τ0 τ2 ∧ τ2.get 11 = .sc (.int .i64 k) ∧ τ2.get 7 = .map (curF m0 S.next seen.length)) ?_ ?_ ?_
    · refine Trip.region envOk hV ?_ hN1
      refine OpersN.step rfl rfl (lt 42 (by omega)) (v := .tuple [e.key, e.val]) (σ1 := σ1) ?_ hN1 ?_
      · simp only [aOp, ev, hτ1.get 39 (by decide), h39, hent]; rfl
      · refine OpersN.step rfl rfl (by rw [Tm.set_n]; exact lt 43 (by omega)) (v := e.key) (σ1 := σ1) ?_ hN1 ?_
        · simp only [aOp, ev, Tm.get_set, if_true]; rfl
        · refine OpersN.step rfl rfl (by rw [Tm.set_n, Tm.set_n]; exact lt 11 (by omega)) (v := e.key) (σ1 := σ1) ?_ hN1 ?_
          · simp only [aOp, ev, Tm.get_set, if_true]
          · exact ⟨rfl, rfl, ((hτ1.set (by decide) (by first | rfl | exact hfk)).set (by decide) (by first | rfl | exact hfk)).set (by decide) (by first | rfl | exact hfk), by rw [Tm.get_set, if_pos rfl]; exact hkey, by simp [Tm.get_set, h71]⟩
    · rintro τ2 σ2 _ ⟨_, rfl, hτ2, h11, h72⟩
      have lt2 : ∀ i, i < 59 → i < τ2.n := fun i hi => by rw [hτ2.n, hn]; exact hi
      -- the slice of one integer, and the call
      have hlk2 := look_new hW1 (.row 0 0 [.sc (.int .i64 k)])
      have hnx2 : (σ2.new (.row 0 0 [.sc (.int .i64 k)])).next = S.next + 3 * seen.length + 1 := by rw [next_new, hnx1]
      have hcur2 : (σ2.new (.row 0 0 [.sc (.int .i64 k)])).look (curF m0 S.next seen.length) = some (.set kk) := by
        rw [hlk2]; unfold upd; rw [if_neg]; exact hcur1
        have := look_lt hW1 hcur1; omega
      have hone : OneInt (σ2.new (.row 0 0 [.sc (.int .i64 k)])) (.slice σ2.next 0 0 1 1 1) k σ2.next :=
        ⟨0, 0, 1, 0, 0, [.sc (.int .i64 k)], rfl, by rw [hlk2]; unfold upd; rw [if_pos rfl], rfl, rfl, rfl⟩
      have hcall := with_ok hcur2 hone
      have hN2 : Room N (σ2.new (.row 0 0 [.sc (.int .i64 k)])).next := by rw [hnx2]; exact hN.le (by omega)
      have hN3 : Room N (setSt (σ2.new (.row 0 0 [.sc (.int .i64 k)])) (insSet k kk)).next := by
        show Room N ((σ2.new (.row 0 0 [.sc (.int .i64 k)])).next + 1 + 1)
        rw [hnx2]; exact hN.le (by omega)
      refine Trip.region envOk hV ?_ hN1
      refine OpersN.step rfl rfl (lt2 44 (by omega)) (v := .map (curF m0 S.next seen.length)) (σ1 := σ2) ?_ hN1 ?_
      · simp only [aOp, ev, h72]
      refine OpersN.step rfl rfl (by rw [Tm.set_n]; exact lt2 45 (by omega)) (v := .sc (.int .i64 k)) (σ1 := σ2) ?_ hN1 ?_
      · simp only [aOp, ev, Tm.get_set]; simp [h11]
      refine OpersN.step rfl rfl (by rw [Tm.set_n, Tm.set_n]; exact lt2 46 (by omega)) (v := .slice σ2.next 0 0 1 1 1) (σ1 := σ2.new (.row 0 0 [.sc (.int .i64 k)])) ?_ hN2 ?_
      · simp only [aOp, ev, Tm.get_set]; rfl
      refine OpersN.callOk rfl rfl (by simp only [Tm.set_n]; exact lt2 47 (by omega)) ?_ hcall hN3 ?_
      · simp only [aOp, ev, Tm.get_set, List.map_cons, List.map_nil]; rfl
      refine OpersN.step rfl rfl (by simp only [Tm.set_n]; exact lt2 7 (by omega)) (v := .map (σ2.new (.row 0 0 [.sc (.int .i64 k)])).next) (σ1 := setSt (σ2.new (.row 0 0 [.sc (.int .i64 k)])) (insSet k kk)) ?_ hN3 ?_
      · simp only [aOp, ev, Tm.get_set, if_true]
      have hlen1 : (seen ++ [e.born]).length = seen.length + 1 := by simp
      have hcn : curF m0 S.next (seen.length + 1) = S.next + 3 * seen.length + 1 := by unfold curF; rw [if_neg (by omega)]; rfl
      have hlk3 : ∀ i, i ≠ S.next + 3 * seen.length + 1 → i ≠ S.next + 3 * seen.length → (setSt (σ2.new (.row 0 0 [.sc (.int .i64 k)])) (insSet k kk)).look i = σ2.look i := fun i h1 h2 => by
        rw [setSt_look _ _ _ (by rw [hnx2]; exact h1), hlk2]
        unfold upd; rw [if_neg (by rw [hnx1]; exact h2)]
      have hrl := look_lt hW1 hit1
      have hil := look_lt hW1 hsrc1
      refine ⟨rfl, ((((hτ2.set (by decide) (by first | rfl | exact hfk)).set (by decide) (by first | rfl | exact hfk)).set (by decide) (by first | rfl | exact hfk)).set (by decide) (by first | rfl | exact hfk)).set (by decide) (by first | rfl | exact hfk), ?_, ⟨?_, ?_, ?_, ?_, ?_, ?_, ?_, ?_⟩⟩
      · rw [Tm.get_set, if_pos rfl, hlen1, hcn, hnx2]
      · show (σ2.new (.row 0 0 [.sc (.int .i64 k)])).next + 1 + 1 = _
        rw [hnx2, hlen1]; omega
      · rw [hlk3 _ (by omega) (by omega)]; exact hit1
      · rw [hlk3 _ (by omega) (by omega)]; exact hsrc1
      · refine ⟨insSet k kk, ?_, fun x => ?_⟩
        · rw [hlen1, hcn, ← hnx2]
          exact setSt_new ((Tr.new σ2 _).wf hW1) _
        · rw [mem_insSet, seenKeys_more hs hmem hkey, hkk]
          constructor
          · rintro (h | h | h)
            · exact .inr (.inl h)
            · exact .inl h
            · exact .inr (.inr h)
          · rintro (h | h | h)
            · exact .inr (.inl h)
            · exact .inl h
            · exact .inr (.inr h)
      · exact hhid1
      · intro id h1 h2
        rw [setSt_get, if_neg (by rw [hnx2]; omega), St.new_eq]
        simp only [T.get_set']
        rw [if_neg (by rw [hnx1]; omega), hh1 id h2]
        exact hσ.keep id h1 h2
      · rw [List.nodup_append]
        refine ⟨hσ.nodup, by simp, ?_⟩
        intro a ha b hb
        simp only [List.mem_singleton] at hb
        subst hb
        rintro rfl
        exact hnew ha
      · intro x hx
        rcases List.mem_append.1 hx with hx | hx
        · exact hσ.sub x hx
        · simp only [List.mem_singleton] at hx
          subst hx
          exact List.mem_map.2 ⟨e, hmem, rfl⟩
    · rintro x τ2 σ2 hx ⟨rfl, _⟩
      exact absurd rfl hx
end Go.Vai

/-
  The loop of follows as a piece of code with one outcome.
-/
namespace Go.Vai
open Go
section
variable {E : Env} {P : Program}
theorem HR.shut' {B : Nat} {β : Map} {w : World} {look look' : Look} (hR : HR E B β look w) (h : ∀ id o, look' id = some o → look id = some o ∨ (∃ es clock ks, o = .set ks ∧ look id = some (.map es clock) ∧ SetOf es clock ks) ∨
    ∃ kk ks, o = .set ks ∧ look id = some (.set kk) ∧ ∀ k, k ∈ kk ↔ k ∈ ks) : HR E B β look' w := by
  have some' : ∀ id o, look' id = some o → ∃ o', look id = some o' := by
    intro id o ho
    rcases h id o ho with h1 | ⟨es, clock, ks, _, h1, _⟩ | ⟨kk, ks, _, h1, _⟩
    · exact ⟨o, h1⟩
    · exact ⟨_, h1⟩
    · exact ⟨_, h1⟩
  have some2 : ∀ id o, look' id = some o → o ≠ .gone → ∃ o', look id = some o' ∧ o' ≠ .gone := by
    intro id o ho hng
    rcases h id o ho with h1 | ⟨es, clock, ks, _, h1, _⟩ | ⟨kk, ks, _, h1, _⟩
    · exact ⟨o, h1, hng⟩
    · exact ⟨_, h1, fun e => by cases e⟩
    · exact ⟨_, h1, fun e => by cases e⟩
  refine ⟨?_, ?_, ?_, hR.gl, hR.size, fun b o hb => ⟨(hR.fz b o hb).1, fun id ob g l ho hng e => by obtain ⟨o', ho', hg'⟩ := some2 id ob ho hng; exact (hR.fz b o hb).2 id o' g l ho' hg' e⟩⟩
  · intro id o ho
    rcases h id o ho with h1 | ⟨es, clock, ks, rfl, h1, hs⟩ | ⟨kk, ks, rfl, h1, hm⟩
    · exact hR.obj id o h1
    · obtain ⟨l, hl, cs, h2, h3⟩ := hR.obj id _ h1
      exact ⟨l, hl, es, clock, cs, h2, h3, hs⟩
    · obtain ⟨l, hl, es, clock, cs, h2, h3, hs⟩ := hR.obj id _ h1
      exact ⟨l, hl, es, clock, cs, h2, h3, hs.congr hm⟩
  · intro id o g l ho e
    obtain ⟨o', ho'⟩ := some' id o ho
    exact hR.own id o' g l ho' e
  · intro id o id' o' g g' l l' ho ho' e e' eb
    obtain ⟨p, hp⟩ := some' id o ho
    obtain ⟨p', hp'⟩ := some' id' o' ho'
    exact hR.inj id p id' p' g g' l l' hp hp' e e' eb
/-- Many outcomes of code that goes over a set, as one. -/
theorem setCode_ok {rd : Option Nat} {c : Code} {τ τ' : Tm} {σ σ' : St} {ids : Nat} {ks : List Int} (hsrc : σ.look ids = some (.set ks)) (ht : Tr σ σ')
    (h : WF σ → (∀ i, τ.n ≤ i → τ.t.get i = none) → ∀ es clock, SetOf es clock ks → ∀ (σe : St), σe = ⟨T.set (ids + 1) σ.h ids (.map es clock), σ.next, σ.hid, σ.log⟩ → σe.look = upd σ.look ids (.map es clock) →
      Trip (some σ'.next) E P rd c τ σe fun x τ1 σ1 => x = .normal ∧ σ1.next = σ'.next ∧ (∀ β a, FrR β τ1 a → FrR β τ' a) ∧
        ∀ id o, σ'.look id = some o → σ1.look id = some o ∨ (∃ es clock ks, o = .set ks ∧ σ1.look id = some (.map es clock) ∧ SetOf es clock ks) ∨ ∃ kk ks, o = .set ks ∧ σ1.look id = some (.set kk) ∧ ∀ k, k ∈ kk ↔ k ∈ ks) :
    CodeOk E P rd c τ σ .normal τ' σ' := by
  refine ⟨ht, fun B β w a F n Q hO hrd hR hW hF hfr hQ => ?_⟩
  obtain ⟨es, clock, hs, hRe⟩ := hR.open_set hsrc
  have hids : ids < σ.next := look_lt hW hsrc
  have hlook : (⟨T.set (ids + 1) σ.h ids (.map es clock), σ.next, σ.hid, σ.log⟩ : St).look = upd σ.look ids (.map es clock) := by
    have := look_put (σ := σ) (id := ids) (.map es clock) (look_some hsrc).1
    rw [St.put_eq] at this
    exact this
  have hWe : WF ⟨T.set (ids + 1) σ.h ids (.map es clock), σ.next, σ.hid, σ.log⟩ := ⟨fun id hid => by simp only [T.get_set']; rw [if_neg (by have : σ.next ≤ id := hid; omega)]; exact hW.none id hid, hW.vis⟩
  have dom : ∀ id, (∃ o, (⟨T.set (ids + 1) σ.h ids (.map es clock), σ.next, σ.hid, σ.log⟩ : St).look id = some o) ↔ ∃ o, σ.look id = some o := by
    intro id
    rw [hlook]
    unfold upd
    by_cases hi : id = ids
    · subst hi; simp [hsrc]
    · rw [if_neg hi]
  refine h hW hfr.1.2.1 es clock hs _ rfl hlook B β w a F n Q hO hrd (by rw [hlook]; exact hRe) hWe (FreshN.of hF) hfr ?_
  rintro x τ1 σ1 β' w' a' ⟨rfl, hn, hfr', hsh⟩ _ _ hR' hS ht1
  refine hQ β' w' a' (hR'.shut' hsh) ?_ (hfr' _ _ ht1)
  have hS2 := hS.dom dom
  rw [← hn]
  exact hS2
end
theorem flat_any {β : Map} {v : AV} {u : Value} (hv : flat v = true) (h : VR β v u) : VR β .any u := by
  simp only [VR]
  intro cs e
  subst e
  cases v with
  | sc x =>
    simp only [VR] at h
    subst h
    cases hv
  | agg vs => cases hv
  | any => simp only [VR] at h; exact h cs rfl
  | ptr _ _ _ _ => simp only [VR] at h; obtain ⟨_, _, _, _, h⟩ := h; cases h
  | slice _ _ _ _ _ _ => simp only [VR] at h; obtain ⟨_, _, _, _, h, _⟩ := h; cases h
  | map _ => simp only [VR] at h; obtain ⟨_, _, h⟩ := h; cases h
  | func _ _ _ => simp only [VR] at h; obtain ⟨_, _, h, _⟩ := h; cases h
  | yield _ => simp only [VR] at h; obtain ⟨_, _, h⟩ := h; cases h
  | iface _ _ => simp only [VR] at h; obtain ⟨_, h, _⟩ := h; cases h
  | tuple _ => simp only [VR] at h; obtain ⟨_, h, _⟩ := h; cases h
  | fro _ _ _ => simp only [VR] at h; obtain ⟨_, _, _, _, h, _⟩ := h; cases h
  | adr _ => simp only [VR] at h; obtain ⟨_, _, _, _, _, _, h, _⟩ := h; cases h
  | fmap _ _ => simp only [VR] at h; obtain ⟨_, h, _⟩ := h; cases h
/-- The number of the set at the loop's end. -/
noncomputable def folNum (σ : St) (m0 : Nat) (ks : List Int) : Nat := curF m0 (σ.next + 1) ks.length
noncomputable def allSet (ks ko : List Int) : List Int := List.rec (motive := fun _ => List Int) ko (fun k _ ih => insSet k ih) ks
theorem mem_allSet (ks ko : List Int) (x : Int) : x ∈ allSet ks ko ↔ x ∈ ks ∨ x ∈ ko := by
  induction ks with
  | nil => simp [allSet]
  | cons k ks ih =>
    show x ∈ insSet k (allSet ks ko) ↔ _
    rw [mem_insSet, ih]
    simp [or_assoc]
noncomputable def folSt (σ : St) (ks ko : List Int) : St :=
  List.rec (motive := fun _ => St) ⟨σ.h, σ.next + 1, σ.hid, σ.log⟩ (fun _ _ _ => ⟨T.set (folNum σ 0 ks + 1) σ.h (folNum σ 0 ks) (.set (allSet ks ko)), σ.next + 1 + 3 * ks.length, σ.hid, σ.log⟩) ks
noncomputable def blurs (l : List Nat) (τ : Tm) : Tm := List.rec (motive := fun _ => Tm) τ (fun i _ ih => Tm.set ih i .any) l
theorem blurs_n : ∀ (l : List Nat) (τ : Tm), (blurs l τ).n = τ.n
  | [], _ => rfl
  | i :: l, τ => by show ((blurs l τ).set i .any).n = _; rw [Tm.set_n, blurs_n l]
theorem blurs_marks : ∀ (l : List Nat) (τ : Tm), (blurs l τ).marks = τ.marks
  | [], _ => rfl
  | i :: l, τ => by show ((blurs l τ).set i .any).marks = _; rw [Tm.set_marks, blurs_marks l]
theorem blurs_get : ∀ (l : List Nat) (τ : Tm) (j : Nat), (blurs l τ).get j = if j ∈ l then .any else τ.get j
  | [], _, _ => by simp [blurs]
  | i :: l, τ, j => by
    show ((blurs l τ).set i .any).get j = _
    rw [Tm.get_set, blurs_get l]
    by_cases h : j = i
    · simp [h]
    · simp [h]
def blurred : List Nat := [38, 39, 40, 41, 42, 43, 11, 44, 45, 46, 47]
noncomputable def folTm (τ : Tm) (m : Nat) : Tm := (blurs blurred τ).set 7 (.map m)
theorem blurs_tget : ∀ (l : List Nat) (τ : Tm) (j : Nat), j ∉ l → (blurs l τ).t.get j = τ.t.get j
  | [], _, _, _ => rfl
  | i :: l, τ, j, h => by
    show ((blurs l τ).set i .any).t.get j = _
    rw [Tm.set_eq]
    simp only [T.get_set']
    rw [if_neg (fun e => h (by rw [e]; exact List.mem_cons_self)), blurs_tget l τ j (fun e => h (List.mem_cons_of_mem _ e))]
theorem folTm_fr {β : Map} {τ0 τ : Tm} {a : Act} {m : Nat} (h : FrR β τ a) (hn0 : τ0.n = 59) (hno : ∀ i, 59 ≤ i → τ0.t.get i = none) (hn : τ.n = 59) (hm : τ.marks = τ0.marks) (h7 : τ.get 7 = .map m) (hg : ∀ i, i ∉ blurred → i ≠ 7 → τ.get i = τ0.get i) (hfl : ∀ i ∈ blurred, flat (τ.get i) = true) : FrR β (folTm τ0 m) a := by
  have hb : ∀ i, 59 ≤ i → i ∉ blurred := fun i hi => by
    intro hm
    simp only [blurred, List.mem_cons, List.not_mem_nil, or_false] at hm
    omega
  obtain ⟨⟨h1, h2, h3⟩, h4⟩ := h
  have hnn : (folTm τ0 m).n = 59 := by unfold folTm; rw [Tm.set_n, blurs_n, hn0]
  refine ⟨⟨by rw [hnn, ← hn]; exact h1, fun i hi => ?_, fun i hi => ?_⟩, by unfold folTm; rw [Tm.set_marks, blurs_marks, ← hm]; exact h4⟩
  · rw [hnn] at hi
    unfold folTm
    rw [Tm.set_eq]
    simp only [T.get_set']
    rw [if_neg (by omega), blurs_tget _ _ _ (hb i hi)]
    exact hno i hi
  · rw [hnn] at hi
    have hv := h3 i (by rw [hn]; exact hi)
    show VR β ((folTm τ0 m).get i) _
    unfold folTm
    rw [Tm.get_set]
    by_cases h : i = 7
    · subst h
      rw [if_pos rfl, ← h7]; exact hv
    · rw [if_neg h, blurs_get]
      by_cases hb : i ∈ blurred
      · rw [if_pos hb]; exact flat_any (hfl i hb) hv
      · rw [if_neg hb, ← hg i hb h]; exact hv
theorem folSt_get (σ : St) {ks : List Int} (h : ks ≠ []) (ko : List Int) (id : Nat) : (folSt σ ks ko).h.get id = if id = folNum σ 0 ks then some (.set (allSet ks ko)) else σ.h.get id := by
  cases ks with
  | nil => exact absurd rfl h
  | cons k ks =>
    show (T.set _ _ _ _).get id = _
    simp only [T.get_set']
theorem folSt_next (σ : St) (ks ko : List Int) : (folSt σ ks ko).next = σ.next + 1 + 3 * ks.length := by
  cases ks <;> rfl
theorem folSt_hid (σ : St) (ks ko : List Int) : (folSt σ ks ko).hid = σ.hid := by
  cases ks <;> rfl
theorem folSt_log (σ : St) (ks ko : List Int) : (folSt σ ks ko).log = σ.log := by
  cases ks <;> rfl
theorem folNum_ge (σ : St) (m0 : Nat) {ks : List Int} (h : ks ≠ []) : σ.next + 1 ≤ folNum σ m0 ks ∧ folNum σ m0 ks < σ.next + 1 + 3 * ks.length := by
  have : ks.length ≠ 0 := by simpa using h
  unfold folNum curF
  rw [if_neg this]
  omega
theorem folSt_tr (σ : St) (ks ko : List Int) : Tr σ (folSt σ ks ko) := by
  have hg : ∀ id, id < σ.next ∨ (folSt σ ks ko).next ≤ id → (folSt σ ks ko).h.get id = σ.h.get id := by
    intro id hid
    by_cases h : ks = []
    · subst h; rfl
    · have := folNum_ge σ 0 h
      rw [folSt_get σ h, if_neg]
      rw [folSt_next] at hid
      omega
  refine ⟨by rw [folSt_next]; omega, folSt_hid _ _ _, ⟨[], folSt_log _ _ _, fun id hid _ => hg id (.inl hid), fun _ h => by cases h⟩, fun id hid => by rw [hg id (.inl hid)], fun hw => ⟨fun id hid => ?_, fun id hid => ?_⟩⟩
  · rw [hg id (.inr hid)]
    rw [folSt_next] at hid
    exact hw.none id (by omega)
  · rw [folSt_next] at hid
    rw [folSt_hid]
    exact hw.vis id (by omega)
theorem folCode {rd : Option Nat} {τ : Tm} {σ : St} {ids m0 : Nat} {ks ko : List Int} (hn : τ.n = 59) (h7 : τ.get 7 = .map m0) (h10 : τ.get 10 = .map ids) (hsrc : σ.look ids = some (.set ks)) (hko : σ.look m0 = some (.set ko)) (hne : m0 ≠ ids) (hnd : ks.Nodup)
    (hfl : ∀ i ∈ folTmps, flat (τ.get i) = true)
    {b0 b1 i0 i1 i2 i3 : Nat} {y1 y2 y3 y4 y5 y6 y7 y8 y9 y10 z1 z2 : TypeId} {at1 : Array TypeId} {p1 p2 p3 p4 p5 p6 p7 p8 p9 p10 q1 q2 : String} {d1 d2 d3 d4 d5 d6 d7 d8 d9 d10 e1 e2 : Array Edge} :
    CodeOk env Go.Proofs.Tryz.prog rd (.seq (.region i0 #[⟨some 38, .move (.tmp 10), z1, q1, e1, none⟩, ⟨some 39, .range 94 (.tmp 38), z2, q2, e2, none⟩] false)
      (.block b0 (.loop (.seq (.region i1 #[⟨some 40, .next (.tmp 39) false, y1, p1, d1, none⟩, ⟨some 41, .extract (.tmp 40) 0, y2, p2, d2, none⟩] false) (.seq (.cond (.tmp 41) .skip (.exit b0))
      (.block b1 (.seq (.region i2 #[⟨some 42, .entry (.tmp 39), y3, p3, d3, none⟩, ⟨some 43, .extract (.tmp 42) 0, y4, p4, d4, none⟩, ⟨some 11, .assign (.tmp 43), y5, p5, d5, none⟩] false)
        (.region i3 #[⟨some 44, .move (.tmp 7), y6, p6, d6, none⟩, ⟨some 45, .move (.tmp 11), y7, p7, d7, none⟩, ⟨some 46, .buildSlice 27 1 #[(0, .tmp 45)], y8, p8, d8, none⟩, ⟨some 47, .call { callee := .value (.func 86), args := #[.tmp 44, .tmp 46], argTypes := at1 }, y9, p9, d9, none⟩, ⟨some 7, .assign (.tmp 47), y10, p10, d10, none⟩] false)))))))) τ σ .normal (folTm τ (folNum σ m0 ks)) (folSt σ ks ko) := by
  refine setCode_ok hsrc (folSt_tr σ ks ko) (fun hW hno es clock hs σe hσe hlook => ?_)
  have hV : Sound env Go.Proofs.Tryz.prog Ev.none := none_sound
  have hel : es.length = ks.length := keys_len hs hnd
  have hnx : σe.next = σ.next := by rw [hσe]
  have hse : σe.look ids = some (.map es clock) := by rw [hlook]; unfold upd; rw [if_pos rfl]
  have hme : σe.look m0 = some (.set ko) := by rw [hlook]; unfold upd; rw [if_neg hne]; exact hko
  have hids : ids < σ.next := look_lt hW hsrc
  have hm0 : m0 < σ.next := look_lt hW hko
  have hN : Room (some (folSt σ ks ko).next) (σe.next + 1 + 3 * es.length) := by rw [folSt_next, hel, hnx]; intro n h; cases h; exact Nat.le_refl _
  generalize hNN : some (folSt σ ks ko).next = N at hN
  clear hNN
  have hN0 : Room N σe.next := hN.le (by omega)
  have hN1 : Room N (σe.next + 1) := hN.le (by omega)
  have ht : env.ty.get 94 = some ty94 := rfl
  have bad : ∀ {y : AExit} {X : Prop}, y ≠ .normal → y = .normal ∧ X → False := fun h1 h2 => h1 h2.1
  refine Trip.wf fun hWe => ?_
  refine Trip.seq (R1 := fun y τ2 σ2 => y = .normal ∧ σ2 = σe.new (.iter (some ids) clock [] clock) ∧ τ2 = (τ.set 38 (.map ids)).set 39 (.ptr σe.next 0 0 0)) ?_ ?_ (fun _ _ _ hy h => (bad hy h).elim)
  · refine Trip.region envOk hV ?_ hN0
    refine OpersN.step rfl rfl (by rw [hn]; omega) (v := .map ids) (σ1 := σe) ?_ hN0 ?_
    · simp only [aOp, ev, h10]
    · refine OpersN.step rfl rfl (by simp only [Tm.set_n]; rw [hn]; omega) (v := .ptr σe.next 0 0 0) (σ1 := σe.new (.iter (some ids) clock [] clock)) ?_ hN1 ⟨rfl, rfl, rfl⟩
      simp only [aOp, ev, Tm.get_set, if_true, aRange, ht, ty94, hse]
      rfl
  rintro τ1 σ1 t1 ⟨_, rfl, rfl⟩
  have hlk1 : (σe.new (.iter (some ids) clock [] clock)).look = upd σe.look σe.next (.iter (some ids) clock [] clock) := look_new hWe _
  have hn1 : (σe.new (.iter (some ids) clock [] clock)).next = σe.next + 1 := rfl
  refine (folLoop (ids := ids) (S := σe.new (.iter (some ids) clock [] clock)) (r := σe.next) (m0 := m0) (ko := ko) (ks := ks) hs (by rw [hn1]; exact hN) (by simp only [Tm.set_n]; exact hn) (by simp [Tm.get_set, h7]) (by simp [Tm.get_set]) ⟨by rw [hn1]; omega, by omega⟩ (by rw [hn1]; omega) ⟨by rw [hn1]; omega, by omega⟩ ⟨rfl, ?_, ?_, ⟨ko, ?_, fun k => ?_⟩, rfl, fun _ _ _ => rfl, List.nodup_nil, fun _ h => by cases h⟩ ?_).mono ?_
  · rw [hlk1]; unfold upd; rw [if_pos rfl]
  · rw [hlk1]; unfold upd; rw [if_neg (by omega)]; exact hse
  · show (σe.new _).look (curF m0 _ 0) = _
    rw [hlk1]; unfold upd curF; rw [if_pos rfl, if_neg (by omega)]; exact hme
  · constructor
    · exact .inl
    · rintro (h | ⟨e, _, hb, _⟩)
      · exact h
      · cases hb
  · intro i hi
    have h1 : i ≠ 38 ∧ i ≠ 39 := by
      constructor <;> (rintro rfl; revert hi; decide)
    rw [Tm.get_set, if_neg h1.2, Tm.get_set, if_neg h1.1]
    exact hfl i hi
  · rintro y τ2 σ2 t2 ⟨rfl, hτ, seen, hl, hu, hg7, hF⟩
    have hnum : curF m0 (σe.new (.iter (some ids) clock [] clock)).next es.length = folNum σ m0 ks := by
      unfold folNum; rw [hn1, hnx, hel]
    refine ⟨rfl, by rw [hF.next, folSt_next, hn1, hl, hel, hnx], fun β a hfr => ?_, ?_⟩
    · refine folTm_fr hfr hn (by rw [← hn]; exact hno) (by rw [hτ.n]; simp only [Tm.set_n]; exact hn) (by rw [hτ.same.marks]; simp only [Tm.set_marks]) (by rw [hg7, hnum]) ?_ ?_
      · intro i hb h7'
        have hb' : i ≠ 38 ∧ i ≠ 39 ∧ i ∉ folTmps := by
          simp only [blurred, List.mem_cons, List.not_mem_nil, or_false, not_or] at hb
          refine ⟨hb.1, hb.2.1, ?_⟩
          simp only [folTmps, List.mem_cons, List.not_mem_nil, or_false, not_or]
          omega
        rw [hτ.get i hb'.2.2, Tm.get_set, if_neg hb'.2.1, Tm.get_set, if_neg hb'.1]
      · intro i hb
        by_cases hf : i ∈ folTmps
        · exact hτ.na i hf
        · rw [hτ.get i hf]
          have : i = 38 ∨ i = 39 := by
            simp only [blurred, List.mem_cons, List.not_mem_nil, or_false] at hb
            simp only [folTmps, List.mem_cons, List.not_mem_nil, or_false, not_or] at hf
            omega
          rcases this with rfl | rfl
          · rw [Tm.get_set, if_neg (by decide), Tm.get_set, if_pos rfl]; rfl
          · rw [Tm.get_set, if_pos rfl]; rfl
    · intro id ob ho
      obtain ⟨hh1, hh2⟩ := look_some ho
      rw [folSt_hid] at hh1
      have hhid2 : hidden id σ2.hid = false := by
        rw [hF.hid]; show hidden id σe.hid = false; rw [hσe]; exact hh1
      have lk2 : σ2.look id = σ2.h.get id := by unfold St.look; rw [hhid2]; rfl
      have old : id < σ.next → σ.h.get id = some ob → σ2.look id = some ob ∨ (∃ es clock ks, ob = .set ks ∧ σ2.look id = some (.map es clock) ∧ SetOf es clock ks) ∨ ∃ kk ks, ob = .set ks ∧ σ2.look id = some (.set kk) ∧ ∀ k, k ∈ kk ↔ k ∈ ks := by
        intro hlt hget
        by_cases hi : id = ids
        · subst hi
          have := (look_some hsrc).2
          rw [this] at hget
          cases hget
          exact .inr (.inl ⟨es, clock, ks, rfl, hF.src, hs⟩)
        · left
          rw [lk2, hF.keep id (by rw [hn1]; omega) (by omega), St.new_eq]
          simp only [T.get_set']
          rw [if_neg (by omega), hσe]
          simp only [T.get_set']
          rw [if_neg hi]
          exact hget
      by_cases hk : ks = []
      · subst hk
        have hget : σ.h.get id = some ob := hh2
        exact old (Nat.lt_of_not_le fun hle => by rw [hW.none id hle] at hget; cases hget) hget
      · rw [folSt_get σ hk] at hh2
        by_cases hi : id = folNum σ 0 ks
        · rw [if_pos hi] at hh2
          cases hh2
          subst hi
          obtain ⟨kk, hkk, hmem⟩ := hF.out
          refine .inr (.inr ⟨kk, _, rfl, ?_, fun x => ?_⟩)
          · rw [← hkk, hl, hn1, hnx, hel]
            unfold folNum curF
            have : ks.length ≠ 0 := by simpa using hk
            rw [if_neg this, if_neg this]
          · rw [hmem, mem_allSet]
            constructor
            · rintro (h | ⟨e, he, _, hkey⟩)
              · exact .inr h
              · obtain ⟨k', hk', hkey', _⟩ := hs.key e he
                rw [hkey] at hkey'
                injection hkey' with h1; injection h1 with _ h1
                rw [h1]
                exact .inl hk'
            · rintro (h | h)
              · obtain ⟨e, he, hkey⟩ := hs.all x h
                exact .inr ⟨e, he, all_seen hu e he, hkey⟩
              · exact .inl h
        · rw [if_neg hi] at hh2
          exact old (Nat.lt_of_not_le fun hle => by rw [hW.none id hle] at hh2; cases hh2) hh2
end Go.Vai

/-
  The machine with summaries: set.with, set.both and the loop of follows are taken by what they come to.
-/
namespace Go.Vai
open Go

/-! ### What the loop of follows looks like -/
theorem arr_eq {α : Type} {a : Array α} {l : List α} (h : a.toList = l) : a = l.toArray := by
  cases a
  simp only at h
  rw [h]
def isFolPre (l : List Oper) : Bool := match l with
  | [⟨some a, .move (.tmp b), _, _, _, none⟩, ⟨some c, .range t (.tmp d), _, _, _, none⟩] => Nat.beq a 38 && Nat.beq b 10 && Nat.beq c 39 && Nat.beq t 94 && Nat.beq d 38
  | _ => false
theorem isFolPre_ok {l : List Oper} (h : isFolPre l = true) : ∃ y1 p1 d1 y2 p2 d2, l = [⟨some 38, .move (.tmp 10), y1, p1, d1, none⟩, ⟨some 39, .range 94 (.tmp 38), y2, p2, d2, none⟩] := by
  unfold isFolPre at h
  split at h
  · simp only [Bool.and_eq_true] at h
    obtain ⟨⟨⟨⟨h1, h2⟩, h3⟩, h4⟩, h5⟩ := h
    rw [beqT h1, beqT h2, beqT h3, beqT h4, beqT h5]
    exact ⟨_, _, _, _, _, _, rfl⟩
  · cases h
def isFolNext (l : List Oper) : Bool := match l with
  | [⟨some a, .next (.tmp b) false, _, _, _, none⟩, ⟨some c, .extract (.tmp d) e, _, _, _, none⟩] => Nat.beq a 40 && Nat.beq b 39 && Nat.beq c 41 && Nat.beq d 40 && Nat.beq e 0
  | _ => false
theorem isFolNext_ok {l : List Oper} (h : isFolNext l = true) : ∃ y1 p1 d1 y2 p2 d2, l = [⟨some 40, .next (.tmp 39) false, y1, p1, d1, none⟩, ⟨some 41, .extract (.tmp 40) 0, y2, p2, d2, none⟩] := by
  unfold isFolNext at h
  split at h
  · simp only [Bool.and_eq_true] at h
    obtain ⟨⟨⟨⟨h1, h2⟩, h3⟩, h4⟩, h5⟩ := h
    rw [beqT h1, beqT h2, beqT h3, beqT h4, beqT h5]
    exact ⟨_, _, _, _, _, _, rfl⟩
  · cases h
def isFolEnt (l : List Oper) : Bool := match l with
  | [⟨some a, .entry (.tmp b), _, _, _, none⟩, ⟨some c, .extract (.tmp d) e, _, _, _, none⟩, ⟨some f, .assign (.tmp g), _, _, _, none⟩] => Nat.beq a 42 && Nat.beq b 39 && Nat.beq c 43 && Nat.beq d 42 && Nat.beq e 0 && Nat.beq f 11 && Nat.beq g 43
  | _ => false
theorem isFolEnt_ok {l : List Oper} (h : isFolEnt l = true) : ∃ y1 p1 d1 y2 p2 d2 y3 p3 d3, l = [⟨some 42, .entry (.tmp 39), y1, p1, d1, none⟩, ⟨some 43, .extract (.tmp 42) 0, y2, p2, d2, none⟩, ⟨some 11, .assign (.tmp 43), y3, p3, d3, none⟩] := by
  unfold isFolEnt at h
  split at h
  · simp only [Bool.and_eq_true] at h
    obtain ⟨⟨⟨⟨⟨⟨h1, h2⟩, h3⟩, h4⟩, h5⟩, h6⟩, h7⟩ := h
    rw [beqT h1, beqT h2, beqT h3, beqT h4, beqT h5, beqT h6, beqT h7]
    exact ⟨_, _, _, _, _, _, _, _, _, rfl⟩
  · cases h
def atZero (l : List (Nat × Operand)) : Bool := match l with
  | [(n, .tmp x)] => Nat.beq n 0 && Nat.beq x 45
  | _ => false
theorem atZero_ok {l : List (Nat × Operand)} (h : atZero l = true) : l = [(0, .tmp 45)] := by
  unfold atZero at h
  split at h
  · simp only [Bool.and_eq_true] at h
    rw [beqT h.1, beqT h.2]
  · cases h
def twoArgs (l : List Operand) : Bool := match l with
  | [.tmp x, .tmp y] => Nat.beq x 44 && Nat.beq y 46
  | _ => false
theorem twoArgs_ok {l : List Operand} (h : twoArgs l = true) : l = [.tmp 44, .tmp 46] := by
  unfold twoArgs at h
  split at h
  · simp only [Bool.and_eq_true] at h
    rw [beqT h.1, beqT h.2]
  · cases h
def isFolBody (l : List Oper) : Bool := match l with
  | [⟨some a, .move (.tmp b), _, _, _, none⟩, ⟨some c, .move (.tmp d), _, _, _, none⟩, ⟨some e, .buildSlice f g ps, _, _, _, none⟩, ⟨some h, .call ⟨.value (.func i), args, _⟩, _, _, _, none⟩, ⟨some j, .assign (.tmp k), _, _, _, none⟩] =>
    (Nat.beq a 44 && Nat.beq b 7 && Nat.beq c 45 && Nat.beq d 11) && (Nat.beq e 46 && Nat.beq f 27 && Nat.beq g 1 && atZero ps.toList) && (Nat.beq h 47 && Nat.beq i 86 && twoArgs args.toList) && (Nat.beq j 7 && Nat.beq k 47)
  | _ => false
theorem isFolBody_ok {l : List Oper} (h : isFolBody l = true) : ∃ y1 p1 d1 y2 p2 d2 y3 p3 d3 y4 p4 d4 y5 p5 d5 at1, l = [⟨some 44, .move (.tmp 7), y1, p1, d1, none⟩, ⟨some 45, .move (.tmp 11), y2, p2, d2, none⟩, ⟨some 46, .buildSlice 27 1 #[(0, .tmp 45)], y3, p3, d3, none⟩, ⟨some 47, .call { callee := .value (.func 86), args := #[.tmp 44, .tmp 46], argTypes := at1 }, y4, p4, d4, none⟩, ⟨some 7, .assign (.tmp 47), y5, p5, d5, none⟩] := by
  unfold isFolBody at h
  split at h
  · rename_i ps _ _ _ _ _ args _ _ _ _ _ _ _ _ _
    simp only [Bool.and_eq_true] at h
    obtain ⟨⟨⟨⟨⟨⟨h1, h2⟩, h3⟩, h4⟩, ⟨⟨h5, h6⟩, h7⟩, h8⟩, ⟨h9, h10⟩, h11⟩, h12, h13⟩ := h
    have e1 := arr_eq (atZero_ok h8)
    have e2 := arr_eq (twoArgs_ok h11)
    rw [beqT h1, beqT h2, beqT h3, beqT h4, beqT h5, beqT h6, beqT h7, beqT h9, beqT h10, beqT h12, beqT h13, e1, e2]
    exact ⟨_, _, _, _, _, _, _, _, _, _, _, _, _, _, _, _, rfl⟩
  · cases h
def isFol (c : Code) : Bool := match c with
  | .seq (.region _ o0 false) (.block b0 (.loop (.seq (.region _ o1 false) (.seq (.cond (.tmp t) .skip (.exit b1)) (.block _ (.seq (.region _ o2 false) (.region _ o3 false))))))) =>
    (isFolPre o0.toList && Nat.beq t 41 && Nat.beq b1 b0) && (isFolNext o1.toList && isFolEnt o2.toList && isFolBody o3.toList)
  | _ => false
noncomputable def folSum (τ : Tm) (σ : St) (slow : R3) : R3 :=
  match τ.get 7, τ.get 10 with
  | .map m0, .map ids => match σ.look ids, σ.look m0 with
    | some (.set ks), some (.set ko) => cond (!Nat.beq m0 ids && decide ks.Nodup && (folTmps.all fun i => flat (τ.get i)) && Nat.beq τ.n 59) (some (.normal, folTm τ (folNum σ m0 ks), folSt σ ks ko)) slow
    | _, _ => slow
  | _, _ => slow
noncomputable def folF (c : Code) (τ : Tm) (σ : St) (slow : R3) : R3 := match c with
  | .seq (.region _ _ false) (.block _ (.loop _)) => cond (isFol c) (folSum τ σ slow) slow
  | _ => slow
theorem fol_ok {rd : Option Nat} {c : Code} {τ τ' : Tm} {σ σ' : St} {x : AExit} {slow : R3} (hc : isFol c = true) (hs : ∀ x τ' σ', slow = some (x, τ', σ') → CodeOk env Go.Proofs.Tryz.prog rd c τ σ x τ' σ') (h : folSum τ σ slow = some (x, τ', σ')) : CodeOk env Go.Proofs.Tryz.prog rd c τ σ x τ' σ' := by
  unfold folSum at h
  split at h
  · rename_i m0 ids h7 h10
    split at h
    · rename_i ks ko hl1 hl2
      cases hb : (!Nat.beq m0 ids && decide ks.Nodup && (folTmps.all fun i => flat (τ.get i)) && Nat.beq τ.n 59) with
      | false => rw [hb] at h; exact hs _ _ _ h
      | true =>
        rw [hb] at h
        simp only [Bool.and_eq_true, decide_eq_true_eq, List.all_eq_true] at hb
        obtain ⟨⟨⟨n1, n2⟩, n3⟩, n4⟩ := hb
        have hne : m0 ≠ ids := by rintro rfl; simp at n1
        cases h
        unfold isFol at hc
        split at hc
        · rename_i o0 b0 _ o1 t b1 _ _ o2 _ o3
          simp only [Bool.and_eq_true] at hc
          obtain ⟨⟨⟨g1, g2⟩, g3⟩, ⟨g4, g5⟩, g6⟩ := hc
          obtain ⟨_, _, _, _, _, _, e1⟩ := isFolPre_ok g1
          obtain ⟨_, _, _, _, _, _, e2⟩ := isFolNext_ok g4
          obtain ⟨_, _, _, _, _, _, _, _, _, e3⟩ := isFolEnt_ok g5
          obtain ⟨_, _, _, _, _, _, _, _, _, _, _, _, _, _, _, _, e4⟩ := isFolBody_ok g6
          rw [beqT g2, beqT g3, arr_eq e1, arr_eq e2, arr_eq e3, arr_eq e4]
          exact folCode (beqT n4) h7 h10 hl1 hl2 hne n2 n3
        · cases hc
    · exact hs _ _ _ h
  · exact hs _ _ _ h
theorem folF_ok {rd : Option Nat} {c : Code} {τ τ' : Tm} {σ σ' : St} {x : AExit} {slow : R3} (hs : ∀ x τ' σ', slow = some (x, τ', σ') → CodeOk env Go.Proofs.Tryz.prog rd c τ σ x τ' σ') (h : folF c τ σ slow = some (x, τ', σ')) : CodeOk env Go.Proofs.Tryz.prog rd c τ σ x τ' σ' := by
  unfold folF at h
  split at h
  · cases hc : isFol _ with
    | false => rw [hc] at h; exact hs _ _ _ h
    | true => rw [hc] at h; exact fol_ok hc hs h
  · exact hs _ _ _ h

/-! ### The calls -/
theorem CallOk.set_of {E : Env} {P : Program} {f : FuncId} {args : List AV} {σ σ1 : St} {m : Nat} {es : List AEntry} {clock : Nat} {ks : List Int} (h : CallOk E P f args σ (.map m) σ1) (hm : σ.next ≤ m) (hl : σ1.look m = some (.map es clock)) (hs : SetOf es clock ks) :
    CallOk E P f args σ (.map m) ⟨T.set (m + 1) σ1.h m (.set ks), σ1.next, σ1.hid, σ1.log⟩ := by
  obtain ⟨t, hf, hc⟩ := h
  have hget : ∀ i, (T.set (m + 1) σ1.h m (AObj.set ks)).get i = if i = m then some (.set ks) else σ1.h.get i := fun i => T.get_set' ..
  refine ⟨⟨t.next, t.hid, ?_, ?_, ?_⟩, hf, ?_⟩
  · obtain ⟨l, h1, h2, h3⟩ := t.log
    refine ⟨l, h1, fun id hid hn => ?_, h3⟩
    rw [hget, if_neg (by omega)]; exact h2 id hid hn
  · intro id hid
    show (T.set (m + 1) σ1.h m (AObj.set ks)).get id = none ↔ _
    rw [hget, if_neg (by omega)]; exact t.dom id hid
  · intro hw
    have hw1 := t.wf hw
    have hlt := look_lt hw1 hl
    refine ⟨fun id hid => ?_, hw1.vis⟩
    have hid' : σ1.next ≤ id := hid
    show (T.set (m + 1) σ1.h m (AObj.set ks)).get id = none
    rw [hget, if_neg (by omega)]; exact hw1.none id hid'
  · intro B β w us F n hO hR hW hF hus
    refine CallsIn.mono (hc B β w us F n hO hR hW hF hus) ?_
    rintro e w' ⟨β', u, he, hv, hR', hS⟩
    refine ⟨β', u, he, hv, hR'.shut ?_, hS⟩
    intro id o ho
    by_cases hi : id = m
    · subst hi
      have hh := look_some ho
      have := hh.2
      rw [show (⟨T.set (id + 1) σ1.h id (AObj.set ks), σ1.next, σ1.hid, σ1.log⟩ : St).h.get id = _ from hget id, if_pos rfl] at this
      cases this
      exact .inr ⟨es, clock, ks, rfl, hl, hs⟩
    · left
      have hh := look_some ho
      have := hh.2
      rw [show (⟨T.set (m + 1) σ1.h m (AObj.set ks), σ1.next, σ1.hid, σ1.log⟩ : St).h.get id = _ from hget id, if_neg hi] at this
      unfold St.look
      rw [show hidden id σ1.hid = false from hh.1]
      exact this
def oneOf (o : Option AObj) : Option Int := match o with
  | some (.map [⟨.sc (.int .i64 k), .sc (.bool true), b⟩] clock) => cond (Nat.blt b clock) (some k) none
  | _ => none
theorem oneOf_ok {o : Option AObj} {k : Int} (h : oneOf o = some k) : ∃ b clock, o = some (.map [⟨.sc (.int .i64 k), .sc (.bool true), b⟩] clock) ∧ b < clock := by
  unfold oneOf at h
  split at h
  · rename_i k' b clock
    cases hb : Nat.blt b clock with
    | false => rw [hb] at h; cases h
    | true =>
      rw [hb] at h
      cases h
      exact ⟨b, clock, rfl, bleT hb⟩
  · cases h
noncomputable def freshSet (σ : St) (r : R1) : R1 := match r with
  | some (.map m, σ1) => (match oneOf (σ1.look m) with
    | some k => cond (Nat.ble σ.next m) (some (.map m, ⟨T.set (m + 1) σ1.h m (.set [k]), σ1.next, σ1.hid, σ1.log⟩)) r
    | none => r)
  | _ => r
theorem SetOf.one {k : Int} {b clock : Nat} (h : b < clock) : SetOf [⟨.sc (.int .i64 k), .sc (.bool true), b⟩] clock [k] := by
  refine ⟨?_, ?_, by simp, ?_, by simp⟩
  · intro e he
    rw [List.mem_singleton] at he
    subst he
    exact ⟨k, List.mem_singleton_self _, rfl, rfl⟩
  · intro x hx
    rw [List.mem_singleton] at hx
    subst hx
    exact ⟨_, List.mem_singleton_self _, rfl⟩
  · intro e he
    rw [List.mem_singleton] at he
    subst he
    exact h
theorem freshSet_ok {E : Env} {P : Program} {f : FuncId} {args : List AV} {σ σ' : St} {v : AV} {r : R1} (hs : ∀ v σ', r = some (v, σ') → CallOk E P f args σ v σ') (h : freshSet σ r = some (v, σ')) : CallOk E P f args σ v σ' := by
  unfold freshSet at h
  split at h
  · rename_i m σ1
    cases ho : oneOf (σ1.look m) with
    | none => rw [ho] at h; exact hs _ _ h
    | some k =>
      rw [ho] at h
      cases hb : Nat.ble σ.next m with
      | false => simp only [hb] at h; exact hs _ _ h
      | true =>
        simp only [hb] at h
        cases h
        obtain ⟨b, clock, hl, hlt⟩ := oneOf_ok ho
        exact (hs _ _ rfl).set_of (bleT hb) hl (SetOf.one hlt)
  · exact hs _ _ h
noncomputable def withSum (args : List AV) (σ : St) (slow : R1) : R1 := match args with
  | [.map ids, .slice il g off l e _] => match σ.look ids, σ.look il with
    | some (.set ks), some (.row gen mg cells) => match cells[off]? with
      | some (.sc (.int .i64 x)) => cond (Nat.beq l 1 && Nat.beq e 1 && Nat.ble mg g && Nat.ble g gen) (some (.map σ.next, setSt σ (insSet x ks))) slow
      | _ => slow
    | _, _ => freshSet σ slow
  | _ => freshSet σ slow
theorem withSum_ok {args : List AV} {σ σ' : St} {v : AV} {slow : R1} (hs : ∀ v σ', slow = some (v, σ') → CallOk env Go.Proofs.Tryz.prog 86 args σ v σ') (h : withSum args σ slow = some (v, σ')) : CallOk env Go.Proofs.Tryz.prog 86 args σ v σ' := by
  unfold withSum at h
  split at h
  · rename_i ids il g off l e mc
    split at h
    · rename_i ks gen mg cells h1 h2
      split at h
      · rename_i x hx
        cases hb : (Nat.beq l 1 && Nat.beq e 1 && Nat.ble mg g && Nat.ble g gen) with
        | false => rw [hb] at h; exact hs _ _ h
        | true =>
          rw [hb] at h
          simp only [Bool.and_eq_true] at hb
          cases h
          obtain ⟨⟨⟨b1, b2⟩, b3⟩, b4⟩ := hb
          rw [beqT b1, beqT b2]
          exact with_ok h1 ⟨g, off, mc, gen, mg, cells, rfl, h2, b3, b4, hx⟩
      · exact hs _ _ h
    · exact freshSet_ok hs h
  · exact freshSet_ok hs h
noncomputable def bothSum (args : List AV) (σ : St) (slow : R1) : R1 := match args with
  | [.map ids, .map idx] => match σ.look ids, σ.look idx with
    | some (.set ks), some (.set kx) => cond (Nat.beq idx ids) slow (some (.map σ.next, setSt σ (ks.filter fun k => kx.contains k)))
    | _, _ => slow
  | _ => slow
theorem bothSum_ok {args : List AV} {σ σ' : St} {v : AV} {slow : R1} (hs : ∀ v σ', slow = some (v, σ') → CallOk env Go.Proofs.Tryz.prog 87 args σ v σ') (h : bothSum args σ slow = some (v, σ')) : CallOk env Go.Proofs.Tryz.prog 87 args σ v σ' := by
  unfold bothSum at h
  split at h
  · rename_i ids idx
    split at h
    · rename_i ks kx h1 h2
      cases hb : Nat.beq idx ids with
      | true => rw [hb] at h; exact hs _ _ h
      | false =>
        rw [hb] at h
        have hne : idx ≠ ids := by rintro rfl; simp at hb
        cases h
        exact both_ok h1 h2 hne
    · exact hs _ _ h
  · exact hs _ _ h
noncomputable def sumF (f : FuncId) (args : List AV) (σ : St) (slow : R1) : R1 :=
  Bool.rec (motive := fun _ => R1) (Bool.rec (motive := fun _ => R1) slow (bothSum args σ slow) (Nat.beq f 87)) (withSum args σ slow) (Nat.beq f 86)
theorem sumF_ok {f : FuncId} {args : List AV} {σ σ' : St} {v : AV} {slow : R1} (hs : ∀ v σ', slow = some (v, σ') → CallOk env Go.Proofs.Tryz.prog f args σ v σ') (h : sumF f args σ slow = some (v, σ')) : CallOk env Go.Proofs.Tryz.prog f args σ v σ' := by
  unfold sumF at h
  cases h6 : Nat.beq f 86 with
  | true =>
    rw [h6] at h
    have e := beqT h6
    subst e
    exact withSum_ok hs h
  | false =>
    rw [h6] at h
    cases h7 : Nat.beq f 87 with
    | true =>
      rw [h7] at h
      have e := beqT h7
      subst e
      exact bothSum_ok hs h
    | false =>
      rw [h7] at h
      exact hs _ _ h

/-! ### An empty set -/
theorem CodeOk.set_of {E : Env} {P : Program} {rd : Option Nat} {c : Code} {τ τ' : Tm} {σ σ1 : St} {x : AExit} {m : Nat} {es : List AEntry} {clock : Nat} {ks : List Int} (h : CodeOk E P rd c τ σ x τ' σ1) (hm : σ.next ≤ m) (hl : σ1.look m = some (.map es clock)) (hs : SetOf es clock ks) :
    CodeOk E P rd c τ σ x τ' ⟨T.set (m + 1) σ1.h m (.set ks), σ1.next, σ1.hid, σ1.log⟩ := by
  obtain ⟨t, hc⟩ := h
  have hget : ∀ i, (T.set (m + 1) σ1.h m (AObj.set ks)).get i = if i = m then some (.set ks) else σ1.h.get i := fun i => T.get_set' ..
  refine ⟨⟨t.next, t.hid, ?_, ?_, ?_⟩, ?_⟩
  · obtain ⟨l, h1, h2, h3⟩ := t.log
    refine ⟨l, h1, fun id hid hn => ?_, h3⟩
    rw [hget, if_neg (by omega)]; exact h2 id hid hn
  · intro id hid
    show (T.set (m + 1) σ1.h m (AObj.set ks)).get id = none ↔ _
    rw [hget, if_neg (by omega)]; exact t.dom id hid
  · intro hw
    have hw1 := t.wf hw
    have hlt := look_lt hw1 hl
    refine ⟨fun id hid => ?_, hw1.vis⟩
    have hid' : σ1.next ≤ id := hid
    show (T.set (m + 1) σ1.h m (AObj.set ks)).get id = none
    rw [hget, if_neg (by omega)]; exact hw1.none id hid'
  · intro B β w a F n Q hO hrd hR hW hF hfr hQ
    refine hc B β w a F n Q hO hrd hR hW hF hfr fun β' w' a' hR' hS hf' => hQ β' w' a' (hR'.shut ?_) hS hf'
    intro id o ho
    by_cases hi : id = m
    · subst hi
      have hh := look_some ho
      have := hh.2
      rw [show (⟨T.set (id + 1) σ1.h id (AObj.set ks), σ1.next, σ1.hid, σ1.log⟩ : St).h.get id = _ from hget id, if_pos rfl] at this
      cases this
      exact .inr ⟨es, clock, ks, rfl, hl, hs⟩
    · left
      have hh := look_some ho
      have := hh.2
      rw [show (⟨T.set (m + 1) σ1.h m (AObj.set ks), σ1.next, σ1.hid, σ1.log⟩ : St).h.get id = _ from hget id, if_neg hi] at this
      unfold St.look
      rw [show hidden id σ1.hid = false from hh.1]
      exact this
/-- The making of an empty set in follows. -/
def isMk (c : Code) : Bool := match c with
  | .region _ o false => (match o.toList with
    | [⟨some a, .makeMap t none, _, _, _, none⟩, ⟨some b, .assign (.tmp d), _, _, _, none⟩] => Nat.beq a 25 && Nat.beq t 94 && Nat.beq b 10 && Nat.beq d 25
    | _ => false)
  | _ => false
def isNone0 (o : Option AObj) : Bool := match o with
  | some (.map [] 0) => true
  | _ => false
theorem isNone0_ok {o : Option AObj} (h : isNone0 o = true) : o = some (.map [] 0) := by
  unfold isNone0 at h
  split at h
  · rfl
  · cases h
noncomputable def mkF (c : Code) (σ : St) (slow : R3) : R3 := cond (isMk c) (match slow with
  | some (x, τ', σ1) => cond (isNone0 (σ1.look σ.next)) (some (x, τ', ⟨T.set (σ.next + 1) σ1.h σ.next (.set []), σ1.next, σ1.hid, σ1.log⟩)) slow
  | none => none) slow
theorem mkF_ok {E : Env} {P : Program} {rd : Option Nat} {c : Code} {τ τ' : Tm} {σ σ' : St} {x : AExit} {slow : R3} (hs : ∀ x τ' σ', slow = some (x, τ', σ') → CodeOk E P rd c τ σ x τ' σ') (h : mkF c σ slow = some (x, τ', σ')) : CodeOk E P rd c τ σ x τ' σ' := by
  unfold mkF at h
  cases hc : isMk c with
  | false => rw [hc] at h; exact hs _ _ _ h
  | true =>
    rw [hc] at h
    simp only [cond_true] at h
    split at h
    · rename_i y τ1 σ1
      cases hn : isNone0 (σ1.look σ.next) with
      | false => rw [hn] at h; exact hs _ _ _ h
      | true =>
        rw [hn] at h
        cases h
        exact (hs _ _ _ rfl).set_of (Nat.le_refl _) (isNone0_ok hn) SetOf.nil
    · cases h

/-! ### The machine -/
noncomputable def EvT.at (l : List Entry) (n : Nat) : Ev :=
  Nat.rec (motive := fun _ => Ev) Ev.none (fun _ V => ⟨fun rd c τ σ => folF c τ σ (mkF c σ (codeF env V rd c τ σ)), fun f args σ => knownF l f args σ (sumF f args σ (callF env V f args σ)), roundStep V⟩) n
theorem setT_sound {l : List Entry} (hl : Known env Go.Proofs.Tryz.prog l) : ∀ n, Sound env Go.Proofs.Tryz.prog (EvT.at l n)
  | 0 => none_sound
  | n + 1 => by
    have ih := setT_sound hl n
    have hs := next_sound envOk (draw_ok envOk) ih
    refine ⟨?_, ?_, ?_⟩
    · intro rd c τ σ x τ' σ' h
      have h' : folF c τ σ (mkF c σ (codeF env (EvT.at l n) rd c τ σ)) = some (x, τ', σ') := h
      refine folF_ok (fun x τ' σ' h1 => mkF_ok (fun x τ' σ' h2 => ?_) h1) h'
      rw [codeF_eq] at h2
      exact hs.code rd c τ σ x τ' σ' h2
    · intro f args σ v σ' h
      have h' : knownF l f args σ (sumF f args σ (callF env (EvT.at l n) f args σ)) = some (v, σ') := h
      rcases knownF_ok l h' with h2 | ⟨e, he, h1, h2, h3, hr⟩
      · refine sumF_ok (fun v σ' h3 => ?_) h2
        rw [callF_eq] at h3
        exact hs.call f args σ v σ' h3
      · cases hr
        subst h1 h2 h3
        exact hl e he
    · intro l' args σ v σ' h
      exact hs.round l' args σ v σ' h
theorem callOkT_of {l : List Entry} (hl : Known env Go.Proofs.Tryz.prog l) {n : Nat} {f : FuncId} {args : List AV} {σ : St} {v : AV} {σ' : St} (h : isCall ((EvT.at l n).call f args σ) v σ' = true) : CallOk env Go.Proofs.Tryz.prog f args σ v σ' :=
  (setT_sound hl n).call _ _ _ _ _ (isCall_ok h)
theorem trueCallT {l : List Entry} (hl : Known env Go.Proofs.Tryz.prog l) {n : Nat} {f : FuncId} (h : isTrueK ((EvT.at l n).call f [] ⟨.leaf, 0, [], []⟩) = true) : ∃ σ, CallOk env Go.Proofs.Tryz.prog f [] ⟨.leaf, 0, [], []⟩ (.sc (.bool true)) σ := by
  cases hc : (EvT.at l n).call f [] ⟨.leaf, 0, [], []⟩ with
  | none => rw [hc] at h; cases h
  | some p =>
    obtain ⟨v, σ⟩ := p
    rw [hc] at h
    cases v with
    | sc v =>
      cases v with
      | bool b =>
        cases b with
        | true => exact ⟨σ, (setT_sound hl n).call _ _ _ _ _ hc⟩
        | false => cases h
      | _ => cases h
    | _ => cases h
end Go.Vai

/-
  Calls whose new objects are forgotten, but for those that are named: states stay small.
-/
namespace Go.Vai
open Go
section
variable {E : Env} {P : Program}
theorem CallOk.drop {f : FuncId} {args : List AV} {σ σ1 : St} {v : AV} {h' : T AObj} {log' : List Nat} (h : CallOk E P f args σ v σ1) (hsub : ∀ id o, h'.get id = some o → σ1.h.get id = some o) (hdom : ∀ id o, σ.h.get id = some o → ∃ o', h'.get id = some o')
    (hlog : ∃ l l', σ1.log = l ++ σ.log ∧ log' = l' ++ σ.log ∧ (∀ id ∈ l, id < σ.next → id ∈ l') ∧ ∀ id ∈ l', id ∈ l) : CallOk E P f args σ v ⟨h', σ1.next, σ1.hid, log'⟩ := by
  obtain ⟨t, hf, hc⟩ := h
  obtain ⟨l, l', e1, e2, hin, hsl⟩ := hlog
  have none' : ∀ id, id < σ.next → σ.h.get id = none → h'.get id = none := by
    intro id hid hn
    cases hg : h'.get id with
    | none => rfl
    | some o =>
      have := hsub id o hg
      rw [(t.dom id hid).2 hn] at this
      cases this
  refine ⟨⟨t.next, t.hid, ?_, ?_, ?_⟩, hf, ?_⟩
  · obtain ⟨l0, h1, h2, h3⟩ := t.log
    have hl : l0 = l := List.append_cancel_right (h1.symm.trans e1)
    subst hl
    refine ⟨l', e2, fun id hid hn => ?_, fun id hm hid => h3 id (hsl id hm) hid⟩
    have hs := h2 id hid fun hm => hn (hin id hm hid)
    show h'.get id = _
    cases hg : σ.h.get id with
    | none => exact none' id hid hg
    | some o =>
      obtain ⟨o', ho'⟩ := hdom id o hg
      have := hsub id o' ho'
      rw [hs, hg] at this
      rw [ho', ← this]
  · intro id hid
    show h'.get id = none ↔ _
    constructor
    · intro hn
      cases hg : σ.h.get id with
      | none => rfl
      | some o =>
        obtain ⟨o', ho'⟩ := hdom id o hg
        rw [hn] at ho'
        cases ho'
    · exact none' id hid
  · intro hw
    have hw1 := t.wf hw
    refine ⟨fun id hid => ?_, hw1.vis⟩
    show h'.get id = none
    cases hg : h'.get id with
    | none => rfl
    | some o =>
      have := hsub id o hg
      rw [hw1.none id hid] at this
      cases this
  · intro B β w us F n hO hR hW hF hus
    refine CallsIn.mono (hc B β w us F n hO hR hW hF hus) ?_
    rintro e w' ⟨β', u, he, hv, hR', hS⟩
    refine ⟨β', u, he, hv, hR'.shut fun id o ho => .inl ?_, hS⟩
    have hh := look_some ho
    unfold St.look
    rw [show hidden id σ1.hid = false from hh.1]
    exact hsub id o hh.2
end
noncomputable def subOpt (a b : Option AObj) : Bool := Option.rec (motive := fun _ => Bool) true (fun x => Option.rec (motive := fun _ => Bool) false (fun y => sameO x y) b) a
noncomputable def subT (t : T AObj) : T AObj → Bool :=
  T.rec (motive := fun _ => T AObj → Bool) (fun _ => true)
    (fun v _ _ ihl ihr u => T.rec (motive := fun _ => Bool) false (fun v' l' r' _ _ => Bool.rec (motive := fun _ => Bool) false (Bool.rec (motive := fun _ => Bool) false (ihr r') (ihl l')) (subOpt v v')) u) t
theorem subT_ok : ∀ (t u : T AObj), subT t u = true → ∀ i o, t.get i = some o → u.get i = some o
  | .leaf, _, _, i, o, h => by simp [T.get] at h
  | .node _ _ _, .leaf, h, _, _, _ => by cases h
  | .node v l r, .node v' l' r', h, i, o, hg => by
    have h' : (Bool.rec false (Bool.rec false (subT r r') (subT l l')) (subOpt v v') : Bool) = true := h
    cases hv : subOpt v v' with
    | false => rw [hv] at h'; cases h'
    | true =>
      rw [hv] at h'
      cases hl : subT l l' with
      | false => rw [hl] at h'; cases h'
      | true =>
        rw [hl] at h'
        rw [T.get_node] at hg ⊢
        by_cases hi : i = 0
        · rw [if_pos hi] at hg ⊢
          subst hg
          cases v' with
          | none => cases hv
          | some y => rw [sameO_ok _ _ hv]
        · rw [if_neg hi] at hg ⊢
          by_cases hm : i % 2 = 1
          · rw [if_pos hm] at hg ⊢
            exact subT_ok l l' hl _ _ hg
          · rw [if_neg hm] at hg ⊢
            exact subT_ok r r' h' _ _ hg
noncomputable def hasOpt (a b : Option AObj) : Bool := Option.rec (motive := fun _ => Bool) true (fun _ => Option.rec (motive := fun _ => Bool) false (fun _ => true) b) a
noncomputable def domT (t : T AObj) : T AObj → Bool :=
  T.rec (motive := fun _ => T AObj → Bool) (fun _ => true)
    (fun v _ _ ihl ihr u => T.rec (motive := fun _ => Bool) false (fun v' l' r' _ _ => Bool.rec (motive := fun _ => Bool) false (Bool.rec (motive := fun _ => Bool) false (ihr r') (ihl l')) (hasOpt v v')) u) t
theorem domT_ok : ∀ (t u : T AObj), domT t u = true → ∀ i o, t.get i = some o → ∃ o', u.get i = some o'
  | .leaf, _, _, i, o, h => by simp [T.get] at h
  | .node _ _ _, .leaf, h, _, _, _ => by cases h
  | .node v l r, .node v' l' r', h, i, o, hg => by
    have h' : (Bool.rec false (Bool.rec false (domT r r') (domT l l')) (hasOpt v v') : Bool) = true := h
    cases hv : hasOpt v v' with
    | false => rw [hv] at h'; cases h'
    | true =>
      rw [hv] at h'
      cases hl : domT l l' with
      | false => rw [hl] at h'; cases h'
      | true =>
        rw [hl] at h'
        rw [T.get_node] at hg ⊢
        by_cases hi : i = 0
        · rw [if_pos hi] at hg ⊢
          subst hg
          cases v' with
          | none => cases hv
          | some y => exact ⟨y, rfl⟩
        · rw [if_neg hi] at hg ⊢
          by_cases hm : i % 2 = 1
          · rw [if_pos hm] at hg ⊢
            exact domT_ok l l' hl _ _ hg
          · rw [if_neg hm] at hg ⊢
            exact domT_ok r r' h' _ _ hg
/-- What of a log lies ahead of an older one: as many as it has more. -/
noncomputable def olds (next : Nat) (l : List Nat) : List Nat := List.rec (motive := fun _ => List Nat) [] (fun i _ ih => Bool.rec (motive := fun _ => List Nat) ih (i :: ih) (Nat.ble (Nat.succ i) next)) l
theorem mem_olds (next : Nat) : ∀ (l : List Nat) (i : Nat), i ∈ olds next l ↔ i ∈ l ∧ i < next
  | [], i => by simp [olds]
  | j :: l, i => by
    show i ∈ (Bool.rec (olds next l) (j :: olds next l) (Nat.ble (Nat.succ j) next) : List Nat) ↔ _
    cases hb : Nat.ble (Nat.succ j) next with
    | true =>
      have := bleT hb
      show i ∈ j :: olds next l ↔ _
      rw [List.mem_cons, mem_olds next l, List.mem_cons]
      constructor
      · rintro (rfl | ⟨h, h2⟩)
        · exact ⟨.inl rfl, this⟩
        · exact ⟨.inr h, h2⟩
      · rintro ⟨rfl | h, h2⟩
        · exact .inl rfl
        · exact .inr ⟨h, h2⟩
    | false =>
      have hn : ¬ j < next := by
        intro hj
        rw [show Nat.ble (Nat.succ j) next = true from Nat.ble_eq_true_of_le hj] at hb
        cases hb
      show i ∈ olds next l ↔ _
      rw [mem_olds next l, List.mem_cons]
      constructor
      · rintro ⟨h, h2⟩; exact ⟨.inr h, h2⟩
      · rintro ⟨rfl | h, h2⟩
        · exact absurd h2 hn
        · exact ⟨h, h2⟩
/-- The outcome of a call, and a state that holds a part of its objects. -/
noncomputable def isCallD (r : R1) (σ : St) (v : AV) (σ' : St) : Bool := match r with
  | some (v', σ1) => sameA 8 v v' && Nat.beq (St.next σ1) (St.next σ') && sameL sameP (St.hid σ1) (St.hid σ') && subT (St.h σ') (St.h σ1) && domT (St.h σ) (St.h σ') &&
      sameL Nat.beq (St.log σ1) ((St.log σ1).take ((St.log σ1).length - (St.log σ).length) ++ St.log σ) &&
      sameL Nat.beq (St.log σ') (olds (St.next σ) ((St.log σ1).take ((St.log σ1).length - (St.log σ).length)) ++ St.log σ)
  | none => false
theorem callOkT_ofD {l : List Entry} (hl : Known env Go.Proofs.Tryz.prog l) {n : Nat} {f : FuncId} {args : List AV} {σ : St} {v : AV} {σ' : St} (h : isCallD ((EvT.at l n).call f args σ) σ v σ' = true) : CallOk env Go.Proofs.Tryz.prog f args σ v σ' := by
  cases hc : (EvT.at l n).call f args σ with
  | none => rw [hc] at h; cases h
  | some p =>
    obtain ⟨v', σ1⟩ := p
    rw [hc] at h
    simp only [isCallD, Bool.and_eq_true] at h
    obtain ⟨⟨⟨⟨⟨⟨h1, h2⟩, h3⟩, h4⟩, h5⟩, h6⟩, h7⟩ := h
    have hcall : CallOk env Go.Proofs.Tryz.prog f args σ v' σ1 := (setT_sound hl n).call _ _ _ _ _ hc
    rw [← sameA_ok 8 _ _ h1] at hcall
    have e1 := beqT h2
    have e2 := sameL_ok sameP_ok _ _ h3
    have e3 := sameL_ok beq_ok _ _ h6
    have e4 := sameL_ok beq_ok _ _ h7
    have := hcall.drop (h' := σ'.h) (log' := σ'.log) (subT_ok _ _ h4) (domT_ok _ _ h5) ⟨_, _, e3, e4, fun id hm hid => (mem_olds _ _ _).2 ⟨hm, hid⟩, fun id hm => ((mem_olds _ _ _).1 hm).1⟩
    rw [e1, e2] at this
    exact this
end Go.Vai
