/-
  Drawn regions: what an operation sees is the same in every order.
-/
import Derived.Test.YtkjmlnegmmlfdaaGreatDoorVaiZe
namespace Go.Vai
open Go

theorem okRecs_spec {masks : List Nat} {recs : List Rec} (h : okRecs masks recs = true) {j k : Nat} {r q : Rec} (hj : recs[j]? = some r) (hk : recs[k]? = some q) {id : Nat} (hid : id ∈ r.w) (hne : j ≠ k) :
    Nat.testBit (masks.getD k 0) j = true ∨ Nat.testBit (masks.getD j 0) k = true ∨ hidden id q.hid = true ∨ q.hi ≤ id := by
  unfold okRecs at h
  rw [List.all_eq_true] at h
  have h1 := h (r, j) (by rw [List.mem_zipIdx_iff_getElem?]; simpa using hj)
  simp only [Bool.or_eq_true] at h1
  rcases h1 with h1 | h1
  · have : r.w = [] := by simpa using h1
    rw [this] at hid; cases hid
  · rw [List.all_eq_true] at h1
    have h2 := h1 (q, k) (by rw [List.mem_zipIdx_iff_getElem?]; simpa using hk)
    simp only [Bool.or_eq_true] at h2
    rcases h2 with ((h2 | h2) | h2) | h2
    · exact absurd (beqT h2) hne
    · exact .inl h2
    · exact .inr (.inl h2)
    · rw [List.all_eq_true] at h2
      have h3 := h2 id hid
      simp only [Bool.or_eq_true] at h3
      rcases h3 with h3 | h3
      · exact .inr (.inr (.inl h3))
      · exact .inr (.inr (.inr (bleT h3)))
theorem okOps_spec {ops : List Oper} {masks : List Nat} (h : okOps ops masks = true) {j k : Nat} {x y : Oper} (hj : ops[j]? = some x) (hk : ops[k]? = some y) (hlt : j < k) (hm : Nat.testBit (masks.getD k 0) j = false) :
    x.apart ops.toArray y = true := by
  unfold okOps at h
  rw [List.all_eq_true] at h
  have h1 := h (x, j) (by rw [List.mem_zipIdx_iff_getElem?]; simpa using hj)
  rw [List.all_eq_true] at h1
  have h2 := h1 (y, k) (by rw [List.mem_zipIdx_iff_getElem?]; simpa using hk)
  simp only [Bool.or_eq_true] at h2
  rcases h2 with (h2 | h2) | h2
  · have := bleT h2; omega
  · rw [hm] at h2; simp at h2
  · exact h2

/-- Sets of operations: closed; what an operation that may come next needs. -/
structure Next (ops : List Oper) (D : Nat → Bool) (i : Nat) : Prop where
  out : D i = false
  dom : ∀ k, D k = true → k < ops.length
  pred : ∀ j, Nat.testBit ((masksOf ops).getD i 0) j = true → D j = true
  closed : ∀ k j, D k = true → Nat.testBit ((masksOf ops).getD k 0) j = true → D j = true
section
variable {E : Env} {P : Program} {V : Ev} {ops : List Oper} {recs : List Rec} {σs : Nat → St} {τs : Nat → Tm} {vs : Nat → AV} {D : Nat → Bool} {i : Nat}
theorem wvis (hV : Sound E P V) {masks : List Nat} {o : Oper} {r : Rec} (hs : StepAt E V ops masks recs σs τs vs i o r) {id : Nat} (h : id ∈ r.w) : hidden id r.hid = false ∧ id < (σs i).next := by
  rcases hs.run with ⟨_, _, σ1, hop, _, hwr⟩ | ⟨_, _, _, hwr, _⟩
  · have t := oper_tr hV hop
    obtain ⟨l, e1, _, v1⟩ := t.log
    simp only [List.append_nil] at e1
    rw [hwr, List.mem_filter] at h
    have hlt := bltT h.2
    exact ⟨v1 id (by rw [← e1]; exact h.1) hlt, hlt⟩
  · rw [hwr] at h; cases h
theorem sees (hV : Sound E P V) (hr : RunAt E V ops (masksOf ops) recs σs τs vs) (hW : WF (σs 0)) (hE : okEdges ops = true) (hK : okRecs (masksOf ops) recs = true) (hN : Next ops D i) {o : Oper} {r : Rec} (ho : ops[i]? = some o)
    (hs : StepAt E V ops (masksOf ops) recs σs τs vs i o r) {id : Nat} (hlt : id < (σs i).next) (hv : hidden id r.hid = false) :
    hD D recs σs ops.length id = (σs i).h.get id := by
  have hi : i < ops.length := by
    rcases Nat.lt_or_ge i ops.length with h | h
    · exact h
    · rw [List.getElem?_eq_none h] at ho; simp at ho
  have hmono := fun j m (hm : m ≤ ops.length) (hj : j ≤ m) => (chain hV hr m hm).2.2 j hj
  have hhi : (σs i).next ≤ r.hi := by rw [hs.hi]; exact hmono i (i + 1) hi (by omega)
  have get : ∀ k, k < ops.length → ∃ ok rk, ops[k]? = some ok ∧ StepAt E V ops (masksOf ops) recs σs τs vs k ok rk := by
    intro k hk
    obtain ⟨rk, h⟩ := hr k ops[k] (by simp [hk])
    exact ⟨ops[k], rk, by simp [hk], h⟩
  rw [hD_none i ops.length (by omega) ?_, hD_all hV hr hW i (by omega) ?_]
  · -- before
    intro k hk ht
    obtain ⟨ok, rk, hok, hsk⟩ := get k (by omega)
    obtain ⟨r', hr', ht⟩ := ht
    rw [hsk.at'] at hr'; simp only [Option.some.injEq] at hr'; subst hr'
    rcases ht with ht | ⟨ha, hb⟩
    · rcases okRecs_spec hK hsk.at' hs.at' ht (by omega) with h | h | h | h
      · exact hN.pred k h
      · have := mask_lt hE k i h; omega
      · rw [hv] at h; simp at h
      · omega
    · rcases hs.run with ⟨_, hhid, _⟩ | ⟨_, _, _, _, hhid⟩
      · rw [hhid] at hv
        unfold hidAt at hv
        rw [hidden_append, hidden_append] at hv
        simp only [Bool.or_eq_false_iff] at hv
        cases hm : Nat.testBit ((masksOf ops).getD i 0) k with
        | true => exact hN.pred k hm
        | false =>
          have : hidden id (hidFrom ((masksOf ops).getD i 0) 0 (recs.take i)) = true :=
            hidFrom_true.2 ⟨k, rk, by rw [List.getElem?_take, if_pos hk]; exact hsk.at', by rw [Nat.zero_add]; exact hm, ha, hb⟩
          rw [this] at hv; simp at hv
      · rw [hhid] at hv
        have : hidden id [(0, (σs i).next)] = true := by rw [hidden_cons]; exact .inl ⟨by omega, hlt⟩
        rw [this] at hv; simp at hv
  · -- behind
    intro k hik hk hDk ht
    have hne : k ≠ i := by intro e; subst e; rw [hN.out] at hDk; simp at hDk
    obtain ⟨ok, rk, hok, hsk⟩ := get k hk
    obtain ⟨r', hr', ht⟩ := ht
    rw [hsk.at'] at hr'; simp only [Option.some.injEq] at hr'; subst hr'
    rcases ht with ht | ⟨ha, hb⟩
    · rcases okRecs_spec hK hsk.at' hs.at' ht hne with h | h | h | h
      · have := mask_lt hE i k h; omega
      · have := hN.closed k i hDk h; rw [hN.out] at this; simp at this
      · rw [hv] at h; simp at h
      · omega
    · rw [hsk.lo] at ha
      have := hmono i k (by omega) hik
      omega
/-- Among those in D and the next one, the next one is the last that touches what it touches. -/
theorem touches (hV : Sound E P V) (hr : RunAt E V ops (masksOf ops) recs σs τs vs) (hE : okEdges ops = true) (hK : okRecs (masksOf ops) recs = true) (hN : Next ops D i) {o : Oper} {r : Rec} (ho : ops[i]? = some o)
    (hs : StepAt E V ops (masksOf ops) recs σs τs vs i o r) {id : Nat} (ht : Touch recs i id) :
    hD (fun k => D k || Nat.beq k i) recs σs ops.length id = (σs (i + 1)).h.get id := by
  have hi : i < ops.length := by
    rcases Nat.lt_or_ge i ops.length with h | h
    · exact h
    · rw [List.getElem?_eq_none h] at ho; simp at ho
  have hmono := fun j m (hm : m ≤ ops.length) (hj : j ≤ m) => (chain hV hr m hm).2.2 j hj
  rw [hD_none (i + 1) ops.length (by omega) ?_]
  · unfold hD
    rw [if_pos ⟨by simp, ht⟩]
  · intro k hik hk hDk htk
    have hDk' : D k = true := by
      simp only [Bool.or_eq_true] at hDk
      rcases hDk with h | h
      · exact h
      · have := beqT h; omega
    obtain ⟨rk, hsk⟩ := hr k ops[k] (by simp [hk])
    obtain ⟨r', hr', htk⟩ := htk
    rw [hsk.at'] at hr'; simp only [Option.some.injEq] at hr'; subst hr'
    obtain ⟨r2, hr2, ht⟩ := ht
    rw [hs.at'] at hr2; simp only [Option.some.injEq] at hr2; subst hr2
    have bitD : Nat.testBit ((masksOf ops).getD k 0) i = true → False := fun h => by
      have := hN.closed k i hDk' h; rw [hN.out] at this; simp at this
    have bitI : Nat.testBit ((masksOf ops).getD i 0) k = true → False := fun h => by
      have := mask_lt hE i k h; omega
    have hhi : (σs i).next ≤ r.hi := by rw [hs.hi]; exact hmono i (i + 1) hi (by omega)
    rcases ht with ht | ⟨ha, hb⟩
    · obtain ⟨hv, hlt⟩ := wvis hV hs ht
      rcases htk with htk | ⟨hc, hd⟩
      · rcases okRecs_spec hK hsk.at' hs.at' htk (by omega) with h | h | h | h
        · exact bitI h
        · exact bitD h
        · rw [hv] at h; simp at h
        · omega
      · rw [hsk.lo] at hc
        have := hmono i k (by omega) (by omega)
        omega
    · -- made by the next one
      rcases htk with htk | ⟨hc, hd⟩
      · obtain ⟨hv, hlt⟩ := wvis hV hsk htk
        rcases hsk.run with ⟨_, hhid, _⟩ | ⟨_, _, _, hwr, _⟩
        · rw [hhid] at hv
          unfold hidAt at hv
          rw [hidden_append, hidden_append] at hv
          simp only [Bool.or_eq_false_iff] at hv
          cases hm : Nat.testBit ((masksOf ops).getD k 0) i with
          | true => exact bitD hm
          | false =>
            have : hidden id (hidFrom ((masksOf ops).getD k 0) 0 (recs.take k)) = true :=
              hidFrom_true.2 ⟨i, r, by rw [List.getElem?_take, if_pos (by omega)]; exact hs.at', by rw [Nat.zero_add]; exact hm, ha, hb⟩
            rw [this] at hv; simp at hv
        · rw [hwr] at htk; cases htk
      · rw [hsk.lo] at hc
        rw [hs.hi] at hb
        have := hmono (i + 1) k (by omega) (by omega)
        omega
end
end Go.Vai
