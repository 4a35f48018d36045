/-
  Plain regions; calls.
-/
import Derived.Test.YtkjmlnegmmlfdaaGreatDoorVaiV
namespace Go.Vai
open Go

section
variable {E : Env} {P : Program} {V : Ev} {B : Nat}
theorem opersFrom_tr (hV : Sound E P V) (ops : List Oper) : ∀ (rest : List Oper) (τ τ' : Tm) (σ σ' : St), opersFrom E V ops rest τ σ = some (τ', σ') → Tr σ σ'
  | [], τ, τ', σ, σ', h => by
    simp only [opersFrom, Option.some.injEq, Prod.mk.injEq] at h
    obtain ⟨_, rfl⟩ := h
    exact Tr.refl _
  | o :: rest, τ, τ', σ, σ', h => by
    simp only [opersFrom] at h
    split at h
    · split at h
      · rename_i v σ1 h1
        split at h
        · exact (oper_tr hV h1).trans (opersFrom_tr hV ops rest _ _ _ _ h)
        · simp at h
      · simp at h
    · split at h
      · exact opersFrom_tr hV ops rest _ _ _ _ h
      · simp at h
    · simp at h
theorem opersFrom_ok (hE : EnvOk E P) (hV : Sound E P V) (ops : List Oper) {F : Fence} {n : Nat} {Q : Exit → Act → World → Prop} (hO : Open F) :
    ∀ (rest : List Oper) (j : Nat) (τ τ' : Tm) (σ σ' : St) (β : Map) (w : World) (a : Act), ops.drop j = rest → opersFrom E V ops rest τ σ = some (τ', σ') → HR E B β σ.look w → WF σ → Fresh β σ.next σ'.next → FrR β τ a →
      (∀ β' w' a', HR E B β' σ'.look w' → Step β β' σ.look σ.next σ'.next w w' → FrR β' τ' a' → Q .normal a' w') → wpOpsIn F n P ops.toArray Q (List.range' j rest.length) a w
  | [], j, τ, τ', σ, σ', β, w, a, _, h, hR, hW, hF, ht, hQ => by
    simp only [opersFrom, Option.some.injEq, Prod.mk.injEq] at h
    obtain ⟨rfl, rfl⟩ := h
    simp only [List.length_nil, List.range'_zero, wpOpsIn]
    exact hQ β w a hR (Step.refl _ _ _ _) ht
  | o :: rest, j, τ, τ', σ, σ', β, w, a, hd, h, hR, hW, hF, ht, hQ => by
    have hj : ops[j]? = some o := by
      have := congrArg List.head? hd
      simpa using this
    have hd' : ops.drop (j + 1) = rest := by
      have := congrArg List.tail hd
      simpa [List.tail_drop] using this
    simp only [opersFrom] at h
    simp only [List.length_cons, List.range'_succ, wpOpsIn, List.getElem?_toArray, hj]
    split at h
    · rename_i hw
      rw [wanted_ok hw ht.1]
      simp only [if_true]
      split at h
      · rename_i v σ1 h1
        split at h
        · rename_i τ1 hput
          have t1 := oper_tr hV h1
          have t2 := opersFrom_tr hV ops rest _ _ _ _ h
          refine oper_ok hE hV h1 hO hR hW (fresh_first t2 hF) ht.1 ?_
          intro β' u w' hv hR' hS
          refine opersFrom_ok hE hV ops hO rest (j + 1) τ1 τ' σ1 σ' β' w' _ hd' h hR' (t1.wf hW) (fresh_then t1 hW hF hS) ((ht.mono hS.sub).put hput hv) ?_
          intro β2 w2 a2 hR2 hS2 ht2
          exact hQ β2 w2 a2 hR2 (step_trans t1 t2 hW hF hS hS2) ht2
        · simp at h
      · simp at h
    · rename_i hw
      rw [wanted_ok hw ht.1]
      simp only [Bool.false_eq_true, if_false]
      split at h
      · rename_i τ1 hput
        exact ⟨fun f _ => hO.1 f, opersFrom_ok hE hV ops hO rest (j + 1) τ1 τ' σ σ' β w _ hd' h hR hW hF (ht.put hput (by simp [VR])) hQ⟩
      · simp at h
    · simp at h
theorem region_ok (hE : EnvOk E P) (hV : Sound E P V) {ops : Array Oper} {rd : Option Nat} {id : Nat} {τ τ' : Tm} {σ σ' : St} (h : opersFrom E V ops.toList ops.toList τ σ = some (τ', σ')) :
    Tr σ σ' ∧ CodeSound E P rd (.region id ops false) τ σ .normal τ' σ' := by
  refine ⟨opersFrom_tr hV _ _ _ _ _ _ h, fun B β w a F n Q hO _ hR hW hF ht hQ => wpIn_region ?_⟩
  have := opersFrom_ok (n := n) hE hV ops.toList hO ops.toList 0 τ τ' σ σ' β w a (by simp) h hR hW hF ht hQ
  simpa [List.range_eq_range'] using this

/-! calls -/
theorem putAll_get : ∀ (l : List AV) (t : T AV) (i j : Nat), (putAll t i l).get j = if i ≤ j ∧ j < i + l.length then l[j - i]? else t.get j
  | [], t, i, j => by
    simp only [putAll, List.length_nil, Nat.add_zero]
    rw [if_neg (by omega)]
  | v :: l, t, i, j => by
    simp only [putAll, List.length_cons]
    rw [putAll_get l _ (i + 1) j, T.get_set']
    by_cases h1 : j = i
    · subst h1
      rw [if_neg (by omega), if_pos rfl, if_pos (by omega)]
      simp
    · by_cases h2 : i + 1 ≤ j ∧ j < i + 1 + l.length
      · rw [if_pos h2, if_pos (by omega)]
        have : j - i = (j - (i + 1)) + 1 := by omega
        rw [this, List.getElem?_cons_succ]
      · rw [if_neg h2, if_neg h1, if_neg (by omega)]
theorem args_tmps {β : Map} {args : List AV} {us : List Value} (h : VRs β args us) {n : Nat} (hn : args.length ≤ n) :
    TmpR β (putAll .leaf 0 args) n (us.toArray ++ Array.replicate (n - us.toArray.size) undef) := by
  have hl := h.length
  refine ⟨by simp; omega, ?_, ?_⟩
  · intro i hi
    rw [putAll_get, if_neg (by omega)]
    rfl
  · intro i hi
    rw [putAll_get, Array.getD_eq_getD_getElem?]
    by_cases hlt : i < args.length
    · rw [if_pos (by omega)]
      obtain ⟨u, hu, hv⟩ := h.get i args[i] (by simp [hlt])
      rw [Array.getElem?_append_left (by simp; omega)]
      simp [hlt, hu, hv]
    · rw [if_neg (by omega), Array.getElem?_append_right (by simp; omega)]
      simp [T.get, VR]
      rw [Array.getElem?_replicate]
      split <;> simp

theorem takeMarks_tr : ∀ (l : List Nat) (σ σ' : St), takeMarks l σ = some σ' → Tr σ σ'
  | [], σ, σ', h => by simp only [takeMarks, Option.some.injEq] at h; subst h; exact Tr.refl _
  | d :: l, σ, σ', h => by
    simp only [takeMarks] at h
    split at h
    · rename_i hl
      exact (Tr.put hl _).trans (takeMarks_tr l _ _ h)
    · simp at h
theorem leaves_ok {F : Fence} {n : Nat} {fn : Func} {tmps : Array Value} {R : Ending → World → Prop} : ∀ (l : List Nat) (ds : List Deferred) (σ σ' : St) (β : Map) (w : World), takeMarks l σ = some σ' → MarksR β l ds → HR E B β σ.look w → WF σ → Fresh β σ.next σ'.next →
    (∀ w', HR E B β σ'.look w' → Step β β σ.look σ.next σ'.next w w' → LeavesIn F n P fn tmps R [] .returning w') → LeavesInM F n P fn tmps R ds .returning w
  | [], ds, σ, σ', β, w, h, hm, hR, hW, hF, hQ => by
    simp only [takeMarks, Option.some.injEq] at h; subst h
    simp only [MarksR] at hm; subst hm
    exact hQ w hR (Step.refl _ _ _ _)
  | d :: l, ds, σ, σ', β, w, h, hm, hR, hW, hF, hQ => by
    obtain ⟨ld, ds', hd, rfl, hm'⟩ := hm
    simp only [takeMarks] at h
    split at h
    · rename_i hl
      obtain ⟨l0, hl0, hh⟩ := hR.obj d _ hl
      rw [hd] at hl0; simp only [Option.some.injEq] at hl0; subst hl0
      have hlt : ld.b < w.heap.size := (hR.own d _ 0 ld hl hd).2
      have t1 := Tr.put hl (.dfr true)
      have t2 := takeMarks_tr l _ _ h
      have hP := putObj_ok hR hl hd (.dfr true) (.deferred none) ⟨ld, hd, World.putObj_heap_same hlt⟩ σ.next (σ.put d (.dfr true)).next
      rw [← look_put _ (look_some hl).1] at hP
      refine ⟨by simp, .inl ⟨ld.b, w.putObj ld.b (.deferred none), rfl, ?_, ?_⟩⟩
      · simp only [cond_false] at hh
        simp [Instr.takeDeferred, getObj, setObj, Sem.run, hh, World.putObj]
      · refine leaves_ok l ds' _ σ' β _ h hm' hP.1 (t1.wf hW) (fresh_then t1 hW hF hP.2) ?_
        intro w' hR' hS'
        exact hQ w' hR' (step_trans t1 t2 hW hF hP.2 hS')
    · simp at h
end
end Go.Vai
