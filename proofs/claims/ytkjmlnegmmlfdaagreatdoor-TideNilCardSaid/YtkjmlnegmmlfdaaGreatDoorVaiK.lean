/-
  Append: what the model's builtin does, given what is appended.
-/
import Derived.Test.YtkjmlnegmmlfdaaGreatDoorVaiJ
import Derived.Deep.AppendSrc
namespace Go.Vai
open Go

/-- What the builtin does with what is appended: where there is room, and where there is none. -/
structure AppOk (P : Program) (t tx ty e : TypeId) (i : TypeInfo) (z x : Value) (n : Nat) (news : List Value) (w : World) : Prop where
  len : news.length = n * i.size
  one : ∀ u ∈ news, u.oneCell' = true
  room : ∀ (a : Addr) sLen sCap w', sLen + n ≤ sCap → (storeCells (a.add (sLen * i.size)) news).run P w = .ok () w' →
    (Builtin.append_ #[t, tx] ty #[.slice (some a) sLen sCap, x]).run P w = .ok (.slice (some a) (sLen + n) sCap) w'
  nil : n = 0 → (Builtin.append_ #[t, tx] ty #[.slice none 0 0, x]).run P w = .ok (.slice none 0 0) w
  grow : ∀ (base : Option Addr) sLen sCap (olds : List Value), (Builtin.firstCells i.size sLen (.slice base sLen sCap)).run P w.drew = .ok olds.toArray w.drew →
    sCap < sLen + n → sLen + n ≤ 1073741824 → i.bytes ≤ 4096 →
    (Builtin.append_ #[t, tx] ty #[.slice base sLen sCap, x]).run P w =
      .ok (.slice (some ⟨w.heap.size, 0, none⟩) (sLen + n) (grownCap w (sLen + n) sCap e))
        (w.drew.alloc (.cells ((olds ++ news).toArray ++ Builtin.zeroCells z.cells (grownCap w (sLen + n) sCap e - (sLen + n))) e))

section
variable {P : Program} {w : World}
theorem fits {need old bytes : Nat} (h : old < need) (h1 : need ≤ 1073741824) (h2 : bytes ≤ 4096) : Builtin.nextslicecap need old * bytes ≤ 281474976710656 := by
  refine growslice_fits h ?_
  have := Nat.mul_le_mul h1 h2
  omega
theorem AppOk.ofSrc {t tx ty e : TypeId} {i : TypeInfo} {z x : Value} {n : Nat} {news : List Value} (ht : P.underlying t = some (.slice e)) (hi : P.info? e = some i) (hz : i.zero = some z)
    (hs : Src P i.size tx x n news w) : AppOk P t tx ty e i z x n news w where
  len := hs.newsLen
  one := hs.one
  room := by
    intro a sLen sCap w' hroom hst
    rcases hs.kind with ⟨e', hk⟩ | hk <;> simp [Builtin.append_, run_underlying ht, run_underlying hk, sizeOf, typeInfo, hi, hs.len, hroom, hs.cells, hst]
  nil := by
    intro h0
    subst h0
    rcases hs.kind with ⟨e', hk⟩ | hk <;> simp [Builtin.append_, run_underlying ht, run_underlying hk, sizeOf, typeInfo, hi, hs.len, hs.cells]
  grow := by
    intro base sLen sCap olds hold hg hle hb
    exact run_append_grow_src w t tx ty e i z ht hi hz base sLen sCap olds hold x n news hs hg (by omega) (fits hg hle hb)
theorem run_asInt' (k : IntKind) (x : Int) (w : World) : (asInt (.int k x)).run P w = .ok x w := by simp [asInt, asIntOf]
theorem AppOk.ofZeros {t tx ty e : TypeId} {i : TypeInfo} {z : Value} {n : Nat} {k k' : IntKind} (ht : P.underlying t = some (.slice e)) (hk : P.underlying tx = some (.int k')) (hi : P.info? e = some i) (hz : i.zero = some z)
    (hzs : z.cells.size = i.size) (hsz : 0 < i.size) (hn : n ≤ 1073741824) (hby : i.bytes ≤ 4096) (hone : ∀ u ∈ (Builtin.zeroCells z.cells n).toList, u.oneCell' = true) :
    AppOk P t tx ty e i z (.int k n) n (Builtin.zeroCells z.cells n).toList w := by
  have hwr : IntKind.i64.wrap (n : Int) = n := by
    have : IntKind.i64.wrap (n : Int) = (n : Int) := by
      unfold IntKind.wrap
      simp [IntKind.bits, IntKind.signed]
      omega
    exact this
  have hnn : ¬ ((n : Int) < 0) := by omega
  have hmul : n * i.bytes ≤ 1073741824 * 4096 := Nat.mul_le_mul hn hby
  have h48 : ¬ (281474976710656 < (n : Int) * (i.bytes : Int)) := by
    have : ((n * i.bytes : Nat) : Int) = (n : Int) * (i.bytes : Int) := by simp
    omega
  have hne : i.size ≠ 0 := by omega
  have hwr0 : IntKind.i64.wrap (0 : Int) = 0 := by decide
  have hnz : n ≠ 0 → ¬ (n * i.size = 0) := by
    intro h e
    rcases Nat.mul_eq_zero.1 e with e | e <;> omega
  have hz0 : n = 0 → Builtin.zeroCells z.cells n = #[] := by intro h; subst h; simp [Builtin.zeroCells]
  refine ⟨by simp [size_zeroCells, hzs], hone, ?_, ?_, ?_⟩
  · intro a sLen sCap w' hroom hst
    by_cases h0 : n = 0
    · have e0 := hz0 h0
      subst h0
      rw [e0] at hst
      simp only [Nat.add_zero] at hroom
      simp at hst
      simp [Builtin.append_, run_underlying ht, run_underlying hk, sizeOf, typeInfo, hi, hroom, run_asInt', hwr0, hst]
    · simp [Builtin.append_, run_underlying ht, run_underlying hk, sizeOf, typeInfo, zeroValue, hi, hz, hroom, run_asInt', hwr, hnn, h48, hnz h0, hst]
  · intro h0
    subst h0
    simp [Builtin.append_, run_underlying ht, run_underlying hk, sizeOf, typeInfo, hi, run_asInt', hwr0]
  · intro base sLen sCap olds hold hg hle hb
    have hroom : ¬ (sLen + n ≤ sCap) := by omega
    have h63 : ¬ (9223372036854775807 < ((sLen : Int) + (n : Int))) := by omega
    have hfit := fits (bytes := i.bytes) hg hle hb
    have h48' : ¬ (281474976710656 < Builtin.nextslicecap (sLen + n) sCap * i.bytes) := by omega
    by_cases h0 : n = 0
    · have e0 := hz0 h0
      subst h0
      rw [e0]
      simp only [Nat.add_zero] at hroom h48' ⊢
      simp only [Int.ofNat_zero, Int.add_zero] at h63
      simp [Builtin.append_, run_underlying ht, run_underlying hk, sizeOf, typeInfo, zeroValue, hi, hz, run_asInt', hwr0, hroom, h63, h48', Question.forced, hold, newRow, grownCap]
    · simp [Builtin.append_, run_underlying ht, run_underlying hk, sizeOf, typeInfo, zeroValue, hi, hz, run_asInt', hwr, hroom, hnn, h48, h63, h48', hnz h0, Question.forced, hold, newRow, grownCap]
      congr 2
      apply Array.ext'
      simp [List.append_assoc]
end
end Go.Vai
