/-
  All instructions of a code. Under no condition.
-/
import Derived.Test.YtachdfhodbdoiaaDoorC11
import Derived.Test.YtachdfhodbdoiaaDoorC9
namespace Go.Proofs.YtachdfhodbdoiaaDoor
open Go Go.Vs
set_option linter.unusedSimpArgs false
set_option linter.unusedVariables false
/-- The instruction that bytes begin with, if it is one, and its size. -/
def dec1 (t : List UInt8) : Option (I4 × Nat) := match decT t with
  | some (o, a, b, n) => if isI o a b n then some (((o : Int), (a : Int), (b : Int), (n : Int)), sizeS (shapeN o)) else none
  | none => none
theorem decT_len {t : List UInt8} {o a b n : Nat} (h : decT t = some (o, a, b, n)) : 1 ≤ sizeS (shapeN o) ∧ sizeS (shapeN o) ≤ t.length ∧ ∀ u, decT (t ++ u) = some (o, a, b, n) := by
  cases t with
  | nil => cases h
  | cons x r =>
    simp only [decT] at h
    by_cases hx : x.toNat < 21
    · rw [if_pos hx] at h
      have hs : shapeN x.toNat = 0 ∨ shapeN x.toNat = 1 ∨ shapeN x.toNat = 2 ∨ shapeN x.toNat = 3 ∨ shapeN x.toNat = 4 := by have := shape_le x.toNat; omega
      rcases hs with hs | hs | hs | hs | hs
      · simp only [hs, if_true, Option.some.injEq, Prod.mk.injEq] at h
        obtain ⟨rfl, rfl, rfl, rfl⟩ := h
        refine ⟨by rw [hs]; decide, by rw [hs]; simp [sizeS, sizesZ], fun u => ?_⟩
        simp only [List.cons_append, decT, hx, hs, if_true]
      · simp only [hs, Nat.one_ne_zero, if_false, if_true] at h
        split at h
        · next y h' l' r' =>
          simp only [Option.some.injEq, Prod.mk.injEq] at h
          obtain ⟨rfl, rfl, rfl, rfl⟩ := h
          refine ⟨by rw [hs]; decide, by rw [hs]; simp [sizeS, sizesZ], fun u => ?_⟩
          simp only [List.cons_append, decT, hx, hs, Nat.one_ne_zero, if_false, if_true]
        · cases h
      · simp only [hs, Nat.reduceEqDiff, reduceCtorEq, if_false, if_true] at h
        split at h
        · simp only [Option.some.injEq, Prod.mk.injEq] at h
          obtain ⟨rfl, rfl, rfl, rfl⟩ := h
          refine ⟨by rw [hs]; decide, by rw [hs]; simp [sizeS, sizesZ], fun u => ?_⟩
          simp only [List.cons_append, decT, hx, hs, Nat.reduceEqDiff, reduceCtorEq, if_false, if_true]
        · cases h
      · simp only [hs, Nat.reduceEqDiff, reduceCtorEq, if_false, if_true] at h
        split at h
        · simp only [Option.some.injEq, Prod.mk.injEq] at h
          obtain ⟨rfl, rfl, rfl, rfl⟩ := h
          refine ⟨by rw [hs]; decide, by rw [hs]; simp [sizeS, sizesZ], fun u => ?_⟩
          simp only [List.cons_append, decT, hx, hs, Nat.reduceEqDiff, reduceCtorEq, if_false, if_true]
        · cases h
      · simp only [hs, Nat.reduceEqDiff, reduceCtorEq, if_false, if_true] at h
        split at h
        · simp only [Option.some.injEq, Prod.mk.injEq] at h
          obtain ⟨rfl, rfl, rfl, rfl⟩ := h
          refine ⟨by rw [hs]; decide, by rw [hs]; simp [sizeS, sizesZ], fun u => ?_⟩
          simp only [List.cons_append, decT, hx, hs, Nat.reduceEqDiff, reduceCtorEq, if_false, if_true]
        · cases h
    · rw [if_neg hx] at h; cases h
theorem dec1_len {t : List UInt8} {i : I4} {k : Nat} (h : dec1 t = some (i, k)) : 1 ≤ k ∧ k ≤ t.length ∧ ∀ u, dec1 (t ++ u) = some (i, k) := by
  unfold dec1 at h
  cases hd : decT t with
  | none => rw [hd] at h; cases h
  | some r =>
    obtain ⟨o, a, b, n⟩ := r
    rw [hd] at h
    dsimp only at h
    by_cases hi : isI o a b n
    · rw [if_pos hi] at h
      simp only [Option.some.injEq, Prod.mk.injEq] at h
      obtain ⟨h1, h2⟩ := h
      obtain ⟨d1, d2, d3⟩ := decT_len hd
      subst h2
      refine ⟨d1, d2, fun u => ?_⟩
      unfold dec1
      rw [d3 u]
      dsimp only
      rw [if_pos hi, h1]
    · rw [if_neg hi] at h; cases h
/-- What is at a place inside. -/
theorem at_dec {l : List UInt8} {p : Nat} (h : p < l.length) : (∀ o a b n k, dec1 (l.drop p) = some ((o, a, b, n), k) → atR l p = .tup [.agg [.int .i64 o, .int .i64 a, .int .i64 b, .int .i64 n], .int .i64 ((p + k : Nat) : Int), .int .i64 0]) ∧ (dec1 (l.drop p) = none → atR l p = .tup [.agg [.int .i64 0, .int .i64 0, .int .i64 0, .int .i64 0], .int .i64 0, .int .i64 4]) := by
  have hp : (0 : Int) ≤ (p : Int) ∧ (p : Int) < l.length := by omega
  unfold atR atS dec1
  rw [if_pos hp, Int.toNat_natCast]
  cases hd : decT (l.drop p) with
  | none => exact ⟨fun o a b n k h => (nomatch h), fun _ => rfl⟩
  | some r =>
    obtain ⟨o, a, b, n⟩ := r
    dsimp only
    by_cases hi : isI o a b n
    · rw [if_pos hi, if_pos hi]
      refine ⟨fun o' a' b' n' k h => ?_, fun h => (nomatch h)⟩
      simp only [Option.some.injEq, Prod.mk.injEq] at h
      obtain ⟨⟨rfl, rfl, rfl, rfl⟩, rfl⟩ := h
      rfl
    · rw [if_neg hi, if_neg hi]
      exact ⟨fun o a b n k h => (nomatch h), fun _ => rfl⟩
/-- All instructions, in at most so many steps. -/
def decF : Nat → List UInt8 → Option (List I4)
  | _, [] => some []
  | 0, _ :: _ => none
  | f + 1, t => match dec1 t with
    | some (i, k) => (decF f (t.drop k)).map (i :: ·)
    | none => none
theorem decF_nil (f : Nat) : decF f [] = some [] := by cases f <;> rfl
theorem decF_none {f : Nat} {t : List UInt8} (h0 : t ≠ []) (h : dec1 t = none) : decF f t = none := by
  cases t with
  | nil => exact absurd rfl h0
  | cons x r => cases f with
    | zero => rfl
    | succ f => simp only [decF, h]
theorem decF_some {f : Nat} {t : List UInt8} {i : I4} {k : Nat} (h0 : t ≠ []) (h : dec1 t = some (i, k)) : decF (f + 1) t = (decF f (t.drop k)).map (i :: ·) := by
  cases t with
  | nil => exact absurd rfl h0
  | cons x r => simp only [decF, h]
def decAll (l : List UInt8) : Option (List I4) := decF l.length l
def allR (l : List UInt8) : List I4 × Int := if l.length ≤ 256 then (match decAll l with | some is => (is, 0) | none => ([], 4)) else ([], 2)
end Go.Proofs.YtachdfhodbdoiaaDoor
