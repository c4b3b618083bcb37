/-
  A law of code: CodeParts. Under no condition.
-/
import Derived.Test.YtachdfhodbdoiaaDoorC13
namespace Go.Proofs.YtachdfhodbdoiaaDoor
open Go Go.Vs
set_option linter.unusedSimpArgs false
set_option linter.unusedVariables false
theorem decF_more {f : Nat} (j : Nat) {t : List UInt8} {is : List I4} (h : decF f t = some is) : decF (f + j) t = some is := by
  induction f generalizing t is with
  | zero => cases t with
    | nil => rw [decF_nil] at h ⊢; exact h
    | cons x r => cases h
  | succ f ih =>
    by_cases h0 : t = []
    · subst h0; rw [decF_nil] at h ⊢; exact h
    · cases hd : dec1 t with
      | none => rw [decF_none h0 hd] at h; cases h
      | some q =>
        obtain ⟨i, k⟩ := q
        rw [decF_some h0 hd] at h
        rw [show f + 1 + j = (f + j) + 1 by omega, decF_some h0 hd]
        cases hr : decF f (t.drop k) with
        | none => rw [hr] at h; cases h
        | some js => rw [hr] at h; rw [ih hr]; exact h
theorem decF_app {f g : Nat} {t u : List UInt8} {is js : List I4} (h : decF f t = some is) (h2 : decF g u = some js) : decF (f + g) (t ++ u) = some (is ++ js) := by
  induction f generalizing t is with
  | zero => cases t with
    | nil =>
      rw [decF_nil] at h; cases h
      rw [Nat.zero_add]; exact h2
    | cons x r => cases h
  | succ f ih =>
    by_cases h0 : t = []
    · subst h0; rw [decF_nil] at h; cases h
      rw [Nat.add_comm]; exact decF_more _ h2
    · cases hd : dec1 t with
      | none => rw [decF_none h0 hd] at h; cases h
      | some q =>
        obtain ⟨i, k⟩ := q
        obtain ⟨k1, k2, k3⟩ := dec1_len hd
        rw [decF_some h0 hd] at h
        rw [show f + 1 + g = (f + g) + 1 by omega, decF_some (by simp [h0]) (k3 u), List.drop_append_of_le_length k2]
        cases hr : decF f (t.drop k) with
        | none => rw [hr] at h; cases h
        | some ks => rw [hr] at h; rw [ih hr]; cases h; rfl
theorem all_zero {l : List UInt8} (h : (allR l).2 = 0) : l.length ≤ 256 ∧ decAll l = some (allR l).1 := by
  unfold allR at h ⊢
  by_cases hl : l.length ≤ 256
  · rw [if_pos hl] at h ⊢
    cases hd : decAll l with
    | none => rw [hd] at h; cases h
    | some is => exact ⟨hl, rfl⟩
  · rw [if_neg hl] at h; cases h
theorem all_app {a b : List UInt8} (ha : (allR a).2 = 0) (hb : (allR b).2 = 0) (hl : a.length + b.length ≤ 256) : allR (a ++ b) = ((allR a).1 ++ (allR b).1, 0) := by
  obtain ⟨-, h1⟩ := all_zero ha
  obtain ⟨-, h2⟩ := all_zero hb
  have h3 := decF_app h1 h2
  have : decAll (a ++ b) = some ((allR a).1 ++ (allR b).1) := by unfold decAll; rw [List.length_append]; exact h3
  unfold allR at *
  rw [if_pos (by simp; omega), this]
theorem decF_len {f : Nat} {t : List UInt8} {is : List I4} (h : decF f t = some is) : is.length ≤ t.length := by
  induction f generalizing t is with
  | zero => cases t with
    | nil => rw [decF_nil] at h; cases h; simp
    | cons x r => cases h
  | succ f ih =>
    by_cases h0 : t = []
    · subst h0; rw [decF_nil] at h; cases h; simp
    · cases hd : dec1 t with
      | none => rw [decF_none h0 hd] at h; cases h
      | some q =>
        obtain ⟨i, k⟩ := q
        obtain ⟨k1, k2, k3⟩ := dec1_len hd
        rw [decF_some h0 hd] at h
        cases hr : decF f (t.drop k) with
        | none => rw [hr] at h; cases h
        | some ks =>
          rw [hr] at h; cases h
          have := ih hr
          rw [List.length_drop] at this
          simp; omega
theorem all_len (l : List UInt8) : (allR l).1.length ≤ 256 := by
  unfold allR
  by_cases hl : l.length ≤ 256
  · rw [if_pos hl]
    cases hd : decAll l with
    | none => simp
    | some is => have := decF_len hd; simp; omega
  · rw [if_neg hl]; simp
theorem free_cells (l : List I4) : Free (.sl (l.map cellsI)) := by
  refine Free.sl' fun e he => ?_
  obtain ⟨i, -, rfl⟩ := List.mem_map.1 he
  exact .cons (.int _ _) (.cons (.int _ _) (.cons (.int _ _) (.cons (.int _ _) .nil)))
end Go.Proofs.YtachdfhodbdoiaaDoor
