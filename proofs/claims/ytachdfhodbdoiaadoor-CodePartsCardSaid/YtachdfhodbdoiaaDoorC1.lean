/-
  The functions of code, of what it calls of bits, and of its reference: shapes, sizes, ranges. Under no condition.
-/
import Derived.Test.YtachdfhodbdoiaaDoorZk
namespace Go.Proofs.YtachdfhodbdoiaaDoor
open Go Go.Vs
set_option linter.unusedSimpArgs false
set_option linter.unusedVariables false
def shapesZ : List Nat := [0, 1, 2, 2, 2, 2, 2, 2, 2, 2, 2, 2, 2, 2, 2, 2, 2, 3, 1, 1, 4]
def sizesZ : List Nat := [1, 4, 2, 3, 2]
def shapes : List PV := shapesZ.map fun n : Nat => PV.int .i64 n
def sizes : List PV := sizesZ.map fun n : Nat => PV.int .i64 n
def gl0 : Nat → List PV := fun g => if g = 0 then shapes else if g = 1 then sizes else []
theorem hgl0 : ∀ g, ∀ c ∈ gl0 g, Free c := by
  intro g c hc
  unfold gl0 at hc
  split at hc
  · simp only [shapes, List.mem_map] at hc
    obtain ⟨n, _, rfl⟩ := hc
    exact .int _ _
  · split at hc
    · simp only [sizes, List.mem_map] at hc
      obtain ⟨n, _, rfl⟩ := hc
      exact .int _ _
    · simp at hc
theorem set15 : Ans cprog gl0 15 [] [] (.bool true) [] := Ans.runB (n := 60) (by kernel_rfl)
/-- An op's shape. -/
def shapeN (o : Nat) : Nat := shapesZ.getD o 0
theorem shape_le (o : Nat) : shapeN o ≤ 4 := by
  by_cases h : o < 21
  · have : o = 0 ∨ o = 1 ∨ o = 2 ∨ o = 3 ∨ o = 4 ∨ o = 5 ∨ o = 6 ∨ o = 7 ∨ o = 8 ∨ o = 9 ∨ o = 10 ∨ o = 11 ∨ o = 12 ∨ o = 13 ∨ o = 14 ∨ o = 15 ∨ o = 16 ∨ o = 17 ∨ o = 18 ∨ o = 19 ∨ o = 20 := by omega
    rcases this with rfl | rfl | rfl | rfl | rfl | rfl | rfl | rfl | rfl | rfl | rfl | rfl | rfl | rfl | rfl | rfl | rfl | rfl | rfl | rfl | rfl <;> decide
  · have : shapesZ[o]? = none := List.getElem?_eq_none (by simp [shapesZ]; omega)
    simp [shapeN, this]
theorem tab0 (st : Store) (o : Nat) (h : o < 21) : readP st 1 (.pf ((gl0 0).drop ((o : Int).toNat * 1))) = some [.int .i64 (shapeN o : Nat)] := by
  have : o = 0 ∨ o = 1 ∨ o = 2 ∨ o = 3 ∨ o = 4 ∨ o = 5 ∨ o = 6 ∨ o = 7 ∨ o = 8 ∨ o = 9 ∨ o = 10 ∨ o = 11 ∨ o = 12 ∨ o = 13 ∨ o = 14 ∨ o = 15 ∨ o = 16 ∨ o = 17 ∨ o = 18 ∨ o = 19 ∨ o = 20 := by omega
  rcases this with rfl | rfl | rfl | rfl | rfl | rfl | rfl | rfl | rfl | rfl | rfl | rfl | rfl | rfl | rfl | rfl | rfl | rfl | rfl | rfl | rfl <;> rfl
/-- How many bytes a shape has. -/
def sizeS (s : Nat) : Nat := sizesZ.getD s 0
theorem tab1 (st : Store) (s : Nat) (h : s ≤ 4) : readP st 1 (.pf ((gl0 1).drop ((s : Int).toNat * 1))) = some [.int .i64 (sizeS s : Nat)] := by
  have : s = 0 ∨ s = 1 ∨ s = 2 ∨ s = 3 ∨ s = 4 := by omega
  rcases this with rfl | rfl | rfl | rfl | rfl <;> rfl
def i64 (n : Int) : Prop := -9223372036854775808 ≤ n ∧ n ≤ 9223372036854775807
theorem s29 (o : Int) : Ans cprog gl0 29 [.int .i64 o] [] (.bool (decide (0 ≤ o ∧ o < 21))) [] := by
  refine a29 rfl ?_
  delta k29
  repeat' (first | refine ctl ?_ | refine stp ?_ | refine stpD ?_ | refine stpK ?_ | refine cnt ?_ | refine cnf ?_ | refine ctl_ne ?_ | refine ev_if rfl (fun hc => ?_) (fun hc => ?_) | refine e_gifp rfl (fun hc => ?_) (fun hc => ?_) | refine d_gifp rfl (fun hc => ?_) (fun hc => ?_) | refine ev_ifn rfl (fun hc => ?_) (fun hc => ?_) | refine ev_ifb rfl (fun hc => ?_) (fun hc => ?_) | refine e_gif rfl (fun hc => ?_) (fun hc => ?_) | refine d_gif rfl (fun hc => ?_) (fun hc => ?_))
  all_goals
    refine left_v ⟨.inr rfl, rfl⟩ ?_; refine congrArg PV.bool ?_; first | rfl | (rw [decide_eq_decide]; omega) | (symm; rw [decide_eq_true_eq]; omega) | (symm; rw [decide_eq_false_iff_not]; omega) | (rw [decide_eq_true_eq]; omega) | (rw [decide_eq_false_iff_not]; omega)
theorem s26 (n m : Int) : Ans cprog gl0 26 [.int .i64 n, .int .i64 m] [] (.bool (decide (0 ≤ n ∧ n < m))) [] := by
  refine a26 rfl ?_
  delta k26
  repeat' (first | refine ctl ?_ | refine stp ?_ | refine stpD ?_ | refine stpK ?_ | refine cnt ?_ | refine cnf ?_ | refine ctl_ne ?_ | refine ev_if rfl (fun hc => ?_) (fun hc => ?_) | refine e_gifp rfl (fun hc => ?_) (fun hc => ?_) | refine d_gifp rfl (fun hc => ?_) (fun hc => ?_) | refine ev_ifn rfl (fun hc => ?_) (fun hc => ?_) | refine ev_ifb rfl (fun hc => ?_) (fun hc => ?_) | refine e_gif rfl (fun hc => ?_) (fun hc => ?_) | refine d_gif rfl (fun hc => ?_) (fun hc => ?_))
  all_goals
    refine left_v ⟨.inr rfl, rfl⟩ ?_; refine congrArg PV.bool ?_; first | rfl | (rw [decide_eq_decide]; omega) | (symm; rw [decide_eq_true_eq]; omega) | (symm; rw [decide_eq_false_iff_not]; omega) | (rw [decide_eq_true_eq]; omega) | (rw [decide_eq_false_iff_not]; omega)
def sizeR (o : Int) : Nat := if 0 ≤ o ∧ o < 21 then sizeS (shapeN o.toNat) else 0
theorem s13 (o : Int) : Ans cprog gl0 13 [.int .i64 o] [] (.int .i64 (sizeR o : Nat)) [] := by
  refine a13 rfl ?_
  delta k13
  unfold sizeR
  by_cases hc : 0 ≤ o ∧ o < 21
  · rw [if_pos hc]
    obtain ⟨o, rfl⟩ := Int.eq_ofNat_of_zero_le hc.1
    repeat (first | refine ctl ?_ | refine stp ?_ | refine stpD ?_ | refine stpK ?_ | refine cnt ?_ | refine cnf ?_ | refine ctl_ne ?_ | refine opt (clp hgl0 cprog_okC (by exact rfl) (s29 o)) ?_ | refine optD (clp hgl0 cprog_okC (by exact rfl) (s29 o)) ?_ | refine optK (clp hgl0 cprog_okC (by exact rfl) (s29 o)) ?_)
    (first | refine opt (by exact op_ixaa rfl rfl (by omega)) ?_ | refine optn (by exact op_ixaa rfl rfl (by omega)) ?_ | refine optD (by exact op_ixaa rfl rfl (by omega)) ?_ | refine optnD (by exact op_ixaa rfl rfl (by omega)) ?_ | refine optK (by exact op_ixaa rfl rfl (by omega)) ?_ | refine optnK (by exact op_ixaa rfl rfl (by omega)) ?_)
    (first | refine opt (by exact op_ldc (tab0 _ _ (by omega)) Nf.int) ?_ | refine optn (by exact op_ldc (tab0 _ _ (by omega)) Nf.int) ?_ | refine optD (by exact op_ldc (tab0 _ _ (by omega)) Nf.int) ?_ | refine optnD (by exact op_ldc (tab0 _ _ (by omega)) Nf.int) ?_ | refine optK (by exact op_ldc (tab0 _ _ (by omega)) Nf.int) ?_ | refine optnK (by exact op_ldc (tab0 _ _ (by omega)) Nf.int) ?_)
    have h4 := shape_le o
    (first | refine opt (by exact op_ixaa rfl rfl (by omega)) ?_ | refine optn (by exact op_ixaa rfl rfl (by omega)) ?_ | refine optD (by exact op_ixaa rfl rfl (by omega)) ?_ | refine optnD (by exact op_ixaa rfl rfl (by omega)) ?_ | refine optK (by exact op_ixaa rfl rfl (by omega)) ?_ | refine optnK (by exact op_ixaa rfl rfl (by omega)) ?_)
    (first | refine opt (by exact op_ldc (tab1 _ _ h4) Nf.int) ?_ | refine optn (by exact op_ldc (tab1 _ _ h4) Nf.int) ?_ | refine optD (by exact op_ldc (tab1 _ _ h4) Nf.int) ?_ | refine optnD (by exact op_ldc (tab1 _ _ h4) Nf.int) ?_ | refine optK (by exact op_ldc (tab1 _ _ h4) Nf.int) ?_ | refine optnK (by exact op_ldc (tab1 _ _ h4) Nf.int) ?_)
    repeat (first | refine ctl ?_ | refine stp ?_ | refine stpD ?_ | refine stpK ?_ | refine cnt ?_ | refine cnf ?_ | refine ctl_ne ?_)
    exact ⟨.inr rfl, rfl⟩
  · rw [if_neg hc]
    repeat (first | refine ctl ?_ | refine stp ?_ | refine stpD ?_ | refine stpK ?_ | refine cnt ?_ | refine cnf ?_ | refine ctl_ne ?_ | refine opt (clp hgl0 cprog_okC (by exact rfl) (s29 o)) ?_ | refine optD (clp hgl0 cprog_okC (by exact rfl) (s29 o)) ?_ | refine optK (clp hgl0 cprog_okC (by exact rfl) (s29 o)) ?_)
    exact ⟨.inr rfl, rfl⟩
/-- What a register or a number must be less than. -/
def limA (s : Nat) : Int := if s = 1 ∨ s = 2 then 8 else 1
def limB (s : Nat) : Int := if s = 2 then 8 else 1
def limN (s : Nat) : Int := if s = 1 ∨ s = 3 then 65536 else if s = 4 then 256 else 1
/-- Is it an instruction? -/
def isI (o a b n : Int) : Prop := (0 ≤ o ∧ o < 21) ∧ (0 ≤ a ∧ a < limA (shapeN o.toNat)) ∧ (0 ≤ b ∧ b < limB (shapeN o.toNat)) ∧ (0 ≤ n ∧ n < limN (shapeN o.toNat))
instance (o a b n : Int) : Decidable (isI o a b n) := by unfold isI; exact inferInstance
theorem s22 (o a b n : Int) : Ans cprog gl0 22 [.agg [.int .i64 o, .int .i64 a, .int .i64 b, .int .i64 n]] [] (.bool (decide (isI o a b n))) [] := by
  refine a22 rfl ?_
  delta k22
  by_cases hc : 0 ≤ o ∧ o < 21
  · obtain ⟨o, rfl⟩ := Int.eq_ofNat_of_zero_le hc.1
    have h4 := shape_le o
    repeat (first | refine ctl ?_ | refine stp ?_ | refine stpD ?_ | refine stpK ?_ | refine cnt ?_ | refine cnf ?_ | refine ctl_ne ?_ | refine opt (clp hgl0 cprog_okC (by exact rfl) (s29 o)) ?_ | refine optD (clp hgl0 cprog_okC (by exact rfl) (s29 o)) ?_ | refine optK (clp hgl0 cprog_okC (by exact rfl) (s29 o)) ?_)
    (first | refine opt (by exact op_ixaa rfl rfl (by omega)) ?_ | refine optn (by exact op_ixaa rfl rfl (by omega)) ?_ | refine optD (by exact op_ixaa rfl rfl (by omega)) ?_ | refine optnD (by exact op_ixaa rfl rfl (by omega)) ?_ | refine optK (by exact op_ixaa rfl rfl (by omega)) ?_ | refine optnK (by exact op_ixaa rfl rfl (by omega)) ?_)
    (first | refine opt (by exact op_ldc (tab0 _ _ (by omega)) Nf.int) ?_ | refine optn (by exact op_ldc (tab0 _ _ (by omega)) Nf.int) ?_ | refine optD (by exact op_ldc (tab0 _ _ (by omega)) Nf.int) ?_ | refine optnD (by exact op_ldc (tab0 _ _ (by omega)) Nf.int) ?_ | refine optK (by exact op_ldc (tab0 _ _ (by omega)) Nf.int) ?_ | refine optnK (by exact op_ldc (tab0 _ _ (by omega)) Nf.int) ?_)
    have fin : ∀ x y z : Int, x = limA (shapeN o) → y = limB (shapeN o) → z = limN (shapeN o) → decide (isI o a b n) = decide ((0 ≤ a ∧ a < x) ∧ (0 ≤ b ∧ b < y) ∧ (0 ≤ n ∧ n < z)) := by
      rintro x y z rfl rfl rfl
      rw [decide_eq_decide]
      unfold isI
      simp only [Int.toNat_natCast]
      constructor
      · exact fun h => h.2
      · exact fun h => ⟨hc, h⟩
    unfold limA limB limN at fin
    have hs : shapeN o = 0 ∨ shapeN o = 1 ∨ shapeN o = 2 ∨ shapeN o = 3 ∨ shapeN o = 4 := by omega
    rcases hs with hs | hs | hs | hs | hs <;> rw [hs] at fin ⊢ <;> simp only [Nat.reduceEqDiff, or_false, or_true, if_true, if_false, reduceCtorEq] at fin
    all_goals rw [fin _ _ _ rfl rfl rfl]
    all_goals
      repeat' (first | refine ctl ?_ | refine stp ?_ | refine stpD ?_ | refine stpK ?_ | refine cnt ?_ | refine cnf ?_ | refine ctl_ne ?_ | refine opt (clp hgl0 cprog_okC (by exact rfl) (s26 a _)) ?_ | refine optD (clp hgl0 cprog_okC (by exact rfl) (s26 a _)) ?_ | refine optK (clp hgl0 cprog_okC (by exact rfl) (s26 a _)) ?_ | refine opt (clp hgl0 cprog_okC (by exact rfl) (s26 b _)) ?_ | refine optD (clp hgl0 cprog_okC (by exact rfl) (s26 b _)) ?_ | refine optK (clp hgl0 cprog_okC (by exact rfl) (s26 b _)) ?_ | refine opt (clp hgl0 cprog_okC (by exact rfl) (s26 n _)) ?_ | refine optD (clp hgl0 cprog_okC (by exact rfl) (s26 n _)) ?_ | refine optK (clp hgl0 cprog_okC (by exact rfl) (s26 n _)) ?_ | refine ev_if rfl (fun hc => ?_) (fun hc => ?_) | refine e_gifp rfl (fun hc => ?_) (fun hc => ?_) | refine d_gifp rfl (fun hc => ?_) (fun hc => ?_) | refine ev_ifn rfl (fun hc => ?_) (fun hc => ?_) | refine ev_ifb rfl (fun hc => ?_) (fun hc => ?_) | refine e_gif rfl (fun hc => ?_) (fun hc => ?_) | refine d_gif rfl (fun hc => ?_) (fun hc => ?_))
    all_goals
      refine left_v ⟨.inr rfl, rfl⟩ ?_; refine congrArg PV.bool ?_; first | rfl | (rw [decide_eq_decide]; omega) | (symm; rw [decide_eq_true_eq]; omega) | (symm; rw [decide_eq_false_iff_not]; omega) | (rw [decide_eq_true_eq]; omega) | (rw [decide_eq_false_iff_not]; omega)
  · have hn : decide (isI o a b n) = false := by rw [decide_eq_false_iff_not]; exact fun h => hc h.1
    rw [hn]
    repeat (first | refine ctl ?_ | refine stp ?_ | refine stpD ?_ | refine stpK ?_ | refine cnt ?_ | refine cnf ?_ | refine ctl_ne ?_ | refine opt (clp hgl0 cprog_okC (by exact rfl) (s29 o)) ?_ | refine optD (clp hgl0 cprog_okC (by exact rfl) (s29 o)) ?_ | refine optK (clp hgl0 cprog_okC (by exact rfl) (s29 o)) ?_)
    exact ⟨.inr rfl, rfl⟩
end Go.Proofs.YtachdfhodbdoiaaDoor
