/-
  The reference of code: whether it is an instruction, its bytes. Under no condition.
-/
import Derived.Test.YtachdfhodbdoiaaDoorC2
namespace Go.Proofs.YtachdfhodbdoiaaDoor
open Go Go.Vs
set_option linter.unusedSimpArgs false
set_option linter.unusedVariables false
theorem lim_tab (s : Nat) : (s = 0 → limA s = 1 ∧ limB s = 1 ∧ limN s = 1) ∧ (s = 1 → limA s = 8 ∧ limB s = 1 ∧ limN s = 65536) ∧ (s = 2 → limA s = 8 ∧ limB s = 8 ∧ limN s = 1) ∧ (s = 3 → limA s = 1 ∧ limB s = 1 ∧ limN s = 65536) ∧ (s = 4 → limA s = 1 ∧ limB s = 1 ∧ limN s = 256) := by
  refine ⟨?_, ?_, ?_, ?_, ?_⟩ <;> (rintro rfl; decide)
theorem isI_iff (o : Nat) (a b n : Int) (h : o < 21) : isI o a b n ↔ (0 ≤ a ∧ a < limA (shapeN o)) ∧ (0 ≤ b ∧ b < limB (shapeN o)) ∧ (0 ≤ n ∧ n < limN (shapeN o)) := by
  unfold isI
  simp only [Int.toNat_natCast]
  exact ⟨fun h => h.2, fun h2 => ⟨by omega, h2⟩⟩
theorem decI (o : Nat) (a b n x y z : Int) (h : o < 21) (hx : limA (shapeN o) = x) (hy : limB (shapeN o) = y) (hz : limN (shapeN o) = z) : decide (isI o a b n) = decide ((0 ≤ a ∧ a < x) ∧ (0 ≤ b ∧ b < y) ∧ (0 ≤ n ∧ n < z)) := by
  rw [decide_eq_decide, isI_iff o a b n h, hx, hy, hz]
theorem s24_0 (o a b n : Int) (g2 : Ans cprog gl0 28 [.int .i64 o] [] (.int .i64 0) []) (g3 : Ans cprog gl0 30 [.int .i64 o] [] (.int .i64 0) []) : Ans cprog gl0 24 [.agg [.int .i64 o, .int .i64 a, .int .i64 b, .int .i64 n]] [] (.bool (decide ((0 ≤ a ∧ a < 1) ∧ (0 ≤ b ∧ b < 1) ∧ (0 ≤ n ∧ n < 1)))) [] := by
  refine a24 rfl ?_
  delta k24
  repeat' (first | refine ctl ?_ | refine stp ?_ | refine stpD ?_ | refine stpK ?_ | refine cnt ?_ | refine cnf ?_ | refine ctl_ne ?_ | refine opt (clp hgl0 cprog_okC (by exact rfl) (g2)) ?_ | refine optD (clp hgl0 cprog_okC (by exact rfl) (g2)) ?_ | refine optK (clp hgl0 cprog_okC (by exact rfl) (g2)) ?_ | refine opt (clp hgl0 cprog_okC (by exact rfl) (g3)) ?_ | refine optD (clp hgl0 cprog_okC (by exact rfl) (g3)) ?_ | refine optK (clp hgl0 cprog_okC (by exact rfl) (g3)) ?_ | refine ev_if rfl (fun hc => ?_) (fun hc => ?_) | refine e_gifp rfl (fun hc => ?_) (fun hc => ?_) | refine d_gifp rfl (fun hc => ?_) (fun hc => ?_) | refine ev_ifn rfl (fun hc => ?_) (fun hc => ?_) | refine ev_ifb rfl (fun hc => ?_) (fun hc => ?_) | refine e_gif rfl (fun hc => ?_) (fun hc => ?_) | refine d_gif rfl (fun hc => ?_) (fun hc => ?_))

  all_goals
    refine left_v ⟨.inr rfl, rfl⟩ ?_; refine congrArg PV.bool ?_; first | rfl | (rw [decide_eq_decide]; omega) | (symm; rw [decide_eq_true_eq]; omega) | (symm; rw [decide_eq_false_iff_not]; omega) | (rw [decide_eq_true_eq]; omega) | (rw [decide_eq_false_iff_not]; omega)
theorem s24_1 (o a b n : Int) (g2 : Ans cprog gl0 28 [.int .i64 o] [] (.int .i64 1) []) (g3 : Ans cprog gl0 30 [.int .i64 o] [] (.int .i64 2) []) : Ans cprog gl0 24 [.agg [.int .i64 o, .int .i64 a, .int .i64 b, .int .i64 n]] [] (.bool (decide ((0 ≤ a ∧ a < 8) ∧ (0 ≤ b ∧ b < 1) ∧ (0 ≤ n ∧ n < 65536)))) [] := by
  refine a24 rfl ?_
  delta k24
  repeat' (first | refine ctl ?_ | refine stp ?_ | refine stpD ?_ | refine stpK ?_ | refine cnt ?_ | refine cnf ?_ | refine ctl_ne ?_ | refine opt (clp hgl0 cprog_okC (by exact rfl) (g2)) ?_ | refine optD (clp hgl0 cprog_okC (by exact rfl) (g2)) ?_ | refine optK (clp hgl0 cprog_okC (by exact rfl) (g2)) ?_ | refine opt (clp hgl0 cprog_okC (by exact rfl) (g3)) ?_ | refine optD (clp hgl0 cprog_okC (by exact rfl) (g3)) ?_ | refine optK (clp hgl0 cprog_okC (by exact rfl) (g3)) ?_ | refine ev_if rfl (fun hc => ?_) (fun hc => ?_) | refine e_gifp rfl (fun hc => ?_) (fun hc => ?_) | refine d_gifp rfl (fun hc => ?_) (fun hc => ?_) | refine ev_ifn rfl (fun hc => ?_) (fun hc => ?_) | refine ev_ifb rfl (fun hc => ?_) (fun hc => ?_) | refine e_gif rfl (fun hc => ?_) (fun hc => ?_) | refine d_gif rfl (fun hc => ?_) (fun hc => ?_))
  all_goals
    refine left_v ⟨.inr rfl, rfl⟩ ?_; refine congrArg PV.bool ?_; first | rfl | (rw [decide_eq_decide]; omega) | (symm; rw [decide_eq_true_eq]; omega) | (symm; rw [decide_eq_false_iff_not]; omega) | (rw [decide_eq_true_eq]; omega) | (rw [decide_eq_false_iff_not]; omega)
theorem s24_2 (o a b n : Int) (g2 : Ans cprog gl0 28 [.int .i64 o] [] (.int .i64 2) []) (g3 : Ans cprog gl0 30 [.int .i64 o] [] (.int .i64 0) []) : Ans cprog gl0 24 [.agg [.int .i64 o, .int .i64 a, .int .i64 b, .int .i64 n]] [] (.bool (decide ((0 ≤ a ∧ a < 8) ∧ (0 ≤ b ∧ b < 8) ∧ (0 ≤ n ∧ n < 1)))) [] := by
  refine a24 rfl ?_
  delta k24
  repeat' (first | refine ctl ?_ | refine stp ?_ | refine stpD ?_ | refine stpK ?_ | refine cnt ?_ | refine cnf ?_ | refine ctl_ne ?_ | refine opt (clp hgl0 cprog_okC (by exact rfl) (g2)) ?_ | refine optD (clp hgl0 cprog_okC (by exact rfl) (g2)) ?_ | refine optK (clp hgl0 cprog_okC (by exact rfl) (g2)) ?_ | refine opt (clp hgl0 cprog_okC (by exact rfl) (g3)) ?_ | refine optD (clp hgl0 cprog_okC (by exact rfl) (g3)) ?_ | refine optK (clp hgl0 cprog_okC (by exact rfl) (g3)) ?_ | refine ev_if rfl (fun hc => ?_) (fun hc => ?_) | refine e_gifp rfl (fun hc => ?_) (fun hc => ?_) | refine d_gifp rfl (fun hc => ?_) (fun hc => ?_) | refine ev_ifn rfl (fun hc => ?_) (fun hc => ?_) | refine ev_ifb rfl (fun hc => ?_) (fun hc => ?_) | refine e_gif rfl (fun hc => ?_) (fun hc => ?_) | refine d_gif rfl (fun hc => ?_) (fun hc => ?_))
  all_goals
    refine left_v ⟨.inr rfl, rfl⟩ ?_; refine congrArg PV.bool ?_; first | rfl | (rw [decide_eq_decide]; omega) | (symm; rw [decide_eq_true_eq]; omega) | (symm; rw [decide_eq_false_iff_not]; omega) | (rw [decide_eq_true_eq]; omega) | (rw [decide_eq_false_iff_not]; omega)
theorem s24_3 (o a b n : Int) (g2 : Ans cprog gl0 28 [.int .i64 o] [] (.int .i64 0) []) (g3 : Ans cprog gl0 30 [.int .i64 o] [] (.int .i64 2) []) : Ans cprog gl0 24 [.agg [.int .i64 o, .int .i64 a, .int .i64 b, .int .i64 n]] [] (.bool (decide ((0 ≤ a ∧ a < 1) ∧ (0 ≤ b ∧ b < 1) ∧ (0 ≤ n ∧ n < 65536)))) [] := by
  refine a24 rfl ?_
  delta k24
  repeat' (first | refine ctl ?_ | refine stp ?_ | refine stpD ?_ | refine stpK ?_ | refine cnt ?_ | refine cnf ?_ | refine ctl_ne ?_ | refine opt (clp hgl0 cprog_okC (by exact rfl) (g2)) ?_ | refine optD (clp hgl0 cprog_okC (by exact rfl) (g2)) ?_ | refine optK (clp hgl0 cprog_okC (by exact rfl) (g2)) ?_ | refine opt (clp hgl0 cprog_okC (by exact rfl) (g3)) ?_ | refine optD (clp hgl0 cprog_okC (by exact rfl) (g3)) ?_ | refine optK (clp hgl0 cprog_okC (by exact rfl) (g3)) ?_ | refine ev_if rfl (fun hc => ?_) (fun hc => ?_) | refine e_gifp rfl (fun hc => ?_) (fun hc => ?_) | refine d_gifp rfl (fun hc => ?_) (fun hc => ?_) | refine ev_ifn rfl (fun hc => ?_) (fun hc => ?_) | refine ev_ifb rfl (fun hc => ?_) (fun hc => ?_) | refine e_gif rfl (fun hc => ?_) (fun hc => ?_) | refine d_gif rfl (fun hc => ?_) (fun hc => ?_))
  all_goals
    refine left_v ⟨.inr rfl, rfl⟩ ?_; refine congrArg PV.bool ?_; first | rfl | (rw [decide_eq_decide]; omega) | (symm; rw [decide_eq_true_eq]; omega) | (symm; rw [decide_eq_false_iff_not]; omega) | (rw [decide_eq_true_eq]; omega) | (rw [decide_eq_false_iff_not]; omega)
theorem s24_4 (o a b n : Int) (g2 : Ans cprog gl0 28 [.int .i64 o] [] (.int .i64 0) []) (g3 : Ans cprog gl0 30 [.int .i64 o] [] (.int .i64 1) []) : Ans cprog gl0 24 [.agg [.int .i64 o, .int .i64 a, .int .i64 b, .int .i64 n]] [] (.bool (decide ((0 ≤ a ∧ a < 1) ∧ (0 ≤ b ∧ b < 1) ∧ (0 ≤ n ∧ n < 256)))) [] := by
  refine a24 rfl ?_
  delta k24
  repeat' (first | refine ctl ?_ | refine stp ?_ | refine stpD ?_ | refine stpK ?_ | refine cnt ?_ | refine cnf ?_ | refine ctl_ne ?_ | refine opt (clp hgl0 cprog_okC (by exact rfl) (g2)) ?_ | refine optD (clp hgl0 cprog_okC (by exact rfl) (g2)) ?_ | refine optK (clp hgl0 cprog_okC (by exact rfl) (g2)) ?_ | refine opt (clp hgl0 cprog_okC (by exact rfl) (g3)) ?_ | refine optD (clp hgl0 cprog_okC (by exact rfl) (g3)) ?_ | refine optK (clp hgl0 cprog_okC (by exact rfl) (g3)) ?_ | refine ev_if rfl (fun hc => ?_) (fun hc => ?_) | refine e_gifp rfl (fun hc => ?_) (fun hc => ?_) | refine d_gifp rfl (fun hc => ?_) (fun hc => ?_) | refine ev_ifn rfl (fun hc => ?_) (fun hc => ?_) | refine ev_ifb rfl (fun hc => ?_) (fun hc => ?_) | refine e_gif rfl (fun hc => ?_) (fun hc => ?_) | refine d_gif rfl (fun hc => ?_) (fun hc => ?_))
  all_goals
    refine left_v ⟨.inr rfl, rfl⟩ ?_; refine congrArg PV.bool ?_; first | rfl | (rw [decide_eq_decide]; omega) | (symm; rw [decide_eq_true_eq]; omega) | (symm; rw [decide_eq_false_iff_not]; omega) | (rw [decide_eq_true_eq]; omega) | (rw [decide_eq_false_iff_not]; omega)
theorem s24 (o a b n : Int) : Ans cprog gl0 24 [.agg [.int .i64 o, .int .i64 a, .int .i64 b, .int .i64 n]] [] (.bool (decide (isI o a b n))) [] := by
  by_cases hc : 0 ≤ o ∧ o < 21
  · obtain ⟨o, rfl⟩ := Int.eq_ofNat_of_zero_le hc.1
    obtain ⟨t0, t1, t2, t3, t4⟩ := lim_tab (shapeN o)
    have g2 := s28 o
    have g3 := s30 o
    rcases ref_tab o (by omega) with ⟨h1, h2, h3⟩ | ⟨h1, h2, h3⟩ | ⟨h1, h2, h3⟩ | ⟨h1, h2, h3⟩ | ⟨h1, h2, h3⟩
    · obtain ⟨e1, e2, e3⟩ := t0 h1
      rw [h2] at g2
      rw [h3] at g3
      rw [decI o a b n _ _ _ (by omega) e1 e2 e3]
      exact s24_0 o a b n g2 g3
    · obtain ⟨e1, e2, e3⟩ := t1 h1
      rw [h2] at g2
      rw [h3] at g3
      rw [decI o a b n _ _ _ (by omega) e1 e2 e3]
      exact s24_1 o a b n g2 g3
    · obtain ⟨e1, e2, e3⟩ := t2 h1
      rw [h2] at g2
      rw [h3] at g3
      rw [decI o a b n _ _ _ (by omega) e1 e2 e3]
      exact s24_2 o a b n g2 g3
    · obtain ⟨e1, e2, e3⟩ := t3 h1
      rw [h2] at g2
      rw [h3] at g3
      rw [decI o a b n _ _ _ (by omega) e1 e2 e3]
      exact s24_3 o a b n g2 g3
    · obtain ⟨e1, e2, e3⟩ := t4 h1
      rw [h2] at g2
      rw [h3] at g3
      rw [decI o a b n _ _ _ (by omega) e1 e2 e3]
      exact s24_4 o a b n g2 g3
  · have hn : decide (isI o a b n) = false := by rw [decide_eq_false_iff_not]; exact fun h => hc h.1
    rw [hn]
    have g2 := s28 o
    rw [regs_neg o hc] at g2
    refine a24 rfl ?_
    delta k24
    repeat (first | refine ctl ?_ | refine stp ?_ | refine stpD ?_ | refine stpK ?_ | refine cnt ?_ | refine cnf ?_ | refine ctl_ne ?_ | refine opt (clp hgl0 cprog_okC (by exact rfl) (g2)) ?_ | refine optD (clp hgl0 cprog_okC (by exact rfl) (g2)) ?_ | refine optK (clp hgl0 cprog_okC (by exact rfl) (g2)) ?_)
    exact ⟨.inr rfl, rfl⟩
theorem s25 (o a b n : Int) (hc : isI o a b n) : Ans cprog gl0 25 [.agg [.int .i64 o, .int .i64 a, .int .i64 b, .int .i64 n]] [] (.str (plainI o.toNat a.toNat b.toNat n.toNat)) [] := by
  refine a25 rfl ?_
  delta k25
  obtain ⟨h1, h2, h3, h4⟩ := hc
  obtain ⟨o, rfl⟩ := Int.eq_ofNat_of_zero_le h1.1
  obtain ⟨a, rfl⟩ := Int.eq_ofNat_of_zero_le h2.1
  obtain ⟨b, rfl⟩ := Int.eq_ofNat_of_zero_le h3.1
  obtain ⟨n, rfl⟩ := Int.eq_ofNat_of_zero_le h4.1
  obtain ⟨l1, l2, l3⟩ := lim_le (shapeN ((o : Nat) : Int).toNat)
  show Ev _ (Left2 _ _ _ (.str (plainI o a b n)) _)
  rcases ref_tab o (by omega) with ⟨e1, e2, e3⟩ | ⟨e1, e2, e3⟩ | ⟨e1, e2, e3⟩ | ⟨e1, e2, e3⟩ | ⟨e1, e2, e3⟩
  all_goals
    have g2 := s28 o
    have g3 := s30 o
    rw [e2] at g2
    rw [e3] at g3
    repeat (first | refine ctl ?_ | refine stp ?_ | refine stpD ?_ | refine stpK ?_ | refine cnt ?_ | refine cnf ?_ | refine ctl_ne ?_ | refine opt (clp hgl0 cprog_okC (by exact rfl) (g2)) ?_ | refine optD (clp hgl0 cprog_okC (by exact rfl) (g2)) ?_ | refine optK (clp hgl0 cprog_okC (by exact rfl) (g2)) ?_ | refine opt (clp hgl0 cprog_okC (by exact rfl) (g3)) ?_ | refine optD (clp hgl0 cprog_okC (by exact rfl) (g3)) ?_ | refine optK (clp hgl0 cprog_okC (by exact rfl) (g3)) ?_)
  all_goals refine left_v ⟨.inr rfl, rfl⟩ (congrArg PV.str ?_)
  all_goals simp only [plainI, e1]
  all_goals have ha : (16 * (a : Int) + b).toNat = a * 16 + b := by omega
  all_goals first | rfl | (rw [ha]; rfl)
theorem s9 (o a b n : Int) : Ans cprog gl0 9 [.agg [.int .i64 o, .int .i64 a, .int .i64 b, .int .i64 n]] [] (bytesI o a b n) [] := by
  refine a9 rfl ?_
  delta k9
  unfold bytesI
  by_cases hc : isI o a b n
  · rw [if_pos hc]
    repeat (first | refine ctl ?_ | refine stp ?_ | refine stpD ?_ | refine stpK ?_ | refine cnt ?_ | refine cnf ?_ | refine ctl_ne ?_ | refine opt (clp hgl0 cprog_okC (by exact rfl) (s24 o a b n)) ?_ | refine optD (clp hgl0 cprog_okC (by exact rfl) (s24 o a b n)) ?_ | refine optK (clp hgl0 cprog_okC (by exact rfl) (s24 o a b n)) ?_ | refine opt (clp hgl0 cprog_okC (by exact rfl) (s25 o a b n hc)) ?_ | refine optD (clp hgl0 cprog_okC (by exact rfl) (s25 o a b n hc)) ?_ | refine optK (clp hgl0 cprog_okC (by exact rfl) (s25 o a b n hc)) ?_)
    exact ⟨.inr rfl, rfl⟩
  · rw [if_neg hc]
    repeat (first | refine ctl ?_ | refine stp ?_ | refine stpD ?_ | refine stpK ?_ | refine cnt ?_ | refine cnf ?_ | refine ctl_ne ?_ | refine opt (clp hgl0 cprog_okC (by exact rfl) (s24 o a b n)) ?_ | refine optD (clp hgl0 cprog_okC (by exact rfl) (s24 o a b n)) ?_ | refine optK (clp hgl0 cprog_okC (by exact rfl) (s24 o a b n)) ?_)
    exact ⟨.inr rfl, rfl⟩
theorem s10 (o a b n : Int) : Ans cprog gl0 10 [.agg [.int .i64 o, .int .i64 a, .int .i64 b, .int .i64 n]] [] (.agg [.int .i64 o, .int .i64 a, .int .i64 b, .int .i64 n]) [] := by
  refine a10 rfl ?_
  delta k10
  repeat (first | refine ctl ?_ | refine stp ?_ | refine stpD ?_ | refine stpK ?_ | refine cnt ?_ | refine cnf ?_ | refine ctl_ne ?_)
  exact ⟨.inr rfl, rfl⟩
end Go.Proofs.YtachdfhodbdoiaaDoor
