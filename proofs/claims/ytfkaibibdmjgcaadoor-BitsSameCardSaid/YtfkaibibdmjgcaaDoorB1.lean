/-
  The functions of bits and of its reference: fields, masks, powers. Under no condition.
-/
import Derived.Test.YtfkaibibdmjgcaaDoorZk
namespace Go.Proofs.YtfkaibibdmjgcaaDoor
open Go Go.Vs
def ones : List PV := [0, 1, 1, 2, 1, 2, 2, 3, 1, 2, 2, 3, 2, 3, 3, 4].map fun n : Nat => PV.int .i64 n
def gl0 : Nat → List PV := fun g => if g = 0 then ones else []
theorem hgl0 : ∀ g, ∀ c ∈ gl0 g, Free c := by
  intro g c hc
  unfold gl0 at hc
  split at hc
  · simp only [ones, List.mem_map] at hc
    obtain ⟨n, _, rfl⟩ := hc
    exact .int _ _
  · simp at hc
theorem few : Ans cprog gl0 11 [] [] (.bool true) [] := Ans.runB (n := 60) (by kernel_rfl)
theorem s29 (f w : Int) (hf : -9223372036854775808 ≤ f) (hf' : f ≤ 9223372036854775807) (hw : -9223372036854775808 ≤ w) (hw' : w ≤ 9223372036854775807) : Ans cprog gl0 29 [.int .i64 f, .int .i64 w] [] (.bool (decide (1 ≤ w ∧ w ≤ 32 ∧ 0 ≤ f ∧ f ≤ 64 - w))) [] := by
  refine a29 rfl ?_
  delta k29
  repeat' (first | refine ctl ?_ | refine stp ?_ | refine stpD ?_ | refine stpK ?_ | refine cnt ?_ | refine cnf ?_ | refine ctl_ne ?_ | refine ev_if rfl (fun hc => ?_) (fun hc => ?_) | refine e_gifp rfl (fun hc => ?_) (fun hc => ?_) | refine d_gifp rfl (fun hc => ?_) (fun hc => ?_) | refine ev_ifn rfl (fun hc => ?_) (fun hc => ?_) | refine ev_ifb rfl (fun hc => ?_) (fun hc => ?_) | refine e_gif rfl (fun hc => ?_) (fun hc => ?_) | refine d_gif rfl (fun hc => ?_) (fun hc => ?_))
  all_goals
    refine left_v ⟨.inr rfl, rfl⟩ ?_; refine congrArg PV.bool ?_; first | rfl | (rw [decide_eq_decide]; omega) | (symm; rw [decide_eq_true_eq]; omega) | (symm; rw [decide_eq_false_iff_not]; omega) | (rw [decide_eq_true_eq]; omega) | (rw [decide_eq_false_iff_not]; omega)
theorem s31 (f w : Int) (hf : -9223372036854775808 ≤ f) (hf' : f ≤ 9223372036854775807) (hw : -9223372036854775808 ≤ w) (hw' : w ≤ 9223372036854775807) : Ans cprog gl0 31 [.int .i64 f, .int .i64 w] [] (.bool (decide (1 ≤ w ∧ w ≤ 32 ∧ 0 ≤ f ∧ f ≤ 64 - w))) [] := by
  refine a31 rfl ?_
  delta k31
  repeat' (first | refine ctl ?_ | refine stp ?_ | refine stpD ?_ | refine stpK ?_ | refine cnt ?_ | refine cnf ?_ | refine ctl_ne ?_ | refine ev_if rfl (fun hc => ?_) (fun hc => ?_) | refine e_gifp rfl (fun hc => ?_) (fun hc => ?_) | refine d_gifp rfl (fun hc => ?_) (fun hc => ?_) | refine ev_ifn rfl (fun hc => ?_) (fun hc => ?_) | refine ev_ifb rfl (fun hc => ?_) (fun hc => ?_) | refine e_gif rfl (fun hc => ?_) (fun hc => ?_) | refine d_gif rfl (fun hc => ?_) (fun hc => ?_))
  all_goals
    refine left_v ⟨.inr rfl, rfl⟩ ?_; refine congrArg PV.bool ?_; first | rfl | (rw [decide_eq_decide]; omega) | (symm; rw [decide_eq_true_eq]; omega) | (symm; rw [decide_eq_false_iff_not]; omega) | (rw [decide_eq_true_eq]; omega) | (rw [decide_eq_false_iff_not]; omega)
theorem s30 (w : Nat) (hw : w ≤ 32) : Ans cprog gl0 30 [.int .i64 w] [] (.int .u64 ((2 ^ w - 1 : Nat))) [] := by
  refine a30 rfl ?_
  delta k30
  have h1 : 2 ^ w ≤ 2 ^ 32 := Nat.pow_le_pow_right (by omega) hw
  have h2 : 0 < 2 ^ w := Nat.two_pow_pos w
  repeat (first | refine ctl ?_ | refine stp ?_ | refine stpD ?_ | refine stpK ?_ | refine cnt ?_ | refine cnf ?_ | refine ctl_ne ?_)
  (first | refine opt (by exact op_bin rfl rfl (bin_shln (a := 1) rfl)) ?_ | refine optn (by exact op_bin rfl rfl (bin_shln (a := 1) rfl)) ?_ | refine optD (by exact op_bin rfl rfl (bin_shln (a := 1) rfl)) ?_ | refine optnD (by exact op_bin rfl rfl (bin_shln (a := 1) rfl)) ?_ | refine optK (by exact op_bin rfl rfl (bin_shln (a := 1) rfl)) ?_ | refine optnK (by exact op_bin rfl rfl (bin_shln (a := 1) rfl)) ?_)
  have h3 : 1 * 2 ^ (min w IntKind.u64.bits) % 2 ^ IntKind.u64.bits = 2 ^ w := by
    simp only [IntKind.bits]
    rw [Nat.min_eq_left (by omega), Nat.one_mul, Nat.mod_eq_of_lt (by omega)]
  rw [h3]
  repeat (first | refine ctl ?_ | refine stp ?_ | refine stpD ?_ | refine stpK ?_ | refine cnt ?_ | refine cnf ?_ | refine ctl_ne ?_)
  refine left_v ⟨.inr rfl, rfl⟩ (congrArg (PV.int .u64) ?_)
  omega
theorem s32 (n : Nat) (hn : n < 64) : Ans cprog gl0 32 [.int .i64 n] [] (.int .u64 ((2 ^ n : Nat))) [] := by
  refine a32 rfl ?_
  delta k32
  repeat (first | refine ctl ?_ | refine stp ?_ | refine stpD ?_ | refine stpK ?_ | refine cnt ?_ | refine cnf ?_ | refine ctl_ne ?_)
  refine ev_while1 (L := fun i => [(0, .int .i64 n), (3, .int .u64 ((2 ^ i : Nat))), (4, .int .i64 (i : Nat))]) (S := fun _ => []) (I := fun i => i ≤ n) (μ := fun i => n - i) ?_ 0 _ (by first | omega | trivial | (repeat' constructor) <;> omega | (simp; done)) (by (repeat' (with_reducible first | exact has_nil | apply has_cons)); all_goals (first | exact rfl | (refine congrArg (PV.int _) ?_; first | omega | (simp; done))))
  intro i s hi ih
  have h1 : 2 ^ (i + 1) ≤ 2 ^ 64 := Nat.pow_le_pow_right (by omega) (by omega)
  have h0 : 2 ^ (i + 1) = 2 * 2 ^ i := by rw [Nat.pow_succ, Nat.mul_comm]
  repeat (first | refine ctl ?_ | refine stp ?_ | refine stpD ?_ | refine stpK ?_ | refine cnt ?_ | refine cnf ?_ | refine ctl_ne ?_)
  refine ev_if rfl (fun hc => ?_) (fun hc => ?_)
  · have h2 : 2 ^ (i + 1) < 2 ^ 64 := Nat.pow_lt_pow_right (by omega) (by omega)
    repeat (first | refine ctl ?_ | refine stp ?_ | refine stpD ?_ | refine stpK ?_ | refine cnt ?_ | refine cnf ?_ | refine ctl_ne ?_)
    refine again_n (ih (i + 1) _ (by omega) (by omega) ?_); (repeat' (with_reducible first | exact has_nil | apply has_cons)); all_goals (first | exact rfl | (refine congrArg (PV.int _) ?_; first | omega | skip) | skip)
  · have : i = n := by omega
    subst this
    repeat (first | refine ctl ?_ | refine stp ?_ | refine stpD ?_ | refine stpK ?_ | refine cnt ?_ | refine cnf ?_ | refine ctl_ne ?_)
    exact ⟨.inr rfl, rfl⟩
end Go.Proofs.YtfkaibibdmjgcaaDoor
