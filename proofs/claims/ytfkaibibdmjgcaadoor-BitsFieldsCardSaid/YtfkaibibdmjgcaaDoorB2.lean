/-
  The functions of bits and of its reference: cutting and putting fields. Under no condition.
-/
import Derived.Test.YtfkaibibdmjgcaaDoorB1
namespace Go.Proofs.YtfkaibibdmjgcaaDoor
open Go Go.Vs
theorem s28 (n a : Nat) (hn : n < 2 ^ 64) (ha : a < 64) : Ans cprog gl0 28 [.int .u64 n, .int .i64 a] [] (.int .u64 ((n / 2 ^ a % 2 : Nat))) [] := by
  refine a28 rfl ?_
  delta k28
  repeat (first | refine ctl ?_ | refine stp ?_ | refine stpD ?_ | refine stpK ?_ | refine cnt ?_ | refine cnf ?_ | refine ctl_ne ?_ | refine opt (clp hgl0 cprog_okC (by exact rfl) (s32 _ (by omega))) ?_ | refine optD (clp hgl0 cprog_okC (by exact rfl) (s32 _ (by omega))) ?_ | refine optK (clp hgl0 cprog_okC (by exact rfl) (s32 _ (by omega))) ?_)
  (first | refine opt (by exact op_quon rfl rfl rfl hn (Nat.two_pow_pos a)) ?_ | refine optn (by exact op_quon rfl rfl rfl hn (Nat.two_pow_pos a)) ?_ | refine optD (by exact op_quon rfl rfl rfl hn (Nat.two_pow_pos a)) ?_ | refine optnD (by exact op_quon rfl rfl rfl hn (Nat.two_pow_pos a)) ?_ | refine optK (by exact op_quon rfl rfl rfl hn (Nat.two_pow_pos a)) ?_ | refine optnK (by exact op_quon rfl rfl rfl hn (Nat.two_pow_pos a)) ?_)
  repeat (first | refine ctl ?_ | refine stp ?_ | refine stpD ?_ | refine stpK ?_ | refine cnt ?_ | refine cnf ?_ | refine ctl_ne ?_)
  exact ⟨.inr rfl, rfl⟩
theorem and_fit (v w : Nat) (hw : w ≤ 64) (hv : v < 2 ^ 64) : v &&& (2 ^ 64 - 1 - (2 ^ w - 1)) = 0 ↔ v < 2 ^ w := by
  have hb : ∀ i, (2 ^ 64 - 1 - (2 ^ w - 1)).testBit i = (decide (i < 64) && !decide (i < w)) := by
    intro i
    have h1 : 2 ^ w ≤ 2 ^ 64 := Nat.pow_le_pow_right (by omega) hw
    have h2 : 0 < 2 ^ w := Nat.two_pow_pos w
    have h3 : 2 ^ 64 - 1 - (2 ^ w - 1) = 2 ^ 64 - ((2 ^ w - 1) + 1) := by omega
    rw [h3, Nat.testBit_two_pow_sub_succ (by omega), Nat.testBit_two_pow_sub_one]
  constructor
  · intro h
    apply Nat.lt_pow_two_of_testBit
    intro i hi
    have h1 : (v &&& (2 ^ 64 - 1 - (2 ^ w - 1))).testBit i = false := by rw [h]; exact Nat.zero_testBit i
    rw [Nat.testBit_and, hb] at h1
    by_cases h64 : i < 64
    · have : ¬ i < w := by omega
      simpa [h64, this] using h1
    · exact Nat.testBit_lt_two_pow (Nat.lt_of_lt_of_le hv (Nat.pow_le_pow_right (by omega) (by omega)))
  · intro h
    apply Nat.eq_of_testBit_eq
    intro i
    rw [Nat.testBit_and, hb, Nat.zero_testBit]
    by_cases hi : i < w
    · simp [hi]
    · rw [Nat.testBit_lt_two_pow (Nat.lt_of_lt_of_le h (Nat.pow_le_pow_right (by omega) (by omega)))]; rfl
theorem s33 (v w : Nat) (hv : v < 2 ^ 32) (hw : w ≤ 32) : Ans cprog gl0 33 [.int .u32 v, .int .i64 w] [] (.bool (decide (v < 2 ^ w))) [] := by
  refine a33 rfl ?_
  delta k33
  have h2 : 2 ^ w ≤ 2 ^ 32 := Nat.pow_le_pow_right (by omega) hw
  repeat (first | refine ctl ?_ | refine stp ?_ | refine stpD ?_ | refine stpK ?_ | refine cnt ?_ | refine cnf ?_ | refine ctl_ne ?_ | refine opt (clp hgl0 cprog_okC (by exact rfl) (s30 _ hw)) ?_ | refine optD (clp hgl0 cprog_okC (by exact rfl) (s30 _ hw)) ?_ | refine optK (clp hgl0 cprog_okC (by exact rfl) (s30 _ hw)) ?_)
  (first | refine opt (by exact op_bits rfl rfl (bin_andnot (b := 2 ^ w - 1) rfl (show v < 2 ^ 64 by omega) (show 2 ^ w - 1 < 2 ^ 64 by omega))) ?_ | refine optn (by exact op_bits rfl rfl (bin_andnot (b := 2 ^ w - 1) rfl (show v < 2 ^ 64 by omega) (show 2 ^ w - 1 < 2 ^ 64 by omega))) ?_ | refine optD (by exact op_bits rfl rfl (bin_andnot (b := 2 ^ w - 1) rfl (show v < 2 ^ 64 by omega) (show 2 ^ w - 1 < 2 ^ 64 by omega))) ?_ | refine optnD (by exact op_bits rfl rfl (bin_andnot (b := 2 ^ w - 1) rfl (show v < 2 ^ 64 by omega) (show 2 ^ w - 1 < 2 ^ 64 by omega))) ?_ | refine optK (by exact op_bits rfl rfl (bin_andnot (b := 2 ^ w - 1) rfl (show v < 2 ^ 64 by omega) (show 2 ^ w - 1 < 2 ^ 64 by omega))) ?_ | refine optnK (by exact op_bits rfl rfl (bin_andnot (b := 2 ^ w - 1) rfl (show v < 2 ^ 64 by omega) (show 2 ^ w - 1 < 2 ^ 64 by omega))) ?_)
  repeat (first | refine ctl ?_ | refine stp ?_ | refine stpD ?_ | refine stpK ?_ | refine cnt ?_ | refine cnf ?_ | refine ctl_ne ?_)
  refine left_v ⟨.inr rfl, rfl⟩ (congrArg PV.bool ?_)
  rw [decide_eq_decide, ← and_fit v w (by omega) (by omega)]
  show ((v &&& (2 ^ 64 - 1 - (2 ^ w - 1)) : Nat) : Int) = 0 ↔ _
  omega
/-- A field, cut out. -/
def cutN (n f w : Nat) : Nat := n / 2 ^ f % 2 ^ w
theorem cutN_lt (n f w : Nat) (hw : w ≤ 32) : cutN n f w < 2 ^ 32 := Nat.lt_of_lt_of_le (Nat.mod_lt _ (Nat.two_pow_pos w)) (Nat.pow_le_pow_right (by omega) hw)
def cutR (n : Nat) (f w : Int) : PV := if 1 ≤ w ∧ w ≤ 32 ∧ 0 ≤ f ∧ f ≤ 64 - w then .tup [.int .u32 (cutN n f.toNat w.toNat), .int .i64 0] else .tup [.int .u32 0, .int .i64 1]
def i64 (n : Int) : Prop := -9223372036854775808 ≤ n ∧ n ≤ 9223372036854775807
theorem s15 (n : Nat) (f w : Int) (hn : n < 2 ^ 64) (hf : i64 f) (hw : i64 w) : Ans cprog gl0 15 [.int .u64 n, .int .i64 f, .int .i64 w] [] (cutR n f w) [] := by
  refine a15 rfl ?_
  delta k15
  obtain ⟨hf, hf'⟩ := hf
  obtain ⟨hw, hw'⟩ := hw
  repeat (first | refine ctl ?_ | refine stp ?_ | refine stpD ?_ | refine stpK ?_ | refine cnt ?_ | refine cnf ?_ | refine ctl_ne ?_ | refine opt (clp hgl0 cprog_okC (by exact rfl) (s29 _ _ hf hf' hw hw')) ?_ | refine optD (clp hgl0 cprog_okC (by exact rfl) (s29 _ _ hf hf' hw hw')) ?_ | refine optK (clp hgl0 cprog_okC (by exact rfl) (s29 _ _ hf hf' hw hw')) ?_)
  unfold cutR
  by_cases hc : 1 ≤ w ∧ w ≤ 32 ∧ 0 ≤ f ∧ f ≤ 64 - w
  · rw [if_pos hc]
    repeat (first | refine ctl ?_ | refine stp ?_ | refine stpD ?_ | refine stpK ?_ | refine cnt ?_ | refine cnf ?_ | refine ctl_ne ?_)
    obtain ⟨f, rfl⟩ := Int.eq_ofNat_of_zero_le hc.2.2.1
    obtain ⟨w, rfl⟩ := Int.eq_ofNat_of_zero_le (show 0 ≤ w by omega)
    repeat (first | refine ctl ?_ | refine stp ?_ | refine stpD ?_ | refine stpK ?_ | refine cnt ?_ | refine cnf ?_ | refine ctl_ne ?_)
    (first | refine opt (by exact op_bin rfl rfl bin_shrn) ?_ | refine optn (by exact op_bin rfl rfl bin_shrn) ?_ | refine optD (by exact op_bin rfl rfl bin_shrn) ?_ | refine optnD (by exact op_bin rfl rfl bin_shrn) ?_ | refine optK (by exact op_bin rfl rfl bin_shrn) ?_ | refine optnK (by exact op_bin rfl rfl bin_shrn) ?_)
    repeat (first | refine ctl ?_ | refine stp ?_ | refine stpD ?_ | refine stpK ?_ | refine cnt ?_ | refine cnf ?_ | refine ctl_ne ?_ | refine opt (clp hgl0 cprog_okC (by exact rfl) (s30 _ (by omega))) ?_ | refine optD (clp hgl0 cprog_okC (by exact rfl) (s30 _ (by omega))) ?_ | refine optK (clp hgl0 cprog_okC (by exact rfl) (s30 _ (by omega))) ?_)
    have h2 : 2 ^ w ≤ 2 ^ 32 := Nat.pow_le_pow_right (by omega) (by omega)
    have h3 : n / 2 ^ min f 64 = n / 2 ^ f := by rw [Nat.min_eq_left (by omega)]
    have h4 : n / 2 ^ f < 2 ^ 64 := Nat.lt_of_le_of_lt (Nat.div_le_self _ _) hn
    (first | refine opt (by exact op_bits rfl rfl (bin_and (a := n / 2 ^ min f 64) (b := 2 ^ w - 1) (k := .u64) rfl (show n / 2 ^ min f 64 < 2 ^ 64 by rw [h3]; exact h4) (show 2 ^ w - 1 < 2 ^ 64 by omega))) ?_ | refine optn (by exact op_bits rfl rfl (bin_and (a := n / 2 ^ min f 64) (b := 2 ^ w - 1) (k := .u64) rfl (show n / 2 ^ min f 64 < 2 ^ 64 by rw [h3]; exact h4) (show 2 ^ w - 1 < 2 ^ 64 by omega))) ?_ | refine optD (by exact op_bits rfl rfl (bin_and (a := n / 2 ^ min f 64) (b := 2 ^ w - 1) (k := .u64) rfl (show n / 2 ^ min f 64 < 2 ^ 64 by rw [h3]; exact h4) (show 2 ^ w - 1 < 2 ^ 64 by omega))) ?_ | refine optnD (by exact op_bits rfl rfl (bin_and (a := n / 2 ^ min f 64) (b := 2 ^ w - 1) (k := .u64) rfl (show n / 2 ^ min f 64 < 2 ^ 64 by rw [h3]; exact h4) (show 2 ^ w - 1 < 2 ^ 64 by omega))) ?_ | refine optK (by exact op_bits rfl rfl (bin_and (a := n / 2 ^ min f 64) (b := 2 ^ w - 1) (k := .u64) rfl (show n / 2 ^ min f 64 < 2 ^ 64 by rw [h3]; exact h4) (show 2 ^ w - 1 < 2 ^ 64 by omega))) ?_ | refine optnK (by exact op_bits rfl rfl (bin_and (a := n / 2 ^ min f 64) (b := 2 ^ w - 1) (k := .u64) rfl (show n / 2 ^ min f 64 < 2 ^ 64 by rw [h3]; exact h4) (show 2 ^ w - 1 < 2 ^ 64 by omega))) ?_)
    rw [show IntKind.u64.bits = 64 from rfl, h3, Nat.and_two_pow_sub_one_eq_mod]
    have h5 := cutN_lt n f w (by omega)
    unfold cutN at h5
    repeat (first | refine ctl ?_ | refine stp ?_ | refine stpD ?_ | refine stpK ?_ | refine cnt ?_ | refine cnf ?_ | refine ctl_ne ?_)
    exact ⟨.inr rfl, rfl⟩
  · rw [if_neg hc]
    repeat (first | refine ctl ?_ | refine stp ?_ | refine stpD ?_ | refine stpK ?_ | refine cnt ?_ | refine cnf ?_ | refine ctl_ne ?_)
    exact ⟨.inr rfl, rfl⟩
theorem mod_succ (m i : Nat) : m % 2 ^ (i + 1) = m % 2 ^ i + m / 2 ^ i % 2 * 2 ^ i := by
  rw [Nat.mod_pow_succ, Nat.mul_comm]
theorem s16 (n : Nat) (f w : Int) (hn : n < 2 ^ 64) (hf : i64 f) (hw : i64 w) : Ans cprog gl0 16 [.int .u64 n, .int .i64 f, .int .i64 w] [] (cutR n f w) [] := by
  refine a16 rfl ?_
  delta k16
  obtain ⟨hf, hf'⟩ := hf
  obtain ⟨hw, hw'⟩ := hw
  repeat (first | refine ctl ?_ | refine stp ?_ | refine stpD ?_ | refine stpK ?_ | refine cnt ?_ | refine cnf ?_ | refine ctl_ne ?_ | refine opt (clp hgl0 cprog_okC (by exact rfl) (s31 _ _ hf hf' hw hw')) ?_ | refine optD (clp hgl0 cprog_okC (by exact rfl) (s31 _ _ hf hf' hw hw')) ?_ | refine optK (clp hgl0 cprog_okC (by exact rfl) (s31 _ _ hf hf' hw hw')) ?_)
  unfold cutR
  by_cases hc : 1 ≤ w ∧ w ≤ 32 ∧ 0 ≤ f ∧ f ≤ 64 - w
  · rw [if_pos hc]
    repeat (first | refine ctl ?_ | refine stp ?_ | refine stpD ?_ | refine stpK ?_ | refine cnt ?_ | refine cnf ?_ | refine ctl_ne ?_)
    obtain ⟨f, rfl⟩ := Int.eq_ofNat_of_zero_le hc.2.2.1
    obtain ⟨w, rfl⟩ := Int.eq_ofNat_of_zero_le (show 0 ≤ w by omega)
    repeat (first | refine ctl ?_ | refine stp ?_ | refine stpD ?_ | refine stpK ?_ | refine cnt ?_ | refine cnf ?_ | refine ctl_ne ?_)
    refine ev_while1 (L := fun i => [(0, .int .u64 n), (1, .int .i64 f), (2, .int .i64 w), (8, .int .u64 ((n / 2 ^ f % 2 ^ i : Nat))), (9, .int .i64 (i : Nat))]) (S := fun _ => []) (I := fun i => i ≤ w) (μ := fun i => w - i) ?_ 0 _ (by first | omega | trivial | (repeat' constructor) <;> omega | (simp; done)) (by (repeat' (with_reducible first | exact has_nil | apply has_cons)); all_goals (first | exact rfl | (refine congrArg (PV.int _) ?_; first | omega | (simp; done))))
    intro i s hi ih
    have h1 : 2 ^ i < 2 ^ 64 := Nat.pow_lt_pow_right (by omega) (by omega)
    have h2 : n / 2 ^ f % 2 ^ i < 2 ^ i := Nat.mod_lt _ (Nat.two_pow_pos i)
    repeat (first | refine ctl ?_ | refine stp ?_ | refine stpD ?_ | refine stpK ?_ | refine cnt ?_ | refine cnf ?_ | refine ctl_ne ?_)
    refine ev_if rfl (fun hc => ?_) (fun hc => ?_)
    · have h3 : 2 ^ (i + 1) < 2 ^ 64 := Nat.pow_lt_pow_right (by omega) (by omega)
      have h4 : n / 2 ^ f % 2 ^ (i + 1) < 2 ^ (i + 1) := Nat.mod_lt _ (Nat.two_pow_pos _)
      have h5 := mod_succ (n / 2 ^ f) i
      rw [Nat.div_div_eq_div_mul, ← Nat.pow_add] at h5
      repeat (first | refine ctl ?_ | refine stp ?_ | refine stpD ?_ | refine stpK ?_ | refine cnt ?_ | refine cnf ?_ | refine ctl_ne ?_ | refine opt (clp hgl0 cprog_okC (by exact rfl) (s28 n (f + i) hn (by omega))) ?_ | refine optD (clp hgl0 cprog_okC (by exact rfl) (s28 n (f + i) hn (by omega))) ?_ | refine optK (clp hgl0 cprog_okC (by exact rfl) (s28 n (f + i) hn (by omega))) ?_ | refine opt (clp hgl0 cprog_okC (by exact rfl) (s32 i (by omega))) ?_ | refine optD (clp hgl0 cprog_okC (by exact rfl) (s32 i (by omega))) ?_ | refine optK (clp hgl0 cprog_okC (by exact rfl) (s32 i (by omega))) ?_)
      refine again_n (ih (i + 1) _ (by omega) (by omega) ?_); (repeat' (with_reducible first | exact has_nil | apply has_cons)); all_goals (first | exact rfl | (refine congrArg (PV.int _) ?_; first | omega | skip) | skip)
    · have : i = w := by omega
      subst this
      have h5 := cutN_lt n f i (by omega)
      unfold cutN at h5
      repeat (first | refine ctl ?_ | refine stp ?_ | refine stpD ?_ | refine stpK ?_ | refine cnt ?_ | refine cnf ?_ | refine ctl_ne ?_)
      exact ⟨.inr rfl, rfl⟩
  · rw [if_neg hc]
    repeat (first | refine ctl ?_ | refine stp ?_ | refine stpD ?_ | refine stpK ?_ | refine cnt ?_ | refine cnf ?_ | refine ctl_ne ?_)
    exact ⟨.inr rfl, rfl⟩
end Go.Proofs.YtfkaibibdmjgcaaDoor
