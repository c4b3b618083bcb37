/-
  The functions of bits and of its reference: putting fields in. Under no condition.
-/
import Derived.Test.YtfkaibibdmjgcaaDoorB2
namespace Go.Proofs.YtfkaibibdmjgcaaDoor
open Go Go.Vs
/-- A field, put in. -/
def putN (n f w v : Nat) : Nat := (n &&& (2 ^ 64 - 1 - (2 ^ w - 1) * 2 ^ f)) ||| (v * 2 ^ f)
theorem bit_not (x i : Nat) (hx : x < 2 ^ 64) : (2 ^ 64 - 1 - x).testBit i = (decide (i < 64) && !x.testBit i) := by
  have h3 : 2 ^ 64 - 1 - x = 2 ^ 64 - (x + 1) := by omega
  rw [h3, Nat.testBit_two_pow_sub_succ hx]
theorem mask_lt (f w : Nat) (h : f + w ≤ 64) : (2 ^ w - 1) * 2 ^ f < 2 ^ 64 := by
  have h1 : 2 ^ w * 2 ^ f ≤ 2 ^ 64 := by rw [← Nat.pow_add]; exact Nat.pow_le_pow_right (by omega) (by omega)
  have h2 : 0 < 2 ^ f := Nat.two_pow_pos f
  have h3 : 0 < 2 ^ w := Nat.two_pow_pos w
  rw [Nat.sub_mul]
  omega
theorem val_lt (f w v : Nat) (h : f + w ≤ 64) (hv : v < 2 ^ w) : v * 2 ^ f < 2 ^ 64 := by
  have h1 : 2 ^ w * 2 ^ f ≤ 2 ^ 64 := by rw [← Nat.pow_add]; exact Nat.pow_le_pow_right (by omega) (by omega)
  exact Nat.lt_of_lt_of_le (Nat.mul_lt_mul_of_pos_right hv (Nat.two_pow_pos f)) h1
theorem putN_lt (n f w v : Nat) (hn : n < 2 ^ 64) (h : f + w ≤ 64) (hv : v < 2 ^ w) : putN n f w v < 2 ^ 64 :=
  Nat.or_lt_two_pow (Nat.lt_of_le_of_lt Nat.and_le_left hn) (val_lt f w v h hv)
theorem putN_bit (n f w v i : Nat) (hn : n < 2 ^ 64) (h : f + w ≤ 64) (hv : v < 2 ^ w) : (putN n f w v).testBit i = if f ≤ i ∧ i < f + w then v.testBit (i - f) else n.testBit i := by
  unfold putN
  rw [Nat.testBit_or, Nat.testBit_and, bit_not _ _ (mask_lt f w h), ← Nat.shiftLeft_eq, ← Nat.shiftLeft_eq, Nat.testBit_shiftLeft, Nat.testBit_shiftLeft, Nat.testBit_two_pow_sub_one]
  by_cases h1 : f ≤ i
  · by_cases h2 : i < f + w
    · have h3 : i - f < w := by omega
      simp [h1, h2, h3]
    · have h3 : ¬ i - f < w := by omega
      have h4 : v.testBit (i - f) = false := Nat.testBit_lt_two_pow (Nat.lt_of_lt_of_le hv (Nat.pow_le_pow_right (by omega) (by omega)))
      by_cases h64 : i < 64
      · simp [h1, h2, h3, h4, h64]
      · have h5 : n.testBit i = false := Nat.testBit_lt_two_pow (Nat.lt_of_lt_of_le hn (Nat.pow_le_pow_right (by omega) (by omega)))
        simp [h1, h2, h3, h4, h64, h5]
  · by_cases h64 : i < 64
    · simp [h1, h64]
    · have h5 : n.testBit i = false := Nat.testBit_lt_two_pow (Nat.lt_of_lt_of_le hn (Nat.pow_le_pow_right (by omega) (by omega)))
      simp [h1, h64, h5]
def putR (n : Nat) (f w : Int) (v : Nat) : PV := if 1 ≤ w ∧ w ≤ 32 ∧ 0 ≤ f ∧ f ≤ 64 - w then (if v < 2 ^ w.toNat then .tup [.int .u64 (putN n f.toNat w.toNat v), .int .i64 0] else .tup [.int .u64 0, .int .i64 2]) else .tup [.int .u64 0, .int .i64 1]
theorem s17 (n v : Nat) (f w : Int) (hn : n < 2 ^ 64) (hv : v < 2 ^ 32) (hf : i64 f) (hw : i64 w) : Ans cprog gl0 17 [.int .u64 n, .int .i64 f, .int .i64 w, .int .u32 v] [] (putR n f w v) [] := by
  refine a17 rfl ?_
  delta k17
  obtain ⟨hf, hf'⟩ := hf
  obtain ⟨hw, hw'⟩ := hw
  repeat (first | refine ctl ?_ | refine stp ?_ | refine stpD ?_ | refine stpK ?_ | refine cnt ?_ | refine cnf ?_ | refine ctl_ne ?_ | refine opt (clp hgl0 cprog_okC (by exact rfl) (s29 _ _ hf hf' hw hw')) ?_ | refine optD (clp hgl0 cprog_okC (by exact rfl) (s29 _ _ hf hf' hw hw')) ?_ | refine optK (clp hgl0 cprog_okC (by exact rfl) (s29 _ _ hf hf' hw hw')) ?_)
  unfold putR
  by_cases hc : 1 ≤ w ∧ w ≤ 32 ∧ 0 ≤ f ∧ f ≤ 64 - w
  · rw [if_pos hc]
    repeat (first | refine ctl ?_ | refine stp ?_ | refine stpD ?_ | refine stpK ?_ | refine cnt ?_ | refine cnf ?_ | refine ctl_ne ?_)
    obtain ⟨f, rfl⟩ := Int.eq_ofNat_of_zero_le hc.2.2.1
    obtain ⟨w, rfl⟩ := Int.eq_ofNat_of_zero_le (show 0 ≤ w by omega)
    repeat (first | refine ctl ?_ | refine stp ?_ | refine stpD ?_ | refine stpK ?_ | refine cnt ?_ | refine cnf ?_ | refine ctl_ne ?_ | refine opt (clp hgl0 cprog_okC (by exact rfl) (s33 v w hv (by omega))) ?_ | refine optD (clp hgl0 cprog_okC (by exact rfl) (s33 v w hv (by omega))) ?_ | refine optK (clp hgl0 cprog_okC (by exact rfl) (s33 v w hv (by omega))) ?_)
    by_cases hl : v < 2 ^ w
    · rw [if_pos (show v < 2 ^ ((w : Nat) : Int).toNat from hl)]
      repeat (first | refine ctl ?_ | refine stp ?_ | refine stpD ?_ | refine stpK ?_ | refine cnt ?_ | refine cnf ?_ | refine ctl_ne ?_ | refine opt (clp hgl0 cprog_okC (by exact rfl) (s30 _ (by omega))) ?_ | refine optD (clp hgl0 cprog_okC (by exact rfl) (s30 _ (by omega))) ?_ | refine optK (clp hgl0 cprog_okC (by exact rfl) (s30 _ (by omega))) ?_)
      have h1 := mask_lt f w (by omega)
      have h2 := val_lt f w v (by omega) hl
      have h3 : (2 ^ w - 1) * 2 ^ (min f 64) % 2 ^ 64 = (2 ^ w - 1) * 2 ^ f := by rw [Nat.min_eq_left (by omega), Nat.mod_eq_of_lt h1]
      have h4 : v * 2 ^ (min f 64) % 2 ^ 64 = v * 2 ^ f := by rw [Nat.min_eq_left (by omega), Nat.mod_eq_of_lt h2]
      (first | refine opt (by exact op_bin rfl rfl (bin_shln (k := .u64) (a := 2 ^ w - 1) (j := f) rfl)) ?_ | refine optn (by exact op_bin rfl rfl (bin_shln (k := .u64) (a := 2 ^ w - 1) (j := f) rfl)) ?_ | refine optD (by exact op_bin rfl rfl (bin_shln (k := .u64) (a := 2 ^ w - 1) (j := f) rfl)) ?_ | refine optnD (by exact op_bin rfl rfl (bin_shln (k := .u64) (a := 2 ^ w - 1) (j := f) rfl)) ?_ | refine optK (by exact op_bin rfl rfl (bin_shln (k := .u64) (a := 2 ^ w - 1) (j := f) rfl)) ?_ | refine optnK (by exact op_bin rfl rfl (bin_shln (k := .u64) (a := 2 ^ w - 1) (j := f) rfl)) ?_)
      rw [show IntKind.u64.bits = 64 from rfl, h3]
      (first | refine opt (by exact op_bits rfl rfl (bin_andnot rfl hn h1)) ?_ | refine optn (by exact op_bits rfl rfl (bin_andnot rfl hn h1)) ?_ | refine optD (by exact op_bits rfl rfl (bin_andnot rfl hn h1)) ?_ | refine optnD (by exact op_bits rfl rfl (bin_andnot rfl hn h1)) ?_ | refine optK (by exact op_bits rfl rfl (bin_andnot rfl hn h1)) ?_ | refine optnK (by exact op_bits rfl rfl (bin_andnot rfl hn h1)) ?_)
      repeat (first | refine ctl ?_ | refine stp ?_ | refine stpD ?_ | refine stpK ?_ | refine cnt ?_ | refine cnf ?_ | refine ctl_ne ?_)
      (first | refine opt (by exact op_bin rfl rfl (bin_shln (k := .u64) (a := v) (j := f) rfl)) ?_ | refine optn (by exact op_bin rfl rfl (bin_shln (k := .u64) (a := v) (j := f) rfl)) ?_ | refine optD (by exact op_bin rfl rfl (bin_shln (k := .u64) (a := v) (j := f) rfl)) ?_ | refine optnD (by exact op_bin rfl rfl (bin_shln (k := .u64) (a := v) (j := f) rfl)) ?_ | refine optK (by exact op_bin rfl rfl (bin_shln (k := .u64) (a := v) (j := f) rfl)) ?_ | refine optnK (by exact op_bin rfl rfl (bin_shln (k := .u64) (a := v) (j := f) rfl)) ?_)
      rw [show IntKind.u64.bits = 64 from rfl, h4]
      (first | refine opt (by exact op_bits rfl rfl (bin_or rfl (show _ < 2 ^ 64 from Nat.lt_of_le_of_lt Nat.and_le_left hn) (show _ < 2 ^ 64 from h2))) ?_ | refine optn (by exact op_bits rfl rfl (bin_or rfl (show _ < 2 ^ 64 from Nat.lt_of_le_of_lt Nat.and_le_left hn) (show _ < 2 ^ 64 from h2))) ?_ | refine optD (by exact op_bits rfl rfl (bin_or rfl (show _ < 2 ^ 64 from Nat.lt_of_le_of_lt Nat.and_le_left hn) (show _ < 2 ^ 64 from h2))) ?_ | refine optnD (by exact op_bits rfl rfl (bin_or rfl (show _ < 2 ^ 64 from Nat.lt_of_le_of_lt Nat.and_le_left hn) (show _ < 2 ^ 64 from h2))) ?_ | refine optK (by exact op_bits rfl rfl (bin_or rfl (show _ < 2 ^ 64 from Nat.lt_of_le_of_lt Nat.and_le_left hn) (show _ < 2 ^ 64 from h2))) ?_ | refine optnK (by exact op_bits rfl rfl (bin_or rfl (show _ < 2 ^ 64 from Nat.lt_of_le_of_lt Nat.and_le_left hn) (show _ < 2 ^ 64 from h2))) ?_)
      repeat (first | refine ctl ?_ | refine stp ?_ | refine stpD ?_ | refine stpK ?_ | refine cnt ?_ | refine cnf ?_ | refine ctl_ne ?_)
      exact ⟨.inr rfl, rfl⟩
    · rw [if_neg (show ¬ v < 2 ^ ((w : Nat) : Int).toNat from hl)]
      repeat (first | refine ctl ?_ | refine stp ?_ | refine stpD ?_ | refine stpK ?_ | refine cnt ?_ | refine cnf ?_ | refine ctl_ne ?_)
      exact ⟨.inr rfl, rfl⟩
  · rw [if_neg hc]
    repeat (first | refine ctl ?_ | refine stp ?_ | refine stpD ?_ | refine stpK ?_ | refine cnt ?_ | refine cnf ?_ | refine ctl_ne ?_)
    exact ⟨.inr rfl, rfl⟩
theorem s18 (n v : Nat) (f w : Int) (hn : n < 2 ^ 64) (hv : v < 2 ^ 32) (hf : i64 f) (hw : i64 w) : Ans cprog gl0 18 [.int .u64 n, .agg [.int .i64 f, .int .i64 w], .int .u32 v] [] (putR n f w v) [] := by
  refine a18 rfl ?_
  delta k18
  obtain ⟨hf, hf'⟩ := hf
  obtain ⟨hw, hw'⟩ := hw
  repeat (first | refine ctl ?_ | refine stp ?_ | refine stpD ?_ | refine stpK ?_ | refine cnt ?_ | refine cnf ?_ | refine ctl_ne ?_ | refine opt (clp hgl0 cprog_okC (by exact rfl) (s31 _ _ hf hf' hw hw')) ?_ | refine optD (clp hgl0 cprog_okC (by exact rfl) (s31 _ _ hf hf' hw hw')) ?_ | refine optK (clp hgl0 cprog_okC (by exact rfl) (s31 _ _ hf hf' hw hw')) ?_)
  unfold putR
  by_cases hc : 1 ≤ w ∧ w ≤ 32 ∧ 0 ≤ f ∧ f ≤ 64 - w
  · rw [if_pos hc]
    repeat (first | refine ctl ?_ | refine stp ?_ | refine stpD ?_ | refine stpK ?_ | refine cnt ?_ | refine cnf ?_ | refine ctl_ne ?_)
    obtain ⟨f, rfl⟩ := Int.eq_ofNat_of_zero_le hc.2.2.1
    obtain ⟨w, rfl⟩ := Int.eq_ofNat_of_zero_le (show 0 ≤ w by omega)
    repeat (first | refine ctl ?_ | refine stp ?_ | refine stpD ?_ | refine stpK ?_ | refine cnt ?_ | refine cnf ?_ | refine ctl_ne ?_ | refine opt (clp hgl0 cprog_okC (by exact rfl) (s32 w (by omega))) ?_ | refine optD (clp hgl0 cprog_okC (by exact rfl) (s32 w (by omega))) ?_ | refine optK (clp hgl0 cprog_okC (by exact rfl) (s32 w (by omega))) ?_)
    by_cases hl : v < 2 ^ w
    · rw [if_pos (show v < 2 ^ ((w : Nat) : Int).toNat from hl)]
      repeat (first | refine ctl ?_ | refine stp ?_ | refine stpD ?_ | refine stpK ?_ | refine cnt ?_ | refine cnf ?_ | refine ctl_ne ?_)
      refine ev_while1 (L := fun i => [(0, .int .u64 n), (2, .int .u32 v), (8, .int .i64 f), (9, .int .i64 w), (10, .int .u64 ((putN n f w v % 2 ^ i : Nat))), (11, .int .i64 (i : Nat))]) (S := fun _ => [Box.mk [[.int .i64 f, .int .i64 w]] false 0 29 0 false]) (I := fun i => i ≤ 64) (μ := fun i => 64 - i) ?_ 0 _ (by first | omega | trivial | (repeat' constructor) <;> omega | (simp; done)) (by (repeat' (with_reducible first | exact has_nil | apply has_cons)); all_goals (first | exact rfl | (refine congrArg (PV.int _) ?_; first | omega | (simp; done))))
      intro i s hi ih
      repeat (first | refine ctl ?_ | refine stp ?_ | refine stpD ?_ | refine stpK ?_ | refine cnt ?_ | refine cnf ?_ | refine ctl_ne ?_)
      refine ev_if rfl (fun hc => ?_) (fun hc => ?_)
      · have h2 : 2 ^ (i + 1) ≤ 2 ^ 64 := Nat.pow_le_pow_right (by omega) (by omega)
        have h3 : putN n f w v % 2 ^ (i + 1) < 2 ^ (i + 1) := Nat.mod_lt _ (Nat.two_pow_pos _)
        have h4 := mod_succ (putN n f w v) i
        have h5 := putN_bit n f w v i hn (by omega) hl
        repeat (first | refine ctl ?_ | refine stp ?_ | refine stpD ?_ | refine stpK ?_ | refine cnt ?_ | refine cnf ?_ | refine ctl_ne ?_ | refine opt (clp hgl0 cprog_okC (by exact rfl) (s28 n i hn (by omega))) ?_ | refine optD (clp hgl0 cprog_okC (by exact rfl) (s28 n i hn (by omega))) ?_ | refine optK (clp hgl0 cprog_okC (by exact rfl) (s28 n i hn (by omega))) ?_)
        by_cases hin : f ≤ i ∧ i < f + w
        · obtain ⟨d, rfl⟩ := Nat.exists_eq_add_of_le hin.1
          rw [if_pos hin, Nat.add_sub_cancel_left] at h5
          have h6 : putN n f w v / 2 ^ (f + d) % 2 = v / 2 ^ d % 2 := by rw [testBit_div, testBit_div, h5]
          rw [h6] at h4
          have hd : ((f + d : Nat) : Int) - f = (d : Nat) := by omega
          repeat (first | refine ctl ?_ | refine stp ?_ | refine stpD ?_ | refine stpK ?_ | refine cnt ?_ | refine cnf ?_ | refine ctl_ne ?_)
          rw [hd]
          repeat (first | refine ctl ?_ | refine stp ?_ | refine stpD ?_ | refine stpK ?_ | refine cnt ?_ | refine cnf ?_ | refine ctl_ne ?_ | refine opt (clp hgl0 cprog_okC (by exact rfl) (s28 v d (by omega) (by omega))) ?_ | refine optD (clp hgl0 cprog_okC (by exact rfl) (s28 v d (by omega) (by omega))) ?_ | refine optK (clp hgl0 cprog_okC (by exact rfl) (s28 v d (by omega) (by omega))) ?_ | refine opt (clp hgl0 cprog_okC (by exact rfl) (s32 (f + d) (by omega))) ?_ | refine optD (clp hgl0 cprog_okC (by exact rfl) (s32 (f + d) (by omega))) ?_ | refine optK (clp hgl0 cprog_okC (by exact rfl) (s32 (f + d) (by omega))) ?_)
          refine again_n (ih (f + d + 1) _ (by omega) (by omega) ?_); (repeat' (with_reducible first | exact has_nil | apply has_cons)); all_goals (first | exact rfl | (refine congrArg (PV.int _) ?_; first | omega | skip) | skip)
        · have h6 : putN n f w v / 2 ^ i % 2 = n / 2 ^ i % 2 := by rw [if_neg hin] at h5; rw [testBit_div, testBit_div, h5]
          rw [h6] at h4
          repeat' (first | refine ctl ?_ | refine stp ?_ | refine stpD ?_ | refine stpK ?_ | refine cnt ?_ | refine cnf ?_ | refine ctl_ne ?_ | refine opt (clp hgl0 cprog_okC (by exact rfl) (s32 i (by omega))) ?_ | refine optD (clp hgl0 cprog_okC (by exact rfl) (s32 i (by omega))) ?_ | refine optK (clp hgl0 cprog_okC (by exact rfl) (s32 i (by omega))) ?_ | refine ev_if rfl (fun hc => ?_) (fun hc => ?_) | refine e_gifp rfl (fun hc => ?_) (fun hc => ?_) | refine d_gifp rfl (fun hc => ?_) (fun hc => ?_) | refine ev_ifn rfl (fun hc => ?_) (fun hc => ?_) | refine ev_ifb rfl (fun hc => ?_) (fun hc => ?_) | refine e_gif rfl (fun hc => ?_) (fun hc => ?_) | refine d_gif rfl (fun hc => ?_) (fun hc => ?_))
          all_goals
            refine again_n (ih (i + 1) _ (by omega) (by omega) ?_); (repeat' (with_reducible first | exact has_nil | apply has_cons)); all_goals (first | exact rfl | (refine congrArg (PV.int _) ?_; first | omega | skip) | skip)
      · have : i = 64 := by omega
        subst this
        have h5 := putN_lt n f w v hn (by omega) hl
        have h6 := Nat.mod_eq_of_lt h5
        repeat (first | refine ctl ?_ | refine stp ?_ | refine stpD ?_ | refine stpK ?_ | refine cnt ?_ | refine cnf ?_ | refine ctl_ne ?_)
        refine left_v ⟨.inr rfl, rfl⟩ ?_
        rw [h6]; rfl
    · rw [if_neg (show ¬ v < 2 ^ ((w : Nat) : Int).toNat from hl)]
      repeat (first | refine ctl ?_ | refine stp ?_ | refine stpD ?_ | refine stpK ?_ | refine cnt ?_ | refine cnf ?_ | refine ctl_ne ?_)
      exact ⟨.inr rfl, rfl⟩
  · rw [if_neg hc]
    repeat (first | refine ctl ?_ | refine stp ?_ | refine stpD ?_ | refine stpK ?_ | refine cnt ?_ | refine cnf ?_ | refine ctl_ne ?_)
    exact ⟨.inr rfl, rfl⟩
end Go.Proofs.YtfkaibibdmjgcaaDoor
