/-
  The functions of code and of its reference: an instruction's bytes. Under no condition.
-/
import Derived.Test.YtachdfhodbdoiaaDoorC1
namespace Go.Proofs.YtachdfhodbdoiaaDoor
open Go Go.Vs
set_option linter.unusedSimpArgs false
set_option linter.unusedVariables false
theorem s36 (w : Nat) (hw : w ≤ 32) : Ans cprog gl0 36 [.int .i64 w] [] (.int .u64 ((2 ^ w - 1 : Nat))) [] := by
  refine a36 rfl ?_
  delta k36
  have h1 : 2 ^ w ≤ 2 ^ 32 := Nat.pow_le_pow_right (by omega) hw
  have h2 : 0 < 2 ^ w := Nat.two_pow_pos w
  repeat (first | refine ctl ?_ | refine stp ?_ | refine stpD ?_ | refine stpK ?_ | refine cnt ?_ | refine cnf ?_ | refine ctl_ne ?_)
  (first | refine opt (by exact op_bin rfl rfl (bin_shln (a := 1) rfl)) ?_ | refine optn (by exact op_bin rfl rfl (bin_shln (a := 1) rfl)) ?_ | refine optD (by exact op_bin rfl rfl (bin_shln (a := 1) rfl)) ?_ | refine optnD (by exact op_bin rfl rfl (bin_shln (a := 1) rfl)) ?_ | refine optK (by exact op_bin rfl rfl (bin_shln (a := 1) rfl)) ?_ | refine optnK (by exact op_bin rfl rfl (bin_shln (a := 1) rfl)) ?_)
  have h3 : 1 * 2 ^ (min w IntKind.u64.bits) % 2 ^ IntKind.u64.bits = 2 ^ w := by
    simp only [IntKind.bits]
    rw [Nat.min_eq_left (by omega), Nat.one_mul, Nat.mod_eq_of_lt (by omega)]
  rw [h3]
  repeat (first | refine ctl ?_ | refine stp ?_ | refine stpD ?_ | refine stpK ?_ | refine cnt ?_ | refine cnf ?_ | refine ctl_ne ?_)
  refine left_v ⟨.inr rfl, rfl⟩ (congrArg (PV.int .u64) ?_)
  omega
theorem and_fit (v w : Nat) (hw : w ≤ 64) (hv : v < 2 ^ w) : v &&& (2 ^ 64 - 1 - (2 ^ w - 1)) = 0 := by
  have hb : ∀ i, (2 ^ 64 - 1 - (2 ^ w - 1)).testBit i = (decide (i < 64) && !decide (i < w)) := by
    intro i
    have h1 : 2 ^ w ≤ 2 ^ 64 := Nat.pow_le_pow_right (by omega) hw
    have h2 : 0 < 2 ^ w := Nat.two_pow_pos w
    have h3 : 2 ^ 64 - 1 - (2 ^ w - 1) = 2 ^ 64 - ((2 ^ w - 1) + 1) := by omega
    rw [h3, Nat.testBit_two_pow_sub_succ (by omega), Nat.testBit_two_pow_sub_one]
  apply Nat.eq_of_testBit_eq
  intro i
  rw [Nat.testBit_and, hb, Nat.zero_testBit]
  by_cases hi : i < w
  · simp [hi]
  · rw [Nat.testBit_lt_two_pow (Nat.lt_of_lt_of_le hv (Nat.pow_le_pow_right (by omega) (by omega)))]; rfl
theorem s34 (v w : Nat) (hw : w ≤ 32) (hv : v < 2 ^ w) : Ans cprog gl0 34 [.int .u32 v, .int .i64 w] [] (.bool true) [] := by
  refine a34 rfl ?_
  delta k34
  have h2 : 2 ^ w ≤ 2 ^ 32 := Nat.pow_le_pow_right (by omega) hw
  repeat (first | refine ctl ?_ | refine stp ?_ | refine stpD ?_ | refine stpK ?_ | refine cnt ?_ | refine cnf ?_ | refine ctl_ne ?_ | refine opt (clp hgl0 cprog_okC (by exact rfl) (s36 _ hw)) ?_ | refine optD (clp hgl0 cprog_okC (by exact rfl) (s36 _ hw)) ?_ | refine optK (clp hgl0 cprog_okC (by exact rfl) (s36 _ hw)) ?_)
  (first | refine opt (by exact op_bits rfl rfl (bin_andnot (a := v) (b := 2 ^ w - 1) rfl (show v < 2 ^ 64 by omega) (show 2 ^ w - 1 < 2 ^ 64 by omega))) ?_ | refine optn (by exact op_bits rfl rfl (bin_andnot (a := v) (b := 2 ^ w - 1) rfl (show v < 2 ^ 64 by omega) (show 2 ^ w - 1 < 2 ^ 64 by omega))) ?_ | refine optD (by exact op_bits rfl rfl (bin_andnot (a := v) (b := 2 ^ w - 1) rfl (show v < 2 ^ 64 by omega) (show 2 ^ w - 1 < 2 ^ 64 by omega))) ?_ | refine optnD (by exact op_bits rfl rfl (bin_andnot (a := v) (b := 2 ^ w - 1) rfl (show v < 2 ^ 64 by omega) (show 2 ^ w - 1 < 2 ^ 64 by omega))) ?_ | refine optK (by exact op_bits rfl rfl (bin_andnot (a := v) (b := 2 ^ w - 1) rfl (show v < 2 ^ 64 by omega) (show 2 ^ w - 1 < 2 ^ 64 by omega))) ?_ | refine optnK (by exact op_bits rfl rfl (bin_andnot (a := v) (b := 2 ^ w - 1) rfl (show v < 2 ^ 64 by omega) (show 2 ^ w - 1 < 2 ^ 64 by omega))) ?_)
  have h3 : v &&& (2 ^ IntKind.u64.bits - 1 - (2 ^ w - 1)) = 0 := and_fit v w (by omega) hv
  rw [h3]
  repeat (first | refine ctl ?_ | refine stp ?_ | refine stpD ?_ | refine stpK ?_ | refine cnt ?_ | refine cnf ?_ | refine ctl_ne ?_)
  exact ⟨.inr rfl, rfl⟩
theorem s23 (n : Nat) (hn : n < 65536) : Ans cprog gl0 23 [.int .u32 n, .int .i64 2] [] (.tup [.str [UInt8.ofNat (n / 256), UInt8.ofNat (n % 256)], .int .i64 0]) [] := by
  refine a23 rfl ?_
  delta k23
  repeat (first | refine ctl ?_ | refine stpS ?_ | refine stpD ?_ | refine stpK ?_ | refine cnt ?_ | refine cnf ?_ | refine ctl_ne ?_ | (with_reducible first | refine again_n ?_ | refine ev_round ?_) | refine opt (clp hgl0 cprog_okC (by exact rfl) (s34 n 16 (by omega) hn)) ?_ | refine optD (clp hgl0 cprog_okC (by exact rfl) (s34 n 16 (by omega) hn)) ?_ | refine optK (clp hgl0 cprog_okC (by exact rfl) (s34 n 16 (by omega) hn)) ?_)
  repeat (first | refine ctl ?_ | refine stp ?_ | refine stpD ?_ | refine stpK ?_ | refine cnt ?_ | refine cnf ?_ | refine ctl_ne ?_)
  refine left_v ⟨.inr rfl, rfl⟩ ?_
  show PV.tup [PV.str [UInt8.ofNat (n / 2 ^ 8 % 256), UInt8.ofNat (n / 2 ^ 0 % 256)], .int .i64 0] = _
  have h1 : n / 2 ^ 8 % 256 = n / 256 := by omega
  rw [h1, Nat.pow_zero, Nat.div_one]
/-- An instruction's bytes. -/
def plainI (o a b n : Nat) : List UInt8 :=
  UInt8.ofNat o :: ((if shapeN o = 1 ∨ shapeN o = 2 then [UInt8.ofNat (a * 16 + b)] else []) ++ (if shapeN o = 1 ∨ shapeN o = 3 then [UInt8.ofNat (n / 256), UInt8.ofNat (n % 256)] else if shapeN o = 4 then [UInt8.ofNat (n % 256)] else []))
def bytesI (o a b n : Int) : PV := if isI o a b n then .tup [.str (plainI o.toNat a.toNat b.toNat n.toNat), .int .i64 0] else .tup [.str [], .int .i64 4]
theorem lim_le (s : Nat) : limA s ≤ 8 ∧ limB s ≤ 8 ∧ limN s ≤ 65536 := by
  unfold limA limB limN
  refine ⟨?_, ?_, ?_⟩
  · split <;> omega
  · split <;> omega
  · split
    · omega
    · split <;> omega
theorem or16 (a b : Nat) (hb : b < 16) : (a * 16) ||| b = a * 16 + b := by
  have h1 : a * 16 = a <<< 4 := by rw [Nat.shiftLeft_eq]
  rw [h1, ← Nat.shiftLeft_add_eq_or_of_lt hb]
theorem s8 (o a b n : Int) : Ans cprog gl0 8 [.agg [.int .i64 o, .int .i64 a, .int .i64 b, .int .i64 n]] [] (bytesI o a b n) [] := by
  refine a8 rfl ?_
  delta k8
  unfold bytesI
  by_cases hc : isI o a b n
  · rw [if_pos hc]
    have hc' := hc
    obtain ⟨h1, h2, h3, h4⟩ := hc'
    obtain ⟨o, rfl⟩ := Int.eq_ofNat_of_zero_le h1.1
    obtain ⟨a, rfl⟩ := Int.eq_ofNat_of_zero_le h2.1
    obtain ⟨b, rfl⟩ := Int.eq_ofNat_of_zero_le h3.1
    obtain ⟨n, rfl⟩ := Int.eq_ofNat_of_zero_le h4.1
    obtain ⟨l1, l2, l3⟩ := lim_le (shapeN ((o : Nat) : Int).toNat)
    repeat (first | refine ctl ?_ | refine stp ?_ | refine stpD ?_ | refine stpK ?_ | refine cnt ?_ | refine cnf ?_ | refine ctl_ne ?_ | refine opt (clp hgl0 cprog_okC (by exact rfl) (s22 _ _ _ _)) ?_ | refine optD (clp hgl0 cprog_okC (by exact rfl) (s22 _ _ _ _)) ?_ | refine optK (clp hgl0 cprog_okC (by exact rfl) (s22 _ _ _ _)) ?_)
    (first | refine opt (by exact op_shl_w rfl rfl (by omega)) ?_ | refine optn (by exact op_shl_w rfl rfl (by omega)) ?_ | refine optD (by exact op_shl_w rfl rfl (by omega)) ?_ | refine optnD (by exact op_shl_w rfl rfl (by omega)) ?_ | refine optK (by exact op_shl_w rfl rfl (by omega)) ?_ | refine optnK (by exact op_shl_w rfl rfl (by omega)) ?_)
    have e1 : IntKind.i64.wrap ((a : Int) * 2 ^ (min (4 : Int).toNat IntKind.i64.bits)) = ((a * 16 : Nat) : Int) := by
      have : ((2 : Int) ^ (min (4 : Int).toNat IntKind.i64.bits)) = 16 := by decide
      rw [this, wrap_i64 (by omega) (by omega)]; omega
    rw [e1]
    repeat (first | refine ctl ?_ | refine stp ?_ | refine stpD ?_ | refine stpK ?_ | refine cnt ?_ | refine cnf ?_ | refine ctl_ne ?_)
    (first | refine opt (by exact op_bin rfl rfl (bin_ori (a := a * 16) (b := b) (by omega) (by omega))) ?_ | refine optn (by exact op_bin rfl rfl (bin_ori (a := a * 16) (b := b) (by omega) (by omega))) ?_ | refine optD (by exact op_bin rfl rfl (bin_ori (a := a * 16) (b := b) (by omega) (by omega))) ?_ | refine optnD (by exact op_bin rfl rfl (bin_ori (a := a * 16) (b := b) (by omega) (by omega))) ?_ | refine optK (by exact op_bin rfl rfl (bin_ori (a := a * 16) (b := b) (by omega) (by omega))) ?_ | refine optnK (by exact op_bin rfl rfl (bin_ori (a := a * 16) (b := b) (by omega) (by omega))) ?_)
    rw [or16 a b (by omega)]
    repeat (first | refine ctl ?_ | refine stp ?_ | refine stpD ?_ | refine stpK ?_ | refine cnt ?_ | refine cnf ?_ | refine ctl_ne ?_ | refine opt (clp hgl0 cprog_okC (by exact rfl) (s23 n (by omega))) ?_ | refine optD (clp hgl0 cprog_okC (by exact rfl) (s23 n (by omega))) ?_ | refine optK (clp hgl0 cprog_okC (by exact rfl) (s23 n (by omega))) ?_)
    (first | refine opt (by exact op_ixaa rfl rfl (by omega)) ?_ | refine optn (by exact op_ixaa rfl rfl (by omega)) ?_ | refine optD (by exact op_ixaa rfl rfl (by omega)) ?_ | refine optnD (by exact op_ixaa rfl rfl (by omega)) ?_ | refine optK (by exact op_ixaa rfl rfl (by omega)) ?_ | refine optnK (by exact op_ixaa rfl rfl (by omega)) ?_)
    (first | refine opt (by exact op_ldc (tab0 _ _ (by omega)) Nf.int) ?_ | refine optn (by exact op_ldc (tab0 _ _ (by omega)) Nf.int) ?_ | refine optD (by exact op_ldc (tab0 _ _ (by omega)) Nf.int) ?_ | refine optnD (by exact op_ldc (tab0 _ _ (by omega)) Nf.int) ?_ | refine optK (by exact op_ldc (tab0 _ _ (by omega)) Nf.int) ?_ | refine optnK (by exact op_ldc (tab0 _ _ (by omega)) Nf.int) ?_)
    have h5 := shape_le o
    have hs : shapeN o = 0 ∨ shapeN o = 1 ∨ shapeN o = 2 ∨ shapeN o = 3 ∨ shapeN o = 4 := by omega
    rcases hs with hs | hs | hs | hs | hs <;> rw [hs]
    all_goals
      repeat (first | refine ctl ?_ | refine stp ?_ | refine stpD ?_ | refine stpK ?_ | refine cnt ?_ | refine cnf ?_ | refine ctl_ne ?_)
    · refine left_v ⟨.inr rfl, rfl⟩ (congrArg (fun l => PV.tup [.str l, .int .i64 0]) ?_)
      show _ = plainI o a b n
      simp only [plainI, hs]
      rfl
    · refine left_v ⟨.inr rfl, rfl⟩ (congrArg (fun l => PV.tup [.str l, .int .i64 0]) ?_)
      show _ = plainI o a b n
      simp only [plainI, hs]
      rfl
    · refine left_v ⟨.inr rfl, rfl⟩ (congrArg (fun l => PV.tup [.str l, .int .i64 0]) ?_)
      show _ = plainI o a b n
      simp only [plainI, hs]
      rfl
    · refine left_v ⟨.inr rfl, rfl⟩ (congrArg (fun l => PV.tup [.str l, .int .i64 0]) ?_)
      show _ = plainI o a b n
      simp only [plainI, hs]
      rfl
    · (first | refine opt (by exact op_slsx (q := 2) (p := 1) rfl rfl rfl) ?_ | refine optn (by exact op_slsx (q := 2) (p := 1) rfl rfl rfl) ?_ | refine optD (by exact op_slsx (q := 2) (p := 1) rfl rfl rfl) ?_ | refine optnD (by exact op_slsx (q := 2) (p := 1) rfl rfl rfl) ?_ | refine optK (by exact op_slsx (q := 2) (p := 1) rfl rfl rfl) ?_ | refine optnK (by exact op_slsx (q := 2) (p := 1) rfl rfl rfl) ?_)
      repeat (first | refine ctl ?_ | refine stp ?_ | refine stpD ?_ | refine stpK ?_ | refine cnt ?_ | refine cnf ?_ | refine ctl_ne ?_)
      refine left_v ⟨.inr rfl, rfl⟩ (congrArg (fun l => PV.tup [.str l, .int .i64 0]) ?_)
      show _ = plainI o a b n
      simp only [plainI, hs]
      rfl
  · rw [if_neg hc]
    repeat (first | refine ctl ?_ | refine stp ?_ | refine stpD ?_ | refine stpK ?_ | refine cnt ?_ | refine cnf ?_ | refine ctl_ne ?_ | refine opt (clp hgl0 cprog_okC (by exact rfl) (s22 _ _ _ _)) ?_ | refine optD (clp hgl0 cprog_okC (by exact rfl) (s22 _ _ _ _)) ?_ | refine optK (clp hgl0 cprog_okC (by exact rfl) (s22 _ _ _ _)) ?_)
    exact ⟨.inr rfl, rfl⟩

/-! the reference -/
def regsN (o : Int) : Int := if o = 0 ∨ o = 17 ∨ o = 20 then 0 else if o = 1 ∨ o = 18 ∨ o = 19 then 1 else if 1 < o ∧ o < 17 then 2 else -1
def numNn (o : Int) : Nat := if o = 1 ∨ o = 17 ∨ o = 18 ∨ o = 19 then 2 else if o = 20 then 1 else 0
theorem s28 (o : Int) : Ans cprog gl0 28 [.int .i64 o] [] (.int .i64 (regsN o)) [] := by
  refine a28 rfl ?_
  delta k28
  unfold regsN
  repeat' (first | refine ctl ?_ | refine stp ?_ | refine stpD ?_ | refine stpK ?_ | refine cnt ?_ | refine cnf ?_ | refine ctl_ne ?_ | refine ev_if rfl (fun hc => ?_) (fun hc => ?_) | refine e_gifp rfl (fun hc => ?_) (fun hc => ?_) | refine d_gifp rfl (fun hc => ?_) (fun hc => ?_) | refine ev_ifn rfl (fun hc => ?_) (fun hc => ?_) | refine ev_ifb rfl (fun hc => ?_) (fun hc => ?_) | refine e_gif rfl (fun hc => ?_) (fun hc => ?_) | refine d_gif rfl (fun hc => ?_) (fun hc => ?_))
  all_goals first | (rw [if_pos (by omega)]; exact ⟨.inr rfl, rfl⟩) | (rw [if_neg (by omega), if_pos (by omega)]; exact ⟨.inr rfl, rfl⟩) | (rw [if_neg (by omega), if_neg (by omega), if_pos (by omega)]; exact ⟨.inr rfl, rfl⟩) | (rw [if_neg (by omega), if_neg (by omega), if_neg (by omega)]; exact ⟨.inr rfl, rfl⟩)
theorem s30 (o : Int) : Ans cprog gl0 30 [.int .i64 o] [] (.int .i64 (numNn o : Nat)) [] := by
  refine a30 rfl ?_
  delta k30
  unfold numNn
  repeat' (first | refine ctl ?_ | refine stp ?_ | refine stpD ?_ | refine stpK ?_ | refine cnt ?_ | refine cnf ?_ | refine ctl_ne ?_ | refine ev_if rfl (fun hc => ?_) (fun hc => ?_) | refine e_gifp rfl (fun hc => ?_) (fun hc => ?_) | refine d_gifp rfl (fun hc => ?_) (fun hc => ?_) | refine ev_ifn rfl (fun hc => ?_) (fun hc => ?_) | refine ev_ifb rfl (fun hc => ?_) (fun hc => ?_) | refine e_gif rfl (fun hc => ?_) (fun hc => ?_) | refine d_gif rfl (fun hc => ?_) (fun hc => ?_))
  all_goals first | (rw [if_pos (by omega)]; exact ⟨.inr rfl, rfl⟩) | (rw [if_neg (by omega), if_pos (by omega)]; exact ⟨.inr rfl, rfl⟩) | (rw [if_neg (by omega), if_neg (by omega)]; exact ⟨.inr rfl, rfl⟩)
theorem ref_tab (o : Nat) (h : o < 21) : (shapeN o = 0 ∧ regsN o = 0 ∧ numNn o = 0) ∨ (shapeN o = 1 ∧ regsN o = 1 ∧ numNn o = 2) ∨ (shapeN o = 2 ∧ regsN o = 2 ∧ numNn o = 0) ∨ (shapeN o = 3 ∧ regsN o = 0 ∧ numNn o = 2) ∨ (shapeN o = 4 ∧ regsN o = 0 ∧ numNn o = 1) := by
  have : o = 0 ∨ o = 1 ∨ o = 2 ∨ o = 3 ∨ o = 4 ∨ o = 5 ∨ o = 6 ∨ o = 7 ∨ o = 8 ∨ o = 9 ∨ o = 10 ∨ o = 11 ∨ o = 12 ∨ o = 13 ∨ o = 14 ∨ o = 15 ∨ o = 16 ∨ o = 17 ∨ o = 18 ∨ o = 19 ∨ o = 20 := by omega
  rcases this with rfl | rfl | rfl | rfl | rfl | rfl | rfl | rfl | rfl | rfl | rfl | rfl | rfl | rfl | rfl | rfl | rfl | rfl | rfl | rfl | rfl <;> decide
theorem regs_neg (o : Int) (h : ¬ (0 ≤ o ∧ o < 21)) : regsN o = -1 := by
  unfold regsN
  rw [if_neg (by omega), if_neg (by omega), if_neg (by omega)]
theorem s14 (o : Int) : Ans cprog gl0 14 [.int .i64 o] [] (.int .i64 (sizeR o : Nat)) [] := by
  refine a14 rfl ?_
  delta k14
  unfold sizeR
  by_cases hc : 0 ≤ o ∧ o < 21
  · rw [if_pos hc]
    obtain ⟨o, rfl⟩ := Int.eq_ofNat_of_zero_le hc.1
    show Ev _ (Left2 _ _ _ (.int .i64 (sizeS (shapeN o) : Nat)) _)
    rcases ref_tab o (by omega) with ⟨h1, h2, h3⟩ | ⟨h1, h2, h3⟩ | ⟨h1, h2, h3⟩ | ⟨h1, h2, h3⟩ | ⟨h1, h2, h3⟩
    all_goals
      have g2 := s28 o
      have g3 := s30 o
      rw [h2] at g2
      rw [h3] at g3
      rw [h1]
      repeat (first | refine ctl ?_ | refine stp ?_ | refine stpD ?_ | refine stpK ?_ | refine cnt ?_ | refine cnf ?_ | refine ctl_ne ?_ | refine opt (clp hgl0 cprog_okC (by exact rfl) (g2)) ?_ | refine optD (clp hgl0 cprog_okC (by exact rfl) (g2)) ?_ | refine optK (clp hgl0 cprog_okC (by exact rfl) (g2)) ?_ | refine opt (clp hgl0 cprog_okC (by exact rfl) (g3)) ?_ | refine optD (clp hgl0 cprog_okC (by exact rfl) (g3)) ?_ | refine optK (clp hgl0 cprog_okC (by exact rfl) (g3)) ?_)
      exact ⟨.inr rfl, rfl⟩
  · rw [if_neg hc]
    have g2 := s28 o
    rw [regs_neg o hc] at g2
    repeat (first | refine ctl ?_ | refine stp ?_ | refine stpD ?_ | refine stpK ?_ | refine cnt ?_ | refine cnf ?_ | refine ctl_ne ?_ | refine opt (clp hgl0 cprog_okC (by exact rfl) (g2)) ?_ | refine optD (clp hgl0 cprog_okC (by exact rfl) (g2)) ?_ | refine optK (clp hgl0 cprog_okC (by exact rfl) (g2)) ?_)
    exact ⟨.inr rfl, rfl⟩
end Go.Proofs.YtachdfhodbdoiaaDoor
