/-
  The functions of bits and of its reference: signs, words, ones. Under no condition.
-/
import Derived.Test.YtfkaibibdmjgcaaDoorB5
import Derived.Test.YtfkaibibdmjgcaaDoorB4
namespace Go.Proofs.YtfkaibibdmjgcaaDoor
open Go Go.Vs
def signZ (v w : Nat) : Int := if 2 ^ (w - 1) ≤ v then (v : Int) - (2 ^ w : Nat) else v
def signR (v : Nat) (w : Int) : PV := if 1 ≤ w ∧ w ≤ 32 then (if v < 2 ^ w.toNat then .tup [.int .i32 (signZ v w.toNat), .int .i64 0] else .tup [.int .i32 0, .int .i64 2]) else .tup [.int .i32 0, .int .i64 1]
theorem pow_half (w : Nat) (hw : 1 ≤ w) : 2 ^ w = 2 * 2 ^ (w - 1) := by
  have : w = w - 1 + 1 := by omega
  conv => lhs; rw [this, Nat.pow_succ, Nat.mul_comm]
theorem i32_shr (v w : Nat) (hw : 1 ≤ w) (hw' : w ≤ 32) (hv : v < 2 ^ w) : (IntKind.i32.wrap ((v * 2 ^ (32 - w) : Nat) : Int)).fdiv (2 ^ (32 - w)) = signZ v w := by
  have h1 : 2 ^ w * 2 ^ (32 - w) = 2 ^ 32 := by rw [← Nat.pow_add]; congr 1; omega
  have h2 := pow_half w hw
  have h3 : 0 < 2 ^ (32 - w) := Nat.two_pow_pos _
  have h4 : v * 2 ^ (32 - w) < 2 ^ 32 := by rw [← h1]; exact Nat.mul_lt_mul_of_pos_right hv h3
  have hd : ((2 : Int) ^ (32 - w)) = ((2 ^ (32 - w) : Nat) : Int) := by simp
  have hd0 : ((2 ^ (32 - w) : Nat) : Int) ≠ 0 := by omega
  unfold signZ
  split
  · rename_i hc
    have h5 : 2 ^ 31 ≤ v * 2 ^ (32 - w) := by
      have h6 : 2 ^ (w - 1) * 2 ^ (32 - w) = 2 ^ 31 := by rw [← Nat.pow_add]; congr 1; omega
      rw [← h6]; exact Nat.mul_le_mul_right _ hc
    have h7 : IntKind.i32.wrap ((v * 2 ^ (32 - w) : Nat) : Int) = ((v : Int) - (2 ^ w : Nat)) * ((2 ^ (32 - w) : Nat) : Int) := by
      rw [Int.sub_mul, ← Int.natCast_mul, ← Int.natCast_mul, h1]
      generalize v * 2 ^ (32 - w) = z at *
      simp [IntKind.wrap, IntKind.bits, IntKind.signed]
      omega
    rw [h7, hd, Int.mul_fdiv_cancel _ hd0]
  · rename_i hc
    have h5 : v * 2 ^ (32 - w) < 2 ^ 31 := by
      have h6 : 2 ^ (w - 1) * 2 ^ (32 - w) = 2 ^ 31 := by rw [← Nat.pow_add]; congr 1; omega
      rw [← h6]; exact Nat.mul_lt_mul_of_pos_right (by omega) h3
    rw [wrap_i32 (by omega) (by omega), hd, Int.natCast_mul, Int.mul_fdiv_cancel _ hd0]
theorem s19 (v : Nat) (w : Int) (hv : v < 2 ^ 32) (hw : i64 w) : Ans cprog gl0 19 [.int .u32 v, .int .i64 w] [] (signR v w) [] := by
  refine a19 rfl ?_
  delta k19
  obtain ⟨hw, hw'⟩ := hw
  repeat (first | refine ctl ?_ | refine stp ?_ | refine stpD ?_ | refine stpK ?_ | refine cnt ?_ | refine cnf ?_ | refine ctl_ne ?_ | refine opt (clp hgl0 cprog_okC (by exact rfl) (s29 0 w (by omega) (by omega) hw hw')) ?_ | refine optD (clp hgl0 cprog_okC (by exact rfl) (s29 0 w (by omega) (by omega) hw hw')) ?_ | refine optK (clp hgl0 cprog_okC (by exact rfl) (s29 0 w (by omega) (by omega) hw hw')) ?_)
  unfold signR
  by_cases hc : 1 ≤ w ∧ w ≤ 32
  · rw [if_pos hc]
    repeat (first | refine ctl ?_ | refine stp ?_ | refine stpD ?_ | refine stpK ?_ | refine cnt ?_ | refine cnf ?_ | refine ctl_ne ?_)
    obtain ⟨w, rfl⟩ := Int.eq_ofNat_of_zero_le (show 0 ≤ w by omega)
    repeat (first | refine ctl ?_ | refine stp ?_ | refine stpD ?_ | refine stpK ?_ | refine cnt ?_ | refine cnf ?_ | refine ctl_ne ?_ | refine opt (clp hgl0 cprog_okC (by exact rfl) (s33 v w hv (by omega))) ?_ | refine optD (clp hgl0 cprog_okC (by exact rfl) (s33 v w hv (by omega))) ?_ | refine optK (clp hgl0 cprog_okC (by exact rfl) (s33 v w hv (by omega))) ?_)
    by_cases hl : v < 2 ^ w
    · rw [if_pos (show v < 2 ^ ((w : Nat) : Int).toNat from hl)]
      repeat (first | refine ctl ?_ | refine stp ?_ | refine stpD ?_ | refine stpK ?_ | refine cnt ?_ | refine cnf ?_ | refine ctl_ne ?_)
      have he : (32 : Int) - w = ((32 - w : Nat) : Int) := by omega
      rw [he]
      (first | refine opt (by exact op_bin rfl rfl (bin_shln rfl)) ?_ | refine optn (by exact op_bin rfl rfl (bin_shln rfl)) ?_ | refine optD (by exact op_bin rfl rfl (bin_shln rfl)) ?_ | refine optnD (by exact op_bin rfl rfl (bin_shln rfl)) ?_ | refine optK (by exact op_bin rfl rfl (bin_shln rfl)) ?_ | refine optnK (by exact op_bin rfl rfl (bin_shln rfl)) ?_)
      have h1 : 2 ^ w * 2 ^ (32 - w) = 2 ^ 32 := by rw [← Nat.pow_add]; congr 1; omega
      have h4 : v * 2 ^ (32 - w) < 2 ^ 32 := by rw [← h1]; exact Nat.mul_lt_mul_of_pos_right hl (Nat.two_pow_pos _)
      have h5 : v * 2 ^ (min (32 - w) 32) % 2 ^ 32 = v * 2 ^ (32 - w) := by rw [Nat.min_eq_left (by omega), Nat.mod_eq_of_lt h4]
      rw [show IntKind.u32.bits = 32 from rfl, h5]
      (first | refine opt (by exact op_cvi_w rfl) ?_ | refine optn (by exact op_cvi_w rfl) ?_ | refine optD (by exact op_cvi_w rfl) ?_ | refine optnD (by exact op_cvi_w rfl) ?_ | refine optK (by exact op_cvi_w rfl) ?_ | refine optnK (by exact op_cvi_w rfl) ?_)
      repeat (first | refine ctl ?_ | refine stp ?_ | refine stpD ?_ | refine stpK ?_ | refine cnt ?_ | refine cnf ?_ | refine ctl_ne ?_)
      (first | refine opt (by exact op_shr_w rfl rfl (by omega)) ?_ | refine optn (by exact op_shr_w rfl rfl (by omega)) ?_ | refine optD (by exact op_shr_w rfl rfl (by omega)) ?_ | refine optnD (by exact op_shr_w rfl rfl (by omega)) ?_ | refine optK (by exact op_shr_w rfl rfl (by omega)) ?_ | refine optnK (by exact op_shr_w rfl rfl (by omega)) ?_)
      have h6 : min (((32 - w : Nat) : Int)).toNat IntKind.i32.bits = 32 - w := by
        rw [Int.toNat_natCast, show IntKind.i32.bits = 32 from rfl, Nat.min_eq_left (by omega)]
      rw [h6, i32_shr v w (by omega) (by omega) hl]
      repeat (first | refine ctl ?_ | refine stp ?_ | refine stpD ?_ | refine stpK ?_ | refine cnt ?_ | refine cnf ?_ | refine ctl_ne ?_)
      exact ⟨.inr rfl, rfl⟩
    · rw [if_neg (show ¬ v < 2 ^ ((w : Nat) : Int).toNat from hl)]
      repeat (first | refine ctl ?_ | refine stp ?_ | refine stpD ?_ | refine stpK ?_ | refine cnt ?_ | refine cnf ?_ | refine ctl_ne ?_)
      exact ⟨.inr rfl, rfl⟩
  · rw [if_neg hc]
    repeat (first | refine ctl ?_ | refine stp ?_ | refine stpD ?_ | refine stpK ?_ | refine cnt ?_ | refine cnf ?_ | refine ctl_ne ?_)
    exact ⟨.inr rfl, rfl⟩
theorem s20 (v : Nat) (w : Int) (hv : v < 2 ^ 32) (hw : i64 w) : Ans cprog gl0 20 [.int .u32 v, .int .i64 w] [] (signR v w) [] := by
  refine a20 rfl ?_
  delta k20
  obtain ⟨hw, hw'⟩ := hw
  unfold signR
  by_cases hc : 1 ≤ w ∧ w ≤ 32
  · rw [if_pos hc]
    obtain ⟨w, rfl⟩ := Int.eq_ofNat_of_zero_le (show 0 ≤ w by omega)
    repeat' (first | refine ctl ?_ | refine stp ?_ | refine stpD ?_ | refine stpK ?_ | refine cnt ?_ | refine cnf ?_ | refine ctl_ne ?_ | refine opt (clp hgl0 cprog_okC (by exact rfl) (s32 w (by omega))) ?_ | refine optD (clp hgl0 cprog_okC (by exact rfl) (s32 w (by omega))) ?_ | refine optK (clp hgl0 cprog_okC (by exact rfl) (s32 w (by omega))) ?_ | refine ev_if rfl (fun hc => ?_) (fun hc => ?_) | refine e_gifp rfl (fun hc => ?_) (fun hc => ?_) | refine d_gifp rfl (fun hc => ?_) (fun hc => ?_) | refine ev_ifn rfl (fun hc => ?_) (fun hc => ?_) | refine ev_ifb rfl (fun hc => ?_) (fun hc => ?_) | refine e_gif rfl (fun hc => ?_) (fun hc => ?_) | refine d_gif rfl (fun hc => ?_) (fun hc => ?_))
    all_goals (try (exfalso; omega))
    · rw [if_neg (show ¬ v < 2 ^ ((w : Nat) : Int).toNat from by show ¬ v < 2 ^ w; omega)]
      exact ⟨.inr rfl, rfl⟩
    rw [if_pos (show v < 2 ^ ((w : Nat) : Int).toNat from by show v < 2 ^ w; omega)]
    have he : (w : Int) - 1 = ((w - 1 : Nat) : Int) := by omega
    have h2 := pow_half w (by omega)
    have h3 : 2 ^ w ≤ 2 ^ 32 := Nat.pow_le_pow_right (by omega) (by omega)
    rw [he]
    repeat (first | refine ctl ?_ | refine stp ?_ | refine stpD ?_ | refine stpK ?_ | refine cnt ?_ | refine cnf ?_ | refine ctl_ne ?_ | refine opt (clp hgl0 cprog_okC (by exact rfl) (s32 (w - 1) (by omega))) ?_ | refine optD (clp hgl0 cprog_okC (by exact rfl) (s32 (w - 1) (by omega))) ?_ | refine optK (clp hgl0 cprog_okC (by exact rfl) (s32 (w - 1) (by omega))) ?_)
    unfold signZ
    refine ev_if rfl (fun hc => ?_) (fun hc => ?_)
    · rw [if_pos (show 2 ^ (((w : Nat) : Int).toNat - 1) ≤ v from by show 2 ^ (w - 1) ≤ v; omega)]
      repeat (first | refine ctl ?_ | refine stp ?_ | refine stpD ?_ | refine stpK ?_ | refine cnt ?_ | refine cnf ?_ | refine ctl_ne ?_ | refine opt (clp hgl0 cprog_okC (by exact rfl) (s32 w (by omega))) ?_ | refine optD (clp hgl0 cprog_okC (by exact rfl) (s32 w (by omega))) ?_ | refine optK (clp hgl0 cprog_okC (by exact rfl) (s32 w (by omega))) ?_)
      exact ⟨.inr rfl, rfl⟩
    · rw [if_neg (show ¬ 2 ^ (((w : Nat) : Int).toNat - 1) ≤ v from by show ¬ 2 ^ (w - 1) ≤ v; omega)]
      repeat (first | refine ctl ?_ | refine stp ?_ | refine stpD ?_ | refine stpK ?_ | refine cnt ?_ | refine cnf ?_ | refine ctl_ne ?_)
      exact ⟨.inr rfl, rfl⟩
  · rw [if_neg hc]
    repeat' (first | refine ctl ?_ | refine stp ?_ | refine stpD ?_ | refine stpK ?_ | refine cnt ?_ | refine cnf ?_ | refine ctl_ne ?_ | refine ev_if rfl (fun hc => ?_) (fun hc => ?_) | refine e_gifp rfl (fun hc => ?_) (fun hc => ?_) | refine d_gifp rfl (fun hc => ?_) (fun hc => ?_) | refine ev_ifn rfl (fun hc => ?_) (fun hc => ?_) | refine ev_ifb rfl (fun hc => ?_) (fun hc => ?_) | refine e_gif rfl (fun hc => ?_) (fun hc => ?_) | refine d_gif rfl (fun hc => ?_) (fun hc => ?_))
    all_goals (try (exfalso; omega))
    all_goals
      exact ⟨.inr rfl, rfl⟩
theorem s12 (v : Int) : Ans cprog gl0 12 [.int .i64 v] [] (.int .u16 (v % 65536)) [] := by
  refine a12 rfl ?_
  delta k12
  repeat (first | refine ctl ?_ | refine stp ?_ | refine stpD ?_ | refine stpK ?_ | refine cnt ?_ | refine cnf ?_ | refine ctl_ne ?_)
  refine left_v ⟨.inr rfl, rfl⟩ ?_
  first | rfl | (refine congrArg (PV.int .u16) ?_; omega)
theorem s21 (v : Int) : Ans cprog gl0 21 [.int .i64 v] [] (.int .u16 (v % 65536)) [] := by
  refine a21 rfl ?_
  delta k21
  have h1 : v.tmod 65536 = if 0 ≤ v then v % 65536 else -((-v) % 65536) := by
    split
    · rename_i h; exact Int.tmod_eq_emod_of_nonneg h
    · rename_i h
      rw [← Int.tmod_eq_emod_of_nonneg (by omega), Int.neg_tmod, Int.neg_neg]
  by_cases hv : 0 ≤ v
  · rw [if_pos hv] at h1
    repeat' (first | refine ctl ?_ | refine stp ?_ | refine stpD ?_ | refine stpK ?_ | refine cnt ?_ | refine cnf ?_ | refine ctl_ne ?_ | refine ev_if rfl (fun hc => ?_) (fun hc => ?_) | refine e_gifp rfl (fun hc => ?_) (fun hc => ?_) | refine d_gifp rfl (fun hc => ?_) (fun hc => ?_) | refine ev_ifn rfl (fun hc => ?_) (fun hc => ?_) | refine ev_ifb rfl (fun hc => ?_) (fun hc => ?_) | refine e_gif rfl (fun hc => ?_) (fun hc => ?_) | refine d_gif rfl (fun hc => ?_) (fun hc => ?_))
    all_goals (try (exfalso; omega))
    refine left_v ⟨.inr rfl, rfl⟩ ?_
    first | rfl | (refine congrArg (PV.int .u16) ?_; omega)
  · rw [if_neg hv] at h1
    repeat' (first | refine ctl ?_ | refine stp ?_ | refine stpD ?_ | refine stpK ?_ | refine cnt ?_ | refine cnf ?_ | refine ctl_ne ?_ | refine ev_if rfl (fun hc => ?_) (fun hc => ?_) | refine e_gifp rfl (fun hc => ?_) (fun hc => ?_) | refine d_gifp rfl (fun hc => ?_) (fun hc => ?_) | refine ev_ifn rfl (fun hc => ?_) (fun hc => ?_) | refine ev_ifb rfl (fun hc => ?_) (fun hc => ?_) | refine e_gif rfl (fun hc => ?_) (fun hc => ?_) | refine d_gif rfl (fun hc => ?_) (fun hc => ?_))
    all_goals
      refine left_v ⟨.inr rfl, rfl⟩ ?_
    all_goals first | rfl | (refine congrArg (PV.int .u16) ?_; omega)
def signedZ (w : Nat) : Int := if 32767 < w then (w : Int) - 65536 else w
theorem s13n (w : Nat) (hw : w < 65536) : Ans cprog gl0 13 [.int .u16 w] [] (.int .i64 (signedZ w)) [] := by
  have h := s13 (gl := gl0) w []
  have h1 : IntKind.i64.wrap (IntKind.i16.wrap w) = signedZ w := by
    have h2 : IntKind.i16.wrap w = signedZ w := by
      unfold signedZ
      simp [IntKind.wrap, IntKind.bits, IntKind.signed]
      omega
    rw [h2]
    unfold signedZ
    split <;> (rw [wrap_i64 (by omega) (by omega)])
  rw [h1] at h
  exact h
theorem s22 (w : Nat) (hw : w < 65536) : Ans cprog gl0 22 [.int .u16 w] [] (.int .i64 (signedZ w)) [] := by
  refine a22 rfl ?_
  delta k22
  unfold signedZ
  repeat (first | refine ctl ?_ | refine stp ?_ | refine stpD ?_ | refine stpK ?_ | refine cnt ?_ | refine cnf ?_ | refine ctl_ne ?_)
  refine ev_if rfl (fun hc => ?_) (fun hc => ?_)
  · rw [if_pos (by omega)]
    repeat (first | refine ctl ?_ | refine stp ?_ | refine stpD ?_ | refine stpK ?_ | refine cnt ?_ | refine cnf ?_ | refine ctl_ne ?_)
    exact ⟨.inr rfl, rfl⟩
  · rw [if_neg (by omega)]
    repeat (first | refine ctl ?_ | refine stp ?_ | refine stpD ?_ | refine stpK ?_ | refine cnt ?_ | refine cnf ?_ | refine ctl_ne ?_)
    exact ⟨.inr rfl, rfl⟩
/-- How many of the first bits are 1. -/
def sumB (w : Nat) : Nat → Nat
  | 0 => 0
  | i + 1 => sumB w i + w / 2 ^ i % 2
theorem sumB_le (w : Nat) : ∀ i, sumB w i ≤ i
  | 0 => Nat.le_refl _
  | i + 1 => by have := sumB_le w i; have := Nat.mod_lt (w / 2 ^ i) (show 0 < 2 by omega); simp only [sumB]; omega
theorem s23 (w : Nat) (hw : w < 65536) : Ans cprog gl0 23 [.int .u16 w] [] (.int .i64 (sumB w 16 : Nat)) [] := by
  refine a23 rfl ?_
  delta k23
  repeat (first | refine ctl ?_ | refine stp ?_ | refine stpD ?_ | refine stpK ?_ | refine cnt ?_ | refine cnf ?_ | refine ctl_ne ?_)
  refine ev_while1 (L := fun i => [(0, .int .u16 w), (3, .int .i64 (sumB w i : Nat)), (4, .int .i64 (i : Nat))]) (S := fun _ => []) (I := fun i => i ≤ 16) (μ := fun i => 16 - i) ?_ 0 _ (by first | omega | trivial | (repeat' constructor) <;> omega | (simp; done)) (by (repeat' (with_reducible first | exact has_nil | apply has_cons)); all_goals (first | exact rfl | (refine congrArg (PV.int _) ?_; first | omega | (simp; done))))
  intro i s hi ih
  have h1 := sumB_le w i
  have h2 := sumB_le w (i + 1)
  have h3 : sumB w (i + 1) = sumB w i + w / 2 ^ i % 2 := rfl
  repeat (first | refine ctl ?_ | refine stp ?_ | refine stpD ?_ | refine stpK ?_ | refine cnt ?_ | refine cnf ?_ | refine ctl_ne ?_)
  refine ev_if rfl (fun hc => ?_) (fun hc => ?_)
  · repeat (first | refine ctl ?_ | refine stp ?_ | refine stpD ?_ | refine stpK ?_ | refine cnt ?_ | refine cnf ?_ | refine ctl_ne ?_ | refine opt (clp hgl0 cprog_okC (by exact rfl) (s28 w i (by omega) (by omega))) ?_ | refine optD (clp hgl0 cprog_okC (by exact rfl) (s28 w i (by omega) (by omega))) ?_ | refine optK (clp hgl0 cprog_okC (by exact rfl) (s28 w i (by omega) (by omega))) ?_)
    refine again_n (ih (i + 1) _ (by omega) (by omega) ?_); (repeat' (with_reducible first | exact has_nil | apply has_cons)); all_goals (first | exact rfl | (refine congrArg (PV.int _) ?_; first | omega | skip) | skip)
  · have : i = 16 := by omega
    subst this
    repeat (first | refine ctl ?_ | refine stp ?_ | refine stpD ?_ | refine stpK ?_ | refine cnt ?_ | refine cnf ?_ | refine ctl_ne ?_)
    exact ⟨.inr rfl, rfl⟩
def pop (m : Nat) : Nat := m % 2 + m / 2 % 2 + m / 4 % 2 + m / 8 % 2
theorem tab (st : Store) (m : Nat) (hm : m < 16) : readP st 1 (.pf ((gl0 0).drop ((m : Int).toNat * 1))) = some [.int .i64 (pop m : Nat)] := by
  have : m = 0 ∨ m = 1 ∨ m = 2 ∨ m = 3 ∨ m = 4 ∨ m = 5 ∨ m = 6 ∨ m = 7 ∨ m = 8 ∨ m = 9 ∨ m = 10 ∨ m = 11 ∨ m = 12 ∨ m = 13 ∨ m = 14 ∨ m = 15 := by omega
  rcases this with rfl | rfl | rfl | rfl | rfl | rfl | rfl | rfl | rfl | rfl | rfl | rfl | rfl | rfl | rfl | rfl <;> rfl
theorem pop_le (m : Nat) : pop m ≤ 4 := by unfold pop; omega
theorem pop_sum (w : Nat) : pop (w % 16) + pop (w / 16 % 16) + pop (w / 256 % 16) + pop (w / 4096) = sumB w 16 := by
  have g : ∀ a, a % 16 % 2 = a % 2 ∧ a % 16 / 2 % 2 = a / 2 % 2 ∧ a % 16 / 4 % 2 = a / 4 % 2 ∧ a % 16 / 8 % 2 = a / 8 % 2 := by intro a; omega
  unfold pop
  obtain ⟨a1, a2, a3, a4⟩ := g w
  obtain ⟨b1, b2, b3, b4⟩ := g (w / 16)
  obtain ⟨c1, c2, c3, c4⟩ := g (w / 256)
  rw [a1, a2, a3, a4, b1, b2, b3, b4, c1, c2, c3, c4]
  simp only [sumB, Nat.div_div_eq_div_mul]
  simp only [Nat.reducePow, Nat.reduceMul, Nat.div_one]
  omega
theorem s14 (w : Nat) (hw : w < 65536) : Ans cprog gl0 14 [.int .u16 w] [] (.int .i64 (sumB w 16 : Nat)) [] := by
  refine a14 rfl ?_
  delta k14
  have e15 : ∀ a : Nat, a &&& 15 = a % 16 := fun a => Nat.and_two_pow_sub_one_eq_mod a 4
  repeat (first | refine ctl ?_ | refine stp ?_ | refine stpD ?_ | refine stpK ?_ | refine cnt ?_ | refine cnf ?_ | refine ctl_ne ?_)
  (first | refine opt (by exact op_bits rfl rfl (bin_and (a := w) (b := 15) rfl hw (by decide))) ?_ | refine optn (by exact op_bits rfl rfl (bin_and (a := w) (b := 15) rfl hw (by decide))) ?_ | refine optD (by exact op_bits rfl rfl (bin_and (a := w) (b := 15) rfl hw (by decide))) ?_ | refine optnD (by exact op_bits rfl rfl (bin_and (a := w) (b := 15) rfl hw (by decide))) ?_ | refine optK (by exact op_bits rfl rfl (bin_and (a := w) (b := 15) rfl hw (by decide))) ?_ | refine optnK (by exact op_bits rfl rfl (bin_and (a := w) (b := 15) rfl hw (by decide))) ?_)
  rw [e15]
  (first | refine opt (by exact op_ixaa rfl rfl (by omega)) ?_ | refine optn (by exact op_ixaa rfl rfl (by omega)) ?_ | refine optD (by exact op_ixaa rfl rfl (by omega)) ?_ | refine optnD (by exact op_ixaa rfl rfl (by omega)) ?_ | refine optK (by exact op_ixaa rfl rfl (by omega)) ?_ | refine optnK (by exact op_ixaa rfl rfl (by omega)) ?_)
  (first | refine opt (by exact op_ldc (tab _ _ (Nat.mod_lt _ (by decide))) Nf.int) ?_ | refine optn (by exact op_ldc (tab _ _ (Nat.mod_lt _ (by decide))) Nf.int) ?_ | refine optD (by exact op_ldc (tab _ _ (Nat.mod_lt _ (by decide))) Nf.int) ?_ | refine optnD (by exact op_ldc (tab _ _ (Nat.mod_lt _ (by decide))) Nf.int) ?_ | refine optK (by exact op_ldc (tab _ _ (Nat.mod_lt _ (by decide))) Nf.int) ?_ | refine optnK (by exact op_ldc (tab _ _ (Nat.mod_lt _ (by decide))) Nf.int) ?_)
  repeat (first | refine ctl ?_ | refine stp ?_ | refine stpD ?_ | refine stpK ?_ | refine cnt ?_ | refine cnf ?_ | refine ctl_ne ?_)
  (first | refine opt (by exact op_bin rfl rfl (bin_shrn (j := 4))) ?_ | refine optn (by exact op_bin rfl rfl (bin_shrn (j := 4))) ?_ | refine optD (by exact op_bin rfl rfl (bin_shrn (j := 4))) ?_ | refine optnD (by exact op_bin rfl rfl (bin_shrn (j := 4))) ?_ | refine optK (by exact op_bin rfl rfl (bin_shrn (j := 4))) ?_ | refine optnK (by exact op_bin rfl rfl (bin_shrn (j := 4))) ?_)
  rw [show w / 2 ^ min 4 IntKind.u16.bits = w / 16 from rfl]
  (first | refine opt (by exact op_bits rfl rfl (bin_and (a := w / 16) (b := 15) rfl (show _ < 65536 by omega) (by decide))) ?_ | refine optn (by exact op_bits rfl rfl (bin_and (a := w / 16) (b := 15) rfl (show _ < 65536 by omega) (by decide))) ?_ | refine optD (by exact op_bits rfl rfl (bin_and (a := w / 16) (b := 15) rfl (show _ < 65536 by omega) (by decide))) ?_ | refine optnD (by exact op_bits rfl rfl (bin_and (a := w / 16) (b := 15) rfl (show _ < 65536 by omega) (by decide))) ?_ | refine optK (by exact op_bits rfl rfl (bin_and (a := w / 16) (b := 15) rfl (show _ < 65536 by omega) (by decide))) ?_ | refine optnK (by exact op_bits rfl rfl (bin_and (a := w / 16) (b := 15) rfl (show _ < 65536 by omega) (by decide))) ?_)
  rw [e15]
  (first | refine opt (by exact op_ixaa rfl rfl (by omega)) ?_ | refine optn (by exact op_ixaa rfl rfl (by omega)) ?_ | refine optD (by exact op_ixaa rfl rfl (by omega)) ?_ | refine optnD (by exact op_ixaa rfl rfl (by omega)) ?_ | refine optK (by exact op_ixaa rfl rfl (by omega)) ?_ | refine optnK (by exact op_ixaa rfl rfl (by omega)) ?_)
  (first | refine opt (by exact op_ldc (tab _ _ (Nat.mod_lt _ (by decide))) Nf.int) ?_ | refine optn (by exact op_ldc (tab _ _ (Nat.mod_lt _ (by decide))) Nf.int) ?_ | refine optD (by exact op_ldc (tab _ _ (Nat.mod_lt _ (by decide))) Nf.int) ?_ | refine optnD (by exact op_ldc (tab _ _ (Nat.mod_lt _ (by decide))) Nf.int) ?_ | refine optK (by exact op_ldc (tab _ _ (Nat.mod_lt _ (by decide))) Nf.int) ?_ | refine optnK (by exact op_ldc (tab _ _ (Nat.mod_lt _ (by decide))) Nf.int) ?_)
  have p1 := pop_le (w % 16)
  have p2 := pop_le (w / 16 % 16)
  have p3 := pop_le (w / 256 % 16)
  have p4 := pop_le (w / 4096)
  repeat (first | refine ctl ?_ | refine stp ?_ | refine stpD ?_ | refine stpK ?_ | refine cnt ?_ | refine cnf ?_ | refine ctl_ne ?_)
  (first | refine opt (by exact op_bin rfl rfl (bin_shrn (j := 8))) ?_ | refine optn (by exact op_bin rfl rfl (bin_shrn (j := 8))) ?_ | refine optD (by exact op_bin rfl rfl (bin_shrn (j := 8))) ?_ | refine optnD (by exact op_bin rfl rfl (bin_shrn (j := 8))) ?_ | refine optK (by exact op_bin rfl rfl (bin_shrn (j := 8))) ?_ | refine optnK (by exact op_bin rfl rfl (bin_shrn (j := 8))) ?_)
  rw [show w / 2 ^ min 8 IntKind.u16.bits = w / 256 from rfl]
  (first | refine opt (by exact op_bits rfl rfl (bin_and (a := w / 256) (b := 15) rfl (show _ < 65536 by omega) (by decide))) ?_ | refine optn (by exact op_bits rfl rfl (bin_and (a := w / 256) (b := 15) rfl (show _ < 65536 by omega) (by decide))) ?_ | refine optD (by exact op_bits rfl rfl (bin_and (a := w / 256) (b := 15) rfl (show _ < 65536 by omega) (by decide))) ?_ | refine optnD (by exact op_bits rfl rfl (bin_and (a := w / 256) (b := 15) rfl (show _ < 65536 by omega) (by decide))) ?_ | refine optK (by exact op_bits rfl rfl (bin_and (a := w / 256) (b := 15) rfl (show _ < 65536 by omega) (by decide))) ?_ | refine optnK (by exact op_bits rfl rfl (bin_and (a := w / 256) (b := 15) rfl (show _ < 65536 by omega) (by decide))) ?_)
  rw [e15]
  (first | refine opt (by exact op_ixaa rfl rfl (by omega)) ?_ | refine optn (by exact op_ixaa rfl rfl (by omega)) ?_ | refine optD (by exact op_ixaa rfl rfl (by omega)) ?_ | refine optnD (by exact op_ixaa rfl rfl (by omega)) ?_ | refine optK (by exact op_ixaa rfl rfl (by omega)) ?_ | refine optnK (by exact op_ixaa rfl rfl (by omega)) ?_)
  (first | refine opt (by exact op_ldc (tab _ _ (Nat.mod_lt _ (by decide))) Nf.int) ?_ | refine optn (by exact op_ldc (tab _ _ (Nat.mod_lt _ (by decide))) Nf.int) ?_ | refine optD (by exact op_ldc (tab _ _ (Nat.mod_lt _ (by decide))) Nf.int) ?_ | refine optnD (by exact op_ldc (tab _ _ (Nat.mod_lt _ (by decide))) Nf.int) ?_ | refine optK (by exact op_ldc (tab _ _ (Nat.mod_lt _ (by decide))) Nf.int) ?_ | refine optnK (by exact op_ldc (tab _ _ (Nat.mod_lt _ (by decide))) Nf.int) ?_)
  repeat (first | refine ctl ?_ | refine stp ?_ | refine stpD ?_ | refine stpK ?_ | refine cnt ?_ | refine cnf ?_ | refine ctl_ne ?_)
  (first | refine opt (by exact op_bin rfl rfl (bin_shrn (j := 12))) ?_ | refine optn (by exact op_bin rfl rfl (bin_shrn (j := 12))) ?_ | refine optD (by exact op_bin rfl rfl (bin_shrn (j := 12))) ?_ | refine optnD (by exact op_bin rfl rfl (bin_shrn (j := 12))) ?_ | refine optK (by exact op_bin rfl rfl (bin_shrn (j := 12))) ?_ | refine optnK (by exact op_bin rfl rfl (bin_shrn (j := 12))) ?_)
  rw [show w / 2 ^ min 12 IntKind.u16.bits = w / 4096 from rfl]
  (first | refine opt (by exact op_ixaa rfl rfl (by omega)) ?_ | refine optn (by exact op_ixaa rfl rfl (by omega)) ?_ | refine optD (by exact op_ixaa rfl rfl (by omega)) ?_ | refine optnD (by exact op_ixaa rfl rfl (by omega)) ?_ | refine optK (by exact op_ixaa rfl rfl (by omega)) ?_ | refine optnK (by exact op_ixaa rfl rfl (by omega)) ?_)
  (first | refine opt (by exact op_ldc (tab _ _ (show w / 4096 < 16 by omega)) Nf.int) ?_ | refine optn (by exact op_ldc (tab _ _ (show w / 4096 < 16 by omega)) Nf.int) ?_ | refine optD (by exact op_ldc (tab _ _ (show w / 4096 < 16 by omega)) Nf.int) ?_ | refine optnD (by exact op_ldc (tab _ _ (show w / 4096 < 16 by omega)) Nf.int) ?_ | refine optK (by exact op_ldc (tab _ _ (show w / 4096 < 16 by omega)) Nf.int) ?_ | refine optnK (by exact op_ldc (tab _ _ (show w / 4096 < 16 by omega)) Nf.int) ?_)
  repeat (first | refine ctl ?_ | refine stp ?_ | refine stpD ?_ | refine stpK ?_ | refine cnt ?_ | refine cnf ?_ | refine ctl_ne ?_)
  refine left_v ⟨.inr rfl, rfl⟩ ?_
  rw [← pop_sum w]; rfl
end Go.Proofs.YtfkaibibdmjgcaaDoor
