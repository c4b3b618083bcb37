/-
  The six laws of bits: each answers true. Under no condition.
-/
import Derived.Test.YtfkaibibdmjgcaaDoorB7
namespace Go.Proofs.YtfkaibibdmjgcaaDoor
open Go Go.Vs
theorem rotN_lt (w k : Nat) (hw : w ≤ 65535) (hk : k ≤ 16) : rotN w k ≤ 65535 := by
  induction k with
  | zero => simp [rotN]; omega
  | succ k ih =>
    have h := rot_step w k hw (by omega)
    have h1 := ih (by omega)
    unfold step10 at h
    split at h <;> omega
theorem s9n (w : Nat) (b : Int) (hw : w < 65536) : Ans cprog gl0 9 [.int .u16 w, .int .i64 b] [] (.int .u16 (rotN w (b % 16).toNat : Nat)) [] := by
  obtain ⟨k, hk, hkb, x, hx, h⟩ := s9 (gl := gl0) w b []
  have e1 : (b % 16).toNat = k := by omega
  rw [e1]
  have e2 : IntKind.u16.wrap ((w : Int) * 2 ^ k) = ((w * 2 ^ k % 65536 : Nat) : Int) := by rw [wrap_u16]; simp
  have e3 : ((w : Int)).fdiv (2 ^ (16 - k)) = ((w / 2 ^ (16 - k) : Nat) : Int) := by
    have : ((2 : Int) ^ (16 - k)) = ((2 ^ (16 - k) : Nat) : Int) := by simp
    rw [this]; exact Int.ofNat_fdiv w _ ▸ rfl
  rw [e2, e3, bin_or rfl (show _ < 2 ^ 16 from Nat.mod_lt _ (by decide)) (show _ < 2 ^ 16 from Nat.lt_of_le_of_lt (Nat.div_le_self _ _) hw), or_rot w k (by omega) hk] at hx
  cases hx
  exact h
theorem s10n (w : Nat) (b : Int) (hw : w < 65536) : Ans cprog gl0 10 [.int .u16 w, .int .i64 b] [] (.int .u16 (rotN w (b % 16).toNat : Nat)) [] := by
  have hk : (b % 16).toNat < 16 := by omega
  have h := s10 (gl := gl0) w b (by omega) (b % 16).toNat hk (by omega) []
  rw [it10_rot w (by omega) _ (by omega), wrap_u16] at h
  have h1 := rotN_lt w (b % 16).toNat (by omega) (by omega)
  have h2 : ((rotN w (b % 16).toNat : Nat) : Int) % 65536 = (rotN w (b % 16).toNat : Nat) := by omega
  rw [h2] at h
  exact h
theorem law3 (w : Nat) (b : Int) (hw : w < 65536) : Ans cprog gl0 3 [.int .u16 w, .int .i64 b] [] (.bool true) [] := by
  refine a3 rfl ?_
  delta k3
  repeat (first | refine ctl ?_ | refine stp ?_ | refine stpD ?_ | refine stpK ?_ | refine cnt ?_ | refine cnf ?_ | refine ctl_ne ?_ | refine opt (clp hgl0 cprog_okC (by exact rfl) (s9n w b hw)) ?_ | refine optD (clp hgl0 cprog_okC (by exact rfl) (s9n w b hw)) ?_ | refine optK (clp hgl0 cprog_okC (by exact rfl) (s9n w b hw)) ?_ | refine opt (clp hgl0 cprog_okC (by exact rfl) (s10n w b hw)) ?_ | refine optD (clp hgl0 cprog_okC (by exact rfl) (s10n w b hw)) ?_ | refine optK (clp hgl0 cprog_okC (by exact rfl) (s10n w b hw)) ?_ | refine opt (clp hgl0 cprog_okC (by exact rfl) (few)) ?_ | refine optD (clp hgl0 cprog_okC (by exact rfl) (few)) ?_ | refine optK (clp hgl0 cprog_okC (by exact rfl) (few)) ?_)
  exact ⟨.inr rfl, rfl⟩
theorem cutR_form (n : Nat) (f w : Int) : ∃ a e, cutR n f w = .tup [.int .u32 a, .int .i64 e] := by
  unfold cutR
  split
  · exact ⟨_, _, rfl⟩
  · exact ⟨_, _, rfl⟩
theorem putR_form (n : Nat) (f w : Int) (v : Nat) : ∃ a e, putR n f w v = .tup [.int .u64 a, .int .i64 e] := by
  unfold putR
  split
  · split
    · exact ⟨_, _, rfl⟩
    · exact ⟨_, _, rfl⟩
  · exact ⟨_, _, rfl⟩
theorem signR_form (v : Nat) (w : Int) : ∃ a e, signR v w = .tup [.int .i32 a, .int .i64 e] := by
  unfold signR
  split
  · split
    · exact ⟨_, _, rfl⟩
    · exact ⟨_, _, rfl⟩
  · exact ⟨_, _, rfl⟩
theorem bytesR_form (v : Nat) (w : Int) : ∃ a e, bytesR v w = .tup [.str a, .int .i64 e] := by
  unfold bytesR
  split
  · split
    · exact ⟨_, _, rfl⟩
    · exact ⟨_, _, rfl⟩
  · exact ⟨_, _, rfl⟩
theorem numR_form (l : List UInt8) : ∃ a e, numR l = .tup [.int .u32 a, .int .i64 e] := by
  unfold numR
  split
  · exact ⟨_, _, rfl⟩
  · exact ⟨_, _, rfl⟩
theorem law5 (n v : Nat) (f w : Int) (hn : n < 2 ^ 64) (hv : v < 2 ^ 32) (hf : i64 f) (hw : i64 w) : Ans cprog gl0 5 [.int .u64 n, .agg [.int .i64 f, .int .i64 w], .int .u32 v] [] (.bool true) [] := by
  refine a5 rfl ?_
  delta k5
  have h1 := s15 n f w hn hf hw
  have h2 := s16 n f w hn hf hw
  have h3 := s17 n v f w hn hv hf hw
  have h4 := s18 n v f w hn hv hf hw
  obtain ⟨a, e, hc⟩ := cutR_form n f w
  obtain ⟨b, g, hp⟩ := putR_form n f w v
  rw [hc] at h1 h2
  rw [hp] at h3 h4
  repeat (first | refine ctl ?_ | refine stp ?_ | refine stpD ?_ | refine stpK ?_ | refine cnt ?_ | refine cnf ?_ | refine ctl_ne ?_ | refine opt (clp hgl0 cprog_okC (by exact rfl) (h1)) ?_ | refine optD (clp hgl0 cprog_okC (by exact rfl) (h1)) ?_ | refine optK (clp hgl0 cprog_okC (by exact rfl) (h1)) ?_ | refine opt (clp hgl0 cprog_okC (by exact rfl) (h2)) ?_ | refine optD (clp hgl0 cprog_okC (by exact rfl) (h2)) ?_ | refine optK (clp hgl0 cprog_okC (by exact rfl) (h2)) ?_ | refine opt (clp hgl0 cprog_okC (by exact rfl) (h3)) ?_ | refine optD (clp hgl0 cprog_okC (by exact rfl) (h3)) ?_ | refine optK (clp hgl0 cprog_okC (by exact rfl) (h3)) ?_ | refine opt (clp hgl0 cprog_okC (by exact rfl) (h4)) ?_ | refine optD (clp hgl0 cprog_okC (by exact rfl) (h4)) ?_ | refine optK (clp hgl0 cprog_okC (by exact rfl) (h4)) ?_ | refine opt (clp hgl0 cprog_okC (by exact rfl) (few)) ?_ | refine optD (clp hgl0 cprog_okC (by exact rfl) (few)) ?_ | refine optK (clp hgl0 cprog_okC (by exact rfl) (few)) ?_)
  exact ⟨.inr rfl, rfl⟩
theorem law6 (v : Nat) (w n : Int) (hv : v < 2 ^ 32) (hw : i64 w) : Ans cprog gl0 6 [.int .u32 v, .int .i64 w, .int .i64 n] [] (.bool true) [] := by
  refine a6 rfl ?_
  delta k6
  have h1 := s19 v w hv hw
  have h2 := s20 v w hv hw
  obtain ⟨a, e, hc⟩ := signR_form v w
  rw [hc] at h1 h2
  obtain ⟨m, hm⟩ : ∃ m : Nat, n % 65536 = m := ⟨(n % 65536).toNat, by omega⟩
  have h3 := s12 n
  have h4 := s21 n
  rw [hm] at h3 h4
  have hm' : m < 65536 := by omega
  repeat (first | refine ctl ?_ | refine stp ?_ | refine stpD ?_ | refine stpK ?_ | refine cnt ?_ | refine cnf ?_ | refine ctl_ne ?_ | refine opt (clp hgl0 cprog_okC (by exact rfl) (h1)) ?_ | refine optD (clp hgl0 cprog_okC (by exact rfl) (h1)) ?_ | refine optK (clp hgl0 cprog_okC (by exact rfl) (h1)) ?_ | refine opt (clp hgl0 cprog_okC (by exact rfl) (h2)) ?_ | refine optD (clp hgl0 cprog_okC (by exact rfl) (h2)) ?_ | refine optK (clp hgl0 cprog_okC (by exact rfl) (h2)) ?_ | refine opt (clp hgl0 cprog_okC (by exact rfl) (h3)) ?_ | refine optD (clp hgl0 cprog_okC (by exact rfl) (h3)) ?_ | refine optK (clp hgl0 cprog_okC (by exact rfl) (h3)) ?_ | refine opt (clp hgl0 cprog_okC (by exact rfl) (h4)) ?_ | refine optD (clp hgl0 cprog_okC (by exact rfl) (h4)) ?_ | refine optK (clp hgl0 cprog_okC (by exact rfl) (h4)) ?_ | refine opt (clp hgl0 cprog_okC (by exact rfl) (few)) ?_ | refine optD (clp hgl0 cprog_okC (by exact rfl) (few)) ?_ | refine optK (clp hgl0 cprog_okC (by exact rfl) (few)) ?_ | refine opt (clp hgl0 cprog_okC (by exact rfl) (s13n m hm')) ?_ | refine optD (clp hgl0 cprog_okC (by exact rfl) (s13n m hm')) ?_ | refine optK (clp hgl0 cprog_okC (by exact rfl) (s13n m hm')) ?_ | refine opt (clp hgl0 cprog_okC (by exact rfl) (s22 m hm')) ?_ | refine optD (clp hgl0 cprog_okC (by exact rfl) (s22 m hm')) ?_ | refine optK (clp hgl0 cprog_okC (by exact rfl) (s22 m hm')) ?_ | refine opt (clp hgl0 cprog_okC (by exact rfl) (s14 m hm')) ?_ | refine optD (clp hgl0 cprog_okC (by exact rfl) (s14 m hm')) ?_ | refine optK (clp hgl0 cprog_okC (by exact rfl) (s14 m hm')) ?_ | refine opt (clp hgl0 cprog_okC (by exact rfl) (s23 m hm')) ?_ | refine optD (clp hgl0 cprog_okC (by exact rfl) (s23 m hm')) ?_ | refine optK (clp hgl0 cprog_okC (by exact rfl) (s23 m hm')) ?_)
  exact ⟨.inr rfl, rfl⟩
theorem law7 (v : Nat) (n : Int) (l : List UInt8) (hv : v < 2 ^ 32) (hn : i64 n) (hl : l.length ≤ 9223372036854775807) : Ans cprog gl0 7 [.int .u32 v, .int .i64 n, .str l] [] (.bool true) [] := by
  refine a7 rfl ?_
  delta k7
  have h1 := s24 v n hv hn
  have h2 := s25 v n hv hn
  have h3 := s26 l hl
  have h4 := s27 l hl
  obtain ⟨a, e, hc⟩ := bytesR_form v n
  obtain ⟨b, g, hp⟩ := numR_form l
  rw [hc] at h1 h2
  rw [hp] at h3 h4
  repeat (first | refine ctl ?_ | refine stp ?_ | refine stpD ?_ | refine stpK ?_ | refine cnt ?_ | refine cnf ?_ | refine ctl_ne ?_ | refine opt (clp hgl0 cprog_okC (by exact rfl) (h1)) ?_ | refine optD (clp hgl0 cprog_okC (by exact rfl) (h1)) ?_ | refine optK (clp hgl0 cprog_okC (by exact rfl) (h1)) ?_ | refine opt (clp hgl0 cprog_okC (by exact rfl) (h2)) ?_ | refine optD (clp hgl0 cprog_okC (by exact rfl) (h2)) ?_ | refine optK (clp hgl0 cprog_okC (by exact rfl) (h2)) ?_ | refine opt (clp hgl0 cprog_okC (by exact rfl) (h3)) ?_ | refine optD (clp hgl0 cprog_okC (by exact rfl) (h3)) ?_ | refine optK (clp hgl0 cprog_okC (by exact rfl) (h3)) ?_ | refine opt (clp hgl0 cprog_okC (by exact rfl) (h4)) ?_ | refine optD (clp hgl0 cprog_okC (by exact rfl) (h4)) ?_ | refine optK (clp hgl0 cprog_okC (by exact rfl) (h4)) ?_ | refine opt (clp hgl0 cprog_okC (by exact rfl) (few)) ?_ | refine optD (clp hgl0 cprog_okC (by exact rfl) (few)) ?_ | refine optK (clp hgl0 cprog_okC (by exact rfl) (few)) ?_)
  exact ⟨.inr rfl, rfl⟩
theorem cut_put (n v f w : Nat) (hn : n < 2 ^ 64) (h : f + w ≤ 64) (hv : v < 2 ^ w) : cutN (putN n f w v) f w = v := by
  unfold cutN
  apply Nat.eq_of_testBit_eq
  intro i
  rw [Nat.testBit_mod_two_pow, Nat.testBit_div_two_pow, putN_bit n f w v _ hn h hv]
  by_cases hi : i < w
  · have h1 : f ≤ i + f ∧ i + f < f + w := by omega
    simp [hi, h1]
  · have h4 : v.testBit i = false := Nat.testBit_lt_two_pow (Nat.lt_of_lt_of_le hv (Nat.pow_le_pow_right (by omega) (by omega)))
    simp [hi, h4]
theorem num_bytes (v : Nat) : ∀ (n : Nat) (_ : v < 256 ^ n), numN (bytesN v n) 0 = v := by
  intro n
  induction n generalizing v with
  | zero => intro h; simp [bytesN, numN] at h ⊢; omega
  | succ n ih =>
    intro h
    have h1 : v / 256 < 256 ^ n := by rw [Nat.div_lt_iff_lt_mul (by decide), ← Nat.pow_succ]; exact h
    rw [bytesN, numN_snoc, ih _ h1]
    have h2 : (UInt8.ofNat (v % 256)).toNat = v % 256 := by simp
    rw [h2]
    omega
theorem law8 (n v : Nat) (f w : Int) (hn : n < 2 ^ 64) (hv : v < 2 ^ 32) (hf : i64 f) (hw : i64 w) : Ans cprog gl0 8 [.int .u64 n, .agg [.int .i64 f, .int .i64 w], .int .u32 v] [] (.bool true) [] := by
  refine a8 rfl ?_
  delta k8
  have h3 := s17 n v f w hn hv hf hw
  unfold putR at h3
  by_cases hc : 1 ≤ w ∧ w ≤ 32 ∧ 0 ≤ f ∧ f ≤ 64 - w
  · obtain ⟨f, rfl⟩ := Int.eq_ofNat_of_zero_le hc.2.2.1
    obtain ⟨w, rfl⟩ := Int.eq_ofNat_of_zero_le (show 0 ≤ w by omega)
    rw [if_pos hc] at h3
    by_cases hl : v < 2 ^ w
    · rw [if_pos (show v < 2 ^ ((w : Nat) : Int).toNat from hl)] at h3
      have hp := putN_lt n f w v hn (by omega) hl
      have h1 := s15 (putN n f w v) f w hp hf hw
      unfold cutR at h1
      rw [if_pos hc] at h1
      have h4 : cutN (putN n f w v) ((f : Nat) : Int).toNat ((w : Nat) : Int).toNat = v := cut_put n v f w hn (by omega) hl
      rw [h4] at h1
      repeat (first | refine ctl ?_ | refine stp ?_ | refine stpD ?_ | refine stpK ?_ | refine cnt ?_ | refine cnf ?_ | refine ctl_ne ?_ | refine opt (clp hgl0 cprog_okC (by exact rfl) (h3)) ?_ | refine optD (clp hgl0 cprog_okC (by exact rfl) (h3)) ?_ | refine optK (clp hgl0 cprog_okC (by exact rfl) (h3)) ?_ | refine opt (clp hgl0 cprog_okC (by exact rfl) (h1)) ?_ | refine optD (clp hgl0 cprog_okC (by exact rfl) (h1)) ?_ | refine optK (clp hgl0 cprog_okC (by exact rfl) (h1)) ?_)
      refine ev_while1 (L := fun i => [(0, .int .u64 n), (2, .int .u32 v), (4, .ptr 0 0 0 0), (7, .int .u64 (putN n f w v : Nat)), (11, .int .i64 (i : Nat))]) (S := fun _ => [Box.mk [[.int .i64 f, .int .i64 w]] false 0 29 0 false]) (I := fun i => i ≤ 64) (μ := fun i => 64 - i) ?_ 0 _ (by first | omega | trivial | (repeat' constructor) <;> omega | (simp; done)) (by (repeat' (with_reducible first | exact has_nil | apply has_cons)); all_goals (first | exact rfl | (refine congrArg (PV.int _) ?_; first | omega | (simp; done))))
      intro i s hi ih
      have h5 := putN_bit n f w v i hn (by omega) hl
      repeat (first | refine ctl ?_ | refine stp ?_ | refine stpD ?_ | refine stpK ?_ | refine cnt ?_ | refine cnf ?_ | refine ctl_ne ?_)
      refine ev_if rfl (fun hc => ?_) (fun hc => ?_)
      · repeat' (first | refine ctl ?_ | refine stp ?_ | refine stpD ?_ | refine stpK ?_ | refine cnt ?_ | refine cnf ?_ | refine ctl_ne ?_ | refine opt (clp hgl0 cprog_okC (by exact rfl) (s28 n i hn (by omega))) ?_ | refine optD (clp hgl0 cprog_okC (by exact rfl) (s28 n i hn (by omega))) ?_ | refine optK (clp hgl0 cprog_okC (by exact rfl) (s28 n i hn (by omega))) ?_ | refine opt (clp hgl0 cprog_okC (by exact rfl) (s28 (putN n f w v) i hp (by omega))) ?_ | refine optD (clp hgl0 cprog_okC (by exact rfl) (s28 (putN n f w v) i hp (by omega))) ?_ | refine optK (clp hgl0 cprog_okC (by exact rfl) (s28 (putN n f w v) i hp (by omega))) ?_ | refine ev_if rfl (fun hc => ?_) (fun hc => ?_) | refine e_gifp rfl (fun hc => ?_) (fun hc => ?_) | refine d_gifp rfl (fun hc => ?_) (fun hc => ?_) | refine ev_ifn rfl (fun hc => ?_) (fun hc => ?_) | refine ev_ifb rfl (fun hc => ?_) (fun hc => ?_) | refine e_gif rfl (fun hc => ?_) (fun hc => ?_) | refine d_gif rfl (fun hc => ?_) (fun hc => ?_))
        all_goals (try (exfalso; omega))
        all_goals first
          | (rw [if_neg (by omega)] at h5
             have h6 : putN n f w v / 2 ^ i % 2 = n / 2 ^ i % 2 := by rw [testBit_div, testBit_div, h5]
             exfalso; omega)
          | skip
        all_goals
          refine again_n (ih (i + 1) _ (by omega) (by omega) ?_); (repeat' (with_reducible first | exact has_nil | apply has_cons)); all_goals (first | exact rfl | (refine congrArg (PV.int _) ?_; first | omega | skip) | skip)
      · have h6 := s24 v 4 hv ⟨by omega, by omega⟩
        unfold bytesR at h6
        rw [if_pos (by omega), if_pos (show v < 2 ^ (8 * (4 : Int).toNat) from hv)] at h6
        have h7 := s26 (bytesN v 4) (by rw [bytesN_len]; omega)
        unfold numR at h7
        rw [bytesN_len, if_pos (by omega), num_bytes v 4 hv] at h7
        repeat (first | refine ctl ?_ | refine stp ?_ | refine stpD ?_ | refine stpK ?_ | refine cnt ?_ | refine cnf ?_ | refine ctl_ne ?_ | refine opt (clp hgl0 cprog_okC (by exact rfl) (h6)) ?_ | refine optD (clp hgl0 cprog_okC (by exact rfl) (h6)) ?_ | refine optK (clp hgl0 cprog_okC (by exact rfl) (h6)) ?_ | refine opt (clp hgl0 cprog_okC (by exact rfl) (h7)) ?_ | refine optD (clp hgl0 cprog_okC (by exact rfl) (h7)) ?_ | refine optK (clp hgl0 cprog_okC (by exact rfl) (h7)) ?_ | refine opt (clp hgl0 cprog_okC (by exact rfl) (few)) ?_ | refine optD (clp hgl0 cprog_okC (by exact rfl) (few)) ?_ | refine optK (clp hgl0 cprog_okC (by exact rfl) (few)) ?_)
        exact ⟨.inr rfl, rfl⟩
    · rw [if_neg (show ¬ v < 2 ^ ((w : Nat) : Int).toNat from hl)] at h3
      repeat (first | refine ctl ?_ | refine stp ?_ | refine stpD ?_ | refine stpK ?_ | refine cnt ?_ | refine cnf ?_ | refine ctl_ne ?_ | refine opt (clp hgl0 cprog_okC (by exact rfl) (h3)) ?_ | refine optD (clp hgl0 cprog_okC (by exact rfl) (h3)) ?_ | refine optK (clp hgl0 cprog_okC (by exact rfl) (h3)) ?_ | refine opt (clp hgl0 cprog_okC (by exact rfl) (few)) ?_ | refine optD (clp hgl0 cprog_okC (by exact rfl) (few)) ?_ | refine optK (clp hgl0 cprog_okC (by exact rfl) (few)) ?_)
      exact ⟨.inr rfl, rfl⟩
  · rw [if_neg hc] at h3
    repeat (first | refine ctl ?_ | refine stp ?_ | refine stpD ?_ | refine stpK ?_ | refine cnt ?_ | refine cnf ?_ | refine ctl_ne ?_ | refine opt (clp hgl0 cprog_okC (by exact rfl) (h3)) ?_ | refine optD (clp hgl0 cprog_okC (by exact rfl) (h3)) ?_ | refine optK (clp hgl0 cprog_okC (by exact rfl) (h3)) ?_ | refine opt (clp hgl0 cprog_okC (by exact rfl) (few)) ?_ | refine optD (clp hgl0 cprog_okC (by exact rfl) (few)) ?_ | refine optK (clp hgl0 cprog_okC (by exact rfl) (few)) ?_)
    exact ⟨.inr rfl, rfl⟩
theorem it10_add : ∀ (a b : Nat) (x : Int), it10 (a + b) x = it10 a (it10 b x)
  | _, 0, _ => rfl
  | a, b + 1, x => it10_add a b (step10 x)
theorem rot_back (w a b : Nat) (hw : w ≤ 65535) (ha : a < 16) (hb : b < 16) (h : a + b = 0 ∨ a + b = 16) : rotN (rotN w a) b = w := by
  have h1 := rotN_lt w a hw (by omega)
  have h2 : ((rotN (rotN w a) b : Nat) : Int) = (w : Nat) := by
    rw [← it10_rot _ h1 b (by omega), ← it10_rot w hw a (by omega), ← it10_add]
    rcases h with h | h
    · have : b + a = 0 := by omega
      rw [this]; rfl
    · have : b + a = 16 := by omega
      rw [this, it10_rot w hw 16 (by omega)]
      unfold rotN
      omega
  omega
theorem ones_step (x y : Nat) (hx : x ≤ 65535) (hy : (65535 < 2 * x ∧ y = 2 * x - 65535) ∨ (2 * x ≤ 65535 ∧ y = 2 * x)) : sumB y 16 = sumB x 16 := by
  have h0 : y % 2 = x / 32768 % 2 := by omega
  have h1 : y / 2 % 2 = x % 2 := by omega
  have h2 : y / 4 % 2 = x / 2 % 2 := by omega
  have h3 : y / 8 % 2 = x / 4 % 2 := by omega
  have h4 : y / 16 % 2 = x / 8 % 2 := by omega
  have h5 : y / 32 % 2 = x / 16 % 2 := by omega
  have h6 : y / 64 % 2 = x / 32 % 2 := by omega
  have h7 : y / 128 % 2 = x / 64 % 2 := by omega
  have h8 : y / 256 % 2 = x / 128 % 2 := by omega
  have h9 : y / 512 % 2 = x / 256 % 2 := by omega
  have h10 : y / 1024 % 2 = x / 512 % 2 := by omega
  have h11 : y / 2048 % 2 = x / 1024 % 2 := by omega
  have h12 : y / 4096 % 2 = x / 2048 % 2 := by omega
  have h13 : y / 8192 % 2 = x / 4096 % 2 := by omega
  have h14 : y / 16384 % 2 = x / 8192 % 2 := by omega
  have h15 : y / 32768 % 2 = x / 16384 % 2 := by omega
  simp only [sumB, Nat.reducePow, Nat.div_one]
  rw [h0, h1, h2, h3, h4, h5, h6, h7, h8, h9, h10, h11, h12, h13, h14, h15]
  generalize x % 2 = a0; generalize x / 2 % 2 = a1; generalize x / 4 % 2 = a2; generalize x / 8 % 2 = a3
  generalize x / 16 % 2 = a4; generalize x / 32 % 2 = a5; generalize x / 64 % 2 = a6; generalize x / 128 % 2 = a7
  generalize x / 256 % 2 = a8; generalize x / 512 % 2 = a9; generalize x / 1024 % 2 = a10; generalize x / 2048 % 2 = a11
  generalize x / 4096 % 2 = a12; generalize x / 8192 % 2 = a13; generalize x / 16384 % 2 = a14; generalize x / 32768 % 2 = a15
  omega
theorem ones_rot (w : Nat) (hw : w ≤ 65535) : ∀ k, k ≤ 16 → sumB (rotN w k) 16 = sumB w 16
  | 0, _ => by
    have : rotN w 0 = w := by unfold rotN; omega
    rw [this]
  | k + 1, hk => by
    rw [← ones_rot w hw k (by omega)]
    have h1 := rot_step w k hw (by omega)
    have h2 := rotN_lt w k hw (by omega)
    refine ones_step _ _ h2 ?_
    unfold step10 at h1
    split at h1
    · left; omega
    · right; omega
theorem law4 (w : Nat) (b : Int) (hw : w < 65536) (hb : i64 b) : Ans cprog gl0 4 [.int .u16 w, .int .i64 b] [] (.bool true) [] := by
  refine a4 rfl ?_
  delta k4
  obtain ⟨hb, hb'⟩ := hb
  have ht := tm16 b
  have hr : (b % 16).toNat < 16 := by omega
  have h0 := rotN_lt w (b % 16).toNat (by omega) (by omega)
  have hz : signedZ w % 65536 = w := by unfold signedZ; split <;> omega
  have h1 := s12 (signedZ w)
  rw [hz] at h1
  have h2 : -16 < b.tmod 16 ∧ b.tmod 16 < 16 := by split at ht <;> omega
  have h3 : (b % 16).toNat + ((0 - b.tmod 16) % 16).toNat = 0 ∨ (b % 16).toNat + ((0 - b.tmod 16) % 16).toNat = 16 := by split at ht <;> omega
  have h4 := s9n (rotN w (b % 16).toNat) (0 - b.tmod 16) (by omega)
  rw [rot_back w _ _ (by omega) hr (by omega) h3] at h4
  have h5 := s14 (rotN w (b % 16).toNat) (by omega)
  rw [ones_rot w (by omega) _ (by omega)] at h5
  repeat (first | refine ctl ?_ | refine stp ?_ | refine stpD ?_ | refine stpK ?_ | refine cnt ?_ | refine cnf ?_ | refine ctl_ne ?_ | refine opt (clp hgl0 cprog_okC (by exact rfl) (s9n w b hw)) ?_ | refine optD (clp hgl0 cprog_okC (by exact rfl) (s9n w b hw)) ?_ | refine optK (clp hgl0 cprog_okC (by exact rfl) (s9n w b hw)) ?_ | refine opt (clp hgl0 cprog_okC (by exact rfl) (h1)) ?_ | refine optD (clp hgl0 cprog_okC (by exact rfl) (h1)) ?_ | refine optK (clp hgl0 cprog_okC (by exact rfl) (h1)) ?_ | refine opt (clp hgl0 cprog_okC (by exact rfl) (s13n w hw)) ?_ | refine optD (clp hgl0 cprog_okC (by exact rfl) (s13n w hw)) ?_ | refine optK (clp hgl0 cprog_okC (by exact rfl) (s13n w hw)) ?_ | refine opt (clp hgl0 cprog_okC (by exact rfl) (h4)) ?_ | refine optD (clp hgl0 cprog_okC (by exact rfl) (h4)) ?_ | refine optK (clp hgl0 cprog_okC (by exact rfl) (h4)) ?_ | refine opt (clp hgl0 cprog_okC (by exact rfl) (h5)) ?_ | refine optD (clp hgl0 cprog_okC (by exact rfl) (h5)) ?_ | refine optK (clp hgl0 cprog_okC (by exact rfl) (h5)) ?_ | refine opt (clp hgl0 cprog_okC (by exact rfl) (s14 w hw)) ?_ | refine optD (clp hgl0 cprog_okC (by exact rfl) (s14 w hw)) ?_ | refine optK (clp hgl0 cprog_okC (by exact rfl) (s14 w hw)) ?_ | refine opt (clp hgl0 cprog_okC (by exact rfl) (few)) ?_ | refine optD (clp hgl0 cprog_okC (by exact rfl) (few)) ?_ | refine optK (clp hgl0 cprog_okC (by exact rfl) (few)) ?_)
  exact ⟨.inr rfl, rfl⟩
end Go.Proofs.YtfkaibibdmjgcaaDoor
