/-
  The functions of bits and of its reference: bytes. Under no condition.
-/
import Derived.Test.YtfkaibibdmjgcaaDoorB6
namespace Go.Proofs.YtfkaibibdmjgcaaDoor
open Go Go.Vs
/-- A number's bytes, so many, the greatest first. -/
def bytesN (v : Nat) : Nat → List UInt8
  | 0 => []
  | n + 1 => bytesN (v / 256) n ++ [UInt8.ofNat (v % 256)]
def bytesR (v : Nat) (n : Int) : PV := if 1 ≤ n ∧ n ≤ 4 then (if v < 2 ^ (8 * n.toNat) then .tup [.str (bytesN v n.toNat), .int .i64 0] else .tup [.str [], .int .i64 2]) else .tup [.str [], .int .i64 1]
theorem bytesN_len (v n : Nat) : (bytesN v n).length = n := by
  induction n generalizing v with
  | zero => rfl
  | succ n ih => simp [bytesN, ih]
def shB (v i : Nat) : Nat := v / 256 ^ i
theorem shB_le (v i : Nat) : shB v i ≤ v := Nat.div_le_self _ _
theorem shB_succ (v i : Nat) : shB v i / 256 = shB v (i + 1) := by unfold shB; rw [Nat.div_div_eq_div_mul, Nat.pow_succ]
theorem bytesN_cons (v i : Nat) : bytesN v (i + 1) = UInt8.ofNat (shB v i % 256) :: bytesN v i := by
  induction i generalizing v with
  | zero => simp [bytesN, shB]
  | succ i ih =>
    have h1 : bytesN v (i + 2) = bytesN (v / 256) (i + 1) ++ [UInt8.ofNat (v % 256)] := rfl
    rw [h1, ih]
    unfold shB
    rw [Nat.div_div_eq_div_mul, Nat.pow_succ, Nat.mul_comm]
    rfl
theorem s25 (v : Nat) (n : Int) (hv : v < 2 ^ 32) (hn : i64 n) : Ans cprog gl0 25 [.int .u32 v, .int .i64 n] [] (bytesR v n) [] := by
  refine a25 rfl ?_
  delta k25
  obtain ⟨hn, hn'⟩ := hn
  unfold bytesR
  by_cases hc : 1 ≤ n ∧ n ≤ 4
  · rw [if_pos hc]
    obtain ⟨n, rfl⟩ := Int.eq_ofNat_of_zero_le (show 0 ≤ n by omega)
    have h8 : (8 : Int) * n = ((8 * n : Nat) : Int) := by omega
    repeat (first | refine ctl ?_ | refine stp ?_ | refine stpD ?_ | refine stpK ?_ | refine cnt ?_ | refine cnf ?_ | refine ctl_ne ?_)
    rw [h8]
    repeat (first | refine ctl ?_ | refine stp ?_ | refine stpD ?_ | refine stpK ?_ | refine cnt ?_ | refine cnf ?_ | refine ctl_ne ?_ | refine opt (clp hgl0 cprog_okC (by exact rfl) (s32 (8 * n) (by omega))) ?_ | refine optD (clp hgl0 cprog_okC (by exact rfl) (s32 (8 * n) (by omega))) ?_ | refine optK (clp hgl0 cprog_okC (by exact rfl) (s32 (8 * n) (by omega))) ?_)
    by_cases hl : v < 2 ^ (8 * n)
    · rw [if_pos (show v < 2 ^ (8 * ((n : Nat) : Int).toNat) from hl)]
      repeat (first | refine ctl ?_ | refine stp ?_ | refine stpD ?_ | refine stpK ?_ | refine cnt ?_ | refine cnf ?_ | refine ctl_ne ?_)
      refine ev_while2 (L := fun i _ => [(1, .int .i64 n), (6, .str (bytesN v i)), (7, .int .u32 (shB v i : Nat)), (8, .int .i64 (i : Nat))]) (S := fun _ g => g) (I := fun i _ => i ≤ n) (μ := fun i _ => n - i) ?_ 0 [] _ (by omega) ⟨rfl, rfl, congrArg (PV.int .u32) (by simp [shB]), rfl, trivial⟩
      intro i g s hi ih
      have hlen := bytesN_len v i
      have hlt := shB_le v i
      have hd := shB_succ v i
      repeat (first | refine ctl ?_ | refine stp ?_ | refine stpD ?_ | refine stpK ?_ | refine cnt ?_ | refine cnf ?_ | refine ctl_ne ?_)
      refine ev_if rfl (fun hc => ?_) (fun hc => ?_)
      · repeat (first | refine ctl ?_ | refine stp ?_ | refine stpD ?_ | refine stpK ?_ | refine cnt ?_ | refine cnf ?_ | refine ctl_ne ?_)
        refine again_n (ih (i + 1) _ _ (by omega) (by omega) ?_); (repeat' (with_reducible first | exact has_nil | apply has_cons)); all_goals (first | exact rfl | (refine congrArg (PV.int _) ?_; first | omega | skip) | skip)
        exact congrArg PV.str (bytesN_cons v i).symm
      · have : i = n := by omega
        subst this
        repeat (first | refine ctl ?_ | refine stp ?_ | refine stpD ?_ | refine stpK ?_ | refine cnt ?_ | refine cnf ?_ | refine ctl_ne ?_)
        exact ⟨.inr rfl, rfl⟩
    · rw [if_neg (show ¬ v < 2 ^ (8 * ((n : Nat) : Int).toNat) from hl)]
      repeat (first | refine ctl ?_ | refine stp ?_ | refine stpD ?_ | refine stpK ?_ | refine cnt ?_ | refine cnf ?_ | refine ctl_ne ?_)
      exact ⟨.inr rfl, rfl⟩
  · rw [if_neg hc]
    repeat' (first | refine ctl ?_ | refine stp ?_ | refine stpD ?_ | refine stpK ?_ | refine cnt ?_ | refine cnf ?_ | refine ctl_ne ?_ | refine ev_if rfl (fun hc => ?_) (fun hc => ?_) | refine e_gifp rfl (fun hc => ?_) (fun hc => ?_) | refine d_gifp rfl (fun hc => ?_) (fun hc => ?_) | refine ev_ifn rfl (fun hc => ?_) (fun hc => ?_) | refine ev_ifb rfl (fun hc => ?_) (fun hc => ?_) | refine e_gif rfl (fun hc => ?_) (fun hc => ?_) | refine d_gif rfl (fun hc => ?_) (fun hc => ?_))
    all_goals (try (exfalso; omega))
    all_goals
      exact ⟨.inr rfl, rfl⟩
theorem s24 (v : Nat) (n : Int) (hv : v < 2 ^ 32) (hn : i64 n) : Ans cprog gl0 24 [.int .u32 v, .int .i64 n] [] (bytesR v n) [] := by
  refine a24 rfl ?_
  delta k24
  obtain ⟨hn, hn'⟩ := hn
  unfold bytesR
  by_cases hc : 1 ≤ n ∧ n ≤ 4
  · rw [if_pos hc]
    obtain ⟨n, rfl⟩ := Int.eq_ofNat_of_zero_le (show 0 ≤ n by omega)
    have h8 : (8 : Int) * n = ((8 * n : Nat) : Int) := by omega
    repeat (first | refine ctl ?_ | refine stp ?_ | refine stpD ?_ | refine stpK ?_ | refine cnt ?_ | refine cnf ?_ | refine ctl_ne ?_)
    rw [h8]
    repeat (first | refine ctl ?_ | refine stp ?_ | refine stpD ?_ | refine stpK ?_ | refine cnt ?_ | refine cnf ?_ | refine ctl_ne ?_ | refine opt (clp hgl0 cprog_okC (by exact rfl) (s33 v (8 * n) hv (by omega))) ?_ | refine optD (clp hgl0 cprog_okC (by exact rfl) (s33 v (8 * n) hv (by omega))) ?_ | refine optK (clp hgl0 cprog_okC (by exact rfl) (s33 v (8 * n) hv (by omega))) ?_)
    by_cases hl : v < 2 ^ (8 * n)
    · rw [if_pos (show v < 2 ^ (8 * ((n : Nat) : Int).toNat) from hl)]
      have hn4 : n = 1 ∨ n = 2 ∨ n = 3 ∨ n = 4 := by omega
      clear h8 hn hn' hc
      rcases hn4 with rfl | rfl | rfl | rfl
      · repeat (first | refine ctl ?_ | refine stpS ?_ | refine stpD ?_ | refine stpK ?_ | refine cnt ?_ | refine cnf ?_ | refine ctl_ne ?_ | (with_reducible first | refine again_n ?_ | refine ev_round ?_))
        (first | refine opt (by exact op_sla rfl rfl rfl) ?_ | refine optn (by exact op_sla rfl rfl rfl) ?_ | refine optD (by exact op_sla rfl rfl rfl) ?_ | refine optnD (by exact op_sla rfl rfl rfl) ?_ | refine optK (by exact op_sla rfl rfl rfl) ?_ | refine optnK (by exact op_sla rfl rfl rfl) ?_)
        (first | refine opt (by exact op_cvbs rfl rfl) ?_ | refine optn (by exact op_cvbs rfl rfl) ?_ | refine optD (by exact op_cvbs rfl rfl) ?_ | refine optnD (by exact op_cvbs rfl rfl) ?_ | refine optK (by exact op_cvbs rfl rfl) ?_ | refine optnK (by exact op_cvbs rfl rfl) ?_)
        repeat (first | refine ctl ?_ | refine stp ?_ | refine stpD ?_ | refine stpK ?_ | refine cnt ?_ | refine cnf ?_ | refine ctl_ne ?_)
        refine left_v ⟨.inr rfl, rfl⟩ ?_
        show PV.tup [PV.str [UInt8.ofNat (v / 2 ^ 0 % 256)], .int .i64 0] = PV.tup [PV.str (bytesN v 1), .int .i64 0]
        simp [bytesN]
      · repeat (first | refine ctl ?_ | refine stpS ?_ | refine stpD ?_ | refine stpK ?_ | refine cnt ?_ | refine cnf ?_ | refine ctl_ne ?_ | (with_reducible first | refine again_n ?_ | refine ev_round ?_))
        (first | refine opt (by exact op_sla rfl rfl rfl) ?_ | refine optn (by exact op_sla rfl rfl rfl) ?_ | refine optD (by exact op_sla rfl rfl rfl) ?_ | refine optnD (by exact op_sla rfl rfl rfl) ?_ | refine optK (by exact op_sla rfl rfl rfl) ?_ | refine optnK (by exact op_sla rfl rfl rfl) ?_)
        (first | refine opt (by exact op_cvbs rfl rfl) ?_ | refine optn (by exact op_cvbs rfl rfl) ?_ | refine optD (by exact op_cvbs rfl rfl) ?_ | refine optnD (by exact op_cvbs rfl rfl) ?_ | refine optK (by exact op_cvbs rfl rfl) ?_ | refine optnK (by exact op_cvbs rfl rfl) ?_)
        repeat (first | refine ctl ?_ | refine stp ?_ | refine stpD ?_ | refine stpK ?_ | refine cnt ?_ | refine cnf ?_ | refine ctl_ne ?_)
        refine left_v ⟨.inr rfl, rfl⟩ ?_
        show PV.tup [PV.str [UInt8.ofNat (v / 2 ^ 8 % 256), UInt8.ofNat (v / 2 ^ 0 % 256)], .int .i64 0] = PV.tup [PV.str (bytesN v 2), .int .i64 0]
        simp [bytesN]
      · repeat (first | refine ctl ?_ | refine stpS ?_ | refine stpD ?_ | refine stpK ?_ | refine cnt ?_ | refine cnf ?_ | refine ctl_ne ?_ | (with_reducible first | refine again_n ?_ | refine ev_round ?_))
        (first | refine opt (by exact op_sla rfl rfl rfl) ?_ | refine optn (by exact op_sla rfl rfl rfl) ?_ | refine optD (by exact op_sla rfl rfl rfl) ?_ | refine optnD (by exact op_sla rfl rfl rfl) ?_ | refine optK (by exact op_sla rfl rfl rfl) ?_ | refine optnK (by exact op_sla rfl rfl rfl) ?_)
        (first | refine opt (by exact op_cvbs rfl rfl) ?_ | refine optn (by exact op_cvbs rfl rfl) ?_ | refine optD (by exact op_cvbs rfl rfl) ?_ | refine optnD (by exact op_cvbs rfl rfl) ?_ | refine optK (by exact op_cvbs rfl rfl) ?_ | refine optnK (by exact op_cvbs rfl rfl) ?_)
        repeat (first | refine ctl ?_ | refine stp ?_ | refine stpD ?_ | refine stpK ?_ | refine cnt ?_ | refine cnf ?_ | refine ctl_ne ?_)
        refine left_v ⟨.inr rfl, rfl⟩ ?_
        show PV.tup [PV.str [UInt8.ofNat (v / 2 ^ 16 % 256), UInt8.ofNat (v / 2 ^ 8 % 256), UInt8.ofNat (v / 2 ^ 0 % 256)], .int .i64 0] = PV.tup [PV.str (bytesN v 3), .int .i64 0]
        simp [bytesN, Nat.div_div_eq_div_mul]
      · repeat (first | refine ctl ?_ | refine stpS ?_ | refine stpD ?_ | refine stpK ?_ | refine cnt ?_ | refine cnf ?_ | refine ctl_ne ?_ | (with_reducible first | refine again_n ?_ | refine ev_round ?_))
        (first | refine opt (by exact op_sla rfl rfl rfl) ?_ | refine optn (by exact op_sla rfl rfl rfl) ?_ | refine optD (by exact op_sla rfl rfl rfl) ?_ | refine optnD (by exact op_sla rfl rfl rfl) ?_ | refine optK (by exact op_sla rfl rfl rfl) ?_ | refine optnK (by exact op_sla rfl rfl rfl) ?_)
        (first | refine opt (by exact op_cvbs rfl rfl) ?_ | refine optn (by exact op_cvbs rfl rfl) ?_ | refine optD (by exact op_cvbs rfl rfl) ?_ | refine optnD (by exact op_cvbs rfl rfl) ?_ | refine optK (by exact op_cvbs rfl rfl) ?_ | refine optnK (by exact op_cvbs rfl rfl) ?_)
        repeat (first | refine ctl ?_ | refine stp ?_ | refine stpD ?_ | refine stpK ?_ | refine cnt ?_ | refine cnf ?_ | refine ctl_ne ?_)
        refine left_v ⟨.inr rfl, rfl⟩ ?_
        show PV.tup [PV.str [UInt8.ofNat (v / 2 ^ 24 % 256), UInt8.ofNat (v / 2 ^ 16 % 256), UInt8.ofNat (v / 2 ^ 8 % 256), UInt8.ofNat (v / 2 ^ 0 % 256)], .int .i64 0] = PV.tup [PV.str (bytesN v 4), .int .i64 0]
        simp [bytesN, Nat.div_div_eq_div_mul]
    · rw [if_neg (show ¬ v < 2 ^ (8 * ((n : Nat) : Int).toNat) from hl)]
      repeat (first | refine ctl ?_ | refine stp ?_ | refine stpD ?_ | refine stpK ?_ | refine cnt ?_ | refine cnf ?_ | refine ctl_ne ?_)
      exact ⟨.inr rfl, rfl⟩
  · rw [if_neg hc]
    repeat' (first | refine ctl ?_ | refine stp ?_ | refine stpD ?_ | refine stpK ?_ | refine cnt ?_ | refine cnf ?_ | refine ctl_ne ?_ | refine ev_if rfl (fun hc => ?_) (fun hc => ?_) | refine e_gifp rfl (fun hc => ?_) (fun hc => ?_) | refine d_gifp rfl (fun hc => ?_) (fun hc => ?_) | refine ev_ifn rfl (fun hc => ?_) (fun hc => ?_) | refine ev_ifb rfl (fun hc => ?_) (fun hc => ?_) | refine e_gif rfl (fun hc => ?_) (fun hc => ?_) | refine d_gif rfl (fun hc => ?_) (fun hc => ?_))
    all_goals (try (exfalso; omega))
    all_goals
      exact ⟨.inr rfl, rfl⟩
/-- The number of bytes. -/
def numN : List UInt8 → Nat → Nat
  | [], a => a
  | b :: r, a => numN r (a * 256 + b.toNat)
def numR (l : List UInt8) : PV := if 1 ≤ l.length ∧ l.length ≤ 4 then .tup [.int .u32 (numN l 0 : Nat), .int .i64 0] else .tup [.int .u32 0, .int .i64 1]
theorem numN_lt : ∀ (l : List UInt8) (a m : Nat), a < m → numN l a < m * 256 ^ l.length
  | [], a, m, h => by simpa [numN] using h
  | b :: r, a, m, h => by
    have h1 : a * 256 + b.toNat < m * 256 := by have := b.toNat_lt; omega
    have h2 := numN_lt r _ _ h1
    simp only [numN, List.length_cons, Nat.pow_succ]
    rw [Nat.mul_comm (256 ^ r.length), ← Nat.mul_assoc]
    exact h2
theorem numN_snoc : ∀ (l : List UInt8) (b : UInt8) (a : Nat), numN (l ++ [b]) a = numN l a * 256 + b.toNat
  | [], _, _ => rfl
  | _ :: r, b, _ => numN_snoc r b _
theorem numN_take (l : List UInt8) (i : Nat) (h : i < l.length) : numN (l.take (i + 1)) 0 = numN (l.take i) 0 * 256 + (l[i]).toNat := by
  rw [← List.take_append_getElem h, numN_snoc]
theorem s27 (l : List UInt8) (hl : l.length ≤ 9223372036854775807) : Ans cprog gl0 27 [.str l] [] (numR l) [] := by
  refine a27 rfl ?_
  delta k27
  unfold numR
  by_cases hc : 1 ≤ l.length ∧ l.length ≤ 4
  · rw [if_pos hc]
    repeat (first | refine ctl ?_ | refine stp ?_ | refine stpD ?_ | refine stpK ?_ | refine cnt ?_ | refine cnf ?_ | refine ctl_ne ?_)
    refine ev_while1 (L := fun i => [(0, .str l), (4, .int .u64 (numN (l.take i) 0 : Nat)), (5, .int .i64 (i : Nat))]) (S := fun _ => []) (I := fun i => i ≤ l.length) (μ := fun i => l.length - i) ?_ 0 _ (by first | omega | trivial | (repeat' constructor) <;> omega | (simp; done)) (by (repeat' (with_reducible first | exact has_nil | apply has_cons)); all_goals (first | exact rfl | (refine congrArg (PV.int _) ?_; first | omega | (simp; done))))
    intro i s hi ih
    have h1 := numN_lt (l.take i) 0 1 (by omega)
    have h2 : 256 ^ (l.take i).length ≤ 256 ^ 4 := Nat.pow_le_pow_right (by omega) (by simp; omega)
    repeat (first | refine ctl ?_ | refine stp ?_ | refine stpD ?_ | refine stpK ?_ | refine cnt ?_ | refine cnf ?_ | refine ctl_ne ?_)
    refine ev_if rfl (fun hc => ?_) (fun hc => ?_)
    · have hi' : i < l.length := by omega
      have h3 := numN_take l i hi'
      have h4 := (l[i]).toNat_lt
      repeat (first | refine ctl ?_ | refine stp ?_ | refine stpD ?_ | refine stpK ?_ | refine cnt ?_ | refine cnf ?_ | refine ctl_ne ?_)
      (first | refine opt (by exact op_ixs rfl rfl (by omega) (show l[((i : Nat) : Int).toNat]? = some l[i] from List.getElem?_eq_getElem hi')) ?_ | refine optn (by exact op_ixs rfl rfl (by omega) (show l[((i : Nat) : Int).toNat]? = some l[i] from List.getElem?_eq_getElem hi')) ?_ | refine optD (by exact op_ixs rfl rfl (by omega) (show l[((i : Nat) : Int).toNat]? = some l[i] from List.getElem?_eq_getElem hi')) ?_ | refine optnD (by exact op_ixs rfl rfl (by omega) (show l[((i : Nat) : Int).toNat]? = some l[i] from List.getElem?_eq_getElem hi')) ?_ | refine optK (by exact op_ixs rfl rfl (by omega) (show l[((i : Nat) : Int).toNat]? = some l[i] from List.getElem?_eq_getElem hi')) ?_ | refine optnK (by exact op_ixs rfl rfl (by omega) (show l[((i : Nat) : Int).toNat]? = some l[i] from List.getElem?_eq_getElem hi')) ?_)
      repeat (first | refine ctl ?_ | refine stp ?_ | refine stpD ?_ | refine stpK ?_ | refine cnt ?_ | refine cnf ?_ | refine ctl_ne ?_)
      refine again_n (ih (i + 1) _ (by omega) (by omega) ?_); (repeat' (with_reducible first | exact has_nil | apply has_cons)); all_goals (first | exact rfl | (refine congrArg (PV.int _) ?_; first | omega | skip) | skip)
    · have : i = l.length := by omega
      subst this
      rw [List.take_length] at *
      repeat (first | refine ctl ?_ | refine stp ?_ | refine stpD ?_ | refine stpK ?_ | refine cnt ?_ | refine cnf ?_ | refine ctl_ne ?_)
      exact ⟨.inr rfl, rfl⟩
  · rw [if_neg hc]
    repeat' (first | refine ctl ?_ | refine stp ?_ | refine stpD ?_ | refine stpK ?_ | refine cnt ?_ | refine cnf ?_ | refine ctl_ne ?_ | refine ev_if rfl (fun hc => ?_) (fun hc => ?_) | refine e_gifp rfl (fun hc => ?_) (fun hc => ?_) | refine d_gifp rfl (fun hc => ?_) (fun hc => ?_) | refine ev_ifn rfl (fun hc => ?_) (fun hc => ?_) | refine ev_ifb rfl (fun hc => ?_) (fun hc => ?_) | refine e_gif rfl (fun hc => ?_) (fun hc => ?_) | refine d_gif rfl (fun hc => ?_) (fun hc => ?_))
    all_goals (try (exfalso; omega))
    all_goals
      exact ⟨.inr rfl, rfl⟩
theorem shl_or (a b : Nat) (ha : a < 2 ^ 24) (hb : b < 256) : (a * 2 ^ (min 8 32) % 2 ^ 32) ||| b = a * 256 + b := by
  have h1 : a * 2 ^ (min 8 32) % 2 ^ 32 = a <<< 8 := by rw [Nat.shiftLeft_eq, Nat.min_eq_left (by omega), Nat.mod_eq_of_lt (by omega)]
  rw [h1, ← Nat.shiftLeft_add_eq_or_of_lt hb, Nat.shiftLeft_eq]
theorem s26 (l : List UInt8) (hl : l.length ≤ 9223372036854775807) : Ans cprog gl0 26 [.str l] [] (numR l) [] := by
  refine a26 rfl ?_
  delta k26
  unfold numR
  by_cases hc : 1 ≤ l.length ∧ l.length ≤ 4
  · rw [if_pos hc]
    have hne : ¬ l = [] := fun e => by subst e; simp at hc
    repeat (first | refine ctl ?_ | refine stp ?_ | refine stpD ?_ | refine stpK ?_ | refine cnt ?_ | refine cnf ?_ | refine ctl_ne ?_)
    refine ev_while1 (L := fun i => [(0, .str l), (4, .int .u32 (numN (l.take i) 0 : Nat)), (14, .int .i64 (l.length : Nat)), (15, .int .i64 (i : Nat))]) (S := fun _ => []) (I := fun i => i ≤ l.length) (μ := fun i => l.length - i) ?_ 0 _ (by first | omega | trivial | (repeat' constructor) <;> omega | (simp; done)) (by (repeat' (with_reducible first | exact has_nil | apply has_cons)); all_goals (first | exact rfl | (refine congrArg (PV.int _) ?_; first | omega | (simp; done))))
    intro i s hi ih
    have h1 := numN_lt (l.take i) 0 1 (by omega)
    repeat (first | refine ctl ?_ | refine stp ?_ | refine stpD ?_ | refine stpK ?_ | refine cnt ?_ | refine cnf ?_ | refine ctl_ne ?_)
    refine ev_if rfl (fun hc => ?_) (fun hc => ?_)
    · have hi' : i < l.length := by omega
      have h2 : 256 ^ (l.take i).length ≤ 256 ^ 3 := Nat.pow_le_pow_right (by omega) (by simp; omega)
      have h3 := numN_take l i hi'
      have h4 := (l[i]).toNat_lt
      repeat (first | refine ctl ?_ | refine stp ?_ | refine stpD ?_ | refine stpK ?_ | refine cnt ?_ | refine cnf ?_ | refine ctl_ne ?_)
      (first | refine opt (by exact op_shln (j := 8) rfl rfl rfl rfl rfl) ?_ | refine optn (by exact op_shln (j := 8) rfl rfl rfl rfl rfl) ?_ | refine optD (by exact op_shln (j := 8) rfl rfl rfl rfl rfl) ?_ | refine optnD (by exact op_shln (j := 8) rfl rfl rfl rfl rfl) ?_ | refine optK (by exact op_shln (j := 8) rfl rfl rfl rfl rfl) ?_ | refine optnK (by exact op_shln (j := 8) rfl rfl rfl rfl rfl) ?_)
      repeat (first | refine ctl ?_ | refine stp ?_ | refine stpD ?_ | refine stpK ?_ | refine cnt ?_ | refine cnf ?_ | refine ctl_ne ?_)
      (first | refine opt (by exact op_ixs rfl rfl (by omega) (show l[((i : Nat) : Int).toNat]? = some l[i] from List.getElem?_eq_getElem hi')) ?_ | refine optn (by exact op_ixs rfl rfl (by omega) (show l[((i : Nat) : Int).toNat]? = some l[i] from List.getElem?_eq_getElem hi')) ?_ | refine optD (by exact op_ixs rfl rfl (by omega) (show l[((i : Nat) : Int).toNat]? = some l[i] from List.getElem?_eq_getElem hi')) ?_ | refine optnD (by exact op_ixs rfl rfl (by omega) (show l[((i : Nat) : Int).toNat]? = some l[i] from List.getElem?_eq_getElem hi')) ?_ | refine optK (by exact op_ixs rfl rfl (by omega) (show l[((i : Nat) : Int).toNat]? = some l[i] from List.getElem?_eq_getElem hi')) ?_ | refine optnK (by exact op_ixs rfl rfl (by omega) (show l[((i : Nat) : Int).toNat]? = some l[i] from List.getElem?_eq_getElem hi')) ?_)
      repeat (first | refine ctl ?_ | refine stp ?_ | refine stpD ?_ | refine stpK ?_ | refine cnt ?_ | refine cnf ?_ | refine ctl_ne ?_)
      (first | refine opt (by exact op_bits rfl rfl (bin_or rfl (show _ < 2 ^ 32 from Nat.mod_lt _ (by decide)) (show _ < 2 ^ 32 by omega))) ?_ | refine optn (by exact op_bits rfl rfl (bin_or rfl (show _ < 2 ^ 32 from Nat.mod_lt _ (by decide)) (show _ < 2 ^ 32 by omega))) ?_ | refine optD (by exact op_bits rfl rfl (bin_or rfl (show _ < 2 ^ 32 from Nat.mod_lt _ (by decide)) (show _ < 2 ^ 32 by omega))) ?_ | refine optnD (by exact op_bits rfl rfl (bin_or rfl (show _ < 2 ^ 32 from Nat.mod_lt _ (by decide)) (show _ < 2 ^ 32 by omega))) ?_ | refine optK (by exact op_bits rfl rfl (bin_or rfl (show _ < 2 ^ 32 from Nat.mod_lt _ (by decide)) (show _ < 2 ^ 32 by omega))) ?_ | refine optnK (by exact op_bits rfl rfl (bin_or rfl (show _ < 2 ^ 32 from Nat.mod_lt _ (by decide)) (show _ < 2 ^ 32 by omega))) ?_)
      rw [show IntKind.u32.bits = 32 from rfl, shl_or _ _ (by omega) (by omega)]
      repeat (first | refine ctl ?_ | refine stp ?_ | refine stpD ?_ | refine stpK ?_ | refine cnt ?_ | refine cnf ?_ | refine ctl_ne ?_)
      refine again_n (ih (i + 1) _ (by omega) (by omega) ?_); (repeat' (with_reducible first | exact has_nil | apply has_cons)); all_goals (first | exact rfl | (refine congrArg (PV.int _) ?_; first | omega | skip) | skip)
    · have : i = l.length := by omega
      subst this
      rw [List.take_length] at *
      repeat (first | refine ctl ?_ | refine stp ?_ | refine stpD ?_ | refine stpK ?_ | refine cnt ?_ | refine cnf ?_ | refine ctl_ne ?_)
      exact ⟨.inr rfl, rfl⟩
  · rw [if_neg hc]
    by_cases hne : l = []
    · subst hne
      repeat (first | refine ctl ?_ | refine stp ?_ | refine stpD ?_ | refine stpK ?_ | refine cnt ?_ | refine cnf ?_ | refine ctl_ne ?_)
      exact ⟨.inr rfl, rfl⟩
    · have : l.length ≠ 0 := fun h => hne (List.eq_nil_of_length_eq_zero h)
      repeat' (first | refine ctl ?_ | refine stp ?_ | refine stpD ?_ | refine stpK ?_ | refine cnt ?_ | refine cnf ?_ | refine ctl_ne ?_ | refine ev_if rfl (fun hc => ?_) (fun hc => ?_) | refine e_gifp rfl (fun hc => ?_) (fun hc => ?_) | refine d_gifp rfl (fun hc => ?_) (fun hc => ?_) | refine ev_ifn rfl (fun hc => ?_) (fun hc => ?_) | refine ev_ifb rfl (fun hc => ?_) (fun hc => ?_) | refine e_gif rfl (fun hc => ?_) (fun hc => ?_) | refine d_gif rfl (fun hc => ?_) (fun hc => ?_))
      all_goals
        exact ⟨.inr rfl, rfl⟩
end Go.Proofs.YtfkaibibdmjgcaaDoor
