/-
  Turning a word: the plain law. Under no condition.
-/
import Derived.Test.YtfkaibibdmjgcaaDoorB3
namespace Go.Proofs.YtfkaibibdmjgcaaDoor
open Go Go.Vs




def rotN (w k : Nat) : Nat := (w * 2 ^ k) % 65536 + (w * 2 ^ k) / 65536
theorem it10_succ : ∀ (n : Nat) (x : Int), it10 (n + 1) x = step10 (it10 n x)
  | 0, _ => rfl
  | n + 1, x => it10_succ n (step10 x)
theorem rot_step (w k : Nat) (hw : w ≤ 65535) (hk : k < 16) : step10 (rotN w k) = rotN w (k + 1) := by
  unfold rotN
  have h : w * 2 ^ (k + 1) = 2 * (w * 2 ^ k) := by rw [Nat.pow_succ]; rw [← Nat.mul_assoc, Nat.mul_comm]
  rw [h]
  have : k = 0 ∨ k = 1 ∨ k = 2 ∨ k = 3 ∨ k = 4 ∨ k = 5 ∨ k = 6 ∨ k = 7 ∨ k = 8 ∨ k = 9 ∨ k = 10 ∨ k = 11 ∨ k = 12 ∨ k = 13 ∨ k = 14 ∨ k = 15 := by omega
  unfold step10
  rcases this with rfl | rfl | rfl | rfl | rfl | rfl | rfl | rfl | rfl | rfl | rfl | rfl | rfl | rfl | rfl | rfl <;> simp only [Nat.reducePow] <;> split <;> omega
theorem it10_rot (w : Nat) (hw : w ≤ 65535) : ∀ k, k ≤ 16 → it10 k w = rotN w k
  | 0, _ => by simp [it10, rotN]; omega
  | k + 1, hk => by rw [it10_succ, it10_rot w hw k (by omega), rot_step w k hw (by omega)]
theorem or_rot (w k : Nat) (hw : w ≤ 65535) (hk : k < 16) : ((w * 2 ^ k) % 65536) ||| (w / 2 ^ (16 - k)) = rotN w k := by
  have h1 : (w * 2 ^ k) / 65536 = w / 2 ^ (16 - k) := by
    have : 65536 = 2 ^ (16 - k) * 2 ^ k := by rw [← Nat.pow_add]; have : 16 - k + k = 16 := by omega
                                              rw [this]
    rw [this, Nat.mul_div_mul_right _ _ (Nat.two_pow_pos k)]
  have h2 : w / 2 ^ (16 - k) < 2 ^ k := by
    rw [Nat.div_lt_iff_lt_mul (Nat.two_pow_pos _), ← Nat.pow_add]
    have : k + (16 - k) = 16 := by omega
    rw [this]; omega
  have h3 : (w * 2 ^ k) % 65536 = (w % 2 ^ (16 - k)) <<< k := by
    have : 65536 = 2 ^ (16 - k) * 2 ^ k := by rw [← Nat.pow_add]; have : 16 - k + k = 16 := by omega
                                              rw [this]
    rw [this, Nat.mul_mod_mul_right, Nat.shiftLeft_eq]
  unfold rotN
  rw [h1, h3, ← Nat.shiftLeft_add_eq_or_of_lt h2]
end Go.Proofs.YtfkaibibdmjgcaaDoor
