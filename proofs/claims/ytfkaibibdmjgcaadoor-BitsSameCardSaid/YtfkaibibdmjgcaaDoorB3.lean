/-
  Turning a word: the program and its reference. Under no condition.
-/
import Derived.Test.YtfkaibibdmjgcaaDoorZk

namespace Go.Proofs.YtfkaibibdmjgcaaDoor
open Go Go.Vs
variable {gl : Nat → List PV}
theorem s13 (w : Int) (st : Store) : Ans cprog gl 13 [.int .u16 w] st (.int .i64 (IntKind.i64.wrap (IntKind.i16.wrap w))) st := by
  refine ans_of rfl rfl rfl (ev_seq (ev_region (ev_op rfl (ev_nil ?_))))
  refine ev_seq (ev_region ?_)
  repeat refine ev_op rfl ?_
  refine ev_nil ?_
  refine ev_ret ?_
  exact ⟨.inr rfl, rfl, _, rfl, rfl⟩
theorem and15 (b : Int) : ∃ k : Nat, k < 16 ∧ (k : Int) = b % 16 ∧ binE .and (.int .u64 (IntKind.u64.wrap b)) (.int .u64 15) = some (.int .u64 k) := by
  refine ⟨(b % 16).toNat, by omega, by omega, ?_⟩
  simp only [binE, if_true]
  congr 2
  have e1 : IntKind.u64.wrap b = b % 18446744073709551616 := by simp [IntKind.wrap, IntKind.bits, IntKind.signed]
  have e2 : (BitVec.ofInt IntKind.u64.bits (IntKind.u64.wrap b) &&& BitVec.ofInt IntKind.u64.bits 15).toNat = (b % 16).toNat := by
    rw [BitVec.toNat_and, e1]
    have : (BitVec.ofInt IntKind.u64.bits 15).toNat = 2 ^ 4 - 1 := by decide
    rw [this, Nat.and_two_pow_sub_one_eq_mod]
    simp [BitVec.toNat_ofInt, IntKind.bits]
    omega
  rw [e2]
  simp [IntKind.wrap, IntKind.bits, IntKind.signed]
  omega
theorem s9 (w b : Int) (st : Store) : ∃ k : Nat, k < 16 ∧ (k : Int) = b % 16 ∧ ∃ x, binE .or (.int .u16 (IntKind.u16.wrap (w * 2 ^ k))) (.int .u16 (w.fdiv (2 ^ (16 - k)))) = some x ∧ Ans cprog gl 9 [.int .u16 w, .int .i64 b] st x st := by
  obtain ⟨k, hk, hkb, hb⟩ := and15 b
  refine ⟨k, hk, hkb, .int .u16 (IntKind.u16.wrap (BitVec.ofInt IntKind.u16.bits (IntKind.u16.wrap (w * 2 ^ k)) ||| BitVec.ofInt IntKind.u16.bits (w.fdiv (2 ^ (16 - k)))).toNat), by simp only [binE, if_true], ?_⟩
  have h1 : min (k : Int).toNat IntKind.u16.bits = k := by simp [IntKind.bits, Nat.min_eq_left (by omega : k ≤ 16)]
  have h2 : min (IntKind.u64.wrap (16 - (k : Int))).toNat IntKind.u16.bits = 16 - k := by
    have : IntKind.u64.wrap (16 - (k : Int)) = 16 - (k : Int) := by simp [IntKind.wrap, IntKind.bits, IntKind.signed]; omega
    rw [this]; simp [IntKind.bits]
  have h3 : (0 : Int) ≤ IntKind.u64.wrap (16 - (k : Int)) := by simp [IntKind.wrap, IntKind.bits, IntKind.signed]; omega
  refine ans_of rfl rfl rfl (ev_seq (ev_region (ev_op rfl (ev_nil ?_))))
  refine ev_seq (ev_region ?_)
  refine ev_op rfl ?_
  refine ev_op rfl ?_
  refine ev_op (op_bin rfl rfl hb) ?_
  refine ev_op rfl (ev_nil ?_)
  refine ev_seq (ev_region ?_)
  refine ev_op rfl ?_
  refine ev_op rfl ?_
  refine ev_op (op_bin rfl rfl (bin_shl (by omega))) ?_
  refine ev_op rfl ?_
  refine ev_op rfl ?_
  refine ev_op (op_bin rfl rfl rfl) ?_
  refine ev_op (op_bin rfl rfl (bin_shr h3)) ?_
  refine ev_op (op_bin rfl rfl (by rw [h1, h2]; rfl)) ?_
  refine ev_op rfl (ev_nil ?_)
  refine ev_ret ?_
  exact ⟨.inr rfl, rfl, _, rfl, rfl⟩
def step10 (x : Int) : Int := if x * 2 > 65535 then x * 2 - 65535 else x * 2
def it10 : Nat → Int → Int
  | 0, x => x
  | n + 1, x => it10 n (step10 x)
def L10 : C := (.seq (.seq (.region [⟨(.some 16), .none, (.mov (.tmp 7))⟩, ⟨(.some 17), .none, (.mov (.tmp 5))⟩, ⟨(.some 18), .none, (.bin .lss (.tmp 16) (.tmp 17))⟩]) (.cond (.tmp 18) .skip (.exit 0))) (.seq (.block 1 (.seq (.region [⟨(.some 21), .none, (.mov (.tmp 6))⟩, ⟨(.some 22), .none, (.bin .mul (.tmp 21) (.const (.int .i64 2)))⟩, ⟨(.some 6), .none, (.mov (.tmp 22))⟩]) (.seq (.region [⟨(.some 23), .none, (.mov (.tmp 6))⟩, ⟨(.some 24), .none, (.bin .gtr (.tmp 23) (.const (.int .i64 65535)))⟩]) (.cond (.tmp 24) (.region [⟨(.some 25), .none, (.mov (.tmp 6))⟩, ⟨(.some 26), .none, (.bin .sub (.tmp 25) (.const (.int .i64 65535)))⟩, ⟨(.some 6), .none, (.mov (.tmp 26))⟩]) .skip)))) (.region [⟨(.some 19), .none, (.mov (.tmp 7))⟩, ⟨(.some 20), .none, (.bin .add (.tmp 19) (.const (.int .i64 1)))⟩, ⟨(.some 7), .none, (.mov (.tmp 20))⟩])))
theorem wrap64 {n : Int} (h1 : -9223372036854775808 ≤ n) (h2 : n ≤ 9223372036854775807) : IntKind.i64.wrap n = n := by
  simp [IntKind.wrap, IntKind.bits, IntKind.signed]
  omega
theorem upd3 {s : Slots} {a b c : Nat} {x y z : PV} (h1 : s a = x) (h2 : s b = y) (h3 : s c = z) : s = upd (upd (upd s a x) b y) c z := by
  rw [← upd_self h1, ← upd_self h2, ← upd_self h3]
theorem l10 (k : Nat) (hk : k ≤ 16) (st : Store) : ∀ (m i : Nat) (x : Int) (s : Slots), i + m = k → 0 ≤ x → x ≤ 65535 → s 5 = .int .i64 k → s 6 = .int .i64 x → s 7 = .int .i64 i →
    Ev (EE cprog gl (.loop L10 s st)) (fun r => r.ex = .exit 0 ∧ r.st = st ∧ r.s 6 = .int .i64 (it10 m x)) := by
  intro m
  induction m with
  | zero =>
    intro i x s hi h0 h1 h5 h6 h7
    rw [upd3 h5 h6 h7]
    refine ev_round (ev_seq (ev_seq (ev_region ?_)))
    refine ev_op rfl ?_
    refine ev_op rfl ?_
    refine ev_op (op_bin rfl rfl rfl) (ev_nil ?_)
    refine ev_cond (t := false) (by show PV.bool (decide ((i : Int) < k)) = _; rw [decide_eq_false (by omega)]) ?_
    refine ev_exit ?_
    exact ⟨rfl, rfl, rfl⟩
  | succ m ih =>
    intro i x s hi h0 h1 h5 h6 h7
    rw [upd3 h5 h6 h7]
    refine ev_round (ev_seq (ev_seq (ev_region ?_)))
    refine ev_op rfl ?_
    refine ev_op rfl ?_
    refine ev_op (op_bin rfl rfl rfl) (ev_nil ?_)
    refine ev_cond (t := true) (by show PV.bool (decide ((i : Int) < k)) = _; rw [decide_eq_true (by omega)]) ?_
    refine ev_skip ?_
    refine ev_seq (ev_block (ev_seq (ev_region ?_)))
    refine ev_op rfl ?_
    refine ev_op (op_bin rfl rfl (by show some (PV.int .i64 (IntKind.i64.wrap (x * 2))) = _; rw [wrap64 (by omega) (by omega)])) ?_
    refine ev_op rfl (ev_nil ?_)
    refine ev_seq (ev_region ?_)
    refine ev_op rfl ?_
    refine ev_op (op_bin rfl rfl rfl) (ev_nil ?_)
    have h7' : IntKind.i64.wrap ((i : Int) + 1) = ((i + 1 : Nat) : Int) := by rw [wrap64 (by omega) (by omega)]; omega
    by_cases hc : x * 2 > 65535
    · refine ev_cond (t := true) (by show PV.bool (decide (x * 2 > 65535)) = _; rw [decide_eq_true hc]) ?_
      refine ev_region ?_
      refine ev_op rfl ?_
      refine ev_op (op_bin rfl rfl (by show some (PV.int .i64 (IntKind.i64.wrap (x * 2 - 65535))) = _; rw [wrap64 (by omega) (by omega)])) ?_
      refine ev_op rfl (ev_nil ?_)
      refine ev_region ?_
      refine ev_op rfl ?_
      refine ev_op (op_bin rfl rfl rfl) ?_
      refine ev_op rfl (ev_nil ?_)
      have hs : step10 x = x * 2 - 65535 := by simp [step10, hc]
      refine ih (i + 1) (step10 x) _ (by omega) (by omega) (by omega) rfl (congrArg (PV.int .i64) hs.symm) (congrArg (PV.int .i64) h7')
    · refine ev_cond (t := false) (by show PV.bool (decide (x * 2 > 65535)) = _; rw [decide_eq_false hc]) ?_
      refine ev_skip ?_
      refine ev_region ?_
      refine ev_op rfl ?_
      refine ev_op (op_bin rfl rfl rfl) ?_
      refine ev_op rfl (ev_nil ?_)
      have hs : step10 x = x * 2 := by simp [step10, hc]
      refine ih (i + 1) (step10 x) _ (by omega) (by omega) (by omega) rfl (congrArg (PV.int .i64) hs.symm) (congrArg (PV.int .i64) h7')
theorem tm16 (b : Int) : b.tmod 16 = if 0 ≤ b then b % 16 else -((-b) % 16) := by
  split
  · rename_i h; exact Int.tmod_eq_emod_of_nonneg h
  · rename_i h
    rw [← Int.tmod_eq_emod_of_nonneg (by omega), Int.neg_tmod, Int.neg_neg]
theorem s10 (w b : Int) (hw : 0 ≤ w ∧ w ≤ 65535) (k : Nat) (hk : k < 16) (hb : (k : Int) = b % 16) (st : Store) : Ans cprog gl 10 [.int .u16 w, .int .i64 b] st (.int .u16 (IntKind.u16.wrap (it10 k w))) st := by
  have w64 : IntKind.i64.wrap w = w := wrap64 (by omega) (by omega)
  have fin : ∀ s : Slots, s 5 = .int .i64 k → s 0 = .int .u16 w → Ev (evalC (EE cprog gl) gl (.seq (.region [⟨(.some 14), .none, (.mov (.tmp 0))⟩, ⟨(.some 15), .none, (.cvi .i64 (.tmp 14))⟩, ⟨(.some 6), .none, (.mov (.tmp 15))⟩]) (.seq (.seq (.region [⟨(.some 7), .none, (.mov (.const (.int .i64 0)))⟩]) (.block 0 (.loop L10))) (.seq (.region [⟨(.some 27), .none, (.mov (.tmp 6))⟩, ⟨(.some 28), .none, (.cvi .u16 (.tmp 27))⟩, ⟨(.some 4), .none, (.mov (.tmp 28))⟩]) .ret))) s st) (Left1 false [.tmp 4] st (.int .u16 (IntKind.u16.wrap (it10 k w)))) := by
    intro s h5 h0
    rw [upd_self h5, upd_self h0]
    refine ev_seq (ev_region ?_)
    refine ev_op rfl ?_
    refine ev_op (v := .int .i64 w) (by show some (PV.int .i64 (IntKind.i64.wrap w), st) = _; rw [w64]) ?_
    refine ev_op rfl (ev_nil ?_)
    refine ev_seq (ev_seq (ev_region ?_))
    refine ev_op rfl (ev_nil ?_)
    refine ev_block (ev_loop ?_)
    refine (l10 k (by omega) st k 0 w _ (by omega) hw.1 hw.2 rfl rfl rfl).mono fun r hr => ?_
    obtain ⟨ex, vv, sl, sto⟩ := r
    obtain ⟨e1, e2, e3⟩ := hr
    simp only [] at e1 e2 e3
    subst e1
    subst e2
    rw [upd_self e3]
    refine ev_seq (ev_region ?_)
    refine ev_op rfl ?_
    refine ev_op rfl ?_
    refine ev_op rfl (ev_nil ?_)
    refine ev_ret ?_
    exact ⟨.inr rfl, rfl, _, rfl, rfl⟩
  refine ans_of rfl rfl rfl (ev_seq (ev_region (ev_op rfl (ev_nil ?_))))
  refine ev_seq (ev_region ?_)
  refine ev_op rfl ?_
  refine ev_op (op_bin rfl rfl rfl) ?_
  refine ev_op rfl (ev_nil ?_)
  refine ev_seq (ev_seq (ev_region ?_))
  refine ev_op rfl ?_
  refine ev_op (op_bin rfl rfl rfl) (ev_nil ?_)
  have ht := tm16 b
  by_cases hc : b.tmod 16 < 0
  · refine ev_cond (t := true) (by show PV.bool (decide (b.tmod 16 < 0)) = _; rw [decide_eq_true hc]) ?_
    refine ev_region ?_
    refine ev_op rfl ?_
    refine ev_op (op_bin rfl rfl rfl) ?_
    refine ev_op rfl (ev_nil ?_)
    refine fin _ ?_ rfl
    have : IntKind.i64.wrap (b.tmod 16 + 16) = k := by rw [wrap64 (by split at ht <;> omega) (by split at ht <;> omega)]; split at ht <;> omega
    exact congrArg (PV.int .i64) this
  · refine ev_cond (t := false) (by show PV.bool (decide (b.tmod 16 < 0)) = _; rw [decide_eq_false hc]) ?_
    refine ev_skip ?_
    refine fin _ ?_ rfl
    have : b.tmod 16 = k := by split at ht <;> omega
    exact congrArg (PV.int .i64) this
end Go.Proofs.YtfkaibibdmjgcaaDoor
