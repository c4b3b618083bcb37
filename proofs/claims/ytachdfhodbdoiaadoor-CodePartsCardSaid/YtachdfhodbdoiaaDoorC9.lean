/-
  A law of code: CodeBack. Under no condition.
-/
import Derived.Test.YtachdfhodbdoiaaDoorC8
namespace Go.Proofs.YtachdfhodbdoiaaDoor
open Go Go.Vs
set_option linter.unusedSimpArgs false
set_option linter.unusedVariables false
theorem toNat_of {n : Nat} (h : n < 256) : (UInt8.ofNat n).toNat = n := by simp; omega
theorem dec_plain (o a b n : Nat) (t : List UInt8) (h : isI o a b n) : decT (plainI o a b n ++ t) = some (o, a, b, n) ∧ (plainI o a b n).length = sizeS (shapeN o) := by
  obtain ⟨h1, h2, h3, h4⟩ := h
  simp only [Int.toNat_natCast] at h2 h3 h4
  have ho : o < 21 := by omega
  have e0 : (UInt8.ofNat o).toNat = o := toNat_of (by omega)
  have hs : shapeN o = 0 ∨ shapeN o = 1 ∨ shapeN o = 2 ∨ shapeN o = 3 ∨ shapeN o = 4 := by have := shape_le o; omega
  obtain ⟨t0, t1, t2, t3, t4⟩ := lim_tab (shapeN o)
  rcases hs with hs | hs | hs | hs | hs
  · obtain ⟨e1, e2, e3⟩ := t0 hs
    rw [e1] at h2; rw [e2] at h3; rw [e3] at h4
    have : plainI o a b n = [UInt8.ofNat o] := by simp only [plainI, hs]; rfl
    rw [this, hs]
    refine ⟨?_, rfl⟩
    simp only [List.cons_append, List.nil_append, decT, e0, hs, ho, if_true]
    simp; omega
  · obtain ⟨e1, e2, e3⟩ := t1 hs
    rw [e1] at h2; rw [e2] at h3; rw [e3] at h4
    have : plainI o a b n = [UInt8.ofNat o, UInt8.ofNat (a * 16 + b), UInt8.ofNat (n / 256), UInt8.ofNat (n % 256)] := by simp only [plainI, hs]; rfl
    rw [this, hs]
    refine ⟨?_, rfl⟩
    have q1 : (UInt8.ofNat (a * 16 + b)).toNat = a * 16 + b := toNat_of (by omega)
    have q2 : (UInt8.ofNat (n / 256)).toNat = n / 256 := toNat_of (by omega)
    have q3 : (UInt8.ofNat (n % 256)).toNat = n % 256 := toNat_of (by omega)
    simp only [List.cons_append, List.nil_append, decT, e0, hs, ho, if_true, q1, q2, q3]
    have r1 : (a * 16 + b) / 16 = a := by omega
    have r2 : (a * 16 + b) % 16 = b := by omega
    have r3 : n / 256 * 256 + n % 256 = n := by omega
    rw [r1, r2, r3]
    rfl
  · obtain ⟨e1, e2, e3⟩ := t2 hs
    rw [e1] at h2; rw [e2] at h3; rw [e3] at h4
    have : plainI o a b n = [UInt8.ofNat o, UInt8.ofNat (a * 16 + b)] := by simp only [plainI, hs]; rfl
    rw [this, hs]
    refine ⟨?_, rfl⟩
    have q1 : (UInt8.ofNat (a * 16 + b)).toNat = a * 16 + b := toNat_of (by omega)
    simp only [List.cons_append, List.nil_append, decT, e0, hs, ho, if_true, q1]
    have r1 : (a * 16 + b) / 16 = a := by omega
    have r2 : (a * 16 + b) % 16 = b := by omega
    have r3 : n = 0 := by omega
    rw [r1, r2, r3]
    rfl
  · obtain ⟨e1, e2, e3⟩ := t3 hs
    rw [e1] at h2; rw [e2] at h3; rw [e3] at h4
    have : plainI o a b n = [UInt8.ofNat o, UInt8.ofNat (n / 256), UInt8.ofNat (n % 256)] := by simp only [plainI, hs]; rfl
    rw [this, hs]
    refine ⟨?_, rfl⟩
    have q2 : (UInt8.ofNat (n / 256)).toNat = n / 256 := toNat_of (by omega)
    have q3 : (UInt8.ofNat (n % 256)).toNat = n % 256 := toNat_of (by omega)
    simp only [List.cons_append, List.nil_append, decT, e0, hs, ho, if_true, q2, q3]
    have r1 : a = 0 := by omega
    have r2 : b = 0 := by omega
    have r3 : n / 256 * 256 + n % 256 = n := by omega
    rw [r1, r2, r3]
    rfl
  · obtain ⟨e1, e2, e3⟩ := t4 hs
    rw [e1] at h2; rw [e2] at h3; rw [e3] at h4
    have : plainI o a b n = [UInt8.ofNat o, UInt8.ofNat (n % 256)] := by simp only [plainI, hs]; rfl
    rw [this, hs]
    refine ⟨?_, rfl⟩
    have q3 : (UInt8.ofNat (n % 256)).toNat = n % 256 := toNat_of (by omega)
    simp only [List.cons_append, List.nil_append, decT, e0, hs, ho, if_true, q3]
    have r1 : a = 0 := by omega
    have r2 : b = 0 := by omega
    have r3 : n % 256 = n := by omega
    rw [r1, r2, r3]
    rfl
theorem law4 (o a b n : Int) (t : List UInt8) (hL : t.length ≤ 9223372036854775807) : Ans cprog gl0 4 [.agg [.int .i64 o, .int .i64 a, .int .i64 b, .int .i64 n], .str t] [] (.bool true) [] := by
  refine a4 rfl ?_
  delta k4
  have h1 := s8 o a b n
  unfold bytesI at h1
  by_cases ht : t.length ≤ 300
  · by_cases hI : isI o a b n
    · rw [if_pos hI] at h1
      have hI' := hI
      obtain ⟨i1, i2, i3, i4⟩ := hI'
      obtain ⟨o, rfl⟩ := Int.eq_ofNat_of_zero_le i1.1
      obtain ⟨a, rfl⟩ := Int.eq_ofNat_of_zero_le i2.1
      obtain ⟨b, rfl⟩ := Int.eq_ofNat_of_zero_le i3.1
      obtain ⟨n, rfl⟩ := Int.eq_ofNat_of_zero_le i4.1
      replace h1 : Ans cprog gl0 8 [.agg [.int .i64 o, .int .i64 a, .int .i64 b, .int .i64 n]] [] (.tup [.str (plainI o a b n), .int .i64 0]) [] := h1
      obtain ⟨d1, d2⟩ := dec_plain o a b n t hI
      have hsz : sizeS (shapeN o) ≤ 4 ∧ 1 ≤ sizeS (shapeN o) := by
        have hs : shapeN o = 0 ∨ shapeN o = 1 ∨ shapeN o = 2 ∨ shapeN o = 3 ∨ shapeN o = 4 := by have := shape_le o; omega
        rcases hs with hs | hs | hs | hs | hs <;> rw [hs] <;> decide
      have h2 := s11 (plainI o a b n ++ t) (by simp; omega) 0
      have ha : atR (plainI o a b n ++ t) 0 = .tup [instV o a b n, .int .i64 (sizeS (shapeN o) : Nat), .int .i64 0] := by
        unfold atR atS
        rw [if_pos (by simp; omega)]
        show (match (match decT ((plainI o a b n ++ t).drop 0) with | some (o, a, b, n) => if isI o a b n then AtR.good o a b n (0 + sizeS (shapeN o)) else .bad 4 | none => .bad 4) with | .bad e => _ | .good o a b n q => _) = _
        rw [List.drop_zero, d1]
        dsimp only
        rw [if_pos hI, Nat.zero_add]
      rw [ha] at h2
      have h3 := s13 o
      have hz : sizeR ((o : Nat) : Int) = sizeS (shapeN o) := by unfold sizeR; rw [if_pos i1]; rfl
      rw [hz] at h3
      have hadd : (plainI o a b n).length + t.length ≤ 9223372036854775807 := by omega
      repeat (first | refine ctl ?_ | refine stp ?_ | refine stpD ?_ | refine stpK ?_ | refine cnt ?_ | refine cnf ?_ | refine ctl_ne ?_ | refine opt (clp hgl0 cprog_okC (by exact rfl) (h1)) ?_ | refine optD (clp hgl0 cprog_okC (by exact rfl) (h1)) ?_ | refine optK (clp hgl0 cprog_okC (by exact rfl) (h1)) ?_ | refine opt (clp hgl0 cprog_okC (by exact rfl) (h2)) ?_ | refine optD (clp hgl0 cprog_okC (by exact rfl) (h2)) ?_ | refine optK (clp hgl0 cprog_okC (by exact rfl) (h2)) ?_ | refine opt (clp hgl0 cprog_okC (by exact rfl) (h3)) ?_ | refine optD (clp hgl0 cprog_okC (by exact rfl) (h3)) ?_ | refine optK (clp hgl0 cprog_okC (by exact rfl) (h3)) ?_ | refine opt (clp hgl0 cprog_okC (by exact rfl) (set15)) ?_ | refine optD (clp hgl0 cprog_okC (by exact rfl) (set15)) ?_ | refine optK (clp hgl0 cprog_okC (by exact rfl) (set15)) ?_)
      (first | refine opt (by exact op_eqs rfl rfl (eq4 _ _ _ _)) ?_ | refine optn (by exact op_eqs rfl rfl (eq4 _ _ _ _)) ?_ | refine optD (by exact op_eqs rfl rfl (eq4 _ _ _ _)) ?_ | refine optnD (by exact op_eqs rfl rfl (eq4 _ _ _ _)) ?_ | refine optK (by exact op_eqs rfl rfl (eq4 _ _ _ _)) ?_ | refine optnK (by exact op_eqs rfl rfl (eq4 _ _ _ _)) ?_)
      repeat (first | refine ctl ?_ | refine stp ?_ | refine stpD ?_ | refine stpK ?_ | refine cnt ?_ | refine cnf ?_ | refine ctl_ne ?_ | refine opt (clp hgl0 cprog_okC (by exact rfl) (h1)) ?_ | refine optD (clp hgl0 cprog_okC (by exact rfl) (h1)) ?_ | refine optK (clp hgl0 cprog_okC (by exact rfl) (h1)) ?_ | refine opt (clp hgl0 cprog_okC (by exact rfl) (h2)) ?_ | refine optD (clp hgl0 cprog_okC (by exact rfl) (h2)) ?_ | refine optK (clp hgl0 cprog_okC (by exact rfl) (h2)) ?_ | refine opt (clp hgl0 cprog_okC (by exact rfl) (h3)) ?_ | refine optD (clp hgl0 cprog_okC (by exact rfl) (h3)) ?_ | refine optK (clp hgl0 cprog_okC (by exact rfl) (h3)) ?_ | refine opt (clp hgl0 cprog_okC (by exact rfl) (set15)) ?_ | refine optD (clp hgl0 cprog_okC (by exact rfl) (set15)) ?_ | refine optK (clp hgl0 cprog_okC (by exact rfl) (set15)) ?_)
      exact ⟨.inr rfl, rfl⟩
    · rw [if_neg hI] at h1
      repeat (first | refine ctl ?_ | refine stp ?_ | refine stpD ?_ | refine stpK ?_ | refine cnt ?_ | refine cnf ?_ | refine ctl_ne ?_ | refine opt (clp hgl0 cprog_okC (by exact rfl) (h1)) ?_ | refine optD (clp hgl0 cprog_okC (by exact rfl) (h1)) ?_ | refine optK (clp hgl0 cprog_okC (by exact rfl) (h1)) ?_ | refine opt (clp hgl0 cprog_okC (by exact rfl) (set15)) ?_ | refine optD (clp hgl0 cprog_okC (by exact rfl) (set15)) ?_ | refine optK (clp hgl0 cprog_okC (by exact rfl) (set15)) ?_)
      exact ⟨.inr rfl, rfl⟩
  · repeat (first | refine ctl ?_ | refine stp ?_ | refine stpD ?_ | refine stpK ?_ | refine cnt ?_ | refine cnf ?_ | refine ctl_ne ?_ | refine opt (clp hgl0 cprog_okC (by exact rfl) (set15)) ?_ | refine optD (clp hgl0 cprog_okC (by exact rfl) (set15)) ?_ | refine optK (clp hgl0 cprog_okC (by exact rfl) (set15)) ?_)
    exact ⟨.inr rfl, rfl⟩
end Go.Proofs.YtachdfhodbdoiaaDoor
