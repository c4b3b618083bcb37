/-
  The reference of code: the instruction at any place of any code. Under no condition.
-/
import Derived.Test.YtachdfhodbdoiaaDoorC5
namespace Go.Proofs.YtachdfhodbdoiaaDoor
open Go Go.Vs
set_option linter.unusedSimpArgs false
set_option linter.unusedVariables false
theorem drop_next {l : List UInt8} {p k : Nat} {t : List UInt8} {x : UInt8} (h : l.drop p = t) (hx : t[k]? = some x) : l[p + k]? = some x := by
  rw [← h, List.getElem?_drop] at hx
  exact hx
theorem ref_of (o s : Nat) (ho : o < 21) (hs : shapeN o = s) : (s = 0 → regsN o = 0 ∧ numNn o = 0) ∧ (s = 1 → regsN o = 1 ∧ numNn o = 2) ∧ (s = 2 → regsN o = 2 ∧ numNn o = 0) ∧ (s = 3 → regsN o = 0 ∧ numNn o = 2) ∧ (s = 4 → regsN o = 0 ∧ numNn o = 1) := by
  rcases ref_tab o ho with ⟨h1, h2, h3⟩ | ⟨h1, h2, h3⟩ | ⟨h1, h2, h3⟩ | ⟨h1, h2, h3⟩ | ⟨h1, h2, h3⟩ <;> (rw [h1] at hs; subst hs; simp [h2, h3])
theorem s12_0 (l r : List UInt8) (hL : l.length ≤ 9223372036854775807) (p : Nat) (o : UInt8) (hd : l.drop p = o :: r) (ho : o.toNat < 21) (hs : shapeN o.toNat = 0) : Ans cprog gl0 12 [.str l, .int .i64 p] [] (if isI (o.toNat : Nat) (0 : Nat) (0 : Nat) (0 : Nat) then .agg [.int .i64 o.toNat, .int .i64 (0 : Nat), .int .i64 (0 : Nat), .int .i64 (0 : Nat), .int .i64 (p + 1 : Nat), .int .i64 0] else .agg [.int .i64 0, .int .i64 0, .int .i64 0, .int .i64 0, .int .i64 0, .int .i64 4]) [] := by
  refine a12 rfl ?_
  delta k12
  have hl := drop_len hd
  have hg := drop_get hd
  have hz : sizeR ((o.toNat : Nat) : Int) = 1 := by rw [size_of o ho, hs]; rfl
  have g14 := s14 o.toNat
  rw [hz] at g14
  have g28 := s28 o.toNat
  rw [((ref_of o.toNat 0 ho hs).1 rfl).1] at g28
  simp only [List.length_cons] at hl
  have bo := o.toNat_lt
  repeat (first | refine ctl ?_ | refine stpS ?_ | refine stpD ?_ | refine stpK ?_ | refine cnt ?_ | refine cnf ?_ | refine ctl_ne ?_ | (with_reducible first | refine again_n ?_ | refine ev_round ?_) | refine opt (clp hgl0 cprog_okC (by exact rfl) (g14)) ?_ | refine optD (clp hgl0 cprog_okC (by exact rfl) (g14)) ?_ | refine optK (clp hgl0 cprog_okC (by exact rfl) (g14)) ?_ | refine opt (clp hgl0 cprog_okC (by exact rfl) (g28)) ?_ | refine optD (clp hgl0 cprog_okC (by exact rfl) (g28)) ?_ | refine optK (clp hgl0 cprog_okC (by exact rfl) (g28)) ?_)
  have g24 := s24 o.toNat (0 : Nat) (0 : Nat) (0 : Nat)
  by_cases hI : isI (o.toNat : Nat) (0 : Nat) (0 : Nat) (0 : Nat)
  · rw [if_pos hI]
    repeat (first | refine ctl ?_ | refine stp ?_ | refine stpD ?_ | refine stpK ?_ | refine cnt ?_ | refine cnf ?_ | refine ctl_ne ?_ | refine opt (clp hgl0 cprog_okC (by exact rfl) (g24)) ?_ | refine optD (clp hgl0 cprog_okC (by exact rfl) (g24)) ?_ | refine optK (clp hgl0 cprog_okC (by exact rfl) (g24)) ?_)
    exact ⟨.inr rfl, rfl⟩
  · rw [if_neg hI]
    repeat (first | refine ctl ?_ | refine stp ?_ | refine stpD ?_ | refine stpK ?_ | refine cnt ?_ | refine cnf ?_ | refine ctl_ne ?_ | refine opt (clp hgl0 cprog_okC (by exact rfl) (g24)) ?_ | refine optD (clp hgl0 cprog_okC (by exact rfl) (g24)) ?_ | refine optK (clp hgl0 cprog_okC (by exact rfl) (g24)) ?_)
    exact ⟨.inr rfl, rfl⟩
theorem s12_1 (l r : List UInt8) (hL : l.length ≤ 9223372036854775807) (p : Nat) (o x h e : UInt8) (hd : l.drop p = o :: x :: h :: e :: r) (ho : o.toNat < 21) (hs : shapeN o.toNat = 1) : Ans cprog gl0 12 [.str l, .int .i64 p] [] (if isI (o.toNat : Nat) ((x.toNat / 16) : Nat) ((x.toNat % 16) : Nat) ((h.toNat * 256 + e.toNat) : Nat) then .agg [.int .i64 o.toNat, .int .i64 ((x.toNat / 16) : Nat), .int .i64 ((x.toNat % 16) : Nat), .int .i64 ((h.toNat * 256 + e.toNat) : Nat), .int .i64 (p + 4 : Nat), .int .i64 0] else .agg [.int .i64 0, .int .i64 0, .int .i64 0, .int .i64 0, .int .i64 0, .int .i64 4]) [] := by
  refine a12 rfl ?_
  delta k12
  have hl := drop_len hd
  have hg := drop_get hd
  have hz : sizeR ((o.toNat : Nat) : Int) = 4 := by rw [size_of o ho, hs]; rfl
  have g14 := s14 o.toNat
  rw [hz] at g14
  have g28 := s28 o.toNat
  rw [((ref_of o.toNat 1 ho hs).2.1 rfl).1] at g28
  simp only [List.length_cons] at hl
  have bo := o.toNat_lt
  have bx := x.toNat_lt
  have bh := h.toNat_lt
  have be := e.toNat_lt
  have gx : l[((p : Int) + 1).toNat]? = some x := by
    have := drop_next (k := 1) hd rfl
    rw [show ((p : Int) + 1).toNat = p + 1 by omega]
    exact this
  have gh : l[((p : Int) + 1 + 1).toNat]? = some h := by
    have := drop_next (k := 2) hd rfl
    rw [show ((p : Int) + 1 + 1).toNat = p + 2 by omega]
    exact this
  have ge : l[((p : Int) + 1 + 1 + 1).toNat]? = some e := by
    have := drop_next (k := 3) hd rfl
    rw [show ((p : Int) + 1 + 1 + 1).toNat = p + 3 by omega]
    exact this
  repeat (first | refine ctl ?_ | refine stpS ?_ | refine stpD ?_ | refine stpK ?_ | refine cnt ?_ | refine cnf ?_ | refine ctl_ne ?_ | (with_reducible first | refine again_n ?_ | refine ev_round ?_) | refine opt (clp hgl0 cprog_okC (by exact rfl) (g14)) ?_ | refine optD (clp hgl0 cprog_okC (by exact rfl) (g14)) ?_ | refine optK (clp hgl0 cprog_okC (by exact rfl) (g14)) ?_ | refine opt (clp hgl0 cprog_okC (by exact rfl) (g28)) ?_ | refine optD (clp hgl0 cprog_okC (by exact rfl) (g28)) ?_ | refine optK (clp hgl0 cprog_okC (by exact rfl) (g28)) ?_)
  rw [show (256 * (256 * 0 + (h.toNat : Int)) + e.toNat) = ((h.toNat * 256 + e.toNat : Nat) : Int) by omega]
  have g24 := s24 o.toNat ((x.toNat / 16) : Nat) ((x.toNat % 16) : Nat) ((h.toNat * 256 + e.toNat) : Nat)
  by_cases hI : isI (o.toNat : Nat) ((x.toNat / 16) : Nat) ((x.toNat % 16) : Nat) ((h.toNat * 256 + e.toNat) : Nat)
  · rw [if_pos hI]
    repeat (first | refine ctl ?_ | refine stp ?_ | refine stpD ?_ | refine stpK ?_ | refine cnt ?_ | refine cnf ?_ | refine ctl_ne ?_ | refine opt (clp hgl0 cprog_okC (by exact rfl) (g24)) ?_ | refine optD (clp hgl0 cprog_okC (by exact rfl) (g24)) ?_ | refine optK (clp hgl0 cprog_okC (by exact rfl) (g24)) ?_)
    exact ⟨.inr rfl, rfl⟩
  · rw [if_neg hI]
    repeat (first | refine ctl ?_ | refine stp ?_ | refine stpD ?_ | refine stpK ?_ | refine cnt ?_ | refine cnf ?_ | refine ctl_ne ?_ | refine opt (clp hgl0 cprog_okC (by exact rfl) (g24)) ?_ | refine optD (clp hgl0 cprog_okC (by exact rfl) (g24)) ?_ | refine optK (clp hgl0 cprog_okC (by exact rfl) (g24)) ?_)
    exact ⟨.inr rfl, rfl⟩
theorem s12_2 (l r : List UInt8) (hL : l.length ≤ 9223372036854775807) (p : Nat) (o x : UInt8) (hd : l.drop p = o :: x :: r) (ho : o.toNat < 21) (hs : shapeN o.toNat = 2) : Ans cprog gl0 12 [.str l, .int .i64 p] [] (if isI (o.toNat : Nat) ((x.toNat / 16) : Nat) ((x.toNat % 16) : Nat) (0 : Nat) then .agg [.int .i64 o.toNat, .int .i64 ((x.toNat / 16) : Nat), .int .i64 ((x.toNat % 16) : Nat), .int .i64 (0 : Nat), .int .i64 (p + 2 : Nat), .int .i64 0] else .agg [.int .i64 0, .int .i64 0, .int .i64 0, .int .i64 0, .int .i64 0, .int .i64 4]) [] := by
  refine a12 rfl ?_
  delta k12
  have hl := drop_len hd
  have hg := drop_get hd
  have hz : sizeR ((o.toNat : Nat) : Int) = 2 := by rw [size_of o ho, hs]; rfl
  have g14 := s14 o.toNat
  rw [hz] at g14
  have g28 := s28 o.toNat
  rw [((ref_of o.toNat 2 ho hs).2.2.1 rfl).1] at g28
  simp only [List.length_cons] at hl
  have bo := o.toNat_lt
  have bx := x.toNat_lt
  have gx : l[((p : Int) + 1).toNat]? = some x := by
    have := drop_next (k := 1) hd rfl
    rw [show ((p : Int) + 1).toNat = p + 1 by omega]
    exact this
  repeat (first | refine ctl ?_ | refine stpS ?_ | refine stpD ?_ | refine stpK ?_ | refine cnt ?_ | refine cnf ?_ | refine ctl_ne ?_ | (with_reducible first | refine again_n ?_ | refine ev_round ?_) | refine opt (clp hgl0 cprog_okC (by exact rfl) (g14)) ?_ | refine optD (clp hgl0 cprog_okC (by exact rfl) (g14)) ?_ | refine optK (clp hgl0 cprog_okC (by exact rfl) (g14)) ?_ | refine opt (clp hgl0 cprog_okC (by exact rfl) (g28)) ?_ | refine optD (clp hgl0 cprog_okC (by exact rfl) (g28)) ?_ | refine optK (clp hgl0 cprog_okC (by exact rfl) (g28)) ?_)
  have g24 := s24 o.toNat ((x.toNat / 16) : Nat) ((x.toNat % 16) : Nat) (0 : Nat)
  by_cases hI : isI (o.toNat : Nat) ((x.toNat / 16) : Nat) ((x.toNat % 16) : Nat) (0 : Nat)
  · rw [if_pos hI]
    repeat (first | refine ctl ?_ | refine stp ?_ | refine stpD ?_ | refine stpK ?_ | refine cnt ?_ | refine cnf ?_ | refine ctl_ne ?_ | refine opt (clp hgl0 cprog_okC (by exact rfl) (g24)) ?_ | refine optD (clp hgl0 cprog_okC (by exact rfl) (g24)) ?_ | refine optK (clp hgl0 cprog_okC (by exact rfl) (g24)) ?_)
    exact ⟨.inr rfl, rfl⟩
  · rw [if_neg hI]
    repeat (first | refine ctl ?_ | refine stp ?_ | refine stpD ?_ | refine stpK ?_ | refine cnt ?_ | refine cnf ?_ | refine ctl_ne ?_ | refine opt (clp hgl0 cprog_okC (by exact rfl) (g24)) ?_ | refine optD (clp hgl0 cprog_okC (by exact rfl) (g24)) ?_ | refine optK (clp hgl0 cprog_okC (by exact rfl) (g24)) ?_)
    exact ⟨.inr rfl, rfl⟩
theorem s12_3 (l r : List UInt8) (hL : l.length ≤ 9223372036854775807) (p : Nat) (o h e : UInt8) (hd : l.drop p = o :: h :: e :: r) (ho : o.toNat < 21) (hs : shapeN o.toNat = 3) : Ans cprog gl0 12 [.str l, .int .i64 p] [] (if isI (o.toNat : Nat) (0 : Nat) (0 : Nat) ((h.toNat * 256 + e.toNat) : Nat) then .agg [.int .i64 o.toNat, .int .i64 (0 : Nat), .int .i64 (0 : Nat), .int .i64 ((h.toNat * 256 + e.toNat) : Nat), .int .i64 (p + 3 : Nat), .int .i64 0] else .agg [.int .i64 0, .int .i64 0, .int .i64 0, .int .i64 0, .int .i64 0, .int .i64 4]) [] := by
  refine a12 rfl ?_
  delta k12
  have hl := drop_len hd
  have hg := drop_get hd
  have hz : sizeR ((o.toNat : Nat) : Int) = 3 := by rw [size_of o ho, hs]; rfl
  have g14 := s14 o.toNat
  rw [hz] at g14
  have g28 := s28 o.toNat
  rw [((ref_of o.toNat 3 ho hs).2.2.2.1 rfl).1] at g28
  simp only [List.length_cons] at hl
  have bo := o.toNat_lt
  have bh := h.toNat_lt
  have be := e.toNat_lt
  have gh : l[((p : Int) + 1).toNat]? = some h := by
    have := drop_next (k := 1) hd rfl
    rw [show ((p : Int) + 1).toNat = p + 1 by omega]
    exact this
  have ge : l[((p : Int) + 1 + 1).toNat]? = some e := by
    have := drop_next (k := 2) hd rfl
    rw [show ((p : Int) + 1 + 1).toNat = p + 2 by omega]
    exact this
  repeat (first | refine ctl ?_ | refine stpS ?_ | refine stpD ?_ | refine stpK ?_ | refine cnt ?_ | refine cnf ?_ | refine ctl_ne ?_ | (with_reducible first | refine again_n ?_ | refine ev_round ?_) | refine opt (clp hgl0 cprog_okC (by exact rfl) (g14)) ?_ | refine optD (clp hgl0 cprog_okC (by exact rfl) (g14)) ?_ | refine optK (clp hgl0 cprog_okC (by exact rfl) (g14)) ?_ | refine opt (clp hgl0 cprog_okC (by exact rfl) (g28)) ?_ | refine optD (clp hgl0 cprog_okC (by exact rfl) (g28)) ?_ | refine optK (clp hgl0 cprog_okC (by exact rfl) (g28)) ?_)
  rw [show (256 * (256 * 0 + (h.toNat : Int)) + e.toNat) = ((h.toNat * 256 + e.toNat : Nat) : Int) by omega]
  have g24 := s24 o.toNat (0 : Nat) (0 : Nat) ((h.toNat * 256 + e.toNat) : Nat)
  by_cases hI : isI (o.toNat : Nat) (0 : Nat) (0 : Nat) ((h.toNat * 256 + e.toNat) : Nat)
  · rw [if_pos hI]
    repeat (first | refine ctl ?_ | refine stp ?_ | refine stpD ?_ | refine stpK ?_ | refine cnt ?_ | refine cnf ?_ | refine ctl_ne ?_ | refine opt (clp hgl0 cprog_okC (by exact rfl) (g24)) ?_ | refine optD (clp hgl0 cprog_okC (by exact rfl) (g24)) ?_ | refine optK (clp hgl0 cprog_okC (by exact rfl) (g24)) ?_)
    exact ⟨.inr rfl, rfl⟩
  · rw [if_neg hI]
    repeat (first | refine ctl ?_ | refine stp ?_ | refine stpD ?_ | refine stpK ?_ | refine cnt ?_ | refine cnf ?_ | refine ctl_ne ?_ | refine opt (clp hgl0 cprog_okC (by exact rfl) (g24)) ?_ | refine optD (clp hgl0 cprog_okC (by exact rfl) (g24)) ?_ | refine optK (clp hgl0 cprog_okC (by exact rfl) (g24)) ?_)
    exact ⟨.inr rfl, rfl⟩
theorem s12_4 (l r : List UInt8) (hL : l.length ≤ 9223372036854775807) (p : Nat) (o e : UInt8) (hd : l.drop p = o :: e :: r) (ho : o.toNat < 21) (hs : shapeN o.toNat = 4) : Ans cprog gl0 12 [.str l, .int .i64 p] [] (if isI (o.toNat : Nat) (0 : Nat) (0 : Nat) (e.toNat : Nat) then .agg [.int .i64 o.toNat, .int .i64 (0 : Nat), .int .i64 (0 : Nat), .int .i64 (e.toNat : Nat), .int .i64 (p + 2 : Nat), .int .i64 0] else .agg [.int .i64 0, .int .i64 0, .int .i64 0, .int .i64 0, .int .i64 0, .int .i64 4]) [] := by
  refine a12 rfl ?_
  delta k12
  have hl := drop_len hd
  have hg := drop_get hd
  have hz : sizeR ((o.toNat : Nat) : Int) = 2 := by rw [size_of o ho, hs]; rfl
  have g14 := s14 o.toNat
  rw [hz] at g14
  have g28 := s28 o.toNat
  rw [((ref_of o.toNat 4 ho hs).2.2.2.2 rfl).1] at g28
  simp only [List.length_cons] at hl
  have bo := o.toNat_lt
  have be := e.toNat_lt
  have ge : l[((p : Int) + 1).toNat]? = some e := by
    have := drop_next (k := 1) hd rfl
    rw [show ((p : Int) + 1).toNat = p + 1 by omega]
    exact this
  repeat (first | refine ctl ?_ | refine stpS ?_ | refine stpD ?_ | refine stpK ?_ | refine cnt ?_ | refine cnf ?_ | refine ctl_ne ?_ | (with_reducible first | refine again_n ?_ | refine ev_round ?_) | refine opt (clp hgl0 cprog_okC (by exact rfl) (g14)) ?_ | refine optD (clp hgl0 cprog_okC (by exact rfl) (g14)) ?_ | refine optK (clp hgl0 cprog_okC (by exact rfl) (g14)) ?_ | refine opt (clp hgl0 cprog_okC (by exact rfl) (g28)) ?_ | refine optD (clp hgl0 cprog_okC (by exact rfl) (g28)) ?_ | refine optK (clp hgl0 cprog_okC (by exact rfl) (g28)) ?_)
  rw [show (256 * 0 + (e.toNat : Int)) = ((e.toNat : Nat) : Int) by omega]
  have g24 := s24 o.toNat (0 : Nat) (0 : Nat) (e.toNat : Nat)
  by_cases hI : isI (o.toNat : Nat) (0 : Nat) (0 : Nat) (e.toNat : Nat)
  · rw [if_pos hI]
    repeat (first | refine ctl ?_ | refine stp ?_ | refine stpD ?_ | refine stpK ?_ | refine cnt ?_ | refine cnf ?_ | refine ctl_ne ?_ | refine opt (clp hgl0 cprog_okC (by exact rfl) (g24)) ?_ | refine optD (clp hgl0 cprog_okC (by exact rfl) (g24)) ?_ | refine optK (clp hgl0 cprog_okC (by exact rfl) (g24)) ?_)
    exact ⟨.inr rfl, rfl⟩
  · rw [if_neg hI]
    repeat (first | refine ctl ?_ | refine stp ?_ | refine stpD ?_ | refine stpK ?_ | refine cnt ?_ | refine cnf ?_ | refine ctl_ne ?_ | refine opt (clp hgl0 cprog_okC (by exact rfl) (g24)) ?_ | refine optD (clp hgl0 cprog_okC (by exact rfl) (g24)) ?_ | refine optK (clp hgl0 cprog_okC (by exact rfl) (g24)) ?_)
    exact ⟨.inr rfl, rfl⟩
end Go.Proofs.YtachdfhodbdoiaaDoor
