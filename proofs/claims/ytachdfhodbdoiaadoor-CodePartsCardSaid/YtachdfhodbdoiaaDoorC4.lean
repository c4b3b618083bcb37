/-
  The functions of code and of its reference: the instruction at a place. Under no condition.
-/
import Derived.Test.YtachdfhodbdoiaaDoorC3
namespace Go.Proofs.YtachdfhodbdoiaaDoor
open Go Go.Vs
set_option linter.unusedSimpArgs false
set_option linter.unusedVariables false
/-- The instruction that bytes begin with, and what is behind it. -/
def decT : List UInt8 → Option (Nat × Nat × Nat × Nat)
  | [] => none
  | o :: r => if o.toNat < 21 then
      (if shapeN o.toNat = 0 then some (o.toNat, 0, 0, 0)
      else if shapeN o.toNat = 1 then (match r with
        | x :: h :: l :: _ => some (o.toNat, x.toNat / 16, x.toNat % 16, h.toNat * 256 + l.toNat)
        | _ => none)
      else if shapeN o.toNat = 2 then (match r with
        | x :: _ => some (o.toNat, x.toNat / 16, x.toNat % 16, 0)
        | _ => none)
      else if shapeN o.toNat = 3 then (match r with
        | h :: l :: _ => some (o.toNat, 0, 0, h.toNat * 256 + l.toNat)
        | _ => none)
      else (match r with
        | l :: _ => some (o.toNat, 0, 0, l.toNat)
        | _ => none))
    else none
def instV (o a b n : Nat) : PV := .agg [.int .i64 o, .int .i64 a, .int .i64 b, .int .i64 n]
inductive AtR | bad (e : Nat) | good (o a b n next : Nat)
/-- What is at a place. -/
def atS (l : List UInt8) (p : Int) : AtR :=
  if 0 ≤ p ∧ p < l.length then
    (match decT (l.drop p.toNat) with
    | some (o, a, b, n) => if isI o a b n then .good o a b n (p.toNat + sizeS (shapeN o)) else .bad 4
    | none => .bad 4)
  else .bad 1
def atR (l : List UInt8) (p : Int) : PV := match atS l p with
  | .bad e => .tup [instV 0 0 0 0, .int .i64 0, .int .i64 e]
  | .good o a b n q => .tup [instV o a b n, .int .i64 q, .int .i64 0]
def atR' (l : List UInt8) (p : Int) : PV := match atS l p with
  | .bad e => .agg [.int .i64 0, .int .i64 0, .int .i64 0, .int .i64 0, .int .i64 0, .int .i64 e]
  | .good o a b n q => .agg [.int .i64 o, .int .i64 a, .int .i64 b, .int .i64 n, .int .i64 q, .int .i64 0]
theorem shl_or (a b : Nat) (ha : a < 2 ^ 24) (hb : b < 256) : (a * 2 ^ (min 8 32) % 2 ^ 32) ||| b = a * 256 + b := by
  have h1 : a * 2 ^ (min 8 32) % 2 ^ 32 = a <<< 8 := by rw [Nat.shiftLeft_eq, Nat.min_eq_left (by omega), Nat.mod_eq_of_lt (by omega)]
  rw [h1, ← Nat.shiftLeft_add_eq_or_of_lt hb, Nat.shiftLeft_eq]
theorem s27_1 (l : UInt8) : Ans cprog gl0 27 [.str [l]] [] (.tup [.int .u32 l.toNat, .int .i64 0]) [] := by
  refine a27 rfl ?_
  delta k27
  have h := l.toNat_lt
  have hne : ¬ ([l] : List UInt8) = [] := by simp
  repeat (first | refine ctl ?_ | refine stpS ?_ | refine stpD ?_ | refine stpK ?_ | refine cnt ?_ | refine cnf ?_ | refine ctl_ne ?_ | (with_reducible first | refine again_n ?_ | refine ev_round ?_))
  (first | refine opt (by exact op_shln (j := 8) (a := 0) rfl rfl rfl rfl rfl) ?_ | refine optn (by exact op_shln (j := 8) (a := 0) rfl rfl rfl rfl rfl) ?_ | refine optD (by exact op_shln (j := 8) (a := 0) rfl rfl rfl rfl rfl) ?_ | refine optnD (by exact op_shln (j := 8) (a := 0) rfl rfl rfl rfl rfl) ?_ | refine optK (by exact op_shln (j := 8) (a := 0) rfl rfl rfl rfl rfl) ?_ | refine optnK (by exact op_shln (j := 8) (a := 0) rfl rfl rfl rfl rfl) ?_)
  repeat (first | refine ctl ?_ | refine stpS ?_ | refine stpD ?_ | refine stpK ?_ | refine cnt ?_ | refine cnf ?_ | refine ctl_ne ?_ | (with_reducible first | refine again_n ?_ | refine ev_round ?_))
  (first | refine opt (by exact op_bits rfl rfl (bin_or (a := 0) (b := l.toNat) rfl (by decide) (show _ < 2 ^ 32 by omega))) ?_ | refine optn (by exact op_bits rfl rfl (bin_or (a := 0) (b := l.toNat) rfl (by decide) (show _ < 2 ^ 32 by omega))) ?_ | refine optD (by exact op_bits rfl rfl (bin_or (a := 0) (b := l.toNat) rfl (by decide) (show _ < 2 ^ 32 by omega))) ?_ | refine optnD (by exact op_bits rfl rfl (bin_or (a := 0) (b := l.toNat) rfl (by decide) (show _ < 2 ^ 32 by omega))) ?_ | refine optK (by exact op_bits rfl rfl (bin_or (a := 0) (b := l.toNat) rfl (by decide) (show _ < 2 ^ 32 by omega))) ?_ | refine optnK (by exact op_bits rfl rfl (bin_or (a := 0) (b := l.toNat) rfl (by decide) (show _ < 2 ^ 32 by omega))) ?_)
  rw [Nat.zero_or]
  repeat (first | refine ctl ?_ | refine stpS ?_ | refine stpD ?_ | refine stpK ?_ | refine cnt ?_ | refine cnf ?_ | refine ctl_ne ?_ | (with_reducible first | refine again_n ?_ | refine ev_round ?_))
  exact ⟨.inr rfl, rfl⟩
theorem s27_2 (h l : UInt8) : Ans cprog gl0 27 [.str [h, l]] [] (.tup [.int .u32 (h.toNat * 256 + l.toNat : Nat), .int .i64 0]) [] := by
  refine a27 rfl ?_
  delta k27
  have h1 := l.toNat_lt
  have h2 := h.toNat_lt
  have hne : ¬ ([h, l] : List UInt8) = [] := by simp
  repeat (first | refine ctl ?_ | refine stpS ?_ | refine stpD ?_ | refine stpK ?_ | refine cnt ?_ | refine cnf ?_ | refine ctl_ne ?_ | (with_reducible first | refine again_n ?_ | refine ev_round ?_))
  (first | refine opt (by exact op_shln (j := 8) (a := 0) rfl rfl rfl rfl rfl) ?_ | refine optn (by exact op_shln (j := 8) (a := 0) rfl rfl rfl rfl rfl) ?_ | refine optD (by exact op_shln (j := 8) (a := 0) rfl rfl rfl rfl rfl) ?_ | refine optnD (by exact op_shln (j := 8) (a := 0) rfl rfl rfl rfl rfl) ?_ | refine optK (by exact op_shln (j := 8) (a := 0) rfl rfl rfl rfl rfl) ?_ | refine optnK (by exact op_shln (j := 8) (a := 0) rfl rfl rfl rfl rfl) ?_)
  repeat (first | refine ctl ?_ | refine stpS ?_ | refine stpD ?_ | refine stpK ?_ | refine cnt ?_ | refine cnf ?_ | refine ctl_ne ?_ | (with_reducible first | refine again_n ?_ | refine ev_round ?_))
  (first | refine opt (by exact op_bits rfl rfl (bin_or (a := 0) (b := h.toNat) rfl (by decide) (show _ < 2 ^ 32 by omega))) ?_ | refine optn (by exact op_bits rfl rfl (bin_or (a := 0) (b := h.toNat) rfl (by decide) (show _ < 2 ^ 32 by omega))) ?_ | refine optD (by exact op_bits rfl rfl (bin_or (a := 0) (b := h.toNat) rfl (by decide) (show _ < 2 ^ 32 by omega))) ?_ | refine optnD (by exact op_bits rfl rfl (bin_or (a := 0) (b := h.toNat) rfl (by decide) (show _ < 2 ^ 32 by omega))) ?_ | refine optK (by exact op_bits rfl rfl (bin_or (a := 0) (b := h.toNat) rfl (by decide) (show _ < 2 ^ 32 by omega))) ?_ | refine optnK (by exact op_bits rfl rfl (bin_or (a := 0) (b := h.toNat) rfl (by decide) (show _ < 2 ^ 32 by omega))) ?_)
  rw [Nat.zero_or]
  repeat (first | refine ctl ?_ | refine stpS ?_ | refine stpD ?_ | refine stpK ?_ | refine cnt ?_ | refine cnf ?_ | refine ctl_ne ?_ | (with_reducible first | refine again_n ?_ | refine ev_round ?_))
  (first | refine opt (by exact op_shln (j := 8) (a := h.toNat) rfl rfl rfl rfl rfl) ?_ | refine optn (by exact op_shln (j := 8) (a := h.toNat) rfl rfl rfl rfl rfl) ?_ | refine optD (by exact op_shln (j := 8) (a := h.toNat) rfl rfl rfl rfl rfl) ?_ | refine optnD (by exact op_shln (j := 8) (a := h.toNat) rfl rfl rfl rfl rfl) ?_ | refine optK (by exact op_shln (j := 8) (a := h.toNat) rfl rfl rfl rfl rfl) ?_ | refine optnK (by exact op_shln (j := 8) (a := h.toNat) rfl rfl rfl rfl rfl) ?_)
  repeat (first | refine ctl ?_ | refine stpS ?_ | refine stpD ?_ | refine stpK ?_ | refine cnt ?_ | refine cnf ?_ | refine ctl_ne ?_ | (with_reducible first | refine again_n ?_ | refine ev_round ?_))
  (first | refine opt (by exact op_bits rfl rfl (bin_or (a := h.toNat * 2 ^ (min 8 32) % 2 ^ 32) (b := l.toNat) rfl (show _ < 2 ^ 32 from Nat.mod_lt _ (by decide)) (show _ < 2 ^ 32 by omega))) ?_ | refine optn (by exact op_bits rfl rfl (bin_or (a := h.toNat * 2 ^ (min 8 32) % 2 ^ 32) (b := l.toNat) rfl (show _ < 2 ^ 32 from Nat.mod_lt _ (by decide)) (show _ < 2 ^ 32 by omega))) ?_ | refine optD (by exact op_bits rfl rfl (bin_or (a := h.toNat * 2 ^ (min 8 32) % 2 ^ 32) (b := l.toNat) rfl (show _ < 2 ^ 32 from Nat.mod_lt _ (by decide)) (show _ < 2 ^ 32 by omega))) ?_ | refine optnD (by exact op_bits rfl rfl (bin_or (a := h.toNat * 2 ^ (min 8 32) % 2 ^ 32) (b := l.toNat) rfl (show _ < 2 ^ 32 from Nat.mod_lt _ (by decide)) (show _ < 2 ^ 32 by omega))) ?_ | refine optK (by exact op_bits rfl rfl (bin_or (a := h.toNat * 2 ^ (min 8 32) % 2 ^ 32) (b := l.toNat) rfl (show _ < 2 ^ 32 from Nat.mod_lt _ (by decide)) (show _ < 2 ^ 32 by omega))) ?_ | refine optnK (by exact op_bits rfl rfl (bin_or (a := h.toNat * 2 ^ (min 8 32) % 2 ^ 32) (b := l.toNat) rfl (show _ < 2 ^ 32 from Nat.mod_lt _ (by decide)) (show _ < 2 ^ 32 by omega))) ?_)
  rw [shl_or _ _ (by omega) (by omega)]
  repeat (first | refine ctl ?_ | refine stpS ?_ | refine stpD ?_ | refine stpK ?_ | refine cnt ?_ | refine cnf ?_ | refine ctl_ne ?_ | (with_reducible first | refine again_n ?_ | refine ev_round ?_))
  exact ⟨.inr rfl, rfl⟩
/-! The program: at a place, by shapes. -/
theorem ofn (x : UInt8) : UInt8.ofNat x.toNat = x := by simp
theorem of1 (x : UInt8) : UInt8.ofNat (x.toNat / 16 * 16 + x.toNat % 16) = x := by rw [show x.toNat / 16 * 16 + x.toNat % 16 = x.toNat by omega, ofn]
theorem of2 (h e : UInt8) : UInt8.ofNat ((h.toNat * 256 + e.toNat) / 256) = h := by have := e.toNat_lt; rw [show (h.toNat * 256 + e.toNat) / 256 = h.toNat by omega, ofn]
theorem of3 (h e : UInt8) : UInt8.ofNat ((h.toNat * 256 + e.toNat) % 256) = e := by have := e.toNat_lt; rw [show (h.toNat * 256 + e.toNat) % 256 = e.toNat by omega, ofn]
theorem of4 (e : UInt8) : UInt8.ofNat (e.toNat % 256) = e := by have := e.toNat_lt; rw [show e.toNat % 256 = e.toNat by omega, ofn]
theorem drop_len {l t : List UInt8} {p : Nat} (h : l.drop p = t) : l.length - p = t.length := by rw [← h]; simp
theorem drop_get {l : List UInt8} {p : Nat} {o : UInt8} {r : List UInt8} (h : l.drop p = o :: r) : l[((p : Nat) : Int).toNat]? = some o := by
  show l[p]? = some o
  have : (l.drop p)[0]? = some o := by rw [h]; rfl
  rw [List.getElem?_drop] at this
  simpa using this
theorem seg_eq {l t : List UInt8} {p k : Nat} (h : l.drop p = t) : (l.take ((p : Int) + (k : Nat)).toNat).drop ((p : Nat) : Int).toNat = t.take k := by
  have e : ((p : Int) + (k : Nat)).toNat = p + k := by omega
  show (l.take _).drop p = _
  rw [e, List.drop_take, h]
  congr 1; omega
theorem s11_0 (l r : List UInt8) (hL : l.length ≤ 9223372036854775807) (p : Nat) (o : UInt8) (hd : l.drop p = o :: r) (ho : o.toNat < 21) (hs : shapeN o.toNat = 0) : Ans cprog gl0 11 [.str l, .int .i64 p] [] (if isI (o.toNat : Nat) (0 : Nat) (0 : Nat) (0 : Nat) then .tup [instV o.toNat 0 0 0, .int .i64 (p + 1 : Nat), .int .i64 0] else .tup [instV 0 0 0 0, .int .i64 0, .int .i64 4]) [] := by
  refine a11 rfl ?_
  delta k11
  have hl := drop_len hd
  have hg := drop_get hd
  have h13 : sizeR ((o.toNat : Nat) : Int) = 1 := by
    unfold sizeR
    rw [if_pos (by omega)]
    show sizeS (shapeN o.toNat) = 1
    rw [hs]; rfl
  have g13 := s13 o.toNat
  rw [h13] at g13
  simp only [List.length_cons] at hl
  have g8 := s8 o.toNat (0 : Nat) (0 : Nat) (0 : Nat)
  unfold bytesI at g8
  repeat (first | refine ctl ?_ | refine stp ?_ | refine stpD ?_ | refine stpK ?_ | refine cnt ?_ | refine cnf ?_ | refine ctl_ne ?_ | refine opt (clp hgl0 cprog_okC (by exact rfl) (s26 _ _)) ?_ | refine optD (clp hgl0 cprog_okC (by exact rfl) (s26 _ _)) ?_ | refine optK (clp hgl0 cprog_okC (by exact rfl) (s26 _ _)) ?_ | refine opt (clp hgl0 cprog_okC (by exact rfl) (g13)) ?_ | refine optD (clp hgl0 cprog_okC (by exact rfl) (g13)) ?_ | refine optK (clp hgl0 cprog_okC (by exact rfl) (g13)) ?_)
  (first | refine opt (by exact op_slsx rfl (bnd_int (by omega) (by omega)) (bnd_int (by omega) (by omega))) ?_ | refine optn (by exact op_slsx rfl (bnd_int (by omega) (by omega)) (bnd_int (by omega) (by omega))) ?_ | refine optD (by exact op_slsx rfl (bnd_int (by omega) (by omega)) (bnd_int (by omega) (by omega))) ?_ | refine optnD (by exact op_slsx rfl (bnd_int (by omega) (by omega)) (bnd_int (by omega) (by omega))) ?_ | refine optK (by exact op_slsx rfl (bnd_int (by omega) (by omega)) (bnd_int (by omega) (by omega))) ?_ | refine optnK (by exact op_slsx rfl (bnd_int (by omega) (by omega)) (bnd_int (by omega) (by omega))) ?_)
  rw [seg_eq hd]
  repeat (first | refine ctl ?_ | refine stp ?_ | refine stpD ?_ | refine stpK ?_ | refine cnt ?_ | refine cnf ?_ | refine ctl_ne ?_)
  (first | refine opt (by exact op_ixaa rfl rfl (by omega)) ?_ | refine optn (by exact op_ixaa rfl rfl (by omega)) ?_ | refine optD (by exact op_ixaa rfl rfl (by omega)) ?_ | refine optnD (by exact op_ixaa rfl rfl (by omega)) ?_ | refine optK (by exact op_ixaa rfl rfl (by omega)) ?_ | refine optnK (by exact op_ixaa rfl rfl (by omega)) ?_)
  (first | refine opt (by exact op_ldc (tab0 _ _ (by omega)) Nf.int) ?_ | refine optn (by exact op_ldc (tab0 _ _ (by omega)) Nf.int) ?_ | refine optD (by exact op_ldc (tab0 _ _ (by omega)) Nf.int) ?_ | refine optnD (by exact op_ldc (tab0 _ _ (by omega)) Nf.int) ?_ | refine optK (by exact op_ldc (tab0 _ _ (by omega)) Nf.int) ?_ | refine optnK (by exact op_ldc (tab0 _ _ (by omega)) Nf.int) ?_)
  rw [hs]
  repeat (first | refine ctl ?_ | refine stp ?_ | refine stpD ?_ | refine stpK ?_ | refine cnt ?_ | refine cnf ?_ | refine ctl_ne ?_)
  by_cases hI : isI (o.toNat : Nat) (0 : Nat) (0 : Nat) (0 : Nat)
  · rw [if_pos hI] at g8 ⊢
    have hp : plainI o.toNat 0 0 0 = [o] := by
      simp [plainI, hs]

    replace g8 : Ans cprog gl0 8 [.agg [.int .i64 (o.toNat : Nat), .int .i64 (0 : Nat), .int .i64 (0 : Nat), .int .i64 (0 : Nat)]] [] (.tup [.str (plainI o.toNat 0 0 0), .int .i64 0]) [] := g8
    rw [hp] at g8
    repeat (first | refine ctl ?_ | refine stp ?_ | refine stpD ?_ | refine stpK ?_ | refine cnt ?_ | refine cnf ?_ | refine ctl_ne ?_ | refine opt (clp hgl0 cprog_okC (by exact rfl) (g8)) ?_ | refine optD (clp hgl0 cprog_okC (by exact rfl) (g8)) ?_ | refine optK (clp hgl0 cprog_okC (by exact rfl) (g8)) ?_)
    exact ⟨.inr rfl, rfl⟩
  · rw [if_neg hI] at g8 ⊢
    repeat (first | refine ctl ?_ | refine stp ?_ | refine stpD ?_ | refine stpK ?_ | refine cnt ?_ | refine cnf ?_ | refine ctl_ne ?_ | refine opt (clp hgl0 cprog_okC (by exact rfl) (g8)) ?_ | refine optD (clp hgl0 cprog_okC (by exact rfl) (g8)) ?_ | refine optK (clp hgl0 cprog_okC (by exact rfl) (g8)) ?_)
    exact ⟨.inr rfl, rfl⟩
theorem s11_1 (l r : List UInt8) (hL : l.length ≤ 9223372036854775807) (p : Nat) (o x h e : UInt8) (hd : l.drop p = o :: x :: h :: e :: r) (ho : o.toNat < 21) (hs : shapeN o.toNat = 1) : Ans cprog gl0 11 [.str l, .int .i64 p] [] (if isI (o.toNat : Nat) ((x.toNat / 16) : Nat) ((x.toNat % 16) : Nat) ((h.toNat * 256 + e.toNat) : Nat) then .tup [instV o.toNat (x.toNat / 16) (x.toNat % 16) (h.toNat * 256 + e.toNat), .int .i64 (p + 4 : Nat), .int .i64 0] else .tup [instV 0 0 0 0, .int .i64 0, .int .i64 4]) [] := by
  refine a11 rfl ?_
  delta k11
  have hl := drop_len hd
  have hg := drop_get hd
  have h13 : sizeR ((o.toNat : Nat) : Int) = 4 := by
    unfold sizeR
    rw [if_pos (by omega)]
    show sizeS (shapeN o.toNat) = 4
    rw [hs]; rfl
  have g13 := s13 o.toNat
  rw [h13] at g13
  simp only [List.length_cons] at hl
  have g8 := s8 o.toNat ((x.toNat / 16) : Nat) ((x.toNat % 16) : Nat) ((h.toNat * 256 + e.toNat) : Nat)
  unfold bytesI at g8
  have bx := x.toNat_lt
  have bh := h.toNat_lt
  have be := e.toNat_lt
  repeat (first | refine ctl ?_ | refine stp ?_ | refine stpD ?_ | refine stpK ?_ | refine cnt ?_ | refine cnf ?_ | refine ctl_ne ?_ | refine opt (clp hgl0 cprog_okC (by exact rfl) (s26 _ _)) ?_ | refine optD (clp hgl0 cprog_okC (by exact rfl) (s26 _ _)) ?_ | refine optK (clp hgl0 cprog_okC (by exact rfl) (s26 _ _)) ?_ | refine opt (clp hgl0 cprog_okC (by exact rfl) (g13)) ?_ | refine optD (clp hgl0 cprog_okC (by exact rfl) (g13)) ?_ | refine optK (clp hgl0 cprog_okC (by exact rfl) (g13)) ?_)
  (first | refine opt (by exact op_slsx rfl (bnd_int (by omega) (by omega)) (bnd_int (by omega) (by omega))) ?_ | refine optn (by exact op_slsx rfl (bnd_int (by omega) (by omega)) (bnd_int (by omega) (by omega))) ?_ | refine optD (by exact op_slsx rfl (bnd_int (by omega) (by omega)) (bnd_int (by omega) (by omega))) ?_ | refine optnD (by exact op_slsx rfl (bnd_int (by omega) (by omega)) (bnd_int (by omega) (by omega))) ?_ | refine optK (by exact op_slsx rfl (bnd_int (by omega) (by omega)) (bnd_int (by omega) (by omega))) ?_ | refine optnK (by exact op_slsx rfl (bnd_int (by omega) (by omega)) (bnd_int (by omega) (by omega))) ?_)
  rw [seg_eq hd]
  repeat (first | refine ctl ?_ | refine stp ?_ | refine stpD ?_ | refine stpK ?_ | refine cnt ?_ | refine cnf ?_ | refine ctl_ne ?_)
  (first | refine opt (by exact op_ixaa rfl rfl (by omega)) ?_ | refine optn (by exact op_ixaa rfl rfl (by omega)) ?_ | refine optD (by exact op_ixaa rfl rfl (by omega)) ?_ | refine optnD (by exact op_ixaa rfl rfl (by omega)) ?_ | refine optK (by exact op_ixaa rfl rfl (by omega)) ?_ | refine optnK (by exact op_ixaa rfl rfl (by omega)) ?_)
  (first | refine opt (by exact op_ldc (tab0 _ _ (by omega)) Nf.int) ?_ | refine optn (by exact op_ldc (tab0 _ _ (by omega)) Nf.int) ?_ | refine optD (by exact op_ldc (tab0 _ _ (by omega)) Nf.int) ?_ | refine optnD (by exact op_ldc (tab0 _ _ (by omega)) Nf.int) ?_ | refine optK (by exact op_ldc (tab0 _ _ (by omega)) Nf.int) ?_ | refine optnK (by exact op_ldc (tab0 _ _ (by omega)) Nf.int) ?_)
  rw [hs]
  repeat (first | refine ctl ?_ | refine stp ?_ | refine stpD ?_ | refine stpK ?_ | refine cnt ?_ | refine cnf ?_ | refine ctl_ne ?_)
  (first | refine opt (by exact op_shrn (a := x.toNat) (j := 4) rfl rfl rfl rfl) ?_ | refine optn (by exact op_shrn (a := x.toNat) (j := 4) rfl rfl rfl rfl) ?_ | refine optD (by exact op_shrn (a := x.toNat) (j := 4) rfl rfl rfl rfl) ?_ | refine optnD (by exact op_shrn (a := x.toNat) (j := 4) rfl rfl rfl rfl) ?_ | refine optK (by exact op_shrn (a := x.toNat) (j := 4) rfl rfl rfl rfl) ?_ | refine optnK (by exact op_shrn (a := x.toNat) (j := 4) rfl rfl rfl rfl) ?_)
  rw [show x.toNat / 2 ^ min 4 IntKind.u8.bits = x.toNat / 16 from rfl]
  repeat (first | refine ctl ?_ | refine stp ?_ | refine stpD ?_ | refine stpK ?_ | refine cnt ?_ | refine cnf ?_ | refine ctl_ne ?_)
  (first | refine opt (by exact op_bits rfl rfl (bin_and (a := x.toNat) (b := 15) rfl (show _ < 2 ^ 8 from bx) (by decide))) ?_ | refine optn (by exact op_bits rfl rfl (bin_and (a := x.toNat) (b := 15) rfl (show _ < 2 ^ 8 from bx) (by decide))) ?_ | refine optD (by exact op_bits rfl rfl (bin_and (a := x.toNat) (b := 15) rfl (show _ < 2 ^ 8 from bx) (by decide))) ?_ | refine optnD (by exact op_bits rfl rfl (bin_and (a := x.toNat) (b := 15) rfl (show _ < 2 ^ 8 from bx) (by decide))) ?_ | refine optK (by exact op_bits rfl rfl (bin_and (a := x.toNat) (b := 15) rfl (show _ < 2 ^ 8 from bx) (by decide))) ?_ | refine optnK (by exact op_bits rfl rfl (bin_and (a := x.toNat) (b := 15) rfl (show _ < 2 ^ 8 from bx) (by decide))) ?_)
  rw [show x.toNat &&& 15 = x.toNat % 16 from Nat.and_two_pow_sub_one_eq_mod _ 4]
  repeat (first | refine ctl ?_ | refine stp ?_ | refine stpD ?_ | refine stpK ?_ | refine cnt ?_ | refine cnf ?_ | refine ctl_ne ?_)
  (first | refine opt (by exact op_slsx (q := 4) (p := 2) rfl rfl rfl) ?_ | refine optn (by exact op_slsx (q := 4) (p := 2) rfl rfl rfl) ?_ | refine optD (by exact op_slsx (q := 4) (p := 2) rfl rfl rfl) ?_ | refine optnD (by exact op_slsx (q := 4) (p := 2) rfl rfl rfl) ?_ | refine optK (by exact op_slsx (q := 4) (p := 2) rfl rfl rfl) ?_ | refine optnK (by exact op_slsx (q := 4) (p := 2) rfl rfl rfl) ?_)
  repeat (first | refine ctl ?_ | refine stp ?_ | refine stpD ?_ | refine stpK ?_ | refine cnt ?_ | refine cnf ?_ | refine ctl_ne ?_ | refine opt (clp hgl0 cprog_okC (by exact rfl) (s27_2 h e)) ?_ | refine optD (clp hgl0 cprog_okC (by exact rfl) (s27_2 h e)) ?_ | refine optK (clp hgl0 cprog_okC (by exact rfl) (s27_2 h e)) ?_)
  by_cases hI : isI (o.toNat : Nat) ((x.toNat / 16) : Nat) ((x.toNat % 16) : Nat) ((h.toNat * 256 + e.toNat) : Nat)
  · rw [if_pos hI] at g8 ⊢
    have hp : plainI o.toNat (x.toNat / 16) (x.toNat % 16) (h.toNat * 256 + e.toNat) = [o, x, h, e] := by
      simp only [plainI, hs, ofn, of1, of2, of3, of4]
      rfl
    replace g8 : Ans cprog gl0 8 [.agg [.int .i64 (o.toNat : Nat), .int .i64 ((x.toNat / 16) : Nat), .int .i64 ((x.toNat % 16) : Nat), .int .i64 ((h.toNat * 256 + e.toNat) : Nat)]] [] (.tup [.str (plainI o.toNat (x.toNat / 16) (x.toNat % 16) (h.toNat * 256 + e.toNat)), .int .i64 0]) [] := g8
    rw [hp] at g8
    repeat (first | refine ctl ?_ | refine stp ?_ | refine stpD ?_ | refine stpK ?_ | refine cnt ?_ | refine cnf ?_ | refine ctl_ne ?_ | refine opt (clp hgl0 cprog_okC (by exact rfl) (g8)) ?_ | refine optD (clp hgl0 cprog_okC (by exact rfl) (g8)) ?_ | refine optK (clp hgl0 cprog_okC (by exact rfl) (g8)) ?_)
    exact ⟨.inr rfl, rfl⟩
  · rw [if_neg hI] at g8 ⊢
    repeat (first | refine ctl ?_ | refine stp ?_ | refine stpD ?_ | refine stpK ?_ | refine cnt ?_ | refine cnf ?_ | refine ctl_ne ?_ | refine opt (clp hgl0 cprog_okC (by exact rfl) (g8)) ?_ | refine optD (clp hgl0 cprog_okC (by exact rfl) (g8)) ?_ | refine optK (clp hgl0 cprog_okC (by exact rfl) (g8)) ?_)
    exact ⟨.inr rfl, rfl⟩
theorem s11_2 (l r : List UInt8) (hL : l.length ≤ 9223372036854775807) (p : Nat) (o x : UInt8) (hd : l.drop p = o :: x :: r) (ho : o.toNat < 21) (hs : shapeN o.toNat = 2) : Ans cprog gl0 11 [.str l, .int .i64 p] [] (if isI (o.toNat : Nat) ((x.toNat / 16) : Nat) ((x.toNat % 16) : Nat) (0 : Nat) then .tup [instV o.toNat (x.toNat / 16) (x.toNat % 16) 0, .int .i64 (p + 2 : Nat), .int .i64 0] else .tup [instV 0 0 0 0, .int .i64 0, .int .i64 4]) [] := by
  refine a11 rfl ?_
  delta k11
  have hl := drop_len hd
  have hg := drop_get hd
  have h13 : sizeR ((o.toNat : Nat) : Int) = 2 := by
    unfold sizeR
    rw [if_pos (by omega)]
    show sizeS (shapeN o.toNat) = 2
    rw [hs]; rfl
  have g13 := s13 o.toNat
  rw [h13] at g13
  simp only [List.length_cons] at hl
  have g8 := s8 o.toNat ((x.toNat / 16) : Nat) ((x.toNat % 16) : Nat) (0 : Nat)
  unfold bytesI at g8
  have bx := x.toNat_lt
  repeat (first | refine ctl ?_ | refine stp ?_ | refine stpD ?_ | refine stpK ?_ | refine cnt ?_ | refine cnf ?_ | refine ctl_ne ?_ | refine opt (clp hgl0 cprog_okC (by exact rfl) (s26 _ _)) ?_ | refine optD (clp hgl0 cprog_okC (by exact rfl) (s26 _ _)) ?_ | refine optK (clp hgl0 cprog_okC (by exact rfl) (s26 _ _)) ?_ | refine opt (clp hgl0 cprog_okC (by exact rfl) (g13)) ?_ | refine optD (clp hgl0 cprog_okC (by exact rfl) (g13)) ?_ | refine optK (clp hgl0 cprog_okC (by exact rfl) (g13)) ?_)
  (first | refine opt (by exact op_slsx rfl (bnd_int (by omega) (by omega)) (bnd_int (by omega) (by omega))) ?_ | refine optn (by exact op_slsx rfl (bnd_int (by omega) (by omega)) (bnd_int (by omega) (by omega))) ?_ | refine optD (by exact op_slsx rfl (bnd_int (by omega) (by omega)) (bnd_int (by omega) (by omega))) ?_ | refine optnD (by exact op_slsx rfl (bnd_int (by omega) (by omega)) (bnd_int (by omega) (by omega))) ?_ | refine optK (by exact op_slsx rfl (bnd_int (by omega) (by omega)) (bnd_int (by omega) (by omega))) ?_ | refine optnK (by exact op_slsx rfl (bnd_int (by omega) (by omega)) (bnd_int (by omega) (by omega))) ?_)
  rw [seg_eq hd]
  repeat (first | refine ctl ?_ | refine stp ?_ | refine stpD ?_ | refine stpK ?_ | refine cnt ?_ | refine cnf ?_ | refine ctl_ne ?_)
  (first | refine opt (by exact op_ixaa rfl rfl (by omega)) ?_ | refine optn (by exact op_ixaa rfl rfl (by omega)) ?_ | refine optD (by exact op_ixaa rfl rfl (by omega)) ?_ | refine optnD (by exact op_ixaa rfl rfl (by omega)) ?_ | refine optK (by exact op_ixaa rfl rfl (by omega)) ?_ | refine optnK (by exact op_ixaa rfl rfl (by omega)) ?_)
  (first | refine opt (by exact op_ldc (tab0 _ _ (by omega)) Nf.int) ?_ | refine optn (by exact op_ldc (tab0 _ _ (by omega)) Nf.int) ?_ | refine optD (by exact op_ldc (tab0 _ _ (by omega)) Nf.int) ?_ | refine optnD (by exact op_ldc (tab0 _ _ (by omega)) Nf.int) ?_ | refine optK (by exact op_ldc (tab0 _ _ (by omega)) Nf.int) ?_ | refine optnK (by exact op_ldc (tab0 _ _ (by omega)) Nf.int) ?_)
  rw [hs]
  repeat (first | refine ctl ?_ | refine stp ?_ | refine stpD ?_ | refine stpK ?_ | refine cnt ?_ | refine cnf ?_ | refine ctl_ne ?_)
  (first | refine opt (by exact op_shrn (a := x.toNat) (j := 4) rfl rfl rfl rfl) ?_ | refine optn (by exact op_shrn (a := x.toNat) (j := 4) rfl rfl rfl rfl) ?_ | refine optD (by exact op_shrn (a := x.toNat) (j := 4) rfl rfl rfl rfl) ?_ | refine optnD (by exact op_shrn (a := x.toNat) (j := 4) rfl rfl rfl rfl) ?_ | refine optK (by exact op_shrn (a := x.toNat) (j := 4) rfl rfl rfl rfl) ?_ | refine optnK (by exact op_shrn (a := x.toNat) (j := 4) rfl rfl rfl rfl) ?_)
  rw [show x.toNat / 2 ^ min 4 IntKind.u8.bits = x.toNat / 16 from rfl]
  repeat (first | refine ctl ?_ | refine stp ?_ | refine stpD ?_ | refine stpK ?_ | refine cnt ?_ | refine cnf ?_ | refine ctl_ne ?_)
  (first | refine opt (by exact op_bits rfl rfl (bin_and (a := x.toNat) (b := 15) rfl (show _ < 2 ^ 8 from bx) (by decide))) ?_ | refine optn (by exact op_bits rfl rfl (bin_and (a := x.toNat) (b := 15) rfl (show _ < 2 ^ 8 from bx) (by decide))) ?_ | refine optD (by exact op_bits rfl rfl (bin_and (a := x.toNat) (b := 15) rfl (show _ < 2 ^ 8 from bx) (by decide))) ?_ | refine optnD (by exact op_bits rfl rfl (bin_and (a := x.toNat) (b := 15) rfl (show _ < 2 ^ 8 from bx) (by decide))) ?_ | refine optK (by exact op_bits rfl rfl (bin_and (a := x.toNat) (b := 15) rfl (show _ < 2 ^ 8 from bx) (by decide))) ?_ | refine optnK (by exact op_bits rfl rfl (bin_and (a := x.toNat) (b := 15) rfl (show _ < 2 ^ 8 from bx) (by decide))) ?_)
  rw [show x.toNat &&& 15 = x.toNat % 16 from Nat.and_two_pow_sub_one_eq_mod _ 4]
  repeat (first | refine ctl ?_ | refine stp ?_ | refine stpD ?_ | refine stpK ?_ | refine cnt ?_ | refine cnf ?_ | refine ctl_ne ?_)
  by_cases hI : isI (o.toNat : Nat) ((x.toNat / 16) : Nat) ((x.toNat % 16) : Nat) (0 : Nat)
  · rw [if_pos hI] at g8 ⊢
    have hp : plainI o.toNat (x.toNat / 16) (x.toNat % 16) 0 = [o, x] := by
      simp only [plainI, hs, ofn, of1, of2, of3, of4]
      rfl
    replace g8 : Ans cprog gl0 8 [.agg [.int .i64 (o.toNat : Nat), .int .i64 ((x.toNat / 16) : Nat), .int .i64 ((x.toNat % 16) : Nat), .int .i64 (0 : Nat)]] [] (.tup [.str (plainI o.toNat (x.toNat / 16) (x.toNat % 16) 0), .int .i64 0]) [] := g8
    rw [hp] at g8
    repeat (first | refine ctl ?_ | refine stp ?_ | refine stpD ?_ | refine stpK ?_ | refine cnt ?_ | refine cnf ?_ | refine ctl_ne ?_ | refine opt (clp hgl0 cprog_okC (by exact rfl) (g8)) ?_ | refine optD (clp hgl0 cprog_okC (by exact rfl) (g8)) ?_ | refine optK (clp hgl0 cprog_okC (by exact rfl) (g8)) ?_)
    exact ⟨.inr rfl, rfl⟩
  · rw [if_neg hI] at g8 ⊢
    repeat (first | refine ctl ?_ | refine stp ?_ | refine stpD ?_ | refine stpK ?_ | refine cnt ?_ | refine cnf ?_ | refine ctl_ne ?_ | refine opt (clp hgl0 cprog_okC (by exact rfl) (g8)) ?_ | refine optD (clp hgl0 cprog_okC (by exact rfl) (g8)) ?_ | refine optK (clp hgl0 cprog_okC (by exact rfl) (g8)) ?_)
    exact ⟨.inr rfl, rfl⟩
theorem s11_3 (l r : List UInt8) (hL : l.length ≤ 9223372036854775807) (p : Nat) (o h e : UInt8) (hd : l.drop p = o :: h :: e :: r) (ho : o.toNat < 21) (hs : shapeN o.toNat = 3) : Ans cprog gl0 11 [.str l, .int .i64 p] [] (if isI (o.toNat : Nat) (0 : Nat) (0 : Nat) ((h.toNat * 256 + e.toNat) : Nat) then .tup [instV o.toNat 0 0 (h.toNat * 256 + e.toNat), .int .i64 (p + 3 : Nat), .int .i64 0] else .tup [instV 0 0 0 0, .int .i64 0, .int .i64 4]) [] := by
  refine a11 rfl ?_
  delta k11
  have hl := drop_len hd
  have hg := drop_get hd
  have h13 : sizeR ((o.toNat : Nat) : Int) = 3 := by
    unfold sizeR
    rw [if_pos (by omega)]
    show sizeS (shapeN o.toNat) = 3
    rw [hs]; rfl
  have g13 := s13 o.toNat
  rw [h13] at g13
  simp only [List.length_cons] at hl
  have g8 := s8 o.toNat (0 : Nat) (0 : Nat) ((h.toNat * 256 + e.toNat) : Nat)
  unfold bytesI at g8
  have bh := h.toNat_lt
  have be := e.toNat_lt
  repeat (first | refine ctl ?_ | refine stp ?_ | refine stpD ?_ | refine stpK ?_ | refine cnt ?_ | refine cnf ?_ | refine ctl_ne ?_ | refine opt (clp hgl0 cprog_okC (by exact rfl) (s26 _ _)) ?_ | refine optD (clp hgl0 cprog_okC (by exact rfl) (s26 _ _)) ?_ | refine optK (clp hgl0 cprog_okC (by exact rfl) (s26 _ _)) ?_ | refine opt (clp hgl0 cprog_okC (by exact rfl) (g13)) ?_ | refine optD (clp hgl0 cprog_okC (by exact rfl) (g13)) ?_ | refine optK (clp hgl0 cprog_okC (by exact rfl) (g13)) ?_)
  (first | refine opt (by exact op_slsx rfl (bnd_int (by omega) (by omega)) (bnd_int (by omega) (by omega))) ?_ | refine optn (by exact op_slsx rfl (bnd_int (by omega) (by omega)) (bnd_int (by omega) (by omega))) ?_ | refine optD (by exact op_slsx rfl (bnd_int (by omega) (by omega)) (bnd_int (by omega) (by omega))) ?_ | refine optnD (by exact op_slsx rfl (bnd_int (by omega) (by omega)) (bnd_int (by omega) (by omega))) ?_ | refine optK (by exact op_slsx rfl (bnd_int (by omega) (by omega)) (bnd_int (by omega) (by omega))) ?_ | refine optnK (by exact op_slsx rfl (bnd_int (by omega) (by omega)) (bnd_int (by omega) (by omega))) ?_)
  rw [seg_eq hd]
  repeat (first | refine ctl ?_ | refine stp ?_ | refine stpD ?_ | refine stpK ?_ | refine cnt ?_ | refine cnf ?_ | refine ctl_ne ?_)
  (first | refine opt (by exact op_ixaa rfl rfl (by omega)) ?_ | refine optn (by exact op_ixaa rfl rfl (by omega)) ?_ | refine optD (by exact op_ixaa rfl rfl (by omega)) ?_ | refine optnD (by exact op_ixaa rfl rfl (by omega)) ?_ | refine optK (by exact op_ixaa rfl rfl (by omega)) ?_ | refine optnK (by exact op_ixaa rfl rfl (by omega)) ?_)
  (first | refine opt (by exact op_ldc (tab0 _ _ (by omega)) Nf.int) ?_ | refine optn (by exact op_ldc (tab0 _ _ (by omega)) Nf.int) ?_ | refine optD (by exact op_ldc (tab0 _ _ (by omega)) Nf.int) ?_ | refine optnD (by exact op_ldc (tab0 _ _ (by omega)) Nf.int) ?_ | refine optK (by exact op_ldc (tab0 _ _ (by omega)) Nf.int) ?_ | refine optnK (by exact op_ldc (tab0 _ _ (by omega)) Nf.int) ?_)
  rw [hs]
  repeat (first | refine ctl ?_ | refine stp ?_ | refine stpD ?_ | refine stpK ?_ | refine cnt ?_ | refine cnf ?_ | refine ctl_ne ?_)
  (first | refine opt (by exact op_slsx (q := 3) (p := 1) rfl rfl rfl) ?_ | refine optn (by exact op_slsx (q := 3) (p := 1) rfl rfl rfl) ?_ | refine optD (by exact op_slsx (q := 3) (p := 1) rfl rfl rfl) ?_ | refine optnD (by exact op_slsx (q := 3) (p := 1) rfl rfl rfl) ?_ | refine optK (by exact op_slsx (q := 3) (p := 1) rfl rfl rfl) ?_ | refine optnK (by exact op_slsx (q := 3) (p := 1) rfl rfl rfl) ?_)
  repeat (first | refine ctl ?_ | refine stp ?_ | refine stpD ?_ | refine stpK ?_ | refine cnt ?_ | refine cnf ?_ | refine ctl_ne ?_ | refine opt (clp hgl0 cprog_okC (by exact rfl) (s27_2 h e)) ?_ | refine optD (clp hgl0 cprog_okC (by exact rfl) (s27_2 h e)) ?_ | refine optK (clp hgl0 cprog_okC (by exact rfl) (s27_2 h e)) ?_)
  by_cases hI : isI (o.toNat : Nat) (0 : Nat) (0 : Nat) ((h.toNat * 256 + e.toNat) : Nat)
  · rw [if_pos hI] at g8 ⊢
    have hp : plainI o.toNat 0 0 (h.toNat * 256 + e.toNat) = [o, h, e] := by
      simp only [plainI, hs, ofn, of1, of2, of3, of4]
      rfl
    replace g8 : Ans cprog gl0 8 [.agg [.int .i64 (o.toNat : Nat), .int .i64 (0 : Nat), .int .i64 (0 : Nat), .int .i64 ((h.toNat * 256 + e.toNat) : Nat)]] [] (.tup [.str (plainI o.toNat 0 0 (h.toNat * 256 + e.toNat)), .int .i64 0]) [] := g8
    rw [hp] at g8
    repeat (first | refine ctl ?_ | refine stp ?_ | refine stpD ?_ | refine stpK ?_ | refine cnt ?_ | refine cnf ?_ | refine ctl_ne ?_ | refine opt (clp hgl0 cprog_okC (by exact rfl) (g8)) ?_ | refine optD (clp hgl0 cprog_okC (by exact rfl) (g8)) ?_ | refine optK (clp hgl0 cprog_okC (by exact rfl) (g8)) ?_)
    exact ⟨.inr rfl, rfl⟩
  · rw [if_neg hI] at g8 ⊢
    repeat (first | refine ctl ?_ | refine stp ?_ | refine stpD ?_ | refine stpK ?_ | refine cnt ?_ | refine cnf ?_ | refine ctl_ne ?_ | refine opt (clp hgl0 cprog_okC (by exact rfl) (g8)) ?_ | refine optD (clp hgl0 cprog_okC (by exact rfl) (g8)) ?_ | refine optK (clp hgl0 cprog_okC (by exact rfl) (g8)) ?_)
    exact ⟨.inr rfl, rfl⟩
theorem s11_4 (l r : List UInt8) (hL : l.length ≤ 9223372036854775807) (p : Nat) (o e : UInt8) (hd : l.drop p = o :: e :: r) (ho : o.toNat < 21) (hs : shapeN o.toNat = 4) : Ans cprog gl0 11 [.str l, .int .i64 p] [] (if isI (o.toNat : Nat) (0 : Nat) (0 : Nat) (e.toNat : Nat) then .tup [instV o.toNat 0 0 e.toNat, .int .i64 (p + 2 : Nat), .int .i64 0] else .tup [instV 0 0 0 0, .int .i64 0, .int .i64 4]) [] := by
  refine a11 rfl ?_
  delta k11
  have hl := drop_len hd
  have hg := drop_get hd
  have h13 : sizeR ((o.toNat : Nat) : Int) = 2 := by
    unfold sizeR
    rw [if_pos (by omega)]
    show sizeS (shapeN o.toNat) = 2
    rw [hs]; rfl
  have g13 := s13 o.toNat
  rw [h13] at g13
  simp only [List.length_cons] at hl
  have g8 := s8 o.toNat (0 : Nat) (0 : Nat) (e.toNat : Nat)
  unfold bytesI at g8
  have be := e.toNat_lt
  repeat (first | refine ctl ?_ | refine stp ?_ | refine stpD ?_ | refine stpK ?_ | refine cnt ?_ | refine cnf ?_ | refine ctl_ne ?_ | refine opt (clp hgl0 cprog_okC (by exact rfl) (s26 _ _)) ?_ | refine optD (clp hgl0 cprog_okC (by exact rfl) (s26 _ _)) ?_ | refine optK (clp hgl0 cprog_okC (by exact rfl) (s26 _ _)) ?_ | refine opt (clp hgl0 cprog_okC (by exact rfl) (g13)) ?_ | refine optD (clp hgl0 cprog_okC (by exact rfl) (g13)) ?_ | refine optK (clp hgl0 cprog_okC (by exact rfl) (g13)) ?_)
  (first | refine opt (by exact op_slsx rfl (bnd_int (by omega) (by omega)) (bnd_int (by omega) (by omega))) ?_ | refine optn (by exact op_slsx rfl (bnd_int (by omega) (by omega)) (bnd_int (by omega) (by omega))) ?_ | refine optD (by exact op_slsx rfl (bnd_int (by omega) (by omega)) (bnd_int (by omega) (by omega))) ?_ | refine optnD (by exact op_slsx rfl (bnd_int (by omega) (by omega)) (bnd_int (by omega) (by omega))) ?_ | refine optK (by exact op_slsx rfl (bnd_int (by omega) (by omega)) (bnd_int (by omega) (by omega))) ?_ | refine optnK (by exact op_slsx rfl (bnd_int (by omega) (by omega)) (bnd_int (by omega) (by omega))) ?_)
  rw [seg_eq hd]
  repeat (first | refine ctl ?_ | refine stp ?_ | refine stpD ?_ | refine stpK ?_ | refine cnt ?_ | refine cnf ?_ | refine ctl_ne ?_)
  (first | refine opt (by exact op_ixaa rfl rfl (by omega)) ?_ | refine optn (by exact op_ixaa rfl rfl (by omega)) ?_ | refine optD (by exact op_ixaa rfl rfl (by omega)) ?_ | refine optnD (by exact op_ixaa rfl rfl (by omega)) ?_ | refine optK (by exact op_ixaa rfl rfl (by omega)) ?_ | refine optnK (by exact op_ixaa rfl rfl (by omega)) ?_)
  (first | refine opt (by exact op_ldc (tab0 _ _ (by omega)) Nf.int) ?_ | refine optn (by exact op_ldc (tab0 _ _ (by omega)) Nf.int) ?_ | refine optD (by exact op_ldc (tab0 _ _ (by omega)) Nf.int) ?_ | refine optnD (by exact op_ldc (tab0 _ _ (by omega)) Nf.int) ?_ | refine optK (by exact op_ldc (tab0 _ _ (by omega)) Nf.int) ?_ | refine optnK (by exact op_ldc (tab0 _ _ (by omega)) Nf.int) ?_)
  rw [hs]
  repeat (first | refine ctl ?_ | refine stp ?_ | refine stpD ?_ | refine stpK ?_ | refine cnt ?_ | refine cnf ?_ | refine ctl_ne ?_)
  (first | refine opt (by exact op_slsx (q := 2) (p := 1) rfl rfl rfl) ?_ | refine optn (by exact op_slsx (q := 2) (p := 1) rfl rfl rfl) ?_ | refine optD (by exact op_slsx (q := 2) (p := 1) rfl rfl rfl) ?_ | refine optnD (by exact op_slsx (q := 2) (p := 1) rfl rfl rfl) ?_ | refine optK (by exact op_slsx (q := 2) (p := 1) rfl rfl rfl) ?_ | refine optnK (by exact op_slsx (q := 2) (p := 1) rfl rfl rfl) ?_)
  repeat (first | refine ctl ?_ | refine stp ?_ | refine stpD ?_ | refine stpK ?_ | refine cnt ?_ | refine cnf ?_ | refine ctl_ne ?_ | refine opt (clp hgl0 cprog_okC (by exact rfl) (s27_1 e)) ?_ | refine optD (clp hgl0 cprog_okC (by exact rfl) (s27_1 e)) ?_ | refine optK (clp hgl0 cprog_okC (by exact rfl) (s27_1 e)) ?_)
  by_cases hI : isI (o.toNat : Nat) (0 : Nat) (0 : Nat) (e.toNat : Nat)
  · rw [if_pos hI] at g8 ⊢
    have hp : plainI o.toNat 0 0 e.toNat = [o, e] := by
      simp [plainI, hs]

    replace g8 : Ans cprog gl0 8 [.agg [.int .i64 (o.toNat : Nat), .int .i64 (0 : Nat), .int .i64 (0 : Nat), .int .i64 (e.toNat : Nat)]] [] (.tup [.str (plainI o.toNat 0 0 e.toNat), .int .i64 0]) [] := g8
    rw [hp] at g8
    repeat (first | refine ctl ?_ | refine stp ?_ | refine stpD ?_ | refine stpK ?_ | refine cnt ?_ | refine cnf ?_ | refine ctl_ne ?_ | refine opt (clp hgl0 cprog_okC (by exact rfl) (g8)) ?_ | refine optD (clp hgl0 cprog_okC (by exact rfl) (g8)) ?_ | refine optK (clp hgl0 cprog_okC (by exact rfl) (g8)) ?_)
    exact ⟨.inr rfl, rfl⟩
  · rw [if_neg hI] at g8 ⊢
    repeat (first | refine ctl ?_ | refine stp ?_ | refine stpD ?_ | refine stpK ?_ | refine cnt ?_ | refine cnf ?_ | refine ctl_ne ?_ | refine opt (clp hgl0 cprog_okC (by exact rfl) (g8)) ?_ | refine optD (clp hgl0 cprog_okC (by exact rfl) (g8)) ?_ | refine optK (clp hgl0 cprog_okC (by exact rfl) (g8)) ?_)
    exact ⟨.inr rfl, rfl⟩
end Go.Proofs.YtachdfhodbdoiaaDoor
