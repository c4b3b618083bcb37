/-
  What the arguments of a law are, by their types. Under no condition.
-/
import Derived.Test.YtachdfhodbdoiaaDoorVsSu
namespace Go.Vs
open Go
section
variable {P : Program} {t e : TypeId} {p : PV}
theorem ArgsTy.nil_inv {ps : List PV} (h : ArgsTy P [] ps) : ps = [] := by
  cases ps with
  | nil => rfl
  | cons _ _ => exact h.elim
theorem ArgsTy.cons_inv {ts : List TypeId} {ps : List PV} (h : ArgsTy P (t :: ts) ps) : ∃ q qs, ps = q :: qs ∧ ArgTy P t q ∧ ArgsTy P ts qs := by
  cases ps with
  | nil => exact h.elim
  | cons q qs => exact ⟨q, qs, rfl, h.1, h.2⟩
theorem Ty.int_inv {n : Nat} {cs : List PV} {k : IntKind} (hu : P.underlying t = some (.int k)) (h : Ty P n t cs) : ∃ i, cs = [.int k i] ∧ k.min ≤ i ∧ i ≤ k.max := by
  cases n with
  | zero => exact h.elim
  | succ n => unfold Ty at h; rw [hu] at h; exact h
theorem Ty.str_inv {n : Nat} {cs : List PV} (hu : P.underlying t = some .string) (h : Ty P n t cs) : ∃ s, cs = [.str s] ∧ s.length ≤ maxLen := by
  cases n with
  | zero => exact h.elim
  | succ n => unfold Ty at h; rw [hu] at h; exact h
theorem Ty.bool_inv {n : Nat} {cs : List PV} (hu : P.underlying t = some .bool) (h : Ty P n t cs) : ∃ b, cs = [.bool b] := by
  cases n with
  | zero => exact h.elim
  | succ n => unfold Ty at h; rw [hu] at h; exact h
theorem Ty.slice_inv {n : Nat} {cs : List PV} (hu : P.underlying t = some (.slice e)) (hc : P.cellsOf e ≠ 0) (h : Ty P n t cs) : cs = [.nilsl] ∨ ∃ es m, n = m + 1 ∧ cs = [.sl es] ∧ es.length ≤ maxLen ∧ ∀ x ∈ es, x.length = P.cellsOf e ∧ Ty P m e x := by
  cases n with
  | zero => exact h.elim
  | succ n =>
    unfold Ty at h
    rw [hu] at h
    rcases h with h | h | ⟨es, h1, h2, h3⟩
    · exact absurd h hc
    · exact .inl h
    · exact .inr ⟨es, n, rfl, h1, h2, h3⟩
theorem Ty.struct_inv {n : Nat} {cs : List PV} {fs : Array Field} (hu : P.underlying t = some (.struct fs)) (h : Ty P n t cs) : ∃ m, n = m + 1 ∧ cs.length = P.cellsOf t ∧ ∀ f ∈ fs, Ty P m f.type ((cs.drop f.offset).take (P.cellsOf f.type)) := by
  cases n with
  | zero => exact h.elim
  | succ n => unfold Ty at h; rw [hu] at h; exact ⟨n, rfl, h⟩
theorem Ty.array_inv {n m : Nat} {cs : List PV} (hu : P.underlying t = some (.array m e)) (h : Ty P n t cs) : ∃ n', n = n' + 1 ∧ cs.length = P.cellsOf t ∧ ∀ i, i < m → Ty P n' e ((cs.drop (i * P.cellsOf e)).take (P.cellsOf e)) := by
  cases n with
  | zero => exact h.elim
  | succ n => unfold Ty at h; rw [hu] at h; exact ⟨n, rfl, h⟩
/-- A field of one number. -/
theorem Ty.field_int {n : Nat} {cs : List PV} {fs : Array Field} {i : Nat} {f : Field} {k : IntKind} (hu : P.underlying t = some (.struct fs)) (h : Ty P n t cs) (hf : fs[i]? = some f) (hk : P.underlying f.type = some (.int k)) (hc : P.cellsOf f.type = 1) : ∃ z, cs[f.offset]? = some (.int k z) ∧ k.min ≤ z ∧ z ≤ k.max := by
  obtain ⟨m, _, _, h⟩ := h.struct_inv hu
  have h1 := h f (Array.mem_of_getElem? hf)
  rw [hc] at h1
  obtain ⟨z, e, h2⟩ := h1.int_inv hk
  refine ⟨z, ?_, h2⟩
  have h3 : ((cs.drop f.offset).take 1)[0]? = some (.int k z) := by rw [e]; rfl
  rw [List.getElem?_take, if_pos (by omega), List.getElem?_drop] at h3
  simpa using h3
theorem Ty.struct_len {n : Nat} {cs : List PV} {fs : Array Field} (hu : P.underlying t = some (.struct fs)) (h : Ty P n t cs) : cs.length = P.cellsOf t := by
  obtain ⟨m, _, h, _⟩ := h.struct_inv hu
  exact h
theorem arg_int {k : IntKind} (hu : P.underlying t = some (.int k)) (h : ArgTy P t p) : ∃ i, p = .int k i ∧ k.min ≤ i ∧ i ≤ k.max := by
  unfold ArgTy at h
  rw [hu] at h
  obtain ⟨n, h⟩ := h
  obtain ⟨i, h1, h2⟩ := h.int_inv hu
  cases h1
  exact ⟨i, rfl, h2⟩
theorem arg_str (hu : P.underlying t = some .string) (h : ArgTy P t p) : ∃ s, p = .str s ∧ s.length ≤ maxLen := by
  unfold ArgTy at h
  rw [hu] at h
  obtain ⟨n, h⟩ := h
  obtain ⟨i, h1, h2⟩ := h.str_inv hu
  cases h1
  exact ⟨i, rfl, h2⟩
theorem arg_slice (hu : P.underlying t = some (.slice e)) (hc : P.cellsOf e ≠ 0) (h : ArgTy P t p) : p = .nilsl ∨ ∃ es m, p = .sl es ∧ es.length ≤ maxLen ∧ ∀ x ∈ es, x.length = P.cellsOf e ∧ Ty P m e x := by
  unfold ArgTy at h
  rw [hu] at h
  obtain ⟨n, h⟩ := h
  rcases h.slice_inv hu hc with h1 | ⟨es, m, _, h1, h2, h3⟩
  · cases h1; exact .inl rfl
  · cases h1; exact .inr ⟨es, m, rfl, h2, h3⟩
theorem arg_struct {fs : Array Field} (hu : P.underlying t = some (.struct fs)) (h : ArgTy P t p) : ∃ n cs, p = .agg cs ∧ Ty P n t cs := by
  unfold ArgTy at h
  rw [hu] at h
  exact h
theorem arg_array {m : Nat} (hu : P.underlying t = some (.array m e)) (h : ArgTy P t p) : ∃ n cs, p = .agg cs ∧ Ty P n t cs := by
  unfold ArgTy at h
  rw [hu] at h
  exact h
theorem min_i64 : IntKind.min .i64 = -9223372036854775808 := by decide
theorem max_i64 : IntKind.max .i64 = 9223372036854775807 := by decide
theorem u64_nat {i : Int} (h1 : IntKind.min .u64 ≤ i) (h2 : i ≤ IntKind.max .u64) : ∃ n : Nat, i = n ∧ n < 2 ^ 64 := by
  have e1 : IntKind.min .u64 = 0 := by decide
  have e2 : IntKind.max .u64 = 18446744073709551615 := by decide
  exact ⟨i.toNat, by omega, by omega⟩
theorem u32_nat {i : Int} (h1 : IntKind.min .u32 ≤ i) (h2 : i ≤ IntKind.max .u32) : ∃ n : Nat, i = n ∧ n < 2 ^ 32 := by
  have e1 : IntKind.min .u32 = 0 := by decide
  have e2 : IntKind.max .u32 = 4294967295 := by decide
  exact ⟨i.toNat, by omega, by omega⟩
theorem u16_nat {i : Int} (h1 : IntKind.min .u16 ≤ i) (h2 : i ≤ IntKind.max .u16) : ∃ n : Nat, i = n ∧ n < 65536 := by
  have e1 : IntKind.min .u16 = 0 := by decide
  have e2 : IntKind.max .u16 = 65535 := by decide
  exact ⟨i.toNat, by omega, by omega⟩
theorem u8_nat {i : Int} (h1 : IntKind.min .u8 ≤ i) (h2 : i ≤ IntKind.max .u8) : ∃ n : Nat, i = n ∧ n < 256 := by
  have e1 : IntKind.min .u8 = 0 := by decide
  have e2 : IntKind.max .u8 = 255 := by decide
  exact ⟨i.toNat, by omega, by omega⟩
end
end Go.Vs
