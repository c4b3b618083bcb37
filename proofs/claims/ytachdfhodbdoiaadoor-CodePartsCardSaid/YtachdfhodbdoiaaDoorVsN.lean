/-
  Each operation does what the evaluator says, eighth part: pointers turned, and all of them together but for calls. Under no condition.
-/
import Derived.Test.YtachdfhodbdoiaaDoorVsM
namespace Go.Vs
open Go
section
variable {B0 : Nat} {P : Program} {lk lk' : Locks} {σ σ' : Sig} {st st' : Store} {w w' : World} {o : Oper} {a : Act} {v : PV} {u : Value}
variable {gl : Nat → List PV} {N : Nat} {s : Slots} {E : Req → Option Res}

theorem seenAt_run {b off : Nat} {x : TypeId × Nat} (h : w.shape? b = some x) : (Conv.seenAt ⟨b, off, none⟩).run P w = .ok ⟨b, off, none⟩ w := by
  have hv : (viewAt b).run P w = .ok none w := by simp [viewAt, h]
  simp [Conv.seenAt, hv]
theorem liesAt_one {u : TypeId} (hc : P.cellsOf u ≠ 0) {count : Nat} (hn : 1 ≤ count) : liesAt P P.depth u count 0 u 1 = true := by
  have hd : P.depth = (2 * (P.types.size + Made.depth) + 1) + 1 := rfl
  rw [hd]
  simp only [liesAt, Bool.or_eq_true]
  left
  rw [hd]
  simp [rowAt, hc, hn, sameLayout]

theorem ok_cvp (hS : Sim B0 lk σ st w) (hs : SlotRel lk σ N s a) (hg : GlobOk lk gl) {t d : TypeId} {x : Operand} {px : Opd} {e : TypeId} {i : TypeInfo} (ho : o.op = .convert t d x) (hi : P.info? e = some i) (hz : i.size ≠ 0) (hx : opdC x = some px) {q : Option (TypeId × Nat)}
    (hk : (P.underlying t = some (.pointer e) ∧ P.underlying d = some .unsafePointer ∧ q = none) ∨ (P.underlying t = some .unsafePointer ∧ P.underlying d = some (.pointer e) ∧ q = some (e, i.size)))
    (h : evalOp E gl s st (.cvp q px) = some (v, st')) : st' = st ∧ OpOk B0 P lk σ st w o a v st := by
  have h1 := opdC_rel hs hg hx
  simp only [evalOp] at h
  cases hp : px.ev gl s <;> rw [hp] at h h1 <;> (try (simp at h; done))
  rename_i id g j off
  cases g with
  | succ _ => simp at h
  | zero =>
  cases j with
  | succ _ => simp at h
  | zero =>
  cases off with
  | succ _ => simp at h
  | zero =>
  obtain ⟨B, hB, h⟩ := bind_some h
  by_cases hc : B.isRow = false ∧ (B.es[0]?).any (fun c => !c.isEmpty) = true ∧ cvpOk B q = true
  · rw [if_pos hc] at h
    simp only [Option.some.injEq, Prod.mk.injEq] at h
    obtain ⟨rfl, rfl⟩ := h
    refine ⟨rfl, ?_⟩
    obtain ⟨c1, c2, c3⟩ := hc
    generalize hb : a.eval x = b at h1
    have h1' := h1
    cases h1 with | @ptr _ _ _ _ _ L hL =>
    simp only [Nat.zero_mul, Nat.add_zero] at hb h1'
    have hgen : B.gen = 0 := by simp [Box.gen, c1]
    rw [← hgen] at hL
    obtain ⟨cur, fr, q1, q2, q3, q4, q5⟩ := (hS.boxes id B L hB hL).1.cells
    have hsh : w.shape? L.b = some (B.e, cur.size) := by simp [World.shape?, q1]
    cases hcs : B.es[0]? with
    | none => rw [hcs] at c2; simp at c2
    | some cs =>
      rw [hcs] at c2
      have hpos : ∀ k, k < cs.length → k < cur.size := fun k hk => by
        obtain ⟨u, hu, _⟩ := q5 0 cs hcs k _ (List.getElem?_eq_getElem hk)
        have := (Array.getElem?_eq_some_iff.1 hu).1
        simpa using this
      have hcl : 0 < cs.length := by
        cases cs with
        | nil => simp at c2
        | cons _ _ => simp
      have hcur : 0 < cur.size := hpos 0 hcl
      refine ok_conv hS ho ?_ h1'
      rw [hb]
      rcases hk with ⟨ht, hd, rfl⟩ | ⟨ht, hd, rfl⟩
      · have hne : ¬ (cur.size = 0) := by omega
        simp [convert, run_underlying ht, run_underlying hd, Conv.unsafePointer, seenAt_run hsh, cellsIn, hsh, run_sizeOf' hi, hz, hne]
      · simp only [cvpOk, hcs, Option.map_some, Option.some.injEq, Bool.and_eq_true, decide_eq_true_eq] at c3
        obtain ⟨rfl, c4⟩ := c3
        have hsz : i.size ≤ cur.size := by
          have := hpos (cs.length - 1) (by omega)
          omega
        have hco : P.cellsOf B.e = i.size := by simp [Program.cellsOf, hi]
        have hva : (variablesAt ⟨L.b, 0, none⟩ B.e 1).run P w = .ok true w := by
          simp only [variablesAt, Sem.run_bind, run_program, Result.andThen_ok, run_shape, hsh, Sem.run_pure]
          rw [liesAt_one (by rw [hco]; exact hz) (by rw [hco]; exact (Nat.le_div_iff_mul_le (by omega)).2 (by omega))]
        simp [convert, run_underlying ht, run_underlying hd, Conv.unsafePointer, seenAt_run hsh, run_sizeOf' hi, hz, hva]
  · rw [if_neg hc] at h; cases h
end
end Go.Vs
