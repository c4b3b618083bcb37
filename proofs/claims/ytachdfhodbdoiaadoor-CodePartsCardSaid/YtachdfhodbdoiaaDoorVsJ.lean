/-
  Each operation does what the evaluator says, fourth part: variables, stores, rows. Under no condition.
-/
import Derived.Test.YtachdfhodbdoiaaDoorVsI
import Derived.Laws.BytesString
import Derived.Laws.BytesArg
import Derived.Lib.AppendStr
namespace Go.Vs
open Go
section
variable {B0 : Nat} {P : Program} {lk lk' : Locks} {σ σ' : Sig} {st st' : Store} {w w' : World} {o : Oper} {a : Act} {v : PV} {u : Value}
variable {gl : Nat → List PV} {N : Nat} {s : Slots} {E : Req → Option Res}

theorem oneP_cell {p : PV} {x : Value} (h : Rel lk σ p x) (h1 : oneP p = true) : x.oneCell' = true ∧ (cellsOf p = [p]) ∧ x.cells = #[x] := by
  cases h <;> first | (exact ⟨rfl, rfl, rfl⟩) | (simp [oneP] at h1)
/-- A value's cells. -/
theorem cells_rel {p : PV} {x : Value} (h : Rel lk σ p x) (h1 : (cellsOf p).all oneP = true) : RelL lk σ (cellsOf p) x.cells.toList ∧ (∀ c ∈ x.cells.toList, c.oneCell' = true) := by
  by_cases ha : ∃ cs, p = .agg cs
  · obtain ⟨cs, rfl⟩ := ha
    obtain ⟨vs, rfl, hr⟩ := h.agg_iff
    refine ⟨by simpa [cellsOf, Value.cells] using hr, fun c hc => ?_⟩
    simp only [Value.cells, List.toList_toArray] at hc
    obtain ⟨j, hj⟩ := List.mem_iff_getElem?.1 hc
    have hlt : j < cs.length := by have := (List.getElem?_eq_some_iff.1 hj).1; rw [hr.1]; exact this
    have hp := List.getElem?_eq_getElem hlt
    exact (oneP_cell (hr.2 j _ _ hp hj) (all_get h1 hp)).1
  · have hc : cellsOf p = [p] := by
      cases p <;> first | rfl | (exact absurd ⟨_, rfl⟩ ha)
    rw [hc] at h1 ⊢
    obtain ⟨h2, _, h4⟩ := oneP_cell h (by simpa using h1)
    rw [h4]
    exact ⟨RelL.cons h RelL.nil, fun c hc => by simp at hc; subst hc; exact h2⟩

/-- A variable is made. -/
theorem var_push (hS : Sim B0 lk σ st w) {cs : List PV} {us : Array Value} (hr : RelL lk σ cs us.toList) (e : TypeId) :
    Rel lk (σ.put st.length 0 ⟨w.heap.size, 0, 0⟩) (.ptr st.length 0 0 0) (.pointer (some ⟨w.heap.size, 0, none⟩)) ∧
    Sim B0 lk (σ.put st.length 0 ⟨w.heap.size, 0, 0⟩) (st ++ [Box.mk [cs] false 0 e 0 false]) (w.alloc (.cells us e)) ∧
    Step lk σ st w lk (σ.put st.length 0 ⟨w.heap.size, 0, 0⟩) (st ++ [Box.mk [cs] false 0 e 0 false]) (w.alloc (.cells us e)) := by
  have hmono : ∀ i h L'', σ i h = some L'' → σ.put st.length 0 ⟨w.heap.size, 0, 0⟩ i h = some L'' := Sig.put_mono (fun L'' h => absurd (hS.dom _ _ _ h) (by omega))
  have := hS.push (B := Box.mk [cs] false 0 e 0 false) (L := ⟨w.heap.size, 0, 0⟩) (w' := w.alloc (.cells us e)) (Nat.le_refl _) (fun k hk => heap_alloc_old w _ k hk) (by simp) rfl rfl rfl
    ⟨⟨us, (0, 0), heap_alloc_new w _, fun _ => rfl, fun h => by simp at h, fun _ => rfl, fun i e' hi j v hv => by
      have hi0 : i = 0 := by have := (List.getElem?_eq_some_iff.1 hi).1; simp at this; exact this
      subst hi0
      simp at hi
      subst hi
      have hj : j < us.toList.length := by have := (List.getElem?_eq_some_iff.1 hv).1; rw [← hr.1]; exact this
      refine ⟨us.toList[j], by simp, ?_⟩
      exact (hr.2 j v _ hv (List.getElem?_eq_getElem hj)).mono (fun _ _ h => h) hmono⟩,
    fun h => by simp at h, fun h => by simp at h, fun _ => rfl, by simp, fun j _ => hS.free (Nat.le_refl _) j none⟩
  exact ⟨by have := Rel.ptr (lk := lk) (i := 0) (off := 0) (Sig.put_self σ st.length 0 ⟨w.heap.size, 0, 0⟩); simpa using this, this.1, this.2⟩

theorem zeroC_some {t : TypeId} {zs : List PV} (h : zeroC P t = some zs) : ∃ i z, P.info? t = some i ∧ i.zero = some z ∧ RelL lk σ zs z.cells.toList := by
  unfold zeroC at h
  obtain ⟨i, hi, h⟩ := bind_some h
  obtain ⟨z, hz, h⟩ := bind_some h
  exact ⟨i, z, hi, hz, toPVs_rel h⟩
theorem run_zeroValue' {t : TypeId} {i : TypeInfo} {z : Value} (hi : P.info? t = some i) (hz : i.zero = some z) : (zeroValue t).run P w = .ok z w := by simp [zeroValue, typeInfo, hi, hz]

theorem ok_alloc (hS : Sim B0 lk σ st w) {e : TypeId} {zs : List PV} (ho : o.op = .alloc e) (hz : zeroC P e = some zs) : OpOk B0 P lk σ st w o a (.ptr st.length 0 0 0) (st ++ [Box.mk [zs] false 0 e 0 false]) := by
  obtain ⟨i, z, hi, hz', hr⟩ := zeroC_some (lk := lk) (σ := σ) hz
  obtain ⟨h1, h2, h3⟩ := var_push hS (us := z.cells) hr e
  refine OpOk.val (w' := w.alloc (.cells z.cells e)) ?_ h1 h2 h3
  simp [execOp, ho, Instr.alloc, run_zeroValue' hi hz', newVar, newRow]

theorem ok_box (hS : Sim B0 lk σ st w) (hs : SlotRel lk σ N s a) (hg : GlobOk lk gl) {e : TypeId} {x : Operand} {px : Opd} (ho : o.op = .box e x) (hx : opdC x = some px) (h1 : (cellsOf (px.ev gl s)).all oneP = true) :
    OpOk B0 P lk σ st w o a (.ptr st.length 0 0 0) (st ++ [Box.mk [cellsOf (px.ev gl s)] false 0 e 0 false]) := by
  obtain ⟨hr, _⟩ := cells_rel (opdC_rel hs hg hx) h1
  obtain ⟨h1, h2, h3⟩ := var_push hS (us := (a.eval x).cells) hr e
  refine OpOk.val (w' := w.alloc (.cells (a.eval x).cells e)) ?_ h1 h2 h3
  simp [execOp, ho, Instr.box, newVar, newRow]

/-! ### aggregates and new rows -/
theorem foldl_set (vs : List Value) : ∀ (n off : Nat) (cs : Array Value), ((vs.zipIdx n).foldl (fun cs (c, j) => cs.setIfInBounds (off + j) c) cs).size = cs.size ∧
    ∀ k, ((vs.zipIdx n).foldl (fun cs (c, j) => cs.setIfInBounds (off + j) c) cs)[k]? = if off + n ≤ k ∧ k < off + n + vs.length ∧ k < cs.size then vs[k - (off + n)]? else cs[k]? := by
  induction vs with
  | nil => intro n off cs; exact ⟨rfl, fun k => by simp; omega⟩
  | cons v r ih =>
    intro n off cs
    simp only [List.zipIdx_cons, List.foldl_cons]
    obtain ⟨h1, h2⟩ := ih (n + 1) off (cs.setIfInBounds (off + n) v)
    refine ⟨by rw [h1]; simp, fun k => ?_⟩
    rw [h2 k]
    simp only [Array.size_setIfInBounds, List.length_cons]
    by_cases hk : k = off + n
    · subst hk
      rw [if_neg (by omega)]
      by_cases hlt : off + n < cs.size
      · rw [if_pos ⟨by omega, by omega, hlt⟩]
        simp [hlt]
      · rw [if_neg (by omega)]
        simp [hlt]
    · by_cases hc : off + n ≤ k ∧ k < off + n + (r.length + 1) ∧ k < cs.size
      · rw [if_pos hc, if_pos (by omega)]
        have : k - (off + n) = (k - (off + (n + 1))) + 1 := by omega
        rw [this]; simp
      · rw [if_neg hc, if_neg (by omega)]
        rw [Array.getElem?_setIfInBounds, if_neg (fun e => hk e.symm)]

theorem fill_cells {v : Value} {cs : Array Value} {off : Nat} : (v.cells.zipIdx.foldl (fun cs (c, j) => cs.setIfInBounds (off + j) c) cs).size = cs.size ∧
    ∀ k, (v.cells.zipIdx.foldl (fun cs (c, j) => cs.setIfInBounds (off + j) c) cs)[k]? = if off ≤ k ∧ k < off + v.cells.size ∧ k < cs.size then v.cells[k - off]? else cs[k]? := by
  have := foldl_set v.cells.toList 0 off cs
  have he : v.cells.zipIdx.foldl (fun cs (c, j) => cs.setIfInBounds (off + j) c) cs = (v.cells.toList.zipIdx 0).foldl (fun cs (c, j) => cs.setIfInBounds (off + j) c) cs := by
    rw [← Array.foldl_toList, Array.toList_zipIdx]
  rw [he]
  simpa using this

/-- Parts as they are told, and as the model has them. -/
inductive PartsRel (lk : Locks) (σ : Sig) (place : Nat → Option (Nat × Nat)) : List (Nat × Nat × PV) → List (Nat × Value) → Prop where
  | nil : PartsRel lk σ place [] []
  | cons {off size i : Nat} {p : PV} {v : Value} {ps : List (Nat × Nat × PV)} {vs : List (Nat × Value)} (hp : place i = some (off, size)) (h : Rel lk σ p v) (hr : PartsRel lk σ place ps vs) :
      PartsRel lk σ place ((off, size, p) :: ps) ((i, v) :: vs)

theorem fill_ok {place : Nat → Option (Nat × Nat)} : ∀ {ps : List (Nat × Nat × PV)} {vs : List (Nat × Value)} (_ : PartsRel lk σ place ps vs) {zs cs : List PV} {us : Array Value} (_ : RelL lk σ zs us.toList) (_ : fillE zs ps = some cs),
    ∃ us', Instr.fill place us vs = some us' ∧ RelL lk σ cs us'.toList
  | _, _, .nil, zs, cs, us, hr, h => by
    simp only [fillE, Option.some.injEq] at h
    subst h
    exact ⟨us, rfl, hr⟩
  | _, _, .cons (off := off) (size := size) (p := p) (v := v) hp hrel hrest, zs, cs, us, hr, h => by
    simp only [fillE] at h
    by_cases hc : (cellsOf p).length = size ∧ (cellsOf p).all oneP = true ∧ off + size ≤ zs.length
    · rw [if_pos hc] at h
      obtain ⟨c1, c2, c3⟩ := hc
      obtain ⟨hcr, _⟩ := cells_rel hrel c2
      have hsz : v.cells.size = size := by rw [← c1]; have := hcr.1; simpa using this.symm
      have hzl : zs.length = us.size := by have := hr.1; simpa using this
      obtain ⟨f1, f2⟩ := fill_cells (v := v) (cs := us) (off := off)
      have hnew : RelL lk σ (putCells zs off (cellsOf p)) (v.cells.zipIdx.foldl (fun cs (c, j) => cs.setIfInBounds (off + j) c) us).toList := by
        refine ⟨by rw [putCells_length _ _ _ (by omega)]; exact hzl.trans (f1.symm.trans Array.length_toList.symm), fun j c x hj hx => ?_⟩
        rw [putCells_get _ _ _ _ (by omega)] at hj
        rw [Array.getElem?_toList, f2 j] at hx
        by_cases h1 : j < off
        · rw [if_pos h1] at hj
          rw [if_neg (by omega)] at hx
          exact hr.2 j c x hj (by simpa using hx)
        · rw [if_neg h1] at hj
          by_cases h2 : j < off + (cellsOf p).length
          · rw [if_pos h2] at hj
            rw [if_pos (by omega)] at hx
            exact hcr.2 (j - off) c x hj (by simpa using hx)
          · rw [if_neg h2] at hj
            rw [if_neg (by omega)] at hx
            exact hr.2 j c x hj (by simpa using hx)
      obtain ⟨us', h3, h4⟩ := fill_ok hrest hnew h
      refine ⟨us', ?_, h4⟩
      simp only [Instr.fill, hp]
      rw [if_neg (by simp; omega)]
      exact h3
    · rw [if_neg hc] at h; cases h

theorem parts_S (hs : SlotRel lk σ N s a) (hg : GlobOk lk gl) {pl : List (Nat × Nat)} : ∀ {ps : List (Nat × Operand)} {qs : List (Nat × Nat × Opd)}, partsS pl ps = some qs →
    PartsRel lk σ (fun i => pl[i]?) (qs.map fun (o, n, x) => (o, n, x.ev gl s)) (ps.map fun (i, x) => (i, a.eval x))
  | [], qs, h => by
    simp only [partsS, Option.some.injEq] at h
    subst h; exact .nil
  | (i, x) :: r, qs, h => by
    simp only [partsS] at h
    obtain ⟨f, h1, h⟩ := bind_some h
    obtain ⟨p, h3, h⟩ := bind_some h
    obtain ⟨ps, h4, h⟩ := bind_some h
    obtain rfl := Option.some.inj h
    exact .cons (by simp [h1]) (opdC_rel hs hg h3) (parts_S hs hg h4)
theorem parts_A (hs : SlotRel lk σ N s a) (hg : GlobOk lk gl) {size : Nat} : ∀ {ps : List (Nat × Operand)} {qs : List (Nat × Nat × Opd)}, partsA size ps = some qs →
    PartsRel lk σ (fun i => some (i * size, size)) (qs.map fun (o, n, x) => (o, n, x.ev gl s)) (ps.map fun (i, x) => (i, a.eval x))
  | [], qs, h => by
    simp only [partsA, Option.some.injEq] at h
    subst h; exact .nil
  | (i, x) :: r, qs, h => by
    simp only [partsA] at h
    obtain ⟨p, h3, h⟩ := bind_some h
    obtain ⟨ps, h4, h⟩ := bind_some h
    obtain rfl := Option.some.inj h
    exact .cons rfl (opdC_rel hs hg h3) (parts_A hs hg h4)
end
end Go.Vs
