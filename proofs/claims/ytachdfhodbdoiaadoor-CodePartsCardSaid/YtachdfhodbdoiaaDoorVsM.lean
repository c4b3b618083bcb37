/-
  Each operation does what the evaluator says, seventh part: what a strings.Builder uses. Under no condition.
-/
import Derived.Test.YtachdfhodbdoiaaDoorVsL
import GoSem.Core.Layout
import Derived.Lib.UnsafeStr
namespace Go.Vs
open Go
section
variable {B0 : Nat} {P : Program} {lk lk' : Locks} {σ σ' : Sig} {st st' : Store} {w w' : World} {o : Oper} {a : Act} {v : PV} {u : Value}
variable {gl : Nat → List PV} {N : Nat} {s : Slots} {E : Req → Option Res}

theorem ref1_one {q : PV} {n : Nat} (h : ref1 n q = true) : oneP q = true := by
  cases q <;> first | rfl | (simp [ref1, ref0] at h)
theorem ok_app (hS : Sim B0 lk σ st w) (hs : SlotRel lk σ N s a) (hg : GlobOk lk gl) {t t' e : TypeId} {i : TypeInfo} {z : Value} {x y : Operand} {px py : Opd} {c : Call} (ho : o.op = .call c) (hcal : c.callee = .builtin .append) (hargs : c.args = #[x, y]) (htys : c.argTypes = #[t, t'])
    (ht : P.underlying t = some (.slice e)) (hi : P.info? e = some i) (hz : i.zero = some z) (hx : opdC x = some px) (hy : opdC y = some py)
    {isStr : Bool} (hk : (isStr = false ∧ t = t' ∧ z.cells.size = i.size) ∨ (isStr = true ∧ P.underlying t' = some .string ∧ i.size = 1 ∧ i.bytes = 1 ∧ z = .int .u8 0))
    (h0 : evalOp E gl s st (.app isStr e i.size i.bytes px py) = some (v, st')) : OpOk B0 P lk σ st w o a v st' := by
  have hrun : ∀ ux uy, a.eval x = ux → a.eval y = uy → (∃ r w' lk' σ', (Builtin.append_ #[t, t'] o.type #[ux, uy]).run P w = .ok r w' ∧ Rel lk' σ' v r ∧ Sim B0 lk' σ' st' w' ∧ Step lk σ st w lk' σ' st' w') → OpOk B0 P lk σ st w o a v st' := by
    rintro ux uy hux huy ⟨r, w', lk', σ', h1, h2, h3, h4⟩
    refine OpOk.val ?_ h2 h3 h4
    simp [execOp, ho, resolve, hcal, hargs, htys, invoke, builtin, hux, huy, h1]
  simp only [evalOp] at h0
  obtain ⟨new, hnew, h⟩ := bind_some h0
  clear h0
  by_cases hc : (new.all fun e => decide (e.length = i.size) && e.all (ref1 0)) = true ∧ 0 < i.size
  · rw [if_pos hc] at h
    obtain ⟨c1, c2⟩ := hc
    have heach : ∀ q ∈ new, q.length = i.size := fun q hq => by
      have := List.all_eq_true.1 c1 q hq
      simp at this; exact this.1
    refine hrun _ _ rfl rfl ?_
    have hrx := opdC_rel hs hg hx
    have hry := opdC_rel hs hg hy
    rcases hk with ⟨rfl, rfl, hzs⟩ | ⟨rfl, hu, hs1, hb1, rfl⟩
    · have hnew' : elemsOf st (py.ev gl s) = some new := by simpa [srcE] using hnew
      obtain ⟨news, hE⟩ := hS.elems c2 hry hnew' heach
      have h1 : ∀ v ∈ news, v.oneCell' = true := fun v hv => by
        obtain ⟨k, hk⟩ := List.mem_iff_getElem?.1 hv
        have hlt : k < new.flatten.length := by have := (List.getElem?_eq_some_iff.1 hk).1; rw [hE.rel.1]; exact this
        have hf := List.getElem?_eq_getElem hlt
        have hr := hE.rel.2 k _ v hf hk
        obtain ⟨e', he1, he2⟩ := flat_inv c2 heach hf
        have hcc := List.all_eq_true.1 c1 e' (List.mem_of_getElem? he1)
        simp only [Bool.and_eq_true] at hcc
        have h0 := all_get hcc.2 he2
        exact (oneP_cell hr (ref1_one h0)).1
      have hlen : news.length = new.length * i.size := by rw [← hE.rel.1, flat_length _ heach]
      rcases hE.at_ with ⟨hn, he0⟩ | ⟨ad, cap, hn, _, hcell⟩
      · subst he0
        have hn0 : news = [] := List.eq_nil_of_length_eq_zero (by simpa using hlen)
        subst hn0
        rw [hn]
        exact app_main hS c2 (appSrc_none ht hi) heach hE.rel hrx h o.type
      · rw [hn]
        exact app_main hS c2 (appSrc_slice ht hi hz hzs hlen hcell h1) heach hE.rel hrx h o.type
    · simp only [srcE, if_true] at hnew
      cases hl : py.ev gl s <;> rw [hl] at hnew hry <;> (try (simp at hnew; done))
      rename_i l
      simp only [Option.some.injEq] at hnew
      subst hnew
      generalize a.eval y = q at hry
      cases hry with | str q =>
      have hsz : (ofBytes q.data.toList).length = q.size := by simp [ofBytes]
      have hrel : RelL lk σ (ofBytes q.data.toList).flatten (Lib.strCells q) := by
        have hfl : (ofBytes q.data.toList).flatten = q.data.toList.map (fun b => PV.int .u8 b.toNat) := by
          unfold ofBytes
          generalize q.data.toList = l
          induction l with
          | nil => rfl
          | cons b r ih => simp [ih]
        rw [hfl]
        refine ⟨by simp [Lib.strCells], fun k c v hc hv => ?_⟩
        simp [Lib.strCells] at hc hv
        obtain ⟨b1, h1, rfl⟩ := hc
        obtain ⟨b2, h2, rfl⟩ := hv
        rw [h1] at h2
        obtain rfl := Option.some.inj h2
        exact .int _ _
      have hA := appSrc_str (P := P) (w := w) ht hu hi hz hs1 q
      rw [← hsz] at hA
      exact app_main hS c2 hA heach hrel hrx h o.type
  · rw [if_neg hc] at h; cases h

/-! ### a slice's first cell, and text over it -/
theorem ok_usd (hS : Sim B0 lk σ st w) (hs : SlotRel lk σ N s a) (hg : GlobOk lk gl) {x : Operand} {px : Opd} {c : Call} (ho : o.op = .call c) (hcal : c.callee = .builtin .unsafeSliceData) (hargs : c.args = #[x]) (hx : opdC x = some px)
    (h : evalOp E gl s st (.usd px) = some (v, st')) : st' = st ∧ OpOk B0 P lk σ st w o a v st := by
  have h1 := opdC_rel hs hg hx
  have he : execOp a.eval o = (do Pure.pure (.value (← Builtin.unsafeSliceData_ c.argTypes o.type #[a.eval x]))) := by simp [execOp, ho, resolve, hcal, hargs, invoke, builtin]
  simp only [evalOp] at h
  cases hp : px.ev gl s <;> rw [hp] at h h1 <;> (try (simp at h; done))
  · simp only [Option.some.injEq, Prod.mk.injEq] at h
    obtain ⟨rfl, rfl⟩ := h
    refine ⟨rfl, ?_⟩
    generalize a.eval x = b at h1 he
    cases h1
    exact OpOk.pure hS he rfl .nilp
  · rename_i id g
    cases g with
    | zero => simp at h
    | succ g =>
      simp only [Option.some.injEq, Prod.mk.injEq] at h
      obtain ⟨rfl, rfl⟩ := h
      refine ⟨rfl, ?_⟩
      generalize a.eval x = b at h1 he
      cases h1 with | @row _ _ _ L hL hcap =>
      refine OpOk.pure hS he (u := .pointer (some ⟨L.b, 0, none⟩)) ?_ (by have := Rel.ptr (lk := lk) (i := 0) (off := 0) hL; simp only [Nat.zero_mul, Nat.add_zero] at this; exact this)
      exact Lib.run_unsafeSliceData_row w _ _ _ _ _ (by omega)

theorem freeze_heap {ad : Addr} {n k : Nat} : (w.freeze ad n).heap[k]? = if k = ad.block ∧ n ≠ 0 then (w.heap[k]?).map (fun
      | .cells c elem (lo, hi) => .cells c elem (if lo == hi then (ad.off, ad.off + n) else (min lo ad.off, max hi (ad.off + n)))
      | o => o) else w.heap[k]? := by
  unfold World.freeze
  by_cases hn : n = 0
  · rw [if_pos hn, if_neg (fun h => h.2 hn)]
  · rw [if_neg hn]
    simp only [Array.getElem?_modify]
    by_cases hk : ad.block = k
    · rw [if_pos hk, if_pos ⟨hk.symm, hn⟩]
      rfl
    · rw [if_neg hk, if_neg (fun h => hk h.1.symm)]

theorem ok_ustr (hS : Sim B0 lk σ st w) (hs : SlotRel lk σ N s a) (hg : GlobOk lk gl) {t e : TypeId} {i : TypeInfo} {x y : Operand} {px py : Opd} {c : Call} (ho : o.op = .call c) (hcal : c.callee = .builtin .unsafeString) {t2 : TypeId} (hargs : c.args = #[x, y]) (hty : c.argTypes = #[t, t2])
    (ht : P.underlying t = some (.pointer e)) (hi : P.info? e = some i) (h1z : i.size = 1) (hx : opdC x = some px) (hy : opdC y = some py)
    (h : evalOp E gl s st (.ustr e px py) = some (v, st')) : OpOk B0 P lk σ st w o a v st' := by
  have h1 := opdC_rel hs hg hx
  have h2 := opdC_rel hs hg hy
  have he : execOp a.eval o = (do Pure.pure (.value (← Builtin.unsafeString_ #[t, t2] o.type #[a.eval x, a.eval y]))) := by simp [execOp, ho, resolve, hcal, hargs, hty, invoke, builtin]
  simp only [evalOp] at h
  cases hp : px.ev gl s <;> rw [hp] at h h1 <;> (try (simp at h; done))
  · cases hq : py.ev gl s <;> rw [hq] at h h2 <;> (try (simp at h; done))
    rename_i k n
    cases k <;> (try (simp at h; done))
    simp only [] at h
    by_cases hn : n = 0
    · rw [if_pos hn] at h
      simp only [Option.some.injEq, Prod.mk.injEq] at h
      obtain ⟨rfl, rfl⟩ := h
      subst hn
      generalize a.eval x = b at h1 he
      generalize a.eval y = d at h2 he
      cases h1; cases h2
      exact OpOk.pure hS he (u := .string .empty) (Lib.run_unsafeString_none w t t2 o.type none) (Rel.str (lk := lk) (σ := σ) .empty)
    · rw [if_neg hn] at h; cases h
  · rename_i id g i' off
    cases i' with
    | succ _ => simp at h
    | zero =>
    cases off with
    | succ _ => simp at h
    | zero =>
    cases hq : py.ev gl s <;> rw [hq] at h h2 <;> (try (simp at h; done))
    rename_i k n
    cases k <;> (try (simp at h; done))
    simp only [] at h
    obtain ⟨B, hB, h⟩ := bind_some h
    by_cases hc : B.isRow = true ∧ B.es.length = g ∧ B.size = 1 ∧ B.e = e ∧ n = g ∧ 0 < g
    · rw [if_pos hc] at h
      obtain ⟨c1, rfl, c3, c4, c5, c6⟩ := hc
      obtain ⟨l, hl, h⟩ := bind_some h
      by_cases hof : B.es = ofBytes l
      · rw [if_pos hof] at h
        simp only [Option.some.injEq, Prod.mk.injEq] at h
        obtain ⟨rfl, rfl⟩ := h
        generalize a.eval x = b at h1 he
        generalize a.eval y = d at h2 he
        cases h1 with | @ptr _ _ _ _ _ L hL =>
        cases h2
        simp only [Nat.zero_mul, Nat.add_zero] at he
        have hgen : B.gen = B.es.length := by simp [Box.gen, c1]
        rw [← hgen] at hL
        have hbox := (hS.boxes id B L hB hL).1
        obtain ⟨cur, fr, q1, q2, q3, q4, q5⟩ := hbox.cells
        obtain ⟨q6, q7, q8⟩ := q3 c1
        have hll : l.length = B.es.length := by rw [hof]; simp [ofBytes]
        have hcell : ∀ j x, l[j]? = some x → w.cell? ((⟨L.b, 0, none⟩ : Addr).add j) = some (.int .u8 x.toNat) := by
          intro j x hj
          rw [Addr.add_mid, Nat.zero_add, cell_of_row w L.b j cur B.e fr q1]
          have hb : B.es[j]? = some [.int .u8 x.toNat] := by rw [hof]; simp [ofBytes, hj]
          obtain ⟨u, hu, hr⟩ := q5 j _ hb 0 _ rfl
          rw [(hbox.size c1).1, c3, Nat.mul_one, Nat.add_zero] at hu
          rw [hu]
          cases hr; rfl
        rw [c4] at q1
        have hfz : ∀ k', k' ≠ L.b → (w.freeze ⟨L.b, 0, none⟩ B.es.length).heap[k']? = w.heap[k']? := fun k' hk => by rw [freeze_heap, if_neg (fun h => hk h.1)]
        have hfh : ∃ fr', (w.freeze ⟨L.b, 0, none⟩ B.es.length).heap[L.b]? = some (.cells cur e fr') := by
          rw [freeze_heap, if_pos ⟨rfl, by omega⟩, q1]
          exact ⟨_, rfl⟩
        obtain ⟨fr', hfh⟩ := hfh
        have hgen' : ({ B with lk := B.es.length, fz := true } : Box).gen = B.gen := rfl
        have hsz' : (w.freeze ⟨L.b, 0, none⟩ B.es.length).heap.size = w.heap.size := by unfold World.freeze; split <;> simp
        have hmain := hS.setBox (B' := { B with lk := B.es.length, fz := true }) (L' := L) (lk' := lk) (w' := w.freeze ⟨L.b, 0, none⟩ B.es.length) hB hL (Nat.le_refl _) (fun _ => rfl) (.inl rfl) (fun _ _ h => h) (fun _ _ => rfl)
          (fun ad x hab hx => by
            obtain ⟨r1, r2⟩ := hS.locked ad x hx
            refine ⟨r1, ?_⟩
            obtain ⟨ab, ao, asp⟩ := ad
            simp only at r1 hab
            subst r1; subst hab
            rw [cell_of_row w _ _ cur e fr q1] at r2
            rw [cell_of_row _ _ _ cur e fr' hfh]; exact r2)
          (fun k' _ hk => hfz k' hk) (by rw [hsz']; exact Nat.le_refl _) (by unfold World.freeze; split <;> rfl) (by unfold World.freeze; split <;> rfl) (by unfold World.freeze; split <;> rfl)
          (by
            rw [hgen', Sig.put_same hL]
            exact ⟨⟨cur, fr', by simp only []; rw [c4]; exact hfh, fun h => by simp at h, q3, q4, q5⟩, hbox.size, hbox.each, fun h => (by rw [c1] at h; cases h), Nat.le_refl _, fun j hj => hbox.free j (Nat.le_trans (Nat.mul_le_mul_right _ hbox.lkle) hj)⟩)
        rw [hgen', Sig.put_same hL] at hmain
        have hstr := Rel.str (lk := lk) (σ := σ) ⟨l.toArray⟩
        have hml : maxLen = 9223372036854775807 := by unfold maxLen; omega
        have hrun := Lib.run_unsafeString_row (P := P) w t t2 o.type e ht (by simp [Program.cellsOf, hi, h1z]) L.b cur.size (by simp [World.shape?, q1]) l (fun h0 => by rw [h0] at hll; simp at hll; omega) (by rw [q6, c3]; omega) (by omega) hcell
        rw [hll] at hrun
        refine OpOk.val (w' := w.freeze ⟨L.b, 0, none⟩ B.es.length) (u := .string ⟨l.toArray⟩) ?_ hstr hmain.1 hmain.2
        rw [he, c5, Sem.run_bind, hrun]
        rfl
      · rw [if_neg hof] at h; cases h
    · rw [if_neg hc] at h; cases h
end
end Go.Vs
