/-
  Each operation does what the evaluator says, third part: indexes, lengths, memory. Under no condition.
-/
import Derived.Test.YtachdfhodbdoiaaDoorVsH
namespace Go.Vs
open Go
section
variable {B0 : Nat} {P : Program} {lk lk' : Locks} {σ σ' : Sig} {st st' : Store} {w w' : World} {o : Oper} {a : Act} {v : PV} {u : Value}
variable {gl : Nat → List PV} {N : Nat} {s : Slots} {E : Req → Option Res}

theorem indexAt_slice {t e : TypeId} {i : TypeInfo} {ad : Addr} {n cap : Nat} {k : IntKind} {m : Int} (hu : P.underlying t = some (.slice e)) (hi : P.info? e = some i) (h0 : 0 ≤ m) (h1 : m < n) :
    (Instr.indexAt t (.slice (some ad) n cap) (.int k m)).run P w = .ok (.pointer (some (ad.add (m.toNat * i.size)))) w := by
  simp [Instr.indexAt, asIntOf, run_underlying hu, h0, h1, run_sizeOf' hi]

theorem ok_ixa (hS : Sim B0 lk σ st w) (hs : SlotRel lk σ N s a) (hg : GlobOk lk gl) {t e : TypeId} {i : TypeInfo} {x y : Operand} {px py : Opd} (ho : o.op = .indexAddr t x y) (hu : P.underlying t = some (.slice e)) (hi : P.info? e = some i)
    (hx : opdC x = some px) (hy : opdC y = some py) (h : evalOp E gl s st (.ixa i.size px py) = some (v, st')) : st' = st ∧ OpOk B0 P lk σ st w o a v st := by
  have h1 := opdC_rel hs hg hx
  have h2 := opdC_rel hs hg hy
  have he : execOp a.eval o = (do Pure.pure (.value (← Instr.indexAt t (a.eval x) (a.eval y)))) := by simp [execOp, ho]
  simp only [evalOp] at h
  cases hp : px.ev gl s <;> rw [hp] at h h1 <;> (try (simp at h; done))
  · rename_i es
    simp only [] at h
    obtain ⟨j, hj, h⟩ := bind_some h
    obtain ⟨el, hel, h⟩ := bind_some h
    by_cases hsz : el.length = i.size
    · rw [if_pos hsz] at h
      simp only [Option.some.injEq, Prod.mk.injEq] at h
      obtain ⟨rfl, rfl⟩ := h
      refine ⟨rfl, ?_⟩
      obtain ⟨k, m, hm, h4, h5, rfl, h6⟩ := idx_run hj h2
      generalize a.eval x = b at h1 he
      cases h1 with
      | slnil => simp at h6
      | sle => simp at h6
      | @sl _ _ bb off size cap u hs' hc hu' hr' =>
        refine OpOk.pure hS he (by rw [hm]; exact indexAt_slice hu hi h4 h5) ?_
        rw [Addr.add_mid]
        have hsize : size = i.size := (hs' _ _ hel).symm.trans hsz
        subst hsize
        exact .pf (u m.toNat) (fun j v hv => hu' _ _ hel _ _ hv) (fun j v hv => hr' _ _ hel _ _ hv)
    · rw [if_neg hsz] at h; cases h
  · rename_i id g
    simp only [] at h
    obtain ⟨j, hj, h⟩ := bind_some h
    obtain ⟨B, hB, h⟩ := bind_some h
    by_cases hc : B.isRow = true ∧ B.es.length = g ∧ B.size = i.size
    · rw [if_pos hc] at h
      simp only [Option.some.injEq, Prod.mk.injEq] at h
      obtain ⟨rfl, rfl⟩ := h
      refine ⟨rfl, ?_⟩
      obtain ⟨k, m, hm, h4, h5, rfl, h6⟩ := idx_run hj h2
      generalize a.eval x = b at h1 he
      cases h1 with | @row _ _ _ L hL hcap =>
      have hLs : L.size = i.size := by
        obtain ⟨c1, c2, c3⟩ := hc
        have hgen : B.gen = g := by simp [Box.gen, c1, c2]
        rw [← hgen] at hL
        rw [((hS.boxes id B L hB hL).1.size c1).1, c3]
      refine OpOk.pure hS he (by rw [hm]; exact indexAt_slice hu hi h4 h5) ?_
      rw [Addr.add_mid, ← hLs, Nat.zero_add]
      exact .ptr (off := 0) hL
    · rw [if_neg hc] at h; cases h
  · rename_i id off len
    simp only [] at h
    by_cases hsz : i.size = 1
    · rw [if_pos hsz] at h
      obtain ⟨j, hj, h⟩ := bind_some h
      simp only [Option.some.injEq, Prod.mk.injEq] at h
      obtain ⟨rfl, rfl⟩ := h
      refine ⟨rfl, ?_⟩
      obtain ⟨k, m, hm, h4, h5, rfl, h6⟩ := idx_run hj h2
      generalize a.eval x = b at h1 he
      cases h1 with
      | @arr _ _ _ _ cap L hL hcap =>
        refine OpOk.pure hS he (by rw [hm]; exact indexAt_slice hu hi h4 h5) ?_
        rw [Addr.add_mid, hsz, Nat.mul_one]
        have := Rel.ptr (lk := lk) (i := 0) (off := off + m.toNat) hL
        simpa using this
      | arr0 hL => omega
    · rw [if_neg hsz] at h; cases h

theorem ok_ixaa (hS : Sim B0 lk σ st w) (hs : SlotRel lk σ N s a) (hg : GlobOk lk gl) {t e : TypeId} {n : Nat} {i : TypeInfo} {x y : Operand} {px py : Opd} (ho : o.op = .indexAddr t x y) (hu : P.underlying t = some (.array n e)) (hi : P.info? e = some i)
    (hx : opdC x = some px) (hy : opdC y = some py) (h : evalOp E gl s st (.ixaa n i.size px py) = some (v, st')) : st' = st ∧ OpOk B0 P lk σ st w o a v st := by
  have h1 := opdC_rel hs hg hx
  have h2 := opdC_rel hs hg hy
  have he : execOp a.eval o = (do Pure.pure (.value (← Instr.indexAt t (a.eval x) (a.eval y)))) := by simp [execOp, ho]
  have hrun : ∀ (ad : Addr) (k : IntKind) (m : Int), 0 ≤ m → m < n → (Instr.indexAt t (.pointer (some ad)) (.int k m)).run P w = .ok (.pointer (some (ad.add (m.toNat * i.size)))) w := by
    intro ad k m h0 h1
    simp [Instr.indexAt, asIntOf, run_underlying hu, Instr.sureAddr, h0, h1, run_sizeOf' hi]
  simp only [evalOp] at h
  cases hp : px.ev gl s <;> rw [hp] at h h1 <;> (try (simp at h; done))
  · simp only [] at h
    obtain ⟨j, hj, h⟩ := bind_some h
    simp only [Option.some.injEq, Prod.mk.injEq] at h
    obtain ⟨rfl, rfl⟩ := h
    refine ⟨rfl, ?_⟩
    obtain ⟨k, m, hm, h4, h5, rfl, h6⟩ := idx_run hj h2
    obtain ⟨ad, h7, h8⟩ := ptr_add (n := m.toNat * i.size) h1
    exact OpOk.pure hS he (by rw [hm, h7]; exact hrun _ _ _ h4 h5) h8
  · simp only [] at h
    obtain ⟨j, hj, h⟩ := bind_some h
    simp only [Option.some.injEq, Prod.mk.injEq] at h
    obtain ⟨rfl, rfl⟩ := h
    refine ⟨rfl, ?_⟩
    obtain ⟨k, m, hm, h4, h5, rfl, h6⟩ := idx_run hj h2
    obtain ⟨ad, h7, h8⟩ := pf_add (n := m.toNat * i.size) h1
    exact OpOk.pure hS he (by rw [hm, h7]; exact hrun _ _ _ h4 h5) h8

theorem ok_lenT (hS : Sim B0 lk σ st w) (hs : SlotRel lk σ N s a) (hg : GlobOk lk gl) {t : TypeId} {x : Operand} {px : Opd} {c : Call} (ho : o.op = .call c) (hcal : c.callee = .builtin .len) (hargs : c.args = #[x]) (htys : c.argTypes = #[t])
    (hu : P.underlying t = some .string) (hx : opdC x = some px) (h : evalOp E gl s st (.len true px) = some (v, st')) : st' = st ∧ OpOk B0 P lk σ st w o a v st := by
  have h1 := opdC_rel hs hg hx
  have he : execOp a.eval o = (do Pure.pure (.value (← Builtin.len_ #[t] o.type #[a.eval x]))) := by
    simp [execOp, ho, resolve, hcal, hargs, htys, invoke, builtin]
  simp only [evalOp, if_true] at h
  cases hp : px.ev gl s <;> rw [hp] at h h1 <;> (try (simp at h; done))
  simp only [Option.some.injEq, Prod.mk.injEq] at h
  obtain ⟨rfl, rfl⟩ := h
  refine ⟨rfl, ?_⟩
  generalize hb : a.eval x = b at h1 he
  cases h1 with | str s' =>
  rw [len_data]
  exact OpOk.pure hS he (by simp [Builtin.len_, run_underlying hu, goInt]) (.int _ _)
theorem ok_lenS (hS : Sim B0 lk σ st w) (hs : SlotRel lk σ N s a) (hg : GlobOk lk gl) {t e : TypeId} {x : Operand} {px : Opd} {c : Call} (ho : o.op = .call c) (hcal : c.callee = .builtin .len) (hargs : c.args = #[x]) (htys : c.argTypes = #[t])
    (hu : P.underlying t = some (.slice e)) (hx : opdC x = some px) (h : evalOp E gl s st (.len false px) = some (v, st')) : st' = st ∧ OpOk B0 P lk σ st w o a v st := by
  have h1 := opdC_rel hs hg hx
  have he : execOp a.eval o = (do Pure.pure (.value (← Builtin.len_ #[t] o.type #[a.eval x]))) := by
    simp [execOp, ho, resolve, hcal, hargs, htys, invoke, builtin]
  have hslice : ∀ b (n : Nat) k, a.eval x = .slice b n k → (Builtin.len_ #[t] o.type #[a.eval x]).run P w = .ok (.int .i64 n) w := by
    intro b n k hb
    rw [hb]; simp [Builtin.len_, run_underlying hu, goInt]
  simp only [evalOp, Bool.false_eq_true, if_false] at h
  cases hp : px.ev gl s <;> rw [hp] at h h1 <;> (try (simp at h; done))
  all_goals
    simp only [Option.some.injEq, Prod.mk.injEq] at h
    obtain ⟨rfl, rfl⟩ := h
    refine ⟨rfl, ?_⟩
  · generalize hb : a.eval x = b at h1
    cases h1
    exact OpOk.pure hS he (hslice _ _ _ hb) (.int _ _)
  · generalize hb : a.eval x = b at h1
    cases h1 with
    | slnil => exact OpOk.pure hS he (hslice _ _ _ hb) (.int _ _)
    | sle => exact OpOk.pure hS he (hslice _ _ _ hb) (.int _ _)
    | sl => exact OpOk.pure hS he (hslice _ _ _ hb) (.int _ _)
  · generalize hb : a.eval x = b at h1
    cases h1
    exact OpOk.pure hS he (hslice _ _ _ hb) (.int _ _)
  · generalize hb : a.eval x = b at h1
    cases h1 with
    | arr => exact OpOk.pure hS he (hslice _ _ _ hb) (.int _ _)
    | arr0 => exact OpOk.pure hS he (hslice _ _ _ hb) (.int _ _)

theorem ok_maxmin (hS : Sim B0 lk σ st w) (hs : SlotRel lk σ N s a) (hg : GlobOk lk gl) {mx : Bool} {x y : Operand} {px py : Opd} {c : Call} (ho : o.op = .call c) (hcal : c.callee = .builtin (if mx then .max else .min)) (hargs : c.args = #[x, y])
    (hx : opdC x = some px) (hy : opdC y = some py) (h : evalOp E gl s st (.maxmin mx px py) = some (v, st')) : st' = st ∧ OpOk B0 P lk σ st w o a v st := by
  have h1 := opdC_rel hs hg hx
  have h2 := opdC_rel hs hg hy
  simp only [evalOp] at h
  cases hp : px.ev gl s <;> rw [hp] at h h1 <;> (try (simp at h; done))
  cases hq : py.ev gl s <;> rw [hq] at h h2 <;> (try (simp at h; done))
  rename_i k m k' n
  simp only [] at h
  by_cases hk : k = k'
  · rw [if_pos hk] at h
    subst hk
    simp only [Option.some.injEq, Prod.mk.injEq] at h
    obtain ⟨rfl, rfl⟩ := h
    refine ⟨rfl, ?_⟩
    generalize hb : a.eval x = b at h1
    generalize hc : a.eval y = c' at h2
    cases h1; cases h2
    cases mx
    · refine OpOk.pure hS (x := Builtin.min_ c.argTypes o.type #[.int k m, .int k n]) (by simp [execOp, ho, resolve, hcal, hargs, invoke, builtin, hb, hc]) ?_ (.int _ _)
      simp [Builtin.min_, Builtin.min2]
    · refine OpOk.pure hS (x := Builtin.max_ c.argTypes o.type #[.int k m, .int k n]) (by simp [execOp, ho, resolve, hcal, hargs, invoke, builtin, hb, hc]) ?_ (.int _ _)
      simp [Builtin.max_, Builtin.max2]
  · rw [if_neg hk] at h; cases h

/-! ### loads -/
theorem run_load_cell {ad : Addr} {x : Value} (h : w.cell? ad = some x) : (load ad).run P w = .ok x w := by simp [h]
theorem ok_ld (hS : Sim B0 lk σ st w) (hs : SlotRel lk σ N s a) (hg : GlobOk lk gl) {t : TypeId} {x : Operand} {px : Opd} {xs : List PV} (ho : o.op = .load t x) (hx : opdC x = some px) :
    (isAggT P t = false → (P.underlying t).isSome = true → readP st 1 (px.ev gl s) = some [v] → OpOk B0 P lk σ st w o a v st) ∧
    (isAggT P t = true → ∀ i, P.info? t = some i → readP st i.size (px.ev gl s) = some xs → OpOk B0 P lk σ st w o a (.agg xs) st) := by
  have h1 := opdC_rel hs hg hx
  have he : execOp a.eval o = (do Pure.pure (.value (← Instr.loadAt t (a.eval x)))) := by simp [execOp, ho]
  constructor
  · intro ha hun h
    obtain ⟨_, b, off, vs, hb, hl, hc, hr⟩ := hS.read h1 h
    match vs, hl with
    | [u], _ =>
      have hcell := hc 0 u rfl
      refine OpOk.pure hS he ?_ (hr 0 v u rfl rfl)
      rw [hb]
      simp only [Nat.add_zero] at hcell
      simp only [Instr.loadAt, Instr.sureAddr, loadVar, Sem.run_bind, Sem.run_pure, Result.andThen_ok, run_isAgg hun, ha]
      simp [hcell]
  · intro ha i hi h
    obtain ⟨hl', b, off, vs, hb, hl, hc, hr⟩ := hS.read h1 h
    refine OpOk.pure hS he ?_ (Rel.mk_agg ⟨by omega, hr⟩)
    rw [hb]
    have hll : (loadCells ⟨b, off, none⟩ i.size).run P w = .ok vs.toArray w := by
      rw [← hl]
      exact run_loadCells_list (P := P) w ⟨b, off, none⟩ vs (fun j v hv => by rw [Addr.add_mid]; exact hc j v hv)
    simp only [Instr.loadAt, Instr.sureAddr, loadVar, Sem.run_bind, Sem.run_pure, Result.andThen_ok, run_isAgg (isAggT_some ha), ha, if_true, run_sizeOf' hi, hll]
end
end Go.Vs
