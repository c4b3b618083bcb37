/-
  A call does what the evaluator says. Under no condition.
-/
import Derived.Test.YtachdfhodbdoiaaDoorVsV
namespace Go.Vs
open Go
section
variable {B0 : Nat} {P : Program} {lk lk' : Locks} {σ σ' : Sig} {st st' : Store} {w w' : World} {a : Act} {v : PV} {u : Value}
variable {gl : Nat → List PV} {N : Nat} {s : Slots} {E : Req → Option Res}

/-! ### what a function leaves -/
def resC (P : Program) : List ResultVar → Option (List CRes)
  | [] => some []
  | .tmp t :: r => (resC P r).bind fun rs => some (.tmp t :: rs)
  | .cell a t :: r => (resC P r).bind fun rs => if isAggT P t then (P.info? t).bind fun i => some (.cell a (some i.size) :: rs) else if (P.underlying t).isSome then some (.cell a none :: rs) else none

theorem loadVar_one (hS : Sim B0 lk σ st w) {p : PV} {u : Value} {t : TypeId} (ha : isAggT P t = false) (hun : (P.underlying t).isSome = true) (hp : Rel lk σ p u) (h : readP st 1 p = some [v]) :
    ∃ ad x, u = .pointer (some ad) ∧ (loadVar t ad).run P w = .ok x w ∧ Rel lk σ v x := by
  obtain ⟨_, b, off, vs, hb, hl, hc, hr⟩ := hS.read hp h
  match vs, hl with
  | [x], _ =>
    have hcell := hc 0 x rfl
    simp only [Nat.add_zero] at hcell
    refine ⟨_, x, hb, ?_, hr 0 v x rfl rfl⟩
    simp only [loadVar, Sem.run_bind, Result.andThen_ok, run_isAgg hun, ha]
    simp [hcell]
theorem loadVar_agg (hS : Sim B0 lk σ st w) {p : PV} {u : Value} {t : TypeId} {i : TypeInfo} {xs : List PV} (ha : isAggT P t = true) (hi : P.info? t = some i) (hp : Rel lk σ p u) (h : readP st i.size p = some xs) :
    ∃ ad x, u = .pointer (some ad) ∧ (loadVar t ad).run P w = .ok x w ∧ Rel lk σ (.agg xs) x := by
  obtain ⟨hl', b, off, vs, hb, hl, hc, hr⟩ := hS.read hp h
  refine ⟨_, _, hb, ?_, Rel.mk_agg ⟨by omega, hr⟩⟩
  have hll : (loadCells ⟨b, off, none⟩ i.size).run P w = .ok vs.toArray w := by
    rw [← hl]
    exact run_loadCells_list (P := P) w ⟨b, off, none⟩ vs (fun j v hv => by rw [Addr.add_mid]; exact hc j v hv)
  simp only [loadVar, Sem.run_bind, Sem.run_pure, Result.andThen_ok, run_isAgg (isAggT_some ha), ha, if_true, run_sizeOf' hi, hll]

def resRun (tmps : Array Value) : ResultVar → Sem Value
  | .tmp t => Pure.pure (tmps.getD t undef)
  | .cell a t => do loadVar t (← asAddr (tmps.getD a undef))
theorem res_run (hS : Sim B0 lk σ st w) (hs : SlotRel lk σ N s a) : ∀ {rs : List ResultVar} {cs : List CRes} {vs : List PV}, resC P rs = some cs → resL s st cs = some vs →
    ∃ us, (rs.mapM (resRun a.tmps)).run P w = .ok us w ∧ RelL lk σ vs us
  | [], cs, vs, hc, h => by
    simp only [resC, Option.some.injEq] at hc
    subst hc
    simp only [resL, Option.some.injEq] at h
    subst h
    exact ⟨[], by simp, RelL.nil⟩
  | .tmp t :: r, cs, vs, hc, h => by
    simp only [resC] at hc
    obtain ⟨rs', h1, hc⟩ := bind_some hc
    obtain rfl := Option.some.inj hc
    simp only [resL, resE] at h
    obtain ⟨v, h2, h⟩ := bind_some h
    obtain ⟨vs', h3, h⟩ := bind_some h
    obtain rfl := Option.some.inj h
    obtain rfl := Option.some.inj h2
    obtain ⟨us, h4, h5⟩ := res_run hS hs h1 h3
    exact ⟨a.tmps.getD t undef :: us, by simp only [List.mapM_cons, resRun, Sem.run_bind, Sem.run_pure, Result.andThen_ok, h4], .cons (hs.rel t) h5⟩
  | .cell q t :: r, cs, vs, hc, h => by
    simp only [resC] at hc
    obtain ⟨rs', h1, hc⟩ := bind_some hc
    have main : ∀ c, cs = c :: rs' → (∀ v, resE s st c = some v → ∃ ad x, a.tmps.getD q undef = .pointer (some ad) ∧ (loadVar t ad).run P w = .ok x w ∧ Rel lk σ v x) → ∃ us, ((ResultVar.cell q t :: r).mapM (resRun a.tmps)).run P w = .ok us w ∧ RelL lk σ vs us := by
      rintro c rfl hcell
      simp only [resL] at h
      obtain ⟨v, h2, h⟩ := bind_some h
      obtain ⟨vs', h3, h⟩ := bind_some h
      obtain rfl := Option.some.inj h
      obtain ⟨us, h4, h5⟩ := res_run hS hs h1 h3
      obtain ⟨ad, x, h6, h7, h8⟩ := hcell v h2
      exact ⟨x :: us, by simp only [List.mapM_cons, resRun, h6, asAddr, Sem.run_bind, Sem.run_pure, Result.andThen_ok, h7, h4], .cons h8 h5⟩
    by_cases ha : isAggT P t = true
    · rw [if_pos ha] at hc
      obtain ⟨i, hi, hc⟩ := bind_some hc
      refine main _ (Option.some.inj hc).symm (fun v hv => ?_)
      simp only [resE] at hv
      obtain ⟨l, h2, hv⟩ := bind_some hv
      obtain rfl := Option.some.inj hv
      exact loadVar_agg hS ha hi (hs.rel q) h2
    · rw [if_neg ha] at hc
      split at hc
      · rename_i hun
        refine main _ (Option.some.inj hc).symm (fun v hv => ?_)
        simp only [resE] at hv
        obtain ⟨l, h2, hv⟩ := bind_some hv
        match l, h2, hv with
        | [x], h2, hv =>
          obtain rfl := Option.some.inj hv
          exact loadVar_one hS (by simpa using ha) hun (hs.rel q) h2
        | [], _, hv => simp at hv
        | _ :: _ :: _, _, hv => simp at hv
      · cases hc

theorem results_run (hS : Sim B0 lk σ st w) (hs : SlotRel lk σ N s a) {fn : Func} {cs : List CRes} {vs : List PV} (hc : resC P fn.results.toList = some cs) (h : resL s st cs = some vs) :
    ∃ u, (results fn a.tmps).run P w = .ok u w ∧ Rel lk σ (one vs) u := by
  obtain ⟨us, h1, h2⟩ := res_run hS hs hc h
  have he : results fn a.tmps = (fn.results.mapM (resRun a.tmps) >>= fun vs => Pure.pure (if h : vs.size = 1 then vs[0] else .tuple vs)) := by
    unfold results
    congr 1
  have hm : (fn.results.mapM (resRun a.tmps)).run P w = .ok us.toArray w := by
    rw [Array.mapM_eq_mapM_toList]
    simp [h1]
  refine ⟨if h : us.toArray.size = 1 then us.toArray[0] else .tuple us.toArray, ?_, ?_⟩
  · rw [he]
    simp only [Sem.run_bind, hm, Result.andThen_ok, Sem.run_pure]
  · cases vs with
    | nil =>
      obtain rfl := h2.nil_inv
      exact Rel.mk_tup RelL.nil
    | cons v r =>
      obtain ⟨x, us', rfl, h3, h4⟩ := h2.uncons
      cases r with
      | nil =>
        obtain rfl := h4.nil_inv
        exact h3
      | cons v2 r =>
        obtain ⟨x2, us2, rfl, h5, h6⟩ := h4.uncons
        rw [dif_neg (by simp)]
        exact Rel.mk_tup (.cons h3 (.cons h5 h6))

/-- What a function leaves behind, told of the caller's world. -/
theorem leave_sound (hS0 : Sim B0 lk σ st w) {keep : Bool} {cs : List CRes} {r r' : Res} (hS : Sim B0 lk' σ' r.st w') (hst : Step lk σ st w lk' σ' r.st w') (hs : SlotRel lk' σ' N r.s a) {fn : Func} (hc : resC P fn.results.toList = some cs) (h : leave keep cs st r = some r') :
    ∃ u lk2 σ2, (results fn a.tmps).run P w' = .ok u w' ∧ Rel lk2 σ2 r'.val u ∧ Sim B0 lk2 σ2 r'.st w' ∧ Step lk σ st w lk2 σ2 r'.st w' := by
  unfold leave at h
  obtain ⟨vs, h1, h⟩ := bind_some h
  obtain ⟨⟨v, st2⟩, h2, h⟩ := bind_some h
  obtain ⟨u, h3, h4⟩ := results_run (P := P) hS hs hc h1
  obtain ⟨lk2, b1, b2, b3⟩ := hS.frz3 h4 h2
  have hst2 := hst.trans b3
  simp only [] at h
  by_cases hg : ref3 0 v = true ∧ gcOk st st2
  · rw [if_pos hg] at h
    obtain rfl := Option.some.inj h
    obtain ⟨c1, c2⟩ := hS0.gc b2 hst2 hg.2
    refine ⟨u, lk2, _, h3, ?_, c1, c2⟩
    have := b1.ref3 hg.1
    rw [Sig.upto_zero] at this
    exact this.mono (fun _ _ h => h) (fun _ _ _ h => by simp [sig0] at h)
  · rw [if_neg hg] at h
    obtain rfl := Option.some.inj h
    exact ⟨u, lk2, σ', h3, b1, b2, hst2⟩

/-! ### a program, turned -/
def ExtOk (P : Program) (f : FuncId) (x : Ext) : Prop := ∀ args v, extE x args = some v → ∀ (lk : Locks) (σ : Sig) (w : World) (vals : Array Value), RelL lk σ args vals.toList → ∃ u, (callFunc f vals).run P w = .ok (.value u) w ∧ Rel lk σ v u

structure FnOk (P : Program) (f : FuncId) (cf : CFunc) : Prop where
  ext : ∀ x, cf.ext = some x → ExtOk P f x
  own : cf.ext = none → ∃ fn code, P.funcs[f]? = some fn ∧ (fn.name == "runtime.NumGoroutine") = false ∧ fn.body = some code ∧ codeC P fn.ntmps code = some cf.code ∧ resC P fn.results.toList = some cf.res ∧ cf.np ≤ fn.ntmps

variable {prog : FuncId → Option CFunc}

theorem step_calls (hP : ∀ f cf, prog f = some cf → FnOk P f cf) (hE : SoundCalls B0 P gl E) {n : Nat} (hL : SoundLoops B0 P gl E n) : SoundCalls B0 P gl (stepE prog gl E) := by
  intro f args st r he lk σ w vals hargs hS hg
  simp only [stepE] at he
  obtain ⟨cf, h1, he⟩ := bind_some he
  have hok := hP f cf h1
  by_cases hn : args.length = cf.np
  · rw [if_pos hn] at he
    cases hx : cf.ext with
    | some x =>
      rw [hx] at he
      simp only [] at he
      obtain ⟨v, h2, he⟩ := bind_some he
      obtain rfl := Option.some.inj he
      obtain ⟨u, h3, h4⟩ := hok.ext x hx args v h2 lk σ w vals hargs
      exact .inr ⟨u, w, h3, lk, σ, h4, hS, Step.refl⟩
    | none =>
      rw [hx] at he
      simp only [] at he
      obtain ⟨r1, h2, he⟩ := bind_some he
      obtain ⟨fn, code, q1, q2, q3, q4, q5, q6⟩ := hok.own hx
      refine .inl ⟨?_, ?_⟩
      · simp only [callFunc, Sem.run_bind, run_program, Result.andThen_ok, q1, q2, q3, Option.isNone_some, Bool.false_eq_true, if_false, Sem.run_pure]
      · have hvl : vals.size = cf.np := by have := hargs.1; simp at this; omega
        have hslots : SlotRel lk σ fn.ntmps (fun k => (args[k]?).getD .undef) { tmps := vals ++ Array.replicate (fn.ntmps - vals.size) undef, defers := [] } := by
          refine ⟨by simp; omega, fun k => ?_, rfl⟩
          cases hk : args[k]? with
          | none => exact .undef
          | some p =>
            have hlt : k < vals.size := by have := (List.getElem?_eq_some_iff.1 hk).1; omega
            have := hargs.2 k p vals[k] hk (by simp [hlt])
            simpa [Array.getD_eq_getD_getElem?, Array.getElem?_append_left hlt, hlt] using this
        refine calls_of_wp q1 q3 (code_sound hE hL code cf.code q4 h2 hslots hS hg _ ?_)
        rintro ex a' w' ⟨hex, lk1, σ1, p1, p2, p3⟩
        have fin : leave cf.keepNil cf.res st r1 = some r → a'.defers = [] ∧ ∃ v, (results fn a'.tmps).run P w' = .ok v w' ∧ (∃ v', Ending.returned v = .returned v' ∧ ∃ lk' σ', Rel lk' σ' r.val v' ∧ Sim B0 lk' σ' r.st w' ∧ Step lk σ st w lk' σ' r.st w') := by
          intro hl
          obtain ⟨u, lk2, σ2, c1, c2, c3, c4⟩ := leave_sound (P := P) hS p2 p3 p1 q5 hl
          exact ⟨p1.defers, u, c1, u, rfl, lk2, σ2, c2, c3, c4⟩
        cases hr : r1.ex with
        | normal =>
          rw [hr] at he hex
          cases ex <;> (try exact hex.elim)
          exact fin he
        | exit i => rw [hr] at he; cases he
        | ret =>
          rw [hr] at he hex
          cases ex <;> (try exact hex.elim)
          exact fin he
  · rw [if_neg hn] at he; cases he

theorem step_loops (hE : SoundCalls B0 P gl E) {n : Nat} (hL : SoundLoops B0 P gl E n) : SoundLoops B0 P gl (stepE prog gl E) (n + 1) := by
  intro c s st r he N code hc lk σ a w hs hS hg Q hQ
  simp only [stepE] at he
  obtain ⟨r1, h1, he⟩ := bind_some he
  rw [rounds_succ]
  refine code_sound hE hL code c hc h1 hs hS hg _ ?_
  rintro ex a' w' ⟨hex, lk', σ', p1, p2, p3⟩
  cases hr : r1.ex with
  | normal =>
    rw [hr] at he hex
    cases ex <;> (try exact hex.elim)
    exact hL c r1.s r1.st r he N code hc lk' σ' a' w' p1 p2 (hg.mono p3.lks) Q (fun ex2 a2 w2 ⟨e1, lk2, σ2, t1, t2, t3⟩ => hQ _ _ _ ⟨e1, lk2, σ2, t1, t2, p3.trans t3⟩)
  | exit i =>
    rw [hr] at he
    simp only [Option.some.injEq] at he
    subst he
    have hex' := hex
    rw [hr] at hex
    cases ex <;> (try exact hex.elim)
    exact hQ _ _ _ ⟨hex', lk', σ', p1, p2, p3⟩
  | ret =>
    rw [hr] at he
    simp only [Option.some.injEq] at he
    subst he
    have hex' := hex
    rw [hr] at hex
    cases ex <;> (try exact hex.elim)
    exact hQ _ _ _ ⟨hex', lk', σ', p1, p2, p3⟩

theorem En_sound (hP : ∀ f cf, prog f = some cf → FnOk P f cf) : ∀ n, SoundCalls B0 P gl (En prog gl n) ∧ SoundLoops B0 P gl (En prog gl n) n
  | 0 => ⟨fun f args st r h => by simp [En] at h, fun c s st r h => by simp [En] at h⟩
  | n + 1 => ⟨step_calls hP (En_sound hP n).1 (En_sound hP n).2, step_loops (En_sound hP n).1 (En_sound hP n).2⟩

/-- WHAT THE EVALUATOR ANSWERS, THE MODEL'S CALL COMES TO. -/
theorem EE_sound (hP : ∀ f cf, prog f = some cf → FnOk P f cf) : SoundCalls B0 P gl (EE prog gl) := by
  intro f args st r h
  obtain ⟨n, hn⟩ := EE_some h
  exact (En_sound hP n).1 f args st r hn
end
end Go.Vs
