/-
  Each operation does what the evaluator says: those that touch no store, and loads. Under no condition.
-/
import Derived.Test.YtachdfhodbdoiaaDoorVsF
namespace Go.Vs
open Go

/-- The operation comes to a value of which v tells, and to a world of which the store tells. -/
def OpOk (B0 : Nat) (P : Program) (lk : Locks) (σ : Sig) (st : Store) (w : World) (o : Oper) (a : Act) (v : PV) (st' : Store) : Prop :=
  ∀ (next : Act → World → Prop) (Q : Exit → Act → World → Prop), (∀ lk' σ' u w', Rel lk' σ' v u → Sim B0 lk' σ' st' w' → Step lk σ st w lk' σ' st' w' → next (a.put o.dst u) w') → o.wp P a w next Q

section
variable {B0 : Nat} {P : Program} {lk lk' : Locks} {σ σ' : Sig} {st st' : Store} {w w' : World} {o : Oper} {a : Act} {v : PV} {u : Value}

theorem OpOk.val (hr : (execOp a.eval o).run P w = .ok (.value u) w') (h1 : Rel lk' σ' v u) (h2 : Sim B0 lk' σ' st' w') (h3 : Step lk σ st w lk' σ' st' w') : OpOk B0 P lk σ st w o a v st' := by
  intro next Q h
  unfold Oper.wp
  rw [hr]
  exact h _ _ _ _ h1 h2 h3
theorem OpOk.skip (hr : (execOp a.eval o).run P w = .ok .skip w') (h2 : Sim B0 lk' σ' st' w') (h3 : Step lk σ st w lk' σ' st' w') : OpOk B0 P lk σ st w o a .undef st' := by
  intro next Q h
  unfold Oper.wp
  rw [hr]
  exact h _ _ _ _ .undef h2 h3
/-- A value out of the operands alone. -/
theorem OpOk.pure (hS : Sim B0 lk σ st w) {x : Sem Value} (he : execOp a.eval o = (do Pure.pure (.value (← x)))) (hr : x.run P w = .ok u w) (h1 : Rel lk σ v u) : OpOk B0 P lk σ st w o a v st :=
  OpOk.val (by rw [he]; simp [hr]) h1 hS Step.refl

variable {gl : Nat → List PV} {N : Nat} {s : Slots} {E : Req → Option Res}

theorem idx_run {n : Nat} {i : PV} {j : Nat} {u : Value} (h : idx n i = some j) (hr : Rel lk σ i u) : ∃ k m, u = .int k m ∧ 0 ≤ m ∧ m < n ∧ j = m.toNat ∧ j < n := by
  cases i with
  | int k m =>
    cases hr
    simp only [idx] at h
    split at h
    · rename_i hm
      obtain rfl := Option.some.inj h
      exact ⟨k, m, rfl, hm.1, hm.2, rfl, by omega⟩
    · cases h
  | _ => simp [idx] at h

def OptRel (lk : Locks) (σ : Sig) : Option PV → Option Value → Prop
  | none, none => True
  | some p, some v => Rel lk σ p v
  | _, _ => False
theorem opdO_rel (hs : SlotRel lk σ N s a) (hg : GlobOk lk gl) {x : Option Operand} {p : Option Opd} (h : opdO x = some p) : OptRel lk σ (p.map (·.ev gl s)) (x.map a.eval) := by
  cases x with
  | none => obtain rfl := Option.some.inj h; trivial
  | some x =>
    simp only [opdO] at h
    obtain ⟨q, h1, h⟩ := bind_some h
    obtain rfl := Option.some.inj h
    exact opdC_rel hs hg h1
theorem bnd_run {n d b : Nat} {p : PV} {u : Value} {code : BoundsCode} (h : bnd n d (some p) = some b) (hr : Rel lk σ p u) : (Instr.sliceBound u n code).run P w = .ok b w ∧ b ≤ n := by
  cases p with
  | int k m =>
    cases hr
    simp only [bnd] at h
    split at h
    · rename_i hm
      obtain rfl := Option.some.inj h
      exact ⟨by simp [Instr.sliceBound, asIntOf, hm], by omega⟩
    · cases h
  | _ => simp [bnd] at h
theorem sliceBounds_run {isS : Bool} {len cap h b : Nat} (hlc : len ≤ cap) {hi lo : Option PV} {hi' lo' : Option Value} (h1 : OptRel lk σ hi hi') (h2 : OptRel lk σ lo lo')
    (e1 : bnd len len hi = some h) (e2 : bnd h 0 lo = some b) : (Instr.sliceBounds isS len cap lo' hi' none).run P w = .ok (b, h, cap) w ∧ b ≤ h ∧ h ≤ len := by
  have hlo : (match lo' with
      | none => b = 0
      | some u => (Instr.sliceBound u h .sliceB).run P w = .ok b w) ∧ b ≤ h := by
    cases lo with
    | none =>
      cases lo' with
      | none => simp only [bnd, Option.some.injEq] at e2; exact ⟨e2.symm, by omega⟩
      | some _ => exact h2.elim
    | some p =>
      cases lo' with
      | none => exact h2.elim
      | some u => exact bnd_run e2 h2
  obtain ⟨hl, hb⟩ := hlo
  cases hi with
  | none =>
    cases hi' with
    | some _ => exact h1.elim
    | none =>
      simp only [bnd, Option.some.injEq] at e1
      subst e1
      refine ⟨?_, hb, Nat.le_refl _⟩
      cases lo' with
      | none => simp only at hl; subst hl; simp [Instr.sliceBounds]
      | some u => simp only at hl; simp [Instr.sliceBounds, hl]
  | some p =>
    cases hi' with
    | none => exact h1.elim
    | some q =>
      cases p with
      | int k m =>
        cases h1
        simp only [bnd] at e1
        by_cases hm : 0 ≤ m ∧ m ≤ (len : Int)
        · rw [if_pos hm] at e1
          obtain rfl := Option.some.inj e1
          have hq : ∀ code, (Instr.sliceBound (.int k m) cap code).run P w = .ok m.toNat w := fun code => by
            have : m ≤ (cap : Int) := by omega
            simp [Instr.sliceBound, asIntOf, hm.1, this]
          refine ⟨?_, hb, by omega⟩
          cases lo' with
          | none => simp only at hl; subst hl; simp [Instr.sliceBounds, hq]
          | some u => simp only at hl; simp [Instr.sliceBounds, hq, hl]
        · rw [if_neg hm] at e1; cases e1
      | _ => simp [bnd] at e1

theorem run_isAgg {t : TypeId} (h : (P.underlying t).isSome = true) : (isAgg t).run P w = .ok (isAggT P t) w := by
  cases hu : P.underlying t with
  | none => rw [hu] at h; cases h
  | some d =>
    unfold isAgg isAggT
    rw [Sem.run_bind, run_underlying hu w, hu]
    cases d <;> rfl
theorem isAggT_some {t : TypeId} (h : isAggT P t = true) : (P.underlying t).isSome = true := by
  unfold isAggT at h
  cases hu : P.underlying t with
  | none => rw [hu] at h; cases h
  | some d => rfl
theorem run_sizeOf' {t : TypeId} {i : TypeInfo} (h : P.info? t = some i) : (sizeOf t).run P w = .ok i.size w := by simp [sizeOf, typeInfo, h]

/-- A part of an aggregate. -/
theorem part_one {t : TypeId} {cs : List PV} {vs : List Value} {j : Nat} {v : PV} (hu : (P.underlying t).isSome = true) (ha : isAggT P t = false) (hr : RelL lk σ cs vs) (h : cs[j]? = some v) :
    ∃ u, (part t vs.toArray j).run P w = .ok u w ∧ Rel lk σ v u := by
  have hj : j < vs.length := by have := (List.getElem?_eq_some_iff.1 h).1; rw [← hr.1]; exact this
  refine ⟨vs[j], ?_, hr.2 j v _ h (List.getElem?_eq_getElem hj)⟩
  simp [part, run_isAgg hu, ha, hj]
theorem part_agg {t : TypeId} {i : TypeInfo} {cs : List PV} {vs : List Value} {j : Nat} (ha : isAggT P t = true) (hi : P.info? t = some i) (hr : RelL lk σ cs vs) (h : j + i.size ≤ cs.length) :
    ∃ u, (part t vs.toArray j).run P w = .ok u w ∧ Rel lk σ (.agg ((cs.drop j).take i.size)) u := by
  have hl := hr.1
  refine ⟨.agg (vs.toArray.extract j (j + i.size)), ?_, ?_⟩
  · simp [part, run_isAgg (isAggT_some ha), ha, run_sizeOf' hi]
  · have e : vs.toArray.extract j (j + i.size) = ((vs.drop j).take i.size).toArray := by
      simp [List.extract_eq_take_drop]
    rw [e]
    refine Rel.mk_agg ⟨by simp; omega, fun k c v hc hv => ?_⟩
    have hk : k < i.size := by have := (List.getElem?_eq_some_iff.1 hc).1; simp at this; omega
    rw [List.getElem?_take_of_lt hk, List.getElem?_drop] at hc hv
    exact hr.2 _ _ _ hc hv

/-! ### the operations -/
theorem ok_mov (hS : Sim B0 lk σ st w) (hs : SlotRel lk σ N s a) (hg : GlobOk lk gl) {x : Operand} {p : Opd} (ho : o.op = .move x ∨ o.op = .assign x) (hx : opdC x = some p) :
    OpOk B0 P lk σ st w o a (p.ev gl s) st :=
  OpOk.val (u := a.eval x) (by rcases ho with ho | ho <;> simp [execOp, ho]) (opdC_rel hs hg hx) hS Step.refl

theorem ok_pick (hS : Sim B0 lk σ st w) (hs : SlotRel lk σ N s a) (hg : GlobOk lk gl) {c x y : Operand} {pc px py : Opd} (ho : o.op = .pick c x y) (hc : opdC c = some pc) (hx : opdC x = some px) (hy : opdC y = some py)
    {t : Bool} (ht : pc.ev gl s = .bool t) : OpOk B0 P lk σ st w o a (if t then px.ev gl s else py.ev gl s) st := by
  have h := opdC_rel hs hg hc
  rw [ht] at h
  generalize hb : a.eval c = b at h
  cases h
  refine OpOk.val (u := if t then a.eval x else a.eval y) (by simp [execOp, ho, hb, asBool]) ?_ hS Step.refl
  cases t
  · exact opdC_rel hs hg hy
  · exact opdC_rel hs hg hx

theorem eqGuard_ok {op : BinOp} {t : TypeId} {x y : Operand} {u1 u2 : Value} (h1 : u1 ≠ .nilIface) (h2 : ∀ cs, u1 ≠ .agg cs) : (eqGuard op t x y u1 u2).run P w = .ok () w := by
  unfold eqGuard
  cases op <;> cases u1 <;> first | rfl | (exact absurd rfl h1) | (exact absurd rfl (h2 _))
def EqKind : Value → Value → Prop
  | .bool _, .bool _ => True
  | .pointer _, .pointer _ => True
  | .slice _ _ _, .slice _ _ _ => True
  | _, _ => False
theorem equal_run {t : TypeId} {u1 u2 : Value} {b : Bool} (h : ∀ d, (Op.equalIn (d + 1) t u1 u2).run P w = .ok b w) : (Op.equal t u1 u2).run P w = .ok b w := h 9999
theorem binOp_eql {t : TypeId} {u1 u2 : Value} {b : Bool} (h : ∀ d, (Op.equalIn (d + 1) t u1 u2).run P w = .ok b w)
    (hk : EqKind u1 u2) :
    (binOp .eql t u1 u2).run P w = .ok (.bool b) w ∧ (binOp .neq t u1 u2).run P w = .ok (.bool (!b)) w := by
  have he := equal_run h
  have e1 : binOp .eql t u1 u2 = (do Pure.pure (.bool (← Op.equal t u1 u2))) := by
    cases u1 <;> cases u2 <;> first | rfl | exact hk.elim
  have e2 : binOp .neq t u1 u2 = (do Pure.pure (.bool (!(← Op.equal t u1 u2)))) := by
    cases u1 <;> cases u2 <;> first | rfl | exact hk.elim
  rw [e1, e2]
  exact ⟨by rw [Sem.run_bind, he]; rfl, by rw [Sem.run_bind, he]; rfl⟩

theorem ok_bin (hS : Sim B0 lk σ st w) (hs : SlotRel lk σ N s a) (hg : GlobOk lk gl) {op : BinOp} {t t' : TypeId} {x y : Operand} {px py : Opd} (ho : o.op = .binOp op t x y t') (hx : opdC x = some px) (hy : opdC y = some py)
    (h : binE op (px.ev gl s) (py.ev gl s) = some v) : OpOk B0 P lk σ st w o a v st := by
  have h1 := opdC_rel hs hg hx
  have h2 := opdC_rel hs hg hy
  obtain ⟨u, hr, hv⟩ := bin_run (P := P) (w := w) (t := t) h h1 h2
  refine OpOk.pure hS (x := do eqGuard op t x y (a.eval x) (a.eval y); binOp op t (a.eval x) (a.eval y)) (by simp [execOp, ho]) ?_ hv
  have hgd : (eqGuard op t x y (a.eval x) (a.eval y)).run P w = .ok () w := by
    cases hp : px.ev gl s <;> rw [hp] at h h1 <;> (first | (simp [binE] at h; done) | skip)
    · generalize a.eval x = b at h1; cases h1; exact eqGuard_ok (by simp) (by simp)
    · generalize a.eval x = b at h1; cases h1; exact eqGuard_ok (by simp) (by simp)
  rw [Sem.run_bind, hgd, Result.andThen_ok, hr]

/-- A test of two values for being the same, as an operation. -/
theorem ok_eql (hS : Sim B0 lk σ st w) {neg : Bool} {t t' : TypeId} {x y : Operand} {u1 u2 : Value} {b : Bool} (ho : o.op = .binOp (if neg then .neq else .eql) t x y t') (hx : a.eval x = u1) (hy : a.eval y = u2)
    (h : ∀ d, (Op.equalIn (d + 1) t u1 u2).run P w = .ok b w)
    (hk : EqKind u1 u2) : OpOk B0 P lk σ st w o a (.bool (if neg then !b else b)) st := by
  obtain ⟨h1, h2⟩ := binOp_eql h hk
  have hgd : ∀ op, (eqGuard op t x y u1 u2).run P w = .ok () w := fun op => eqGuard_ok (by rintro rfl; exact hk.elim) (by rintro cs rfl; exact hk.elim)
  cases neg
  · refine OpOk.pure hS (u := .bool b) (x := do eqGuard .eql t x y u1 u2; binOp .eql t u1 u2) (by simp [execOp, ho, hx, hy]) ?_ (.bool _)
    rw [Sem.run_bind, hgd, Result.andThen_ok, h1]
  · refine OpOk.pure hS (u := .bool (!b)) (x := do eqGuard .neq t x y u1 u2; binOp .neq t u1 u2) (by simp [execOp, ho, hx, hy]) ?_ (.bool _)
    rw [Sem.run_bind, hgd, Result.andThen_ok, h2]

theorem ok_eqb (hS : Sim B0 lk σ st w) (hs : SlotRel lk σ N s a) (hg : GlobOk lk gl) {neg : Bool} {t t' : TypeId} {x y : Operand} {px py : Opd} (ho : o.op = .binOp (if neg then .neq else .eql) t x y t') (hu : P.underlying t = some .bool) (hx : opdC x = some px) (hy : opdC y = some py)
    (h : eqbE neg (px.ev gl s) (py.ev gl s) = some v) : OpOk B0 P lk σ st w o a v st := by
  have h1 := opdC_rel hs hg hx
  have h2 := opdC_rel hs hg hy
  cases hp : px.ev gl s <;> rw [hp] at h h1 <;> (try (simp [eqbE] at h; done))
  cases hq : py.ev gl s <;> rw [hq] at h h2 <;> (try (simp [eqbE] at h; done))
  rename_i b c
  simp only [eqbE, Option.some.injEq] at h
  subst h
  generalize ha : a.eval x = u1 at h1
  generalize hb : a.eval y = u2 at h2
  cases h1; cases h2
  have := ok_eql hS ho ha hb (b := b == c) (P := P) (fun d => by simp [Op.equalIn, run_underlying hu]) trivial
  cases neg <;> simpa [bne] using this

theorem eqnil_slice {t e : TypeId} {p : PV} {u : Value} {neg : Bool} (h : eqnilE true neg p = some v) (hr : Rel lk σ p u) (hu : P.underlying t = some (.slice e)) :
    ∃ b x n c, u = .slice x n c ∧ v = .bool (if neg then !b else b) ∧ ∀ d, (Op.equalIn (d + 1) t u (.slice none 0 0)).run P w = .ok b w := by
  simp only [eqnilE, if_true] at h
  cases p with
  | nilsl =>
    cases hr
    simp only [Option.some.injEq] at h
    exact ⟨true, _, _, _, rfl, by rw [← h]; cases neg <;> rfl, fun d => by simp [Op.equalIn, run_underlying hu]⟩
  | sl es =>
    cases es with
    | nil => simp at h
    | cons x es =>
      cases hr
      simp only [Option.some.injEq] at h
      exact ⟨false, _, _, _, rfl, by rw [← h]; cases neg <;> rfl, fun d => by simp [Op.equalIn, run_underlying hu]⟩
  | row id g =>
    cases g with
    | zero => simp at h
    | succ g =>
      cases hr
      simp only [Option.some.injEq] at h
      exact ⟨false, _, _, _, rfl, by rw [← h]; cases neg <;> rfl, fun d => by simp [Op.equalIn, run_underlying hu]⟩
  | _ => simp at h
theorem eqnil_ptr {t e : TypeId} {p : PV} {u : Value} {neg : Bool} (h : eqnilE false neg p = some v) (hr : Rel lk σ p u) (hu : P.underlying t = some (.pointer e)) :
    ∃ b x, u = .pointer x ∧ v = .bool (if neg then !b else b) ∧ ∀ d, (Op.equalIn (d + 1) t u (.pointer none)).run P w = .ok b w := by
  simp only [eqnilE, Bool.false_eq_true, if_false] at h
  cases p with
  | nilp =>
    cases hr
    simp only [Option.some.injEq] at h
    exact ⟨true, _, rfl, by rw [← h]; cases neg <;> rfl, fun d => by simp [Op.equalIn, run_underlying hu]⟩
  | ptr id g i off =>
    cases hr
    simp only [Option.some.injEq] at h
    exact ⟨false, _, rfl, by rw [← h]; cases neg <;> rfl, fun d => by simp [Op.equalIn, run_underlying hu]⟩
  | pf cs =>
    cases hr
    simp only [Option.some.injEq] at h
    exact ⟨false, _, rfl, by rw [← h]; cases neg <;> rfl, fun d => by simp [Op.equalIn, run_underlying hu]⟩
  | _ => simp at h
end
end Go.Vs
