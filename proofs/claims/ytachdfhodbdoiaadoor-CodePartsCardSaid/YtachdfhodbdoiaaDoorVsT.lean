/-
  Regions whose order is drawn: the order does not matter to the evaluator. Under no condition.
-/
import Derived.Test.YtachdfhodbdoiaaDoorVsP
namespace Go.Vs
open Go
section
variable {gl : Nat → List PV} {s s' : Slots} {st st' st2 : Store} {v : PV} {E : Req → Option Res}

/-! ### what an operation looks at -/
def Opd.rds : Opd → List Nat
  | .tmp t => [t]
  | _ => []
def rdsO : Option Opd → List Nat
  | some x => x.rds
  | none => []
def COp.rds : COp → List Nat
  | .mov x => x.rds
  | .pick c a b => c.rds ++ (a.rds ++ b.rds)
  | .alloc _ _ => []
  | .box _ x => x.rds
  | .build _ ps => ps.flatMap fun p => p.2.2.rds
  | .bslice _ _ _ _ ps => ps.flatMap fun p => p.2.rds
  | .bsl _ _ _ _ ps => ps.flatMap fun p => p.2.rds
  | .ldc a => a.rds
  | .lda _ a => a.rds
  | .st _ a x => a.rds ++ x.rds
  | .nilck x => x.rds
  | .bin _ x y => x.rds ++ y.rds
  | .eqb _ x y => x.rds ++ y.rds
  | .eqnil _ _ x => x.rds
  | .eqp _ x y => x.rds ++ y.rds
  | .eqs _ _ x y => x.rds ++ y.rds
  | .un _ x => x.rds
  | .cvi _ x => x.rds
  | .cvid x => x.rds
  | .cvp _ x => x.rds
  | .cvbs x => x.rds
  | .mkfn _ caps => caps.flatMap Opd.rds
  | .sls x lo hi => x.rds ++ (rdsO lo ++ rdsO hi)
  | .slv _ x lo hi => x.rds ++ (rdsO lo ++ rdsO hi)
  | .slp _ x lo hi => x.rds ++ (rdsO lo ++ rdsO hi)
  | .sla _ x lo hi => x.rds ++ (rdsO lo ++ rdsO hi)
  | .fa _ x => x.rds
  | .fld _ _ x => x.rds
  | .ixa _ x i => x.rds ++ i.rds
  | .ixaa _ _ x i => x.rds ++ i.rds
  | .ixs x i => x.rds ++ i.rds
  | .ixg _ _ _ x i => x.rds ++ i.rds
  | .ext _ x => x.rds
  | .callf _ args => args.flatMap Opd.rds
  | .callv x args => x.rds ++ args.flatMap Opd.rds
  | .len _ x => x.rds
  | .app _ _ _ _ x y => x.rds ++ y.rds
  | .maxmin _ x y => x.rds ++ y.rds
  | .usd x => x.rds
  | .ustr _ p n => p.rds ++ n.rds
  | .stuck => []

theorem Opd.ev_congr {x : Opd} (h : ∀ t ∈ x.rds, s t = s' t) : x.ev gl s = x.ev gl s' := by
  cases x with
  | tmp t => exact h t (by simp [Opd.rds])
  | _ => rfl
theorem evO_congr {x : Option Opd} (h : ∀ t ∈ rdsO x, s t = s' t) : x.map (·.ev gl s) = x.map (·.ev gl s') := by
  cases x with
  | none => rfl
  | some x => simp only [Option.map_some]; rw [Opd.ev_congr h]
theorem evL_congr {l : List Opd} (h : ∀ t ∈ l.flatMap Opd.rds, s t = s' t) : l.map (·.ev gl s) = l.map (·.ev gl s') :=
  List.map_congr_left fun x hx => Opd.ev_congr fun t ht => h t (List.mem_flatMap.2 ⟨x, hx, ht⟩)
theorem ev2_congr {α : Type _} {β : Type _} {l : List α} {f : α → Opd} {g : α → PV → β} (h : ∀ t ∈ l.flatMap (fun p => (f p).rds), s t = s' t) : l.map (fun p => g p ((f p).ev gl s)) = l.map (fun p => g p ((f p).ev gl s')) :=
  List.map_congr_left fun x hx => by rw [Opd.ev_congr fun t ht => h t (List.mem_flatMap.2 ⟨x, hx, ht⟩)]

theorem evalOp_congr {o : COp} (h : ∀ t ∈ o.rds, s t = s' t) : evalOp E gl s st o = evalOp E gl s' st o := by
  cases o with
  | build zs ps =>
    have := ev2_congr (gl := gl) (f := fun p : Nat × Nat × Opd => p.2.2) (g := fun p v => (p.1, p.2.1, v)) h
    simp only [evalOp]
    rw [this]
  | bslice e size len zs ps =>
    have := ev2_congr (gl := gl) (f := fun p : Nat × Opd => p.2) (g := fun p v => (p.1, v)) h
    simp only [evalOp]
    rw [this]
  | bsl e size len zs ps =>
    have := ev2_congr (gl := gl) (f := fun p : Nat × Opd => p.2) (g := fun p v => (p.1, v)) h
    simp only [evalOp]
    rw [this]
  | mkfn f caps => simp only [COp.rds] at h; simp only [evalOp, evL_congr h]
  | callf f args => simp only [COp.rds] at h; simp only [evalOp, evL_congr h]
  | callv x args =>
    simp only [COp.rds, List.mem_append] at h
    simp only [evalOp, evL_congr (fun t ht => h t (.inr ht)), Opd.ev_congr (fun t ht => h t (.inl ht))]
  | sls x lo hi | slv _ x lo hi | slp _ x lo hi | sla _ x lo hi =>
    simp only [COp.rds, List.mem_append] at h
    simp only [evalOp, Opd.ev_congr (fun t ht => h t (.inl ht)), evO_congr (fun t ht => h t (.inr (.inl ht))), evO_congr (fun t ht => h t (.inr (.inr ht)))]
  | pick c x y =>
    simp only [COp.rds, List.mem_append] at h
    simp only [evalOp, Opd.ev_congr (fun t ht => h t (.inl ht)), Opd.ev_congr (fun t ht => h t (.inr (.inl ht))), Opd.ev_congr (fun t ht => h t (.inr (.inr ht)))]
  | alloc e zs => rfl
  | stuck => rfl
  | st n x y | bin _ x y | eqb _ x y | eqp _ x y | eqs _ _ x y | ixa _ x y | ixaa _ _ x y | ixs x y | ixg _ _ _ x y | app _ _ _ _ x y | maxmin _ x y | ustr _ x y =>
    simp only [COp.rds, List.mem_append] at h
    simp only [evalOp, Opd.ev_congr (fun t ht => h t (.inl ht)), Opd.ev_congr (fun t ht => h t (.inr ht))]
  | _ =>
    simp only [COp.rds] at h
    simp only [evalOp, Opd.ev_congr h]

/-! ### which operations touch the store -/
def COp.big : COp → Bool
  | .alloc _ _ | .box _ _ | .bslice _ _ _ _ _ | .st _ _ _ | .slv _ _ _ _ | .callf _ _ | .callv _ _ | .app _ _ _ _ _ _ | .ustr _ _ _ => true
  | _ => false
def COp.sees : COp → Bool
  | .ldc _ | .lda _ _ | .cvp _ _ | .cvbs _ | .ixa _ _ _ => true
  | _ => false

theorem keepsE_refl : keepsE st st := fun _ B h => ⟨B, h, rfl, rfl, rfl, rfl⟩
theorem readP_keep (hk : keepsE st st') {n : Nat} {p : PV} {l : List PV} (h : readP st n p = some l) : readP st' n p = some l := by
  cases p with
  | ptr id g i off =>
    simp only [readP] at h ⊢
    obtain ⟨B, hB, h⟩ := bind_some h
    obtain ⟨B', hB', e1, e2, e3, e4⟩ := hk id B hB
    rw [hB']
    simp only [Option.bind_some]
    have hg : B'.gen = B.gen := by simp [Box.gen, e1, e2]
    rw [hg, e1]; exact h
  | pf cs => exact h
  | _ => simp [readP] at h
theorem elemsOf_keep (hk : keepsE st st') {p : PV} {l : List (List PV)} (h : elemsOf st p = some l) : elemsOf st' p = some l := by
  cases p with
  | row id g =>
    simp only [elemsOf] at h ⊢
    obtain ⟨B, hB, h⟩ := bind_some h
    obtain ⟨B', hB', e1, e2, e3, e4⟩ := hk id B hB
    rw [hB']
    simp only [Option.bind_some]
    rw [e1, e2]; exact h
  | arr id off len =>
    simp only [elemsOf] at h ⊢
    obtain ⟨B, hB, h⟩ := bind_some h
    obtain ⟨B', hB', e1, e2, e3, e4⟩ := hk id B hB
    rw [hB']
    simp only [Option.bind_some]
    rw [e1, e2]; exact h
  | nilsl => exact h
  | sl es => exact h
  | _ => simp [elemsOf] at h

/-- What is neither big nor looks: the same in any store. -/
theorem evalOp_flat {o : COp} (hb : o.big = false) (hp : o.sees = false) : evalOp E gl s st o = (evalOp E gl s [] o).map fun x => (x.1, st) := by
  cases o <;> (first | (simp [COp.big] at hb; done) | (simp [COp.sees] at hp; done) | skip) <;> simp only [evalOp]
  all_goals first
    | rfl
    | (simp only [Option.map_bind, Function.comp_def, Option.map_some]; done)
    | (repeat' split) <;> (try simp only [Option.map_bind, Function.comp_def, Option.map_some, Option.map_none, apply_ite (Option.map _)]) <;> (try rfl) <;> (try simp_all) <;> done
    | skip

theorem evalOp_pure {o : COp} (hb : o.big = false) (hp : o.sees = false) {x : PV × Store} (h : evalOp E gl s st o = some x) : x.2 = st ∧ ∀ st2, evalOp E gl s st2 o = some (x.1, st2) := by
  rw [evalOp_flat hb hp] at h
  cases hx : evalOp E gl s [] o with
  | none => rw [hx] at h; cases h
  | some y =>
    rw [hx] at h
    obtain rfl := Option.some.inj h
    exact ⟨rfl, fun st2 => by rw [evalOp_flat hb hp, hx]; rfl⟩

/-- What is not big leaves the store, and yields the same where what stood stands still. -/
theorem evalOp_small {o : COp} (hb : o.big = false) {x : PV × Store} (h : evalOp E gl s st o = some x) : x.2 = st ∧ ∀ st2, keepsE st st2 → evalOp E gl s st2 o = some (x.1, st2) := by
  cases hp : o.sees with
  | false => exact ⟨(evalOp_pure hb hp h).1, fun st2 _ => (evalOp_pure hb hp h).2 st2⟩
  | true =>
    cases o <;> (try (simp [COp.sees] at hp; done))
    case ldc y =>
      simp only [evalOp] at h ⊢
      obtain ⟨l, h1, h⟩ := bind_some h
      match l, h1, h with
      | [z], h1, h =>
        obtain rfl := Option.some.inj h
        exact ⟨rfl, fun st2 hk => by rw [readP_keep hk h1]; rfl⟩
      | [], _, h => cases h
      | _ :: _ :: _, _, h => cases h
    case lda n y =>
      simp only [evalOp] at h ⊢
      obtain ⟨l, h1, h⟩ := bind_some h
      obtain rfl := Option.some.inj h
      exact ⟨rfl, fun st2 hk => by rw [readP_keep hk h1]; rfl⟩
    case cvbs y =>
      simp only [evalOp] at h ⊢
      obtain ⟨l, h1, h⟩ := bind_some h
      obtain ⟨l2, h2, h⟩ := bind_some h
      obtain rfl := Option.some.inj h
      exact ⟨rfl, fun st2 hk => by rw [elemsOf_keep hk h1]; simp only [Option.bind_some, h2]⟩
    case cvp u y =>
      simp only [evalOp] at h ⊢
      cases hy : y.ev gl s <;> rw [hy] at h <;> (try (cases h; done))
      rename_i id g i off
      cases g <;> (try (cases h; done))
      cases i <;> (try (cases h; done))
      cases off <;> (try (cases h; done))
      simp only [] at h
      obtain ⟨B, hB, h⟩ := bind_some h
      split at h
      · rename_i hc
        obtain rfl := Option.some.inj h
        refine ⟨rfl, fun st2 hk => ?_⟩
        obtain ⟨B', hB', e1, e2, e3, e4⟩ := hk id B hB
        simp only [hB', Option.bind_some]
        rw [if_pos]
        refine ⟨by rw [e2]; exact hc.1, by rw [e1]; exact hc.2.1, ?_⟩
        have h3 := hc.2.2
        cases u with
        | none => rfl
        | some q => obtain ⟨qe, qn⟩ := q; simp only [cvpOk, e1, e4] at h3 ⊢; exact h3
      · cases h
    case ixa size y z =>
      simp only [evalOp] at h ⊢
      cases hy : y.ev gl s <;> rw [hy] at h <;> (try (cases h; done))
      case sl es =>
        simp only [] at h ⊢
        obtain ⟨i, h1, h⟩ := bind_some h
        obtain ⟨e, h2, h⟩ := bind_some h
        split at h
        · rename_i hc
          obtain rfl := Option.some.inj h
          exact ⟨rfl, fun st2 _ => by rw [h1]; simp only [Option.bind_some]; rw [h2]; simp only [Option.bind_some]; rw [if_pos hc]⟩
        · cases h
      case row id g =>
        simp only [] at h ⊢
        obtain ⟨i, h1, h⟩ := bind_some h
        obtain ⟨B, hB, h⟩ := bind_some h
        split at h
        · rename_i hc
          obtain rfl := Option.some.inj h
          refine ⟨rfl, fun st2 hk => ?_⟩
          obtain ⟨B', hB', e1, e2, e3, e4⟩ := hk id B hB
          rw [h1]
          simp only [Option.bind_some, hB']
          rw [if_pos (by rw [e1, e2, e3]; exact hc)]
        · cases h
      case arr id off len =>
        simp only [] at h ⊢
        split at h
        · rename_i hc
          obtain ⟨i, h1, h⟩ := bind_some h
          obtain rfl := Option.some.inj h
          exact ⟨rfl, fun st2 _ => by rw [if_pos hc, h1]; rfl⟩
        · cases h

/-! ### two steps change places -/
def grds : Option (Nat × Bool) → List Nat
  | some (t, _) => [t]
  | none => []
def CInstr.rds (o : CInstr) : List Nat := grds o.guard ++ o.op.rds
def offD (d : Option Nat) (l : List Nat) : Bool :=
  match d with
  | some d => !l.contains d
  | none => true
def neD : Option Nat → Option Nat → Bool
  | some d, some d' => d != d'
  | _, _ => true
/-- The first of two neighbours and the second may change places. -/
def comm (x y : Bool × CInstr) : Bool :=
  offD x.2.dst y.2.rds && offD y.2.dst x.2.rds && neD x.2.dst y.2.dst &&
  (if x.2.op.big then !y.2.op.big && !y.2.op.sees else if y.2.op.big then !x.2.op.sees || y.1 else true)

theorem updO_off {d : Option Nat} {l : List Nat} (h : offD d l = true) (v : PV) : ∀ t ∈ l, updO s d v t = s t := by
  intro t ht
  cases d with
  | none => rfl
  | some d =>
    simp only [offD, Bool.not_eq_true', List.contains_eq_mem, decide_eq_false_iff_not] at h
    simp only [updO, upd]
    rw [if_neg]
    rintro rfl
    exact h ht
theorem updO_comm {d d' : Option Nat} (h : neD d d' = true) (v v' : PV) : updO (updO s d v) d' v' = updO (updO s d' v') d v := by
  cases d with
  | none => rfl
  | some d =>
    cases d' with
    | none => rfl
    | some d' =>
      have hne : d ≠ d' := by simpa [neD] using h
      funext k
      simp only [updO, upd]
      by_cases h1 : k = d
      · subst h1; rw [if_neg hne]; simp
      · by_cases h2 : k = d'
        · subst h2; simp [h1]
        · simp [h1, h2]
theorem wantedE_congr {g : Option (Nat × Bool)} (h : ∀ t ∈ grds g, s t = s' t) : wantedE s g = wantedE s' g := by
  cases g with
  | none => rfl
  | some p => obtain ⟨t, b⟩ := p; simp only [wantedE]; rw [h t (by simp [grds])]
theorem outD_congr {o : Bool × CInstr} (h : ∀ t ∈ o.2.rds, s t = s' t) : outD E gl o s st = outD E gl o s' st := by
  unfold outD
  rw [wantedE_congr fun t ht => h t (List.mem_append_left _ ht), evalOp_congr fun t ht => h t (List.mem_append_right _ ht)]

theorem outD_small {o : Bool × CInstr} (hb : o.2.op.big = false) {x : PV × Store} (h : outD E gl o s st = some x) : x.2 = st ∧ ∀ st2, (keepsE st st2 ∨ o.2.op.sees = false) → outD E gl o s st2 = some (x.1, st2) := by
  unfold outD at h ⊢
  obtain ⟨b, h1, h⟩ := bind_some h
  cases b with
  | false =>
    obtain rfl := Option.some.inj h
    exact ⟨rfl, fun st2 _ => by rw [h1]; rfl⟩
  | true =>
    simp only [if_true] at h
    obtain ⟨⟨v, st'⟩, h2, h⟩ := bind_some h
    obtain ⟨e1, e2⟩ := evalOp_small hb h2
    simp only [] at e1
    subst e1
    rw [if_pos (fun _ => keepsE_refl)] at h
    obtain rfl := Option.some.inj h
    refine ⟨rfl, fun st2 hk => ?_⟩
    rw [h1]
    simp only [Option.bind_some, if_true]
    have h3 : evalOp E gl s st2 o.2.op = some (v, st2) := by
      rcases hk with hk | hk
      · exact e2 st2 hk
      · exact (evalOp_pure hb hk h2).2 st2
    rw [h3]
    simp only [Option.bind_some]
    rw [if_pos (fun _ => keepsE_refl)]
theorem outD_keeps {o : Bool × CInstr} (hk : o.1 = true) {x : PV × Store} (h : outD E gl o s st = some x) : keepsE st x.2 := by
  unfold outD at h
  obtain ⟨b, h1, h⟩ := bind_some h
  cases b with
  | false => obtain rfl := Option.some.inj h; exact keepsE_refl
  | true =>
    simp only [if_true] at h
    obtain ⟨⟨v, st'⟩, h2, h⟩ := bind_some h
    split at h
    · rename_i hc
      obtain rfl := Option.some.inj h
      exact hc hk
    · cases h

theorem swap {x y : Bool × CInstr} (hc : comm x y = true) {u z : PV × Store} (h1 : outD E gl x s st = some u) (h2 : outD E gl y (updO s x.2.dst u.1) u.2 = some z) :
    ∃ st1, outD E gl y s st = some (z.1, st1) ∧ outD E gl x (updO s y.2.dst z.1) st1 = some (u.1, z.2) := by
  simp only [comm, Bool.and_eq_true] at hc
  obtain ⟨⟨⟨c1, c2⟩, c3⟩, c4⟩ := hc
  rw [outD_congr (updO_off c1 u.1)] at h2
  have h1' := h1
  rw [← outD_congr (updO_off c2 z.1)] at h1'
  cases hx : x.2.op.big with
  | true =>
    rw [hx] at c4
    simp only [if_true, Bool.and_eq_true, Bool.not_eq_true'] at c4
    obtain ⟨e1, e2⟩ := outD_small c4.1 h2
    refine ⟨st, e2 st (.inr c4.2), ?_⟩
    rw [h1', e1]
  | false =>
    rw [hx] at c4
    simp only [Bool.false_eq_true, if_false] at c4
    obtain ⟨e1, e2⟩ := outD_small hx h1'
    obtain ⟨e3, _⟩ := outD_small hx h1
    rw [e3] at h2
    refine ⟨z.2, h2, e2 z.2 ?_⟩
    cases hy : y.2.op.big with
    | true =>
      rw [hy] at c4
      simp only [if_true, Bool.or_eq_true, Bool.not_eq_true'] at c4
      exact c4.elim .inr fun hk => .inl (outD_keeps hk h2)
    | false =>
      obtain ⟨e4, _⟩ := outD_small hy h2
      exact .inl (by rw [e4]; exact keepsE_refl)

/-- What may change places with all that stands before it may come first. -/
theorem evalD_front {y : Bool × CInstr} {B : List (Bool × CInstr)} {r : Slots × Store} : ∀ {A : List (Bool × CInstr)} {s : Slots} {st : Store} (_ : ∀ x ∈ A, comm x y = true) (_ : evalD E gl (A ++ y :: B) s st = some r),
    evalD E gl (y :: (A ++ B)) s st = some r
  | [], _, _, _, h => h
  | x :: A, s, st, hc, h => by
    simp only [List.cons_append, evalD] at h
    obtain ⟨u, h1, h⟩ := bind_some h
    have h2 := evalD_front (fun x hx => hc x (List.mem_cons_of_mem _ hx)) h
    simp only [evalD] at h2
    obtain ⟨z, h3, h2⟩ := bind_some h2
    have hxy := hc x List.mem_cons_self
    obtain ⟨st1, h4, h5⟩ := swap hxy h1 h3
    simp only [evalD, List.cons_append]
    rw [h4]
    simp only [Option.bind_some]
    rw [h5]
    simp only [Option.bind_some]
    simp only [comm, Bool.and_eq_true] at hxy
    rw [← updO_comm hxy.1.2]
    exact h2
end
end Go.Vs
