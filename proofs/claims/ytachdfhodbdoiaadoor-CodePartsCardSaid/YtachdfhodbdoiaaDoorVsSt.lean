/-
  Steps of the evaluator in a store whose boxes are told one by one: one lemma an operation, each leaving plain values. Under no condition.
-/
import Derived.Test.YtachdfhodbdoiaaDoorVsFu
namespace Go.Vs
open Go

/-- A value, looked up. -/
inductive Nf : PV → PV → Prop
  | int {k : IntKind} {n : Int} : Nf (.int k n) (.int k n)
  | str {s : List UInt8} : Nf (.str s) (.str s)
  | bool {b : Bool} : Nf (.bool b) (.bool b)
  | sl {es : List (List PV)} : Nf (.sl es) (.sl es)
  | ptr {a b c d : Nat} : Nf (.ptr a b c d) (.ptr a b c d)
  | agg {cs : List PV} : Nf (.agg cs) (.agg cs)
  | row {a b : Nat} : Nf (.row a b) (.row a b)
  | pf {cs : List PV} : Nf (.pf cs) (.pf cs)
  | tup {cs : List PV} : Nf (.tup cs) (.tup cs)
  | fn {f : FuncId} {cs : List PV} : Nf (.fn f cs) (.fn f cs)
  | nilsl : Nf .nilsl .nilsl
  | nilp : Nf .nilp .nilp
  | arr {a b c : Nat} : Nf (.arr a b c) (.arr a b c)
  | undef : Nf .undef .undef
  | nilif : Nf .nilif .nilif
  | iface {t : TypeId} {v : PV} : Nf (.iface t v) (.iface t v)
theorem Nf.eq {v w : PV} (h : Nf v w) : v = w := by cases h <;> rfl

section
variable {gl : Nat → List PV} {E : Req → Option Res} {prog : FuncId → Option CFunc} {s s1 : Slots} {st st' st1 : Store} {v w : PV} {c : COp} {d : Nat} {x y i : Opd} {k k' : IntKind} {a b m n : Int} {p : Prop} {t : Nat}

/-! ### one instruction -/
def StepI (E : Req → Option Res) (gl : Nat → List PV) (o : CInstr) (s : Slots) (st : Store) (s1 : Slots) (st1 : Store) : Prop :=
  ((wantedE s o.guard).bind fun b => if b then (evalOp E gl s st o.op).bind fun (v, st') => some (updO s o.dst v, st') else some (updO s o.dst (.tup []), st)) = some (s1, st1)
theorem e_step {o : CInstr} {r : List CInstr} {Q : Slots × Store → Prop} (h : StepI E gl o s st s1 st1) (h2 : Ev (evalOps E gl r s1 st1) Q) : Ev (evalOps E gl (o :: r) s st) Q := by
  obtain ⟨z, h3, h4⟩ := h2
  unfold StepI at h
  obtain ⟨b, h5, h6⟩ := bind_some h
  refine ⟨z, ?_, h4⟩
  simp only [evalOps, h5, Option.bind_some]
  cases b with
  | true =>
    simp only [if_true] at h6 ⊢
    obtain ⟨q, h7, h8⟩ := bind_some h6
    rw [h7]; cases h8; exact h3
  | false => cases h6; exact h3
theorem e_stepD {o : CInstr} {r : List (Bool × CInstr)} {Q : Slots × Store → Prop} (h : StepI E gl o s st s1 st1) (h2 : Ev (evalD E gl r s1 st1) Q) : Ev (evalD E gl ((false, o) :: r) s st) Q := by
  obtain ⟨z, h3, h4⟩ := h2
  unfold StepI at h
  obtain ⟨b, h5, h6⟩ := bind_some h
  refine ⟨z, ?_, h4⟩
  simp only [evalD, outD, h5, Option.bind_some]
  cases b with
  | true =>
    simp only [if_true] at h6 ⊢
    obtain ⟨q, h7, h8⟩ := bind_some h6
    rw [h7]; cases h8
    simp only [Option.bind_some]
    rw [if_pos (fun h => by cases h)]
    exact h3
  | false => cases h6; exact h3
/-- As above, where what stood must stand still. -/
theorem e_stepK {o : CInstr} {r : List (Bool × CInstr)} {Q : Slots × Store → Prop} (h : StepI E gl o s st s1 st1) (hk : keepsE st st1) (h2 : Ev (evalD E gl r s1 st1) Q) : Ev (evalD E gl ((true, o) :: r) s st) Q := by
  obtain ⟨z, h3, h4⟩ := h2
  unfold StepI at h
  obtain ⟨b, h5, h6⟩ := bind_some h
  refine ⟨z, ?_, h4⟩
  simp only [evalD, outD, h5, Option.bind_some]
  cases b with
  | true =>
    simp only [if_true] at h6 ⊢
    obtain ⟨q, h7, h8⟩ := bind_some h6
    rw [h7]; cases h8
    simp only [Option.bind_some]
    rw [if_pos (fun _ => hk)]
    exact h3
  | false => cases h6; exact h3
theorem keeps_same : keepsE st st := fun _ B h => ⟨B, h, rfl, rfl, rfl, rfl⟩
theorem keeps_more {l : List Box} : keepsE st (st ++ l) := fun id B h => ⟨B, by rw [List.getElem?_append_left (List.getElem?_eq_some_iff.1 h).1]; exact h, rfl, rfl, rfl, rfl⟩
theorem keeps_nil : keepsE [] st := fun _ B h => by simp at h
theorem keeps_cons {B : Box} (h : keepsE st st1) : keepsE (B :: st) (B :: st1) := fun id C hC => by
  cases id with
  | zero => exact ⟨C, hC, rfl, rfl, rfl, rfl⟩
  | succ id => exact h id C hC
theorem si_op (h : evalOp E gl s st c = some (v, st1)) : StepI E gl ⟨some d, none, c⟩ s st (upd s d v) st1 := by
  unfold StepI; simp only [wantedE, Option.bind_some, if_true]; rw [h]; rfl
theorem si_opn (h : evalOp E gl s st c = some (v, st1)) : StepI E gl ⟨none, none, c⟩ s st s st1 := by
  unfold StepI; simp only [wantedE, Option.bind_some, if_true]; rw [h]; rfl
theorem si_yes (hg : s t = .bool true) (h : evalOp E gl s st c = some (v, st1)) : StepI E gl ⟨some d, some (t, true), c⟩ s st (upd s d v) st1 := by
  unfold StepI; simp only [wantedE, hg, Option.bind_some, beq_self_eq_true, if_true]; rw [h]; rfl
theorem si_yesf (hg : s t = .bool false) (h : evalOp E gl s st c = some (v, st1)) : StepI E gl ⟨some d, some (t, false), c⟩ s st (upd s d v) st1 := by
  unfold StepI; simp only [wantedE, hg, Option.bind_some, beq_self_eq_true, if_true]; rw [h]; rfl
theorem si_no (hg : s t = .bool false) : StepI E gl ⟨some d, some (t, true), c⟩ s st (upd s d (.tup [])) st := by
  unfold StepI; simp only [wantedE, hg, Option.bind_some]; rfl
theorem si_nof (hg : s t = .bool true) : StepI E gl ⟨some d, some (t, false), c⟩ s st (upd s d (.tup [])) st := by
  unfold StepI; simp only [wantedE, hg, Option.bind_some]; rfl
theorem si_nou {g : Bool} {vs : List PV} (hg : s t = .tup vs) : StepI E gl ⟨some d, some (t, g), c⟩ s st (upd s d (.tup [])) st := by
  unfold StepI; simp only [wantedE, hg, Option.bind_some]; rfl
theorem si_yesp [Decidable p] (hg : s t = .bool (decide p)) (hp : p) (h : evalOp E gl s st c = some (v, st1)) : StepI E gl ⟨some d, some (t, true), c⟩ s st (upd s d v) st1 := si_yes (by rw [hg, decide_eq_true hp]) h
theorem si_yesfp [Decidable p] (hg : s t = .bool (decide p)) (hp : ¬p) (h : evalOp E gl s st c = some (v, st1)) : StepI E gl ⟨some d, some (t, false), c⟩ s st (upd s d v) st1 := si_yesf (by rw [hg, decide_eq_false hp]) h
theorem si_nop [Decidable p] (hg : s t = .bool (decide p)) (hp : ¬p) : StepI E gl ⟨some d, some (t, true), c⟩ s st (upd s d (.tup [])) st := si_no (by rw [hg, decide_eq_false hp])
theorem si_nofp [Decidable p] (hg : s t = .bool (decide p)) (hp : p) : StepI E gl ⟨some d, some (t, false), c⟩ s st (upd s d (.tup [])) st := si_nof (by rw [hg, decide_eq_true hp])

/-! ### a test that is not yet known -/
theorem e_gif {b : Bool} {dd : Option Nat} {r : List CInstr} {Q : Slots × Store → Prop} {g : Bool} (hg : s t = .bool b) (h1 : b = true → Ev (evalOps E gl (⟨dd, some (t, g), c⟩ :: r) (upd s t (.bool true)) st) Q) (h2 : b = false → Ev (evalOps E gl (⟨dd, some (t, g), c⟩ :: r) (upd s t (.bool false)) st) Q) : Ev (evalOps E gl (⟨dd, some (t, g), c⟩ :: r) s st) Q := by
  cases b with
  | true => rw [upd_self hg]; exact h1 rfl
  | false => rw [upd_self hg]; exact h2 rfl
theorem e_gifp [Decidable p] {dd : Option Nat} {r : List CInstr} {Q : Slots × Store → Prop} {g : Bool} (hg : s t = .bool (decide p)) (h1 : p → Ev (evalOps E gl (⟨dd, some (t, g), c⟩ :: r) (upd s t (.bool true)) st) Q) (h2 : ¬p → Ev (evalOps E gl (⟨dd, some (t, g), c⟩ :: r) (upd s t (.bool false)) st) Q) : Ev (evalOps E gl (⟨dd, some (t, g), c⟩ :: r) s st) Q :=
  e_gif hg (fun h => h1 (of_decide_eq_true h)) (fun h => h2 (of_decide_eq_false h))
theorem d_gif {b : Bool} {dd : Option Nat} {r : List (Bool × CInstr)} {kk : Bool} {Q : Slots × Store → Prop} {g : Bool} (hg : s t = .bool b) (h1 : b = true → Ev (evalD E gl ((kk, ⟨dd, some (t, g), c⟩) :: r) (upd s t (.bool true)) st) Q) (h2 : b = false → Ev (evalD E gl ((kk, ⟨dd, some (t, g), c⟩) :: r) (upd s t (.bool false)) st) Q) : Ev (evalD E gl ((kk, ⟨dd, some (t, g), c⟩) :: r) s st) Q := by
  cases b with
  | true => rw [upd_self hg]; exact h1 rfl
  | false => rw [upd_self hg]; exact h2 rfl
theorem d_gifp [Decidable p] {dd : Option Nat} {r : List (Bool × CInstr)} {kk : Bool} {Q : Slots × Store → Prop} {g : Bool} (hg : s t = .bool (decide p)) (h1 : p → Ev (evalD E gl ((kk, ⟨dd, some (t, g), c⟩) :: r) (upd s t (.bool true)) st) Q) (h2 : ¬p → Ev (evalD E gl ((kk, ⟨dd, some (t, g), c⟩) :: r) (upd s t (.bool false)) st) Q) : Ev (evalD E gl ((kk, ⟨dd, some (t, g), c⟩) :: r) s st) Q :=
  d_gif hg (fun h => h1 (of_decide_eq_true h)) (fun h => h2 (of_decide_eq_false h))
theorem ev_ct {c : Opd} {a b : C} {Q : Res → Prop} (hx : c.ev gl s = .bool true) (h : Ev (evalC E gl a s st) Q) : Ev (evalC E gl (.cond c a b) s st) Q := ev_cond hx h
theorem ev_cf {c : Opd} {a b : C} {Q : Res → Prop} (hx : c.ev gl s = .bool false) (h : Ev (evalC E gl b s st) Q) : Ev (evalC E gl (.cond c a b) s st) Q := ev_cond hx h
theorem ev_ctp [Decidable p] {c : Opd} {a b : C} {Q : Res → Prop} (hx : c.ev gl s = .bool (decide p)) (hp : p) (h : Ev (evalC E gl a s st) Q) : Ev (evalC E gl (.cond c a b) s st) Q := ev_ct (by rw [hx, decide_eq_true hp]) h
theorem ev_cfp [Decidable p] {c : Opd} {a b : C} {Q : Res → Prop} (hx : c.ev gl s = .bool (decide p)) (hp : ¬p) (h : Ev (evalC E gl b s st) Q) : Ev (evalC E gl (.cond c a b) s st) Q := ev_cf (by rw [hx, decide_eq_false hp]) h
theorem ev_if [Decidable p] {c : Opd} {a b : C} {Q : Res → Prop} (hx : c.ev gl s = .bool (decide p)) (h1 : p → Ev (evalC E gl a s st) Q) (h2 : ¬p → Ev (evalC E gl b s st) Q) : Ev (evalC E gl (.cond c a b) s st) Q := by
  by_cases hp : p
  · exact ev_ctp hx hp (h1 hp)
  · exact ev_cfp hx hp (h2 hp)
theorem ev_ifb {c : Opd} {a b : C} {Q : Res → Prop} {t : Bool} (hx : c.ev gl s = .bool t) (h1 : t = true → Ev (evalC E gl a s st) Q) (h2 : t = false → Ev (evalC E gl b s st) Q) : Ev (evalC E gl (.cond c a b) s st) Q := by
  cases t with
  | true => exact ev_ct hx (h1 rfl)
  | false => exact ev_cf hx (h2 rfl)

theorem bnot_t {q : Bool} (h : q = false) : (!q) = true := by rw [h]; rfl
theorem bnot_f {q : Bool} (h : q = true) : (!q) = false := by rw [h]; rfl
theorem ev_ifn [Decidable p] {c : Opd} {a b : C} {Q : Res → Prop} (hx : c.ev gl s = .bool (!decide p)) (h1 : ¬p → Ev (evalC E gl a s st) Q) (h2 : p → Ev (evalC E gl b s st) Q) : Ev (evalC E gl (.cond c a b) s st) Q := by
  by_cases hp : p
  · exact ev_cf (by rw [hx, decide_eq_true hp]; rfl) (h2 hp)
  · exact ev_ct (by rw [hx, decide_eq_false hp]; rfl) (h1 hp)
theorem ev_ctb {c : Opd} {a b : C} {Q : Res → Prop} {q : Bool} (hx : c.ev gl s = .bool q) (hq : q = true) (h : Ev (evalC E gl a s st) Q) : Ev (evalC E gl (.cond c a b) s st) Q := ev_ct (by rw [hx, hq]) h
theorem ev_cfb {c : Opd} {a b : C} {Q : Res → Prop} {q : Bool} (hx : c.ev gl s = .bool q) (hq : q = false) (h : Ev (evalC E gl b s st) Q) : Ev (evalC E gl (.cond c a b) s st) Q := ev_cf (by rw [hx, hq]) h
theorem si_yesb {q : Bool} (hg : s t = .bool q) (hq : q = true) (h : evalOp E gl s st c = some (v, st1)) : StepI E gl ⟨some d, some (t, true), c⟩ s st (upd s d v) st1 := si_yes (by rw [hg, hq]) h
theorem si_yesfb {q : Bool} (hg : s t = .bool q) (hq : q = false) (h : evalOp E gl s st c = some (v, st1)) : StepI E gl ⟨some d, some (t, false), c⟩ s st (upd s d v) st1 := si_yesf (by rw [hg, hq]) h
theorem si_nob {q : Bool} (hg : s t = .bool q) (hq : q = false) : StepI E gl ⟨some d, some (t, true), c⟩ s st (upd s d (.tup [])) st := si_no (by rw [hg, hq])
theorem si_nofb {q : Bool} (hg : s t = .bool q) (hq : q = true) : StepI E gl ⟨some d, some (t, false), c⟩ s st (upd s d (.tup [])) st := si_nof (by rw [hg, hq])

/-! ### what comes behind -/
section
variable {Q : Res → Prop} {z : C} {j id : Nat}
theorem then_n (h : Ev (evalC E gl z s st) Q) : Then E gl z Q ⟨.normal, v, s, st⟩ := h
theorem then_r (h : Q ⟨.ret, v, s, st⟩) : Then E gl z Q ⟨.ret, v, s, st⟩ := h
theorem then_e (h : Q ⟨.exit j, v, s, st⟩) : Then E gl z Q ⟨.exit j, v, s, st⟩ := h
theorem out_n (h : Q ⟨.normal, v, s, st⟩) : Out id Q ⟨.normal, v, s, st⟩ := h
theorem out_r (h : Q ⟨.ret, v, s, st⟩) : Out id Q ⟨.ret, v, s, st⟩ := h
theorem out_e (h : Q ⟨.normal, v, s, st⟩) : Out id Q ⟨.exit id, v, s, st⟩ := by simp only [Out, if_true]; exact h
theorem out_ne (hj : j ≠ id) (h : Q ⟨.exit j, v, s, st⟩) : Out id Q ⟨.exit j, v, s, st⟩ := by simp only [Out, if_neg hj]; exact h
theorem again_r (h : Q ⟨.ret, v, s, st⟩) : Again prog gl z Q ⟨.ret, v, s, st⟩ := h
theorem again_e (h : Q ⟨.exit j, v, s, st⟩) : Again prog gl z Q ⟨.exit j, v, s, st⟩ := h
theorem again_n (h : Ev (EE prog gl (.loop z s st)) Q) : Again prog gl z Q ⟨.normal, v, s, st⟩ := h
theorem e_nil {R : Res → Prop} (h : R ⟨.normal, .undef, s, st⟩) : Ev (evalOps E gl [] s st) (fun x => R (Res.mk .normal .undef x.1 x.2)) := ⟨_, rfl, h⟩
theorem e_dnil {R : Res → Prop} (h : R ⟨.normal, .undef, s, st⟩) : Ev (evalD E gl [] s st) (fun x => R (Res.mk .normal .undef x.1 x.2)) := ⟨_, rfl, h⟩
end

/-! ### loops -/
/-- The slots that are known, laid over the others. -/
def lay (s : Slots) : List (Nat × PV) → Slots
  | [] => s
  | (t, v) :: r => upd (lay s r) t v
def Has (s : Slots) : List (Nat × PV) → Prop
  | [] => True
  | (t, v) :: r => s t = v ∧ Has s r
theorem Has.lay {l : List (Nat × PV)} (h : Has s l) : s = lay s l := by
  induction l with
  | nil => rfl
  | cons q r ih =>
    obtain ⟨t, v⟩ := q
    have h1 := ih h.2
    show s = upd (Vs.lay s r) t v
    rw [← h1]
    exact upd_self h.1
theorem has_nil : Has s [] := trivial
theorem has_cons {l : List (Nat × PV)} (h1 : s t = v) (h2 : Has s l) : Has s ((t, v) :: l) := ⟨h1, h2⟩
/-- A loop: what holds at each of its rounds' beginnings, and what falls. -/
theorem ev_while {α : Type} {z : C} {Q : Res → Prop} (L : α → List (Nat × PV)) (S : α → Store) (I : α → Prop) (μ : α → Nat)
    (h : ∀ q s, I q → (∀ q' s', μ q' < μ q → I q' → Has s' (L q') → Ev (EE prog gl (.loop z s' (S q'))) Q) → Ev (evalC (EE prog gl) gl z (lay s (L q)) (S q)) (Again prog gl z Q)) :
    ∀ q s, I q → Has s (L q) → Ev (EE prog gl (.loop z s (S q))) Q := by
  have main : ∀ (k : Nat) q s, μ q < k → I q → Has s (L q) → Ev (EE prog gl (.loop z s (S q))) Q := by
    intro k
    induction k with
    | zero => intro q s hk; omega
    | succ k ih =>
      intro q s hk hI hs
      have h1 := h q s hI (fun q' s' hm hI' hs' => ih q' s' (by omega) hI' hs')
      rw [← hs.lay] at h1
      exact ev_round h1
  exact fun q s hI hs => main (μ q + 1) q s (by omega) hI hs

theorem ev_while1 {α : Type} {z : C} {Q : Res → Prop} (L : α → List (Nat × PV)) (S : α → Store) (I : α → Prop) (μ : α → Nat)
    (h : ∀ q s, I q → (∀ q' s', I q' → μ q' < μ q → Has s' (L q') → Ev (EE prog gl (.loop z s' (S q'))) Q) → Ev (evalC (EE prog gl) gl z (lay s (L q)) (S q)) (Again prog gl z Q)) :
    ∀ q s, I q → Has s (L q) → Ev (EE prog gl (.loop z s (S q))) Q :=
  ev_while L S I μ (fun q s hI ih => h q s hI (fun q' s' h1 h2 h3 => ih q' s' h2 h1 h3))
theorem ev_while2 {α β : Type} {z : C} {Q : Res → Prop} (L : α → β → List (Nat × PV)) (S : α → β → Store) (I : α → β → Prop) (μ : α → β → Nat)
    (h : ∀ q u s, I q u → (∀ q' u' s', I q' u' → μ q' u' < μ q u → Has s' (L q' u') → Ev (EE prog gl (.loop z s' (S q' u'))) Q) → Ev (evalC (EE prog gl) gl z (lay s (L q u)) (S q u)) (Again prog gl z Q)) :
    ∀ q u s, I q u → Has s (L q u) → Ev (EE prog gl (.loop z s (S q u))) Q :=
  fun q u s hI hs => ev_while1 (α := α × β) (z := z) (Q := Q) (fun x => L x.1 x.2) (fun x => S x.1 x.2) (fun x => I x.1 x.2) (fun x => μ x.1 x.2) (fun x s hI ih => h x.1 x.2 s hI (fun q' u' s' h1 h2 h3 => ih (q', u') s' h1 h2 h3)) (q, u) s hI hs
theorem ev_while3 {α β γ : Type} {z : C} {Q : Res → Prop} (L : α → β → γ → List (Nat × PV)) (S : α → β → γ → Store) (I : α → β → γ → Prop) (μ : α → β → γ → Nat)
    (h : ∀ q u w s, I q u w → (∀ q' u' w' s', I q' u' w' → μ q' u' w' < μ q u w → Has s' (L q' u' w') → Ev (EE prog gl (.loop z s' (S q' u' w'))) Q) → Ev (evalC (EE prog gl) gl z (lay s (L q u w)) (S q u w)) (Again prog gl z Q)) :
    ∀ q u w s, I q u w → Has s (L q u w) → Ev (EE prog gl (.loop z s (S q u w))) Q :=
  fun q u w s hI hs => ev_while1 (α := α × β × γ) (z := z) (Q := Q) (fun x => L x.1 x.2.1 x.2.2) (fun x => S x.1 x.2.1 x.2.2) (fun x => I x.1 x.2.1 x.2.2) (fun x => μ x.1 x.2.1 x.2.2) (fun x s hI ih => h x.1 x.2.1 x.2.2 s hI (fun q' u' w' s' h1 h2 h3 => ih (q', u', w') s' h1 h2 h3)) (q, u, w) s hI hs
theorem ev_while4 {α β γ δ : Type} {z : C} {Q : Res → Prop} (L : α → β → γ → δ → List (Nat × PV)) (S : α → β → γ → δ → Store) (I : α → β → γ → δ → Prop) (μ : α → β → γ → δ → Nat)
    (h : ∀ q u w x s, I q u w x → (∀ q' u' w' x' s', I q' u' w' x' → μ q' u' w' x' < μ q u w x → Has s' (L q' u' w' x') → Ev (EE prog gl (.loop z s' (S q' u' w' x'))) Q) → Ev (evalC (EE prog gl) gl z (lay s (L q u w x)) (S q u w x)) (Again prog gl z Q)) :
    ∀ q u w x s, I q u w x → Has s (L q u w x) → Ev (EE prog gl (.loop z s (S q u w x))) Q :=
  fun q u w x s hI hs => ev_while1 (α := α × β × γ × δ) (z := z) (Q := Q) (fun y => L y.1 y.2.1 y.2.2.1 y.2.2.2) (fun y => S y.1 y.2.1 y.2.2.1 y.2.2.2) (fun y => I y.1 y.2.1 y.2.2.1 y.2.2.2) (fun y => μ y.1 y.2.1 y.2.2.1 y.2.2.2) (fun y s hI ih => h y.1 y.2.1 y.2.2.1 y.2.2.2 s hI (fun q' u' w' x' s' h1 h2 h3 => ih (q', u', w', x') s' h1 h2 h3)) (q, u, w, x) s hI hs

/-! ### what is free -/
inductive FreeL : List PV → Prop
  | nil : FreeL []
  | cons {a : PV} {r : List PV} (h : Free a) (t : FreeL r) : FreeL (a :: r)
theorem FreeL.all {l : List PV} (h : FreeL l) : ∀ c ∈ l, Free c := by
  induction h with
  | nil => intro c hc; simp at hc
  | cons h _ ih =>
    intro c hc
    rcases List.mem_cons.1 hc with rfl | hc
    · exact h
    · exact ih c hc
theorem FreeL.of {l : List PV} (h : ∀ c ∈ l, Free c) : FreeL l := by
  induction l with
  | nil => exact .nil
  | cons a r ih => exact .cons (h a List.mem_cons_self) (ih fun c hc => h c (List.mem_cons_of_mem _ hc))
theorem Free.agg' {l : List PV} (h : FreeL l) : Free (.agg l) := .agg h.all
theorem Free.tup' {l : List PV} (h : FreeL l) : Free (.tup l) := .tup h.all
theorem Free.pf' {l : List PV} (h : FreeL l) : Free (.pf l) := .pf h.all
theorem Free.sl' {l : List (List PV)} (h : ∀ e ∈ l, FreeL e) : Free (.sl l) := .sl fun e he => (h e he).all
theorem Free.nilE : Free (.sl []) := .sl fun e he => by simp at he

/-! ### calls -/
/-- A call that names no box: told in a store of its own. -/
theorem op_callp (hgl : ∀ g, ∀ c ∈ gl g, Free c) (hp : OkProg prog) {f : FuncId} {args : List Opd} {as : List PV} {st1 : Store} (h1 : frzA false st (args.map (·.ev gl s)) = some (as, st1)) (h2 : Ans prog gl f as [] v []) (hf : FreeL as) : evalOp (EE prog gl) gl s st (.callf f args) = some (v, st1) :=
  op_call h1 (h2.any hgl hp hf.all st1)
theorem op_callvp (hgl : ∀ g, ∀ c ∈ gl g, Free c) (hp : OkProg prog) {x : Opd} {f : FuncId} {caps : List PV} {args : List Opd} {as : List PV} {st1 : Store} (hx : x.ev gl s = .fn f caps) (h1 : frzA false st (args.map (·.ev gl s)) = some (as, st1)) (h2 : Ans prog gl f (as ++ caps) [] v []) (hf : FreeL (as ++ caps)) : evalOp (EE prog gl) gl s st (.callv x args) = some (v, st1) := by
  have h3 := h2.any hgl hp hf.all st1
  unfold Ans at h3
  simp only [evalOp, hx, h1, Option.bind_some, h3]
/-- What is left at a call's end, in a store whose boxes are told. -/
def Left2 (keep : Bool) (res : List CRes) (pre : Store) (v : PV) (post : Store) (r : Res) : Prop :=
  (r.ex = .normal ∨ r.ex = .ret) ∧ leaveB keep res pre r = some (Res.mk .ret v (fun _ => .undef) post)
theorem ans2 {f : FuncId} {cf : CFunc} {args : List PV} {post : Store} (hf : prog f = some cf) (hn : args.length = cf.np) (hx : cf.ext = none) (h : Ev (evalC (EE prog gl) gl cf.code (argS args) st) (Left2 cf.keepNil cf.res st v post)) : Ans prog gl f args st v post := by
  obtain ⟨r, h1, h2, h3⟩ := h
  unfold Ans
  rw [EE_eq]
  have h1' : evalC (EE prog gl) gl cf.code (fun k => (args[k]?).getD .undef) st = some r := h1
  simp only [stepE, hf, Option.bind_some, hn, if_true, hx, h1']
  rcases h2 with h2 | h2 <;> rw [h2] <;> exact leaveB_ok h3
theorem left_v {keep : Bool} {res : List CRes} {pre post : Store} {r : Res} (h : Left2 keep res pre w post r) (hv : w = v) : Left2 keep res pre v post r := hv ▸ h
theorem op_callv {x : Opd} {f : FuncId} {caps : List PV} {args : List Opd} {as : List PV} {st1 : Store} (hx : x.ev gl s = .fn f caps) (h1 : frzA false st (args.map (·.ev gl s)) = some (as, st1)) (h2 : Ans prog gl f (as ++ caps) st1 v st') : evalOp (EE prog gl) gl s st (.callv x args) = some (v, st') := by
  unfold Ans at h2
  simp only [evalOp, hx, h1, Option.bind_some, h2]

/-! ### operations -/
theorem op_mov (h : Nf (x.ev gl s) v) : evalOp E gl s st (.mov x) = some (v, st) := by rw [← h.eq]; rfl
theorem op_pickt {c a b : Opd} (hc : c.ev gl s = .bool true) (h : Nf (a.ev gl s) v) : evalOp E gl s st (.pick c a b) = some (v, st) := by simp only [evalOp, hc, if_true, h.eq]
theorem op_pickf {c a b : Opd} (hc : c.ev gl s = .bool false) (h : Nf (b.ev gl s) v) : evalOp E gl s st (.pick c a b) = some (v, st) := by simp only [evalOp, hc, Bool.false_eq_true, if_false, h.eq]
theorem op_picktp [Decidable p] {c a b : Opd} (hc : c.ev gl s = .bool (decide p)) (hp : p) (h : Nf (a.ev gl s) v) : evalOp E gl s st (.pick c a b) = some (v, st) := op_pickt (by rw [hc, decide_eq_true hp]) h
theorem op_pickfp [Decidable p] {c a b : Opd} (hc : c.ev gl s = .bool (decide p)) (hp : ¬p) (h : Nf (b.ev gl s) v) : evalOp E gl s st (.pick c a b) = some (v, st) := op_pickf (by rw [hc, decide_eq_false hp]) h
theorem op_picktb {c a b : Opd} {q : Bool} (hc : c.ev gl s = .bool q) (hq : q = true) (h : Nf (a.ev gl s) v) : evalOp E gl s st (.pick c a b) = some (v, st) := op_pickt (by rw [hc, hq]) h
theorem op_pickfb {c a b : Opd} {q : Bool} (hc : c.ev gl s = .bool q) (hq : q = false) (h : Nf (b.ev gl s) v) : evalOp E gl s st (.pick c a b) = some (v, st) := op_pickf (by rw [hc, hq]) h
theorem op_ldc (h : readP st 1 (x.ev gl s) = some [w]) (hn : Nf w v) : evalOp E gl s st (.ldc x) = some (v, st) := by simp only [evalOp, h, Option.bind_some, hn.eq]
theorem op_lda {nn : Nat} {cs : List PV} (h : readP st nn (x.ev gl s) = some cs) : evalOp E gl s st (.lda nn x) = some (.agg cs, st) := by simp only [evalOp, h, Option.bind_some]
theorem op_fld1 {o : Nat} {cs : List PV} (hx : x.ev gl s = .agg cs) (h : cs[o]? = some w) (hn : Nf w v) : evalOp E gl s st (.fld o none x) = some (v, st) := by simp only [evalOp, hx, h, Option.bind_some, hn.eq]
theorem op_ext {o : Nat} {cs : List PV} (hx : x.ev gl s = .tup cs) (h : cs[o]? = some w) (hn : Nf w v) : evalOp E gl s st (.ext o x) = some (v, st) := by simp only [evalOp, hx, h, Option.bind_some, hn.eq]
theorem op_not {q : Bool} (hx : x.ev gl s = .bool q) : evalOp E gl s st (.un .not x) = some (.bool (!q), st) := by simp only [evalOp, hx, unE, Option.bind_some]
theorem op_notp [Decidable p] (hx : x.ev gl s = .bool (decide p)) : evalOp E gl s st (.un .not x) = some (.bool (decide (¬p)), st) := by rw [op_not hx]; by_cases hp : p <;> simp [hp]
theorem op_notlit {q q' : Bool} (hx : x.ev gl s = .bool q) (hq : (!q) = q') : evalOp E gl s st (.un .not x) = some (.bool q', st) := by rw [op_not hx, hq]
theorem op_cmp {op : BinOp} {q : Bool} (h1 : x.ev gl s = .int k a) (h2 : y.ev gl s = .int k b) (h : binE op (.int k a) (.int k b) = some (.bool q)) : evalOp E gl s st (.bin op x y) = some (.bool q, st) := by simp only [evalOp, h1, h2, h, Option.bind_some]
theorem op_lss (h1 : x.ev gl s = .int k a) (h2 : y.ev gl s = .int k b) : evalOp E gl s st (.bin .lss x y) = some (.bool (decide (a < b)), st) := op_cmp h1 h2 (by simp [binE])
theorem op_leq (h1 : x.ev gl s = .int k a) (h2 : y.ev gl s = .int k b) : evalOp E gl s st (.bin .leq x y) = some (.bool (decide (a ≤ b)), st) := op_cmp h1 h2 (by simp [binE])
theorem op_gtr (h1 : x.ev gl s = .int k a) (h2 : y.ev gl s = .int k b) : evalOp E gl s st (.bin .gtr x y) = some (.bool (decide (b < a)), st) := op_cmp h1 h2 (by simp [binE])
theorem op_geq (h1 : x.ev gl s = .int k a) (h2 : y.ev gl s = .int k b) : evalOp E gl s st (.bin .geq x y) = some (.bool (decide (b ≤ a)), st) := op_cmp h1 h2 (by simp [binE])
theorem op_eql (h1 : x.ev gl s = .int k a) (h2 : y.ev gl s = .int k b) : evalOp E gl s st (.bin .eql x y) = some (.bool (decide (a = b)), st) := op_cmp h1 h2 (by simp [binE])
theorem op_neq (h1 : x.ev gl s = .int k a) (h2 : y.ev gl s = .int k b) : evalOp E gl s st (.bin .neq x y) = some (.bool (decide (¬a = b)), st) := op_cmp h1 h2 (by simp [binE])
theorem op_seql {l l' : List UInt8} (h1 : x.ev gl s = .str l) (h2 : y.ev gl s = .str l') : evalOp E gl s st (.bin .eql x y) = some (.bool (decide (l = l')), st) := by simp only [evalOp, h1, h2, binE, Option.bind_some]
theorem op_sneq {l l' : List UInt8} (h1 : x.ev gl s = .str l) (h2 : y.ev gl s = .str l') : evalOp E gl s st (.bin .neq x y) = some (.bool (decide (¬l = l')), st) := by simp only [evalOp, h1, h2, binE, Option.bind_some]; simp
theorem op_sadd {l l' : List UInt8} (h1 : x.ev gl s = .str l) (h2 : y.ev gl s = .str l') (h : l.length + l'.length ≤ 9223372036854775807) : evalOp E gl s st (.bin .add x y) = some (.str (l ++ l'), st) := by simp only [evalOp, h1, h2, binE, if_pos h, Option.bind_some]
theorem op_beq {q q' : Bool} (h1 : x.ev gl s = .bool q) (h2 : y.ev gl s = .bool q') : evalOp E gl s st (.eqb false x y) = some (.bool (q == q'), st) := by simp only [evalOp, h1, h2, eqbE, Option.bind_some]; rfl
theorem op_beqp {q : Prop} [Decidable p] [Decidable q] (h1 : x.ev gl s = .bool (decide p)) (h2 : y.ev gl s = .bool (decide q)) : evalOp E gl s st (.eqb false x y) = some (.bool (decide (p ↔ q)), st) := by
  rw [op_beq h1 h2]; by_cases hp : p <;> by_cases hq : q <;> simp [hp, hq]
theorem op_bnep {q : Prop} [Decidable p] [Decidable q] (h1 : x.ev gl s = .bool (decide p)) (h2 : y.ev gl s = .bool (decide q)) : evalOp E gl s st (.eqb true x y) = some (.bool (decide (¬(p ↔ q))), st) := by
  simp only [evalOp, h1, h2, eqbE, Option.bind_some]; by_cases hp : p <;> by_cases hq : q <;> simp [hp, hq]

theorem op_eqs {ks : List Nat} {cs ds : List PV} {r : Bool} (h1 : x.ev gl s = .agg cs) (h2 : y.ev gl s = .agg ds) (h : eqCells ks cs ds = some r) : evalOp E gl s st (.eqs ks false x y) = some (.bool r, st) := by simp only [evalOp, h1, h2, eqsE, h, Option.bind_some]; rfl
theorem op_neqs {ks : List Nat} {cs ds : List PV} {r : Bool} (h1 : x.ev gl s = .agg cs) (h2 : y.ev gl s = .agg ds) (h : eqCells ks cs ds = some r) : evalOp E gl s st (.eqs ks true x y) = some (.bool (!r), st) := by simp only [evalOp, h1, h2, eqsE, h, Option.bind_some]; rfl

/-! numbers: with their bounds, or cut -/
theorem wrap_u8 (n : Int) : IntKind.u8.wrap n = n % 256 := by simp [IntKind.wrap, IntKind.bits, IntKind.signed]
theorem wrap_u16 (n : Int) : IntKind.u16.wrap n = n % 65536 := by simp [IntKind.wrap, IntKind.bits, IntKind.signed]
theorem wrap_u32 (n : Int) : IntKind.u32.wrap n = n % 4294967296 := by simp [IntKind.wrap, IntKind.bits, IntKind.signed]
theorem wrap_u64 (n : Int) : IntKind.u64.wrap n = n % 18446744073709551616 := by simp [IntKind.wrap, IntKind.bits, IntKind.signed]
theorem wrap_i64 (h1 : -9223372036854775808 ≤ n) (h2 : n ≤ 9223372036854775807) : IntKind.i64.wrap n = n := by
  simp [IntKind.wrap, IntKind.bits, IntKind.signed]; omega
theorem wrap_i32 (h1 : -2147483648 ≤ n) (h2 : n ≤ 2147483647) : IntKind.i32.wrap n = n := by
  simp [IntKind.wrap, IntKind.bits, IntKind.signed]; omega
theorem wrap_i16 (h1 : -32768 ≤ n) (h2 : n ≤ 32767) : IntKind.i16.wrap n = n := by
  simp [IntKind.wrap, IntKind.bits, IntKind.signed]; omega
theorem op_cvi (h1 : x.ev gl s = .int k a) (h : k'.wrap a = b) : evalOp E gl s st (.cvi k' x) = some (.int k' b, st) := by simp only [evalOp, h1, h]
theorem op_cvi_i64 (h1 : x.ev gl s = .int k a) (h2 : -9223372036854775808 ≤ a) (h3 : a ≤ 9223372036854775807) : evalOp E gl s st (.cvi .i64 x) = some (.int .i64 a, st) := op_cvi h1 (wrap_i64 h2 h3)
theorem op_cvi_u8 (h1 : x.ev gl s = .int k a) (h2 : 0 ≤ a) (h3 : a ≤ 255) : evalOp E gl s st (.cvi .u8 x) = some (.int .u8 a, st) := op_cvi h1 (by rw [wrap_u8]; omega)
theorem op_cvi_u16 (h1 : x.ev gl s = .int k a) (h2 : 0 ≤ a) (h3 : a ≤ 65535) : evalOp E gl s st (.cvi .u16 x) = some (.int .u16 a, st) := op_cvi h1 (by rw [wrap_u16]; omega)
theorem op_cvi_u32 (h1 : x.ev gl s = .int k a) (h2 : 0 ≤ a) (h3 : a ≤ 4294967295) : evalOp E gl s st (.cvi .u32 x) = some (.int .u32 a, st) := op_cvi h1 (by rw [wrap_u32]; omega)
theorem op_cvi_u64 (h1 : x.ev gl s = .int k a) (h2 : 0 ≤ a) (h3 : a ≤ 18446744073709551615) : evalOp E gl s st (.cvi .u64 x) = some (.int .u64 a, st) := op_cvi h1 (by rw [wrap_u64]; omega)
theorem op_cvi_mu8 (h1 : x.ev gl s = .int k a) : evalOp E gl s st (.cvi .u8 x) = some (.int .u8 (a % 256), st) := op_cvi h1 (wrap_u8 a)
theorem op_cvi_mu16 (h1 : x.ev gl s = .int k a) : evalOp E gl s st (.cvi .u16 x) = some (.int .u16 (a % 65536), st) := op_cvi h1 (wrap_u16 a)
theorem op_cvi_mu32 (h1 : x.ev gl s = .int k a) : evalOp E gl s st (.cvi .u32 x) = some (.int .u32 (a % 4294967296), st) := op_cvi h1 (wrap_u32 a)
theorem op_cvi_mu64 (h1 : x.ev gl s = .int k a) : evalOp E gl s st (.cvi .u64 x) = some (.int .u64 (a % 18446744073709551616), st) := op_cvi h1 (wrap_u64 a)
theorem op_cvi_w (h1 : x.ev gl s = .int k a) : evalOp E gl s st (.cvi k' x) = some (.int k' (k'.wrap a), st) := op_cvi h1 rfl
theorem op_arith {op : BinOp} (h1 : x.ev gl s = .int k a) (h2 : y.ev gl s = .int k b) (h : binE op (.int k a) (.int k b) = some (.int k m)) : evalOp E gl s st (.bin op x y) = some (.int k m, st) := by simp only [evalOp, h1, h2, h, Option.bind_some]
theorem op_add (h1 : x.ev gl s = .int k a) (h2 : y.ev gl s = .int k b) (h : k.wrap (a + b) = m) : evalOp E gl s st (.bin .add x y) = some (.int k m, st) := op_arith h1 h2 (by simp [binE, h])
theorem op_sub (h1 : x.ev gl s = .int k a) (h2 : y.ev gl s = .int k b) (h : k.wrap (a - b) = m) : evalOp E gl s st (.bin .sub x y) = some (.int k m, st) := op_arith h1 h2 (by simp [binE, h])
theorem op_mul (h1 : x.ev gl s = .int k a) (h2 : y.ev gl s = .int k b) (h : k.wrap (a * b) = m) : evalOp E gl s st (.bin .mul x y) = some (.int k m, st) := op_arith h1 h2 (by simp [binE, h])
theorem op_add_i64 (h1 : x.ev gl s = .int .i64 a) (h2 : y.ev gl s = .int .i64 b) (h3 : -9223372036854775808 ≤ a + b) (h4 : a + b ≤ 9223372036854775807) : evalOp E gl s st (.bin .add x y) = some (.int .i64 (a + b), st) := op_add h1 h2 (wrap_i64 h3 h4)
theorem op_sub_i64 (h1 : x.ev gl s = .int .i64 a) (h2 : y.ev gl s = .int .i64 b) (h3 : -9223372036854775808 ≤ a - b) (h4 : a - b ≤ 9223372036854775807) : evalOp E gl s st (.bin .sub x y) = some (.int .i64 (a - b), st) := op_sub h1 h2 (wrap_i64 h3 h4)
theorem op_mul_i64 (h1 : x.ev gl s = .int .i64 a) (h2 : y.ev gl s = .int .i64 b) (h3 : -9223372036854775808 ≤ a * b) (h4 : a * b ≤ 9223372036854775807) : evalOp E gl s st (.bin .mul x y) = some (.int .i64 (a * b), st) := op_mul h1 h2 (wrap_i64 h3 h4)
theorem op_add_w (h1 : x.ev gl s = .int k a) (h2 : y.ev gl s = .int k b) : evalOp E gl s st (.bin .add x y) = some (.int k (k.wrap (a + b)), st) := op_add h1 h2 rfl
theorem op_sub_w (h1 : x.ev gl s = .int k a) (h2 : y.ev gl s = .int k b) : evalOp E gl s st (.bin .sub x y) = some (.int k (k.wrap (a - b)), st) := op_sub h1 h2 rfl
theorem op_mul_w (h1 : x.ev gl s = .int k a) (h2 : y.ev gl s = .int k b) : evalOp E gl s st (.bin .mul x y) = some (.int k (k.wrap (a * b)), st) := op_mul h1 h2 rfl
theorem op_neg (h1 : x.ev gl s = .int k a) (h : k.wrap (0 - a) = m) : evalOp E gl s st (.un .neg x) = some (.int k m, st) := by simp only [evalOp, h1, unE, Option.bind_some, h]
theorem op_rem (h1 : x.ev gl s = .int k a) (h2 : y.ev gl s = .int k b) (h : ¬b = 0) : evalOp E gl s st (.bin .rem x y) = some (.int k (a.tmod b), st) := op_arith h1 h2 (by simp [binE, h])
theorem op_rem_p (h1 : x.ev gl s = .int k a) (h2 : y.ev gl s = .int k b) (h : ¬b = 0) (ha : 0 ≤ a) : evalOp E gl s st (.bin .rem x y) = some (.int k (a % b), st) := by rw [op_rem h1 h2 h, Int.tmod_eq_emod_of_nonneg ha]
theorem op_quo_p (h1 : x.ev gl s = .int .i64 a) (h2 : y.ev gl s = .int .i64 b) (h : 0 < b) (ha : 0 ≤ a) (ha' : a ≤ 9223372036854775807) : evalOp E gl s st (.bin .quo x y) = some (.int .i64 (a / b), st) := by
  refine op_arith h1 h2 ?_
  have h3 : a.tdiv b = a / b := Int.tdiv_eq_ediv_of_nonneg ha
  have h4 : 0 ≤ a / b := Int.ediv_nonneg ha (by omega)
  have h5 : a / b ≤ a := Int.ediv_le_self _ ha
  have : ¬b = 0 := by omega
  simp only [binE, if_true, if_neg this, h3]
  rw [wrap_i64 (by omega) (by omega)]
theorem op_quo_w (h1 : x.ev gl s = .int k a) (h2 : y.ev gl s = .int k b) (h : ¬b = 0) : evalOp E gl s st (.bin .quo x y) = some (.int k (k.wrap (a.tdiv b)), st) := op_arith h1 h2 (by simp [binE, h])
theorem op_shl_w (h1 : x.ev gl s = .int k a) (h2 : y.ev gl s = .int k' b) (h : 0 ≤ b) : evalOp E gl s st (.bin .shl x y) = some (.int k (k.wrap (a * 2 ^ (min b.toNat k.bits))), st) := op_bin h1 h2 (bin_shl h)
theorem op_shr_w (h1 : x.ev gl s = .int k a) (h2 : y.ev gl s = .int k' b) (h : 0 ≤ b) : evalOp E gl s st (.bin .shr x y) = some (.int k (a.fdiv (2 ^ (min b.toNat k.bits))), st) := op_bin h1 h2 (bin_shr h)
theorem op_slen {l : List UInt8} (h1 : x.ev gl s = .str l) : evalOp E gl s st (.len true x) = some (.int .i64 l.length, st) := by simp only [evalOp, h1, if_true]
theorem op_len {es : List (List PV)} (h1 : x.ev gl s = .sl es) : evalOp E gl s st (.len false x) = some (.int .i64 es.length, st) := by simp only [evalOp, h1, Bool.false_eq_true, if_false]
theorem op_lenr {id g : Nat} (h1 : x.ev gl s = .row id g) : evalOp E gl s st (.len false x) = some (.int .i64 g, st) := by simp only [evalOp, h1, Bool.false_eq_true, if_false]
theorem op_lenn (h1 : x.ev gl s = .nilsl) : evalOp E gl s st (.len false x) = some (.int .i64 0, st) := by simp only [evalOp, h1, Bool.false_eq_true, if_false]
theorem wu8 (h1 : 0 ≤ n) (h2 : n ≤ 255) : IntKind.u8.wrap n = n := by rw [wrap_u8]; omega
theorem wu16 (h1 : 0 ≤ n) (h2 : n ≤ 65535) : IntKind.u16.wrap n = n := by rw [wrap_u16]; omega
theorem wu32 (h1 : 0 ≤ n) (h2 : n ≤ 4294967295) : IntKind.u32.wrap n = n := by rw [wrap_u32]; omega
theorem wu64 (h1 : 0 ≤ n) (h2 : n ≤ 18446744073709551615) : IntKind.u64.wrap n = n := by rw [wrap_u64]; omega
theorem op_quo (h1 : x.ev gl s = .int k a) (h2 : y.ev gl s = .int k b) (hb : ¬b = 0) (ha : 0 ≤ a) (h : k.wrap (a / b) = m) : evalOp E gl s st (.bin .quo x y) = some (.int k m, st) := by
  refine op_arith h1 h2 ?_
  simp only [binE, if_true, if_neg hb]
  rw [Int.tdiv_eq_ediv_of_nonneg ha, h]
/-! bits of numbers that are not less than none -/
theorem bv_nat {w : Nat} {a : Nat} (h : a < 2 ^ w) : (BitVec.ofInt w (a : Int)).toNat = a := by
  have h1 : ((2 ^ w : Nat) : Int) = 2 ^ w := by simp
  rw [BitVec.toNat_ofInt, Int.emod_eq_of_lt (by omega) (by exact_mod_cast h)]
  rfl
theorem op_bits {op : BinOp} {u : Nat} (h1 : x.ev gl s = .int k a) (h2 : y.ev gl s = .int k b) (h : binE op (.int k a) (.int k b) = some (.int k (u : Nat))) : evalOp E gl s st (.bin op x y) = some (.int k u, st) := op_arith h1 h2 h
theorem uwrap_of {u : Nat} (hk : k.signed = false) (hu : u < 2 ^ k.bits) : k.wrap (u : Int) = u := by
  have h1 : ((2 ^ k.bits : Nat) : Int) = 2 ^ k.bits := by simp
  cases k <;> simp [IntKind.signed] at hk <;> simp [IntKind.wrap, IntKind.bits, IntKind.signed] at hu ⊢ <;> omega
theorem bin_and {a b : Nat} (hk : k.signed = false) (ha : a < 2 ^ k.bits) (hb : b < 2 ^ k.bits) : binE .and (.int k a) (.int k b) = some (.int k ((a &&& b : Nat))) := by
  simp only [binE, if_true, BitVec.toNat_and, bv_nat ha, bv_nat hb]
  rw [uwrap_of hk (Nat.and_lt_two_pow _ hb)]
theorem bin_or {a b : Nat} (hk : k.signed = false) (ha : a < 2 ^ k.bits) (hb : b < 2 ^ k.bits) : binE .or (.int k a) (.int k b) = some (.int k ((a ||| b : Nat))) := by
  simp only [binE, if_true, BitVec.toNat_or, bv_nat ha, bv_nat hb]
  rw [uwrap_of hk (Nat.or_lt_two_pow ha hb)]
theorem bin_ori {a b : Nat} (ha : a < 2 ^ 63) (hb : b < 2 ^ 63) : binE .or (.int .i64 a) (.int .i64 b) = some (.int .i64 ((a ||| b : Nat))) := by
  simp only [binE, if_true, BitVec.toNat_or, bv_nat (show a < 2 ^ IntKind.i64.bits by simp only [IntKind.bits]; omega), bv_nat (show b < 2 ^ IntKind.i64.bits by simp only [IntKind.bits]; omega)]
  have h := Nat.or_lt_two_pow ha hb
  rw [wrap_i64 (by omega) (by omega)]
theorem bin_andi {a b : Nat} (ha : a < 2 ^ 63) (hb : b < 2 ^ 63) : binE .and (.int .i64 a) (.int .i64 b) = some (.int .i64 ((a &&& b : Nat))) := by
  simp only [binE, if_true, BitVec.toNat_and, bv_nat (show a < 2 ^ IntKind.i64.bits by simp only [IntKind.bits]; omega), bv_nat (show b < 2 ^ IntKind.i64.bits by simp only [IntKind.bits]; omega)]
  have h := Nat.and_lt_two_pow a hb
  rw [wrap_i64 (by omega) (by omega)]
theorem bin_xor {a b : Nat} (hk : k.signed = false) (ha : a < 2 ^ k.bits) (hb : b < 2 ^ k.bits) : binE .xor (.int k a) (.int k b) = some (.int k ((a ^^^ b : Nat))) := by
  simp only [binE, if_true, BitVec.toNat_xor, bv_nat ha, bv_nat hb]
  rw [uwrap_of hk (Nat.xor_lt_two_pow ha hb)]
theorem bin_shln {a j : Nat} (hk : k.signed = false) : binE .shl (.int k a) (.int k' (j : Nat)) = some (.int k ((a * 2 ^ (min j k.bits) % 2 ^ k.bits : Nat))) := by
  rw [bin_shl (by omega)]
  have h1 : ((2 ^ k.bits : Nat) : Int) = 2 ^ k.bits := by simp
  have h2 : k.wrap ((a : Int) * 2 ^ (min (j : Int).toNat k.bits)) = ((a * 2 ^ (min j k.bits) % 2 ^ k.bits : Nat) : Int) := by
    have h3 : (a : Int) * 2 ^ (min (j : Int).toNat k.bits) = ((a * 2 ^ (min j k.bits) : Nat) : Int) := by simp
    rw [h3]
    cases k <;> simp [IntKind.signed] at hk <;> simp only [IntKind.wrap, IntKind.bits, IntKind.signed] <;> simp
  rw [h2]
theorem bin_shrn {a j : Nat} : binE .shr (.int k a) (.int k' (j : Nat)) = some (.int k ((a / 2 ^ (min j k.bits) : Nat))) := by
  rw [bin_shr (by omega)]
  have h3 : ((a : Int)).fdiv (2 ^ (min (j : Int).toNat k.bits)) = ((a / 2 ^ (min j k.bits) : Nat) : Int) := by
    have : ((2 : Int) ^ (min (j : Int).toNat k.bits)) = ((2 ^ (min j k.bits) : Nat) : Int) := by simp
    rw [this]
    exact Int.ofNat_fdiv a _ ▸ rfl
  rw [h3]

theorem bin_andnot {a b : Nat} (hk : k.signed = false) (ha : a < 2 ^ k.bits) (hb : b < 2 ^ k.bits) : binE .andNot (.int k a) (.int k b) = some (.int k ((a &&& (2 ^ k.bits - 1 - b) : Nat))) := by
  simp only [binE, if_true, BitVec.toNat_and, BitVec.toNat_not, bv_nat ha, bv_nat hb]
  rw [uwrap_of hk (Nat.lt_of_le_of_lt Nat.and_le_left ha)]
theorem op_quon {a b : Nat} (h1 : x.ev gl s = .int k a) (h2 : y.ev gl s = .int k b) (hk : k.signed = false) (ha : a < 2 ^ k.bits) (hb : 0 < b) : evalOp E gl s st (.bin .quo x y) = some (.int k ((a / b : Nat)), st) := by
  refine op_quo h1 h2 (by omega) (by omega) ?_
  have : ((a : Int) / (b : Int)) = ((a / b : Nat) : Int) := rfl
  rw [this, uwrap_of hk (Nat.lt_of_le_of_lt (Nat.div_le_self _ _) ha)]
theorem op_shrn {a j z : Nat} (h1 : x.ev gl s = .int k (a : Nat)) (h2 : y.ev gl s = .int k' b) (h3 : b = (j : Nat)) (h4 : a / 2 ^ (min j k.bits) = z) : evalOp E gl s st (.bin .shr x y) = some (.int k (z : Nat), st) := by
  subst h3; subst h4; exact op_bin h1 h2 bin_shrn
theorem op_shln {a j z : Nat} (hk : k.signed = false) (h1 : x.ev gl s = .int k (a : Nat)) (h2 : y.ev gl s = .int k' b) (h3 : b = (j : Nat)) (h4 : a * 2 ^ (min j k.bits) % 2 ^ k.bits = z) : evalOp E gl s st (.bin .shl x y) = some (.int k (z : Nat), st) := by
  subst h3; subst h4; exact op_bin h1 h2 (bin_shln hk)
theorem testBit_div (a i : Nat) : a / 2 ^ i % 2 = (a.testBit i).toNat := by
  rw [Nat.testBit_eq_decide_div_mod_eq]
  have := Nat.mod_two_eq_zero_or_one (a / 2 ^ i)
  rcases this with h | h <;> simp [h]

/-! ### the store, box by box -/
inductive Len : Store → Nat → Prop
  | c0 : Len [] 0
  | c1 {a : Box} : Len [a] 1
  | c2 {a b : Box} : Len [a, b] 2
  | c3 {a b c : Box} : Len [a, b, c] 3
  | c4 {a b c d : Box} : Len [a, b, c, d] 4
  | c5 {a b c d e : Box} : Len [a, b, c, d, e] 5
  | c6 {a b c d e f : Box} : Len [a, b, c, d, e, f] 6
  | c7 {a b c d e f g : Box} : Len [a, b, c, d, e, f, g] 7
theorem Len.eq {n : Nat} (h : Len st n) : st.length = n := by cases h <;> rfl
inductive Snoc : Store → Box → Store → Prop
  | nil {B : Box} : Snoc [] B [B]
  | cons {A B : Box} {r r' : Store} (h : Snoc r B r') : Snoc (A :: r) B (A :: r')
theorem Snoc.eq {B : Box} (h : Snoc st B st') : st ++ [B] = st' := by
  induction h with
  | nil => rfl
  | cons _ ih => rw [List.cons_append, ih]
/-- One place of a list written anew. -/
inductive SetAt {α : Type} : List α → Nat → α → List α → Prop
  | zero {a b : α} {r : List α} : SetAt (a :: r) 0 b (b :: r)
  | succ {a b : α} {n : Nat} {r r' : List α} (h : SetAt r n b r') : SetAt (a :: r) (n + 1) b (a :: r')
theorem SetAt.eq {α : Type} {l l' : List α} {n : Nat} {b : α} (h : SetAt l n b l') : l.set n b = l' := by
  induction h with
  | zero => rfl
  | succ _ ih => rw [List.set_cons_succ, ih]
theorem SetAt.lt {α : Type} {l l' : List α} {n : Nat} {b : α} (h : SetAt l n b l') : n + 1 ≤ l.length := by
  induction h with
  | zero => simp
  | succ _ ih => simp only [List.length_cons]; omega
theorem op_alloc {n : Nat} {e : TypeId} {zs : List PV} (h1 : Len st n) (h2 : Snoc st (Box.mk [zs] false 0 e 0 false) st') : evalOp E gl s st (.alloc e zs) = some (.ptr n 0 0 0, st') := by simp only [evalOp, h1.eq, h2.eq]
theorem op_box1 {n : Nat} {e : TypeId} (hv : Nf (x.ev gl s) v) (ho : oneP v = true) (hc : cellsOf v = [v]) (h1 : Len st n) (h2 : Snoc st (Box.mk [[v]] false 0 e 0 false) st') : evalOp E gl s st (.box e x) = some (.ptr n 0 0 0, st') := by
  simp only [evalOp, hv.eq, hc, List.all_cons, ho, List.all_nil, Bool.and_self, if_true, h1.eq, h2.eq]
theorem op_boxa {n : Nat} {e : TypeId} {cs : List PV} (hv : x.ev gl s = .agg cs) (ho : cs.all oneP = true) (h1 : Len st n) (h2 : Snoc st (Box.mk [cs] false 0 e 0 false) st') : evalOp E gl s st (.box e x) = some (.ptr n 0 0 0, st') := by
  simp only [evalOp, hv, cellsOf, ho, if_true, h1.eq, h2.eq]
/-- A variable's one cell written. -/
theorem op_st1 {id off z e lk : Nat} {cs cs' : List PV} {a : Opd} (ha : a.ev gl s = .ptr id 0 0 off) (hx : Nf (x.ev gl s) v) (ho : oneP v = true) (hc : cellsOf v = [v]) (hB : st[id]? = some (Box.mk [cs] false z e lk false)) (hl : SetAt cs off v cs') (h2 : SetAt st id (Box.mk [cs'] false z e lk false) st') : evalOp E gl s st (.st 1 a x) = some (.undef, st') := by
  have hlen := hl.lt
  simp only [evalOp, ha, hx.eq, hc, List.all_cons, ho, List.all_nil, Bool.and_self, List.length_cons, List.length_nil, and_self, if_true, writeP, hB, Option.bind_some, Box.gen, Bool.false_eq_true, if_false, false_implies, List.getElem?_cons_zero]
  rw [if_pos (by omega)]
  simp only [Option.bind_some, List.set_cons_zero, putCells, hl.eq, h2.eq]
/-- As above, at a place that hangs on a number. -/
theorem op_st1i {id off z e lk : Nat} {cs : List PV} {a : Opd} (ha : a.ev gl s = .ptr id 0 0 off) (hx : Nf (x.ev gl s) v) (ho : oneP v = true) (hc : cellsOf v = [v]) (hB : st[id]? = some (Box.mk [cs] false z e lk false)) (hl : off < cs.length) (h2 : SetAt st id (Box.mk [cs.set off v] false z e lk false) st') : evalOp E gl s st (.st 1 a x) = some (.undef, st') := by
  simp only [evalOp, ha, hx.eq, hc, List.all_cons, ho, List.all_nil, Bool.and_self, List.length_cons, List.length_nil, and_self, if_true, writeP, hB, Option.bind_some, Box.gen, Bool.false_eq_true, if_false, false_implies, List.getElem?_cons_zero]
  rw [if_pos (by omega)]
  simp only [Option.bind_some, List.set_cons_zero, putCells, h2.eq]
/-- A whole variable written. -/
theorem op_sta {id nn z e lk : Nat} {cs ds : List PV} {a : Opd} (ha : a.ev gl s = .ptr id 0 0 0) (hx : x.ev gl s = .agg ds) (ho : ds.all oneP = true) (hn : ds.length = nn) (hn2 : 2 ≤ nn) (hB : st[id]? = some (Box.mk [cs] false z e lk false)) (hl : cs.length = nn) (h2 : SetAt st id (Box.mk [ds] false z e lk false) st') : evalOp E gl s st (.st nn a x) = some (.undef, st') := by
  simp only [evalOp, ha, hx, cellsOf, hn, ho, and_self, if_true, writeP, hB, Option.bind_some, Box.gen, Bool.false_eq_true, if_false, false_implies, List.getElem?_cons_zero]
  rw [if_pos (by omega)]
  simp only [Option.bind_some, List.set_cons_zero]
  have : putCells cs 0 ds = ds := by
    unfold putCells
    split
    · simp at hn; omega
    · simp [hn, hl]
  rw [this, h2.eq]
/-- Places of a list written anew, from one on. -/
inductive SetAll : List PV → Nat → List PV → List PV → Prop
  | nil {zs : List PV} {o : Nat} : SetAll zs o [] zs
  | cons {zs z1 zs' ds : List PV} {o : Nat} {d : PV} (h : SetAt zs o d z1) (t : SetAll z1 (o + 1) ds zs') : SetAll zs o (d :: ds) zs'
theorem SetAll.eq {zs zs' ds : List PV} {o : Nat} (h : SetAll zs o ds zs') : zs.take o ++ (ds ++ zs.drop (o + ds.length)) = zs' ∧ (ds ≠ [] → o + ds.length ≤ zs.length) := by
  induction h with
  | nil => simp
  | @cons zs z1 zs' ds o d h t ih =>
    have hlt := h.lt
    have he := h.eq
    obtain ⟨ih1, ih2⟩ := ih
    have hl : z1.length = zs.length := by rw [← he]; simp
    refine ⟨?_, fun _ => ?_⟩
    · rw [← ih1, ← he]
      have h1 : (zs.set o d).take (o + 1) = zs.take o ++ [d] := by
        rw [List.take_set, List.set_eq_take_append_cons_drop]
        rw [if_pos (by simp; omega)]
        simp [List.take_take]
      have h2 : (zs.set o d).drop (o + 1 + ds.length) = zs.drop (o + (d :: ds).length) := by
        rw [List.drop_set_of_lt (by omega)]
        simp; congr 1; omega
      rw [h1, h2]
      simp
    · by_cases hd : ds = []
      · subst hd; simp; omega
      · have := ih2 hd; simp; omega
theorem SetAll.put {zs zs' ds : List PV} {o : Nat} (h : SetAll zs o ds zs') : putCells zs o ds = zs' := by
  have h1 := h.eq.1
  unfold putCells
  split
  · cases h with
    | cons h t => cases t; exact h.eq
  · exact h1
/-- A struct's or an array's parts, laid. -/
inductive Fill (gl : Nat → List PV) (s : Slots) : List PV → List (Nat × Nat × Opd) → List PV → Prop
  | nil {zs : List PV} : Fill gl s zs [] zs
  | one {zs z1 cs : List PV} {o : Nat} {x : Opd} {v : PV} {ps : List (Nat × Nat × Opd)} (hv : Nf (x.ev gl s) v) (ho : oneP v = true) (hc : cellsOf v = [v]) (h : SetAt zs o v z1) (t : Fill gl s z1 ps cs) : Fill gl s zs ((o, 1, x) :: ps) cs
  | agg {zs z1 cs ds : List PV} {o n : Nat} {x : Opd} {ps : List (Nat × Nat × Opd)} (hv : x.ev gl s = .agg ds) (ho : ds.all oneP = true) (hn : ds.length = n) (h : SetAll zs o ds z1) (hle : o + n ≤ zs.length) (t : Fill gl s z1 ps cs) : Fill gl s zs ((o, n, x) :: ps) cs
theorem Fill.eq {zs cs : List PV} {ps : List (Nat × Nat × Opd)} (h : Fill gl s zs ps cs) : fillE zs (ps.map fun (o, n, x) => (o, n, x.ev gl s)) = some cs := by
  induction h with
  | nil => rfl
  | one hv ho hc h t ih =>
    simp only [List.map_cons, fillE, hv.eq, hc, List.length_cons, List.length_nil, List.all_cons, ho, List.all_nil, Bool.and_self, true_and]
    rw [if_pos h.lt]
    simp only [putCells, h.eq]
    exact ih
  | agg hv ho hn h hle t ih =>
    simp only [List.map_cons, fillE, hv, cellsOf, hn, ho, true_and]
    rw [if_pos hle, h.put]
    exact ih
theorem op_build {zs cs : List PV} {ps : List (Nat × Nat × Opd)} (h : Fill gl s zs ps cs) : evalOp E gl s st (.build zs ps) = some (.agg cs, st) := by
  simp only [evalOp, h.eq, Option.bind_some]
/-- Some of a variable's cells written. -/
theorem op_stp {id nn off z e lk : Nat} {cs ds cs' : List PV} {a : Opd} (ha : a.ev gl s = .ptr id 0 0 off) (hx : x.ev gl s = .agg ds) (ho : ds.all oneP = true) (hn : ds.length = nn) (hB : st[id]? = some (Box.mk [cs] false z e lk false)) (hl : SetAll cs off ds cs') (hle : off + nn ≤ cs.length) (h2 : SetAt st id (Box.mk [cs'] false z e lk false) st') : evalOp E gl s st (.st nn a x) = some (.undef, st') := by
  simp only [evalOp, ha, hx, cellsOf, hn, ho, and_self, if_true, writeP, hB, Option.bind_some, Box.gen, Bool.false_eq_true, if_false, false_implies, List.getElem?_cons_zero]
  rw [if_pos hle]
  simp only [Option.bind_some, List.set_cons_zero, hl.put, h2.eq]
theorem op_ixaap {nn size id g j off : Nat} (h1 : x.ev gl s = .ptr id g j off) (h2 : i.ev gl s = .int k m) (h : 0 ≤ m) (h' : m < nn) : evalOp E gl s st (.ixaa nn size x i) = some (.ptr id g j (off + m.toNat * size), st) := by
  simp only [evalOp, h1, h2, idx]; rw [if_pos ⟨h, h'⟩]; rfl
theorem op_fap {o id g j off oo : Nat} (h1 : x.ev gl s = .ptr id g j off) (h : off + o = oo) : evalOp E gl s st (.fa o x) = some (.ptr id g j oo, st) := by simp only [evalOp, h1, h]
theorem op_fapf {o : Nat} {cs ds : List PV} (h1 : x.ev gl s = .pf cs) (h : cs.drop o = ds) : evalOp E gl s st (.fa o x) = some (.pf ds, st) := by simp only [evalOp, h1, h]
theorem op_nilck {id g j off : Nat} (h1 : x.ev gl s = .ptr id g j off) : evalOp E gl s st (.nilck x) = some (.ptr id g j off, st) := by simp only [evalOp, h1]
theorem op_nilckf {cs : List PV} (h1 : x.ev gl s = .pf cs) : evalOp E gl s st (.nilck x) = some (.pf cs, st) := by simp only [evalOp, h1]
theorem op_slsx {l : List UInt8} {lo hi : Option Opd} {p q : Nat} (h1 : x.ev gl s = .str l) (hq : bnd l.length l.length (hi.map (·.ev gl s)) = some q) (hp : bnd q 0 (lo.map (·.ev gl s)) = some p) : evalOp E gl s st (.sls x lo hi) = some (.str ((l.take q).drop p), st) := by
  simp only [evalOp, h1, hq, hp, Option.bind_some]
theorem bnd_int {n d : Nat} {k : IntKind} {m : Int} (h : 0 ≤ m) (h' : m ≤ n) : bnd n d (some (.int k m)) = some m.toNat := by
  simp only [bnd]; rw [if_pos ⟨h, h'⟩]
theorem op_ixsx {l : List UInt8} {u : UInt8} (h1 : x.ev gl s = .str l) (h2 : i.ev gl s = .int k m) (h : 0 ≤ m) (he : l[m.toNat]? = some u) : evalOp E gl s st (.ixs x i) = some (.int .u8 u.toNat, st) := op_ixs h1 h2 h he
theorem op_maxr (h1 : x.ev gl s = .int k a) (h2 : y.ev gl s = .int k b) (h : b ≤ a) : evalOp E gl s st (.maxmin true x y) = some (.int k a, st) := by
  simp only [evalOp, h1, h2, if_true]; rw [if_neg (by omega)]
theorem op_maxl (h1 : x.ev gl s = .int k a) (h2 : y.ev gl s = .int k b) (h : a < b) : evalOp E gl s st (.maxmin true x y) = some (.int k b, st) := by
  simp only [evalOp, h1, h2, if_true]; rw [if_pos (by omega)]
theorem op_minr (h1 : x.ev gl s = .int k a) (h2 : y.ev gl s = .int k b) (h : a ≤ b) : evalOp E gl s st (.maxmin false x y) = some (.int k a, st) := by
  simp only [evalOp, h1, h2, if_true, Bool.false_eq_true, if_false]; rw [if_neg (by omega)]
theorem op_minl (h1 : x.ev gl s = .int k a) (h2 : y.ev gl s = .int k b) (h : b < a) : evalOp E gl s st (.maxmin false x y) = some (.int k b, st) := by
  simp only [evalOp, h1, h2, if_true, Bool.false_eq_true, if_false]; rw [if_pos (by omega)]

/-! ### append -/
def okNew (size : Nat) (new : List (List PV)) : Bool := new.all fun e => decide (e.length = size) && e.all (ref1 0)
theorem op_appr {b : Bool} {e : TypeId} {size bytes id g lk : Nat} {es new : List (List PV)} (hx : x.ev gl s = .row id g) (hy : srcE b st (y.ev gl s) = some new) (hB : st[id]? = some (Box.mk es true size e lk false)) (hg : es.length = g) (hn : okNew size new = true) (hs : 0 < size) (hb : (g + new.length) * bytes ≤ 140737488355328) (hc : g + new.length ≤ 281474976710656)
    (h2 : SetAt st id (Box.mk (es ++ new) true size e lk false) st') : evalOp E gl s st (.app b e size bytes x y) = some (.row id (g + new.length), st') := by
  have hn' : (new.all fun e => decide (e.length = size) && e.all (ref1 0)) = true := hn
  simp only [evalOp, hy, Option.bind_some, hx]
  rw [if_pos ⟨hn', hs⟩]
  simp only [appE, hB, Option.bind_some]
  rw [if_pos ⟨trivial, hg, trivial, trivial, trivial, hb, hc⟩, h2.eq]
theorem op_appn {b : Bool} {e : TypeId} {size bytes n : Nat} {new : List (List PV)} (hx : x.ev gl s = .nilsl) (hy : srcE b st (y.ev gl s) = some new) (hn : okNew size new = true) (hs : 0 < size) (hb : new.length * bytes ≤ 140737488355328) (hc : new.length ≤ 281474976710656) (h0 : 0 < new.length) (hl : Len st n)
    (h2 : Snoc st (Box.mk new true size e 0 false) st') : evalOp E gl s st (.app b e size bytes x y) = some (.row n new.length, st') := by
  have hn' : (new.all fun e => decide (e.length = size) && e.all (ref1 0)) = true := hn
  simp only [evalOp, hy, Option.bind_some, hx]
  rw [if_pos ⟨hn', hs⟩]
  simp only [appE]
  rw [if_pos ⟨hb, hc⟩, if_neg (by omega), h2.eq, hl.eq]
theorem op_appn0 {b : Bool} {e : TypeId} {size bytes : Nat} (hx : x.ev gl s = .nilsl) (hy : srcE b st (y.ev gl s) = some []) (hs : 0 < size) : evalOp E gl s st (.app b e size bytes x y) = some (.nilsl, st) := by
  simp only [evalOp, hy, Option.bind_some, hx]
  rw [if_pos ⟨rfl, hs⟩]
  simp [appE]
theorem op_appr0 {b : Bool} {e : TypeId} {size bytes id g lk : Nat} {es : List (List PV)} (hx : x.ev gl s = .row id g) (hy : srcE b st (y.ev gl s) = some []) (hB : st[id]? = some (Box.mk es true size e lk false)) (hg : es.length = g) (hs : 0 < size) (hb : g * bytes ≤ 140737488355328) (hc : g ≤ 281474976710656) : evalOp E gl s st (.app b e size bytes x y) = some (.row id g, st) := by
  simp only [evalOp, hy, Option.bind_some, hx]
  rw [if_pos ⟨rfl, hs⟩]
  simp only [appE, hB, Option.bind_some, List.length_nil, Nat.add_zero, List.append_nil]
  rw [if_pos ⟨trivial, hg, trivial, trivial, trivial, hb, hc⟩]
  congr 2
  apply List.ext_getElem?
  intro j
  by_cases hj : id = j
  · subst hj; rw [List.getElem?_set_self (List.getElem?_eq_some_iff.1 hB).1, hB]
  · rw [List.getElem?_set_ne hj]

/-! ### rows that are made and read at once -/
theorem op_bslice {e : TypeId} {size len : Nat} {zs : List PV} {parts : List (Nat × Opd)} {es : List (List PV)} (h : fillR (List.replicate len zs) size (parts.map fun (i, x) => (i, x.ev gl s)) = some es) : evalOp E gl s st (.bslice e size len zs parts) = some (.row st.length len, st ++ [Box.mk es true size e 0 false]) := by
  simp only [evalOp, h, Option.bind_some]
theorem op_cvbs_last {g sz lk : Nat} {e : TypeId} {fz : Bool} {es : List (List PV)} {l : List UInt8} (hx : x.ev gl s = .row st.length g) (hl : es.length = g) (hb : bytesOf es = some l) : evalOp E gl s (st ++ [Box.mk es true sz e lk fz]) (.cvbs x) = some (.str l, st ++ [Box.mk es true sz e lk fz]) := by
  simp only [evalOp, hx, elemsOf, List.getElem?_append_right (Nat.le_refl _), Nat.sub_self, List.getElem?_cons_zero, Option.bind_some]
  rw [if_pos ⟨trivial, hl⟩]
  simp only [Option.bind_some, hb]
theorem op_cvbs {es : List (List PV)} {l : List UInt8} (h : elemsOf st (x.ev gl s) = some es) (hb : bytesOf es = some l) : evalOp E gl s st (.cvbs x) = some (.str l, st) := by
  simp only [evalOp, h, hb, Option.bind_some]
theorem op_sla {nn id off p q : Nat} {lo hi : Option Opd} (h1 : x.ev gl s = .ptr id 0 0 off) (hq : bnd nn nn (hi.map (·.ev gl s)) = some q) (hp : bnd q 0 (lo.map (·.ev gl s)) = some p) : evalOp E gl s st (.sla nn x lo hi) = some (.arr id (off + p) (q - p), st) := by
  simp only [evalOp, h1, hq, hp, Option.bind_some]
end
end Go.Vs
