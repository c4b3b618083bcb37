/-
  Steps of the evaluator, one lemma each, to be laid one behind the other in a proof. Under no condition.
-/
import Derived.Test.YtachdfhodbdoiaaDoorVsY
namespace Go.Vs
open Go
section
variable {gl : Nat → List PV} {E : Req → Option Res} {prog : FuncId → Option CFunc} {s : Slots} {st st' : Store} {v : PV} {c : COp} {d : Option Nat}

/-- It answers, and what it answers is so. -/
def Ev {α : Type} (x : Option α) (Q : α → Prop) : Prop := ∃ a, x = some a ∧ Q a

theorem Ev.mono {α : Type} {x : Option α} {Q Q' : α → Prop} (h : Ev x Q) (hq : ∀ a, Q a → Q' a) : Ev x Q' := by
  obtain ⟨a, h1, h2⟩ := h
  exact ⟨a, h1, hq a h2⟩
theorem Ev.bind {α β : Type} {x : Option α} {f : α → Option β} {Q : β → Prop} (h : Ev x fun a => Ev (f a) Q) : Ev (x.bind f) Q := by
  obtain ⟨a, rfl, b, h2, h3⟩ := h
  exact ⟨b, h2, h3⟩

/-! ### operations -/
theorem ev_nil {Q : Slots × Store → Prop} (h : Q (s, st)) : Ev (evalOps E gl [] s st) Q := ⟨_, rfl, h⟩
theorem ev_op {r : List CInstr} {Q : Slots × Store → Prop} (h : evalOp E gl s st c = some (v, st')) (h2 : Ev (evalOps E gl r (updO s d v) st') Q) : Ev (evalOps E gl (⟨d, none, c⟩ :: r) s st) Q := by
  obtain ⟨a, h3, h4⟩ := h2
  exact ⟨a, by simp only [evalOps, wantedE, Option.bind_some, if_true]; rw [h]; exact h3, h4⟩
theorem ev_yes {r : List CInstr} {Q : Slots × Store → Prop} {t : Nat} {b : Bool} (hg : s t = .bool b) (h : evalOp E gl s st c = some (v, st')) (h2 : Ev (evalOps E gl r (updO s d v) st') Q) : Ev (evalOps E gl (⟨d, some (t, b), c⟩ :: r) s st) Q := by
  obtain ⟨a, h3, h4⟩ := h2
  exact ⟨a, by simp only [evalOps, wantedE, hg, Option.bind_some, beq_self_eq_true, if_true]; rw [h]; exact h3, h4⟩
theorem ev_no {r : List CInstr} {Q : Slots × Store → Prop} {t : Nat} {b b' : Bool} (hg : s t = .bool b') (hb : (b' == b) = false) (h2 : Ev (evalOps E gl r (updO s d (.tup [])) st) Q) : Ev (evalOps E gl (⟨d, some (t, b), c⟩ :: r) s st) Q := by
  obtain ⟨a, h3, h4⟩ := h2
  exact ⟨a, by simp only [evalOps, wantedE, hg, Option.bind_some, hb, Bool.false_eq_true, if_false]; exact h3, h4⟩

theorem ev_dnil {Q : Slots × Store → Prop} (h : Q (s, st)) : Ev (evalD E gl [] s st) Q := ⟨_, rfl, h⟩
theorem ev_dop {r : List (Bool × CInstr)} {Q : Slots × Store → Prop} {k : Bool} (h : evalOp E gl s st c = some (v, st')) (hk : k = true → keepsE st st') (h2 : Ev (evalD E gl r (updO s d v) st') Q) : Ev (evalD E gl ((k, ⟨d, none, c⟩) :: r) s st) Q := by
  obtain ⟨a, h3, h4⟩ := h2
  exact ⟨a, by simp only [evalD, outD, wantedE, Option.bind_some, if_true]; rw [h]; simp only [Option.bind_some]; rw [if_pos hk]; exact h3, h4⟩
theorem ev_dyes {r : List (Bool × CInstr)} {Q : Slots × Store → Prop} {k : Bool} {t : Nat} {b : Bool} (hg : s t = .bool b) (h : evalOp E gl s st c = some (v, st')) (hk : k = true → keepsE st st') (h2 : Ev (evalD E gl r (updO s d v) st') Q) : Ev (evalD E gl ((k, ⟨d, some (t, b), c⟩) :: r) s st) Q := by
  obtain ⟨a, h3, h4⟩ := h2
  exact ⟨a, by simp only [evalD, outD, wantedE, hg, Option.bind_some, beq_self_eq_true, if_true]; rw [h]; simp only [Option.bind_some]; rw [if_pos hk]; exact h3, h4⟩
theorem ev_dno {r : List (Bool × CInstr)} {Q : Slots × Store → Prop} {k : Bool} {t : Nat} {b b' : Bool} (hg : s t = .bool b') (hb : (b' == b) = false) (h2 : Ev (evalD E gl r (updO s d (.tup [])) st) Q) : Ev (evalD E gl ((k, ⟨d, some (t, b), c⟩) :: r) s st) Q := by
  obtain ⟨a, h3, h4⟩ := h2
  exact ⟨a, by simp only [evalD, outD, wantedE, hg, Option.bind_some, hb, Bool.false_eq_true, if_false]; exact h3, h4⟩
theorem no_keep : false = true → keepsE st st' := fun h => by cases h

/-! ### code -/
theorem ev_region {ops : List CInstr} {Q : Res → Prop} (h : Ev (evalOps E gl ops s st) fun x => Q (Res.mk .normal .undef x.1 x.2)) : Ev (evalC E gl (.region ops) s st) Q := by
  obtain ⟨⟨s', st'⟩, h1, h2⟩ := h
  exact ⟨_, by simp only [evalC, h1, Option.bind_some], h2⟩
theorem ev_draw {ops : List (Bool × CInstr)} {Q : Res → Prop} (h : Ev (evalD E gl ops s st) fun x => Q (Res.mk .normal .undef x.1 x.2)) : Ev (evalC E gl (.draw ops) s st) Q := by
  obtain ⟨⟨s', st'⟩, h1, h2⟩ := h
  exact ⟨_, by simp only [evalC, h1, Option.bind_some], h2⟩
/-- And then: where it went on as usual. -/
def Then (E : Req → Option Res) (gl : Nat → List PV) (b : C) (Q : Res → Prop) (r : Res) : Prop :=
  match r.ex with
  | .normal => Ev (evalC E gl b r.s r.st) Q
  | _ => Q r
theorem ev_seq {a b : C} {Q : Res → Prop} (h : Ev (evalC E gl a s st) (Then E gl b Q)) : Ev (evalC E gl (.seq a b) s st) Q := by
  obtain ⟨r, h1, h2⟩ := h
  unfold Then at h2
  cases hx : r.ex with
  | normal =>
    rw [hx] at h2
    obtain ⟨r', h3, h4⟩ := h2
    exact ⟨r', by simp only [evalC, h1, Option.bind_some, hx]; exact h3, h4⟩
  | exit i => rw [hx] at h2; exact ⟨r, by simp only [evalC, h1, Option.bind_some, hx], h2⟩
  | ret => rw [hx] at h2; exact ⟨r, by simp only [evalC, h1, Option.bind_some, hx], h2⟩
theorem ev_skip {Q : Res → Prop} (h : Q (Res.mk .normal .undef s st)) : Ev (evalC E gl .skip s st) Q := ⟨_, rfl, h⟩
theorem ev_ret {Q : Res → Prop} (h : Q (Res.mk .ret .undef s st)) : Ev (evalC E gl .ret s st) Q := ⟨_, rfl, h⟩
theorem ev_exit {i : Nat} {Q : Res → Prop} (h : Q (Res.mk (.exit i) .undef s st)) : Ev (evalC E gl (.exit i) s st) Q := ⟨_, rfl, h⟩
theorem ev_cond {x : Opd} {a b : C} {t : Bool} {Q : Res → Prop} (hx : x.ev gl s = .bool t) (h : Ev (evalC E gl (if t then a else b) s st) Q) : Ev (evalC E gl (.cond x a b) s st) Q := by
  obtain ⟨r, h1, h2⟩ := h
  exact ⟨r, evalC_cond.2 ⟨t, hx, h1⟩, h2⟩
/-- Out of a block. -/
def Out (id : Nat) (Q : Res → Prop) (r : Res) : Prop :=
  match r.ex with
  | .exit i => if i = id then Q { r with ex := .normal } else Q r
  | _ => Q r
theorem ev_block {id : Nat} {a : C} {Q : Res → Prop} (h : Ev (evalC E gl a s st) (Out id Q)) : Ev (evalC E gl (.block id a) s st) Q := by
  obtain ⟨r, h1, h2⟩ := h
  unfold Out at h2
  cases hx : r.ex with
  | normal => rw [hx] at h2; exact ⟨r, by simp only [evalC, h1, Option.bind_some, hx], h2⟩
  | ret => rw [hx] at h2; exact ⟨r, by simp only [evalC, h1, Option.bind_some, hx], h2⟩
  | exit i =>
    rw [hx] at h2
    simp only [] at h2
    by_cases hi : i = id
    · rw [if_pos hi] at h2; exact ⟨_, by simp only [evalC, h1, Option.bind_some, hx]; rw [if_pos hi], h2⟩
    · rw [if_neg hi] at h2; exact ⟨r, by simp only [evalC, h1, Option.bind_some, hx]; rw [if_neg hi], h2⟩
theorem ev_loop {a : C} {Q : Res → Prop} (h : Ev (E (.loop a s st)) Q) : Ev (evalC E gl (.loop a) s st) Q := h
/-- One more round. -/
def Again (prog : FuncId → Option CFunc) (gl : Nat → List PV) (a : C) (Q : Res → Prop) (r : Res) : Prop :=
  match r.ex with
  | .normal => Ev (EE prog gl (.loop a r.s r.st)) Q
  | _ => Q r
theorem ev_round {a : C} {Q : Res → Prop} (h : Ev (evalC (EE prog gl) gl a s st) (Again prog gl a Q)) : Ev (EE prog gl (.loop a s st)) Q := by
  obtain ⟨r, h1, h2⟩ := h
  rw [EE_eq]
  unfold Again at h2
  cases hx : r.ex with
  | normal =>
    rw [hx] at h2
    obtain ⟨r', h3, h4⟩ := h2
    exact ⟨r', by simp only [stepE, h1, Option.bind_some, hx]; exact h3, h4⟩
  | exit i => rw [hx] at h2; exact ⟨r, by simp only [stepE, h1, Option.bind_some, hx], h2⟩
  | ret => rw [hx] at h2; exact ⟨r, by simp only [stepE, h1, Option.bind_some, hx], h2⟩

/-! ### calls -/
/-- A call's answer. -/
def Ans (prog : FuncId → Option CFunc) (gl : Nat → List PV) (f : FuncId) (args : List PV) (st : Store) (v : PV) (st' : Store) : Prop :=
  EE prog gl (.call f args st) = some (Res.mk .ret v (fun _ => .undef) st')
def argS (args : List PV) : Slots := fun k => (args[k]?).getD .undef
/-- What is left, where the store is the caller's again. -/
def Left1 (keep : Bool) (res : List CRes) (st : Store) (v : PV) (r : Res) : Prop :=
  (r.ex = .normal ∨ r.ex = .ret) ∧ r.st = st ∧ ∃ vs, resL r.s r.st res = some vs ∧ frz3 keep r.st (one vs) = some (v, r.st)
theorem ans_of {f : FuncId} {cf : CFunc} {args : List PV} (hf : prog f = some cf) (hn : args.length = cf.np) (hx : cf.ext = none) (h : Ev (evalC (EE prog gl) gl cf.code (argS args) st) (Left1 cf.keepNil cf.res st v)) : Ans prog gl f args st v st := by
  obtain ⟨r, h1, h2, h3, vs, h4, h5⟩ := h
  unfold Ans
  rw [EE_eq]
  have hl : leave cf.keepNil cf.res st r = some (Res.mk .ret v (fun _ => .undef) st) := by
    simp only [leave, h4, Option.bind_some, h5]
    subst h3
    split <;> simp
  have h1' : evalC (EE prog gl) gl cf.code (fun k => (args[k]?).getD .undef) st = some r := h1
  simp only [stepE, hf, Option.bind_some, hn, if_true, hx, h1']
  rcases h2 with h2 | h2 <;> rw [h2] <;> exact hl
theorem op_call {f : FuncId} {args : List Opd} {as : List PV} {st1 : Store} (h1 : frzA false st (args.map (·.ev gl s)) = some (as, st1)) (h2 : Ans prog gl f as st1 v st') : evalOp (EE prog gl) gl s st (.callf f args) = some (v, st') := by
  unfold Ans at h2
  simp only [evalOp, h1, Option.bind_some, h2]
/-- A slot that is known may be written again. -/
theorem upd_self {t : Nat} (h : s t = v) : s = upd s t v := by
  funext k
  simp only [upd]
  by_cases hk : k = t
  · rw [if_pos hk, hk, h]
  · rw [if_neg hk]

/-! ### operations whose outcome hangs on a number -/
theorem op_bin {op : BinOp} {x y : Opd} {a b : PV} (h1 : x.ev gl s = a) (h2 : y.ev gl s = b) (h : binE op a b = some v) : evalOp E gl s st (.bin op x y) = some (v, st) := by
  simp only [evalOp, h1, h2, h, Option.bind_some]
theorem bin_shl {k k' : IntKind} {a b : Int} (h : 0 ≤ b) : binE .shl (.int k a) (.int k' b) = some (.int k (k.wrap (a * 2 ^ (min b.toNat k.bits)))) := by
  simp only [binE]; rw [if_neg (by omega)]
theorem bin_shr {k k' : IntKind} {a b : Int} (h : 0 ≤ b) : binE .shr (.int k a) (.int k' b) = some (.int k (a.fdiv (2 ^ (min b.toNat k.bits)))) := by
  simp only [binE]; rw [if_neg (by omega)]
theorem op_ixaa {n size : Nat} {x i : Opd} {cs : List PV} {k : IntKind} {m : Int} (h1 : x.ev gl s = .pf cs) (h2 : i.ev gl s = .int k m) (h : 0 ≤ m ∧ m < n) : evalOp E gl s st (.ixaa n size x i) = some (.pf (cs.drop (m.toNat * size)), st) := by
  simp only [evalOp, h1, h2, idx]; rw [if_pos h]; rfl
theorem op_ixa {size : Nat} {x i : Opd} {es : List (List PV)} {e : List PV} {k : IntKind} {m : Int} (h1 : x.ev gl s = .sl es) (h2 : i.ev gl s = .int k m) (h : 0 ≤ m) (he : es[m.toNat]? = some e) (hs : e.length = size) : evalOp E gl s st (.ixa size x i) = some (.pf e, st) := by
  have hlt : m < (es.length : Int) := by have := (List.getElem?_eq_some_iff.1 he).1; omega
  simp only [evalOp, h1, h2, idx]; rw [if_pos ⟨h, hlt⟩]; simp only [Option.bind_some, he]; rw [if_pos hs]
theorem op_ixs {x i : Opd} {l : List UInt8} {b : UInt8} {k : IntKind} {m : Int} (h1 : x.ev gl s = .str l) (h2 : i.ev gl s = .int k m) (h : 0 ≤ m) (he : l[m.toNat]? = some b) : evalOp E gl s st (.ixs x i) = some (.int .u8 b.toNat, st) := by
  have hlt : m < (l.length : Int) := by have := (List.getElem?_eq_some_iff.1 he).1; omega
  simp only [evalOp, h1, h2, idx]; rw [if_pos ⟨h, hlt⟩]; simp only [Option.bind_some, he]
end
end Go.Vs
