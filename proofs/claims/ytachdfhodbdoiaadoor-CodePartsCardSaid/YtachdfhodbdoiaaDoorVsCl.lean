/-
  A twin of the evaluator that Lean's kernel can run: for calls whose arguments are literals. Under no condition.
-/
import Derived.Test.YtachdfhodbdoiaaDoorVsS
namespace Go.Vs
open Go

/-! ### equality of pure values, with fuel -/
def eqL {α : Type} (f : α → α → Bool) : List α → List α → Bool
  | [], [] => true
  | a :: r, b :: r' => f a b && eqL f r r'
  | _, _ => false
theorem eqL_eq {α : Type} {f : α → α → Bool} (hf : ∀ a b, f a b = true → a = b) : ∀ {l l' : List α}, eqL f l l' = true → l = l'
  | [], [], _ => rfl
  | a :: r, b :: r', h => by
    simp only [eqL, Bool.and_eq_true] at h
    rw [hf a b h.1, eqL_eq hf h.2]
  | [], _ :: _, h => by simp [eqL] at h
  | _ :: _, [], h => by simp [eqL] at h
def eqKind : IntKind → IntKind → Bool := fun a b => decide (a = b)
def eqP : Nat → PV → PV → Bool
  | 0, _, _ => false
  | n + 1, a, b => match a, b with
    | .undef, .undef => true
    | .bool x, .bool y => x == y
    | .int k x, .int k' y => decide (k = k') && decide (x = y)
    | .str x, .str y => decide (x = y)
    | .nilp, .nilp => true
    | .ptr a b c d, .ptr a' b' c' d' => (a == a') && ((b == b') && ((c == c') && (d == d')))
    | .pf x, .pf y => eqL (eqP n) x y
    | .nilsl, .nilsl => true
    | .sl x, .sl y => eqL (eqL (eqP n)) x y
    | .row a b, .row a' b' => (a == a') && (b == b')
    | .arr a b c, .arr a' b' c' => (a == a') && ((b == b') && (c == c'))
    | .fn f x, .fn g y => (f == g) && eqL (eqP n) x y
    | .nilif, .nilif => true
    | .iface t x, .iface u y => (t == u) && eqP n x y
    | .agg x, .agg y => eqL (eqP n) x y
    | .tup x, .tup y => eqL (eqP n) x y
    | _, _ => false
theorem eqP_eq : ∀ (n : Nat) (a b : PV), eqP n a b = true → a = b
  | 0, _, _, h => by simp [eqP] at h
  | n + 1, a, b, h => by
    have ih := eqP_eq n
    unfold eqP at h
    split at h <;> first
      | rfl
      | (simp only [Bool.and_eq_true, beq_iff_eq, decide_eq_true_eq] at h; first
          | (obtain ⟨h1, h2, h3, h4⟩ := h; subst h1; subst h2; subst h3; subst h4; rfl)
          | (obtain ⟨h1, h2, h3⟩ := h; subst h1; subst h2; subst h3; rfl)
          | (obtain ⟨h1, h2⟩ := h; subst h1; subst h2; rfl)
          | (obtain ⟨h1, h2⟩ := h; subst h1; rw [eqL_eq ih h2])
          | (obtain ⟨h1, h2⟩ := h; subst h1; rw [ih _ _ h2])
          | (subst h; rfl))
      | (rw [eqL_eq ih h])
      | (rw [eqL_eq (fun _ _ => eqL_eq ih) h])
      | (cases h)

def eqB (n : Nat) (B B' : Box) : Bool := eqL (eqL (eqP n)) B'.es B.es && ((B'.isRow == B.isRow) && ((B'.size == B.size) && (B'.e == B.e)))
/-- Of each of the first boxes: still there, and the same. -/
def keepsB (n : Nat) : Store → Store → Bool
  | [], _ => true
  | B :: r, B' :: r' => eqB n B B' && keepsB n r r'
  | _ :: _, [] => false
theorem keepsB_ok {n : Nat} : ∀ {st st' : Store}, keepsB n st st' = true → keepsE st st'
  | [], _, _ => fun id B h => by simp at h
  | B :: r, B' :: r', h => by
    simp only [keepsB, Bool.and_eq_true] at h
    have h2 := keepsB_ok h.2
    intro id C hC
    cases id with
    | zero =>
      simp only [List.getElem?_cons_zero, Option.some.injEq] at hC
      subst hC
      refine ⟨B', rfl, ?_⟩
      have h1 := h.1
      simp only [eqB, Bool.and_eq_true, beq_iff_eq] at h1
      exact ⟨eqL_eq (fun _ _ => eqL_eq (eqP_eq n)) h1.1, h1.2.1, h1.2.2.1, h1.2.2.2⟩
    | succ id => exact h2 id C (by simpa using hC)
  | _ :: _, [], h => by simp [keepsB] at h

def refsB (n : Nat) (B : Box) : Bool := B.es.all fun e => e.all (ref1 n)
/-- Whatever stood is there, and names nothing new. -/
def gcB (n : Nat) : Nat → Store → Bool
  | 0, _ => true
  | _ + 1, [] => false
  | m + 1, B :: r => refsB n B && gcB n m r
theorem gcB_ok {n : Nat} : ∀ {m : Nat} {st' : Store}, gcB n m st' = true → m ≤ st'.length ∧ ∀ id, id < m → ∀ B, st'[id]? = some B → ∀ e ∈ B.es, ∀ c ∈ e, ref1 n c = true
  | 0, _, _ => ⟨Nat.zero_le _, fun id h => absurd h (by omega)⟩
  | _ + 1, [], h => by simp [gcB] at h
  | m + 1, B :: r, h => by
    simp only [gcB, Bool.and_eq_true] at h
    obtain ⟨h1, h2⟩ := gcB_ok h.2
    refine ⟨by simp; omega, fun id hid C hC => ?_⟩
    cases id with
    | zero =>
      simp only [List.getElem?_cons_zero, Option.some.injEq] at hC
      subst hC
      intro e he c hc
      exact List.all_eq_true.1 (List.all_eq_true.1 h.1 e he) c hc
    | succ id => exact h2 id (by omega) C (by simpa using hC)

noncomputable section
variable {E E' : Req → Option Res} {gl : Nat → List PV} {prog : FuncId → Option CFunc}

def outDB (E : Req → Option Res) (gl : Nat → List PV) (o : Bool × CInstr) (s : Slots) (st : Store) : Option (PV × Store) :=
  (wantedE s o.2.guard).bind fun b =>
    if b then (evalOp E gl s st o.2.op).bind fun (v, st') => match o.1 with
      | true => if keepsB 9 st st' then some (v, st') else none
      | false => some (v, st')
    else some (.tup [], st)
def evalDB (E : Req → Option Res) (gl : Nat → List PV) : List (Bool × CInstr) → Slots → Store → Option (Slots × Store)
  | [], s, st => some (s, st)
  | o :: r, s, st => (outDB E gl o s st).bind fun (v, st') => evalDB E gl r (updO s o.2.dst v) st'
def evalCB (E : Req → Option Res) (gl : Nat → List PV) : C → Slots → Store → Option Res
  | .skip, s, st => some (Res.mk .normal .undef s st)
  | .region ops, s, st => (evalOps E gl ops s st).bind fun (s', st') => some (Res.mk .normal .undef s' st')
  | .draw ops, s, st => (evalDB E gl ops s st).bind fun (s', st') => some (Res.mk .normal .undef s' st')
  | .seq a b, s, st => (evalCB E gl a s st).bind fun r => match r.ex with
    | .normal => evalCB E gl b r.s r.st
    | _ => some r
  | .cond c a b, s, st => match c.ev gl s with
    | .bool true => evalCB E gl a s st
    | .bool false => evalCB E gl b s st
    | _ => none
  | .block id c, s, st => (evalCB E gl c s st).bind fun r => match r.ex with
    | .exit id' => if id' = id then some { r with ex := .normal } else some r
    | _ => some r
  | .loop c, s, st => E (.loop c s st)
  | .exit id, s, st => some (Res.mk (.exit id) .undef s st)
  | .ret, s, st => some (Res.mk .ret .undef s st)
  | .stuck, _, _ => none

theorem outDB_ok {o : Bool × CInstr} {s : Slots} {st : Store} {x : PV × Store} (h : outDB E gl o s st = some x) : outD E gl o s st = some x := by
  unfold outDB at h
  unfold outD
  obtain ⟨b, h1, h2⟩ := bind_some h
  rw [h1]; simp only [Option.bind_some]
  cases b with
  | false => exact h2
  | true =>
    simp only [if_true] at h2 ⊢
    obtain ⟨⟨v, st'⟩, h3, h4⟩ := bind_some h2
    rw [h3]; simp only [Option.bind_some]
    cases ho : o.1 with
    | false => rw [ho] at h4; rw [if_pos (fun h => by cases h)]; exact h4
    | true =>
      rw [ho] at h4
      simp only [] at h4
      split at h4
      · rename_i hk
        rw [if_pos (fun _ => keepsB_ok hk)]; exact h4
      · cases h4
theorem evalDB_ok : ∀ {ops : List (Bool × CInstr)} {s : Slots} {st : Store} {x : Slots × Store}, evalDB E gl ops s st = some x → evalD E gl ops s st = some x
  | [], _, _, _, h => h
  | o :: r, s, st, x, h => by
    simp only [evalDB] at h
    simp only [evalD]
    obtain ⟨⟨v, st'⟩, h1, h2⟩ := bind_some h
    rw [outDB_ok h1]; exact evalDB_ok h2
theorem evalCB_ok : ∀ {c : C} {s : Slots} {st : Store} {x : Res}, evalCB E gl c s st = some x → evalC E gl c s st = some x
  | .skip, _, _, _, h => h
  | .region ops, s, st, x, h => h
  | .draw ops, s, st, x, h => by
    simp only [evalCB] at h
    simp only [evalC]
    obtain ⟨⟨s', st'⟩, h1, h2⟩ := bind_some h
    rw [evalDB_ok h1]; exact h2
  | .seq a b, s, st, x, h => by
    simp only [evalCB] at h
    simp only [evalC]
    obtain ⟨r, h1, h2⟩ := bind_some h
    rw [evalCB_ok h1]; simp only [Option.bind_some]
    cases hx : r.ex <;> rw [hx] at h2 <;> simp only [] at h2 ⊢
    · exact evalCB_ok h2
    · exact h2
    · exact h2
  | .cond c a b, s, st, x, h => by
    rw [evalCB.eq_def] at h
    cases hc : c.ev gl s with
    | bool t =>
      cases t
      · exact evalC_cond.2 ⟨false, hc, evalCB_ok (c := b) (by simpa [hc] using h)⟩
      · exact evalC_cond.2 ⟨true, hc, evalCB_ok (c := a) (by simpa [hc] using h)⟩
    | _ => simp [hc] at h
  | .block id c, s, st, x, h => by
    simp only [evalCB] at h
    simp only [evalC]
    obtain ⟨r, h1, h2⟩ := bind_some h
    rw [evalCB_ok h1]; exact h2
  | .loop c, s, st, x, h => h
  | .exit _, _, _, _, h => h
  | .ret, _, _, _, h => h
  | .stuck, _, _, _, h => h

def leaveB (keep : Bool) (res : List CRes) (st0 : Store) (r : Res) : Option Res :=
  (resL r.s r.st res).bind fun vs => (frz3 keep r.st (one vs)).bind fun (v, st') =>
    match ref3 0 v with
    | true => (match gcB st0.length st0.length st' with
      | true => some (Res.mk .ret v (fun _ => .undef) (st'.take st0.length))
      | false => none)
    | false => some (Res.mk .ret v (fun _ => .undef) st')
theorem leaveB_ok {keep : Bool} {res : List CRes} {st0 : Store} {r x : Res} (h : leaveB keep res st0 r = some x) : leave keep res st0 r = some x := by
  unfold leaveB at h
  unfold leave
  obtain ⟨vs, h1, h⟩ := bind_some h
  obtain ⟨⟨v, st'⟩, h2, h⟩ := bind_some h
  rw [h1]; simp only [Option.bind_some]; rw [h2]; simp only [Option.bind_some]
  simp only [] at h
  cases hr : ref3 0 v with
  | true =>
    rw [hr] at h
    simp only [] at h
    cases hg : gcB st0.length st0.length st' with
    | true =>
      rw [hg] at h
      simp only [] at h
      obtain ⟨g1, g2⟩ := gcB_ok hg
      rw [if_pos ⟨rfl, g1, fun id hid => .inr (g2 id hid)⟩]; exact h
    | false => rw [hg] at h; cases h
  | false => rw [hr] at h; rw [if_neg (by simp)]; exact h

def stepB (prog : FuncId → Option CFunc) (gl : Nat → List PV) (E : Req → Option Res) : Req → Option Res
  | .call f args st => (prog f).bind fun cf => if args.length = cf.np then
      match cf.ext with
      | some x => (extE x args).bind fun v => some (Res.mk .ret v (fun _ => .undef) st)
      | none => (evalCB E gl cf.code (fun k => (args[k]?).getD .undef) st).bind fun r => match r.ex with
      | .exit _ => none
      | _ => leaveB cf.keepNil cf.res st r
      else none
  | .loop c s st => (evalCB E gl c s st).bind fun r => match r.ex with
    | .normal => E (.loop c r.s r.st)
    | _ => some r
theorem stepB_ok {q : Req} {r : Res} (h : stepB prog gl E q = some r) : stepE prog gl E q = some r := by
  cases q with
  | call f args st =>
    simp only [stepB] at h
    simp only [stepE]
    obtain ⟨cf, h1, h⟩ := bind_some h
    rw [h1]; simp only [Option.bind_some]
    split at h
    · rename_i hn
      rw [if_pos hn]
      cases hx : cf.ext with
      | some x => rw [hx] at h; exact h
      | none =>
        rw [hx] at h
        simp only [] at h ⊢
        obtain ⟨r1, h2, h⟩ := bind_some h
        rw [evalCB_ok h2]; simp only [Option.bind_some]
        cases hr : r1.ex with
        | normal => rw [hr] at h; exact leaveB_ok h
        | exit i => rw [hr] at h; exact h
        | ret => rw [hr] at h; exact leaveB_ok h
    · cases h
  | loop c s st =>
    simp only [stepB] at h
    simp only [stepE]
    obtain ⟨r1, h2, h⟩ := bind_some h
    rw [evalCB_ok h2]; simp only [Option.bind_some]
    exact h

def EnB (prog : FuncId → Option CFunc) (gl : Nat → List PV) : Nat → Req → Option Res
  | 0, _ => none
  | n + 1, q => stepB prog gl (EnB prog gl n) q
theorem EnB_ok : ∀ {n : Nat} {q : Req} {r : Res}, EnB prog gl n q = some r → En prog gl n q = some r
  | 0, _, _, h => by cases h
  | n + 1, q, r, h => stepE_mono (fun _ _ h => EnB_ok h) _ _ (stepB_ok h)

/-- What the kernel's run answers, and leaves. -/
def runB (prog : FuncId → Option CFunc) (gl : Nat → List PV) (n : Nat) (f : FuncId) (args : List PV) : Bool :=
  match EnB prog gl n (.call f args []) with
  | some r => match r.val with
    | .bool true => match r.st with
      | [] => (match r.ex with | .ret => true | _ => false)
      | _ => false
    | _ => false
  | none => false
end
end Go.Vs
