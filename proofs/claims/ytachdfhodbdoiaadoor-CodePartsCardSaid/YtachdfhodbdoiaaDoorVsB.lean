/-
  The evaluator's limit: with more rounds the same answer; what the limit answers, it answers by its own equation. Under no condition.
-/
import Derived.Test.YtachdfhodbdoiaaDoorVsA
namespace Go.Vs
open Go
noncomputable section
open Classical

def LeE (E E' : Req → Option Res) : Prop := ∀ q r, E q = some r → E' q = some r

theorem bind_some {α β : Type _} {x : Option α} {f : α → Option β} {b : β} (h : x.bind f = some b) : ∃ a, x = some a ∧ f a = some b := by
  cases x with
  | none => cases h
  | some a => exact ⟨a, rfl, h⟩

variable {E E' : Req → Option Res} {gl : Nat → List PV}

theorem evalOp_mono (h : LeE E E') {s : Slots} {st : Store} {o : COp} {x : PV × Store} (he : evalOp E gl s st o = some x) : evalOp E' gl s st o = some x := by
  cases o with
  | callf f args =>
    simp only [evalOp] at he ⊢
    obtain ⟨⟨as, st'⟩, h1, h2⟩ := bind_some he
    obtain ⟨r, h3, h4⟩ := bind_some h2
    rw [h1]; simp only [Option.bind_some]; rw [h _ _ h3]; exact h4
  | callv y args =>
    simp only [evalOp] at he ⊢
    cases hy : y.ev gl s <;> rw [hy] at he <;> simp only [] at he ⊢ <;> try (exact absurd he (by simp))
    obtain ⟨⟨as, st'⟩, h1, h2⟩ := bind_some he
    obtain ⟨r, h3, h4⟩ := bind_some h2
    rw [h1]; simp only [Option.bind_some]; rw [h _ _ h3]; exact h4
  | _ => exact he

theorem evalOps_mono (h : LeE E E') : ∀ (ops : List CInstr) (s : Slots) (st : Store) (x : Slots × Store), evalOps E gl ops s st = some x → evalOps E' gl ops s st = some x
  | [], _, _, _, he => he
  | o :: r, s, st, x, he => by
    simp only [evalOps] at he ⊢
    obtain ⟨b, h1, h2⟩ := bind_some he
    rw [h1]; simp only [Option.bind_some]
    cases b with
    | true =>
      simp only [if_true] at h2 ⊢
      obtain ⟨⟨v, st'⟩, h3, h4⟩ := bind_some h2
      rw [evalOp_mono h h3]; exact evalOps_mono h r _ _ _ h4
    | false => exact evalOps_mono h r _ _ _ h2

theorem outD_mono (h : LeE E E') {o : Bool × CInstr} {s : Slots} {st : Store} {x : PV × Store} (he : outD E gl o s st = some x) : outD E' gl o s st = some x := by
  unfold outD at he ⊢
  obtain ⟨b, h1, h2⟩ := bind_some he
  rw [h1]; simp only [Option.bind_some]
  cases b with
  | true =>
    simp only [if_true] at h2 ⊢
    obtain ⟨⟨v, st'⟩, h3, h4⟩ := bind_some h2
    rw [evalOp_mono h h3]; exact h4
  | false => exact h2

theorem evalD_mono (h : LeE E E') : ∀ (ops : List (Bool × CInstr)) (s : Slots) (st : Store) (x : Slots × Store), evalD E gl ops s st = some x → evalD E' gl ops s st = some x
  | [], _, _, _, he => he
  | o :: r, s, st, x, he => by
    simp only [evalD] at he ⊢
    obtain ⟨⟨v, st'⟩, h1, h2⟩ := bind_some he
    rw [outD_mono h h1]; exact evalD_mono h r _ _ _ h2

theorem evalC_cond {c : Opd} {a b : C} {s : Slots} {st : Store} {x : Res} : evalC E gl (.cond c a b) s st = some x ↔ ∃ t, c.ev gl s = .bool t ∧ evalC E gl (if t then a else b) s st = some x := by
  constructor
  · intro he
    rw [evalC.eq_def] at he
    cases hc : c.ev gl s with
    | bool t =>
      cases t
      · exact ⟨false, rfl, by simpa [hc] using he⟩
      · exact ⟨true, rfl, by simpa [hc] using he⟩
    | _ => simp [hc] at he
  · rintro ⟨t, ht, he⟩
    rw [evalC.eq_def]
    cases t <;> simpa [ht] using he

theorem evalC_mono (h : LeE E E') : ∀ (c : C) (s : Slots) (st : Store) (x : Res), evalC E gl c s st = some x → evalC E' gl c s st = some x
  | .skip, _, _, _, he => he
  | .region ops, s, st, x, he => by
    simp only [evalC] at he ⊢
    obtain ⟨⟨s', st'⟩, h1, h2⟩ := bind_some he
    rw [evalOps_mono h _ _ _ _ h1]; exact h2
  | .draw ops, s, st, x, he => by
    simp only [evalC] at he ⊢
    obtain ⟨⟨s', st'⟩, h1, h2⟩ := bind_some he
    rw [evalD_mono h _ _ _ _ h1]; exact h2
  | .seq a b, s, st, x, he => by
    simp only [evalC] at he ⊢
    obtain ⟨r, h1, h2⟩ := bind_some he
    rw [evalC_mono h a _ _ _ h1]; simp only [Option.bind_some]
    cases hx : r.ex <;> rw [hx] at h2 <;> simp only [] at h2 ⊢
    · exact evalC_mono h b _ _ _ h2
    · exact h2
    · exact h2
  | .cond c a b, s, st, x, he => by
    obtain ⟨t, ht, he⟩ := evalC_cond.1 he
    refine evalC_cond.2 ⟨t, ht, ?_⟩
    cases t
    · exact evalC_mono h b _ _ _ he
    · exact evalC_mono h a _ _ _ he
  | .block id c, s, st, x, he => by
    simp only [evalC] at he ⊢
    obtain ⟨r, h1, h2⟩ := bind_some he
    rw [evalC_mono h c _ _ _ h1]; exact h2
  | .loop c, s, st, x, he => h _ _ he
  | .exit _, _, _, _, he => he
  | .ret, _, _, _, he => he
  | .stuck, _, _, _, he => he

variable {prog : FuncId → Option CFunc}

theorem stepE_mono (h : LeE E E') : LeE (stepE prog gl E) (stepE prog gl E') := by
  intro q r he
  cases q with
  | call f args st =>
    simp only [stepE] at he ⊢
    obtain ⟨cf, h1, h2⟩ := bind_some he
    rw [h1]; simp only [Option.bind_some]
    by_cases hn : args.length = cf.np
    · rw [if_pos hn] at h2 ⊢
      cases hx : cf.ext with
      | some e => rw [hx] at h2; exact h2
      | none =>
        rw [hx] at h2; simp only [] at h2 ⊢
        obtain ⟨r', h3, h4⟩ := bind_some h2
        rw [evalC_mono h _ _ _ _ h3]; exact h4
    · rw [if_neg hn] at h2; cases h2
  | loop c s st =>
    simp only [stepE] at he ⊢
    obtain ⟨r', h3, h4⟩ := bind_some he
    rw [evalC_mono h _ _ _ _ h3]; simp only [Option.bind_some]
    cases hx : r'.ex <;> rw [hx] at h4 <;> simp only [] at h4 ⊢
    · exact h _ _ h4
    · exact h4
    · exact h4

theorem En_succ : ∀ n, LeE (En prog gl n) (En prog gl (n + 1))
  | 0 => fun _ _ h => by simp [En] at h
  | n + 1 => stepE_mono (En_succ n)
theorem En_le {n m : Nat} (h : n ≤ m) : LeE (En prog gl n) (En prog gl m) := by
  induction h with
  | refl => exact fun _ _ h => h
  | step _ ih => exact fun q r h => En_succ _ q r (ih q r h)

theorem EE_of {n : Nat} {q : Req} {r : Res} (h : En prog gl n q = some r) : EE prog gl q = some r := by
  have hx : ∃ n r, En prog gl n q = some r := ⟨n, r, h⟩
  unfold EE
  rw [dif_pos hx]
  have hs := Classical.choose_spec (Classical.choose_spec hx)
  congr 1
  have h1 := En_le (Nat.le_max_left n (Classical.choose hx)) q r h
  have h2 := En_le (Nat.le_max_right n (Classical.choose hx)) q _ hs
  rw [h1] at h2
  exact (Option.some.inj h2).symm
theorem EE_some {q : Req} {r : Res} (h : EE prog gl q = some r) : ∃ n, En prog gl n q = some r := by
  unfold EE at h
  by_cases hx : ∃ n r, En prog gl n q = some r
  · rw [dif_pos hx] at h
    exact ⟨_, (Classical.choose_spec (Classical.choose_spec hx)).trans h⟩
  · rw [dif_neg hx] at h; cases h

/-- A chain of evaluators, each below the next, and one that answers just what one of them answers. -/
structure Lim (F : Nat → Req → Option Res) (E : Req → Option Res) : Prop where
  le : ∀ {n m}, n ≤ m → LeE (F n) (F m)
  some : ∀ q r, E q = .some r → ∃ n, F n q = .some r

variable {F : Nat → Req → Option Res}

theorem evalOp_lim (L : Lim F E) {s : Slots} {st : Store} {o : COp} {x : PV × Store} (he : evalOp E gl s st o = some x) : ∃ n, evalOp (F n) gl s st o = some x := by
  cases o with
  | callf f args =>
    simp only [evalOp] at he ⊢
    obtain ⟨⟨as, st'⟩, h1, h2⟩ := bind_some he
    obtain ⟨r, h3, h4⟩ := bind_some h2
    obtain ⟨n, hn⟩ := L.some _ _ h3
    exact ⟨n, by rw [h1]; simp only [Option.bind_some]; rw [hn]; exact h4⟩
  | callv y args =>
    simp only [evalOp] at he ⊢
    cases hy : y.ev gl s <;> rw [hy] at he <;> simp only [] at he ⊢ <;> try (exact absurd he (by simp))
    obtain ⟨⟨as, st'⟩, h1, h2⟩ := bind_some he
    obtain ⟨r, h3, h4⟩ := bind_some h2
    obtain ⟨n, hn⟩ := L.some _ _ h3
    exact ⟨n, by rw [h1]; simp only [Option.bind_some]; rw [hn]; exact h4⟩
  | _ => exact ⟨0, he⟩

theorem evalOps_lim (L : Lim F E) : ∀ (ops : List CInstr) (s : Slots) (st : Store) (x : Slots × Store), evalOps E gl ops s st = some x → ∃ n, evalOps (F n) gl ops s st = some x
  | [], _, _, _, he => ⟨0, he⟩
  | o :: r, s, st, x, he => by
    simp only [evalOps] at he ⊢
    obtain ⟨b, h1, h2⟩ := bind_some he
    rw [h1]; simp only [Option.bind_some]
    cases b with
    | true =>
      simp only [if_true] at h2 ⊢
      obtain ⟨⟨v, st'⟩, h3, h4⟩ := bind_some h2
      obtain ⟨n, hn⟩ := evalOp_lim L h3
      obtain ⟨m, hm⟩ := evalOps_lim L r _ _ _ h4
      refine ⟨max n m, ?_⟩
      rw [evalOp_mono (L.le (Nat.le_max_left n m)) hn]
      exact evalOps_mono (L.le (Nat.le_max_right n m)) r _ _ _ hm
    | false => exact evalOps_lim L r _ _ _ h2

theorem outD_lim (L : Lim F E) {o : Bool × CInstr} {s : Slots} {st : Store} {x : PV × Store} (he : outD E gl o s st = some x) : ∃ n, outD (F n) gl o s st = some x := by
  unfold outD at he ⊢
  obtain ⟨b, h1, h2⟩ := bind_some he
  rw [h1]; simp only [Option.bind_some]
  cases b with
  | true =>
    simp only [if_true] at h2 ⊢
    obtain ⟨⟨v, st'⟩, h3, h4⟩ := bind_some h2
    obtain ⟨n, hn⟩ := evalOp_lim L h3
    exact ⟨n, by rw [hn]; exact h4⟩
  | false => exact ⟨0, h2⟩

theorem evalD_lim (L : Lim F E) : ∀ (ops : List (Bool × CInstr)) (s : Slots) (st : Store) (x : Slots × Store), evalD E gl ops s st = some x → ∃ n, evalD (F n) gl ops s st = some x
  | [], _, _, _, he => ⟨0, he⟩
  | o :: r, s, st, x, he => by
    simp only [evalD] at he ⊢
    obtain ⟨⟨v, st'⟩, h1, h2⟩ := bind_some he
    obtain ⟨n, hn⟩ := outD_lim L h1
    obtain ⟨m, hm⟩ := evalD_lim L r _ _ _ h2
    refine ⟨max n m, ?_⟩
    rw [outD_mono (L.le (Nat.le_max_left n m)) hn]
    exact evalD_mono (L.le (Nat.le_max_right n m)) r _ _ _ hm

theorem evalC_lim (L : Lim F E) : ∀ (c : C) (s : Slots) (st : Store) (x : Res), evalC E gl c s st = some x → ∃ n, evalC (F n) gl c s st = some x
  | .skip, _, _, _, he => ⟨0, he⟩
  | .region ops, s, st, x, he => by
    simp only [evalC] at he ⊢
    obtain ⟨⟨s', st'⟩, h1, h2⟩ := bind_some he
    obtain ⟨n, hn⟩ := evalOps_lim L _ _ _ _ h1
    exact ⟨n, by rw [hn]; exact h2⟩
  | .draw ops, s, st, x, he => by
    simp only [evalC] at he ⊢
    obtain ⟨⟨s', st'⟩, h1, h2⟩ := bind_some he
    obtain ⟨n, hn⟩ := evalD_lim L _ _ _ _ h1
    exact ⟨n, by rw [hn]; exact h2⟩
  | .seq a b, s, st, x, he => by
    simp only [evalC] at he ⊢
    obtain ⟨r, h1, h2⟩ := bind_some he
    obtain ⟨n, hn⟩ := evalC_lim L a _ _ _ h1
    cases hx : r.ex with
    | normal =>
      rw [hx] at h2; simp only [] at h2
      obtain ⟨m, hm⟩ := evalC_lim L b _ _ _ h2
      refine ⟨max n m, ?_⟩
      rw [evalC_mono (L.le (Nat.le_max_left n m)) _ _ _ _ hn]; simp only [Option.bind_some, hx]
      exact evalC_mono (L.le (Nat.le_max_right n m)) _ _ _ _ hm
    | exit id => rw [hx] at h2; exact ⟨n, by rw [hn]; simp only [Option.bind_some, hx]; exact h2⟩
    | ret => rw [hx] at h2; exact ⟨n, by rw [hn]; simp only [Option.bind_some, hx]; exact h2⟩
  | .cond c a b, s, st, x, he => by
    obtain ⟨t, ht, he⟩ := evalC_cond.1 he
    cases t
    · obtain ⟨n, hn⟩ := evalC_lim L b _ _ _ he
      exact ⟨n, evalC_cond.2 ⟨false, ht, hn⟩⟩
    · obtain ⟨n, hn⟩ := evalC_lim L a _ _ _ he
      exact ⟨n, evalC_cond.2 ⟨true, ht, hn⟩⟩
  | .block id c, s, st, x, he => by
    simp only [evalC] at he ⊢
    obtain ⟨r, h1, h2⟩ := bind_some he
    obtain ⟨n, hn⟩ := evalC_lim L c _ _ _ h1
    exact ⟨n, by rw [hn]; exact h2⟩
  | .loop c, s, st, x, he => by
    obtain ⟨n, hn⟩ := L.some _ _ he
    exact ⟨n, hn⟩
  | .exit _, _, _, _, he => ⟨0, he⟩
  | .ret, _, _, _, he => ⟨0, he⟩
  | .stuck, _, _, _, he => ⟨0, he⟩

theorem stepE_lim (L : Lim F E) {q : Req} {r : Res} (he : stepE prog gl E q = some r) : ∃ n, stepE prog gl (F n) q = some r := by
  cases q with
  | call f args st =>
    simp only [stepE] at he ⊢
    obtain ⟨cf, h1, h2⟩ := bind_some he
    rw [h1]; simp only [Option.bind_some]
    by_cases hn : args.length = cf.np
    · rw [if_pos hn] at h2
      cases hx : cf.ext with
      | some e => rw [hx] at h2; exact ⟨0, by rw [if_pos hn]; exact h2⟩
      | none =>
        rw [hx] at h2; simp only [] at h2 ⊢
        obtain ⟨r', h3, h4⟩ := bind_some h2
        obtain ⟨n, hn'⟩ := evalC_lim L _ _ _ _ h3
        exact ⟨n, by rw [if_pos hn, hn']; exact h4⟩
    · rw [if_neg hn] at h2; cases h2
  | loop c s st =>
    simp only [stepE] at he ⊢
    obtain ⟨r', h3, h4⟩ := bind_some he
    obtain ⟨n, hn⟩ := evalC_lim L _ _ _ _ h3
    cases hx : r'.ex with
    | normal =>
      rw [hx] at h4; simp only [] at h4
      obtain ⟨m, hm⟩ := L.some _ _ h4
      refine ⟨max n m, ?_⟩
      rw [evalC_mono (L.le (Nat.le_max_left n m)) _ _ _ _ hn]; simp only [Option.bind_some, hx]
      exact L.le (Nat.le_max_right n m) _ _ hm
    | exit id => rw [hx] at h4; exact ⟨n, by rw [hn]; simp only [Option.bind_some, hx]; exact h4⟩
    | ret => rw [hx] at h4; exact ⟨n, by rw [hn]; simp only [Option.bind_some, hx]; exact h4⟩

theorem EE_lim : Lim (En prog gl) (EE prog gl) := ⟨fun h => En_le h, fun _ _ h => EE_some h⟩

/-- The limit's own equation. -/
theorem EE_eq (q : Req) : EE prog gl q = stepE prog gl (EE prog gl) q := by
  cases h : stepE prog gl (EE prog gl) q with
  | some r =>
    obtain ⟨n, hn⟩ := stepE_lim EE_lim h
    exact EE_of (n := n + 1) hn
  | none =>
    cases h2 : EE prog gl q with
    | none => rfl
    | some r =>
      obtain ⟨n, hn⟩ := EE_some h2
      cases n with
      | zero => simp [En] at hn
      | succ n =>
        have := stepE_mono (E := En prog gl n) (E' := EE prog gl) (fun _ _ h => EE_of h) q r hn
        rw [h] at this; cases this

end
end Go.Vs
