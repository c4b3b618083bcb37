/-
  A region in the text's order does what the evaluator says. Under no condition.
-/
import Derived.Test.YtachdfhodbdoiaaDoorVsT
namespace Go.Vs
open Go
section
variable {B0 : Nat} {P : Program} {lk lk' : Locks} {σ σ' : Sig} {st st' : Store} {w w' : World} {a : Act} {v : PV} {u : Value}
variable {gl : Nat → List PV} {N : Nat} {s : Slots} {E : Req → Option Res}

/-! ### the turning of code -/
def guardC (ops : Array Oper) : Option (Nat × Bool) → Option (Option (Nat × Bool))
  | none => some none
  | some (j, b) => (ops[j]?).bind fun o => o.dst.bind fun t => some (some (t, b))
def dstOk (N : Nat) : Option Nat → Bool
  | some d => decide (d < N)
  | none => true
/-- What is not turned is stuck. -/
def opS (P : Program) (o : Op) : COp := match opC P o with
  | some c => c
  | none => .stuck
def instrC (P : Program) (N : Nat) (ops : Array Oper) (o : Oper) : Option CInstr :=
  (guardC ops o.guard).bind fun g => if dstOk N o.dst = true then some ⟨o.dst, g, opS P o.op⟩ else none
def instrsC (P : Program) (N : Nat) (ops : Array Oper) : List Oper → Option (List CInstr)
  | [] => some []
  | o :: r => (instrC P N ops o).bind fun i => (instrsC P N ops r).bind fun is => some (i :: is)
theorem wanted_rel (hs : SlotRel lk σ N s a) {ops : Array Oper} {o : Oper} {g : Option (Nat × Bool)} (hg : guardC ops o.guard = some g) {b : Bool} (hw : wantedE s g = some b) : Region.wanted o (yielded ops a.tmps) = b := by
  unfold Region.wanted
  cases hgd : o.guard with
  | none =>
    rw [hgd] at hg
    simp only [guardC, Option.some.injEq] at hg
    subst hg
    simp only [wantedE, Option.some.injEq] at hw
    exact hw
  | some jb =>
    obtain ⟨j, want⟩ := jb
    rw [hgd] at hg
    simp only [guardC] at hg
    obtain ⟨oj, h1, hg⟩ := bind_some hg
    obtain ⟨t, h2, hg⟩ := bind_some hg
    simp only [Option.some.injEq] at hg
    subst hg
    simp only [wantedE] at hw
    cases hst : s t <;> rw [hst] at hw <;> (try (simp at hw; done))
    case tup vs =>
      simp only [Option.some.injEq] at hw
      subst hw
      have hr := hs.rel t
      rw [hst] at hr
      have hne : ∀ c, a.tmps[t]? ≠ some (.bool c) := by
        intro c hc
        rw [Array.getD_eq_getD_getElem?, hc] at hr
        simp at hr
        cases hr
      simp [yielded, h1, h2]
    rename_i c
    simp only [Option.some.injEq] at hw
    subst hw
    have hr := hs.rel t
    rw [hst] at hr
    have ht : a.tmps[t]? = some (.bool c) := by
      rw [Array.getD_eq_getD_getElem?] at hr
      cases hx : a.tmps[t]? with
      | none => rw [hx] at hr; simp [undef] at hr; cases hr
      | some x => rw [hx] at hr; simp at hr; cases hr; rfl
    simp [yielded, h1, h2, ht]

theorem ops_sound (hE : SoundCalls B0 P gl E) {ops : Array Oper} {Q : Exit → Act → World → Prop} : ∀ (l : List Oper) (cs : List CInstr) (_ : instrsC P N ops l = some cs) {s s' : Slots} {st st' : Store} {lk : Locks} {σ : Sig} {a : Act} {w : World}
    (_ : evalOps E gl cs s st = some (s', st')) (_ : SlotRel lk σ N s a) (_ : Sim B0 lk σ st w) (_ : GlobOk lk gl)
    (_ : ∀ lk' σ' a' w', SlotRel lk' σ' N s' a' → Sim B0 lk' σ' st' w' → Step lk σ st w lk' σ' st' w' → Q .normal a' w'), wpList P ops Q l a w
  | [], cs, hc, s, s', st, st', lk, σ, a, w, he, hs, hS, hg, hQ => by
    simp only [instrsC, Option.some.injEq] at hc
    subst hc
    simp only [evalOps, Option.some.injEq, Prod.mk.injEq] at he
    obtain ⟨rfl, rfl⟩ := he
    exact hQ lk σ a w hs hS Step.refl
  | o :: r, cs, hc, s, s', st, st', lk, σ, a, w, he, hs, hS, hg, hQ => by
    simp only [instrsC] at hc
    obtain ⟨i, h1, hc⟩ := bind_some hc
    obtain ⟨is, h2, hc⟩ := bind_some hc
    obtain rfl := Option.some.inj hc
    unfold instrC at h1
    obtain ⟨g, hgd, h1⟩ := bind_some h1
    split at h1
    · rename_i hd
      obtain rfl := Option.some.inj h1
      have hdd : ∀ k, o.dst = some k → k < N := fun k hk => by rw [hk] at hd; simpa [dstOk] using hd
      simp only [evalOps] at he
      obtain ⟨b, hb, he⟩ := bind_some he
      have hw := wanted_rel hs hgd hb
      unfold wpList
      rw [hw]
      cases b with
      | true =>
        simp only [if_true] at he ⊢
        obtain ⟨⟨v, st1⟩, h3, he⟩ := bind_some he
        left
        simp only [opS] at h3
        cases hco : opC P o.op with
        | none => rw [hco] at h3; cases h3
        | some co =>
        rw [hco] at h3
        refine op_sound hE hS hs hg hco h3 _ _ (fun lk' σ' u w' q1 q2 q3 => ?_)
        exact ops_sound hE r is h2 he ((hs.step q3).put q1 hdd) q2 (hg.mono q3.lks) (fun lk2 σ2 a2 w2 p1 p2 p3 => hQ lk2 σ2 a2 w2 p1 p2 (q3.trans p3))
      | false =>
        simp only [Bool.false_eq_true, if_false] at he ⊢
        exact ops_sound hE r is h2 he (hs.put (Rel.mk_tup RelL.nil) hdd) hS hg hQ
    · cases h1

end
end Go.Vs
