/-
  A function's code does what the evaluator says. Under no condition.
-/
import Derived.Test.YtachdfhodbdoiaaDoorVsU
import Derived.LoopN
namespace Go.Vs
open Go
section
variable {B0 : Nat} {P : Program} {lk lk' : Locks} {σ σ' : Sig} {st st' : Store} {w w' : World} {a : Act} {v : PV} {u : Value}
variable {gl : Nat → List PV} {N : Nat} {s : Slots} {E : Req → Option Res}

def codeC (P : Program) (N : Nat) : Code → Option C
  | .skip => some .skip
  | .region _ ops false => some (match instrsC P N ops ops.toList with | some is => .region is | none => .stuck)
  | .region _ ops true => some (if P.follows .mixedOrders = true then (match drawC P N ops with | some is => .draw is | none => .stuck) else .stuck)
  | .seq x y => (codeC P N x).bind fun a => (codeC P N y).bind fun b => some (.seq a b)
  | .cond c x y => match opdC c with
    | some c => (codeC P N x).bind fun a => (codeC P N y).bind fun b => some (.cond c a b)
    | none => some .stuck
  | .block id x => (codeC P N x).bind fun a => some (.block id a)
  | .loop x => (codeC P N x).bind fun a => some (.loop a)
  | .exit id => some (.exit id)
  | .ret => some .ret
  | _ => some .stuck

/-! ### what is reached -/
def ExRel : CEx → Exit → Prop
  | .normal, .normal => True
  | .exit i, .exit j => i = j
  | .ret, .ret => True
  | _, _ => False
def Post (B0 N : Nat) (lk : Locks) (σ : Sig) (st : Store) (w : World) (r : Res) : Exit → Act → World → Prop := fun ex a' w' =>
  ExRel r.ex ex ∧ ∃ lk' σ', SlotRel lk' σ' N r.s a' ∧ Sim B0 lk' σ' r.st w' ∧ Step lk σ st w lk' σ' r.st w'
def SoundLoops (B0 : Nat) (P : Program) (gl : Nat → List PV) (E : Req → Option Res) (n : Nat) : Prop :=
  ∀ c s st r, E (.loop c s st) = some r → ∀ N code, codeC P N code = some c → ∀ lk σ a w, SlotRel lk σ N s a → Sim B0 lk σ st w → GlobOk lk gl →
    ∀ Q : Exit → Act → World → Prop, (∀ ex a' w', Post B0 N lk σ st w r ex a' w' → Q ex a' w') → Code.rounds P code Q n a w

theorem code_sound (hE : SoundCalls B0 P gl E) {n : Nat} (hL : SoundLoops B0 P gl E n) : ∀ (code : Code) (c : C) (_ : codeC P N code = some c) {s : Slots} {st : Store} {r : Res} {lk : Locks} {σ : Sig} {a : Act} {w : World}
    (_ : evalC E gl c s st = some r) (_ : SlotRel lk σ N s a) (_ : Sim B0 lk σ st w) (_ : GlobOk lk gl) (Q : Exit → Act → World → Prop)
    (_ : ∀ ex a' w', Post B0 N lk σ st w r ex a' w' → Q ex a' w'), code.wp P Q a w
  | .skip, c, hc, s, st, r, lk, σ, a, w, he, hs, hS, hg, Q, hQ => by
    simp only [codeC, Option.some.injEq] at hc
    subst hc
    simp only [evalC, Option.some.injEq] at he
    subst he
    exact wp_skip (hQ _ _ _ ⟨trivial, lk, σ, hs, hS, Step.refl⟩)
  | .region id ops d, c, hc, s, st, r, lk, σ, a, w, he, hs, hS, hg, Q, hQ => by
    cases d with
    | true =>
      simp only [codeC, Option.some.injEq] at hc
      split at hc
      · rename_i hm
        cases h1 : drawC P N ops with
        | none => rw [h1] at hc; simp only [] at hc; subst hc; simp [evalC] at he
        | some is =>
          rw [h1] at hc
          simp only [] at hc
          subst hc
          simp only [evalC] at he
          obtain ⟨⟨s', st'⟩, h2, he⟩ := bind_some he
          obtain rfl := Option.some.inj he
          exact draw_sound hE hm h1 h2 hs hS hg (fun lk' σ' a' w' p1 p2 p3 => hQ _ _ _ ⟨trivial, lk', σ', p1, p2, p3⟩)
      · subst hc
        simp [evalC] at he
    | false =>
      simp only [codeC, Option.some.injEq] at hc
      cases h1 : instrsC P N ops ops.toList with
      | none => rw [h1] at hc; simp only [] at hc; subst hc; simp [evalC] at he
      | some is =>
        rw [h1] at hc
        simp only [] at hc
        subst hc
        simp only [evalC] at he
        obtain ⟨⟨s', st'⟩, h2, he⟩ := bind_some he
        obtain rfl := Option.some.inj he
        exact wp_region_list (ops_sound hE _ _ h1 h2 hs hS hg (fun lk' σ' a' w' p1 p2 p3 => hQ _ _ _ ⟨trivial, lk', σ', p1, p2, p3⟩))
  | .seq x y, c, hc, s, st, r, lk, σ, a, w, he, hs, hS, hg, Q, hQ => by
    simp only [codeC] at hc
    obtain ⟨cx, h1, hc⟩ := bind_some hc
    obtain ⟨cy, h2, hc⟩ := bind_some hc
    obtain rfl := Option.some.inj hc
    simp only [evalC] at he
    obtain ⟨r1, h3, he⟩ := bind_some he
    refine wp_seq (code_sound hE hL x cx h1 h3 hs hS hg _ ?_)
    rintro ex a' w' ⟨hex, lk', σ', p1, p2, p3⟩
    cases hx : r1.ex with
    | normal =>
      rw [hx] at he hex
      simp only [] at he
      cases ex <;> (try exact hex.elim)
      exact code_sound hE hL y cy h2 he p1 p2 (hg.mono p3.lks) Q (fun ex2 a2 w2 ⟨e1, lk2, σ2, q1, q2, q3⟩ => hQ _ _ _ ⟨e1, lk2, σ2, q1, q2, p3.trans q3⟩)
    | exit i =>
      rw [hx] at he
      simp only [Option.some.injEq] at he
      subst he
      have hex' := hex
      rw [hx] at hex
      cases ex <;> (try exact hex.elim)
      exact hQ _ _ _ ⟨hex', lk', σ', p1, p2, p3⟩
    | ret =>
      rw [hx] at he
      simp only [Option.some.injEq] at he
      subst he
      have hex' := hex
      rw [hx] at hex
      cases ex <;> (try exact hex.elim)
      exact hQ _ _ _ ⟨hex', lk', σ', p1, p2, p3⟩
  | .cond c0 x y, c, hc, s, st, r, lk, σ, a, w, he, hs, hS, hg, Q, hQ => by
    simp only [codeC] at hc
    cases h0 : opdC c0 with
    | none => rw [h0] at hc; simp only [Option.some.injEq] at hc; subst hc; simp [evalC] at he
    | some pc =>
    rw [h0] at hc
    simp only [] at hc
    obtain ⟨cx, h1, hc⟩ := bind_some hc
    obtain ⟨cy, h2, hc⟩ := bind_some hc
    obtain rfl := Option.some.inj hc
    obtain ⟨t, ht, he⟩ := evalC_cond.1 he
    have hr := opdC_rel hs hg h0
    rw [ht] at hr
    generalize hb : a.eval c0 = b at hr
    cases hr
    refine wp_cond hb ?_
    cases t
    · exact code_sound hE hL y cy h2 he hs hS hg Q hQ
    · exact code_sound hE hL x cx h1 he hs hS hg Q hQ
  | .block id x, c, hc, s, st, r, lk, σ, a, w, he, hs, hS, hg, Q, hQ => by
    simp only [codeC] at hc
    obtain ⟨cx, h1, hc⟩ := bind_some hc
    obtain rfl := Option.some.inj hc
    simp only [evalC] at he
    obtain ⟨r1, h3, he⟩ := bind_some he
    refine wp_block (code_sound hE hL x cx h1 h3 hs hS hg _ ?_)
    rintro ex a' w' ⟨hex, lk', σ', p1, p2, p3⟩
    cases hx : r1.ex with
    | normal =>
      rw [hx] at he
      simp only [Option.some.injEq] at he
      subst he
      have hex' := hex
      rw [hx] at hex
      cases ex <;> (try exact hex.elim)
      exact hQ _ _ _ ⟨hex', lk', σ', p1, p2, p3⟩
    | exit i =>
      rw [hx] at he
      simp only [] at he
      have hex' := hex
      rw [hx] at hex
      cases ex <;> (try exact hex.elim)
      rename_i j
      have hij : i = j := hex
      subst hij
      by_cases hi : i = id
      · rw [if_pos hi] at he
        simp only [Option.some.injEq] at he
        subst he
        simp only [Exit.inBlock, hi, if_true]
        exact hQ _ _ _ ⟨trivial, lk', σ', p1, p2, p3⟩
      · rw [if_neg hi] at he
        simp only [Option.some.injEq] at he
        subst he
        simp only [Exit.inBlock, hi, if_false]
        exact hQ _ _ _ ⟨hex', lk', σ', p1, p2, p3⟩
    | ret =>
      rw [hx] at he
      simp only [Option.some.injEq] at he
      subst he
      have hex' := hex
      rw [hx] at hex
      cases ex <;> (try exact hex.elim)
      exact hQ _ _ _ ⟨hex', lk', σ', p1, p2, p3⟩
  | .loop x, c, hc, s, st, r, lk, σ, a, w, he, hs, hS, hg, Q, hQ => by
    simp only [codeC] at hc
    obtain ⟨cx, h1, hc⟩ := bind_some hc
    obtain rfl := Option.some.inj hc
    simp only [evalC] at he
    exact wp_loop_rounds n (hL cx s st r he N x h1 lk σ a w hs hS hg Q hQ)
  | .exit id, c, hc, s, st, r, lk, σ, a, w, he, hs, hS, hg, Q, hQ => by
    simp only [codeC, Option.some.injEq] at hc
    subst hc
    simp only [evalC, Option.some.injEq] at he
    subst he
    exact wp_exit (hQ _ _ _ ⟨rfl, lk, σ, hs, hS, Step.refl⟩)
  | .ret, c, hc, s, st, r, lk, σ, a, w, he, hs, hS, hg, Q, hQ => by
    simp only [codeC, Option.some.injEq] at hc
    subst hc
    simp only [evalC, Option.some.injEq] at he
    subst he
    exact wp_ret (hQ _ _ _ ⟨trivial, lk, σ, hs, hS, Step.refl⟩)
  | .rangeFunc _ _ _ _, c, hc, _, _, _, _, _, _, _, he, _, _, _, _, _ => by
    simp only [codeC, Option.some.injEq] at hc
    subst hc
    simp [evalC] at he
  | .scope _, c, hc, _, _, _, _, _, _, _, he, _, _, _, _, _ => by
    simp only [codeC, Option.some.injEq] at hc
    subst hc
    simp [evalC] at he
  | .label _, c, hc, _, _, _, _, _, _, _, he, _, _, _, _, _ => by
    simp only [codeC, Option.some.injEq] at hc
    subst hc
    simp [evalC] at he
  | .goto _, c, hc, _, _, _, _, _, _, _, he, _, _, _, _, _ => by
    simp only [codeC, Option.some.injEq] at hc
    subst hc
    simp [evalC] at he
  | .refuse _, c, hc, _, _, _, _, _, _, _, he, _, _, _, _, _ => by
    simp only [codeC, Option.some.injEq] at hc
    subst hc
    simp [evalC] at he
end
end Go.Vs
