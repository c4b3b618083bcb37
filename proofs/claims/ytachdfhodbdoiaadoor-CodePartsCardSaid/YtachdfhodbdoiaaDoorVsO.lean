/-
  All operations together. Under no condition.
-/
import Derived.Test.YtachdfhodbdoiaaDoorVsN
import Derived.Test.YtachdfhodbdoiaaDoorVsEq
namespace Go.Vs
open Go
section
variable {B0 : Nat} {P : Program} {lk lk' : Locks} {σ σ' : Sig} {st st' : Store} {w w' : World} {o : Oper} {a : Act} {v : PV} {u : Value}
variable {gl : Nat → List PV} {N : Nat} {s : Slots} {E : Req → Option Res}

/-- A call comes to a value: through the function's own code, or by the model's word for it. -/
def CallOk (P : Program) (f : FuncId) (vals : Array Value) (w : World) (R : Value → World → Prop) : Prop :=
  ((callFunc f vals).run P w = .ok (.enter f vals) w ∧ Calls P f vals w (fun e w' => ∃ v, e = .returned v ∧ R v w')) ∨ (∃ v w', (callFunc f vals).run P w = .ok (.value v) w' ∧ R v w')

/-- What the evaluator says of calls is so. -/
def SoundCalls (B0 : Nat) (P : Program) (gl : Nat → List PV) (E : Req → Option Res) : Prop :=
  ∀ f args st r, E (.call f args st) = some r → ∀ lk σ w (vals : Array Value), RelL lk σ args vals.toList → Sim B0 lk σ st w → GlobOk lk gl →
    CallOk P f vals w (fun v w' => ∃ lk' σ', Rel lk' σ' r.val v ∧ Sim B0 lk' σ' r.st w' ∧ Step lk σ st w lk' σ' r.st w')

theorem RelL.append {cs ds : List PV} {us vs : List Value} (h : RelL lk σ cs us) (h' : RelL lk σ ds vs) : RelL lk σ (cs ++ ds) (us ++ vs) := by
  refine ⟨by simp [h.1, h'.1], fun j c v hc hv => ?_⟩
  by_cases hj : j < cs.length
  · rw [List.getElem?_append_left hj] at hc
    rw [List.getElem?_append_left (by rw [← h.1]; exact hj)] at hv
    exact h.2 j c v hc hv
  · rw [List.getElem?_append_right (by omega)] at hc
    rw [List.getElem?_append_right (by rw [← h.1]; omega), ← h.1] at hv
    exact h'.2 _ c v hc hv

theorem ok_callv (hE : SoundCalls B0 P gl E) (hS : Sim B0 lk σ st w) (hs : SlotRel lk σ N s a) (hg : GlobOk lk gl) {f : FuncId} {caps : List PV} {c : Call} {x : Operand} {px : Opd} {as : List Opd} (ho : o.op = .call c) (hcal : c.callee = .value x) (hx : opdC x = some px) (hargs : opdsC c.args.toList = some as)
    (hf : px.ev gl s = .fn f caps) {r : Res} {fs : List PV} {st1 : Store} (hfr : frzA false st (as.map (·.ev gl s)) = some (fs, st1)) (hr : E (.call f (fs ++ caps) st1) = some r) : OpOk B0 P lk σ st w o a r.val r.st := by
  have h1 := opdC_rel hs hg hx
  rw [hf] at h1
  obtain ⟨lk1, a1, a2, a3⟩ := hS.frzA _ (opdsC_rel hs hg hargs) hfr
  generalize hxe : a.eval x = b at h1
  cases h1 with | @fn _ _ _ vs hl hcr =>
  have hcaps : RelL lk σ caps vs.toList := ⟨by simpa using hl, fun j c v hc hv => hcr j c v hc (by simpa using hv)⟩
  have hall : RelL lk1 σ (fs ++ caps) ((c.args.map a.eval) ++ vs).toList := by
    rw [Array.toList_append]
    refine a1.append ?_ |>.mono (fun _ _ h => h) (fun _ _ _ h => h) |> fun h => by simpa using h
    exact hcaps.step a3
  have hex : execOp a.eval o = callFunc f ((c.args.map a.eval) ++ vs) := by
    simp [execOp, ho, resolve, hcal, hxe, Deferred.ofValue, invoke]
  intro next Q h
  unfold Oper.wp
  rw [hex]
  rcases hE f _ _ r hr lk1 σ w _ hall a2 (hg.mono a3.lks) with ⟨q1, q2⟩ | ⟨v, w', q1, lk', σ', q2, q3, q4⟩
  · rw [q1, Oper.upon_enter]
    refine q2.mono ?_
    rintro e w' ⟨v, rfl, lk', σ', q2, q3, q4⟩
    exact h lk' σ' v w' q2 q3 (a3.trans q4)
  · rw [q1]
    exact h lk' σ' v w' q2 q3 (a3.trans q4)

theorem bool_ite (b c : Bool) : (if b = true then !c else c) = (if b = true then !c else c) := rfl

theorem bin_sound (hS : Sim B0 lk σ st w) (hs : SlotRel lk σ N s a) (hg : GlobOk lk gl) {op : BinOp} {t t' : TypeId} {x y : Operand} {co : COp} (ho : o.op = .binOp op t x y t') (hc : binC P op t x y = some co) (he : evalOp E gl s st co = some (v, st')) : OpOk B0 P lk σ st w o a v st' := by
  have bin : ∀ px py, opdC x = some px → opdC y = some py → co = .bin op px py → OpOk B0 P lk σ st w o a v st' := by
    rintro px py hx hy rfl
    simp only [evalOp] at he
    obtain ⟨q, h1, h2⟩ := bind_some he
    simp only [Option.some.injEq, Prod.mk.injEq] at h2
    obtain ⟨rfl, rfl⟩ := h2
    exact ok_bin hS hs hg ho hx hy h1
  have two : ∀ k : Opd → Opd → COp, ((opdC x).bind fun x => (opdC y).bind fun y => some (k x y)) = some co → ∃ px py, opdC x = some px ∧ opdC y = some py ∧ co = k px py := by
    intro k h
    obtain ⟨px, h1, h⟩ := bind_some h
    obtain ⟨py, h2, h⟩ := bind_some h
    exact ⟨px, py, h1, h2, (Option.some.inj h).symm⟩
  cases hu : P.underlying t with
  | none => simp [binC, hu] at hc
  | some d =>
    cases d with
    | int k =>
      simp only [binC, hu] at hc
      obtain ⟨px, py, h1, h2, h3⟩ := two (fun x y => .bin op x y) hc
      exact bin px py h1 h2 h3
    | string =>
      simp only [binC, hu] at hc
      obtain ⟨px, py, h1, h2, h3⟩ := two (fun x y => .bin op x y) hc
      exact bin px py h1 h2 h3
    | bool =>
      have main : ∀ neg, op = (if neg then .neq else .eql) → ((opdC x).bind fun x => (opdC y).bind fun y => some (COp.eqb neg x y)) = some co → OpOk B0 P lk σ st w o a v st' := by
        rintro neg rfl h
        obtain ⟨px, py, hx, hy, rfl⟩ := two (fun x y => .eqb neg x y) h
        simp only [evalOp] at he
        obtain ⟨q, h1, h2⟩ := bind_some he
        simp only [Option.some.injEq, Prod.mk.injEq] at h2
        obtain ⟨rfl, rfl⟩ := h2
        exact ok_eqb hS hs hg ho hu hx hy h1
      simp only [binC, hu] at hc
      cases op <;> simp only [] at hc <;> first | cases hc | exact main false rfl hc | exact main true rfl hc
    | struct fs =>
      have main : ∀ neg, op = (if neg then .neq else .eql) → P.eqGuardType P.depth t = false → ((flatK P 99 t).bind fun ks => (opdC x).bind fun x => (opdC y).bind fun y => some (COp.eqs ks neg x y)) = some co → OpOk B0 P lk σ st w o a v st' := by
        rintro neg rfl hm h
        obtain ⟨ks, hk, h⟩ := bind_some h
        obtain ⟨px, py, hx, hy, rfl⟩ := two (fun x y => .eqs ks neg x y) h
        simp only [evalOp] at he
        obtain ⟨q, h1, h2⟩ := bind_some he
        simp only [Option.some.injEq, Prod.mk.injEq] at h2
        obtain ⟨rfl, rfl⟩ := h2
        exact ok_eqs hS hs hg ho (by simp [isAggT, hu]) hk (by decide) hm hx hy h1
      simp only [binC, hu] at hc
      split at hc
      · rename_i hm
        cases op <;> simp only [] at hc <;> first | cases hc | exact main false rfl hm hc | exact main true rfl hm hc
      · cases hc
    | array n e =>
      have main : ∀ neg, op = (if neg then .neq else .eql) → P.eqGuardType P.depth t = false → ((flatK P 99 t).bind fun ks => (opdC x).bind fun x => (opdC y).bind fun y => some (COp.eqs ks neg x y)) = some co → OpOk B0 P lk σ st w o a v st' := by
        rintro neg rfl hm h
        obtain ⟨ks, hk, h⟩ := bind_some h
        obtain ⟨px, py, hx, hy, rfl⟩ := two (fun x y => .eqs ks neg x y) h
        simp only [evalOp] at he
        obtain ⟨q, h1, h2⟩ := bind_some he
        simp only [Option.some.injEq, Prod.mk.injEq] at h2
        obtain ⟨rfl, rfl⟩ := h2
        exact ok_eqs hS hs hg ho (by simp [isAggT, hu]) hk (by decide) hm hx hy h1
      simp only [binC, hu] at hc
      split at hc
      · rename_i hm
        cases op <;> simp only [] at hc <;> first | cases hc | exact main false rfl hm hc | exact main true rfl hm hc
      · cases hc
    | slice e =>
      simp only [binC, hu] at hc
      by_cases hn : isNilS y = true
      · rw [if_pos hn] at hc
        have main : ∀ neg, op = (if neg then .neq else .eql) → ((opdC x).bind fun x => some (COp.eqnil true neg x)) = some co → OpOk B0 P lk σ st w o a v st' := by
          rintro neg rfl h
          obtain ⟨px, hx, h⟩ := bind_some h
          obtain rfl := Option.some.inj h
          simp only [evalOp] at he
          obtain ⟨q, h1, h2⟩ := bind_some he
          simp only [Option.some.injEq, Prod.mk.injEq] at h2
          obtain ⟨rfl, rfl⟩ := h2
          exact ok_eqnilS hS hs hg ho hu hx hn h1
        cases op <;> simp only [] at hc <;> first | cases hc | exact main false rfl hc | exact main true rfl hc
      · rw [if_neg hn] at hc; cases hc
    | pointer e =>
      simp only [binC, hu] at hc
      obtain ⟨i, hi, hc⟩ := bind_some hc
      by_cases hz : i.size ≠ 0
      · rw [if_pos hz] at hc
        have main : ∀ neg, op = (if neg then .neq else .eql) → (if isNilP y = true then (opdC x).bind fun x => some (COp.eqnil false neg x) else (opdC x).bind fun x => (opdC y).bind fun y => some (.eqp neg x y)) = some co → OpOk B0 P lk σ st w o a v st' := by
          rintro neg rfl h
          by_cases hn : isNilP y = true
          · rw [if_pos hn] at h
            obtain ⟨px, hx, h⟩ := bind_some h
            obtain rfl := Option.some.inj h
            simp only [evalOp] at he
            obtain ⟨q, h1, h2⟩ := bind_some he
            simp only [Option.some.injEq, Prod.mk.injEq] at h2
            obtain ⟨rfl, rfl⟩ := h2
            exact ok_eqnilP hS hs hg ho hu hx hn h1
          · rw [if_neg hn] at h
            obtain ⟨px, py, hx, hy, rfl⟩ := two (fun x y => .eqp neg x y) h
            simp only [evalOp] at he
            obtain ⟨q, h1, h2⟩ := bind_some he
            simp only [Option.some.injEq, Prod.mk.injEq] at h2
            obtain ⟨rfl, rfl⟩ := h2
            exact ok_eqp hS hs hg ho hu hi hz hx hy h1
        cases op <;> simp only [] at hc <;> first | cases hc | exact main false rfl hc | exact main true rfl hc
      · rw [if_neg hz] at hc; cases hc
    | _ => simp [binC, hu] at hc

theorem conv_sound (hS : Sim B0 lk σ st w) (hs : SlotRel lk σ N s a) (hg : GlobOk lk gl) {t d : TypeId} {x : Operand} {co : COp} (ho : o.op = .convert t d x) (hc : convC P t d x = some co) (he : evalOp E gl s st co = some (v, st')) : OpOk B0 P lk σ st w o a v st' := by
  cases ht : P.underlying t with
  | none => simp [convC, ht] at hc
  | some dt =>
  cases hd : P.underlying d with
  | none => cases dt <;> simp [convC, ht, hd] at hc
  | some dd =>
    have cvp : ∀ e i q, P.info? e = some i → i.size ≠ 0 → ((P.underlying t = some (.pointer e) ∧ P.underlying d = some .unsafePointer ∧ q = none) ∨ (P.underlying t = some .unsafePointer ∧ P.underlying d = some (.pointer e) ∧ q = some (e, i.size))) →
        ((opdC x).bind fun x => some (COp.cvp q x)) = some co → OpOk B0 P lk σ st w o a v st' := by
      intro e i q hi hz hk h
      obtain ⟨px, hx, h⟩ := bind_some h
      obtain rfl := Option.some.inj h
      obtain ⟨rfl, h2⟩ := ok_cvp hS hs hg ho hi hz hx hk he
      exact h2
    cases dt <;> cases dd <;> simp only [convC, ht, hd] at hc <;> (try (cases hc; done))
    · obtain ⟨px, hx, hc⟩ := bind_some hc
      obtain rfl := Option.some.inj hc
      simp only [evalOp] at he
      cases hp : px.ev gl s <;> rw [hp] at he <;> (try (simp at he; done))
      simp only [Option.some.injEq, Prod.mk.injEq] at he
      obtain ⟨rfl, rfl⟩ := he
      exact ok_cvi hS hs hg ho ht hd hx hp
    · obtain ⟨px, hx, hc⟩ := bind_some hc
      obtain rfl := Option.some.inj hc
      simp only [evalOp] at he
      cases hp : px.ev gl s <;> rw [hp] at he <;> (try (simp at he; done))
      simp only [Option.some.injEq, Prod.mk.injEq] at he
      obtain ⟨rfl, rfl⟩ := he
      exact ok_cvid hS hs hg ho ht hd hx hp
    · rename_i e
      obtain ⟨i, hi, hc⟩ := bind_some hc
      by_cases hz : i.size ≠ 0
      · rw [if_pos hz] at hc; exact cvp e i _ hi hz (.inr ⟨ht, hd, rfl⟩) hc
      · rw [if_neg hz] at hc; cases hc
    · rename_i e
      obtain ⟨i, hi, hc⟩ := bind_some hc
      by_cases hz : i.size ≠ 0
      · rw [if_pos hz] at hc; exact cvp e i _ hi hz (.inl ⟨ht, hd, rfl⟩) hc
      · rw [if_neg hz] at hc; cases hc
    · rename_i e
      cases hue : P.underlying e with
      | none => simp [hue] at hc
      | some de =>
        cases de <;> simp only [hue] at hc <;> (try (cases hc; done))
        rename_i k
        cases k <;> simp only [] at hc <;> (try (cases hc; done))
        obtain ⟨px, hx, hc⟩ := bind_some hc
        obtain rfl := Option.some.inj hc
        simp only [evalOp] at he
        obtain ⟨es, h1, he⟩ := bind_some he
        obtain ⟨l, h2, he⟩ := bind_some he
        simp only [Option.some.injEq, Prod.mk.injEq] at he
        obtain ⟨rfl, rfl⟩ := he
        exact ok_cvbs hS hs hg ho ht hd hue hx h1 h2
end
end Go.Vs
