/-
  Every operation that is turned does what the evaluator says. Under no condition.
-/
import Derived.Test.YtachdfhodbdoiaaDoorVsO
namespace Go.Vs
open Go
section
variable {B0 : Nat} {P : Program} {lk lk' : Locks} {σ σ' : Sig} {st st' : Store} {w w' : World} {o : Oper} {a : Act} {v : PV} {u : Value}
variable {gl : Nat → List PV} {N : Nat} {s : Slots} {E : Req → Option Res}

theorem arr1 {α : Type _} {l : Array α} {x : α} (h : l.toList = [x]) : l = #[x] := Array.toList_inj.1 (by rw [h])
theorem arr2 {α : Type _} {l : Array α} {x y : α} (h : l.toList = [x, y]) : l = #[x, y] := Array.toList_inj.1 (by rw [h])
theorem call_sound (hE : SoundCalls B0 P gl E) (hS : Sim B0 lk σ st w) (hs : SlotRel lk σ N s a) (hg : GlobOk lk gl) {c : Call} {co : COp} (ho : o.op = .call c) (hc : callC P c = some co) (he : evalOp E gl s st co = some (v, st')) : OpOk B0 P lk σ st w o a v st' := by
  obtain ⟨cal, args, tys⟩ := c
  cases cal with
  | invoke r m => simp [callC] at hc
  | value x =>
    cases x with
    | const v => simp [callC] at hc
    | global g => simp [callC] at hc
    | func f =>
      simp only [callC] at hc
      obtain ⟨as, hargs, hc⟩ := bind_some hc
      obtain rfl := Option.some.inj hc
      simp only [evalOp] at he
      obtain ⟨⟨fs, st1⟩, h1, he⟩ := bind_some he
      obtain ⟨r, h2, he⟩ := bind_some he
      simp only [Option.some.injEq, Prod.mk.injEq] at he
      obtain ⟨rfl, rfl⟩ := he
      exact ok_callv hE hS hs hg ho rfl (px := .const (.fn f [])) (caps := []) rfl hargs rfl h1 (by simpa using h2)
    | tmp t =>
      simp only [callC] at hc
      obtain ⟨as, hargs, hc⟩ := bind_some hc
      obtain rfl := Option.some.inj hc
      simp only [evalOp] at he
      cases hp : Opd.ev gl s (.tmp t) <;> rw [hp] at he <;> (try (simp at he; done))
      simp only [] at he
      obtain ⟨⟨fs, st1⟩, h1, he⟩ := bind_some he
      obtain ⟨r, h2, he⟩ := bind_some he
      simp only [Option.some.injEq, Prod.mk.injEq] at he
      obtain ⟨rfl, rfl⟩ := he
      exact ok_callv hE hS hs hg ho rfl (px := .tmp t) rfl hargs hp h1 h2
  | builtin b =>
    cases b <;> (try (simp [callC] at hc; done))
    case len =>
      simp only [callC] at hc
      split at hc
      · rename_i x t ha1 ha2
        obtain rfl := arr1 ha1
        obtain rfl := arr1 ha2
        split at hc
        · rename_i hu
          obtain ⟨px, hx, hc⟩ := bind_some hc
          obtain rfl := Option.some.inj hc
          have hh := ok_lenT (P := P) hS hs hg ho rfl rfl rfl hu hx he
          rw [hh.1]; exact hh.2
        · rename_i e hu
          obtain ⟨px, hx, hc⟩ := bind_some hc
          obtain rfl := Option.some.inj hc
          have hh := ok_lenS (P := P) hS hs hg ho rfl rfl rfl hu hx he
          rw [hh.1]; exact hh.2
        · cases hc
      · cases hc
    case append =>
      simp only [callC] at hc
      split at hc
      · rename_i x y t t' ha1 ha2
        obtain rfl := arr2 ha1
        obtain rfl := arr2 ha2
        split at hc
        · rename_i e hu
          obtain ⟨i, hi, hc⟩ := bind_some hc
          split at hc
          · split at hc
            · rename_i htt
              obtain ⟨px, hx, hc⟩ := bind_some hc
              obtain ⟨py, hy, hc⟩ := bind_some hc
              obtain ⟨z, hz, hc⟩ := bind_some hc
              split at hc
              · rename_i hzs
                obtain rfl := Option.some.inj hc
                exact ok_app hS hs hg ho rfl rfl rfl hu hi hz hx hy (.inl ⟨rfl, htt, hzs⟩) he
              · cases hc
            · cases hc
          · rename_i hu'
            split at hc
            · rename_i hcc
              obtain ⟨h1, h2, h3⟩ := hcc
              obtain ⟨px, hx, hc⟩ := bind_some hc
              obtain ⟨py, hy, hc⟩ := bind_some hc
              split at hc
              · rename_i hz
                obtain rfl := Option.some.inj hc
                exact ok_app (E := E) hS hs hg ho rfl rfl rfl hu hi hz hx hy (.inr ⟨rfl, hu', h1, h2, rfl⟩) (by rw [h1, h2]; exact he)
              · cases hc
            · cases hc
          · cases hc
        · cases hc
      · cases hc
    case max =>
      simp only [callC] at hc
      split at hc
      · rename_i x y ha1
        obtain rfl := arr2 ha1
        obtain ⟨px, hx, hc⟩ := bind_some hc
        obtain ⟨py, hy, hc⟩ := bind_some hc
        obtain rfl := Option.some.inj hc
        have hh := ok_maxmin (P := P) (mx := true) hS hs hg ho rfl rfl hx hy he
        rw [hh.1]; exact hh.2
      · cases hc
    case min =>
      simp only [callC] at hc
      split at hc
      · rename_i x y ha1
        obtain rfl := arr2 ha1
        obtain ⟨px, hx, hc⟩ := bind_some hc
        obtain ⟨py, hy, hc⟩ := bind_some hc
        obtain rfl := Option.some.inj hc
        have hh := ok_maxmin (P := P) (mx := false) hS hs hg ho rfl rfl hx hy he
        rw [hh.1]; exact hh.2
      · cases hc
    case unsafeSliceData =>
      simp only [callC] at hc
      split at hc
      · rename_i x ha1
        obtain rfl := arr1 ha1
        obtain ⟨px, hx, hc⟩ := bind_some hc
        obtain rfl := Option.some.inj hc
        have hh := ok_usd (P := P) hS hs hg ho rfl rfl hx he
        rw [hh.1]; exact hh.2
      · cases hc
    case unsafeString =>
      simp only [callC] at hc
      split at hc
      · rename_i p n t t2 ha1 ha2
        obtain rfl := arr2 ha1
        obtain rfl := arr2 ha2
        split at hc
        · rename_i e hu
          split at hc
          · rename_i hcc
            obtain ⟨h1, h2, h3⟩ := hcc
            obtain ⟨px, hx, hc⟩ := bind_some hc
            obtain ⟨py, hy, hc⟩ := bind_some hc
            obtain rfl := Option.some.inj hc
            cases hi : P.info? e with
            | none => rw [hi] at h2; cases h2
            | some i =>
              rw [hi] at h2
              exact ok_ustr hS hs hg ho rfl rfl rfl hu hi (by simpa using h2) hx hy he
          · cases hc
        · cases hc
      · cases hc

theorem op_sound (hE : SoundCalls B0 P gl E) (hS : Sim B0 lk σ st w) (hs : SlotRel lk σ N s a) (hg : GlobOk lk gl) {co : COp} (hc : opC P o.op = some co) (he : evalOp E gl s st co = some (v, st')) : OpOk B0 P lk σ st w o a v st' := by
  cases ho : o.op <;> rw [ho] at hc <;> (try (simp [opC] at hc; done))
  case move x =>
    simp only [opC] at hc
    obtain ⟨px, hx, hc⟩ := bind_some hc
    obtain rfl := Option.some.inj hc
    simp only [evalOp, Option.some.injEq, Prod.mk.injEq] at he
    obtain ⟨rfl, rfl⟩ := he
    exact ok_mov hS hs hg (.inl ho) hx
  case assign x =>
    simp only [opC] at hc
    obtain ⟨px, hx, hc⟩ := bind_some hc
    obtain rfl := Option.some.inj hc
    simp only [evalOp, Option.some.injEq, Prod.mk.injEq] at he
    obtain ⟨rfl, rfl⟩ := he
    exact ok_mov hS hs hg (.inr ho) hx
  case pick c x y =>
    simp only [opC] at hc
    obtain ⟨pc, hpc, hc⟩ := bind_some hc
    obtain ⟨px, hx, hc⟩ := bind_some hc
    obtain ⟨py, hy, hc⟩ := bind_some hc
    obtain rfl := Option.some.inj hc
    simp only [evalOp] at he
    cases hp : pc.ev gl s <;> rw [hp] at he <;> (try (simp at he; done))
    simp only [Option.some.injEq, Prod.mk.injEq] at he
    obtain ⟨rfl, rfl⟩ := he
    exact ok_pick hS hs hg ho hpc hx hy hp
  case alloc e =>
    simp only [opC] at hc
    obtain ⟨z, hz, hc⟩ := bind_some hc
    obtain rfl := Option.some.inj hc
    simp only [evalOp, Option.some.injEq, Prod.mk.injEq] at he
    obtain ⟨rfl, rfl⟩ := he
    exact ok_alloc hS ho hz
  case box e x =>
    simp only [opC] at hc
    obtain ⟨px, hx, hc⟩ := bind_some hc
    obtain rfl := Option.some.inj hc
    simp only [evalOp] at he
    by_cases h1 : (cellsOf (px.ev gl s)).all oneP = true
    · rw [if_pos h1] at he
      simp only [Option.some.injEq, Prod.mk.injEq] at he
      obtain ⟨rfl, rfl⟩ := he
      exact ok_box hS hs hg ho hx h1
    · rw [if_neg h1] at he; cases he
  case build t parts =>
    simp only [opC] at hc
    obtain ⟨z, hz, hc⟩ := bind_some hc
    split at hc
    · rename_i fields hu
      obtain ⟨pl, hpl, hc⟩ := bind_some hc
      obtain ⟨ps, hps, hc⟩ := bind_some hc
      obtain rfl := Option.some.inj hc
      simp only [evalOp] at he
      obtain ⟨cs, h1, he⟩ := bind_some he
      simp only [Option.some.injEq, Prod.mk.injEq] at he
      obtain ⟨rfl, rfl⟩ := he
      exact ok_buildS hS hs hg ho hz hu hpl hps h1
    · rename_i n e hu
      obtain ⟨i, hi, hc⟩ := bind_some hc
      obtain ⟨ps, hps, hc⟩ := bind_some hc
      obtain rfl := Option.some.inj hc
      simp only [evalOp] at he
      obtain ⟨cs, h1, he⟩ := bind_some he
      simp only [Option.some.injEq, Prod.mk.injEq] at he
      obtain ⟨rfl, rfl⟩ := he
      exact ok_buildA hS hs hg ho hz hu hi hps h1
    · cases hc
  case buildSlice t len parts =>
    simp only [opC] at hc
    split at hc
    · rename_i e hu
      obtain ⟨i, hi, hc⟩ := bind_some hc
      obtain ⟨z, hz, hc⟩ := bind_some hc
      split at hc
      · rename_i hcc
        obtain ⟨c1, c2, c3, c4⟩ := hcc
        obtain ⟨ps, hps, hc⟩ := bind_some hc
        obtain rfl := Option.some.inj hc
        simp only [evalOp] at he
        obtain ⟨es, h1, he⟩ := bind_some he
        simp only [Option.some.injEq, Prod.mk.injEq] at he
        obtain ⟨rfl, rfl⟩ := he
        exact ok_bslice hS hs hg ho hu hi hz c1 c2 c3 c4 hps h1
      · cases hc
    · cases hc
  case load t x =>
    simp only [opC] at hc
    obtain ⟨px, hx, hc⟩ := bind_some hc
    by_cases ha : isAggT P t = true
    · rw [if_pos ha] at hc
      obtain ⟨i, hi, hc⟩ := bind_some hc
      obtain rfl := Option.some.inj hc
      simp only [evalOp] at he
      obtain ⟨l, h1, he⟩ := bind_some he
      simp only [Option.some.injEq, Prod.mk.injEq] at he
      obtain ⟨rfl, rfl⟩ := he
      exact (ok_ld (v := .undef) hS hs hg ho hx).2 ha i hi h1
    · rw [if_neg ha] at hc
      split at hc
      · rename_i hun
        obtain rfl := Option.some.inj hc
        simp only [evalOp] at he
        obtain ⟨l, h1, he⟩ := bind_some he
        match l, h1, he with
        | [x], h1, he =>
          simp only [Option.some.injEq, Prod.mk.injEq] at he
          obtain ⟨rfl, rfl⟩ := he
          exact (ok_ld (xs := []) hS hs hg ho hx).1 (by simpa using ha) hun h1
        | [], _, he => simp at he
        | _ :: _ :: _, _, he => simp at he
      · cases hc
  case store t p x =>
    simp only [opC] at hc
    obtain ⟨pp, hp, hc⟩ := bind_some hc
    obtain ⟨px, hx, hc⟩ := bind_some hc
    obtain ⟨i, hi, hc⟩ := bind_some hc
    obtain rfl := Option.some.inj hc
    simp only [evalOp] at he
    split at he
    · rename_i hcc
      obtain ⟨st1, h1, he⟩ := bind_some he
      simp only [Option.some.injEq, Prod.mk.injEq] at he
      obtain ⟨rfl, rfl⟩ := he
      exact ok_st hS hs hg ho hi hp hx hcc.1 hcc.2 h1
    · cases he
  case nilCheck x =>
    simp only [opC] at hc
    obtain ⟨px, hx, hc⟩ := bind_some hc
    obtain rfl := Option.some.inj hc
    simp only [evalOp] at he
    have := ok_nilck (P := P) hS hs hg ho hx
    cases hp : px.ev gl s <;> rw [hp] at he this <;> (try (simp at he; done))
    · simp only [Option.some.injEq, Prod.mk.injEq] at he
      obtain ⟨rfl, rfl⟩ := he
      exact this (.inl ⟨_, _, _, _, rfl⟩)
    · simp only [Option.some.injEq, Prod.mk.injEq] at he
      obtain ⟨rfl, rfl⟩ := he
      exact this (.inr ⟨_, rfl⟩)
  case binOp op t x y t' => exact bin_sound hS hs hg ho hc he
  case unOp op t x =>
    simp only [opC] at hc
    obtain ⟨px, hx, hc⟩ := bind_some hc
    obtain rfl := Option.some.inj hc
    simp only [evalOp] at he
    obtain ⟨q, h1, he⟩ := bind_some he
    simp only [Option.some.injEq, Prod.mk.injEq] at he
    obtain ⟨rfl, rfl⟩ := he
    exact ok_un hS hs hg ho hx h1
  case convert t d x => exact conv_sound hS hs hg ho hc he
  case makeFunc f first caps =>
    cases f <;> simp only [opC] at hc <;> (try (cases hc; done))
    split at hc
    · rename_i h0
      obtain ⟨cs, hcs, hc⟩ := bind_some hc
      obtain rfl := Option.some.inj hc
      simp only [evalOp, Option.some.injEq, Prod.mk.injEq] at he
      obtain ⟨rfl, rfl⟩ := he
      exact ok_mkfn hS hs hg ho h0 hcs
    · cases hc
  case slice t x lo hi mx =>
    cases mx <;> simp only [opC] at hc <;> (try (cases hc; done))
    obtain ⟨px, hx, hc⟩ := bind_some hc
    obtain ⟨plo, hlo, hc⟩ := bind_some hc
    obtain ⟨phi, hhi, hc⟩ := bind_some hc
    split at hc
    · rename_i hu
      obtain rfl := Option.some.inj hc
      simp only [evalOp] at he
      cases hp : px.ev gl s <;> rw [hp] at he <;> (try (simp at he; done))
      simp only [] at he
      obtain ⟨h, h1, he⟩ := bind_some he
      obtain ⟨b, h2, he⟩ := bind_some he
      simp only [Option.some.injEq, Prod.mk.injEq] at he
      obtain ⟨rfl, rfl⟩ := he
      exact ok_sls hS hs hg ho hu hx hlo hhi hp h1 h2
    · rename_i e hu
      obtain ⟨i, hi', hc⟩ := bind_some hc
      obtain rfl := Option.some.inj hc
      simp only [evalOp] at he
      split at he
      · rename_i es st1 hf
        split at he
        · cases he
        · rename_i hall
          obtain ⟨h, h1, he⟩ := bind_some he
          obtain ⟨b, h2, he⟩ := bind_some he
          simp only [Option.some.injEq, Prod.mk.injEq] at he
          obtain ⟨rfl, rfl⟩ := he
          refine ok_slv hS hs hg ho hu hi' hx hlo hhi hf h1 h2 (fun e he => ?_)
          have : (es.all fun e => decide (e.length = i.size)) = true := by simpa using hall
          simpa using List.all_eq_true.1 this e he
      · cases he
    · rename_i n e hu
      split at hc
      · rename_i hi'
        obtain rfl := Option.some.inj hc
        simp only [evalOp] at he
        split at he
        · rename_i id off hp
          obtain ⟨h, h1, he⟩ := bind_some he
          obtain ⟨b, h2, he⟩ := bind_some he
          simp only [Option.some.injEq, Prod.mk.injEq] at he
          obtain ⟨rfl, rfl⟩ := he
          exact ok_sla hS hs hg ho hu hi' hx hlo hhi hp h1 h2
        · cases he
      · cases hc
    · cases hc
  case fieldAddr t x f =>
    simp only [opC] at hc
    obtain ⟨px, hx, hc⟩ := bind_some hc
    split at hc
    · rename_i fields hu
      obtain ⟨fd, hf, hc⟩ := bind_some hc
      obtain ⟨i, hi, hc⟩ := bind_some hc
      split at hc
      · cases hc
      · rename_i hz
        obtain rfl := Option.some.inj hc
        simp only [evalOp] at he
        have h1 := opdC_rel hs hg hx
        cases hp : px.ev gl s <;> rw [hp] at he h1 <;> (try (simp at he; done))
        · simp only [Option.some.injEq, Prod.mk.injEq] at he
          obtain ⟨rfl, rfl⟩ := he
          obtain ⟨ad, h2, h3⟩ := ptr_add (n := fd.offset) h1
          exact ok_fa hS ho hu hf hi hz h2 h3
        · simp only [Option.some.injEq, Prod.mk.injEq] at he
          obtain ⟨rfl, rfl⟩ := he
          obtain ⟨ad, h2, h3⟩ := pf_add (n := fd.offset) h1
          exact ok_fa hS ho hu hf hi hz h2 h3
    · cases hc
  case field t x f =>
    simp only [opC] at hc
    obtain ⟨px, hx, hc⟩ := bind_some hc
    split at hc
    · rename_i fields hu
      obtain ⟨fd, hf, hc⟩ := bind_some hc
      by_cases ha : isAggT P fd.type = true
      · rw [if_pos ha] at hc
        obtain ⟨i, hi, hc⟩ := bind_some hc
        obtain rfl := Option.some.inj hc
        simp only [evalOp] at he
        cases hp : px.ev gl s <;> rw [hp] at he <;> (try (simp at he; done))
        simp only [] at he
        split at he
        · rename_i hn
          simp only [Option.some.injEq, Prod.mk.injEq] at he
          obtain ⟨rfl, rfl⟩ := he
          exact ok_fldA hS hs hg ho hu hf hi ha hx hp hn
        · cases he
      · rw [if_neg ha] at hc
        split at hc
        · rename_i hun
          obtain rfl := Option.some.inj hc
          simp only [evalOp] at he
          cases hp : px.ev gl s <;> rw [hp] at he <;> (try (simp at he; done))
          simp only [] at he
          obtain ⟨q, h1, he⟩ := bind_some he
          simp only [Option.some.injEq, Prod.mk.injEq] at he
          obtain ⟨rfl, rfl⟩ := he
          exact ok_fld1 hS hs hg ho hu hf (by simpa using ha) hun hx hp h1
        · cases hc
    · cases hc
  case indexAddr t x i =>
    simp only [opC] at hc
    obtain ⟨px, hx, hc⟩ := bind_some hc
    obtain ⟨pi, hi, hc⟩ := bind_some hc
    split at hc
    · rename_i e hu
      obtain ⟨inf, hinf, hc⟩ := bind_some hc
      obtain rfl := Option.some.inj hc
      obtain ⟨rfl, h⟩ := ok_ixa hS hs hg ho hu hinf hx hi he
      exact h
    · rename_i n e hu
      obtain ⟨inf, hinf, hc⟩ := bind_some hc
      obtain rfl := Option.some.inj hc
      obtain ⟨rfl, h⟩ := ok_ixaa hS hs hg ho hu hinf hx hi he
      exact h
    · cases hc
  case index t x i =>
    simp only [opC] at hc
    obtain ⟨px, hx, hc⟩ := bind_some hc
    obtain ⟨pi, hi, hc⟩ := bind_some hc
    split at hc
    · rename_i hu
      obtain rfl := Option.some.inj hc
      simp only [evalOp] at he
      cases hp : px.ev gl s <;> rw [hp] at he <;> (try (simp at he; done))
      simp only [] at he
      obtain ⟨j, h1, he⟩ := bind_some he
      obtain ⟨b, h2, he⟩ := bind_some he
      simp only [Option.some.injEq, Prod.mk.injEq] at he
      obtain ⟨rfl, rfl⟩ := he
      exact ok_ixs hS hs hg ho hu hx hi hp h1 h2
    · rename_i n e hu
      obtain ⟨inf, hinf, hc⟩ := bind_some hc
      by_cases ha : isAggT P e = true
      · rw [if_pos ha] at hc
        obtain rfl := Option.some.inj hc
        simp only [evalOp] at he
        cases hp : px.ev gl s <;> rw [hp] at he <;> (try (simp at he; done))
        simp only [] at he
        obtain ⟨j, h1, he⟩ := bind_some he
        simp only [Bool.false_eq_true, if_false] at he
        split at he
        · rename_i hn
          simp only [Option.some.injEq, Prod.mk.injEq] at he
          obtain ⟨rfl, rfl⟩ := he
          exact ok_ixgA hS hs hg ho hu hinf ha hx hi hp h1 hn
        · cases he
      · rw [if_neg ha] at hc
        split at hc
        · rename_i hun
          obtain rfl := Option.some.inj hc
          simp only [evalOp] at he
          cases hp : px.ev gl s <;> rw [hp] at he <;> (try (simp at he; done))
          simp only [] at he
          obtain ⟨j, h1, he⟩ := bind_some he
          simp only [if_true] at he
          obtain ⟨q, h2, he⟩ := bind_some he
          simp only [Option.some.injEq, Prod.mk.injEq] at he
          obtain ⟨rfl, rfl⟩ := he
          exact ok_ixg1 hS hs hg ho hu hinf (by simpa using ha) hun hx hi hp h1 h2
        · cases hc
    · cases hc
  case extract x j =>
    simp only [opC] at hc
    obtain ⟨px, hx, hc⟩ := bind_some hc
    obtain rfl := Option.some.inj hc
    simp only [evalOp] at he
    cases hp : px.ev gl s <;> rw [hp] at he <;> (try (simp at he; done))
    simp only [] at he
    obtain ⟨q, h1, he⟩ := bind_some he
    simp only [Option.some.injEq, Prod.mk.injEq] at he
    obtain ⟨rfl, rfl⟩ := he
    exact ok_ext hS hs hg ho hx hp h1
  case call c => exact call_sound hE hS hs hg ho hc he
end
end Go.Vs
