/-
  A program's functions, turned: what is checked of each. Under no condition.
-/
import Derived.Test.YtachdfhodbdoiaaDoorVsX
namespace Go.Vs
open Go

/-- A function as the evaluator takes it: its code, its results, its temporaries. -/
def turned (P : Program) (f : FuncId) : Option (C × List CRes × Nat) :=
  (P.funcs[f]?).bind fun fn => fn.body.bind fun code => (codeC P fn.ntmps code).bind fun c => (resC P fn.results.toList).bind fun r =>
    if (fn.name == "runtime.NumGoroutine") = true then none else some (c, r, fn.ntmps)

theorem FnOk.of {P : Program} {f : FuncId} {cf : CFunc} {n : Nat} (hx : cf.ext = none) (h : turned P f = some (cf.code, cf.res, n)) (hn : cf.np ≤ n) : FnOk P f cf := by
  refine ⟨fun x he => (by rw [hx] at he; cases he), fun _ => ?_⟩
  unfold turned at h
  obtain ⟨fn, h1, h⟩ := bind_some h
  obtain ⟨code, h2, h⟩ := bind_some h
  obtain ⟨c, h3, h⟩ := bind_some h
  obtain ⟨r, h4, h⟩ := bind_some h
  split at h
  · cases h
  · rename_i hb
    simp only [Option.some.injEq, Prod.mk.injEq] at h
    obtain ⟨rfl, rfl, rfl⟩ := h
    exact ⟨fn, code, h1, by simpa using hb, h2, h3, h4, hn⟩
end Go.Vs
