/-
  A law of code: CodeParts, the walk. Under no condition.
-/
import Derived.Test.YtachdfhodbdoiaaDoorC14
namespace Go.Proofs.YtachdfhodbdoiaaDoor
open Go Go.Vs
set_option linter.unusedSimpArgs false
set_option linter.unusedVariables false
theorem ref_cells (l : List I4) : ((l.map cellsI).all fun e => e.all (ref1 0)) = true := by simp [cellsI, ref1, ref0]
theorem new_cells (l : List I4) : okNew 4 (l.map cellsI) = true := by simp [okNew, cellsI, ref1, ref0]
theorem law5 (a b : List UInt8) (ha : a.length ≤ 9223372036854775807) (hb : b.length ≤ 9223372036854775807) : Ans cprog gl0 5 [.str a, .str b] [] (.bool true) [] := by
  refine a5 rfl ?_
  delta k5
  by_cases h1 : a.length ≤ 256
  · by_cases h2 : b.length ≤ 256
    · have g1 := s16 a ha
      have g2 := s16 b hb
      have g3 := s16 (a ++ b) (by simp; omega)
      have e : ∀ q : Int, q = 0 ∨ ¬ q = 0 := fun q => by omega
      have hadd : a.length + b.length ≤ 9223372036854775807 := by omega
      rcases e (allR a).2 with e1 | e1
      · rcases e (allR b).2 with e2 | e2
        · by_cases h3 : a.length + b.length ≤ 256
          · have e3 := all_app e1 e2 h3
            rw [e3] at g3
            rw [e1] at g1
            rw [e2] at g2
            have n1 := all_len a
            have n2 := all_len b
            have n3 := all_len (a ++ b)
            rw [e3] at n3
            have n3 : (allR a).1.length + (allR b).1.length ≤ 256 := by simpa using n3
            generalize hp : (allR a).1 = p at *
            generalize hq : (allR b).1 = q at *
            have hs := s18 (p ++ q) (by simp; omega)
            have ht := s17 (p ++ q) (by simp; omega)
            have hfr := free_cells (p ++ q)
            have hfp := free_cells p
            have hfq := free_cells q
            repeat (first | refine ctl ?_ | refine stp ?_ | refine stpD ?_ | refine stpK ?_ | refine cnt ?_ | refine cnf ?_ | refine ctl_ne ?_ | refine opt (clp hgl0 cprog_okC (by exact rfl) (g1)) ?_ | refine optD (clp hgl0 cprog_okC (by exact rfl) (g1)) ?_ | refine optK (clp hgl0 cprog_okC (by exact rfl) (g1)) ?_ | refine opt (clp hgl0 cprog_okC (by exact rfl) (g2)) ?_ | refine optD (clp hgl0 cprog_okC (by exact rfl) (g2)) ?_ | refine optK (clp hgl0 cprog_okC (by exact rfl) (g2)) ?_ | refine opt (clp hgl0 cprog_okC (by exact rfl) (g3)) ?_ | refine optD (clp hgl0 cprog_okC (by exact rfl) (g3)) ?_ | refine optK (clp hgl0 cprog_okC (by exact rfl) (g3)) ?_ | refine opt (clp hgl0 cprog_okC (by exact rfl) (set15)) ?_ | refine optD (clp hgl0 cprog_okC (by exact rfl) (set15)) ?_ | refine optK (clp hgl0 cprog_okC (by exact rfl) (set15)) ?_)
            refine opt_app (v := .nilsl) rfl OutIs.nil rfl (new_cells p) (by decide) (by simp; omega) (by simp; omega) (fun v1 st1 o1 _ _ => ?_)
            rw [List.nil_append] at o1
            (first | refine opt (by exact op_movG (v := v1) rfl) ?_ | refine optn (by exact op_movG (v := v1) rfl) ?_ | refine optD (by exact op_movG (v := v1) rfl) ?_ | refine optnD (by exact op_movG (v := v1) rfl) ?_ | refine optK (by exact op_movG (v := v1) rfl) ?_ | refine optnK (by exact op_movG (v := v1) rfl) ?_)
            repeat (first | refine ctl ?_ | refine stp ?_ | refine stpD ?_ | refine stpK ?_ | refine cnt ?_ | refine cnf ?_ | refine ctl_ne ?_)
            (first | refine opt (by exact op_movG (v := v1) rfl) ?_ | refine optn (by exact op_movG (v := v1) rfl) ?_ | refine optD (by exact op_movG (v := v1) rfl) ?_ | refine optnD (by exact op_movG (v := v1) rfl) ?_ | refine optK (by exact op_movG (v := v1) rfl) ?_ | refine optnK (by exact op_movG (v := v1) rfl) ?_)
            repeat (first | refine ctl ?_ | refine stp ?_ | refine stpD ?_ | refine stpK ?_ | refine cnt ?_ | refine cnf ?_ | refine ctl_ne ?_)
            refine opt_app (v := v1) rfl o1 rfl (new_cells q) (by decide) (by simp; omega) (by simp; omega) (fun v2 st2 o2 _ _ => ?_)
            rw [← List.map_append] at o2
            (first | refine opt (by exact op_movG (v := v2) rfl) ?_ | refine optn (by exact op_movG (v := v2) rfl) ?_ | refine optD (by exact op_movG (v := v2) rfl) ?_ | refine optnD (by exact op_movG (v := v2) rfl) ?_ | refine optK (by exact op_movG (v := v2) rfl) ?_ | refine optnK (by exact op_movG (v := v2) rfl) ?_)
            repeat (first | refine ctl ?_ | refine stp ?_ | refine stpD ?_ | refine stpK ?_ | refine cnt ?_ | refine cnf ?_ | refine ctl_ne ?_ | refine opt (clp hgl0 cprog_okC (by exact rfl) (hs)) ?_ | refine optD (clp hgl0 cprog_okC (by exact rfl) (hs)) ?_ | refine optK (clp hgl0 cprog_okC (by exact rfl) (hs)) ?_)
            (first | refine opt (by exact op_movG (v := v2) rfl) ?_ | refine optn (by exact op_movG (v := v2) rfl) ?_ | refine optD (by exact op_movG (v := v2) rfl) ?_ | refine optnD (by exact op_movG (v := v2) rfl) ?_ | refine optK (by exact op_movG (v := v2) rfl) ?_ | refine optnK (by exact op_movG (v := v2) rfl) ?_)
            obtain ⟨st3, o3, -⟩ := o2.args (ref_cells _)
            (first | refine opt (by exact clp hgl0 cprog_okC o3 hs) ?_ | refine optn (by exact clp hgl0 cprog_okC o3 hs) ?_ | refine optD (by exact clp hgl0 cprog_okC o3 hs) ?_ | refine optnD (by exact clp hgl0 cprog_okC o3 hs) ?_ | refine optK (by exact clp hgl0 cprog_okC o3 hs) ?_ | refine optnK (by exact clp hgl0 cprog_okC o3 hs) ?_)
            repeat (first | refine ctl ?_ | refine stp ?_ | refine stpD ?_ | refine stpK ?_ | refine cnt ?_ | refine cnf ?_ | refine ctl_ne ?_ | refine opt (clp hgl0 cprog_okC (by exact rfl) (ht)) ?_ | refine optD (clp hgl0 cprog_okC (by exact rfl) (ht)) ?_ | refine optK (clp hgl0 cprog_okC (by exact rfl) (ht)) ?_ | refine opt (clp hgl0 cprog_okC (by exact rfl) (set15)) ?_ | refine optD (clp hgl0 cprog_okC (by exact rfl) (set15)) ?_ | refine optK (clp hgl0 cprog_okC (by exact rfl) (set15)) ?_)
            exact ⟨.inr rfl, rfl⟩
          · repeat (first | refine ctl ?_ | refine stp ?_ | refine stpD ?_ | refine stpK ?_ | refine cnt ?_ | refine cnf ?_ | refine ctl_ne ?_ | refine opt (clp hgl0 cprog_okC (by exact rfl) (g1)) ?_ | refine optD (clp hgl0 cprog_okC (by exact rfl) (g1)) ?_ | refine optK (clp hgl0 cprog_okC (by exact rfl) (g1)) ?_ | refine opt (clp hgl0 cprog_okC (by exact rfl) (g2)) ?_ | refine optD (clp hgl0 cprog_okC (by exact rfl) (g2)) ?_ | refine optK (clp hgl0 cprog_okC (by exact rfl) (g2)) ?_ | refine opt (clp hgl0 cprog_okC (by exact rfl) (g3)) ?_ | refine optD (clp hgl0 cprog_okC (by exact rfl) (g3)) ?_ | refine optK (clp hgl0 cprog_okC (by exact rfl) (g3)) ?_ | refine opt (clp hgl0 cprog_okC (by exact rfl) (set15)) ?_ | refine optD (clp hgl0 cprog_okC (by exact rfl) (set15)) ?_ | refine optK (clp hgl0 cprog_okC (by exact rfl) (set15)) ?_)
            exact ⟨.inr rfl, rfl⟩
        · repeat (first | refine ctl ?_ | refine stp ?_ | refine stpD ?_ | refine stpK ?_ | refine cnt ?_ | refine cnf ?_ | refine ctl_ne ?_ | refine opt (clp hgl0 cprog_okC (by exact rfl) (g1)) ?_ | refine optD (clp hgl0 cprog_okC (by exact rfl) (g1)) ?_ | refine optK (clp hgl0 cprog_okC (by exact rfl) (g1)) ?_ | refine opt (clp hgl0 cprog_okC (by exact rfl) (g2)) ?_ | refine optD (clp hgl0 cprog_okC (by exact rfl) (g2)) ?_ | refine optK (clp hgl0 cprog_okC (by exact rfl) (g2)) ?_ | refine opt (clp hgl0 cprog_okC (by exact rfl) (g3)) ?_ | refine optD (clp hgl0 cprog_okC (by exact rfl) (g3)) ?_ | refine optK (clp hgl0 cprog_okC (by exact rfl) (g3)) ?_ | refine opt (clp hgl0 cprog_okC (by exact rfl) (set15)) ?_ | refine optD (clp hgl0 cprog_okC (by exact rfl) (set15)) ?_ | refine optK (clp hgl0 cprog_okC (by exact rfl) (set15)) ?_)
          exact ⟨.inr rfl, rfl⟩
      · repeat (first | refine ctl ?_ | refine stp ?_ | refine stpD ?_ | refine stpK ?_ | refine cnt ?_ | refine cnf ?_ | refine ctl_ne ?_ | refine opt (clp hgl0 cprog_okC (by exact rfl) (g1)) ?_ | refine optD (clp hgl0 cprog_okC (by exact rfl) (g1)) ?_ | refine optK (clp hgl0 cprog_okC (by exact rfl) (g1)) ?_ | refine opt (clp hgl0 cprog_okC (by exact rfl) (g2)) ?_ | refine optD (clp hgl0 cprog_okC (by exact rfl) (g2)) ?_ | refine optK (clp hgl0 cprog_okC (by exact rfl) (g2)) ?_ | refine opt (clp hgl0 cprog_okC (by exact rfl) (g3)) ?_ | refine optD (clp hgl0 cprog_okC (by exact rfl) (g3)) ?_ | refine optK (clp hgl0 cprog_okC (by exact rfl) (g3)) ?_ | refine opt (clp hgl0 cprog_okC (by exact rfl) (set15)) ?_ | refine optD (clp hgl0 cprog_okC (by exact rfl) (set15)) ?_ | refine optK (clp hgl0 cprog_okC (by exact rfl) (set15)) ?_)
        exact ⟨.inr rfl, rfl⟩
    · repeat (first | refine ctl ?_ | refine stp ?_ | refine stpD ?_ | refine stpK ?_ | refine cnt ?_ | refine cnf ?_ | refine ctl_ne ?_ | refine opt (clp hgl0 cprog_okC (by exact rfl) (set15)) ?_ | refine optD (clp hgl0 cprog_okC (by exact rfl) (set15)) ?_ | refine optK (clp hgl0 cprog_okC (by exact rfl) (set15)) ?_)
      exact ⟨.inr rfl, rfl⟩
  · repeat (first | refine ctl ?_ | refine stp ?_ | refine stpD ?_ | refine stpK ?_ | refine cnt ?_ | refine cnf ?_ | refine ctl_ne ?_ | refine opt (clp hgl0 cprog_okC (by exact rfl) (set15)) ?_ | refine optD (clp hgl0 cprog_okC (by exact rfl) (set15)) ?_ | refine optK (clp hgl0 cprog_okC (by exact rfl) (set15)) ?_)
    exact ⟨.inr rfl, rfl⟩
end Go.Proofs.YtachdfhodbdoiaaDoor
