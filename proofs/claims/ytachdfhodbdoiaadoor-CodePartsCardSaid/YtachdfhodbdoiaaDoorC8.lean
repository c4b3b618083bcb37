/-
  Two laws of code: CodeInsts, CodeBack. Under no condition.
-/
import Derived.Test.YtachdfhodbdoiaaDoorC7
namespace Go.Proofs.YtachdfhodbdoiaaDoor
open Go Go.Vs
set_option linter.unusedSimpArgs false
set_option linter.unusedVariables false
theorem bytesI_form (o a b n : Int) : ∃ l e, bytesI o a b n = .tup [.str l, .int .i64 e] := by
  unfold bytesI
  split
  · exact ⟨_, _, rfl⟩
  · exact ⟨_, _, rfl⟩
theorem at_forms (l : List UInt8) (p : Int) : ∃ o a b n q e : Int, atR l p = .tup [.agg [.int .i64 o, .int .i64 a, .int .i64 b, .int .i64 n], .int .i64 q, .int .i64 e] ∧ atR' l p = .agg [.int .i64 o, .int .i64 a, .int .i64 b, .int .i64 n, .int .i64 q, .int .i64 e] := by
  unfold atR atR'
  cases atS l p with
  | bad e => exact ⟨_, _, _, _, _, _, rfl, rfl⟩
  | good o a b n q => exact ⟨_, _, _, _, _, _, rfl, rfl⟩
theorem eq4 (o a b n : Int) : eqCells [1, 1, 1, 1] [.int .i64 o, .int .i64 a, .int .i64 b, .int .i64 n] [.int .i64 o, .int .i64 a, .int .i64 b, .int .i64 n] = some true := by simp [eqCells, eqCell]
theorem law3 (o a b n : Int) (l : List UInt8) (p : Int) (hL : l.length ≤ 9223372036854775807) : Ans cprog gl0 3 [.agg [.int .i64 o, .int .i64 a, .int .i64 b, .int .i64 n], .str l, .int .i64 p] [] (.bool true) [] := by
  refine a3 rfl ?_
  delta k3
  have h1 := s8 o a b n
  have h2 := s9 o a b n
  have h3 := s11 l hL p
  have h4 := s12 l hL p
  have h5 := s13 o
  have h6 := s14 o
  obtain ⟨x, e, hb⟩ := bytesI_form o a b n
  obtain ⟨o', a', b', n', q, e', hc, hc'⟩ := at_forms l p
  rw [hb] at h1 h2
  rw [hc] at h3
  rw [hc'] at h4
  have h10 := s10 o a b n
  have h10' := s10 o' a' b' n'
  repeat (first | refine ctl ?_ | refine stp ?_ | refine stpD ?_ | refine stpK ?_ | refine cnt ?_ | refine cnf ?_ | refine ctl_ne ?_ | refine opt (clp hgl0 cprog_okC (by exact rfl) (h1)) ?_ | refine optD (clp hgl0 cprog_okC (by exact rfl) (h1)) ?_ | refine optK (clp hgl0 cprog_okC (by exact rfl) (h1)) ?_ | refine opt (clp hgl0 cprog_okC (by exact rfl) (h2)) ?_ | refine optD (clp hgl0 cprog_okC (by exact rfl) (h2)) ?_ | refine optK (clp hgl0 cprog_okC (by exact rfl) (h2)) ?_ | refine opt (clp hgl0 cprog_okC (by exact rfl) (h3)) ?_ | refine optD (clp hgl0 cprog_okC (by exact rfl) (h3)) ?_ | refine optK (clp hgl0 cprog_okC (by exact rfl) (h3)) ?_ | refine opt (clp hgl0 cprog_okC (by exact rfl) (h4)) ?_ | refine optD (clp hgl0 cprog_okC (by exact rfl) (h4)) ?_ | refine optK (clp hgl0 cprog_okC (by exact rfl) (h4)) ?_ | refine opt (clp hgl0 cprog_okC (by exact rfl) (h10)) ?_ | refine optD (clp hgl0 cprog_okC (by exact rfl) (h10)) ?_ | refine optK (clp hgl0 cprog_okC (by exact rfl) (h10)) ?_ | refine opt (clp hgl0 cprog_okC (by exact rfl) (h10')) ?_ | refine optD (clp hgl0 cprog_okC (by exact rfl) (h10')) ?_ | refine optK (clp hgl0 cprog_okC (by exact rfl) (h10')) ?_ | refine opt (clp hgl0 cprog_okC (by exact rfl) (h5)) ?_ | refine optD (clp hgl0 cprog_okC (by exact rfl) (h5)) ?_ | refine optK (clp hgl0 cprog_okC (by exact rfl) (h5)) ?_ | refine opt (clp hgl0 cprog_okC (by exact rfl) (h6)) ?_ | refine optD (clp hgl0 cprog_okC (by exact rfl) (h6)) ?_ | refine optK (clp hgl0 cprog_okC (by exact rfl) (h6)) ?_ | refine opt (clp hgl0 cprog_okC (by exact rfl) (set15)) ?_ | refine optD (clp hgl0 cprog_okC (by exact rfl) (set15)) ?_ | refine optK (clp hgl0 cprog_okC (by exact rfl) (set15)) ?_)
  (first | refine opt (by exact op_eqs rfl rfl (eq4 _ _ _ _)) ?_ | refine optn (by exact op_eqs rfl rfl (eq4 _ _ _ _)) ?_ | refine optD (by exact op_eqs rfl rfl (eq4 _ _ _ _)) ?_ | refine optnD (by exact op_eqs rfl rfl (eq4 _ _ _ _)) ?_ | refine optK (by exact op_eqs rfl rfl (eq4 _ _ _ _)) ?_ | refine optnK (by exact op_eqs rfl rfl (eq4 _ _ _ _)) ?_)
  repeat (first | refine ctl ?_ | refine stp ?_ | refine stpD ?_ | refine stpK ?_ | refine cnt ?_ | refine cnf ?_ | refine ctl_ne ?_ | refine opt (clp hgl0 cprog_okC (by exact rfl) (h1)) ?_ | refine optD (clp hgl0 cprog_okC (by exact rfl) (h1)) ?_ | refine optK (clp hgl0 cprog_okC (by exact rfl) (h1)) ?_ | refine opt (clp hgl0 cprog_okC (by exact rfl) (h2)) ?_ | refine optD (clp hgl0 cprog_okC (by exact rfl) (h2)) ?_ | refine optK (clp hgl0 cprog_okC (by exact rfl) (h2)) ?_ | refine opt (clp hgl0 cprog_okC (by exact rfl) (h3)) ?_ | refine optD (clp hgl0 cprog_okC (by exact rfl) (h3)) ?_ | refine optK (clp hgl0 cprog_okC (by exact rfl) (h3)) ?_ | refine opt (clp hgl0 cprog_okC (by exact rfl) (h4)) ?_ | refine optD (clp hgl0 cprog_okC (by exact rfl) (h4)) ?_ | refine optK (clp hgl0 cprog_okC (by exact rfl) (h4)) ?_ | refine opt (clp hgl0 cprog_okC (by exact rfl) (h10)) ?_ | refine optD (clp hgl0 cprog_okC (by exact rfl) (h10)) ?_ | refine optK (clp hgl0 cprog_okC (by exact rfl) (h10)) ?_ | refine opt (clp hgl0 cprog_okC (by exact rfl) (h10')) ?_ | refine optD (clp hgl0 cprog_okC (by exact rfl) (h10')) ?_ | refine optK (clp hgl0 cprog_okC (by exact rfl) (h10')) ?_ | refine opt (clp hgl0 cprog_okC (by exact rfl) (h5)) ?_ | refine optD (clp hgl0 cprog_okC (by exact rfl) (h5)) ?_ | refine optK (clp hgl0 cprog_okC (by exact rfl) (h5)) ?_ | refine opt (clp hgl0 cprog_okC (by exact rfl) (h6)) ?_ | refine optD (clp hgl0 cprog_okC (by exact rfl) (h6)) ?_ | refine optK (clp hgl0 cprog_okC (by exact rfl) (h6)) ?_ | refine opt (clp hgl0 cprog_okC (by exact rfl) (set15)) ?_ | refine optD (clp hgl0 cprog_okC (by exact rfl) (set15)) ?_ | refine optK (clp hgl0 cprog_okC (by exact rfl) (set15)) ?_)
  exact ⟨.inr rfl, rfl⟩
end Go.Proofs.YtachdfhodbdoiaaDoor
