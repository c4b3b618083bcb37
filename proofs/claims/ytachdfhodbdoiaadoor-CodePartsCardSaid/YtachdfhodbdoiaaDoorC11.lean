/-
  Two lists of instructions that are the same: said to be. Under no condition.
-/
import Derived.Test.YtachdfhodbdoiaaDoorC10
namespace Go.Proofs.YtachdfhodbdoiaaDoor
open Go Go.Vs
set_option linter.unusedSimpArgs false
set_option linter.unusedVariables false
theorem get_cells {l : List I4} {i : Nat} {o a b n : Int} (h : i < l.length) (hq : l[i] = (o, a, b, n)) : (l.map cellsI)[((i : Nat) : Int).toNat]? = some [.int .i64 o, .int .i64 a, .int .i64 b, .int .i64 n] := by
  show (l.map cellsI)[i]? = _
  rw [List.getElem?_map, List.getElem?_eq_getElem h, hq]; rfl
theorem s17 (l : List I4) (hL : l.length ≤ 1000) : Ans cprog gl0 17 [.sl (l.map cellsI), .sl (l.map cellsI)] [] (.bool true) [] := by
  refine a17 rfl ?_
  delta k17
  have hlen : (l.map cellsI).length = l.length := by simp
  repeat (first | refine ctl ?_ | refine stp ?_ | refine stpD ?_ | refine stpK ?_ | refine cnt ?_ | refine cnf ?_ | refine ctl_ne ?_)
  rw [hlen]
  refine ev_while1 (L := fun i => [(0, .sl (l.map cellsI)), (1, .sl (l.map cellsI)), (6, .sl (l.map cellsI)), (7, .int .i64 l.length), (8, .int .i64 (i : Nat))]) (S := fun _ => []) (I := fun i => i ≤ l.length) (μ := fun i => l.length - i) ?_ 0 _ (by first | omega | trivial | (repeat' constructor) <;> omega | (simp; done)) (by (repeat' (with_reducible first | exact has_nil | apply has_cons)); all_goals (first | exact rfl | (refine congrArg (PV.int _) ?_; first | omega | (simp; done))))
  rintro i s hi ih
  repeat (first | refine ctl ?_ | refine stp ?_ | refine stpD ?_ | refine stpK ?_ | refine cnt ?_ | refine cnf ?_ | refine ctl_ne ?_)
  refine ev_if rfl (fun hc => ?_) (fun hc => ?_)
  · have hi' : i < l.length := by omega
    obtain ⟨o, a, b, n, hq⟩ : ∃ o a b n, l[i] = (o, a, b, n) := ⟨_, _, _, _, rfl⟩
    have he := get_cells hi' hq
    have hge : ¬ ((i : Nat) : Int) ≥ ((l.map cellsI).length : Nat) := by rw [hlen]; omega
    have hge' : decide (((i : Nat) : Int) ≥ ((l.map cellsI).length : Nat)) = false := decide_eq_false hge
    repeat (first | refine ctl ?_ | refine stp ?_ | refine stpD ?_ | refine stpK ?_ | refine cnt ?_ | refine cnf ?_ | refine ctl_ne ?_)
    (first | refine opt (by exact op_ixa rfl rfl (by omega) he rfl) ?_ | refine optn (by exact op_ixa rfl rfl (by omega) he rfl) ?_ | refine optD (by exact op_ixa rfl rfl (by omega) he rfl) ?_ | refine optnD (by exact op_ixa rfl rfl (by omega) he rfl) ?_ | refine optK (by exact op_ixa rfl rfl (by omega) he rfl) ?_ | refine optnK (by exact op_ixa rfl rfl (by omega) he rfl) ?_)
    (first | refine opt (by exact op_lda (cs := [.int .i64 o, .int .i64 a, .int .i64 b, .int .i64 n]) rfl) ?_ | refine optn (by exact op_lda (cs := [.int .i64 o, .int .i64 a, .int .i64 b, .int .i64 n]) rfl) ?_ | refine optD (by exact op_lda (cs := [.int .i64 o, .int .i64 a, .int .i64 b, .int .i64 n]) rfl) ?_ | refine optnD (by exact op_lda (cs := [.int .i64 o, .int .i64 a, .int .i64 b, .int .i64 n]) rfl) ?_ | refine optK (by exact op_lda (cs := [.int .i64 o, .int .i64 a, .int .i64 b, .int .i64 n]) rfl) ?_ | refine optnK (by exact op_lda (cs := [.int .i64 o, .int .i64 a, .int .i64 b, .int .i64 n]) rfl) ?_)
    repeat (first | refine ctl ?_ | refine stp ?_ | refine stpD ?_ | refine stpK ?_ | refine cnt ?_ | refine cnf ?_ | refine ctl_ne ?_)
    (first | refine opt (by exact op_ixa rfl rfl (by omega) he rfl) ?_ | refine optn (by exact op_ixa rfl rfl (by omega) he rfl) ?_ | refine optD (by exact op_ixa rfl rfl (by omega) he rfl) ?_ | refine optnD (by exact op_ixa rfl rfl (by omega) he rfl) ?_ | refine optK (by exact op_ixa rfl rfl (by omega) he rfl) ?_ | refine optnK (by exact op_ixa rfl rfl (by omega) he rfl) ?_)
    (first | refine opt (by exact op_lda (cs := [.int .i64 o, .int .i64 a, .int .i64 b, .int .i64 n]) rfl) ?_ | refine optn (by exact op_lda (cs := [.int .i64 o, .int .i64 a, .int .i64 b, .int .i64 n]) rfl) ?_ | refine optD (by exact op_lda (cs := [.int .i64 o, .int .i64 a, .int .i64 b, .int .i64 n]) rfl) ?_ | refine optnD (by exact op_lda (cs := [.int .i64 o, .int .i64 a, .int .i64 b, .int .i64 n]) rfl) ?_ | refine optK (by exact op_lda (cs := [.int .i64 o, .int .i64 a, .int .i64 b, .int .i64 n]) rfl) ?_ | refine optnK (by exact op_lda (cs := [.int .i64 o, .int .i64 a, .int .i64 b, .int .i64 n]) rfl) ?_)
    (first | refine opt (by exact op_neqs rfl rfl (eq4 _ _ _ _)) ?_ | refine optn (by exact op_neqs rfl rfl (eq4 _ _ _ _)) ?_ | refine optD (by exact op_neqs rfl rfl (eq4 _ _ _ _)) ?_ | refine optnD (by exact op_neqs rfl rfl (eq4 _ _ _ _)) ?_ | refine optK (by exact op_neqs rfl rfl (eq4 _ _ _ _)) ?_ | refine optnK (by exact op_neqs rfl rfl (eq4 _ _ _ _)) ?_)
    repeat (first | refine ctl ?_ | refine stp ?_ | refine stpD ?_ | refine stpK ?_ | refine cnt ?_ | refine cnf ?_ | refine ctl_ne ?_)
    refine again_n (ih (i + 1) _ (by omega) (by omega) ?_); (repeat' (with_reducible first | exact has_nil | apply has_cons)); all_goals (first | exact rfl | (refine congrArg (PV.int _) ?_; first | omega | skip) | skip)
  · have : i = l.length := by omega
    subst this
    repeat (first | refine ctl ?_ | refine stp ?_ | refine stpD ?_ | refine stpK ?_ | refine cnt ?_ | refine cnf ?_ | refine ctl_ne ?_)
    refine left_v ⟨.inr rfl, rfl⟩ ?_
    exact congrArg PV.bool (decide_eq_true rfl)
end Go.Proofs.YtachdfhodbdoiaaDoor
