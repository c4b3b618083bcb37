/-
  Lists of instructions: as the references have them; whether two are equal. Under no condition.
-/
import Derived.Test.YtachdfhodbdoiaaDoorC9
import Derived.Test.YtachdfhodbdoiaaDoorVsSg
namespace Go.Proofs.YtachdfhodbdoiaaDoor
open Go Go.Vs
set_option linter.unusedSimpArgs false
set_option linter.unusedVariables false
abbrev I4 := Int × Int × Int × Int
def cellsI (i : I4) : List PV := [.int .i64 i.1, .int .i64 i.2.1, .int .i64 i.2.2.1, .int .i64 i.2.2.2]
theorem s18 (l : List I4) (hL : l.length ≤ 1000) : Ans cprog gl0 18 [.sl (l.map cellsI)] [] (.sl (l.map cellsI)) [] := by
  refine a18 rfl ?_
  delta k18
  have hlen : (l.map cellsI).length = l.length := by simp
  repeat (first | refine ctl ?_ | refine stp ?_ | refine stpD ?_ | refine stpK ?_ | refine cnt ?_ | refine cnf ?_ | refine ctl_ne ?_)
  rw [hlen]
  refine ev_while3 (L := fun (i : Nat) (v : PV) (_ : Store) => [(6, .sl (l.map cellsI)), (7, .int .i64 l.length), (8, .int .i64 i), (3, v)]) (S := fun _ _ st => st) (I := fun i v st => i ≤ l.length ∧ OutIs st v ((l.take i).map cellsI) 4 29) (μ := fun i _ _ => l.length - i) ?_ 0 .nilsl [] _ ⟨Nat.zero_le _, OutIs.nil⟩ ⟨rfl, rfl, rfl, rfl, trivial⟩
  rintro i v st s ⟨hi, hout⟩ ih
  repeat (first | refine ctl ?_ | refine stp ?_ | refine stpD ?_ | refine stpK ?_ | refine cnt ?_ | refine cnf ?_ | refine ctl_ne ?_)
  refine ev_if rfl (fun hc => ?_) (fun hc => ?_)
  · have hi' : i < l.length := by omega
    obtain ⟨o, a, b, n, hq⟩ : ∃ o a b n, l[i] = (o, a, b, n) := ⟨_, _, _, _, rfl⟩
    have he : (l.map cellsI)[((i : Nat) : Int).toNat]? = some [.int .i64 o, .int .i64 a, .int .i64 b, .int .i64 n] := by
      show (l.map cellsI)[i]? = _
      rw [List.getElem?_map, List.getElem?_eq_getElem hi', hq]; rfl
    repeat (first | refine ctl ?_ | refine stp ?_ | refine stpD ?_ | refine stpK ?_ | refine cnt ?_ | refine cnf ?_ | refine ctl_ne ?_)
    (first | refine opt (by exact op_ixa rfl rfl (by omega) he rfl) ?_ | refine optn (by exact op_ixa rfl rfl (by omega) he rfl) ?_ | refine optD (by exact op_ixa rfl rfl (by omega) he rfl) ?_ | refine optnD (by exact op_ixa rfl rfl (by omega) he rfl) ?_ | refine optK (by exact op_ixa rfl rfl (by omega) he rfl) ?_ | refine optnK (by exact op_ixa rfl rfl (by omega) he rfl) ?_)
    (first | refine opt (by exact op_lda (cs := [.int .i64 o, .int .i64 a, .int .i64 b, .int .i64 n]) rfl) ?_ | refine optn (by exact op_lda (cs := [.int .i64 o, .int .i64 a, .int .i64 b, .int .i64 n]) rfl) ?_ | refine optD (by exact op_lda (cs := [.int .i64 o, .int .i64 a, .int .i64 b, .int .i64 n]) rfl) ?_ | refine optnD (by exact op_lda (cs := [.int .i64 o, .int .i64 a, .int .i64 b, .int .i64 n]) rfl) ?_ | refine optK (by exact op_lda (cs := [.int .i64 o, .int .i64 a, .int .i64 b, .int .i64 n]) rfl) ?_ | refine optnK (by exact op_lda (cs := [.int .i64 o, .int .i64 a, .int .i64 b, .int .i64 n]) rfl) ?_)
    (first | refine opt (by exact op_allocG) ?_ | refine optn (by exact op_allocG) ?_ | refine optD (by exact op_allocG) ?_ | refine optnD (by exact op_allocG) ?_ | refine optK (by exact op_allocG) ?_ | refine optnK (by exact op_allocG) ?_)
    (first | refine opt (by exact op_stG rfl rfl rfl rfl get_last (by decide)) ?_ | refine optn (by exact op_stG rfl rfl rfl rfl get_last (by decide)) ?_ | refine optD (by exact op_stG rfl rfl rfl rfl get_last (by decide)) ?_ | refine optnD (by exact op_stG rfl rfl rfl rfl get_last (by decide)) ?_ | refine optK (by exact op_stG rfl rfl rfl rfl get_last (by decide)) ?_ | refine optnK (by exact op_stG rfl rfl rfl rfl get_last (by decide)) ?_)
    rw [set_last]
    repeat (first | refine ctl ?_ | refine stp ?_ | refine stpD ?_ | refine stpK ?_ | refine cnt ?_ | refine cnf ?_ | refine ctl_ne ?_)
    (first | refine opt (by exact op_movG (v := v) rfl) ?_ | refine optn (by exact op_movG (v := v) rfl) ?_ | refine optD (by exact op_movG (v := v) rfl) ?_ | refine optnD (by exact op_movG (v := v) rfl) ?_ | refine optK (by exact op_movG (v := v) rfl) ?_ | refine optnK (by exact op_movG (v := v) rfl) ?_)
    refine opt (op_ldaG (id := st.length) (off := 0) (cs := [.int .i64 o, .int .i64 a, .int .i64 b, .int .i64 n]) rfl get_last (by simp)) ?_
    have h10 := s10 o a b n
    repeat (first | refine ctl ?_ | refine stp ?_ | refine stpD ?_ | refine stpK ?_ | refine cnt ?_ | refine cnf ?_ | refine ctl_ne ?_ | refine opt (clp hgl0 cprog_okC (by exact rfl) (h10)) ?_ | refine optD (clp hgl0 cprog_okC (by exact rfl) (h10)) ?_ | refine optK (clp hgl0 cprog_okC (by exact rfl) (h10)) ?_)
    have hnext : (l.take i).map cellsI ++ [[.int .i64 o, .int .i64 a, .int .i64 b, .int .i64 n]] = (l.take (i + 1)).map cellsI := by
      rw [← List.take_append_getElem hi', hq]; simp [cellsI]
    refine opt_app rfl ((hout.more _).more _) (src_last rfl) rfl (by decide) ?_ ?_ (fun v' st' h1 h2 h3 => ?_)
    · simp; omega
    · simp; omega
    have h1 : OutIs st' v' ((l.take i).map cellsI ++ [[.int .i64 o, .int .i64 a, .int .i64 b, .int .i64 n]]) 4 29 := h1
    rw [hnext] at h1
    (first | refine opt (by exact op_movG (v := v') rfl) ?_ | refine optn (by exact op_movG (v := v') rfl) ?_ | refine optD (by exact op_movG (v := v') rfl) ?_ | refine optnD (by exact op_movG (v := v') rfl) ?_ | refine optK (by exact op_movG (v := v') rfl) ?_ | refine optnK (by exact op_movG (v := v') rfl) ?_)
    repeat (first | refine ctl ?_ | refine stp ?_ | refine stpD ?_ | refine stpK ?_ | refine cnt ?_ | refine cnf ?_ | refine ctl_ne ?_)
    exact again_n (ih (i + 1) v' st' _ ⟨by omega, h1⟩ (by omega) ⟨rfl, rfl, rfl, rfl, trivial⟩)
  · have : i = l.length := by omega
    subst this
    rw [List.take_length] at hout
    repeat (first | refine ctl ?_ | refine stp ?_ | refine stpD ?_ | refine stpK ?_ | refine cnt ?_ | refine cnf ?_ | refine ctl_ne ?_)
    (first | refine opt (by exact op_movG (v := v) rfl) ?_ | refine optn (by exact op_movG (v := v) rfl) ?_ | refine optD (by exact op_movG (v := v) rfl) ?_ | refine optnD (by exact op_movG (v := v) rfl) ?_ | refine optK (by exact op_movG (v := v) rfl) ?_ | refine optnK (by exact op_movG (v := v) rfl) ?_)
    (first | refine opt (by exact op_movG (v := v) rfl) ?_ | refine optn (by exact op_movG (v := v) rfl) ?_ | refine optD (by exact op_movG (v := v) rfl) ?_ | refine optnD (by exact op_movG (v := v) rfl) ?_ | refine optK (by exact op_movG (v := v) rfl) ?_ | refine optnK (by exact op_movG (v := v) rfl) ?_)
    repeat (first | refine ctl ?_ | refine stp ?_ | refine stpD ?_ | refine stpK ?_ | refine cnt ?_ | refine cnf ?_ | refine ctl_ne ?_)
    refine left_out (i := 2) (v := v) rfl hout ?_
    simp [cellsI, ref1, ref0]
end Go.Proofs.YtachdfhodbdoiaaDoor
