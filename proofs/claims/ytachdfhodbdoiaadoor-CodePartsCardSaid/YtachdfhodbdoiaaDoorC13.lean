/-
  All instructions of a code: the walk. Under no condition.
-/
import Derived.Test.YtachdfhodbdoiaaDoorC12
namespace Go.Proofs.YtachdfhodbdoiaaDoor
open Go Go.Vs
set_option linter.unusedSimpArgs false
set_option linter.unusedVariables false
theorem s16 (l : List UInt8) (hL : l.length ≤ 9223372036854775807) : Ans cprog gl0 16 [.str l] [] (.tup [.sl ((allR l).1.map cellsI), .int .i64 (allR l).2]) [] := by
  refine a16 rfl ?_
  delta k16
  have h11 := fun p => s11 l hL p
  repeat (first | refine ctl ?_ | refine stp ?_ | refine stpD ?_ | refine stpK ?_ | refine cnt ?_ | refine cnf ?_ | refine ctl_ne ?_)
  refine ev_if rfl (fun hc => ?_) (fun hc => ?_)
  · have : allR l = ([], 2) := by unfold allR; rw [if_neg (by omega)]
    rw [this]
    repeat (first | refine ctl ?_ | refine stp ?_ | refine stpD ?_ | refine stpK ?_ | refine cnt ?_ | refine cnf ?_ | refine ctl_ne ?_)
    exact ⟨.inr rfl, rfl⟩
  · have hall : allR l = (match decF l.length l with | some is => (is, 0) | none => ([], 4)) := by unfold allR; rw [if_pos (by omega)]; rfl
    repeat (first | refine ctl ?_ | refine stp ?_ | refine stpD ?_ | refine stpK ?_ | refine cnt ?_ | refine cnf ?_ | refine ctl_ne ?_)
    refine ev_while4 (L := fun (p : Nat) (v : PV) (_ : Store) (_ : List I4) => [(0, .str l), (4, v), (5, .int .i64 (p : Nat))]) (S := fun _ _ st _ => st) (I := fun p v st acc => p ≤ l.length ∧ acc.length ≤ p ∧ OutIs st v (acc.map cellsI) 4 23 ∧ ∃ f, l.length - p ≤ f ∧ decF l.length l = (decF f (l.drop p)).map (acc ++ ·)) (μ := fun p _ _ _ => l.length - p) ?_ 0 .nilsl [] [] _ ⟨Nat.zero_le _, Nat.le_refl _, OutIs.nil, l.length, by omega, by simp⟩ ⟨rfl, rfl, rfl, trivial⟩
    rintro p v st acc s ⟨hp, hacc, hout, f, hf, hdec⟩ ih
    repeat (first | refine ctl ?_ | refine stp ?_ | refine stpD ?_ | refine stpK ?_ | refine cnt ?_ | refine cnf ?_ | refine ctl_ne ?_)
    refine ev_if rfl (fun hc => ?_) (fun hc => ?_)
    · have hp' : p < l.length := by omega
      have hne : l.drop p ≠ [] := by intro h; have := congrArg List.length h; simp at this; omega
      obtain ⟨d1, d2⟩ := at_dec hp'
      cases hd : dec1 (l.drop p) with
      | none =>
        have h := h11 (p : Nat)
        rw [d2 hd] at h
        rw [decF_none hne hd] at hdec
        rw [hdec] at hall
        rw [hall]
        repeat (first | refine ctl ?_ | refine stp ?_ | refine stpD ?_ | refine stpK ?_ | refine cnt ?_ | refine cnf ?_ | refine ctl_ne ?_ | refine opt (clp hgl0 cprog_okC (by exact rfl) (h)) ?_ | refine optD (clp hgl0 cprog_okC (by exact rfl) (h)) ?_ | refine optK (clp hgl0 cprog_okC (by exact rfl) (h)) ?_)
        (first | refine opt (by exact op_allocG) ?_ | refine optn (by exact op_allocG) ?_ | refine optD (by exact op_allocG) ?_ | refine optnD (by exact op_allocG) ?_ | refine optK (by exact op_allocG) ?_ | refine optnK (by exact op_allocG) ?_)
        (first | refine opt (by exact op_stG rfl rfl rfl rfl get_last (by simp)) ?_ | refine optn (by exact op_stG rfl rfl rfl rfl get_last (by simp)) ?_ | refine optD (by exact op_stG rfl rfl rfl rfl get_last (by simp)) ?_ | refine optnD (by exact op_stG rfl rfl rfl rfl get_last (by simp)) ?_ | refine optK (by exact op_stG rfl rfl rfl rfl get_last (by simp)) ?_ | refine optnK (by exact op_stG rfl rfl rfl rfl get_last (by simp)) ?_)
        rw [set_last]
        repeat (first | refine ctl ?_ | refine stp ?_ | refine stpD ?_ | refine stpK ?_ | refine cnt ?_ | refine cnf ?_ | refine ctl_ne ?_)
        exact ⟨.inr rfl, rfl⟩
      | some r =>
        obtain ⟨⟨o, a, b, n⟩, k⟩ := r
        have h := h11 (p : Nat)
        rw [d1 o a b n k hd] at h
        obtain ⟨k1, k2, -⟩ := dec1_len hd
        rw [List.length_drop] at k2
        obtain ⟨f, rfl⟩ : ∃ f', f = f' + 1 := ⟨f - 1, by omega⟩
        rw [decF_some hne hd] at hdec
        repeat (first | refine ctl ?_ | refine stp ?_ | refine stpD ?_ | refine stpK ?_ | refine cnt ?_ | refine cnf ?_ | refine ctl_ne ?_ | refine opt (clp hgl0 cprog_okC (by exact rfl) (h)) ?_ | refine optD (clp hgl0 cprog_okC (by exact rfl) (h)) ?_ | refine optK (clp hgl0 cprog_okC (by exact rfl) (h)) ?_)
        (first | refine opt (by exact op_allocG) ?_ | refine optn (by exact op_allocG) ?_ | refine optD (by exact op_allocG) ?_ | refine optnD (by exact op_allocG) ?_ | refine optK (by exact op_allocG) ?_ | refine optnK (by exact op_allocG) ?_)
        (first | refine opt (by exact op_stG rfl rfl rfl rfl get_last (by simp)) ?_ | refine optn (by exact op_stG rfl rfl rfl rfl get_last (by simp)) ?_ | refine optD (by exact op_stG rfl rfl rfl rfl get_last (by simp)) ?_ | refine optnD (by exact op_stG rfl rfl rfl rfl get_last (by simp)) ?_ | refine optK (by exact op_stG rfl rfl rfl rfl get_last (by simp)) ?_ | refine optnK (by exact op_stG rfl rfl rfl rfl get_last (by simp)) ?_)
        rw [set_last]
        repeat (first | refine ctl ?_ | refine stp ?_ | refine stpD ?_ | refine stpK ?_ | refine cnt ?_ | refine cnf ?_ | refine ctl_ne ?_)
        (first | refine opt (by exact op_movG (v := v) rfl) ?_ | refine optn (by exact op_movG (v := v) rfl) ?_ | refine optD (by exact op_movG (v := v) rfl) ?_ | refine optnD (by exact op_movG (v := v) rfl) ?_ | refine optK (by exact op_movG (v := v) rfl) ?_ | refine optnK (by exact op_movG (v := v) rfl) ?_)
        refine opt (op_ldaG (id := st.length) (off := 0) (cs := [.int .i64 o, .int .i64 a, .int .i64 b, .int .i64 n]) rfl get_last (by simp)) ?_
        repeat (first | refine ctl ?_ | refine stp ?_ | refine stpD ?_ | refine stpK ?_ | refine cnt ?_ | refine cnf ?_ | refine ctl_ne ?_)
        refine opt_app rfl ((hout.more _).more _) (src_last rfl) rfl (by decide) ?_ ?_ (fun v' st' h1 h2 h3 => ?_)
        · simp; omega
        · simp; omega
        have h1 : OutIs st' v' ((acc ++ [(o, a, b, n)]).map cellsI) 4 23 := by rw [List.map_append]; exact h1
        (first | refine opt (by exact op_movG (v := v') rfl) ?_ | refine optn (by exact op_movG (v := v') rfl) ?_ | refine optD (by exact op_movG (v := v') rfl) ?_ | refine optnD (by exact op_movG (v := v') rfl) ?_ | refine optK (by exact op_movG (v := v') rfl) ?_ | refine optnK (by exact op_movG (v := v') rfl) ?_)
        repeat (first | refine ctl ?_ | refine stp ?_ | refine stpD ?_ | refine stpK ?_ | refine cnt ?_ | refine cnf ?_ | refine ctl_ne ?_)
        refine again_n (ih (p + k) v' st' (acc ++ [(o, a, b, n)]) _ ⟨by omega, by simp; omega, h1, f, by omega, ?_⟩ (by omega) ⟨rfl, rfl, rfl, trivial⟩)
        rw [hdec, List.drop_drop]
        cases decF f (l.drop (p + k)) <;> simp
    · have : p = l.length := by omega
      subst this
      rw [List.drop_length, decF_nil] at hdec
      have hall : allR l = (acc, 0) := by rw [hall, hdec]; simp
      rw [hall]
      repeat (first | refine ctl ?_ | refine stp ?_ | refine stpD ?_ | refine stpK ?_ | refine cnt ?_ | refine cnf ?_ | refine ctl_ne ?_)
      (first | refine opt (by exact op_movG (v := v) rfl) ?_ | refine optn (by exact op_movG (v := v) rfl) ?_ | refine optD (by exact op_movG (v := v) rfl) ?_ | refine optnD (by exact op_movG (v := v) rfl) ?_ | refine optK (by exact op_movG (v := v) rfl) ?_ | refine optnK (by exact op_movG (v := v) rfl) ?_)
      (first | refine opt (by exact op_movG (v := v) rfl) ?_ | refine optn (by exact op_movG (v := v) rfl) ?_ | refine optD (by exact op_movG (v := v) rfl) ?_ | refine optnD (by exact op_movG (v := v) rfl) ?_ | refine optK (by exact op_movG (v := v) rfl) ?_ | refine optnK (by exact op_movG (v := v) rfl) ?_)
      repeat (first | refine ctl ?_ | refine stp ?_ | refine stpD ?_ | refine stpK ?_ | refine cnt ?_ | refine cnf ?_ | refine ctl_ne ?_)
      exact left_out2 (i := 2) (j := 3) (v := v) (u := .int .i64 0) rfl rfl hout (by simp [cellsI, ref1, ref0]) (fun _ => rfl) rfl
end Go.Proofs.YtachdfhodbdoiaaDoor
