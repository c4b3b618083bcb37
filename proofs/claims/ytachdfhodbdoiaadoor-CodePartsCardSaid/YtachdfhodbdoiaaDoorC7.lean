/-
  The reference of code: the instruction at any place of any code, whole. Under no condition.
-/
import Derived.Test.YtachdfhodbdoiaaDoorC6
namespace Go.Proofs.YtachdfhodbdoiaaDoor
open Go Go.Vs
set_option linter.unusedSimpArgs false
set_option linter.unusedVariables false
theorem s12_out (l : List UInt8) (p : Int) (h : ¬ (0 ≤ p ∧ p < l.length)) : Ans cprog gl0 12 [.str l, .int .i64 p] [] (.agg [.int .i64 0, .int .i64 0, .int .i64 0, .int .i64 0, .int .i64 0, .int .i64 1]) [] := by
  refine a12 rfl ?_
  delta k12
  repeat' (first | refine ctl ?_ | refine stp ?_ | refine stpD ?_ | refine stpK ?_ | refine cnt ?_ | refine cnf ?_ | refine ctl_ne ?_ | refine ev_if rfl (fun hc => ?_) (fun hc => ?_) | refine e_gifp rfl (fun hc => ?_) (fun hc => ?_) | refine d_gifp rfl (fun hc => ?_) (fun hc => ?_) | refine ev_ifn rfl (fun hc => ?_) (fun hc => ?_) | refine ev_ifb rfl (fun hc => ?_) (fun hc => ?_) | refine e_gif rfl (fun hc => ?_) (fun hc => ?_) | refine d_gif rfl (fun hc => ?_) (fun hc => ?_))
  all_goals (try (exfalso; omega))
  all_goals
    exact ⟨.inr rfl, rfl⟩
theorem s12_bad (l r : List UInt8) (hL : l.length ≤ 9223372036854775807) (p : Nat) (o : UInt8) (hd : l.drop p = o :: r) (hz : sizeR ((o.toNat : Nat) : Int) = 0 ∨ l.length < p + sizeR ((o.toNat : Nat) : Int)) : Ans cprog gl0 12 [.str l, .int .i64 p] [] (.agg [.int .i64 0, .int .i64 0, .int .i64 0, .int .i64 0, .int .i64 0, .int .i64 4]) [] := by
  refine a12 rfl ?_
  delta k12
  have hl := drop_len hd
  have hg := drop_get hd
  simp only [List.length_cons] at hl
  have g13 := s14 o.toNat
  have bo := o.toNat_lt
  repeat' (first | refine ctl ?_ | refine stp ?_ | refine stpD ?_ | refine stpK ?_ | refine cnt ?_ | refine cnf ?_ | refine ctl_ne ?_ | refine opt (clp hgl0 cprog_okC (by exact rfl) (g13)) ?_ | refine optD (clp hgl0 cprog_okC (by exact rfl) (g13)) ?_ | refine optK (clp hgl0 cprog_okC (by exact rfl) (g13)) ?_ | refine ev_if rfl (fun hc => ?_) (fun hc => ?_) | refine e_gifp rfl (fun hc => ?_) (fun hc => ?_) | refine d_gifp rfl (fun hc => ?_) (fun hc => ?_) | refine ev_ifn rfl (fun hc => ?_) (fun hc => ?_) | refine ev_ifb rfl (fun hc => ?_) (fun hc => ?_) | refine e_gif rfl (fun hc => ?_) (fun hc => ?_) | refine d_gif rfl (fun hc => ?_) (fun hc => ?_))
  all_goals (try (exfalso; omega))
  all_goals
    exact ⟨.inr rfl, rfl⟩
theorem s12 (l : List UInt8) (hL : l.length ≤ 9223372036854775807) (p : Int) : Ans cprog gl0 12 [.str l, .int .i64 p] [] (atR' l p) [] := by
  unfold atR' atS
  by_cases hin : 0 ≤ p ∧ p < l.length
  · rw [if_pos hin]
    obtain ⟨p, rfl⟩ := Int.eq_ofNat_of_zero_le hin.1
    simp only [Int.toNat_natCast]
    have hne : ∃ o r, l.drop p = o :: r := by
      cases h : l.drop p with
      | nil => have := congrArg List.length h; simp at this; omega
      | cons o r => exact ⟨o, r, rfl⟩
    obtain ⟨o, r, hd⟩ := hne
    have hl := drop_len hd
    simp only [List.length_cons] at hl
    rw [hd]
    dsimp only [decT]
    by_cases ho : o.toNat < 21
    · rw [if_pos ho]
      have hsz := size_of o ho
      have hs : shapeN o.toNat = 0 ∨ shapeN o.toNat = 1 ∨ shapeN o.toNat = 2 ∨ shapeN o.toNat = 3 ∨ shapeN o.toNat = 4 := by have := shape_le o.toNat; omega
      rcases hs with hs | hs | hs | hs | hs
      · rw [if_pos hs]
        have := s12_0 l r hL p o hd ho hs
        dsimp only
        by_cases hI : isI (o.toNat : Nat) (0 : Nat) (0 : Nat) (0 : Nat)
        · rw [if_pos hI] at this; rw [if_pos hI, hs]; exact this
        · rw [if_neg hI] at this; rw [if_neg hI]; exact this
      · rw [if_neg (by omega), if_pos hs]
        rw [hs] at hsz
        rcases r with _ | ⟨x, _ | ⟨h, _ | ⟨e, r⟩⟩⟩
        · exact s12_bad l _ hL p o hd (.inr (by rw [hsz]; simp at hl; show _ < _ + 4; omega))
        · exact s12_bad l _ hL p o hd (.inr (by rw [hsz]; simp at hl; show _ < _ + 4; omega))
        · exact s12_bad l _ hL p o hd (.inr (by rw [hsz]; simp at hl; show _ < _ + 4; omega))
        · have := s12_1 l r hL p o x h e hd ho hs
          dsimp only
          by_cases hI : isI (o.toNat : Nat) (x.toNat / 16 : Nat) (x.toNat % 16 : Nat) (h.toNat * 256 + e.toNat : Nat)
          · rw [if_pos hI] at this; rw [if_pos hI, hs]; exact this
          · rw [if_neg hI] at this; rw [if_neg hI]; exact this
      · rw [if_neg (by omega), if_neg (by omega), if_pos hs]
        rw [hs] at hsz
        rcases r with _ | ⟨x, r⟩
        · exact s12_bad l _ hL p o hd (.inr (by rw [hsz]; simp at hl; show _ < _ + 2; omega))
        · have := s12_2 l r hL p o x hd ho hs
          dsimp only
          by_cases hI : isI (o.toNat : Nat) (x.toNat / 16 : Nat) (x.toNat % 16 : Nat) (0 : Nat)
          · rw [if_pos hI] at this; rw [if_pos hI, hs]; exact this
          · rw [if_neg hI] at this; rw [if_neg hI]; exact this
      · rw [if_neg (by omega), if_neg (by omega), if_neg (by omega), if_pos hs]
        rw [hs] at hsz
        rcases r with _ | ⟨h, _ | ⟨e, r⟩⟩
        · exact s12_bad l _ hL p o hd (.inr (by rw [hsz]; simp at hl; show _ < _ + 3; omega))
        · exact s12_bad l _ hL p o hd (.inr (by rw [hsz]; simp at hl; show _ < _ + 3; omega))
        · have := s12_3 l r hL p o h e hd ho hs
          dsimp only
          by_cases hI : isI (o.toNat : Nat) (0 : Nat) (0 : Nat) (h.toNat * 256 + e.toNat : Nat)
          · rw [if_pos hI] at this; rw [if_pos hI, hs]; exact this
          · rw [if_neg hI] at this; rw [if_neg hI]; exact this
      · rw [if_neg (by omega), if_neg (by omega), if_neg (by omega), if_neg (by omega)]
        rw [hs] at hsz
        rcases r with _ | ⟨e, r⟩
        · exact s12_bad l _ hL p o hd (.inr (by rw [hsz]; simp at hl; show _ < _ + 2; omega))
        · have := s12_4 l r hL p o e hd ho hs
          dsimp only
          by_cases hI : isI (o.toNat : Nat) (0 : Nat) (0 : Nat) (e.toNat : Nat)
          · rw [if_pos hI] at this; rw [if_pos hI, hs]; exact this
          · rw [if_neg hI] at this; rw [if_neg hI]; exact this
    · rw [if_neg ho]
      exact s12_bad l r hL p o hd (.inl (by unfold sizeR; rw [if_neg (by omega)]))
  · rw [if_neg hin]
    exact s12_out l p hin
end Go.Proofs.YtachdfhodbdoiaaDoor
