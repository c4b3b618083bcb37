/-
  The law CodeInsts of code: for every input it answers true and leaves its arguments as they were; under the condition that its row lists: the tables shapes and sizes hold what the program's text lays.
-/
import Derived.Test.YtachdfhodbdoiaaDoorCRh
namespace Go.Proofs.YtachdfhodbdoiaaDoor
open Go Go.ChangeShapes Go.WideShapes Go.ChangeAt Go.RowKit Go.Vs
set_option linter.unusedSimpArgs false
set_option linter.unusedVariables false
set_option maxRecDepth 100000 in
theorem codeInsts_law : ∀ pvs, ArgsTy Tryd.prog Tryd.f3.params.toList pvs → Ans cprog gl0 3 pvs [] (.bool true) [] := by
  intro pvs h
  rw [show Tryd.f3.params.toList = [23, 9, 3] by kernel_rfl] at h
  obtain ⟨q0, _, rfl, g0, h⟩ := h.cons_inv
  obtain ⟨q1, _, rfl, g1, h⟩ := h.cons_inv
  obtain ⟨q2, _, rfl, g2, h⟩ := h.cons_inv
  obtain rfl := h.nil_inv
  obtain ⟨l, rfl, a1⟩ := arg_str Tryd.underlying9 g1
  obtain ⟨p, rfl, _⟩ := arg_int Tryd.underlying3 g2
  obtain ⟨n0, cs, rfl, y0⟩ := arg_struct Tryd.underlying23 g0
  have c3 : Tryd.prog.cellsOf 3 = 1 := by kernel_rfl
  have l0 := y0.struct_len Tryd.underlying23
  rw [show Tryd.prog.cellsOf 23 = 4 by kernel_rfl] at l0
  obtain ⟨o, e0, _⟩ := Ty.field_int Tryd.underlying23 y0 (i := 0) rfl Tryd.underlying3 c3
  obtain ⟨a, e1, _⟩ := Ty.field_int Tryd.underlying23 y0 (i := 1) rfl Tryd.underlying3 c3
  obtain ⟨b, e2, _⟩ := Ty.field_int Tryd.underlying23 y0 (i := 2) rfl Tryd.underlying3 c3
  obtain ⟨n, e3, _⟩ := Ty.field_int Tryd.underlying23 y0 (i := 3) rfl Tryd.underlying3 c3
  match cs, l0, e0, e1, e2, e3 with
  | [_, _, _, _], _, e0, e1, e2, e3 =>
    cases e0; cases e1; cases e2; cases e3
    exact law3 o a b n l p (Nat.le_trans a1 (by decide))
set_option maxRecDepth 100000 in
theorem codeInsts_lifted (os : Os) (started : os.Started) (H : Type) (enc : TypeId × Value → H) :
    ReturnsInHanded {} Tryd.checked os 3 .any (fun w args => (Rows.codeInstsSpec.pre enc Tryd.prog Tryd.f3 [] false w args ∧ laidMetH Tryd.prog tabl w) ∧ sizedMet enc Tryd.prog Tryd.f3 (OpenSpec.ofChange Rows.codeInstsSpec) false w args) (Rows.codeInstsSpec.post enc Tryd.prog Tryd.f3 false true false false) :=
  lifted os started H enc (s := Rows.codeInstsSpec) (by kernel_rfl) Tryd.func3 (cf := c3) rfl rfl
    (ChangeSpec.witness_shaped (enc := enc) (C := Tryd.checked) (os := os) (X := fun w _ => laidMetH Tryd.prog tabl w) false (World.doorLaid Tryd.prog 400 os) #[.agg #[.int .i64 0, .int .i64 0, .int .i64 0, .int .i64 0], .string ⟨#[]⟩, .int .i64 0] 8 rfl (World.shaped_of_RefB (by kernel_rfl) (by kernel_rfl)) (by kernel_rfl) (by kernel_rfl) (by kernel_rfl) (door_met os _))
    (by kernel_rfl) (by kernel_rfl) rfl (fun ds h => by match ds, h with | [_, _, _], _ => rfl) codeInsts_law
theorem codeInsts_holds : Rows.CodeInstsSaid :=
  OpenClaim.holds_of_wide 3 Tryd.f3 rfl rfl rfl rfl rfl rfl rfl ⟨rfl, rfl, rfl, rfl, rfl⟩ rfl rfl rfl rfl rfl (by kernel_rfl) Tryd.func3 (by kernel_rfl)
    (of_decide_eq_true (by kernel_rfl)) (by unfold Func.isWrapper; first | (rw [if_pos (by decide +kernel)]; kernel_rfl) | (rw [if_neg (by decide +kernel)]; exact ⟨rfl, rfl⟩))
    (fun os started H enc _ => codeInsts_lifted os started H enc)
theorem codeInsts_card : Rows.CodeInstsCardSaid :=
  Claim7.holds_tied_plain_at .later [] [.data, .data] true (true, "2f062a83339f5afb031b3531ce6d222e8caddfeac6509b9791c43ad5ae27d162") false
    codeInsts_holds (fun _ h => by cases h) (by kernel_rfl) (fun _ h => by cases h) codeInsts_row_tie rfl ⟨rfl, rfl⟩ (by kernel_rfl) rfl
    (fun f fn hf hfn => by
      obtain rfl : f = 3 := Option.some.inj ((show Tryd.prog.funcNamed "imago/imagolaw05.CodeInsts" = some 3 by kernel_rfl).symm.trans hf) |>.symm
      obtain rfl : fn = Tryd.f3 := (Option.some.inj (Tryd.func3.symm.trans hfn)).symm
      exact ⟨by kernel_rfl, fun j t ht => by
        have hm : t ∈ Tryd.f3.params.toList := Array.mem_toList_iff.2 (Array.mem_of_getElem? ht)
        have hall : (Tryd.f3.params.toList.all fun u => !Tryd.prog.wantsStandIn u) = true := by kernel_rfl
        exact (show Tryd.prog.wantsStandIn t = false by simpa using List.all_eq_true.1 hall t hm)⟩)
    (by kernel_rfl)
#print axioms codeInsts_card
end Go.Proofs.YtachdfhodbdoiaaDoor
