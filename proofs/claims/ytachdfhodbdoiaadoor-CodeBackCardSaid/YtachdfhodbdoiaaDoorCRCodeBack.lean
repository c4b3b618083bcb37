/-
  The law CodeBack of code: for every input it answers true and leaves its arguments as they were; under the condition that its row lists: the tables shapes and sizes hold what the program's text lays.
-/
import Derived.Test.YtachdfhodbdoiaaDoorCRh
namespace Go.Proofs.YtachdfhodbdoiaaDoor
open Go Go.ChangeShapes Go.WideShapes Go.ChangeAt Go.RowKit Go.Vs
set_option linter.unusedSimpArgs false
set_option linter.unusedVariables false
set_option maxRecDepth 100000 in
theorem codeBack_law : ∀ pvs, ArgsTy Tryd.prog Tryd.f4.params.toList pvs → Ans cprog gl0 4 pvs [] (.bool true) [] := by
  intro pvs h
  rw [show Tryd.f4.params.toList = [23, 9] by kernel_rfl] at h
  obtain ⟨q0, _, rfl, g0, h⟩ := h.cons_inv
  obtain ⟨q1, _, rfl, g1, h⟩ := h.cons_inv
  obtain rfl := h.nil_inv
  obtain ⟨l, rfl, a1⟩ := arg_str Tryd.underlying9 g1
  obtain ⟨n0, cs, rfl, y0⟩ := arg_struct Tryd.underlying23 g0
  have c3 : Tryd.prog.cellsOf 3 = 1 := by kernel_rfl
  have l0 := y0.struct_len Tryd.underlying23
  rw [show Tryd.prog.cellsOf 23 = 4 by kernel_rfl] at l0
  obtain ⟨o, e0, _⟩ := Ty.field_int Tryd.underlying23 y0 (i := 0) rfl Tryd.underlying3 c3
  obtain ⟨a, e1, _⟩ := Ty.field_int Tryd.underlying23 y0 (i := 1) rfl Tryd.underlying3 c3
  obtain ⟨b, e2, _⟩ := Ty.field_int Tryd.underlying23 y0 (i := 2) rfl Tryd.underlying3 c3
  obtain ⟨n, e3, _⟩ := Ty.field_int Tryd.underlying23 y0 (i := 3) rfl Tryd.underlying3 c3
  match cs, l0, e0, e1, e2, e3 with
  | [_, _, _, _], _, e0, e1, e2, e3 =>
    cases e0; cases e1; cases e2; cases e3
    exact law4 o a b n l (Nat.le_trans a1 (by decide))
set_option maxRecDepth 100000 in
theorem codeBack_lifted (os : Os) (started : os.Started) (H : Type) (enc : TypeId × Value → H) :
    ReturnsInHanded {} Tryd.checked os 4 .any (fun w args => (Rows.codeBackSpec.pre enc Tryd.prog Tryd.f4 [] false w args ∧ laidMetH Tryd.prog tabl w) ∧ sizedMet enc Tryd.prog Tryd.f4 (OpenSpec.ofChange Rows.codeBackSpec) false w args) (Rows.codeBackSpec.post enc Tryd.prog Tryd.f4 false true false false) :=
  lifted os started H enc (s := Rows.codeBackSpec) (by kernel_rfl) Tryd.func4 (cf := c4) rfl rfl
    (ChangeSpec.witness_shaped (enc := enc) (C := Tryd.checked) (os := os) (X := fun w _ => laidMetH Tryd.prog tabl w) false (World.doorLaid Tryd.prog 400 os) #[.agg #[.int .i64 0, .int .i64 0, .int .i64 0, .int .i64 0], .string ⟨#[]⟩] 8 rfl (World.shaped_of_RefB (by kernel_rfl) (by kernel_rfl)) (by kernel_rfl) (by kernel_rfl) (by kernel_rfl) (door_met os _))
    (by kernel_rfl) (by kernel_rfl) rfl (fun ds h => by match ds, h with | [_, _], _ => rfl) codeBack_law
theorem codeBack_holds : Rows.CodeBackSaid :=
  OpenClaim.holds_of_wide 4 Tryd.f4 rfl rfl rfl rfl rfl rfl rfl ⟨rfl, rfl, rfl, rfl, rfl⟩ rfl rfl rfl rfl rfl (by kernel_rfl) Tryd.func4 (by kernel_rfl)
    (of_decide_eq_true (by kernel_rfl)) (by unfold Func.isWrapper; first | (rw [if_pos (by decide +kernel)]; kernel_rfl) | (rw [if_neg (by decide +kernel)]; exact ⟨rfl, rfl⟩))
    (fun os started H enc _ => codeBack_lifted os started H enc)
theorem codeBack_card : Rows.CodeBackCardSaid :=
  Claim7.holds_tied_plain_at .later [] [.data, .data] true (true, "2f062a83339f5afb031b3531ce6d222e8caddfeac6509b9791c43ad5ae27d162") false
    codeBack_holds (fun _ h => by cases h) (by kernel_rfl) (fun _ h => by cases h) codeBack_row_tie rfl ⟨rfl, rfl⟩ (by kernel_rfl) rfl
    (fun f fn hf hfn => by
      obtain rfl : f = 4 := Option.some.inj ((show Tryd.prog.funcNamed "imago/imagolaw05.CodeBack" = some 4 by kernel_rfl).symm.trans hf) |>.symm
      obtain rfl : fn = Tryd.f4 := (Option.some.inj (Tryd.func4.symm.trans hfn)).symm
      exact ⟨by kernel_rfl, fun j t ht => by
        have hm : t ∈ Tryd.f4.params.toList := Array.mem_toList_iff.2 (Array.mem_of_getElem? ht)
        have hall : (Tryd.f4.params.toList.all fun u => !Tryd.prog.wantsStandIn u) = true := by kernel_rfl
        exact (show Tryd.prog.wantsStandIn t = false by simpa using List.all_eq_true.1 hall t hm)⟩)
    (by kernel_rfl)
#print axioms codeBack_card
end Go.Proofs.YtachdfhodbdoiaaDoor
