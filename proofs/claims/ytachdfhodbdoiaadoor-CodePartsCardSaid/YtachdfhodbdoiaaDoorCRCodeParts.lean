/-
  The law CodeParts of code: for every input it answers true and leaves its arguments as they were; under the condition that its row lists: the tables shapes and sizes hold what the program's text lays.
-/
import Derived.Test.YtachdfhodbdoiaaDoorCRh
import Derived.Test.YtachdfhodbdoiaaDoorC15
namespace Go.Proofs.YtachdfhodbdoiaaDoor
open Go Go.ChangeShapes Go.WideShapes Go.ChangeAt Go.RowKit Go.Vs
set_option linter.unusedSimpArgs false
set_option linter.unusedVariables false
set_option maxRecDepth 100000 in
theorem codeParts_law : ∀ pvs, ArgsTy Tryd.prog Tryd.f5.params.toList pvs → Ans cprog gl0 5 pvs [] (.bool true) [] := by
  intro pvs h
  rw [show Tryd.f5.params.toList = [9, 9] by kernel_rfl] at h
  obtain ⟨q0, _, rfl, g0, h⟩ := h.cons_inv
  obtain ⟨q1, _, rfl, g1, h⟩ := h.cons_inv
  obtain rfl := h.nil_inv
  obtain ⟨a, rfl, a0⟩ := arg_str Tryd.underlying9 g0
  obtain ⟨b, rfl, a1⟩ := arg_str Tryd.underlying9 g1
  exact law5 a b (Nat.le_trans a0 (by decide)) (Nat.le_trans a1 (by decide))
set_option maxRecDepth 100000 in
theorem codeParts_lifted (os : Os) (started : os.Started) (H : Type) (enc : TypeId × Value → H) :
    ReturnsInHanded {} Tryd.checked os 5 .any (fun w args => (Rows.codePartsSpec.pre enc Tryd.prog Tryd.f5 [] false w args ∧ laidMetH Tryd.prog tabl w) ∧ sizedMet enc Tryd.prog Tryd.f5 (OpenSpec.ofChange Rows.codePartsSpec) false w args) (Rows.codePartsSpec.post enc Tryd.prog Tryd.f5 false true false false) :=
  lifted os started H enc (s := Rows.codePartsSpec) (by kernel_rfl) Tryd.func5 (cf := c5) rfl rfl
    (ChangeSpec.witness_shaped (enc := enc) (C := Tryd.checked) (os := os) (X := fun w _ => laidMetH Tryd.prog tabl w) false (World.doorLaid Tryd.prog 400 os) #[.string ⟨#[]⟩, .string ⟨#[]⟩] 8 rfl (World.shaped_of_RefB (by kernel_rfl) (by kernel_rfl)) (by kernel_rfl) (by kernel_rfl) (by kernel_rfl) (door_met os _))
    (by kernel_rfl) (by kernel_rfl) rfl (fun ds h => by match ds, h with | [_, _], _ => rfl) codeParts_law
theorem codeParts_holds : Rows.CodePartsSaid :=
  OpenClaim.holds_of_wide 5 Tryd.f5 rfl rfl rfl rfl rfl rfl rfl ⟨rfl, rfl, rfl, rfl, rfl⟩ rfl rfl rfl rfl rfl (by kernel_rfl) Tryd.func5 (by kernel_rfl)
    (of_decide_eq_true (by kernel_rfl)) (by unfold Func.isWrapper; first | (rw [if_pos (by decide +kernel)]; kernel_rfl) | (rw [if_neg (by decide +kernel)]; exact ⟨rfl, rfl⟩))
    (fun os started H enc _ => codeParts_lifted os started H enc)
theorem codeParts_card : Rows.CodePartsCardSaid :=
  Claim7.holds_tied_plain_at .later [] [.data, .data] true (true, "2f062a83339f5afb031b3531ce6d222e8caddfeac6509b9791c43ad5ae27d162") false
    codeParts_holds (fun _ h => by cases h) (by kernel_rfl) (fun _ h => by cases h) codeParts_row_tie rfl ⟨rfl, rfl⟩ (by kernel_rfl) rfl
    (fun f fn hf hfn => by
      obtain rfl : f = 5 := Option.some.inj ((show Tryd.prog.funcNamed "imago/imagolaw05.CodeParts" = some 5 by kernel_rfl).symm.trans hf) |>.symm
      obtain rfl : fn = Tryd.f5 := (Option.some.inj (Tryd.func5.symm.trans hfn)).symm
      exact ⟨by kernel_rfl, fun j t ht => by
        have hm : t ∈ Tryd.f5.params.toList := Array.mem_toList_iff.2 (Array.mem_of_getElem? ht)
        have hall : (Tryd.f5.params.toList.all fun u => !Tryd.prog.wantsStandIn u) = true := by kernel_rfl
        exact (show Tryd.prog.wantsStandIn t = false by simpa using List.all_eq_true.1 hall t hm)⟩)
    (by kernel_rfl)
#print axioms codeParts_card
end Go.Proofs.YtachdfhodbdoiaaDoor
