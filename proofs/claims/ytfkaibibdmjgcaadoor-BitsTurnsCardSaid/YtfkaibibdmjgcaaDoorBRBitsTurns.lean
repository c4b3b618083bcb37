/-
  The law BitsTurns of bits: for every input it answers true and leaves its arguments as they were; under the condition that its row lists: the table ones holds what the program's text lays.
-/
import Derived.Test.YtfkaibibdmjgcaaDoorBRh
namespace Go.Proofs.YtfkaibibdmjgcaaDoor
open Go Go.ChangeShapes Go.WideShapes Go.ChangeAt Go.RowKit Go.Vs
set_option maxRecDepth 100000 in
theorem bitsTurns_law : ∀ pvs, ArgsTy Tryd.prog Tryd.f3.params.toList pvs → Ans cprog gl0 3 pvs [] (.bool true) [] := by
  intro pvs h
  rw [show Tryd.f3.params.toList = [22, 3] by kernel_rfl] at h
  obtain ⟨q0, _, rfl, g0, h⟩ := h.cons_inv
  obtain ⟨q1, _, rfl, g1, h⟩ := h.cons_inv
  obtain rfl := h.nil_inv
  obtain ⟨z0, rfl, a0, b0⟩ := arg_int Tryd.underlying22 g0
  obtain ⟨w, rfl, hw⟩ := u16_nat a0 b0
  obtain ⟨b, rfl, a1, b1⟩ := arg_int Tryd.underlying3 g1
  rw [min_i64] at a1
  rw [max_i64] at b1
  have hb : i64 b := ⟨a1, b1⟩
  exact law3 w b hw
set_option maxRecDepth 100000 in
theorem bitsTurns_lifted (os : Os) (started : os.Started) (H : Type) (enc : TypeId × Value → H) :
    ReturnsInHanded {} Tryd.checked os 3 .any (fun w args => (Rows.bitsTurnsSpec.pre enc Tryd.prog Tryd.f3 [] false w args ∧ laidMetH Tryd.prog tabl w) ∧ sizedMet enc Tryd.prog Tryd.f3 (OpenSpec.ofChange Rows.bitsTurnsSpec) false w args) (Rows.bitsTurnsSpec.post enc Tryd.prog Tryd.f3 false true false false) :=
  lifted os started H enc (s := Rows.bitsTurnsSpec) (by kernel_rfl) Tryd.func3 (cf := c3) rfl rfl
    (ChangeSpec.witness_shaped (enc := enc) (C := Tryd.checked) (os := os) (X := fun w _ => laidMetH Tryd.prog tabl w) false (World.doorLaid Tryd.prog 400 os) #[.int .u16 0, .int .i64 0] 8 rfl (World.shaped_of_RefB (by kernel_rfl) (by kernel_rfl)) (by kernel_rfl) (by kernel_rfl) (by kernel_rfl) (door_met os _))
    (by kernel_rfl) (by kernel_rfl) rfl (fun ds h => by match ds, h with | [_, _], _ => rfl) bitsTurns_law
theorem bitsTurns_holds : Rows.BitsTurnsSaid :=
  OpenClaim.holds_of_wide 3 Tryd.f3 rfl rfl rfl rfl rfl rfl rfl ⟨rfl, rfl, rfl, rfl, rfl⟩ rfl rfl rfl rfl rfl (by kernel_rfl) Tryd.func3 (by kernel_rfl)
    (of_decide_eq_true (by kernel_rfl)) (by unfold Func.isWrapper; first | (rw [if_pos (by decide +kernel)]; kernel_rfl) | (rw [if_neg (by decide +kernel)]; exact ⟨rfl, rfl⟩))
    (fun os started H enc _ => bitsTurns_lifted os started H enc)
theorem bitsTurns_card : Rows.BitsTurnsCardSaid :=
  Claim7.holds_tied_plain_at .later [] [.data] true (true, "f95e7ab91090a95b50c6527897192aa483f9e94624721fd3545a49ac86249986") false
    bitsTurns_holds (fun _ h => by cases h) (by kernel_rfl) (fun _ h => by cases h) bitsTurns_row_tie rfl ⟨rfl, rfl⟩ (by kernel_rfl) rfl
    (fun f fn hf hfn => by
      obtain rfl : f = 3 := Option.some.inj ((show Tryd.prog.funcNamed "imago/imagolaw01.BitsTurns" = some 3 by kernel_rfl).symm.trans hf) |>.symm
      obtain rfl : fn = Tryd.f3 := (Option.some.inj (Tryd.func3.symm.trans hfn)).symm
      exact ⟨by kernel_rfl, fun j t ht => by
        have hm : t ∈ Tryd.f3.params.toList := Array.mem_toList_iff.2 (Array.mem_of_getElem? ht)
        have hall : (Tryd.f3.params.toList.all fun u => !Tryd.prog.wantsStandIn u) = true := by kernel_rfl
        exact (show Tryd.prog.wantsStandIn t = false by simpa using List.all_eq_true.1 hall t hm)⟩)
    (by kernel_rfl)
#print axioms bitsTurns_card
end Go.Proofs.YtfkaibibdmjgcaaDoor
