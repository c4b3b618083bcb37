/-
  The law BitsBack of bits: for every input it answers true and leaves its arguments as they were; under the condition that its row lists: the table ones holds what the program's text lays.
-/
import Derived.Test.YtfkaibibdmjgcaaDoorBRh
namespace Go.Proofs.YtfkaibibdmjgcaaDoor
open Go Go.ChangeShapes Go.WideShapes Go.ChangeAt Go.RowKit Go.Vs
set_option maxRecDepth 100000 in
theorem bitsBack_law : ∀ pvs, ArgsTy Tryd.prog Tryd.f8.params.toList pvs → Ans cprog gl0 8 pvs [] (.bool true) [] := by
  intro pvs h
  rw [show Tryd.f8.params.toList = [28, 29, 30] by kernel_rfl] at h
  obtain ⟨q0, _, rfl, g0, h⟩ := h.cons_inv
  obtain ⟨q1, _, rfl, g1, h⟩ := h.cons_inv
  obtain ⟨q2, _, rfl, g2, h⟩ := h.cons_inv
  obtain rfl := h.nil_inv
  obtain ⟨z0, rfl, a0, b0⟩ := arg_int Tryd.underlying28 g0
  obtain ⟨n, rfl, hn⟩ := u64_nat a0 b0
  obtain ⟨n1, cs, rfl, y1⟩ := arg_array Tryd.underlying29 g1
  obtain ⟨m1, rfl, l1, t1⟩ := y1.array_inv Tryd.underlying29
  have c3 : Tryd.prog.cellsOf 3 = 1 := by kernel_rfl
  have c29 : Tryd.prog.cellsOf 29 = 2 := by kernel_rfl
  rw [c29] at l1
  have t0 := t1 0 (by omega)
  have t1 := t1 1 (by omega)
  rw [c3] at t0 t1
  obtain ⟨z2, rfl, a2, b2⟩ := arg_int Tryd.underlying30 g2
  obtain ⟨v, rfl, hv⟩ := u32_nat a2 b2
  match cs, l1, t0, t1 with
  | [x, y], _, t0, t1 =>
    obtain ⟨f, e1, a1, b1⟩ := t0.int_inv Tryd.underlying3
    obtain ⟨w, e2, a2, b2⟩ := t1.int_inv Tryd.underlying3
    simp at e1 e2
    subst e1; subst e2
    rw [min_i64] at a1 a2
    rw [max_i64] at b1 b2
    exact law8 n v f w hn hv ⟨a1, b1⟩ ⟨a2, b2⟩
set_option maxRecDepth 100000 in
theorem bitsBack_lifted (os : Os) (started : os.Started) (H : Type) (enc : TypeId × Value → H) :
    ReturnsInHanded {} Tryd.checked os 8 .any (fun w args => (Rows.bitsBackSpec.pre enc Tryd.prog Tryd.f8 [] false w args ∧ laidMetH Tryd.prog tabl w) ∧ sizedMet enc Tryd.prog Tryd.f8 (OpenSpec.ofChange Rows.bitsBackSpec) false w args) (Rows.bitsBackSpec.post enc Tryd.prog Tryd.f8 false true false false) :=
  lifted os started H enc (s := Rows.bitsBackSpec) (by kernel_rfl) Tryd.func8 (cf := c8) rfl rfl
    (ChangeSpec.witness_shaped (enc := enc) (C := Tryd.checked) (os := os) (X := fun w _ => laidMetH Tryd.prog tabl w) false (World.doorLaid Tryd.prog 400 os) #[.int .u64 0, .agg #[.int .i64 0, .int .i64 0], .int .u32 0] 8 rfl (World.shaped_of_RefB (by kernel_rfl) (by kernel_rfl)) (by kernel_rfl) (by kernel_rfl) (by kernel_rfl) (door_met os _))
    (by kernel_rfl) (by kernel_rfl) rfl (fun ds h => by match ds, h with | [_, _, _], _ => rfl) bitsBack_law
theorem bitsBack_holds : Rows.BitsBackSaid :=
  OpenClaim.holds_of_wide 8 Tryd.f8 rfl rfl rfl rfl rfl rfl rfl ⟨rfl, rfl, rfl, rfl, rfl⟩ rfl rfl rfl rfl rfl (by kernel_rfl) Tryd.func8 (by kernel_rfl)
    (of_decide_eq_true (by kernel_rfl)) (by unfold Func.isWrapper; first | (rw [if_pos (by decide +kernel)]; kernel_rfl) | (rw [if_neg (by decide +kernel)]; exact ⟨rfl, rfl⟩))
    (fun os started H enc _ => bitsBack_lifted os started H enc)
theorem bitsBack_card : Rows.BitsBackCardSaid :=
  Claim7.holds_tied_plain_at .later [] [.data] true (true, "f95e7ab91090a95b50c6527897192aa483f9e94624721fd3545a49ac86249986") false
    bitsBack_holds (fun _ h => by cases h) (by kernel_rfl) (fun _ h => by cases h) bitsBack_row_tie rfl ⟨rfl, rfl⟩ (by kernel_rfl) rfl
    (fun f fn hf hfn => by
      obtain rfl : f = 8 := Option.some.inj ((show Tryd.prog.funcNamed "imago/imagolaw01.BitsBack" = some 8 by kernel_rfl).symm.trans hf) |>.symm
      obtain rfl : fn = Tryd.f8 := (Option.some.inj (Tryd.func8.symm.trans hfn)).symm
      exact ⟨by kernel_rfl, fun j t ht => by
        have hm : t ∈ Tryd.f8.params.toList := Array.mem_toList_iff.2 (Array.mem_of_getElem? ht)
        have hall : (Tryd.f8.params.toList.all fun u => !Tryd.prog.wantsStandIn u) = true := by kernel_rfl
        exact (show Tryd.prog.wantsStandIn t = false by simpa using List.all_eq_true.1 hall t hm)⟩)
    (by kernel_rfl)
#print axioms bitsBack_card
end Go.Proofs.YtfkaibibdmjgcaaDoor
