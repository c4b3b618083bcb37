/-
  What the rows of the laws of code lean on. Under the condition that each row lists: the tables shapes and sizes hold what the program's text lays.
-/
import Derived.Test.YtachdfhodbdoiaaDoorCards
import Derived.Test.YtachdfhodbdoiaaDoorTie
import Derived.ProofKit
import Derived.LaidMore
import Derived.Stop.Joined
import Derived.Lib.LaidTab
import Derived.SevenTiedAt
import Derived.Test.YtachdfhodbdoiaaDoorZo
import Derived.Test.YtachdfhodbdoiaaDoorC9
import Derived.Stop.LaidErr
import Derived.Test.YtachdfhodbdoiaaDoorVsAr
namespace Go.Proofs.YtachdfhodbdoiaaDoor
open Go Go.ChangeShapes Go.WideShapes Go.ChangeAt Go.RowKit Go.Vs
set_option linter.unusedSimpArgs false
set_option linter.unusedVariables false

theorem own : ownKnob Tryd.prog.godebug = none := by kernel_rfl
theorem lo : laidOutB Tryd.prog = true := by kernel_rfl
theorem gShapes : Tryd.prog.globalNamed "imago/code.shapes" = some 0 := by kernel_rfl
theorem gSizes : Tryd.prog.globalNamed "imago/code.sizes" = some 1 := by kernel_rfl
abbrev tabl : List (String × DataW Unit) := [("imago/code.sizes", Rows.laid_imago_code_sizes), ("imago/code.shapes", Rows.laid_imago_code_shapes)]
theorem door_met (os : Os) (args : Array Value) : laidMetH Tryd.prog tabl ((World.doorLaid Tryd.prog 400 os).forCall (fun _ _ => 0) ⟨#[], args, []⟩).memory :=
  laidMetH_of_parts3 (fuel := 8) (laidMet_of_run' 8 (by kernel_rfl) (by kernel_rfl)) (by kernel_rfl) (by kernel_rfl)
theorem tShapes : (Tryd.prog.globals[0]?).map (·.type) = some 57 := by kernel_rfl
theorem tSizes : (Tryd.prog.globals[1]?).map (·.type) = some 64 := by kernel_rfl
theorem glob_ok {W : World} (h : laidMetH Tryd.prog tabl W) : GlobOk (lkOf W) gl0 := by
  rw [MakeChecks.laidMetH_plain _ _ _ (by kernel_rfl)] at h
  have hT1 : Lib.TabIs Tryd.prog W "imago/code.sizes" .i64 (sizesZ.map Int.ofNat) := Lib.tabIs_of_head gSizes tSizes Tryd.underlying64 Tryd.underlying3 (by kernel_rfl) (by kernel_rfl) (show laidMet Tryd.prog (("imago/code.sizes", Lib.tabData .i64 (sizesZ.map Int.ofNat)) :: _) W from h)
  have hT0 : Lib.TabIs Tryd.prog W "imago/code.shapes" .i64 (shapesZ.map Int.ofNat) := Lib.tabIs_of_head gShapes tShapes Tryd.underlying57 Tryd.underlying3 (by kernel_rfl) (by kernel_rfl) (show laidMet Tryd.prog (("imago/code.shapes", Lib.tabData .i64 (shapesZ.map Int.ofNat)) :: []) W from h.tail)
  have cell : ∀ (name : String) (zs : List Nat) (g : Nat), Lib.TabIs Tryd.prog W name .i64 (zs.map Int.ofNat) → Tryd.prog.globalNamed name = some g → ∀ (j : Nat) v, (zs.map fun n : Nat => PV.int .i64 n)[j]? = some v → ∃ u, lkOf W ⟨g, j, none⟩ = some u ∧ Rel (lkOf W) sig0 v u := by
    intro name zs g hT hg j v hv
    have hj : j < zs.length := by have := (List.getElem?_eq_some_iff.1 hv).1; simpa using this
    have hc := hT.cell hg j (by simpa using hj)
    refine ⟨_, lkOf_of hc, ?_⟩
    rw [List.getElem?_map] at hv
    obtain ⟨z, hz, rfl⟩ := Option.map_eq_some_iff.1 hv
    have : (zs.map Int.ofNat).getD j 0 = (z : Int) := by simp [List.getD, hz]
    rw [this]
    exact .int _ _
  intro g j v hv
  unfold gl0 at hv
  split at hv
  · rename_i hg
    subst hg
    exact cell _ _ _ hT0 gShapes j v hv
  · split at hv
    · rename_i hg
      subst hg
      exact cell _ _ _ hT1 gSizes j v hv
    · simp at hv
/-- A law's row, where the evaluator answers true at every input of its types. -/
theorem lifted (os : Os) (started : os.Started) (H : Type) (enc : TypeId × Value → H) {f : FuncId} {fn : Func} {cf : CFunc} {s : ChangeSpec} (hni : Tryd.checked.prog.inits.idxOf? f = none) (hfn : Tryd.checked.prog.funcs[f]? = some fn) (hcf : cprog f = some cf) (hx : cf.ext = none)
    (wit : ∃ (w : World) (tape : Tape) (i : Input), w.os = os ∧ World.Shaped Tryd.checked.prog (w.forCall tape i) ∧ i.vars = [] ∧ Input.okWide Tryd.checked.prog (w.forCall tape i) .any w.heap.size f i ∧
      ((s.pre enc Tryd.checked.prog fn [] false (w.forCall tape i).memory i.args ∧ laidMetH Tryd.prog tabl (w.forCall tape i).memory) ∧ sizedMet enc Tryd.checked.prog fn (OpenSpec.ofChange s) false (w.forCall tape i).memory i.args) ∧
      Assume.holds {} Tryd.checked.prog (lone (Frame.enter Tryd.checked.prog f i.args .normal) [] (w.forCall tape i)))
    (hres : fn.resultTypes = #[4]) (hpar : (fn.params.toList.all fun t => decide (t < Tryd.prog.types.size) && Tryd.prog.readableRec t) = true) (hvars : s.vars = [])
    (hspec : ∀ ds : List (DataW H), ds.length = fn.params.size → s.fn H ds = { results := [.lit (.bool true)], args := ds })
    (law : ∀ pvs, ArgsTy Tryd.prog fn.params.toList pvs → Ans cprog gl0 f pvs [] (.bool true) []) :
    ReturnsInHanded {} Tryd.checked os f .any (fun w args => (s.pre enc Tryd.prog fn [] false w args ∧ laidMetH Tryd.prog tabl w) ∧ sizedMet enc Tryd.prog fn (OpenSpec.ofChange s) false w args) (s.post enc Tryd.prog fn false true false false) := by
  refine returnsInHanded_of_change_and (C := Tryd.checked) (X := fun w _ => laidMetH Tryd.prog tabl w) (fun _ _ _ hh h => h.of_heap hh) own started hni hfn wit ?_
  intro W base args ds gs before hval hW _ _ hL _
  have hp : ∀ t ∈ fn.params.toList, t < Tryd.prog.types.size ∧ Tryd.prog.readableRec t = true := fun t ht => by
    have := List.all_eq_true.1 hpar t ht
    simpa using this
  have hW' := hW
  obtain ⟨p, q, hA, _⟩ := hW'
  obtain ⟨pvs, h1, h2⟩ := args_rel lo hp (fun j t v a b => hval j t v (by simpa using a) (by simpa using b)) hA
  have h3 := law pvs h2
  refine (law_run cprog_ok hcf hx h1 (glob_ok hL) h3 rfl).mono fun e W' he => ?_
  obtain ⟨rfl, hb⟩ := he
  exact ⟨_, rfl, post_true lo hres Tryd.underlying4 hp hvars hspec hW hb⟩
end Go.Proofs.YtachdfhodbdoiaaDoor
