/-
  NARROWER THAN 'FOR EVERY INPUT', by the rows' own cells (each row's printed sentence says how): CodeInsts: laid · CodeBack: laid · CodeParts: laid · CodeLists: laid · CodeOne: laid.
  DERIVED. THE GIVEN ROWS OF THIS SEAT. 5 by the template 'for every input the law returns true; each argument reads behind the call as it read before'; 0 by the template 'total and deterministic' (their statements: YtachdfhodbdoiaaDoorTotals.lean).
  GIVEN WITH THE SEED: the statements are not yours to turn. If you find one false, say at which input.
  Laid BY PROGRAM, IN A SANDBOX (cutbox-rows.mjs): the forced cells as the released guide's own fill.sh prints them over the translation e4be99a82043355c… (all of the seat's roots in one cut). By AI agents, Wed Nov 11 2026. No macro, syntax, notation, axiom, sorry.
-/
import Derived.Test.YtachdfhodbdoiaaDoorChecked
import GoSem.Claim
import GoSem.ClaimJoined
import GoSem.ClaimMapViews
import Derived.JoinedTies
import Derived.KernelRfl
namespace Go.Proofs.YtachdfhodbdoiaaDoor
/- THE CELL 'sum', in the pinned program and in every row, IS THE sha256 OF THE DUMP (.gsa) THAT YtachdfhodbdoiaaDoorProg.lean LOADS. Nothing in Lean hashes anything: it is a label: what it is worth is what the hold of that sum in a sandbox is worth. -/
noncomputable def Tryd.pinned : Pinned := { name := "ytachdfhodbdoiaadoor", sum := "e4be99a82043355cb30cb3fca8e6d19e2293170df7f212b7c4ed3fcfb06da7f9", checked := Tryd.checked }
namespace Rows
def none {H : Type} : Left H := { results := [], args := [] }

/- WHAT THE LISTED PACKAGE-LEVEL VARIABLES READ AS WHEN THE CALL BEGINS. Each datum BY PROGRAM (the guide's laid-datum.mjs) off the statement by which the dump's own 'gosem.cut.vars' lays the variable. In a bare row this is a premise. The card (YtachdfhodbdoiaaDoorCards.lean) ties it to the program's text. -/
def laid_imago_code_sizes {H : Type} : DataW H := .agg [.lit (.int .i64 1), .lit (.int .i64 4), .lit (.int .i64 2), .lit (.int .i64 3), .lit (.int .i64 2)]
def laid_imago_code_shapes {H : Type} : DataW H := .agg [.lit (.int .i64 0), .lit (.int .i64 1), .lit (.int .i64 2), .lit (.int .i64 2), .lit (.int .i64 2), .lit (.int .i64 2), .lit (.int .i64 2), .lit (.int .i64 2), .lit (.int .i64 2), .lit (.int .i64 2), .lit (.int .i64 2), .lit (.int .i64 2), .lit (.int .i64 2), .lit (.int .i64 2), .lit (.int .i64 2), .lit (.int .i64 2), .lit (.int .i64 2), .lit (.int .i64 3), .lit (.int .i64 1), .lit (.int .i64 1), .lit (.int .i64 4)]

/-- 'imagolaw05.CodeInsts': WHATEVER THE INPUT: true; the input reads as it did. -/
def codeInstsSpec : ChangeSpec := { name := "codeInsts", fn := fun _ => fun
  | [d1, d2, d3] => { results := [.lit (.bool true)], args := [d1, d2, d3] }
  | _ => none }
def codeInstsRow : OpenClaim := { program := "ytachdfhodbdoiaadoor", sum := "e4be99a82043355cb30cb3fca8e6d19e2293170df7f212b7c4ed3fcfb06da7f9", func := "imago/imagolaw05.CodeInsts", spec := "codeInsts", named := ["imago/code.shapes", "imago/code.sizes"], apart := false, laid := [("imago/code.sizes", laid_imago_code_sizes), ("imago/code.shapes", laid_imago_code_shapes)] }
def CodeInstsSaid : Prop := codeInstsRow.holds Tryd.pinned (OpenSpec.ofChange codeInstsSpec)

/-- ITS FALSE NEIGHBOUR: 'it returns false'. Refute it at one input. -/
def codeInstsWrong : ChangeSpec := { name := "codeInsts", fn := fun _ => fun
  | [d1, d2, d3] => { results := [.lit (.bool false)], args := [d1, d2, d3] }
  | _ => none }
def CodeInstsWrongFalsely : Prop := codeInstsRow.holds Tryd.pinned (OpenSpec.ofChange codeInstsWrong)

/-- 'imagolaw05.CodeBack': WHATEVER THE INPUT: true; the input reads as it did. -/
def codeBackSpec : ChangeSpec := { name := "codeBack", fn := fun _ => fun
  | [d1, d2] => { results := [.lit (.bool true)], args := [d1, d2] }
  | _ => none }
def codeBackRow : OpenClaim := { program := "ytachdfhodbdoiaadoor", sum := "e4be99a82043355cb30cb3fca8e6d19e2293170df7f212b7c4ed3fcfb06da7f9", func := "imago/imagolaw05.CodeBack", spec := "codeBack", named := ["imago/code.shapes", "imago/code.sizes"], apart := false, laid := [("imago/code.sizes", laid_imago_code_sizes), ("imago/code.shapes", laid_imago_code_shapes)] }
def CodeBackSaid : Prop := codeBackRow.holds Tryd.pinned (OpenSpec.ofChange codeBackSpec)

/-- ITS FALSE NEIGHBOUR: 'it returns false'. Refute it at one input. -/
def codeBackWrong : ChangeSpec := { name := "codeBack", fn := fun _ => fun
  | [d1, d2] => { results := [.lit (.bool false)], args := [d1, d2] }
  | _ => none }
def CodeBackWrongFalsely : Prop := codeBackRow.holds Tryd.pinned (OpenSpec.ofChange codeBackWrong)

/-- 'imagolaw05.CodeParts': WHATEVER THE INPUT: true; the input reads as it did. -/
def codePartsSpec : ChangeSpec := { name := "codeParts", fn := fun _ => fun
  | [d1, d2] => { results := [.lit (.bool true)], args := [d1, d2] }
  | _ => none }
def codePartsRow : OpenClaim := { program := "ytachdfhodbdoiaadoor", sum := "e4be99a82043355cb30cb3fca8e6d19e2293170df7f212b7c4ed3fcfb06da7f9", func := "imago/imagolaw05.CodeParts", spec := "codeParts", named := ["imago/code.shapes", "imago/code.sizes"], apart := false, laid := [("imago/code.sizes", laid_imago_code_sizes), ("imago/code.shapes", laid_imago_code_shapes)] }
def CodePartsSaid : Prop := codePartsRow.holds Tryd.pinned (OpenSpec.ofChange codePartsSpec)

/-- ITS FALSE NEIGHBOUR: 'it returns false'. Refute it at one input. -/
def codePartsWrong : ChangeSpec := { name := "codeParts", fn := fun _ => fun
  | [d1, d2] => { results := [.lit (.bool false)], args := [d1, d2] }
  | _ => none }
def CodePartsWrongFalsely : Prop := codePartsRow.holds Tryd.pinned (OpenSpec.ofChange codePartsWrong)

/-- 'imagolaw05.CodeLists': WHATEVER THE INPUT: true; the input reads as it did. -/
def codeListsSpec : ChangeSpec := { name := "codeLists", fn := fun _ => fun
  | [d1, d2] => { results := [.lit (.bool true)], args := [d1, d2] }
  | _ => none }
def codeListsRow : OpenClaim := { program := "ytachdfhodbdoiaadoor", sum := "e4be99a82043355cb30cb3fca8e6d19e2293170df7f212b7c4ed3fcfb06da7f9", func := "imago/imagolaw05.CodeLists", spec := "codeLists", inPlace := ["internal/abi.NoEscape"], named := ["imago/code.shapes", "imago/code.sizes"], apart := false, laid := [("imago/code.sizes", laid_imago_code_sizes), ("imago/code.shapes", laid_imago_code_shapes)] }
def CodeListsSaid : Prop := codeListsRow.holds Tryd.pinned (OpenSpec.ofChange codeListsSpec)

/-- ITS FALSE NEIGHBOUR: 'it returns false'. Refute it at one input. -/
def codeListsWrong : ChangeSpec := { name := "codeLists", fn := fun _ => fun
  | [d1, d2] => { results := [.lit (.bool false)], args := [d1, d2] }
  | _ => none }
def CodeListsWrongFalsely : Prop := codeListsRow.holds Tryd.pinned (OpenSpec.ofChange codeListsWrong)

/-- 'imagolaw05.CodeOne': WHATEVER THE INPUT: true; the input reads as it did. -/
def codeOneSpec : ChangeSpec := { name := "codeOne", fn := fun _ => fun
  | [d1, d2] => { results := [.lit (.bool true)], args := [d1, d2] }
  | _ => none }
def codeOneRow : OpenClaim := { program := "ytachdfhodbdoiaadoor", sum := "e4be99a82043355cb30cb3fca8e6d19e2293170df7f212b7c4ed3fcfb06da7f9", func := "imago/imagolaw05.CodeOne", spec := "codeOne", inPlace := ["internal/abi.NoEscape"], named := ["imago/code.shapes", "imago/code.sizes"], apart := false, laid := [("imago/code.sizes", laid_imago_code_sizes), ("imago/code.shapes", laid_imago_code_shapes)] }
def CodeOneSaid : Prop := codeOneRow.holds Tryd.pinned (OpenSpec.ofChange codeOneSpec)

/-- ITS FALSE NEIGHBOUR: 'it returns false'. Refute it at one input. -/
def codeOneWrong : ChangeSpec := { name := "codeOne", fn := fun _ => fun
  | [d1, d2] => { results := [.lit (.bool false)], args := [d1, d2] }
  | _ => none }
def CodeOneWrongFalsely : Prop := codeOneRow.holds Tryd.pinned (OpenSpec.ofChange codeOneWrong)

/- THE SECOND FORM. 'bulk': how many values and letters a reading holds, each counted each time it is reached (what is shared counts as often as it is met; a slice's spare places count too). A statement '..UptoSaid' is the law's where the arguments, and the package variables that the reading takes, are together of bulk at most 1048576: NARROWER than '..Said'. Prove '..Said' where nothing that the law and all that it calls make is longer than what came in: it says more and counts as full. Else prove '..UptoSaid'. A law counts once. -/
mutual
def uptoBulk {H : Type} : DataW H → Nat
  | .lit (.string bytes) => bytes.length + 1
  | .lit _ => 1
  | .nil => 1
  | .ptr d => uptoBulk d + 1
  | .slice elems spare => uptoBulkAll elems + uptoBulkAll spare + 1
  | .agg parts => uptoBulkAll parts + 1
  | .iface _ d => uptoBulk d + 1
  | .map entries => uptoBulkEntries entries + 1
  | .held _ => 1
def uptoBulkAll {H : Type} : List (DataW H) → Nat
  | [] => 0
  | d :: r => uptoBulk d + uptoBulkAll r
def uptoBulkEntries {H : Type} : List (Lit × DataW H) → Nat
  | [] => 0
  | x :: r => uptoBulkEntry x + uptoBulkEntries r
def uptoBulkEntry {H : Type} : Lit × DataW H → Nat
  | (.string bytes, d) => bytes.length + uptoBulk d + 1
  | (_, d) => uptoBulk d + 1
 end
def uptoSmall : (H : Type) → List (DataW H) → Bool := fun _ ds => decide (uptoBulkAll ds ≤ 1048576)
def OpenSpec.upto (s : _root_.Go.ChangeSpec) : _root_.Go.OpenSpec := { _root_.Go.OpenSpec.ofChange s with cond := some uptoSmall }

/-- 'imagolaw05.CodeInsts', WHERE WHAT IT READS IS OF BULK AT MOST 1048576: true; the input reads as it did. -/
def codeInstsUptoRow : OpenClaim := { program := "ytachdfhodbdoiaadoor", sum := "e4be99a82043355cb30cb3fca8e6d19e2293170df7f212b7c4ed3fcfb06da7f9", func := "imago/imagolaw05.CodeInsts", spec := "codeInsts", named := ["imago/code.shapes", "imago/code.sizes"], apart := false, laid := [("imago/code.sizes", laid_imago_code_sizes), ("imago/code.shapes", laid_imago_code_shapes)], narrowed := true }
def CodeInstsUptoSaid : Prop := codeInstsUptoRow.holds Tryd.pinned (OpenSpec.upto codeInstsSpec)

/-- 'imagolaw05.CodeBack', WHERE WHAT IT READS IS OF BULK AT MOST 1048576: true; the input reads as it did. -/
def codeBackUptoRow : OpenClaim := { program := "ytachdfhodbdoiaadoor", sum := "e4be99a82043355cb30cb3fca8e6d19e2293170df7f212b7c4ed3fcfb06da7f9", func := "imago/imagolaw05.CodeBack", spec := "codeBack", named := ["imago/code.shapes", "imago/code.sizes"], apart := false, laid := [("imago/code.sizes", laid_imago_code_sizes), ("imago/code.shapes", laid_imago_code_shapes)], narrowed := true }
def CodeBackUptoSaid : Prop := codeBackUptoRow.holds Tryd.pinned (OpenSpec.upto codeBackSpec)

/-- 'imagolaw05.CodeParts', WHERE WHAT IT READS IS OF BULK AT MOST 1048576: true; the input reads as it did. -/
def codePartsUptoRow : OpenClaim := { program := "ytachdfhodbdoiaadoor", sum := "e4be99a82043355cb30cb3fca8e6d19e2293170df7f212b7c4ed3fcfb06da7f9", func := "imago/imagolaw05.CodeParts", spec := "codeParts", named := ["imago/code.shapes", "imago/code.sizes"], apart := false, laid := [("imago/code.sizes", laid_imago_code_sizes), ("imago/code.shapes", laid_imago_code_shapes)], narrowed := true }
def CodePartsUptoSaid : Prop := codePartsUptoRow.holds Tryd.pinned (OpenSpec.upto codePartsSpec)

/-- 'imagolaw05.CodeLists', WHERE WHAT IT READS IS OF BULK AT MOST 1048576: true; the input reads as it did. -/
def codeListsUptoRow : OpenClaim := { program := "ytachdfhodbdoiaadoor", sum := "e4be99a82043355cb30cb3fca8e6d19e2293170df7f212b7c4ed3fcfb06da7f9", func := "imago/imagolaw05.CodeLists", spec := "codeLists", inPlace := ["internal/abi.NoEscape"], named := ["imago/code.shapes", "imago/code.sizes"], apart := false, laid := [("imago/code.sizes", laid_imago_code_sizes), ("imago/code.shapes", laid_imago_code_shapes)], narrowed := true }
def CodeListsUptoSaid : Prop := codeListsUptoRow.holds Tryd.pinned (OpenSpec.upto codeListsSpec)

/-- 'imagolaw05.CodeOne', WHERE WHAT IT READS IS OF BULK AT MOST 1048576: true; the input reads as it did. -/
def codeOneUptoRow : OpenClaim := { program := "ytachdfhodbdoiaadoor", sum := "e4be99a82043355cb30cb3fca8e6d19e2293170df7f212b7c4ed3fcfb06da7f9", func := "imago/imagolaw05.CodeOne", spec := "codeOne", inPlace := ["internal/abi.NoEscape"], named := ["imago/code.shapes", "imago/code.sizes"], apart := false, laid := [("imago/code.sizes", laid_imago_code_sizes), ("imago/code.shapes", laid_imago_code_shapes)], narrowed := true }
def CodeOneUptoSaid : Prop := codeOneUptoRow.holds Tryd.pinned (OpenSpec.upto codeOneSpec)

end Rows
end Go.Proofs.YtachdfhodbdoiaaDoor
