/-
  NARROWER THAN 'FOR EVERY INPUT', by the rows' own cells (each row's printed sentence says how): BitsTurns: laid · BitsSame: laid · BitsFields: laid · BitsSigns: laid · BitsBytes: laid · BitsBack: laid.
  DERIVED. THE GIVEN ROWS OF THIS SEAT. 6 by the template 'for every input the law returns true; each argument reads behind the call as it read before'; 0 by the template 'total and deterministic' (their statements: YtfkaibibdmjgcaaDoorTotals.lean).
  GIVEN WITH THE SEED: the statements are not yours to turn. If you find one false, say at which input.
  Laid BY PROGRAM, IN A SANDBOX (cutbox-rows.mjs): the forced cells as the released guide's own fill.sh prints them over the translation c6e0ed52ac919573… (all of the seat's roots in one cut). By AI agents, Wed Nov 11 2026. No macro, syntax, notation, axiom, sorry.
-/
import Derived.Test.YtfkaibibdmjgcaaDoorChecked
import GoSem.Claim
import GoSem.ClaimJoined
import GoSem.ClaimMapViews
import Derived.JoinedTies
import Derived.KernelRfl
namespace Go.Proofs.YtfkaibibdmjgcaaDoor
/- THE CELL 'sum', in the pinned program and in every row, IS THE sha256 OF THE DUMP (.gsa) THAT YtfkaibibdmjgcaaDoorProg.lean LOADS. Nothing in Lean hashes anything: it is a label: what it is worth is what the hold of that sum in a sandbox is worth. -/
noncomputable def Tryd.pinned : Pinned := { name := "ytfkaibibdmjgcaadoor", sum := "c6e0ed52ac91957306027f21529964f545d06c8f388d7fcf13d6dbc7858d5710", checked := Tryd.checked }
namespace Rows
def none {H : Type} : Left H := { results := [], args := [] }

/- WHAT THE LISTED PACKAGE-LEVEL VARIABLES READ AS WHEN THE CALL BEGINS. Each datum BY PROGRAM (the guide's laid-datum.mjs) off the statement by which the dump's own 'gosem.cut.vars' lays the variable. In a bare row this is a premise. The card (YtfkaibibdmjgcaaDoorCards.lean) ties it to the program's text. -/
def laid_imago_bits_ones {H : Type} : DataW H := .agg [.lit (.int .i64 0), .lit (.int .i64 1), .lit (.int .i64 1), .lit (.int .i64 2), .lit (.int .i64 1), .lit (.int .i64 2), .lit (.int .i64 2), .lit (.int .i64 3), .lit (.int .i64 1), .lit (.int .i64 2), .lit (.int .i64 2), .lit (.int .i64 3), .lit (.int .i64 2), .lit (.int .i64 3), .lit (.int .i64 3), .lit (.int .i64 4)]

/-- 'imagolaw01.BitsTurns': WHATEVER THE INPUT: true; the input reads as it did. -/
def bitsTurnsSpec : ChangeSpec := { name := "bitsTurns", fn := fun _ => fun
  | [d1, d2] => { results := [.lit (.bool true)], args := [d1, d2] }
  | _ => none }
def bitsTurnsRow : OpenClaim := { program := "ytfkaibibdmjgcaadoor", sum := "c6e0ed52ac91957306027f21529964f545d06c8f388d7fcf13d6dbc7858d5710", func := "imago/imagolaw01.BitsTurns", spec := "bitsTurns", named := ["imago/bits.ones"], apart := false, laid := [("imago/bits.ones", laid_imago_bits_ones)] }
def BitsTurnsSaid : Prop := bitsTurnsRow.holds Tryd.pinned (OpenSpec.ofChange bitsTurnsSpec)

/-- ITS FALSE NEIGHBOUR: 'it returns false'. Refute it at one input. -/
def bitsTurnsWrong : ChangeSpec := { name := "bitsTurns", fn := fun _ => fun
  | [d1, d2] => { results := [.lit (.bool false)], args := [d1, d2] }
  | _ => none }
def BitsTurnsWrongFalsely : Prop := bitsTurnsRow.holds Tryd.pinned (OpenSpec.ofChange bitsTurnsWrong)

/-- 'imagolaw01.BitsSame': WHATEVER THE INPUT: true; the input reads as it did. -/
def bitsSameSpec : ChangeSpec := { name := "bitsSame", fn := fun _ => fun
  | [d1, d2] => { results := [.lit (.bool true)], args := [d1, d2] }
  | _ => none }
def bitsSameRow : OpenClaim := { program := "ytfkaibibdmjgcaadoor", sum := "c6e0ed52ac91957306027f21529964f545d06c8f388d7fcf13d6dbc7858d5710", func := "imago/imagolaw01.BitsSame", spec := "bitsSame", named := ["imago/bits.ones"], apart := false, laid := [("imago/bits.ones", laid_imago_bits_ones)] }
def BitsSameSaid : Prop := bitsSameRow.holds Tryd.pinned (OpenSpec.ofChange bitsSameSpec)

/-- ITS FALSE NEIGHBOUR: 'it returns false'. Refute it at one input. -/
def bitsSameWrong : ChangeSpec := { name := "bitsSame", fn := fun _ => fun
  | [d1, d2] => { results := [.lit (.bool false)], args := [d1, d2] }
  | _ => none }
def BitsSameWrongFalsely : Prop := bitsSameRow.holds Tryd.pinned (OpenSpec.ofChange bitsSameWrong)

/-- 'imagolaw01.BitsFields': WHATEVER THE INPUT: true; the input reads as it did. -/
def bitsFieldsSpec : ChangeSpec := { name := "bitsFields", fn := fun _ => fun
  | [d1, d2, d3] => { results := [.lit (.bool true)], args := [d1, d2, d3] }
  | _ => none }
def bitsFieldsRow : OpenClaim := { program := "ytfkaibibdmjgcaadoor", sum := "c6e0ed52ac91957306027f21529964f545d06c8f388d7fcf13d6dbc7858d5710", func := "imago/imagolaw01.BitsFields", spec := "bitsFields", named := ["imago/bits.ones"], apart := false, laid := [("imago/bits.ones", laid_imago_bits_ones)] }
def BitsFieldsSaid : Prop := bitsFieldsRow.holds Tryd.pinned (OpenSpec.ofChange bitsFieldsSpec)

/-- ITS FALSE NEIGHBOUR: 'it returns false'. Refute it at one input. -/
def bitsFieldsWrong : ChangeSpec := { name := "bitsFields", fn := fun _ => fun
  | [d1, d2, d3] => { results := [.lit (.bool false)], args := [d1, d2, d3] }
  | _ => none }
def BitsFieldsWrongFalsely : Prop := bitsFieldsRow.holds Tryd.pinned (OpenSpec.ofChange bitsFieldsWrong)

/-- 'imagolaw01.BitsSigns': WHATEVER THE INPUT: true; the input reads as it did. -/
def bitsSignsSpec : ChangeSpec := { name := "bitsSigns", fn := fun _ => fun
  | [d1, d2, d3] => { results := [.lit (.bool true)], args := [d1, d2, d3] }
  | _ => none }
def bitsSignsRow : OpenClaim := { program := "ytfkaibibdmjgcaadoor", sum := "c6e0ed52ac91957306027f21529964f545d06c8f388d7fcf13d6dbc7858d5710", func := "imago/imagolaw01.BitsSigns", spec := "bitsSigns", named := ["imago/bits.ones"], apart := false, laid := [("imago/bits.ones", laid_imago_bits_ones)] }
def BitsSignsSaid : Prop := bitsSignsRow.holds Tryd.pinned (OpenSpec.ofChange bitsSignsSpec)

/-- ITS FALSE NEIGHBOUR: 'it returns false'. Refute it at one input. -/
def bitsSignsWrong : ChangeSpec := { name := "bitsSigns", fn := fun _ => fun
  | [d1, d2, d3] => { results := [.lit (.bool false)], args := [d1, d2, d3] }
  | _ => none }
def BitsSignsWrongFalsely : Prop := bitsSignsRow.holds Tryd.pinned (OpenSpec.ofChange bitsSignsWrong)

/-- 'imagolaw01.BitsBytes': WHATEVER THE INPUT: true; the input reads as it did. -/
def bitsBytesSpec : ChangeSpec := { name := "bitsBytes", fn := fun _ => fun
  | [d1, d2, d3] => { results := [.lit (.bool true)], args := [d1, d2, d3] }
  | _ => none }
def bitsBytesRow : OpenClaim := { program := "ytfkaibibdmjgcaadoor", sum := "c6e0ed52ac91957306027f21529964f545d06c8f388d7fcf13d6dbc7858d5710", func := "imago/imagolaw01.BitsBytes", spec := "bitsBytes", named := ["imago/bits.ones"], apart := false, laid := [("imago/bits.ones", laid_imago_bits_ones)] }
def BitsBytesSaid : Prop := bitsBytesRow.holds Tryd.pinned (OpenSpec.ofChange bitsBytesSpec)

/-- ITS FALSE NEIGHBOUR: 'it returns false'. Refute it at one input. -/
def bitsBytesWrong : ChangeSpec := { name := "bitsBytes", fn := fun _ => fun
  | [d1, d2, d3] => { results := [.lit (.bool false)], args := [d1, d2, d3] }
  | _ => none }
def BitsBytesWrongFalsely : Prop := bitsBytesRow.holds Tryd.pinned (OpenSpec.ofChange bitsBytesWrong)

/-- 'imagolaw01.BitsBack': WHATEVER THE INPUT: true; the input reads as it did. -/
def bitsBackSpec : ChangeSpec := { name := "bitsBack", fn := fun _ => fun
  | [d1, d2, d3] => { results := [.lit (.bool true)], args := [d1, d2, d3] }
  | _ => none }
def bitsBackRow : OpenClaim := { program := "ytfkaibibdmjgcaadoor", sum := "c6e0ed52ac91957306027f21529964f545d06c8f388d7fcf13d6dbc7858d5710", func := "imago/imagolaw01.BitsBack", spec := "bitsBack", named := ["imago/bits.ones"], apart := false, laid := [("imago/bits.ones", laid_imago_bits_ones)] }
def BitsBackSaid : Prop := bitsBackRow.holds Tryd.pinned (OpenSpec.ofChange bitsBackSpec)

/-- ITS FALSE NEIGHBOUR: 'it returns false'. Refute it at one input. -/
def bitsBackWrong : ChangeSpec := { name := "bitsBack", fn := fun _ => fun
  | [d1, d2, d3] => { results := [.lit (.bool false)], args := [d1, d2, d3] }
  | _ => none }
def BitsBackWrongFalsely : Prop := bitsBackRow.holds Tryd.pinned (OpenSpec.ofChange bitsBackWrong)

/- THE SECOND FORM. 'bulk': how many values and letters a reading holds, each counted each time it is reached (what is shared counts as often as it is met; a slice's spare places count too). A statement '..UptoSaid' is the law's where the arguments, and the package variables that the reading takes, are together of bulk at most 1048576: NARROWER than '..Said'. Prove '..Said' where nothing that the law and all that it calls make is longer than what came in: it says more and counts as full. Else prove '..UptoSaid'. A law counts once. -/
mutual
def uptoBulk {H : Type} : DataW H → Nat
  | .lit (.string bytes) => bytes.length + 1
  | .lit _ => 1
  | .nil => 1
  | .ptr d => uptoBulk d + 1
  | .slice elems spare => uptoBulkAll elems + uptoBulkAll spare + 1
  | .agg parts => uptoBulkAll parts + 1
  | .iface _ d => uptoBulk d + 1
  | .map entries => uptoBulkEntries entries + 1
  | .held _ => 1
def uptoBulkAll {H : Type} : List (DataW H) → Nat
  | [] => 0
  | d :: r => uptoBulk d + uptoBulkAll r
def uptoBulkEntries {H : Type} : List (Lit × DataW H) → Nat
  | [] => 0
  | x :: r => uptoBulkEntry x + uptoBulkEntries r
def uptoBulkEntry {H : Type} : Lit × DataW H → Nat
  | (.string bytes, d) => bytes.length + uptoBulk d + 1
  | (_, d) => uptoBulk d + 1
 end
def uptoSmall : (H : Type) → List (DataW H) → Bool := fun _ ds => decide (uptoBulkAll ds ≤ 1048576)
def OpenSpec.upto (s : _root_.Go.ChangeSpec) : _root_.Go.OpenSpec := { _root_.Go.OpenSpec.ofChange s with cond := some uptoSmall }

/-- 'imagolaw01.BitsTurns', WHERE WHAT IT READS IS OF BULK AT MOST 1048576: true; the input reads as it did. -/
def bitsTurnsUptoRow : OpenClaim := { program := "ytfkaibibdmjgcaadoor", sum := "c6e0ed52ac91957306027f21529964f545d06c8f388d7fcf13d6dbc7858d5710", func := "imago/imagolaw01.BitsTurns", spec := "bitsTurns", named := ["imago/bits.ones"], apart := false, laid := [("imago/bits.ones", laid_imago_bits_ones)], narrowed := true }
def BitsTurnsUptoSaid : Prop := bitsTurnsUptoRow.holds Tryd.pinned (OpenSpec.upto bitsTurnsSpec)

/-- 'imagolaw01.BitsSame', WHERE WHAT IT READS IS OF BULK AT MOST 1048576: true; the input reads as it did. -/
def bitsSameUptoRow : OpenClaim := { program := "ytfkaibibdmjgcaadoor", sum := "c6e0ed52ac91957306027f21529964f545d06c8f388d7fcf13d6dbc7858d5710", func := "imago/imagolaw01.BitsSame", spec := "bitsSame", named := ["imago/bits.ones"], apart := false, laid := [("imago/bits.ones", laid_imago_bits_ones)], narrowed := true }
def BitsSameUptoSaid : Prop := bitsSameUptoRow.holds Tryd.pinned (OpenSpec.upto bitsSameSpec)

/-- 'imagolaw01.BitsFields', WHERE WHAT IT READS IS OF BULK AT MOST 1048576: true; the input reads as it did. -/
def bitsFieldsUptoRow : OpenClaim := { program := "ytfkaibibdmjgcaadoor", sum := "c6e0ed52ac91957306027f21529964f545d06c8f388d7fcf13d6dbc7858d5710", func := "imago/imagolaw01.BitsFields", spec := "bitsFields", named := ["imago/bits.ones"], apart := false, laid := [("imago/bits.ones", laid_imago_bits_ones)], narrowed := true }
def BitsFieldsUptoSaid : Prop := bitsFieldsUptoRow.holds Tryd.pinned (OpenSpec.upto bitsFieldsSpec)

/-- 'imagolaw01.BitsSigns', WHERE WHAT IT READS IS OF BULK AT MOST 1048576: true; the input reads as it did. -/
def bitsSignsUptoRow : OpenClaim := { program := "ytfkaibibdmjgcaadoor", sum := "c6e0ed52ac91957306027f21529964f545d06c8f388d7fcf13d6dbc7858d5710", func := "imago/imagolaw01.BitsSigns", spec := "bitsSigns", named := ["imago/bits.ones"], apart := false, laid := [("imago/bits.ones", laid_imago_bits_ones)], narrowed := true }
def BitsSignsUptoSaid : Prop := bitsSignsUptoRow.holds Tryd.pinned (OpenSpec.upto bitsSignsSpec)

/-- 'imagolaw01.BitsBytes', WHERE WHAT IT READS IS OF BULK AT MOST 1048576: true; the input reads as it did. -/
def bitsBytesUptoRow : OpenClaim := { program := "ytfkaibibdmjgcaadoor", sum := "c6e0ed52ac91957306027f21529964f545d06c8f388d7fcf13d6dbc7858d5710", func := "imago/imagolaw01.BitsBytes", spec := "bitsBytes", named := ["imago/bits.ones"], apart := false, laid := [("imago/bits.ones", laid_imago_bits_ones)], narrowed := true }
def BitsBytesUptoSaid : Prop := bitsBytesUptoRow.holds Tryd.pinned (OpenSpec.upto bitsBytesSpec)

/-- 'imagolaw01.BitsBack', WHERE WHAT IT READS IS OF BULK AT MOST 1048576: true; the input reads as it did. -/
def bitsBackUptoRow : OpenClaim := { program := "ytfkaibibdmjgcaadoor", sum := "c6e0ed52ac91957306027f21529964f545d06c8f388d7fcf13d6dbc7858d5710", func := "imago/imagolaw01.BitsBack", spec := "bitsBack", named := ["imago/bits.ones"], apart := false, laid := [("imago/bits.ones", laid_imago_bits_ones)], narrowed := true }
def BitsBackUptoSaid : Prop := bitsBackUptoRow.holds Tryd.pinned (OpenSpec.upto bitsBackSpec)

end Rows
end Go.Proofs.YtfkaibibdmjgcaaDoor
