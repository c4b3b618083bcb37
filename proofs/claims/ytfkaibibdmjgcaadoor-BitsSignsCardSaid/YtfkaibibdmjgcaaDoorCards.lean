/-
  DERIVED. GIVEN WITH THE SEED: THE CARDS: each row of YtfkaibibdmjgcaaDoorRows.lean that lists a variable, with what it lists TIED to the program's text (the seventh form; the later family's looks); each row that meets fmt, with fmt's text TOLD by the authors' own Lean function (tested against real Go, not proved from fmt's source: count such statements apart). THE CARD IS WHAT COUNTS. Prove the row's statement (the work); the ties are given (YtfkaibibdmjgcaaDoorTie.lean); close each card by the builder's one call (the guide's Derived/Test/ToyasCard.lean, 'card_holds'). Laid BY PROGRAM, IN A SANDBOX (cutbox-door.mjs). By AI agents, Wed Nov 11 2026. No macro, syntax, notation, axiom, sorry.
-/
import Derived.Test.YtfkaibibdmjgcaaDoorRows
import GoSem.ClaimSeven
namespace Go.Proofs.YtfkaibibdmjgcaaDoor
namespace Rows

/-- THE TIED CARD OF 'imagolaw01.BitsTurns'. -/
def bitsTurnsCard : Claim7 := { stood := { row := bitsTurnsRow, standIns := [], harness := (true, "f95e7ab91090a95b50c6527897192aa483f9e94624721fd3545a49ac86249986"), looks := false }, kinds := [], alts := [], laidByText := true, laidKinds := [.data], laidTests := true, laidLooks := .later }
def BitsTurnsCardSaid : Prop := Claim7.holds Tryd.pinned (.plain (OpenSpec.ofChange bitsTurnsSpec)) bitsTurnsCard

/-- THE TIED CARD OF 'imagolaw01.BitsSame'. -/
def bitsSameCard : Claim7 := { stood := { row := bitsSameRow, standIns := [], harness := (true, "f95e7ab91090a95b50c6527897192aa483f9e94624721fd3545a49ac86249986"), looks := false }, kinds := [], alts := [], laidByText := true, laidKinds := [.data], laidTests := true, laidLooks := .later }
def BitsSameCardSaid : Prop := Claim7.holds Tryd.pinned (.plain (OpenSpec.ofChange bitsSameSpec)) bitsSameCard

/-- THE TIED CARD OF 'imagolaw01.BitsFields'. -/
def bitsFieldsCard : Claim7 := { stood := { row := bitsFieldsRow, standIns := [], harness := (true, "f95e7ab91090a95b50c6527897192aa483f9e94624721fd3545a49ac86249986"), looks := false }, kinds := [], alts := [], laidByText := true, laidKinds := [.data], laidTests := true, laidLooks := .later }
def BitsFieldsCardSaid : Prop := Claim7.holds Tryd.pinned (.plain (OpenSpec.ofChange bitsFieldsSpec)) bitsFieldsCard

/-- THE TIED CARD OF 'imagolaw01.BitsSigns'. -/
def bitsSignsCard : Claim7 := { stood := { row := bitsSignsRow, standIns := [], harness := (true, "f95e7ab91090a95b50c6527897192aa483f9e94624721fd3545a49ac86249986"), looks := false }, kinds := [], alts := [], laidByText := true, laidKinds := [.data], laidTests := true, laidLooks := .later }
def BitsSignsCardSaid : Prop := Claim7.holds Tryd.pinned (.plain (OpenSpec.ofChange bitsSignsSpec)) bitsSignsCard

/-- THE TIED CARD OF 'imagolaw01.BitsBytes'. -/
def bitsBytesCard : Claim7 := { stood := { row := bitsBytesRow, standIns := [], harness := (true, "f95e7ab91090a95b50c6527897192aa483f9e94624721fd3545a49ac86249986"), looks := false }, kinds := [], alts := [], laidByText := true, laidKinds := [.data], laidTests := true, laidLooks := .later }
def BitsBytesCardSaid : Prop := Claim7.holds Tryd.pinned (.plain (OpenSpec.ofChange bitsBytesSpec)) bitsBytesCard

/-- THE TIED CARD OF 'imagolaw01.BitsBack'. -/
def bitsBackCard : Claim7 := { stood := { row := bitsBackRow, standIns := [], harness := (true, "f95e7ab91090a95b50c6527897192aa483f9e94624721fd3545a49ac86249986"), looks := false }, kinds := [], alts := [], laidByText := true, laidKinds := [.data], laidTests := true, laidLooks := .later }
def BitsBackCardSaid : Prop := Claim7.holds Tryd.pinned (.plain (OpenSpec.ofChange bitsBackSpec)) bitsBackCard

/-- THE SECOND FORM's CARD OF 'imagolaw01.BitsTurns'. -/
def bitsTurnsUptoCard : Claim7 := { stood := { row := bitsTurnsUptoRow, standIns := [], harness := (true, "f95e7ab91090a95b50c6527897192aa483f9e94624721fd3545a49ac86249986"), looks := false }, kinds := [], alts := [], laidByText := true, laidKinds := [.data], laidTests := true, laidLooks := .later }
def BitsTurnsUptoCardSaid : Prop := Claim7.holds Tryd.pinned (.plain (OpenSpec.upto bitsTurnsSpec)) bitsTurnsUptoCard

/-- THE SECOND FORM's CARD OF 'imagolaw01.BitsSame'. -/
def bitsSameUptoCard : Claim7 := { stood := { row := bitsSameUptoRow, standIns := [], harness := (true, "f95e7ab91090a95b50c6527897192aa483f9e94624721fd3545a49ac86249986"), looks := false }, kinds := [], alts := [], laidByText := true, laidKinds := [.data], laidTests := true, laidLooks := .later }
def BitsSameUptoCardSaid : Prop := Claim7.holds Tryd.pinned (.plain (OpenSpec.upto bitsSameSpec)) bitsSameUptoCard

/-- THE SECOND FORM's CARD OF 'imagolaw01.BitsFields'. -/
def bitsFieldsUptoCard : Claim7 := { stood := { row := bitsFieldsUptoRow, standIns := [], harness := (true, "f95e7ab91090a95b50c6527897192aa483f9e94624721fd3545a49ac86249986"), looks := false }, kinds := [], alts := [], laidByText := true, laidKinds := [.data], laidTests := true, laidLooks := .later }
def BitsFieldsUptoCardSaid : Prop := Claim7.holds Tryd.pinned (.plain (OpenSpec.upto bitsFieldsSpec)) bitsFieldsUptoCard

/-- THE SECOND FORM's CARD OF 'imagolaw01.BitsSigns'. -/
def bitsSignsUptoCard : Claim7 := { stood := { row := bitsSignsUptoRow, standIns := [], harness := (true, "f95e7ab91090a95b50c6527897192aa483f9e94624721fd3545a49ac86249986"), looks := false }, kinds := [], alts := [], laidByText := true, laidKinds := [.data], laidTests := true, laidLooks := .later }
def BitsSignsUptoCardSaid : Prop := Claim7.holds Tryd.pinned (.plain (OpenSpec.upto bitsSignsSpec)) bitsSignsUptoCard

/-- THE SECOND FORM's CARD OF 'imagolaw01.BitsBytes'. -/
def bitsBytesUptoCard : Claim7 := { stood := { row := bitsBytesUptoRow, standIns := [], harness := (true, "f95e7ab91090a95b50c6527897192aa483f9e94624721fd3545a49ac86249986"), looks := false }, kinds := [], alts := [], laidByText := true, laidKinds := [.data], laidTests := true, laidLooks := .later }
def BitsBytesUptoCardSaid : Prop := Claim7.holds Tryd.pinned (.plain (OpenSpec.upto bitsBytesSpec)) bitsBytesUptoCard

/-- THE SECOND FORM's CARD OF 'imagolaw01.BitsBack'. -/
def bitsBackUptoCard : Claim7 := { stood := { row := bitsBackUptoRow, standIns := [], harness := (true, "f95e7ab91090a95b50c6527897192aa483f9e94624721fd3545a49ac86249986"), looks := false }, kinds := [], alts := [], laidByText := true, laidKinds := [.data], laidTests := true, laidLooks := .later }
def BitsBackUptoCardSaid : Prop := Claim7.holds Tryd.pinned (.plain (OpenSpec.upto bitsBackSpec)) bitsBackUptoCard
end Rows
end Go.Proofs.YtfkaibibdmjgcaaDoor
