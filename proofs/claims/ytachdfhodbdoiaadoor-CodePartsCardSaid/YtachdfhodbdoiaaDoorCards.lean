/-
  DERIVED. GIVEN WITH THE SEED: THE CARDS: each row of YtachdfhodbdoiaaDoorRows.lean that lists a variable, with what it lists TIED to the program's text (the seventh form; the later family's looks); each row that meets fmt, with fmt's text TOLD by the authors' own Lean function (tested against real Go, not proved from fmt's source: count such statements apart). THE CARD IS WHAT COUNTS. Prove the row's statement (the work); the ties are given (YtachdfhodbdoiaaDoorTie.lean); close each card by the builder's one call (the guide's Derived/Test/ToyasCard.lean, 'card_holds'). Laid BY PROGRAM, IN A SANDBOX (cutbox-door.mjs). By AI agents, Wed Nov 11 2026. No macro, syntax, notation, axiom, sorry.
-/
import Derived.Test.YtachdfhodbdoiaaDoorRows
import GoSem.ClaimSeven
namespace Go.Proofs.YtachdfhodbdoiaaDoor
namespace Rows

/-- THE TIED CARD OF 'imagolaw05.CodeInsts'. -/
def codeInstsCard : Claim7 := { stood := { row := codeInstsRow, standIns := [], harness := (true, "2f062a83339f5afb031b3531ce6d222e8caddfeac6509b9791c43ad5ae27d162"), looks := false }, kinds := [], alts := [], laidByText := true, laidKinds := [.data, .data], laidTests := true, laidLooks := .later }
def CodeInstsCardSaid : Prop := Claim7.holds Tryd.pinned (.plain (OpenSpec.ofChange codeInstsSpec)) codeInstsCard

/-- THE TIED CARD OF 'imagolaw05.CodeBack'. -/
def codeBackCard : Claim7 := { stood := { row := codeBackRow, standIns := [], harness := (true, "2f062a83339f5afb031b3531ce6d222e8caddfeac6509b9791c43ad5ae27d162"), looks := false }, kinds := [], alts := [], laidByText := true, laidKinds := [.data, .data], laidTests := true, laidLooks := .later }
def CodeBackCardSaid : Prop := Claim7.holds Tryd.pinned (.plain (OpenSpec.ofChange codeBackSpec)) codeBackCard

/-- THE TIED CARD OF 'imagolaw05.CodeParts'. -/
def codePartsCard : Claim7 := { stood := { row := codePartsRow, standIns := [], harness := (true, "2f062a83339f5afb031b3531ce6d222e8caddfeac6509b9791c43ad5ae27d162"), looks := false }, kinds := [], alts := [], laidByText := true, laidKinds := [.data, .data], laidTests := true, laidLooks := .later }
def CodePartsCardSaid : Prop := Claim7.holds Tryd.pinned (.plain (OpenSpec.ofChange codePartsSpec)) codePartsCard

/-- THE TIED CARD OF 'imagolaw05.CodeLists'. -/
def codeListsCard : Claim7 := { stood := { row := codeListsRow, standIns := [], harness := (true, "2f062a83339f5afb031b3531ce6d222e8caddfeac6509b9791c43ad5ae27d162"), looks := false }, kinds := [], alts := [], laidByText := true, laidKinds := [.data, .data], laidTests := true, laidLooks := .later }
def CodeListsCardSaid : Prop := Claim7.holds Tryd.pinned (.plain (OpenSpec.ofChange codeListsSpec)) codeListsCard

/-- THE TIED CARD OF 'imagolaw05.CodeOne'. -/
def codeOneCard : Claim7 := { stood := { row := codeOneRow, standIns := [], harness := (true, "2f062a83339f5afb031b3531ce6d222e8caddfeac6509b9791c43ad5ae27d162"), looks := false }, kinds := [], alts := [], laidByText := true, laidKinds := [.data, .data], laidTests := true, laidLooks := .later }
def CodeOneCardSaid : Prop := Claim7.holds Tryd.pinned (.plain (OpenSpec.ofChange codeOneSpec)) codeOneCard

/-- THE SECOND FORM's CARD OF 'imagolaw05.CodeInsts'. -/
def codeInstsUptoCard : Claim7 := { stood := { row := codeInstsUptoRow, standIns := [], harness := (true, "2f062a83339f5afb031b3531ce6d222e8caddfeac6509b9791c43ad5ae27d162"), looks := false }, kinds := [], alts := [], laidByText := true, laidKinds := [.data, .data], laidTests := true, laidLooks := .later }
def CodeInstsUptoCardSaid : Prop := Claim7.holds Tryd.pinned (.plain (OpenSpec.upto codeInstsSpec)) codeInstsUptoCard

/-- THE SECOND FORM's CARD OF 'imagolaw05.CodeBack'. -/
def codeBackUptoCard : Claim7 := { stood := { row := codeBackUptoRow, standIns := [], harness := (true, "2f062a83339f5afb031b3531ce6d222e8caddfeac6509b9791c43ad5ae27d162"), looks := false }, kinds := [], alts := [], laidByText := true, laidKinds := [.data, .data], laidTests := true, laidLooks := .later }
def CodeBackUptoCardSaid : Prop := Claim7.holds Tryd.pinned (.plain (OpenSpec.upto codeBackSpec)) codeBackUptoCard

/-- THE SECOND FORM's CARD OF 'imagolaw05.CodeParts'. -/
def codePartsUptoCard : Claim7 := { stood := { row := codePartsUptoRow, standIns := [], harness := (true, "2f062a83339f5afb031b3531ce6d222e8caddfeac6509b9791c43ad5ae27d162"), looks := false }, kinds := [], alts := [], laidByText := true, laidKinds := [.data, .data], laidTests := true, laidLooks := .later }
def CodePartsUptoCardSaid : Prop := Claim7.holds Tryd.pinned (.plain (OpenSpec.upto codePartsSpec)) codePartsUptoCard

/-- THE SECOND FORM's CARD OF 'imagolaw05.CodeLists'. -/
def codeListsUptoCard : Claim7 := { stood := { row := codeListsUptoRow, standIns := [], harness := (true, "2f062a83339f5afb031b3531ce6d222e8caddfeac6509b9791c43ad5ae27d162"), looks := false }, kinds := [], alts := [], laidByText := true, laidKinds := [.data, .data], laidTests := true, laidLooks := .later }
def CodeListsUptoCardSaid : Prop := Claim7.holds Tryd.pinned (.plain (OpenSpec.upto codeListsSpec)) codeListsUptoCard

/-- THE SECOND FORM's CARD OF 'imagolaw05.CodeOne'. -/
def codeOneUptoCard : Claim7 := { stood := { row := codeOneUptoRow, standIns := [], harness := (true, "2f062a83339f5afb031b3531ce6d222e8caddfeac6509b9791c43ad5ae27d162"), looks := false }, kinds := [], alts := [], laidByText := true, laidKinds := [.data, .data], laidTests := true, laidLooks := .later }
def CodeOneUptoCardSaid : Prop := Claim7.holds Tryd.pinned (.plain (OpenSpec.upto codeOneSpec)) codeOneUptoCard
end Rows
end Go.Proofs.YtachdfhodbdoiaaDoor
