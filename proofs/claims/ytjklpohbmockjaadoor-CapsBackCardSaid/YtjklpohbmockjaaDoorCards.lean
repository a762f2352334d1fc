/-
  DERIVED. GIVEN WITH THE SEED: THE CARDS: each row of YtjklpohbmockjaaDoorRows.lean that lists a variable, with what it lists TIED to the program's text (the seventh form; the later family's looks); each row that meets fmt, with fmt's text TOLD by the authors' own Lean function (tested against real Go, not proved from fmt's source: count such statements apart). THE CARD IS WHAT COUNTS. Prove the row's statement (the work); the ties are given (YtjklpohbmockjaaDoorTie.lean); close each card by the builder's one call (the guide's Derived/Test/ToyasCard.lean, 'card_holds'). Laid BY PROGRAM, IN A SANDBOX (cutbox-door.mjs). By AI agents, Wed Nov 11 2026. No macro, syntax, notation, axiom, sorry.
-/
import Derived.Test.YtjklpohbmockjaaDoorRows
import GoSem.ClaimSeven
namespace Go.Proofs.YtjklpohbmockjaaDoor
namespace Rows

/-- THE TIED CARD OF 'warrenlaw28.CapsBack'. -/
def capsBackCard : Claim7 := { stood := { row := capsBackRow, standIns := [], harness := (true, "0f634ca31040f534eb226624c22075355c944edc702b229516878ececaa25dfe"), looks := true }, kinds := [], alts := [], laidByText := true, laidKinds := [.data, .data, .data, .handle, .sentinel, .sentinel], laidTests := true, laidLooks := .later }
def CapsBackCardSaid : Prop := Claim7.holds Tryd.pinned (.plain (OpenSpec.ofChange capsBackSpec)) capsBackCard

/-- THE SECOND FORM's CARD OF 'warrenlaw28.CapsBack'. -/
def capsBackUptoCard : Claim7 := { stood := { row := capsBackUptoRow, standIns := [], harness := (true, "0f634ca31040f534eb226624c22075355c944edc702b229516878ececaa25dfe"), looks := true }, kinds := [], alts := [], laidByText := true, laidKinds := [.data, .data, .data, .handle, .sentinel, .sentinel], laidTests := true, laidLooks := .later }
def CapsBackUptoCardSaid : Prop := Claim7.holds Tryd.pinned (.plain (OpenSpec.upto capsBackSpec)) capsBackUptoCard
end Rows
end Go.Proofs.YtjklpohbmockjaaDoor
