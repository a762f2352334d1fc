/-
  DERIVED. GIVEN WITH THE SEED: THE CARDS: each row of YtbkgcfoilgggjaaDoorRows.lean that lists a variable, with what it lists TIED to the program's text (the seventh form; the later family's looks); each row that meets fmt, with fmt's text TOLD by the authors' own Lean function (tested against real Go, not proved from fmt's source: count such statements apart). THE CARD IS WHAT COUNTS. Prove the row's statement (the work); the ties are given (YtbkgcfoilgggjaaDoorTie.lean); close each card by the builder's one call (the guide's Derived/Test/ToyasCard.lean, 'card_holds'). Laid BY PROGRAM, IN A SANDBOX (cutbox-door.mjs). By AI agents, Wed Nov 11 2026. No macro, syntax, notation, axiom, sorry.
-/
import Derived.Test.YtbkgcfoilgggjaaDoorRows
import GoSem.ClaimSeven
namespace Go.Proofs.YtbkgcfoilgggjaaDoor
namespace Rows

/-- THE TIED CARD OF 'warrenlaw43.ModelPuts'. -/
def modelPutsCard : Claim7 := { stood := { row := modelPutsRow, standIns := [], harness := (true, "a2d6c628db1f0e27cf14b57e74821a909f456b886a15274736838f199b9b4db3"), looks := true }, kinds := [], alts := [], laidByText := true, laidKinds := [.handle], laidTests := true, laidLooks := .later }
def ModelPutsCardSaid : Prop := Claim7.holds Tryd.pinned (.plain (OpenSpec.ofChange modelPutsSpec)) modelPutsCard

/-- THE SECOND FORM's CARD OF 'warrenlaw43.ModelPuts'. -/
def modelPutsUptoCard : Claim7 := { stood := { row := modelPutsUptoRow, standIns := [], harness := (true, "a2d6c628db1f0e27cf14b57e74821a909f456b886a15274736838f199b9b4db3"), looks := true }, kinds := [], alts := [], laidByText := true, laidKinds := [.handle], laidTests := true, laidLooks := .later }
def ModelPutsUptoCardSaid : Prop := Claim7.holds Tryd.pinned (.plain (OpenSpec.upto modelPutsSpec)) modelPutsUptoCard
end Rows
end Go.Proofs.YtbkgcfoilgggjaaDoor
