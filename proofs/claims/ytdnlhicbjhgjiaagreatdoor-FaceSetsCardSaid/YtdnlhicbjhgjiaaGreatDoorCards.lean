/-
  DERIVED. GIVEN WITH THE SEED: THE CARDS: each row of YtdnlhicbjhgjiaaGreatDoorRows.lean that lists a variable, with what it lists TIED to the program's text (the seventh form; the later family's looks); each row that meets fmt, with fmt's text TOLD by the authors' own Lean function (tested against real Go, not proved from fmt's source: count such statements apart). THE CARD IS WHAT COUNTS. Prove the row's statement (the work); the ties are given (YtdnlhicbjhgjiaaGreatDoorTie.lean); close each card by the builder's one call (the guide's Derived/Test/ToyasCard.lean, 'card_holds'). Laid BY PROGRAM, IN A SANDBOX (cutbox-door.mjs). By AI agents, Wed Nov 11 2026. No macro, syntax, notation, axiom, sorry.
-/
import Derived.Test.YtdnlhicbjhgjiaaGreatDoorRows
import GoSem.ClaimSeven
namespace Go.Proofs.YtdnlhicbjhgjiaaGreatDoor
namespace Rows

/-- THE TIED CARD OF 'aquiferlaw15.FaceSets'. -/
def faceSetsCard : Claim7 := { stood := { row := faceSetsRow, standIns := [], harness := (true, "e78b8ae7a64494528f14ebbcd16b0c28be397c12e2475f68af6de4d5b58a89f5"), looks := true }, kinds := [], alts := [], laidByText := true, laidKinds := [.data, .data, .data, .sentinel, .sentinel], laidTests := true, laidLooks := .later }
def FaceSetsCardSaid : Prop := Claim7.holds Tryz.pinned (.plain (OpenSpec.ofChange faceSetsSpec)) faceSetsCard

/-- THE TIED CARD OF 'aquiferlaw15.FaceHides'. -/
def faceHidesCard : Claim7 := { stood := { row := faceHidesRow, standIns := [], harness := (true, "e78b8ae7a64494528f14ebbcd16b0c28be397c12e2475f68af6de4d5b58a89f5"), looks := true }, kinds := [], alts := [], laidByText := true, laidKinds := [.data, .data, .data, .sentinel, .sentinel], laidTests := true, laidLooks := .later }
def FaceHidesCardSaid : Prop := Claim7.holds Tryz.pinned (.plain (OpenSpec.ofChange faceHidesSpec)) faceHidesCard

/-- THE SECOND FORM's CARD OF 'aquiferlaw15.FaceSets'. -/
def faceSetsUptoCard : Claim7 := { stood := { row := faceSetsUptoRow, standIns := [], harness := (true, "e78b8ae7a64494528f14ebbcd16b0c28be397c12e2475f68af6de4d5b58a89f5"), looks := true }, kinds := [], alts := [], laidByText := true, laidKinds := [.data, .data, .data, .sentinel, .sentinel], laidTests := true, laidLooks := .later }
def FaceSetsUptoCardSaid : Prop := Claim7.holds Tryz.pinned (.plain (OpenSpec.upto faceSetsSpec)) faceSetsUptoCard

/-- THE SECOND FORM's CARD OF 'aquiferlaw15.FaceHides'. -/
def faceHidesUptoCard : Claim7 := { stood := { row := faceHidesUptoRow, standIns := [], harness := (true, "e78b8ae7a64494528f14ebbcd16b0c28be397c12e2475f68af6de4d5b58a89f5"), looks := true }, kinds := [], alts := [], laidByText := true, laidKinds := [.data, .data, .data, .sentinel, .sentinel], laidTests := true, laidLooks := .later }
def FaceHidesUptoCardSaid : Prop := Claim7.holds Tryz.pinned (.plain (OpenSpec.upto faceHidesSpec)) faceHidesUptoCard
end Rows
end Go.Proofs.YtdnlhicbjhgjiaaGreatDoor
