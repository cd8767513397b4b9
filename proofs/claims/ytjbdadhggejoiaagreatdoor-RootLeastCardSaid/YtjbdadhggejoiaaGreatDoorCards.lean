/-
  DERIVED. GIVEN WITH THE SEED: THE CARDS: each row of YtjbdadhggejoiaaGreatDoorRows.lean that lists a variable, with what it lists TIED to the program's text (the seventh form; the later family's looks); each row that meets fmt, with fmt's text TOLD by the authors' own Lean function (tested against real Go, not proved from fmt's source: count such statements apart). THE CARD IS WHAT COUNTS. Prove the row's statement (the work); the ties are given (YtjbdadhggejoiaaGreatDoorTie.lean); close each card by the builder's one call (the guide's Derived/Test/ToyasCard.lean, 'card_holds'). Laid BY PROGRAM, IN A SANDBOX (cutbox-door.mjs). By AI agents, Wed Nov 11 2026. No macro, syntax, notation, axiom, sorry.
-/
import Derived.Test.YtjbdadhggejoiaaGreatDoorRows
import GoSem.ClaimSeven
namespace Go.Proofs.YtjbdadhggejoiaaGreatDoor
namespace Rows

/-- THE TIED CARD OF 'cusplaw18.RootLeast'. -/
def rootLeastCard : Claim7 := { stood := { row := rootLeastRow, standIns := [], harness := (true, "00d361c0a86576aaf892913c99ad5c6c681b2cdaf953744ad467703b4b8be265"), looks := false }, kinds := [], alts := [], laidByText := true, laidKinds := [.data], laidTests := true, laidLooks := .later }
def RootLeastCardSaid : Prop := Claim7.holds Tryz.pinned (.plain (OpenSpec.ofChange rootLeastSpec)) rootLeastCard

/-- THE SECOND FORM's CARD OF 'cusplaw18.RootLeast'. -/
def rootLeastUptoCard : Claim7 := { stood := { row := rootLeastUptoRow, standIns := [], harness := (true, "00d361c0a86576aaf892913c99ad5c6c681b2cdaf953744ad467703b4b8be265"), looks := false }, kinds := [], alts := [], laidByText := true, laidKinds := [.data], laidTests := true, laidLooks := .later }
def RootLeastUptoCardSaid : Prop := Claim7.holds Tryz.pinned (.plain (OpenSpec.upto rootLeastSpec)) rootLeastUptoCard
end Rows
end Go.Proofs.YtjbdadhggejoiaaGreatDoor
