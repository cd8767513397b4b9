/-
  DERIVED. GIVEN WITH THE SEED: THE CARDS: each row of YtgambpcggengoaaGreatDoorRows.lean that lists a variable, with what it lists TIED to the program's text (the seventh form; the later family's looks); each row that meets fmt, with fmt's text TOLD by the authors' own Lean function (tested against real Go, not proved from fmt's source: count such statements apart). THE CARD IS WHAT COUNTS. Prove the row's statement (the work); the ties are given (YtgambpcggengoaaGreatDoorTie.lean); close each card by the builder's one call (the guide's Derived/Test/ToyasCard.lean, 'card_holds'). Laid BY PROGRAM, IN A SANDBOX (cutbox-door.mjs). By AI agents, Wed Nov 11 2026. No macro, syntax, notation, axiom, sorry.
-/
import Derived.Test.YtgambpcggengoaaGreatDoorRows
import GoSem.ClaimSeven
namespace Go.Proofs.YtgambpcggengoaaGreatDoor
namespace Rows

/-- THE TIED CARD OF 'cusplaw23.CutsTexts'. -/
def cutsTextsCard : Claim7 := { stood := { row := cutsTextsRow, standIns := [], harness := (true, "69f98c7463719faec16ff4dd67adb461d1e0eb2248d9ce5c928b9a93b231ab5d"), looks := false }, kinds := [], alts := [], laidByText := true, laidKinds := [.data, .data, .pinned], laidTests := true, laidLooks := .later }
def CutsTextsCardSaid : Prop := Claim7.holds Tryz.pinned (.plain (OpenSpec.ofChange cutsTextsSpec)) cutsTextsCard

/-- THE TIED CARD OF 'cusplaw23.CutsBack'. -/
def cutsBackCard : Claim7 := { stood := { row := cutsBackRow, standIns := [], harness := (true, "69f98c7463719faec16ff4dd67adb461d1e0eb2248d9ce5c928b9a93b231ab5d"), looks := false }, kinds := [], alts := [], laidByText := true, laidKinds := [.data, .data, .pinned], laidTests := true, laidLooks := .later }
def CutsBackCardSaid : Prop := Claim7.holds Tryz.pinned (.plain (OpenSpec.ofChange cutsBackSpec)) cutsBackCard

/-- THE SECOND FORM's CARD OF 'cusplaw23.CutsTexts'. -/
def cutsTextsUptoCard : Claim7 := { stood := { row := cutsTextsUptoRow, standIns := [], harness := (true, "69f98c7463719faec16ff4dd67adb461d1e0eb2248d9ce5c928b9a93b231ab5d"), looks := false }, kinds := [], alts := [], laidByText := true, laidKinds := [.data, .data, .pinned], laidTests := true, laidLooks := .later }
def CutsTextsUptoCardSaid : Prop := Claim7.holds Tryz.pinned (.plain (OpenSpec.upto cutsTextsSpec)) cutsTextsUptoCard

/-- THE SECOND FORM's CARD OF 'cusplaw23.CutsBack'. -/
def cutsBackUptoCard : Claim7 := { stood := { row := cutsBackUptoRow, standIns := [], harness := (true, "69f98c7463719faec16ff4dd67adb461d1e0eb2248d9ce5c928b9a93b231ab5d"), looks := false }, kinds := [], alts := [], laidByText := true, laidKinds := [.data, .data, .pinned], laidTests := true, laidLooks := .later }
def CutsBackUptoCardSaid : Prop := Claim7.holds Tryz.pinned (.plain (OpenSpec.upto cutsBackSpec)) cutsBackUptoCard
end Rows
end Go.Proofs.YtgambpcggengoaaGreatDoor
