/-
  DERIVED. GIVEN WITH THE SEED: THE CARDS: each row of YtgambpcggengoaaDoorRows.lean that lists a variable, with what it lists TIED to the program's text (the seventh form; the later family's looks); each row that meets fmt, with fmt's text TOLD by the authors' own Lean function (tested against real Go, not proved from fmt's source: count such statements apart). THE CARD IS WHAT COUNTS. Prove the row's statement (the work); the ties are given (YtgambpcggengoaaDoorTie.lean); close each card by the builder's one call (the guide's Derived/Test/ToyasCard.lean, 'card_holds'). Laid BY PROGRAM, IN A SANDBOX (cutbox-door.mjs). By AI agents, Wed Nov 11 2026. No macro, syntax, notation, axiom, sorry.
-/
import Derived.Test.YtgambpcggengoaaDoorRows
import GoSem.ClaimSeven
namespace Go.Proofs.YtgambpcggengoaaDoor
namespace Rows

/-- THE TIED CARD OF 'cusplaw23.CutsMerges'. -/
def cutsMergesCard : Claim7 := { stood := { row := cutsMergesRow, standIns := [], harness := (true, "30cacee38665ace0ad639c20dad12c1c32f5827f54fb6a2753efeb2d00e11d72"), looks := false }, kinds := [], alts := [], laidByText := true, laidKinds := [.data], laidTests := true, laidLooks := .later }
def CutsMergesCardSaid : Prop := Claim7.holds Tryd.pinned (.plain (OpenSpec.ofChange cutsMergesSpec)) cutsMergesCard

/-- THE SECOND FORM's CARD OF 'cusplaw23.CutsMerges'. -/
def cutsMergesUptoCard : Claim7 := { stood := { row := cutsMergesUptoRow, standIns := [], harness := (true, "30cacee38665ace0ad639c20dad12c1c32f5827f54fb6a2753efeb2d00e11d72"), looks := false }, kinds := [], alts := [], laidByText := true, laidKinds := [.data], laidTests := true, laidLooks := .later }
def CutsMergesUptoCardSaid : Prop := Claim7.holds Tryd.pinned (.plain (OpenSpec.upto cutsMergesSpec)) cutsMergesUptoCard
end Rows
end Go.Proofs.YtgambpcggengoaaDoor
