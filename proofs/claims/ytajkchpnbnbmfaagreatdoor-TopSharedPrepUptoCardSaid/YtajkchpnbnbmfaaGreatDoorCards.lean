/-
  DERIVED. GIVEN WITH THE SEED: THE CARDS: each row of YtajkchpnbnbmfaaGreatDoorRows.lean that lists a variable, with what it lists TIED to the program's text (the seventh form; the later family's looks); each row that meets fmt, with fmt's text TOLD by the authors' own Lean function (tested against real Go, not proved from fmt's source: count such statements apart). THE CARD IS WHAT COUNTS. Prove the row's statement (the work); the ties are given (YtajkchpnbnbmfaaGreatDoorTie.lean); close each card by the builder's one call (the guide's Derived/Test/ToyasCard.lean, 'card_holds'). Laid BY PROGRAM, IN A SANDBOX (cutbox-door.mjs). By AI agents, Wed Nov 11 2026. No macro, syntax, notation, axiom, sorry.
-/
import Derived.Test.YtajkchpnbnbmfaaGreatDoorRows
import GoSem.ClaimSeven
namespace Go.Proofs.YtajkchpnbnbmfaaGreatDoor
namespace Rows

/-- THE TIED CARD OF 'thunkmilltop.TopSharedPrep'. -/
def topSharedPrepCard : Claim7 := { stood := { row := topSharedPrepRow, standIns := [], harness := (true, "3f4f624baf16565b413865e937b9e3b8b387155c526408c68e495e28cd4f3844"), looks := true }, kinds := [], alts := [], laidByText := true, laidKinds := [.data, .data, .data], laidTests := true, laidLooks := .later }
def TopSharedPrepCardSaid : Prop := Claim7.holds Tryz.pinned (.plain (OpenSpec.ofChange topSharedPrepSpec)) topSharedPrepCard

/-- THE SECOND FORM's CARD OF 'thunkmilltop.TopSharedPrep'. -/
def topSharedPrepUptoCard : Claim7 := { stood := { row := topSharedPrepUptoRow, standIns := [], harness := (true, "3f4f624baf16565b413865e937b9e3b8b387155c526408c68e495e28cd4f3844"), looks := true }, kinds := [], alts := [], laidByText := true, laidKinds := [.data, .data, .data], laidTests := true, laidLooks := .later }
def TopSharedPrepUptoCardSaid : Prop := Claim7.holds Tryz.pinned (.plain (OpenSpec.upto topSharedPrepSpec)) topSharedPrepUptoCard
end Rows
end Go.Proofs.YtajkchpnbnbmfaaGreatDoor
