/-
  DERIVED. GIVEN WITH THE SEED: THE CARDS: each row of YtpoamlpahljebaaGreatDoorRows.lean that lists a variable, with what it lists TIED to the program's text (the seventh form; the later family's looks); each row that meets fmt, with fmt's text TOLD by the authors' own Lean function (tested against real Go, not proved from fmt's source: count such statements apart). THE CARD IS WHAT COUNTS. Prove the row's statement (the work); the ties are given (YtpoamlpahljebaaGreatDoorTie.lean); close each card by the builder's one call (the guide's Derived/Test/ToyasCard.lean, 'card_holds'). Laid BY PROGRAM, IN A SANDBOX (cutbox-door.mjs). By AI agents, Wed Nov 11 2026. No macro, syntax, notation, axiom, sorry.
-/
import Derived.Test.YtpoamlpahljebaaGreatDoorRows
import GoSem.ClaimSeven
namespace Go.Proofs.YtpoamlpahljebaaGreatDoor
namespace Rows

/-- THE TIED CARD OF 'thunkmilltop.TopSharedCore'. -/
def topSharedCoreCard : Claim7 := { stood := { row := topSharedCoreRow, standIns := [], harness := (true, "c3070c23498a5cc766356726985c9cb32fbd8bcf4c23c626570416a3b6ddc506"), looks := false }, kinds := [], alts := [], laidByText := true, laidKinds := [.data, .data, .data], laidTests := true, laidLooks := .later }
def TopSharedCoreCardSaid : Prop := Claim7.holds Tryz.pinned (.plain (OpenSpec.ofChange topSharedCoreSpec)) topSharedCoreCard

/-- THE SECOND FORM's CARD OF 'thunkmilltop.TopSharedCore'. -/
def topSharedCoreUptoCard : Claim7 := { stood := { row := topSharedCoreUptoRow, standIns := [], harness := (true, "c3070c23498a5cc766356726985c9cb32fbd8bcf4c23c626570416a3b6ddc506"), looks := false }, kinds := [], alts := [], laidByText := true, laidKinds := [.data, .data, .data], laidTests := true, laidLooks := .later }
def TopSharedCoreUptoCardSaid : Prop := Claim7.holds Tryz.pinned (.plain (OpenSpec.upto topSharedCoreSpec)) topSharedCoreUptoCard
end Rows
end Go.Proofs.YtpoamlpahljebaaGreatDoor
