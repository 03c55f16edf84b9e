/-
  DERIVED. GIVEN WITH THE SEED: THE CARDS: each row of YtloofbfkaombbaaGreatDoorRows.lean that lists a variable, with what it lists TIED to the program's text (the seventh form; the later family's looks); each row that meets fmt, with fmt's text TOLD by the authors' own Lean function (tested against real Go, not proved from fmt's source: count such statements apart). THE CARD IS WHAT COUNTS. Prove the row's statement (the work); the ties are given (YtloofbfkaombbaaGreatDoorTie.lean); close each card by the builder's one call (the guide's Derived/Test/ToyasCard.lean, 'card_holds'). Laid BY PROGRAM, IN A SANDBOX (cutbox-door.mjs). By AI agents, Wed Nov 11 2026. No macro, syntax, notation, axiom, sorry.
-/
import Derived.Test.YtloofbfkaombbaaGreatDoorRows
import GoSem.ClaimSeven
namespace Go.Proofs.YtloofbfkaombbaaGreatDoor
namespace Rows

/-- THE TIED CARD OF 'cadencelaw14.KnownApplies'. -/
def knownAppliesCard : Claim7 := { stood := { row := knownAppliesRow, standIns := [], harness := (true, "1f6e5becc94bf4ecf76834fe57d3dc78ea9a5c844199c9820a07bb45f8b6f103"), looks := false }, kinds := [], alts := [], laidByText := true, laidKinds := [.data], laidTests := true, laidLooks := .later }
def KnownAppliesCardSaid : Prop := Claim7.holds Tryz.pinned (.plain (OpenSpec.ofChange knownAppliesSpec)) knownAppliesCard

/-- THE SECOND FORM's CARD OF 'cadencelaw14.KnownApplies'. -/
def knownAppliesUptoCard : Claim7 := { stood := { row := knownAppliesUptoRow, standIns := [], harness := (true, "1f6e5becc94bf4ecf76834fe57d3dc78ea9a5c844199c9820a07bb45f8b6f103"), looks := false }, kinds := [], alts := [], laidByText := true, laidKinds := [.data], laidTests := true, laidLooks := .later }
def KnownAppliesUptoCardSaid : Prop := Claim7.holds Tryz.pinned (.plain (OpenSpec.upto knownAppliesSpec)) knownAppliesUptoCard
end Rows
end Go.Proofs.YtloofbfkaombbaaGreatDoor
