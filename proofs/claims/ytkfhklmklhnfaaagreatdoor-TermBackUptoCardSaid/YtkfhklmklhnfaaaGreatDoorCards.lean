/-
  DERIVED. GIVEN WITH THE SEED: THE CARDS: each row of YtkfhklmklhnfaaaGreatDoorRows.lean that lists a variable, with what it lists TIED to the program's text (the seventh form; the later family's looks); each row that meets fmt, with fmt's text TOLD by the authors' own Lean function (tested against real Go, not proved from fmt's source: count such statements apart). THE CARD IS WHAT COUNTS. Prove the row's statement (the work); the ties are given (YtkfhklmklhnfaaaGreatDoorTie.lean); close each card by the builder's one call (the guide's Derived/Test/ToyasCard.lean, 'card_holds'). Laid BY PROGRAM, IN A SANDBOX (cutbox-door.mjs). By AI agents, Wed Nov 11 2026. No macro, syntax, notation, axiom, sorry.
-/
import Derived.Test.YtkfhklmklhnfaaaGreatDoorRows
import GoSem.ClaimSeven
namespace Go.Proofs.YtkfhklmklhnfaaaGreatDoor
namespace Rows

/-- THE TIED CARD OF 'cadencelaw07.TermLoads'. -/
def termLoadsCard : Claim7 := { stood := { row := termLoadsRow, standIns := [], harness := (true, "bcb0d7b063f6a508d999a1c8a3db9046f5e7000f755013456d8be93786fe63ee"), looks := true }, kinds := [], alts := [], laidByText := true, laidKinds := [.data, .data, .data, .data, .sentinel, .sentinel, .listed, .data, .pinned], laidTests := true, laidLooks := .later }
def TermLoadsCardSaid : Prop := Claim7.holds Tryz.pinned (.plain (OpenSpec.ofChange termLoadsSpec)) termLoadsCard

/-- THE TIED CARD OF 'cadencelaw07.TermBack'. -/
def termBackCard : Claim7 := { stood := { row := termBackRow, standIns := [], harness := (true, "bcb0d7b063f6a508d999a1c8a3db9046f5e7000f755013456d8be93786fe63ee"), looks := true }, kinds := [], alts := [], laidByText := true, laidKinds := [.data, .data, .data, .data, .sentinel, .sentinel, .listed, .data, .pinned], laidTests := true, laidLooks := .later }
def TermBackCardSaid : Prop := Claim7.holds Tryz.pinned (.plain (OpenSpec.ofChange termBackSpec)) termBackCard

/-- THE SECOND FORM's CARD OF 'cadencelaw07.TermLoads'. -/
def termLoadsUptoCard : Claim7 := { stood := { row := termLoadsUptoRow, standIns := [], harness := (true, "bcb0d7b063f6a508d999a1c8a3db9046f5e7000f755013456d8be93786fe63ee"), looks := true }, kinds := [], alts := [], laidByText := true, laidKinds := [.data, .data, .data, .data, .sentinel, .sentinel, .listed, .data, .pinned], laidTests := true, laidLooks := .later }
def TermLoadsUptoCardSaid : Prop := Claim7.holds Tryz.pinned (.plain (OpenSpec.upto termLoadsSpec)) termLoadsUptoCard

/-- THE SECOND FORM's CARD OF 'cadencelaw07.TermBack'. -/
def termBackUptoCard : Claim7 := { stood := { row := termBackUptoRow, standIns := [], harness := (true, "bcb0d7b063f6a508d999a1c8a3db9046f5e7000f755013456d8be93786fe63ee"), looks := true }, kinds := [], alts := [], laidByText := true, laidKinds := [.data, .data, .data, .data, .sentinel, .sentinel, .listed, .data, .pinned], laidTests := true, laidLooks := .later }
def TermBackUptoCardSaid : Prop := Claim7.holds Tryz.pinned (.plain (OpenSpec.upto termBackSpec)) termBackUptoCard
end Rows
end Go.Proofs.YtkfhklmklhnfaaaGreatDoor
