/-
  DERIVED. GIVEN WITH THE SEED: THE CARDS: each row of YtkfhklmklhnfaaaDoorRows.lean that lists a variable, with what it lists TIED to the program's text (the seventh form; the later family's looks); each row that meets fmt, with fmt's text TOLD by the authors' own Lean function (tested against real Go, not proved from fmt's source: count such statements apart). THE CARD IS WHAT COUNTS. Prove the row's statement (the work); the ties are given (YtkfhklmklhnfaaaDoorTie.lean); close each card by the builder's one call (the guide's Derived/Test/ToyasCard.lean, 'card_holds'). Laid BY PROGRAM, IN A SANDBOX (cutbox-door.mjs). By AI agents, Wed Nov 11 2026. No macro, syntax, notation, axiom, sorry.
-/
import Derived.Test.YtkfhklmklhnfaaaDoorRows
import GoSem.ClaimSeven
namespace Go.Proofs.YtkfhklmklhnfaaaDoor
namespace Rows

/-- THE TIED CARD OF 'cadencelaw07.TermDumps'. -/
def termDumpsCard : Claim7 := { stood := { row := termDumpsRow, standIns := [], harness := (true, "0e65d2d9c6c043e47b4b60f8dc830043a7ed3da092d7e9b0977ec059c28e9137"), looks := false }, kinds := [], alts := [], laidByText := true, laidKinds := [.data, .data, .data, .listed, .data], laidTests := true, laidLooks := .later }
def TermDumpsCardSaid : Prop := Claim7.holds Tryd.pinned (.plain (OpenSpec.ofChange termDumpsSpec)) termDumpsCard

/-- THE SECOND FORM's CARD OF 'cadencelaw07.TermDumps'. -/
def termDumpsUptoCard : Claim7 := { stood := { row := termDumpsUptoRow, standIns := [], harness := (true, "0e65d2d9c6c043e47b4b60f8dc830043a7ed3da092d7e9b0977ec059c28e9137"), looks := false }, kinds := [], alts := [], laidByText := true, laidKinds := [.data, .data, .data, .listed, .data], laidTests := true, laidLooks := .later }
def TermDumpsUptoCardSaid : Prop := Claim7.holds Tryd.pinned (.plain (OpenSpec.upto termDumpsSpec)) termDumpsUptoCard
end Rows
end Go.Proofs.YtkfhklmklhnfaaaDoor
