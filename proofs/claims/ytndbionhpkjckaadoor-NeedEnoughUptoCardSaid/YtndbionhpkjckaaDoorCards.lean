/-
  DERIVED. GIVEN WITH THE SEED: THE CARDS: each row of YtndbionhpkjckaaDoorRows.lean that lists a variable, with what it lists TIED to the program's text (the seventh form; the later family's looks); each row that meets fmt, with fmt's text TOLD by the authors' own Lean function (tested against real Go, not proved from fmt's source: count such statements apart). THE CARD IS WHAT COUNTS. Prove the row's statement (the work); the ties are given (YtndbionhpkjckaaDoorTie.lean); close each card by the builder's one call (the guide's Derived/Test/ToyasCard.lean, 'card_holds'). Laid BY PROGRAM, IN A SANDBOX (cutbox-door.mjs). By AI agents, Wed Nov 11 2026. No macro, syntax, notation, axiom, sorry.
-/
import Derived.Test.YtndbionhpkjckaaDoorRows
import GoSem.ClaimSeven
namespace Go.Proofs.YtndbionhpkjckaaDoor
namespace Rows

/-- THE TIED CARD OF 'cadencelaw20.NeedRoomy'. -/
def needRoomyCard : Claim7 := { stood := { row := needRoomyRow, standIns := [], harness := (true, "4aadf47cea8b2241c1f910e164ac51f7a467548bd05fa9efc2fa3c191cf8efbd"), looks := false }, kinds := [], alts := [], laidByText := true, laidKinds := [.data, .data, .data, .data, .pinned], laidTests := true, laidLooks := .later }
def NeedRoomyCardSaid : Prop := Claim7.holds Tryd.pinned (.plain (OpenSpec.ofChange needRoomySpec)) needRoomyCard

/-- THE TIED CARD OF 'cadencelaw20.NeedEnough'. -/
def needEnoughCard : Claim7 := { stood := { row := needEnoughRow, standIns := [], harness := (true, "4aadf47cea8b2241c1f910e164ac51f7a467548bd05fa9efc2fa3c191cf8efbd"), looks := false }, kinds := [], alts := [], laidByText := true, laidKinds := [.data, .data, .data, .data, .pinned], laidTests := true, laidLooks := .later }
def NeedEnoughCardSaid : Prop := Claim7.holds Tryd.pinned (.plain (OpenSpec.ofChange needEnoughSpec)) needEnoughCard

/-- THE SECOND FORM's CARD OF 'cadencelaw20.NeedRoomy'. -/
def needRoomyUptoCard : Claim7 := { stood := { row := needRoomyUptoRow, standIns := [], harness := (true, "4aadf47cea8b2241c1f910e164ac51f7a467548bd05fa9efc2fa3c191cf8efbd"), looks := false }, kinds := [], alts := [], laidByText := true, laidKinds := [.data, .data, .data, .data, .pinned], laidTests := true, laidLooks := .later }
def NeedRoomyUptoCardSaid : Prop := Claim7.holds Tryd.pinned (.plain (OpenSpec.upto needRoomySpec)) needRoomyUptoCard

/-- THE SECOND FORM's CARD OF 'cadencelaw20.NeedEnough'. -/
def needEnoughUptoCard : Claim7 := { stood := { row := needEnoughUptoRow, standIns := [], harness := (true, "4aadf47cea8b2241c1f910e164ac51f7a467548bd05fa9efc2fa3c191cf8efbd"), looks := false }, kinds := [], alts := [], laidByText := true, laidKinds := [.data, .data, .data, .data, .pinned], laidTests := true, laidLooks := .later }
def NeedEnoughUptoCardSaid : Prop := Claim7.holds Tryd.pinned (.plain (OpenSpec.upto needEnoughSpec)) needEnoughUptoCard
end Rows
end Go.Proofs.YtndbionhpkjckaaDoor
