/-
  DERIVED. GIVEN WITH THE SEED: THE CARDS: each row of YthcjfegfieoaiaaGreatDoorRows.lean that lists a variable, with what it lists TIED to the program's text (the seventh form; the later family's looks); each row that meets fmt, with fmt's text TOLD by the authors' own Lean function (tested against real Go, not proved from fmt's source: count such statements apart). THE CARD IS WHAT COUNTS. Prove the row's statement (the work); the ties are given (YthcjfegfieoaiaaGreatDoorTie.lean); close each card by the builder's one call (the guide's Derived/Test/ToyasCard.lean, 'card_holds'). Laid BY PROGRAM, IN A SANDBOX (cutbox-door.mjs). By AI agents, Wed Nov 11 2026. No macro, syntax, notation, axiom, sorry.
-/
import Derived.Test.YthcjfegfieoaiaaGreatDoorRows
import GoSem.ClaimSeven
namespace Go.Proofs.YthcjfegfieoaiaaGreatDoor
namespace Rows

/-- THE TIED CARD OF 'cadencelaw21.MemBack'. -/
def memBackCard : Claim7 := { stood := { row := memBackRow, standIns := [], harness := (true, "865f3a64162b763e8fa61423fed25da091c80079c9df3fe674ee9e0d92ea2b28"), looks := false }, kinds := [], alts := [], laidByText := true, laidKinds := [.data], laidTests := true, laidLooks := .later }
def MemBackCardSaid : Prop := Claim7.holds Tryz.pinned (.plain (OpenSpec.ofChange memBackSpec)) memBackCard

/-- THE TIED CARD OF 'cadencelaw09.SimpClosed'. -/
def simpClosedCard : Claim7 := { stood := { row := simpClosedRow, standIns := [], harness := (true, "865f3a64162b763e8fa61423fed25da091c80079c9df3fe674ee9e0d92ea2b28"), looks := false }, kinds := [], alts := [], laidByText := true, laidKinds := [.data], laidTests := true, laidLooks := .later }
def SimpClosedCardSaid : Prop := Claim7.holds Tryz.pinned (.plain (OpenSpec.ofChange simpClosedSpec)) simpClosedCard

/-- THE TIED CARD OF 'cadencelaw09.SimpMeans'. -/
def simpMeansCard : Claim7 := { stood := { row := simpMeansRow, standIns := [], harness := (true, "865f3a64162b763e8fa61423fed25da091c80079c9df3fe674ee9e0d92ea2b28"), looks := false }, kinds := [], alts := [], laidByText := true, laidKinds := [.data], laidTests := true, laidLooks := .later }
def SimpMeansCardSaid : Prop := Claim7.holds Tryz.pinned (.plain (OpenSpec.ofChange simpMeansSpec)) simpMeansCard

/-- THE TIED CARD OF 'cadencelaw21.MemMeans'. -/
def memMeansCard : Claim7 := { stood := { row := memMeansRow, standIns := [], harness := (true, "865f3a64162b763e8fa61423fed25da091c80079c9df3fe674ee9e0d92ea2b28"), looks := false }, kinds := [], alts := [], laidByText := true, laidKinds := [.data], laidTests := true, laidLooks := .later }
def MemMeansCardSaid : Prop := Claim7.holds Tryz.pinned (.plain (OpenSpec.ofChange memMeansSpec)) memMeansCard

/-- THE TIED CARD OF 'cadencelaw09.SimpMakes'. -/
def simpMakesCard : Claim7 := { stood := { row := simpMakesRow, standIns := [], harness := (true, "865f3a64162b763e8fa61423fed25da091c80079c9df3fe674ee9e0d92ea2b28"), looks := false }, kinds := [], alts := [], laidByText := true, laidKinds := [.data, .data, .data, .listed, .data], laidTests := true, laidLooks := .later }
def SimpMakesCardSaid : Prop := Claim7.holds Tryz.pinned (.plain (OpenSpec.ofChange simpMakesSpec)) simpMakesCard

/-- THE TIED CARD OF 'cadencelaw09.SimpApart'. -/
def simpApartCard : Claim7 := { stood := { row := simpApartRow, standIns := [], harness := (true, "865f3a64162b763e8fa61423fed25da091c80079c9df3fe674ee9e0d92ea2b28"), looks := false }, kinds := [], alts := [], laidByText := true, laidKinds := [.data, .data, .data, .listed, .data], laidTests := true, laidLooks := .later }
def SimpApartCardSaid : Prop := Claim7.holds Tryz.pinned (.plain (OpenSpec.ofChange simpApartSpec)) simpApartCard

/-- THE TIED CARD OF 'cadencelaw09.SimpStores'. -/
def simpStoresCard : Claim7 := { stood := { row := simpStoresRow, standIns := [], harness := (true, "865f3a64162b763e8fa61423fed25da091c80079c9df3fe674ee9e0d92ea2b28"), looks := false }, kinds := [], alts := [], laidByText := true, laidKinds := [.data, .data, .data, .listed, .data], laidTests := true, laidLooks := .later }
def SimpStoresCardSaid : Prop := Claim7.holds Tryz.pinned (.plain (OpenSpec.ofChange simpStoresSpec)) simpStoresCard

/-- THE TIED CARD OF 'cadencelaw09.SimpOnce'. -/
def simpOnceCard : Claim7 := { stood := { row := simpOnceRow, standIns := [], harness := (true, "865f3a64162b763e8fa61423fed25da091c80079c9df3fe674ee9e0d92ea2b28"), looks := false }, kinds := [], alts := [], laidByText := true, laidKinds := [.data, .data, .data, .listed, .data], laidTests := true, laidLooks := .later }
def SimpOnceCardSaid : Prop := Claim7.holds Tryz.pinned (.plain (OpenSpec.ofChange simpOnceSpec)) simpOnceCard

/-- THE TIED CARD OF 'cadencelaw21.MemMakes'. -/
def memMakesCard : Claim7 := { stood := { row := memMakesRow, standIns := [], harness := (true, "865f3a64162b763e8fa61423fed25da091c80079c9df3fe674ee9e0d92ea2b28"), looks := false }, kinds := [], alts := [], laidByText := true, laidKinds := [.data, .data, .data, .listed, .data], laidTests := true, laidLooks := .later }
def MemMakesCardSaid : Prop := Claim7.holds Tryz.pinned (.plain (OpenSpec.ofChange memMakesSpec)) memMakesCard

/-- THE TIED CARD OF 'cadencelaw21.MemPlays'. -/
def memPlaysCard : Claim7 := { stood := { row := memPlaysRow, standIns := [], harness := (true, "865f3a64162b763e8fa61423fed25da091c80079c9df3fe674ee9e0d92ea2b28"), looks := false }, kinds := [], alts := [], laidByText := true, laidKinds := [.data, .data, .data, .listed, .data], laidTests := true, laidLooks := .later }
def MemPlaysCardSaid : Prop := Claim7.holds Tryz.pinned (.plain (OpenSpec.ofChange memPlaysSpec)) memPlaysCard

/-- THE SECOND FORM's CARD OF 'cadencelaw21.MemBack'. -/
def memBackUptoCard : Claim7 := { stood := { row := memBackUptoRow, standIns := [], harness := (true, "865f3a64162b763e8fa61423fed25da091c80079c9df3fe674ee9e0d92ea2b28"), looks := false }, kinds := [], alts := [], laidByText := true, laidKinds := [.data], laidTests := true, laidLooks := .later }
def MemBackUptoCardSaid : Prop := Claim7.holds Tryz.pinned (.plain (OpenSpec.upto memBackSpec)) memBackUptoCard

/-- THE SECOND FORM's CARD OF 'cadencelaw09.SimpClosed'. -/
def simpClosedUptoCard : Claim7 := { stood := { row := simpClosedUptoRow, standIns := [], harness := (true, "865f3a64162b763e8fa61423fed25da091c80079c9df3fe674ee9e0d92ea2b28"), looks := false }, kinds := [], alts := [], laidByText := true, laidKinds := [.data], laidTests := true, laidLooks := .later }
def SimpClosedUptoCardSaid : Prop := Claim7.holds Tryz.pinned (.plain (OpenSpec.upto simpClosedSpec)) simpClosedUptoCard

/-- THE SECOND FORM's CARD OF 'cadencelaw09.SimpMeans'. -/
def simpMeansUptoCard : Claim7 := { stood := { row := simpMeansUptoRow, standIns := [], harness := (true, "865f3a64162b763e8fa61423fed25da091c80079c9df3fe674ee9e0d92ea2b28"), looks := false }, kinds := [], alts := [], laidByText := true, laidKinds := [.data], laidTests := true, laidLooks := .later }
def SimpMeansUptoCardSaid : Prop := Claim7.holds Tryz.pinned (.plain (OpenSpec.upto simpMeansSpec)) simpMeansUptoCard

/-- THE SECOND FORM's CARD OF 'cadencelaw21.MemMeans'. -/
def memMeansUptoCard : Claim7 := { stood := { row := memMeansUptoRow, standIns := [], harness := (true, "865f3a64162b763e8fa61423fed25da091c80079c9df3fe674ee9e0d92ea2b28"), looks := false }, kinds := [], alts := [], laidByText := true, laidKinds := [.data], laidTests := true, laidLooks := .later }
def MemMeansUptoCardSaid : Prop := Claim7.holds Tryz.pinned (.plain (OpenSpec.upto memMeansSpec)) memMeansUptoCard

/-- THE SECOND FORM's CARD OF 'cadencelaw09.SimpMakes'. -/
def simpMakesUptoCard : Claim7 := { stood := { row := simpMakesUptoRow, standIns := [], harness := (true, "865f3a64162b763e8fa61423fed25da091c80079c9df3fe674ee9e0d92ea2b28"), looks := false }, kinds := [], alts := [], laidByText := true, laidKinds := [.data, .data, .data, .listed, .data], laidTests := true, laidLooks := .later }
def SimpMakesUptoCardSaid : Prop := Claim7.holds Tryz.pinned (.plain (OpenSpec.upto simpMakesSpec)) simpMakesUptoCard

/-- THE SECOND FORM's CARD OF 'cadencelaw09.SimpApart'. -/
def simpApartUptoCard : Claim7 := { stood := { row := simpApartUptoRow, standIns := [], harness := (true, "865f3a64162b763e8fa61423fed25da091c80079c9df3fe674ee9e0d92ea2b28"), looks := false }, kinds := [], alts := [], laidByText := true, laidKinds := [.data, .data, .data, .listed, .data], laidTests := true, laidLooks := .later }
def SimpApartUptoCardSaid : Prop := Claim7.holds Tryz.pinned (.plain (OpenSpec.upto simpApartSpec)) simpApartUptoCard

/-- THE SECOND FORM's CARD OF 'cadencelaw09.SimpStores'. -/
def simpStoresUptoCard : Claim7 := { stood := { row := simpStoresUptoRow, standIns := [], harness := (true, "865f3a64162b763e8fa61423fed25da091c80079c9df3fe674ee9e0d92ea2b28"), looks := false }, kinds := [], alts := [], laidByText := true, laidKinds := [.data, .data, .data, .listed, .data], laidTests := true, laidLooks := .later }
def SimpStoresUptoCardSaid : Prop := Claim7.holds Tryz.pinned (.plain (OpenSpec.upto simpStoresSpec)) simpStoresUptoCard

/-- THE SECOND FORM's CARD OF 'cadencelaw09.SimpOnce'. -/
def simpOnceUptoCard : Claim7 := { stood := { row := simpOnceUptoRow, standIns := [], harness := (true, "865f3a64162b763e8fa61423fed25da091c80079c9df3fe674ee9e0d92ea2b28"), looks := false }, kinds := [], alts := [], laidByText := true, laidKinds := [.data, .data, .data, .listed, .data], laidTests := true, laidLooks := .later }
def SimpOnceUptoCardSaid : Prop := Claim7.holds Tryz.pinned (.plain (OpenSpec.upto simpOnceSpec)) simpOnceUptoCard

/-- THE SECOND FORM's CARD OF 'cadencelaw21.MemMakes'. -/
def memMakesUptoCard : Claim7 := { stood := { row := memMakesUptoRow, standIns := [], harness := (true, "865f3a64162b763e8fa61423fed25da091c80079c9df3fe674ee9e0d92ea2b28"), looks := false }, kinds := [], alts := [], laidByText := true, laidKinds := [.data, .data, .data, .listed, .data], laidTests := true, laidLooks := .later }
def MemMakesUptoCardSaid : Prop := Claim7.holds Tryz.pinned (.plain (OpenSpec.upto memMakesSpec)) memMakesUptoCard

/-- THE SECOND FORM's CARD OF 'cadencelaw21.MemPlays'. -/
def memPlaysUptoCard : Claim7 := { stood := { row := memPlaysUptoRow, standIns := [], harness := (true, "865f3a64162b763e8fa61423fed25da091c80079c9df3fe674ee9e0d92ea2b28"), looks := false }, kinds := [], alts := [], laidByText := true, laidKinds := [.data, .data, .data, .listed, .data], laidTests := true, laidLooks := .later }
def MemPlaysUptoCardSaid : Prop := Claim7.holds Tryz.pinned (.plain (OpenSpec.upto memPlaysSpec)) memPlaysUptoCard
end Rows
end Go.Proofs.YthcjfegfieoaiaaGreatDoor
