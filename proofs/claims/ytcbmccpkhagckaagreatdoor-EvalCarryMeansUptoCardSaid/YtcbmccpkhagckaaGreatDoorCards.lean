/-
  DERIVED. GIVEN WITH THE SEED: THE CARDS: each row of YtcbmccpkhagckaaGreatDoorRows.lean that lists a variable, with what it lists TIED to the program's text (the seventh form; the later family's looks); each row that meets fmt, with fmt's text TOLD by the authors' own Lean function (tested against real Go, not proved from fmt's source: count such statements apart). THE CARD IS WHAT COUNTS. Prove the row's statement (the work); the ties are given (YtcbmccpkhagckaaGreatDoorTie.lean); close each card by the builder's one call (the guide's Derived/Test/ToyasCard.lean, 'card_holds'). Laid BY PROGRAM, IN A SANDBOX (cutbox-door.mjs). By AI agents, Wed Nov 11 2026. No macro, syntax, notation, axiom, sorry.
-/
import Derived.Test.YtcbmccpkhagckaaGreatDoorRows
import GoSem.ClaimSeven
namespace Go.Proofs.YtcbmccpkhagckaaGreatDoor
namespace Rows

/-- THE TIED CARD OF 'cadencelaw08.EvalValues'. -/
def evalValuesCard : Claim7 := { stood := { row := evalValuesRow, standIns := [], harness := (true, "4631d87142087a5c4c2f594e4818f3ead6071138d2a3a21f3011aa468fd1f329"), looks := true }, kinds := [], alts := [], laidByText := true, laidKinds := [.data, .data, .data, .data, .sentinel, .sentinel, .listed, .data, .pinned], laidTests := true, laidLooks := .later }
def EvalValuesCardSaid : Prop := Claim7.holds Tryz.pinned (.plain (OpenSpec.ofChange evalValuesSpec)) evalValuesCard

/-- THE TIED CARD OF 'cadencelaw08.EvalHangs'. -/
def evalHangsCard : Claim7 := { stood := { row := evalHangsRow, standIns := [], harness := (true, "4631d87142087a5c4c2f594e4818f3ead6071138d2a3a21f3011aa468fd1f329"), looks := true }, kinds := [], alts := [], laidByText := true, laidKinds := [.data, .data, .data, .data, .sentinel, .sentinel, .listed, .data, .pinned], laidTests := true, laidLooks := .later }
def EvalHangsCardSaid : Prop := Claim7.holds Tryz.pinned (.plain (OpenSpec.ofChange evalHangsSpec)) evalHangsCard

/-- THE TIED CARD OF 'cadencelaw08.EvalVars'. -/
def evalVarsCard : Claim7 := { stood := { row := evalVarsRow, standIns := [], harness := (true, "4631d87142087a5c4c2f594e4818f3ead6071138d2a3a21f3011aa468fd1f329"), looks := true }, kinds := [], alts := [], laidByText := true, laidKinds := [.data, .data, .data, .data, .sentinel, .sentinel, .listed, .data, .pinned], laidTests := true, laidLooks := .later }
def EvalVarsCardSaid : Prop := Claim7.holds Tryz.pinned (.plain (OpenSpec.ofChange evalVarsSpec)) evalVarsCard

/-- THE TIED CARD OF 'cadencelaw08.EvalSizes'. -/
def evalSizesCard : Claim7 := { stood := { row := evalSizesRow, standIns := [], harness := (true, "4631d87142087a5c4c2f594e4818f3ead6071138d2a3a21f3011aa468fd1f329"), looks := true }, kinds := [], alts := [], laidByText := true, laidKinds := [.data, .data, .data, .data, .sentinel, .sentinel, .listed, .data, .pinned], laidTests := true, laidLooks := .later }
def EvalSizesCardSaid : Prop := Claim7.holds Tryz.pinned (.plain (OpenSpec.ofChange evalSizesSpec)) evalSizesCard

/-- THE TIED CARD OF 'cadencelaw08.EvalFresh'. -/
def evalFreshCard : Claim7 := { stood := { row := evalFreshRow, standIns := [], harness := (true, "4631d87142087a5c4c2f594e4818f3ead6071138d2a3a21f3011aa468fd1f329"), looks := true }, kinds := [], alts := [], laidByText := true, laidKinds := [.data, .data, .data, .data, .handle, .sentinel, .sentinel, .listed, .data, .pinned], laidTests := true, laidLooks := .later }
def EvalFreshCardSaid : Prop := Claim7.holds Tryz.pinned (.plain (OpenSpec.ofChange evalFreshSpec)) evalFreshCard

/-- THE TIED CARD OF 'cadencelaw08.EvalPutMeans'. -/
def evalPutMeansCard : Claim7 := { stood := { row := evalPutMeansRow, standIns := [], harness := (true, "4631d87142087a5c4c2f594e4818f3ead6071138d2a3a21f3011aa468fd1f329"), looks := true }, kinds := [], alts := [], laidByText := true, laidKinds := [.data, .data, .data, .data, .handle, .sentinel, .sentinel, .listed, .data, .pinned], laidTests := true, laidLooks := .later }
def EvalPutMeansCardSaid : Prop := Claim7.holds Tryz.pinned (.plain (OpenSpec.ofChange evalPutMeansSpec)) evalPutMeansCard

/-- THE TIED CARD OF 'cadencelaw08.EvalSplitMeans'. -/
def evalSplitMeansCard : Claim7 := { stood := { row := evalSplitMeansRow, standIns := [], harness := (true, "4631d87142087a5c4c2f594e4818f3ead6071138d2a3a21f3011aa468fd1f329"), looks := true }, kinds := [], alts := [], laidByText := true, laidKinds := [.data, .data, .data, .data, .handle, .sentinel, .sentinel, .listed, .data, .pinned], laidTests := true, laidLooks := .later }
def EvalSplitMeansCardSaid : Prop := Claim7.holds Tryz.pinned (.plain (OpenSpec.ofChange evalSplitMeansSpec)) evalSplitMeansCard

/-- THE TIED CARD OF 'cadencelaw08.EvalCarryMeans'. -/
def evalCarryMeansCard : Claim7 := { stood := { row := evalCarryMeansRow, standIns := [], harness := (true, "4631d87142087a5c4c2f594e4818f3ead6071138d2a3a21f3011aa468fd1f329"), looks := true }, kinds := [], alts := [], laidByText := true, laidKinds := [.data, .data, .data, .data, .handle, .sentinel, .sentinel, .listed, .data, .pinned], laidTests := true, laidLooks := .later }
def EvalCarryMeansCardSaid : Prop := Claim7.holds Tryz.pinned (.plain (OpenSpec.ofChange evalCarryMeansSpec)) evalCarryMeansCard

/-- THE SECOND FORM's CARD OF 'cadencelaw08.EvalValues'. -/
def evalValuesUptoCard : Claim7 := { stood := { row := evalValuesUptoRow, standIns := [], harness := (true, "4631d87142087a5c4c2f594e4818f3ead6071138d2a3a21f3011aa468fd1f329"), looks := true }, kinds := [], alts := [], laidByText := true, laidKinds := [.data, .data, .data, .data, .sentinel, .sentinel, .listed, .data, .pinned], laidTests := true, laidLooks := .later }
def EvalValuesUptoCardSaid : Prop := Claim7.holds Tryz.pinned (.plain (OpenSpec.upto evalValuesSpec)) evalValuesUptoCard

/-- THE SECOND FORM's CARD OF 'cadencelaw08.EvalHangs'. -/
def evalHangsUptoCard : Claim7 := { stood := { row := evalHangsUptoRow, standIns := [], harness := (true, "4631d87142087a5c4c2f594e4818f3ead6071138d2a3a21f3011aa468fd1f329"), looks := true }, kinds := [], alts := [], laidByText := true, laidKinds := [.data, .data, .data, .data, .sentinel, .sentinel, .listed, .data, .pinned], laidTests := true, laidLooks := .later }
def EvalHangsUptoCardSaid : Prop := Claim7.holds Tryz.pinned (.plain (OpenSpec.upto evalHangsSpec)) evalHangsUptoCard

/-- THE SECOND FORM's CARD OF 'cadencelaw08.EvalVars'. -/
def evalVarsUptoCard : Claim7 := { stood := { row := evalVarsUptoRow, standIns := [], harness := (true, "4631d87142087a5c4c2f594e4818f3ead6071138d2a3a21f3011aa468fd1f329"), looks := true }, kinds := [], alts := [], laidByText := true, laidKinds := [.data, .data, .data, .data, .sentinel, .sentinel, .listed, .data, .pinned], laidTests := true, laidLooks := .later }
def EvalVarsUptoCardSaid : Prop := Claim7.holds Tryz.pinned (.plain (OpenSpec.upto evalVarsSpec)) evalVarsUptoCard

/-- THE SECOND FORM's CARD OF 'cadencelaw08.EvalSizes'. -/
def evalSizesUptoCard : Claim7 := { stood := { row := evalSizesUptoRow, standIns := [], harness := (true, "4631d87142087a5c4c2f594e4818f3ead6071138d2a3a21f3011aa468fd1f329"), looks := true }, kinds := [], alts := [], laidByText := true, laidKinds := [.data, .data, .data, .data, .sentinel, .sentinel, .listed, .data, .pinned], laidTests := true, laidLooks := .later }
def EvalSizesUptoCardSaid : Prop := Claim7.holds Tryz.pinned (.plain (OpenSpec.upto evalSizesSpec)) evalSizesUptoCard

/-- THE SECOND FORM's CARD OF 'cadencelaw08.EvalFresh'. -/
def evalFreshUptoCard : Claim7 := { stood := { row := evalFreshUptoRow, standIns := [], harness := (true, "4631d87142087a5c4c2f594e4818f3ead6071138d2a3a21f3011aa468fd1f329"), looks := true }, kinds := [], alts := [], laidByText := true, laidKinds := [.data, .data, .data, .data, .handle, .sentinel, .sentinel, .listed, .data, .pinned], laidTests := true, laidLooks := .later }
def EvalFreshUptoCardSaid : Prop := Claim7.holds Tryz.pinned (.plain (OpenSpec.upto evalFreshSpec)) evalFreshUptoCard

/-- THE SECOND FORM's CARD OF 'cadencelaw08.EvalPutMeans'. -/
def evalPutMeansUptoCard : Claim7 := { stood := { row := evalPutMeansUptoRow, standIns := [], harness := (true, "4631d87142087a5c4c2f594e4818f3ead6071138d2a3a21f3011aa468fd1f329"), looks := true }, kinds := [], alts := [], laidByText := true, laidKinds := [.data, .data, .data, .data, .handle, .sentinel, .sentinel, .listed, .data, .pinned], laidTests := true, laidLooks := .later }
def EvalPutMeansUptoCardSaid : Prop := Claim7.holds Tryz.pinned (.plain (OpenSpec.upto evalPutMeansSpec)) evalPutMeansUptoCard

/-- THE SECOND FORM's CARD OF 'cadencelaw08.EvalSplitMeans'. -/
def evalSplitMeansUptoCard : Claim7 := { stood := { row := evalSplitMeansUptoRow, standIns := [], harness := (true, "4631d87142087a5c4c2f594e4818f3ead6071138d2a3a21f3011aa468fd1f329"), looks := true }, kinds := [], alts := [], laidByText := true, laidKinds := [.data, .data, .data, .data, .handle, .sentinel, .sentinel, .listed, .data, .pinned], laidTests := true, laidLooks := .later }
def EvalSplitMeansUptoCardSaid : Prop := Claim7.holds Tryz.pinned (.plain (OpenSpec.upto evalSplitMeansSpec)) evalSplitMeansUptoCard

/-- THE SECOND FORM's CARD OF 'cadencelaw08.EvalCarryMeans'. -/
def evalCarryMeansUptoCard : Claim7 := { stood := { row := evalCarryMeansUptoRow, standIns := [], harness := (true, "4631d87142087a5c4c2f594e4818f3ead6071138d2a3a21f3011aa468fd1f329"), looks := true }, kinds := [], alts := [], laidByText := true, laidKinds := [.data, .data, .data, .data, .handle, .sentinel, .sentinel, .listed, .data, .pinned], laidTests := true, laidLooks := .later }
def EvalCarryMeansUptoCardSaid : Prop := Claim7.holds Tryz.pinned (.plain (OpenSpec.upto evalCarryMeansSpec)) evalCarryMeansUptoCard
end Rows
end Go.Proofs.YtcbmccpkhagckaaGreatDoor
