/-
  DERIVED. GIVEN WITH THE SEED: THE CARDS: each row of YtloofbfkaombbaaDoorRows.lean that lists a variable, with what it lists TIED to the program's text (the seventh form; the later family's looks); each row that meets fmt, with fmt's text TOLD by the authors' own Lean function (tested against real Go, not proved from fmt's source: count such statements apart). THE CARD IS WHAT COUNTS. Prove the row's statement (the work); the ties are given (YtloofbfkaombbaaDoorTie.lean); close each card by the builder's one call (the guide's Derived/Test/ToyasCard.lean, 'card_holds'). Laid BY PROGRAM, IN A SANDBOX (cutbox-door.mjs). By AI agents, Wed Nov 11 2026. No macro, syntax, notation, axiom, sorry.
-/
import Derived.Test.YtloofbfkaombbaaDoorRows
import GoSem.ClaimSeven
namespace Go.Proofs.YtloofbfkaombbaaDoor
namespace Rows

/-- THE TIED CARD OF 'cadencelaw14.KnownTight'. -/
def knownTightCard : Claim7 := { stood := { row := knownTightRow, standIns := [], harness := (true, "98022d6837b68b4db6bfa941476689d05e1ca5d1a61054f36d83e8b799524f51"), looks := false }, kinds := [], alts := [], laidByText := true, laidKinds := [.data], laidTests := true, laidLooks := .later }
def KnownTightCardSaid : Prop := Claim7.holds Tryd.pinned (.plain (OpenSpec.ofChange knownTightSpec)) knownTightCard

/-- THE TIED CARD OF 'cadencelaw14.KnownLattice'. -/
def knownLatticeCard : Claim7 := { stood := { row := knownLatticeRow, standIns := [], harness := (true, "98022d6837b68b4db6bfa941476689d05e1ca5d1a61054f36d83e8b799524f51"), looks := false }, kinds := [], alts := [], laidByText := true, laidKinds := [.data], laidTests := true, laidLooks := .later }
def KnownLatticeCardSaid : Prop := Claim7.holds Tryd.pinned (.plain (OpenSpec.ofChange knownLatticeSpec)) knownLatticeCard

/-- THE TIED CARD OF 'cadencelaw14.KnownFacts'. -/
def knownFactsCard : Claim7 := { stood := { row := knownFactsRow, standIns := [], harness := (true, "98022d6837b68b4db6bfa941476689d05e1ca5d1a61054f36d83e8b799524f51"), looks := false }, kinds := [], alts := [], laidByText := true, laidKinds := [.data], laidTests := true, laidLooks := .later }
def KnownFactsCardSaid : Prop := Claim7.holds Tryd.pinned (.plain (OpenSpec.ofChange knownFactsSpec)) knownFactsCard

/-- THE SECOND FORM's CARD OF 'cadencelaw14.KnownTight'. -/
def knownTightUptoCard : Claim7 := { stood := { row := knownTightUptoRow, standIns := [], harness := (true, "98022d6837b68b4db6bfa941476689d05e1ca5d1a61054f36d83e8b799524f51"), looks := false }, kinds := [], alts := [], laidByText := true, laidKinds := [.data], laidTests := true, laidLooks := .later }
def KnownTightUptoCardSaid : Prop := Claim7.holds Tryd.pinned (.plain (OpenSpec.upto knownTightSpec)) knownTightUptoCard

/-- THE SECOND FORM's CARD OF 'cadencelaw14.KnownLattice'. -/
def knownLatticeUptoCard : Claim7 := { stood := { row := knownLatticeUptoRow, standIns := [], harness := (true, "98022d6837b68b4db6bfa941476689d05e1ca5d1a61054f36d83e8b799524f51"), looks := false }, kinds := [], alts := [], laidByText := true, laidKinds := [.data], laidTests := true, laidLooks := .later }
def KnownLatticeUptoCardSaid : Prop := Claim7.holds Tryd.pinned (.plain (OpenSpec.upto knownLatticeSpec)) knownLatticeUptoCard

/-- THE SECOND FORM's CARD OF 'cadencelaw14.KnownFacts'. -/
def knownFactsUptoCard : Claim7 := { stood := { row := knownFactsUptoRow, standIns := [], harness := (true, "98022d6837b68b4db6bfa941476689d05e1ca5d1a61054f36d83e8b799524f51"), looks := false }, kinds := [], alts := [], laidByText := true, laidKinds := [.data], laidTests := true, laidLooks := .later }
def KnownFactsUptoCardSaid : Prop := Claim7.holds Tryd.pinned (.plain (OpenSpec.upto knownFactsSpec)) knownFactsUptoCard
end Rows
end Go.Proofs.YtloofbfkaombbaaDoor
