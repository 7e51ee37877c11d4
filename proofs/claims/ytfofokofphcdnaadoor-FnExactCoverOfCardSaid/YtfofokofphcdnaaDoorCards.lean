/-
  DERIVED. GIVEN WITH THE SEED: THE CARDS: each row of YtfofokofphcdnaaDoorRows.lean that lists a variable, with what it lists TIED to the program's text (the seventh form; the later family's looks); each row that meets fmt, with fmt's text TOLD by the authors' own Lean function (tested against real Go, not proved from fmt's source: count such statements apart). THE CARD IS WHAT COUNTS. Prove the row's statement (the work); the ties are given (YtfofokofphcdnaaDoorTie.lean); close each card by the builder's one call (the guide's Derived/Test/ToyasCard.lean, 'card_holds'). Laid BY PROGRAM, IN A SANDBOX (cutbox-door.mjs). By AI agents, Wed Nov 11 2026. No macro, syntax, notation, axiom, sorry.
-/
import Derived.Test.YtfofokofphcdnaaDoorRows
import GoSem.ClaimSeven
namespace Go.Proofs.YtfofokofphcdnaaDoor
namespace Rows

/-- THE TIED CARD OF 'laws.FnExactCoverOf'. -/
def fnExactCoverOfCard : Claim7 := { stood := { row := fnExactCoverOfRow, standIns := [], harness := (true, "8c6ab9176d038b01bb8c851963f1af2cd84240e44d665d328f1f87e160fe24b9"), looks := false }, kinds := [], alts := [], laidByText := true, laidKinds := [.data, .pinned], laidTests := true, laidLooks := .later }
def FnExactCoverOfCardSaid : Prop := Claim7.holds Tryd.pinned (.plain (OpenSpec.ofChange fnExactCoverOfSpec)) fnExactCoverOfCard

/-- THE SECOND FORM's CARD OF 'laws.FnExactCoverOf'. -/
def fnExactCoverOfUptoCard : Claim7 := { stood := { row := fnExactCoverOfUptoRow, standIns := [], harness := (true, "8c6ab9176d038b01bb8c851963f1af2cd84240e44d665d328f1f87e160fe24b9"), looks := false }, kinds := [], alts := [], laidByText := true, laidKinds := [.data, .pinned], laidTests := true, laidLooks := .later }
def FnExactCoverOfUptoCardSaid : Prop := Claim7.holds Tryd.pinned (.plain (OpenSpec.upto fnExactCoverOfSpec)) fnExactCoverOfUptoCard
end Rows
end Go.Proofs.YtfofokofphcdnaaDoor
