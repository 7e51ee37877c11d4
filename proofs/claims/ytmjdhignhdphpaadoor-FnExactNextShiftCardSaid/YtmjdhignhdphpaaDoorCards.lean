/-
  DERIVED. GIVEN WITH THE SEED: THE CARDS: each row of YtmjdhignhdphpaaDoorRows.lean that lists a variable, with what it lists TIED to the program's text (the seventh form; the later family's looks); each row that meets fmt, with fmt's text TOLD by the authors' own Lean function (tested against real Go, not proved from fmt's source: count such statements apart). THE CARD IS WHAT COUNTS. Prove the row's statement (the work); the ties are given (YtmjdhignhdphpaaDoorTie.lean); close each card by the builder's one call (the guide's Derived/Test/ToyasCard.lean, 'card_holds'). Laid BY PROGRAM, IN A SANDBOX (cutbox-door.mjs). By AI agents, Wed Nov 11 2026. No macro, syntax, notation, axiom, sorry.
-/
import Derived.Test.YtmjdhignhdphpaaDoorRows
import GoSem.ClaimSeven
namespace Go.Proofs.YtmjdhignhdphpaaDoor
namespace Rows

/-- THE TIED CARD OF 'laws.FnExactIsShift'. -/
def fnExactIsShiftCard : Claim7 := { stood := { row := fnExactIsShiftRow, standIns := [], harness := (true, "c3dfd8291eb05f53bcd01cdae8e881ca98af4929c0191da65ee1faf9e626eb94"), looks := false }, kinds := [], alts := [], laidByText := true, laidKinds := [.data, .pinned], laidTests := true, laidLooks := .later }
def FnExactIsShiftCardSaid : Prop := Claim7.holds Tryd.pinned (.plain (OpenSpec.ofChange fnExactIsShiftSpec)) fnExactIsShiftCard

/-- THE TIED CARD OF 'laws.FnExactNextShift'. -/
def fnExactNextShiftCard : Claim7 := { stood := { row := fnExactNextShiftRow, standIns := [], harness := (true, "c3dfd8291eb05f53bcd01cdae8e881ca98af4929c0191da65ee1faf9e626eb94"), looks := false }, kinds := [], alts := [], laidByText := true, laidKinds := [.data, .pinned], laidTests := true, laidLooks := .later }
def FnExactNextShiftCardSaid : Prop := Claim7.holds Tryd.pinned (.plain (OpenSpec.ofChange fnExactNextShiftSpec)) fnExactNextShiftCard

/-- THE SECOND FORM's CARD OF 'laws.FnExactIsShift'. -/
def fnExactIsShiftUptoCard : Claim7 := { stood := { row := fnExactIsShiftUptoRow, standIns := [], harness := (true, "c3dfd8291eb05f53bcd01cdae8e881ca98af4929c0191da65ee1faf9e626eb94"), looks := false }, kinds := [], alts := [], laidByText := true, laidKinds := [.data, .pinned], laidTests := true, laidLooks := .later }
def FnExactIsShiftUptoCardSaid : Prop := Claim7.holds Tryd.pinned (.plain (OpenSpec.upto fnExactIsShiftSpec)) fnExactIsShiftUptoCard

/-- THE SECOND FORM's CARD OF 'laws.FnExactNextShift'. -/
def fnExactNextShiftUptoCard : Claim7 := { stood := { row := fnExactNextShiftUptoRow, standIns := [], harness := (true, "c3dfd8291eb05f53bcd01cdae8e881ca98af4929c0191da65ee1faf9e626eb94"), looks := false }, kinds := [], alts := [], laidByText := true, laidKinds := [.data, .pinned], laidTests := true, laidLooks := .later }
def FnExactNextShiftUptoCardSaid : Prop := Claim7.holds Tryd.pinned (.plain (OpenSpec.upto fnExactNextShiftSpec)) fnExactNextShiftUptoCard
end Rows
end Go.Proofs.YtmjdhignhdphpaaDoor
