/-
  DERIVED. GIVEN WITH THE SEED: THE CARDS: each row of YtidjknjilnopnaaGreatDoorRows.lean that lists a variable, with what it lists TIED to the program's text (the seventh form; the later family's looks); each row that meets fmt, with fmt's text TOLD by the authors' own Lean function (tested against real Go, not proved from fmt's source: count such statements apart). THE CARD IS WHAT COUNTS. Prove the row's statement (the work); the ties are given (YtidjknjilnopnaaGreatDoorTie.lean); close each card by the builder's one call (the guide's Derived/Test/ToyasCard.lean, 'card_holds'). Laid BY PROGRAM, IN A SANDBOX (cutbox-door.mjs). By AI agents, Wed Nov 11 2026. No macro, syntax, notation, axiom, sorry.
-/
import Derived.Test.YtidjknjilnopnaaGreatDoorRows
import GoSem.ClaimSeven
namespace Go.Proofs.YtidjknjilnopnaaGreatDoor
namespace Rows

/-- THE TIED CARD OF 'souterraintop.TopComes'. -/
def topComesCard : Claim7 := { stood := { row := topComesRow, standIns := [], harness := (true, "d3cc54ee206573b08c87be076e71cda595f3c5bc601367d45083531a73675f63"), looks := false }, kinds := [], alts := [], laidByText := true, laidKinds := [.data, .pinned], laidTests := true, laidLooks := .later }
def TopComesCardSaid : Prop := Claim7.holds Tryz.pinned (.plain (OpenSpec.ofChange topComesSpec)) topComesCard

/-- THE TIED CARD OF 'souterraintop.TopHigher'. -/
def topHigherCard : Claim7 := { stood := { row := topHigherRow, standIns := [], harness := (true, "d3cc54ee206573b08c87be076e71cda595f3c5bc601367d45083531a73675f63"), looks := false }, kinds := [], alts := [], laidByText := true, laidKinds := [.data, .pinned], laidTests := true, laidLooks := .later }
def TopHigherCardSaid : Prop := Claim7.holds Tryz.pinned (.plain (OpenSpec.ofChange topHigherSpec)) topHigherCard

/-- THE SECOND FORM's CARD OF 'souterraintop.TopComes'. -/
def topComesUptoCard : Claim7 := { stood := { row := topComesUptoRow, standIns := [], harness := (true, "d3cc54ee206573b08c87be076e71cda595f3c5bc601367d45083531a73675f63"), looks := false }, kinds := [], alts := [], laidByText := true, laidKinds := [.data, .pinned], laidTests := true, laidLooks := .later }
def TopComesUptoCardSaid : Prop := Claim7.holds Tryz.pinned (.plain (OpenSpec.upto topComesSpec)) topComesUptoCard

/-- THE SECOND FORM's CARD OF 'souterraintop.TopHigher'. -/
def topHigherUptoCard : Claim7 := { stood := { row := topHigherUptoRow, standIns := [], harness := (true, "d3cc54ee206573b08c87be076e71cda595f3c5bc601367d45083531a73675f63"), looks := false }, kinds := [], alts := [], laidByText := true, laidKinds := [.data, .pinned], laidTests := true, laidLooks := .later }
def TopHigherUptoCardSaid : Prop := Claim7.holds Tryz.pinned (.plain (OpenSpec.upto topHigherSpec)) topHigherUptoCard
end Rows
end Go.Proofs.YtidjknjilnopnaaGreatDoor
