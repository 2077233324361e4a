/-
  DERIVED. GIVEN WITH THE SEED: THE CARDS: each row of YtgnnehmeciepaaaGreatDoorRows.lean that lists a variable, with what it lists TIED to the program's text (the seventh form; the later family's looks); each row that meets fmt, with fmt's text TOLD by the authors' own Lean function (tested against real Go, not proved from fmt's source: count such statements apart). THE CARD IS WHAT COUNTS. Prove the row's statement (the work); the ties are given (YtgnnehmeciepaaaGreatDoorTie.lean); close each card by the builder's one call (the guide's Derived/Test/ToyasCard.lean, 'card_holds'). Laid BY PROGRAM, IN A SANDBOX (cutbox-door.mjs). By AI agents, Wed Nov 11 2026. No macro, syntax, notation, axiom, sorry.
-/
import Derived.Test.YtgnnehmeciepaaaGreatDoorRows
import GoSem.ClaimSeven
namespace Go.Proofs.YtgnnehmeciepaaaGreatDoor
namespace Rows

/-- THE TIED CARD OF 'souterraintop.TopRises'. -/
def topRisesCard : Claim7 := { stood := { row := topRisesRow, standIns := [], harness := (true, "54fb6fd3f7b8e878c49fc0ce2ec3fb866ad1c62bd05e0b0c37d38e500bef8ad3"), looks := false }, kinds := [], alts := [], laidByText := true, laidKinds := [.data, .pinned], laidTests := true, laidLooks := .later }
def TopRisesCardSaid : Prop := Claim7.holds Tryz.pinned (.plain (OpenSpec.ofChange topRisesSpec)) topRisesCard

/-- THE SECOND FORM's CARD OF 'souterraintop.TopRises'. -/
def topRisesUptoCard : Claim7 := { stood := { row := topRisesUptoRow, standIns := [], harness := (true, "54fb6fd3f7b8e878c49fc0ce2ec3fb866ad1c62bd05e0b0c37d38e500bef8ad3"), looks := false }, kinds := [], alts := [], laidByText := true, laidKinds := [.data, .pinned], laidTests := true, laidLooks := .later }
def TopRisesUptoCardSaid : Prop := Claim7.holds Tryz.pinned (.plain (OpenSpec.upto topRisesSpec)) topRisesUptoCard
end Rows
end Go.Proofs.YtgnnehmeciepaaaGreatDoor
