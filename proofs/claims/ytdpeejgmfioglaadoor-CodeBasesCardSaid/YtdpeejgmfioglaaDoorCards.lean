/-
  DERIVED. GIVEN WITH THE SEED: THE CARDS: each row of YtdpeejgmfioglaaDoorRows.lean that lists a variable, with what it lists TIED to the program's text (the seventh form; the later family's looks); each row that meets fmt, with fmt's text TOLD by the authors' own Lean function (tested against real Go, not proved from fmt's source: count such statements apart). THE CARD IS WHAT COUNTS. Prove the row's statement (the work); the ties are given (YtdpeejgmfioglaaDoorTie.lean); close each card by the builder's one call (the guide's Derived/Test/ToyasCard.lean, 'card_holds'). Laid BY PROGRAM, IN A SANDBOX (cutbox-door.mjs). By AI agents, Wed Nov 11 2026. No macro, syntax, notation, axiom, sorry.
-/
import Derived.Test.YtdpeejgmfioglaaDoorRows
import GoSem.ClaimSeven
namespace Go.Proofs.YtdpeejgmfioglaaDoor
namespace Rows

/-- THE TIED CARD OF 'souterrainlaw.CodeBases'. -/
def codeBasesCard : Claim7 := { stood := { row := codeBasesRow, standIns := [], harness := (true, "e016b749902f7cbdb8e570928e6ce5a2a41533808f7c46d3d7b0101274f52ef2"), looks := false }, kinds := [], alts := [], laidByText := true, laidKinds := [.data, .pinned], laidTests := true, laidLooks := .later }
def CodeBasesCardSaid : Prop := Claim7.holds Tryd.pinned (.plain (OpenSpec.ofChange codeBasesSpec)) codeBasesCard

/-- THE TIED CARD OF 'souterrainlaw.CurveShares'. -/
def curveSharesCard : Claim7 := { stood := { row := curveSharesRow, standIns := [], harness := (true, "e016b749902f7cbdb8e570928e6ce5a2a41533808f7c46d3d7b0101274f52ef2"), looks := false }, kinds := [], alts := [], laidByText := true, laidKinds := [.data, .pinned], laidTests := true, laidLooks := .later }
def CurveSharesCardSaid : Prop := Claim7.holds Tryd.pinned (.plain (OpenSpec.ofChange curveSharesSpec)) curveSharesCard

/-- THE SECOND FORM's CARD OF 'souterrainlaw.CodeBases'. -/
def codeBasesUptoCard : Claim7 := { stood := { row := codeBasesUptoRow, standIns := [], harness := (true, "e016b749902f7cbdb8e570928e6ce5a2a41533808f7c46d3d7b0101274f52ef2"), looks := false }, kinds := [], alts := [], laidByText := true, laidKinds := [.data, .pinned], laidTests := true, laidLooks := .later }
def CodeBasesUptoCardSaid : Prop := Claim7.holds Tryd.pinned (.plain (OpenSpec.upto codeBasesSpec)) codeBasesUptoCard

/-- THE SECOND FORM's CARD OF 'souterrainlaw.CurveShares'. -/
def curveSharesUptoCard : Claim7 := { stood := { row := curveSharesUptoRow, standIns := [], harness := (true, "e016b749902f7cbdb8e570928e6ce5a2a41533808f7c46d3d7b0101274f52ef2"), looks := false }, kinds := [], alts := [], laidByText := true, laidKinds := [.data, .pinned], laidTests := true, laidLooks := .later }
def CurveSharesUptoCardSaid : Prop := Claim7.holds Tryd.pinned (.plain (OpenSpec.upto curveSharesSpec)) curveSharesUptoCard
end Rows
end Go.Proofs.YtdpeejgmfioglaaDoor
