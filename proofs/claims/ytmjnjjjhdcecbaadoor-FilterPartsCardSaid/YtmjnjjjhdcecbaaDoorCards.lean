/-
  DERIVED. GIVEN WITH THE SEED: THE CARDS: each row of YtmjnjjjhdcecbaaDoorRows.lean that lists a variable, with what it lists TIED to the program's text (the seventh form; the later family's looks); each row that meets fmt, with fmt's text TOLD by the authors' own Lean function (tested against real Go, not proved from fmt's source: count such statements apart). THE CARD IS WHAT COUNTS. Prove the row's statement (the work); the ties are given (YtmjnjjjhdcecbaaDoorTie.lean); close each card by the builder's one call (the guide's Derived/Test/ToyasCard.lean, 'card_holds'). Laid BY PROGRAM, IN A SANDBOX (cutbox-door.mjs). By AI agents, Wed Nov 11 2026. No macro, syntax, notation, axiom, sorry.
-/
import Derived.Test.YtmjnjjjhdcecbaaDoorRows
import GoSem.ClaimSeven
namespace Go.Proofs.YtmjnjjjhdcecbaaDoor
namespace Rows

/-- THE TIED CARD OF 'catchpitlaw13.FilterNames'. -/
def filterNamesCard : Claim7 := { stood := { row := filterNamesRow, standIns := [], harness := (true, "344ef1bdc3d8b0a6f09ee725dbfc58dbce1170e119da2601bad3775bf0d7c605"), looks := false }, kinds := [], alts := [], laidByText := true, laidKinds := [.data, .data], laidTests := true, laidLooks := .later }
def FilterNamesCardSaid : Prop := Claim7.holds Tryd.pinned (.plain (OpenSpec.ofChange filterNamesSpec)) filterNamesCard

/-- THE TIED CARD OF 'catchpitlaw13.FilterAll'. -/
def filterAllCard : Claim7 := { stood := { row := filterAllRow, standIns := [], harness := (true, "344ef1bdc3d8b0a6f09ee725dbfc58dbce1170e119da2601bad3775bf0d7c605"), looks := false }, kinds := [], alts := [], laidByText := true, laidKinds := [.data, .data], laidTests := true, laidLooks := .later }
def FilterAllCardSaid : Prop := Claim7.holds Tryd.pinned (.plain (OpenSpec.ofChange filterAllSpec)) filterAllCard

/-- THE TIED CARD OF 'catchpitlaw13.FilterJoins'. -/
def filterJoinsCard : Claim7 := { stood := { row := filterJoinsRow, standIns := [], harness := (true, "344ef1bdc3d8b0a6f09ee725dbfc58dbce1170e119da2601bad3775bf0d7c605"), looks := false }, kinds := [], alts := [], laidByText := true, laidKinds := [.data, .data], laidTests := true, laidLooks := .later }
def FilterJoinsCardSaid : Prop := Claim7.holds Tryd.pinned (.plain (OpenSpec.ofChange filterJoinsSpec)) filterJoinsCard

/-- THE TIED CARD OF 'catchpitlaw13.FilterParts'. -/
def filterPartsCard : Claim7 := { stood := { row := filterPartsRow, standIns := [], harness := (true, "344ef1bdc3d8b0a6f09ee725dbfc58dbce1170e119da2601bad3775bf0d7c605"), looks := false }, kinds := [], alts := [], laidByText := true, laidKinds := [.data, .data], laidTests := true, laidLooks := .later }
def FilterPartsCardSaid : Prop := Claim7.holds Tryd.pinned (.plain (OpenSpec.ofChange filterPartsSpec)) filterPartsCard

/-- THE SECOND FORM's CARD OF 'catchpitlaw13.FilterNames'. -/
def filterNamesUptoCard : Claim7 := { stood := { row := filterNamesUptoRow, standIns := [], harness := (true, "344ef1bdc3d8b0a6f09ee725dbfc58dbce1170e119da2601bad3775bf0d7c605"), looks := false }, kinds := [], alts := [], laidByText := true, laidKinds := [.data, .data], laidTests := true, laidLooks := .later }
def FilterNamesUptoCardSaid : Prop := Claim7.holds Tryd.pinned (.plain (OpenSpec.upto filterNamesSpec)) filterNamesUptoCard

/-- THE SECOND FORM's CARD OF 'catchpitlaw13.FilterAll'. -/
def filterAllUptoCard : Claim7 := { stood := { row := filterAllUptoRow, standIns := [], harness := (true, "344ef1bdc3d8b0a6f09ee725dbfc58dbce1170e119da2601bad3775bf0d7c605"), looks := false }, kinds := [], alts := [], laidByText := true, laidKinds := [.data, .data], laidTests := true, laidLooks := .later }
def FilterAllUptoCardSaid : Prop := Claim7.holds Tryd.pinned (.plain (OpenSpec.upto filterAllSpec)) filterAllUptoCard

/-- THE SECOND FORM's CARD OF 'catchpitlaw13.FilterJoins'. -/
def filterJoinsUptoCard : Claim7 := { stood := { row := filterJoinsUptoRow, standIns := [], harness := (true, "344ef1bdc3d8b0a6f09ee725dbfc58dbce1170e119da2601bad3775bf0d7c605"), looks := false }, kinds := [], alts := [], laidByText := true, laidKinds := [.data, .data], laidTests := true, laidLooks := .later }
def FilterJoinsUptoCardSaid : Prop := Claim7.holds Tryd.pinned (.plain (OpenSpec.upto filterJoinsSpec)) filterJoinsUptoCard

/-- THE SECOND FORM's CARD OF 'catchpitlaw13.FilterParts'. -/
def filterPartsUptoCard : Claim7 := { stood := { row := filterPartsUptoRow, standIns := [], harness := (true, "344ef1bdc3d8b0a6f09ee725dbfc58dbce1170e119da2601bad3775bf0d7c605"), looks := false }, kinds := [], alts := [], laidByText := true, laidKinds := [.data, .data], laidTests := true, laidLooks := .later }
def FilterPartsUptoCardSaid : Prop := Claim7.holds Tryd.pinned (.plain (OpenSpec.upto filterPartsSpec)) filterPartsUptoCard
end Rows
end Go.Proofs.YtmjnjjjhdcecbaaDoor
