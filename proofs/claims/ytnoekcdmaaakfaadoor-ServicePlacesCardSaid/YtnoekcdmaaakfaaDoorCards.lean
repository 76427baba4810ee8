/-
  DERIVED. GIVEN WITH THE SEED: THE CARDS: each row of YtnoekcdmaaakfaaDoorRows.lean that lists a variable, with what it lists TIED to the program's text (the seventh form; the later family's looks); each row that meets fmt, with fmt's text TOLD by the authors' own Lean function (tested against real Go, not proved from fmt's source: count such statements apart). THE CARD IS WHAT COUNTS. Prove the row's statement (the work); the ties are given (YtnoekcdmaaakfaaDoorTie.lean); close each card by the builder's one call (the guide's Derived/Test/ToyasCard.lean, 'card_holds'). Laid BY PROGRAM, IN A SANDBOX (cutbox-door.mjs). By AI agents, Wed Nov 11 2026. No macro, syntax, notation, axiom, sorry.
-/
import Derived.Test.YtnoekcdmaaakfaaDoorRows
import GoSem.ClaimSeven
namespace Go.Proofs.YtnoekcdmaaakfaaDoor
namespace Rows

/-- THE TIED CARD OF 'bellwetherlaw15.ServiceValues'. -/
def serviceValuesCard : Claim7 := { stood := { row := serviceValuesRow, standIns := [], harness := (true, "388b11b856dc06db45546226ccf3c701ff63eaaec91bc219001a35f9338a96b3"), looks := false }, kinds := [], alts := [], laidByText := true, laidKinds := [.data, .pinned], laidTests := true, laidLooks := .later }
def ServiceValuesCardSaid : Prop := Claim7.holds Tryd.pinned (.plain (OpenSpec.ofChange serviceValuesSpec)) serviceValuesCard

/-- THE TIED CARD OF 'bellwetherlaw15.ServiceBack'. -/
def serviceBackCard : Claim7 := { stood := { row := serviceBackRow, standIns := [], harness := (true, "388b11b856dc06db45546226ccf3c701ff63eaaec91bc219001a35f9338a96b3"), looks := false }, kinds := [], alts := [], laidByText := true, laidKinds := [.data, .pinned], laidTests := true, laidLooks := .later }
def ServiceBackCardSaid : Prop := Claim7.holds Tryd.pinned (.plain (OpenSpec.ofChange serviceBackSpec)) serviceBackCard

/-- THE TIED CARD OF 'bellwetherlaw15.ServicePlaces'. -/
def servicePlacesCard : Claim7 := { stood := { row := servicePlacesRow, standIns := [], harness := (true, "388b11b856dc06db45546226ccf3c701ff63eaaec91bc219001a35f9338a96b3"), looks := false }, kinds := [], alts := [], laidByText := true, laidKinds := [.data, .pinned], laidTests := true, laidLooks := .later }
def ServicePlacesCardSaid : Prop := Claim7.holds Tryd.pinned (.plain (OpenSpec.ofChange servicePlacesSpec)) servicePlacesCard

/-- THE SECOND FORM's CARD OF 'bellwetherlaw15.ServiceValues'. -/
def serviceValuesUptoCard : Claim7 := { stood := { row := serviceValuesUptoRow, standIns := [], harness := (true, "388b11b856dc06db45546226ccf3c701ff63eaaec91bc219001a35f9338a96b3"), looks := false }, kinds := [], alts := [], laidByText := true, laidKinds := [.data, .pinned], laidTests := true, laidLooks := .later }
def ServiceValuesUptoCardSaid : Prop := Claim7.holds Tryd.pinned (.plain (OpenSpec.upto serviceValuesSpec)) serviceValuesUptoCard

/-- THE SECOND FORM's CARD OF 'bellwetherlaw15.ServiceBack'. -/
def serviceBackUptoCard : Claim7 := { stood := { row := serviceBackUptoRow, standIns := [], harness := (true, "388b11b856dc06db45546226ccf3c701ff63eaaec91bc219001a35f9338a96b3"), looks := false }, kinds := [], alts := [], laidByText := true, laidKinds := [.data, .pinned], laidTests := true, laidLooks := .later }
def ServiceBackUptoCardSaid : Prop := Claim7.holds Tryd.pinned (.plain (OpenSpec.upto serviceBackSpec)) serviceBackUptoCard

/-- THE SECOND FORM's CARD OF 'bellwetherlaw15.ServicePlaces'. -/
def servicePlacesUptoCard : Claim7 := { stood := { row := servicePlacesUptoRow, standIns := [], harness := (true, "388b11b856dc06db45546226ccf3c701ff63eaaec91bc219001a35f9338a96b3"), looks := false }, kinds := [], alts := [], laidByText := true, laidKinds := [.data, .pinned], laidTests := true, laidLooks := .later }
def ServicePlacesUptoCardSaid : Prop := Claim7.holds Tryd.pinned (.plain (OpenSpec.upto servicePlacesSpec)) servicePlacesUptoCard
end Rows
end Go.Proofs.YtnoekcdmaaakfaaDoor
