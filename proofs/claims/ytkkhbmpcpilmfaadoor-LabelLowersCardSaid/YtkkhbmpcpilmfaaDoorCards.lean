/-
  DERIVED. GIVEN WITH THE SEED: THE CARDS: each row of YtkkhbmpcpilmfaaDoorRows.lean that lists a variable, with what it lists TIED to the program's text (the seventh form; the later family's looks); each row that meets fmt, with fmt's text TOLD by the authors' own Lean function (tested against real Go, not proved from fmt's source: count such statements apart). THE CARD IS WHAT COUNTS. Prove the row's statement (the work); the ties are given (YtkkhbmpcpilmfaaDoorTie.lean); close each card by the builder's one call (the guide's Derived/Test/ToyasCard.lean, 'card_holds'). Laid BY PROGRAM, IN A SANDBOX (cutbox-door.mjs). By AI agents, Wed Nov 11 2026. No macro, syntax, notation, axiom, sorry.
-/
import Derived.Test.YtkkhbmpcpilmfaaDoorRows
import GoSem.ClaimSeven
namespace Go.Proofs.YtkkhbmpcpilmfaaDoor
namespace Rows

/-- THE TIED CARD OF 'bellwetherlaw16.LabelNames'. -/
def labelNamesCard : Claim7 := { stood := { row := labelNamesRow, standIns := [], harness := (true, "d2fde682d45bcbffaba54f63148222626d4d01d2793a2e4510c81411b291d61c"), looks := false }, kinds := [], alts := [], laidByText := true, laidKinds := [.data, .pinned], laidTests := true, laidLooks := .later }
def LabelNamesCardSaid : Prop := Claim7.holds Tryd.pinned (.plain (OpenSpec.ofChange labelNamesSpec)) labelNamesCard

/-- THE TIED CARD OF 'bellwetherlaw16.LabelJoins'. -/
def labelJoinsCard : Claim7 := { stood := { row := labelJoinsRow, standIns := [], harness := (true, "d2fde682d45bcbffaba54f63148222626d4d01d2793a2e4510c81411b291d61c"), looks := false }, kinds := [], alts := [], laidByText := true, laidKinds := [.data, .pinned], laidTests := true, laidLooks := .later }
def LabelJoinsCardSaid : Prop := Claim7.holds Tryd.pinned (.plain (OpenSpec.ofChange labelJoinsSpec)) labelJoinsCard

/-- THE TIED CARD OF 'bellwetherlaw16.LabelBack'. -/
def labelBackCard : Claim7 := { stood := { row := labelBackRow, standIns := [], harness := (true, "d2fde682d45bcbffaba54f63148222626d4d01d2793a2e4510c81411b291d61c"), looks := false }, kinds := [], alts := [], laidByText := true, laidKinds := [.data, .pinned], laidTests := true, laidLooks := .later }
def LabelBackCardSaid : Prop := Claim7.holds Tryd.pinned (.plain (OpenSpec.ofChange labelBackSpec)) labelBackCard

/-- THE TIED CARD OF 'bellwetherlaw16.LabelUnders'. -/
def labelUndersCard : Claim7 := { stood := { row := labelUndersRow, standIns := [], harness := (true, "d2fde682d45bcbffaba54f63148222626d4d01d2793a2e4510c81411b291d61c"), looks := false }, kinds := [], alts := [], laidByText := true, laidKinds := [.data, .pinned], laidTests := true, laidLooks := .later }
def LabelUndersCardSaid : Prop := Claim7.holds Tryd.pinned (.plain (OpenSpec.ofChange labelUndersSpec)) labelUndersCard

/-- THE TIED CARD OF 'bellwetherlaw16.LabelLowers'. -/
def labelLowersCard : Claim7 := { stood := { row := labelLowersRow, standIns := [], harness := (true, "d2fde682d45bcbffaba54f63148222626d4d01d2793a2e4510c81411b291d61c"), looks := false }, kinds := [], alts := [], laidByText := true, laidKinds := [.data, .pinned], laidTests := true, laidLooks := .later }
def LabelLowersCardSaid : Prop := Claim7.holds Tryd.pinned (.plain (OpenSpec.ofChange labelLowersSpec)) labelLowersCard

/-- THE SECOND FORM's CARD OF 'bellwetherlaw16.LabelNames'. -/
def labelNamesUptoCard : Claim7 := { stood := { row := labelNamesUptoRow, standIns := [], harness := (true, "d2fde682d45bcbffaba54f63148222626d4d01d2793a2e4510c81411b291d61c"), looks := false }, kinds := [], alts := [], laidByText := true, laidKinds := [.data, .pinned], laidTests := true, laidLooks := .later }
def LabelNamesUptoCardSaid : Prop := Claim7.holds Tryd.pinned (.plain (OpenSpec.upto labelNamesSpec)) labelNamesUptoCard

/-- THE SECOND FORM's CARD OF 'bellwetherlaw16.LabelJoins'. -/
def labelJoinsUptoCard : Claim7 := { stood := { row := labelJoinsUptoRow, standIns := [], harness := (true, "d2fde682d45bcbffaba54f63148222626d4d01d2793a2e4510c81411b291d61c"), looks := false }, kinds := [], alts := [], laidByText := true, laidKinds := [.data, .pinned], laidTests := true, laidLooks := .later }
def LabelJoinsUptoCardSaid : Prop := Claim7.holds Tryd.pinned (.plain (OpenSpec.upto labelJoinsSpec)) labelJoinsUptoCard

/-- THE SECOND FORM's CARD OF 'bellwetherlaw16.LabelBack'. -/
def labelBackUptoCard : Claim7 := { stood := { row := labelBackUptoRow, standIns := [], harness := (true, "d2fde682d45bcbffaba54f63148222626d4d01d2793a2e4510c81411b291d61c"), looks := false }, kinds := [], alts := [], laidByText := true, laidKinds := [.data, .pinned], laidTests := true, laidLooks := .later }
def LabelBackUptoCardSaid : Prop := Claim7.holds Tryd.pinned (.plain (OpenSpec.upto labelBackSpec)) labelBackUptoCard

/-- THE SECOND FORM's CARD OF 'bellwetherlaw16.LabelUnders'. -/
def labelUndersUptoCard : Claim7 := { stood := { row := labelUndersUptoRow, standIns := [], harness := (true, "d2fde682d45bcbffaba54f63148222626d4d01d2793a2e4510c81411b291d61c"), looks := false }, kinds := [], alts := [], laidByText := true, laidKinds := [.data, .pinned], laidTests := true, laidLooks := .later }
def LabelUndersUptoCardSaid : Prop := Claim7.holds Tryd.pinned (.plain (OpenSpec.upto labelUndersSpec)) labelUndersUptoCard

/-- THE SECOND FORM's CARD OF 'bellwetherlaw16.LabelLowers'. -/
def labelLowersUptoCard : Claim7 := { stood := { row := labelLowersUptoRow, standIns := [], harness := (true, "d2fde682d45bcbffaba54f63148222626d4d01d2793a2e4510c81411b291d61c"), looks := false }, kinds := [], alts := [], laidByText := true, laidKinds := [.data, .pinned], laidTests := true, laidLooks := .later }
def LabelLowersUptoCardSaid : Prop := Claim7.holds Tryd.pinned (.plain (OpenSpec.upto labelLowersSpec)) labelLowersUptoCard
end Rows
end Go.Proofs.YtkkhbmpcpilmfaaDoor
