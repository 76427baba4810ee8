/-
  DERIVED. GIVEN WITH THE SEED: THE CARDS: each row of YtnlmdeeadldgmaaGreatDoorRows.lean that lists a variable, with what it lists TIED to the program's text (the seventh form; the later family's looks); each row that meets fmt, with fmt's text TOLD by the authors' own Lean function (tested against real Go, not proved from fmt's source: count such statements apart). THE CARD IS WHAT COUNTS. Prove the row's statement (the work); the ties are given (YtnlmdeeadldgmaaGreatDoorTie.lean); close each card by the builder's one call (the guide's Derived/Test/ToyasCard.lean, 'card_holds'). Laid BY PROGRAM, IN A SANDBOX (cutbox-door.mjs). By AI agents, Wed Nov 11 2026. No macro, syntax, notation, axiom, sorry.
-/
import Derived.Test.YtnlmdeeadldgmaaGreatDoorRows
import GoSem.ClaimSeven
namespace Go.Proofs.YtnlmdeeadldgmaaGreatDoor
namespace Rows

/-- THE TIED CARD OF 'bellwetherlaw18.ZoneTells'. -/
def zoneTellsCard : Claim7 := { stood := { row := zoneTellsRow, standIns := [], harness := (true, "bdf1589742c99aac5ea256c80b96c90f71e45ce96b15067a1d47e6260b48cb7f"), looks := false }, kinds := [], alts := [], laidByText := true, laidKinds := [.data, .data, .data, .data, .pinned], laidTests := true, laidLooks := .later }
def ZoneTellsCardSaid : Prop := Claim7.holds Tryz.pinned (.plain (OpenSpec.ofChange zoneTellsSpec)) zoneTellsCard

/-- THE TIED CARD OF 'bellwetherlaw18.ZoneLiving'. -/
def zoneLivingCard : Claim7 := { stood := { row := zoneLivingRow, standIns := [], harness := (true, "bdf1589742c99aac5ea256c80b96c90f71e45ce96b15067a1d47e6260b48cb7f"), looks := false }, kinds := [], alts := [], laidByText := true, laidKinds := [.data, .data, .data, .data, .pinned], laidTests := true, laidLooks := .later }
def ZoneLivingCardSaid : Prop := Claim7.holds Tryz.pinned (.plain (OpenSpec.ofChange zoneLivingSpec)) zoneLivingCard

/-- THE TIED CARD OF 'bellwetherlaw18.ZoneLetters'. -/
def zoneLettersCard : Claim7 := { stood := { row := zoneLettersRow, standIns := [], harness := (true, "bdf1589742c99aac5ea256c80b96c90f71e45ce96b15067a1d47e6260b48cb7f"), looks := false }, kinds := [], alts := [], laidByText := true, laidKinds := [.data, .data, .data, .data, .pinned], laidTests := true, laidLooks := .later }
def ZoneLettersCardSaid : Prop := Claim7.holds Tryz.pinned (.plain (OpenSpec.ofChange zoneLettersSpec)) zoneLettersCard

/-- THE TIED CARD OF 'bellwetherlaw18.ZoneHosts'. -/
def zoneHostsCard : Claim7 := { stood := { row := zoneHostsRow, standIns := [], harness := (true, "bdf1589742c99aac5ea256c80b96c90f71e45ce96b15067a1d47e6260b48cb7f"), looks := false }, kinds := [], alts := [], laidByText := true, laidKinds := [.data, .data, .data, .data, .pinned], laidTests := true, laidLooks := .later }
def ZoneHostsCardSaid : Prop := Claim7.holds Tryz.pinned (.plain (OpenSpec.ofChange zoneHostsSpec)) zoneHostsCard

/-- THE TIED CARD OF 'bellwetherlaw18.ZoneApex'. -/
def zoneApexCard : Claim7 := { stood := { row := zoneApexRow, standIns := [], harness := (true, "bdf1589742c99aac5ea256c80b96c90f71e45ce96b15067a1d47e6260b48cb7f"), looks := false }, kinds := [], alts := [], laidByText := true, laidKinds := [.data, .data, .data, .data, .pinned], laidTests := true, laidLooks := .later }
def ZoneApexCardSaid : Prop := Claim7.holds Tryz.pinned (.plain (OpenSpec.ofChange zoneApexSpec)) zoneApexCard

/-- THE TIED CARD OF 'bellwetherlaw19.ResolverReplies'. -/
def resolverRepliesCard : Claim7 := { stood := { row := resolverRepliesRow, standIns := [], harness := (true, "bdf1589742c99aac5ea256c80b96c90f71e45ce96b15067a1d47e6260b48cb7f"), looks := false }, kinds := [], alts := [], laidByText := true, laidKinds := [.data, .data, .data, .data, .pinned], laidTests := true, laidLooks := .later }
def ResolverRepliesCardSaid : Prop := Claim7.holds Tryz.pinned (.plain (OpenSpec.ofChange resolverRepliesSpec)) resolverRepliesCard

/-- THE TIED CARD OF 'bellwetherlaw19.ResolverParses'. -/
def resolverParsesCard : Claim7 := { stood := { row := resolverParsesRow, standIns := [], harness := (true, "bdf1589742c99aac5ea256c80b96c90f71e45ce96b15067a1d47e6260b48cb7f"), looks := false }, kinds := [], alts := [], laidByText := true, laidKinds := [.data, .data, .data, .data, .pinned], laidTests := true, laidLooks := .later }
def ResolverParsesCardSaid : Prop := Claim7.holds Tryz.pinned (.plain (OpenSpec.ofChange resolverParsesSpec)) resolverParsesCard

/-- THE TIED CARD OF 'bellwetherlaw19.ResolverServices'. -/
def resolverServicesCard : Claim7 := { stood := { row := resolverServicesRow, standIns := [], harness := (true, "bdf1589742c99aac5ea256c80b96c90f71e45ce96b15067a1d47e6260b48cb7f"), looks := false }, kinds := [], alts := [], laidByText := true, laidKinds := [.data, .data, .data, .data, .pinned], laidTests := true, laidLooks := .later }
def ResolverServicesCardSaid : Prop := Claim7.holds Tryz.pinned (.plain (OpenSpec.ofChange resolverServicesSpec)) resolverServicesCard

/-- THE TIED CARD OF 'bellwetherlaw19.ResolverSame'. -/
def resolverSameCard : Claim7 := { stood := { row := resolverSameRow, standIns := [], harness := (true, "bdf1589742c99aac5ea256c80b96c90f71e45ce96b15067a1d47e6260b48cb7f"), looks := false }, kinds := [], alts := [], laidByText := true, laidKinds := [.data, .data, .data, .data, .pinned], laidTests := true, laidLooks := .later }
def ResolverSameCardSaid : Prop := Claim7.holds Tryz.pinned (.plain (OpenSpec.ofChange resolverSameSpec)) resolverSameCard

/-- THE TIED CARD OF 'bellwetherlaw19.ResolverHeads'. -/
def resolverHeadsCard : Claim7 := { stood := { row := resolverHeadsRow, standIns := [], harness := (true, "bdf1589742c99aac5ea256c80b96c90f71e45ce96b15067a1d47e6260b48cb7f"), looks := false }, kinds := [], alts := [], laidByText := true, laidKinds := [.data, .data, .data, .data, .pinned], laidTests := true, laidLooks := .later }
def ResolverHeadsCardSaid : Prop := Claim7.holds Tryz.pinned (.plain (OpenSpec.ofChange resolverHeadsSpec)) resolverHeadsCard

/-- THE SECOND FORM's CARD OF 'bellwetherlaw18.ZoneTells'. -/
def zoneTellsUptoCard : Claim7 := { stood := { row := zoneTellsUptoRow, standIns := [], harness := (true, "bdf1589742c99aac5ea256c80b96c90f71e45ce96b15067a1d47e6260b48cb7f"), looks := false }, kinds := [], alts := [], laidByText := true, laidKinds := [.data, .data, .data, .data, .pinned], laidTests := true, laidLooks := .later }
def ZoneTellsUptoCardSaid : Prop := Claim7.holds Tryz.pinned (.plain (OpenSpec.upto zoneTellsSpec)) zoneTellsUptoCard

/-- THE SECOND FORM's CARD OF 'bellwetherlaw18.ZoneLiving'. -/
def zoneLivingUptoCard : Claim7 := { stood := { row := zoneLivingUptoRow, standIns := [], harness := (true, "bdf1589742c99aac5ea256c80b96c90f71e45ce96b15067a1d47e6260b48cb7f"), looks := false }, kinds := [], alts := [], laidByText := true, laidKinds := [.data, .data, .data, .data, .pinned], laidTests := true, laidLooks := .later }
def ZoneLivingUptoCardSaid : Prop := Claim7.holds Tryz.pinned (.plain (OpenSpec.upto zoneLivingSpec)) zoneLivingUptoCard

/-- THE SECOND FORM's CARD OF 'bellwetherlaw18.ZoneLetters'. -/
def zoneLettersUptoCard : Claim7 := { stood := { row := zoneLettersUptoRow, standIns := [], harness := (true, "bdf1589742c99aac5ea256c80b96c90f71e45ce96b15067a1d47e6260b48cb7f"), looks := false }, kinds := [], alts := [], laidByText := true, laidKinds := [.data, .data, .data, .data, .pinned], laidTests := true, laidLooks := .later }
def ZoneLettersUptoCardSaid : Prop := Claim7.holds Tryz.pinned (.plain (OpenSpec.upto zoneLettersSpec)) zoneLettersUptoCard

/-- THE SECOND FORM's CARD OF 'bellwetherlaw18.ZoneHosts'. -/
def zoneHostsUptoCard : Claim7 := { stood := { row := zoneHostsUptoRow, standIns := [], harness := (true, "bdf1589742c99aac5ea256c80b96c90f71e45ce96b15067a1d47e6260b48cb7f"), looks := false }, kinds := [], alts := [], laidByText := true, laidKinds := [.data, .data, .data, .data, .pinned], laidTests := true, laidLooks := .later }
def ZoneHostsUptoCardSaid : Prop := Claim7.holds Tryz.pinned (.plain (OpenSpec.upto zoneHostsSpec)) zoneHostsUptoCard

/-- THE SECOND FORM's CARD OF 'bellwetherlaw18.ZoneApex'. -/
def zoneApexUptoCard : Claim7 := { stood := { row := zoneApexUptoRow, standIns := [], harness := (true, "bdf1589742c99aac5ea256c80b96c90f71e45ce96b15067a1d47e6260b48cb7f"), looks := false }, kinds := [], alts := [], laidByText := true, laidKinds := [.data, .data, .data, .data, .pinned], laidTests := true, laidLooks := .later }
def ZoneApexUptoCardSaid : Prop := Claim7.holds Tryz.pinned (.plain (OpenSpec.upto zoneApexSpec)) zoneApexUptoCard

/-- THE SECOND FORM's CARD OF 'bellwetherlaw19.ResolverReplies'. -/
def resolverRepliesUptoCard : Claim7 := { stood := { row := resolverRepliesUptoRow, standIns := [], harness := (true, "bdf1589742c99aac5ea256c80b96c90f71e45ce96b15067a1d47e6260b48cb7f"), looks := false }, kinds := [], alts := [], laidByText := true, laidKinds := [.data, .data, .data, .data, .pinned], laidTests := true, laidLooks := .later }
def ResolverRepliesUptoCardSaid : Prop := Claim7.holds Tryz.pinned (.plain (OpenSpec.upto resolverRepliesSpec)) resolverRepliesUptoCard

/-- THE SECOND FORM's CARD OF 'bellwetherlaw19.ResolverParses'. -/
def resolverParsesUptoCard : Claim7 := { stood := { row := resolverParsesUptoRow, standIns := [], harness := (true, "bdf1589742c99aac5ea256c80b96c90f71e45ce96b15067a1d47e6260b48cb7f"), looks := false }, kinds := [], alts := [], laidByText := true, laidKinds := [.data, .data, .data, .data, .pinned], laidTests := true, laidLooks := .later }
def ResolverParsesUptoCardSaid : Prop := Claim7.holds Tryz.pinned (.plain (OpenSpec.upto resolverParsesSpec)) resolverParsesUptoCard

/-- THE SECOND FORM's CARD OF 'bellwetherlaw19.ResolverServices'. -/
def resolverServicesUptoCard : Claim7 := { stood := { row := resolverServicesUptoRow, standIns := [], harness := (true, "bdf1589742c99aac5ea256c80b96c90f71e45ce96b15067a1d47e6260b48cb7f"), looks := false }, kinds := [], alts := [], laidByText := true, laidKinds := [.data, .data, .data, .data, .pinned], laidTests := true, laidLooks := .later }
def ResolverServicesUptoCardSaid : Prop := Claim7.holds Tryz.pinned (.plain (OpenSpec.upto resolverServicesSpec)) resolverServicesUptoCard

/-- THE SECOND FORM's CARD OF 'bellwetherlaw19.ResolverSame'. -/
def resolverSameUptoCard : Claim7 := { stood := { row := resolverSameUptoRow, standIns := [], harness := (true, "bdf1589742c99aac5ea256c80b96c90f71e45ce96b15067a1d47e6260b48cb7f"), looks := false }, kinds := [], alts := [], laidByText := true, laidKinds := [.data, .data, .data, .data, .pinned], laidTests := true, laidLooks := .later }
def ResolverSameUptoCardSaid : Prop := Claim7.holds Tryz.pinned (.plain (OpenSpec.upto resolverSameSpec)) resolverSameUptoCard

/-- THE SECOND FORM's CARD OF 'bellwetherlaw19.ResolverHeads'. -/
def resolverHeadsUptoCard : Claim7 := { stood := { row := resolverHeadsUptoRow, standIns := [], harness := (true, "bdf1589742c99aac5ea256c80b96c90f71e45ce96b15067a1d47e6260b48cb7f"), looks := false }, kinds := [], alts := [], laidByText := true, laidKinds := [.data, .data, .data, .data, .pinned], laidTests := true, laidLooks := .later }
def ResolverHeadsUptoCardSaid : Prop := Claim7.holds Tryz.pinned (.plain (OpenSpec.upto resolverHeadsSpec)) resolverHeadsUptoCard
end Rows
end Go.Proofs.YtnlmdeeadldgmaaGreatDoor
