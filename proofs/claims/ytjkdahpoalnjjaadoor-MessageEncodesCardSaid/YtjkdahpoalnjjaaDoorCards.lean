/-
  DERIVED. GIVEN WITH THE SEED: THE CARDS: each row of YtjkdahpoalnjjaaDoorRows.lean that lists a variable, with what it lists TIED to the program's text (the seventh form; the later family's looks); each row that meets fmt, with fmt's text TOLD by the authors' own Lean function (tested against real Go, not proved from fmt's source: count such statements apart). THE CARD IS WHAT COUNTS. Prove the row's statement (the work); the ties are given (YtjkdahpoalnjjaaDoorTie.lean); close each card by the builder's one call (the guide's Derived/Test/ToyasCard.lean, 'card_holds'). Laid BY PROGRAM, IN A SANDBOX (cutbox-door.mjs). By AI agents, Wed Nov 11 2026. No macro, syntax, notation, axiom, sorry.
-/
import Derived.Test.YtjkdahpoalnjjaaDoorRows
import GoSem.ClaimSeven
namespace Go.Proofs.YtjkdahpoalnjjaaDoor
namespace Rows

/-- THE TIED CARD OF 'bellwetherlaw20.MessageDecodes'. -/
def messageDecodesCard : Claim7 := { stood := { row := messageDecodesRow, standIns := [], harness := (true, "449ad1d30796886d5413e37358d4780cf8b117c179ab5089734a629bc326a9d8"), looks := true }, kinds := [], alts := [], laidByText := true, laidKinds := [.data], laidTests := true, laidLooks := .later }
def MessageDecodesCardSaid : Prop := Claim7.holds Tryd.pinned (.plain (OpenSpec.ofChange messageDecodesSpec)) messageDecodesCard

/-- THE TIED CARD OF 'bellwetherlaw20.MessageBack'. -/
def messageBackCard : Claim7 := { stood := { row := messageBackRow, standIns := [], harness := (true, "449ad1d30796886d5413e37358d4780cf8b117c179ab5089734a629bc326a9d8"), looks := true }, kinds := [], alts := [], laidByText := true, laidKinds := [.data], laidTests := true, laidLooks := .later }
def MessageBackCardSaid : Prop := Claim7.holds Tryd.pinned (.plain (OpenSpec.ofChange messageBackSpec)) messageBackCard

/-- THE TIED CARD OF 'bellwetherlaw20.MessageOnce'. -/
def messageOnceCard : Claim7 := { stood := { row := messageOnceRow, standIns := [], harness := (true, "449ad1d30796886d5413e37358d4780cf8b117c179ab5089734a629bc326a9d8"), looks := true }, kinds := [], alts := [], laidByText := true, laidKinds := [.data], laidTests := true, laidLooks := .later }
def MessageOnceCardSaid : Prop := Claim7.holds Tryd.pinned (.plain (OpenSpec.ofChange messageOnceSpec)) messageOnceCard

/-- THE TIED CARD OF 'bellwetherlaw20.MessageKinds'. -/
def messageKindsCard : Claim7 := { stood := { row := messageKindsRow, standIns := [], harness := (true, "449ad1d30796886d5413e37358d4780cf8b117c179ab5089734a629bc326a9d8"), looks := true }, kinds := [], alts := [], laidByText := true, laidKinds := [.data], laidTests := true, laidLooks := .later }
def MessageKindsCardSaid : Prop := Claim7.holds Tryd.pinned (.plain (OpenSpec.ofChange messageKindsSpec)) messageKindsCard

/-- THE TIED CARD OF 'bellwetherlaw20.MessageTurns'. -/
def messageTurnsCard : Claim7 := { stood := { row := messageTurnsRow, standIns := [], harness := (true, "449ad1d30796886d5413e37358d4780cf8b117c179ab5089734a629bc326a9d8"), looks := true }, kinds := [], alts := [], laidByText := true, laidKinds := [.data], laidTests := true, laidLooks := .later }
def MessageTurnsCardSaid : Prop := Claim7.holds Tryd.pinned (.plain (OpenSpec.ofChange messageTurnsSpec)) messageTurnsCard

/-- THE TIED CARD OF 'bellwetherlaw20.MessageEncodes'. -/
def messageEncodesCard : Claim7 := { stood := { row := messageEncodesRow, standIns := [], harness := (true, "449ad1d30796886d5413e37358d4780cf8b117c179ab5089734a629bc326a9d8"), looks := true }, kinds := [], alts := [], laidByText := true, laidKinds := [.data], laidTests := true, laidLooks := .later }
def MessageEncodesCardSaid : Prop := Claim7.holds Tryd.pinned (.plain (OpenSpec.ofChange messageEncodesSpec)) messageEncodesCard

/-- THE SECOND FORM's CARD OF 'bellwetherlaw20.MessageDecodes'. -/
def messageDecodesUptoCard : Claim7 := { stood := { row := messageDecodesUptoRow, standIns := [], harness := (true, "449ad1d30796886d5413e37358d4780cf8b117c179ab5089734a629bc326a9d8"), looks := true }, kinds := [], alts := [], laidByText := true, laidKinds := [.data], laidTests := true, laidLooks := .later }
def MessageDecodesUptoCardSaid : Prop := Claim7.holds Tryd.pinned (.plain (OpenSpec.upto messageDecodesSpec)) messageDecodesUptoCard

/-- THE SECOND FORM's CARD OF 'bellwetherlaw20.MessageBack'. -/
def messageBackUptoCard : Claim7 := { stood := { row := messageBackUptoRow, standIns := [], harness := (true, "449ad1d30796886d5413e37358d4780cf8b117c179ab5089734a629bc326a9d8"), looks := true }, kinds := [], alts := [], laidByText := true, laidKinds := [.data], laidTests := true, laidLooks := .later }
def MessageBackUptoCardSaid : Prop := Claim7.holds Tryd.pinned (.plain (OpenSpec.upto messageBackSpec)) messageBackUptoCard

/-- THE SECOND FORM's CARD OF 'bellwetherlaw20.MessageOnce'. -/
def messageOnceUptoCard : Claim7 := { stood := { row := messageOnceUptoRow, standIns := [], harness := (true, "449ad1d30796886d5413e37358d4780cf8b117c179ab5089734a629bc326a9d8"), looks := true }, kinds := [], alts := [], laidByText := true, laidKinds := [.data], laidTests := true, laidLooks := .later }
def MessageOnceUptoCardSaid : Prop := Claim7.holds Tryd.pinned (.plain (OpenSpec.upto messageOnceSpec)) messageOnceUptoCard

/-- THE SECOND FORM's CARD OF 'bellwetherlaw20.MessageKinds'. -/
def messageKindsUptoCard : Claim7 := { stood := { row := messageKindsUptoRow, standIns := [], harness := (true, "449ad1d30796886d5413e37358d4780cf8b117c179ab5089734a629bc326a9d8"), looks := true }, kinds := [], alts := [], laidByText := true, laidKinds := [.data], laidTests := true, laidLooks := .later }
def MessageKindsUptoCardSaid : Prop := Claim7.holds Tryd.pinned (.plain (OpenSpec.upto messageKindsSpec)) messageKindsUptoCard

/-- THE SECOND FORM's CARD OF 'bellwetherlaw20.MessageTurns'. -/
def messageTurnsUptoCard : Claim7 := { stood := { row := messageTurnsUptoRow, standIns := [], harness := (true, "449ad1d30796886d5413e37358d4780cf8b117c179ab5089734a629bc326a9d8"), looks := true }, kinds := [], alts := [], laidByText := true, laidKinds := [.data], laidTests := true, laidLooks := .later }
def MessageTurnsUptoCardSaid : Prop := Claim7.holds Tryd.pinned (.plain (OpenSpec.upto messageTurnsSpec)) messageTurnsUptoCard

/-- THE SECOND FORM's CARD OF 'bellwetherlaw20.MessageEncodes'. -/
def messageEncodesUptoCard : Claim7 := { stood := { row := messageEncodesUptoRow, standIns := [], harness := (true, "449ad1d30796886d5413e37358d4780cf8b117c179ab5089734a629bc326a9d8"), looks := true }, kinds := [], alts := [], laidByText := true, laidKinds := [.data], laidTests := true, laidLooks := .later }
def MessageEncodesUptoCardSaid : Prop := Claim7.holds Tryd.pinned (.plain (OpenSpec.upto messageEncodesSpec)) messageEncodesUptoCard
end Rows
end Go.Proofs.YtjkdahpoalnjjaaDoor
