/-
  NARROWER THAN 'FOR EVERY INPUT', by the rows' own cells (each row's printed sentence says how): MessageDecodes: laid · MessageBack: laid · MessageOnce: laid · MessageKinds: laid · MessageTurns: laid · MessageEncodes: laid.
  DERIVED. THE GIVEN ROWS OF THIS SEAT. 6 by the template 'for every input the law returns true; each argument reads behind the call as it read before'; 0 by the template 'total and deterministic' (their statements: YtjkdahpoalnjjaaDoorTotals.lean).
  GIVEN WITH THE SEED: the statements are not yours to turn. If you find one false, say at which input.
  Laid BY PROGRAM, IN A SANDBOX (cutbox-rows.mjs): the forced cells as the released guide's own fill.sh prints them over the translation 897f651008b8f96e… (all of the seat's roots in one cut). By AI agents, Wed Nov 11 2026. No macro, syntax, notation, axiom, sorry.
-/
import Derived.Test.YtjkdahpoalnjjaaDoorChecked
import GoSem.Claim
import GoSem.ClaimJoined
import GoSem.ClaimMapViews
import Derived.JoinedTies
import Derived.KernelRfl
namespace Go.Proofs.YtjkdahpoalnjjaaDoor
/- THE CELL 'sum', in the pinned program and in every row, IS THE sha256 OF THE DUMP (.gsa) THAT YtjkdahpoalnjjaaDoorProg.lean LOADS. Nothing in Lean hashes anything: it is a label: what it is worth is what the hold of that sum in a sandbox is worth. -/
noncomputable def Tryd.pinned : Pinned := { name := "ytjkdahpoalnjjaadoor", sum := "897f651008b8f96ea6efc93459c49753b52d019ffe58e2b3a8dfde543d369867", checked := Tryd.checked }
namespace Rows
def none {H : Type} : Left H := { results := [], args := [] }

/- WHAT THE LISTED PACKAGE-LEVEL VARIABLES READ AS WHEN THE CALL BEGINS. Each datum BY PROGRAM (the guide's laid-datum.mjs) off the statement by which the dump's own 'gosem.cut.vars' lays the variable. In a bare row this is a premise. The card (YtjkdahpoalnjjaaDoorCards.lean) ties it to the program's text. -/
def laid_bellwether_message_shapes {H : Type} : DataW H := .agg [.agg [.lit (.bool false), .lit (.bool false)], .agg [.lit (.bool true), .lit (.bool false)], .agg [.lit (.bool true), .lit (.bool true)], .agg [.lit (.bool false), .lit (.bool true)], .agg [.lit (.bool false), .lit (.bool false)], .agg [.lit (.bool false), .lit (.bool false)], .agg [.lit (.bool false), .lit (.bool false)], .agg [.lit (.bool false), .lit (.bool false)]]

/-- 'bellwetherlaw20.MessageDecodes': WHATEVER THE INPUT: true; the input reads as it did. -/
def messageDecodesSpec : ChangeSpec := { name := "messageDecodes", fn := fun _ => fun
  | [d1, d2, d3] => { results := [.lit (.bool true)], args := [d1, d2, d3] }
  | _ => none }
def messageDecodesRow : OpenClaim := { program := "ytjkdahpoalnjjaadoor", sum := "897f651008b8f96ea6efc93459c49753b52d019ffe58e2b3a8dfde543d369867", func := "bellwether/bellwetherlaw20.MessageDecodes", spec := "messageDecodes", unfollowed := true, recurses := true, named := ["bellwether/message.shapes"], apart := false, laid := [("bellwether/message.shapes", laid_bellwether_message_shapes)] }
def MessageDecodesSaid : Prop := messageDecodesRow.holds Tryd.pinned (OpenSpec.ofChange messageDecodesSpec)

/-- ITS FALSE NEIGHBOUR: 'it returns false'. Refute it at one input. -/
def messageDecodesWrong : ChangeSpec := { name := "messageDecodes", fn := fun _ => fun
  | [d1, d2, d3] => { results := [.lit (.bool false)], args := [d1, d2, d3] }
  | _ => none }
def MessageDecodesWrongFalsely : Prop := messageDecodesRow.holds Tryd.pinned (OpenSpec.ofChange messageDecodesWrong)

/-- 'bellwetherlaw20.MessageBack': WHATEVER THE INPUT: true; the input reads as it did. -/
def messageBackSpec : ChangeSpec := { name := "messageBack", fn := fun _ => fun
  | [d1, d2, d3] => { results := [.lit (.bool true)], args := [d1, d2, d3] }
  | _ => none }
def messageBackRow : OpenClaim := { program := "ytjkdahpoalnjjaadoor", sum := "897f651008b8f96ea6efc93459c49753b52d019ffe58e2b3a8dfde543d369867", func := "bellwether/bellwetherlaw20.MessageBack", spec := "messageBack", unfollowed := true, recurses := true, named := ["bellwether/message.shapes"], apart := false, laid := [("bellwether/message.shapes", laid_bellwether_message_shapes)] }
def MessageBackSaid : Prop := messageBackRow.holds Tryd.pinned (OpenSpec.ofChange messageBackSpec)

/-- ITS FALSE NEIGHBOUR: 'it returns false'. Refute it at one input. -/
def messageBackWrong : ChangeSpec := { name := "messageBack", fn := fun _ => fun
  | [d1, d2, d3] => { results := [.lit (.bool false)], args := [d1, d2, d3] }
  | _ => none }
def MessageBackWrongFalsely : Prop := messageBackRow.holds Tryd.pinned (OpenSpec.ofChange messageBackWrong)

/-- 'bellwetherlaw20.MessageOnce': WHATEVER THE INPUT: true; the input reads as it did. -/
def messageOnceSpec : ChangeSpec := { name := "messageOnce", fn := fun _ => fun
  | [d1, d2] => { results := [.lit (.bool true)], args := [d1, d2] }
  | _ => none }
def messageOnceRow : OpenClaim := { program := "ytjkdahpoalnjjaadoor", sum := "897f651008b8f96ea6efc93459c49753b52d019ffe58e2b3a8dfde543d369867", func := "bellwether/bellwetherlaw20.MessageOnce", spec := "messageOnce", unfollowed := true, recurses := true, named := ["bellwether/message.shapes"], apart := false, laid := [("bellwether/message.shapes", laid_bellwether_message_shapes)] }
def MessageOnceSaid : Prop := messageOnceRow.holds Tryd.pinned (OpenSpec.ofChange messageOnceSpec)

/-- ITS FALSE NEIGHBOUR: 'it returns false'. Refute it at one input. -/
def messageOnceWrong : ChangeSpec := { name := "messageOnce", fn := fun _ => fun
  | [d1, d2] => { results := [.lit (.bool false)], args := [d1, d2] }
  | _ => none }
def MessageOnceWrongFalsely : Prop := messageOnceRow.holds Tryd.pinned (OpenSpec.ofChange messageOnceWrong)

/-- 'bellwetherlaw20.MessageKinds': WHATEVER THE INPUT: true; the input reads as it did. -/
def messageKindsSpec : ChangeSpec := { name := "messageKinds", fn := fun _ => fun
  | [d1, d2] => { results := [.lit (.bool true)], args := [d1, d2] }
  | _ => none }
def messageKindsRow : OpenClaim := { program := "ytjkdahpoalnjjaadoor", sum := "897f651008b8f96ea6efc93459c49753b52d019ffe58e2b3a8dfde543d369867", func := "bellwether/bellwetherlaw20.MessageKinds", spec := "messageKinds", unfollowed := true, recurses := true, named := ["bellwether/message.shapes"], apart := false, laid := [("bellwether/message.shapes", laid_bellwether_message_shapes)] }
def MessageKindsSaid : Prop := messageKindsRow.holds Tryd.pinned (OpenSpec.ofChange messageKindsSpec)

/-- ITS FALSE NEIGHBOUR: 'it returns false'. Refute it at one input. -/
def messageKindsWrong : ChangeSpec := { name := "messageKinds", fn := fun _ => fun
  | [d1, d2] => { results := [.lit (.bool false)], args := [d1, d2] }
  | _ => none }
def MessageKindsWrongFalsely : Prop := messageKindsRow.holds Tryd.pinned (OpenSpec.ofChange messageKindsWrong)

/-- 'bellwetherlaw20.MessageTurns': WHATEVER THE INPUT: true; the input reads as it did. -/
def messageTurnsSpec : ChangeSpec := { name := "messageTurns", fn := fun _ => fun
  | [d1, d2, d3] => { results := [.lit (.bool true)], args := [d1, d2, d3] }
  | _ => none }
def messageTurnsRow : OpenClaim := { program := "ytjkdahpoalnjjaadoor", sum := "897f651008b8f96ea6efc93459c49753b52d019ffe58e2b3a8dfde543d369867", func := "bellwether/bellwetherlaw20.MessageTurns", spec := "messageTurns", unfollowed := true, recurses := true, named := ["bellwether/message.shapes"], apart := false, laid := [("bellwether/message.shapes", laid_bellwether_message_shapes)] }
def MessageTurnsSaid : Prop := messageTurnsRow.holds Tryd.pinned (OpenSpec.ofChange messageTurnsSpec)

/-- ITS FALSE NEIGHBOUR: 'it returns false'. Refute it at one input. -/
def messageTurnsWrong : ChangeSpec := { name := "messageTurns", fn := fun _ => fun
  | [d1, d2, d3] => { results := [.lit (.bool false)], args := [d1, d2, d3] }
  | _ => none }
def MessageTurnsWrongFalsely : Prop := messageTurnsRow.holds Tryd.pinned (OpenSpec.ofChange messageTurnsWrong)

/-- 'bellwetherlaw20.MessageEncodes': WHATEVER THE INPUT: true; the input reads as it did. -/
def messageEncodesSpec : ChangeSpec := { name := "messageEncodes", fn := fun _ => fun
  | [d1, d2, d3] => { results := [.lit (.bool true)], args := [d1, d2, d3] }
  | _ => none }
def messageEncodesRow : OpenClaim := { program := "ytjkdahpoalnjjaadoor", sum := "897f651008b8f96ea6efc93459c49753b52d019ffe58e2b3a8dfde543d369867", func := "bellwether/bellwetherlaw20.MessageEncodes", spec := "messageEncodes", unfollowed := true, recurses := true, named := ["bellwether/message.shapes"], apart := false, laid := [("bellwether/message.shapes", laid_bellwether_message_shapes)] }
def MessageEncodesSaid : Prop := messageEncodesRow.holds Tryd.pinned (OpenSpec.ofChange messageEncodesSpec)

/-- ITS FALSE NEIGHBOUR: 'it returns false'. Refute it at one input. -/
def messageEncodesWrong : ChangeSpec := { name := "messageEncodes", fn := fun _ => fun
  | [d1, d2, d3] => { results := [.lit (.bool false)], args := [d1, d2, d3] }
  | _ => none }
def MessageEncodesWrongFalsely : Prop := messageEncodesRow.holds Tryd.pinned (OpenSpec.ofChange messageEncodesWrong)

/- THE SECOND FORM. 'bulk': how many values and letters a reading holds, each counted each time it is reached (what is shared counts as often as it is met; a slice's spare places count too). A statement '..UptoSaid' is the law's where the arguments, and the package variables that the reading takes, are together of bulk at most 1048576: NARROWER than '..Said'. Prove '..Said' where nothing that the law and all that it calls make is longer than what came in: it says more and counts as full. Else prove '..UptoSaid'. A law counts once. -/
mutual
def uptoBulk {H : Type} : DataW H → Nat
  | .lit (.string bytes) => bytes.length + 1
  | .lit _ => 1
  | .nil => 1
  | .ptr d => uptoBulk d + 1
  | .slice elems spare => uptoBulkAll elems + uptoBulkAll spare + 1
  | .agg parts => uptoBulkAll parts + 1
  | .iface _ d => uptoBulk d + 1
  | .map entries => uptoBulkEntries entries + 1
  | .held _ => 1
def uptoBulkAll {H : Type} : List (DataW H) → Nat
  | [] => 0
  | d :: r => uptoBulk d + uptoBulkAll r
def uptoBulkEntries {H : Type} : List (Lit × DataW H) → Nat
  | [] => 0
  | x :: r => uptoBulkEntry x + uptoBulkEntries r
def uptoBulkEntry {H : Type} : Lit × DataW H → Nat
  | (.string bytes, d) => bytes.length + uptoBulk d + 1
  | (_, d) => uptoBulk d + 1
 end
def uptoSmall : (H : Type) → List (DataW H) → Bool := fun _ ds => decide (uptoBulkAll ds ≤ 1048576)
def OpenSpec.upto (s : _root_.Go.ChangeSpec) : _root_.Go.OpenSpec := { _root_.Go.OpenSpec.ofChange s with cond := some uptoSmall }

/-- 'bellwetherlaw20.MessageDecodes', WHERE WHAT IT READS IS OF BULK AT MOST 1048576: true; the input reads as it did. -/
def messageDecodesUptoRow : OpenClaim := { program := "ytjkdahpoalnjjaadoor", sum := "897f651008b8f96ea6efc93459c49753b52d019ffe58e2b3a8dfde543d369867", func := "bellwether/bellwetherlaw20.MessageDecodes", spec := "messageDecodes", unfollowed := true, recurses := true, named := ["bellwether/message.shapes"], apart := false, laid := [("bellwether/message.shapes", laid_bellwether_message_shapes)], narrowed := true }
def MessageDecodesUptoSaid : Prop := messageDecodesUptoRow.holds Tryd.pinned (OpenSpec.upto messageDecodesSpec)

/-- 'bellwetherlaw20.MessageBack', WHERE WHAT IT READS IS OF BULK AT MOST 1048576: true; the input reads as it did. -/
def messageBackUptoRow : OpenClaim := { program := "ytjkdahpoalnjjaadoor", sum := "897f651008b8f96ea6efc93459c49753b52d019ffe58e2b3a8dfde543d369867", func := "bellwether/bellwetherlaw20.MessageBack", spec := "messageBack", unfollowed := true, recurses := true, named := ["bellwether/message.shapes"], apart := false, laid := [("bellwether/message.shapes", laid_bellwether_message_shapes)], narrowed := true }
def MessageBackUptoSaid : Prop := messageBackUptoRow.holds Tryd.pinned (OpenSpec.upto messageBackSpec)

/-- 'bellwetherlaw20.MessageOnce', WHERE WHAT IT READS IS OF BULK AT MOST 1048576: true; the input reads as it did. -/
def messageOnceUptoRow : OpenClaim := { program := "ytjkdahpoalnjjaadoor", sum := "897f651008b8f96ea6efc93459c49753b52d019ffe58e2b3a8dfde543d369867", func := "bellwether/bellwetherlaw20.MessageOnce", spec := "messageOnce", unfollowed := true, recurses := true, named := ["bellwether/message.shapes"], apart := false, laid := [("bellwether/message.shapes", laid_bellwether_message_shapes)], narrowed := true }
def MessageOnceUptoSaid : Prop := messageOnceUptoRow.holds Tryd.pinned (OpenSpec.upto messageOnceSpec)

/-- 'bellwetherlaw20.MessageKinds', WHERE WHAT IT READS IS OF BULK AT MOST 1048576: true; the input reads as it did. -/
def messageKindsUptoRow : OpenClaim := { program := "ytjkdahpoalnjjaadoor", sum := "897f651008b8f96ea6efc93459c49753b52d019ffe58e2b3a8dfde543d369867", func := "bellwether/bellwetherlaw20.MessageKinds", spec := "messageKinds", unfollowed := true, recurses := true, named := ["bellwether/message.shapes"], apart := false, laid := [("bellwether/message.shapes", laid_bellwether_message_shapes)], narrowed := true }
def MessageKindsUptoSaid : Prop := messageKindsUptoRow.holds Tryd.pinned (OpenSpec.upto messageKindsSpec)

/-- 'bellwetherlaw20.MessageTurns', WHERE WHAT IT READS IS OF BULK AT MOST 1048576: true; the input reads as it did. -/
def messageTurnsUptoRow : OpenClaim := { program := "ytjkdahpoalnjjaadoor", sum := "897f651008b8f96ea6efc93459c49753b52d019ffe58e2b3a8dfde543d369867", func := "bellwether/bellwetherlaw20.MessageTurns", spec := "messageTurns", unfollowed := true, recurses := true, named := ["bellwether/message.shapes"], apart := false, laid := [("bellwether/message.shapes", laid_bellwether_message_shapes)], narrowed := true }
def MessageTurnsUptoSaid : Prop := messageTurnsUptoRow.holds Tryd.pinned (OpenSpec.upto messageTurnsSpec)

/-- 'bellwetherlaw20.MessageEncodes', WHERE WHAT IT READS IS OF BULK AT MOST 1048576: true; the input reads as it did. -/
def messageEncodesUptoRow : OpenClaim := { program := "ytjkdahpoalnjjaadoor", sum := "897f651008b8f96ea6efc93459c49753b52d019ffe58e2b3a8dfde543d369867", func := "bellwether/bellwetherlaw20.MessageEncodes", spec := "messageEncodes", unfollowed := true, recurses := true, named := ["bellwether/message.shapes"], apart := false, laid := [("bellwether/message.shapes", laid_bellwether_message_shapes)], narrowed := true }
def MessageEncodesUptoSaid : Prop := messageEncodesUptoRow.holds Tryd.pinned (OpenSpec.upto messageEncodesSpec)

end Rows
end Go.Proofs.YtjkdahpoalnjjaaDoor
