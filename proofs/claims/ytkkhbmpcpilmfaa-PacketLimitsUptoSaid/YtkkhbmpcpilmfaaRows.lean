/-
  No cell of these rows narrows 'for every input' (looked for: loops, veiled, ifaces, maps, wideKeys, modest, calm, conditions, laid).
  DERIVED. THE GIVEN ROWS OF THIS SEAT. 5 by the template 'for every input the law returns true; each argument reads behind the call as it read before'; 0 by the template 'total and deterministic' (their statements: YtkkhbmpcpilmfaaTotals.lean).
  GIVEN WITH THE SEED: the statements are not yours to turn. If you find one false, say at which input.
  Laid BY PROGRAM, IN A SANDBOX (cutbox-rows.mjs): the forced cells as the released guide's own fill.sh prints them over the translation e0a9dfb040c7fa54… (all of the seat's roots in one cut). By AI agents, Wed Nov 11 2026. No macro, syntax, notation, axiom, sorry.
-/
import Derived.Test.YtkkhbmpcpilmfaaChecked
import GoSem.Claim
import GoSem.ClaimJoined
import GoSem.ClaimMapViews
import Derived.JoinedTies
import Derived.KernelRfl
namespace Go.Proofs.Ytkkhbmpcpilmfaa
/- THE CELL 'sum', in the pinned program and in every row, IS THE sha256 OF THE DUMP (.gsa) THAT YtkkhbmpcpilmfaaProg.lean LOADS. Nothing in Lean hashes anything: it is a label: what it is worth is what the hold of that sum in a sandbox is worth. -/
noncomputable def Try.pinned : Pinned := { name := "ytkkhbmpcpilmfaa", sum := "e0a9dfb040c7fa54434f9530bf7815031238db608f1a450c89d1b368d6ca7bd6", checked := Try.checked }
namespace Rows
def none {H : Type} : Left H := { results := [], args := [] }

/-- 'bellwetherlaw17.PacketBack': WHATEVER THE INPUT: true; the input reads as it did. -/
def packetBackSpec : ChangeSpec := { name := "packetBack", fn := fun _ => fun
  | [d1, d2] => { results := [.lit (.bool true)], args := [d1, d2] }
  | _ => none }
def packetBackRow : OpenClaim := { program := "ytkkhbmpcpilmfaa", sum := "e0a9dfb040c7fa54434f9530bf7815031238db608f1a450c89d1b368d6ca7bd6", func := "bellwether/bellwetherlaw17.PacketBack", spec := "packetBack", inPlace := ["internal/abi.NoEscape"], unfollowed := true, recurses := true, apart := false }
def PacketBackSaid : Prop := packetBackRow.holds Try.pinned (OpenSpec.ofChange packetBackSpec)

/-- ITS FALSE NEIGHBOUR: 'it returns false'. Refute it at one input. -/
def packetBackWrong : ChangeSpec := { name := "packetBack", fn := fun _ => fun
  | [d1, d2] => { results := [.lit (.bool false)], args := [d1, d2] }
  | _ => none }
def PacketBackWrongFalsely : Prop := packetBackRow.holds Try.pinned (OpenSpec.ofChange packetBackWrong)

/-- 'bellwetherlaw17.PacketLimits': WHATEVER THE INPUT: true; the input reads as it did. -/
def packetLimitsSpec : ChangeSpec := { name := "packetLimits", fn := fun _ => fun
  | [d1, d2] => { results := [.lit (.bool true)], args := [d1, d2] }
  | _ => none }
def packetLimitsRow : OpenClaim := { program := "ytkkhbmpcpilmfaa", sum := "e0a9dfb040c7fa54434f9530bf7815031238db608f1a450c89d1b368d6ca7bd6", func := "bellwether/bellwetherlaw17.PacketLimits", spec := "packetLimits", inPlace := ["internal/abi.NoEscape"], unfollowed := true, recurses := true, apart := false }
def PacketLimitsSaid : Prop := packetLimitsRow.holds Try.pinned (OpenSpec.ofChange packetLimitsSpec)

/-- ITS FALSE NEIGHBOUR: 'it returns false'. Refute it at one input. -/
def packetLimitsWrong : ChangeSpec := { name := "packetLimits", fn := fun _ => fun
  | [d1, d2] => { results := [.lit (.bool false)], args := [d1, d2] }
  | _ => none }
def PacketLimitsWrongFalsely : Prop := packetLimitsRow.holds Try.pinned (OpenSpec.ofChange packetLimitsWrong)

/-- 'bellwetherlaw17.PacketNames': WHATEVER THE INPUT: true; the input reads as it did. -/
def packetNamesSpec : ChangeSpec := { name := "packetNames", fn := fun _ => fun
  | [d1, d2] => { results := [.lit (.bool true)], args := [d1, d2] }
  | _ => none }
def packetNamesRow : OpenClaim := { program := "ytkkhbmpcpilmfaa", sum := "e0a9dfb040c7fa54434f9530bf7815031238db608f1a450c89d1b368d6ca7bd6", func := "bellwether/bellwetherlaw17.PacketNames", spec := "packetNames", inPlace := ["internal/abi.NoEscape"], unfollowed := true, recurses := true, apart := false }
def PacketNamesSaid : Prop := packetNamesRow.holds Try.pinned (OpenSpec.ofChange packetNamesSpec)

/-- ITS FALSE NEIGHBOUR: 'it returns false'. Refute it at one input. -/
def packetNamesWrong : ChangeSpec := { name := "packetNames", fn := fun _ => fun
  | [d1, d2] => { results := [.lit (.bool false)], args := [d1, d2] }
  | _ => none }
def PacketNamesWrongFalsely : Prop := packetNamesRow.holds Try.pinned (OpenSpec.ofChange packetNamesWrong)

/-- 'bellwetherlaw17.PacketBuilds': WHATEVER THE INPUT: true; the input reads as it did. -/
def packetBuildsSpec : ChangeSpec := { name := "packetBuilds", fn := fun _ => fun
  | [d1, d2, d3] => { results := [.lit (.bool true)], args := [d1, d2, d3] }
  | _ => none }
def packetBuildsRow : OpenClaim := { program := "ytkkhbmpcpilmfaa", sum := "e0a9dfb040c7fa54434f9530bf7815031238db608f1a450c89d1b368d6ca7bd6", func := "bellwether/bellwetherlaw17.PacketBuilds", spec := "packetBuilds", inPlace := ["internal/abi.NoEscape"], unfollowed := true, recurses := true, apart := false }
def PacketBuildsSaid : Prop := packetBuildsRow.holds Try.pinned (OpenSpec.ofChange packetBuildsSpec)

/-- ITS FALSE NEIGHBOUR: 'it returns false'. Refute it at one input. -/
def packetBuildsWrong : ChangeSpec := { name := "packetBuilds", fn := fun _ => fun
  | [d1, d2, d3] => { results := [.lit (.bool false)], args := [d1, d2, d3] }
  | _ => none }
def PacketBuildsWrongFalsely : Prop := packetBuildsRow.holds Try.pinned (OpenSpec.ofChange packetBuildsWrong)

/-- 'bellwetherlaw13.JournalNever': WHATEVER THE INPUT: true; the input reads as it did. -/
def journalNeverSpec : ChangeSpec := { name := "journalNever", fn := fun _ => fun
  | [d] => { results := [.lit (.bool true)], args := [d] }
  | _ => none }
def journalNeverRow : OpenClaim := { program := "ytkkhbmpcpilmfaa", sum := "e0a9dfb040c7fa54434f9530bf7815031238db608f1a450c89d1b368d6ca7bd6", func := "bellwether/bellwetherlaw13.JournalNever", spec := "journalNever", apart := false }
def JournalNeverSaid : Prop := journalNeverRow.holds Try.pinned (OpenSpec.ofChange journalNeverSpec)

/-- ITS FALSE NEIGHBOUR: 'it returns false'. Refute it at one input. -/
def journalNeverWrong : ChangeSpec := { name := "journalNever", fn := fun _ => fun
  | [d] => { results := [.lit (.bool false)], args := [d] }
  | _ => none }
def JournalNeverWrongFalsely : Prop := journalNeverRow.holds Try.pinned (OpenSpec.ofChange journalNeverWrong)

/- THE SECOND FORM. 'bulk': how many values and letters a reading holds, each counted each time it is reached (what is shared counts as often as it is met; a slice's spare places count too). A statement '..UptoSaid' is the law's where the arguments, and the package variables that the reading takes, are together of bulk at most 1048576: NARROWER than '..Said'. Prove '..Said' where nothing that the law and all that it calls make is longer than what came in: it says more and counts as full. Else prove '..UptoSaid'. A law counts once. -/
mutual
def uptoBulk {H : Type} : DataW H → Nat
  | .lit (.string bytes) => bytes.length + 1
  | .lit _ => 1
  | .nil => 1
  | .ptr d => uptoBulk d + 1
  | .slice elems spare => uptoBulkAll elems + uptoBulkAll spare + 1
  | .agg parts => uptoBulkAll parts + 1
  | .iface _ d => uptoBulk d + 1
  | .map entries => uptoBulkEntries entries + 1
  | .held _ => 1
def uptoBulkAll {H : Type} : List (DataW H) → Nat
  | [] => 0
  | d :: r => uptoBulk d + uptoBulkAll r
def uptoBulkEntries {H : Type} : List (Lit × DataW H) → Nat
  | [] => 0
  | x :: r => uptoBulkEntry x + uptoBulkEntries r
def uptoBulkEntry {H : Type} : Lit × DataW H → Nat
  | (.string bytes, d) => bytes.length + uptoBulk d + 1
  | (_, d) => uptoBulk d + 1
 end
def uptoSmall : (H : Type) → List (DataW H) → Bool := fun _ ds => decide (uptoBulkAll ds ≤ 1048576)
def OpenSpec.upto (s : _root_.Go.ChangeSpec) : _root_.Go.OpenSpec := { _root_.Go.OpenSpec.ofChange s with cond := some uptoSmall }

/-- 'bellwetherlaw17.PacketBack', WHERE WHAT IT READS IS OF BULK AT MOST 1048576: true; the input reads as it did. -/
def packetBackUptoRow : OpenClaim := { program := "ytkkhbmpcpilmfaa", sum := "e0a9dfb040c7fa54434f9530bf7815031238db608f1a450c89d1b368d6ca7bd6", func := "bellwether/bellwetherlaw17.PacketBack", spec := "packetBack", inPlace := ["internal/abi.NoEscape"], unfollowed := true, recurses := true, apart := false, narrowed := true }
def PacketBackUptoSaid : Prop := packetBackUptoRow.holds Try.pinned (OpenSpec.upto packetBackSpec)

/-- 'bellwetherlaw17.PacketLimits', WHERE WHAT IT READS IS OF BULK AT MOST 1048576: true; the input reads as it did. -/
def packetLimitsUptoRow : OpenClaim := { program := "ytkkhbmpcpilmfaa", sum := "e0a9dfb040c7fa54434f9530bf7815031238db608f1a450c89d1b368d6ca7bd6", func := "bellwether/bellwetherlaw17.PacketLimits", spec := "packetLimits", inPlace := ["internal/abi.NoEscape"], unfollowed := true, recurses := true, apart := false, narrowed := true }
def PacketLimitsUptoSaid : Prop := packetLimitsUptoRow.holds Try.pinned (OpenSpec.upto packetLimitsSpec)

/-- 'bellwetherlaw17.PacketNames', WHERE WHAT IT READS IS OF BULK AT MOST 1048576: true; the input reads as it did. -/
def packetNamesUptoRow : OpenClaim := { program := "ytkkhbmpcpilmfaa", sum := "e0a9dfb040c7fa54434f9530bf7815031238db608f1a450c89d1b368d6ca7bd6", func := "bellwether/bellwetherlaw17.PacketNames", spec := "packetNames", inPlace := ["internal/abi.NoEscape"], unfollowed := true, recurses := true, apart := false, narrowed := true }
def PacketNamesUptoSaid : Prop := packetNamesUptoRow.holds Try.pinned (OpenSpec.upto packetNamesSpec)

/-- 'bellwetherlaw17.PacketBuilds', WHERE WHAT IT READS IS OF BULK AT MOST 1048576: true; the input reads as it did. -/
def packetBuildsUptoRow : OpenClaim := { program := "ytkkhbmpcpilmfaa", sum := "e0a9dfb040c7fa54434f9530bf7815031238db608f1a450c89d1b368d6ca7bd6", func := "bellwether/bellwetherlaw17.PacketBuilds", spec := "packetBuilds", inPlace := ["internal/abi.NoEscape"], unfollowed := true, recurses := true, apart := false, narrowed := true }
def PacketBuildsUptoSaid : Prop := packetBuildsUptoRow.holds Try.pinned (OpenSpec.upto packetBuildsSpec)

/-- 'bellwetherlaw13.JournalNever', WHERE WHAT IT READS IS OF BULK AT MOST 1048576: true; the input reads as it did. -/
def journalNeverUptoRow : OpenClaim := { program := "ytkkhbmpcpilmfaa", sum := "e0a9dfb040c7fa54434f9530bf7815031238db608f1a450c89d1b368d6ca7bd6", func := "bellwether/bellwetherlaw13.JournalNever", spec := "journalNever", apart := false, narrowed := true }
def JournalNeverUptoSaid : Prop := journalNeverUptoRow.holds Try.pinned (OpenSpec.upto journalNeverSpec)

end Rows
end Go.Proofs.Ytkkhbmpcpilmfaa
