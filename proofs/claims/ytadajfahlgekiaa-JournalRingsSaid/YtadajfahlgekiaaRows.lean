/-
  No cell of these rows narrows 'for every input' (looked for: loops, veiled, ifaces, maps, wideKeys, modest, calm, conditions, laid).
  DERIVED. THE GIVEN ROWS OF THIS SEAT. 5 by the template 'for every input the law returns true; each argument reads behind the call as it read before'; 0 by the template 'total and deterministic' (their statements: YtadajfahlgekiaaTotals.lean).
  GIVEN WITH THE SEED: the statements are not yours to turn. If you find one false, say at which input.
  Laid BY PROGRAM, IN A SANDBOX (cutbox-rows.mjs): the forced cells as the released guide's own fill.sh prints them over the translation e54c2880e1091b4d… (all of the seat's roots in one cut). By AI agents, Wed Nov 11 2026. No macro, syntax, notation, axiom, sorry.
-/
import Derived.Test.YtadajfahlgekiaaChecked
import GoSem.Claim
import GoSem.ClaimJoined
import GoSem.ClaimMapViews
import Derived.JoinedTies
import Derived.KernelRfl
namespace Go.Proofs.Ytadajfahlgekiaa
/- THE CELL 'sum', in the pinned program and in every row, IS THE sha256 OF THE DUMP (.gsa) THAT YtadajfahlgekiaaProg.lean LOADS. Nothing in Lean hashes anything: it is a label: what it is worth is what the hold of that sum in a sandbox is worth. -/
noncomputable def Try.pinned : Pinned := { name := "ytadajfahlgekiaa", sum := "e54c2880e1091b4d61ccbe96e64e5e2d04adb18ad1ef91c3ae72dc301e8a94e4", checked := Try.checked }
namespace Rows
def none {H : Type} : Left H := { results := [], args := [] }

/-- 'bellwetherlaw13.JournalLays': WHATEVER THE INPUT: true; the input reads as it did. -/
def journalLaysSpec : ChangeSpec := { name := "journalLays", fn := fun _ => fun
  | [d1, d2] => { results := [.lit (.bool true)], args := [d1, d2] }
  | _ => none }
def journalLaysRow : OpenClaim := { program := "ytadajfahlgekiaa", sum := "e54c2880e1091b4d61ccbe96e64e5e2d04adb18ad1ef91c3ae72dc301e8a94e4", func := "bellwether/bellwetherlaw13.JournalLays", spec := "journalLays", recurses := true, apart := false }
def JournalLaysSaid : Prop := journalLaysRow.holds Try.pinned (OpenSpec.ofChange journalLaysSpec)

/-- ITS FALSE NEIGHBOUR: 'it returns false'. Refute it at one input. -/
def journalLaysWrong : ChangeSpec := { name := "journalLays", fn := fun _ => fun
  | [d1, d2] => { results := [.lit (.bool false)], args := [d1, d2] }
  | _ => none }
def JournalLaysWrongFalsely : Prop := journalLaysRow.holds Try.pinned (OpenSpec.ofChange journalLaysWrong)

/-- 'bellwetherlaw13.JournalDeeds': WHATEVER THE INPUT: true; the input reads as it did. -/
def journalDeedsSpec : ChangeSpec := { name := "journalDeeds", fn := fun _ => fun
  | [d1, d2, d3] => { results := [.lit (.bool true)], args := [d1, d2, d3] }
  | _ => none }
def journalDeedsRow : OpenClaim := { program := "ytadajfahlgekiaa", sum := "e54c2880e1091b4d61ccbe96e64e5e2d04adb18ad1ef91c3ae72dc301e8a94e4", func := "bellwether/bellwetherlaw13.JournalDeeds", spec := "journalDeeds", recurses := true, apart := false }
def JournalDeedsSaid : Prop := journalDeedsRow.holds Try.pinned (OpenSpec.ofChange journalDeedsSpec)

/-- ITS FALSE NEIGHBOUR: 'it returns false'. Refute it at one input. -/
def journalDeedsWrong : ChangeSpec := { name := "journalDeeds", fn := fun _ => fun
  | [d1, d2, d3] => { results := [.lit (.bool false)], args := [d1, d2, d3] }
  | _ => none }
def JournalDeedsWrongFalsely : Prop := journalDeedsRow.holds Try.pinned (OpenSpec.ofChange journalDeedsWrong)

/-- 'bellwetherlaw13.JournalNever': WHATEVER THE INPUT: true; the input reads as it did. -/
def journalNeverSpec : ChangeSpec := { name := "journalNever", fn := fun _ => fun
  | [d] => { results := [.lit (.bool true)], args := [d] }
  | _ => none }
def journalNeverRow : OpenClaim := { program := "ytadajfahlgekiaa", sum := "e54c2880e1091b4d61ccbe96e64e5e2d04adb18ad1ef91c3ae72dc301e8a94e4", func := "bellwether/bellwetherlaw13.JournalNever", spec := "journalNever", apart := false }
def JournalNeverSaid : Prop := journalNeverRow.holds Try.pinned (OpenSpec.ofChange journalNeverSpec)

/-- ITS FALSE NEIGHBOUR: 'it returns false'. Refute it at one input. -/
def journalNeverWrong : ChangeSpec := { name := "journalNever", fn := fun _ => fun
  | [d] => { results := [.lit (.bool false)], args := [d] }
  | _ => none }
def JournalNeverWrongFalsely : Prop := journalNeverRow.holds Try.pinned (OpenSpec.ofChange journalNeverWrong)

/-- 'bellwetherlaw13.JournalRings': WHATEVER THE INPUT: true; the input reads as it did. -/
def journalRingsSpec : ChangeSpec := { name := "journalRings", fn := fun _ => fun
  | [d1, d2] => { results := [.lit (.bool true)], args := [d1, d2] }
  | _ => none }
def journalRingsRow : OpenClaim := { program := "ytadajfahlgekiaa", sum := "e54c2880e1091b4d61ccbe96e64e5e2d04adb18ad1ef91c3ae72dc301e8a94e4", func := "bellwether/bellwetherlaw13.JournalRings", spec := "journalRings", apart := false }
def JournalRingsSaid : Prop := journalRingsRow.holds Try.pinned (OpenSpec.ofChange journalRingsSpec)

/-- ITS FALSE NEIGHBOUR: 'it returns false'. Refute it at one input. -/
def journalRingsWrong : ChangeSpec := { name := "journalRings", fn := fun _ => fun
  | [d1, d2] => { results := [.lit (.bool false)], args := [d1, d2] }
  | _ => none }
def JournalRingsWrongFalsely : Prop := journalRingsRow.holds Try.pinned (OpenSpec.ofChange journalRingsWrong)

/-- 'bellwetherlaw13.JournalTorn': WHATEVER THE INPUT: true; the input reads as it did. -/
def journalTornSpec : ChangeSpec := { name := "journalTorn", fn := fun _ => fun
  | [d1, d2, d3] => { results := [.lit (.bool true)], args := [d1, d2, d3] }
  | _ => none }
def journalTornRow : OpenClaim := { program := "ytadajfahlgekiaa", sum := "e54c2880e1091b4d61ccbe96e64e5e2d04adb18ad1ef91c3ae72dc301e8a94e4", func := "bellwether/bellwetherlaw13.JournalTorn", spec := "journalTorn", apart := false }
def JournalTornSaid : Prop := journalTornRow.holds Try.pinned (OpenSpec.ofChange journalTornSpec)

/-- ITS FALSE NEIGHBOUR: 'it returns false'. Refute it at one input. -/
def journalTornWrong : ChangeSpec := { name := "journalTorn", fn := fun _ => fun
  | [d1, d2, d3] => { results := [.lit (.bool false)], args := [d1, d2, d3] }
  | _ => none }
def JournalTornWrongFalsely : Prop := journalTornRow.holds Try.pinned (OpenSpec.ofChange journalTornWrong)

/- THE SECOND FORM. 'bulk': how many values and letters a reading holds, each counted each time it is reached (what is shared counts as often as it is met; a slice's spare places count too). A statement '..UptoSaid' is the law's where the arguments, and the package variables that the reading takes, are together of bulk at most 1048576: NARROWER than '..Said'. Prove '..Said' where nothing that the law and all that it calls make is longer than what came in: it says more and counts as full. Else prove '..UptoSaid'. A law counts once. -/
mutual
def uptoBulk {H : Type} : DataW H → Nat
  | .lit (.string bytes) => bytes.length + 1
  | .lit _ => 1
  | .nil => 1
  | .ptr d => uptoBulk d + 1
  | .slice elems spare => uptoBulkAll elems + uptoBulkAll spare + 1
  | .agg parts => uptoBulkAll parts + 1
  | .iface _ d => uptoBulk d + 1
  | .map entries => uptoBulkEntries entries + 1
  | .held _ => 1
def uptoBulkAll {H : Type} : List (DataW H) → Nat
  | [] => 0
  | d :: r => uptoBulk d + uptoBulkAll r
def uptoBulkEntries {H : Type} : List (Lit × DataW H) → Nat
  | [] => 0
  | x :: r => uptoBulkEntry x + uptoBulkEntries r
def uptoBulkEntry {H : Type} : Lit × DataW H → Nat
  | (.string bytes, d) => bytes.length + uptoBulk d + 1
  | (_, d) => uptoBulk d + 1
 end
def uptoSmall : (H : Type) → List (DataW H) → Bool := fun _ ds => decide (uptoBulkAll ds ≤ 1048576)
def OpenSpec.upto (s : _root_.Go.ChangeSpec) : _root_.Go.OpenSpec := { _root_.Go.OpenSpec.ofChange s with cond := some uptoSmall }

/-- 'bellwetherlaw13.JournalLays', WHERE WHAT IT READS IS OF BULK AT MOST 1048576: true; the input reads as it did. -/
def journalLaysUptoRow : OpenClaim := { program := "ytadajfahlgekiaa", sum := "e54c2880e1091b4d61ccbe96e64e5e2d04adb18ad1ef91c3ae72dc301e8a94e4", func := "bellwether/bellwetherlaw13.JournalLays", spec := "journalLays", recurses := true, apart := false, narrowed := true }
def JournalLaysUptoSaid : Prop := journalLaysUptoRow.holds Try.pinned (OpenSpec.upto journalLaysSpec)

/-- 'bellwetherlaw13.JournalDeeds', WHERE WHAT IT READS IS OF BULK AT MOST 1048576: true; the input reads as it did. -/
def journalDeedsUptoRow : OpenClaim := { program := "ytadajfahlgekiaa", sum := "e54c2880e1091b4d61ccbe96e64e5e2d04adb18ad1ef91c3ae72dc301e8a94e4", func := "bellwether/bellwetherlaw13.JournalDeeds", spec := "journalDeeds", recurses := true, apart := false, narrowed := true }
def JournalDeedsUptoSaid : Prop := journalDeedsUptoRow.holds Try.pinned (OpenSpec.upto journalDeedsSpec)

/-- 'bellwetherlaw13.JournalNever', WHERE WHAT IT READS IS OF BULK AT MOST 1048576: true; the input reads as it did. -/
def journalNeverUptoRow : OpenClaim := { program := "ytadajfahlgekiaa", sum := "e54c2880e1091b4d61ccbe96e64e5e2d04adb18ad1ef91c3ae72dc301e8a94e4", func := "bellwether/bellwetherlaw13.JournalNever", spec := "journalNever", apart := false, narrowed := true }
def JournalNeverUptoSaid : Prop := journalNeverUptoRow.holds Try.pinned (OpenSpec.upto journalNeverSpec)

/-- 'bellwetherlaw13.JournalRings', WHERE WHAT IT READS IS OF BULK AT MOST 1048576: true; the input reads as it did. -/
def journalRingsUptoRow : OpenClaim := { program := "ytadajfahlgekiaa", sum := "e54c2880e1091b4d61ccbe96e64e5e2d04adb18ad1ef91c3ae72dc301e8a94e4", func := "bellwether/bellwetherlaw13.JournalRings", spec := "journalRings", apart := false, narrowed := true }
def JournalRingsUptoSaid : Prop := journalRingsUptoRow.holds Try.pinned (OpenSpec.upto journalRingsSpec)

/-- 'bellwetherlaw13.JournalTorn', WHERE WHAT IT READS IS OF BULK AT MOST 1048576: true; the input reads as it did. -/
def journalTornUptoRow : OpenClaim := { program := "ytadajfahlgekiaa", sum := "e54c2880e1091b4d61ccbe96e64e5e2d04adb18ad1ef91c3ae72dc301e8a94e4", func := "bellwether/bellwetherlaw13.JournalTorn", spec := "journalTorn", apart := false, narrowed := true }
def JournalTornUptoSaid : Prop := journalTornUptoRow.holds Try.pinned (OpenSpec.upto journalTornSpec)

end Rows
end Go.Proofs.Ytadajfahlgekiaa
