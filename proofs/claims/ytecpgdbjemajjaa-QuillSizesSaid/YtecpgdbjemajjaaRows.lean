/-
  No cell of these rows narrows 'for every input' (looked for: loops, veiled, ifaces, maps, wideKeys, modest, calm, conditions, laid).
  DERIVED. THE GIVEN ROWS OF THIS SEAT. 6 by the template 'for every input the law returns true; each argument reads behind the call as it read before'; 0 by the template 'total and deterministic' (their statements: YtecpgdbjemajjaaTotals.lean).
  GIVEN WITH THE SEED: the statements are not yours to turn. If you find one false, say at which input.
  Laid BY PROGRAM, IN A SANDBOX (cutbox-rows.mjs): the forced cells as the released guide's own fill.sh prints them over the translation 31ad31bb72d2079e… (all of the seat's roots in one cut). By AI agents, Wed Nov 11 2026. No macro, syntax, notation, axiom, sorry.
-/
import Derived.Test.YtecpgdbjemajjaaChecked
import GoSem.Claim
import GoSem.ClaimJoined
import GoSem.ClaimMapViews
import Derived.JoinedTies
import Derived.KernelRfl
namespace Go.Proofs.Ytecpgdbjemajjaa
/- THE CELL 'sum', in the pinned program and in every row, IS THE sha256 OF THE DUMP (.gsa) THAT YtecpgdbjemajjaaProg.lean LOADS. Nothing in Lean hashes anything: it is a label: what it is worth is what the hold of that sum in a sandbox is worth. -/
noncomputable def Try.pinned : Pinned := { name := "ytecpgdbjemajjaa", sum := "31ad31bb72d2079eee7cc8d0f59bb58c2108721fc28aec4e348c5aa993d3beeb", checked := Try.checked }
namespace Rows
def none {H : Type} : Left H := { results := [], args := [] }

/-- 'bellwetherlaw01.QuillLays': WHATEVER THE INPUT: true; the input reads as it did. -/
def quillLaysSpec : ChangeSpec := { name := "quillLays", fn := fun _ => fun
  | [d1, d2, d3] => { results := [.lit (.bool true)], args := [d1, d2, d3] }
  | _ => none }
def quillLaysRow : OpenClaim := { program := "ytecpgdbjemajjaa", sum := "31ad31bb72d2079eee7cc8d0f59bb58c2108721fc28aec4e348c5aa993d3beeb", func := "bellwether/bellwetherlaw01.QuillLays", spec := "quillLays", recurses := true, apart := false }
def QuillLaysSaid : Prop := quillLaysRow.holds Try.pinned (OpenSpec.ofChange quillLaysSpec)

/-- ITS FALSE NEIGHBOUR: 'it returns false'. Refute it at one input. -/
def quillLaysWrong : ChangeSpec := { name := "quillLays", fn := fun _ => fun
  | [d1, d2, d3] => { results := [.lit (.bool false)], args := [d1, d2, d3] }
  | _ => none }
def QuillLaysWrongFalsely : Prop := quillLaysRow.holds Try.pinned (OpenSpec.ofChange quillLaysWrong)

/-- 'bellwetherlaw01.QuillTakes': WHATEVER THE INPUT: true; the input reads as it did. -/
def quillTakesSpec : ChangeSpec := { name := "quillTakes", fn := fun _ => fun
  | [d1, d2] => { results := [.lit (.bool true)], args := [d1, d2] }
  | _ => none }
def quillTakesRow : OpenClaim := { program := "ytecpgdbjemajjaa", sum := "31ad31bb72d2079eee7cc8d0f59bb58c2108721fc28aec4e348c5aa993d3beeb", func := "bellwether/bellwetherlaw01.QuillTakes", spec := "quillTakes", recurses := true, apart := false }
def QuillTakesSaid : Prop := quillTakesRow.holds Try.pinned (OpenSpec.ofChange quillTakesSpec)

/-- ITS FALSE NEIGHBOUR: 'it returns false'. Refute it at one input. -/
def quillTakesWrong : ChangeSpec := { name := "quillTakes", fn := fun _ => fun
  | [d1, d2] => { results := [.lit (.bool false)], args := [d1, d2] }
  | _ => none }
def QuillTakesWrongFalsely : Prop := quillTakesRow.holds Try.pinned (OpenSpec.ofChange quillTakesWrong)

/-- 'bellwetherlaw01.QuillBack': WHATEVER THE INPUT: true; the input reads as it did. -/
def quillBackSpec : ChangeSpec := { name := "quillBack", fn := fun _ => fun
  | [d1, d2, d3] => { results := [.lit (.bool true)], args := [d1, d2, d3] }
  | _ => none }
def quillBackRow : OpenClaim := { program := "ytecpgdbjemajjaa", sum := "31ad31bb72d2079eee7cc8d0f59bb58c2108721fc28aec4e348c5aa993d3beeb", func := "bellwether/bellwetherlaw01.QuillBack", spec := "quillBack", apart := false }
def QuillBackSaid : Prop := quillBackRow.holds Try.pinned (OpenSpec.ofChange quillBackSpec)

/-- ITS FALSE NEIGHBOUR: 'it returns false'. Refute it at one input. -/
def quillBackWrong : ChangeSpec := { name := "quillBack", fn := fun _ => fun
  | [d1, d2, d3] => { results := [.lit (.bool false)], args := [d1, d2, d3] }
  | _ => none }
def QuillBackWrongFalsely : Prop := quillBackRow.holds Try.pinned (OpenSpec.ofChange quillBackWrong)

/-- 'bellwetherlaw01.QuillOnce': WHATEVER THE INPUT: true; the input reads as it did. -/
def quillOnceSpec : ChangeSpec := { name := "quillOnce", fn := fun _ => fun
  | [d] => { results := [.lit (.bool true)], args := [d] }
  | _ => none }
def quillOnceRow : OpenClaim := { program := "ytecpgdbjemajjaa", sum := "31ad31bb72d2079eee7cc8d0f59bb58c2108721fc28aec4e348c5aa993d3beeb", func := "bellwether/bellwetherlaw01.QuillOnce", spec := "quillOnce", apart := false }
def QuillOnceSaid : Prop := quillOnceRow.holds Try.pinned (OpenSpec.ofChange quillOnceSpec)

/-- ITS FALSE NEIGHBOUR: 'it returns false'. Refute it at one input. -/
def quillOnceWrong : ChangeSpec := { name := "quillOnce", fn := fun _ => fun
  | [d] => { results := [.lit (.bool false)], args := [d] }
  | _ => none }
def QuillOnceWrongFalsely : Prop := quillOnceRow.holds Try.pinned (OpenSpec.ofChange quillOnceWrong)

/-- 'bellwetherlaw01.QuillSizes': WHATEVER THE INPUT: true; the input reads as it did. -/
def quillSizesSpec : ChangeSpec := { name := "quillSizes", fn := fun _ => fun
  | [d1, d2, d3] => { results := [.lit (.bool true)], args := [d1, d2, d3] }
  | _ => none }
def quillSizesRow : OpenClaim := { program := "ytecpgdbjemajjaa", sum := "31ad31bb72d2079eee7cc8d0f59bb58c2108721fc28aec4e348c5aa993d3beeb", func := "bellwether/bellwetherlaw01.QuillSizes", spec := "quillSizes", apart := false }
def QuillSizesSaid : Prop := quillSizesRow.holds Try.pinned (OpenSpec.ofChange quillSizesSpec)

/-- ITS FALSE NEIGHBOUR: 'it returns false'. Refute it at one input. -/
def quillSizesWrong : ChangeSpec := { name := "quillSizes", fn := fun _ => fun
  | [d1, d2, d3] => { results := [.lit (.bool false)], args := [d1, d2, d3] }
  | _ => none }
def QuillSizesWrongFalsely : Prop := quillSizesRow.holds Try.pinned (OpenSpec.ofChange quillSizesWrong)

/-- 'bellwetherlaw01.QuillChain': WHATEVER THE INPUT: true; the input reads as it did. -/
def quillChainSpec : ChangeSpec := { name := "quillChain", fn := fun _ => fun
  | [d] => { results := [.lit (.bool true)], args := [d] }
  | _ => none }
def quillChainRow : OpenClaim := { program := "ytecpgdbjemajjaa", sum := "31ad31bb72d2079eee7cc8d0f59bb58c2108721fc28aec4e348c5aa993d3beeb", func := "bellwether/bellwetherlaw01.QuillChain", spec := "quillChain", apart := false }
def QuillChainSaid : Prop := quillChainRow.holds Try.pinned (OpenSpec.ofChange quillChainSpec)

/-- ITS FALSE NEIGHBOUR: 'it returns false'. Refute it at one input. -/
def quillChainWrong : ChangeSpec := { name := "quillChain", fn := fun _ => fun
  | [d] => { results := [.lit (.bool false)], args := [d] }
  | _ => none }
def QuillChainWrongFalsely : Prop := quillChainRow.holds Try.pinned (OpenSpec.ofChange quillChainWrong)

/- THE SECOND FORM. 'bulk': how many values and letters a reading holds, each counted each time it is reached (what is shared counts as often as it is met; a slice's spare places count too). A statement '..UptoSaid' is the law's where the arguments, and the package variables that the reading takes, are together of bulk at most 1048576: NARROWER than '..Said'. Prove '..Said' where nothing that the law and all that it calls make is longer than what came in: it says more and counts as full. Else prove '..UptoSaid'. A law counts once. -/
mutual
def uptoBulk {H : Type} : DataW H → Nat
  | .lit (.string bytes) => bytes.length + 1
  | .lit _ => 1
  | .nil => 1
  | .ptr d => uptoBulk d + 1
  | .slice elems spare => uptoBulkAll elems + uptoBulkAll spare + 1
  | .agg parts => uptoBulkAll parts + 1
  | .iface _ d => uptoBulk d + 1
  | .map entries => uptoBulkEntries entries + 1
  | .held _ => 1
def uptoBulkAll {H : Type} : List (DataW H) → Nat
  | [] => 0
  | d :: r => uptoBulk d + uptoBulkAll r
def uptoBulkEntries {H : Type} : List (Lit × DataW H) → Nat
  | [] => 0
  | x :: r => uptoBulkEntry x + uptoBulkEntries r
def uptoBulkEntry {H : Type} : Lit × DataW H → Nat
  | (.string bytes, d) => bytes.length + uptoBulk d + 1
  | (_, d) => uptoBulk d + 1
 end
def uptoSmall : (H : Type) → List (DataW H) → Bool := fun _ ds => decide (uptoBulkAll ds ≤ 1048576)
def OpenSpec.upto (s : _root_.Go.ChangeSpec) : _root_.Go.OpenSpec := { _root_.Go.OpenSpec.ofChange s with cond := some uptoSmall }

/-- 'bellwetherlaw01.QuillLays', WHERE WHAT IT READS IS OF BULK AT MOST 1048576: true; the input reads as it did. -/
def quillLaysUptoRow : OpenClaim := { program := "ytecpgdbjemajjaa", sum := "31ad31bb72d2079eee7cc8d0f59bb58c2108721fc28aec4e348c5aa993d3beeb", func := "bellwether/bellwetherlaw01.QuillLays", spec := "quillLays", recurses := true, apart := false, narrowed := true }
def QuillLaysUptoSaid : Prop := quillLaysUptoRow.holds Try.pinned (OpenSpec.upto quillLaysSpec)

/-- 'bellwetherlaw01.QuillTakes', WHERE WHAT IT READS IS OF BULK AT MOST 1048576: true; the input reads as it did. -/
def quillTakesUptoRow : OpenClaim := { program := "ytecpgdbjemajjaa", sum := "31ad31bb72d2079eee7cc8d0f59bb58c2108721fc28aec4e348c5aa993d3beeb", func := "bellwether/bellwetherlaw01.QuillTakes", spec := "quillTakes", recurses := true, apart := false, narrowed := true }
def QuillTakesUptoSaid : Prop := quillTakesUptoRow.holds Try.pinned (OpenSpec.upto quillTakesSpec)

/-- 'bellwetherlaw01.QuillBack', WHERE WHAT IT READS IS OF BULK AT MOST 1048576: true; the input reads as it did. -/
def quillBackUptoRow : OpenClaim := { program := "ytecpgdbjemajjaa", sum := "31ad31bb72d2079eee7cc8d0f59bb58c2108721fc28aec4e348c5aa993d3beeb", func := "bellwether/bellwetherlaw01.QuillBack", spec := "quillBack", apart := false, narrowed := true }
def QuillBackUptoSaid : Prop := quillBackUptoRow.holds Try.pinned (OpenSpec.upto quillBackSpec)

/-- 'bellwetherlaw01.QuillOnce', WHERE WHAT IT READS IS OF BULK AT MOST 1048576: true; the input reads as it did. -/
def quillOnceUptoRow : OpenClaim := { program := "ytecpgdbjemajjaa", sum := "31ad31bb72d2079eee7cc8d0f59bb58c2108721fc28aec4e348c5aa993d3beeb", func := "bellwether/bellwetherlaw01.QuillOnce", spec := "quillOnce", apart := false, narrowed := true }
def QuillOnceUptoSaid : Prop := quillOnceUptoRow.holds Try.pinned (OpenSpec.upto quillOnceSpec)

/-- 'bellwetherlaw01.QuillSizes', WHERE WHAT IT READS IS OF BULK AT MOST 1048576: true; the input reads as it did. -/
def quillSizesUptoRow : OpenClaim := { program := "ytecpgdbjemajjaa", sum := "31ad31bb72d2079eee7cc8d0f59bb58c2108721fc28aec4e348c5aa993d3beeb", func := "bellwether/bellwetherlaw01.QuillSizes", spec := "quillSizes", apart := false, narrowed := true }
def QuillSizesUptoSaid : Prop := quillSizesUptoRow.holds Try.pinned (OpenSpec.upto quillSizesSpec)

/-- 'bellwetherlaw01.QuillChain', WHERE WHAT IT READS IS OF BULK AT MOST 1048576: true; the input reads as it did. -/
def quillChainUptoRow : OpenClaim := { program := "ytecpgdbjemajjaa", sum := "31ad31bb72d2079eee7cc8d0f59bb58c2108721fc28aec4e348c5aa993d3beeb", func := "bellwether/bellwetherlaw01.QuillChain", spec := "quillChain", apart := false, narrowed := true }
def QuillChainUptoSaid : Prop := quillChainUptoRow.holds Try.pinned (OpenSpec.upto quillChainSpec)

end Rows
end Go.Proofs.Ytecpgdbjemajjaa
