/-
  No cell of these rows narrows 'for every input' (looked for: loops, veiled, ifaces, maps, wideKeys, modest, calm, conditions, laid).
  DERIVED. THE GIVEN ROWS OF THIS SEAT. 6 by the template 'for every input the law returns true; each argument reads behind the call as it read before'; 0 by the template 'total and deterministic' (their statements: YtkknhpailohjcaaTotals.lean).
  GIVEN WITH THE SEED: the statements are not yours to turn. If you find one false, say at which input.
  Laid BY PROGRAM, IN A SANDBOX (cutbox-rows.mjs): the forced cells as the released guide's own fill.sh prints them over the translation f8f42a9f28c260bf… (all of the seat's roots in one cut). By AI agents, Wed Nov 11 2026. No macro, syntax, notation, axiom, sorry.
-/
import Derived.Test.YtkknhpailohjcaaChecked
import GoSem.Claim
import GoSem.ClaimJoined
import GoSem.ClaimMapViews
import Derived.JoinedTies
import Derived.KernelRfl
namespace Go.Proofs.Ytkknhpailohjcaa
/- THE CELL 'sum', in the pinned program and in every row, IS THE sha256 OF THE DUMP (.gsa) THAT YtkknhpailohjcaaProg.lean LOADS. Nothing in Lean hashes anything: it is a label: what it is worth is what the hold of that sum in a sandbox is worth. -/
noncomputable def Try.pinned : Pinned := { name := "ytkknhpailohjcaa", sum := "f8f42a9f28c260bff2b317a58df3d00b32e2b94769d36889cf5a9686a5880293", checked := Try.checked }
namespace Rows
def none {H : Type} : Left H := { results := [], args := [] }

/-- 'laws.FnExactLongestRuns': WHATEVER THE INPUT: true; the input reads as it did. -/
def fnExactLongestRunsSpec : ChangeSpec := { name := "fnExactLongestRuns", fn := fun _ => fun
  | [d] => { results := [.lit (.bool true)], args := [d] }
  | _ => none }
def fnExactLongestRunsRow : OpenClaim := { program := "ytkknhpailohjcaa", sum := "f8f42a9f28c260bff2b317a58df3d00b32e2b94769d36889cf5a9686a5880293", func := "loop.example/g01133/laws.FnExactLongestRuns", spec := "fnExactLongestRuns", unfollowed := true, recurses := true, plainKeys := false, apart := false }
def FnExactLongestRunsSaid : Prop := fnExactLongestRunsRow.holds Try.pinned (OpenSpec.ofChange fnExactLongestRunsSpec)

/-- ITS FALSE NEIGHBOUR: 'it returns false'. Refute it at one input. -/
def fnExactLongestRunsWrong : ChangeSpec := { name := "fnExactLongestRuns", fn := fun _ => fun
  | [d] => { results := [.lit (.bool false)], args := [d] }
  | _ => none }
def FnExactLongestRunsWrongFalsely : Prop := fnExactLongestRunsRow.holds Try.pinned (OpenSpec.ofChange fnExactLongestRunsWrong)

/-- 'laws.FnExactScatteredParts': WHATEVER THE INPUT: true; the input reads as it did. -/
def fnExactScatteredPartsSpec : ChangeSpec := { name := "fnExactScatteredParts", fn := fun _ => fun
  | [d1, d2, d3] => { results := [.lit (.bool true)], args := [d1, d2, d3] }
  | _ => none }
def fnExactScatteredPartsRow : OpenClaim := { program := "ytkknhpailohjcaa", sum := "f8f42a9f28c260bff2b317a58df3d00b32e2b94769d36889cf5a9686a5880293", func := "loop.example/g01133/laws.FnExactScatteredParts", spec := "fnExactScatteredParts", unfollowed := true, recurses := true, plainKeys := false, apart := false }
def FnExactScatteredPartsSaid : Prop := fnExactScatteredPartsRow.holds Try.pinned (OpenSpec.ofChange fnExactScatteredPartsSpec)

/-- ITS FALSE NEIGHBOUR: 'it returns false'. Refute it at one input. -/
def fnExactScatteredPartsWrong : ChangeSpec := { name := "fnExactScatteredParts", fn := fun _ => fun
  | [d1, d2, d3] => { results := [.lit (.bool false)], args := [d1, d2, d3] }
  | _ => none }
def FnExactScatteredPartsWrongFalsely : Prop := fnExactScatteredPartsRow.holds Try.pinned (OpenSpec.ofChange fnExactScatteredPartsWrong)

/-- 'laws.FnExactPrintOfPart': WHATEVER THE INPUT: true; the input reads as it did. -/
def fnExactPrintOfPartSpec : ChangeSpec := { name := "fnExactPrintOfPart", fn := fun _ => fun
  | [d1, d2, d3, d4, d5] => { results := [.lit (.bool true)], args := [d1, d2, d3, d4, d5] }
  | _ => none }
def fnExactPrintOfPartRow : OpenClaim := { program := "ytkknhpailohjcaa", sum := "f8f42a9f28c260bff2b317a58df3d00b32e2b94769d36889cf5a9686a5880293", func := "loop.example/g01133/laws.FnExactPrintOfPart", spec := "fnExactPrintOfPart", unfollowed := true, recurses := true, plainKeys := false, apart := false }
def FnExactPrintOfPartSaid : Prop := fnExactPrintOfPartRow.holds Try.pinned (OpenSpec.ofChange fnExactPrintOfPartSpec)

/-- ITS FALSE NEIGHBOUR: 'it returns false'. Refute it at one input. -/
def fnExactPrintOfPartWrong : ChangeSpec := { name := "fnExactPrintOfPart", fn := fun _ => fun
  | [d1, d2, d3, d4, d5] => { results := [.lit (.bool false)], args := [d1, d2, d3, d4, d5] }
  | _ => none }
def FnExactPrintOfPartWrongFalsely : Prop := fnExactPrintOfPartRow.holds Try.pinned (OpenSpec.ofChange fnExactPrintOfPartWrong)

/-- 'laws.FnExactTrimGrammar': WHATEVER THE INPUT: true; the input reads as it did. -/
def fnExactTrimGrammarSpec : ChangeSpec := { name := "fnExactTrimGrammar", fn := fun _ => fun
  | [d] => { results := [.lit (.bool true)], args := [d] }
  | _ => none }
def fnExactTrimGrammarRow : OpenClaim := { program := "ytkknhpailohjcaa", sum := "f8f42a9f28c260bff2b317a58df3d00b32e2b94769d36889cf5a9686a5880293", func := "loop.example/g01133/laws.FnExactTrimGrammar", spec := "fnExactTrimGrammar", plainKeys := false, apart := false }
def FnExactTrimGrammarSaid : Prop := fnExactTrimGrammarRow.holds Try.pinned (OpenSpec.ofChange fnExactTrimGrammarSpec)

/-- ITS FALSE NEIGHBOUR: 'it returns false'. Refute it at one input. -/
def fnExactTrimGrammarWrong : ChangeSpec := { name := "fnExactTrimGrammar", fn := fun _ => fun
  | [d] => { results := [.lit (.bool false)], args := [d] }
  | _ => none }
def FnExactTrimGrammarWrongFalsely : Prop := fnExactTrimGrammarRow.holds Try.pinned (OpenSpec.ofChange fnExactTrimGrammarWrong)

/-- 'laws.FnExactPlainGrammar': WHATEVER THE INPUT: true; the input reads as it did. -/
def fnExactPlainGrammarSpec : ChangeSpec := { name := "fnExactPlainGrammar", fn := fun _ => fun
  | [d] => { results := [.lit (.bool true)], args := [d] }
  | _ => none }
def fnExactPlainGrammarRow : OpenClaim := { program := "ytkknhpailohjcaa", sum := "f8f42a9f28c260bff2b317a58df3d00b32e2b94769d36889cf5a9686a5880293", func := "loop.example/g01133/laws.FnExactPlainGrammar", spec := "fnExactPlainGrammar", inPlace := ["internal/bytealg.IndexByteString"], unfollowed := true, recurses := true, plainKeys := false, apart := false }
def FnExactPlainGrammarSaid : Prop := fnExactPlainGrammarRow.holds Try.pinned (OpenSpec.ofChange fnExactPlainGrammarSpec)

/-- ITS FALSE NEIGHBOUR: 'it returns false'. Refute it at one input. -/
def fnExactPlainGrammarWrong : ChangeSpec := { name := "fnExactPlainGrammar", fn := fun _ => fun
  | [d] => { results := [.lit (.bool false)], args := [d] }
  | _ => none }
def FnExactPlainGrammarWrongFalsely : Prop := fnExactPlainGrammarRow.holds Try.pinned (OpenSpec.ofChange fnExactPlainGrammarWrong)

/-- 'laws.FnExactMapLetters': WHATEVER THE INPUT: true; the input reads as it did. -/
def fnExactMapLettersSpec : ChangeSpec := { name := "fnExactMapLetters", fn := fun _ => fun
  | [d1, d2] => { results := [.lit (.bool true)], args := [d1, d2] }
  | _ => none }
def fnExactMapLettersRow : OpenClaim := { program := "ytkknhpailohjcaa", sum := "f8f42a9f28c260bff2b317a58df3d00b32e2b94769d36889cf5a9686a5880293", func := "loop.example/g01133/laws.FnExactMapLetters", spec := "fnExactMapLetters", inPlace := ["internal/bytealg.IndexByteString"], unfollowed := true, recurses := true, plainKeys := false, apart := false }
def FnExactMapLettersSaid : Prop := fnExactMapLettersRow.holds Try.pinned (OpenSpec.ofChange fnExactMapLettersSpec)

/-- ITS FALSE NEIGHBOUR: 'it returns false'. Refute it at one input. -/
def fnExactMapLettersWrong : ChangeSpec := { name := "fnExactMapLetters", fn := fun _ => fun
  | [d1, d2] => { results := [.lit (.bool false)], args := [d1, d2] }
  | _ => none }
def FnExactMapLettersWrongFalsely : Prop := fnExactMapLettersRow.holds Try.pinned (OpenSpec.ofChange fnExactMapLettersWrong)

/- THE SECOND FORM. 'bulk': how many values and letters a reading holds, each counted each time it is reached (what is shared counts as often as it is met; a slice's spare places count too). A statement '..UptoSaid' is the law's where the arguments, and the package variables that the reading takes, are together of bulk at most 1048576: NARROWER than '..Said'. Prove '..Said' where nothing that the law and all that it calls make is longer than what came in: it says more and counts as full. Else prove '..UptoSaid'. A law counts once. -/
mutual
def uptoBulk {H : Type} : DataW H → Nat
  | .lit (.string bytes) => bytes.length + 1
  | .lit _ => 1
  | .nil => 1
  | .ptr d => uptoBulk d + 1
  | .slice elems spare => uptoBulkAll elems + uptoBulkAll spare + 1
  | .agg parts => uptoBulkAll parts + 1
  | .iface _ d => uptoBulk d + 1
  | .map entries => uptoBulkEntries entries + 1
  | .held _ => 1
def uptoBulkAll {H : Type} : List (DataW H) → Nat
  | [] => 0
  | d :: r => uptoBulk d + uptoBulkAll r
def uptoBulkEntries {H : Type} : List (Lit × DataW H) → Nat
  | [] => 0
  | x :: r => uptoBulkEntry x + uptoBulkEntries r
def uptoBulkEntry {H : Type} : Lit × DataW H → Nat
  | (.string bytes, d) => bytes.length + uptoBulk d + 1
  | (_, d) => uptoBulk d + 1
 end
def uptoSmall : (H : Type) → List (DataW H) → Bool := fun _ ds => decide (uptoBulkAll ds ≤ 1048576)
def OpenSpec.upto (s : _root_.Go.ChangeSpec) : _root_.Go.OpenSpec := { _root_.Go.OpenSpec.ofChange s with cond := some uptoSmall }

/-- 'laws.FnExactLongestRuns', WHERE WHAT IT READS IS OF BULK AT MOST 1048576: true; the input reads as it did. -/
def fnExactLongestRunsUptoRow : OpenClaim := { program := "ytkknhpailohjcaa", sum := "f8f42a9f28c260bff2b317a58df3d00b32e2b94769d36889cf5a9686a5880293", func := "loop.example/g01133/laws.FnExactLongestRuns", spec := "fnExactLongestRuns", unfollowed := true, recurses := true, plainKeys := false, apart := false, narrowed := true }
def FnExactLongestRunsUptoSaid : Prop := fnExactLongestRunsUptoRow.holds Try.pinned (OpenSpec.upto fnExactLongestRunsSpec)

/-- 'laws.FnExactScatteredParts', WHERE WHAT IT READS IS OF BULK AT MOST 1048576: true; the input reads as it did. -/
def fnExactScatteredPartsUptoRow : OpenClaim := { program := "ytkknhpailohjcaa", sum := "f8f42a9f28c260bff2b317a58df3d00b32e2b94769d36889cf5a9686a5880293", func := "loop.example/g01133/laws.FnExactScatteredParts", spec := "fnExactScatteredParts", unfollowed := true, recurses := true, plainKeys := false, apart := false, narrowed := true }
def FnExactScatteredPartsUptoSaid : Prop := fnExactScatteredPartsUptoRow.holds Try.pinned (OpenSpec.upto fnExactScatteredPartsSpec)

/-- 'laws.FnExactPrintOfPart', WHERE WHAT IT READS IS OF BULK AT MOST 1048576: true; the input reads as it did. -/
def fnExactPrintOfPartUptoRow : OpenClaim := { program := "ytkknhpailohjcaa", sum := "f8f42a9f28c260bff2b317a58df3d00b32e2b94769d36889cf5a9686a5880293", func := "loop.example/g01133/laws.FnExactPrintOfPart", spec := "fnExactPrintOfPart", unfollowed := true, recurses := true, plainKeys := false, apart := false, narrowed := true }
def FnExactPrintOfPartUptoSaid : Prop := fnExactPrintOfPartUptoRow.holds Try.pinned (OpenSpec.upto fnExactPrintOfPartSpec)

/-- 'laws.FnExactTrimGrammar', WHERE WHAT IT READS IS OF BULK AT MOST 1048576: true; the input reads as it did. -/
def fnExactTrimGrammarUptoRow : OpenClaim := { program := "ytkknhpailohjcaa", sum := "f8f42a9f28c260bff2b317a58df3d00b32e2b94769d36889cf5a9686a5880293", func := "loop.example/g01133/laws.FnExactTrimGrammar", spec := "fnExactTrimGrammar", plainKeys := false, apart := false, narrowed := true }
def FnExactTrimGrammarUptoSaid : Prop := fnExactTrimGrammarUptoRow.holds Try.pinned (OpenSpec.upto fnExactTrimGrammarSpec)

/-- 'laws.FnExactPlainGrammar', WHERE WHAT IT READS IS OF BULK AT MOST 1048576: true; the input reads as it did. -/
def fnExactPlainGrammarUptoRow : OpenClaim := { program := "ytkknhpailohjcaa", sum := "f8f42a9f28c260bff2b317a58df3d00b32e2b94769d36889cf5a9686a5880293", func := "loop.example/g01133/laws.FnExactPlainGrammar", spec := "fnExactPlainGrammar", inPlace := ["internal/bytealg.IndexByteString"], unfollowed := true, recurses := true, plainKeys := false, apart := false, narrowed := true }
def FnExactPlainGrammarUptoSaid : Prop := fnExactPlainGrammarUptoRow.holds Try.pinned (OpenSpec.upto fnExactPlainGrammarSpec)

/-- 'laws.FnExactMapLetters', WHERE WHAT IT READS IS OF BULK AT MOST 1048576: true; the input reads as it did. -/
def fnExactMapLettersUptoRow : OpenClaim := { program := "ytkknhpailohjcaa", sum := "f8f42a9f28c260bff2b317a58df3d00b32e2b94769d36889cf5a9686a5880293", func := "loop.example/g01133/laws.FnExactMapLetters", spec := "fnExactMapLetters", inPlace := ["internal/bytealg.IndexByteString"], unfollowed := true, recurses := true, plainKeys := false, apart := false, narrowed := true }
def FnExactMapLettersUptoSaid : Prop := fnExactMapLettersUptoRow.holds Try.pinned (OpenSpec.upto fnExactMapLettersSpec)

end Rows
end Go.Proofs.Ytkknhpailohjcaa
