/-
  No cell of these rows narrows 'for every input' (looked for: loops, veiled, ifaces, maps, wideKeys, modest, calm, conditions, laid).
  DERIVED. THE GIVEN ROWS OF THIS SEAT. 4 by the template 'for every input the law returns true; each argument reads behind the call as it read before'; 0 by the template 'total and deterministic' (their statements: YtikhjoianbndhaaTotals.lean).
  GIVEN WITH THE SEED: the statements are not yours to turn. If you find one false, say at which input.
  Laid BY PROGRAM, IN A SANDBOX (cutbox-rows.mjs): the forced cells as the released guide's own fill.sh prints them over the translation 1099920570b0d4d9… (all of the seat's roots in one cut). By AI agents, Wed Nov 11 2026. No macro, syntax, notation, axiom, sorry.
-/
import Derived.Test.YtikhjoianbndhaaChecked
import GoSem.Claim
import GoSem.ClaimJoined
import GoSem.ClaimMapViews
import Derived.JoinedTies
import Derived.KernelRfl
namespace Go.Proofs.Ytikhjoianbndhaa
/- THE CELL 'sum', in the pinned program and in every row, IS THE sha256 OF THE DUMP (.gsa) THAT YtikhjoianbndhaaProg.lean LOADS. Nothing in Lean hashes anything: it is a label: what it is worth is what the hold of that sum in a sandbox is worth. -/
noncomputable def Try.pinned : Pinned := { name := "ytikhjoianbndhaa", sum := "1099920570b0d4d90c69b8fff723dda6c089d048b28e3e95871fc56f0ffc36e6", checked := Try.checked }
namespace Rows
def none {H : Type} : Left H := { results := [], args := [] }

/-- 'laws.FnExactPhraseGrammar': WHATEVER THE INPUT: true; the input reads as it did. -/
def fnExactPhraseGrammarSpec : ChangeSpec := { name := "fnExactPhraseGrammar", fn := fun _ => fun
  | [d] => { results := [.lit (.bool true)], args := [d] }
  | _ => none }
def fnExactPhraseGrammarRow : OpenClaim := { program := "ytikhjoianbndhaa", sum := "1099920570b0d4d90c69b8fff723dda6c089d048b28e3e95871fc56f0ffc36e6", func := "loop.example/g01133/laws.FnExactPhraseGrammar", spec := "fnExactPhraseGrammar", inPlace := ["internal/bytealg.IndexByteString"], plainKeys := false, apart := false }
def FnExactPhraseGrammarSaid : Prop := fnExactPhraseGrammarRow.holds Try.pinned (OpenSpec.ofChange fnExactPhraseGrammarSpec)

/-- ITS FALSE NEIGHBOUR: 'it returns false'. Refute it at one input. -/
def fnExactPhraseGrammarWrong : ChangeSpec := { name := "fnExactPhraseGrammar", fn := fun _ => fun
  | [d] => { results := [.lit (.bool false)], args := [d] }
  | _ => none }
def FnExactPhraseGrammarWrongFalsely : Prop := fnExactPhraseGrammarRow.holds Try.pinned (OpenSpec.ofChange fnExactPhraseGrammarWrong)

/-- 'laws.FnExactPairsGrammar': WHATEVER THE INPUT: true; the input reads as it did. -/
def fnExactPairsGrammarSpec : ChangeSpec := { name := "fnExactPairsGrammar", fn := fun _ => fun
  | [d] => { results := [.lit (.bool true)], args := [d] }
  | _ => none }
def fnExactPairsGrammarRow : OpenClaim := { program := "ytikhjoianbndhaa", sum := "1099920570b0d4d90c69b8fff723dda6c089d048b28e3e95871fc56f0ffc36e6", func := "loop.example/g01133/laws.FnExactPairsGrammar", spec := "fnExactPairsGrammar", inPlace := ["internal/bytealg.IndexByteString"], plainKeys := false, apart := false }
def FnExactPairsGrammarSaid : Prop := fnExactPairsGrammarRow.holds Try.pinned (OpenSpec.ofChange fnExactPairsGrammarSpec)

/-- ITS FALSE NEIGHBOUR: 'it returns false'. Refute it at one input. -/
def fnExactPairsGrammarWrong : ChangeSpec := { name := "fnExactPairsGrammar", fn := fun _ => fun
  | [d] => { results := [.lit (.bool false)], args := [d] }
  | _ => none }
def FnExactPairsGrammarWrongFalsely : Prop := fnExactPairsGrammarRow.holds Try.pinned (OpenSpec.ofChange fnExactPairsGrammarWrong)

/-- 'laws.FnExactHalvingGrammar': WHATEVER THE INPUT: true; the input reads as it did. -/
def fnExactHalvingGrammarSpec : ChangeSpec := { name := "fnExactHalvingGrammar", fn := fun _ => fun
  | [d] => { results := [.lit (.bool true)], args := [d] }
  | _ => none }
def fnExactHalvingGrammarRow : OpenClaim := { program := "ytikhjoianbndhaa", sum := "1099920570b0d4d90c69b8fff723dda6c089d048b28e3e95871fc56f0ffc36e6", func := "loop.example/g01133/laws.FnExactHalvingGrammar", spec := "fnExactHalvingGrammar", unfollowed := true, recurses := true, plainKeys := false, apart := false }
def FnExactHalvingGrammarSaid : Prop := fnExactHalvingGrammarRow.holds Try.pinned (OpenSpec.ofChange fnExactHalvingGrammarSpec)

/-- ITS FALSE NEIGHBOUR: 'it returns false'. Refute it at one input. -/
def fnExactHalvingGrammarWrong : ChangeSpec := { name := "fnExactHalvingGrammar", fn := fun _ => fun
  | [d] => { results := [.lit (.bool false)], args := [d] }
  | _ => none }
def FnExactHalvingGrammarWrongFalsely : Prop := fnExactHalvingGrammarRow.holds Try.pinned (OpenSpec.ofChange fnExactHalvingGrammarWrong)

/-- 'laws.FnExactLevelGrammar': WHATEVER THE INPUT: true; the input reads as it did. -/
def fnExactLevelGrammarSpec : ChangeSpec := { name := "fnExactLevelGrammar", fn := fun _ => fun
  | [d] => { results := [.lit (.bool true)], args := [d] }
  | _ => none }
def fnExactLevelGrammarRow : OpenClaim := { program := "ytikhjoianbndhaa", sum := "1099920570b0d4d90c69b8fff723dda6c089d048b28e3e95871fc56f0ffc36e6", func := "loop.example/g01133/laws.FnExactLevelGrammar", spec := "fnExactLevelGrammar", recurses := true, plainKeys := false, apart := false }
def FnExactLevelGrammarSaid : Prop := fnExactLevelGrammarRow.holds Try.pinned (OpenSpec.ofChange fnExactLevelGrammarSpec)

/-- ITS FALSE NEIGHBOUR: 'it returns false'. Refute it at one input. -/
def fnExactLevelGrammarWrong : ChangeSpec := { name := "fnExactLevelGrammar", fn := fun _ => fun
  | [d] => { results := [.lit (.bool false)], args := [d] }
  | _ => none }
def FnExactLevelGrammarWrongFalsely : Prop := fnExactLevelGrammarRow.holds Try.pinned (OpenSpec.ofChange fnExactLevelGrammarWrong)

/- THE SECOND FORM. 'bulk': how many values and letters a reading holds, each counted each time it is reached (what is shared counts as often as it is met; a slice's spare places count too). A statement '..UptoSaid' is the law's where the arguments, and the package variables that the reading takes, are together of bulk at most 1048576: NARROWER than '..Said'. Prove '..Said' where nothing that the law and all that it calls make is longer than what came in: it says more and counts as full. Else prove '..UptoSaid'. A law counts once. -/
mutual
def uptoBulk {H : Type} : DataW H → Nat
  | .lit (.string bytes) => bytes.length + 1
  | .lit _ => 1
  | .nil => 1
  | .ptr d => uptoBulk d + 1
  | .slice elems spare => uptoBulkAll elems + uptoBulkAll spare + 1
  | .agg parts => uptoBulkAll parts + 1
  | .iface _ d => uptoBulk d + 1
  | .map entries => uptoBulkEntries entries + 1
  | .held _ => 1
def uptoBulkAll {H : Type} : List (DataW H) → Nat
  | [] => 0
  | d :: r => uptoBulk d + uptoBulkAll r
def uptoBulkEntries {H : Type} : List (Lit × DataW H) → Nat
  | [] => 0
  | x :: r => uptoBulkEntry x + uptoBulkEntries r
def uptoBulkEntry {H : Type} : Lit × DataW H → Nat
  | (.string bytes, d) => bytes.length + uptoBulk d + 1
  | (_, d) => uptoBulk d + 1
 end
def uptoSmall : (H : Type) → List (DataW H) → Bool := fun _ ds => decide (uptoBulkAll ds ≤ 1048576)
def OpenSpec.upto (s : _root_.Go.ChangeSpec) : _root_.Go.OpenSpec := { _root_.Go.OpenSpec.ofChange s with cond := some uptoSmall }

/-- 'laws.FnExactPhraseGrammar', WHERE WHAT IT READS IS OF BULK AT MOST 1048576: true; the input reads as it did. -/
def fnExactPhraseGrammarUptoRow : OpenClaim := { program := "ytikhjoianbndhaa", sum := "1099920570b0d4d90c69b8fff723dda6c089d048b28e3e95871fc56f0ffc36e6", func := "loop.example/g01133/laws.FnExactPhraseGrammar", spec := "fnExactPhraseGrammar", inPlace := ["internal/bytealg.IndexByteString"], plainKeys := false, apart := false, narrowed := true }
def FnExactPhraseGrammarUptoSaid : Prop := fnExactPhraseGrammarUptoRow.holds Try.pinned (OpenSpec.upto fnExactPhraseGrammarSpec)

/-- 'laws.FnExactPairsGrammar', WHERE WHAT IT READS IS OF BULK AT MOST 1048576: true; the input reads as it did. -/
def fnExactPairsGrammarUptoRow : OpenClaim := { program := "ytikhjoianbndhaa", sum := "1099920570b0d4d90c69b8fff723dda6c089d048b28e3e95871fc56f0ffc36e6", func := "loop.example/g01133/laws.FnExactPairsGrammar", spec := "fnExactPairsGrammar", inPlace := ["internal/bytealg.IndexByteString"], plainKeys := false, apart := false, narrowed := true }
def FnExactPairsGrammarUptoSaid : Prop := fnExactPairsGrammarUptoRow.holds Try.pinned (OpenSpec.upto fnExactPairsGrammarSpec)

/-- 'laws.FnExactHalvingGrammar', WHERE WHAT IT READS IS OF BULK AT MOST 1048576: true; the input reads as it did. -/
def fnExactHalvingGrammarUptoRow : OpenClaim := { program := "ytikhjoianbndhaa", sum := "1099920570b0d4d90c69b8fff723dda6c089d048b28e3e95871fc56f0ffc36e6", func := "loop.example/g01133/laws.FnExactHalvingGrammar", spec := "fnExactHalvingGrammar", unfollowed := true, recurses := true, plainKeys := false, apart := false, narrowed := true }
def FnExactHalvingGrammarUptoSaid : Prop := fnExactHalvingGrammarUptoRow.holds Try.pinned (OpenSpec.upto fnExactHalvingGrammarSpec)

/-- 'laws.FnExactLevelGrammar', WHERE WHAT IT READS IS OF BULK AT MOST 1048576: true; the input reads as it did. -/
def fnExactLevelGrammarUptoRow : OpenClaim := { program := "ytikhjoianbndhaa", sum := "1099920570b0d4d90c69b8fff723dda6c089d048b28e3e95871fc56f0ffc36e6", func := "loop.example/g01133/laws.FnExactLevelGrammar", spec := "fnExactLevelGrammar", recurses := true, plainKeys := false, apart := false, narrowed := true }
def FnExactLevelGrammarUptoSaid : Prop := fnExactLevelGrammarUptoRow.holds Try.pinned (OpenSpec.upto fnExactLevelGrammarSpec)

end Rows
end Go.Proofs.Ytikhjoianbndhaa
