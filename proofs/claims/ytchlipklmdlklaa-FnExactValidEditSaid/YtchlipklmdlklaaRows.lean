/-
  No cell of these rows narrows 'for every input' (looked for: loops, veiled, ifaces, maps, wideKeys, modest, calm, conditions, laid).
  DERIVED. THE GIVEN ROWS OF THIS SEAT. 4 by the template 'for every input the law returns true; each argument reads behind the call as it read before'; 0 by the template 'total and deterministic' (their statements: YtchlipklmdlklaaTotals.lean).
  GIVEN WITH THE SEED: the statements are not yours to turn. If you find one false, say at which input.
  Laid BY PROGRAM, IN A SANDBOX (cutbox-rows.mjs): the forced cells as the released guide's own fill.sh prints them over the translation 83706e7687ab8a60… (all of the seat's roots in one cut). By AI agents, Wed Nov 11 2026. No macro, syntax, notation, axiom, sorry.
-/
import Derived.Test.YtchlipklmdlklaaChecked
import GoSem.Claim
import GoSem.ClaimJoined
import GoSem.ClaimMapViews
import Derived.JoinedTies
import Derived.KernelRfl
namespace Go.Proofs.Ytchlipklmdlklaa
/- THE CELL 'sum', in the pinned program and in every row, IS THE sha256 OF THE DUMP (.gsa) THAT YtchlipklmdlklaaProg.lean LOADS. Nothing in Lean hashes anything: it is a label: what it is worth is what the hold of that sum in a sandbox is worth. -/
noncomputable def Try.pinned : Pinned := { name := "ytchlipklmdlklaa", sum := "83706e7687ab8a60838b3292df60fe766b799c0bd47ce8d1fe0344275c008980", checked := Try.checked }
namespace Rows
def none {H : Type} : Left H := { results := [], args := [] }

/-- 'laws.FnExactEmbedFirst': WHATEVER THE INPUT: true; the input reads as it did. -/
def fnExactEmbedFirstSpec : ChangeSpec := { name := "fnExactEmbedFirst", fn := fun _ => fun
  | [d1, d2] => { results := [.lit (.bool true)], args := [d1, d2] }
  | _ => none }
def fnExactEmbedFirstRow : OpenClaim := { program := "ytchlipklmdlklaa", sum := "83706e7687ab8a60838b3292df60fe766b799c0bd47ce8d1fe0344275c008980", func := "loop.example/g01133/laws.FnExactEmbedFirst", spec := "fnExactEmbedFirst", unfollowed := true, recurses := true, plainKeys := false, apart := false }
def FnExactEmbedFirstSaid : Prop := fnExactEmbedFirstRow.holds Try.pinned (OpenSpec.ofChange fnExactEmbedFirstSpec)

/-- ITS FALSE NEIGHBOUR: 'it returns false'. Refute it at one input. -/
def fnExactEmbedFirstWrong : ChangeSpec := { name := "fnExactEmbedFirst", fn := fun _ => fun
  | [d1, d2] => { results := [.lit (.bool false)], args := [d1, d2] }
  | _ => none }
def FnExactEmbedFirstWrongFalsely : Prop := fnExactEmbedFirstRow.holds Try.pinned (OpenSpec.ofChange fnExactEmbedFirstWrong)

/-- 'laws.FnExactValidEdit': WHATEVER THE INPUT: true; the input reads as it did. -/
def fnExactValidEditSpec : ChangeSpec := { name := "fnExactValidEdit", fn := fun _ => fun
  | [d] => { results := [.lit (.bool true)], args := [d] }
  | _ => none }
def fnExactValidEditRow : OpenClaim := { program := "ytchlipklmdlklaa", sum := "83706e7687ab8a60838b3292df60fe766b799c0bd47ce8d1fe0344275c008980", func := "loop.example/g01133/laws.FnExactValidEdit", spec := "fnExactValidEdit", plainKeys := false, apart := false }
def FnExactValidEditSaid : Prop := fnExactValidEditRow.holds Try.pinned (OpenSpec.ofChange fnExactValidEditSpec)

/-- ITS FALSE NEIGHBOUR: 'it returns false'. Refute it at one input. -/
def fnExactValidEditWrong : ChangeSpec := { name := "fnExactValidEdit", fn := fun _ => fun
  | [d] => { results := [.lit (.bool false)], args := [d] }
  | _ => none }
def FnExactValidEditWrongFalsely : Prop := fnExactValidEditRow.holds Try.pinned (OpenSpec.ofChange fnExactValidEditWrong)

/-- 'laws.FnExactFactorsOf': WHATEVER THE INPUT: true; the input reads as it did. -/
def fnExactFactorsOfSpec : ChangeSpec := { name := "fnExactFactorsOf", fn := fun _ => fun
  | [d] => { results := [.lit (.bool true)], args := [d] }
  | _ => none }
def fnExactFactorsOfRow : OpenClaim := { program := "ytchlipklmdlklaa", sum := "83706e7687ab8a60838b3292df60fe766b799c0bd47ce8d1fe0344275c008980", func := "loop.example/g01133/laws.FnExactFactorsOf", spec := "fnExactFactorsOf", inPlace := ["internal/bytealg.IndexByteString", "internal/bytealg.IndexString"], named := ["internal/bytealg.MaxLen"], plainKeys := false, apart := false }
def FnExactFactorsOfSaid : Prop := fnExactFactorsOfRow.holds Try.pinned (OpenSpec.ofChange fnExactFactorsOfSpec)

/-- ITS FALSE NEIGHBOUR: 'it returns false'. Refute it at one input. -/
def fnExactFactorsOfWrong : ChangeSpec := { name := "fnExactFactorsOf", fn := fun _ => fun
  | [d] => { results := [.lit (.bool false)], args := [d] }
  | _ => none }
def FnExactFactorsOfWrongFalsely : Prop := fnExactFactorsOfRow.holds Try.pinned (OpenSpec.ofChange fnExactFactorsOfWrong)

/-- 'laws.FnExactTrimGrammar': WHATEVER THE INPUT: true; the input reads as it did. -/
def fnExactTrimGrammarSpec : ChangeSpec := { name := "fnExactTrimGrammar", fn := fun _ => fun
  | [d] => { results := [.lit (.bool true)], args := [d] }
  | _ => none }
def fnExactTrimGrammarRow : OpenClaim := { program := "ytchlipklmdlklaa", sum := "83706e7687ab8a60838b3292df60fe766b799c0bd47ce8d1fe0344275c008980", func := "loop.example/g01133/laws.FnExactTrimGrammar", spec := "fnExactTrimGrammar", plainKeys := false, apart := false }
def FnExactTrimGrammarSaid : Prop := fnExactTrimGrammarRow.holds Try.pinned (OpenSpec.ofChange fnExactTrimGrammarSpec)

/-- ITS FALSE NEIGHBOUR: 'it returns false'. Refute it at one input. -/
def fnExactTrimGrammarWrong : ChangeSpec := { name := "fnExactTrimGrammar", fn := fun _ => fun
  | [d] => { results := [.lit (.bool false)], args := [d] }
  | _ => none }
def FnExactTrimGrammarWrongFalsely : Prop := fnExactTrimGrammarRow.holds Try.pinned (OpenSpec.ofChange fnExactTrimGrammarWrong)

/- THE SECOND FORM. 'bulk': how many values and letters a reading holds, each counted each time it is reached (what is shared counts as often as it is met; a slice's spare places count too). A statement '..UptoSaid' is the law's where the arguments, and the package variables that the reading takes, are together of bulk at most 1048576: NARROWER than '..Said'. Prove '..Said' where nothing that the law and all that it calls make is longer than what came in: it says more and counts as full. Else prove '..UptoSaid'. A law counts once. -/
mutual
def uptoBulk {H : Type} : DataW H → Nat
  | .lit (.string bytes) => bytes.length + 1
  | .lit _ => 1
  | .nil => 1
  | .ptr d => uptoBulk d + 1
  | .slice elems spare => uptoBulkAll elems + uptoBulkAll spare + 1
  | .agg parts => uptoBulkAll parts + 1
  | .iface _ d => uptoBulk d + 1
  | .map entries => uptoBulkEntries entries + 1
  | .held _ => 1
def uptoBulkAll {H : Type} : List (DataW H) → Nat
  | [] => 0
  | d :: r => uptoBulk d + uptoBulkAll r
def uptoBulkEntries {H : Type} : List (Lit × DataW H) → Nat
  | [] => 0
  | x :: r => uptoBulkEntry x + uptoBulkEntries r
def uptoBulkEntry {H : Type} : Lit × DataW H → Nat
  | (.string bytes, d) => bytes.length + uptoBulk d + 1
  | (_, d) => uptoBulk d + 1
 end
def uptoSmall : (H : Type) → List (DataW H) → Bool := fun _ ds => decide (uptoBulkAll ds ≤ 1048576)
def OpenSpec.upto (s : _root_.Go.ChangeSpec) : _root_.Go.OpenSpec := { _root_.Go.OpenSpec.ofChange s with cond := some uptoSmall }

/-- 'laws.FnExactEmbedFirst', WHERE WHAT IT READS IS OF BULK AT MOST 1048576: true; the input reads as it did. -/
def fnExactEmbedFirstUptoRow : OpenClaim := { program := "ytchlipklmdlklaa", sum := "83706e7687ab8a60838b3292df60fe766b799c0bd47ce8d1fe0344275c008980", func := "loop.example/g01133/laws.FnExactEmbedFirst", spec := "fnExactEmbedFirst", unfollowed := true, recurses := true, plainKeys := false, apart := false, narrowed := true }
def FnExactEmbedFirstUptoSaid : Prop := fnExactEmbedFirstUptoRow.holds Try.pinned (OpenSpec.upto fnExactEmbedFirstSpec)

/-- 'laws.FnExactValidEdit', WHERE WHAT IT READS IS OF BULK AT MOST 1048576: true; the input reads as it did. -/
def fnExactValidEditUptoRow : OpenClaim := { program := "ytchlipklmdlklaa", sum := "83706e7687ab8a60838b3292df60fe766b799c0bd47ce8d1fe0344275c008980", func := "loop.example/g01133/laws.FnExactValidEdit", spec := "fnExactValidEdit", plainKeys := false, apart := false, narrowed := true }
def FnExactValidEditUptoSaid : Prop := fnExactValidEditUptoRow.holds Try.pinned (OpenSpec.upto fnExactValidEditSpec)

/-- 'laws.FnExactFactorsOf', WHERE WHAT IT READS IS OF BULK AT MOST 1048576: true; the input reads as it did. -/
def fnExactFactorsOfUptoRow : OpenClaim := { program := "ytchlipklmdlklaa", sum := "83706e7687ab8a60838b3292df60fe766b799c0bd47ce8d1fe0344275c008980", func := "loop.example/g01133/laws.FnExactFactorsOf", spec := "fnExactFactorsOf", inPlace := ["internal/bytealg.IndexByteString", "internal/bytealg.IndexString"], named := ["internal/bytealg.MaxLen"], plainKeys := false, apart := false, narrowed := true }
def FnExactFactorsOfUptoSaid : Prop := fnExactFactorsOfUptoRow.holds Try.pinned (OpenSpec.upto fnExactFactorsOfSpec)

/-- 'laws.FnExactTrimGrammar', WHERE WHAT IT READS IS OF BULK AT MOST 1048576: true; the input reads as it did. -/
def fnExactTrimGrammarUptoRow : OpenClaim := { program := "ytchlipklmdlklaa", sum := "83706e7687ab8a60838b3292df60fe766b799c0bd47ce8d1fe0344275c008980", func := "loop.example/g01133/laws.FnExactTrimGrammar", spec := "fnExactTrimGrammar", plainKeys := false, apart := false, narrowed := true }
def FnExactTrimGrammarUptoSaid : Prop := fnExactTrimGrammarUptoRow.holds Try.pinned (OpenSpec.upto fnExactTrimGrammarSpec)

end Rows
end Go.Proofs.Ytchlipklmdlklaa
