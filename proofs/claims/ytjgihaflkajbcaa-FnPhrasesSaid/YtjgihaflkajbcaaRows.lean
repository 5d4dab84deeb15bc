/-
  No cell of these rows narrows 'for every input' (looked for: loops, veiled, ifaces, maps, wideKeys, modest, calm, conditions, laid).
  DERIVED. THE GIVEN ROWS OF THIS SEAT. 7 by the template 'for every input the law returns true; each argument reads behind the call as it read before'; 0 by the template 'total and deterministic' (their statements: YtjgihaflkajbcaaTotals.lean).
  GIVEN WITH THE SEED: the statements are not yours to turn. If you find one false, say at which input.
  Laid BY PROGRAM, IN A SANDBOX (cutbox-rows.mjs): the forced cells as the released guide's own fill.sh prints them over the translation 537aea3793591ecf… (all of the seat's roots in one cut). By AI agents, Wed Nov 11 2026. No macro, syntax, notation, axiom, sorry.
-/
import Derived.Test.YtjgihaflkajbcaaChecked
import GoSem.Claim
import GoSem.ClaimJoined
import GoSem.ClaimMapViews
import Derived.JoinedTies
import Derived.KernelRfl
namespace Go.Proofs.Ytjgihaflkajbcaa
/- THE CELL 'sum', in the pinned program and in every row, IS THE sha256 OF THE DUMP (.gsa) THAT YtjgihaflkajbcaaProg.lean LOADS. Nothing in Lean hashes anything: it is a label: what it is worth is what the hold of that sum in a sandbox is worth. -/
noncomputable def Try.pinned : Pinned := { name := "ytjgihaflkajbcaa", sum := "537aea3793591ecf60183362ec4c94d172ca7fb94b30491667ff61bbd6fcdbc7", checked := Try.checked }
namespace Rows
def none {H : Type} : Left H := { results := [], args := [] }

/-- 'laws.FnPhrases': WHATEVER THE INPUT: true; the input reads as it did. -/
def fnPhrasesSpec : ChangeSpec := { name := "fnPhrases", fn := fun _ => fun
  | [d1, d2] => { results := [.lit (.bool true)], args := [d1, d2] }
  | _ => none }
def fnPhrasesRow : OpenClaim := { program := "ytjgihaflkajbcaa", sum := "537aea3793591ecf60183362ec4c94d172ca7fb94b30491667ff61bbd6fcdbc7", func := "loop.example/g01133/laws.FnPhrases", spec := "fnPhrases", apart := false }
def FnPhrasesSaid : Prop := fnPhrasesRow.holds Try.pinned (OpenSpec.ofChange fnPhrasesSpec)

/-- ITS FALSE NEIGHBOUR: 'it returns false'. Refute it at one input. -/
def fnPhrasesWrong : ChangeSpec := { name := "fnPhrases", fn := fun _ => fun
  | [d1, d2] => { results := [.lit (.bool false)], args := [d1, d2] }
  | _ => none }
def FnPhrasesWrongFalsely : Prop := fnPhrasesRow.holds Try.pinned (OpenSpec.ofChange fnPhrasesWrong)

/-- 'laws.FnExactSameFactors': WHATEVER THE INPUT: true; the input reads as it did. -/
def fnExactSameFactorsSpec : ChangeSpec := { name := "fnExactSameFactors", fn := fun _ => fun
  | [d1, d2] => { results := [.lit (.bool true)], args := [d1, d2] }
  | _ => none }
def fnExactSameFactorsRow : OpenClaim := { program := "ytjgihaflkajbcaa", sum := "537aea3793591ecf60183362ec4c94d172ca7fb94b30491667ff61bbd6fcdbc7", func := "loop.example/g01133/laws.FnExactSameFactors", spec := "fnExactSameFactors", apart := false }
def FnExactSameFactorsSaid : Prop := fnExactSameFactorsRow.holds Try.pinned (OpenSpec.ofChange fnExactSameFactorsSpec)

/-- ITS FALSE NEIGHBOUR: 'it returns false'. Refute it at one input. -/
def fnExactSameFactorsWrong : ChangeSpec := { name := "fnExactSameFactors", fn := fun _ => fun
  | [d1, d2] => { results := [.lit (.bool false)], args := [d1, d2] }
  | _ => none }
def FnExactSameFactorsWrongFalsely : Prop := fnExactSameFactorsRow.holds Try.pinned (OpenSpec.ofChange fnExactSameFactorsWrong)

/-- 'laws.FnExactPhrasesOf': WHATEVER THE INPUT: true; the input reads as it did. -/
def fnExactPhrasesOfSpec : ChangeSpec := { name := "fnExactPhrasesOf", fn := fun _ => fun
  | [d] => { results := [.lit (.bool true)], args := [d] }
  | _ => none }
def fnExactPhrasesOfRow : OpenClaim := { program := "ytjgihaflkajbcaa", sum := "537aea3793591ecf60183362ec4c94d172ca7fb94b30491667ff61bbd6fcdbc7", func := "loop.example/g01133/laws.FnExactPhrasesOf", spec := "fnExactPhrasesOf", apart := false }
def FnExactPhrasesOfSaid : Prop := fnExactPhrasesOfRow.holds Try.pinned (OpenSpec.ofChange fnExactPhrasesOfSpec)

/-- ITS FALSE NEIGHBOUR: 'it returns false'. Refute it at one input. -/
def fnExactPhrasesOfWrong : ChangeSpec := { name := "fnExactPhrasesOf", fn := fun _ => fun
  | [d] => { results := [.lit (.bool false)], args := [d] }
  | _ => none }
def FnExactPhrasesOfWrongFalsely : Prop := fnExactPhrasesOfRow.holds Try.pinned (OpenSpec.ofChange fnExactPhrasesOfWrong)

/-- 'laws.FnExactValidFactors': WHATEVER THE INPUT: true; the input reads as it did. -/
def fnExactValidFactorsSpec : ChangeSpec := { name := "fnExactValidFactors", fn := fun _ => fun
  | [d] => { results := [.lit (.bool true)], args := [d] }
  | _ => none }
def fnExactValidFactorsRow : OpenClaim := { program := "ytjgihaflkajbcaa", sum := "537aea3793591ecf60183362ec4c94d172ca7fb94b30491667ff61bbd6fcdbc7", func := "loop.example/g01133/laws.FnExactValidFactors", spec := "fnExactValidFactors", apart := false }
def FnExactValidFactorsSaid : Prop := fnExactValidFactorsRow.holds Try.pinned (OpenSpec.ofChange fnExactValidFactorsSpec)

/-- ITS FALSE NEIGHBOUR: 'it returns false'. Refute it at one input. -/
def fnExactValidFactorsWrong : ChangeSpec := { name := "fnExactValidFactors", fn := fun _ => fun
  | [d] => { results := [.lit (.bool false)], args := [d] }
  | _ => none }
def FnExactValidFactorsWrongFalsely : Prop := fnExactValidFactorsRow.holds Try.pinned (OpenSpec.ofChange fnExactValidFactorsWrong)

/-- 'laws.FnExactFactorsLength': WHATEVER THE INPUT: true; the input reads as it did. -/
def fnExactFactorsLengthSpec : ChangeSpec := { name := "fnExactFactorsLength", fn := fun _ => fun
  | [d] => { results := [.lit (.bool true)], args := [d] }
  | _ => none }
def fnExactFactorsLengthRow : OpenClaim := { program := "ytjgihaflkajbcaa", sum := "537aea3793591ecf60183362ec4c94d172ca7fb94b30491667ff61bbd6fcdbc7", func := "loop.example/g01133/laws.FnExactFactorsLength", spec := "fnExactFactorsLength", apart := false }
def FnExactFactorsLengthSaid : Prop := fnExactFactorsLengthRow.holds Try.pinned (OpenSpec.ofChange fnExactFactorsLengthSpec)

/-- ITS FALSE NEIGHBOUR: 'it returns false'. Refute it at one input. -/
def fnExactFactorsLengthWrong : ChangeSpec := { name := "fnExactFactorsLength", fn := fun _ => fun
  | [d] => { results := [.lit (.bool false)], args := [d] }
  | _ => none }
def FnExactFactorsLengthWrongFalsely : Prop := fnExactFactorsLengthRow.holds Try.pinned (OpenSpec.ofChange fnExactFactorsLengthWrong)

/-- 'laws.FnExactWordOfFactors': WHATEVER THE INPUT: true; the input reads as it did. -/
def fnExactWordOfFactorsSpec : ChangeSpec := { name := "fnExactWordOfFactors", fn := fun _ => fun
  | [d] => { results := [.lit (.bool true)], args := [d] }
  | _ => none }
def fnExactWordOfFactorsRow : OpenClaim := { program := "ytjgihaflkajbcaa", sum := "537aea3793591ecf60183362ec4c94d172ca7fb94b30491667ff61bbd6fcdbc7", func := "loop.example/g01133/laws.FnExactWordOfFactors", spec := "fnExactWordOfFactors", apart := false }
def FnExactWordOfFactorsSaid : Prop := fnExactWordOfFactorsRow.holds Try.pinned (OpenSpec.ofChange fnExactWordOfFactorsSpec)

/-- ITS FALSE NEIGHBOUR: 'it returns false'. Refute it at one input. -/
def fnExactWordOfFactorsWrong : ChangeSpec := { name := "fnExactWordOfFactors", fn := fun _ => fun
  | [d] => { results := [.lit (.bool false)], args := [d] }
  | _ => none }
def FnExactWordOfFactorsWrongFalsely : Prop := fnExactWordOfFactorsRow.holds Try.pinned (OpenSpec.ofChange fnExactWordOfFactorsWrong)

/-- 'laws.FnExactHalvingGrammar': WHATEVER THE INPUT: true; the input reads as it did. -/
def fnExactHalvingGrammarSpec : ChangeSpec := { name := "fnExactHalvingGrammar", fn := fun _ => fun
  | [d] => { results := [.lit (.bool true)], args := [d] }
  | _ => none }
def fnExactHalvingGrammarRow : OpenClaim := { program := "ytjgihaflkajbcaa", sum := "537aea3793591ecf60183362ec4c94d172ca7fb94b30491667ff61bbd6fcdbc7", func := "loop.example/g01133/laws.FnExactHalvingGrammar", spec := "fnExactHalvingGrammar", unfollowed := true, recurses := true, apart := false }
def FnExactHalvingGrammarSaid : Prop := fnExactHalvingGrammarRow.holds Try.pinned (OpenSpec.ofChange fnExactHalvingGrammarSpec)

/-- ITS FALSE NEIGHBOUR: 'it returns false'. Refute it at one input. -/
def fnExactHalvingGrammarWrong : ChangeSpec := { name := "fnExactHalvingGrammar", fn := fun _ => fun
  | [d] => { results := [.lit (.bool false)], args := [d] }
  | _ => none }
def FnExactHalvingGrammarWrongFalsely : Prop := fnExactHalvingGrammarRow.holds Try.pinned (OpenSpec.ofChange fnExactHalvingGrammarWrong)

/- THE SECOND FORM. 'bulk': how many values and letters a reading holds, each counted each time it is reached (what is shared counts as often as it is met; a slice's spare places count too). A statement '..UptoSaid' is the law's where the arguments, and the package variables that the reading takes, are together of bulk at most 1048576: NARROWER than '..Said'. Prove '..Said' where nothing that the law and all that it calls make is longer than what came in: it says more and counts as full. Else prove '..UptoSaid'. A law counts once. -/
mutual
def uptoBulk {H : Type} : DataW H → Nat
  | .lit (.string bytes) => bytes.length + 1
  | .lit _ => 1
  | .nil => 1
  | .ptr d => uptoBulk d + 1
  | .slice elems spare => uptoBulkAll elems + uptoBulkAll spare + 1
  | .agg parts => uptoBulkAll parts + 1
  | .iface _ d => uptoBulk d + 1
  | .map entries => uptoBulkEntries entries + 1
  | .held _ => 1
def uptoBulkAll {H : Type} : List (DataW H) → Nat
  | [] => 0
  | d :: r => uptoBulk d + uptoBulkAll r
def uptoBulkEntries {H : Type} : List (Lit × DataW H) → Nat
  | [] => 0
  | x :: r => uptoBulkEntry x + uptoBulkEntries r
def uptoBulkEntry {H : Type} : Lit × DataW H → Nat
  | (.string bytes, d) => bytes.length + uptoBulk d + 1
  | (_, d) => uptoBulk d + 1
 end
def uptoSmall : (H : Type) → List (DataW H) → Bool := fun _ ds => decide (uptoBulkAll ds ≤ 1048576)
def OpenSpec.upto (s : _root_.Go.ChangeSpec) : _root_.Go.OpenSpec := { _root_.Go.OpenSpec.ofChange s with cond := some uptoSmall }

/-- 'laws.FnPhrases', WHERE WHAT IT READS IS OF BULK AT MOST 1048576: true; the input reads as it did. -/
def fnPhrasesUptoRow : OpenClaim := { program := "ytjgihaflkajbcaa", sum := "537aea3793591ecf60183362ec4c94d172ca7fb94b30491667ff61bbd6fcdbc7", func := "loop.example/g01133/laws.FnPhrases", spec := "fnPhrases", apart := false, narrowed := true }
def FnPhrasesUptoSaid : Prop := fnPhrasesUptoRow.holds Try.pinned (OpenSpec.upto fnPhrasesSpec)

/-- 'laws.FnExactSameFactors', WHERE WHAT IT READS IS OF BULK AT MOST 1048576: true; the input reads as it did. -/
def fnExactSameFactorsUptoRow : OpenClaim := { program := "ytjgihaflkajbcaa", sum := "537aea3793591ecf60183362ec4c94d172ca7fb94b30491667ff61bbd6fcdbc7", func := "loop.example/g01133/laws.FnExactSameFactors", spec := "fnExactSameFactors", apart := false, narrowed := true }
def FnExactSameFactorsUptoSaid : Prop := fnExactSameFactorsUptoRow.holds Try.pinned (OpenSpec.upto fnExactSameFactorsSpec)

/-- 'laws.FnExactPhrasesOf', WHERE WHAT IT READS IS OF BULK AT MOST 1048576: true; the input reads as it did. -/
def fnExactPhrasesOfUptoRow : OpenClaim := { program := "ytjgihaflkajbcaa", sum := "537aea3793591ecf60183362ec4c94d172ca7fb94b30491667ff61bbd6fcdbc7", func := "loop.example/g01133/laws.FnExactPhrasesOf", spec := "fnExactPhrasesOf", apart := false, narrowed := true }
def FnExactPhrasesOfUptoSaid : Prop := fnExactPhrasesOfUptoRow.holds Try.pinned (OpenSpec.upto fnExactPhrasesOfSpec)

/-- 'laws.FnExactValidFactors', WHERE WHAT IT READS IS OF BULK AT MOST 1048576: true; the input reads as it did. -/
def fnExactValidFactorsUptoRow : OpenClaim := { program := "ytjgihaflkajbcaa", sum := "537aea3793591ecf60183362ec4c94d172ca7fb94b30491667ff61bbd6fcdbc7", func := "loop.example/g01133/laws.FnExactValidFactors", spec := "fnExactValidFactors", apart := false, narrowed := true }
def FnExactValidFactorsUptoSaid : Prop := fnExactValidFactorsUptoRow.holds Try.pinned (OpenSpec.upto fnExactValidFactorsSpec)

/-- 'laws.FnExactFactorsLength', WHERE WHAT IT READS IS OF BULK AT MOST 1048576: true; the input reads as it did. -/
def fnExactFactorsLengthUptoRow : OpenClaim := { program := "ytjgihaflkajbcaa", sum := "537aea3793591ecf60183362ec4c94d172ca7fb94b30491667ff61bbd6fcdbc7", func := "loop.example/g01133/laws.FnExactFactorsLength", spec := "fnExactFactorsLength", apart := false, narrowed := true }
def FnExactFactorsLengthUptoSaid : Prop := fnExactFactorsLengthUptoRow.holds Try.pinned (OpenSpec.upto fnExactFactorsLengthSpec)

/-- 'laws.FnExactWordOfFactors', WHERE WHAT IT READS IS OF BULK AT MOST 1048576: true; the input reads as it did. -/
def fnExactWordOfFactorsUptoRow : OpenClaim := { program := "ytjgihaflkajbcaa", sum := "537aea3793591ecf60183362ec4c94d172ca7fb94b30491667ff61bbd6fcdbc7", func := "loop.example/g01133/laws.FnExactWordOfFactors", spec := "fnExactWordOfFactors", apart := false, narrowed := true }
def FnExactWordOfFactorsUptoSaid : Prop := fnExactWordOfFactorsUptoRow.holds Try.pinned (OpenSpec.upto fnExactWordOfFactorsSpec)

/-- 'laws.FnExactHalvingGrammar', WHERE WHAT IT READS IS OF BULK AT MOST 1048576: true; the input reads as it did. -/
def fnExactHalvingGrammarUptoRow : OpenClaim := { program := "ytjgihaflkajbcaa", sum := "537aea3793591ecf60183362ec4c94d172ca7fb94b30491667ff61bbd6fcdbc7", func := "loop.example/g01133/laws.FnExactHalvingGrammar", spec := "fnExactHalvingGrammar", unfollowed := true, recurses := true, apart := false, narrowed := true }
def FnExactHalvingGrammarUptoSaid : Prop := fnExactHalvingGrammarUptoRow.holds Try.pinned (OpenSpec.upto fnExactHalvingGrammarSpec)

end Rows
end Go.Proofs.Ytjgihaflkajbcaa
