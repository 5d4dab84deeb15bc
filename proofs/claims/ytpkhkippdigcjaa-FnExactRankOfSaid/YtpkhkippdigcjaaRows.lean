/-
  No cell of these rows narrows 'for every input' (looked for: loops, veiled, ifaces, maps, wideKeys, modest, calm, conditions, laid).
  DERIVED. THE GIVEN ROWS OF THIS SEAT. 8 by the template 'for every input the law returns true; each argument reads behind the call as it read before'; 0 by the template 'total and deterministic' (their statements: YtpkhkippdigcjaaTotals.lean).
  GIVEN WITH THE SEED: the statements are not yours to turn. If you find one false, say at which input.
  Laid BY PROGRAM, IN A SANDBOX (cutbox-rows.mjs): the forced cells as the released guide's own fill.sh prints them over the translation db250355b284dd7e… (all of the seat's roots in one cut). By AI agents, Wed Nov 11 2026. No macro, syntax, notation, axiom, sorry.
-/
import Derived.Test.YtpkhkippdigcjaaChecked
import GoSem.Claim
import GoSem.ClaimJoined
import GoSem.ClaimMapViews
import Derived.JoinedTies
import Derived.KernelRfl
namespace Go.Proofs.Ytpkhkippdigcjaa
/- THE CELL 'sum', in the pinned program and in every row, IS THE sha256 OF THE DUMP (.gsa) THAT YtpkhkippdigcjaaProg.lean LOADS. Nothing in Lean hashes anything: it is a label: what it is worth is what the hold of that sum in a sandbox is worth. -/
noncomputable def Try.pinned : Pinned := { name := "ytpkhkippdigcjaa", sum := "db250355b284dd7eb42fdec895b62c6ada5129f06cb267135f5324427c8d7966", checked := Try.checked }
namespace Rows
def none {H : Type} : Left H := { results := [], args := [] }

/-- 'laws.FnExactIsLevel': WHATEVER THE INPUT: true; the input reads as it did. -/
def fnExactIsLevelSpec : ChangeSpec := { name := "fnExactIsLevel", fn := fun _ => fun
  | [d] => { results := [.lit (.bool true)], args := [d] }
  | _ => none }
def fnExactIsLevelRow : OpenClaim := { program := "ytpkhkippdigcjaa", sum := "db250355b284dd7eb42fdec895b62c6ada5129f06cb267135f5324427c8d7966", func := "loop.example/g01133/laws.FnExactIsLevel", spec := "fnExactIsLevel", unfollowed := true, recurses := true, apart := false }
def FnExactIsLevelSaid : Prop := fnExactIsLevelRow.holds Try.pinned (OpenSpec.ofChange fnExactIsLevelSpec)

/-- ITS FALSE NEIGHBOUR: 'it returns false'. Refute it at one input. -/
def fnExactIsLevelWrong : ChangeSpec := { name := "fnExactIsLevel", fn := fun _ => fun
  | [d] => { results := [.lit (.bool false)], args := [d] }
  | _ => none }
def FnExactIsLevelWrongFalsely : Prop := fnExactIsLevelRow.holds Try.pinned (OpenSpec.ofChange fnExactIsLevelWrong)

/-- 'laws.FnExactIsBalanced': WHATEVER THE INPUT: true; the input reads as it did. -/
def fnExactIsBalancedSpec : ChangeSpec := { name := "fnExactIsBalanced", fn := fun _ => fun
  | [d1, d2, d3] => { results := [.lit (.bool true)], args := [d1, d2, d3] }
  | _ => none }
def fnExactIsBalancedRow : OpenClaim := { program := "ytpkhkippdigcjaa", sum := "db250355b284dd7eb42fdec895b62c6ada5129f06cb267135f5324427c8d7966", func := "loop.example/g01133/laws.FnExactIsBalanced", spec := "fnExactIsBalanced", unfollowed := true, recurses := true, apart := false }
def FnExactIsBalancedSaid : Prop := fnExactIsBalancedRow.holds Try.pinned (OpenSpec.ofChange fnExactIsBalancedSpec)

/-- ITS FALSE NEIGHBOUR: 'it returns false'. Refute it at one input. -/
def fnExactIsBalancedWrong : ChangeSpec := { name := "fnExactIsBalanced", fn := fun _ => fun
  | [d1, d2, d3] => { results := [.lit (.bool false)], args := [d1, d2, d3] }
  | _ => none }
def FnExactIsBalancedWrongFalsely : Prop := fnExactIsBalancedRow.holds Try.pinned (OpenSpec.ofChange fnExactIsBalancedWrong)

/-- 'laws.FnExactPlaceSum': WHATEVER THE INPUT: true; the input reads as it did. -/
def fnExactPlaceSumSpec : ChangeSpec := { name := "fnExactPlaceSum", fn := fun _ => fun
  | [d1, d2, d3] => { results := [.lit (.bool true)], args := [d1, d2, d3] }
  | _ => none }
def fnExactPlaceSumRow : OpenClaim := { program := "ytpkhkippdigcjaa", sum := "db250355b284dd7eb42fdec895b62c6ada5129f06cb267135f5324427c8d7966", func := "loop.example/g01133/laws.FnExactPlaceSum", spec := "fnExactPlaceSum", unfollowed := true, recurses := true, apart := false }
def FnExactPlaceSumSaid : Prop := fnExactPlaceSumRow.holds Try.pinned (OpenSpec.ofChange fnExactPlaceSumSpec)

/-- ITS FALSE NEIGHBOUR: 'it returns false'. Refute it at one input. -/
def fnExactPlaceSumWrong : ChangeSpec := { name := "fnExactPlaceSum", fn := fun _ => fun
  | [d1, d2, d3] => { results := [.lit (.bool false)], args := [d1, d2, d3] }
  | _ => none }
def FnExactPlaceSumWrongFalsely : Prop := fnExactPlaceSumRow.holds Try.pinned (OpenSpec.ofChange fnExactPlaceSumWrong)

/-- 'laws.FnExactInversionCount': WHATEVER THE INPUT: true; the input reads as it did. -/
def fnExactInversionCountSpec : ChangeSpec := { name := "fnExactInversionCount", fn := fun _ => fun
  | [d1, d2] => { results := [.lit (.bool true)], args := [d1, d2] }
  | _ => none }
def fnExactInversionCountRow : OpenClaim := { program := "ytpkhkippdigcjaa", sum := "db250355b284dd7eb42fdec895b62c6ada5129f06cb267135f5324427c8d7966", func := "loop.example/g01133/laws.FnExactInversionCount", spec := "fnExactInversionCount", unfollowed := true, recurses := true, apart := false }
def FnExactInversionCountSaid : Prop := fnExactInversionCountRow.holds Try.pinned (OpenSpec.ofChange fnExactInversionCountSpec)

/-- ITS FALSE NEIGHBOUR: 'it returns false'. Refute it at one input. -/
def fnExactInversionCountWrong : ChangeSpec := { name := "fnExactInversionCount", fn := fun _ => fun
  | [d1, d2] => { results := [.lit (.bool false)], args := [d1, d2] }
  | _ => none }
def FnExactInversionCountWrongFalsely : Prop := fnExactInversionCountRow.holds Try.pinned (OpenSpec.ofChange fnExactInversionCountWrong)

/-- 'laws.FnExactSelectOf': WHATEVER THE INPUT: true; the input reads as it did. -/
def fnExactSelectOfSpec : ChangeSpec := { name := "fnExactSelectOf", fn := fun _ => fun
  | [d1, d2, d3] => { results := [.lit (.bool true)], args := [d1, d2, d3] }
  | _ => none }
def fnExactSelectOfRow : OpenClaim := { program := "ytpkhkippdigcjaa", sum := "db250355b284dd7eb42fdec895b62c6ada5129f06cb267135f5324427c8d7966", func := "loop.example/g01133/laws.FnExactSelectOf", spec := "fnExactSelectOf", unfollowed := true, recurses := true, apart := false }
def FnExactSelectOfSaid : Prop := fnExactSelectOfRow.holds Try.pinned (OpenSpec.ofChange fnExactSelectOfSpec)

/-- ITS FALSE NEIGHBOUR: 'it returns false'. Refute it at one input. -/
def fnExactSelectOfWrong : ChangeSpec := { name := "fnExactSelectOf", fn := fun _ => fun
  | [d1, d2, d3] => { results := [.lit (.bool false)], args := [d1, d2, d3] }
  | _ => none }
def FnExactSelectOfWrongFalsely : Prop := fnExactSelectOfRow.holds Try.pinned (OpenSpec.ofChange fnExactSelectOfWrong)

/-- 'laws.FnExactRankOf': WHATEVER THE INPUT: true; the input reads as it did. -/
def fnExactRankOfSpec : ChangeSpec := { name := "fnExactRankOf", fn := fun _ => fun
  | [d1, d2, d3] => { results := [.lit (.bool true)], args := [d1, d2, d3] }
  | _ => none }
def fnExactRankOfRow : OpenClaim := { program := "ytpkhkippdigcjaa", sum := "db250355b284dd7eb42fdec895b62c6ada5129f06cb267135f5324427c8d7966", func := "loop.example/g01133/laws.FnExactRankOf", spec := "fnExactRankOf", unfollowed := true, recurses := true, apart := false }
def FnExactRankOfSaid : Prop := fnExactRankOfRow.holds Try.pinned (OpenSpec.ofChange fnExactRankOfSpec)

/-- ITS FALSE NEIGHBOUR: 'it returns false'. Refute it at one input. -/
def fnExactRankOfWrong : ChangeSpec := { name := "fnExactRankOf", fn := fun _ => fun
  | [d1, d2, d3] => { results := [.lit (.bool false)], args := [d1, d2, d3] }
  | _ => none }
def FnExactRankOfWrongFalsely : Prop := fnExactRankOfRow.holds Try.pinned (OpenSpec.ofChange fnExactRankOfWrong)

/-- 'laws.FnExactClimbOf': WHATEVER THE INPUT: true; the input reads as it did. -/
def fnExactClimbOfSpec : ChangeSpec := { name := "fnExactClimbOf", fn := fun _ => fun
  | [d1, d2] => { results := [.lit (.bool true)], args := [d1, d2] }
  | _ => none }
def fnExactClimbOfRow : OpenClaim := { program := "ytpkhkippdigcjaa", sum := "db250355b284dd7eb42fdec895b62c6ada5129f06cb267135f5324427c8d7966", func := "loop.example/g01133/laws.FnExactClimbOf", spec := "fnExactClimbOf", unfollowed := true, recurses := true, apart := false }
def FnExactClimbOfSaid : Prop := fnExactClimbOfRow.holds Try.pinned (OpenSpec.ofChange fnExactClimbOfSpec)

/-- ITS FALSE NEIGHBOUR: 'it returns false'. Refute it at one input. -/
def fnExactClimbOfWrong : ChangeSpec := { name := "fnExactClimbOf", fn := fun _ => fun
  | [d1, d2] => { results := [.lit (.bool false)], args := [d1, d2] }
  | _ => none }
def FnExactClimbOfWrongFalsely : Prop := fnExactClimbOfRow.holds Try.pinned (OpenSpec.ofChange fnExactClimbOfWrong)

/-- 'laws.FnExactFirstBelow': WHATEVER THE INPUT: true; the input reads as it did. -/
def fnExactFirstBelowSpec : ChangeSpec := { name := "fnExactFirstBelow", fn := fun _ => fun
  | [d1, d2, d3] => { results := [.lit (.bool true)], args := [d1, d2, d3] }
  | _ => none }
def fnExactFirstBelowRow : OpenClaim := { program := "ytpkhkippdigcjaa", sum := "db250355b284dd7eb42fdec895b62c6ada5129f06cb267135f5324427c8d7966", func := "loop.example/g01133/laws.FnExactFirstBelow", spec := "fnExactFirstBelow", unfollowed := true, recurses := true, apart := false }
def FnExactFirstBelowSaid : Prop := fnExactFirstBelowRow.holds Try.pinned (OpenSpec.ofChange fnExactFirstBelowSpec)

/-- ITS FALSE NEIGHBOUR: 'it returns false'. Refute it at one input. -/
def fnExactFirstBelowWrong : ChangeSpec := { name := "fnExactFirstBelow", fn := fun _ => fun
  | [d1, d2, d3] => { results := [.lit (.bool false)], args := [d1, d2, d3] }
  | _ => none }
def FnExactFirstBelowWrongFalsely : Prop := fnExactFirstBelowRow.holds Try.pinned (OpenSpec.ofChange fnExactFirstBelowWrong)

/- THE SECOND FORM. 'bulk': how many values and letters a reading holds, each counted each time it is reached (what is shared counts as often as it is met; a slice's spare places count too). A statement '..UptoSaid' is the law's where the arguments, and the package variables that the reading takes, are together of bulk at most 1048576: NARROWER than '..Said'. Prove '..Said' where nothing that the law and all that it calls make is longer than what came in: it says more and counts as full. Else prove '..UptoSaid'. A law counts once. -/
mutual
def uptoBulk {H : Type} : DataW H → Nat
  | .lit (.string bytes) => bytes.length + 1
  | .lit _ => 1
  | .nil => 1
  | .ptr d => uptoBulk d + 1
  | .slice elems spare => uptoBulkAll elems + uptoBulkAll spare + 1
  | .agg parts => uptoBulkAll parts + 1
  | .iface _ d => uptoBulk d + 1
  | .map entries => uptoBulkEntries entries + 1
  | .held _ => 1
def uptoBulkAll {H : Type} : List (DataW H) → Nat
  | [] => 0
  | d :: r => uptoBulk d + uptoBulkAll r
def uptoBulkEntries {H : Type} : List (Lit × DataW H) → Nat
  | [] => 0
  | x :: r => uptoBulkEntry x + uptoBulkEntries r
def uptoBulkEntry {H : Type} : Lit × DataW H → Nat
  | (.string bytes, d) => bytes.length + uptoBulk d + 1
  | (_, d) => uptoBulk d + 1
 end
def uptoSmall : (H : Type) → List (DataW H) → Bool := fun _ ds => decide (uptoBulkAll ds ≤ 1048576)
def OpenSpec.upto (s : _root_.Go.ChangeSpec) : _root_.Go.OpenSpec := { _root_.Go.OpenSpec.ofChange s with cond := some uptoSmall }

/-- 'laws.FnExactIsLevel', WHERE WHAT IT READS IS OF BULK AT MOST 1048576: true; the input reads as it did. -/
def fnExactIsLevelUptoRow : OpenClaim := { program := "ytpkhkippdigcjaa", sum := "db250355b284dd7eb42fdec895b62c6ada5129f06cb267135f5324427c8d7966", func := "loop.example/g01133/laws.FnExactIsLevel", spec := "fnExactIsLevel", unfollowed := true, recurses := true, apart := false, narrowed := true }
def FnExactIsLevelUptoSaid : Prop := fnExactIsLevelUptoRow.holds Try.pinned (OpenSpec.upto fnExactIsLevelSpec)

/-- 'laws.FnExactIsBalanced', WHERE WHAT IT READS IS OF BULK AT MOST 1048576: true; the input reads as it did. -/
def fnExactIsBalancedUptoRow : OpenClaim := { program := "ytpkhkippdigcjaa", sum := "db250355b284dd7eb42fdec895b62c6ada5129f06cb267135f5324427c8d7966", func := "loop.example/g01133/laws.FnExactIsBalanced", spec := "fnExactIsBalanced", unfollowed := true, recurses := true, apart := false, narrowed := true }
def FnExactIsBalancedUptoSaid : Prop := fnExactIsBalancedUptoRow.holds Try.pinned (OpenSpec.upto fnExactIsBalancedSpec)

/-- 'laws.FnExactPlaceSum', WHERE WHAT IT READS IS OF BULK AT MOST 1048576: true; the input reads as it did. -/
def fnExactPlaceSumUptoRow : OpenClaim := { program := "ytpkhkippdigcjaa", sum := "db250355b284dd7eb42fdec895b62c6ada5129f06cb267135f5324427c8d7966", func := "loop.example/g01133/laws.FnExactPlaceSum", spec := "fnExactPlaceSum", unfollowed := true, recurses := true, apart := false, narrowed := true }
def FnExactPlaceSumUptoSaid : Prop := fnExactPlaceSumUptoRow.holds Try.pinned (OpenSpec.upto fnExactPlaceSumSpec)

/-- 'laws.FnExactInversionCount', WHERE WHAT IT READS IS OF BULK AT MOST 1048576: true; the input reads as it did. -/
def fnExactInversionCountUptoRow : OpenClaim := { program := "ytpkhkippdigcjaa", sum := "db250355b284dd7eb42fdec895b62c6ada5129f06cb267135f5324427c8d7966", func := "loop.example/g01133/laws.FnExactInversionCount", spec := "fnExactInversionCount", unfollowed := true, recurses := true, apart := false, narrowed := true }
def FnExactInversionCountUptoSaid : Prop := fnExactInversionCountUptoRow.holds Try.pinned (OpenSpec.upto fnExactInversionCountSpec)

/-- 'laws.FnExactSelectOf', WHERE WHAT IT READS IS OF BULK AT MOST 1048576: true; the input reads as it did. -/
def fnExactSelectOfUptoRow : OpenClaim := { program := "ytpkhkippdigcjaa", sum := "db250355b284dd7eb42fdec895b62c6ada5129f06cb267135f5324427c8d7966", func := "loop.example/g01133/laws.FnExactSelectOf", spec := "fnExactSelectOf", unfollowed := true, recurses := true, apart := false, narrowed := true }
def FnExactSelectOfUptoSaid : Prop := fnExactSelectOfUptoRow.holds Try.pinned (OpenSpec.upto fnExactSelectOfSpec)

/-- 'laws.FnExactRankOf', WHERE WHAT IT READS IS OF BULK AT MOST 1048576: true; the input reads as it did. -/
def fnExactRankOfUptoRow : OpenClaim := { program := "ytpkhkippdigcjaa", sum := "db250355b284dd7eb42fdec895b62c6ada5129f06cb267135f5324427c8d7966", func := "loop.example/g01133/laws.FnExactRankOf", spec := "fnExactRankOf", unfollowed := true, recurses := true, apart := false, narrowed := true }
def FnExactRankOfUptoSaid : Prop := fnExactRankOfUptoRow.holds Try.pinned (OpenSpec.upto fnExactRankOfSpec)

/-- 'laws.FnExactClimbOf', WHERE WHAT IT READS IS OF BULK AT MOST 1048576: true; the input reads as it did. -/
def fnExactClimbOfUptoRow : OpenClaim := { program := "ytpkhkippdigcjaa", sum := "db250355b284dd7eb42fdec895b62c6ada5129f06cb267135f5324427c8d7966", func := "loop.example/g01133/laws.FnExactClimbOf", spec := "fnExactClimbOf", unfollowed := true, recurses := true, apart := false, narrowed := true }
def FnExactClimbOfUptoSaid : Prop := fnExactClimbOfUptoRow.holds Try.pinned (OpenSpec.upto fnExactClimbOfSpec)

/-- 'laws.FnExactFirstBelow', WHERE WHAT IT READS IS OF BULK AT MOST 1048576: true; the input reads as it did. -/
def fnExactFirstBelowUptoRow : OpenClaim := { program := "ytpkhkippdigcjaa", sum := "db250355b284dd7eb42fdec895b62c6ada5129f06cb267135f5324427c8d7966", func := "loop.example/g01133/laws.FnExactFirstBelow", spec := "fnExactFirstBelow", unfollowed := true, recurses := true, apart := false, narrowed := true }
def FnExactFirstBelowUptoSaid : Prop := fnExactFirstBelowUptoRow.holds Try.pinned (OpenSpec.upto fnExactFirstBelowSpec)

end Rows
end Go.Proofs.Ytpkhkippdigcjaa
