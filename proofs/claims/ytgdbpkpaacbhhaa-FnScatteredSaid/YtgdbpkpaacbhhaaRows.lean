/-
  No cell of these rows narrows 'for every input' (looked for: loops, veiled, ifaces, maps, wideKeys, modest, calm, conditions, laid).
  DERIVED. THE GIVEN ROWS OF THIS SEAT. 3 by the template 'for every input the law returns true; each argument reads behind the call as it read before'; 0 by the template 'total and deterministic' (their statements: YtgdbpkpaacbhhaaTotals.lean).
  GIVEN WITH THE SEED: the statements are not yours to turn. If you find one false, say at which input.
  Laid BY PROGRAM, IN A SANDBOX (cutbox-rows.mjs): the forced cells as the released guide's own fill.sh prints them over the translation aa22baab6e591386… (all of the seat's roots in one cut). By AI agents, Wed Nov 11 2026. No macro, syntax, notation, axiom, sorry.
-/
import Derived.Test.YtgdbpkpaacbhhaaChecked
import GoSem.Claim
import GoSem.ClaimJoined
import GoSem.ClaimMapViews
import Derived.JoinedTies
import Derived.KernelRfl
namespace Go.Proofs.Ytgdbpkpaacbhhaa
/- THE CELL 'sum', in the pinned program and in every row, IS THE sha256 OF THE DUMP (.gsa) THAT YtgdbpkpaacbhhaaProg.lean LOADS. Nothing in Lean hashes anything: it is a label: what it is worth is what the hold of that sum in a sandbox is worth. -/
noncomputable def Try.pinned : Pinned := { name := "ytgdbpkpaacbhhaa", sum := "aa22baab6e5913864bd6554515111d0de0cc527fde939f9eb2577eb079fd5b03", checked := Try.checked }
namespace Rows
def none {H : Type} : Left H := { results := [], args := [] }

/-- 'laws.FnPrints': WHATEVER THE INPUT: true; the input reads as it did. -/
def fnPrintsSpec : ChangeSpec := { name := "fnPrints", fn := fun _ => fun
  | [d1, d2] => { results := [.lit (.bool true)], args := [d1, d2] }
  | _ => none }
def fnPrintsRow : OpenClaim := { program := "ytgdbpkpaacbhhaa", sum := "aa22baab6e5913864bd6554515111d0de0cc527fde939f9eb2577eb079fd5b03", func := "loop.example/g01133/laws.FnPrints", spec := "fnPrints", unfollowed := true, recurses := true, apart := false }
def FnPrintsSaid : Prop := fnPrintsRow.holds Try.pinned (OpenSpec.ofChange fnPrintsSpec)

/-- ITS FALSE NEIGHBOUR: 'it returns false'. Refute it at one input. -/
def fnPrintsWrong : ChangeSpec := { name := "fnPrints", fn := fun _ => fun
  | [d1, d2] => { results := [.lit (.bool false)], args := [d1, d2] }
  | _ => none }
def FnPrintsWrongFalsely : Prop := fnPrintsRow.holds Try.pinned (OpenSpec.ofChange fnPrintsWrong)

/-- 'laws.FnScattered': WHATEVER THE INPUT: true; the input reads as it did. -/
def fnScatteredSpec : ChangeSpec := { name := "fnScattered", fn := fun _ => fun
  | [d1, d2] => { results := [.lit (.bool true)], args := [d1, d2] }
  | _ => none }
def fnScatteredRow : OpenClaim := { program := "ytgdbpkpaacbhhaa", sum := "aa22baab6e5913864bd6554515111d0de0cc527fde939f9eb2577eb079fd5b03", func := "loop.example/g01133/laws.FnScattered", spec := "fnScattered", unfollowed := true, recurses := true, apart := false }
def FnScatteredSaid : Prop := fnScatteredRow.holds Try.pinned (OpenSpec.ofChange fnScatteredSpec)

/-- ITS FALSE NEIGHBOUR: 'it returns false'. Refute it at one input. -/
def fnScatteredWrong : ChangeSpec := { name := "fnScattered", fn := fun _ => fun
  | [d1, d2] => { results := [.lit (.bool false)], args := [d1, d2] }
  | _ => none }
def FnScatteredWrongFalsely : Prop := fnScatteredRow.holds Try.pinned (OpenSpec.ofChange fnScatteredWrong)

/-- 'laws.FnClimbs': WHATEVER THE INPUT: true; the input reads as it did. -/
def fnClimbsSpec : ChangeSpec := { name := "fnClimbs", fn := fun _ => fun
  | [d1, d2] => { results := [.lit (.bool true)], args := [d1, d2] }
  | _ => none }
def fnClimbsRow : OpenClaim := { program := "ytgdbpkpaacbhhaa", sum := "aa22baab6e5913864bd6554515111d0de0cc527fde939f9eb2577eb079fd5b03", func := "loop.example/g01133/laws.FnClimbs", spec := "fnClimbs", unfollowed := true, recurses := true, apart := false }
def FnClimbsSaid : Prop := fnClimbsRow.holds Try.pinned (OpenSpec.ofChange fnClimbsSpec)

/-- ITS FALSE NEIGHBOUR: 'it returns false'. Refute it at one input. -/
def fnClimbsWrong : ChangeSpec := { name := "fnClimbs", fn := fun _ => fun
  | [d1, d2] => { results := [.lit (.bool false)], args := [d1, d2] }
  | _ => none }
def FnClimbsWrongFalsely : Prop := fnClimbsRow.holds Try.pinned (OpenSpec.ofChange fnClimbsWrong)

/- THE SECOND FORM. 'bulk': how many values and letters a reading holds, each counted each time it is reached (what is shared counts as often as it is met; a slice's spare places count too). A statement '..UptoSaid' is the law's where the arguments, and the package variables that the reading takes, are together of bulk at most 1048576: NARROWER than '..Said'. Prove '..Said' where nothing that the law and all that it calls make is longer than what came in: it says more and counts as full. Else prove '..UptoSaid'. A law counts once. -/
mutual
def uptoBulk {H : Type} : DataW H → Nat
  | .lit (.string bytes) => bytes.length + 1
  | .lit _ => 1
  | .nil => 1
  | .ptr d => uptoBulk d + 1
  | .slice elems spare => uptoBulkAll elems + uptoBulkAll spare + 1
  | .agg parts => uptoBulkAll parts + 1
  | .iface _ d => uptoBulk d + 1
  | .map entries => uptoBulkEntries entries + 1
  | .held _ => 1
def uptoBulkAll {H : Type} : List (DataW H) → Nat
  | [] => 0
  | d :: r => uptoBulk d + uptoBulkAll r
def uptoBulkEntries {H : Type} : List (Lit × DataW H) → Nat
  | [] => 0
  | x :: r => uptoBulkEntry x + uptoBulkEntries r
def uptoBulkEntry {H : Type} : Lit × DataW H → Nat
  | (.string bytes, d) => bytes.length + uptoBulk d + 1
  | (_, d) => uptoBulk d + 1
 end
def uptoSmall : (H : Type) → List (DataW H) → Bool := fun _ ds => decide (uptoBulkAll ds ≤ 1048576)
def OpenSpec.upto (s : _root_.Go.ChangeSpec) : _root_.Go.OpenSpec := { _root_.Go.OpenSpec.ofChange s with cond := some uptoSmall }

/-- 'laws.FnPrints', WHERE WHAT IT READS IS OF BULK AT MOST 1048576: true; the input reads as it did. -/
def fnPrintsUptoRow : OpenClaim := { program := "ytgdbpkpaacbhhaa", sum := "aa22baab6e5913864bd6554515111d0de0cc527fde939f9eb2577eb079fd5b03", func := "loop.example/g01133/laws.FnPrints", spec := "fnPrints", unfollowed := true, recurses := true, apart := false, narrowed := true }
def FnPrintsUptoSaid : Prop := fnPrintsUptoRow.holds Try.pinned (OpenSpec.upto fnPrintsSpec)

/-- 'laws.FnScattered', WHERE WHAT IT READS IS OF BULK AT MOST 1048576: true; the input reads as it did. -/
def fnScatteredUptoRow : OpenClaim := { program := "ytgdbpkpaacbhhaa", sum := "aa22baab6e5913864bd6554515111d0de0cc527fde939f9eb2577eb079fd5b03", func := "loop.example/g01133/laws.FnScattered", spec := "fnScattered", unfollowed := true, recurses := true, apart := false, narrowed := true }
def FnScatteredUptoSaid : Prop := fnScatteredUptoRow.holds Try.pinned (OpenSpec.upto fnScatteredSpec)

/-- 'laws.FnClimbs', WHERE WHAT IT READS IS OF BULK AT MOST 1048576: true; the input reads as it did. -/
def fnClimbsUptoRow : OpenClaim := { program := "ytgdbpkpaacbhhaa", sum := "aa22baab6e5913864bd6554515111d0de0cc527fde939f9eb2577eb079fd5b03", func := "loop.example/g01133/laws.FnClimbs", spec := "fnClimbs", unfollowed := true, recurses := true, apart := false, narrowed := true }
def FnClimbsUptoSaid : Prop := fnClimbsUptoRow.holds Try.pinned (OpenSpec.upto fnClimbsSpec)

end Rows
end Go.Proofs.Ytgdbpkpaacbhhaa
