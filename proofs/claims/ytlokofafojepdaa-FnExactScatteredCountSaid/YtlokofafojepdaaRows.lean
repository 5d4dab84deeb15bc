/-
  No cell of these rows narrows 'for every input' (looked for: loops, veiled, ifaces, maps, wideKeys, modest, calm, conditions, laid).
  DERIVED. THE GIVEN ROWS OF THIS SEAT. 8 by the template 'for every input the law returns true; each argument reads behind the call as it read before'; 0 by the template 'total and deterministic' (their statements: YtlokofafojepdaaTotals.lean).
  GIVEN WITH THE SEED: the statements are not yours to turn. If you find one false, say at which input.
  Laid BY PROGRAM, IN A SANDBOX (cutbox-rows.mjs): the forced cells as the released guide's own fill.sh prints them over the translation 16801a4aa993d4b0… (all of the seat's roots in one cut). By AI agents, Wed Nov 11 2026. No macro, syntax, notation, axiom, sorry.
-/
import Derived.Test.YtlokofafojepdaaChecked
import GoSem.Claim
import GoSem.ClaimJoined
import GoSem.ClaimMapViews
import Derived.JoinedTies
import Derived.KernelRfl
namespace Go.Proofs.Ytlokofafojepdaa
/- THE CELL 'sum', in the pinned program and in every row, IS THE sha256 OF THE DUMP (.gsa) THAT YtlokofafojepdaaProg.lean LOADS. Nothing in Lean hashes anything: it is a label: what it is worth is what the hold of that sum in a sandbox is worth. -/
noncomputable def Try.pinned : Pinned := { name := "ytlokofafojepdaa", sum := "16801a4aa993d4b09b75f3e0530ae1f3ac5e3ee69268a775464bc6999f8109a9", checked := Try.checked }
namespace Rows
def none {H : Type} : Left H := { results := [], args := [] }

/-- 'laws.FnExactClimbAt': WHATEVER THE INPUT: true; the input reads as it did. -/
def fnExactClimbAtSpec : ChangeSpec := { name := "fnExactClimbAt", fn := fun _ => fun
  | [d1, d2, d3] => { results := [.lit (.bool true)], args := [d1, d2, d3] }
  | _ => none }
def fnExactClimbAtRow : OpenClaim := { program := "ytlokofafojepdaa", sum := "16801a4aa993d4b09b75f3e0530ae1f3ac5e3ee69268a775464bc6999f8109a9", func := "loop.example/g01133/laws.FnExactClimbAt", spec := "fnExactClimbAt", unfollowed := true, recurses := true, apart := false }
def FnExactClimbAtSaid : Prop := fnExactClimbAtRow.holds Try.pinned (OpenSpec.ofChange fnExactClimbAtSpec)

/-- ITS FALSE NEIGHBOUR: 'it returns false'. Refute it at one input. -/
def fnExactClimbAtWrong : ChangeSpec := { name := "fnExactClimbAt", fn := fun _ => fun
  | [d1, d2, d3] => { results := [.lit (.bool false)], args := [d1, d2, d3] }
  | _ => none }
def FnExactClimbAtWrongFalsely : Prop := fnExactClimbAtRow.holds Try.pinned (OpenSpec.ofChange fnExactClimbAtWrong)

/-- 'laws.FnExactPrintOf': WHATEVER THE INPUT: true; the input reads as it did. -/
def fnExactPrintOfSpec : ChangeSpec := { name := "fnExactPrintOf", fn := fun _ => fun
  | [d1, d2, d3] => { results := [.lit (.bool true)], args := [d1, d2, d3] }
  | _ => none }
def fnExactPrintOfRow : OpenClaim := { program := "ytlokofafojepdaa", sum := "16801a4aa993d4b09b75f3e0530ae1f3ac5e3ee69268a775464bc6999f8109a9", func := "loop.example/g01133/laws.FnExactPrintOf", spec := "fnExactPrintOf", unfollowed := true, recurses := true, apart := false }
def FnExactPrintOfSaid : Prop := fnExactPrintOfRow.holds Try.pinned (OpenSpec.ofChange fnExactPrintOfSpec)

/-- ITS FALSE NEIGHBOUR: 'it returns false'. Refute it at one input. -/
def fnExactPrintOfWrong : ChangeSpec := { name := "fnExactPrintOf", fn := fun _ => fun
  | [d1, d2, d3] => { results := [.lit (.bool false)], args := [d1, d2, d3] }
  | _ => none }
def FnExactPrintOfWrongFalsely : Prop := fnExactPrintOfRow.holds Try.pinned (OpenSpec.ofChange fnExactPrintOfWrong)

/-- 'laws.FnExactPrintOfPart': WHATEVER THE INPUT: true; the input reads as it did. -/
def fnExactPrintOfPartSpec : ChangeSpec := { name := "fnExactPrintOfPart", fn := fun _ => fun
  | [d1, d2, d3, d4, d5] => { results := [.lit (.bool true)], args := [d1, d2, d3, d4, d5] }
  | _ => none }
def fnExactPrintOfPartRow : OpenClaim := { program := "ytlokofafojepdaa", sum := "16801a4aa993d4b09b75f3e0530ae1f3ac5e3ee69268a775464bc6999f8109a9", func := "loop.example/g01133/laws.FnExactPrintOfPart", spec := "fnExactPrintOfPart", unfollowed := true, recurses := true, apart := false }
def FnExactPrintOfPartSaid : Prop := fnExactPrintOfPartRow.holds Try.pinned (OpenSpec.ofChange fnExactPrintOfPartSpec)

/-- ITS FALSE NEIGHBOUR: 'it returns false'. Refute it at one input. -/
def fnExactPrintOfPartWrong : ChangeSpec := { name := "fnExactPrintOfPart", fn := fun _ => fun
  | [d1, d2, d3, d4, d5] => { results := [.lit (.bool false)], args := [d1, d2, d3, d4, d5] }
  | _ => none }
def FnExactPrintOfPartWrongFalsely : Prop := fnExactPrintOfPartRow.holds Try.pinned (OpenSpec.ofChange fnExactPrintOfPartWrong)

/-- 'laws.FnExactRunCount': WHATEVER THE INPUT: true; the input reads as it did. -/
def fnExactRunCountSpec : ChangeSpec := { name := "fnExactRunCount", fn := fun _ => fun
  | [d] => { results := [.lit (.bool true)], args := [d] }
  | _ => none }
def fnExactRunCountRow : OpenClaim := { program := "ytlokofafojepdaa", sum := "16801a4aa993d4b09b75f3e0530ae1f3ac5e3ee69268a775464bc6999f8109a9", func := "loop.example/g01133/laws.FnExactRunCount", spec := "fnExactRunCount", unfollowed := true, recurses := true, apart := false }
def FnExactRunCountSaid : Prop := fnExactRunCountRow.holds Try.pinned (OpenSpec.ofChange fnExactRunCountSpec)

/-- ITS FALSE NEIGHBOUR: 'it returns false'. Refute it at one input. -/
def fnExactRunCountWrong : ChangeSpec := { name := "fnExactRunCount", fn := fun _ => fun
  | [d] => { results := [.lit (.bool false)], args := [d] }
  | _ => none }
def FnExactRunCountWrongFalsely : Prop := fnExactRunCountRow.holds Try.pinned (OpenSpec.ofChange fnExactRunCountWrong)

/-- 'laws.FnExactPairCounts': WHATEVER THE INPUT: true; the input reads as it did. -/
def fnExactPairCountsSpec : ChangeSpec := { name := "fnExactPairCounts", fn := fun _ => fun
  | [d] => { results := [.lit (.bool true)], args := [d] }
  | _ => none }
def fnExactPairCountsRow : OpenClaim := { program := "ytlokofafojepdaa", sum := "16801a4aa993d4b09b75f3e0530ae1f3ac5e3ee69268a775464bc6999f8109a9", func := "loop.example/g01133/laws.FnExactPairCounts", spec := "fnExactPairCounts", unfollowed := true, recurses := true, apart := false }
def FnExactPairCountsSaid : Prop := fnExactPairCountsRow.holds Try.pinned (OpenSpec.ofChange fnExactPairCountsSpec)

/-- ITS FALSE NEIGHBOUR: 'it returns false'. Refute it at one input. -/
def fnExactPairCountsWrong : ChangeSpec := { name := "fnExactPairCounts", fn := fun _ => fun
  | [d] => { results := [.lit (.bool false)], args := [d] }
  | _ => none }
def FnExactPairCountsWrongFalsely : Prop := fnExactPairCountsRow.holds Try.pinned (OpenSpec.ofChange fnExactPairCountsWrong)

/-- 'laws.FnExactSparePower': WHATEVER THE INPUT: true; the input reads as it did. -/
def fnExactSparePowerSpec : ChangeSpec := { name := "fnExactSparePower", fn := fun _ => fun
  | [d1, d2] => { results := [.lit (.bool true)], args := [d1, d2] }
  | _ => none }
def fnExactSparePowerRow : OpenClaim := { program := "ytlokofafojepdaa", sum := "16801a4aa993d4b09b75f3e0530ae1f3ac5e3ee69268a775464bc6999f8109a9", func := "loop.example/g01133/laws.FnExactSparePower", spec := "fnExactSparePower", unfollowed := true, recurses := true, apart := false }
def FnExactSparePowerSaid : Prop := fnExactSparePowerRow.holds Try.pinned (OpenSpec.ofChange fnExactSparePowerSpec)

/-- ITS FALSE NEIGHBOUR: 'it returns false'. Refute it at one input. -/
def fnExactSparePowerWrong : ChangeSpec := { name := "fnExactSparePower", fn := fun _ => fun
  | [d1, d2] => { results := [.lit (.bool false)], args := [d1, d2] }
  | _ => none }
def FnExactSparePowerWrongFalsely : Prop := fnExactSparePowerRow.holds Try.pinned (OpenSpec.ofChange fnExactSparePowerWrong)

/-- 'laws.FnExactScatteredCount': WHATEVER THE INPUT: true; the input reads as it did. -/
def fnExactScatteredCountSpec : ChangeSpec := { name := "fnExactScatteredCount", fn := fun _ => fun
  | [d1, d2, d3] => { results := [.lit (.bool true)], args := [d1, d2, d3] }
  | _ => none }
def fnExactScatteredCountRow : OpenClaim := { program := "ytlokofafojepdaa", sum := "16801a4aa993d4b09b75f3e0530ae1f3ac5e3ee69268a775464bc6999f8109a9", func := "loop.example/g01133/laws.FnExactScatteredCount", spec := "fnExactScatteredCount", unfollowed := true, recurses := true, apart := false }
def FnExactScatteredCountSaid : Prop := fnExactScatteredCountRow.holds Try.pinned (OpenSpec.ofChange fnExactScatteredCountSpec)

/-- ITS FALSE NEIGHBOUR: 'it returns false'. Refute it at one input. -/
def fnExactScatteredCountWrong : ChangeSpec := { name := "fnExactScatteredCount", fn := fun _ => fun
  | [d1, d2, d3] => { results := [.lit (.bool false)], args := [d1, d2, d3] }
  | _ => none }
def FnExactScatteredCountWrongFalsely : Prop := fnExactScatteredCountRow.holds Try.pinned (OpenSpec.ofChange fnExactScatteredCountWrong)

/-- 'laws.FnExactEmbeddedStart': WHATEVER THE INPUT: true; the input reads as it did. -/
def fnExactEmbeddedStartSpec : ChangeSpec := { name := "fnExactEmbeddedStart", fn := fun _ => fun
  | [d1, d2] => { results := [.lit (.bool true)], args := [d1, d2] }
  | _ => none }
def fnExactEmbeddedStartRow : OpenClaim := { program := "ytlokofafojepdaa", sum := "16801a4aa993d4b09b75f3e0530ae1f3ac5e3ee69268a775464bc6999f8109a9", func := "loop.example/g01133/laws.FnExactEmbeddedStart", spec := "fnExactEmbeddedStart", unfollowed := true, recurses := true, apart := false }
def FnExactEmbeddedStartSaid : Prop := fnExactEmbeddedStartRow.holds Try.pinned (OpenSpec.ofChange fnExactEmbeddedStartSpec)

/-- ITS FALSE NEIGHBOUR: 'it returns false'. Refute it at one input. -/
def fnExactEmbeddedStartWrong : ChangeSpec := { name := "fnExactEmbeddedStart", fn := fun _ => fun
  | [d1, d2] => { results := [.lit (.bool false)], args := [d1, d2] }
  | _ => none }
def FnExactEmbeddedStartWrongFalsely : Prop := fnExactEmbeddedStartRow.holds Try.pinned (OpenSpec.ofChange fnExactEmbeddedStartWrong)

/- THE SECOND FORM. 'bulk': how many values and letters a reading holds, each counted each time it is reached (what is shared counts as often as it is met; a slice's spare places count too). A statement '..UptoSaid' is the law's where the arguments, and the package variables that the reading takes, are together of bulk at most 1048576: NARROWER than '..Said'. Prove '..Said' where nothing that the law and all that it calls make is longer than what came in: it says more and counts as full. Else prove '..UptoSaid'. A law counts once. -/
mutual
def uptoBulk {H : Type} : DataW H → Nat
  | .lit (.string bytes) => bytes.length + 1
  | .lit _ => 1
  | .nil => 1
  | .ptr d => uptoBulk d + 1
  | .slice elems spare => uptoBulkAll elems + uptoBulkAll spare + 1
  | .agg parts => uptoBulkAll parts + 1
  | .iface _ d => uptoBulk d + 1
  | .map entries => uptoBulkEntries entries + 1
  | .held _ => 1
def uptoBulkAll {H : Type} : List (DataW H) → Nat
  | [] => 0
  | d :: r => uptoBulk d + uptoBulkAll r
def uptoBulkEntries {H : Type} : List (Lit × DataW H) → Nat
  | [] => 0
  | x :: r => uptoBulkEntry x + uptoBulkEntries r
def uptoBulkEntry {H : Type} : Lit × DataW H → Nat
  | (.string bytes, d) => bytes.length + uptoBulk d + 1
  | (_, d) => uptoBulk d + 1
 end
def uptoSmall : (H : Type) → List (DataW H) → Bool := fun _ ds => decide (uptoBulkAll ds ≤ 1048576)
def OpenSpec.upto (s : _root_.Go.ChangeSpec) : _root_.Go.OpenSpec := { _root_.Go.OpenSpec.ofChange s with cond := some uptoSmall }

/-- 'laws.FnExactClimbAt', WHERE WHAT IT READS IS OF BULK AT MOST 1048576: true; the input reads as it did. -/
def fnExactClimbAtUptoRow : OpenClaim := { program := "ytlokofafojepdaa", sum := "16801a4aa993d4b09b75f3e0530ae1f3ac5e3ee69268a775464bc6999f8109a9", func := "loop.example/g01133/laws.FnExactClimbAt", spec := "fnExactClimbAt", unfollowed := true, recurses := true, apart := false, narrowed := true }
def FnExactClimbAtUptoSaid : Prop := fnExactClimbAtUptoRow.holds Try.pinned (OpenSpec.upto fnExactClimbAtSpec)

/-- 'laws.FnExactPrintOf', WHERE WHAT IT READS IS OF BULK AT MOST 1048576: true; the input reads as it did. -/
def fnExactPrintOfUptoRow : OpenClaim := { program := "ytlokofafojepdaa", sum := "16801a4aa993d4b09b75f3e0530ae1f3ac5e3ee69268a775464bc6999f8109a9", func := "loop.example/g01133/laws.FnExactPrintOf", spec := "fnExactPrintOf", unfollowed := true, recurses := true, apart := false, narrowed := true }
def FnExactPrintOfUptoSaid : Prop := fnExactPrintOfUptoRow.holds Try.pinned (OpenSpec.upto fnExactPrintOfSpec)

/-- 'laws.FnExactPrintOfPart', WHERE WHAT IT READS IS OF BULK AT MOST 1048576: true; the input reads as it did. -/
def fnExactPrintOfPartUptoRow : OpenClaim := { program := "ytlokofafojepdaa", sum := "16801a4aa993d4b09b75f3e0530ae1f3ac5e3ee69268a775464bc6999f8109a9", func := "loop.example/g01133/laws.FnExactPrintOfPart", spec := "fnExactPrintOfPart", unfollowed := true, recurses := true, apart := false, narrowed := true }
def FnExactPrintOfPartUptoSaid : Prop := fnExactPrintOfPartUptoRow.holds Try.pinned (OpenSpec.upto fnExactPrintOfPartSpec)

/-- 'laws.FnExactRunCount', WHERE WHAT IT READS IS OF BULK AT MOST 1048576: true; the input reads as it did. -/
def fnExactRunCountUptoRow : OpenClaim := { program := "ytlokofafojepdaa", sum := "16801a4aa993d4b09b75f3e0530ae1f3ac5e3ee69268a775464bc6999f8109a9", func := "loop.example/g01133/laws.FnExactRunCount", spec := "fnExactRunCount", unfollowed := true, recurses := true, apart := false, narrowed := true }
def FnExactRunCountUptoSaid : Prop := fnExactRunCountUptoRow.holds Try.pinned (OpenSpec.upto fnExactRunCountSpec)

/-- 'laws.FnExactPairCounts', WHERE WHAT IT READS IS OF BULK AT MOST 1048576: true; the input reads as it did. -/
def fnExactPairCountsUptoRow : OpenClaim := { program := "ytlokofafojepdaa", sum := "16801a4aa993d4b09b75f3e0530ae1f3ac5e3ee69268a775464bc6999f8109a9", func := "loop.example/g01133/laws.FnExactPairCounts", spec := "fnExactPairCounts", unfollowed := true, recurses := true, apart := false, narrowed := true }
def FnExactPairCountsUptoSaid : Prop := fnExactPairCountsUptoRow.holds Try.pinned (OpenSpec.upto fnExactPairCountsSpec)

/-- 'laws.FnExactSparePower', WHERE WHAT IT READS IS OF BULK AT MOST 1048576: true; the input reads as it did. -/
def fnExactSparePowerUptoRow : OpenClaim := { program := "ytlokofafojepdaa", sum := "16801a4aa993d4b09b75f3e0530ae1f3ac5e3ee69268a775464bc6999f8109a9", func := "loop.example/g01133/laws.FnExactSparePower", spec := "fnExactSparePower", unfollowed := true, recurses := true, apart := false, narrowed := true }
def FnExactSparePowerUptoSaid : Prop := fnExactSparePowerUptoRow.holds Try.pinned (OpenSpec.upto fnExactSparePowerSpec)

/-- 'laws.FnExactScatteredCount', WHERE WHAT IT READS IS OF BULK AT MOST 1048576: true; the input reads as it did. -/
def fnExactScatteredCountUptoRow : OpenClaim := { program := "ytlokofafojepdaa", sum := "16801a4aa993d4b09b75f3e0530ae1f3ac5e3ee69268a775464bc6999f8109a9", func := "loop.example/g01133/laws.FnExactScatteredCount", spec := "fnExactScatteredCount", unfollowed := true, recurses := true, apart := false, narrowed := true }
def FnExactScatteredCountUptoSaid : Prop := fnExactScatteredCountUptoRow.holds Try.pinned (OpenSpec.upto fnExactScatteredCountSpec)

/-- 'laws.FnExactEmbeddedStart', WHERE WHAT IT READS IS OF BULK AT MOST 1048576: true; the input reads as it did. -/
def fnExactEmbeddedStartUptoRow : OpenClaim := { program := "ytlokofafojepdaa", sum := "16801a4aa993d4b09b75f3e0530ae1f3ac5e3ee69268a775464bc6999f8109a9", func := "loop.example/g01133/laws.FnExactEmbeddedStart", spec := "fnExactEmbeddedStart", unfollowed := true, recurses := true, apart := false, narrowed := true }
def FnExactEmbeddedStartUptoSaid : Prop := fnExactEmbeddedStartUptoRow.holds Try.pinned (OpenSpec.upto fnExactEmbeddedStartSpec)

end Rows
end Go.Proofs.Ytlokofafojepdaa
