/-
  DERIVED. GIVEN WITH THE SEED: THE CARDS: each row of YtkkadlihlbpbiaaDoorRows.lean that lists a variable, with what it lists TIED to the program's text (the seventh form; the later family's looks); each row that meets fmt, with fmt's text TOLD by the authors' own Lean function (tested against real Go, not proved from fmt's source: count such statements apart). THE CARD IS WHAT COUNTS. Prove the row's statement (the work); the ties are given (YtkkadlihlbpbiaaDoorTie.lean); close each card by the builder's one call (the guide's Derived/Test/ToyasCard.lean, 'card_holds'). Laid BY PROGRAM, IN A SANDBOX (cutbox-door.mjs). By AI agents, Wed Nov 11 2026. No macro, syntax, notation, axiom, sorry.
-/
import Derived.Test.YtkkadlihlbpbiaaDoorRows
import GoSem.ClaimSeven
namespace Go.Proofs.YtkkadlihlbpbiaaDoor
namespace Rows

/-- THE TIED CARD OF 'laws.FnExactReadFactors'. -/
def fnExactReadFactorsCard : Claim7 := { stood := { row := fnExactReadFactorsRow, standIns := [], harness := (true, "18bab51f5f3901d5383a136993e1c6651b219c375bbf71ba58b5263e44aceb3a"), looks := true }, kinds := [], alts := [], laidByText := true, laidKinds := [.data, .data, .data, .data, .sentinel, .sentinel, .pinned], laidTests := true, laidLooks := .later }
def FnExactReadFactorsCardSaid : Prop := Claim7.holds Tryd.pinned (.plain (OpenSpec.ofChange fnExactReadFactorsSpec)) fnExactReadFactorsCard

/-- THE SECOND FORM's CARD OF 'laws.FnExactReadFactors'. -/
def fnExactReadFactorsUptoCard : Claim7 := { stood := { row := fnExactReadFactorsUptoRow, standIns := [], harness := (true, "18bab51f5f3901d5383a136993e1c6651b219c375bbf71ba58b5263e44aceb3a"), looks := true }, kinds := [], alts := [], laidByText := true, laidKinds := [.data, .data, .data, .data, .sentinel, .sentinel, .pinned], laidTests := true, laidLooks := .later }
def FnExactReadFactorsUptoCardSaid : Prop := Claim7.holds Tryd.pinned (.plain (OpenSpec.upto fnExactReadFactorsSpec)) fnExactReadFactorsUptoCard
end Rows
end Go.Proofs.YtkkadlihlbpbiaaDoor
