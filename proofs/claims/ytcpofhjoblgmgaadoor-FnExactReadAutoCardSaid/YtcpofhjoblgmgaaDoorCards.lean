/-
  DERIVED. GIVEN WITH THE SEED: THE CARDS: each row of YtcpofhjoblgmgaaDoorRows.lean that lists a variable, with what it lists TIED to the program's text (the seventh form; the later family's looks); each row that meets fmt, with fmt's text TOLD by the authors' own Lean function (tested against real Go, not proved from fmt's source: count such statements apart). THE CARD IS WHAT COUNTS. Prove the row's statement (the work); the ties are given (YtcpofhjoblgmgaaDoorTie.lean); close each card by the builder's one call (the guide's Derived/Test/ToyasCard.lean, 'card_holds'). Laid BY PROGRAM, IN A SANDBOX (cutbox-door.mjs). By AI agents, Wed Nov 11 2026. No macro, syntax, notation, axiom, sorry.
-/
import Derived.Test.YtcpofhjoblgmgaaDoorRows
import GoSem.ClaimSeven
namespace Go.Proofs.YtcpofhjoblgmgaaDoor
namespace Rows

/-- THE TIED CARD OF 'laws.FnExactReadAuto'. -/
def fnExactReadAutoCard : Claim7 := { stood := { row := fnExactReadAutoRow, standIns := [], harness := (true, "0ebbcbffa490720101baeb9d22038174971a1b568f1c6a1cebfc76669bcdb56a"), looks := true }, kinds := [], alts := [], laidByText := true, laidKinds := [.data, .data, .data, .data, .sentinel, .sentinel, .pinned], laidTests := true, laidLooks := .later }
def FnExactReadAutoCardSaid : Prop := Claim7.holds Tryd.pinned (.plain (OpenSpec.ofChange fnExactReadAutoSpec)) fnExactReadAutoCard

/-- THE SECOND FORM's CARD OF 'laws.FnExactReadAuto'. -/
def fnExactReadAutoUptoCard : Claim7 := { stood := { row := fnExactReadAutoUptoRow, standIns := [], harness := (true, "0ebbcbffa490720101baeb9d22038174971a1b568f1c6a1cebfc76669bcdb56a"), looks := true }, kinds := [], alts := [], laidByText := true, laidKinds := [.data, .data, .data, .data, .sentinel, .sentinel, .pinned], laidTests := true, laidLooks := .later }
def FnExactReadAutoUptoCardSaid : Prop := Claim7.holds Tryd.pinned (.plain (OpenSpec.upto fnExactReadAutoSpec)) fnExactReadAutoUptoCard
end Rows
end Go.Proofs.YtcpofhjoblgmgaaDoor
