/-
  DERIVED. GIVEN WITH THE SEED: THE CARDS: each row of YtmfgmkahifcgpaaDoorRows.lean that lists a variable, with what it lists TIED to the program's text (the seventh form; the later family's looks); each row that meets fmt, with fmt's text TOLD by the authors' own Lean function (tested against real Go, not proved from fmt's source: count such statements apart). THE CARD IS WHAT COUNTS. Prove the row's statement (the work); the ties are given (YtmfgmkahifcgpaaDoorTie.lean); close each card by the builder's one call (the guide's Derived/Test/ToyasCard.lean, 'card_holds'). Laid BY PROGRAM, IN A SANDBOX (cutbox-door.mjs). By AI agents, Wed Nov 11 2026. No macro, syntax, notation, axiom, sorry.
-/
import Derived.Test.YtmfgmkahifcgpaaDoorRows
import GoSem.ClaimSeven
namespace Go.Proofs.YtmfgmkahifcgpaaDoor
namespace Rows

/-- THE TIED CARD OF 'laws.FnExactFactorsText'. -/
def fnExactFactorsTextCard : Claim7 := { stood := { row := fnExactFactorsTextRow, standIns := [], harness := (true, "c441e3d56fcad0b6c12989b4baf22f9dfd651de2380730322618ac8f4977118f"), looks := false }, kinds := [], alts := [], laidByText := true, laidKinds := [.data, .data, .data], laidTests := true, laidLooks := .later }
def FnExactFactorsTextCardSaid : Prop := Claim7.holds Tryd.pinned (.plain (OpenSpec.ofChange fnExactFactorsTextSpec)) fnExactFactorsTextCard

/-- THE SECOND FORM's CARD OF 'laws.FnExactFactorsText'. -/
def fnExactFactorsTextUptoCard : Claim7 := { stood := { row := fnExactFactorsTextUptoRow, standIns := [], harness := (true, "c441e3d56fcad0b6c12989b4baf22f9dfd651de2380730322618ac8f4977118f"), looks := false }, kinds := [], alts := [], laidByText := true, laidKinds := [.data, .data, .data], laidTests := true, laidLooks := .later }
def FnExactFactorsTextUptoCardSaid : Prop := Claim7.holds Tryd.pinned (.plain (OpenSpec.upto fnExactFactorsTextSpec)) fnExactFactorsTextUptoCard
end Rows
end Go.Proofs.YtmfgmkahifcgpaaDoor
