/-
  DERIVED. GIVEN WITH THE SEED: THE CARDS: each row of YtnhkoinjjbfofaaDoorRows.lean that lists a variable, with what it lists TIED to the program's text (the seventh form; the later family's looks); each row that meets fmt, with fmt's text TOLD by the authors' own Lean function (tested against real Go, not proved from fmt's source: count such statements apart). THE CARD IS WHAT COUNTS. Prove the row's statement (the work); the ties are given (YtnhkoinjjbfofaaDoorTie.lean); close each card by the builder's one call (the guide's Derived/Test/ToyasCard.lean, 'card_holds'). Laid BY PROGRAM, IN A SANDBOX (cutbox-door.mjs). By AI agents, Wed Nov 11 2026. No macro, syntax, notation, axiom, sorry.
-/
import Derived.Test.YtnhkoinjjbfofaaDoorRows
import GoSem.ClaimSeven
namespace Go.Proofs.YtnhkoinjjbfofaaDoor
namespace Rows

/-- THE TIED CARD OF 'laws.FnGrammarText'. -/
def fnGrammarTextCard : Claim7 := { stood := { row := fnGrammarTextRow, standIns := [], harness := (true, "81701c6b0d5bfa9b8ee299751a525254d92618ae0fe25eddfee37f42f503a356"), looks := true }, kinds := [], alts := [], laidByText := true, laidKinds := [.data, .data, .data, .data, .sentinel, .sentinel, .pinned], laidTests := true, laidLooks := .later }
def FnGrammarTextCardSaid : Prop := Claim7.holds Tryd.pinned (.plain (OpenSpec.ofChange fnGrammarTextSpec)) fnGrammarTextCard

/-- THE SECOND FORM's CARD OF 'laws.FnGrammarText'. -/
def fnGrammarTextUptoCard : Claim7 := { stood := { row := fnGrammarTextUptoRow, standIns := [], harness := (true, "81701c6b0d5bfa9b8ee299751a525254d92618ae0fe25eddfee37f42f503a356"), looks := true }, kinds := [], alts := [], laidByText := true, laidKinds := [.data, .data, .data, .data, .sentinel, .sentinel, .pinned], laidTests := true, laidLooks := .later }
def FnGrammarTextUptoCardSaid : Prop := Claim7.holds Tryd.pinned (.plain (OpenSpec.upto fnGrammarTextSpec)) fnGrammarTextUptoCard
end Rows
end Go.Proofs.YtnhkoinjjbfofaaDoor
