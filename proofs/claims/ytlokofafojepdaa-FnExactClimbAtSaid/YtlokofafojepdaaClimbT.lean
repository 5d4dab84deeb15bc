/-
  The climb of a word: in the reference.
-/
import Derived.Test.YtlokofafojepdaaClimbS
import Derived.Deep.RegionWith
namespace Go.Proofs.Ytlokofafojepdaa
open Go.RowKit

/-- the climb of the last rule -/
def climT (ws : List Int) (rs : List Fac) : Cl := if rs.length = 0 then Cl.nil else (clim ws rs).getD (rs.length - 1) Cl.nil
end Go.Proofs.Ytlokofafojepdaa
