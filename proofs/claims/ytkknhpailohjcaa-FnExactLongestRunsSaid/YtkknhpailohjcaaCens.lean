/-
  The program's census, and the reference's table of counts.
-/
import Derived.Test.YtkknhpailohjcaaCnt
import Derived.Test.YtkknhpailohjcaaLett
import Derived.Test.YtkknhpailohjcaaMake
namespace Go.Proofs.Ytkknhpailohjcaa
open Go.RowKit

end Go.Proofs.Ytkknhpailohjcaa
