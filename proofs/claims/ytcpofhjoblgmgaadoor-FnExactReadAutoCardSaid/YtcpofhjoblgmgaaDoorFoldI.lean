
/-
  impl.folded at int64: what it makes of a grammar, by the contracts of the two functions that it is handed.
-/
import Derived.Test.YtcpofhjoblgmgaaDoorFoldM
import Derived.Test.YtcpofhjoblgmgaaDoorFrame
import Derived.Deep.RegionHeld3
namespace Go.Proofs.YtcpofhjoblgmgaaDoor
open Go.RowKit

theorem calls_arg {P : Program} {f : FuncId} {a b : Int} {cl : Array Value} {w : World} {Q : Ending → World → Prop} (h : a = b) (hc : Calls P f (#[.int .i64 b] ++ cl) w Q) : Calls P f (#[.int .i64 a] ++ cl) w Q := by rw [h]; exact hc
/-- a function of the program's own, that can be called by its value -/
def EnterOk (f : FuncId) : Prop := ∀ (args : Array Value) (w : World), Sem.run Tryd.prog (callFunc f args) w = .ok (.enter f args) w
theorem enterOk {f : FuncId} {fn : Func} (h : Tryd.prog.funcs[f]? = some fn) (h1 : (fn.name == "runtime.NumGoroutine") = false) (h2 : fn.body.isNone = false) : EnterOk f := by
  intro args w
  have h3 : ¬ fn.name = "runtime.NumGoroutine" := by simpa using h1
  have h4 : ¬ fn.body = none := by intro e; rw [e] at h2; cases h2
  simp [callFunc, h, h3, h4]

end Go.Proofs.YtcpofhjoblgmgaaDoor
