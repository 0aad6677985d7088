/-
  An abstract interpreter of loaded code, proved to tell the truth; a part of the proof that redpencillaw48.PastNil returns true, whatever the input.
-/
import Derived.Test.YtedijongecdhfaaGreatFacts
import Derived.Test.YtedijongecdhfaaGreatFuns
namespace Go.VI
open Go
namespace Tryz
noncomputable def h0 : Hp := { t := .nil, n := 0, low := 0 }
theorem k44 : run funs tab 100000 (.call 44 [] h0) = some (.val (bl true) none) := by kernel_rfl
end Tryz
end Go.VI
