/-
  Closed facts of the program's types and functions, printed by wip/gen/gen.py. No condition.
-/
import Derived.Test.YtgmomhdammdjgaaGreatProg
import Derived.Test.YtgmomhdammdjgaaGreatGrow
import Derived.RangeFuncLeaves
import Derived.RangeFuncStops
set_option linter.unusedVariables false
namespace Go.Proofs.YtgmomhdammdjgaaGreat
open Go Go.Proofs Go.RowKit
theorem mixed : Tryz.prog.follows .mixedOrders = true := by kernel_rfl

end Go.Proofs.YtgmomhdammdjgaaGreat
