/-
  The walks of the laws on tests (chapter 1).
-/
import Derived.Test.YtfhfjkpheloanaaDoorTests
namespace Go.Proofs.YtfhfjkpheloanaaDoor
open Go.RowKit
set_option linter.unusedVariables false
set_option maxHeartbeats 400000

end Go.Proofs.YtfhfjkpheloanaaDoor
