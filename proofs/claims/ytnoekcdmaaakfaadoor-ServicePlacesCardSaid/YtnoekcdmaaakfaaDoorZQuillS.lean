/- Layer 1: whether bytes are the same. -/
import Derived.Test.YtnoekcdmaaakfaaDoorZCd
import Derived.Test.YtnoekcdmaaakfaaDoorZQuillD
-- STEPWISE
-- WK
set_option linter.unusedVariables false
set_option linter.unusedSimpArgs false
set_option maxRecDepth 10000
namespace Go.Proofs.YtnoekcdmaaakfaaDoor.VL
open Go Go.RowKit Go.Lib

end Go.Proofs.YtnoekcdmaaakfaaDoor.VL
