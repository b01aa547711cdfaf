/- A part of the proof: UT. -/
import Derived.Test.YtgkiahgcgjigkaaDoorUX
import Derived.Test.YtgkiahgcgjigkaaDoorProg
set_option linter.all false
set_option linter.all false
set_option maxRecDepth 100000
set_option maxHeartbeats 4000000
namespace Go.Ab.X
open Go.RowKit Go.Ab
theorem X_tab:tabB Go.Proofs.Tryd.prog X=true:=by kernel_rfl
end Go.Ab.X
