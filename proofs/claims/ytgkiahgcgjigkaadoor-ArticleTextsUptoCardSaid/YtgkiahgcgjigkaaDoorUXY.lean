/- A part of the proof: UXY. -/
import Derived.Test.YtgkiahgcgjigkaaDoorUD
set_option linter.all false
set_option linter.all false
set_option maxRecDepth 100000
set_option maxHeartbeats 4000000
namespace Go.Ab.X
open Go.RowKit Go.Ab
def Y:List (Nat×Nat×FnX G):=[(0,11,.code c11),(0,12,.code c12),(0,14,.code c14),(0,26,.code c26),(0,24,.prim pCF),(0,36,.prim pSplit),(0,27,.prim pItoa)]
end Go.Ab.X
