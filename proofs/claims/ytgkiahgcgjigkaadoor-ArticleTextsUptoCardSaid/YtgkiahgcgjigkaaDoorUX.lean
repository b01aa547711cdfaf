/- A part of the proof: UX. -/
import Derived.Test.YtgkiahgcgjigkaaDoorUD
set_option linter.all false
set_option linter.all false
set_option maxRecDepth 100000
set_option maxHeartbeats 4000000
namespace Go.Ab.X
open Go.RowKit Go.Ab
def X:List (Nat×Nat×FnX G):=[(0,3,.code c3),(0,4,.code c4),(0,5,.code c5),(0,7,.code c7),(0,8,.code c8),(0,9,.code c9),(0,10,.code c10),(0,11,.code c11),(0,12,.code c12),(0,14,.code c14),(0,17,.code c17),(0,18,.code c18),(0,19,.code c19),(0,21,.code c21),(0,22,.code c22),(0,23,.code c23),(0,26,.code c26),(0,28,.code c28),(0,29,.code c29),(0,31,.code c31),(0,33,.code c33),(0,24,.prim pCF),(0,36,.prim pSplit),(0,27,.prim pItoa),(0,6,.prim pText),(0,20,.prim pCut),(0,32,.prim pAtoi)]
end Go.Ab.X
