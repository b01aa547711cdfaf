/- A part of the proof: UP. -/
import Derived.Test.YtlebiodkgkeomaaGreatUC
import Derived.Test.YtlebiodkgkeomaaGreatSpA
import Derived.Test.YtlebiodkgkeomaaGreatSpE
set_option linter.all false
set_option linter.all false
namespace Go.Ab.X
open Go.RowKit Go.Ab
def pCmp:List (HB G)->List (N G)->Option (List (HB G)×N G)
 | [],[.v .str a,.v .str b]=>some ([],.v .int (cmpB a b))
 | _,_=>none
end Go.Ab.X
