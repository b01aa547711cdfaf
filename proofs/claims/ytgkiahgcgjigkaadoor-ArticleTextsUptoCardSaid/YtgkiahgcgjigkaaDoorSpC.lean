/- A part of the proof: SpC. -/
import Derived.Test.YtgkiahgcgjigkaaDoorSpA
set_option linter.all false
set_option linter.unusedVariables false
namespace Go.Ab
open Go.RowKit
end Go.Ab
namespace Go.Ab
open Go.RowKit
end Go.Ab

set_option linter.unusedVariables false
namespace Go.Ab
open Go.RowKit
end Go.Ab
