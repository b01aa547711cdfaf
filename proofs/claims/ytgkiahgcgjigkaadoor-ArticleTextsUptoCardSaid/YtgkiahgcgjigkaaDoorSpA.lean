/- A part of the proof: SpA. -/
import Derived.Test.YtgkiahgcgjigkaaDoorAbT
import Derived.Test.YtgkiahgcgjigkaaDoorAbU
import Derived.Shelf.Small.Strs
set_option linter.all false
set_option linter.unusedVariables false
namespace Go.Ab
end Go.Ab

set_option linter.unusedVariables false
namespace Go.Ab
open Go.RowKit
section
open Classical
end
theorem ixL_nat{α:Type}(l:List α)(i:Nat):ixL l (i:Int)=l[i]?:=by simp[ixL]
theorem ixS_nat(s:ByteArray)(i:Nat):ixS s (i:Int)=(s.data[i]?).map fun c=>(c.toNat:Int):=by simp[ixS]
end Go.Ab
