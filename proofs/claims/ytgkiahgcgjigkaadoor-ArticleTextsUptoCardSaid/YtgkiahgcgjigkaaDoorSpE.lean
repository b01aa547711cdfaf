/- A part of the proof: SpE. -/
import Derived.Test.YtgkiahgcgjigkaaDoorAbU
set_option linter.all false
set_option linter.all false
namespace Go.Ab
mutual
def pre:Ty->List Ty
 | .mk v n a=>.mk v n a::pres a
def pres:List Ty->List Ty
 | []=>[]
 | t::l=>pre t++pres l
end
end Go.Ab
