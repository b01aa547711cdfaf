/- A part of the proof: UP. -/
import Derived.Test.YtlebiodkgkeomaaGreatUC
import Derived.Test.YtlebiodkgkeomaaGreatSpA
import Derived.Test.YtlebiodkgkeomaaGreatSpE
set_option linter.all false
set_option linter.all false
namespace Go.Ab.X
open Go.RowKit Go.Ab
def pCmp:List (HB G)->List (N G)->Option (List (HB G)×N G)
 | [],[.v .str a,.v .str b]=>some ([],.v .int (cmpB a b))
 | _,_=>none
def insF(t:Nat)(l:List Tm)(i:Int)(v:List Tm):Option (List (HB G)×N G):=bif Nat.beq t tidTm then(if v.length=1/\0<=i/\i<=l.length/\l.length+1<=LIM then some ([.row t .tm (l.take i.toNat++v++l.drop i.toNat)],.row 0)else none)else none
def pIns:List (HB G)->List (N G)->Option (List (HB G)×N G)
 | [.row t .tm l],[.row 0,.v .int i,.v .ltm v]=>insF t l i v
 | _,_=>none
def itNodes:List (N G)->Option (List (Tup G [.ty]))
 | [.ip (.v .ty t) 0 []]=>some (pre t)
 | _=>none
end Go.Ab.X
