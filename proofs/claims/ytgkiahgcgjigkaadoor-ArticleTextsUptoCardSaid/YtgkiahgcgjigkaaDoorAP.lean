/- A part of the proof: AP. -/
import Derived.Test.YtgkiahgcgjigkaaDoorUC
import Derived.Test.YtgkiahgcgjigkaaDoorSpA
import Derived.Lib.IndexMore
import Derived.Lib.Split
import Derived.Lib.ItoaNum
import Derived.Lib.AtoiAll
import Derived.Shelf.GgClosure.StringsRunes
set_option linter.all false
set_option linter.all false
namespace Go.Ab.X
open Go.RowKit Go.Ab
def cutB(s p:ByteArray):ByteArray×ByteArray×Bool:=(⟨(Lib.cut s.data.toList p.data.toList).1.toArray⟩,⟨(Lib.cut s.data.toList p.data.toList).2.1.toArray⟩,(Lib.cut s.data.toList p.data.toList).2.2)
def splB(s p:ByteArray):List ByteArray:=Lib.splitB p 0 (Lib.countB s p) s
def itoaB(n:Int):ByteArray:=⟨(Lib.itoa n).toArray⟩
def atoiB(s:ByteArray):Int:=match Lib.atoiAll s.data.toList with
 | .ok v=>v
 | .range=>Lib.atoiSat s.data.toList
 | _=>0
def odd(r:Nat):Bool:=decide (r<33) || decide (126<r)
def oddB(s:ByteArray):Bool:=decide (0<=Lib.idxFunc odd true s)
def pCut:List (HB G)->List (N G)->Option (List (HB G)×N G)
 | [],[.v .str s,.v .str p]=>some ([],.tup [.v .str (cutB s p).1,.v .str (cutB s p).2.1,.v .bool (cutB s p).2.2])
 | _,_=>none
def pSplit:List (HB G)->List (N G)->Option (List (HB G)×N G)
 | [],[.v .str s,.v .str p]=>bif Nat.blt 0 p.size && (Nat.ble (splB s p).length LIM && (splB s p).all fun x=>Nat.ble x.size LIM)then some ([],.v .lstr (splB s p))else none
 | _,_=>none
def pItoa:List (HB G)->List (N G)->Option (List (HB G)×N G)
 | [],[.v .int n]=>some ([],.v .str (itoaB n))
 | _,_=>none
def pAtoi:List (HB G)->List (N G)->Option (List (HB G)×N G)
 | [],[.v .str s]=>some ([],.tup [.v .int (atoiB s),.u])
 | _,_=>none
def pCF:List (HB G)->List (N G)->Option (List (HB G)×N G)
 | [],[.v .str s,.fn f [] []]=>bif Nat.beq f 23 then some ([],.v .bool (oddB s))else none
 | _,_=>none
def num(c:Scmd):Bool:=decide (c.op=1) || decide (c.op=26) || decide (c.op=27)
def fmB(c:Scmd):Bool:=decide (1<=c.op) && decide (c.op<=29) && (num c || decide (c.n=0)) && (decide (c.op=2) || decide (c.text=⟨#[]⟩))
def fineB(s:ByteArray):Bool:=!decide (s=⟨#[]⟩) && decide (s.size<=30) && !oddB s
def wordsL:List ByteArray:=splB (⟨#[32,110,117,109,32,110,97,109,101,32,110,105,108,32,97,112,112,101,110,100,32,116,121,112,101,118,97,114,32,116,121,112,101,111,112,32,118,97,114,32,99,111,110,115,116,32,99,111,109,98,32,108,97,109,98,100,97,32,114,101,102,108,32,98,101,116,97,32,97,115,115,117,109,101,32,116,114,97,110,115,32,109,107,99,111,109,98,32,101,113,109,112,32,100,101,100,117,99,116,32,97,98,115,32,105,110,115,116,32,105,110,115,116,116,121,112,101,32,110,101,119,116,121,112,101,32,110,101,119,99,111,110,115,116,32,97,120,105,111,109,32,100,101,102,105,110,101,32,100,101,102,116,121,112,101,32,100,101,102,32,114,101,102,32,112,111,112,32,115,97,118,101]⟩) ⟨#[32]⟩
def lineB(c:Scmd):ByteArray:=wordsL.getD c.op.toNat ⟨#[]⟩++(bif num c then⟨#[32]⟩++itoaB c.n else bif decide (c.op=2)then⟨#[32]⟩++c.text else⟨#[]⟩)++⟨#[10]⟩
def badB(c:Scmd):Bool:=!fmB c || (decide (c.op=2) && !fineB c.text)
def catB:List Scmd->ByteArray->Option ByteArray
 | [],b=>some b
 | c::l,b=>bif decide (65536<(b++lineB c).size)then none else catB l (b++lineB c)
def textB(l:List Scmd):ByteArray×Int:=bif l.any badB then(⟨#[]⟩,2)else match catB l ⟨#[]⟩with
 | none=>(⟨#[]⟩,4)
 | some b=>(b,0)
def pText:List (HB G)->List (N G)->Option (List (HB G)×N G)
 | [],[.v .lcmd l]=>some ([],.tup [.v .str (textB l).1,.v .int (textB l).2])
 | _,_=>none
end Go.Ab.X
