/- A part of the proof: AY. -/
import Derived.Test.YtgkiahgcgjigkaaDoorUXY
set_option linter.all false
set_option linter.all false
set_option maxRecDepth 100000
set_option maxHeartbeats 4000000
namespace Go.Ab.X
open Go.RowKit Go.Ab
noncomputable section
def y_formed(c1:Scmd):Option (Bool):=ans Y 11 (.p .bool) [.v .cmd c1]
def y_formed.j1(c1:Scmd)(s2:Bool):Option (Bool):=(bif(decide ((1:Int)<=c1.op))then(bif(decide (c1.op<=(29:Int)))then(bif s2 then(bif(decide (c1.op=(2:Int)))then some true else some (decide (c1.text=(⟨#[]⟩:ByteArray))))else(bif(decide (c1.n=(0:Int)))then(bif(decide (c1.op=(2:Int)))then some true else some (decide (c1.text=(⟨#[]⟩:ByteArray))))else some false))else some false)else some false)
theorem y_formed_eq(c1:Scmd):y_formed c1=(jn (y_formed.j1 c1) (fun kk1=>(bif(decide (c1.op=(1:Int)))then(kk1 true)else(bif(decide (c1.op=(26:Int)))then(kk1 true)else(kk1 (decide (c1.op=(27:Int)))))))):=
 aq c11 [.p .bool] (by kernel_rfl) rfl (by kernel_rfl) (by kernel_rfl)
def y_CF(s1:ByteArray)(f2:Nat):Option (Bool):=ans Y 24 (.p .bool) [.v .str s1,.fn f2 [] []]
theorem y_CF_eq(s1:ByteArray)(f2:Nat):y_CF s1 f2=dcR (.p .bool:Sh G) (pCF [] [.v .str s1,.fn f2 [] []]):=ans_prim (by kernel_rfl)
def y_fine(s1:ByteArray):Option (Bool):=ans Y 12 (.p .bool) [.v .str s1]
theorem y_fine_eq(s1:ByteArray):y_fine s1=(bif(!decide (s1=(⟨#[]⟩:ByteArray)))then(bif(decide ((ByteArray.size s1:Int)<=(30:Int)))then((y_CF s1 23).bind fun r2=>some (!r2))else some false)else some false):=
 aq c12 [.p .bool] (by kernel_rfl) rfl (by kernel_rfl) (by kernel_rfl)
def y_Split(s1:ByteArray)(sep2:ByteArray):Option ((List ByteArray)):=ans Y 36 (.p .lstr) [.v .str s1,.v .str sep2]
theorem y_Split_eq(s1:ByteArray)(sep2:ByteArray):y_Split s1 sep2=dcR (.p .lstr:Sh G) (pSplit [] [.v .str s1,.v .str sep2]):=ans_prim (by kernel_rfl)
def y_words:Option ((List ByteArray)):=ans Y 26 (.p .lstr) []
theorem y_words_eq:y_words=((y_Split (⟨#[32,110,117,109,32,110,97,109,101,32,110,105,108,32,97,112,112,101,110,100,32,116,121,112,101,118,97,114,32,116,121,112,101,111,112,32,118,97,114,32,99,111,110,115,116,32,99,111,109,98,32,108,97,109,98,100,97,32,114,101,102,108,32,98,101,116,97,32,97,115,115,117,109,101,32,116,114,97,110,115,32,109,107,99,111,109,98,32,101,113,109,112,32,100,101,100,117,99,116,32,97,98,115,32,105,110,115,116,32,105,110,115,116,116,121,112,101,32,110,101,119,116,121,112,101,32,110,101,119,99,111,110,115,116,32,97,120,105,111,109,32,100,101,102,105,110,101,32,100,101,102,116,121,112,101,32,100,101,102,32,114,101,102,32,112,111,112,32,115,97,118,101]⟩:ByteArray) (⟨#[32]⟩:ByteArray)).bind fun r1=>some r1):=
 aq c26 [.p .lstr] (by kernel_rfl) rfl (by kernel_rfl) (by kernel_rfl)
def y_Itoa(i1:Int):Option (ByteArray):=ans Y 27 (.p .str) [.v .int i1]
theorem y_Itoa_eq(i1:Int):y_Itoa i1=dcR (.p .str:Sh G) (pItoa [] [.v .int i1]):=ans_prim (by kernel_rfl)
def y_line(c1:Scmd):Option (ByteArray):=ans Y 14 (.p .str) [.v .cmd c1]
def y_line.j1(s4:ByteArray):Option (ByteArray):=(if ByteArray.size s4+ByteArray.size (⟨#[10]⟩:ByteArray)<=LIM then some (s4++(⟨#[10]⟩:ByteArray))else none)
def y_line.j2(c1:Scmd)(e3:ByteArray)(kk1:(ByteArray)->Option (ByteArray))(s5:Bool):Option (ByteArray):=(bif s5 then((y_Itoa c1.n).bind fun r6=>(if ByteArray.size (⟨#[32]⟩:ByteArray)+ByteArray.size r6<=LIM then(if ByteArray.size e3+ByteArray.size ((⟨#[32]⟩:ByteArray)++r6)<=LIM then(kk1 (e3++((⟨#[32]⟩:ByteArray)++r6)))else none)else none))else(bif(decide (c1.op=(2:Int)))then(if ByteArray.size (⟨#[32]⟩:ByteArray)+ByteArray.size c1.text<=LIM then(if ByteArray.size e3+ByteArray.size ((⟨#[32]⟩:ByteArray)++c1.text)<=LIM then(kk1 (e3++((⟨#[32]⟩:ByteArray)++c1.text)))else none)else none)else(kk1 e3)))
theorem y_line_eq(c1:Scmd):y_line c1=((y_words).bind fun r2=>((ixL r2 c1.op).bind fun e3=>(jn (y_line.j1) (fun kk1=>(jn (y_line.j2 c1 e3 kk1) (fun kk2=>(bif(decide (c1.op=(1:Int)))then(kk2 true)else(bif(decide (c1.op=(26:Int)))then(kk2 true)else(kk2 (decide (c1.op=(27:Int)))))))))))):=
 aq c14 [.p .str] (by kernel_rfl) rfl (by kernel_rfl) (by kernel_rfl)
end
end Go.Ab.X
