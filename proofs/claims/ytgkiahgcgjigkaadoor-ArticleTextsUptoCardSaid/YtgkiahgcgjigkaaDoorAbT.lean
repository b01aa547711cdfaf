/- A part of the proof: AbT. -/
import Derived.Test.YtgkiahgcgjigkaaDoorAbQ
set_option linter.all false
set_option linter.unusedVariables false
namespace Go.Ab
open Go.RowKit
inductive Ty where
 | mk (v:Bool) (n:ByteArray) (a:List Ty)
def Ty.v:Ty->Bool
 | .mk v _ _=>v
def Ty.n:Ty->ByteArray
 | .mk _ n _=>n
def Ty.a:Ty->List Ty
 | .mk _ _ a=>a
inductive Tm where
 | mk (k:Int) (n:ByteArray) (y:Ty) (i:Int) (s:List Tm)
def Tm.k:Tm->Int
 | .mk k _ _ _ _=>k
def Tm.n:Tm->ByteArray
 | .mk _ n _ _ _=>n
def Tm.y:Tm->Ty
 | .mk _ _ y _ _=>y
def Tm.i:Tm->Int
 | .mk _ _ _ i _=>i
def Tm.s:Tm->List Tm
 | .mk _ _ _ _ s=>s
mutual
def tyC:Ty->List AV
 | .mk v n a=>[.b v,.s n,.sl false 3 (tysC a)]
def tysC:List Ty->List (List AV)
 | []=>[]
 | t::l=>tyC t::tysC l
end
mutual
def tmC:Tm->List AV
 | .mk k n y i s=>.i .u8 k::.s n::(tyC y++[.i .i64 i,.sl false 7 (tmsC s)])
def tmsC:List Tm->List (List AV)
 | []=>[]
 | t::l=>tmC t::tmsC l
end
theorem tysC_map:∀ l:List Ty,tysC l=l.map tyC
 | []=>rfl
 | t::l=>by simp[tysC,tysC_map l]
theorem tmsC_map:∀ l:List Tm,tmsC l=l.map tmC
 | []=>rfl
 | t::l=>by simp[tmsC,tmsC_map l]
@[simp] theorem tysC_length (l:List Ty):(tysC l).length=l.length:=by simp[tysC_map]
@[simp] theorem tmsC_length (l:List Tm):(tmsC l).length=l.length:=by simp[tmsC_map]
theorem tyC_eq(t:Ty):tyC t=[.b t.v,.s t.n,.sl false 3 (tysC t.a)]:=by cases t;simp[tyC,Ty.v,Ty.n,Ty.a]
theorem tmC_eq(t:Tm):tmC t=.i .u8 t.k::.s t.n::(tyC t.y++[.i .i64 t.i,.sl false 7 (tmsC t.s)]):=by cases t;simp[tmC,Tm.k,Tm.n,Tm.y,Tm.i,Tm.s]
@[simp] theorem tyC_length (t:Ty):(tyC t).length=3:=by simp[tyC_eq]
@[simp] theorem tmC_length (t:Tm):(tmC t).length=7:=by simp[tmC_eq,tyC_eq]
mutual
theorem pure_ty:∀ t:Ty,pureL (tyC t)=true
 | .mk v n a=>by simp[tyC,pureL,pureB,pure_tys a]
theorem pure_tys:∀ l:List Ty,pureE (tysC l)=true
 | []=>rfl
 | t::l=>by simp[tysC,pureE,pure_ty t,pure_tys l]
end
mutual
theorem pure_tm:∀ t:Tm,pureL (tmC t)=true
 | .mk k n y i s=>by simp[tmC,tyC_eq,pureL,pureB,pure_tys,pure_tms s]
theorem pure_tms:∀ l:List Tm,pureE (tmsC l)=true
 | []=>rfl
 | t::l=>by simp[tmsC,pureE,pure_tm t,pure_tms l]
end
end Go.Ab
namespace Go.Ab
open Go.RowKit
theorem wr64{n:Int}(h1 : -9223372036854775808<=n)(h2:n<=9223372036854775807):IntKind.i64.wrap n=n:=by
 have e1:IntKind.i64.signed=true:=rfl
 have e2:IntKind.i64.bits=64:=rfl
 simp only[IntKind.wrap,e1,e2]
 simp
 omega
end Go.Ab
namespace Go.Ab
end Go.Ab
