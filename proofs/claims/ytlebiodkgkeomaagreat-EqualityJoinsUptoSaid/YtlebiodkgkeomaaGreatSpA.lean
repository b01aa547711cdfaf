/- A part of the proof: SpA. -/
import Derived.Test.YtlebiodkgkeomaaGreatAbT
import Derived.Test.YtlebiodkgkeomaaGreatAbU
import Derived.Shelf.Small.Strs
set_option linter.all false
set_option linter.unusedVariables false
namespace Go.Ab
mutual
def cntY:Ty->Int->Int->Int
 | .mk _ n a,left,d=>if d=0 then 0 else cntYs a (left-1-(n.size:Int).tdiv 100) (d-1)
def cntYs:List Ty->Int->Int->Int
 | [],left,_=>left
 | t::l,left,d=>if 0<left then cntYs l (cntY t left d) d else left
end
theorem cntY_eq(t:Ty)(left d:Int):cntY t left d=if d=0 then 0 else cntYs t.a (left-1-(t.n.size:Int).tdiv 100) (d-1):=by
 cases t;simp only[cntY,Ty.n,Ty.a]
def greatY(t:Ty):Bool:=decide (cntY t 1500 500<=0)
mutual
def cntT:Tm->Int->Int->Int
 | .mk _ n y _ s,left,d=>if d=0\/greatY y=true then 0 else cntTs s (left-1-(n.size:Int).tdiv 100) (d-1)
def cntTs:List Tm->Int->Int->Int
 | [],left,_=>left
 | t::l,left,d=>if 0<left then cntTs l (cntT t left d) d else left
end
theorem cntT_eq(t:Tm)(left d:Int):cntT t left d=if d=0\/greatY t.y=true then 0 else cntTs t.s (left-1-(t.n.size:Int).tdiv 100) (d-1):=by
 cases t;rw[cntT];rfl
mutual
def szT:Tm->Nat
 | .mk _ _ _ _ s=>1+szTs s
def szTs:List Tm->Nat
 | []=>0
 | t::l=>szT t+szTs l
end
mutual
def dpT:Tm->Nat
 | .mk _ _ _ _ s=>1+dpTs s
def dpTs:List Tm->Nat
 | []=>0
 | t::l=>max (dpT t) (dpTs l)
end
mutual
def szY:Ty->Nat
 | .mk _ _ s=>1+szYs s
def szYs:List Ty->Nat
 | []=>0
 | t::l=>szY t+szYs l
end
mutual
def dpY:Ty->Nat
 | .mk _ _ s=>1+dpYs s
def dpYs:List Ty->Nat
 | []=>0
 | t::l=>max (dpY t) (dpYs l)
end
theorem szT_eq(t:Tm):szT t=1+szTs t.s:=by cases t;simp[szT,Tm.s]
theorem dpT_eq(t:Tm):dpT t=1+dpTs t.s:=by cases t;simp[dpT,Tm.s]
theorem szY_eq(t:Ty):szY t=1+szYs t.a:=by cases t;simp[szY,Ty.a]
theorem dpY_eq(t:Ty):dpY t=1+dpYs t.a:=by cases t;simp[dpY,Ty.a]
theorem szTs_take:∀(s:List Tm) (i:Nat) (x:Tm),s[i]? = some x->szTs (s.take (i+1))=szTs (s.take i)+szT x
 | [],i,x,h=>by simp at h
 | t::l,0,x,h=>by simp at h;subst h;simp[szTs]
 | t::l,i+1,x,h=>by
  have:=szTs_take l i x (by simpa using h)
  simp only[List.take_succ_cons,szTs]at this ⊢
  omega
theorem dpTs_take:∀(s:List Tm) (i:Nat) (x:Tm),s[i]? = some x->dpTs (s.take (i+1))=max (dpTs (s.take i)) (dpT x)
 | [],i,x,h=>by simp at h
 | t::l,0,x,h=>by simp at h;subst h;simp[dpTs]
 | t::l,i+1,x,h=>by
  have:=dpTs_take l i x (by simpa using h)
  simp only[List.take_succ_cons,dpTs]at this ⊢
  omega
theorem szYs_take:∀(s:List Ty) (i:Nat) (x:Ty),s[i]? = some x->szYs (s.take (i+1))=szYs (s.take i)+szY x
 | [],i,x,h=>by simp at h
 | t::l,0,x,h=>by simp at h;subst h;simp[szYs]
 | t::l,i+1,x,h=>by
  have:=szYs_take l i x (by simpa using h)
  simp only[List.take_succ_cons,szYs]at this ⊢
  omega
theorem dpYs_take:∀(s:List Ty) (i:Nat) (x:Ty),s[i]? = some x->dpYs (s.take (i+1))=max (dpYs (s.take i)) (dpY x)
 | [],i,x,h=>by simp at h
 | t::l,0,x,h=>by simp at h;subst h;simp[dpYs]
 | t::l,i+1,x,h=>by
  have:=dpYs_take l i x (by simpa using h)
  simp only[List.take_succ_cons,dpYs]at this ⊢
  omega
theorem szTs_le:∀(s:List Tm) (i:Nat),szTs (s.take i)<=szTs s
 | [],i=>by simp
 | t::l,0=>by simp[szTs]
 | t::l,i+1=>by have:=szTs_le l i;simp only[List.take_succ_cons,szTs];omega
theorem szYs_le:∀(s:List Ty) (i:Nat),szYs (s.take i)<=szYs s
 | [],i=>by simp
 | t::l,0=>by simp[szYs]
 | t::l,i+1=>by have:=szYs_le l i;simp only[List.take_succ_cons,szYs];omega
mutual
theorem dpT_le:∀ t:Tm,dpT t<=szT t
 | .mk _ _ _ _ s=>by have:=dpTs_le s;simp only[dpT,szT];omega
theorem dpTs_le:∀ s:List Tm,dpTs s<=szTs s
 | []=>by simp[dpTs]
 | t::l=>by have:=dpT_le t;have:=dpTs_le l;simp only[dpTs,szTs];omega
end
mutual
theorem dpY_le:∀ t:Ty,dpY t<=szY t
 | .mk _ _ s=>by have:=dpYs_le s;simp only[dpY,szY];omega
theorem dpYs_le:∀ s:List Ty,dpYs s<=szYs s
 | []=>by simp[dpYs]
 | t::l=>by have:=dpY_le t;have:=dpYs_le l;simp only[dpYs,szYs];omega
end
theorem tdiv_rng(n:Nat)(h:n<=LIM):0<=(n:Int).tdiv 100/\(n:Int).tdiv 100<=21474836:=by
 rw[Int.tdiv_eq_ediv_of_nonneg (by omega)]
 simp only[LIM]at h
 omega
mutual
theorem cntY_rng:∀(t:Ty) (left d:Int),fitY t->0<left->-30000000<=cntY t left d/\cntY t left d<=left
 | .mk v n a,left,d,hf,hl=>by
  simp only[fitY]at hf
  simp only[cntY]
  split
  ·omega
  ·have h1:=tdiv_rng n.size hf.1
   have:=cntYs_rng a (left-1-(n.size:Int).tdiv 100) (d-1) hf.2.2 (by omega)
   omega
theorem cntYs_rng:∀(l:List Ty) (left d:Int),fitYs l->-30000000<=left->-30000000<=cntYs l left d/\cntYs l left d<=left
 | [],left,d,_,h=>by simp only[cntYs];omega
 | t::l,left,d,hf,h=>by
  simp only[fitYs]at hf
  simp only[cntYs]
  split
  ·have h1:=cntY_rng t left d hf.1 (by omega)
   have h2:=cntYs_rng l (cntY t left d) d hf.2 h1.1
   omega
  ·omega
end
mutual
theorem cntT_rng:∀(t:Tm) (left d:Int),fitT t->0<left->-30000000<=cntT t left d/\cntT t left d<=left
 | .mk k n y i s,left,d,hf,hl=>by
  simp only[fitT]at hf
  simp only[cntT]
  split
  ·omega
  ·have h1:=tdiv_rng n.size hf.2.1
   have:=cntTs_rng s (left-1-(n.size:Int).tdiv 100) (d-1) hf.2.2.2.2.2 (by omega)
   omega
theorem cntTs_rng:∀(l:List Tm) (left d:Int),fitTs l->-30000000<=left->-30000000<=cntTs l left d/\cntTs l left d<=left
 | [],left,d,_,h=>by simp only[cntTs];omega
 | t::l,left,d,hf,h=>by
  simp only[fitTs]at hf
  simp only[cntTs]
  split
  ·have h1:=cntT_rng t left d hf.1 (by omega)
   have h2:=cntTs_rng l (cntT t left d) d hf.2 h1.1
   omega
  ·omega
end
theorem fitY_eq(t:Ty):fitY t↔t.n.size<=LIM/\t.a.length<=LIM/\fitYs t.a:=by cases t;simp[fitY,Ty.n,Ty.a]
theorem fitT_eq(t:Tm):fitT t↔(0<=t.k/\t.k<=255)/\t.n.size<=LIM/\fitY t.y/\(IntKind.i64.min<=t.i/\t.i<=IntKind.i64.max)/\t.s.length<=LIM/\fitTs t.s:=by cases t;simp[fitT,Tm.k,Tm.n,Tm.y,Tm.i,Tm.s]
def smallT(t:Tm):Bool:=decide (szT t<=32000) && decide (dpT t<=300)
def greatT(t:Tm):Bool:=if 0<cntT t 2000 400 then false else(decide (cntT t 40000 400<=0) || smallT t)
end Go.Ab

set_option linter.unusedVariables false
namespace Go.Ab
open Go.RowKit
section
open Classical
end
theorem ixL_nat{α:Type}(l:List α)(i:Nat):ixL l (i:Int)=l[i]?:=by simp[ixL]
theorem ixS_nat(s:ByteArray)(i:Nat):ixS s (i:Int)=(s.data[i]?).map fun c=>(c.toNat:Int):=by simp[ixS]
def lexL{α:Type}(f:α->α->Int):List α->List α->Int
 | x::l,y::r=>if f x y≠0 then f x y else lexL f l r
 | _,_=>0
def cmpB(a b:ByteArray):Int:=Lib.compareBytes a.data.toList b.data.toList
theorem cmpL_rng:∀(a b:List UInt8),Lib.compareBytes a b = -1\/Lib.compareBytes a b=0\/Lib.compareBytes a b=1
 | [],[]=>by simp[Lib.compareBytes]
 | [],_::_=>by simp[Lib.compareBytes]
 | _::_,[]=>by simp[Lib.compareBytes]
 | a::l,b::bs=>by
  unfold Lib.compareBytes
  split
  ·simp
  ·split
   ·simp
   ·exact cmpL_rng l bs
theorem cmpL_eq:∀(a b:List UInt8),Lib.compareBytes a b=if a=b then 0 else if Op.bytesLess a b=true then -1 else 1
 | [],[]=>by simp[Lib.compareBytes]
 | [],_::_=>by simp[Lib.compareBytes,Op.bytesLess]
 | _::_,[]=>by simp[Lib.compareBytes,Op.bytesLess]
 | a::l,b::r=>by
  unfold Lib.compareBytes Op.bytesLess
  by_cases h1:a<b
  ·have:a≠b:=by intro e;subst e;exact absurd h1 (UInt8.lt_irrefl a)
   simp[h1,this]
  ·by_cases h2:b<a
   ·have:a≠b:=by intro e;subst e;exact absurd h2 (UInt8.lt_irrefl a)
    simp[h1,h2,this]
   ·have:a=b:=UInt8.le_antisymm (UInt8.not_lt.1 h2) (UInt8.not_lt.1 h1)
    subst this
    simp[h1,cmpL_eq l r]
theorem toL_eq(a:ByteArray):a.toList=a.data.toList:=ByteArray.toList_eq a
theorem ba_ext{a b:ByteArray}(h:a.data.toList=b.data.toList):a=b:=ByteArray.ext (Array.toList_inj.1 h)
theorem cmpB_eq(a b:ByteArray):cmpB a b=if a=b then 0 else if blt a b=true then -1 else 1:=by
 unfold cmpB blt
 rw[cmpL_eq,toL_eq,toL_eq]
 by_cases h:a=b
 ·subst h;simp
 ·have:¬ a.data.toList=b.data.toList:=fun e=>h (ba_ext e)
  simp[h,this]
mutual
def cmpTy:Ty->Ty->Int
 | .mk v n a,u=>if v≠u.v then(if v=true then -1 else 1)else if n≠u.n then(if blt n u.n=true then -1 else 1)else
  if a.length≠u.a.length then(if a.length<u.a.length then -1 else 1)else cmpTys a u.a
def cmpTys:List Ty->List Ty->Int
 | t::l,us=>match us with
  | u::r=>if cmpTy t u≠0 then cmpTy t u else cmpTys l r
  | []=>0
 | [],_=>0
end
theorem cmpTys_lex:∀ l r:List Ty,cmpTys l r=lexL cmpTy l r
 | [],r=>by simp only[cmpTys,lexL]
 | t::l,[]=>by simp only[cmpTys,lexL]
 | t::l,u::r=>by simp only[cmpTys,lexL,cmpTys_lex l r]
theorem cmpTy_eq(t u:Ty):cmpTy t u=if t.v≠u.v then(if t.v=true then -1 else 1)else if t.n≠u.n then(if blt t.n u.n=true then -1 else 1)else
  if t.a.length≠u.a.length then(if t.a.length<u.a.length then -1 else 1)else lexL cmpTy t.a u.a:=by
 cases t;cases u;simp only[cmpTy,Ty.v,Ty.n,Ty.a,cmpTys_lex];rfl
mutual
def bkY:Ty->Nat
 | .mk _ n s=>1+n.size+bkYs s
def bkYs:List Ty->Nat
 | []=>0
 | t::l=>bkY t+bkYs l
end
mutual
def bkT:Tm->Nat
 | .mk _ n y _ s=>1+n.size+bkY y+bkTs s
def bkTs:List Tm->Nat
 | []=>0
 | t::l=>bkT t+bkTs l
end
theorem bkY_eq(t:Ty):bkY t=1+t.n.size+bkYs t.a:=by cases t;simp[bkY,Ty.n,Ty.a]
theorem bkT_eq(t:Tm):bkT t=1+t.n.size+bkY t.y+bkTs t.s:=by cases t;simp[bkT,Tm.n,Tm.y,Tm.s]
theorem bkYs_mem:∀ {l:List Ty} {x:Ty},x∈l->bkY x<=bkYs l
 | t::l,x,h=>by
  rcases List.mem_cons.1 h with rfl|h
  ·simp[bkYs]
  ·have:=bkYs_mem h;simp only[bkYs];omega
theorem bkTs_mem:∀ {l:List Tm} {x:Tm},x∈l->bkT x<=bkTs l
 | t::l,x,h=>by
  rcases List.mem_cons.1 h with rfl|h
  ·simp[bkTs]
  ·have:=bkTs_mem h;simp only[bkTs];omega
mutual
theorem szY_bk:∀ t:Ty,szY t<=bkY t
 | .mk _ n s=>by have:=szYs_bk s;simp only[szY,bkY];omega
theorem szYs_bk:∀ l:List Ty,szYs l<=bkYs l
 | []=>by simp[szYs]
 | t::l=>by have:=szY_bk t;have:=szYs_bk l;simp only[szYs,bkYs];omega
end
mutual
theorem szT_bk:∀ t:Tm,szT t<=bkT t
 | .mk _ n y _ s=>by have:=szTs_bk s;simp only[szT,bkT];omega
theorem szTs_bk:∀ l:List Tm,szTs l<=bkTs l
 | []=>by simp[szTs]
 | t::l=>by have:=szT_bk t;have:=szTs_bk l;simp only[szTs,bkTs];omega
end
def badC(c:Int):Bool:=decide (c<33) || (decide (126<c) || (decide (c=40) || (decide (c=41) || (decide (c=44) || (decide (c=58) || (decide (c=92) || (decide (c=46) || decide (c=34))))))))
def goodL:List UInt8->Bool
 | []=>true
 | c::l=>!badC (c.toNat:Int) && goodL l
def nameB(s:ByteArray):Bool:=decide (1<=s.size) && (decide (s.size<=30) && goodL s.data.toList)
def fstC(s:ByteArray):Int:=match s.data[0]? with
 | some c=>c.toNat
 | none=>0
mutual
def shapeY:Ty->Bool
 | .mk v n a=>nameB n && (v == decide (fstC n=39)) && (if v=true then decide (a.length=0)else decide (a.length<=8)) && shapeYs a
def shapeYs:List Ty->Bool
 | []=>true
 | t::l=>shapeY t && shapeYs l
end
theorem shapeY_eq(t:Ty):shapeY t=(nameB t.n && (t.v == decide (fstC t.n=39)) && (if t.v=true then decide (t.a.length=0)else decide (t.a.length<=8)) && shapeYs t.a):=by
 cases t;rw[shapeY];rfl
def validY(t:Ty):Bool:=decide (szY t<=500) && decide (dpY t<=200) && shapeY t
theorem take_set_succ{α:Type}:∀ {ls:List α} {i:Nat} {x:α},i<ls.length->(ls.set i x).take (i+1)=ls.take i++[x]
 | [],i,x,h=>by simp at h
 | y::ls,0,x,h=>by simp
 | y::ls,i+1,x,h=>by simp at h;simp[take_set_succ h]
end Go.Ab
