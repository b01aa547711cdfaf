/- A part of the proof: P3. -/
import Derived.Test.YtlebiodkgkeomaaGreatP2
set_option linter.all false
set_option linter.all false
set_option maxRecDepth 100000
set_option maxHeartbeats 1000000
namespace Go.Ab.X
open Go.RowKit Go.Ab
theorem terms_extent_ok:∀ t:Tm,bkT t<=LIM->terms_extent t=some ((szT t:Int),(dpT t:Int)):=by
 refine Tm.ind fun t ih hb=>?_
 have hs:=Nat.le_trans (szTs_bk t.s) (bkTs_s hb)
 have hd:=Nat.le_trans (dpTs_le t.s) hs
 rw[terms_extent_eq]
 refine LT.inv t.s (fun i (s:Int×Int)=>(s.1,s.2,(i:Int))) (fun i s=>s.1=1+szTs (t.s.take i)/\s.2=dpTs (t.s.take i)) (t0:=(1,0)) ?_ ?_ ⟨by simp[szTs],by simp[dpTs]⟩
 ·rintro i x ⟨n,d⟩ hx ⟨p1,p2⟩
  simp only at p1 p2
  have hm:=List.mem_of_getElem? hx
  have h1:=szTs_take t.s i x hx
  have h2:=szTs_le t.s (i+1)
  have h3:=szTs_le t.s i
  have h4:=dpTs_take t.s i x hx
  refine .inl ⟨(n+szT x,max d (dpT x)),fun next=>?_,by simp only;omega,by simp only;omega⟩
  simp only[terms_extent.s1,dlt hx,ixg,hx,Option.bind_some,cond_true,ih x hm (bkT_in hb hm)]
  simp only[LIM]at hs
  rw[wr (by omega) (by omega),inc_nat]
 ·rintro⟨n,d⟩ ⟨p1,p2⟩ next
  simp only at p1 p2
  simp only[terms_extent.s1,dle,cond_false]
  rw[List.take_length]at p1 p2
  simp only[LIM]at hs hd
  rw[wr (by omega) (by omega)]
  have e1:=szT_eq t
  have e2:=dpT_eq t
  congr 2
  ·omega
  ·omega
theorem terms_great_ok(t:Tm)(h:bkT t<=LIM):terms_great t=some (!smallT t):=by
 rw[terms_great_eq,terms_extent_ok t h]
 simp only[Option.bind_some,smallT]
 have e1:decide ((32000:Int)<(szT t:Int)) = !decide (szT t<=32000):=by
  by_cases hh:szT t<=32000
  ·rw[decide_eq_true hh];exact decide_eq_false (by omega)
  ·rw[decide_eq_false hh];exact decide_eq_true (by omega)
 have e2:decide ((300:Int)<(dpT t:Int)) = !decide (dpT t<=300):=by
  by_cases hh:dpT t<=300
  ·rw[decide_eq_true hh];exact decide_eq_false (by omega)
  ·rw[decide_eq_false hh];exact decide_eq_true (by omega)
 rw[e1,e2]
 cases decide (szT t<=32000)<;>rfl
def BIG:Nat:=2 ^ 26
theorem big_lim{n:Nat}(h:n<=BIG):n<=LIM:=by simp only[BIG]at h;simp only[LIM];omega
theorem dpT_small{t:Tm}(h:smallT t=true):dpT t<=300:=by simp only[smallT,Bool.and_eq_true,decide_eq_true_eq]at h;exact h.2
theorem terms_typed_ok(t:Tm)(hb:bkT t<=BIG):terms_typed t=some ((tyOf t).getD zeroY,chkT t):=by
 have hb':=hb
 simp only[BIG]at hb'
 rw[terms_typed_eq,terms_great_ok t (big_lim hb)]
 unfold tyOf chkT
 cases hs:smallT t
 ·simp[zeroY]
 ·have hd:=dpT_small hs
  have k:=fmRel_at (fm_ok t [] (by simp only[bkL];omega) (by simp;omega))
  simp only[List.reverse_nil]at k
  simp only[Option.bind_some,Bool.not_true,cond_false,if_true]
  rcases k with⟨h1,u,h2⟩|⟨u,h1,h2⟩
  ·rw[h1,h2];simp[zeroY]
  ·rw[h1,h2];simp
theorem terms_Check_ok(t:Tm)(hb:bkT t<=BIG):terms_Check t=some (chkT t):=by rw[terms_Check_eq,terms_typed_ok t hb];rfl
theorem ref02_Check_ok(t:Tm)(hb:bkT t<=BIG):ref02_Check t=some (chkT t):=by
 have hb':=hb
 simp only[BIG]at hb'
 rw[ref02_Check_eq,ref02_Small_ok t (big_lim hb)]
 unfold chkT
 cases hs:smallT t
 ·simp
 ·have hd:=dpT_small hs
  have k:=fmRelB_at (fmr_ok t [] (by simp only[bkL];omega) (by simp;omega))
  simp only[Option.bind_some,Bool.not_true,cond_false,if_true]
  rcases k with⟨h1,u,h2,_⟩|⟨u,h1,h2⟩
  ·rw[h1,h2];simp
  ·rw[h1,h2];simp
end Go.Ab.X

set_option linter.all false
set_option maxRecDepth 100000
set_option maxHeartbeats 1000000
namespace Go.Ab.X
open Go.RowKit Go.Ab
theorem kernel_extent_ok:∀ t:Tm,bkT t<=LIM->kernel_extent t=some ((szT t:Int),(dpT t:Int)):=by
 refine Tm.ind fun t ih hb=>?_
 have hs:=Nat.le_trans (szTs_bk t.s) (bkTs_s hb)
 have hd:=Nat.le_trans (dpTs_le t.s) hs
 rw[kernel_extent_eq]
 refine LT.inv t.s (fun i (s:Int×Int)=>(s.1,s.2,(i:Int))) (fun i s=>s.1=1+szTs (t.s.take i)/\s.2=dpTs (t.s.take i)) (t0:=(1,0)) ?_ ?_ ⟨by simp[szTs],by simp[dpTs]⟩
 ·rintro i x ⟨n,d⟩ hx ⟨p1,p2⟩
  simp only at p1 p2
  have hm:=List.mem_of_getElem? hx
  have h1:=szTs_take t.s i x hx
  have h2:=szTs_le t.s (i+1)
  have h3:=szTs_le t.s i
  have h4:=dpTs_take t.s i x hx
  refine .inl ⟨(n+szT x,max d (dpT x)),fun next=>?_,by simp only;omega,by simp only;omega⟩
  simp only[kernel_extent.s1,dlt hx,ixg,hx,Option.bind_some,cond_true,ih x hm (bkT_in hb hm)]
  simp only[LIM]at hs
  rw[wr (by omega) (by omega),inc_nat]
 ·rintro⟨n,d⟩ ⟨p1,p2⟩ next
  simp only at p1 p2
  simp only[kernel_extent.s1,dle,cond_false]
  rw[List.take_length]at p1 p2
  simp only[LIM]at hs hd
  rw[wr (by omega) (by omega)]
  have e1:=szT_eq t
  have e2:=dpT_eq t
  congr 2
  ·omega
  ·omega
theorem types_Size_ok:∀ t:Ty,bkY t<=LIM->types_Size t=some (szY t:Int):=by
 refine Ty.ind fun t ih hb=>?_
 have hl:=bkY_a hb
 have hs:=szYs_bk' t.a (bkYs_a hb)
 rw[types_Size_eq]
 refine LT.inv t.a (fun i (n:Int)=>(n,(i:Int))) (fun i n=>n=1+szYs (t.a.take i)) ?_ ?_ (by simp[szYs])
 ·rintro i x n hx rfl
  have hm:=List.mem_of_getElem? hx
  have h1:=szYs_take t.a i x hx
  have h2:=szYs_le t.a (i+1)
  have h3:=szYs_le t.a i
  refine .inl ⟨_,fun next=>?_,rfl⟩
  simp only[types_Size.s1,dlt hx,ixg,hx,Option.bind_some,cond_true,ih x hm (bkY_in hb hm)]
  simp only[LIM]at hs
  rw[wr (by omega) (by omega),inc_nat,h1]
  congr 1
  congr 1
  omega
 ·rintro n rfl next
  simp only[types_Size.s1,dle,cond_false,List.take_length]
  rw[szY_eq];congr 1
theorem terms_Size_ok:∀ t:Tm,bkT t<=LIM->terms_Size t=some (szT t:Int):=by
 refine Tm.ind fun t ih hb=>?_
 have hs:=Nat.le_trans (szTs_bk t.s) (bkTs_s hb)
 rw[terms_Size_eq]
 refine LT.inv t.s (fun i (n:Int)=>(n,(i:Int))) (fun i n=>n=1+szTs (t.s.take i)) ?_ ?_ (by simp[szTs])
 ·rintro i x n hx rfl
  have hm:=List.mem_of_getElem? hx
  have h1:=szTs_take t.s i x hx
  have h2:=szTs_le t.s (i+1)
  have h3:=szTs_le t.s i
  refine .inl ⟨_,fun next=>?_,rfl⟩
  simp only[terms_Size.s1,dlt hx,ixg,hx,Option.bind_some,cond_true,ih x hm (bkT_in hb hm)]
  simp only[LIM]at hs
  rw[wr (by omega) (by omega),inc_nat,h1]
  congr 1
  congr 1
  omega
 ·rintro n rfl next
  simp only[terms_Size.s1,dle,cond_false,List.take_length]
  rw[szT_eq];congr 1
theorem equality_depth_ok:∀ t:Tm,bkT t<=LIM->equality_depth t=some (dpT t:Int):=by
 refine Tm.ind fun t ih hb=>?_
 have hs:=Nat.le_trans (dpTs_le t.s) (Nat.le_trans (szTs_bk t.s) (bkTs_s hb))
 rw[equality_depth_eq]
 refine LT.inv t.s (fun i (n:Int)=>(n,(i:Int))) (fun i n=>n=dpTs (t.s.take i)) ?_ ?_ (by simp[dpTs])
 ·rintro i x n hx rfl
  have hm:=List.mem_of_getElem? hx
  have h1:=dpTs_take t.s i x hx
  refine .inl ⟨_,fun next=>?_,rfl⟩
  simp only[equality_depth.s1,dlt hx,ixg,hx,Option.bind_some,cond_true,ih x hm (bkT_in hb hm)]
  rw[inc_nat,h1]
  congr 1
  congr 1
  omega
 ·rintro n rfl next
  simp only[equality_depth.s1,dle,cond_false,List.take_length]
  simp only[LIM]at hs
  rw[wr (by omega) (by omega),dpT_eq];congr 1;omega
def zeroT:Tm:=.mk 0 ⟨#[]⟩ zeroY 0 []
def combT(f x:Tm):Tm:=.mk 4 ⟨#[]⟩ zeroY 0 [f,x]
def eqC_(u:Ty):Tm:=.mk 2 ⟨#[61]⟩ (funY u (funY u boolY)) 0 []
def eqnT(l r:Tm)(u:Ty):Tm:=combT (combT (eqC_ u) l) r
theorem types_Bool_ok:types_Bool=some boolY:=types_Bool_eq
theorem ref01_Bool_ok:ref01_Bool=some boolY:=ref01_Bool_eq
theorem types_Fun_ok(a b:Ty)(ha:bkY a<=LIM)(hb:bkY b<=LIM):types_Fun a b=some (funY a b):=by rw[types_Fun_eq,types_Twin_ok a ha,Option.bind_some,types_Twin_ok b hb];rfl
theorem bkY_fun(a b:Ty):bkY (funY a b)=4+bkY a+bkY b:=by simp[funY,bkY,bkYs];have:(ByteArray.size ⟨#[102,117,110]⟩)=3:=rfl;omega
theorem bkY_bool:bkY boolY=5:=rfl
theorem szY_fun(a b:Ty):szY (funY a b)=1+szY a+szY b:=by simp[funY,szY,szYs];omega
theorem dpY_fun(a b:Ty):dpY (funY a b)=1+max (dpY a) (dpY b):=by simp[funY,dpY,dpYs]
theorem bkT_comb(f x:Tm):bkT (combT f x)=2+bkT f+bkT x:=by simp[combT,bkT,bkTs,zeroY,bkY,bkYs];have:(ByteArray.size ⟨#[]⟩)=0:=rfl;omega
theorem szT_comb(f x:Tm):szT (combT f x)=1+szT f+szT x:=by simp[combT,szT,szTs];omega
theorem dpT_comb(f x:Tm):dpT (combT f x)=1+max (dpT f) (dpT x):=by simp[combT,dpT,dpTs]
theorem bkT_eqC(u:Ty):bkT (eqC_ u)=15+2 * bkY u:=by simp[eqC_,bkT,bkTs,bkY_fun,bkY_bool];have:(ByteArray.size ⟨#[61]⟩)=1:=rfl;omega
theorem kernel_comb_ok(f x:Tm):kernel_comb f x=some (combT f x):=kernel_comb_eq f x
theorem ref02_App_ok(f x:Tm):ref02_App f x=some (combT f x):=ref02_App_eq f x
theorem smallT_neg(t:Tm)(r1 r2:Option (Tm×Int)):(bif decide ((32000:Int)<(szT t:Int))then r1 else(bif decide ((300:Int)<(dpT t:Int))then r1 else r2))=bif smallT t then r2 else r1:=by
 have e1:decide ((32000:Int)<(szT t:Int)) = !decide (szT t<=32000):=by
  by_cases hh:szT t<=32000
  ·rw[decide_eq_true hh];exact decide_eq_false (by omega)
  ·rw[decide_eq_false hh];exact decide_eq_true (by omega)
 have e2:decide ((300:Int)<(dpT t:Int)) = !decide (dpT t<=300):=by
  by_cases hh:dpT t<=300
  ·rw[decide_eq_true hh];exact decide_eq_false (by omega)
  ·rw[decide_eq_false hh];exact decide_eq_true (by omega)
 rw[e1,e2,smallT]
 cases decide (szT t<=32000)<;>cases decide (dpT t<=300)<;>rfl
def mkEq(l r:Tm)(u:Ty):Tm×Int:=bif smallT (eqnT l r u)then(bif validY (funY u (funY u boolY))then(eqnT l r u,0)else(zeroT,20))else(zeroT,21)
theorem kernel_equation_ok(l r:Tm)(u:Ty)(hb:bkT (eqnT l r u)<=LIM):kernel_equation l r u=some (mkEq l r u):=by
 have hb':=hb
 rw[eqnT,bkT_comb,bkT_comb,bkT_eqC]at hb'
 have e:∀ b,kernel_equation.j1 u boolY (eqnT l r u) b=bif b then some (zeroT,21)else(bif validY (funY u (funY u boolY))then some (eqnT l r u,0)else some (zeroT,20)):=by
  intro b
  cases b
  ·simp only[kernel_equation.j1,cond_false]
   rw[show Ty.mk false (⟨#[102,117,110]⟩:ByteArray) [u,Ty.mk false ⟨#[102,117,110]⟩ [u,boolY]]=funY u (funY u boolY)from rfl,types_Check_ok _ (by rw[bkY_fun,bkY_fun,bkY_bool];omega)]
   cases validY (funY u (funY u boolY))<;>rfl
  ·rfl
 rw[kernel_equation_eq,types_Bool_ok]
 simp only[Option.bind_some,kernel_comb_ok,jn]
 rw[show combT (combT (Tm.mk 2 (⟨#[61]⟩:ByteArray) (Ty.mk false ⟨#[102,117,110]⟩ [u,Ty.mk false ⟨#[102,117,110]⟩ [u,boolY]]) 0 []) l) r=eqnT l r u from rfl,kernel_extent_ok _ hb]
 simp only[Option.bind_some,e,cond_true]
 rw[smallT_neg]
 unfold mkEq
 cases smallT (eqnT l r u)<;>cases validY (funY u (funY u boolY))<;>rfl
theorem ref02_Equals_ok(u:Ty)(hb:bkY u<=BIG):ref02_Equals u=some (eqC_ u):=by
 have:=big_lim hb
 rw[ref02_Equals_eq,ref01_Bool_ok,Option.bind_some,ref01_Fun_ok u boolY this (by rw[bkY_bool];simp[LIM]),Option.bind_some,ref01_Fun_ok u _ this (by rw[bkY_fun,bkY_bool];simp only[BIG,LIM]at *;omega)];rfl
theorem ref02_Equation_ok(l r:Tm)(u:Ty)(hb:bkY u<=BIG):ref02_Equation l r u=some (eqnT l r u):=by
 rw[ref02_Equation_eq,ref02_Equals_ok u hb];simp only[Option.bind_some,ref02_App_ok];rfl
end Go.Ab.X

set_option linter.all false
set_option maxRecDepth 100000
set_option maxHeartbeats 1000000
namespace Go.Ab.X
open Go.RowKit Go.Ab
theorem lexL_zero{α:Type}{f:α->α->Int}:∀ {l r:List α},l.length=r.length->(∀ x∈l,∀ y∈r,f x y=0->x=y)->lexL f l r=0->l=r
 | [],[],_,_,_=>rfl
 | [],_::_,h,_,_=>by simp at h
 | _::_,[],h,_,_=>by simp at h
 | x::l,y::r,h,hf,h0=>by
  simp only[lexL]at h0
  by_cases hxy:f x y=0
  ·have e:=hf x (by simp) y (by simp) hxy
   subst e
   have:lexL f l r=0:=by simpa [hxy] using h0
   rw[lexL_zero (by simpa using h) (fun a ha b hb=>hf a (by simp[ha]) b (by simp[hb])) this]
  ·simp[hxy]at h0
theorem cmpTy_eq0:∀ t u:Ty,cmpTy t u=0->t=u:=by
 refine Ty.ind fun t ih u h=>?_
 rw[cmpTy_eq]at h
 by_cases hv:t.v=u.v
 ·by_cases hn:t.n=u.n
  ·by_cases hl:t.a.length=u.a.length
   ·simp only[hv,hn,hl,ne_eq,not_true_eq_false,if_false,cmpTys_lex]at h
    have:=lexL_zero hl (fun x hx y _=>ih x hx y) h
    rw[<-ty_eta t,<-ty_eta u,hv,hn,this]
   ·simp only[hv,hn,hl,ne_eq,not_true_eq_false,not_false_eq_true,if_true,if_false]at h
    split at h<;>cases h
  ·simp only[hv,hn,ne_eq,not_true_eq_false,not_false_eq_true,if_true,if_false]at h
   split at h<;>cases h
 ·simp only[hv,ne_eq,not_false_eq_true,if_true]at h
  split at h<;>cases h
theorem lexL_self{α:Type}{f:α->α->Int}:∀ {l:List α},(∀ x∈l,f x x=0)->lexL f l l=0
 | [],_=>rfl
 | x::l,h=>by simp only[lexL,h x (by simp)];simpa using lexL_self fun y hy=>h y (by simp[hy])
theorem cmpTy_self:∀ t:Ty,cmpTy t t=0:=by
 refine Ty.ind fun t ih=>?_
 rw[cmpTy_eq]
 simp only[ne_eq,not_true_eq_false,if_false,cmpTys_lex]
 exact lexL_self ih
theorem cmpTy_iff(t u:Ty):cmpTy t u=0↔t=u:=⟨cmpTy_eq0 t u,fun h=>h ▸ cmpTy_self t⟩
def funP(t:Ty):Option (Ty×Ty):=match t with
 | .mk false n [a,b]=>if n=⟨#[102,117,110]⟩then some (a,b)else none
 | _=>none
def dest(o:Option (Ty×Ty)):Ty×Ty×Bool:=match o with
 | some p=>(p.1,p.2,true)
 | none=>(zeroY,zeroY,false)
theorem funP_some{t a b:Ty}(h:funP t=some (a,b)):t=funY a b:=by
 unfold funP at h
 split at h
 ·split at h
  ·rename_i hn;cases h;subst hn;rfl
  ·cases h
 ·cases h
theorem funP_fun(a b:Ty):funP (funY a b)=some (a,b):=by simp[funP,funY]
theorem types_DestFun_ok(t:Ty)(hb:bkY t<=LIM):types_DestFun t=some (dest (funP t)):=by
 rw[types_DestFun_eq]
 have e:types_DestFun.j1 t true=some (dest none):=rfl
 obtain⟨v,n,a⟩:=t
 simp only[jn,Ty.v,Ty.n,Ty.a]
 cases v
 ·simp only[cond_false]
  by_cases hn:n=⟨#[102,117,110]⟩
  ·simp only[hn,decide_true,Bool.not_true,cond_false]
   match a with
   | []=>exact e
   | [_]=>exact e
   | _::_::_::l =>
    have:¬ (((l.length+1+1+1:Nat):Int)=2):=by omega
    simp only[List.length_cons,decide_eq_false this,Bool.not_false];exact e
   | [x,y] =>
    have h1:=bkY_in hb (show x∈(Ty.mk false n [x,y]).a by simp[Ty.a])
    have h2:=bkY_in hb (show y∈(Ty.mk false n [x,y]).a by simp[Ty.a])
    simp only[types_DestFun.j1,List.length_cons,List.length_nil,show decide (((0+1+1:Nat):Int)=2)=true from rfl,Bool.not_true,cond_false,Ty.a,show ixL [x,y] 0=some x from rfl,show ixL [x,y] 1=some y from rfl,Option.bind_some,types_Twin_ok x h1,types_Twin_ok y h2]
    simp[funP,dest]
  ·simp only[hn,decide_false,Bool.not_false,cond_true,e]
   unfold funP
   split
   ·rename_i a0 b0 hh;cases hh;rw[if_neg hn]
   ·rfl
 ·exact e
theorem ref01_DestFun_ok(t:Ty)(hb:bkY t<=LIM):ref01_DestFun t=some (dest (funP t)):=by
 rw[ref01_DestFun_eq]
 have e:ref01_DestFun.j1 t true=some (dest none):=rfl
 obtain⟨v,n,a⟩:=t
 simp only[jn,Ty.v,Ty.n,Ty.a]
 cases v
 ·simp only[cond_false]
  by_cases hn:n=⟨#[102,117,110]⟩
  ·simp only[hn,decide_true,Bool.not_true,cond_false]
   match a with
   | []=>exact e
   | [_]=>exact e
   | _::_::_::l =>
    have:¬ (((l.length+1+1+1:Nat):Int)=2):=by omega
    simp only[List.length_cons,decide_eq_false this,Bool.not_false];exact e
   | [x,y] =>
    have h1:=bkY_in hb (show x∈(Ty.mk false n [x,y]).a by simp[Ty.a])
    have h2:=bkY_in hb (show y∈(Ty.mk false n [x,y]).a by simp[Ty.a])
    simp only[ref01_DestFun.j1,List.length_cons,List.length_nil,show decide (((0+1+1:Nat):Int)=2)=true from rfl,Bool.not_true,cond_false,Ty.a,show ixL [x,y] 0=some x from rfl,show ixL [x,y] 1=some y from rfl,Option.bind_some,ref01_Twin_ok x h1,ref01_Twin_ok y h2]
    simp[funP,dest]
  ·simp only[hn,decide_false,Bool.not_false,cond_true,e]
   unfold funP
   split
   ·rename_i a0 b0 hh;cases hh;rw[if_neg hn]
   ·rfl
 ·exact e
def takesY(f t:Ty):Ty×Bool:=((dest (funP f)).2.1,match funP f with
 | some p=>decide (cmpTy p.1 t=0)
 | none=>false)
theorem equality_accepts_ok(f t:Ty)(hb:bkY f<=LIM):equality_accepts f t=some (takesY f t):=by
 rw[equality_accepts_eq,types_DestFun_ok f hb]
 unfold takesY
 cases h:funP f<;>simp[dest,types_Same_ok]
theorem ref08_takes_ok(f t:Ty)(hb:bkY f<=LIM):ref08_takes f t=some (takesY f t):=by
 rw[ref08_takes_eq,ref01_DestFun_ok f hb]
 unfold takesY
 cases h:funP f<;>simp[dest,ref01_Same_ok]
theorem apY_funP(f x:Ty):apY f x=match funP f with
 | some p=>if cmpTy p.1 x=0 then some p.2 else none
 | none=>none:=by
 obtain⟨v,n,a⟩:=f
 unfold apY funP
 cases v
 ·by_cases hn:n=⟨#[102,117,110]⟩
  ·match a with
   | []=>simp[Ty.v,Ty.n,Ty.a,hn]
   | [_]=>simp[Ty.v,Ty.n,Ty.a,hn]
   | [p,q]=>simp[Ty.v,Ty.n,Ty.a,hn]
   | _::_::_::_=>simp[Ty.v,Ty.n,Ty.a,hn]
  ·simp only[Ty.v,Ty.n,Ty.a,hn,ne_eq,not_false_eq_true,or_true,if_true]
   split
   ·rename_i p hp
    split at hp
    ·rename_i hh;cases hh;rw[if_neg hn]at hp;cases hp
    ·cases hp
   ·rfl
 ·simp[Ty.v]
theorem tyOf_bk{t:Tm}{u:Ty}(h:tyOf t=some u):bkY u<=bkT t * 6:=by
 unfold tyOf at h
 split at h
 ·have:=fm_bk (dpT t) t [] u (Nat.le_refl _) h;simpa [bkL] using this
 ·cases h
theorem terms_TypeOf_ok(t:Tm)(hb:bkT t<=BIG):terms_TypeOf t=some ((tyOf t).getD zeroY,chkT t):=by
 rw[terms_TypeOf_eq,terms_typed_ok t hb]
 have h:bkY ((tyOf t).getD zeroY)<=LIM:=by
  cases h:tyOf t with
  | none=>exact Nat.le_of_lt (by simp[zeroY,bkY,bkYs,LIM];decide)
  | some u=>have:=tyOf_bk h;simp only[Option.getD_some];simp only[BIG]at hb;simp only[LIM];omega
 simp only[Option.bind_some,types_Twin_ok _ h]
theorem equality_typeOf_ok(t:Tm)(hb:bkT t<=BIG):equality_typeOf t=some ((tyOf t).getD zeroY):=by rw[equality_typeOf_eq,terms_TypeOf_ok t hb];rfl
theorem ref02_Type_ok(t:Tm){u:Ty}(hb:bkT t<=BIG)(hd:dpT t<=2 ^ 29)(h:fm t []=some u):ref02_Type t=some u:=by
 have hb':=hb
 simp only[BIG]at hb'
 have k:=fmRelB_at (fmr_ok t [] (by simp only[bkL];omega) (by simp;omega))
 rw[ref02_Type_eq]
 rcases k with⟨h1,_⟩|⟨w,h1,h2⟩
 ·rw[h]at h1;cases h1
 ·rw[h]at h1;cases h1
  have:=fm_bk (dpT t) t [] _ (Nat.le_refl _) h
  simp only[bkL]at this
  rw[h2,Option.bind_some,ref01_Twin_ok _ (by simp only[LIM];omega)];rfl
def isEqP(t:Tm):Option (Tm×Tm):=match t.s with
 | [f,r]=>match f.s with
  | [e,l]=>if t.k=4/\f.k=4/\e.k=2/\e.n=⟨#[61]⟩then some (l,r)else none
  | _=>none
 | _=>none
def sidesR(o:Option (Tm×Tm)):Tm×Tm×Bool:=match o with
 | some p=>(p.1,p.2,true)
 | none=>(zeroT,zeroT,false)
theorem len2{α:Type}{l:List α}(h:(l.length:Int)=2):∃ a b,l=[a,b]:=by
 match l,h with
 | [a,b],_=>exact⟨a,b,rfl⟩
 | [],h=>simp at h
 | [_],h=>simp at h
 | _::_::_::l,h=>simp at h;omega
end Go.Ab.X
