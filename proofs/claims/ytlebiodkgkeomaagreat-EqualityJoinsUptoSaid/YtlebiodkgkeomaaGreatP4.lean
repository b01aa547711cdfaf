/- A part of the proof: P4. -/
import Derived.Test.YtlebiodkgkeomaaGreatP3
set_option linter.all false
set_option linter.all false
set_option maxRecDepth 100000
set_option maxHeartbeats 1000000
namespace Go.Ab.X
open Go.RowKit Go.Ab
theorem ix0{α:Type}(a b:α):ixL [a,b] 0=some a:=rfl
theorem ix1{α:Type}(a b:α):ixL [a,b] 1=some b:=rfl
theorem l2{α:Type}(a b:α):(([a,b]:List α).length:Int)=2:=rfl
theorem not2{α:Type}{l:List α}(h:∀ a b,l≠[a,b]):¬ ((l.length:Int)=2):=fun e=>by
 obtain⟨a,b,e⟩:=len2 e
 exact h a b e
theorem isEqP_some{t l r:Tm}(h:isEqP t=some (l,r)):∃ f e:Tm,t.s=[f,r]/\f.s=[e,l]/\t.k=4/\f.k=4/\e.k=2/\e.n=⟨#[61]⟩:=by
 unfold isEqP at h
 split at h
 ·rename_i f r' hs
  split at h
  ·rename_i e l' hf
   split at h
   ·rename_i hc;cases h;exact⟨f,e,hs,hf,hc⟩
   ·cases h
  ·cases h
 ·cases h
theorem isEqP_bk{t l r:Tm}(h:isEqP t=some (l,r)):bkT l<bkT t/\bkT r<bkT t:=by
 obtain⟨f,e,h1,h2,_⟩:=isEqP_some h
 have a:=bkT_sub (show f∈t.s by rw[h1];simp)
 have b:=bkT_sub (show r∈t.s by rw[h1];simp)
 have c:=bkT_sub (show l∈f.s by rw[h2];simp)
 omega
theorem ref02_IsEq_ok(t:Tm)(hb:bkT t<=LIM):ref02_IsEq t=some (sidesR (isEqP t)):=by
 rw[ref02_IsEq_eq]
 have z:ref02_IsEq.j1 ((Tm.mk 0 (⟨#[]⟩:ByteArray) (Ty.mk false (⟨#[]⟩:ByteArray) []) 0 []),(Tm.mk 0 (⟨#[]⟩:ByteArray) (Ty.mk false (⟨#[]⟩:ByteArray) []) 0 []))=some (sidesR none):=rfl
 simp only[jn]
 have f2:ref02_IsEq.j2 t ref02_IsEq.j1 false=some (sidesR none):=z
 by_cases hk:t.k=4
 ·simp only[hk,decide_true,cond_true]
  by_cases hs:∃ f r,t.s=[f,r]
  ·obtain⟨f,r,hs⟩:=hs
   simp only[hs,l2,decide_true,cond_true,ix0,Option.bind_some]
   by_cases hf:f.k=4
   ·simp only[hf,decide_true,cond_true]
    by_cases hfs:∃ e l,f.s=[e,l]
    ·obtain⟨e,l,hfs⟩:=hfs
     have hr1:=bkT_in hb (show r∈t.s by rw[hs];simp)
     have hr2:=bkT_in (bkT_in hb (show f∈t.s by rw[hs];simp)) (show l∈f.s by rw[hfs];simp)
     simp only[hfs,l2,decide_true,ref02_IsEq.j2,cond_true,hs,ix0,ix1,Option.bind_some,jn]
     have f3:ref02_IsEq.j3 t ref02_IsEq.j1 false=some (sidesR none):=z
     by_cases he:e.k=2
     ·simp only[he,decide_true,cond_true]
      by_cases hn:e.n=⟨#[61]⟩
      ·simp only[hn,decide_true,ref02_IsEq.j3,cond_true,hs,ix0,ix1,hfs,Option.bind_some,ref02_Twin_ok r hr1,ref02_Twin_ok l hr2]
       simp[isEqP,hs,hfs,hk,hf,he,hn,sidesR]
      ·simp only[hn,decide_false,f3]
       simp[isEqP,hs,hfs,hk,hf,he,hn]
     ·simp only[he,decide_false,cond_false,f3]
      simp[isEqP,hs,hfs,hk,hf,he]
    ·have hn2:=not2 (l:=f.s) (fun a b h=>hfs ⟨a,b,h⟩)
     simp only[hn2,decide_false,f2]
     unfold isEqP
     rw[hs]
     simp only
     split
     ·rename_i e l h;exact absurd ⟨e,l,h⟩ hfs
     ·rfl
   ·simp only[hf,decide_false,cond_false,f2]
    unfold isEqP
    rw[hs]
    simp only
    split
    ·rw[if_neg (by simp[hf])]
    ·rfl
  ·have hn2:=not2 (l:=t.s) (fun a b h=>hs ⟨a,b,h⟩)
   simp only[hn2,decide_false,cond_false,f2]
   unfold isEqP
   split
   ·rename_i f r h;exact absurd ⟨f,r,h⟩ hs
   ·rfl
 ·simp only[hk,decide_false,cond_false,f2]
  unfold isEqP
  split
  ·split
   ·rw[if_neg (by simp[hk])]
   ·rfl
  ·rfl
theorem terms_IsEq_ok(t:Tm)(hb:bkT t<=LIM):terms_IsEq t=some (sidesR (isEqP t)):=by
 rw[terms_IsEq_eq]
 simp only[jn]
 have f1:terms_IsEq.j1 t true=some (sidesR none):=rfl
 by_cases hk:t.k=4
 ·simp only[hk,decide_true,Bool.not_true,cond_false]
  by_cases hs:∃ f r,t.s=[f,r]
  ·obtain⟨f,r,hs⟩:=hs
   simp only[hs,l2,decide_true,Bool.not_true,terms_IsEq.j1,cond_false,ix0,Option.bind_some,jn]
   have f2:terms_IsEq.j2 f t true=some (sidesR none):=rfl
   by_cases hf:f.k=4
   ·simp only[hf,decide_true,Bool.not_true,cond_false]
    by_cases hfs:∃ e l,f.s=[e,l]
    ·obtain⟨e,l,hfs⟩:=hfs
     have hr1:=bkT_in hb (show r∈t.s by rw[hs];simp)
     have hr2:=bkT_in (bkT_in hb (show f∈t.s by rw[hs];simp)) (show l∈f.s by rw[hfs];simp)
     simp only[hfs,l2,decide_true,Bool.not_true,cond_false,ix0,ix1,Option.bind_some]
     by_cases he:e.k=2
     ·simp only[he,decide_true,Bool.not_true,cond_false]
      by_cases hn:e.n=⟨#[61]⟩
      ·simp only[hn,decide_true,Bool.not_true,terms_IsEq.j2,cond_false,hs,ix0,ix1,hfs,Option.bind_some,terms_Twin_ok r hr1,terms_Twin_ok l hr2]
       simp[isEqP,hs,hfs,hk,hf,he,hn,sidesR]
      ·simp only[hn,decide_false,Bool.not_false,f2]
       simp[isEqP,hs,hfs,hk,hf,he,hn]
     ·simp only[he,decide_false,Bool.not_false,cond_true,f2]
      simp[isEqP,hs,hfs,hk,hf,he]
    ·have hn2:=not2 (l:=f.s) (fun a b h=>hfs ⟨a,b,h⟩)
     simp only[hn2,decide_false,Bool.not_false,cond_true,f2]
     unfold isEqP
     rw[hs]
     simp only
     split
     ·rename_i e l h;exact absurd ⟨e,l,h⟩ hfs
     ·rfl
   ·simp only[hf,decide_false,Bool.not_false,cond_true,f2]
    unfold isEqP
    rw[hs]
    simp only
    split
    ·rw[if_neg (by simp[hf])]
    ·rfl
  ·have hn2:=not2 (l:=t.s) (fun a b h=>hs ⟨a,b,h⟩)
   simp only[hn2,decide_false,Bool.not_false,f1]
   unfold isEqP
   split
   ·rename_i f r h;exact absurd ⟨f,r,h⟩ hs
   ·rfl
 ·simp only[hk,decide_false,Bool.not_false,cond_true,f1]
  unfold isEqP
  split
  ·split
   ·rw[if_neg (by simp[hk])]
   ·rfl
  ·rfl
theorem fm_comb{t:Tm}{l:List Ty}{u:Ty}(h:fm t l=some u)(hk:t.k=4):∃ f x a,t.s=[f,x]/\t.n=⟨#[]⟩/\noneY t.y=true/\t.i=0/\fm f l=some (funY a u)/\fm x l=some a:=by
 rw[fm_eq,hk,if_neg (show ¬((4:Int)=1\/(4:Int)=2) by decide),if_neg (show ¬((4:Int)=3) by decide),if_pos rfl]at h
 split at h
 case isFalse=>cases h
 rename_i h0
 obtain⟨h1,h2,h3⟩:=h0
 split at h
 ·rename_i f x hs
  obtain⟨a,ha,h⟩:=Option.bind_eq_some_iff.1 h
  obtain⟨b,hb,h⟩:=Option.bind_eq_some_iff.1 h
  rw[apY_funP]at h
  split at h
  ·rename_i p hp
   split at h
   ·rename_i hc
    cases h
    obtain⟨p1,p2⟩:=p
    obtain rfl:=funP_some hp
    obtain rfl:=(cmpTy_iff _ _).1 hc
    exact⟨f,x,_,hs,h1,h2,h3,ha,hb⟩
   ·cases h
  ·cases h
 ·cases h
theorem fm_const{t:Tm}{l:List Ty}{u:Ty}(h:fm t l=some u)(hk:t.k=2\/t.k=1):u=t.y/\nameT t.n=true/\validY t.y=true/\t.i=0/\t.s=[]:=by
 rw[fm_eq,if_pos (hk.symm)]at h
 split at h
 ·rename_i h0
  cases h
  exact⟨rfl,h0.1,h0.2.1,h0.2.2.1,List.eq_nil_of_length_eq_zero h0.2.2.2⟩
 ·cases h
theorem fm_abs{t:Tm}{l:List Ty}{u:Ty}(h:fm t l=some u)(hk:t.k=5):∃ b v,t.s=[b]/\nameT t.n=true/\validY t.y=true/\t.i=0/\fm b (t.y::l)=some v/\u=funY t.y v/\validY (funY t.y v)=true:=by
 rw[fm_eq,hk,if_neg (show ¬((5:Int)=1\/(5:Int)=2) by decide),if_neg (show ¬((5:Int)=3) by decide),if_neg (show ¬((5:Int)=4) by decide),if_pos rfl]at h
 split at h
 case isFalse=>cases h
 rename_i h0
 split at h
 ·rename_i b hs
  obtain⟨v,hv,h⟩:=Option.bind_eq_some_iff.1 h
  split at h
  ·rename_i hval;cases h;exact⟨b,v,hs,h0.1,h0.2.1,h0.2.2,hv,rfl,hval⟩
  ·cases h
 ·cases h
theorem fm_bound{t:Tm}{l:List Ty}{u:Ty}(h:fm t l=some u)(hk:t.k=3):l[t.i.toNat]? = some u/\t.n=⟨#[]⟩/\noneY t.y=true/\t.s=[]/\0<=t.i:=by
 rw[fm_eq,hk,if_neg (show ¬((3:Int)=1\/(3:Int)=2) by decide),if_pos rfl]at h
 split at h
 ·rename_i h0;exact⟨h,h0.1,h0.2.1,List.eq_nil_of_length_eq_zero h0.2.2.1,h0.2.2.2⟩
 ·cases h
theorem fm_kind{t:Tm}{l:List Ty}{u:Ty}(h:fm t l=some u):t.k=1\/t.k=2\/t.k=3\/t.k=4\/t.k=5:=by
 rw[fm_eq]at h
 by_cases h1:t.k=1\/t.k=2
 ·omega
 ·rw[if_neg h1]at h
  by_cases h3:t.k=3
  ·omega
  ·rw[if_neg h3]at h
   by_cases h4:t.k=4
   ·omega
   ·rw[if_neg h4]at h
    by_cases h5:t.k=5
    ·omega
    ·rw[if_neg h5]at h;cases h
end Go.Ab.X

set_option linter.all false
set_option maxRecDepth 100000
set_option maxHeartbeats 1000000
namespace Go.Ab.X
open Go.RowKit Go.Ab
def varA:Ty:=.mk true ⟨#[39,97]⟩ []
def eqY:Ty:=funY varA (funY varA boolY)
def sg0:Ssignature:=⟨[⟨⟨#[98,111,111,108]⟩,0⟩,⟨⟨#[102,117,110]⟩,2⟩],[⟨⟨#[61]⟩,eqY⟩]⟩
def nd0:Nnode:=.mk ⟨0,⟨#[]⟩,0,zeroY,[]⟩ none 0 sg0
def th0:Stheory:=⟨some nd0⟩
theorem bk_varA:bkY varA=3:=rfl
theorem bk_eqY:bkY eqY=19:=rfl
theorem signature_Initial_ok:signature_Initial=some sg0:=by
 have h1:bkY varA<=LIM:=by rw[bk_varA];simp[LIM]
 rw[signature_Initial_eq,types_Bool_ok,Option.bind_some]
 rw[show Ty.mk true (⟨#[39,97]⟩:ByteArray) []=varA from rfl,types_Fun_ok varA boolY h1 (by rw[bkY_bool];simp[LIM]),Option.bind_some,types_Fun_ok varA _ h1 (by rw[bkY_fun,bkY_bool,bk_varA];simp[LIM]),Option.bind_some]
 rfl
theorem kernel_Initial_ok:kernel_Initial=some th0:=by rw[kernel_Initial_eq,signature_Initial_ok];rfl
mutual
def hasY:Ty->Bool
 | .mk v n a=>v || (((decide (n=⟨#[98,111,111,108]⟩) && decide (a.length=0)) || (decide (n=⟨#[102,117,110]⟩) && decide (a.length=2))) && hasYs a)
def hasYs:List Ty->Bool
 | []=>true
 | t::l=>hasY t && hasYs l
end
theorem hasY_eq(t:Ty):hasY t=(t.v || (((decide (t.n=⟨#[98,111,111,108]⟩) && decide (t.a.length=0)) || (decide (t.n=⟨#[102,117,110]⟩) && decide (t.a.length=2))) && hasYs t.a)):=by cases t;rfl
theorem hasYs_at{l:List Ty}{i:Nat}{x:Ty}(h:l[i]? = some x):hasYs (l.drop i)=(hasY x && hasYs (l.drop (i+1))):=by
 obtain⟨h1,rfl⟩:=List.getElem?_eq_some_iff.1 h
 rw[List.drop_eq_getElem_cons h1];rfl
theorem IndexFunc_TypeOp_ok(u:Ty):IndexFunc_TypeOp sg0.types 182 u=some (if u.n=⟨#[98,111,111,108]⟩then 0 else if u.n=⟨#[102,117,110]⟩then 1 else -1):=by
 have h:∀ o:Stypeop,tyo Bool (ans X 182 (.p .bool) [.v .typeop o,.ip (.v .ty u) 0 []])=some (decide (o.name=u.n)):=fun o=>kernel_node_has1_eq o u
 rw[IndexFunc_TypeOp_eq]
 have i0:ixL sg0.types 0=some ⟨⟨#[98,111,111,108]⟩,0⟩:=rfl
 have i1:ixL sg0.types 1=some ⟨⟨#[102,117,110]⟩,2⟩:=rfl
 have l0:decide ((0:Int)<(sg0.types.length:Int))=true:=rfl
 have l1:decide ((1:Int)<(sg0.types.length:Int))=true:=rfl
 have l2:decide ((2:Int)<(sg0.types.length:Int))=false:=rfl
 by_cases hb:u.n=⟨#[98,111,111,108]⟩
 ·rw[if_pos hb]
  exact(LT.last fun next=>by simp only[IndexFunc_TypeOp.s1,l0,cond_true,i0,Option.bind_some,h,hb,decide_true]).eq
 ·rw[if_neg hb]
  have hb':¬ (⟨#[98,111,111,108]⟩:ByteArray)=u.n:=fun e=>hb e.symm
  refine LT.eq (LT.next (s':=1) (fun next=>?_) ?_)
  ·simp only[IndexFunc_TypeOp.s1,l0,cond_true,i0,Option.bind_some,h,hb',decide_false,cond_false];rfl
  by_cases hf:u.n=⟨#[102,117,110]⟩
  ·rw[if_pos hf]
   exact LT.last fun next=>by simp only[IndexFunc_TypeOp.s1,l1,cond_true,i1,Option.bind_some,h,hf,decide_true]
  ·rw[if_neg hf]
   have hf':¬ (⟨#[102,117,110]⟩:ByteArray)=u.n:=fun e=>hf e.symm
   refine LT.next (s':=2) (fun next=>?_) (LT.last fun next=>?_)
   ·simp only[IndexFunc_TypeOp.s1,l1,cond_true,i1,Option.bind_some,h,hf',decide_false,cond_false];rfl
   ·simp only[IndexFunc_TypeOp.s1,l2,cond_false]
theorem kernel_node_has_ok:∀ u:Ty,kernel_node_has (some nd0) u=some (hasY u):=by
 refine Ty.ind fun t ih=>?_
 rw[kernel_node_has_eq,hasY_eq]
 cases hv:t.v
 ·have key:loopN (kernel_node_has.s2 t (some nd0)) 0=some (hasYs t.a):=by
   refine LT.inv (T:=Unit) t.a (fun i _=>(i:Int)) (fun i _=>hasYs (t.a.drop i)=hasYs t.a) ?_ ?_ (t0:=()) rfl
   ·intro i x _ hx hp
    rw[hasYs_at hx]at hp
    simp only[kernel_node_has.s2,dlt hx,ixg,hx,Option.bind_some,cond_true,ih x (List.mem_of_getElem? hx)]
    cases hc:hasY x
    ·rw[hc]at hp
     exact .inr fun next=>by rw[<-hp];rfl
    ·rw[hc]at hp
     exact .inl ⟨(),fun next=>by simp only[Bool.not_true,cond_false,inc_nat],by simpa using hp⟩
   ·intro _ hp next
    simp only[kernel_node_has.s2,dle,cond_false]
    rw[<-hp,List.drop_length];rfl
  have hj:∀ b,kernel_node_has.j1 t (some nd0) b=some (!b && hasYs t.a):=by
   intro b;cases b
   ·simp only[kernel_node_has.j1,cond_false,key,Bool.not_false,Bool.true_and]
   ·rfl
  have e1:nd0.sig.types=sg0.types:=rfl
  simp only[cond_false,Option.bind_some,e1,IndexFunc_TypeOp_ok,jn,hj,Bool.false_or]
  by_cases hb:t.n=⟨#[98,111,111,108]⟩
  ·have h0:ixL sg0.types 0=some ⟨⟨#[98,111,111,108]⟩,0⟩:=rfl
   simp only[hb,if_true,show decide ((0:Int)<0)=false from rfl,cond_false,h0,Option.bind_some,decide_true,Bool.true_and,show decide ((⟨#[98,111,111,108]⟩:ByteArray)=⟨#[102,117,110]⟩)=false from rfl,Bool.false_and,Bool.or_false]
   rw[show decide ((0:Int)=(t.a.length:Int))=decide (t.a.length=0)from by congr 1;exact propext (by omega)]
   cases decide (t.a.length=0)<;>rfl
  ·by_cases hf:t.n=⟨#[102,117,110]⟩
   ·have h0:ixL sg0.types 1=some ⟨⟨#[102,117,110]⟩,2⟩:=rfl
    simp only[hf,if_true,show ¬ ((⟨#[102,117,110]⟩:ByteArray)=⟨#[98,111,111,108]⟩) by decide,if_false,show decide ((1:Int)<0)=false from rfl,cond_false,h0,Option.bind_some,decide_true,decide_false,Bool.true_and,Bool.false_and,Bool.false_or]
    rw[show decide ((2:Int)=(t.a.length:Int))=decide (t.a.length=2)from by congr 1;exact propext (by omega)]
    cases decide (t.a.length=2)<;>rfl
   ·simp only[hb,hf,if_false,show decide ((-1:Int)<0)=true from rfl,cond_true,decide_false,Bool.false_and,Bool.or_self]
    rfl
 ·rfl
end Go.Ab.X

set_option linter.all false
set_option maxRecDepth 100000
set_option maxHeartbeats 1000000
namespace Go.Ab.X
open Go.RowKit Go.Ab
theorem funP_none{u:Ty}(h:funP u=none):u.v=true\/u.n≠⟨#[102,117,110]⟩\/¬ ((u.a.length:Int)=2):=by
 obtain⟨v,n,a⟩:=u
 cases v
 ·by_cases hn:n=⟨#[102,117,110]⟩
  ·refine .inr (.inr fun e=>?_)
   obtain⟨p,q,rfl⟩:=len2 (show((a.length:Int)=2)from e)
   simp[funP,hn]at h
  ·exact .inr (.inl hn)
 ·exact .inl rfl
theorem match_none(h:List Stypebind)(p q u:Ty)(hu:funP u=none):types_match h (funY p q) u=some ([],false):=by
 rw[types_match_eq]
 have e:∀ s,types_match.j1 u (funY p q) (true,s)=some ([],false):=fun s=>rfl
 simp only[jn,show(funY p q).v=false from rfl,cond_false,show(funY p q).n=⟨#[102,117,110]⟩from rfl,show(funY p q).a=[p,q]from rfl,l2]
 rcases funP_none hu with h1|h1|h1
 ·rw[h1];exact e h
 ·cases u.v
  ·simp only[cond_false,h1,decide_false,Bool.not_false,cond_true];exact e h
  ·exact e h
 ·cases u.v
  ·by_cases h2:u.n=⟨#[102,117,110]⟩
   ·simp only[cond_false,h2,decide_true,Bool.not_true,h1,decide_false,Bool.not_false];exact e h
   ·simp only[cond_false,h2,decide_false,Bool.not_false,cond_true];exact e h
  ·exact e h
theorem match_fun{h h1 h2:List Stypebind}{p q a c:Ty}{b1 b2:Bool}(m1:types_match h p a=some (h1,b1))(m2:b1=true->types_match h1 q c=some (h2,b2)) :
  types_match h (funY p q) (funY a c)=some (bif b1 && b2 then(h2,true)else([],false)):=by
 rw[types_match_eq]
 simp only[jn,show ∀ x y,(funY x y).v=false from fun _ _=>rfl,cond_false,show ∀ x y,(funY x y).n=⟨#[102,117,110]⟩from fun _ _=>rfl,show ∀ x y,(funY x y).a=[x,y]from fun _ _=>rfl,l2,decide_true,Bool.not_true,types_match.j1]
 have ls:∀ i:Int,(i=0\/i=1)->decide (i<((funY a c).a.length:Int))=true:=by rintro i (rfl|rfl)<;>rfl
 have s0:∀ next,types_match.s2 (funY a c) (funY p q) (0,h) next=bif b1 then next (1,h1)else some ([],false):=by
  intro next
  simp only[types_match.s2,ls 0 (.inl rfl),cond_true,show ∀ x y,(funY x y).a=[x,y]from fun _ _=>rfl,ix0,Option.bind_some,m1]
  cases b1<;>rfl
 cases hb:b1
 ·rw[hb]at s0
  exact(LT.last fun next=>s0 next).eq
 ·rw[hb]at s0
  refine LT.eq (LT.next (fun next=>s0 next) ?_)
  have s1:∀ next,types_match.s2 (funY a c) (funY p q) (1,h1) next=bif b2 then next (2,h2)else some ([],false):=by
   intro next
   simp only[types_match.s2,ls 1 (.inr rfl),cond_true,show ∀ x y,(funY x y).a=[x,y]from fun _ _=>rfl,ix1,Option.bind_some,m2 hb]
   cases b2<;>rfl
  cases hc:b2
  ·rw[hc]at s1
   exact LT.last fun next=>s1 next
  ·rw[hc]at s1
   refine LT.next (fun next=>s1 next) (LT.last fun next=>?_)
   simp only[types_match.s2,show decide ((2:Int)<((funY a c).a.length:Int))=false from rfl,cond_false];rfl
def boolB(d:Ty):Bool:=!d.v && (decide (d.n=⟨#[98,111,111,108]⟩) && decide (d.a.length=0))
theorem match_bool(h:List Stypebind)(d:Ty):types_match h boolY d=some (bif boolB d then(h,true)else([],false)):=by
 rw[types_match_eq]
 have e:∀ s,types_match.j1 d boolY (true,s)=some ([],false):=fun s=>rfl
 have e0:(d.a.length:Int)=0↔d.a.length=0:=by omega
 simp only[jn,show boolY.v=false from rfl,cond_false,show boolY.n=⟨#[98,111,111,108]⟩from rfl,show((boolY.a.length:Nat):Int)=0 from rfl,boolB,e0]
 cases d.v
 ·by_cases hn:d.n=⟨#[98,111,111,108]⟩
  ·by_cases ha:d.a.length=0
   ·simp only[cond_false,hn,ha,decide_true,Bool.not_true,Bool.not_false,Bool.and_self,cond_true,types_match.j1]
    exact(LT.last fun next=>by simp only[types_match.s2,ha];rfl).eq
   ·simp only[cond_false,hn,ha,decide_true,decide_false,Bool.not_true,Bool.not_false,Bool.and_false,e]
  ·simp only[cond_false,hn,decide_false,Bool.not_false,cond_true,Bool.false_and,Bool.and_false,e]
 ·simp only[cond_true,Bool.not_true,Bool.false_and,cond_false,e]
def bnd1(a:Ty):List Stypebind:=[⟨⟨#[39,97]⟩,a⟩]
theorem find_nil(v:ByteArray):types_find [] v=some ([],zeroY,false):=by
 have:IndexFunc_TypeBind [] 192 v=some (-1):=by
  rw[IndexFunc_TypeBind_eq];exact(LT.last fun next=>rfl).eq
 rw[types_find_eq,this];rfl
theorem find_one(a:Ty):types_find (bnd1 a) ⟨#[39,97]⟩=some (bnd1 a,a,true):=by
 have h:∀(o:Stypebind) (v:ByteArray),tyo Bool (ans X 192 (.p .bool) [.v .typebind o,.ip (.v .str v) 0 []])=some (decide (o.var=v)):=fun o v=>types_find1_eq o v
 have:IndexFunc_TypeBind (bnd1 a) 192 ⟨#[39,97]⟩=some 0:=by
  rw[IndexFunc_TypeBind_eq]
  refine(LT.last fun next=>?_).eq
  simp only[IndexFunc_TypeBind.s1,show decide ((0:Int)<((bnd1 a).length:Int))=true from rfl,cond_true,show ixL (bnd1 a) 0=some ⟨⟨#[39,97]⟩,a⟩from rfl,Option.bind_some,h,decide_true]
 rw[types_find_eq,this];rfl
theorem match_var0(a:Ty)(hb:bkY a<=LIM):types_match [] varA a=some (bnd1 a,true):=by
 rw[types_match_eq]
 simp only[show varA.v=true from rfl,cond_true,show varA.n=⟨#[39,97]⟩from rfl,find_nil,Option.bind_some,cond_false,types_Twin_ok a hb]
 rfl
theorem match_var1(a b:Ty):types_match (bnd1 a) varA b=some (bnd1 a,decide (cmpTy a b=0)):=by
 rw[types_match_eq]
 simp only[show varA.v=true from rfl,cond_true,show varA.n=⟨#[39,97]⟩from rfl,find_one,Option.bind_some,types_Same_ok]
def eqB(u:Ty):Bool:=match funP u with
 | some (a,c)=>match funP c with
  | some (b,d)=>decide (cmpTy a b=0) && boolB d
  | none=>false
 | none=>false
theorem match_eq(u:Ty)(hb:bkY u<=LIM):∃ s,types_match [] eqY u=some (s,eqB u):=by
 unfold eqB
 cases hu:funP u with
 | none=>exact⟨_,match_none _ _ _ _ hu⟩
 | some ac =>
  obtain⟨a,c⟩:=ac
  obtain rfl:=funP_some hu
  rw[bkY_fun]at hb
  have m0:=match_var0 a (by omega)
  simp only
  cases hc:funP c with
  | none =>
   exact⟨[],match_fun (h2:=[]) (b2:=false) m0 (fun _=>match_none _ _ _ _ hc)⟩
  | some bd =>
   obtain⟨b,d⟩:=bd
   obtain rfl:=funP_some hc
   have m1:=match_fun (h2:=bif boolB d then bnd1 a else []) (b2:=boolB d) (match_var1 a b) (fun _=>(match_bool (bnd1 a) d).trans (by cases boolB d<;>rfl))
   have m2:=match_fun m0 (h2:=(bif decide (cmpTy a b=0) && boolB d then((bif boolB d then bnd1 a else []),true)else([],false)).1) (b2:=decide (cmpTy a b=0) && boolB d) (fun _=>m1.trans (by cases decide (cmpTy a b=0) && boolB d<;>rfl))
   rw[Bool.true_and]at m2
   cases hq:decide (cmpTy a b=0) && boolB d
   ·rw[hq]at m2;exact⟨[],m2.trans (by simp only[hq];rfl)⟩
   ·rw[hq]at m2;exact⟨_,m2.trans (by simp only[hq];rfl)⟩
theorem valid_eqY:validY eqY=true:=by decide
theorem types_Match_ok(u:Ty)(hb:bkY u<=LIM)(hv:validY u=true):∃ s,types_Match eqY u []=some (s,eqB u,0):=by
 have h1:types_valid []=some true:=by
  have:IndexFunc_TypeBind0 [] 188=some (-1):=by
   rw[IndexFunc_TypeBind0_eq];exact(LT.last fun next=>rfl).eq
  rw[types_valid_eq,ContainsFunc_TypeBind_eq,this];rfl
 obtain⟨s,hs⟩:=match_eq u hb
 have h2:types_Match.j1 [] eqY u false=some (bif eqB u then(s,true,0)else([],false,0)):=by
  have w:IntKind.i64.wrap (((([]:List Stypebind).length:Nat):Int)+1)=1:=rfl
  simp only[types_Match.j1,cond_false,w]
  rw[if_pos (by simp[LIM])]
  refine(LT.last fun next=>?_).eq
  simp only[types_Match.s2,show decide ((0:Int)<((([]:List Stypebind).length:Nat):Int))=false from rfl,cond_false,hs,Option.bind_some]
  cases eqB u<;>rfl
 rw[types_Match_eq]
 simp only[jn,types_Check_ok eqY (by rw[bk_eqY];simp[LIM]),valid_eqY,types_Check_ok u hb,hv,if_true,Option.bind_some,decide_true,Bool.not_true,cond_false,h1,h2]
 cases eqB u
 ·exact⟨_,rfl⟩
 ·exact⟨_,rfl⟩
end Go.Ab.X

set_option linter.all false
set_option maxRecDepth 100000
set_option maxHeartbeats 1000000
namespace Go.Ab.X
open Go.RowKit Go.Ab
mutual
def holdsT:Tm->Bool
 | .mk k n y i s=>((!(decide (k=1) || (decide (k=2) || decide (k=5))) || hasY y) && (!decide (k=2) || (decide (n=⟨#[61]⟩) && eqB y))) && holdsTs s
def holdsTs:List Tm->Bool
 | []=>true
 | t::l=>holdsT t && holdsTs l
end
theorem holdsT_eq(t:Tm):holdsT t=(((!(decide (t.k=1) || (decide (t.k=2) || decide (t.k=5))) || hasY t.y) && (!decide (t.k=2) || (decide (t.n=⟨#[61]⟩) && eqB t.y))) && holdsTs t.s):=by cases t;rfl
theorem holdsTs_at{l:List Tm}{i:Nat}{x:Tm}(h:l[i]? = some x):holdsTs (l.drop i)=(holdsT x && holdsTs (l.drop (i+1))):=by
 obtain⟨h1,rfl⟩:=List.getElem?_eq_some_iff.1 h
 rw[List.drop_eq_getElem_cons h1];rfl
theorem fm_sub{t:Tm}{l:List Ty}{u:Ty}(h:fm t l=some u):∀ x∈t.s,∃ l' u',fm x l'=some u':=by
 intro x hx
 rcases fm_kind h with hk|hk|hk|hk|hk
 ·rw[(fm_const h (.inr hk)).2.2.2.2]at hx;cases hx
 ·rw[(fm_const h (.inl hk)).2.2.2.2]at hx;cases hx
 ·rw[(fm_bound h hk).2.2.2.1]at hx;cases hx
 ·obtain⟨f,y,a,hs,_,_,_,hf,hy⟩:=fm_comb h hk
  rw[hs]at hx
  rcases List.mem_cons.1 hx with rfl|hx
  ·exact⟨_,_,hf⟩
  ·rcases List.mem_cons.1 hx with rfl|hx
   ·exact⟨_,_,hy⟩
   ·cases hx
 ·obtain⟨b,v,hs,_,_,_,hb,_⟩:=fm_abs h hk
  rw[hs]at hx
  rcases List.mem_cons.1 hx with rfl|hx
  ·exact⟨_,_,hb⟩
  ·cases hx
theorem eqB_eqY:eqB eqY=true:=by decide
theorem IndexFunc_Const_ok(t:Tm):IndexFunc_Const sg0.consts 169 t=some (if t.n=⟨#[61]⟩then 0 else -1):=by
 have h:∀ o:Sconst,tyo Bool (ans X 169 (.p .bool) [.v .const o,.ip (.v .tm t) 0 []])=some (decide (o.name=t.n)):=fun o=>kernel_node_holds1_eq o t
 have i0:ixL sg0.consts 0=some ⟨⟨#[61]⟩,eqY⟩:=rfl
 have l0:decide ((0:Int)<(sg0.consts.length:Int))=true:=rfl
 have l1:decide ((1:Int)<(sg0.consts.length:Int))=false:=rfl
 rw[IndexFunc_Const_eq]
 by_cases hb:t.n=⟨#[61]⟩
 ·rw[if_pos hb]
  exact(LT.last fun next=>by simp only[IndexFunc_Const.s1,l0,cond_true,i0,Option.bind_some,h,hb,decide_true]).eq
 ·rw[if_neg hb]
  have hb':¬ (⟨#[61]⟩:ByteArray)=t.n:=fun e=>hb e.symm
  refine LT.eq (LT.next (s':=1) (fun next=>?_) (LT.last fun next=>?_))
  ·simp only[IndexFunc_Const.s1,l0,cond_true,i0,Option.bind_some,h,hb',decide_false,cond_false];rfl
  ·simp only[IndexFunc_Const.s1,l1,cond_false]
theorem kernel_node_holds_ok:∀ t:Tm,bkT t<=LIM->∀ l u,fm t l=some u->kernel_node_holds (some nd0) t=some (holdsT t):=by
 refine Tm.ind fun t ih hb l u hf=>?_
 have ih':∀ x∈t.s,kernel_node_holds (some nd0) x=some (holdsT x):=fun x hx=>by
  obtain⟨l',u',h⟩:=fm_sub hf x hx
  exact ih x hx (bkT_in hb hx) l' u' h
 have key:loopN (kernel_node_holds.s4 t (some nd0)) 0=some (holdsTs t.s):=by
  refine LT.inv (T:=Unit) t.s (fun i _=>(i:Int)) (fun i _=>holdsTs (t.s.drop i)=holdsTs t.s) ?_ ?_ (t0:=()) rfl
  ·intro i x _ hx hp
   rw[holdsTs_at hx]at hp
   simp only[kernel_node_holds.s4,dlt hx,ixg,hx,Option.bind_some,cond_true,ih' x (List.mem_of_getElem? hx)]
   cases hc:holdsT x
   ·rw[hc]at hp
    exact .inr fun next=>by rw[<-hp];rfl
   ·rw[hc]at hp
    exact .inl ⟨(),fun next=>by simp only[Bool.not_true,cond_false,inc_nat],by simpa using hp⟩
  ·intro _ hp next
   simp only[kernel_node_holds.s4,dle,cond_false]
   rw[<-hp,List.drop_length];rfl
 have h2:∀ b,kernel_node_holds.j2 t (some nd0) b=some (!b && ((!decide (t.k=2) || (decide (t.n=⟨#[61]⟩) && eqB t.y)) && holdsTs t.s)):=by
  intro b
  cases b
  ·simp only[kernel_node_holds.j2,cond_false,jn,kernel_node_holds.j3,key,Bool.not_false,Bool.true_and]
   by_cases hk:t.k=2
   ·have hv:=(fm_const hf (.inl hk)).2.2.1
    have e1:nd0.sig.consts=sg0.consts:=rfl
    obtain⟨s,hm⟩:=types_Match_ok t.y (bkT_y hb) hv
    simp only[hk,decide_true,cond_true,Option.bind_some,e1,IndexFunc_Const_ok,Bool.not_true,Bool.false_or]
    by_cases hn:t.n=⟨#[61]⟩
    ·have i0:ixL sg0.consts 0=some ⟨⟨#[61]⟩,eqY⟩:=rfl
     simp only[hn,if_true,show decide ((0:Int)<0)=false from rfl,cond_false,i0,Option.bind_some,types_Same_ok,decide_true,Bool.true_and,hm]
     by_cases hc:cmpTy eqY t.y=0
     ·have he:=(cmpTy_iff _ _).1 hc
      simp only[<-he,cmpTy_self,decide_true,Bool.not_true,cond_false,eqB_eqY,Bool.true_and]
     ·simp only[hc,decide_false,Bool.not_false,cond_true]
      cases eqB t.y<;>rfl
    ·simp only[hn,if_false,show decide ((-1:Int)<0)=true from rfl,cond_true,decide_false,Bool.false_and]
   ·simp only[hk,decide_false,cond_false,Bool.not_false,Bool.true_or,Bool.true_and]
  ·rfl
 have h1:∀ b,kernel_node_holds.j1 t (some nd0) b=some ((!b || hasY t.y) && ((!decide (t.k=2) || (decide (t.n=⟨#[61]⟩) && eqB t.y)) && holdsTs t.s)):=by
  intro b
  cases b
  ·simp only[kernel_node_holds.j1,jn,cond_false,h2,Bool.not_false,Bool.true_or,Bool.true_and]
  ·simp only[kernel_node_holds.j1,jn,cond_true,kernel_node_has_ok,Option.bind_some,h2,Bool.not_not,Bool.not_true,Bool.false_or]
 rw[kernel_node_holds_eq,holdsT_eq]
 simp only[jn,h1,bor,Bool.and_assoc]
 by_cases k1:t.k=1
 ·simp[k1]
 ·by_cases k2:t.k=2
  ·simp[k2]
  ·simp[k1,k2]
theorem kernel_over_ok(t:Tm)(hb:bkT t<=LIM){l:List Ty}{u:Ty}(h:fm t l=some u):kernel_over (some nd0) [t]=some (if holdsT t=true then 0 else 40):=by
 rw[kernel_over_eq]
 have s0:∀ next,kernel_over.s1 [t] (some nd0) 0 next=bif holdsT t then next 1 else some 40:=by
  intro next
  simp only[kernel_over.s1,show decide ((0:Int)<(([t]:List Tm).length:Int))=true from rfl,cond_true,show ixL [t] 0=some t from rfl,Option.bind_some,kernel_node_holds_ok t hb l u h]
  cases holdsT t<;>rfl
 cases hh:holdsT t
 ·rw[hh]at s0;exact(LT.last fun next=>s0 next).eq
 ·rw[hh]at s0
  exact LT.eq (LT.next (fun next=>s0 next) (LT.last fun next=>rfl))
theorem zero_th(n:Option Nnode):kernel_zero_Theory [⟨n⟩]=some n.isNone:=by
 have h:∀ next,Index_Theory.s1 [⟨n⟩] ⟨none⟩ 0 next=bif n.isNone then some 0 else next 1:=by
  intro next
  simp only[Index_Theory.s1,show decide ((0:Int)<(([(⟨n⟩:Stheory)]:List Stheory).length:Int))=true from rfl,cond_true,show ixL [(⟨n⟩:Stheory)] 0=some ⟨n⟩from rfl,Option.bind_some]
  cases n<;>rfl
 have:Index_Theory [⟨n⟩] ⟨none⟩=some (if n.isNone=true then 0 else -1):=by
  rw[Index_Theory_eq]
  cases hn:n.isNone
  ·rw[hn]at h;exact LT.eq (LT.next (fun next=>h next) (LT.last fun next=>rfl))
  ·rw[hn]at h;exact(LT.last fun next=>h next).eq
 rw[kernel_zero_Theory_eq,Contains_Theory_eq,this]
 cases n<;>rfl
theorem Index_Thm_one(a:Sthm):Index_Thm [a] ⟨none,none⟩=(match a.node,a.seq with
  | none,none=>some 0
  | _,_=>some (-1)):=by
 rw[Index_Thm_eq]
 obtain⟨n,q⟩:=a
 have e:∀ next,Index_Thm.s1 [⟨n,q⟩] ⟨none,none⟩ 0 next=eq3 (eqC (C_thm ⟨none,none⟩) (C_thm ⟨n,q⟩)) (some 0) (next 1) (agree (some 0) (next 1)):=fun next=>rfl
 cases n<;>cases q
 ·exact(LT.last fun next=>e next).eq
 ·exact LT.eq (LT.next (fun next=>e next) (LT.last fun next=>rfl))
 ·exact LT.eq (LT.next (fun next=>e next) (LT.last fun next=>rfl))
 ·exact LT.eq (LT.next (fun next=>e next) (LT.last fun next=>rfl))
def thm0(s:Ssequent):Sthm:=⟨some nd0,some s⟩
theorem zero_thm(s:Ssequent):kernel_zero_Thm [thm0 s]=some false:=by
 rw[kernel_zero_Thm_eq,Contains_Thm_eq,show Index_Thm [thm0 s] ⟨none,none⟩=some (-1)from Index_Thm_one _];rfl
theorem zero_thm_none:kernel_zero_Thm [⟨none,none⟩]=some true:=by
 rw[kernel_zero_Thm_eq,Contains_Thm_eq,show Index_Thm [⟨none,none⟩] ⟨none,none⟩=some 0 from Index_Thm_one _];rfl
theorem zero_thm2(s q:Ssequent):kernel_zero_Thm [thm0 s,thm0 q]=some false:=by
 have h:Index_Thm [thm0 s,thm0 q] ⟨none,none⟩=some (-1):=by
  rw[Index_Thm_eq]
  exact LT.eq (LT.next (s':=1) (fun next=>rfl) (LT.next (s':=2) (fun next=>rfl) (LT.last fun next=>rfl)))
 rw[kernel_zero_Thm_eq,Contains_Thm_eq,h];rfl
end Go.Ab.X
