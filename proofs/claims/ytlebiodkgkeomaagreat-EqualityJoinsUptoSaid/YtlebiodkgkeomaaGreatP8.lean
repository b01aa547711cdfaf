/- A part of the proof: P8. -/
import Derived.Test.YtlebiodkgkeomaaGreatP7
set_option linter.all false
set_option linter.all false
set_option maxRecDepth 100000
set_option maxHeartbeats 2000000
namespace Go.Ab.X
open Go.RowKit Go.Ab
def doneK(u:List Tm)(q:Tm×Int):Sthm×Int:=if 64<u.length then(noThm,4)else if q.2=0 then(thm0 ⟨u,q.1⟩,0)else(noThm,q.2)
theorem done_ok(u:List Tm)(q:Tm×Int):kernel_done (some nd0) u q.1 q.2=some (doneK u q):=kernel_done_ok u q.1 q.2
theorem sides_eqn(l r:Tm)(u:Ty):kernel_sides (eqnT l r u)=some (l,r,u,true):=by
 rw[kernel_sides_eq];rfl
theorem kernel_Deduct_ok(s t:Ssequent)(h1:s.hyps.length<=64)(h2:t.hyps.length<=64)(hb:bkT (eqnT s.concl t.concl boolY)<=LIM) :
  ∃ u,SetH u (s.hyps.filter (nsame t.concl)++t.hyps.filter (nsame s.concl))/\kernel_Deduct (thm0 s) (thm0 t)=some (doneK u (mkEq s.concl t.concl boolY)):=by
 have f1:=List.length_filter_le (nsame t.concl) s.hyps
 have f2:=List.length_filter_le (nsame s.concl) t.hyps
 obtain⟨u,hu,e⟩:=kernel_union_ok (s.hyps.filter (nsame t.concl)) (t.hyps.filter (nsame s.concl)) (by simp only[LIM];omega)
 refine⟨u,hu,?_⟩
 have key:∀ z,kernel_Deduct.j1 (thm0 s) (thm0 t) (some nd0,0) (z,s.concl,t.concl)=some (doneK u (mkEq s.concl t.concl boolY)):=by
  intro z
  simp only[kernel_Deduct.j1,types_Bool_ok,Option.bind_some,kernel_equation_ok _ _ _ hb,show(thm0 s).seq=some s from rfl,show(thm0 t).seq=some t from rfl]
  rw[kernel_without_ok _ _ (by simp only[LIM];omega),Option.bind_some,kernel_without_ok _ _ (by simp only[LIM];omega),Option.bind_some,e,Option.bind_some,done_ok];rfl
 rw[kernel_Deduct_eq,kernel_related_ok,Option.bind_some]
 simp only[decide_true,Bool.not_true,cond_false,jn,show(thm0 s).seq=some s from rfl,show(thm0 t).seq=some t from rfl,Option.bind_some]
 exact agree_of (key _) (key _)
theorem kernel_EqMp_ok(H1:List Tm)(p q:Tm)(v:Ty)(t:Ssequent)(h1:H1.length<=64)(h2:t.hyps.length<=64) :
  ∃ u,SetH u (H1++t.hyps)/\kernel_EqMp (thm0 ⟨H1,eqnT p q v⟩) (thm0 t)=some (if cmpTm p t.concl=0 then doneK u (q,0)else(noThm,50)):=by
 obtain⟨u,hu,e⟩:=kernel_union_ok H1 t.hyps (by simp only[LIM];omega)
 refine⟨u,hu,?_⟩
 rw[kernel_EqMp_eq,kernel_related_ok,Option.bind_some]
 simp only[decide_true,Bool.not_true,cond_false,show(thm0 ⟨H1,eqnT p q v⟩).seq=some ⟨H1,eqnT p q v⟩from rfl,show(thm0 t).seq=some t from rfl,Option.bind_some,sides_eqn,jn,terms_Same_ok]
 by_cases hc:cmpTm p t.concl=0
 ·rw[if_pos hc,decide_eq_true hc]
  simp only[kernel_EqMp.j1,Bool.not_true,cond_false,show(thm0 ⟨H1,eqnT p q v⟩).seq=some ⟨H1,eqnT p q v⟩from rfl,show(thm0 t).seq=some t from rfl,Option.bind_some,e]
  rw[show kernel_done (some nd0) u q 0=some (doneK u (q,0))from done_ok u (q,0)];rfl
 ·rw[if_neg hc,decide_eq_false hc];rfl
theorem kernel_Comb_ok(H1 H2:List Tm)(f g x y:Tm)(a b:Ty)(h1:H1.length<=64)(h2:H2.length<=64)(hb:bkT (eqnT (combT f x) (combT g y) b)<=LIM) :
  ∃ u,SetH u (H1++H2)/\kernel_Comb (thm0 ⟨H1,eqnT f g (funY a b)⟩) (thm0 ⟨H2,eqnT x y a⟩)=some (doneK u (mkEq (combT f x) (combT g y) b)):=by
 obtain⟨u,hu,e⟩:=kernel_union_ok H1 H2 (by simp only[LIM];omega)
 refine⟨u,hu,?_⟩
 rw[kernel_Comb_eq,kernel_related_ok,Option.bind_some]
 simp only[decide_true,Bool.not_true,cond_false,show(thm0 ⟨H1,eqnT f g (funY a b)⟩).seq=some ⟨H1,eqnT f g (funY a b)⟩from rfl,show(thm0 ⟨H2,eqnT x y a⟩).seq=some ⟨H2,eqnT x y a⟩from rfl,Option.bind_some,sides_eqn,jn,kernel_Comb.j1,
  show(funY a b).v=false from rfl,show(funY a b).n=⟨#[102,117,110]⟩from rfl,show(funY a b).a=[a,b]from rfl,l2,ix0,ix1,types_Same_ok,cmpTy_self,kernel_Comb.j2,kernel_comb_ok,kernel_equation_ok _ _ _ hb,e]
 rw[done_ok];rfl
theorem noneY_eq{y:Ty}(h:noneY y=true):y=zeroY:=by
 cases y with
 | mk v n a =>
  simp[noneY]at h
  obtain⟨h1,h2,h3⟩:=h
  subst h1 h2 h3
  rfl
theorem boolB_eq{d:Ty}(h:boolB d=true):d=boolY:=by
 cases d with
 | mk v n a =>
  simp[boolB]at h
  obtain⟨h1,h2,h3⟩:=h
  simp[Ty.v,Ty.n,Ty.a]at h1 h2 h3
  subst h1 h2 h3
  rfl
theorem eqB_eq{u:Ty}(h:eqB u=true):∃ v,u=funY v (funY v boolY):=by
 unfold eqB at h
 split at h
 ·rename_i a c hu
  split at h
  ·rename_i b d hc
   obtain rfl:=funP_some hu
   obtain rfl:=funP_some hc
   simp at h
   obtain rfl:=(cmpTy_iff _ _).1 h.1
   obtain rfl:=boolB_eq h.2
   exact⟨a,rfl⟩
  ·cases h
 ·cases h
theorem tm_ext{t:Tm}{k:Int}{n:ByteArray}{y:Ty}{i:Int}{s:List Tm}(h1:t.k=k)(h2:t.n=n)(h3:t.y=y)(h4:t.i=i)(h5:t.s=s):t=.mk k n y i s:=by
 cases t;simp[Tm.k,Tm.n,Tm.y,Tm.i,Tm.s]at *;simp[*]
theorem comb_eq{t:Tm}{l:List Ty}{u:Ty}(h:fm t l=some u)(hk:t.k=4):∃ f x a,t=combT f x/\fm f l=some (funY a u)/\fm x l=some a:=by
 obtain⟨f,x,a,h1,h2,h3,h4,h5,h6⟩:=fm_comb h hk
 exact⟨f,x,a,tm_ext hk h2 (noneY_eq h3) h4 h1,h5,h6⟩
theorem holds_comb(f x:Tm):holdsT (combT f x)=(holdsT f && holdsT x):=by
 rw[holdsT_eq]
 simp[combT,Tm.k,Tm.s,holdsTs]
theorem small_of{t s:Tm}(h:smallT t=true)(h1:szT s<=szT t)(h2:dpT s<=dpT t):smallT s=true:=by
 simp only[smallT,Bool.and_eq_true,decide_eq_true_eq]at *
 omega
theorem small_comb{f x:Tm}(h:smallT (combT f x)=true):smallT f=true/\smallT x=true:=
 ⟨small_of h (by rw[szT_comb];omega) (by rw[dpT_comb];omega),small_of h (by rw[szT_comb];omega) (by rw[dpT_comb];omega)⟩
theorem funY_inj{a b c d:Ty}(h:funY a b=funY c d):a=c/\b=d:=by
 have:=congrArg funP h
 rw[funP_fun,funP_fun]at this
 cases this
 exact⟨rfl,rfl⟩
theorem eqn_of{B:Nat}{t l r:Tm}{u:Ty}(h:KT B t u)(he:isEqP t=some (l,r)):∃ v,t=eqnT l r v/\KT B l v/\KT B r v/\KT B (eqC_ v) (funY v (funY v boolY))/\u=boolY/\validY (funY v (funY v boolY))=true:=by
 obtain⟨f,e,h1,h2,h3,h4,h5,h6⟩:=isEqP_some he
 obtain⟨f',r',a,rfl,hf,hr⟩:=comb_eq h.fm h3
 have:=h1;simp[combT,Tm.s]at this
 obtain⟨rfl,rfl⟩:=this
 obtain⟨e',l',b,rfl,he',hl⟩:=comb_eq hf h4
 have:=h2;simp[combT,Tm.s]at this
 obtain⟨rfl,rfl⟩:=this
 obtain⟨c1,c2,c3,c4,c5⟩:=fm_const he' (.inl h5)
 have ho:=h.ho
 rw[holds_comb,holds_comb,Bool.and_eq_true,Bool.and_eq_true]at ho
 obtain⟨⟨ho1,ho2⟩,ho3⟩:=ho
 have hq:=ho1
 rw[holdsT_eq]at hq
 simp[h5,h6]at hq
 obtain⟨v,hv⟩:=eqB_eq hq.1.2
 rw[hv]at c1
 obtain⟨g1,g2⟩:=funY_inj c1
 obtain⟨g3,g4⟩:=funY_inj g2
 subst g1 g3 g4
 have hee:e'=eqC_ a:=tm_ext h5 h6 hv c4 c5
 subst hee
 obtain⟨s1,s2⟩:=small_comb h.sm
 obtain⟨s3,s4⟩:=small_comb s1
 have hb:=h.bk
 rw[bkT_comb,bkT_comb]at hb
 refine⟨a,rfl,⟨hl,s4,ho2,by omega⟩,⟨hr,s2,ho3,by omega⟩,⟨he',s3,ho1,by omega⟩,rfl,?_⟩
 rw[<-hv];exact c3
end Go.Ab.X

set_option linter.all false
set_option maxRecDepth 100000
set_option maxHeartbeats 1000000
namespace Go.Ab.X
open Go.RowKit Go.Ab
theorem ref04_TypeOp_ok(n:ByteArray):ref04_TypeOp sg0 n=some (if n=⟨#[98,111,111,108]⟩then(0,true)else if n=⟨#[102,117,110]⟩then(2,true)else(0,false)):=by
 rw[ref04_TypeOp_eq]
 have i0:ixL sg0.types 0=some ⟨⟨#[98,111,111,108]⟩,0⟩:=rfl
 have i1:ixL sg0.types 1=some ⟨⟨#[102,117,110]⟩,2⟩:=rfl
 have l0:decide ((0:Int)<(sg0.types.length:Int))=true:=rfl
 have l1:decide ((1:Int)<(sg0.types.length:Int))=true:=rfl
 have l2:decide ((2:Int)<(sg0.types.length:Int))=false:=rfl
 by_cases hb:n=⟨#[98,111,111,108]⟩
 ·rw[if_pos hb]
  exact(LT.last fun next=>by simp only[ref04_TypeOp.s1,l0,cond_true,i0,Option.bind_some,hb,decide_true]).eq
 ·rw[if_neg hb]
  have hb':¬ (⟨#[98,111,111,108]⟩:ByteArray)=n:=fun e=>hb e.symm
  refine LT.eq (LT.next (s':=1) (fun next=>?_) ?_)
  ·simp only[ref04_TypeOp.s1,l0,cond_true,i0,Option.bind_some,hb',decide_false,cond_false];rfl
  by_cases hf:n=⟨#[102,117,110]⟩
  ·rw[if_pos hf]
   exact LT.last fun next=>by simp only[ref04_TypeOp.s1,l1,cond_true,i1,Option.bind_some,hf,decide_true]
  ·rw[if_neg hf]
   have hf':¬ (⟨#[102,117,110]⟩:ByteArray)=n:=fun e=>hf e.symm
   refine LT.next (s':=2) (fun next=>?_) (LT.last fun next=>?_)
   ·simp only[ref04_TypeOp.s1,l1,cond_true,i1,Option.bind_some,hf',decide_false,cond_false];rfl
   ·simp only[ref04_TypeOp.s1,l2,cond_false]
theorem ref04_OverType_ok:∀ u:Ty,ref04_OverType sg0 u=some (hasY u):=by
 refine Ty.ind fun t ih=>?_
 rw[ref04_OverType_eq,hasY_eq]
 cases hv:t.v
 ·have key:loopN (ref04_OverType.s2 t sg0) 0=some (hasYs t.a):=by
   refine LT.inv (T:=Unit) t.a (fun i _=>(i:Int)) (fun i _=>hasYs (t.a.drop i)=hasYs t.a) ?_ ?_ (t0:=()) rfl
   ·intro i x _ hx hp
    rw[hasYs_at hx]at hp
    simp only[ref04_OverType.s2,dlt hx,ixg,hx,Option.bind_some,cond_true,ih x (List.mem_of_getElem? hx)]
    cases hc:hasY x
    ·rw[hc]at hp
     exact .inr fun next=>by rw[<-hp];rfl
    ·rw[hc]at hp
     exact .inl ⟨(),fun next=>by simp only[Bool.not_true,cond_false,inc_nat],by simpa using hp⟩
   ·intro _ hp next
    simp only[ref04_OverType.s2,dle,cond_false]
    rw[<-hp,List.drop_length];rfl
  have hj:∀ b,ref04_OverType.j1 t sg0 b=some (!b && hasYs t.a):=by
   intro b;cases b
   ·simp only[ref04_OverType.j1,cond_false,key,Bool.not_false,Bool.true_and]
   ·rfl
  simp only[cond_false,Option.bind_some,ref04_TypeOp_ok,jn,hj,Bool.false_or]
  by_cases hb:t.n=⟨#[98,111,111,108]⟩
  ·simp only[hb,if_true,Bool.not_true,cond_false,decide_true,Bool.true_and,show decide ((⟨#[98,111,111,108]⟩:ByteArray)=⟨#[102,117,110]⟩)=false from rfl,Bool.false_and,Bool.or_false]
   rw[show decide ((0:Int)=(t.a.length:Int))=decide (t.a.length=0)from by congr 1;exact propext (by omega)]
   cases decide (t.a.length=0)<;>rfl
  ·by_cases hf:t.n=⟨#[102,117,110]⟩
   ·simp only[hf,if_true,show ¬ ((⟨#[102,117,110]⟩:ByteArray)=⟨#[98,111,111,108]⟩) by decide,if_false,Bool.not_true,cond_false,decide_true,decide_false,Bool.true_and,Bool.false_and,Bool.false_or]
    rw[show decide ((2:Int)=(t.a.length:Int))=decide (t.a.length=2)from by congr 1;exact propext (by omega)]
    cases decide (t.a.length=2)<;>rfl
   ·simp only[hb,hf,if_false,Bool.not_false,cond_true,decide_false,Bool.false_and,Bool.or_self]
    rfl
 ·rfl
theorem rof_nil(v:ByteArray):ref01_Of [] v=some (.mk true v [],false):=by
 rw[ref01_Of_eq];exact(LT.last fun next=>rfl).eq
theorem rof_one(a:Ty):ref01_Of (bnd1 a) ⟨#[39,97]⟩=some (a,true):=by
 rw[ref01_Of_eq]
 refine(LT.last fun next=>?_).eq
 simp only[ref01_Of.s1,show decide ((0:Int)<((bnd1 a).length:Int))=true from rfl,cond_true,show ixL (bnd1 a) 0=some ⟨⟨#[39,97]⟩,a⟩from rfl,Option.bind_some,decide_true]
theorem rm_var0(a:Ty)(hb:bkY a<=LIM):ref01_Matched varA a []=some (bnd1 a,true):=by
 rw[ref01_Matched_eq]
 simp only[show varA.v=true from rfl,cond_true,show varA.n=⟨#[39,97]⟩from rfl,rof_nil,Option.bind_some,cond_false,ref01_Twin_ok a hb]
 rfl
theorem rm_var1(a b:Ty):ref01_Matched varA b (bnd1 a)=some (bnd1 a,decide (cmpTy a b=0)):=by
 rw[ref01_Matched_eq]
 simp only[show varA.v=true from rfl,cond_true,show varA.n=⟨#[39,97]⟩from rfl,rof_one,Option.bind_some,ref01_Same_ok]
theorem rm_bool(h:List Stypebind)(d:Ty):ref01_Matched boolY d h=some (bif boolB d then(h,true)else([],false)):=by
 rw[ref01_Matched_eq]
 have e:ref01_Matched.j1 boolY d h true=some ([],false):=rfl
 have e0:(0:Int)=(d.a.length:Int)↔d.a.length=0:=by omega
 have e1:(⟨#[98,111,111,108]⟩:ByteArray)=d.n↔d.n=⟨#[98,111,111,108]⟩:=eq_comm
 simp only[jn,show boolY.v=false from rfl,cond_false,show boolY.n=⟨#[98,111,111,108]⟩from rfl,show((boolY.a.length:Nat):Int)=0 from rfl,boolB,e0,e1]
 cases d.v
 ·by_cases hn:d.n=⟨#[98,111,111,108]⟩
  ·by_cases ha:d.a.length=0
   ·simp only[cond_false,hn,ha,decide_true,Bool.not_true,Bool.not_false,Bool.and_self,cond_true,ref01_Matched.j1]
    exact(LT.last fun next=>rfl).eq
   ·simp only[cond_false,hn,ha,decide_true,decide_false,Bool.not_true,Bool.not_false,Bool.and_false,e]
  ·simp only[cond_false,hn,decide_false,Bool.not_false,cond_true,Bool.false_and,Bool.and_false,e]
 ·simp only[cond_true,Bool.not_true,Bool.false_and,cond_false,e]
theorem rm_none(h:List Stypebind)(p q u:Ty)(hu:funP u=none):ref01_Matched (funY p q) u h=some ([],false):=by
 rw[ref01_Matched_eq]
 have e:ref01_Matched.j1 (funY p q) u h true=some ([],false):=rfl
 have e0:(2:Int)=(u.a.length:Int)↔(u.a.length:Int)=2:=eq_comm
 have e1:(⟨#[102,117,110]⟩:ByteArray)=u.n↔u.n=⟨#[102,117,110]⟩:=eq_comm
 simp only[jn,show(funY p q).v=false from rfl,cond_false,show(funY p q).n=⟨#[102,117,110]⟩from rfl,show(funY p q).a=[p,q]from rfl,l2,e0,e1]
 rcases funP_none hu with h1|h1|h1
 ·rw[h1];exact e
 ·cases u.v
  ·simp only[cond_false,h1,decide_false,Bool.not_false,cond_true];exact e
  ·exact e
 ·cases u.v
  ·by_cases h2:u.n=⟨#[102,117,110]⟩
   ·simp only[cond_false,h2,decide_true,Bool.not_true,h1,decide_false,Bool.not_false];exact e
   ·simp only[cond_false,h2,decide_false,Bool.not_false,cond_true];exact e
  ·exact e
theorem rm_fun{h h1 h2:List Stypebind}{p q a c:Ty}{b1 b2:Bool}(m1:ref01_Matched p a h=some (h1,b1))(m2:b1=true->ref01_Matched q c h1=some (h2,b2)) :
  ref01_Matched (funY p q) (funY a c) h=some (bif b1 && b2 then(h2,true)else([],false)):=by
 rw[ref01_Matched_eq]
 simp only[jn,show ∀ x y,(funY x y).v=false from fun _ _=>rfl,cond_false,show ∀ x y,(funY x y).n=⟨#[102,117,110]⟩from fun _ _=>rfl,show ∀ x y,(funY x y).a=[x,y]from fun _ _=>rfl,l2,decide_true,Bool.not_true,ref01_Matched.j1]
 have ls:∀ i:Int,(i=0\/i=1)->decide (i<((funY p q).a.length:Int))=true:=by rintro i (rfl|rfl)<;>rfl
 have s0:∀ next,ref01_Matched.s2 (funY p q) (funY a c) (h,0) next=bif b1 then next (h1,1)else some ([],false):=by
  intro next
  simp only[ref01_Matched.s2,ls 0 (.inl rfl),cond_true,show ∀ x y,(funY x y).a=[x,y]from fun _ _=>rfl,ix0,Option.bind_some,m1]
  cases b1<;>rfl
 cases hb:b1
 ·rw[hb]at s0
  exact(LT.last fun next=>s0 next).eq
 ·rw[hb]at s0
  refine LT.eq (LT.next (fun next=>s0 next) ?_)
  have s1:∀ next,ref01_Matched.s2 (funY p q) (funY a c) (h1,1) next=bif b2 then next (h2,2)else some ([],false):=by
   intro next
   simp only[ref01_Matched.s2,ls 1 (.inr rfl),cond_true,show ∀ x y,(funY x y).a=[x,y]from fun _ _=>rfl,ix1,Option.bind_some,m2 hb]
   cases b2<;>rfl
  cases hc:b2
  ·rw[hc]at s1
   exact LT.last fun next=>s1 next
  ·rw[hc]at s1
   refine LT.next (fun next=>s1 next) (LT.last fun next=>?_)
   simp only[ref01_Matched.s2,show decide ((2:Int)<((funY p q).a.length:Int))=false from rfl,cond_false];rfl
theorem rm_eq(u:Ty)(hb:bkY u<=LIM):∃ s,ref01_Matched eqY u []=some (s,eqB u):=by
 unfold eqB
 cases hu:funP u with
 | none=>exact⟨_,rm_none _ _ _ _ hu⟩
 | some ac =>
  obtain⟨a,c⟩:=ac
  obtain rfl:=funP_some hu
  rw[bkY_fun]at hb
  have m0:=rm_var0 a (by omega)
  simp only
  cases hc:funP c with
  | none =>
   exact⟨[],rm_fun (h2:=[]) (b2:=false) m0 (fun _=>rm_none _ _ _ _ hc)⟩
  | some bd =>
   obtain⟨b,d⟩:=bd
   obtain rfl:=funP_some hc
   have m1:=rm_fun (h2:=bif boolB d then bnd1 a else []) (b2:=boolB d) (rm_var1 a b) (fun _=>(rm_bool (bnd1 a) d).trans (by cases boolB d<;>rfl))
   have m2:=rm_fun m0 (h2:=(bif decide (cmpTy a b=0) && boolB d then((bif boolB d then bnd1 a else []),true)else([],false)).1) (b2:=decide (cmpTy a b=0) && boolB d) (fun _=>m1.trans (by cases decide (cmpTy a b=0) && boolB d<;>rfl))
   rw[Bool.true_and]at m2
   cases hq:decide (cmpTy a b=0) && boolB d
   ·rw[hq]at m2;exact⟨[],m2.trans (by simp only[hq];rfl)⟩
   ·rw[hq]at m2;exact⟨_,m2.trans (by simp only[hq];rfl)⟩
theorem ref04_Const_ok(n:ByteArray):ref04_Const sg0 n=some (if n=⟨#[61]⟩then(eqY,true)else(zeroY,false)):=by
 have i0:ixL sg0.consts 0=some ⟨⟨#[61]⟩,eqY⟩:=rfl
 have l0:decide ((0:Int)<(sg0.consts.length:Int))=true:=rfl
 have l1:decide ((1:Int)<(sg0.consts.length:Int))=false:=rfl
 rw[ref04_Const_eq]
 by_cases hb:n=⟨#[61]⟩
 ·rw[if_pos hb]
  refine(LT.last fun next=>?_).eq
  simp only[ref04_Const.s1,l0,cond_true,i0,Option.bind_some,hb,decide_true,ref01_Twin_ok eqY (by rw[bk_eqY];simp[LIM])]
 ·rw[if_neg hb]
  have hb':¬ (⟨#[61]⟩:ByteArray)=n:=fun e=>hb e.symm
  refine LT.eq (LT.next (s':=(1,zeroY)) (fun next=>?_) (LT.last fun next=>?_))
  ·simp only[ref04_Const.s1,l0,cond_true,i0,Option.bind_some,hb',decide_false,cond_false];rfl
  ·simp only[ref04_Const.s1,l1,cond_false];rfl
theorem ref04_OverTerm_ok:∀ t:Tm,bkT t<=LIM->ref04_OverTerm sg0 t=some (holdsT t):=by
 refine Tm.ind fun t ih hb=>?_
 have key:loopN (ref04_OverTerm.s3 t sg0) 0=some (holdsTs t.s):=by
  refine LT.inv (T:=Unit) t.s (fun i _=>(i:Int)) (fun i _=>holdsTs (t.s.drop i)=holdsTs t.s) ?_ ?_ (t0:=()) rfl
  ·intro i x _ hx hp
   rw[holdsTs_at hx]at hp
   have hm:=List.mem_of_getElem? hx
   simp only[ref04_OverTerm.s3,dlt hx,ixg,hx,Option.bind_some,cond_true,ih x hm (bkT_in hb hm)]
   cases hc:holdsT x
   ·rw[hc]at hp
    exact .inr fun next=>by rw[<-hp];rfl
   ·rw[hc]at hp
    exact .inl ⟨(),fun next=>by simp only[Bool.not_true,cond_false,inc_nat],by simpa using hp⟩
  ·intro _ hp next
   simp only[ref04_OverTerm.s3,dle,cond_false]
   rw[<-hp,List.drop_length];rfl
 have h1:ref04_OverTerm.j1 t sg0 ()=some ((!decide (t.k=2) || (decide (t.n=⟨#[61]⟩) && eqB t.y)) && holdsTs t.s):=by
  simp only[ref04_OverTerm.j1,jn,ref04_OverTerm.j2,key]
  by_cases hk:t.k=2
  ·obtain⟨s,hm⟩:=rm_eq t.y (bkT_y hb)
   simp only[hk,decide_true,cond_true,ref04_Const_ok,Option.bind_some,Bool.not_true,Bool.false_or]
   by_cases hn:t.n=⟨#[61]⟩
   ·simp only[hn,if_true,Bool.not_true,cond_false,hm,Option.bind_some,decide_true,Bool.true_and]
    cases eqB t.y<;>rfl
   ·simp only[hn,if_false,Bool.not_false,cond_true,decide_false,Bool.false_and]
  ·simp only[hk,decide_false,cond_false,Bool.not_false,Bool.true_or,Bool.true_and]
 have h4:∀ b,ref04_OverTerm.j4 sg0 t (ref04_OverTerm.j1 t sg0) b=some ((!b || hasY t.y) && ((!decide (t.k=2) || (decide (t.n=⟨#[61]⟩) && eqB t.y)) && holdsTs t.s)):=by
  intro b
  cases b
  ·simp only[ref04_OverTerm.j4,cond_false,h1,Bool.not_false,Bool.true_or,Bool.true_and]
  ·simp only[ref04_OverTerm.j4,cond_true,ref04_OverType_ok,Option.bind_some,h1,Bool.not_true,Bool.false_or]
   cases hasY t.y<;>rfl
 rw[ref04_OverTerm_eq,holdsT_eq]
 simp only[jn,h4,bor,Bool.and_assoc]
 by_cases k1:t.k=1
 ·simp[k1]
 ·by_cases k2:t.k=2
  ·simp[k2]
  ·simp[k1,k2]
theorem ref04_Check_ok:ref04_Check sg0=some 0:=by
 rw[ref04_Check_eq]
 have o1:ref04_Operator ⟨#[98,111,111,108]⟩=some true:=by rw[ref04_Operator_eq,ref01_Name_ok];rfl
 have o2:ref04_Operator ⟨#[102,117,110]⟩=some true:=by rw[ref04_Operator_eq,ref01_Name_ok];rfl
 have o3:ref02_Name ⟨#[61]⟩=some true:=by rw[ref02_Name_ok];rfl
 have o4:ref01_Valid eqY=some true:=by rw[ref01_Valid_ok _ (by rw[bk_eqY];simp[LIM]),valid_eqY]
 have o5:ref04_OverType sg0 eqY=some true:=by rw[ref04_OverType_ok];rfl
 have j0:ixL sg0.consts 0=some ⟨⟨#[61]⟩,eqY⟩:=rfl
 have i0:ixL sg0.types 0=some ⟨⟨#[98,111,111,108]⟩,0⟩:=rfl
 have i1:ixL sg0.types 1=some ⟨⟨#[102,117,110]⟩,2⟩:=rfl
 have cs:loopN (ref04_Check.s5 sg0) 0=some 0:=by
  refine LT.eq (LT.next (s':=1) (fun next=>?_) (LT.last fun next=>rfl))
  simp only[ref04_Check.s5,show decide ((0:Int)<(sg0.consts.length:Int))=true from rfl,cond_true,jn,j0,Option.bind_some,o3,o4,o5,Bool.not_true,cond_false,ref04_Check.j6]
  exact(LT.last fun next'=>rfl).eq
 have ts:loopN (ref04_Check.s2 sg0) 0=some 0:=by
  refine LT.eq (LT.next (s':=1) (fun next=>?_) (LT.next (s':=2) (fun next=>?_) (LT.last fun next=>?_)))
  ·simp only[ref04_Check.s2,show decide ((0:Int)<(sg0.types.length:Int))=true from rfl,cond_true,jn,i0,Option.bind_some,o1,Bool.not_true,cond_false,show decide ((0:Int)<0)=false from rfl,show decide ((8:Int)<0)=false from rfl,ref04_Check.j3]
   exact(LT.last fun next'=>rfl).eq
  ·simp only[ref04_Check.s2,show decide ((1:Int)<(sg0.types.length:Int))=true from rfl,cond_true,jn,i1,Option.bind_some,o2,Bool.not_true,cond_false,show decide ((2:Int)<0)=false from rfl,show decide ((8:Int)<2)=false from rfl,ref04_Check.j3]
   refine LT.eq (LT.next (s':=1) (fun next'=>?_) (LT.last fun next'=>rfl))
   simp only[ref04_Check.s4,show decide ((0:Int)<1)=true from rfl,cond_true,i0,i1,Option.bind_some,show decide ((⟨#[98,111,111,108]⟩:ByteArray)=⟨#[102,117,110]⟩)=false from rfl,cond_false]
   rfl
  ·simp only[ref04_Check.s2,show decide ((2:Int)<(sg0.types.length:Int))=false from rfl,cond_false,cs]
 simp only[jn,ref04_Check.j1,ts]
 rfl
theorem ref04_Term_ok(t:Tm)(hb:bkT t<=BIG):ref04_Term sg0 t=some (errK t):=by
 rw[ref04_Term_eq,ref04_Check_ok,Option.bind_some]
 simp only[decide_true,Bool.not_true,cond_false,ref02_Check_ok t hb,Option.bind_some,ref04_OverTerm_ok t (big_lim hb)]
 unfold errK
 by_cases hc:chkT t=0
 ·simp only[hc,decide_true,Bool.not_true,cond_false,if_true]
  cases holdsT t<;>rfl
 ·simp only[hc,decide_false,Bool.not_false,cond_true,if_false]
end Go.Ab.X
