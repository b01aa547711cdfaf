/- A part of the proof: P2. -/
import Derived.Test.YtlebiodkgkeomaaGreatP1
set_option linter.all false
set_option linter.all false
set_option maxRecDepth 100000
set_option maxHeartbeats 1000000
namespace Go.Ab.X
open Go.RowKit Go.Ab
theorem bor{α:Type}(f:Bool->α)(a b:Bool):cond a (f true) (f b)=f (a || b):=by cases a<;>rfl
theorem sz_toL(s:ByteArray):s.data.toList.length=s.size:=Array.length_toList
theorem ixSd{s:ByteArray}{i:Nat}{c:UInt8}(h:s.data.toList[i]? = some c):ixS s (i:Int)=some (c.toNat:Int):=by
 rw[ixS_nat];simp at h;simp[h]
theorem dltS{s:ByteArray}{i:Nat}{c:UInt8}(h:s.data.toList[i]? = some c):decide ((i:Int)<(ByteArray.size s:Int))=true:=by
 have h1:=(List.getElem?_eq_some_iff.1 h).1
 have:=sz_toL s
 exact decide_eq_true (by omega)
theorem dleS{s:ByteArray}:decide (((s.data.toList.length:Nat):Int)<(ByteArray.size s:Int))=false:=by
 have:=sz_toL s
 exact decide_eq_false (by omega)
theorem goodL_at{l:List UInt8}{i:Nat}{c:UInt8}(h:l[i]? = some c):goodL (l.drop i)=(!badC (c.toNat:Int) && goodL (l.drop (i+1))):=by
 obtain⟨h1,e1⟩:=List.getElem?_eq_some_iff.1 h
 rw[List.drop_eq_getElem_cons h1,e1];rfl
theorem ref01_Name_ok(s:ByteArray):ref01_Name s=some (nameB s):=by
 have key:loopN (ref01_Name.s2 s) 0=some (goodL s.data.toList):=by
  refine LT.inv (T:=Unit) s.data.toList (fun i _=>(i:Int)) (fun i _=>goodL (s.data.toList.drop i)=goodL s.data.toList) ?_ ?_ (t0:=()) rfl
  ·intro i c _ hc hp
   rw[goodL_at hc]at hp
   simp only[ref01_Name.s2,dltS hc,ixSd hc,Option.bind_some,cond_true,jn,bor]
   simp only[ref01_Name.j3]
   unfold badC at hp
   cases hb:(decide ((c.toNat:Int)<33) || (decide (126<(c.toNat:Int)) || (decide ((c.toNat:Int)=40) || (decide ((c.toNat:Int)=41) || (decide ((c.toNat:Int)=44) || (decide ((c.toNat:Int)=58) || (decide ((c.toNat:Int)=92) || (decide ((c.toNat:Int)=46) || decide ((c.toNat:Int)=34)))))))))
   ·rw[hb]at hp
    exact .inl ⟨(),fun next=>by rw[cond_false,inc_nat],by simpa using hp⟩
   ·rw[hb]at hp
    exact .inr fun next=>by rw[cond_true,<-hp];rfl
  ·intro _ hp next
   simp only[ref01_Name.s2,dleS,cond_false]
   rw[List.drop_length]at hp
   rw[<-hp];rfl
 rw[ref01_Name_eq]
 simp only[jn,bor,ref01_Name.j1,key]
 unfold nameB
 simp only[Bool.cond_eq_ite]
 grind
theorem types_name_ok(s:ByteArray):types_name s=some (nameB s):=by
 have h:(s=⟨#[]⟩)↔¬ 1<=s.size:=by
  constructor
  ·rintro rfl;decide
  ·intro h
   have h0:s.data.size=0:=by have:s.size=s.data.size:=rfl;omega
   exact ByteArray.ext (Array.eq_empty_of_size_eq_zero h0)
 have key:loopN (types_name.s1 s) 0=some (goodL s.data.toList && ((!decide (s=⟨#[]⟩)) && decide ((s.size:Int)<=30))):=by
  refine LT.inv (T:=Unit) s.data.toList (fun i _=>(i:Int)) (fun i _=>goodL (s.data.toList.drop i)=goodL s.data.toList) ?_ ?_ (t0:=()) rfl
  ·intro i c _ hc hp
   rw[goodL_at hc]at hp
   simp only[types_name.s1,dltS hc,ixSd hc,Option.bind_some,cond_true,jn,bor]
   simp only[types_name.j2,types_name.j3,jn,bor]
   unfold badC at hp
   cases hb:(decide ((c.toNat:Int)<33) || (decide (126<(c.toNat:Int)) || (decide ((c.toNat:Int)=40) || (decide ((c.toNat:Int)=41) || (decide ((c.toNat:Int)=44) || (decide ((c.toNat:Int)=58) || (decide ((c.toNat:Int)=92) || (decide ((c.toNat:Int)=46) || decide ((c.toNat:Int)=34)))))))))
   ·rw[hb]at hp
    refine .inl ⟨(),fun next=>?_,by simpa using hp⟩
    simp only[Bool.or_eq_false_iff]at hb
    simp only[hb,Bool.or_self,cond_false,inc_nat]
   ·rw[hb]at hp
    refine .inr fun next=>?_
    rw[<-hp]
    simp only[Bool.cond_eq_ite]
    grind
  ·intro _ hp next
   simp only[types_name.s1,dleS,cond_false]
   rw[List.drop_length]at hp
   rw[<-hp]
   cases decide (s=⟨#[]⟩)<;>simp[goodL]
 rw[types_name_eq,key]
 unfold nameB
 have e1:(!decide (s=⟨#[]⟩))=decide (1<=s.size):=by
  by_cases hh:1<=s.size
  ·rw[decide_eq_false (fun e=>h.1 e hh),decide_eq_true hh];rfl
  ·rw[decide_eq_true (h.2 hh),decide_eq_false hh];rfl
 have e2:decide ((s.size:Int)<=30)=decide (s.size<=30):=by congr 1;exact propext (by omega)
 rw[e1,e2]
 cases goodL s.data.toList<;>simp
theorem name_get{s:ByteArray}(h:nameB s=true):∃ c:UInt8,s.data[0]? = some c/\(c.toNat:Int)=fstC s:=by
 simp only[nameB,Bool.and_eq_true,decide_eq_true_eq]at h
 have hs:0<s.data.size:=h.1
 refine⟨s.data[0],Array.getElem?_eq_getElem hs,?_⟩
 simp[fstC,Array.getElem?_eq_getElem hs]
theorem name_ixS{s:ByteArray}(h:nameB s=true):ixS s 0=some (fstC s):=by
 obtain⟨c,h1,h2⟩:=name_get h
 have:=ixS_nat s 0
 simp only[Int.natCast_zero,h1,Option.map_some,h2]at this
 exact this
theorem types_variable_ok(s:ByteArray):types_variable s=some (nameB s && decide (fstC s=39)):=by
 rw[types_variable_eq,types_name_ok]
 cases h:nameB s
 ·rfl
 ·simp[name_ixS h]
theorem ref02_Name_ok(s:ByteArray):ref02_Name s=some (nameT s):=by
 rw[ref02_Name_eq,ref01_Name_ok]
 unfold nameT
 cases h:nameB s
 ·rfl
 ·simp[name_ixS h]
theorem shapeYs_at{l:List Ty}{i:Nat}{x:Ty}(h:l[i]? = some x):shapeYs (l.drop i)=(shapeY x && shapeYs (l.drop (i+1))):=by
 obtain⟨h1,e1⟩:=List.getElem?_eq_some_iff.1 h
 rw[List.drop_eq_getElem_cons h1,e1];rfl
theorem ref01_shape_ok:∀ t:Ty,ref01_shape t=some (shapeY t):=by
 refine Ty.ind fun t ih=>?_
 have key:loopN (ref01_shape.s2 t) 0=some (shapeYs t.a):=by
  refine LT.inv (T:=Unit) t.a (fun i _=>(i:Int)) (fun i _=>shapeYs (t.a.drop i)=shapeYs t.a) ?_ ?_ (t0:=()) rfl
  ·intro i x _ hx hp
   rw[shapeYs_at hx]at hp
   simp only[ref01_shape.s2,dlt hx,ixg,hx,Option.bind_some,cond_true,ih x (List.mem_of_getElem? hx)]
   cases hs:shapeY x
   ·rw[hs]at hp
    exact .inr fun next=>by rw[<-hp];rfl
   ·rw[hs]at hp
    exact .inl ⟨(),fun next=>by simp only[Bool.not_true,cond_false,inc_nat],by simpa using hp⟩
  ·intro _ hp next
   simp only[ref01_shape.s2,dle,cond_false]
   rw[List.drop_length]at hp
   rw[<-hp];rfl
 rw[ref01_shape_eq,shapeY_eq]
 simp only[jn,ref01_Name_ok,Option.bind_some,ref01_shape.j1,key]
 cases hn:nameB t.n
 ·simp
 ·simp only[name_ixS hn,Option.bind_some]
  have e3:(0<(t.a.length:Int))↔0<t.a.length:=by omega
  have e4:(8<(t.a.length:Int))↔8<t.a.length:=by omega
  simp only[e3,e4]
  cases t.v<;>by_cases h:fstC t.n=39<;>by_cases h2:0<t.a.length<;>by_cases h3:8<t.a.length<;>simp[h,h2,h3]<;>grind
theorem ref01_Valid_ok(t:Ty)(hb:bkY t<=LIM):ref01_Valid t=some (validY t):=by
 rw[ref01_Valid_eq,ref01_Small_ok t hb,ref01_shape_ok]
 unfold validY
 cases(decide (szY t<=500) && decide (dpY t<=200))<;>rfl
def meaY(t:Ty):Int×Int×Bool:=((szY t:Int),(dpY t:Int),shapeY t)
theorem types_measure_ok:∀ t:Ty,bkY t<=LIM->types_measure t=some (meaY t):=by
 refine Ty.ind fun t ih hb=>?_
 have hs:=szYs_bk' t.a (bkYs_a hb)
 have hd:=Nat.le_trans (dpYs_le t.a) hs
 have key:∀ ok,types_measure.j1 t ok=some ((szY t:Int),(dpY t:Int),ok && shapeYs t.a):=by
  intro ok
  refine LT.inv t.a (fun i (s:Int×Int×Bool)=>(s.1,s.2.1,s.2.2,(i:Int))) (fun i s=>s.1=1+szYs (t.a.take i)/\s.2.1=dpYs (t.a.take i)/\(s.2.2 && shapeYs (t.a.drop i))=(ok && shapeYs t.a)) (t0:=(1,0,ok)) ?_ ?_ ⟨by simp[szYs],by simp[dpYs],rfl⟩
  ·rintro i x ⟨n,d,b⟩ hx ⟨p1,p2,p3⟩
   simp only at p1 p2 p3
   have hm:=List.mem_of_getElem? hx
   have h1:=szYs_take t.a i x hx
   have h2:=szYs_le t.a (i+1)
   have h3:=szYs_le t.a i
   have h4:=dpYs_take t.a i x hx
   refine .inl ⟨(n+szY x,max d (dpY x),b && shapeY x),fun next=>?_,by simp only;omega,by simp only;omega,?_⟩
   ·simp only[types_measure.s2,dlt hx,ixg,hx,Option.bind_some,cond_true,ih x hm (bkY_in hb hm),jn,types_measure.j3,meaY]
    simp only[LIM]at hs
    rw[wr (by omega) (by omega)]
    cases b<;>simp
   ·simp only
    rw[<-p3,shapeYs_at hx,Bool.and_assoc]
  ·rintro⟨n,d,b⟩ ⟨p1,p2,p3⟩ next
   simp only at p1 p2 p3
   simp only[types_measure.s2,dle,cond_false]
   rw[List.drop_length]at p3
   rw[List.take_length]at p1 p2
   simp only[LIM]at hs hd
   rw[wr (by omega) (by omega),<-p3]
   have e1:=szY_eq t
   have e2:=dpY_eq t
   simp only[shapeYs,Bool.and_true]
   congr 2
   ·omega
   ·congr 1;omega
 have hv:types_variable t.n=some (nameB t.n && decide (fstC t.n=39)):=types_variable_ok t.n
 rw[types_measure_eq]
 simp only[jn,hv,types_name_ok,Option.bind_some,key]
 unfold meaY
 rw[shapeY_eq]
 cases hn:nameB t.n
 ·cases t.v<;>simp
 ·simp only[name_ixS hn,Option.bind_some]
  have e3:((t.a.length:Int)=0)↔t.a.length=0:=by omega
  have e4:((t.a.length:Int)<=8)↔t.a.length<=8:=by omega
  simp only[e3,e4]
  cases t.v<;>by_cases h:fstC t.n=39<;>simp[h]
theorem types_Check_ok(t:Ty)(hb:bkY t<=LIM):types_Check t=some (if validY t=true then 0 else 10):=by
 rw[types_Check_eq,types_measure_ok t hb]
 simp only[Option.bind_some,meaY,jn,types_Check.j1,validY,Bool.cond_eq_ite]
 grind
end Go.Ab.X

set_option linter.all false
set_option maxRecDepth 100000
set_option maxHeartbeats 4000000
namespace Go.Ab.X
open Go.RowKit Go.Ab
theorem plain_tt(t:Tm):terms_plain t true true false=some (decide (t.i=0)):=by rw[terms_plain_eq];rfl
theorem plain_ff(t:Tm)(b:Bool):terms_plain t false false b=some (decide (t.n=⟨#[]⟩) && (noneY t.y && (b || decide (t.i=0)))):=by
 have e:((t.y.a.length:Int)=0)↔t.y.a.length=0:=by omega
 rw[terms_plain_eq]
 simp only[noneY,e,cond_false,Bool.and_assoc]
 cases decide (t.n=⟨#[]⟩)<;>cases t.y.v<;>cases decide (t.y.n=⟨#[]⟩)<;>cases decide (t.y.a.length=0)<;>cases b<;>rfl
theorem ref02_none_ok(t:Ty):ref02_none t=some (noneY t):=by
 have e:((t.a.length:Int)=0)↔t.a.length=0:=by omega
 rw[ref02_none_eq]
 simp only[noneY,e]
 cases t.v<;>cases decide (t.n=⟨#[]⟩)<;>rfl
theorem ref01_Fun_ok(a b:Ty)(ha:bkY a<=LIM)(hb:bkY b<=LIM):ref01_Fun a b=some (funY a b):=by
 rw[ref01_Fun_eq,ref01_Twin_ok a ha,ref01_Twin_ok b hb];rfl
theorem shapeY_leaf(s:ByteArray):validY (Ty.mk false s [])=nameT s:=by
 simp[validY,szY,szYs,dpY,dpYs,shapeY,shapeYs,nameT]
theorem terms_named_ok(s:ByteArray)(h:s.size<=2 ^ 30):terms_named s=some (nameT s):=by
 rw[terms_named_eq,types_Check_ok _ (by simp[bkY,bkYs,LIM];omega),shapeY_leaf]
 cases nameT s<;>simp
def fmRel(o:Option (Ty×Bool))(v:Option Ty):Prop:=∃ u,o=some (u,v.isSome)/\∀ w,v=some w->u=w
theorem fmRel_none(u:Ty):fmRel (some (u,false)) none:=⟨u,rfl,fun _ h=>by cases h⟩
theorem fmRel_some(u:Ty):fmRel (some (u,true)) (some u):=⟨u,rfl,fun _ h=>by cases h;rfl⟩
theorem fmRel_at{o:Option (Ty×Bool)}{v:Option Ty}(h:fmRel o v):(v=none/\∃ u,o=some (u,false))\/(∃ u,v=some u/\o=some (u,true)):=by
 obtain⟨u,h1,h2⟩:=h
 cases v with
 | none=>exact .inl ⟨rfl,u,h1⟩
 | some w=>obtain rfl:=h2 w rfl;exact .inr ⟨u,rfl,h1⟩
def bkL:List Ty->Nat
 | []=>0
 | t::l=>bkY t+bkL l
theorem bkL_get:∀ {l:List Ty} {i:Nat} {x:Ty},l[i]? = some x->bkY x<=bkL l
 | t::l,0,x,h=>by simp at h;subst h;simp only[bkL];omega
 | t::l,i+1,x,h=>by have:=bkL_get (l:=l) (i:=i) (by simpa using h);simp only[bkL];omega
theorem fm_bk:∀(n:Nat) (t:Tm) (l:List Ty) (u:Ty),dpT t<=n->fm t l=some u->bkY u<=bkT t * 6+bkL l
 | 0,t,l,u,hn,h=>by have:=dpT_eq t;omega
 | n+1,t,l,u,hn,h=>by
  have hb:=bkT_eq t
  have hsub:∀ x∈t.s,dpT x<=n:=fun x hx=>by have:=dpT_sub hx;omega
  rw[fm_eq]at h
  split at h
  ·split at h
   ·cases h;omega
   ·cases h
  split at h
  ·split at h
   ·have:=bkL_get h;omega
   ·cases h
  split at h
  ·split at h
   ·split at h
    ·rename_i f x hs
     obtain⟨a,ha,h⟩:=Option.bind_eq_some_iff.1 h
     obtain⟨b,hb',h⟩:=Option.bind_eq_some_iff.1 h
     have h1:=fm_bk n f l a (hsub f (by rw[hs];simp)) ha
     have h2:bkT f<=bkTs t.s:=bkTs_mem (by rw[hs];simp)
     unfold apY at h
     split at h
     ·cases h
     ·split at h
      ·rename_i p q hpq
       split at h
       ·cases h
        have h3:=bkY_eq a
        rw[hpq]at h3
        simp only[bkYs]at h3
        omega
       ·cases h
      ·cases h
    ·cases h
   ·cases h
  split at h
  ·split at h
   ·split at h
    ·rename_i b hs
     obtain⟨a,ha,h⟩:=Option.bind_eq_some_iff.1 h
     have h1:=fm_bk n b (t.y::l) a (hsub b (by rw[hs];simp)) ha
     have h2:bkT b<=bkTs t.s:=bkTs_mem (by rw[hs];simp)
     split at h
     ·cases h
      simp only[funY,bkY,bkYs,bkL]at h1 ⊢
      have:(ByteArray.size ⟨#[102,117,110]⟩)=3:=rfl
      omega
     ·cases h
    ·cases h
   ·cases h
  ·cases h
theorem hbl'(y:Ty):∀ l:List Ty,bkL (l++[y])=bkL l+bkY y
 | []=>by simp[bkL]
 | x::l=>by simp only[List.cons_append,bkL,hbl' y l];omega
theorem fm_ok:∀(t:Tm) (o:List Ty),bkT t * 6+bkL o<=2 ^ 30->o.length+dpT t<=2 ^ 30->fmRel (terms_formed t o) (fm t o.reverse):=by
  refine Tm.ind fun t ih0 o hb hl=>?_
  have hbe:=bkT_eq t
  have hde:=dpT_eq t
  have hbY:=bkY_eq t.y
  have ih:∀ x∈t.s,fmRel (terms_formed x o) (fm x o.reverse):=fun x hx=>by
   have:=bkT_sub hx;have:=dpT_sub hx
   exact ih0 x hx o (by omega) (by omega)
  rw[terms_formed_eq]
  simp only[jn,bor]
  simp only[jn,bor,terms_formed.j1,plain_tt,plain_ff,terms_named_ok t.n (by omega),types_Check_ok t.y (by simp only[LIM];omega),Option.bind_some]
  simp only[bor,terms_formed.j2,terms_formed.j3,terms_formed.j5,terms_formed.j4]
  rw[fm_eq]
  by_cases h1:t.k=1\/t.k=2
  ·have h1':(decide (t.k=1) || decide (t.k=2))=true:=by simpa using h1
   rw[if_pos h1,h1',cond_true]
   by_cases hc:nameT t.n=true/\validY t.y=true/\t.i=0/\t.s.length=0
   ·rw[if_pos hc]
    obtain⟨c1,c2,c3,c4⟩:=hc
    simp only[c1,c2,c3,c4,decide_true,cond_true,if_true,Int.natCast_zero]
    exact fmRel_some _
   ·rw[if_neg hc]
    have e0:((t.s.length:Int)=0)↔t.s.length=0:=by omega
    have:∀ z:Option (Ty×Bool),z=some (t.y,false)->fmRel z none:=fun z hz=>hz ▸ fmRel_none _
    apply this
    simp only[e0,Bool.cond_eq_ite]
    cases h2:nameT t.n<;>cases h3:validY t.y<;>by_cases h4:t.i=0<;>by_cases h5:t.s.length=0<;>simp_all
  have h1':(decide (t.k=1) || decide (t.k=2))=false:=by simpa using h1
  rw[if_neg h1,h1',cond_false]
  by_cases h3:t.k=3
  ·rw[if_pos h3,decide_eq_true h3,cond_true]
   by_cases hc:t.n=⟨#[]⟩/\noneY t.y=true/\t.s.length=0/\0<=t.i
   ·rw[if_pos hc]
    obtain⟨c1,c2,c3,c4⟩:=hc
    by_cases c5:(o.length:Int)<=t.i
    ·have e:o.reverse[t.i.toNat]? = none:=List.getElem?_eq_none (by simp;omega)
     rw[e]
     simp only[c5,decide_true,Bool.or_true,cond_true]
     exact fmRel_none _
    ·have c4':¬ t.i<0:=by omega
     have e:o.reverse[t.i.toNat]? = o[o.length-1-t.i.toNat]?:=by rw[List.getElem?_reverse (by omega)]
     obtain⟨u,hu⟩:∃ u,o[o.length-1-t.i.toNat]? = some u:=⟨_,List.getElem?_eq_getElem (by omega)⟩
     have ei:(o.length:Int)-1-t.i=((o.length-1-t.i.toNat:Nat):Int):=by omega
     rw[e,hu]
     simp only[c1,c2,c3,c5,c4',decide_true,decide_false,Bool.or_false,Bool.and_self,Bool.true_or,Bool.not_true,Int.natCast_zero,Int.lt_irrefl,cond_false]
     rw[wr (n:=(o.length:Int)-1) (by omega) (by omega),wr (by omega) (by omega),ei,ixL_nat,hu]
     exact fmRel_some _
   ·rw[if_neg hc]
    have:(!(decide (t.n=⟨#[]⟩) && (noneY t.y && (true || decide (t.i=0)))) || (decide (0<(t.s.length:Int)) || (decide (t.i<0) || decide ((o.length:Int)<=t.i))))=true:=by
     have e0:(0<(t.s.length:Int))↔¬ t.s.length=0:=by omega
     have e1:(t.i<0)↔¬ 0<=t.i:=by omega
     simp only[e0,e1]
     cases h2:noneY t.y<;>by_cases h4:t.n=⟨#[]⟩<;>by_cases h5:t.s.length=0<;>by_cases h6:0<=t.i<;>simp_all
    rw[this,cond_true]
    exact fmRel_none _
  rw[if_neg h3,decide_eq_false h3,cond_false]
  by_cases h4:t.k=4
  ·rw[if_pos h4,decide_eq_true h4,cond_true]
   by_cases hc:t.n=⟨#[]⟩/\noneY t.y=true/\t.i=0
   ·rw[if_pos hc]
    obtain⟨c1,c2,c3⟩:=hc
    simp only[c1,c2,c3,decide_true,Bool.and_self,Bool.or_true,Bool.not_true,Bool.false_or]
    by_cases c4:t.s.length=2
    ·obtain⟨f,x,hs⟩:∃ f x,t.s=[f,x]:=by
      match t.s,c4 with
      | [f,x],_=>exact⟨f,x,rfl⟩
     have e2:((t.s.length:Int)=2):=by omega
     simp only[e2,decide_true,Bool.not_true,cond_false]
     rw[hs]
     have i0:ixL [f,x] 0=some f:=rfl
     have i1:ixL [f,x] 1=some x:=rfl
     rw[i0,i1]
     simp only[Option.bind_some]
     have kf:=fmRel_at (ih f (by rw[hs];simp))
     have kx:=fmRel_at (ih x (by rw[hs];simp))
     rcases kf with⟨hf,u,hfo⟩|⟨u,hf,hfo⟩
     ·rw[hfo,hf]
      rcases kx with⟨hx,v,hxo⟩|⟨v,hx,hxo⟩<;>rw[hxo]<;>exact fmRel_none _
     ·rcases kx with⟨hx,v,hxo⟩|⟨v,hx,hxo⟩
      ·rw[hfo,hf,hxo,hx];exact fmRel_none _
      ·rw[hfo,hf,hxo,hx]
       simp only[Option.bind_some,Bool.not_true,cond_false,apY]
       cases hv:u.v
       ·by_cases hn:u.n=⟨#[102,117,110]⟩
        ·by_cases ha:u.a.length=2
         ·obtain⟨p,q,hpq⟩:∃ p q,u.a=[p,q]:=by
           match u.a,ha with
           | [p,q],_=>exact⟨p,q,rfl⟩
          have e3:((u.a.length:Int)=2):=by omega
          have j0:ixL [p,q] 0=some p:=rfl
          have j1:ixL [p,q] 1=some q:=rfl
          have j2:(([p,q]:List Ty).length:Int)=2:=rfl
          simp only[hn,e3,hpq,j0,j1,j2,jn,terms_formed.j4,types_Same_ok,Option.bind_some,decide_true,Bool.not_true,cond_false,Bool.false_eq_true,ne_eq,not_true,or_self,if_false]
          by_cases hcm:cmpTy p v=0
          ·simp only[hcm,decide_true,Bool.not_true,cond_false,if_true];exact fmRel_some _
          ·simp only[hcm,decide_false,Bool.not_false,cond_true,if_false];exact fmRel_none _
         ·have e3:¬ ((u.a.length:Int)=2):=by omega
          simp only[hn,e3,decide_true,decide_false,Bool.not_true,Bool.not_false,cond_true,cond_false,Bool.false_eq_true,ne_eq,not_true,or_self,if_false]
          split
          ·rename_i hh;rw[hh]at ha;exact absurd rfl ha
          ·exact fmRel_none _
        ·simp only[hn,decide_false,Bool.not_false,cond_true,cond_false,ne_eq,not_false_eq_true,or_true,if_true];exact fmRel_none _
       ·simp only[cond_true,true_or,if_true];exact fmRel_none _
    ·have e2:¬ ((t.s.length:Int)=2):=by omega
     simp only[e2,decide_false,Bool.not_false,cond_true]
     split
     ·rename_i hh;rw[hh]at c4;exact absurd rfl c4
     ·exact fmRel_none _
   ·rw[if_neg hc]
    have:(!(decide (t.n=⟨#[]⟩) && (noneY t.y && (false || decide (t.i=0)))) || !decide ((t.s.length:Int)=2))=true:=by
     cases h2:noneY t.y<;>by_cases h4:t.n=⟨#[]⟩<;>by_cases h6:t.i=0<;>simp_all
    rw[this,cond_true]
    exact fmRel_none _
  rw[if_neg h4,decide_eq_false h4,cond_false]
  by_cases h5:t.k=5
  ·rw[if_pos h5,decide_eq_true h5,cond_true]
   by_cases hc:nameT t.n=true/\validY t.y=true/\t.i=0
   ·rw[if_pos hc]
    obtain⟨c1,c2,c3⟩:=hc
    simp only[c1,c2,c3,decide_true,if_true,Bool.not_true,cond_false,Option.bind_some]
    by_cases c4:t.s.length=1
    ·obtain⟨b,hs⟩:∃ b,t.s=[b]:=by
      match t.s,c4 with
      | [b],_=>exact⟨b,rfl⟩
     have e2:((t.s.length:Int)=1):=by omega
     have i0:ixL [b] 0=some b:=rfl
     have hmem:b∈t.s:=by rw[hs];simp
     have hb1:=bkT_sub hmem
     have hd1:=dpT_sub hmem
     have hbs:=bkTs_mem hmem
     have hbl:∀ l:List Ty,bkL (l++[t.y])=bkL l+bkY t.y:=by
      intro l
      induction l with
      | nil=>simp[bkL]
      | cons x l ih=>simp only[List.cons_append,bkL,ih];omega
     have kb:=fmRel_at (ih0 b hmem (o++[t.y]) (by rw[hbl];omega) (by simp;omega))
     have elim:o.length+List.length [t.y]<=LIM:=by simp only[LIM,List.length_cons,List.length_nil];omega
     have f2:(([b]:List Tm).length:Int)=1:=rfl
     have sl:slcT o (o.length:Int) (o.length:Int)=some o:=by unfold slcT;rw[if_pos ⟨by omega,rfl,by omega⟩];simp
     simp only[hs,f2,decide_true,Bool.not_true,Bool.or_self,cond_false,i0,sl,Option.bind_some,elim,if_true]
     rw[List.reverse_append]at kb
     simp only[List.reverse_cons,List.reverse_nil,List.nil_append,List.cons_append]at kb
     rcases kb with⟨hf,u,hfo⟩|⟨u,hf,hfo⟩
     ·rw[hfo,hf];exact fmRel_none _
     ·rw[hfo,hf]
      have hub:=fm_bk (dpT b) b (t.y::o.reverse) u (Nat.le_refl _) hf
      have hrev:∀ l:List Ty,bkL l.reverse=bkL l:=by
       intro l
       induction l with
       | nil=>rfl
       | cons x l ih=>rw[List.reverse_cons,hbl',ih];simp only[bkL];omega
      simp only[bkL,hrev]at hub
      have e3:bkY (Ty.mk false ⟨#[102,117,110]⟩ [t.y,u])<=LIM:=by
       simp only[bkY,bkYs,LIM]
       have:(ByteArray.size ⟨#[102,117,110]⟩)=3:=rfl
       omega
      simp only[Option.bind_some,Bool.not_true,cond_false,types_Check_ok _ e3]
      have e4:Ty.mk false ⟨#[102,117,110]⟩ [t.y,u]=funY t.y u:=rfl
      rw[e4]
      cases hv:validY (funY t.y u)
      ·simp only[Bool.false_eq_true,if_false];exact fmRel_none _
      ·simp only[if_true,decide_true];exact fmRel_some _
    ·have e2:¬ ((t.s.length:Int)=1):=by omega
     simp only[e2,decide_false,Bool.not_false,cond_true]
     split
     ·rename_i hh;rw[hh]at c4;exact absurd rfl c4
     ·exact fmRel_none _
   ·rw[if_neg hc]
    have:∀ z:Option (Ty×Bool),z=some (Ty.mk false ⟨#[]⟩ [],false)->fmRel z none:=fun z hz=>hz ▸ fmRel_none _
    apply this
    simp only[Bool.cond_eq_ite]
    cases h2:nameT t.n<;>cases h3:validY t.y<;>by_cases h4:t.i=0<;>by_cases h5:(t.s.length:Int)=1<;>simp_all
  ·rw[if_neg h5,decide_eq_false h5,cond_false]
   exact fmRel_none _
def fmRelB(B:Nat)(o:Option (Ty×Bool))(v:Option Ty):Prop:=∃ u,o=some (u,v.isSome)/\(∀ w,v=some w->u=w)/\(v=none->bkY u<=B)
theorem fmRelB_none{B:Nat}(u:Ty)(h:bkY u<=B):fmRelB B (some (u,false)) none:=⟨u,rfl,(fun _ h=>by cases h),fun _=>h⟩
theorem fmRelB_some{B:Nat}(u:Ty):fmRelB B (some (u,true)) (some u):=⟨u,rfl,(fun _ h=>by cases h;rfl),fun h=>by cases h⟩
theorem fmRelB_at{B:Nat}{o:Option (Ty×Bool)}{v:Option Ty}(h:fmRelB B o v):(v=none/\∃ u,o=some (u,false)/\bkY u<=B)\/(∃ u,v=some u/\o=some (u,true)):=by
 obtain⟨u,h1,h2,h3⟩:=h
 cases v with
 | none=>exact .inl ⟨rfl,u,h1,h3 rfl⟩
 | some w=>obtain rfl:=h2 w rfl;exact .inr ⟨u,rfl,h1⟩
theorem fmr_ok:∀(t:Tm) (o:List Ty),bkT t * 6+bkL o<=2 ^ 30->o.length+dpT t<=2 ^ 30->fmRelB (bkT t * 6+bkL o) (ref02_Formed t o) (fm t o):=by
  refine Tm.ind fun t ih0 o hb hl=>?_
  have hbe:=bkT_eq t
  have hde:=dpT_eq t
  have hbY:=bkY_eq t.y
  have hz0:bkY (Ty.mk false ⟨#[]⟩ [])<=bkT t * 6+bkL o:=by
   have:bkY (Ty.mk false ⟨#[]⟩ [])=1:=rfl
   omega
  have ih:∀ x∈t.s,fmRelB (bkT x * 6+bkL o) (ref02_Formed x o) (fm x o):=fun x hx=>by
   have:=bkT_sub hx;have:=dpT_sub hx
   exact ih0 x hx o (by omega) (by omega)
  rw[ref02_Formed_eq]
  simp only[jn,bor]
  simp only[jn,bor,ref02_Formed.j1,ref02_Name_ok,ref02_none_ok,ref01_Valid_ok t.y (by simp only[LIM];omega),Option.bind_some]
  simp only[bor,ref02_Formed.j2,ref02_Formed.j3,ref02_Formed.j5,ref02_Formed.j4,ref01_Same_ok]
  rw[fm_eq]
  by_cases h1:t.k=1\/t.k=2
  ·have h1':(decide (t.k=1) || decide (t.k=2))=true:=by simpa using h1
   rw[if_pos h1,h1',cond_true]
   by_cases hc:nameT t.n=true/\validY t.y=true/\t.i=0/\t.s.length=0
   ·rw[if_pos hc]
    obtain⟨c1,c2,c3,c4⟩:=hc
    simp only[c1,c2,c3,c4,decide_true,cond_true,Int.natCast_zero]
    exact fmRelB_some _
   ·rw[if_neg hc]
    have e0:((t.s.length:Int)=0)↔t.s.length=0:=by omega
    have:∀ z:Option (Ty×Bool),z=some (t.y,false)->fmRelB (bkT t * 6+bkL o) z none:=fun z hz=>by rw[hz];exact fmRelB_none _ (by first|assumption|omega)
    apply this
    simp only[e0,Bool.cond_eq_ite]
    cases h2:nameT t.n<;>cases h3:validY t.y<;>by_cases h4:t.i=0<;>by_cases h5:t.s.length=0<;>simp_all
  have h1':(decide (t.k=1) || decide (t.k=2))=false:=by simpa using h1
  rw[if_neg h1,h1',cond_false]
  by_cases h3:t.k=3
  ·rw[if_pos h3,decide_eq_true h3,cond_true]
   by_cases hc:t.n=⟨#[]⟩/\noneY t.y=true/\t.s.length=0/\0<=t.i
   ·rw[if_pos hc]
    obtain⟨c1,c2,c3,c4⟩:=hc
    have c4':¬ t.i<0:=by omega
    by_cases c5:(o.length:Int)<=t.i
    ·have e:o[t.i.toNat]? = none:=List.getElem?_eq_none (by omega)
     rw[e]
     simp only[c5,decide_true,Bool.or_true,cond_true]
     exact fmRelB_none _ (by first|assumption|omega)
    ·obtain⟨u,hu⟩:∃ u,o[t.i.toNat]? = some u:=⟨_,List.getElem?_eq_getElem (by omega)⟩
     have ei:ixL o t.i=some u:=by unfold ixL;rw[if_pos c4,hu]
     rw[hu]
     simp only[c1,c2,c3,c5,c4',decide_true,decide_false,Bool.or_false,Bool.not_true,Int.natCast_zero,cond_false,ei,Option.bind_some]
     exact fmRelB_some _
   ·rw[if_neg hc]
    have:(!decide (t.n=⟨#[]⟩) || (!noneY t.y || (!decide ((t.s.length:Int)=0) || (decide (t.i<0) || decide ((o.length:Int)<=t.i)))))=true:=by
     have e0:((t.s.length:Int)=0)↔t.s.length=0:=by omega
     have e1:(t.i<0)↔¬ 0<=t.i:=by omega
     simp only[e0,e1]
     cases h2:noneY t.y<;>by_cases h4:t.n=⟨#[]⟩<;>by_cases h5:t.s.length=0<;>by_cases h6:0<=t.i<;>simp_all
    rw[this,cond_true]
    exact fmRelB_none _ (by first|assumption|omega)
  rw[if_neg h3,decide_eq_false h3,cond_false]
  by_cases h4:t.k=4
  ·rw[if_pos h4,decide_eq_true h4,cond_true]
   by_cases hc:t.n=⟨#[]⟩/\noneY t.y=true/\t.i=0
   ·rw[if_pos hc]
    obtain⟨c1,c2,c3⟩:=hc
    simp only[c1,c2,c3,decide_true,Bool.not_true,Bool.false_or]
    by_cases c4:t.s.length=2
    ·obtain⟨f,x,hs⟩:∃ f x,t.s=[f,x]:=by
      match t.s,c4 with
      | [f,x],_=>exact⟨f,x,rfl⟩
     have e2:((t.s.length:Int)=2):=by omega
     simp only[e2,decide_true,Bool.not_true,cond_false]
     rw[hs]
     have i0:ixL [f,x] 0=some f:=rfl
     have i1:ixL [f,x] 1=some x:=rfl
     rw[i0,i1]
     simp only[Option.bind_some]
     have kf:=fmRelB_at (ih f (by rw[hs];simp))
     have kx:=fmRelB_at (ih x (by rw[hs];simp))
     rcases kf with⟨hf,u,hfo,hub0⟩|⟨u,hf,hfo⟩
     ·rw[hfo,hf]
      rcases kx with⟨hx,v,hxo,hvb0⟩|⟨v,hx,hxo⟩<;>rw[hxo]<;>exact fmRelB_none _ (by first|assumption|omega)
     ·rcases kx with⟨hx,v,hxo,hvb0⟩|⟨v,hx,hxo⟩
      ·rw[hfo,hf,hxo,hx];exact fmRelB_none _ (by first|assumption|omega)
      ·rw[hfo,hf,hxo,hx]
       simp only[Option.bind_some,Bool.not_true,cond_false,apY]
       cases hv:u.v
       ·by_cases hn:u.n=⟨#[102,117,110]⟩
        ·by_cases ha:u.a.length=2
         ·obtain⟨p,q,hpq⟩:∃ p q,u.a=[p,q]:=by
           match u.a,ha with
           | [p,q],_=>exact⟨p,q,rfl⟩
          have e3:((u.a.length:Int)=2):=by omega
          have j0:ixL [p,q] 0=some p:=rfl
          have j1:ixL [p,q] 1=some q:=rfl
          have j2:(([p,q]:List Ty).length:Int)=2:=rfl
          simp only[hn,e3,hpq,j0,j1,j2,jn,ref02_Formed.j4,Option.bind_some,decide_true,Bool.not_true,cond_false,Bool.false_eq_true,ne_eq,not_true,or_self,if_false]
          by_cases hcm:cmpTy p v=0
          ·simp only[hcm,decide_true,Bool.not_true,cond_false,if_true];exact fmRelB_some _
          ·simp only[hcm,decide_false,Bool.not_false,cond_true,if_false];exact fmRelB_none _ (by first|assumption|omega)
         ·have e3:¬ ((u.a.length:Int)=2):=by omega
          simp only[hn,e3,decide_true,decide_false,Bool.not_true,Bool.not_false,cond_true,cond_false,Bool.false_eq_true,ne_eq,not_true,or_self,if_false]
          split
          ·rename_i hh;rw[hh]at ha;exact absurd rfl ha
          ·exact fmRelB_none _ (by first|assumption|omega)
        ·simp only[hn,decide_false,Bool.not_false,cond_true,cond_false,ne_eq,not_false_eq_true,or_true,if_true];exact fmRelB_none _ (by first|assumption|omega)
       ·simp only[cond_true,true_or,if_true];exact fmRelB_none _ (by first|assumption|omega)
    ·have e2:¬ ((t.s.length:Int)=2):=by omega
     simp only[e2,decide_false,Bool.not_false,cond_true]
     split
     ·rename_i hh;rw[hh]at c4;exact absurd rfl c4
     ·exact fmRelB_none _ (by first|assumption|omega)
   ·rw[if_neg hc]
    have:(!decide (t.n=⟨#[]⟩) || (!noneY t.y || (!decide (t.i=0) || !decide ((t.s.length:Int)=2))))=true:=by
     cases h2:noneY t.y<;>by_cases h4:t.n=⟨#[]⟩<;>by_cases h6:t.i=0<;>simp_all
    rw[this,cond_true]
    exact fmRelB_none _ (by first|assumption|omega)
  rw[if_neg h4,decide_eq_false h4,cond_false]
  by_cases h5:t.k=5
  ·rw[if_pos h5,decide_eq_true h5,cond_true]
   by_cases hc:nameT t.n=true/\validY t.y=true/\t.i=0
   ·rw[if_pos hc]
    obtain⟨c1,c2,c3⟩:=hc
    simp only[c1,c2,c3,decide_true,Bool.not_true,cond_false]
    by_cases c4:t.s.length=1
    ·obtain⟨b,hs⟩:∃ b,t.s=[b]:=by
      match t.s,c4 with
      | [b],_=>exact⟨b,rfl⟩
     have e2:((t.s.length:Int)=1):=by omega
     have i0:ixL [b] 0=some b:=rfl
     have hmem:b∈t.s:=by rw[hs];simp
     have hb1:=bkT_sub hmem
     have hd1:=dpT_sub hmem
     have hbs:=bkTs_mem hmem
     have kb:=fmRelB_at (ih0 b hmem (t.y::o) (by simp only[bkL];omega) (by simp;omega))
     have elim:List.length [t.y]+o.length<=LIM:=by simp only[LIM,List.length_cons,List.length_nil];omega
     have f2:(([b]:List Tm).length:Int)=1:=rfl
     simp only[hs,f2,decide_true,Bool.not_true,Bool.or_self,cond_false,i0,Option.bind_some,elim,if_true,List.cons_append,List.nil_append]
     rcases kb with⟨hf,u,hfo,hub0⟩|⟨u,hf,hfo⟩
     ·simp only[bkL]at hub0
      have e5:bkY u<=LIM:=by simp only[LIM];omega
      have e6:bkY t.y<=LIM:=by simp only[LIM];omega
      have e7:bkY (funY t.y u)<=bkT t * 6+bkL o:=by
       simp only[funY,bkY,bkYs]
       have:(ByteArray.size ⟨#[102,117,110]⟩)=3:=rfl
       omega
      rw[hfo,hf]
      simp only[Option.bind_some,ref01_Fun_ok _ _ e6 e5,cond_false]
      exact fmRelB_none _ e7
     ·rw[hfo,hf]
      have hub:=fm_bk (dpT b) b (t.y::o) u (Nat.le_refl _) hf
      simp only[bkL]at hub
      have e3:bkY (funY t.y u)<=LIM:=by
       simp only[funY,bkY,bkYs,LIM]
       have:(ByteArray.size ⟨#[102,117,110]⟩)=3:=rfl
       omega
      have e5:bkY u<=LIM:=by simp only[LIM];omega
      have e6:bkY t.y<=LIM:=by simp only[LIM];omega
      have e7:bkY (funY t.y u)<=bkT t * 6+bkL o:=by
       simp only[funY,bkY,bkYs]
       have:(ByteArray.size ⟨#[102,117,110]⟩)=3:=rfl
       omega
      simp only[Option.bind_some,cond_true,ref01_Fun_ok _ _ e6 e5,ref01_Valid_ok _ e3]
      cases hv:validY (funY t.y u)
      ·simp only[Bool.false_eq_true,if_false];exact fmRelB_none _ (by first|assumption|omega)
      ·simp only[if_true];exact fmRelB_some _
    ·have e2:¬ ((t.s.length:Int)=1):=by omega
     simp only[e2,decide_false,Bool.not_false,Bool.or_true,Bool.false_or,cond_true]
     split
     ·rename_i hh;rw[hh]at c4;exact absurd rfl c4
     ·exact fmRelB_none _ (by first|assumption|omega)
   ·rw[if_neg hc]
    have:∀ z:Option (Ty×Bool),z=some (Ty.mk false ⟨#[]⟩ [],false)->fmRelB (bkT t * 6+bkL o) z none:=fun z hz=>by rw[hz];exact fmRelB_none _ (by first|assumption|omega)
    apply this
    simp only[Bool.cond_eq_ite]
    cases h2:nameT t.n<;>cases h3:validY t.y<;>by_cases h4:t.i=0<;>by_cases h5:(t.s.length:Int)=1<;>simp_all
  ·rw[if_neg h5,decide_eq_false h5,cond_false]
   exact fmRelB_none _ (by first|assumption|omega)
end Go.Ab.X
