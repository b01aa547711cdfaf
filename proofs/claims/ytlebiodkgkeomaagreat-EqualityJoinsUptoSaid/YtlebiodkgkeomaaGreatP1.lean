/- A part of the proof: P1. -/
import Derived.Test.YtlebiodkgkeomaaGreatE1
import Derived.Test.YtlebiodkgkeomaaGreatSpC
set_option linter.all false
set_option linter.all false
set_option maxRecDepth 100000
set_option maxHeartbeats 1000000
namespace Go.Ab.X
open Go.RowKit Go.Ab
section
variable {S R:Type} {step:S->(S->Option R)->Option R}
def LT(step:S->(S->Option R)->Option R)(s:S)(r:Option R):Prop:=∃ n,∀ m,n<=m->loopF step m s=r
theorem LT.last{s:S}{r:Option R}(h:∀ next,step s next=r):LT step s r:=⟨1,fun m hm=>by
 cases m with
 | zero=>omega
 | succ m=>exact h _⟩
theorem LT.next{s s':S}{r:Option R}(h:∀ next,step s next=next s')(h':LT step s' r):LT step s r:=by
 obtain⟨n,hn⟩:=h'
 exact⟨n+1,fun m hm=>by
  cases m with
  | zero=>omega
  | succ m=>exact(h _).trans (hn m (by omega))⟩
theorem LT.eq{s:S}{r:Option R}(h:LT step s r):loopN step s=r:=loopN_of h
theorem LT.inv{α T:Type}(l:List α)(mk:Nat->T->S)(P:Nat->T->Prop){r:Option R}
  (h1:∀ i a t,l[i]? = some a->P i t->(∃ t',(∀ next,step (mk i t) next=next (mk (i+1) t'))/\P (i+1) t')\/(∀ next,step (mk i t) next=r))
  (h2:∀ t,P l.length t->∀ next,step (mk l.length t) next=r) {t0:T} (h0:P 0 t0):loopN step (mk 0 t0)=r:=by
 refine LT.eq ?_
 have key:∀(k i:Nat) (t:T),i+k=l.length->P i t->LT step (mk i t) r:=by
  intro k
  induction k with
  | zero =>
   intro i t hi hp
   have hh:i=l.length:=by omega
   subst hh
   exact .last (h2 t hp)
  | succ k ih =>
   intro i t hi hp
   obtain⟨a,ha⟩:∃ a,l[i]? = some a:=⟨_,List.getElem?_eq_getElem (show i<l.length by omega)⟩
   rcases h1 i a t ha hp with⟨t',e,hp'⟩|e
   ·exact .next e (ih (i+1) t' (by omega) hp')
   ·exact .last e
 exact key l.length 0 t0 (by omega) h0
end
theorem dlt{α:Type}{l:List α}{i:Nat}{a:α}(h:l[i]? = some a):decide ((i:Int)<(List.length l:Int))=true:=by
 have:=(List.getElem?_eq_some_iff.1 h).1
 simp;omega
theorem dle{α:Type}{l:List α}:decide (((l.length:Nat):Int)<(List.length l:Int))=false:=by simp
theorem ixg{α:Type}{l:List α}{i:Nat}:ixL l (i:Int)=l[i]?:=by simp[ixL]
theorem inc_nat(i:Nat):((i:Int)+1)=((i+1:Nat):Int):=by omega
theorem isNaN_int_ok(x:Int):isNaN_int x=some false:=by simp[isNaN_int_eq]
theorem isNaN_u8_ok(x:Int):isNaN_u8 x=some false:=by simp[isNaN_u8_eq]
theorem cmp_int_ok(x y:Int):cmp_int x y=some (cmpI x y):=by
 simp only[cmp_int_eq,isNaN_int_ok,Option.bind_some,cmpI,Bool.cond_eq_ite];grind
theorem cmp_u8_ok(x y:Int):cmp_u8 x y=some (cmpI x y):=by
 simp only[cmp_u8_eq,isNaN_u8_ok,Option.bind_some,cmpI,Bool.cond_eq_ite];grind
def orL:List Int->Int
 | []=>0
 | x::l=>if x≠0 then x else orL l
theorem orL_at:∀(l:List Int) (i:Nat) (a:Int),l[i]? = some a->orL (l.drop i)=if a≠0 then a else orL (l.drop (i+1)):=by
 intro l i a h
 obtain⟨hlt,e⟩:=List.getElem?_eq_some_iff.1 h
 rw[List.drop_eq_getElem_cons hlt,e];rfl
theorem cmp_Or_ok(l:List Int):cmp_Or l=some (orL l):=by
 rw[cmp_Or_eq]
 refine LT.inv (T:=Unit) l (fun i _=>(i:Int)) (fun i _=>orL (l.drop i)=orL l) ?_ ?_ (t0:=()) rfl
 ·intro i a _ ha hp
  rw[orL_at l i a ha]at hp
  simp only[cmp_Or.s1,dlt ha,ixg,ha,Option.bind_some,cond_true]
  by_cases h:a=0
  ·exact .inl ⟨(),fun next=>by simp[h],by simpa [h] using hp⟩
  ·exact .inr fun next=>by simp[h]at hp ⊢;exact hp
 ·intro _ hp next
  simp only[cmp_Or.s1,dle,cond_false]
  simp[orL]at hp
  rw[<-hp]
theorem lexL_at{α:Type}{f:α->α->Int}{l r:List α}{i:Nat}{x y:α}(hx:l[i]? = some x)(hy:r[i]? = some y):lexL f (l.drop i) (r.drop i)=if f x y≠0 then f x y else lexL f (l.drop (i+1)) (r.drop (i+1)):=by
 obtain⟨h1,e1⟩:=List.getElem?_eq_some_iff.1 hx
 obtain⟨h2,e2⟩:=List.getElem?_eq_some_iff.1 hy
 rw[List.drop_eq_getElem_cons h1,List.drop_eq_getElem_cons h2,e1,e2];rfl
theorem same_at{α β:Type}{l:List α}{r:List β}{i:Nat}{x:α}(h:l.length=r.length)(hx:l[i]? = some x):∃ y,r[i]? = some y:=
 ⟨_,List.getElem?_eq_getElem (h ▸ (List.getElem?_eq_some_iff.1 hx).1)⟩
theorem ref01_Compare_ok:∀ t u:Ty,ref01_Compare t u=some (cmpTy t u):=by
 refine Ty.ind fun t ih u=>?_
 rw[ref01_Compare_eq,cmpTy_eq]
 by_cases h3:t.a.length=u.a.length
 ·have:loopN (ref01_Compare.s1 t u) 0=some (lexL cmpTy t.a u.a):=by
   refine LT.inv (T:=Unit) t.a (fun i _=>(i:Int)) (fun i _=>lexL cmpTy (t.a.drop i) (u.a.drop i)=lexL cmpTy t.a u.a) ?_ ?_ (t0:=()) rfl
   ·intro i x _ hx hp
    obtain⟨y,hy⟩:=same_at h3 hx
    rw[lexL_at hx hy]at hp
    simp only[ref01_Compare.s1,dlt hx,ixg,hx,hy,Option.bind_some,cond_true,ih x (List.mem_of_getElem? hx)]
    by_cases h:cmpTy x y=0
    ·exact .inl ⟨(),fun next=>by simp[h],by simpa [h] using hp⟩
    ·exact .inr fun next=>by simp[h]at hp ⊢;exact hp
   ·intro _ hp next
    simp only[ref01_Compare.s1,dle,cond_false]
    simp[h3,lexL]at hp
    rw[<-hp]
  rw[this]
  simp only[Bool.cond_eq_ite]
  grind
 ·generalize loopN (ref01_Compare.s1 t u) 0=z
  simp only[Bool.cond_eq_ite]
  grind
theorem CompareFunc_ty_ok{c:Nat}{f:Ty->Ty->Int}(s1 s2:List Ty)(hl:s1.length=s2.length)(hc:∀ x∈s1,∀ y∈s2,tyo Int (ans X c (.p .int) [.v .ty x,.v .ty y])=some (f x y)):CompareFunc_ty s1 s2 c=some (lexL f s1 s2):=by
 rw[CompareFunc_ty_eq]
 refine LT.inv (T:=Unit) s1 (fun i _=>(i:Int)) (fun i _=>lexL f (s1.drop i) (s2.drop i)=lexL f s1 s2) ?_ ?_ (t0:=()) rfl
 ·intro i x _ hx hp
  obtain⟨y,hy⟩:=same_at hl hx
  rw[lexL_at hx hy]at hp
  have h3:decide (((s2.length:Nat):Int)<=(i:Int))=false:=by
   have:=(List.getElem?_eq_some_iff.1 hy).1
   simp;omega
  simp only[CompareFunc_ty.s1,dlt hx,ixg,hx,hy,Option.bind_some,cond_true,h3,cond_false,hc x (List.mem_of_getElem? hx) y (List.mem_of_getElem? hy)]
  by_cases h:f x y=0
  ·exact .inl ⟨(),fun next=>by simp[h],by simpa [h] using hp⟩
  ·exact .inr fun next=>by simp[h]at hp ⊢;exact hp
 ·intro _ hp next
  simp only[CompareFunc_ty.s1,dle,cond_false]
  simp[hl,lexL]at hp
  simp[hl,<-hp]
theorem CompareFunc_tm_ok{c:Nat}{f:Tm->Tm->Int}(s1 s2:List Tm)(hl:s1.length=s2.length)(hc:∀ x∈s1,∀ y∈s2,tyo Int (ans X c (.p .int) [.v .tm x,.v .tm y])=some (f x y)):CompareFunc_tm s1 s2 c=some (lexL f s1 s2):=by
 rw[CompareFunc_tm_eq]
 refine LT.inv (T:=Unit) s1 (fun i _=>(i:Int)) (fun i _=>lexL f (s1.drop i) (s2.drop i)=lexL f s1 s2) ?_ ?_ (t0:=()) rfl
 ·intro i x _ hx hp
  obtain⟨y,hy⟩:=same_at hl hx
  rw[lexL_at hx hy]at hp
  have h3:decide (((s2.length:Nat):Int)<=(i:Int))=false:=by
   have:=(List.getElem?_eq_some_iff.1 hy).1
   simp;omega
  simp only[CompareFunc_tm.s1,dlt hx,ixg,hx,hy,Option.bind_some,cond_true,h3,cond_false,hc x (List.mem_of_getElem? hx) y (List.mem_of_getElem? hy)]
  by_cases h:f x y=0
  ·exact .inl ⟨(),fun next=>by simp[h],by simpa [h] using hp⟩
  ·exact .inr fun next=>by simp[h]at hp ⊢;exact hp
 ·intro _ hp next
  simp only[CompareFunc_tm.s1,dle,cond_false]
  simp[hl,lexL]at hp
  simp[hl,<-hp]
theorem types_rank_ok(t:Ty):types_rank t=some (if t.v then 0 else 1):=by rw[types_rank_eq];cases t.v<;>rfl
theorem cmpS_ok(a b:ByteArray):cmpS a b=some (cmpB a b):=by rw[cmpS_eq];rfl
theorem strings_Compare_ok(a b:ByteArray):strings_Compare a b=some (cmpB a b):=by rw[strings_Compare_eq,cmpS_ok];rfl
theorem cmp3_ty(t u:Ty):orL [cmpI (if t.v then 0 else 1) (if u.v then 0 else 1),cmpB t.n u.n,cmpI t.a.length u.a.length]=if t.v≠u.v then(if t.v=true then -1 else 1)else if t.n≠u.n then(if blt t.n u.n=true then -1 else 1)else
  if t.a.length≠u.a.length then(if t.a.length<u.a.length then -1 else 1)else 0:=by
 simp only[orL,cmpI,cmpB_eq]
 grind
theorem types_Compare_ok:∀ t u:Ty,types_Compare t u=some (cmpTy t u):=by
 refine Ty.ind fun t ih u=>?_
 rw[types_Compare_eq,cmpTy_eq]
 simp only[cmp_Or_ok,cmp_int_ok,strings_Compare_ok,types_rank_ok,Option.bind_some,cmp3_ty]
 by_cases h3:t.a.length=u.a.length
 ·rw[CompareFunc_ty_ok (f:=cmpTy) t.a u.a h3 (fun x hx y _=>ih x hx y)]
  simp only[Bool.cond_eq_ite,Option.bind_some]
  grind
 ·generalize CompareFunc_ty t.a u.a _=z
  simp only[Bool.cond_eq_ite]
  grind
theorem ref01_Same_ok(t u:Ty):ref01_Same t u=some (decide (cmpTy t u=0)):=by rw[ref01_Same_eq,ref01_Compare_ok];rfl
theorem types_Same_ok(t u:Ty):types_Same t u=some (decide (cmpTy t u=0)):=by rw[types_Same_eq,types_Compare_ok];rfl
theorem ref02_sign_ok(a b:Bool):ref02_sign a b=some (if b then 0 else if a then -1 else 1):=by rw[ref02_sign_eq];cases a<;>cases b<;>rfl
theorem signI(a b:Int):(if decide (a=b)then(0:Int)else if decide (a<b)then -1 else 1)=cmpI a b:=by unfold cmpI;grind
theorem signB(a b:ByteArray):(if decide (a=b)then(0:Int)else if blt a b then -1 else 1)=cmpB a b:=by rw[cmpB_eq];grind
theorem len_bkTs:∀ l:List Tm,l.length<=bkTs l
 | []=>Nat.zero_le _
 | x::l=>by have:=len_bkTs l;have:=bkT_eq x;simp[bkTs];omega
theorem len_bkYs:∀ l:List Ty,l.length<=bkYs l
 | []=>Nat.zero_le _
 | x::l=>by have:=len_bkYs l;have:=bkY_eq x;simp[bkYs];omega
theorem wr{n:Int}(h1 : -4611686018427387904<=n)(h2:n<=4611686018427387904):IntKind.i64.wrap n=n:=wr64 (by omega) (by omega)
theorem bkT_s{t:Tm}{B:Nat}(h:bkT t<=B):t.s.length<=B:=by have:=bkT_eq t;have:=len_bkTs t.s;omega
theorem bkT_in{t x:Tm}{B:Nat}(h:bkT t<=B)(hx:x∈t.s):bkT x<=B:=by have:=bkT_sub hx;omega
theorem bkT_y{t:Tm}{B:Nat}(h:bkT t<=B):bkY t.y<=B:=by have:=bkY_of (t:=t);omega
theorem bkY_a{t:Ty}{B:Nat}(h:bkY t<=B):t.a.length<=B:=by have:=bkY_eq t;have:=len_bkYs t.a;omega
theorem bkY_sub{t x:Ty}(h:x∈t.a):bkY x<bkY t:=by have:=bkY_eq t;have:=bkYs_mem h;omega
theorem bkY_in{t x:Ty}{B:Nat}(h:bkY t<=B)(hx:x∈t.a):bkY x<=B:=by have:=bkY_sub hx;omega
theorem ref02_Compare_ok:∀ t u:Tm,bkT t<=LIM->ref02_Compare t u=some (cmpTm t u):=by
 refine Tm.ind fun t ih u hb=>?_
 rw[ref02_Compare_eq,cmpTm_eq]
 simp only[ref02_sign_ok,signI,Option.bind_some,jn,ref02_Compare.j7,ref02_Compare.j1,ref02_Compare.j2,ref02_Compare.j3,ref02_Compare.j4,signB,ref01_Compare_ok]
 have hlen:t.s.length<=LIM:=bkT_s hb
 have k0:∀ c:Int,c≠0->loopN (ref02_Compare.s5 t u) (c,0)=some c:=fun c hc=>LT.eq (.last fun next=>by
  simp[ref02_Compare.s5,jn,ref02_Compare.j6,hc])
 by_cases h3:t.s.length=u.s.length
 ·have k1:loopN (ref02_Compare.s5 t u) (0,0)=some (lexL cmpTm t.s u.s):=by
   have:LT (ref02_Compare.s5 t u) (0,((0:Nat):Int)) (some (lexL cmpTm t.s u.s)):=by
    have key:∀(k i:Nat),i+k=t.s.length->LT (ref02_Compare.s5 t u) (0,(i:Int)) (some (lexL cmpTm (t.s.drop i) (u.s.drop i))):=by
     intro k
     induction k with
     | zero =>
      intro i hi
      have hh:i=t.s.length:=by omega
      subst hh
      exact .last fun next=>by simp[ref02_Compare.s5,jn,ref02_Compare.j6,h3,lexL]
     | succ k ihk =>
      intro i hi
      obtain⟨x,hx⟩:∃ x,t.s[i]? = some x:=⟨_,List.getElem?_eq_getElem (show i<t.s.length by omega)⟩
      obtain⟨y,hy⟩:=same_at h3 hx
      have hlt:=(List.getElem?_eq_some_iff.1 hx).1
      have hm:=List.mem_of_getElem? hx
      have hw:IntKind.i64.wrap ((i:Int)+1)=((i+1:Nat):Int):=by
       simp only[LIM]at hlen
       rw[wr (by omega) (by omega)];omega
      rw[lexL_at hx hy]
      by_cases h:cmpTm x y=0
      ·refine .next (s':=(0,((i+1:Nat):Int))) (fun next=>?_) (by simpa [h] using ihk (i+1) (by omega))
       simp only[ref02_Compare.s5,jn,ref02_Compare.j6,dlt hx,ixg,hx,hy,Option.bind_some,cond_true,ih x hm y (bkT_in hb hm),h,hw,decide_true]
      ·refine .next (s':=(cmpTm x y,((i+1:Nat):Int))) (fun next=>?_) (.last fun next=>?_)
       ·simp only[ref02_Compare.s5,jn,ref02_Compare.j6,dlt hx,ixg,hx,hy,Option.bind_some,cond_true,ih x hm y (bkT_in hb hm),h,hw,decide_true]
       ·simp[ref02_Compare.s5,jn,ref02_Compare.j6,h]
    exact key t.s.length 0 (by omega)
   exact this.eq
  unfold orI
  simp only[Bool.cond_eq_ite]
  grind
 ·have h4:cmpI (t.s.length:Int) (u.s.length:Int)≠0:=by unfold cmpI;grind
  unfold orI
  simp only[Bool.cond_eq_ite]
  grind
theorem ref02_Same_ok(t u:Tm)(h:bkT t<=LIM):ref02_Same t u=some (decide (cmpTm t u=0)):=by rw[ref02_Same_eq,ref02_Compare_ok t u h];rfl
theorem terms_Compare_ok:∀ t u:Tm,terms_Compare t u=some (cmpTm t u):=by
 refine Tm.ind fun t ih u=>?_
 rw[terms_Compare_eq,cmpTm_eq]
 simp only[cmp_Or_ok,cmp_int_ok,cmp_u8_ok,strings_Compare_ok,types_Compare_ok,Option.bind_some,orL,jn,terms_Compare.j1]
 by_cases h3:t.s.length=u.s.length
 ·rw[CompareFunc_tm_ok (f:=cmpTm) t.s u.s h3 (fun x hx y _=>ih x hx y)]
  simp only[Bool.cond_eq_ite,Option.bind_some]
  unfold orI
  grind
 ·have h4:cmpI (t.s.length:Int) (u.s.length:Int)≠0:=by unfold cmpI;grind
  generalize CompareFunc_tm t.s u.s _=z
  unfold orI
  simp only[Bool.cond_eq_ite]
  grind
theorem terms_Same_ok(t u:Tm):terms_Same t u=some (decide (cmpTm t u=0)):=by rw[terms_Same_eq,terms_Compare_ok];rfl
end Go.Ab.X

set_option linter.all false
set_option maxRecDepth 100000
set_option maxHeartbeats 1000000
namespace Go.Ab.X
open Go.RowKit Go.Ab
theorem ty_eta(t:Ty):Ty.mk t.v t.n t.a=t:=by cases t;rfl
theorem tm_eta(t:Tm):Tm.mk t.k t.n t.y t.i t.s=t:=by cases t;rfl
theorem take_full{α:Type}{l ls:List α}(h1:ls.length=l.length)(h2:ls.take l.length=l.take l.length):ls=l:=by
 rw[List.take_length,<-h1,List.take_length]at h2;exact h2
theorem take_step{α:Type}{l ls:List α}{i:Nat}{x:α}(h1:ls.length=l.length)(h2:ls.take i=l.take i)(hx:l[i]? = some x):(ls.set i x).take (i+1)=l.take (i+1):=by
 have hlt:=(List.getElem?_eq_some_iff.1 hx).1
 rw[take_set_succ (by omega),h2,List.take_add_one,hx];rfl
theorem types_Twin_ok:∀ t:Ty,bkY t<=LIM->types_Twin t=some t:=by
 refine Ty.ind fun t ih hb=>?_
 have hl:=bkY_a hb
 have key:∀(b:Bool) (n:ByteArray) (l0 ls:List Ty),ls.length=t.a.length->loopN (types_Twin.s2 t (b,n,l0)) (0,ls)=some (Ty.mk b n t.a):=by
  intro b n l0 ls hls
  refine LT.inv t.a (fun i ls=>((i:Int),ls)) (fun i ls=>ls.length=t.a.length/\ls.take i=t.a.take i) ?_ ?_ ⟨hls,rfl⟩
  ·intro i x ls hx ⟨p1,p2⟩
   have hlt:=(List.getElem?_eq_some_iff.1 hx).1
   have hm:=List.mem_of_getElem? hx
   refine .inl ⟨ls.set i x,fun next=>?_,by simpa using p1,take_step p1 p2 hx⟩
   simp only[types_Twin.s2,dlt hx,ixg,hx,Option.bind_some,cond_true,ih x hm (bkY_in hb hm)]
   rw[if_pos ⟨by omega,by omega⟩,if_pos (by simp;omega)]
   simp
  ·intro ls ⟨p1,p2⟩ next
   simp only[types_Twin.s2,dle,cond_false,take_full p1 p2]
 rw[types_Twin_eq]
 simp only[jn,types_Twin.j1]
 by_cases h0:t.a=[]
 ·have h1:decide ((0:Int)<(List.length t.a:Int))=false:=by simp[h0]
  rw[h1,cond_false,key _ _ _ _ (by simp[h0]),ty_eta]
 ·have h1:decide ((0:Int)<(List.length t.a:Int))=true:=by
   have:=List.length_pos_iff.2 h0
   simp;omega
  rw[h1,cond_true,if_pos ⟨by omega,by simpa using hl⟩,key _ _ _ _ (by simp),ty_eta]
theorem terms_Twin_ok:∀ t:Tm,bkT t<=LIM->terms_Twin t=some t:=by
 refine Tm.ind fun t ih hb=>?_
 have hl:=bkT_s hb
 have key:∀(k:Int) (n:ByteArray) (y:Ty) (j:Int) (l0 ls:List Tm),ls.length=t.s.length->loopN (terms_Twin.s2 t (k,n,y,j,l0)) (0,ls)=some (Tm.mk k n y j t.s):=by
  intro k n y j l0 ls hls
  refine LT.inv t.s (fun i ls=>((i:Int),ls)) (fun i ls=>ls.length=t.s.length/\ls.take i=t.s.take i) ?_ ?_ ⟨hls,rfl⟩
  ·intro i x ls hx ⟨p1,p2⟩
   have hlt:=(List.getElem?_eq_some_iff.1 hx).1
   have hm:=List.mem_of_getElem? hx
   refine .inl ⟨ls.set i x,fun next=>?_,by simpa using p1,take_step p1 p2 hx⟩
   simp only[terms_Twin.s2,dlt hx,ixg,hx,Option.bind_some,cond_true,ih x hm (bkT_in hb hm)]
   rw[if_pos ⟨by omega,by omega⟩,if_pos (by simp;omega)]
   simp
  ·intro ls ⟨p1,p2⟩ next
   simp only[terms_Twin.s2,dle,cond_false,take_full p1 p2]
 rw[terms_Twin_eq,types_Twin_ok t.y (bkT_y hb)]
 simp only[jn,terms_Twin.j1,Option.bind_some]
 by_cases h0:t.s=[]
 ·have h1:decide ((0:Int)<(List.length t.s:Int))=false:=by simp[h0]
  rw[h1,cond_false,key _ _ _ _ _ _ (by simp[h0]),tm_eta]
 ·have h1:decide ((0:Int)<(List.length t.s:Int))=true:=by
   have:=List.length_pos_iff.2 h0
   simp;omega
  rw[h1,cond_true,if_pos ⟨by omega,by simpa using hl⟩,key _ _ _ _ _ _ (by simp),tm_eta]
theorem take_snoc{α:Type}{l:List α}{i:Nat}{x:α}(hx:l[i]? = some x):l.take i++[x]=l.take (i+1):=by
 rw[List.take_add_one,hx];rfl
theorem len_snoc{α:Type}{l:List α}{i:Nat}{x:α}{B:Nat}(hx:l[i]? = some x)(h:l.length<=B):List.length (l.take i)+List.length [x]<=B:=by
 have hlt:=(List.getElem?_eq_some_iff.1 hx).1
 simp;omega
theorem ref01_Twin_ok:∀ t:Ty,bkY t<=LIM->ref01_Twin t=some t:=by
 refine Ty.ind fun t ih hb=>?_
 have hl:=bkY_a hb
 rw[ref01_Twin_eq]
 refine LT.inv t.a (fun i ls=>((i:Int),t.v,t.n,ls)) (fun i ls=>ls=t.a.take i) ?_ ?_ rfl
 ·rintro i x ls hx rfl
  have hm:=List.mem_of_getElem? hx
  refine .inl ⟨_,fun next=>?_,rfl⟩
  simp only[ref01_Twin.s1,dlt hx,ixg,hx,Option.bind_some,cond_true,ih x hm (bkY_in hb hm)]
  rw[if_pos (len_snoc hx hl),take_snoc hx,inc_nat]
 ·rintro ls rfl next
  simp only[ref01_Twin.s1,dle,cond_false,List.take_length,ty_eta]
theorem ref02_Twin_ok:∀ t:Tm,bkT t<=LIM->ref02_Twin t=some t:=by
 refine Tm.ind fun t ih hb=>?_
 have hl:=bkT_s hb
 rw[ref02_Twin_eq,ref01_Twin_ok t.y (bkT_y hb)]
 refine LT.inv t.s (fun i ls=>((i:Int),t.k,t.n,t.y,t.i,ls)) (fun i ls=>ls=t.s.take i) ?_ ?_ rfl
 ·rintro i x ls hx rfl
  have hm:=List.mem_of_getElem? hx
  refine .inl ⟨_,fun next=>?_,rfl⟩
  simp only[ref02_Twin.s1,dlt hx,ixg,hx,Option.bind_some,cond_true,ih x hm (bkT_in hb hm)]
  rw[if_pos (len_snoc hx hl),take_snoc hx,inc_nat]
 ·rintro ls rfl next
  simp only[ref02_Twin.s1,dle,cond_false,List.take_length,tm_eta]
theorem szYs_bk'(l:List Ty){B:Nat}(h:bkYs l<=B):szYs l<=B:=Nat.le_trans (szYs_bk l) h
theorem bkYs_a{t:Ty}{B:Nat}(h:bkY t<=B):bkYs t.a<=B:=by have:=bkY_eq t;omega
theorem bkTs_s{t:Tm}{B:Nat}(h:bkT t<=B):bkTs t.s<=B:=by have:=bkT_eq t;omega
theorem ref01_Size_ok:∀ t:Ty,bkY t<=LIM->ref01_Size t=some (szY t:Int):=by
 refine Ty.ind fun t ih hb=>?_
 have hl:=bkY_a hb
 have hs:=szYs_bk' t.a (bkYs_a hb)
 rw[ref01_Size_eq]
 refine LT.inv t.a (fun i (n:Int)=>(n,(i:Int))) (fun i n=>n=1+szYs (t.a.take i)) ?_ ?_ (by simp[szYs])
 ·rintro i x n hx rfl
  have hm:=List.mem_of_getElem? hx
  have h1:=szYs_take t.a i x hx
  have h2:=szYs_le t.a (i+1)
  have h3:=szYs_le t.a i
  refine .inl ⟨_,fun next=>?_,rfl⟩
  simp only[ref01_Size.s1,dlt hx,ixg,hx,Option.bind_some,cond_true,ih x hm (bkY_in hb hm)]
  simp only[LIM]at hs
  rw[wr (by omega) (by omega),inc_nat,h1]
  congr 1
  congr 1
  omega
 ·rintro n rfl next
  simp only[ref01_Size.s1,dle,cond_false,List.take_length]
  rw[szY_eq];congr 1
theorem ref02_Size_ok:∀ t:Tm,bkT t<=LIM->ref02_Size t=some (szT t:Int):=by
 refine Tm.ind fun t ih hb=>?_
 have hs:=Nat.le_trans (szTs_bk t.s) (bkTs_s hb)
 rw[ref02_Size_eq]
 refine LT.inv t.s (fun i (n:Int)=>(n,(i:Int))) (fun i n=>n=1+szTs (t.s.take i)) ?_ ?_ (by simp[szTs])
 ·rintro i x n hx rfl
  have hm:=List.mem_of_getElem? hx
  have h1:=szTs_take t.s i x hx
  have h2:=szTs_le t.s (i+1)
  have h3:=szTs_le t.s i
  refine .inl ⟨_,fun next=>?_,rfl⟩
  simp only[ref02_Size.s1,dlt hx,ixg,hx,Option.bind_some,cond_true,ih x hm (bkT_in hb hm)]
  simp only[LIM]at hs
  rw[wr (by omega) (by omega),inc_nat,h1]
  congr 1
  congr 1
  omega
 ·rintro n rfl next
  simp only[ref02_Size.s1,dle,cond_false,List.take_length]
  rw[szT_eq];congr 1
theorem ref01_Depth_ok:∀ t:Ty,bkY t<=LIM->ref01_Depth t=some (dpY t:Int):=by
 refine Ty.ind fun t ih hb=>?_
 have hs:=Nat.le_trans (dpYs_le t.a) (szYs_bk' t.a (bkYs_a hb))
 rw[ref01_Depth_eq]
 refine LT.inv t.a (fun i (n:Int)=>(n,(i:Int))) (fun i n=>n=dpYs (t.a.take i)) ?_ ?_ (by simp[dpYs])
 ·rintro i x n hx rfl
  have hm:=List.mem_of_getElem? hx
  have h1:=dpYs_take t.a i x hx
  refine .inl ⟨_,fun next=>?_,rfl⟩
  simp only[ref01_Depth.s1,dlt hx,ixg,hx,Option.bind_some,cond_true,ih x hm (bkY_in hb hm)]
  rw[inc_nat,h1]
  congr 1
  congr 1
  omega
 ·rintro n rfl next
  simp only[ref01_Depth.s1,dle,cond_false,List.take_length]
  simp only[LIM]at hs
  rw[wr (by omega) (by omega),dpY_eq];congr 1
theorem ref02_Depth_ok:∀ t:Tm,bkT t<=LIM->ref02_Depth t=some (dpT t:Int):=by
 refine Tm.ind fun t ih hb=>?_
 have hs:=Nat.le_trans (dpTs_le t.s) (Nat.le_trans (szTs_bk t.s) (bkTs_s hb))
 rw[ref02_Depth_eq]
 refine LT.inv t.s (fun i (n:Int)=>(n,(i:Int))) (fun i n=>n=dpTs (t.s.take i)) ?_ ?_ (by simp[dpTs])
 ·rintro i x n hx rfl
  have hm:=List.mem_of_getElem? hx
  have h1:=dpTs_take t.s i x hx
  refine .inl ⟨_,fun next=>?_,rfl⟩
  simp only[ref02_Depth.s1,dlt hx,ixg,hx,Option.bind_some,cond_true,ih x hm (bkT_in hb hm)]
  rw[inc_nat,h1]
  congr 1
  congr 1
  omega
 ·rintro n rfl next
  simp only[ref02_Depth.s1,dle,cond_false,List.take_length]
  simp only[LIM]at hs
  rw[wr (by omega) (by omega),dpT_eq];congr 1
theorem ref02_Small_ok(t:Tm)(h:bkT t<=LIM):ref02_Small t=some (smallT t):=by
 rw[ref02_Small_eq,ref02_Size_ok t h,ref02_Depth_ok t h]
 simp only[Option.bind_some,smallT]
 have e1:decide ((szT t:Int)<=32000)=decide (szT t<=32000):=by congr 1;exact propext (by omega)
 have e2:decide ((dpT t:Int)<=300)=decide (dpT t<=300):=by congr 1;exact propext (by omega)
 rw[e1,e2]
 cases decide (szT t<=32000)<;>rfl
theorem ref01_Small_ok(t:Ty)(h:bkY t<=LIM):ref01_Small t=some (decide (szY t<=500) && decide (dpY t<=200)):=by
 rw[ref01_Small_eq,ref01_Size_ok t h,ref01_Depth_ok t h]
 simp only[Option.bind_some]
 have e1:decide ((szY t:Int)<=500)=decide (szY t<=500):=by congr 1;exact propext (by omega)
 have e2:decide ((dpY t:Int)<=200)=decide (dpY t<=200):=by congr 1;exact propext (by omega)
 rw[e1,e2]
 cases decide (szY t<=500)<;>rfl
theorem ref01_count_ok:∀(t:Ty) (left d:Int),fitY t->0<left->left<=2 ^ 40->0<=d->d<=2 ^ 40->ref01_count t left d=some (cntY t left d):=by
 refine Ty.ind fun t ih left d hf h1 h2 h3 h4=>?_
 rw[fitY_eq]at hf
 have hr:=tdiv_rng t.n.size hf.1
 have key:∀(rest:List Ty) (i:Nat) (l:Int),t.a.drop i=rest->fitYs rest->-2 ^ 40<=l->l<=2 ^ 40->1<=d->LT (ref01_count.s1 t d) (l,(i:Int)) (some (cntYs rest l (d-1))):=by
  intro rest
  induction rest with
  | nil =>
   intro i l hd _ _ _ _
   refine .last fun next=>?_
   simp only[ref01_count.s1,jn,dn hd,cond_false,ref01_count.j2,cntYs]
  | cons x r ihr =>
   intro i l hd hf' k1 k2 k3
   obtain⟨d1,d2,d3⟩:=dc hd
   simp only[fitYs]at hf'
   have hm:=List.mem_of_getElem? d2
   by_cases hl:0<l
   ·have hrg:=cntY_rng x l (d-1) hf'.1 hl
    refine .next (s':=(cntY x l (d-1),((i+1:Nat):Int))) (fun next=>?_) ?_
    ·have hlt:=(List.getElem?_eq_some_iff.1 d2).1
     have:=hf.2.1
     simp only[LIM]at this
     simp only[ref01_count.s1,jn,d1,cond_true,ref01_count.j2,hl,decide_true,ixg,d2,Option.bind_some]
     rw[wr (n:=d-1) (by omega) (by omega),ih x hm l (d-1) hf'.1 hl k2 (by omega) (by omega),wr (n:=(i:Int)+1) (by omega) (by omega),inc_nat];rfl
    ·have:=ihr (i+1) (cntY x l (d-1)) d3 hf'.2 (by omega) (by omega) k3
     simpa [cntYs,hl] using this
   ·refine .last fun next=>?_
    simp only[ref01_count.s1,jn,d1,cond_true,ref01_count.j2,hl,decide_false,cond_false,cntYs,if_false]
 rw[ref01_count_eq,cntY_eq]
 by_cases hd:d=0
 ·simp[hd]
 ·simp only[hd,decide_false,cond_false,if_false]
  rw[if_neg (by decide),wr (n:=Int.tdiv _ _) (by omega) (by omega),wr (n:=left-1) (by omega) (by omega),wr (by omega) (by omega)]
  exact(key t.a 0 _ rfl hf.2.2 (by omega) (by omega) (by omega)).eq
theorem ref01_Great_ok(t:Ty)(hf:fitY t):ref01_Great t=some (greatY t):=by
 rw[ref01_Great_eq,ref01_count_ok t 1500 500 hf (by decide) (by decide) (by decide) (by decide)];rfl
theorem ref02_count_ok:∀(t:Tm) (left d:Int),fitT t->0<left->left<=2 ^ 40->0<=d->d<=2 ^ 40->ref02_count t left d=some (cntT t left d):=by
 refine Tm.ind fun t ih left d hf h1 h2 h3 h4=>?_
 rw[fitT_eq]at hf
 obtain⟨_,hf1,hfy,_,hfl,hfs⟩:=hf
 have hr:=tdiv_rng t.n.size hf1
 have key:∀(rest:List Tm) (i:Nat) (l:Int),t.s.drop i=rest->fitTs rest->-2 ^ 40<=l->l<=2 ^ 40->1<=d->LT (ref02_count.s2 t d) (l,(i:Int)) (some (cntTs rest l (d-1))):=by
  intro rest
  induction rest with
  | nil =>
   intro i l hd _ _ _ _
   refine .last fun next=>?_
   simp only[ref02_count.s2,jn,dn hd,cond_false,ref02_count.j3,cntTs]
  | cons x r ihr =>
   intro i l hd hf' k1 k2 k3
   obtain⟨d1,d2,d3⟩:=dc hd
   simp only[fitTs]at hf'
   have hm:=List.mem_of_getElem? d2
   by_cases hl:0<l
   ·have hrg:=cntT_rng x l (d-1) hf'.1 hl
    refine .next (s':=(cntT x l (d-1),((i+1:Nat):Int))) (fun next=>?_) ?_
    ·have hlt:=(List.getElem?_eq_some_iff.1 d2).1
     have:=hfl
     simp only[LIM]at this
     simp only[ref02_count.s2,jn,d1,cond_true,ref02_count.j3,hl,decide_true,ixg,d2,Option.bind_some]
     rw[wr (n:=d-1) (by omega) (by omega),ih x hm l (d-1) hf'.1 hl k2 (by omega) (by omega),wr (n:=(i:Int)+1) (by omega) (by omega),inc_nat];rfl
    ·have:=ihr (i+1) (cntT x l (d-1)) d3 hf'.2 (by omega) (by omega) k3
     simpa [cntTs,hl] using this
   ·refine .last fun next=>?_
    simp only[ref02_count.s2,jn,d1,cond_true,ref02_count.j3,hl,decide_false,cond_false,cntTs,if_false]
 rw[ref02_count_eq,cntT_eq]
 by_cases hd:d=0
 ·simp[hd,jn,ref02_count.j1]
 ·simp only[hd,decide_false,cond_false,ref01_Great_ok t.y hfy,Option.bind_some,jn,ref02_count.j1,false_or]
  by_cases hg:greatY t.y=true
  ·simp[hg]
  ·simp only[hg,if_false,cond_false,Bool.false_eq_true]
   rw[if_neg (by decide),wr (n:=Int.tdiv _ _) (by omega) (by omega),wr (n:=left-1) (by omega) (by omega),wr (by omega) (by omega)]
   exact(key t.s 0 _ rfl hfs (by omega) (by omega) (by omega)).eq
theorem ref02_Great_ok(t:Tm)(hf:fitT t)(hb:bkT t<=LIM):ref02_Great t=some (greatT t):=by
 rw[ref02_Great_eq,ref02_count_ok t 2000 400 hf (by decide) (by decide) (by decide) (by decide),ref02_count_ok t 40000 400 hf (by decide) (by decide) (by decide) (by decide),ref02_Small_ok t hb]
 simp only[Option.bind_some,greatT,Bool.cond_eq_ite]
 by_cases h1:0<cntT t 2000 400
 ·simp[h1]
 ·by_cases h2:cntT t 40000 400<=0
  ·simp[h1,h2]
  ·simp[h1,h2]
end Go.Ab.X
