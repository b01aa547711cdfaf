/- A part of the proof: P10. -/
import Derived.Test.YtlebiodkgkeomaaGreatP9
set_option linter.all false
set_option linter.all false
set_option maxRecDepth 100000
set_option maxHeartbeats 1000000
namespace Go.Ab.X
open Go.RowKit Go.Ab
theorem nameB_fun:nameB ⟨#[102,117,110]⟩=true:=by decide
theorem shapeY_fun(a b:Ty):shapeY (funY a b)=(shapeY a && shapeY b):=by
 rw[shapeY_eq]
 rw[show(funY a b).n=⟨#[102,117,110]⟩from rfl,nameB_fun,show(funY a b).v=false from rfl,show(funY a b).a=[a,b]from rfl]
 simp[shapeYs]
 intro _ _;decide
theorem hasY_fun(a b:Ty):hasY (funY a b)=(hasY a && hasY b):=by
 rw[hasY_eq]
 rw[show(funY a b).n=⟨#[102,117,110]⟩from rfl,show(funY a b).v=false from rfl,show(funY a b).a=[a,b]from rfl]
 simp[hasYs]
theorem valid_shape{u:Ty}(h:validY u=true):shapeY u=true:=by
 unfold validY at h;simp at h;exact h.2
theorem fm_combT{f x:Tm}{l:List Ty}{a b:Ty}(hf:fm f l=some (funY a b))(hx:fm x l=some a):fm (combT f x) l=some b:=by
 have e:fm (combT f x) l=(fm f l).bind fun u=>(fm x l).bind fun v=>apY u v:=by
  have k4:(combT f x).k=4:=rfl
  rw[fm_eq,if_neg (by rw[k4];decide),if_neg (by rw[k4];decide),if_pos k4,if_pos ⟨rfl,(by decide:noneY zeroY=true),rfl⟩];rfl
 rw[e,hf,hx]
 simp only[Option.bind_some]
 rw[apY_funP,funP_fun]
 simp[cmpTy_self]
theorem fm_eqC{u:Ty}{l:List Ty}(h:validY (funY u (funY u boolY))=true):fm (eqC_ u) l=some (funY u (funY u boolY)):=by
 rw[fm_eq,if_pos (.inr rfl),if_pos ⟨(by decide:nameT ⟨#[61]⟩=true),h,rfl,rfl⟩];rfl
theorem fm_eqnT{l r:Tm}{u:Ty}{o:List Ty}(hv:validY (funY u (funY u boolY))=true)(hl:fm l o=some u)(hr:fm r o=some u):fm (eqnT l r u) o=some boolY:=
 fm_combT (fm_combT (fm_eqC hv) hl) hr
theorem fm_shape:∀(t:Tm) (l:List Ty) (u:Ty),fm t l=some u->(∀ y∈l,shapeY y=true)->shapeY u=true:=by
 refine Tm.ind fun t ih l u h hl=>?_
 rcases fm_kind h with hk|hk|hk|hk|hk
 ·obtain⟨rfl,_,h3,_⟩:=fm_const h (.inr hk);exact valid_shape h3
 ·obtain⟨rfl,_,h3,_⟩:=fm_const h (.inl hk);exact valid_shape h3
 ·obtain⟨h1,_⟩:=fm_bound h hk;exact hl u (List.mem_of_getElem? h1)
 ·obtain⟨f,x,a,rfl,hf,hx⟩:=comb_eq h hk
  have:=ih f (by simp[combT,Tm.s]) l _ hf hl
  rw[shapeY_fun]at this
  simp at this
  exact this.2
 ·obtain⟨b,v,hs,_,h3,_,hb,rfl,_⟩:=fm_abs h hk
  have:=ih b (by rw[hs];simp) _ _ hb (fun y hy=>by
   rcases List.mem_cons.1 hy with rfl|hy
   ·exact valid_shape h3
   ·exact hl y hy)
  rw[shapeY_fun,valid_shape h3,this];rfl
theorem holds_sub{t x:Tm}(h:holdsT t=true)(hx:x∈t.s):holdsT x=true:=by
 rw[holdsT_eq]at h
 simp at h
 obtain⟨i,hi⟩:=List.getElem?_of_mem hx
 have key:∀(s:List Tm),holdsTs s=true->x∈s->holdsT x=true:=by
  intro s
  induction s with
  | nil=>intro _ h;cases h
  | cons y s ih =>
   intro h hm
   simp[holdsTs]at h
   rcases List.mem_cons.1 hm with rfl|hm
   ·exact h.1
   ·exact ih h.2 hm
 exact key t.s h.2 hx
theorem holds_y{t:Tm}(h:holdsT t=true)(hk:t.k=1\/t.k=2\/t.k=5):hasY t.y=true:=by
 rw[holdsT_eq]at h
 simp at h
 rcases h.1.1 with h1|h1
 ·omega
 ·exact h1
theorem fm_has:∀(t:Tm) (l:List Ty) (u:Ty),fm t l=some u->holdsT t=true->(∀ y∈l,hasY y=true)->hasY u=true:=by
 refine Tm.ind fun t ih l u h ho hl=>?_
 rcases fm_kind h with hk|hk|hk|hk|hk
 ·obtain⟨rfl,_,h3,_⟩:=fm_const h (.inr hk);exact holds_y ho (.inl hk)
 ·obtain⟨rfl,_,h3,_⟩:=fm_const h (.inl hk);exact holds_y ho (.inr (.inl hk))
 ·obtain⟨h1,_⟩:=fm_bound h hk;exact hl u (List.mem_of_getElem? h1)
 ·obtain⟨f,x,a,rfl,hf,hx⟩:=comb_eq h hk
  have hm:f∈(combT f x).s:=by simp[combT,Tm.s]
  have:=ih f hm l _ hf (holds_sub ho hm) hl
  rw[hasY_fun]at this
  simp at this
  exact this.2
 ·obtain⟨b,v,hs,_,h3,_,hb,rfl,_⟩:=fm_abs h hk
  have hm:b∈t.s:=by rw[hs];simp
  have:=ih b hm _ _ hb (holds_sub ho hm) (fun y hy=>by
   rcases List.mem_cons.1 hy with rfl|hy
   ·exact holds_y ho (.inr (.inr hk))
   ·exact hl y hy)
  rw[hasY_fun,holds_y ho (.inr (.inr hk)),this];rfl
theorem szT_eqn(l r:Tm)(u:Ty):szT (eqnT l r u)=3+szT l+szT r:=by
 rw[eqnT,szT_comb,szT_comb,show szT (eqC_ u)=1 from rfl];omega
theorem dpT_eqn(l r:Tm)(u:Ty):dpT (eqnT l r u)=1+max (1+max 1 (dpT l)) (dpT r):=by
 rw[eqnT,dpT_comb,dpT_comb,show dpT (eqC_ u)=1 from rfl]
theorem bkT_eqn(l r:Tm)(u:Ty):bkT (eqnT l r u)=19+2 * bkY u+bkT l+bkT r:=by
 rw[eqnT,bkT_comb,bkT_comb,bkT_eqC];omega
theorem valid_eqT{u:Ty}(h:shapeY u=true)(hs:szY u<=100):validY (funY u (funY u boolY))=true:=by
 have hd:=dpY_le u
 have b1:szY boolY=1:=rfl
 have b2:dpY boolY=1:=rfl
 have b3:shapeY boolY=true:=by decide
 unfold validY
 rw[szY_fun,szY_fun,dpY_fun,dpY_fun,shapeY_fun,shapeY_fun,h,b3,b1,b2]
 simp
 omega
theorem mkEq_ok{l r:Tm}{u:Ty}(hl:szT l+szT r<=20000)(hdl:dpT l<=200)(hdr:dpT r<=200)(h:shapeY u=true)(hs:szY u<=100):mkEq l r u=(eqnT l r u,0):=by
 unfold mkEq
 have h1:smallT (eqnT l r u)=true:=by
  simp only[smallT,Bool.and_eq_true,decide_eq_true_eq,szT_eqn,dpT_eqn];omega
 rw[h1,valid_eqT h hs];rfl
theorem thin_top{t:Tm}{l:List Ty}{u:Ty}(h:thinB t l=true)(hf:fm t l=some u):szY u<=100:=by
 rw[thinB_eq,hf]at h
 simp at h
 exact h.2
theorem thin_comb{f x:Tm}{l:List Ty}(h:thinB (combT f x) l=true):thinB f l=true/\thinB x l=true:=by
 rw[thinB_eq]at h
 simp[combT,Tm.k,Tm.s,thinBs]at h
 exact h.1
structure Fit'(t:Tm)(u:Ty):Prop where
 sz:szT t<=2000
 dp:dpT t<=100
 ty:szY u<=100
 sh:shapeY u=true
theorem fitB_of{t:Tm}{u:Ty}(h:fitB t=true)(hf:fm t []=some u):Fit' t u:=by
 unfold fitB at h
 simp at h
 exact⟨h.1,h.2.1,thin_top h.2.2 hf,fm_shape t [] u hf (fun y hy=>by cases hy)⟩
theorem fit_sides{l r:Tm}{v:Ty}(h:fitB (eqnT l r v)=true)(hl:fm l []=some v)(hr:fm r []=some v)(hv:validY (funY v (funY v boolY))=true):Fit' l v/\Fit' r v/\szY (funY v (funY v boolY))<=100/\shapeY (funY v (funY v boolY))=true:=by
 unfold fitB at h
 simp at h
 obtain⟨h1,h2,h3⟩:=h
 rw[szT_eqn]at h1
 rw[dpT_eqn]at h2
 obtain⟨h4,h5⟩:=thin_comb h3
 obtain⟨h6,h7⟩:=thin_comb h4
 have hs:=fm_shape l [] v hl (fun y hy=>by cases hy)
 exact⟨⟨by omega,by omega,thin_top h7 hl,hs⟩,⟨by omega,by omega,thin_top h5 hr,hs⟩,thin_top h6 (fm_eqC hv),valid_shape hv⟩
theorem refl_ok{t:Tm}{u:Ty}(h:KT BIG t u)(hz:szT t<=2000)(hd:dpT t<=100)(hs:shapeY u=true)(hy:szY u<=100):kernel_Refl th0 t=some (thm0 ⟨[],eqnT t t u⟩,0):=by
 obtain⟨e1,e2,e3⟩:=errK_of h
 have hb:=h.bk
 have hbu:=tyOf_bk e3
 rw[kernel_Refl_ok t hb (fun v hv=>by
  rw[e3]at hv;cases hv
  rw[bkT_eqn]
  simp only[BIG]at hb
  simp only[LIM];omega),if_pos e1,e3,Option.getD_some,mkEq_ok (by omega) (by omega) (by omega) hs hy]
 rfl
theorem engine_refl{t:Tm}{u:Ty}(h:KT BIG t u)(hf:Fit' t u):equality_engine_refl ⟨th0⟩ t=some (thm0 ⟨[],eqnT t t u⟩):=by
 rw[equality_engine_refl_eq,refl_ok h hf.sz hf.dp hf.sh hf.ty];rfl
theorem strict_ext:∀ {u l:List Tm},u.Pairwise ltT->l.Pairwise ltT->(∀ x,x∈u↔x∈l)->u=l
 | [],[],_,_,_=>rfl
 | [],b::l,_,_,h=>by have:=(h b).2 (List.mem_cons_self ..);cases this
 | a::u,[],_,_,h=>by have:=(h a).1 (List.mem_cons_self ..);cases this
 | a::u,b::l,hu,hl,h=>by
  obtain⟨u1,u2⟩:=List.pairwise_cons.1 hu
  obtain⟨l1,l2⟩:=List.pairwise_cons.1 hl
  have hab:a=b:=by
   rcases List.mem_cons.1 ((h a).1 (List.mem_cons_self ..))with e|ha
   ·exact e
   ·rcases List.mem_cons.1 ((h b).2 (List.mem_cons_self ..))with e|hb
    ·exact e.symm
    ·exact((l1 a ha).lt (u1 b hb).le).not.elim
  subst hab
  congr 1
  refine strict_ext u2 l2 fun x=>⟨fun hx=>?_,fun hx=>?_⟩
  ·rcases List.mem_cons.1 ((h x).1 (List.mem_cons_of_mem _ hx))with rfl|h'
   ·exact(u1 x hx).not.elim
   ·exact h'
  ·rcases List.mem_cons.1 ((h x).2 (List.mem_cons_of_mem _ hx))with rfl|h'
   ·exact(l1 x hx).not.elim
   ·exact h'
theorem strict_same{l:List Tm}(h:l.Pairwise ltT){x y:Tm}(hx:x∈l)(hy:y∈l)(hc:cmpTm x y=0):x=y:=by
 obtain⟨i,hi⟩:=List.getElem?_of_mem hx
 obtain⟨j,hj⟩:=List.getElem?_of_mem hy
 obtain⟨h1,rfl⟩:=List.getElem?_eq_some_iff.1 hi
 obtain⟨h2,rfl⟩:=List.getElem?_eq_some_iff.1 hj
 have hp:=List.pairwise_iff_getElem.1 h
 rcases Nat.lt_trichotomy i j with hij|rfl|hij
 ·have:=hp i j h1 h2 hij;unfold ltT at this;omega
 ·rfl
 ·have:=hp j i h2 h1 hij;unfold ltT at this;rw[sameT_symm hc]at this;omega
theorem SetH.self{u l:List Tm}(h:SetH u l)(hl:l.Pairwise ltT):u=l:=by
 refine strict_ext h.st hl fun x=>⟨h.mem x,fun hx=>?_⟩
 obtain⟨y,hy,hc⟩:=h.cov x hx
 rw[strict_same hl hx (h.mem y hy) hc];exact hy
theorem doneK_ok{u:List Tm}{c:Tm}(h:u.length<=64):doneK u (c,0)=(thm0 ⟨u,c⟩,0):=by
 unfold doneK;rw[if_neg (by omega),if_pos rfl]
theorem Comb_ok(H1 H2 H:List Tm)(f g x y:Tm)(a b:Ty)(hH:H1++H2=H)(hs:H.Pairwise ltT)(hl:H.length<=64)(hf:bkT f+bkT g+bkT x+bkT y<=2 ^ 29)(hb:bkY b<=2 ^ 29)
  (hz:szT f+szT g+szT x+szT y<=19000) (hd:dpT f<=190/\dpT g<=190/\dpT x<=190/\dpT y<=190) (hsh:shapeY b=true) (hsz:szY b<=100) :
  kernel_Comb (thm0 ⟨H1,eqnT f g (funY a b)⟩) (thm0 ⟨H2,eqnT x y a⟩)=some (thm0 ⟨H,eqnT (combT f x) (combT g y) b⟩,0):=by
 have e1:H.length=H1.length+H2.length:=by rw[<-hH,List.length_append]
 obtain⟨u,hu,e⟩:=kernel_Comb_ok H1 H2 f g x y a b (by omega) (by omega) (by rw[bkT_eqn,bkT_comb,bkT_comb];simp only[LIM];omega)
 rw[hH]at hu
 have:=hu.self hs
 subst this
 rw[e,mkEq_ok (by rw[szT_comb,szT_comb];omega) (by rw[dpT_comb];omega) (by rw[dpT_comb];omega) hsh hsz,doneK_ok hl]
theorem equality_concl_ok{s:Ssequent}(h:GoodS s):equality_concl (thm0 s)=some s.concl:=by rw[equality_concl_eq,h.seq];rfl
def eqnE(s:Ssequent):Tm×Tm×Int:=match isEqP s.concl with
 | some p=>(p.1,p.2,0)
 | none=>(zeroT,zeroT,50)
theorem equality_equation_ok{s:Ssequent}(h:GoodS s):equality_equation (thm0 s)=some (eqnE s):=by
 rw[equality_equation_eq,equality_concl_ok h,Option.bind_some,terms_IsEq_ok _ (big_lim h.con.bk),Option.bind_some]
 unfold eqnE
 cases isEqP s.concl<;>rfl
def zeroS:Ssequent:=⟨[],zeroT⟩
theorem argsR_2(e:Int):(argsR e).2=e:=by unfold argsR;by_cases h:e=0<;>simp[h]
end Go.Ab.X

set_option linter.all false
set_option maxRecDepth 100000
set_option maxHeartbeats 1000000
namespace Go.Ab.X
open Go.RowKit Go.Ab
def Mat(r:Sthm×Int)(q:Ssequent×Int):Prop:=law08_Matches r.1 r.2 q.1 q.2=some true
theorem mat_err{e:Int}(h:e≠0)(q:Ssequent):Mat (noThm,e) (q,e):=by
 unfold Mat
 rw[law08_Matches_eq,kernel_Sequent_none,Option.bind_some]
 simp only[decide_true,Bool.not_true,cond_false]
 rw[decide_eq_false h];rfl
theorem Type_KT{t:Tm}{u:Ty}(hf:fm t []=some u)(hb:bkT t<=BIG):ref02_Type t=some u:=
 ref02_Type_ok t hb (by have:=Nat.le_trans (dpT_le t) (szT_bk t);simp only[BIG]at hb;omega) hf
theorem ref08_Equate_ok{l r:Tm}{u:Ty}(hf:fm l []=some u)(hb:bkT l<=BIG)(hu:bkY u<=BIG):ref08_Equate l r=some (eqnT l r u):=by
 rw[ref08_Equate_eq,Type_KT hf hb,Option.bind_some,ref02_Equation_ok _ _ _ hu];rfl
def SML:Nat:=2 ^ 22
def MID:Nat:=2 ^ 25
theorem eqn_bk{l r:Tm}{v:Ty}{B:Nat}(h:bkT (eqnT l r v)<=B):2 * bkY v+bkT l+bkT r<=B:=by rw[bkT_eqn]at h;omega
theorem takes_true{f t:Ty}{w:Ty}(h:takesY f t=(w,true)):f=funY t w:=by
 unfold takesY at h
 cases hp:funP f with
 | none=>rw[hp]at h;cases h
 | some p =>
  obtain⟨a,b⟩:=p
  rw[hp]at h
  simp[dest]at h
  obtain⟨rfl,h2⟩:=h
  have:=funP_some hp
  rw[(cmpTy_iff _ _).1 h2]at this
  exact this
theorem arg_good{f:Tm}(hb:bkT f<=BIG)(h1:ctE f=0)(h2:sgE f=0):∃ u,KT BIG f u/\Fit' f u/\tyOf f=some u:=by
 unfold ctE at h1
 by_cases hc:chkT f=0
 ·rw[if_pos hc]at h1
  obtain⟨u,e1,e2,e3⟩:=chk_fm hc
  have hf:fitB f=true:=by
   by_cases hh:fitB f=true
   ·exact hh
   ·rw[if_neg hh]at h1;cases h1
  unfold sgE errK at h2
  rw[if_pos hc]at h2
  have ho:holdsT f=true:=by
   by_cases hh:holdsT f=true
   ·exact hh
   ·rw[if_neg hh]at h2;cases h2
  exact⟨u,⟨e2,e3,ho,hb⟩,fitB_of hf e2,e1⟩
 ·rw[if_neg hc]at h1;exact absurd h1 hc
end Go.Ab.X

set_option linter.all false
set_option maxRecDepth 100000
set_option maxHeartbeats 1000000
namespace Go.Ab.X
open Go.RowKit Go.Ab
theorem KT.eqn{B:Nat}{t:Tm}{u:Ty}(h:KT B t u)(hs:smallT (eqnT t t u)=true)(hv:validY (funY u (funY u boolY))=true)(hb:bkT (eqnT t t u)<=BIG):KT BIG (eqnT t t u) boolY:=by
 refine⟨fm_eqnT hv h.fm h.fm,hs,?_,hb⟩
 have hu:=fm_has t [] u h.fm h.ho (fun y hy=>by cases hy)
 rw[eqnT,holds_comb,holds_comb,h.ho,Bool.and_true,Bool.and_true]
 have e:hasY (funY u (funY u boolY))=true:=by rw[hasY_fun,hasY_fun,hu];decide
 have e2:eqB (funY u (funY u boolY))=true:=by
  unfold eqB
  rw[funP_fun]
  simp only
  rw[funP_fun]
  simp only[cmpTy_self]
  decide
 rw[holdsT_eq,show(eqC_ u).y=funY u (funY u boolY)from rfl,e,e2,show(eqC_ u).s=[]from rfl,show(eqC_ u).n=⟨#[61]⟩from rfl]
 simp[holdsTs]
theorem mkEq_zero{l r:Tm}{u:Ty}(h:(mkEq l r u).2=0):(mkEq l r u).1=eqnT l r u/\smallT (eqnT l r u)=true/\validY (funY u (funY u boolY))=true:=by
 unfold mkEq at h ⊢
 cases h1:smallT (eqnT l r u)<;>cases h2:validY (funY u (funY u boolY))<;>simp[h1,h2]at h ⊢
theorem doneK_zero{u:List Tm}{q:Tm×Int}(h:(doneK u q).2=0):u.length<=64/\q.2=0/\doneK u q=(thm0 ⟨u,q.1⟩,0):=by
 unfold doneK at h ⊢
 by_cases h1:64<u.length
 ·rw[if_pos h1]at h;cases h
 ·rw[if_neg h1]at h
  by_cases h2:q.2=0
  ·refine⟨by omega,h2,?_⟩
   rw[if_neg h1,if_pos h2]
  ·rw[if_neg h2]at h;exact absurd h h2
theorem add_ok{s:Ssequent}(h:GoodS s)(t:Tm)(hb:bkT t<=BIG):(∃ a,law08_add th0 (thm0 s) t=some (a,false))\/(∃ s',law08_add th0 (thm0 s) t=some (thm0 s',true)/\GoodS s'/\s'.concl=s.concl):=by
 rw[law08_add_eq]
 rcases kernel_Assume_ok t hb with⟨e,h1,h2⟩|⟨h1,hk⟩
 ·left
  refine⟨thm0 s,?_⟩
  rw[h1,Option.bind_some,decide_eq_false h2];rfl
 ·rw[h1,Option.bind_some]
  simp only[decide_true,Bool.not_true,cond_false]
  have hc:=h.con.bk
  have hl:=h.len
  simp only[BIG]at hb hc
  have b0:bkY boolY=5:=rfl
  obtain⟨u,hu,e1⟩:=kernel_Deduct_ok ⟨[t],t⟩ s (by simp) h.len (by rw[bkT_eqn];simp only[b0,LIM];omega)
  rw[e1,Option.bind_some]
  by_cases hz:(doneK u (mkEq t s.concl boolY)).2=0
  ·obtain⟨z1,z2,z3⟩:=doneK_zero hz
   obtain⟨q1,q2,q3⟩:=mkEq_zero z2
   rw[z3,q1]
   simp only[decide_true,Bool.not_true,cond_false]
   obtain⟨w,hw,e2⟩:=kernel_EqMp_ok u t s.concl boolY ⟨[t],t⟩ z1 (by simp)
   rw[e2,cmpTm_refl,if_pos rfl,Option.bind_some]
   by_cases hz2:(doneK w (s.concl,0)).2=0
   ·obtain⟨y1,_,y3⟩:=doneK_zero hz2
    right
    refine⟨⟨w,s.concl⟩,by rw[y3];rfl,⟨h.con,fun x hx=>?_,hw.st,y1⟩,rfl⟩
    have hm:=hw.mem x hx
    rcases List.mem_append.1 hm with hm|hm
    ·have hm':=hu.mem x hm
     rcases List.mem_append.1 hm' with hm'|hm'
     ·have:=(List.mem_filter.1 hm').1
      rw[List.mem_singleton.1 this];exact hk
     ·exact h.hyp x (List.mem_filter.1 hm').1
    ·rw[List.mem_singleton.1 hm];exact hk
   ·left
    exact⟨_,by rw[decide_eq_false hz2]⟩
  ·left
   exact⟨_,by rw[decide_eq_false hz];rfl⟩
theorem Made_ok(s:Ssequent)(hh:∀ t∈s.hyps,bkT t<=SML)(hc:bkT s.concl<=2 ^ 21):(∃ a,law08_Made th0 s=some (a,false))\/(∃ s',law08_Made th0 s=some (thm0 s',true)/\GoodS s'/\bkT s'.concl<=14 * bkT s.concl+19):=by
 have loop:∀ c:Tm,bkT c<=14 * bkT s.concl+19->(∀ q:Ssequent,GoodS q->q.concl=c->(∃ a,loopN (law08_Made.s2 s th0) (0,noThm,thm0 q)=some (a,false))\/(∃ s',loopN (law08_Made.s2 s th0) (0,noThm,thm0 q)=some (thm0 s',true)/\GoodS s'/\bkT s'.concl<=14 * bkT s.concl+19)):=by
  intro c hcb q0 hq0 hqc
  have key:∀(k i:Nat) (q:Ssequent),i+k=s.hyps.length->GoodS q->q.concl=c->(∃ a,LT (law08_Made.s2 s th0) ((i:Int),noThm,thm0 q) (some (a,false)))\/(∃ s',LT (law08_Made.s2 s th0) ((i:Int),noThm,thm0 q) (some (thm0 s',true))/\GoodS s'/\bkT s'.concl<=14 * bkT s.concl+19):=by
   intro k
   induction k with
   | zero =>
    intro i q hi hq hc'
    have:i=s.hyps.length:=by omega
    subst this
    right
    refine⟨q,.last fun next=>?_,hq,by rw[hc'];exact hcb⟩
    simp only[law08_Made.s2,dle,cond_false]
   | succ k ih =>
    intro i q hi hq hc'
    obtain⟨x,hx⟩:∃ x,s.hyps[i]? = some x:=⟨_,List.getElem?_eq_getElem (show i<s.hyps.length by omega)⟩
    have hxb:=hh x (List.mem_of_getElem? hx)
    simp only[SML]at hxb
    rcases add_ok hq x (by simp only[BIG];omega)with⟨a,ha⟩|⟨q',ha,hq',hc''⟩
    ·left
     refine⟨noThm,.last fun next=>?_⟩
     simp only[law08_Made.s2,dlt hx,ixg,hx,Option.bind_some,cond_true,ha,Bool.not_false];rfl
    ·have st:∀ next,law08_Made.s2 s th0 ((i:Int),noThm,thm0 q) next=next (((i+1:Nat):Int),noThm,thm0 q'):=by
      intro next
      simp only[law08_Made.s2,dlt hx,ixg,hx,Option.bind_some,cond_true,ha,Bool.not_true,cond_false,inc_nat]
     rcases ih (i+1) q' (by omega) hq' (by rw[hc'',hc'])with⟨a,h⟩|⟨s',h,h1,h2⟩
     ·exact .inl ⟨a,.next st h⟩
     ·exact .inr ⟨s',.next st h,h1,h2⟩
  rcases key s.hyps.length 0 q0 (by omega) hq0 hqc with⟨a,h⟩|⟨s',h,h1,h2⟩
  ·exact .inl ⟨a,h.eq⟩
  ·exact .inr ⟨s',h.eq,h1,h2⟩
 have j1e:∀(e:Int) (a:Sthm),e≠0->law08_Made.j1 s th0 (e,a)=some (noThm,false):=by
  intro e a he
  simp only[law08_Made.j1]
  rw[decide_eq_false he];rfl
 have j10:∀ a:Sthm,law08_Made.j1 s th0 (0,a)=loopN (law08_Made.s2 s th0) (0,noThm,a):=fun a=>rfl
 have hcB:bkT s.concl<=BIG:=by simp only[BIG];omega
 have viaA:∀ r4,kernel_Assume th0 s.concl=some r4->(∃ a,law08_Made.j1 s th0 (r4.2,r4.1)=some (a,false))\/(∃ s',law08_Made.j1 s th0 (r4.2,r4.1)=some (thm0 s',true)/\GoodS s'/\bkT s'.concl<=14 * bkT s.concl+19):=by
  intro r4 hr
  rcases kernel_Assume_ok s.concl hcB with⟨e,h1,h2⟩|⟨h1,hk⟩
  ·rw[h1]at hr;cases hr
   exact .inl ⟨_,j1e e _ h2⟩
  ·rw[h1]at hr;cases hr
   rw[j10]
   exact loop s.concl (by omega) ⟨[s.concl],s.concl⟩ ⟨hk,fun x hx=>by rw[List.mem_singleton.1 hx];exact hk,List.pairwise_singleton ..,by simp⟩ rfl
 obtain⟨r4,hr4⟩:∃ r4,kernel_Assume th0 s.concl=some r4:=by
  rcases kernel_Assume_ok s.concl hcB with⟨e,h1,h2⟩|⟨h1,hk⟩
  ·exact⟨_,h1⟩
  ·exact⟨_,h1⟩
 have hA:=viaA r4 hr4
 rw[law08_Made_eq,ref02_IsEq_ok _ (big_lim hcB),Option.bind_some,hr4,Option.bind_some]
 simp only[jn]
 cases hq:isEqP s.concl with
 | none =>
  simp only[sidesR,cond_false,law08_Made.j3]
  exact hA
 | some p =>
  obtain⟨l,r⟩:=p
  obtain⟨b1,b2⟩:=isEqP_bk hq
  simp only[sidesR,cond_true,ref02_Same_ok l r (by simp only[LIM];omega),Option.bind_some]
  by_cases hs:cmpTm l r=0
  ·rw[decide_eq_true hs]
   simp only[law08_Made.j3,cond_true]
   have hlB:bkT l<=BIG:=by omega
   have hby:∀ u,tyOf l=some u->bkT (eqnT l l u)<=14 * bkT s.concl+19:=fun u hu=>by
    have:=tyOf_bk hu
    rw[bkT_eqn];omega
   rw[kernel_Refl_ok l hlB (fun u hu=>by have:=hby u hu;simp only[LIM];omega),Option.bind_some]
   by_cases he:errK l=0
   ·obtain⟨u,hk,ht,_⟩:=errK_zero he hlB
    rw[if_pos he,ht,Option.getD_some]
    by_cases hm:(mkEq l l u).2=0
    ·obtain⟨q1,q2,q3⟩:=mkEq_zero hm
     have hmid:=hby u ht
     have hK:=hk.eqn q2 q3 (by simp only[BIG];omega)
     rw[if_pos hm,q1,j10]
     exact loop (eqnT l l u) hmid ⟨[],eqnT l l u⟩ ⟨hK,(fun x hx=>by cases hx),List.Pairwise.nil,by simp⟩ rfl
    ·rw[if_neg hm]
     exact .inl ⟨_,j1e _ _ hm⟩
   ·rw[if_neg he]
    exact .inl ⟨_,j1e _ _ he⟩
  ·rw[decide_eq_false hs]
   simp only[law08_Made.j3,cond_false]
   exact hA
def bkS(s:Ssequent):Nat:=1+bkTs s.hyps+bkT s.concl
theorem ref08_Great_ok(s:Ssequent)(hf:∀ x∈s.hyps,fitT x)(hc:fitT s.concl)(hb:∀ x∈s.hyps,bkT x<=LIM)(hcb:bkT s.concl<=LIM)(hl:s.hyps.length<=LIM):∃ b,ref08_Great s=some b:=by
 simp only[LIM]at hl
 have key:∀(k i:Nat) (b:Bool),i+k=s.hyps.length->∃ c,LT (ref08_Great.s1 s) (b,(i:Int)) (some c):=by
  intro k
  induction k with
  | zero =>
   intro i b hi
   have:i=s.hyps.length:=by omega
   subst this
   cases b
   ·refine⟨decide ((80:Int)<(s.hyps.length:Int)),.last fun next=>?_⟩
    simp only[ref08_Great.s1,jn,dle,cond_false,ref08_Great.j2]
   ·refine⟨true,.last fun next=>?_⟩
    simp only[ref08_Great.s1,jn,dle,cond_false,ref08_Great.j2,cond_true]
  | succ k ih =>
   intro i b hi
   obtain⟨x,hx⟩:∃ x,s.hyps[i]? = some x:=⟨_,List.getElem?_eq_getElem (show i<s.hyps.length by omega)⟩
   have hm:=List.mem_of_getElem? hx
   by_cases h80:(i:Int)<80
   ·cases b
    ·obtain⟨c,hc⟩:=ih (i+1) (greatT x) (by omega)
     refine⟨c,.next (fun next=>?_) hc⟩
     simp only[ref08_Great.s1,jn,dlt hx,cond_true,ref08_Great.j2,decide_eq_true h80,cond_false,ixg,hx,Option.bind_some,ref02_Great_ok x (hf x hm) (hb x hm),ref08_Great.j3]
     rw[wr (by omega) (by omega),inc_nat]
    ·obtain⟨c,hc⟩:=ih (i+1) true (by omega)
     refine⟨c,.next (fun next=>?_) hc⟩
     simp only[ref08_Great.s1,jn,dlt hx,cond_true,ref08_Great.j2,decide_eq_true h80,ref08_Great.j3]
     rw[wr (by omega) (by omega),inc_nat]
   ·cases b
    ·refine⟨decide ((80:Int)<(s.hyps.length:Int)),.last fun next=>?_⟩
     simp only[ref08_Great.s1,jn,dlt hx,cond_true,ref08_Great.j2,decide_eq_false h80,cond_false]
    ·refine⟨true,.last fun next=>?_⟩
     simp only[ref08_Great.s1,jn,dlt hx,cond_true,ref08_Great.j2,decide_eq_false h80,cond_false]
 obtain⟨c,hc'⟩:=key s.hyps.length 0 (greatT s.concl) (by omega)
 exact⟨c,by rw[ref08_Great_eq,ref02_Great_ok _ hc hcb,Option.bind_some];exact hc'.eq⟩
end Go.Ab.X
