/- A part of the proof: P11. -/
import Derived.Test.YtlebiodkgkeomaaGreatP10
set_option linter.all false
set_option linter.all false
set_option maxRecDepth 100000
set_option maxHeartbeats 1000000
namespace Go.Ab.X
open Go.RowKit Go.Ab
def Cov(u v:List Tm):Prop:=∀ x∈u,∃ y∈v,cmpTm x y=0
theorem Cov.trans{u v w:List Tm}(h:Cov u v)(h':Cov v w):Cov u w:=fun x hx=>by
 obtain⟨y,hy,e⟩:=h x hx
 obtain⟨z,hz,e'⟩:=h' y hy
 exact⟨z,hz,sameT_trans e e'⟩
theorem Cov.sub{u v:List Tm}(h:∀ x∈u,x∈v):Cov u v:=fun x hx=>⟨x,h x hx,cmpTm_refl x⟩
theorem same_lt{a x b:Tm}(h:ltT a x)(hx:cmpTm x b=0):ltT a b:=h.lt (by unfold leT;omega)
theorem lt_same{a b x:Tm}(ha:cmpTm a b=0)(h:ltT b x):ltT a x:=leT.lt (by unfold leT;omega) h
theorem cov_head{a b:Tm}{v:List Tm}(hv:(b::v).Pairwise ltT)(h:∃ y∈b::v,cmpTm a y=0):cmpTm a b=0\/ltT b a:=by
 obtain⟨y,hy,e⟩:=h
 rcases List.mem_cons.1 hy with rfl|hy
 ·exact .inl e
 ·exact .inr (same_lt ((List.pairwise_cons.1 hv).1 y hy) (sameT_symm e))
theorem cov_tail{a b:Tm}{u v:List Tm}(hu:(a::u).Pairwise ltT)(hab:cmpTm a b=0)(h:Cov (a::u) (b::v)):Cov u v:=fun x hx=>by
 obtain⟨y,hy,e⟩:=h x (List.mem_cons_of_mem _ hx)
 rcases List.mem_cons.1 hy with rfl|hy
 ·have h1:=(List.pairwise_cons.1 hu).1 x hx
  have h2:=sameT_trans hab (sameT_symm e)
  unfold ltT at h1;omega
 ·exact⟨y,hy,e⟩
theorem strict_len:∀(v u:List Tm),u.Pairwise ltT->v.Pairwise ltT->Cov u v->u.length<=v.length
 | _,[],_,_,_=>Nat.zero_le _
 | [],a::u,_,_,h=>by obtain⟨y,hy,_⟩:=h a (List.mem_cons_self ..);cases hy
 | b::v,a::u,hu,hv,h=>by
  rcases cov_head hv (h a (List.mem_cons_self ..))with hab|hba
  ·have:=strict_len v u (List.pairwise_cons.1 hu).2 (List.pairwise_cons.1 hv).2 (cov_tail hu hab h)
   simp only[List.length_cons];omega
  ·have:=strict_len v (a::u) hu (List.pairwise_cons.1 hv).2 (fun x hx=>by
    obtain⟨y,hy,e⟩:=h x hx
    rcases List.mem_cons.1 hy with rfl|hy
    ·have hbx:ltT y x:=by
      rcases List.mem_cons.1 hx with rfl|hx
      ·exact hba
      ·exact hba.lt ((List.pairwise_cons.1 hu).1 x hx).le
     exact(same_lt hbx e).not.elim
    ·exact⟨y,hy,e⟩)
   simp only[List.length_cons]at this ⊢;omega
def SameL:List Tm->List Tm->Prop
 | [],[]=>True
 | a::l,b::m=>cmpTm a b=0/\SameL l m
 | _,_=>False
theorem strict_sameL:∀(v u:List Tm),u.Pairwise ltT->v.Pairwise ltT->Cov u v->Cov v u->SameL u v
 | [],[],_,_,_,_=>trivial
 | b::v,[],_,_,_,h=>by obtain⟨y,hy,_⟩:=h b (List.mem_cons_self ..);cases hy
 | [],a::u,_,_,h,_=>by obtain⟨y,hy,_⟩:=h a (List.mem_cons_self ..);cases hy
 | b::v,a::u,hu,hv,h,h'=>by
  have hab:cmpTm a b=0:=by
   rcases cov_head hv (h a (List.mem_cons_self ..))with e|hba
   ·exact e
   ·rcases cov_head hu (h' b (List.mem_cons_self ..))with e|hab
    ·exact sameT_symm e
    ·exact(hba.lt hab.le).not.elim
  exact⟨hab,strict_sameL v u (List.pairwise_cons.1 hu).2 (List.pairwise_cons.1 hv).2 (cov_tail hu hab h) (cov_tail hv (sameT_symm hab) h')⟩
theorem SameL.len:∀ {l m:List Tm},SameL l m->l.length=m.length
 | [],[],_=>rfl
 | _::_,_::_,h=>by simp only[List.length_cons,SameL.len h.2]
 | [],_::_,h=>h.elim
 | _::_,[],h=>h.elim
theorem SameL.get:∀ {l m:List Tm} (i:Nat) {x:Tm},SameL l m->l[i]? = some x->∃ y,m[i]? = some y/\cmpTm x y=0
 | [],_,i,_,_,h=>by simp at h
 | _::_,[],_,_,h,_=>h.elim
 | a::l,b::m,0,x,h,e=>by cases e;exact⟨b,rfl,h.1⟩
 | a::l,b::m,i+1,x,h,e=>SameL.get (l:=l) (m:=m) i h.2 e
theorem SameAll_ok{l m:List Tm}(hs:SameL l m)(h:∀ t∈l,bkT t<=LIM):ref02_SameAll l m=some true:=by
 rw[ref02_SameAll_eq,hs.len]
 simp only[decide_true,Bool.not_true,cond_false]
 refine LT.inv (T:=Unit) l (fun i _=>(i:Int)) (fun _ _=>True) ?_ ?_ (t0:=()) trivial
 ·intro i x _ hx _
  obtain⟨y,hy,e⟩:=hs.get i hx
  refine .inl ⟨(),fun next=>?_,trivial⟩
  simp only[ref02_SameAll.s1,dlt hx,ixg,hx,hy,Option.bind_some,cond_true,ref02_Same_ok x y (h x (List.mem_of_getElem? hx)),e,decide_true,Bool.not_true,cond_false,inc_nat]
 ·intro _ _ next
  simp only[ref02_SameAll.s1,dle,cond_false]
def doneR(w:List Tm)(c:Tm):Ssequent×Int:=if 64<w.length then(zeroS,4)else(⟨w,c⟩,0)
theorem ref08_Done_all(l:List Tm)(p:Tm):ref08_Done l p=some (doneR l p):=by
 rw[ref08_Done_eq];unfold doneR
 by_cases h:64<l.length
 ·rw[if_pos h,decide_eq_true (by omega)];rfl
 ·rw[if_neg h,decide_eq_false (by omega)];rfl
theorem mat_set{u w l m:List Tm}{c:Tm}(hu:SetH u l)(hw:SetH w m)(h:Cov l m)(h':Cov m l)(hb:∀ t∈l,bkT t<=LIM)(hc:bkT c<=LIM):Mat (doneK u (c,0)) (doneR w c):=by
 have c1:Cov u w:=(Cov.sub hu.mem).trans (h.trans hw.cov)
 have c2:Cov w u:=(Cov.sub hw.mem).trans (h'.trans hu.cov)
 have hs:=strict_sameL w u hu.st hw.st c1 c2
 have hl:=hs.len
 unfold doneK doneR
 by_cases h64:64<u.length
 ·rw[if_pos h64,if_pos (by omega)];exact mat_err (by decide) _
 ·rw[if_neg h64,if_pos rfl,if_neg (show ¬ 64<w.length by omega)]
  unfold Mat
  have hbu:∀ t∈u,bkT t<=LIM:=fun t ht=>hb t (hu.mem t ht)
  rw[law08_Matches_eq,kernel_Sequent_ok ⟨u,c⟩ (by simp only[LIM];omega) hbu hc,Option.bind_some]
  simp only[decide_true,Bool.not_true,cond_false,cond_true]
  rw[ref08_Same_eq,SameAll_ok hs hbu,Option.bind_some,cond_true,ref02_Same_ok _ _ hc,cmpTm_refl];rfl
theorem mat_many{u w:List Tm}{c:Tm}(hu:u.Pairwise ltT)(hw:w.Pairwise ltT)(h:Cov u w)(h64:64<u.length):Mat (noThm,4) (doneR w c):=by
 have:=strict_len w u hu hw h
 unfold doneR
 rw[if_pos (by omega)]
 exact mat_err (by decide) _
def withL(t:Tm):List Tm->List Tm
 | []=>[t]
 | a::l=>if cmpTm a t<0 then a::withL t l else if cmpTm a t=0 then t::l else t::a::l
theorem withL_len(t:Tm):∀ l:List Tm,(withL t l).length<=l.length+1
 | []=>by simp[withL]
 | a::l=>by
  have:=withL_len t l
  unfold withL
  split
  ·simp only[List.length_cons];omega
  ·split<;>simp
theorem withL_mem(t:Tm):∀(l:List Tm),∀ x∈withL t l,x=t\/x∈l
 | [],x,h=>by simp[withL]at h;exact .inl h
 | a::l,x,h=>by
  unfold withL at h
  split at h
  ·rcases List.mem_cons.1 h with rfl|h
   ·exact .inr (List.mem_cons_self ..)
   ·rcases withL_mem t l x h with e|h
    ·exact .inl e
    ·exact .inr (List.mem_cons_of_mem _ h)
  ·split at h
   ·rcases List.mem_cons.1 h with e|h
    ·exact .inl e
    ·exact .inr (List.mem_cons_of_mem _ h)
   ·rcases List.mem_cons.1 h with e|h
    ·exact .inl e
    ·exact .inr h
theorem withL_self(t:Tm):∀ l:List Tm,t∈withL t l
 | []=>by simp[withL]
 | a::l=>by
  unfold withL
  split
  ·exact List.mem_cons_of_mem _ (withL_self t l)
  ·split<;>exact List.mem_cons_self ..
theorem withL_cov(t:Tm):∀(l:List Tm),Cov l (withL t l)
 | [],x,h=>by cases h
 | a::l,x,h=>by
  unfold withL
  split
  ·rcases List.mem_cons.1 h with rfl|h
   ·exact⟨x,List.mem_cons_self ..,cmpTm_refl x⟩
   ·obtain⟨y,hy,e⟩:=withL_cov t l x h
    exact⟨y,List.mem_cons_of_mem _ hy,e⟩
  ·split
   ·rename_i e
    rcases List.mem_cons.1 h with rfl|h
    ·exact⟨t,List.mem_cons_self ..,e⟩
    ·exact⟨x,List.mem_cons_of_mem _ h,cmpTm_refl x⟩
   ·exact⟨x,List.mem_cons_of_mem _ h,cmpTm_refl x⟩
theorem withL_st(t:Tm):∀(l:List Tm),l.Pairwise ltT->(withL t l).Pairwise ltT
 | [],_=>by simp[withL]
 | a::l,h=>by
  obtain⟨h1,h2⟩:=List.pairwise_cons.1 h
  unfold withL
  split
  ·rename_i hlt
   refine List.pairwise_cons.2 ⟨fun x hx=>?_,withL_st t l h2⟩
   rcases withL_mem t l x hx with rfl|hx
   ·exact hlt
   ·exact h1 x hx
  ·rename_i hn
   split
   ·rename_i e
    exact List.pairwise_cons.2 ⟨fun x hx=>lt_same (sameT_symm e) (h1 x hx),h2⟩
   ·rename_i hne
    have hta:ltT t a:=by unfold ltT;rw[neg_T a t];omega
    refine List.pairwise_cons.2 ⟨fun x hx=>?_,h⟩
    rcases List.mem_cons.1 hx with rfl|hx
    ·exact hta
    ·exact hta.lt (h1 x hx).le
theorem slcL_from{l:List Tm}{i:Nat}(h:i<=l.length):slcL l (i:Int) (l.length:Int) (l.length:Int)=some (l.drop i):=by
 unfold slcL
 rw[if_pos (by omega)]
 simp
theorem ref08_With_ok(l:List Tm)(t:Tm)(hl:l.length<=2 ^ 30)(hb:∀ x∈l,bkT x<=LIM):ref08_With l t=some (withL t l):=by
 rw[ref08_With_eq]
 have key:∀(B A:List Tm),l=A++B->LT (ref08_With.s1 l t) ((A.length:Int),A) (some (A++withL t B)):=by
  intro B
  induction B with
  | nil =>
   intro A hA
   rw[List.append_nil]at hA
   subst hA
   refine .last fun next=>?_
   simp only[ref08_With.s1,jn,dle,cond_false,ref08_With.j2,ref08_With.j3,ref08_With.j4]
   rw[if_pos (by simp[LIM];omega),slcL_from (Nat.le_refl _),Option.bind_some,if_pos (by simp[LIM];omega)]
   simp[withL]
  | cons x B ih =>
   intro A hA
   have hx:l[A.length]? = some x:=by rw[hA];simp
   have hlt:=(List.getElem?_eq_some_iff.1 hx).1
   have hbx:=hb x (List.mem_of_getElem? hx)
   by_cases h1:cmpTm x t<0
   ·refine .next (s':=(((A++[x]).length:Int),A++[x])) (fun next=>?_) ?_
    ·simp only[ref08_With.s1,jn,dlt hx,cond_true,ixg,hx,Option.bind_some,ref02_Compare_ok x t hbx,h1,decide_true,ref08_With.j2]
     rw[if_pos (by simp[LIM];omega),wr (by omega) (by omega)]
     simp
    ·have:=ih (A++[x]) (by rw[hA];simp)
     rw[withL,if_pos h1]
     simpa using this
   ·refine .last fun next=>?_
    have d1:l.drop A.length=x::B:=by rw[hA];simp
    have d2:l.drop (A.length+1)=B:=by rw[<-List.drop_drop,d1];rfl
    simp only[ref08_With.s1,jn,dlt hx,cond_true,ixg,hx,Option.bind_some,ref02_Compare_ok x t hbx,h1,decide_false,ref08_With.j2,cond_false,ref02_Same_ok x t hbx,ref08_With.j4,ref08_With.j3]
    rw[if_pos (by simp[LIM];omega),withL,if_neg h1]
    by_cases h2:cmpTm x t=0
    ·simp only[h2,decide_true,cond_true,if_true]
     rw[wr (by omega) (by omega),inc_nat,slcL_from (by omega),Option.bind_some,d2]
     rw[if_pos (by rw[hA]at hl;simp[LIM]at hl ⊢;omega)]
     simp
    ·simp only[h2,decide_false,cond_false,if_false]
     rw[slcL_from (by omega),Option.bind_some,d1]
     rw[if_pos (by rw[hA]at hl;simp[LIM]at hl ⊢;omega)]
     simp
 exact(key l [] rfl).eq
def unionL:List Tm->List Tm->List Tm
 | a,[]=>a
 | a,x::b=>unionL (withL x a) b
theorem unionL_len:∀(b a:List Tm),(unionL a b).length<=a.length+b.length
 | [],a=>by simp[unionL]
 | x::b,a=>by
  have:=unionL_len b (withL x a)
  have:=withL_len x a
  simp only[unionL,List.length_cons];omega
theorem unionL_set:∀(b a l:List Tm),SetH a l->SetH (unionL a b) (l++b)
 | [],a,l,h=>by simpa [unionL] using h
 | x::b,a,l,h=>by
  have:=unionL_set b (withL x a) (l++[x]) ⟨withL_st x a h.st,(fun y hy=>by
   rcases withL_mem x a y hy with rfl|hy
   ·simp
   ·simp[h.mem y hy]),(fun y hy=>by
   rcases List.mem_append.1 hy with hy|hy
   ·obtain⟨z,hz,e⟩:=h.cov y hy
    obtain⟨z',hz',e'⟩:=withL_cov x a z hz
    exact⟨z',hz',sameT_trans e e'⟩
   ·rw[List.mem_singleton.1 hy]
    exact⟨x,withL_self x a,cmpTm_refl x⟩),by have:=withL_len x a;have:=h.len;simp only[List.length_append,List.length_singleton];omega⟩
  rw[unionL]
  simpa using this
theorem ref08_Union_ok(a b:List Tm)(hl:a.length+b.length<=2 ^ 30)(ha:∀ x∈a,bkT x<=LIM)(hb:∀ x∈b,bkT x<=LIM):ref08_Union a b=some (unionL a b):=by
 rw[ref08_Union_eq,if_pos (by simp[LIM];omega),List.nil_append]
 have key:∀(B A u:List Tm),b=A++B->u.length<=a.length+A.length->(∀ x∈u,bkT x<=LIM)->LT (ref08_Union.s1 b) (u,(A.length:Int)) (some (unionL u B)):=by
  intro B
  induction B with
  | nil =>
   intro A u hA _ _
   rw[List.append_nil]at hA
   subst hA
   refine .last fun next=>?_
   simp only[ref08_Union.s1,dle,cond_false,unionL]
  | cons x B ih =>
   intro A u hA hu hbu
   have hx:b[A.length]? = some x:=by rw[hA];simp
   have hlt:=(List.getElem?_eq_some_iff.1 hx).1
   refine .next (s':=(withL x u,((A++[x]).length:Int))) (fun next=>?_) ?_
   ·simp only[ref08_Union.s1,dlt hx,cond_true,ixg,hx,Option.bind_some,ref08_With_ok u x (by omega) hbu]
    simp
   ·refine ih (A++[x]) (withL x u) (by rw[hA];simp) (by have:=withL_len x u;simp only[List.length_append,List.length_singleton];omega) (fun y hy=>?_)
    rcases withL_mem x u y hy with rfl|hy
    ·exact hb y (List.mem_of_getElem? hx)
    ·exact hbu y hy
 exact(key b [] a rfl (by simp) ha).eq
theorem ref08_Without_ok(l:List Tm)(t:Tm)(hl:l.length<=2 ^ 30)(hb:∀ x∈l,bkT x<=LIM):ref08_Without l t=some (l.filter (nsame t)):=by
 rw[ref08_Without_eq]
 have key:∀(B A:List Tm),l=A++B->LT (ref08_Without.s1 l t) ((A.length:Int),A.filter (nsame t)) (some ((A++B).filter (nsame t))):=by
  intro B
  induction B with
  | nil =>
   intro A hA
   rw[List.append_nil]at hA
   subst hA
   refine .last fun next=>?_
   simp only[ref08_Without.s1,dle,cond_false,List.append_nil]
  | cons x B ih =>
   intro A hA
   have hx:l[A.length]? = some x:=by rw[hA];simp
   have hlt:=(List.getElem?_eq_some_iff.1 hx).1
   have hle:=List.length_filter_le (nsame t) A
   refine .next (s':=(((A++[x]).length:Int),(A++[x]).filter (nsame t))) (fun next=>?_) ?_
   ·simp only[ref08_Without.s1,jn,dlt hx,cond_true,ixg,hx,Option.bind_some,ref02_Same_ok x t (hb x (List.mem_of_getElem? hx)),ref08_Without.j2]
    by_cases h:cmpTm x t=0
    ·simp[h,nsame]
    ·simp only[h,decide_false,Bool.not_false,cond_true]
     rw[if_pos (by simp[LIM];omega)]
     simp[h,nsame]
   ·have:=ih (A++[x]) (by rw[hA];simp)
    simpa using this
 have:=(key l [] rfl).eq
 simpa using this
end Go.Ab.X

set_option linter.all false
set_option maxRecDepth 100000
set_option maxHeartbeats 1000000
namespace Go.Ab.X
open Go.RowKit Go.Ab
structure Eqn(s:Ssequent)(l r:Tm)(v:Ty):Prop where
 eq:s.concl=eqnT l r v
 kl:KT BIG l v
 kr:KT BIG r v
 fl:Fit' l v
 fr:Fit' r v
 bk:2 * bkY v+bkT l+bkT r<=bkT s.concl
theorem fE_zero{s:Ssequent}(h:fE s=0):fitB s.concl=true:=by
 unfold fE fitsS at h
 by_cases hh:(s.hyps.all fitB && fitB s.concl)=true
 ·simp at hh;exact hh.2
 ·rw[if_neg hh]at h;cases h
theorem eqn_good{s:Ssequent}{l r:Tm}(h:GoodS s)(hf:fE s=0)(hq:isEqP s.concl=some (l,r)):∃ v,Eqn s l r v:=by
 obtain⟨v,e,kl,kr,_,_,hv⟩:=eqn_of h.con hq
 have hfit:=fE_zero hf
 rw[e]at hfit
 obtain⟨fl,fr,_,_⟩:=fit_sides hfit kl.fm kr.fm hv
 exact⟨v,e,kl,kr,fl,fr,eqn_bk (by rw[<-e];exact Nat.le_refl _)⟩
theorem seq_eta(s:Ssequent){c:Tm}(h:s.concl=c):s=⟨s.hyps,c⟩:=by subst h;rfl
theorem kernel_Trans_ok(H1:List Tm)(l m:Tm)(v:Ty)(t:Ssequent)(n r:Tm)(w:Ty)(ht:t.concl=eqnT n r w)(h1:H1.length<=64)(h2:t.hyps.length<=64)(hs:cmpTm m n=0)(hb:bkT (eqnT l r v)<=LIM) :
  ∃ u,SetH u (H1++t.hyps)/\kernel_Trans (thm0 ⟨H1,eqnT l m v⟩) (thm0 t)=some (doneK u (mkEq l r v)):=by
 obtain⟨u,hu,e⟩:=kernel_union_ok H1 t.hyps (by simp only[LIM];omega)
 refine⟨u,hu,?_⟩
 rw[kernel_Trans_eq,kernel_related_ok,Option.bind_some]
 simp only[decide_true,Bool.not_true,cond_false,show(thm0 ⟨H1,eqnT l m v⟩).seq=some ⟨H1,eqnT l m v⟩from rfl,show(thm0 t).seq=some t from rfl,Option.bind_some,ht,sides_eqn,jn,terms_Same_ok,hs,kernel_Trans.j1,kernel_equation_ok _ _ _ hb,e]
 rw[done_ok];rfl
theorem GoodS.hb{s:Ssequent}(h:GoodS s):∀ t∈s.hyps,bkT t<=LIM:=h.bks.2.1
theorem GoodS.set{s:Ssequent}(h:GoodS s):SetH s.hyps s.hyps:=⟨h.st,fun _ h=>h,fun x hx=>⟨x,hx,cmpTm_refl x⟩,Nat.le_refl _⟩
theorem argsE_all{l:List Tm}{ss:List Ssequent}(h:argsE l ss=0):(∀ s∈ss,fE s=0)/\(∀ t∈l,ctE t=0/\sgE t=0):=by
 unfold argsE ifE at h
 by_cases h1:orL (l.map ctE)=0
 ·rw[if_neg (by simpa using h1)]at h
  by_cases h2:orL (ss.map fE)=0
  ·rw[if_neg (by simpa using h2)]at h
   exact⟨fun s hs=>orL_zero h2 _ (List.mem_map_of_mem hs),fun t ht=>⟨orL_zero h1 _ (List.mem_map_of_mem ht),orL_zero h _ (List.mem_map_of_mem ht)⟩⟩
  ·rw[if_pos h2]at h;exact absurd h h2
 ·rw[if_pos h1]at h;exact absurd h h1
theorem argsR_1{e:Int}(h:e=0):argsR e=(th0,0):=by unfold argsR;rw[if_pos h]
theorem Binop_ok{s t:Ssequent}(h:GoodS s)(h':GoodS t)(f:Tm)(hf:bkT f<=SML)(hb:bkT s.concl+bkT t.concl+bkT f<=MID):∃ r q,equality_Binop f (thm0 s) (thm0 t)=some r/\ref08_Binop sg0 f s t=some q/\Mat r q:=by
 simp only[MID]at hb
 simp only[SML]at hf
 have hfB:bkT f<=BIG:=by simp only[BIG];omega
 have hL:∀ x∈[f],bkT x<=BIG:=fun x hx=>by rw[List.mem_singleton.1 hx];exact hfB
 have hS:∀ x∈[s,t],GoodS x:=fun x hx=>by
  rcases List.mem_cons.1 hx with rfl|hx
  ·exact h
  ·rw[List.mem_singleton.1 hx];exact h'
 rw[equality_Binop_eq,show [thm0 s,thm0 t]=[s,t].map thm0 from rfl,equality_start_ok [f] [s,t] hL hS (by simp) (by simp),Option.bind_some,ref08_Binop_eq,ref08_Args_ok sg0 [f] [s,t] (fun _=>rfl) hL hS,Option.bind_some,argsR_2]
 by_cases he:argsE [f] [s,t]=0
 ·obtain⟨gs,gf⟩:=argsE_all he
  obtain⟨g2,g3⟩:=gf f (by simp)
  obtain⟨u,kf,ff,tf⟩:=arg_good hfB g2 g3
  rw[decide_eq_true he,Bool.not_true,cond_false,cond_false,equality_equation_ok h,Option.bind_some,equality_equation_ok h',Option.bind_some,ref02_IsEq_ok _ (big_lim h.con.bk),Option.bind_some,ref02_IsEq_ok _ (big_lim h'.con.bk),Option.bind_some]
  unfold eqnE
  cases hq:isEqP s.concl with
  | none=>exact⟨_,_,rfl,rfl,mat_err (by decide) _⟩
  | some p =>
   cases hq':isEqP t.concl with
   | none=>exact⟨_,_,rfl,rfl,mat_err (by decide) _⟩
   | some p' =>
    obtain⟨l,r⟩:=p
    obtain⟨m,n⟩:=p'
    obtain⟨v,E⟩:=eqn_good h (gs s (by simp)) hq
    obtain⟨v',E'⟩:=eqn_good h' (gs t (by simp)) hq'
    have tl:=(errK_of E.kl).2.2
    have tm:=(errK_of E'.kl).2.2
    have bu:=tyOf_bk tf
    have bC:=E.bk
    have bC':=E'.bk
    simp only[sidesR,decide_true,Bool.not_true,cond_false,jn,ref08_Binop.j1]
    rw[equality_typeOf_ok f hfB,Option.bind_some,equality_typeOf_ok l E.kl.bk,Option.bind_some,tf,tl,Option.getD_some,Option.getD_some,equality_accepts_ok u v (by simp only[LIM];omega),Option.bind_some,
     Type_KT kf.fm hfB,Option.bind_some,Type_KT E.kl.fm E.kl.bk,Option.bind_some,ref08_takes_ok u v (by simp only[LIM];omega),Option.bind_some]
    cases ht:takesY u v with
    | mk w b =>
     cases b
     ·exact⟨_,_,rfl,rfl,mat_err (by decide) _⟩
     ·obtain rfl:=takes_true ht
      rw[bkY_fun]at bu
      simp only[Bool.not_true,cond_false]
      rw[equality_typeOf_ok m E'.kl.bk,Option.bind_some,tm,Option.getD_some,equality_accepts_ok w v' (by simp only[LIM];omega),Option.bind_some,Type_KT E'.kl.fm E'.kl.bk,Option.bind_some,ref08_takes_ok w v' (by simp only[LIM];omega),Option.bind_some]
      cases ht':takesY w v' with
      | mk z b =>
       cases b
       ·exact⟨_,_,rfl,rfl,mat_err (by decide) _⟩
       ·obtain rfl:=takes_true ht'
        rw[bkY_fun]at bu
        have r1:=engine_refl kf ff
        have sw:=ff.sh;have tw:=ff.ty
        rw[shapeY_fun,shapeY_fun]at sw;rw[szY_fun,szY_fun]at tw;simp at sw
        have hlen:=h.len
        have q1:=ff.sz;have q2:=E.fl.sz;have q3:=E.fr.sz;have q4:=E'.fl.sz;have q5:=E'.fr.sz
        have d1:=ff.dp;have d2:=E.fl.dp;have d3:=E.fr.dp;have d4:=E'.fl.dp;have d5:=E'.fr.dp
        have c1:=Comb_ok [] s.hyps s.hyps f f l r v (funY v' z) rfl h.st hlen (by omega) (by rw[bkY_fun];omega) (by omega) (by omega) (by rw[shapeY_fun];simp[sw]) (by rw[szY_fun];omega)
        rw[<-seq_eta s E.eq]at c1
        have hbk:bkT (eqnT (combT (combT f l) m) (combT (combT f r) n) z)<=LIM:=by rw[bkT_eqn,bkT_comb,bkT_comb,bkT_comb,bkT_comb];simp only[LIM];omega
        obtain⟨U,hU,c2⟩:=kernel_Comb_ok s.hyps t.hyps (combT f l) (combT f r) m n v' z hlen h'.len hbk
        rw[<-seq_eta t E'.eq,mkEq_ok (by rw[szT_comb,szT_comb,szT_comb,szT_comb];omega) (by rw[dpT_comb,dpT_comb];omega) (by rw[dpT_comb,dpT_comb];omega) sw.2.2 (by omega)]at c2
        have hfl:=fm_combT (fm_combT kf.fm E.kl.fm) E'.kl.fm
        refine⟨_,_,?_,?_,mat_set hU (unionL_set t.hyps s.hyps s.hyps h.set) (Cov.sub fun _ h=>h) (Cov.sub fun _ h=>h) (fun x hx=>?_) hbk⟩
        ·rw[argsR_1 he]
         simp only[Bool.not_true,cond_false,r1,Option.bind_some,c1,decide_true,c2]
        ·simp only[Bool.not_true,cond_false]
         rw[ref08_Union_ok _ _ (by have:=h'.len;omega) h.hb h'.hb,Option.bind_some]
         simp only[ref02_App_ok,Option.bind_some]
         rw[ref08_Equate_ok hfl (by rw[bkT_comb,bkT_comb];simp only[BIG];omega) (by simp only[BIG];omega),Option.bind_some,ref08_Done_all];rfl
        ·rcases List.mem_append.1 hx with hx|hx
         ·exact h.hb x hx
         ·exact h'.hb x hx
 ·rw[decide_eq_false he]
  exact⟨_,_,rfl,rfl,mat_err he _⟩
theorem ProveHyp_ok{s t:Ssequent}(h:GoodS s)(hsm:bkT s.concl<=MID)(h':GoodS t)(htm:bkT t.concl<=MID):∃ r q,equality_ProveHyp (thm0 s) (thm0 t)=some r/\ref08_ProveHyp s t=some q/\Mat r q:=by
 have hL:∀ x∈([]:List Tm),bkT x<=BIG:=fun x hx=>by cases hx
 have hS:∀ x∈[s,t],GoodS x:=fun x hx=>by
  rcases List.mem_cons.1 hx with rfl|hx
  ·exact h
  ·rw[List.mem_singleton.1 hx];exact h'
 rw[equality_ProveHyp_eq,show [thm0 s,thm0 t]=[s,t].map thm0 from rfl,equality_start_ok [] [s,t] hL hS (by simp) (by simp),Option.bind_some,ref08_ProveHyp_eq,ref08_Args_ok ⟨[],[]⟩ [] [s,t] (fun h=>(h rfl).elim) hL hS,Option.bind_some,argsR_2]
 by_cases he:argsE [] [s,t]=0
 ·obtain⟨gs,-⟩:=argsE_all he
  rw[decide_eq_true he,Bool.not_true,cond_false,cond_false]
  simp only[MID]at hsm htm
  have b0:bkY boolY=5:=rfl
  have hlen:=h.len
  have hlen':=h'.len
  have F:=fitB_of (fE_zero (gs s (by simp))) h.con.fm
  have F':=fitB_of (fE_zero (gs t (by simp))) h'.con.fm
  obtain⟨U,hU,e1⟩:=kernel_Deduct_ok s t hlen hlen' (by rw[bkT_eqn,b0];simp only[LIM];omega)
  rw[mkEq_ok (by have:=F.sz;have:=F'.sz;omega) (by have:=F.dp;omega) (by have:=F'.dp;omega) (by decide) (by decide)]at e1
  rw[e1,Option.bind_some,ref08_Without_ok _ _ (by omega) h'.hb,Option.bind_some]
  have hfl:=List.length_filter_le (nsame s.concl) t.hyps
  rw[ref08_Union_ok _ _ (by omega) h.hb (fun x hx=>h'.hb x (List.mem_filter.1 hx).1),Option.bind_some,ref08_Done_all]
  have hW:=unionL_set (t.hyps.filter (nsame s.concl)) s.hyps s.hyps h.set
  have hc:∀ x∈s.hyps.filter (nsame t.concl)++t.hyps.filter (nsame s.concl),x∈s.hyps++t.hyps.filter (nsame s.concl):=fun x hx=>by
   rcases List.mem_append.1 hx with hx|hx
   ·exact List.mem_append.2 (.inl (List.mem_filter.1 hx).1)
   ·exact List.mem_append.2 (.inr hx)
  by_cases h64:64<U.length
  ·refine⟨_,_,?_,rfl,mat_many hU.st hW.st ((Cov.sub fun x hx=>hc x (hU.mem x hx)).trans hW.cov) h64⟩
   unfold doneK
   rw[if_pos h64];rfl
  ·rw[doneK_ok (by omega)]
   simp only[decide_true,Bool.not_true,cond_false]
   obtain⟨V,hV,e2⟩:=kernel_EqMp_ok U s.concl t.concl boolY s (by omega) hlen
   rw[e2,cmpTm_refl,if_pos rfl]
   refine⟨_,_,rfl,rfl,mat_set hV hW (Cov.sub fun x hx=>?_) (fun x hx=>?_) (fun x hx=>?_) (big_lim h'.con.bk)⟩
   ·rcases List.mem_append.1 hx with hx|hx
    ·exact hc x (hU.mem x hx)
    ·exact List.mem_append.2 (.inl hx)
   ·rcases List.mem_append.1 hx with hx|hx
    ·exact⟨x,List.mem_append.2 (.inr hx),cmpTm_refl x⟩
    ·obtain⟨y,hy,e⟩:=hU.cov x (List.mem_append.2 (.inr hx))
     exact⟨y,List.mem_append.2 (.inl hy),e⟩
   ·rcases List.mem_append.1 hx with hx|hx
    ·rcases List.mem_append.1 (hc x (hU.mem x hx))with hx|hx
     ·exact h.hb x hx
     ·exact h'.hb x (List.mem_filter.1 hx).1
    ·exact h.hb x hx
 ·rw[decide_eq_false he]
  exact⟨_,_,rfl,rfl,mat_err he _⟩
end Go.Ab.X

set_option linter.all false
set_option maxRecDepth 100000
set_option maxHeartbeats 1000000
namespace Go.Ab.X
open Go.RowKit Go.Ab
def chk:Tm->List Ssequent->Bool
 | _,[]=>true
 | x,s::ss=>match isEqP s.concl with
  | some p=>decide (cmpTm p.1 x=0) && chk p.2 ss
  | none=>false
def lastOf:Tm->List Ssequent->Tm
 | x,[]=>x
 | x,s::ss=>match isEqP s.concl with
  | some p=>lastOf p.2 ss
  | none=>x
def allU:List Tm->List Ssequent->List Tm
 | w,[]=>w
 | w,s::ss=>allU (unionL w s.hyps) ss
def hypsL:List Ssequent->List Tm
 | []=>[]
 | s::ss=>s.hyps++hypsL ss
theorem allU_set:∀(ss:List Ssequent) (w l:List Tm),SetH w l->SetH (allU w ss) (l++hypsL ss)
 | [],w,l,h=>by simpa [allU,hypsL] using h
 | s::ss,w,l,h=>by
  have:=allU_set ss (unionL w s.hyps) (l++s.hyps) (unionL_set s.hyps w l h)
  simpa [allU,hypsL,List.append_assoc] using this
theorem hypsL_bk:∀(ss:List Ssequent),(∀ s∈ss,GoodS s)->∀ t∈hypsL ss,bkT t<=LIM
 | [],_,t,h=>by cases h
 | s::ss,hs,t,h=>by
  rcases List.mem_append.1 h with h|h
  ·exact(hs s (List.mem_cons_self ..)).hb t h
  ·exact hypsL_bk ss (fun x hx=>hs x (List.mem_cons_of_mem _ hx)) t h
structure Lnk(ss:List Ssequent):Prop where
 good:∀ s∈ss,GoodS s
 mid:∀ s∈ss,bkT s.concl<=MID
 fe:∀ s∈ss,fE s=0
theorem Lnk.tail{s:Ssequent}{ss:List Ssequent}(h:Lnk (s::ss)):Lnk ss:=
 ⟨fun x hx=>h.good x (List.mem_cons_of_mem _ hx),fun x hx=>h.mid x (List.mem_cons_of_mem _ hx),fun x hx=>h.fe x (List.mem_cons_of_mem _ hx)⟩
theorem Lnk.head{s:Ssequent}{ss:List Ssequent}(h:Lnk (s::ss)):GoodS s/\bkT s.concl<=MID/\fE s=0:=
 ⟨h.good s (List.mem_cons_self ..),h.mid s (List.mem_cons_self ..),h.fe s (List.mem_cons_self ..)⟩
theorem unionL_mem:∀(b a:List Tm),∀ x∈unionL a b,x∈a\/x∈b
 | [],a,x,h=>.inl h
 | y::b,a,x,h=>by
  rcases unionL_mem b (withL y a) x h with h|h
  ·rcases withL_mem y a x h with rfl|h
   ·exact .inr (List.mem_cons_self ..)
   ·exact .inl h
  ·exact .inr (List.mem_cons_of_mem _ h)
theorem get_app{α:Type}{l A B:List α}{x:α}(h:l=A++x::B):l[A.length]? = some x:=by rw[h];simp
theorem snoc_len{α:Type}(A:List α)(x:α):((A.length:Int)+1)=(((A++[x]).length:Nat):Int):=by simp
theorem chain_s1(x1:List Sthm)(l:List Ssequent):∀(B A:List Ssequent) (last:Tm),l=A++B->Lnk B ->
  ∀ r,(chk last B=true->LT (equality_Chain.s1 (l.map thm0) x1) ((l.length:Int),noThm,lastOf last B) r)->(chk last B=false->r=some (noThm,50))->LT (equality_Chain.s1 (l.map thm0) x1) ((A.length:Int),noThm,last) r
 | [],A,last,hA,_,r,h1,_=>by
  rw[List.append_nil]at hA
  subst hA
  exact h1 rfl
 | s::B,A,last,hA,hl,r,h1,h2=>by
  obtain⟨hg,hm,hf⟩:=hl.head
  have hx:(l.map thm0)[A.length]? = some (thm0 s):=by rw[List.getElem?_map,get_app hA];rfl
  have hq:=equality_equation_ok hg
  unfold eqnE at hq
  cases hc:isEqP s.concl with
  | none =>
   rw[hc]at hq
   rw[h2 (by simp[chk,hc])]
   refine .last fun next=>?_
   simp only[equality_Chain.s1,dlt hx,cond_true,ixg,hx,Option.bind_some,hq];rfl
  | some p =>
   rw[hc]at hq
   by_cases hs:cmpTm p.1 last=0
   ·refine .next (s':=(((A++[s]).length:Int),noThm,p.2)) (fun next=>?_) (chain_s1 x1 l B (A++[s]) p.2 (by rw[hA];simp) hl.tail r (fun h=>?_) (fun h=>?_))
    ·simp only[equality_Chain.s1,dlt hx,cond_true,ixg,hx,Option.bind_some,hq,terms_Same_ok,hs,decide_true,Bool.not_true,cond_false,<-snoc_len]
    ·have:=h1 (by simp[chk,hc,hs,h])
     simpa [lastOf,hc] using this
    ·exact h2 (by simp[chk,hc,hs,h])
   ·rw[h2 (by simp[chk,hc,hs])]
    refine .last fun next=>?_
    simp only[equality_Chain.s1,dlt hx,cond_true,ixg,hx,Option.bind_some,hq,terms_Same_ok,hs,decide_true,decide_false,Bool.not_true,Bool.not_false,cond_false,cond_true];rfl
theorem chain_s2(l:List Ssequent)(first:Tm)(v:Ty)(F:Fit' first v)(hbf:bkT first+2 * bkY v<=MID)(M W:List Tm)(hW:SetH W M)(hMb:∀ t∈M,bkT t<=LIM):∀(B A:List Ssequent) (last:Tm) (H L:List Tm),l=A++B->Lnk B->chk last B=true->SetH H L->H.length<=64->L++hypsL B=M->bkT last<=MID ->
  ∃ r,LT (equality_Chain.s2 (l.map thm0)) ((A.length:Int),noThm,thm0 ⟨H,eqnT first last v⟩) (some r)/\Mat r (doneR W (eqnT first (lastOf last B) v))
 | [],A,last,H,L,hA,_,_,hH,h64,hM,hb=>by
  rw[List.append_nil]at hA
  subst hA
  rw[hypsL,List.append_nil]at hM
  subst hM
  simp only[MID]at hbf hb
  refine⟨(thm0 ⟨H,eqnT first last v⟩,0),.last fun next=>?_,?_⟩
  ·have e:decide (((l.length:Nat):Int)<((l.map thm0).length:Int))=false:=decide_eq_false (by simp)
   simp only[equality_Chain.s2,e,cond_false]
  ·have:=mat_set (c:=eqnT first last v) hH hW (Cov.sub fun _ h=>h) (Cov.sub fun _ h=>h) hMb (by rw[bkT_eqn];simp only[LIM];omega)
   rw[doneK_ok h64]at this
   exact this
 | s::B,A,last,H,L,hA,hl,hc,hH,h64,hM,hb=>by
  obtain⟨hg,hm,hf⟩:=hl.head
  have hx:(l.map thm0)[A.length]? = some (thm0 s):=by rw[List.getElem?_map,get_app hA];rfl
  cases hq:isEqP s.concl with
  | none=>simp[chk,hq]at hc
  | some p =>
   obtain⟨m,n⟩:=p
   simp[chk,hq]at hc
   obtain⟨w,E⟩:=eqn_good hg hf hq
   have hbk:=E.bk
   have hbf':=hbf
   have q1:=F.sz;have q2:=F.dp;have q3:=E.fr.sz;have q4:=E.fr.dp
   simp only[MID]at hm hbf'
   obtain⟨u,hu,e⟩:=kernel_Trans_ok H first last v s m n w E.eq h64 hg.len (sameT_symm hc.1) (by rw[bkT_eqn];simp only[LIM];omega)
   rw[mkEq_ok (by omega) (by omega) (by omega) F.sh F.ty]at e
   have hL:SetH u (L++s.hyps):=⟨hu.st,(fun x hx=>by
    rcases List.mem_append.1 (hu.mem x hx)with h|h
    ·exact List.mem_append.2 (.inl (hH.mem x h))
    ·exact List.mem_append.2 (.inr h)),(fun x hx=>by
    rcases List.mem_append.1 hx with h|h
    ·obtain⟨y,hy,e⟩:=hH.cov x h
     obtain⟨z,hz,e'⟩:=hu.cov y (List.mem_append.2 (.inl hy))
     exact⟨z,hz,sameT_trans e e'⟩
    ·exact hu.cov x (List.mem_append.2 (.inr h))),by have:=hu.len;have:=hH.len;simp only[List.length_append]at *;omega⟩
   rw[hypsL,<-List.append_assoc]at hM
   have el:lastOf last (s::B)=lastOf n B:=by simp[lastOf,hq]
   rw[el]
   by_cases h64':64<u.length
   ·refine⟨(noThm,4),.last fun next=>?_,mat_many hL.st hW.st ((Cov.sub fun x hx=>?_).trans hW.cov) h64'⟩
    ·simp only[equality_Chain.s2,dlt hx,cond_true,ixg,hx,Option.bind_some,e,doneK,if_pos h64'];rfl
    ·rw[<-hM];exact List.mem_append.2 (.inl (hL.mem x hx))
   ·rw[doneK_ok (by omega)]at e
    obtain⟨r,h1,h2⟩:=chain_s2 l first v F hbf M W hW hMb B (A++[s]) n u (L++s.hyps) (by rw[hA];simp) hl.tail hc.2 hL (by omega) hM (by simp only[MID];omega)
    refine⟨r,.next (fun next=>?_) h1,h2⟩
    simp only[equality_Chain.s2,dlt hx,cond_true,ixg,hx,Option.bind_some,e,decide_true,Bool.not_true,cond_false,<-snoc_len]
theorem rchain_s1(l:List Ssequent)(first r0:Tm)(v:Ty)(hf1:fm first []=some v)(hbf:bkT first<=BIG)(hbv:bkY v<=BIG):∀(B A:List Ssequent) (last:Tm) (W:List Tm),l=A++B->Lnk B->W.length+64 * B.length<=2 ^ 29->(∀ t∈W,bkT t<=LIM) ->
  LT (ref08_Chain.s1 l (first,r0,true)) (W,(A.length:Int),zeroS,last) (some (if chk last B=true then doneR (allU W B) (eqnT first (lastOf last B) v)else(zeroS,50)))
 | [],A,last,W,hA,_,_,_=>by
  rw[List.append_nil]at hA
  subst hA
  refine .last fun next=>?_
  simp only[ref08_Chain.s1,dle,cond_false]
  rw[ref08_Equate_ok hf1 hbf hbv,Option.bind_some,ref08_Done_all];rfl
 | s::B,A,last,W,hA,hl,hW,hWb=>by
  obtain⟨hg,hm,hf⟩:=hl.head
  have hx:=get_app hA
  have hlen:=hg.len
  simp only[List.length_cons]at hW
  have hq:=ref02_IsEq_ok s.concl (big_lim hg.con.bk)
  cases hc:isEqP s.concl with
  | none =>
   rw[hc]at hq
   refine .last fun next=>?_
   simp only[ref08_Chain.s1,jn,dlt hx,cond_true,ixg,hx,Option.bind_some,hq,sidesR,Bool.not_false,ref08_Chain.j2]
   rw[if_neg (by simp[chk,hc])];rfl
  | some p =>
   rw[hc]at hq
   have hbp:=(isEqP_bk (l:=p.1) (r:=p.2) hc)
   have hcb:=hg.con.bk
   have h2:=ref02_Same_ok p.1 last (by simp only[BIG]at hcb;simp only[LIM];omega)
   by_cases hs:cmpTm p.1 last=0
   ·have ih:=rchain_s1 l first r0 v hf1 hbf hbv B (A++[s]) p.2 (unionL W s.hyps) (by rw[hA];simp) hl.tail (by have:=unionL_len s.hyps W;omega) (fun t ht=>?_)
    ·refine .next (s':=(unionL W s.hyps,((A++[s]).length:Int),zeroS,p.2)) (fun next=>?_) ?_
     ·simp only[ref08_Chain.s1,jn,dlt hx,cond_true,ixg,hx,Option.bind_some,hq,sidesR,Bool.not_true,cond_false,h2,hs,decide_true,ref08_Chain.j2]
      rw[ref08_Union_ok _ _ (by omega) hWb hg.hb,Option.bind_some,<-snoc_len]
     ·simpa [chk,hc,hs,allU,lastOf] using ih
    ·rcases unionL_mem s.hyps W t ht with h|h
     ·exact hWb t h
     ·exact hg.hb t h
   ·refine .last fun next=>?_
    simp only[ref08_Chain.s1,jn,dlt hx,cond_true,ixg,hx,Option.bind_some,hq,sidesR,Bool.not_true,cond_false,h2,hs,decide_false,Bool.not_false,ref08_Chain.j2]
    rw[if_neg (by simp[chk,hc,hs])];rfl
theorem ixh{α:Type}(a:α)(l:List α):ixL (a::l) 0=some a:=rfl
theorem slc_tail{α:Type}(a:α)(l:List α):slcL (a::l) 1 ((a::l).length:Int) ((a::l).length:Int)=some l:=by
 unfold slcL
 rw[if_pos (by simp;omega)]
 simp
theorem Chain_ok(s:Ssequent)(ss:List Ssequent)(hs:∀ x∈s::ss,GoodS x)(hm:∀ x∈s::ss,bkT x.concl<=MID)(hn:ss.length<=2 ^ 18):∃ r q,equality_Chain ((s::ss).map thm0)=some r/\ref08_Chain (s::ss)=some q/\Mat r q:=by
 have hL:∀ x∈([]:List Tm),bkT x<=BIG:=fun x hx=>by cases hx
 have hn':(s::ss).length<=2 ^ 20:=by simp only[List.length_cons];omega
 have h:=hs s (List.mem_cons_self ..)
 rw[equality_Chain_eq,equality_start_ok [] (s::ss) hL hs (by simp) hn',Option.bind_some,ref08_Chain_eq,ref08_Args_ok ⟨[],[]⟩ [] (s::ss) (fun h=>(h rfl).elim) hL hs,Option.bind_some,argsR_2,
  show decide ((((s::ss).map thm0).length:Int)=0)=false from decide_eq_false (by simp;omega),show decide (((s::ss).length:Int)=0)=false from decide_eq_false (by simp;omega),cond_false,cond_false]
 by_cases he:argsE [] (s::ss)=0
 ·obtain⟨gs,-⟩:=argsE_all he
  have hlnk:Lnk (s::ss):=⟨hs,hm,gs⟩
  rw[decide_eq_true he,Bool.not_true,cond_false,cond_false,List.map_cons]
  simp only[ixh,Option.bind_some]
  rw[equality_equation_ok h,Option.bind_some,ref02_IsEq_ok _ (big_lim h.con.bk),Option.bind_some]
  unfold eqnE
  cases hq:isEqP s.concl with
  | none=>exact⟨_,_,rfl,rfl,mat_err (by decide) _⟩
  | some p =>
   obtain⟨l,r⟩:=p
   obtain⟨v,E⟩:=eqn_good h (gs s (List.mem_cons_self ..)) hq
   have bC:=E.bk
   have hm0:=hm s (List.mem_cons_self ..)
   simp only[MID]at hm0
   have hlen:=h.len
   simp only[sidesR,decide_true,Bool.not_true,cond_false]
   rw[slc_tail,Option.bind_some]
   have R:=(rchain_s1 (s::ss) l r v E.kl.fm E.kl.bk (by simp only[BIG];omega) ss [s] r s.hyps rfl hlnk.tail (by omega) h.hb).eq
   have hW:=allU_set ss s.hyps s.hyps h.set
   by_cases hk:chk r ss=true
   ·rw[if_pos hk]at R
    obtain⟨q,h1,h2⟩:=chain_s2 ss l v E.fl (by simp only[MID];omega) (s.hyps++hypsL ss) (allU s.hyps ss) hW (fun t ht=>hypsL_bk (s::ss) hs t ht) ss [] r s.hyps s.hyps rfl hlnk.tail hk h.set hlen rfl (by simp only[MID];omega)
    refine⟨q,_,(chain_s1 (thm0 s::ss.map thm0) ss ss [] r rfl hlnk.tail (some q) (fun _=>.last fun next=>?_) (fun h=>by rw[hk]at h;cases h)).eq,R,h2⟩
    have e:decide (((ss.length:Nat):Int)<((ss.map thm0).length:Int))=false:=decide_eq_false (by simp)
    simp only[equality_Chain.s1,e,cond_false,ixh,Option.bind_some]
    rw[slc_tail,Option.bind_some]
    have h1':=h1.eq
    rw[<-seq_eta s E.eq]at h1'
    exact h1'
   ·rw[if_neg hk]at R
    refine⟨(noThm,50),_,(chain_s1 (thm0 s::ss.map thm0) ss ss [] r rfl hlnk.tail (some (noThm,50)) (fun h=>absurd h hk) (fun _=>rfl)).eq,R,mat_err (by decide) _⟩
 ·rw[decide_eq_false he]
  exact⟨_,_,rfl,rfl,mat_err he _⟩
end Go.Ab.X

set_option linter.all false
set_option maxRecDepth 100000
set_option maxHeartbeats 1000000
namespace Go.Ab.X
open Go.RowKit Go.Ab
theorem stated_ok{s:Ssequent}(h:GoodS s):law08_stated (thm0 s)=some (s,th0):=by rw[law08_stated_eq,h.seq,Option.bind_some,kernel_Of_ok];rfl
theorem Made_small(s:Ssequent)(h:bkS s<=2 ^ 21):(∃ a,law08_Made th0 s=some (a,false))\/(∃ s',law08_Made th0 s=some (thm0 s',true)/\GoodS s'/\bkT s'.concl<=14 * bkS s+5):=by
 simp only[bkS]at h ⊢
 rcases Made_ok s (fun t ht=>by have:=bkTs_mem ht;simp only[SML];omega) (by omega)with h1|⟨s',h1,h2,h3⟩
 ·exact .inl h1
 ·exact .inr ⟨s',h1,h2,by omega⟩
theorem Great_small(s:Ssequent)(h:bkS s<=2 ^ 21)(hf:∀ x∈s.hyps,fitT x)(hc:fitT s.concl):∃ b,ref08_Great s=some b:=by
 simp only[bkS]at h
 have:=len_bkTs s.hyps
 exact ref08_Great_ok s hf hc (fun x hx=>by have:=bkTs_mem hx;simp only[LIM];omega) (by simp only[LIM];omega) (by simp only[LIM];omega)
theorem law08J_ok(x1:Tm)(x2 x3 x4:Ssequent)(hb:bkT x1+bkS x2+bkS x3+bkS x4<=2 ^ 21)(f1:fitT x1)
  (f2:∀ x∈x2.hyps,fitT x) (f2c:fitT x2.concl) (f3:∀ x∈x3.hyps,fitT x) (f3c:fitT x3.concl) (f4:∀ x∈x4.hyps,fitT x) (f4c:fitT x4.concl):law08_EqualityJoins x1 x2 x3 x4=some true:=by
 have b1:bkT x1<=BIG:=by simp only[BIG];omega
 have main:law08_EqualityJoins.j1 x2 x3 x4 x1 false=some true:=by
  simp only[law08_EqualityJoins.j1,cond_false,kernel_Initial_ok,Option.bind_some]
  have two:∀ r6 r7 r8 r9,law08_EqualityJoins.j2 r6 r7 r8 r9 x1 true=some true:=fun _ _ _ _=>rfl
  rcases Made_small x2 (by omega)with⟨a,ha⟩|⟨s,ha,hs,hsm⟩<;>rcases Made_small x3 (by omega)with⟨b,hb⟩|⟨t,hb,ht,htm⟩<;>rcases Made_small x4 (by omega)with⟨c,hc⟩|⟨u,hc,hu,hum⟩ <;>
   simp only[ha,hb,hc,Option.bind_some,jn,Bool.not_true,Bool.not_false,cond_true,cond_false,two]
  obtain⟨r1,q1,e1,e2,m1⟩:=Binop_ok hs ht x1 (by simp only[SML];omega) (by simp only[MID];omega)
  obtain⟨r2,q2,e3,e4,m2⟩:=Chain_ok s [t,u] (fun x hx=>by simp at hx;rcases hx with rfl|rfl|rfl<;>assumption) (fun x hx=>by simp at hx;simp only[MID];rcases hx with rfl|rfl|rfl<;>omega) (by simp)
  obtain⟨r3,q3,e5,e6,m3⟩:=ProveHyp_ok hs (by simp only[MID];omega) ht (by simp only[MID];omega)
  obtain⟨r4,q4,e7,e8,m4⟩:=Chain_ok s [] (fun x hx=>by simp at hx;subst hx;assumption) (fun x hx=>by simp at hx;subst hx;simp only[MID];omega) (by simp)
  simp only[List.map_cons,List.map_nil]at e3 e7
  unfold Mat at m1 m2 m3 m4
  simp only[law08_EqualityJoins.j2,cond_false,kernel_Signature_ok,Option.bind_some,stated_ok hs,stated_ok ht,stated_ok hu,e1,e2,e3,e4,e5,e6,e7,e8,m1,m2,m3,m4,cond_true]
 have j1:∀ b,law08_EqualityJoins.j1 x2 x3 x4 x1 b=some true:=fun b=>by
  cases b
  ·exact main
  ·rfl
 obtain⟨c2,hc2⟩:=Great_small x2 (by omega) f2 f2c
 obtain⟨c3,hc3⟩:=Great_small x3 (by omega) f3 f3c
 obtain⟨c4,hc4⟩:=Great_small x4 (by omega) f4 f4c
 rw[law08_EqualityJoins_eq]
 simp only[jn,hc2,hc3,hc4,ref02_Great_ok x1 f1 (big_lim b1),Option.bind_some,j1]
 cases c2<;>cases c3<;>cases c4<;>rfl
end Go.Ab.X
