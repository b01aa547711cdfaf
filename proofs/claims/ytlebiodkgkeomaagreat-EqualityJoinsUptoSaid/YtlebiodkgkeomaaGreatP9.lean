/- A part of the proof: P9. -/
import Derived.Test.YtlebiodkgkeomaaGreatP8
set_option linter.all false
set_option linter.all false
set_option maxRecDepth 100000
set_option maxHeartbeats 1000000
namespace Go.Ab.X
open Go.RowKit Go.Ab
mutual
def thinB:Tm->List Ty->Bool
 | .mk k n y i s,l=>thinBs s (if k=5 then y::l else l) && decide (szY ((fm (.mk k n y i s) l).getD zeroY)<=100)
def thinBs:List Tm->List Ty->Bool
 | [],_=>true
 | t::s,l=>thinB t l && thinBs s l
end
theorem thinB_eq(t:Tm)(l:List Ty):thinB t l=(thinBs t.s (if t.k=5 then t.y::l else l) && decide (szY ((fm t l).getD zeroY)<=100)):=by cases t;rw[thinB];rfl
theorem bkL_rev:∀ l:List Ty,bkL l.reverse=bkL l:=by
 intro l
 induction l with
 | nil=>rfl
 | cons x l ih=>rw[List.reverse_cons,hbl',ih];simp only[bkL];omega
theorem size_dec(u:Ty):decide ((szY u:Int)<=100)=decide (szY u<=100):=by congr 1;exact propext (by omega)
theorem fmRel_if{o:Option (Ty×Bool)}{u:Ty}{b:Bool}(h:o=some (u,b)):fmRel o (if b=true then some u else none):=by
 subst h
 cases b
 ·exact fmRel_none _
 ·exact fmRel_some _
theorem thin_ok:∀(t:Tm) (o:List Ty) (u:Ty),fm t o.reverse=some u->bkT t * 6+bkL o<=2 ^ 30->o.length+dpT t<=2 ^ 30->fmRel (equality_thin t o) (if thinB t o.reverse=true then some u else none):=by
 refine Tm.ind fun t ih0 o u hf hb hl=>?_
 have hbe:=bkT_eq t
 have hde:=dpT_eq t
 have hub:=fm_bk (dpT t) t o.reverse u (Nat.le_refl _) hf
 rw[bkL_rev]at hub
 have last:∀ z:Ty,equality_thin.j1 (z,u)=some (u,decide (szY u<=100)):=by
  intro z
  simp only[equality_thin.j1,types_Size_ok u (by simp only[LIM];omega),Option.bind_some,size_dec]
 rw[equality_thin_eq,thinB_eq,hf,Option.getD_some]
 simp only[jn]
 rcases fm_kind hf with hk|hk|hk|hk|hk
 ·obtain⟨c1,_,_,_,c5⟩:=fm_const hf (.inr hk)
  subst c1
  simp only[hk,show decide ((1:Int)=3)=false from rfl,show decide ((1:Int)=4)=false from rfl,show decide ((1:Int)=5)=false from rfl,cond_false,c5,thinBs,Bool.true_and]
  exact fmRel_if (last _)
 ·obtain⟨c1,_,_,_,c5⟩:=fm_const hf (.inl hk)
  subst c1
  simp only[hk,show decide ((2:Int)=3)=false from rfl,show decide ((2:Int)=4)=false from rfl,show decide ((2:Int)=5)=false from rfl,cond_false,c5,thinBs,Bool.true_and]
  exact fmRel_if (last _)
 ·obtain⟨c1,_,_,c4,c5⟩:=fm_bound hf hk
  have hlt:t.i.toNat<o.length:=by
   have:=(List.getElem?_eq_some_iff.1 c1).1
   simpa using this
  have e:o.reverse[t.i.toNat]? = o[o.length-1-t.i.toNat]?:=by rw[List.getElem?_reverse (by omega)]
  have ei:(o.length:Int)-1-t.i=((o.length-1-t.i.toNat:Nat):Int):=by omega
  rw[e]at c1
  simp only[hk,decide_true,cond_true,c4,thinBs,Bool.true_and]
  rw[wr (n:=(o.length:Int)-1) (by omega) (by omega),wr (by omega) (by omega),ei,ixL_nat,c1,Option.bind_some]
  exact fmRel_if (last _)
 ·obtain⟨f,x,a,rfl,hff,hfx⟩:=comb_eq hf hk
  have hmf:f∈(combT f x).s:=by simp[combT,Tm.s]
  have hmx:x∈(combT f x).s:=by simp[combT,Tm.s]
  have s1:=bkT_sub hmf;have s2:=bkT_sub hmx;have s3:=dpT_sub hmf;have s4:=dpT_sub hmx
  have hbf:=fm_bk (dpT f) f o.reverse _ (Nat.le_refl _) hff
  rw[bkL_rev]at hbf
  have kf:=fmRel_at (ih0 f hmf o _ hff (by omega) (by omega))
  have kx:=fmRel_at (ih0 x hmx o _ hfx (by omega) (by omega))
  simp only[show(combT f x).k=4 from rfl,show decide ((4:Int)=3)=false from rfl,decide_true,cond_true,cond_false,show(combT f x).s=[f,x]from rfl,ix0,ix1,Option.bind_some,show ¬ ((4:Int)=5) by decide,if_false,thinBs,Bool.and_true]
  rcases kf with⟨h1,w,h2⟩|⟨w,h1,h2⟩
  ·have:thinB f o.reverse=false:=by
    cases h:thinB f o.reverse
    ·rfl
    ·rw[h]at h1;cases h1
   rw[h2,this]
   exact fmRel_none _
  ·have ht:thinB f o.reverse=true/\w=funY a u:=by
    cases h:thinB f o.reverse
    ·rw[h]at h1;cases h1
    ·rw[h]at h1;cases h1;exact⟨rfl,rfl⟩
   obtain⟨ht,rfl⟩:=ht
   rw[h2,ht]
   simp only[Option.bind_some,Bool.not_true,cond_false,Bool.true_and]
   rcases kx with⟨h3,w,h4⟩|⟨w,h3,h4⟩
   ·have:thinB x o.reverse=false:=by
     cases h:thinB x o.reverse
     ·rfl
     ·rw[h]at h3;cases h3
    rw[h4,this]
    exact fmRel_none _
   ·have hx:thinB x o.reverse=true:=by
     cases h:thinB x o.reverse
     ·rw[h]at h3;cases h3
     ·rfl
    rw[h4,hx,types_DestFun_ok _ (by simp only[LIM];omega),funP_fun]
    simp only[Option.bind_some,Bool.not_true,cond_false,Bool.true_and]
    exact fmRel_if (last _)
 ·obtain⟨b,v,hs,_,_,_,hfb,hu,_⟩:=fm_abs hf hk
  have hmb:b∈t.s:=by rw[hs];simp
  have s1:=bkT_sub hmb;have s2:=dpT_sub hmb;have s0:=bkTs_mem hmb
  have hbb:=fm_bk (dpT b) b _ _ (Nat.le_refl _) hfb
  simp only[bkL,bkL_rev]at hbb
  have kb:=fmRel_at (ih0 b hmb (o++[t.y]) v (by rw[List.reverse_append];exact hfb) (by rw[hbl'];omega) (by simp;omega))
  rw[List.reverse_append]at kb
  simp only[List.reverse_cons,List.reverse_nil,List.nil_append,List.cons_append]at kb
  have elim:o.length+List.length [t.y]<=LIM:=by simp only[LIM,List.length_cons,List.length_nil];omega
  have sl:slcT o (o.length:Int) (o.length:Int)=some o:=by unfold slcT;rw[if_pos ⟨by omega,rfl,by omega⟩];simp
  simp only[hk,show decide ((5:Int)=3)=false from rfl,show decide ((5:Int)=4)=false from rfl,decide_true,cond_true,cond_false,hs,show ixL [b] 0=some b from rfl,Option.bind_some,sl,elim,if_true,thinBs,Bool.and_true]
  rcases kb with⟨h1,w,h2⟩|⟨w,h1,h2⟩
  ·have:thinB b (t.y::o.reverse)=false:=by
    cases h:thinB b (t.y::o.reverse)
    ·rfl
    ·rw[h]at h1;cases h1
   rw[h2,this]
   exact fmRel_none _
  ·have ht:thinB b (t.y::o.reverse)=true/\w=v:=by
    cases h:thinB b (t.y::o.reverse)
    ·rw[h]at h1;cases h1
    ·rw[h]at h1;cases h1;exact⟨rfl,rfl⟩
   obtain⟨ht,rfl⟩:=ht
   rw[h2,ht]
   simp only[Option.bind_some,Bool.not_true,cond_false,Bool.true_and,types_Fun_ok t.y w (by simp only[LIM];omega) (by simp only[LIM];omega)]
   rw[<-hu]
   exact fmRel_if (last _)
theorem rthin_ok:∀(t:Tm) (o:List Ty) (u:Ty),fm t o=some u->bkT t * 6+bkL o<=2 ^ 30->o.length+dpT t<=2 ^ 30->fmRel (ref08_thin t o) (if thinB t o=true then some u else none):=by
 refine Tm.ind fun t ih0 o u hf hb hl=>?_
 have hbe:=bkT_eq t
 have hde:=dpT_eq t
 have hub:=fm_bk (dpT t) t o u (Nat.le_refl _) hf
 have last:∀ z:Ty,ref08_thin.j1 (z,u)=some (u,decide (szY u<=100)):=by
  intro z
  simp only[ref08_thin.j1,ref01_Size_ok u (by simp only[LIM];omega),Option.bind_some,size_dec]
 rw[ref08_thin_eq,thinB_eq,hf,Option.getD_some]
 simp only[jn]
 rcases fm_kind hf with hk|hk|hk|hk|hk
 ·obtain⟨c1,_,_,_,c5⟩:=fm_const hf (.inr hk)
  subst c1
  simp only[hk,show decide ((1:Int)=3)=false from rfl,show decide ((1:Int)=4)=false from rfl,show decide ((1:Int)=5)=false from rfl,cond_false,c5,thinBs,Bool.true_and]
  exact fmRel_if (last _)
 ·obtain⟨c1,_,_,_,c5⟩:=fm_const hf (.inl hk)
  subst c1
  simp only[hk,show decide ((2:Int)=3)=false from rfl,show decide ((2:Int)=4)=false from rfl,show decide ((2:Int)=5)=false from rfl,cond_false,c5,thinBs,Bool.true_and]
  exact fmRel_if (last _)
 ·obtain⟨c1,_,_,c4,c5⟩:=fm_bound hf hk
  have ei:t.i=((t.i.toNat:Nat):Int):=by omega
  simp only[hk,decide_true,cond_true,c4,thinBs,Bool.true_and]
  rw[ei,ixL_nat,c1,Option.bind_some]
  exact fmRel_if (last _)
 ·obtain⟨f,x,a,rfl,hff,hfx⟩:=comb_eq hf hk
  have hmf:f∈(combT f x).s:=by simp[combT,Tm.s]
  have hmx:x∈(combT f x).s:=by simp[combT,Tm.s]
  have s1:=bkT_sub hmf;have s2:=bkT_sub hmx;have s3:=dpT_sub hmf;have s4:=dpT_sub hmx
  have kf:=fmRel_at (ih0 f hmf o _ hff (by omega) (by omega))
  have kx:=fmRel_at (ih0 x hmx o _ hfx (by omega) (by omega))
  simp only[show(combT f x).k=4 from rfl,show decide ((4:Int)=3)=false from rfl,decide_true,cond_true,cond_false,show(combT f x).s=[f,x]from rfl,ix0,ix1,Option.bind_some,show ¬ ((4:Int)=5) by decide,if_false,thinBs,Bool.and_true]
  rcases kf with⟨h1,w,h2⟩|⟨w,h1,h2⟩
  ·have:thinB f o=false:=by
    cases h:thinB f o
    ·rfl
    ·rw[h]at h1;cases h1
   rw[h2,this]
   rcases kx with⟨h3,w,h4⟩|⟨w,h3,h4⟩<;>rw[h4]<;>exact fmRel_none _
  ·have ht:thinB f o=true/\w=funY a u:=by
    cases h:thinB f o
    ·rw[h]at h1;cases h1
    ·rw[h]at h1;cases h1;exact⟨rfl,rfl⟩
   obtain⟨ht,rfl⟩:=ht
   rw[h2,ht]
   simp only[Option.bind_some,Bool.not_true,cond_false,Bool.true_and]
   rcases kx with⟨h3,w,h4⟩|⟨w,h3,h4⟩
   ·have:thinB x o=false:=by
     cases h:thinB x o
     ·rfl
     ·rw[h]at h3;cases h3
    rw[h4,this]
    exact fmRel_none _
   ·have hx:thinB x o=true:=by
     cases h:thinB x o
     ·rw[h]at h3;cases h3
     ·rfl
    rw[h4,hx]
    simp only[Option.bind_some,Bool.not_true,ref08_thin.j2,cond_false,Bool.true_and,show(funY a u).a=[a,u]from rfl,ix1]
    exact fmRel_if (last _)
 ·obtain⟨b,v,hs,_,_,_,hfb,hu,_⟩:=fm_abs hf hk
  have hmb:b∈t.s:=by rw[hs];simp
  have s1:=bkT_sub hmb;have s2:=dpT_sub hmb;have s0:=bkTs_mem hmb
  have hbb:=fm_bk (dpT b) b _ _ (Nat.le_refl _) hfb
  simp only[bkL]at hbb
  have kb:=fmRel_at (ih0 b hmb (t.y::o) v hfb (by simp only[bkL];omega) (by simp;omega))
  have elim:List.length [t.y]+o.length<=LIM:=by simp only[LIM,List.length_cons,List.length_nil];omega
  simp only[hk,show decide ((5:Int)=3)=false from rfl,show decide ((5:Int)=4)=false from rfl,decide_true,cond_true,cond_false,hs,show ixL [b] 0=some b from rfl,Option.bind_some,elim,if_true,thinBs,Bool.and_true,List.cons_append,List.nil_append]
  rcases kb with⟨h1,w,h2⟩|⟨w,h1,h2⟩
  ·have:thinB b (t.y::o)=false:=by
    cases h:thinB b (t.y::o)
    ·rfl
    ·rw[h]at h1;cases h1
   rw[h2,this]
   exact fmRel_none _
  ·have ht:thinB b (t.y::o)=true/\w=v:=by
    cases h:thinB b (t.y::o)
    ·rw[h]at h1;cases h1
    ·rw[h]at h1;cases h1;exact⟨rfl,rfl⟩
   obtain⟨ht,rfl⟩:=ht
   rw[h2,ht]
   simp only[Option.bind_some,Bool.not_true,cond_false,Bool.true_and,ref01_Fun_ok t.y w (by simp only[LIM];omega) (by simp only[LIM];omega)]
   rw[<-hu]
   exact fmRel_if (last _)
def fitB(t:Tm):Bool:=decide (szT t<=2000) && (decide (dpT t<=100) && thinB t [])
theorem equality_fits_ok(t:Tm){u:Ty}(hf:fm t []=some u)(hb:bkT t<=BIG):equality_fits t=some (fitB t):=by
 have hb':=hb
 simp only[BIG]at hb'
 have hd:=Nat.le_trans (Nat.le_trans (dpT_le t) (szT_bk t)) hb'
 have k0:fmRel (equality_thin t []) (if thinB t []=true then some u else none):=thin_ok t [] u hf (by simp only[bkL];omega) (by simp only[List.length_nil];omega)
 have k:=fmRel_at k0
 have k1:(equality_thin t []).bind (fun r=>some r.2)=some (thinB t []):=by
  rcases k with⟨h1,w,h2⟩|⟨w,h1,h2⟩<;>rw[h2]<;>cases h:thinB t []<;>rw[h]at h1<;>first|rfl|cases h1
 rw[equality_fits_eq]
 simp only[jn,terms_Size_ok t (big_lim hb),equality_depth_ok t (big_lim hb),Option.bind_some,equality_fits.j1,k1]
 unfold fitB
 by_cases h1:szT t<=2000
 ·rw[decide_eq_false (show ¬ (2000:Int)<(szT t:Int) by omega),cond_false,decide_eq_true h1,Bool.true_and]
  by_cases h2:dpT t<=100
  ·rw[decide_eq_false (show ¬ (100:Int)<(dpT t:Int) by omega),cond_false,decide_eq_true h2,Bool.true_and]
  ·rw[decide_eq_true (show(100:Int)<(dpT t:Int) by omega),cond_true,decide_eq_false h2,Bool.false_and]
 ·rw[decide_eq_true (show(2000:Int)<(szT t:Int) by omega),cond_true,decide_eq_false h1,Bool.false_and];rfl
theorem ref08_Fits_ok(t:Tm){u:Ty}(hf:fm t []=some u)(hb:bkT t<=BIG):ref08_Fits t=some (fitB t):=by
 have hb':=hb
 simp only[BIG]at hb'
 have hd:=Nat.le_trans (Nat.le_trans (dpT_le t) (szT_bk t)) hb'
 have k:=fmRel_at (rthin_ok t [] u hf (by simp only[bkL];omega) (by simp only[List.length_nil];omega))
 have k1:(ref08_thin t []).bind (fun r=>some r.2)=some (thinB t []):=by
  rcases k with⟨h1,w,h2⟩|⟨w,h1,h2⟩<;>rw[h2]<;>cases h:thinB t []<;>rw[h]at h1<;>first|rfl|cases h1
 rw[ref08_Fits_eq]
 simp only[jn,ref02_Size_ok t (big_lim hb),ref02_Depth_ok t (big_lim hb),Option.bind_some,ref08_Fits.j1,k1]
 unfold fitB
 by_cases h1:szT t<=2000
 ·rw[decide_eq_false (show ¬ (2000:Int)<(szT t:Int) by omega),cond_false,decide_eq_true h1,Bool.true_and]
  by_cases h2:dpT t<=100
  ·rw[decide_eq_false (show ¬ (100:Int)<(dpT t:Int) by omega),cond_false,decide_eq_true h2,Bool.true_and]
  ·rw[decide_eq_true (show(100:Int)<(dpT t:Int) by omega),cond_true,decide_eq_false h2,Bool.false_and]
 ·rw[decide_eq_true (show(2000:Int)<(szT t:Int) by omega),cond_true,decide_eq_false h1,Bool.false_and];rfl
end Go.Ab.X

set_option linter.all false
set_option maxRecDepth 100000
set_option maxHeartbeats 1000000
namespace Go.Ab.X
open Go.RowKit Go.Ab
structure GoodS(s:Ssequent):Prop where
 con:KT BIG s.concl boolY
 hyp:∀ h∈s.hyps,KT BIG h boolY
 st:s.hyps.Pairwise ltT
 len:s.hyps.length<=64
def fitsS(s:Ssequent):Bool:=s.hyps.all fitB && fitB s.concl
theorem all_at{l:List Tm}{i:Nat}{x:Tm}(h:l[i]? = some x):(l.drop i).all fitB=(fitB x && (l.drop (i+1)).all fitB):=by
 obtain⟨h1,rfl⟩:=List.getElem?_eq_some_iff.1 h
 rw[List.drop_eq_getElem_cons h1];rfl
theorem ctE_ok'(t:Tm)(h:chkT t=0):∃ u,fm t []=some u:=by
 obtain⟨u,_,h,_⟩:=chk_fm h;exact⟨u,h⟩
def ctE(t:Tm):Int:=if chkT t=0 then(if fitB t=true then 0 else 21)else chkT t
theorem equality_CheckTerm_ok(t:Tm)(hb:bkT t<=BIG):equality_CheckTerm t=some (ctE t):=by
 rw[equality_CheckTerm_eq,terms_Check_ok t hb,Option.bind_some]
 unfold ctE
 by_cases h:chkT t=0
 ·obtain⟨u,hf⟩:=ctE_ok' t h
  rw[if_pos h,decide_eq_true h,Bool.not_true,cond_false,equality_fits_ok t hf hb,Option.bind_some]
  cases fitB t<;>rfl
 ·rw[if_neg h,decide_eq_false h];rfl
theorem ref08_CheckTerm_ok(t:Tm)(hb:bkT t<=BIG):ref08_CheckTerm t=some (ctE t):=by
 rw[ref08_CheckTerm_eq,ref02_Check_ok t hb,Option.bind_some]
 unfold ctE
 simp only[jn]
 by_cases h:chkT t=0
 ·obtain⟨u,hf⟩:=ctE_ok' t h
  rw[if_pos h,decide_eq_true h,cond_true,ref08_Fits_ok t hf hb,Option.bind_some,h]
  cases fitB t<;>rfl
 ·rw[if_neg h,decide_eq_false h];rfl
def fE(s:Ssequent):Int:=if fitsS s=true then 0 else 21
theorem GoodS.bks{s:Ssequent}(h:GoodS s):s.hyps.length<=LIM/\(∀ t∈s.hyps,bkT t<=LIM)/\bkT s.concl<=LIM:=
 ⟨by have:=h.len;simp only[LIM];omega,fun t ht=>big_lim (h.hyp t ht).bk,big_lim h.con.bk⟩
theorem GoodS.seq{s:Ssequent}(h:GoodS s):kernel_Sequent (thm0 s)=some (s,0):=by
 obtain⟨h1,h2,h3⟩:=h.bks
 exact kernel_Sequent_ok s h1 h2 h3
theorem equality_CheckThm_ok{s:Ssequent}(h:GoodS s):equality_CheckThm (thm0 s)=some (fE s):=by
 rw[equality_CheckThm_eq,h.seq,Option.bind_some]
 simp only[decide_true,Bool.not_true,cond_false]
 refine LT.inv (T:=Unit) s.hyps (fun i _=>(i:Int)) (fun i _=>(s.hyps.drop i).all fitB=s.hyps.all fitB) ?_ ?_ (t0:=()) rfl
 ·intro i x _ hx hp
  rw[all_at hx]at hp
  have hm:=List.mem_of_getElem? hx
  simp only[equality_CheckThm.s1,dlt hx,ixg,hx,Option.bind_some,cond_true,equality_fits_ok x (h.hyp x hm).fm (h.hyp x hm).bk]
  cases hc:fitB x
  ·rw[hc]at hp
   refine .inr fun next=>?_
   rw[fE,fitsS,<-hp];rfl
  ·rw[hc]at hp
   exact .inl ⟨(),fun next=>by simp only[Bool.not_true,cond_false,inc_nat],by simpa using hp⟩
 ·intro _ hp next
  simp only[equality_CheckThm.s1,dle,cond_false,equality_fits_ok _ h.con.fm h.con.bk,Option.bind_some]
  rw[List.drop_length]at hp
  rw[fE,fitsS,<-hp]
  cases fitB s.concl<;>rfl
theorem ref08_FitsSequent_ok{s:Ssequent}(h:GoodS s):ref08_FitsSequent s=some (fitsS s):=by
 rw[ref08_FitsSequent_eq]
 refine LT.inv (T:=Unit) s.hyps (fun i _=>(i:Int)) (fun i _=>(s.hyps.drop i).all fitB=s.hyps.all fitB) ?_ ?_ (t0:=()) rfl
 ·intro i x _ hx hp
  rw[all_at hx]at hp
  have hm:=List.mem_of_getElem? hx
  simp only[ref08_FitsSequent.s1,dlt hx,ixg,hx,Option.bind_some,cond_true,ref08_Fits_ok x (h.hyp x hm).fm (h.hyp x hm).bk]
  cases hc:fitB x
  ·rw[hc]at hp
   refine .inr fun next=>?_
   rw[fitsS,<-hp];rfl
  ·rw[hc]at hp
   exact .inl ⟨(),fun next=>by simp only[Bool.not_true,cond_false,inc_nat],by simpa using hp⟩
 ·intro _ hp next
  simp only[ref08_FitsSequent.s1,dle,cond_false,ref08_Fits_ok _ h.con.fm h.con.bk,Option.bind_some]
  rw[List.drop_length]at hp
  rw[fitsS,<-hp];rfl
theorem Larger_ok(n:Nat)(hn:n<=2 ^ 30):equality_Larger (List.replicate (n+1) th0)=some (th0,0):=by
 rw[equality_Larger_eq,decide_eq_false (by simp;omega),cond_false]
 refine LT.inv (T:=Unit) (List.replicate (n+1) th0) (fun i _=>((i:Int),Stheory.mk none)) (fun _ _=>True) ?_ ?_ (t0:=()) trivial
 ·intro i x _ hx _
  have:x=th0:=(List.mem_replicate.1 (List.mem_of_getElem? hx)).2
  subst this
  refine .inl ⟨(),fun next=>?_,trivial⟩
  simp only[equality_Larger.s1,dlt hx,ixg,hx,Option.bind_some,cond_true,kernel_Extends_ok,decide_true,Bool.not_true,cond_false,inc_nat]
 ·intro _ _ next
  have sl:slcL (List.replicate (n+1) th0) 1 ((List.replicate (n+1) th0).length:Int) ((List.replicate (n+1) th0).length:Int)=some (List.replicate n th0):=by
   unfold slcL
   rw[if_pos (by simp;omega)]
   simp
  simp only[equality_Larger.s1,dle,cond_false,sl,Option.bind_some,show ixL (List.replicate (n+1) th0) 0=some th0 from rfl]
  refine LT.inv (T:=Unit) (List.replicate n th0) (fun i _=>((i:Int),Stheory.mk none,th0)) (fun _ _=>True) ?_ ?_ (t0:=()) trivial
  ·intro i x _ hx _
   have:x=th0:=(List.mem_replicate.1 (List.mem_of_getElem? hx)).2
   subst this
   refine .inl ⟨(),fun next=>?_,trivial⟩
   simp only[equality_Larger.s2,dlt hx,ixg,hx,Option.bind_some,cond_true,jn,kernel_Extends_ok,decide_true,equality_Larger.j4,equality_Larger.j3,inc_nat]
  ·intro _ _ next
   simp only[equality_Larger.s2,dle,cond_false]
def ifE(a b:Int):Int:=if a≠0 then a else b
def sgE(t:Tm):Int:=if errK t=40 then 40 else 0
def argsE(l:List Tm)(ss:List Ssequent):Int:=ifE (orL (l.map ctE)) (ifE (orL (ss.map fE)) (orL (l.map sgE)))
theorem map_at{α:Type}{f:α->Int}{l:List α}{i:Nat}{x:α}(h:l[i]? = some x):orL ((l.map f).drop i)=if f x≠0 then f x else orL ((l.map f).drop (i+1)):=
 orL_at _ i _ (by rw[List.getElem?_map,h];rfl)
theorem LT.err{α S R:Type}{step:S->(S->Option R)->Option R}(l:List α)(mk:Nat->S)(f:α->Int)(g:Int->Option R)(z:Option R)
  (h1:∀ i a,l[i]? = some a->∀ next,step (mk i) next=if f a≠0 then g (f a)else next (mk (i+1))) (h2:orL (l.map f)=0->∀ next,step (mk l.length) next=z) :
  loopN step (mk 0)=if orL (l.map f)≠0 then g (orL (l.map f))else z:=by
 refine LT.inv (T:=Unit) l (fun i _=>mk i) (fun i _=>orL ((l.map f).drop i)=orL (l.map f)) ?_ ?_ (t0:=()) rfl
 ·intro i x _ hx hp
  rw[map_at hx]at hp
  by_cases hc:f x=0
  ·rw[if_neg (by simpa using hc)]at hp
   exact .inl ⟨(),fun next=>by rw[h1 i x hx,if_neg (by simpa using hc)],hp⟩
  ·rw[if_pos hc]at hp
   exact .inr fun next=>by rw[h1 i x hx,if_pos hc,<-hp,if_pos hc]
 ·intro _ hp next
  rw[show(l.map f).drop l.length=[]from by rw[<-List.length_map (f:=f),List.drop_length]]at hp
  have h0:orL (l.map f)=0:=hp.symm
  rw[h2 h0,h0];rfl
theorem sgE_code{t:Tm}(hb:bkT t<=BIG)(hc:ctE t=0):∃ q:Sthm×Int,kernel_Refl th0 t=some q/\(decide (q.2=40)=decide (sgE t≠0)):=by
 have hk:chkT t=0:=by unfold ctE at hc;split at hc<;>assumption
 obtain⟨u,hu,hf,_⟩:=chk_fm hk
 have hbu:=tyOf_bk hu
 refine⟨_,kernel_Refl_ok t hb (fun v hv=>?_),?_⟩
 ·rw[hu]at hv;cases hv
  rw[eqnT,bkT_comb,bkT_comb,bkT_eqC]
  simp only[BIG]at hb
  simp only[LIM];omega
 ·unfold sgE errK
  rw[if_pos hk]
  cases holdsT t
  ·rfl
  ·simp only[if_true,show ¬ ((0:Int)=40) by decide,if_false]
   have:∀ e:Tm×Int,(e.2=0\/e.2=20\/e.2=21)->decide ((if e.2=0 then(thm0 ⟨[],e.1⟩,(0:Int))else(noThm,e.2)).2=40)=decide ((0:Int)≠0):=by
    rintro e (h|h|h)<;>rw[h]<;>rfl
   refine this _ ?_
   unfold mkEq
   cases smallT (eqnT t t ((tyOf t).getD zeroY))<;>cases validY (funY ((tyOf t).getD zeroY) (funY ((tyOf t).getD zeroY) boolY))<;>simp
theorem orL_zero{l:List Int}(h:orL l=0):∀ x∈l,x=0:=by
 induction l with
 | nil=>intro x hx;cases hx
 | cons a l ih =>
  intro x hx
  unfold orL at h
  by_cases ha:a=0
  ·rw[if_neg (by simpa using ha)]at h
   rcases List.mem_cons.1 hx with rfl|hx
   ·exact ha
   ·exact ih h x hx
  ·rw[if_pos ha]at h;exact absurd h ha
def argsR(e:Int):Stheory×Int:=if e=0 then(th0,0)else(⟨none⟩,e)
theorem equality_Args_ok(l:List Tm)(ss:List Ssequent)(hl:∀ t∈l,bkT t<=BIG)(hs:∀ s∈ss,GoodS s)(h0:0<ss.length)(h1:ss.length<=2 ^ 20):equality_Args l [] (ss.map thm0) th0=some (argsR (argsE l ss)):=by
 have k3:orL (l.map ctE)=0->loopN (equality_Args.s5 l (th0,0)) (0,⟨none⟩)=some (argsR (orL (l.map sgE))):=by
  intro hz
  have hz':=orL_zero hz
  have:=LT.err (step:=equality_Args.s5 l (th0,0)) l (fun i=>((i:Int),Stheory.mk none)) sgE (fun e=>some (⟨none⟩,e)) (some (th0,0)) (fun i t ht next=>by
   have hm:=List.mem_of_getElem? ht
   obtain⟨q,hq,hd⟩:=sgE_code (hl t hm) (hz' _ (List.mem_map_of_mem hm))
   simp only[equality_Args.s5,dlt ht,ixg,ht,Option.bind_some,cond_true,hq,hd,inc_nat]
   unfold sgE
   by_cases h:errK t=40<;>simp[h]) (fun _ next=>by simp only[equality_Args.s5,dle,cond_false])
  refine this.trans ?_
  unfold argsR
  by_cases h:orL (l.map sgE)=0<;>simp[h]
 have k2:orL (l.map ctE)=0->loopN (equality_Args.s3 (ss.map thm0) th0 l) (0,⟨none⟩,[])=some (argsR (ifE (orL (ss.map fE)) (orL (l.map sgE)))):=by
  intro hz
  have:=LT.err (step:=equality_Args.s3 (ss.map thm0) th0 l) ss (fun i=>((i:Int),Stheory.mk none,List.replicate i th0)) fE (fun e=>some (⟨none⟩,e)) (some (argsR (orL (l.map sgE)))) (fun i t ht next=>by
   have hm:=List.mem_of_getElem? ht
   have ht':(ss.map thm0)[i]? = some (thm0 t):=by rw[List.getElem?_map,ht];rfl
   have hi:=(List.getElem?_eq_some_iff.1 ht).1
   simp only[equality_Args.s3,dlt ht',ixg,ht',Option.bind_some,cond_true,equality_CheckThm_ok (hs t hm),kernel_Of_ok]
   by_cases h:fE t=0
   ·simp only[h,decide_true,Bool.not_true,cond_false,ne_eq,not_true,if_false]
    rw[if_pos (by simp[LIM];omega),inc_nat,List.replicate_succ']
   ·simp only[h,decide_false,Bool.not_false,cond_true,ne_eq,not_false_eq_true,if_true]) (fun _ next=>by
   obtain⟨n,hn⟩:∃ n,ss.length=n+1:=⟨ss.length-1,by omega⟩
   have e:decide (((ss.length:Nat):Int)<((ss.map thm0).length:Int))=false:=decide_eq_false (by simp)
   simp only[equality_Args.s3,e,cond_false]
   rw[hn]
   simp only[Larger_ok n (by omega),Option.bind_some,decide_true,Bool.not_true,kernel_Extends_ok,jn,equality_Args.j4]
   exact k3 hz)
  refine this.trans ?_
  unfold ifE
  by_cases h:orL (ss.map fE)=0
  ·simp[h]
  ·simp[h,argsR]
 rw[equality_Args_eq]
 have:=LT.err (step:=equality_Args.s1 l [] (ss.map thm0) th0) l (fun i=>((i:Int),Stheory.mk none)) ctE (fun e=>some (⟨none⟩,e)) (some (argsR (ifE (orL (ss.map fE)) (orL (l.map sgE))))) (fun i t ht next=>by
  have hm:=List.mem_of_getElem? ht
  simp only[equality_Args.s1,dlt ht,ixg,ht,Option.bind_some,cond_true,equality_CheckTerm_ok t (hl t hm)]
  by_cases h:ctE t=0
  ·simp only[h,decide_true,Bool.not_true,cond_false,ne_eq,not_true,if_false,inc_nat]
  ·simp only[h,decide_false,Bool.not_false,cond_true,ne_eq,not_false_eq_true,if_true]) (fun hz next=>by
  simp only[equality_Args.s1,dle,cond_false]
  refine LT.eq (LT.last fun next=>?_)
  simp only[equality_Args.s2,List.length_nil,show decide ((0:Int)<((0:Nat):Int))=false from rfl,cond_false]
  rw[if_pos (by simp[LIM])]
  exact k2 hz)
 refine this.trans ?_
 unfold argsE
 by_cases h:orL (l.map ctE)=0
 ·simp[h,ifE]
 ·simp[h,argsR,ifE]
theorem ref08_Args_ok(sg:Ssignature)(l:List Tm)(ss:List Ssequent)(hsg:l≠[]->sg=sg0)(hl:∀ t∈l,bkT t<=BIG)(hs:∀ s∈ss,GoodS s):ref08_Args sg l ss=some (argsE l ss):=by
 have k3:orL (l.map ctE)=0->loopN (ref08_Args.s3 l sg) 0=some (orL (l.map sgE)):=by
  intro hz
  have hz':=orL_zero hz
  have:=LT.err (step:=ref08_Args.s3 l sg) l (fun i=>(i:Int)) sgE (fun e=>some e) (some 0) (fun i t ht next=>by
   have hm:=List.mem_of_getElem? ht
   have hne:l≠[]:=fun e=>by rw[e]at hm;cases hm
   have hk:chkT t=0:=by have:=hz' _ (List.mem_map_of_mem (f:=ctE) hm);unfold ctE at this;split at this<;>assumption
   rw[hsg hne]
   simp only[ref08_Args.s3,dlt ht,ixg,ht,Option.bind_some,cond_true,ref04_Term_ok t (hl t hm),inc_nat]
   unfold sgE errK
   rw[if_pos hk]
   cases holdsT t<;>rfl) (fun _ next=>by simp only[ref08_Args.s3,dle,cond_false])
  refine this.trans ?_
  by_cases h:orL (l.map sgE)=0<;>simp[h]
 have k2:orL (l.map ctE)=0->loopN (ref08_Args.s2 ss l sg) 0=some (ifE (orL (ss.map fE)) (orL (l.map sgE))):=by
  intro hz
  have:=LT.err (step:=ref08_Args.s2 ss l sg) ss (fun i=>(i:Int)) fE (fun e=>some e) (some (orL (l.map sgE))) (fun i t ht next=>by
   have hm:=List.mem_of_getElem? ht
   simp only[ref08_Args.s2,dlt ht,ixg,ht,Option.bind_some,cond_true,ref08_FitsSequent_ok (hs t hm),inc_nat]
   unfold fE
   cases fitsS t<;>rfl) (fun _ next=>by simp only[ref08_Args.s2,dle,cond_false];exact k3 hz)
  refine this.trans ?_
  unfold ifE
  by_cases h:orL (ss.map fE)=0<;>simp[h]
 rw[ref08_Args_eq]
 have:=LT.err (step:=ref08_Args.s1 l ss sg) l (fun i=>(i:Int)) ctE (fun e=>some e) (some (ifE (orL (ss.map fE)) (orL (l.map sgE)))) (fun i t ht next=>by
  have hm:=List.mem_of_getElem? ht
  simp only[ref08_Args.s1,dlt ht,ixg,ht,Option.bind_some,cond_true,ref08_CheckTerm_ok t (hl t hm),inc_nat]
  by_cases h:ctE t=0
  ·simp only[h,decide_true,Bool.not_true,cond_false,ne_eq,not_true,if_false]
  ·simp only[h,decide_false,Bool.not_false,cond_true,ne_eq,not_false_eq_true,if_true]) (fun hz next=>by
  simp only[ref08_Args.s1,dle,cond_false];exact k2 hz)
 refine this.trans ?_
 unfold argsE
 by_cases h:orL (l.map ctE)=0<;>simp[h,ifE]
theorem equality_start_ok(l:List Tm)(ss:List Ssequent)(hl:∀ t∈l,bkT t<=BIG)(hs:∀ s∈ss,GoodS s)(h0:0<ss.length)(h1:ss.length<=2 ^ 20):equality_start l (ss.map thm0)=some (⟨(argsR (argsE l ss)).1⟩,(argsR (argsE l ss)).2):=by
 rw[equality_start_eq,kernel_Initial_ok,Option.bind_some,equality_Args_ok l ss hl hs h0 h1];rfl
end Go.Ab.X
