/- A part of the proof: QN. -/
import Derived.Test.YtlebiodkgkeomaaGreatP4
set_option linter.all false
set_option linter.all false
set_option maxRecDepth 100000
set_option maxHeartbeats 1000000
namespace Go.Ab.X
open Go.RowKit Go.Ab
theorem sameDecl_0:kernel_sameDecl nd0.decl nd0.decl=some true:=by
 rw[kernel_sameDecl_eq,types_Same_ok,cmpTy_self]
 have h:EqualFunc_Sequent nd0.decl.seqs nd0.decl.seqs 176=some true:=by
  rw[EqualFunc_Sequent_eq]
  exact(LT.last fun next=>rfl).eq
 rw[h];rfl
theorem neO_0:neO (Option.map C_node (some nd0)) (Option.map C_node (some nd0))=false:=by rfl
theorem kernel_extends_ok:kernel_extends (some nd0) (some nd0)=some true:=by
 rw[kernel_extends_eq]
 have h:loopN (kernel_extends.s3) (some nd0,some nd0)=some true:=by
  refine LT.eq (LT.last fun next=>?_)
  simp only[kernel_extends.s3]
  rw[neO_0]
  refine agree_of ?_ rfl
  simp only[jn,Option.bind_some,decide_true,Bool.not_true,cond_false,sameDecl_0]
  rfl
 refine LT.eq (LT.last fun next=>?_)
 simp only[kernel_extends.s1,jn,kernel_extends.j2,Option.bind_some,Option.isSome_some,cond_true,h]
 rfl
theorem zero_th2(a b:Nnode):kernel_zero_Theory [⟨some a⟩,⟨some b⟩]=some false:=by
 have h:Index_Theory [⟨some a⟩,⟨some b⟩] ⟨none⟩=some (-1):=by
  rw[Index_Theory_eq]
  exact LT.eq (LT.next (s':=1) (fun next=>rfl) (LT.next (s':=2) (fun next=>rfl) (LT.last fun next=>rfl)))
 rw[kernel_zero_Theory_eq,Contains_Theory_eq,h];rfl
theorem kernel_Extends_ok:kernel_Extends th0 th0=some (true,0):=by
 rw[kernel_Extends_eq,show [th0,th0]=[⟨some nd0⟩,⟨some nd0⟩]from rfl,zero_th2,Option.bind_some,cond_false,show th0.node=some nd0 from rfl,kernel_extends_ok];rfl
theorem kernel_related_ok(s q:Ssequent):kernel_related (thm0 s) (thm0 q)=some (some nd0,0):=by
 rw[kernel_related_eq,zero_thm2,Option.bind_some,cond_false,show(thm0 s).node=some nd0 from rfl,show(thm0 q).node=some nd0 from rfl,kernel_extends_ok];rfl
theorem kernel_Of_ok(s:Ssequent):kernel_Of (thm0 s)=some (th0,0):=by
 rw[kernel_Of_eq,zero_thm];rfl
theorem chk_fm{t:Tm}(h:chkT t=0):∃ u,tyOf t=some u/\fm t []=some u/\smallT t=true:=by
 unfold chkT at h
 split at h
 ·rename_i hs
  split at h
  ·rename_i hf
   obtain⟨u,hu⟩:=Option.isSome_iff_exists.1 hf
   exact⟨u,by unfold tyOf;rw[if_pos hs,hu],hu,hs⟩
  ·cases h
 ·cases h
theorem chk_of{t:Tm}{u:Ty}(hs:smallT t=true)(hu:fm t []=some u):chkT t=0/\tyOf t=some u:=by
 unfold chkT tyOf
 rw[if_pos hs,if_pos hs,hu]
 exact⟨rfl,rfl⟩
structure KT(B:Nat)(t:Tm)(u:Ty):Prop where
 fm:fm t []=some u
 sm:smallT t=true
 ho:holdsT t=true
 bk:bkT t<=B
theorem zero_th1:kernel_zero_Theory [th0]=some false:=zero_th _
def errK(t:Tm):Int:=if chkT t=0 then(if holdsT t=true then 0 else 40)else chkT t
def knownK(t:Tm):Ty×Int:=if chkT t=0 then((tyOf t).getD zeroY,errK t)else(zeroY,chkT t)
theorem kernel_known_ok(t:Tm)(hb:bkT t<=BIG):kernel_known th0 t=some (knownK t):=by
 rw[kernel_known_eq,terms_TypeOf_ok t hb,Option.bind_some]
 unfold knownK errK
 by_cases h:chkT t=0
 ·obtain⟨u,_,hf,_⟩:=chk_fm h
  simp only[h,decide_true,Bool.not_true,cond_false,zero_th1,Option.bind_some,if_true]
  rw[show th0.node=some nd0 from rfl,kernel_over_ok t (big_lim hb) hf];rfl
 ·simp only[h,decide_false,Bool.not_false,cond_true,if_false];rfl
theorem kernel_term_ok(t:Tm)(hb:bkT t<=BIG):kernel_term th0 t=some (errK t):=by
 rw[kernel_term_eq,kernel_known_ok t hb,Option.bind_some]
 unfold knownK errK
 by_cases h:chkT t=0
 ·simp only[h,if_true]
 ·simp only[h,if_false]
theorem errK_zero{t:Tm}(h:errK t=0)(hb:bkT t<=BIG):∃ u,KT BIG t u/\tyOf t=some u/\chkT t=0:=by
 unfold errK at h
 by_cases hc:chkT t=0
 ·rw[if_pos hc]at h
  obtain⟨u,h1,h2,h3⟩:=chk_fm hc
  refine⟨u,⟨h2,h3,?_,hb⟩,h1,hc⟩
  cases hh:holdsT t
  ·rw[hh]at h;cases h
  ·rfl
 ·rw[if_neg hc]at h;exact absurd h hc
theorem errK_of{t:Tm}{B:Nat}{u:Ty}(h:KT B t u):errK t=0/\chkT t=0/\tyOf t=some u:=by
 obtain⟨h1,h2⟩:=chk_of h.sm h.fm
 exact⟨by unfold errK;rw[if_pos h1,if_pos h.ho],h1,h2⟩
theorem kernel_isBool_ok(t:Tm)(hb:bkT t<=BIG):kernel_isBool t=some (decide (cmpTy ((tyOf t).getD zeroY) boolY=0)):=by
 rw[kernel_isBool_eq,terms_TypeOf_ok t hb,Option.bind_some,types_Bool_ok,Option.bind_some,types_Same_ok];rfl
def noThm:Sthm:=⟨none,none⟩
theorem kernel_Assume_ok(t:Tm)(hb:bkT t<=BIG):(∃ e,kernel_Assume th0 t=some (noThm,e)/\e≠0)\/(kernel_Assume th0 t=some (thm0 ⟨[t],t⟩,0)/\KT BIG t boolY):=by
 rw[kernel_Assume_eq,kernel_term_ok t hb,Option.bind_some]
 by_cases h:errK t=0
 ·obtain⟨u,hk,ht,hc⟩:=errK_zero h hb
  simp only[h,decide_true,Bool.not_true,cond_false,kernel_isBool_ok t hb,Option.bind_some,ht,Option.getD_some]
  by_cases hu:cmpTy u boolY=0
  ·have:=(cmpTy_iff _ _).1 hu
   subst this
   right
   refine⟨?_,hk⟩
   simp only[hu,decide_true,Bool.not_true,cond_false,terms_Twin_ok t (big_lim hb),Option.bind_some,kernel_theorem_eq]
   rfl
  ·left
   refine⟨50,?_,by decide⟩
   simp only[hu,decide_false,Bool.not_false,cond_true];rfl
 ·left
  refine⟨errK t,?_,h⟩
  simp only[h,decide_false,Bool.not_false,cond_true];rfl
theorem kernel_Refl_ok(t:Tm)(hb:bkT t<=BIG)(hb2:∀ u,tyOf t=some u->bkT (eqnT t t u)<=LIM):kernel_Refl th0 t=some (if errK t=0 then(if(mkEq t t ((tyOf t).getD zeroY)).2=0 then(thm0 ⟨[],(mkEq t t ((tyOf t).getD zeroY)).1⟩,0)else(noThm,(mkEq t t ((tyOf t).getD zeroY)).2))else(noThm,errK t)):=by
 rw[kernel_Refl_eq,kernel_known_ok t hb,Option.bind_some]
 by_cases h:errK t=0
 ·obtain⟨u,hk,ht,hc⟩:=errK_zero h hb
  have e:knownK t=(u,0):=by unfold knownK;rw[if_pos hc,ht,h];rfl
  rw[e,if_pos h,ht,Option.getD_some]
  simp only[decide_true,Bool.not_true,cond_false,terms_Twin_ok t (big_lim hb),Option.bind_some,kernel_equation_ok t t u (hb2 u ht)]
  by_cases h2:(mkEq t t u).2=0
  ·simp only[h2,decide_true,Bool.not_true,cond_false,kernel_theorem_eq,Option.bind_some,if_true];rfl
  ·simp only[h2,decide_false,Bool.not_false,cond_true,if_false];rfl
 ·have e:∃ y,knownK t=(y,errK t):=by
   unfold knownK
   by_cases hc:chkT t=0
   ·rw[if_pos hc];exact⟨_,rfl⟩
   ·rw[if_neg hc];exact⟨zeroY,by unfold errK;rw[if_neg hc]⟩
  obtain⟨y,e⟩:=e
  rw[e,if_neg h]
  simp only[h,decide_false,Bool.not_false,cond_true];rfl
theorem sg0_twin:signature_Twin sg0=some sg0:=by
 have h1:Clone_TypeOp sg0.types=some sg0.types:=by rw[Clone_TypeOp_eq];rfl
 have h2:Clone_Consto sg0.consts=some sg0.consts:=by rw[Clone_Consto_eq];rfl
 rw[signature_Twin_eq,h1,Option.bind_some,h2,Option.bind_some]
 refine LT.eq (LT.next (s':=(1,sg0.consts)) (fun next=>?_) (LT.last fun next=>rfl))
 have e0:sg0.consts[Int.toNat 0]? = some ⟨⟨#[61]⟩,eqY⟩:=rfl
 simp only[signature_Twin.s1,show decide ((0:Int)<(sg0.consts.length:Int))=true from rfl,cond_true,e0,Option.bind_some,types_Twin_ok eqY (by rw[bk_eqY];simp[LIM])]
 rfl
theorem kernel_twin_ok(s:Ssequent)(hl:s.hyps.length<=LIM)(hh:∀ t∈s.hyps,bkT t<=LIM)(hc:bkT s.concl<=LIM):kernel_twin s=some s:=by
 rw[kernel_twin_eq]
 refine LT.inv (T:=Unit) s.hyps (fun i _=>((i:Int),zeroT,s.hyps.take i)) (fun _ _=>True) ?_ ?_ (t0:=()) trivial
 ·intro i x _ hx _
  refine .inl ⟨(),fun next=>?_,trivial⟩
  simp only[kernel_twin.s1,dlt hx,ixg,hx,Option.bind_some,cond_true,terms_Twin_ok x (hh x (List.mem_of_getElem? hx))]
  rw[if_pos (len_snoc hx hl),take_snoc hx,inc_nat]
 ·intro _ _ next
  simp only[kernel_twin.s1,dle,cond_false,terms_Twin_ok _ hc,Option.bind_some,List.take_length]
theorem kernel_Sequent_ok(s:Ssequent)(hl:s.hyps.length<=LIM)(hh:∀ t∈s.hyps,bkT t<=LIM)(hc:bkT s.concl<=LIM):kernel_Sequent (thm0 s)=some (s,0):=by
 rw[kernel_Sequent_eq,zero_thm,Option.bind_some,cond_false,show(thm0 s).seq=some s from rfl,Option.bind_some,kernel_twin_ok s hl hh hc];rfl
theorem kernel_Sequent_none:kernel_Sequent noThm=some (⟨[],zeroT⟩,52):=by
 rw[kernel_Sequent_eq,show [noThm]=[⟨none,none⟩]from rfl,zero_thm_none];rfl
theorem kernel_Signature_ok:kernel_Signature th0=some (sg0,0):=by
 rw[kernel_Signature_eq,zero_th1,Option.bind_some,cond_false,show th0.node=some nd0 from rfl,Option.bind_some,show nd0.sig=sg0 from rfl,sg0_twin];rfl
theorem kernel_done_ok(l:List Tm)(c:Tm)(e:Int):kernel_done (some nd0) l c e=some (if 64<l.length then(noThm,4)else if e=0 then(thm0 ⟨l,c⟩,0)else(noThm,e)):=by
 rw[kernel_done_eq]
 by_cases h:64<l.length
 ·rw[if_pos h,show decide ((64:Int)<(l.length:Int))=true from decide_eq_true (by omega)];rfl
 ·rw[if_neg h,show decide ((64:Int)<(l.length:Int))=false from decide_eq_false (by omega)]
  by_cases he:e=0
  ·rw[if_pos he];simp only[he,decide_true,Bool.not_true,cond_false,kernel_theorem_eq];rfl
  ·rw[if_neg he];simp only[he,decide_false,Bool.not_false,cond_true];rfl
end Go.Ab.X
