/- A part of the proof: AbD. -/
import Derived.Test.YtgkiahgcgjigkaaDoorAbC
set_option linter.all false
set_option linter.unusedVariables false
namespace Go.Ab
open Go.RowKit
theorem addB(B o j:Nat):(⟨B,o,none⟩:Addr).add j=⟨B,o+j,none⟩:=by
 unfold Addr.add
 split<;>simp_all
section
variable {I:Addr->Prop} {θ:Nat->Option Value} {w:World} {P:Program}
theorem RVs_length:∀ {xs:List AV} {vs:List Value},RVs I θ w xs vs->vs.length=xs.length
 | [],_,h=>by simp only[RVs]at h;subst h;rfl
 | c::cs,_,h=>by
  simp only[RVs]at h
  obtain⟨v,r,rfl,_,h2⟩:=h
  simp[RVs_length h2]
theorem RVs_get:∀ {xs:List AV} {vs:List Value},RVs I θ w xs vs->∀(j:Nat) (x:AV),xs[j]? = some x->∃ v,vs[j]? = some v/\RV I θ w x v
 | [],_,h,j,x,hj=>by simp at hj
 | c::cs,_,h,j,x,hj=>by
  simp only[RVs]at h
  obtain⟨v,r,rfl,h1,h2⟩:=h
  cases j with
  | zero=>simp at hj;subst hj;exact⟨v,rfl,h1⟩
  | succ j=>simpa using RVs_get h2 j x (by simpa using hj)
theorem RVs_take:∀ {xs:List AV} {vs:List Value},RVs I θ w xs vs->∀ n,RVs I θ w (xs.take n) (vs.take n)
 | [],_,h,n=>by simp only[RVs]at h;subst h;simp[RVs]
 | c::cs,_,h,n=>by
  simp only[RVs]at h
  obtain⟨v,r,rfl,h1,h2⟩:=h
  cases n with
  | zero=>simp[RVs]
  | succ n=>simp only[List.take_succ_cons,RVs];exact⟨v,_,rfl,h1,RVs_take h2 n⟩
theorem RVs_drop:∀ {xs:List AV} {vs:List Value},RVs I θ w xs vs->∀ n,RVs I θ w (xs.drop n) (vs.drop n)
 | [],_,h,n=>by simp only[RVs]at h;subst h;simp[RVs]
 | c::cs,_,h,n=>by
  cases n with
  | zero=>simpa using h
  | succ n =>
   simp only[RVs]at h
   obtain⟨v,r,rfl,h1,h2⟩:=h
   simpa using RVs_drop h2 n
theorem RVs_append:∀ {xs:List AV} {vs:List Value},RVs I θ w xs vs->∀ {ys:List AV} {us:List Value},RVs I θ w ys us->RVs I θ w (xs++ys) (vs++us)
 | [],_,h,ys,us,h'=>by simp only[RVs]at h;subst h;simpa using h'
 | c::cs,_,h,ys,us,h'=>by
  simp only[RVs]at h
  obtain⟨v,r,rfl,h1,h2⟩:=h
  simp only[List.cons_append,RVs]
  exact⟨v,_,rfl,h1,RVs_append h2 h'⟩
theorem RVc_drop:∀ {xs:List AV} {B o:Nat},RVc I θ w xs B o->∀ n,RVc I θ w (xs.drop n) B (o+n)
 | [],_,_,_,n=>by simp[RVc]
 | c::cs,B,o,h,n=>by
  cases n with
  | zero=>simpa using h
  | succ n =>
   simp only[RVc]at h
   have:=RVc_drop h.2 n
   rwa [Nat.add_assoc,Nat.add_comm 1 n]at this
theorem RVc_vals:∀ {xs:List AV} {B o:Nat},RVc I θ w xs B o->∃ vs,RVs I θ w xs vs/\(∀ u∈vs,u.oneCell'=true)/\∀ j v,vs[j]? = some v->w.cell? ⟨B,o+j,none⟩=some v
 | [],_,_,_=>⟨[],by simp[RVs],by simp,by simp⟩
 | c::cs,B,o,h=>by
  simp only[RVc]at h
  obtain⟨⟨h1,v,h2,h3,h4⟩,h5⟩:=h
  obtain⟨vs,k1,k2,k3⟩:=RVc_vals h5
  refine⟨v::vs,by simp only[RVs];exact⟨v,vs,rfl,h4,k1⟩,?_,?_⟩
  ·intro u hu
   cases hu with
   | head=>exact h3
   | tail _ hm=>exact k2 u hm
  ·intro j u hj
   cases j with
   | zero=>simp at hj;subst hj;exact h2
   | succ j =>
    have:=k3 j u (by simpa using hj)
    rwa [Nat.add_assoc,Nat.add_comm 1 j]at this
theorem RVe_get:∀ {els:List (List AV)} {B o sz:Nat},RVe I θ w els B o->(∀ el∈els,el.length=sz)->∀(j:Nat) (el:List AV),els[j]? = some el->RVc I θ w el B (o+j * sz)
 | [],_,_,_,_,_,j,el,hj=>by simp at hj
 | c::cs,B,o,sz,h,hl,j,el,hj=>by
  simp only[RVe]at h
  cases j with
  | zero=>simp at hj;subst hj;simpa using h.1
  | succ j =>
   have hc:=hl c (List.mem_cons_self ..)
   have:=RVe_get (sz:=sz) h.2 (fun e he=>hl e (List.mem_cons_of_mem _ he)) j el (by simpa using hj)
   rw[hc]at this
   rw[Nat.succ_mul]
   rwa [Nat.add_assoc,Nat.add_comm sz]at this
theorem pureE_get:∀ {els:List (List AV)},pureE els=true->∀ {j:Nat} {el:List AV},els[j]? = some el->pureL el=true
 | [],_,j,el,hj=>by simp at hj
 | c::cs,h,j,el,hj=>by
  simp only[pureE,Bool.and_eq_true]at h
  cases j with
  | zero=>simp at hj;subst hj;exact h.1
  | succ j=>exact pureE_get h.2 (by simpa using hj)
theorem pureL_drop:∀ {cs:List AV},pureL cs=true->∀ n,pureL (cs.drop n)=true
 | [],_,n=>by simp[pureL]
 | c::cs,h,n=>by
  cases n with
  | zero=>simpa using h
  | succ n=>simp only[pureL,Bool.and_eq_true]at h;simpa using pureL_drop h.2 n
def szOf(P:Program)(t:TypeId):Option Nat:=(P.info? t).map (·.size)
def ldOk(P:Program)(t:TypeId)(n:Nat)(g:Bool):Bool:=
 match P.underlying t with
 | some (.struct _)=>g && szOf P t == some n
 | some (.array _ _)=>false
 | some _=>!g && szOf P t == some 1 && n == 1
 | none=>false
theorem run_sizeOf{t:TypeId}{n:Nat}(h:szOf P t=some n)(w:World):(sizeOf t).run P w=.ok n w:=by
 unfold szOf at h
 obtain⟨i,hi,rfl⟩:=Option.map_eq_some_iff.1 h
 simp[sizeOf,typeInfo,hi]
theorem loadVar_rd{t:TypeId}{n:Nat}{g:Bool}(hk:ldOk P t n g=true){B o:Nat}{cs:List AV}{vs:List Value}(hv:RVs I θ w cs vs)(h1:∀ u∈vs,u.oneCell'=true)
  (hc:∀ j v,vs[j]? = some v->w.cell? ⟨B,o+j,none⟩=some v) {y:AV} (hy:rdCells cs n g=some y) :
  ∃ v,(loadVar t ⟨B,o,none⟩).run P w=.ok v w/\RV I θ w y v:=by
 unfold ldOk at hk
 cases hu:P.underlying t with
 | none=>simp[hu]at hk
 | some d =>
  rw[hu]at hk
  by_cases hg:g=true
  ·subst hg
   have hs:∃ fs,d=.struct fs:=by cases d<;>simp_all
   obtain⟨fs,rfl⟩:=hs
   have hn:szOf P t=some n:=by simpa using hk
   simp only[rdCells,cond_true]at hy
   split at hy
   ·rename_i hle
    obtain rfl:=Option.some.inj hy
    have hlen:=RVs_length hv
    refine⟨.agg (vs.take n).toArray,?_,?_⟩
    ·have hl:(vs.take n).length=n:=by simp;omega
     have:=run_loadCells_list (P:=P) w ⟨B,o,none⟩ (vs.take n) (fun j v hj=>by rw[addB];exact hc j v (by rw[List.getElem?_take]at hj;split at hj<;>simp_all))
     rw[hl]at this
     simp[loadVar,isAgg,run_underlying hu,run_sizeOf hn,this]
    ·simp only[RV]
     exact⟨vs.take n,rfl,fun u hu=>h1 u (List.mem_of_mem_take hu),RVs_take hv n⟩
   ·cases hy
  ·have hg':g=false:=by simpa using hg
   subst hg'
   simp only[rdCells,cond_false]at hy
   cases cs with
   | nil=>simp at hy
   | cons c cs =>
    simp only[List.head?_cons,Option.some.injEq]at hy
    subst hy
    simp only[RVs]at hv
    obtain⟨v,r,rfl,hv1,_⟩:=hv
    have h0:w.cell? ⟨B,o,none⟩=some v:=by simpa using hc 0 v rfl
    refine⟨v,?_,hv1⟩
    have hagg:(isAgg t).run P w=.ok false w:=by
     simp only[isAgg,Sem.run_bind,run_underlying hu,Result.andThen_ok]
     cases d<;>first|rfl|(simp at hk)
    simp only[loadVar,Sem.run_bind,hagg,Result.andThen_ok,Bool.false_eq_true,if_false,run_load,h0]
end
end Go.Ab
