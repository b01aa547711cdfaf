/- A part of the proof: AbQ. -/
import Derived.Test.YtgkiahgcgjigkaaDoorAbO
set_option linter.all false
set_option linter.unusedVariables false
namespace Go.Ab
open Go.RowKit
inductive RVar where
 | t (n:Nat)
 | c (a n:Nat) (g:Bool)
def resv(st:AS):RVar->Option AV
 | .t n=>some (lk st.T n)
 | .c a n g=>match lk st.T a with
  | .ip _ cs=>rdCells cs n g
  | .ptr r j=>match st.H[r]? with
   | some (.box _ cs)=>rdCells (cs.drop j) n g
   | _=>none
  | _=>none
def resvs(st:AS):List RVar->Option (List AV)
 | []=>some []
 | x::xs=>(resv st x).bind fun v=>(resvs st xs).map fun vs=>v::vs
def resOf(st:AS):List RVar->Option AV
 | [x]=>resv st x
 | xs=>(resvs st xs).map .tup
def initT:Nat->List AV->List (Nat×AV)
 | _,[]=>[]
 | k,v::vs=>(k,v)::initT (k+1) vs
def resOk(P:Program):List ResultVar->List RVar->Bool
 | [],[]=>true
 | .tmp t::r,.t n::r'=>t == n && resOk P r r'
 | .cell a ty::r,.c a' n g::r'=>a == a' && ldOk P ty n g && resOk P r r'
 | _,_=>false
theorem initT_lk:∀(vs:List AV) (k n:Nat),lk (initT k vs) n=if k<=n then(vs[n-k]?).getD .u else .u
 | [],k,n=>by simp[initT,lk]
 | v::vs,k,n=>by
  simp only[initT,lk,initT_lk vs (k+1) n]
  by_cases e:n=k
  ·subst e;simp
  ·rw[beq_eq_false_iff_ne.2 e,cond_false]
   by_cases h:k<=n
   ·rw[if_pos h,if_pos (by omega),show n-k=(n-(k+1))+1 by omega,List.getElem?_cons_succ]
   ·rw[if_neg h,if_neg (by omega)]
def rres(tmps:Array Value):ResultVar->Sem Value
 | .tmp t=>pure (tmps.getD t undef)
 | .cell a t=>do loadVar t (<-asAddr (tmps.getD a undef))
theorem results_eq(f:Func)(tmps:Array Value):results f tmps=(do
  let vs <-f.results.mapM (rres tmps)
  pure (if h:vs.size=1 then vs[0]else .tuple vs)):=by
 unfold results
 congr 2
section
variable {P:Program} {Γ : Ctx} {N:Nat}
theorem res_run{st:AS}{a:Act}{w:World}{I:Addr->Prop}{θ:Nat->Option Value}(S:Sim Γ I θ st.H w)(hR:Rel I θ w st.T a):∀(rs:List ResultVar) (xs:List RVar) (vs:List AV),resOk P rs xs=true->resvs st xs=some vs ->
  ∃ us:List Value,(rs.mapM (rres a.tmps)).run P w=.ok us w/\RVs I θ w vs us
 | [],[],vs,_,h=>by
  simp only[resvs,Option.some.injEq]at h
  subst h
  exact⟨[],by simp,by simp[RVs]⟩
 | .tmp t::r,.t n::r',vs,hk,h=>by
  simp only[resOk,Bool.and_eq_true,beq_iff_eq]at hk
  obtain⟨rfl,hk⟩:=hk
  simp only[resvs,resv,Option.bind_some]at h
  obtain⟨vs',h1,rfl⟩:=Option.map_eq_some_iff.1 h
  obtain⟨us,k1,k2⟩:=res_run S hR r r' vs' hk h1
  refine⟨a.tmps.getD t undef::us,?_,by simp only[RVs];exact⟨_,_,rfl,hR t,k2⟩⟩
  simp only[List.mapM_cons,rres,Sem.run_bind,Sem.run_pure,Result.andThen_ok,k1]
 | .cell a' ty::r,.c a2 n g::r',vs,hk,h=>by
  simp only[resOk,Bool.and_eq_true,beq_iff_eq]at hk
  obtain⟨⟨rfl,hl⟩,hk⟩:=hk
  simp only[resvs]at h
  cases hv:resv st (.c a' n g)with
  | none=>rw[hv]at h;simp at h
  | some v =>
   rw[hv]at h
   simp only[Option.bind_some]at h
   obtain⟨vs',h1,rfl⟩:=Option.map_eq_some_iff.1 h
   obtain⟨us,k1,k2⟩:=res_run S hR r r' vs' hk h1
   simp only[resv]at hv
   have key:∃ u,(loadVar ty =<< asAddr (a.tmps.getD a' undef):Sem Value).run P w=.ok u w/\RV I θ w v u:=by
    have hx:=hR a'
    cases hq:lk st.T a'<;>rw[hq]at hv hx<;>try simp only[reduceCtorEq]at hv
    case ip p cs =>
     simp only[RV]at hx
     obtain⟨_,B,o',e',hc,_⟩:=hx
     obtain⟨ws,j1,j2,j3⟩:=RVc_vals hc
     obtain⟨u,q1,q2⟩:=loadVar_rd (P:=P) hl j1 j2 j3 hv
     refine⟨u,?_,q2⟩
     simp[Bind.bindLeft,e',asAddr,q1]
    case ptr q j =>
     cases hh:st.H[q]? with
     | none=>rw[hh]at hv;simp at hv
     | some ab =>
      rw[hh]at hv
      cases ab with
      | gone=>simp at hv
      | pin _ _=>simp at hv
      | map _ _=>simp at hv
      | row _ _ _=>simp at hv
      | box t' cs =>
       simp only at hv
       simp only[RV]at hx
       obtain⟨B,e1,e2⟩:=hx
       obtain⟨B',c,h1,h2,h3,h4,h5⟩:=S.box q t' cs hh
       obtain rfl:B=B':=by rw[e1]at h1;simpa using h1
       obtain⟨u,q1,q2⟩:=loadVar_rd (P:=P) (B:=B) (o:=j) hl (RVs_drop h5 j) (fun u hu=>h4 u (List.mem_of_mem_drop hu)) (fun i v hi=>by
        rw[List.getElem?_drop]at hi
        simp only[World.cell?,h3,Option.isSome_none,Bool.false_eq_true,if_false]
        simpa using hi) hv
       refine⟨u,?_,q2⟩
       simp[Bind.bindLeft,e2,asAddr,q1]
   obtain⟨u2,q1,q2⟩:=key
   refine⟨u2::us,?_,by simp only[RVs];exact⟨_,_,rfl,q2,k2⟩⟩
   simp only[Bind.bindLeft,Sem.run_bind]at q1
   simp only[List.mapM_cons,rres,Sem.run_bind,q1,Result.andThen_ok,k1,Sem.run_pure]
 | [],_::_,vs,hk,_=>by simp[resOk]at hk
 | .tmp _::_,[],vs,hk,_=>by simp[resOk]at hk
 | .cell _ _::_,[],vs,hk,_=>by simp[resOk]at hk
 | .tmp _::_,.c _ _ _::_,vs,hk,_=>by simp[resOk]at hk
 | .cell _ _::_,.t _::_,vs,hk,_=>by simp[resOk]at hk
theorem res_of{st:AS}{a:Act}{w:World}{I:Addr->Prop}{θ:Nat->Option Value}(S:Sim Γ I θ st.H w)(hR:Rel I θ w st.T a){f:Func}{xs:List RVar}{x:AV}(hk:resOk P f.results.toList xs=true)(h:resOf st xs=some x) :
  ∃ v,(results f a.tmps).run P w=.ok v w/\RV I θ w x v:=by
 have run:∀(vs:List AV),resvs st xs=some vs->∃ us:List Value,(f.results.mapM (rres a.tmps)).run P w=.ok us.toArray w/\RVs I θ w vs us:=by
  intro vs hv
  obtain⟨us,k1,k2⟩:=res_run S hR _ _ _ hk hv
  refine⟨us,?_,k2⟩
  rw[Array.mapM_eq_mapM_toList,Sem.run_map,k1]
  rfl
 have hmany:(∀ y,xs≠[y])->∃ v,(results f a.tmps).run P w=.ok v w/\RV I θ w x v:=by
  intro hne
  have e:resOf st xs=(resvs st xs).map .tup:=by
   match xs,hne with
   | [],_=>rfl
   | [y],h=>exact absurd rfl (h y)
   | _::_::_,_=>rfl
  rw[e]at h
  obtain⟨vs,h1,rfl⟩:=Option.map_eq_some_iff.1 h
  obtain⟨us,k1,k2⟩:=run vs h1
  refine⟨.tuple us.toArray,?_,by simp only[RV];exact⟨us,rfl,k2⟩⟩
  have hl:us.length≠1:=by
   have hlen:∀(xs:List RVar) (vs:List AV),resvs st xs=some vs->vs.length=xs.length:=by
    intro xs
    induction xs with
    | nil=>intro vs h;simp[resvs]at h;subst h;rfl
    | cons y ys ih =>
     intro vs h
     simp only[resvs]at h
     cases hy:resv st y with
     | none=>rw[hy]at h;simp at h
     | some v =>
      rw[hy]at h
      simp only[Option.bind_some]at h
      obtain⟨vs',h2,rfl⟩:=Option.map_eq_some_iff.1 h
      simp[ih vs' h2]
   rw[RVs_length k2,hlen xs vs h1]
   intro hx
   obtain⟨y,hy⟩:=List.length_eq_one_iff.1 hx
   exact hne y hy
  simp only[results_eq,Sem.run_bind,k1,Result.andThen_ok,Sem.run_pure]
  rw[dif_neg (by simpa using hl)]
 by_cases hx:∃ y,xs=[y]
 ·obtain⟨y,rfl⟩:=hx
  have hv:resvs st [y]=some [x]:=by
   simp only[resOf]at h
   simp[resvs,h]
  obtain⟨us,k1,k2⟩:=run [x] hv
  simp only[RVs]at k2
  obtain⟨v,r,rfl,hv,rfl⟩:=k2
  refine⟨v,?_,hv⟩
  simp only[results_eq,Sem.run_bind,k1,Result.andThen_ok,Sem.run_pure]
  simp
 ·exact hmany fun y hy=>hx ⟨y,hy⟩
end
end Go.Ab
