/- A part of the proof: AbW. -/
import Derived.Test.YtgkiahgcgjigkaaDoorAbV
set_option linter.all false
set_option linter.all false
namespace Go.Ab
open Go.RowKit
structure Grew(M:Nat->Prop)(W W':World):Prop where
 os:W'.os=W.os
 tape:W'.tape=W.tape
 output:W'.output=W.output
 size:W.heap.size<=W'.heap.size
 same:∀ k,M k->W'.heap[k]? = W.heap[k]?
structure Rounded(M M':Nat->Prop)(W W':World):Prop where
 own:∀ k,M' k->M k\/W.heap.size<=k
 size:W.heap.size<=W'.heap.size
 same:∀ k,k<W.heap.size->¬ M k->W'.heap[k]? = W.heap[k]?
structure Abide(J:Nat->(Nat->Prop)->World->Prop):Prop where
 lt:∀ i M W,J i M W->∀ k,M k->k<W.heap.size
 grow:∀ i M W W',J i M W->Grew M W W'->J i M W'
def ItC(P:Program)(f:FuncId)(caps:List AV)(L:List (List AV)):Prop:=
 Ent P f/\∀(l:Nat) (I0:Addr->Prop) (W:World) (lb:List Value),RVs I0 noθ W caps lb ->
  ∀(J:Nat->(Nat->Prop)->World->Prop) (Jx:World->Prop),Abide J->(∀ i M W',J i M W'->∀ b,I0 b->Same W' W b) ->
  (∀ i M W' x vals,L[i]? = some x->J i M W'->RVs I0 noθ W' x vals->YieldAt (Fr none) 1 P l vals.toArray W' fun e W'' =>
   (e=.returned (.bool true)/\∃ M',J (i+1) M' W''/\Rounded M M' W' W'')\/(e=.returned (.bool false)/\Jx W'')) ->
  ∀ M,J 0 M W->Calls P f (#[.func (.yield l) #[] #[]]++lb.toArray) W fun e W'=>(∃ v,e=.returned v)/\((∃ M',J L.length M' W')\/Jx W')
section
variable {Γ : Ctx} {I:Addr->Prop} {θ:Nat->Option Value} {H:List AB} {W:World}
theorem Sim.grew(S:Sim Γ I θ H W){M:Nat->Prop}{W':World}(g:Grew M W W')(h0:∀ k,k < Γ.w0.heap.size->M k)(hI:∀ b,I b->M b.block)(hO:∀ r B,owns H θ r B->M B) :
  Sim Γ I θ H W'/\∀ x v,RV I θ W x v->RV I θ W' x v:=by
 have hc:∀ b,I b->Same W' W b:=fun b h=>Same.of (g.same _ (hI b h))
 have hrv:∀ x v,RV I θ W x v->RV I θ W' x v:=fun x v h=>RV_mono (fun _ h=>h) hc (fun _ _ h=>h) x v h
 have hrvs:∀ x v,RVs I θ W x v->RVs I θ W' x v:=fun x v h=>RVs_mono (fun _ h=>h) hc (fun _ _ h=>h) x v h
 refine⟨⟨S.below.step g.os g.tape g.output g.size (fun k hk hn=>g.same k (h0 k (Nat.lt_of_not_le fun h=>hn (Γ.new k h)))),S.i0,S.inew,fun b h=>Nat.lt_of_lt_of_le (S.ilt b h) g.size,?_,?_,S.sep,S.iso,S.dom,S.own,S.pin,fun r q es h=>(S.map r q es h).mono (fun _ h=>h) hc (fun _ h=>h) (fun B o k1 k2=>(g.same B (hO r B ⟨⟨_,h,rfl⟩,_,k1,rfl⟩)).trans k2)⟩,hrv⟩
 ·intro r t cs h
  obtain⟨B,c,h1,h2,h3,h4,h5⟩:=S.box r t cs h
  exact⟨B,c,h1,h2,(g.same B (hO r B ⟨⟨_,h,rfl⟩,_,h1,rfl⟩)).trans h3,h4,hrvs _ _ h5⟩
 ·intro r e sz els h
  obtain⟨v,xs,h1,h2,h3,h4,h5⟩:=S.row r e sz els h
  exact⟨v,xs,h1,ownsRow_same h2 (fun B hB=>g.same B (hO r B ⟨⟨_,h,rfl⟩,v,h1,own_blk (own_slice' h2) hB⟩)),h3,hrvs _ _ h4,h5⟩
theorem Sim.cells{I':Addr->Prop}{θ':Nat->Option Value}{H':List AB}{W':World}(S:Sim Γ I θ H W)(S':Sim (selfΓ Γ I W H θ) I' θ' H' W'):(∀ b,I b->I' b)/\∀ b,I b->Same W' W b:=
 ⟨S'.i0,fun b h=>Same.of (S'.below.block _ (S.ilt b h) (by
  rintro(h1|⟨r,h1⟩)
  ·exact absurd (S.ilt b h) (Nat.not_lt.2 h1)
  ·exact S.iso b r h h1))⟩
end
def setT:List Nat->List AV->List (Nat×AV)->List (Nat×AV)
 | p::ps,x::xs,T=>setT ps xs ((p,x)::T)
 | _,_,T=>T
theorem rel_setT{I:Addr->Prop}{θ:Nat->Option Value}{W:World}:∀(ps:List Nat) (xs:List AV) (vs:List Value) (T:List (Nat×AV)) (t:Array Value),(∀ p∈ps,p<t.size)->xs.length=ps.length->RVs I θ W xs vs ->
  (∀ n,RV I θ W (lk T n) (t.getD n undef)) ->
  (∀ n,RV I θ W (lk (setT ps xs T) n) (((ps.zip vs).foldl (fun t (p,v)=>t.setIfInBounds p v) t).getD n undef))/\((ps.zip vs).foldl (fun t (p,v)=>t.setIfInBounds p v) t).size=t.size
 | [],[],vs,T,t,_,_,h,hT=>by
  simp only[RVs]at h
  subst h
  exact⟨hT,rfl⟩
 | p::ps,x::xs,vs,T,t,hp,hl,h,hT=>by
  simp only[RVs]at h
  obtain⟨v,r,rfl,h1,h2⟩:=h
  obtain⟨k1,k2⟩:=rel_setT ps xs r ((p,x)::T) (t.setIfInBounds p v) (fun q hq=>by simp;exact hp q (List.mem_cons_of_mem _ hq)) (by simpa using hl) h2 (fun n=>by
   simp only[lk]
   by_cases e:n=p
   ·subst e
    have:=hp n (List.mem_cons_self ..)
    simp only[BEq.rfl,cond_true]
    rw[Array.getD_eq_getD_getElem?,Array.getElem?_setIfInBounds_self_of_lt this]
    exact h1
   ·rw[beq_eq_false_iff_ne.2 e,cond_false,Array.getD_eq_getD_getElem?,Array.getElem?_setIfInBounds_ne (Ne.symm e),<-Array.getD_eq_getD_getElem?]
    exact hT n)
  exact⟨k1,by simpa using k2⟩
 | [],_::_,vs,T,t,_,hl,_,_=>by simp at hl
 | _::_,[],vs,T,t,_,hl,_,_=>by simp at hl
def Ex.code:Ex->Code
 | .normal=>.skip
 | .exit i=>.exit i
 | .ret=>.ret
theorem zip_foldl(ps:Array Tmp)(vs:List Value)(t:Array Value):(ps.zip vs.toArray).foldl (fun t (p,v)=>t.setIfInBounds p v) t=(ps.toList.zip vs).foldl (fun t (p,v)=>t.setIfInBounds p v) t:=by
 rw[<-Array.foldl_toList]
 congr 1
 simp
structure RJ(Γ : Ctx)(T0:List (Nat×AV))(a:Act)(w:World)(I:Addr->Prop)(Z:List AB->Prop)(l D n1:Nat)(o:Obj)(M:Nat->Prop)(W:World):Prop where
 ex:∃ H I' θ',Z H/\Sim Γ I' θ' H W/\Rel I' θ' W T0 a/\(∀ b,I b->I' b)/\(∀ b,I' b->M b.block)/\(∀ r B,owns H θ' r B->M B)
 lo:W.heap[l]? = some o
 de:W.heap[D]? = some (.deferred (some []))
 mks:Mk Γ a.defers W
 low:∀ k,k<n1->M k
 lt:∀ k,M k->k<W.heap.size
 ce:∀ b,I b->Same W w b
 sz:n1<=W.heap.size
theorem RJ.grow{Γ : Ctx}{T0:List (Nat×AV)}{a:Act}{w:World}{I:Addr->Prop}{Z:List AB->Prop}{l D n1:Nat}{o:Obj}{M:Nat->Prop}{W W':World}(h:RJ Γ T0 a w I Z l D n1 o M W)(hl:l<n1)(hD:D<n1)(h0 : Γ.w0.heap.size<=n1)(hI:∀ b,I b->b.block<n1)(hm:∀ d∈a.defers,∀ D',d={ target:=.collected D',args:=#[] }->D'<n1)
  (g:Grew M W W'):RJ Γ T0 a w I Z l D n1 o M W':=by
 obtain⟨H,I',θ',hZ,S,hR,h1,h2,h3⟩:=h.ex
 obtain⟨S',hrv⟩:=S.grew g (fun k hk=>h.low k (by omega)) h2 h3
 refine⟨⟨H,I',θ',hZ,S',fun n=>hrv _ _ (hR n),h1,h2,h3⟩,(g.same l (h.low l hl)).trans h.lo,(g.same D (h.low D hD)).trans h.de,⟨h.mks.nd,fun d hd=>?_⟩,h.low,fun k hk=>Nat.lt_of_lt_of_le (h.lt k hk) g.size,fun b hb=>(Same.of (g.same _ (h.low _ (hI b hb)))).trans (h.ce b hb),Nat.le_trans h.sz g.size⟩
 obtain⟨D',e,h4,h5⟩:=h.mks.at_ d hd
 exact⟨D',e,h4,(g.same D' (h.low D' (hm d hd D' e))).trans h5⟩
section
variable {P:Program} {Γ : Ctx} {N:Nat}
def Stays(Z:List AB->Prop)(H0:List AB)(x:AV):Prop:=pureB x=true\/x=.u\/∃(r j q:Nat) (B:Value),x=.ptr r j/\H0[q]? = some (AB.pin r B)/\∀ H:List AB,Z H->H[q]? = some (AB.pin r B)
theorem range_ok{g:Operand}{g':Opd}{ps:Array Tmp}{asg body:Code}{Q:Exit->Act->World->Prop}{a:Act}{w:World}{T0:List (Nat×AV)}{H0:List AB}{f:FuncId}{caps:List AV}{L:List (List AV)}{Z:Nat->List AB->Prop}{Zx:Ex->List AB->Prop}{S2:Nat->List AV->List AB->AS->Prop}
  (G:Good Γ N ⟨T0,H0⟩ a w) (hmk : Γ.mkb <= Γ.w0.heap.size) (hg:opdOk g g'=true) (hgv:AS.ev ⟨T0,H0⟩ g'=.fn (.func f) [] caps) (hcp:pureL caps=true)
  (hit:ItC P f caps L) (hps:∀ x∈L,x.length=ps.size) (hpN:∀ p∈ps.toList,p<N)
  (hT:∀ n,Stays (fun H=>(∃ i,Z i H)\/∃ ex,Zx ex H) H0 (lk T0 n)) (h0:Z 0 H0)
  (hround:∀(ro:Option Nat) (Γ':Ctx) i x H a1 W1,Γ'.mkb <= Γ'.w0.heap.size->L[i]? = some x->Z i H->Good Γ' N ⟨setT ps.toList x T0,H⟩ a1 W1->asg.wpIn (Fr ro) 1 P (Exit.then (fun a2 W2=>∃ st2,S2 i x H st2/\Good Γ' N st2 a2 W2) (fun _ _ _=>False)) a1 W1)
  (hbody:∀(ro:Option Nat) (Γ':Ctx) i x H st2 a2 W2,Γ'.mkb <= Γ'.w0.heap.size->L[i]? = some x->Z i H->S2 i x H st2->Good Γ' N st2 a2 W2->body.wpIn (Fr ro) 1 P (fun e a3 W3=>∃ ex st3,e=ex.to/\Good Γ' N st3 a3 W3/\(ex=.normal->Z (i+1) st3.H)/\(ex≠.normal->Zx ex st3.H)) a2 W2)
  (hdone:∀ a' W H,Z L.length H->Good Γ N ⟨T0,H⟩ a' W->Q .normal a' W)
  (hstop:∀ ex a' W H,ex≠.normal->Zx ex H->Good Γ N ⟨T0,H⟩ a' W->Q ex.to a' W):(Code.rangeFunc g ps asg body).wpIn (Fr none) 1 P Q a w:=by
 obtain⟨I,θ,S,hR⟩:=G.ex
 have hv:=opd_rv hR hg
 rw[hgv]at hv
 simp only[RV,RVs]at hv
 obtain⟨x1,lb,eg,rfl,hcaps⟩:=hv
 refine wpIn_rangeFunc ?_
 intro fn _
 obtain⟨rec,hrec⟩:∃ rec:LoopState->Option Code->Loop,rec=fun st pe=>{ state:=st,pending:=pe,fn,tmps:=a.tmps,params:=ps,assign:=asg,body,defers:=w.heap.size }:=⟨_,rfl⟩
 obtain⟨W1,hW1⟩:∃ W1,(w.alloc (.deferred (some []))).alloc (.loop (rec .ready none))=W1:=⟨_,rfl⟩
 have hsz1:W1.heap.size=w.heap.size+2:=by rw[<-hW1];simp
 have hL1:W1.heap[w.heap.size+1]? = some (.loop (rec .ready none)):=by
  rw[<-hW1];have:=World.alloc_heap_new (w.alloc (.deferred (some []))) (.loop (rec .ready none));rwa [World.size_alloc]at this
 have hK1:W1.heap[w.heap.size]? = some (.deferred (some [])):=by
  rw[<-hW1];exact(Below.heap_alloc _ _ _ (by simp)).trans (World.alloc_heap_new w _)
 have hold:∀ k,k<w.heap.size->W1.heap[k]? = w.heap[k]?:=fun k hk=>by
  rw[<-hW1];exact(Below.heap_alloc _ _ _ (by simp;omega)).trans (Below.heap_alloc _ _ _ hk)
 have hdl:∀ d∈a.defers,∀ D',d={ target:=.collected D',args:=#[] }->D'<w.heap.size:=by
  intro d hd D' e
  obtain⟨D2,e2,_,h5⟩:=G.defers.at_ d hd
  rw[e]at e2
  cases e2
  exact(Array.getElem?_eq_some_iff.1 h5).1
 have hg1:Grew (fun k=>k<w.heap.size) w W1:=⟨by rw[<-hW1];rfl,by rw[<-hW1];rfl,by rw[<-hW1];rfl,by omega,fun k hk=>hold k hk⟩
 obtain⟨S1,hrv1⟩:=S.grew hg1 (fun k hk=>Nat.lt_of_lt_of_le hk S.below.size) S.ilt (fun r B h=>(owns_lt S h).2)
 have hIlt:∀ b,I b->b.block<W1.heap.size:=S1.ilt
 have hce1:∀ b,I b->Same W1 w b:=fun b h=>Same.of (hold _ (S.ilt b h))
 have stay:∀ {H H':List AB} {I' I2:Addr->Prop} {θ' θ2:Nat->Option Value} {W W':World},((∃ i,Z i H)\/∃ ex,Zx ex H)->((∃ i,Z i H')\/∃ ex,Zx ex H')->Sim Γ I' θ' H W->Sim Γ I2 θ2 H' W'->(∀ b,I' b->I2 b)->(∀ b,I' b->Same W' W b)->Rel I' θ' W T0 a->Rel I2 θ2 W' T0 a:=by
  intro H H' I' I2 θ' θ2 W W' hz hz' Sa Sb hi hc hr n
  rcases hT n with h|h|⟨r,j,q,B,e,_,h2⟩
  ·exact RV_pure hi hc _ _ h (hr n)
  ·rw[h];simp[RV]
  ·have:=hr n
   rw[e]at this ⊢
   simp only[RV]at this ⊢
   obtain⟨B',k1,k2⟩:=this
   have k3:=Sa.pin q r B (h2 H hz)
   have k4:=Sb.pin q r B (h2 H' hz')
   rw[k3]at k1
   obtain rfl:=Option.some.inj k1
   exact⟨B',k4,k2⟩
 have hw01 : Γ.w0.heap.size<=w.heap.size:=S.below.size
 let J:Nat->(Nat->Prop)->World->Prop:=fun i M W=>RJ Γ T0 a w I (Z i) (w.heap.size+1) w.heap.size W1.heap.size (.loop (rec .ready none)) M W
 let Jx:World->Prop:=fun W=>∃ ex M,ex≠.normal/\RJ Γ T0 a w I (Zx ex) (w.heap.size+1) w.heap.size W1.heap.size (.loop (rec .done (some ex.code))) M W
 have hJ0:J 0 (fun k=>k<W1.heap.size) W1:=
  ⟨⟨H0,I,θ,h0,S1,fun n=>hrv1 _ _ (hR n),fun _ h=>h,hIlt,fun r B h=>(owns_lt S1 h).2⟩,hL1,hK1,G.defers.step (fun k o hk _=>(hold k (Array.getElem?_eq_some_iff.1 hk).1).trans hk),fun _ h=>h,fun _ h=>h,hce1,Nat.le_refl _⟩
 have hab:Abide J:=⟨fun i M W h=>h.lt,fun i M W W' h g=>h.grow (by omega) (by omega) (by omega) hIlt (fun d hd D' e=>by have:=hdl d hd D' e;omega) g⟩
 have fin:∀ {Z':List AB->Prop} {st:LoopState} {pe:Option Code} {M:Nat->Prop} {W:World},RJ Γ T0 a w I Z' (w.heap.size+1) w.heap.size W1.heap.size (.loop (rec st pe)) M W->st≠.busy ->
   (Instr.endLoop (w.heap.size+1)).run P W=.ok pe (W.putObj (w.heap.size+1) (.loop (rec .exhausted pe)))/\∃ H,Z' H/\Good Γ N ⟨T0,H⟩ { a with defers:=[{ target:=.collected w.heap.size,args:=#[] }]++a.defers } (W.putObj (w.heap.size+1) (.loop (rec .exhausted pe))):=by
  intro Z' st pe M W h hst
  obtain⟨H,I',θ',hZ,S',hR',_⟩:=h.ex
  obtain⟨S2,hrv⟩:=S'.putObj (o':=.loop (rec .exhausted pe)) (by omega) h.lo rfl rfl
  refine⟨by have:=run_endLoop (P:=P) h.lo (by rw[hrec];exact hst);rw[hrec]at this ⊢;exact this,H,hZ,⟨⟨I',θ',S2,fun n=>hrv _ _ (hR' n)⟩,G.size,⟨?_,?_⟩⟩⟩
  ·refine List.nodup_cons.2 ⟨fun hm=>?_,G.defers.nd⟩
   have:=hdl _ hm _ rfl
   omega
  ·intro d hd
   rcases List.mem_cons.1 hd with rfl|hd
   ·exact⟨_,rfl,by omega,(World.putObj_heap_other (by omega)).trans h.de⟩
   ·obtain⟨D',e,h4,h5⟩:=h.mks.at_ d hd
    have:=hdl d hd D' e
    exact⟨D',e,h4,(World.putObj_heap_other (by omega)).trans h5⟩
 refine⟨w.heap.size+1,[{ target:=.collected w.heap.size,args:=#[] }],W1,{ target:=.fn (.func f) lb.toArray,args:=#[.func (.yield (w.heap.size+1)) #[] #[]] },W1,f,
  #[.func (.yield (w.heap.size+1)) #[] #[]]++lb.toArray,W1,?_,?_,fun _ _=>trivial,?_,fun _=>Nat.le_refl _,?_⟩
 ·rw[<-hW1,hrec];exact run_enterLoop_outer _ _ _ _ _
 ·simp only[resolve,rangeCall,eg,Deferred.ofValue,Sem.run_bind,Sem.run_pure,Result.andThen_ok]
  simp[Act.eval]
 ·simp only[invoke]
  exact hit.1 _ _
 ·refine calls_in none _ ((hit.2 (w.heap.size+1) I W1 lb (RVs_pure (fun _ h=>h) hce1 _ _ hcp hcaps) J Jx hab (fun i M W' h b hb=>(h.ce b hb).trans (hce1 b hb).symm) ?_ _ hJ0).mono ?_)
  ·rintro i M W x vals hx hJ hvals
   obtain⟨H,I',θ',hZ,Sw,hRw,hII,hIM,hOM⟩:=hJ.ex
   have hxl:=hps x (List.mem_of_getElem? hx)
   have hvl:=RVs_length hvals
   have hy:=run_yield (P:=P) (args:=vals.toArray) hJ.lo (by rw[hrec];simp;omega)
   rw[hrec]at hy
   refine⟨fn,_,asg,body,hy,roundIn_of_wpIn (F:=Fr none) trivial ?_⟩
   clear hy
   obtain⟨hr1,hs1⟩:=rel_setT ps.toList x vals T0 a.tmps (fun p hp=>by rw[G.size];exact hpN p hp) (by simpa using hxl) (RVs_mono hII (fun _ _=>Same.refl _ _) (fun _ _ h=>by simp[noθ]at h) _ _ hvals) hRw
   have G1:Good (selfΓ Γ I' W H θ') N ⟨setT ps.toList x T0,H⟩ { tmps:=(ps.zip vals.toArray).foldl (fun t (p,v)=>t.setIfInBounds p v) a.tmps,defers:=[] } W:=
    ⟨⟨I',θ',Sw.self,fun n=>by rw[zip_foldl];exact hr1 n⟩,by rw[zip_foldl,hs1];exact G.size,Mk.nil _ _⟩
   refine wpIn_mono (hround (some _) _ i x H _ W (show Γ.mkb<=W.heap.size by have:=hJ.sz;omega) hx hZ G1) ?_
   rintro e a2 W2 hq
   cases e with
   | normal =>
    obtain⟨st2,hS2,G2⟩:=hq
    obtain⟨I2,θ2,Sa,hR2⟩:=G2.ex
    have hl2:=Sw.others Sa _ _ hJ.lo rfl
    have hd2:=Sw.others Sa _ _ hJ.de rfl
    have hll:w.heap.size+1<W2.heap.size:=(Array.getElem?_eq_some_iff.1 hl2).1
    have Sg:=Sw.back1 Sa
    obtain⟨c1,c2⟩:=Sw.cells Sa
    obtain⟨W2',hW2'⟩:∃ W2',W2.putObj (w.heap.size+1) (.loop { rec .ready none with state:=.busy })=W2':=⟨_,rfl⟩
    have hs2':W2'.heap.size=W2.heap.size:=by rw[<-hW2'];simp
    have hl2':W2'.heap[w.heap.size+1]? = some (.loop { rec .ready none with state:=.busy }):=by rw[<-hW2'];exact World.putObj_heap_same hll
    have ho2':∀ k,k≠w.heap.size+1->W2'.heap[k]? = W2.heap[k]?:=fun k hk=>by rw[<-hW2'];exact World.putObj_heap_other hk
    have hc2':∀ b,Same W2' W2 b:=fun b=>by rw[<-hW2'];exact cell_putObj hl2 rfl rfl b
    obtain⟨Sb,hrvb⟩:=Sg.putObj (o':=.loop { rec .ready none with state:=.busy }) (by omega) hl2 rfl rfl
    rw[hW2']at Sb hrvb
    have G2':Good (selfΓ Γ I2 W2' st2.H θ2) N st2 a2 W2':=⟨⟨I2,θ2,Sb.self,fun n=>hrvb _ _ (hR2 n)⟩,G2.size,⟨G2.defers.nd,fun d hd=>by
     obtain⟨D',e,h4,h5⟩:=G2.defers.at_ d hd
     refine⟨D',e,h4,(ho2' D' ?_).trans h5⟩
     rintro rfl
     rw[hl2]at h5;cases h5⟩⟩
    refine⟨W2',by rw[<-hW2'];exact run_beginRound hl2 (by rw[hrec]),wpIn_mono (hbody (some _) _ i x H st2 a2 _ (show Γ.mkb<=W2'.heap.size by have:=hJ.sz;have h9:W.heap.size<=W2.heap.size:=Sa.below.size;omega) hx hZ hS2 G2') ?_⟩
    rintro e a3 W3 ⟨ex,st3,rfl,G3,hz1,hz2⟩
    obtain⟨I3,θ3,Sc,hR3⟩:=G3.ex
    have hl3:=Sb.others Sc _ _ hl2' rfl
    have hd3:=Sb.others Sc _ _ ((ho2' _ (by omega)).trans hd2) rfl
    have hll3:w.heap.size+1<W3.heap.size:=(Array.getElem?_eq_some_iff.1 hl3).1
    have Sh:=Sb.back1 Sc
    obtain⟨c3,c4⟩:=Sb.cells Sc
    have hsA:W.heap.size<=W2.heap.size:=Sa.below.size
    have hsB:W2'.heap.size<=W3.heap.size:=Sc.below.size
    have ownA:∀ k,(selfΓ Γ I' W H θ').own k->M k\/W.heap.size<=k:=by
     rintro k (h|⟨r,h⟩)
     ·exact .inr h
     ·exact .inl (hOM r k h)
    have ownB:∀ k,(selfΓ Γ I2 W2' st2.H θ2).own k->M k\/W.heap.size<=k:=by
     rintro k (h|⟨r,h⟩)
     ·exact .inr (by omega)
     ·exact ownA k (Sa.own r k h)
    have hlM:M (w.heap.size+1):=hJ.low _ (by omega)
    have endr:∀(jump:Option Code) (Z':List AB->Prop),Z' st3.H->(∀ H,Z' H->(∃ i,Z i H)\/∃ ex,Zx ex H) ->
      (Instr.endRound (w.heap.size+1) jump).run P W3=.ok (.bool jump.isNone) (W3.putObj (w.heap.size+1) (.loop (rec (if jump.isNone then .ready else .done) jump))) /\
      ∃ M',RJ Γ T0 a w I Z' (w.heap.size+1) w.heap.size W1.heap.size (.loop (rec (if jump.isNone then .ready else .done) jump)) M' (W3.putObj (w.heap.size+1) (.loop (rec (if jump.isNone then .ready else .done) jump))) /\
       Rounded M M' W (W3.putObj (w.heap.size+1) (.loop (rec (if jump.isNone then .ready else .done) jump))):=by
     intro jump Z' hz hzz
     obtain⟨Se,hrve⟩:=Sh.putObj (o':=.loop (rec (if jump.isNone then .ready else .done) jump)) (by omega) hl3 rfl rfl
     have hc4:∀ b,Same (W3.putObj (w.heap.size+1) (.loop (rec (if jump.isNone then .ready else .done) jump))) W3 b:=fun b=>cell_putObj hl3 rfl rfl b
     have hs4:(W3.putObj (w.heap.size+1) (.loop (rec (if jump.isNone then .ready else .done) jump))).heap.size=W3.heap.size:=by simp
     have ho4:∀ k,k≠w.heap.size+1->(W3.putObj (w.heap.size+1) (.loop (rec (if jump.isNone then .ready else .done) jump))).heap[k]? = W3.heap[k]?:=fun k hk=>World.putObj_heap_other hk
     have hl4:(W3.putObj (w.heap.size+1) (.loop (rec (if jump.isNone then .ready else .done) jump))).heap[w.heap.size+1]? = some (.loop (rec (if jump.isNone then .ready else .done) jump)):=World.putObj_heap_same hll3
     have hend:(Instr.endRound (w.heap.size+1) jump).run P W3=.ok (.bool jump.isNone) (W3.putObj (w.heap.size+1) (.loop (rec (if jump.isNone then .ready else .done) jump))):=by
      have:=run_endRound (P:=P) jump hl3
      rw[hrec]at this ⊢
      exact this
     generalize W3.putObj (w.heap.size+1) (.loop (rec (if jump.isNone then .ready else .done) jump))=W4 at *
     have cW:∀ b,I' b->Same W4 W b:=fun b hb=>(hc4 b).trans ((c4 b (c1 b hb)).trans ((hc2' b).trans (c2 b hb)))
     refine⟨hend,fun k=>k<W4.heap.size/\(M k\/W.heap.size<=k),⟨⟨st3.H,I3,θ3,hz,Se,stay (.inl ⟨i,hZ⟩) (hzz _ hz) Sw Se (fun b hb=>c3 b (c1 b hb)) cW hRw,fun b hb=>c3 b (c1 b (hII b hb)),fun b hb=>⟨Se.ilt b hb,?_⟩,fun r B h=>⟨(owns_lt Se h).2,ownB B (Sc.own r B h)⟩⟩,
      hl4,(ho4 _ (by omega)).trans hd3,⟨hJ.mks.nd,fun d hd=>?_⟩,fun k hk=>⟨?_,.inl (hJ.low k hk)⟩,fun k h=>h.1,fun b hb=>(cW b (hII b hb)).trans (hJ.ce b hb),?_⟩,⟨fun k h=>h.2,?_,fun k hk hn=>?_⟩⟩
     ·rcases Sc.inew b hb with h|h
      ·rcases Sa.inew b h with h|h
       ·exact .inl (hIM b h)
       ·exact ownA _ h
      ·exact ownB _ h
     ·obtain⟨D',e,h4,h5⟩:=hJ.mks.at_ d hd
      have hD:D'≠w.heap.size+1:=by rintro rfl;rw[hJ.lo]at h5;cases h5
      exact⟨D',e,h4,(ho4 D' hD).trans (Sb.others Sc _ _ ((ho2' D' hD).trans (Sw.others Sa _ _ h5 rfl)) rfl)⟩
     ·have:=hJ.sz;omega
     ·have:=hJ.sz;omega
     ·omega
     ·have hkl:k≠w.heap.size+1:=by rintro rfl;exact hn hlM
      refine(ho4 k hkl).trans ((Sc.below.block k (show k<W2'.heap.size by omega) fun h=>?_).trans ((ho2' k hkl).trans (Sa.below.block k hk fun h=>?_)))
      ·exact(ownB k h).elim hn (by omega)
      ·exact(ownA k h).elim hn (by omega)
    cases ex with
    | normal =>
     obtain⟨hr,M',hj,hrd⟩:=endr none (Z (i+1)) (hz1 rfl) (fun H h=>.inl ⟨_,h⟩)
     exact⟨_,_,hr,.inl ⟨rfl,M',hj,hrd⟩⟩
    | exit id =>
     obtain⟨hr,M',hj,hrd⟩:=endr (some (.exit id)) (Zx (.exit id)) (hz2 (by simp)) (fun H h=>.inr ⟨_,h⟩)
     exact⟨_,_,hr,.inr ⟨rfl,.exit id,M',by simp,hj⟩⟩
    | ret =>
     obtain⟨hr,M',hj,hrd⟩:=endr (some .ret) (Zx .ret) (hz2 (by simp)) (fun H h=>.inr ⟨_,h⟩)
     exact⟨_,_,hr,.inr ⟨rfl,.ret,M',by simp,hj⟩⟩
   | exit id=>exact hq.elim
   | goto t=>exact hq.elim
   | ret=>exact hq.elim
   | panic ch=>exact hq.elim
   | outgrown=>exact hq.elim
  ·rintro e W2 ⟨⟨v,rfl⟩,(⟨M',hJ⟩|⟨ex,M',hne,hJ⟩)⟩
   ·obtain⟨h1,H,hZ,hG⟩:=fin hJ (by simp)
    exact⟨none,_,h1,hdone _ _ _ hZ hG⟩
   ·obtain⟨h1,H,hZ,hG⟩:=fin hJ (by simp)
    refine⟨some ex.code,_,h1,?_⟩
    have:=hstop ex _ _ _ hne hZ hG
    cases ex with
    | normal=>exact absurd rfl hne
    | exit i=>exact wpIn_exit this
    | ret=>exact wpIn_ret this
end
end Go.Ab
