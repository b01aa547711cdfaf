/- A part of the proof: AbK. -/
import Derived.Test.YtgkiahgcgjigkaaDoorAbZ
set_option linter.all false
set_option linter.unusedVariables false
namespace Go.Ab
open Go.RowKit
def Ent(P:Program)(g:FuncId):Prop:=∀(args:Array Value) (w:World),(callFunc g args).run P w=.ok (.enter g args) w
def PC(P:Program)(g:FuncId)(args:List AV)(r:AV):Prop:=
 Ent P g/\∀(I:Addr->Prop) (w:World) (vals:List Value),(∀ a,I a->a.block<w.heap.size)->JW w->RVs I noθ w args vals ->
  Calls P g vals.toArray w fun e w'=>∃ v,e=.returned v/\Below w.heap.size w w'/\RV (more I w w') noθ w' r v
mutual
def Fit:AV->Prop
 | .i k n=>k.min<=n/\n<=k.max
 | .s x=>x.size<=LIM
 | .agg cs=>FitL cs
 | .tup cs=>FitL cs
 | .sl _ _ els=>els.length<=LIM/\FitE els
 | .ip _ cs=>FitL cs
 | .fn _ a b=>FitL a/\FitL b
 | .u=>True
 | .b _=>True
 | .nils=>True
 | .row _=>True
 | .ptr _ _=>True
 | .rptr _ _ _ _=>True
 | .nilp=>True
 | .nilf=>True
 | .nili=>True
 | .ub=>True
 | .rv _ _ _ _=>True
 | .mv _ es=>es.length<=LIM/\FitE es
def FitL:List AV->Prop
 | []=>True
 | c::cs=>Fit c/\FitL cs
def FitE:List (List AV)->Prop
 | []=>True
 | c::cs=>FitL c/\FitE cs
end
section
variable {I:Addr->Prop} {θ:Nat->Option Value} {w:World}
mutual
theorem RV_fit:∀(x:AV) (v:Value),RV I θ w x v->Fit x
 | .u,_,_=>by simp[Fit]
 | .i k n,v,h=>by simp only[RV]at h;simp only[Fit];exact h.2
 | .b _,_,_=>by simp[Fit]
 | .s x,v,h=>by simp only[RV]at h;simp only[Fit];exact h.2
 | .agg cs,v,h=>by
  simp only[RV]at h
  obtain⟨vs,e,h0,h⟩:=h
  simp only[Fit];exact RVs_fit cs vs h
 | .tup cs,v,h=>by
  simp only[RV]at h
  obtain⟨vs,e,h⟩:=h
  simp only[Fit];exact RVs_fit cs vs h
 | .sl t sz els,v,h=>by
  simp only[RV]at h
  obtain⟨h0,a,cap,e,h1,h2,h3,h4,h5⟩:=h
  simp only[Fit]
  refine⟨h3,?_⟩
  by_cases hne:els=[]
  ·subst hne;simp[FitE]
  ·obtain⟨h6,h7,B,o,ea,h8⟩:=h5 hne
   exact RVe_fit els B o h8
 | .nils,_,_=>by simp[Fit]
 | .row _,_,_=>by simp[Fit]
 | .ptr _ _,_,_=>by simp[Fit]
 | .rptr _ _ _ _,_,_=>by simp[Fit]
 | .ip p cs,v,h=>by
  simp only[RV]at h
  obtain⟨h0,B,o,e,h,_⟩:=h
  simp only[Fit];exact RVc_fit cs B o h
 | .nilp,_,_=>by simp[Fit]
 | .fn f a b,v,h=>by
  simp only[RV]at h
  obtain⟨x,y,e,h1,h2⟩:=h
  simp only[Fit];exact⟨RVs_fit a x h1,RVs_fit b y h2⟩
 | .nilf,_,_=>by simp[Fit]
 | .nili,_,_=>by simp[Fit]
 | .ub,_,_=>by simp[Fit]
 | .rv _ _ _ _,_,_=>by simp[Fit]
 | .mv q es,v,h=>by
  simp only[RV]at h
  obtain⟨_,_,h1,⟨_,rfl⟩|⟨B,ents,c,_,_,_,h2⟩⟩:=h
  ·simp[Fit,FitE]
  ·simp only[Fit];exact⟨h1,RVm_fit es _ h2⟩
theorem RVs_fit:∀(x:List AV) (v:List Value),RVs I θ w x v->FitL x
 | [],_,_=>by simp[FitL]
 | c::cs,vs,h=>by
  simp only[RVs]at h
  obtain⟨v,r,e,h1,h2⟩:=h
  simp only[FitL];exact⟨RV_fit c v h1,RVs_fit cs r h2⟩
theorem RVc_fit:∀(x:List AV) (B o:Nat),RVc I θ w x B o->FitL x
 | [],_,_,_=>by simp[FitL]
 | c::cs,B,o,h=>by
  simp only[RVc]at h
  obtain⟨⟨_,v,_,_,h1⟩,h2⟩:=h
  simp only[FitL];exact⟨RV_fit c v h1,RVc_fit cs B (o+1) h2⟩
theorem RVe_fit:∀(x:List (List AV)) (B o:Nat),RVe I θ w x B o->FitE x
 | [],_,_,_=>by simp[FitE]
 | c::cs,B,o,h=>by
  simp only[RVe]at h
  simp only[FitE];exact⟨RVc_fit c B o h.1,RVe_fit cs B _ h.2⟩
theorem RVm_fit:∀(x:List (List AV)) (l:List MapEntry),RVm I θ w x l->FitE x
 | [],_,_=>by simp[FitE]
 | c::cs,l,h=>by
  simp only[RVm]at h
  obtain⟨e,r,_,h1,_,h2⟩:=h
  simp only[FitE];exact⟨RVs_fit c _ h1,RVm_fit cs r h2⟩
end
end
def selfΓ (Γ : Ctx) (I:Addr->Prop) (w:World) (H:List AB) (θ:Nat->Option Value):Ctx:=⟨w,I,fun k=>w.heap.size<=k\/∃ r,owns H θ r k,fun _ h=>.inl h,Γ.mkb⟩
theorem Sim.self{Γ : Ctx}{I:Addr->Prop}{θ:Nat->Option Value}{H:List AB}{w:World}(S:Sim Γ I θ H w):Sim (selfΓ Γ I w H θ) I θ H w:=
 ⟨⟨rfl,rfl,rfl,Nat.le_refl _,fun _ _ _=>rfl,S.below.w,fun g hg h=>h.elim (fun h=>absurd (JW_lt S.below.w g hg) (Nat.not_lt.2 h)) fun⟨r,h⟩=>S.below.jn g hg (S.own r g h)⟩,fun _ h=>h,fun _ h=>.inl h,S.ilt,S.box,S.row,S.sep,S.iso,S.dom,fun r _ h=>.inr ⟨r,h⟩,S.pin,S.map⟩
theorem Sim.back1{Γ : Ctx}{I I':Addr->Prop}{θ θ':Nat->Option Value}{H H':List AB}{w w':World}(S:Sim Γ I θ H w)(S':Sim (selfΓ Γ I w H θ) I' θ' H' w'):Sim Γ I' θ' H' w':=by
 have conv:∀ k,(selfΓ Γ I w H θ).own k->Γ.own k:=by
  rintro k (h|⟨r,h⟩)
  ·exact Γ.new k (Nat.le_trans S.below.size h)
  ·exact S.own r k h
 exact⟨S.below.step S'.below.os S'.below.tape S'.below.output S'.below.size (fun k hk hn=>S'.below.block k hk fun h=>hn (conv k h)),fun a h=>S'.i0 a (S.i0 a h),fun a h=>(S'.inew a h).elim (S.inew a) (fun h=>.inr (conv _ h)),S'.ilt,S'.box,S'.row,S'.sep,S'.iso,S'.dom,fun r B h=>conv _ (S'.own r B h),S'.pin,S'.map⟩
theorem owns_cells{Γ : Ctx}{I:Addr->Prop}{θ:Nat->Option Value}{H:List AB}{w:World}(S:Sim Γ I θ H w){r B:Nat}(h:owns H θ r B):∃ o,w.heap[B]? = some o/\datB o=true:=by
 obtain⟨⟨x,hx,hl⟩,v,hv,hb⟩:=h
 cases x with
 | gone=>simp[live]at hl
 | pin _ _=>simp[live]at hl
 | box t cs =>
  obtain⟨B',c,h1,h2,h3,_⟩:=S.box r t cs hx
  rw[hv]at h1
  obtain rfl:=Option.some.inj h1
  simp only[blk,Option.some.injEq]at hb
  subst hb
  exact⟨_,h3,rfl⟩
 | row e sz els =>
  obtain⟨v',xs,h1,h2,_⟩:=S.row r e sz els hx
  rw[hv]at h1
  obtain rfl:=Option.some.inj h1
  rcases h2.2 with⟨rfl,_⟩|⟨g,cap,cur,rfl,_,hg,_⟩
  ·cases hb
  ·simp only[blk,Option.some.injEq]at hb
   subst hb
   exact⟨_,hg,rfl⟩
 | map q es =>
  obtain⟨B',ents,c,h1,h3,_⟩:=S.map r q es hx
  rw[hv]at h1
  obtain rfl:=Option.some.inj h1
  simp only[blk,Option.some.injEq]at hb
  subst hb
  exact⟨_,h3,rfl⟩
structure Mk(Γ : Ctx)(ds:List Deferred)(w:World):Prop where
 nd:ds.Nodup
 at_:∀ d∈ds,∃ D,d={ target:=.collected D,args:=#[] }/\Γ.mkb<=D/\w.heap[D]? = some (.deferred (some []))
theorem Mk.nil(Γ : Ctx)(w:World):Mk Γ [] w:=⟨List.nodup_nil,fun d h=>by cases h⟩
theorem Mk.step{Γ : Ctx}{ds:List Deferred}{w w':World}(h:Mk Γ ds w)(hk:∀(k:Nat) (o:Obj),w.heap[k]? = some o->datB o=false->w'.heap[k]? = some o):Mk Γ ds w':=
 ⟨h.nd,fun d hd=>by
  obtain⟨D,h1,h2,h3⟩:=h.at_ d hd
  exact⟨D,h1,h2,hk D _ h3 rfl⟩⟩
theorem Sim.others{Γ : Ctx}{I I':Addr->Prop}{θ θ':Nat->Option Value}{H H':List AB}{w w':World}(S:Sim Γ I θ H w)(S':Sim (selfΓ Γ I w H θ) I' θ' H' w')(k:Nat)(o:Obj)(h:w.heap[k]? = some o)(ho:datB o=false):w'.heap[k]? = some o:=by
 have hlt:=(Array.getElem?_eq_some_iff.1 h).1
 refine(S'.below.block k hlt ?_).trans h
 rintro(h1|⟨r,h1⟩)
 ·exact absurd hlt (Nat.not_lt.2 h1)
 ·obtain⟨o',h2,h3⟩:=owns_cells S h1
  rw[h]at h2
  obtain rfl:=Option.some.inj h2
  rw[ho]at h3;cases h3
structure Good(Γ : Ctx)(N:Nat)(st:AS)(a:Act)(w:World):Prop where
 ex:∃ I θ,Sim Γ I θ st.H w/\Rel I θ w st.T a
 size:a.tmps.size=N
 defers:Mk Γ a.defers w
theorem Good.of{Γ : Ctx}{N:Nat}{I:Addr->Prop}{θ:Nat->Option Value}{H:List AB}{ds:List Deferred}{w w':World}{st':AS}{a':Act}(S:Sim Γ I θ H w)(hd:Mk Γ ds w)
  (h:∃ I' θ',Sim (selfΓ Γ I w H θ) I' θ' st'.H w'/\Rel I' θ' w' st'.T a') (hs:a'.tmps.size=N) (he:a'.defers=ds):Good Γ N st' a' w':=by
 obtain⟨I',θ',S',hR⟩:=h
 exact⟨⟨I',θ',S.back1 S',hR⟩,hs,he ▸ hd.step (S.others S')⟩
structure FitS(st:AS):Prop where
 t:∀ n,Fit (lk st.T n)
 b:∀(r:Nat) (t:TypeId) (cs:List AV),st.H[r]? = some (AB.box t cs)->FitL cs
 r:∀(r:Nat) (e:TypeId) (sz:Nat) (els:List (List AV)),st.H[r]? = some (AB.row e sz els)->els.length<=LIM/\FitL els.flatten
theorem Good.fit{Γ : Ctx}{N:Nat}{st:AS}{a:Act}{w:World}(G:Good Γ N st a w):FitS st:=by
 obtain⟨I,θ,S,hR⟩:=G.ex
 refine⟨fun n=>RV_fit _ _ (hR n),fun r t cs h=>?_,fun r e sz els h=>?_⟩
 ·obtain⟨B,c,h1,h2,h3,h4,h5⟩:=S.box r t cs h
  exact RVs_fit _ _ h5
 ·obtain⟨v,xs,h1,h2,h3,h4,h5,h6,h7⟩:=S.row r e sz els h
  exact⟨h7,RVs_fit _ _ h4⟩
def Wks(s s':AS):Prop:=∀ Γ N a w,Good Γ N s a w->Good Γ N s' a w
theorem Wks.refl(s:AS):Wks s s:=fun _ _ _ _ h=>h
theorem Wks.trans{a b c:AS}(h:Wks a b)(k:Wks b c):Wks a c:=fun _ _ _ _ g=>k _ _ _ _ (h _ _ _ _ g)
def freshΓ (I:Addr->Prop) (w:World):Ctx:=⟨w,I,fun k=>w.heap.size<=k,fun _ h=>h,w.heap.size⟩
def PR(P:Program)(g:FuncId)(args:List AV)(Hr:List AB)(r:AV):Prop:=
 Ent P g/\∀(I:Addr->Prop) (w:World) (vals:List Value),(∀ a,I a->a.block<w.heap.size)->JW w->RVs I noθ w args vals ->
  Calls P g vals.toArray w fun e w'=>∃ v I' θ',e=.returned v/\Sim (freshΓ I w) I' θ' Hr w'/\RV I' θ' w' r v
def PG(P:Program)(g:FuncId)(Hin:List AB)(args:List AV)(Hout:List AB)(r:AV):Prop:=
 Ent P g/\∀(I:Addr->Prop) (θ:Nat->Option Value) (w:World) (vals:List Value),Sim (lentΓ I w Hin θ) I θ Hin w->RVs I θ w args vals ->
  Calls P g vals.toArray w fun e w'=>∃ v I' θ',e=.returned v/\Sim (lentΓ I w Hin θ) I' θ' Hout w'/\RV I' θ' w' r v
inductive Ex where
 | normal
 | exit (id:Nat)
 | ret
def Ex.to:Ex->Exit
 | .normal=>.normal
 | .exit id=>.exit id
 | .ret=>.ret
def optK{α:Type}:Option α->(α->Prop)->Prop
 | some x,k=>k x
 | none,_=>False
def callK(P:Program)(c:AV)(args:List AV)(k:AV->Prop):Prop:=
 ∃ g first caps as y,c=.fn (.func g) first caps/\WkL (first++args++caps) as/\pureL as=true/\PC P g as y/\k y
mutual
def flatB:AV->Bool
 | .i _ _=>true
 | .b _=>true
 | .s _=>true
 | .agg cs=>flatL cs
 | .tup cs=>flatL cs
 | .nils=>true
 | .nilp=>true
 | .nilf=>true
 | .nili=>true
 | .u=>false
 | .sl _ _ _=>false
 | .row _=>false
 | .ptr _ _=>false
 | .rptr _ _ _ _=>false
 | .ip _ _=>false
 | .fn _ _ _=>false
 | .ub=>false
 | .rv _ _ _ _=>false
 | .mv _ _=>false
def flatL:List AV->Bool
 | []=>true
 | c::cs=>flatB c && flatL cs
end
def callR(P:Program)(H:List AB)(c:AV)(args:List AV)(k:List AB->AV->Prop):Prop:=
 ∃ g first caps as Hr y,c=.fn (.func g) first caps/\(WkL (first++args++caps) as/\pureL as=true\/FZL H (first++args++caps) as/\flatB y=true/\Hr=[])/\PR P g as Hr y/\k Hr y
def rnT(f:Nat->Option Nat):List (Nat×AV)->List (Nat×AV)
 | []=>[]
 | (k,v)::l=>(k,rn f v)::rnT f l
theorem rnT_lk{f:Nat->Option Nat}{n:Nat}:∀(T:List (Nat×AV)),lk (rnT f T) n=rn f (lk T n)
 | []=>rfl
 | (k,v)::l=>by
  simp only[rnT,lk,rnT_lk l]
  cases n == k<;>rfl
def isBoxB:Option AB->Bool
 | some (.box _ _)=>true
 | some (.row _ _ _)=>true
 | some (.map _ _)=>true
 | _=>false
def backS(sel pins:List Nat)(Hout extra:List AB)(st:AS):AS:=⟨rnT (keepN sel pins) st.T,updH sel Hout (bkN sel st.H.length extra.length) (keepN sel pins) 0 st.H++extra.map (rnB (bkN sel st.H.length extra.length))⟩
def lendOk(sel pins:List Nat)(H Hin Hout:List AB):Prop:=sel.Nodup/\(∀ s∈sel,s<H.length)/\HL (selH sel H) Hin/\Hin.length=sel.length/\Hout.length=sel.length/\∀ k∈pins,isBoxB (Hin[k]?)=true
def callG(P:Program)(st:AS)(c:AV)(args:List AV)(k:AS->AV->Prop):Prop:=
 ∃ g first caps as sel pins Hin Hout extra y,c=.fn (.func g) first caps/\lendOk sel pins st.H Hin Hout/\LEL (rnL (posL sel) (first++args++caps)) as/\(∀ B,PG P g (Hin++pinsOf B pins) as (Hout++(extra++pinsOf B pins)) y) /\
  k (backS sel pins Hout extra st) (rn (bkN sel st.H.length extra.length) y)
def callO(P:Program)(st:AS)(c:AV)(args:List AV)(k:AS->AV->Prop):Prop:=
 ∃ g first caps as extra y,c=.fn (.func g) first caps/\LEL (rnL (posL []) (first++args++caps)) as/\(∀ B,PG P g ([]++pinsOf B []) as ([]++(extra++pinsOf B [])) y)/\k (backS [] [] [] extra st) (rn (bkN [] st.H.length extra.length) y)
theorem callO_G{P:Program}{st:AS}{c:AV}{args:List AV}{k:AS->AV->Prop}(h:callO P st c args k):callG P st c args k:=by
 obtain⟨g,first,caps,as,extra,y,h1,h2,h3,h4⟩:=h
 exact⟨g,first,caps,as,[],[],[],[],extra,y,h1,⟨List.nodup_nil,by simp,.nil _,rfl,rfl,by simp⟩,h2,h3,h4⟩
def gdW(w:Bool):AV->Option Bool
 | .b x=>some (x == w)
 | .tup []=>some false
 | _=>none
def gdK(x:AV)(w:Bool)(A B:Prop):Prop:=(gdW w x=some true/\A)\/(gdW w x=some false/\B)
def wp1(P:Program):SOp->AS->(AS->Prop)->Prop
 | .op d k,st,Q=>optK (sv st d k) Q
 | .call d c args,st,Q=>callK P (st.ev c) (args.map st.ev) (fun y=>Q (put st d y))
 | .callr d c args,st,Q=>callR P st.H (st.ev c) (args.map st.ev) (fun Hr y=>Q (put ⟨st.T,st.H++Hr.map (shB st.H.length)⟩ d (sh st.H.length y)))\/callG P st (st.ev c) (args.map st.ev) (fun s y=>Q (put s d y))
 | .callo d c args,st,Q=>callO P st (st.ev c) (args.map st.ev) (fun s y=>Q (put s d y))
 | .gd g w d o,st,Q=>gdK (lk st.T g) w (wp1 P o st Q) (Q (put st d (.tup [])))
 | .wk o,st,Q=>∃ s,Wks st s/\wp1 P o s Q
def wpo(P:Program):List SOp->AS->(AS->Prop)->Prop
 | [],st,Q=>Q st
 | o::r,st,Q=>wp1 P o st (fun st'=>wpo P r st' Q)
def dstOk(N:Nat):Option Nat->Bool
 | some d=>decide (d<N)
 | none=>true
def sopOk(P:Program)(N:Nat)(o:Oper):SOp->Bool
 | .op d k=>o.dst == d && dstOk N d && opOk P o k
 | .call d c args=>o.dst == d && dstOk N d && (match o.op with
  | .call cc=>match cc.callee with
   | .value f=>opdOk f c && opdsOk cc.args.toList args
   | _=>false
  | _=>false)
 | .callr d c args=>o.dst == d && dstOk N d && (match o.op with
  | .call cc=>match cc.callee with
   | .value f=>opdOk f c && opdsOk cc.args.toList args
   | _=>false
  | _=>false)
 | .callo d c args=>o.dst == d && dstOk N d && (match o.op with
  | .call cc=>match cc.callee with
   | .value f=>opdOk f c && opdsOk cc.args.toList args
   | _=>false
  | _=>false)
 | .gd _ _ _ _=>false
 | .wk so=>sopOk P N o so
def gdOk(P:Program)(N:Nat)(all:Array Oper)(o:Oper)(so:SOp):Bool:=
 match o.guard with
 | none=>sopOk P N o so
 | some (j,want)=>match so with
  | .gd g w d o'=>(all[j]?).bind (·.dst) == some g && want == w && o.dst == d && dstOk N d && sopOk P N o o'
  | _=>false
def opsOk(P:Program)(N:Nat)(all:Array Oper):List Oper->List SOp->Bool
 | [],[]=>true
 | o::os,so::sos=>gdOk P N all o so && opsOk P N all os sos
 | _,_=>false
theorem put_size(a:Act)(d:Option Nat)(v:Value):(a.put d v).tmps.size=a.tmps.size/\(a.put d v).defers=a.defers:=by
 cases d<;>simp[Act.put]
section
variable {I:Addr->Prop} {θ θ':Nat->Option Value} {w:World} {n:Nat}
mutual
theorem RV_sh(hθ:∀ q v,θ q=some v->θ' (n+q)=some v):∀(x:AV) (v:Value),RV I θ w x v->RV I θ' w (sh n x) v
 | .u,_,_=>by simp[RV,sh]
 | .i _ _,_,h=>by simpa [RV,sh] using h
 | .b _,_,h=>by simpa [RV,sh] using h
 | .s _,_,h=>by simpa [RV,sh] using h
 | .agg cs,v,h=>by
  simp only[RV,sh]at h ⊢
  obtain⟨vs,e,h0,h⟩:=h
  exact⟨vs,e,h0,RVs_sh hθ cs vs h⟩
 | .tup cs,v,h=>by
  simp only[RV,sh]at h ⊢
  obtain⟨vs,e,h⟩:=h
  exact⟨vs,e,RVs_sh hθ cs vs h⟩
 | .sl t sz els,v,h=>by
  have hp:pureB (.sl t sz els)=true:=by simp only[RV]at h;simpa [pureB] using h.1
  exact RV_pure (fun _ h=>h) (fun _ _=>Same.refl _ _) _ v hp h
 | .nils,_,h=>by simpa [RV,sh] using h
 | .row r,v,h=>by
  simp only[RV,sh]at h ⊢
  exact⟨hθ _ _ h.1,h.2⟩
 | .ptr r j,v,h=>by
  simp only[RV,sh]at h ⊢
  obtain⟨B,h1,h2⟩:=h
  exact⟨B,hθ _ _ h1,h2⟩
 | .rptr r sz i j,v,h=>by
  simp only[RV,sh]at h ⊢
  obtain⟨B,l,c,h1,h2⟩:=h
  exact⟨B,l,c,hθ _ _ h1,h2⟩
 | .ip p cs,v,h=>by
  have hp:pureB (.ip p cs)=true:=by simp only[RV]at h;simpa [pureB] using h.1
  exact RV_pure (fun _ h=>h) (fun _ _=>Same.refl _ _) _ v hp h
 | .nilp,_,h=>by simpa [RV,sh] using h
 | .fn f a b,v,h=>by
  simp only[RV,sh]at h ⊢
  obtain⟨x,y,e,h1,h2⟩:=h
  exact⟨x,y,e,RVs_sh hθ a x h1,RVs_sh hθ b y h2⟩
 | .nilf,_,h=>by simpa [RV,sh] using h
 | .nili,_,h=>by simpa [RV,sh] using h
 | .ub,_,h=>by simpa [RV,sh] using h
 | .rv r sz lo n,v,h=>by
  simp only[RV,sh]at h ⊢
  obtain⟨a,l,c,h1,h2⟩:=h
  exact⟨a,l,c,hθ _ _ h1,h2⟩
 | .mv q es,v,h=>by
  have hp:pureB (.mv q es)=true:=by simp only[RV]at h;simpa [pureB] using h.1
  exact RV_pure (fun _ h=>h) (fun _ _=>Same.refl _ _) _ v hp h
theorem RVs_sh(hθ:∀ q v,θ q=some v->θ' (n+q)=some v):∀(xs:List AV) (vs:List Value),RVs I θ w xs vs->RVs I θ' w (shL n xs) vs
 | [],_,h=>by simpa [RVs,shL] using h
 | c::cs,vs,h=>by
  simp only[RVs,shL]at h ⊢
  obtain⟨v,r,e,h1,h2⟩:=h
  exact⟨v,r,e,RV_sh hθ c v h1,RVs_sh hθ cs r h2⟩
end
mutual
theorem RV_flat{I I':Addr->Prop}{θ θ':Nat->Option Value}{w w':World}(n:Nat):∀(x:AV) (v:Value),flatB x=true->RV I θ w x v->RV I' θ' w' (sh n x) v
 | .u,_,hp,_=>by simp[flatB]at hp
 | .i _ _,_,_,h=>by simpa [RV,sh] using h
 | .b _,_,_,h=>by simpa [RV,sh] using h
 | .s _,_,_,h=>by simpa [RV,sh] using h
 | .agg cs,v,hp,h=>by
  simp only[RV,flatB,sh]at h hp ⊢
  obtain⟨vs,e,h0,h⟩:=h
  exact⟨vs,e,h0,RVs_flat n cs vs hp h⟩
 | .tup cs,v,hp,h=>by
  simp only[RV,flatB,sh]at h hp ⊢
  obtain⟨vs,e,h⟩:=h
  exact⟨vs,e,RVs_flat n cs vs hp h⟩
 | .sl _ _ _,_,hp,_=>by simp[flatB]at hp
 | .nils,_,_,h=>by simpa [RV,sh] using h
 | .row _,_,hp,_=>by simp[flatB]at hp
 | .ptr _ _,_,hp,_=>by simp[flatB]at hp
 | .rptr _ _ _ _,_,hp,_=>by simp[flatB]at hp
 | .ip _ _,_,hp,_=>by simp[flatB]at hp
 | .nilp,_,_,h=>by simpa [RV,sh] using h
 | .fn _ _ _,_,hp,_=>by simp[flatB]at hp
 | .nilf,_,_,h=>by simpa [RV,sh] using h
 | .nili,_,_,h=>by simpa [RV,sh] using h
 | .ub,_,hp,_=>by simp[flatB]at hp
 | .rv _ _ _ _,_,hp,_=>by simp[flatB]at hp
 | .mv _ _,_,hp,_=>by simp[flatB]at hp
theorem RVs_flat{I I':Addr->Prop}{θ θ':Nat->Option Value}{w w':World}(n:Nat):∀(xs:List AV) (vs:List Value),flatL xs=true->RVs I θ w xs vs->RVs I' θ' w' (shL n xs) vs
 | [],_,_,h=>by simpa [RVs,shL] using h
 | c::cs,vs,hp,h=>by
  simp only[RVs,flatL,shL,Bool.and_eq_true]at h hp ⊢
  obtain⟨v,r,e,h1,h2⟩:=h
  exact⟨v,r,e,RV_flat n c v hp.1 h1,RVs_flat n cs r hp.2 h2⟩
end
theorem shL_app:∀(a b:List AV),shL n (a++b)=shL n a++shL n b
 | [],b=>rfl
 | x::a,b=>by simp[shL,shL_app a b]
theorem shL_len:∀(a:List AV),(shL n a).length=a.length
 | []=>rfl
 | x::a=>by simp[shL,shL_len a]
theorem shE_flat:∀(els:List (List AV)),(shE n els).flatten=shL n els.flatten
 | []=>rfl
 | c::cs=>by simp[shE,shL_app,shE_flat cs]
theorem shE_len:∀(els:List (List AV)),(shE n els).length=els.length
 | []=>rfl
 | c::cs=>by simp[shE,shE_len cs]
theorem shE_mem{sz:Nat}:∀ {els:List (List AV)},(∀ el∈els,el.length=sz)->∀ el∈shE n els,el.length=sz
 | [],_,el,h=>by simp[shE]at h
 | c::cs,hl,el,h=>by
  simp only[shE,List.mem_cons]at h
  rcases h with rfl|h
  ·rw[shL_len];exact hl c (List.mem_cons_self ..)
  ·exact shE_mem (fun e he=>hl e (List.mem_cons_of_mem _ he)) el h
end
theorem Sim.joined{Γ : Ctx}{I I':Addr->Prop}{θ θ2:Nat->Option Value}{H Hr:List AB}{w w':World}(S:Sim Γ I θ H w)(S2:Sim (freshΓ I w) I' θ2 Hr w') :
  ∃ θ'',Sim Γ I' θ'' (H++Hr.map (shB H.length)) w'/\(∀ x v,RV I θ w x v->RV I' θ'' w' x v)/\(∀ x v,RV I' θ2 w' x v->RV I' θ'' w' (sh H.length x) v):=by
 have hbl:∀ k,k<w.heap.size->w'.heap[k]? = w.heap[k]?:=fun k hk=>S2.below.block k hk (Nat.not_le.2 hk)
 have hII:∀ a,I a->I' a:=S2.i0
 have hc:∀ b,I b->Same w' w b:=fun b h=>Same.of (hbl _ (S.ilt b h))
 have hsz:w.heap.size<=w'.heap.size:=S2.below.size
 let θ'':Nat->Option Value:=fun q=>if q<H.length then θ q else θ2 (q-H.length)
 have h1:∀ q v,θ q=some v->θ'' q=some v:=by
  intro q v h
  have:q<H.length:=Nat.lt_of_not_le fun hle=>by rw[S.dom q hle]at h;cases h
  simp only[θ'',if_pos this,h]
 have h2:∀ q v,θ2 q=some v->θ'' (H.length+q)=some v:=by
  intro q v h
  have e1:¬ H.length+q<H.length:=by omega
  have e2:H.length+q-H.length=q:=by omega
  simp only[θ'',if_neg e1,e2,h]
 have hrv:∀ x v,RV I θ w x v->RV I' θ'' w' x v:=fun x v h=>RV_mono hII hc h1 x v h
 have hrvs:∀ x v,RVs I θ w x v->RVs I' θ'' w' x v:=fun x v h=>RVs_mono hII hc h1 x v h
 have hget:∀ q x,(H++Hr.map (shB H.length))[q]? = some x->(q<H.length/\H[q]? = some x)\/∃ p y,q=H.length+p/\Hr[p]? = some y/\x=shB H.length y:=by
  intro q x h
  by_cases hq:q<H.length
  ·rw[List.getElem?_append_left hq]at h;exact .inl ⟨hq,h⟩
  ·rw[List.getElem?_append_right (by omega),List.getElem?_map]at h
   obtain⟨y,hy,rfl⟩:=Option.map_eq_some_iff.1 h
   exact .inr ⟨q-H.length,y,by omega,hy,rfl⟩
 have hlive:∀ y,live (shB H.length y)=live y:=fun y=>by cases y<;>rfl
 have howns:∀ q B,owns (H++Hr.map (shB H.length)) θ'' q B->(q<H.length/\owns H θ q B)\/∃ p,q=H.length+p/\owns Hr θ2 p B:=by
  rintro q B ⟨⟨x,hx,hl⟩,v,hv,hb⟩
  rcases hget q x hx with⟨hq,hx⟩|⟨p,y,rfl,hy,rfl⟩
  ·simp only[θ'',if_pos hq]at hv
   exact .inl ⟨hq,⟨x,hx,hl⟩,v,hv,hb⟩
  ·have e1:¬ H.length+p<H.length:=by omega
   have e2:H.length+p-H.length=p:=by omega
   simp only[θ'',if_neg e1,e2]at hv
   exact .inr ⟨p,rfl,⟨y,hy,by rwa [hlive]at hl⟩,v,hv,hb⟩
 have hold:∀ q B,owns H θ q B->B<w.heap.size:=fun q B h=>(owns_lt S h).2
 have hnew:∀ q B,owns Hr θ2 q B->w.heap.size<=B:=fun q B h=>S2.own q B h
 refine⟨θ'',⟨S.below.step S2.below.os S2.below.tape S2.below.output hsz (fun k hk _=>hbl k hk),fun a h=>hII a (S.i0 a h),?_,S2.ilt,?_,?_,?_,?_,?_,?_,?_,?_⟩,hrv,fun x v h=>RV_sh h2 x v h⟩
 ·intro a h
  rcases S2.inew a h with h|h
  ·exact S.inew a h
  ·exact .inr (Γ.new _ (Nat.le_trans S.below.size h))
 ·intro r t cs h
  rcases hget r _ h with⟨hq,hx⟩|⟨p,y,rfl,hy,e⟩
  ·obtain⟨B,c,k1,k2,k3,k4,k5⟩:=S.box r t cs hx
   exact⟨B,c,h1 _ _ k1,k2,(hbl B (Array.getElem?_eq_some_iff.1 k3).1).trans k3,k4,hrvs _ _ k5⟩
  ·cases y<;>simp only[shB,reduceCtorEq,AB.box.injEq]at e
   obtain⟨rfl,rfl⟩:=e
   obtain⟨B,c,k1,k2,k3,k4,k5⟩:=S2.box p _ _ hy
   exact⟨B,c,h2 _ _ k1,k2,k3,k4,RVs_sh h2 _ _ k5⟩
 ·intro r e sz els h
  rcases hget r _ h with⟨hq,hx⟩|⟨p,y,rfl,hy,ee⟩
  ·obtain⟨v,xs,k1,k2,k3,k4,k5⟩:=S.row r e sz els hx
   refine⟨v,xs,h1 _ _ k1,k2.kept (row:=none) ⟨S2.below.os,S2.below.tape,S2.below.output,hsz,fun k hk _=>hbl k hk⟩ ?_,k3,hrvs _ _ k4,k5⟩
   cases v.ownBlock<;>simp
  ·cases y<;>simp only[shB,reduceCtorEq,AB.row.injEq]at ee
   obtain⟨rfl,rfl,rfl⟩:=ee
   obtain⟨v,xs,k1,k2,k3,k4,k5,k6,k7⟩:=S2.row p _ _ _ hy
   exact⟨v,xs,h2 _ _ k1,by rw[shE_len];exact k2,k3,by rw[shE_flat];exact RVs_sh h2 _ _ k4,shE_mem k5,k6,by rw[shE_len];exact k7⟩
 ·intro r q B hne hr hq
  rcases howns r B hr with⟨a1,a2⟩|⟨p,a1,a2⟩<;>rcases howns q B hq with⟨b1,b2⟩|⟨p',b1,b2⟩
  ·exact S.sep r q B hne a2 b2
  ·have:=hold _ _ a2;have:=hnew _ _ b2;omega
  ·have:=hold _ _ b2;have:=hnew _ _ a2;omega
  ·exact S2.sep p p' B (by omega) a2 b2
 ·intro a r h ho
  rcases howns r _ ho with⟨a1,a2⟩|⟨p,a1,a2⟩
  ·rcases S2.inew a h with h|h
   ·exact S.iso a r h a2
   ·have:=hold _ _ a2
    have h':w.heap.size<=a.block:=h
    omega
  ·exact S2.iso a p h a2
 ·intro q hq
  simp only[List.length_append,List.length_map]at hq
  have e1:¬ q<H.length:=by omega
  simp only[θ'',if_neg e1]
  exact S2.dom _ (by omega)
 ·intro r B ho
  rcases howns r B ho with⟨_,a2⟩|⟨_,_,a2⟩
  ·exact S.own r B a2
  ·exact Γ.new B (Nat.le_trans S.below.size (hnew _ _ a2))
 ·intro q r B h
  rcases hget q _ h with⟨hq,hx⟩|⟨p,y,rfl,hy,e⟩
  ·exact h1 _ _ (S.pin q r B hx)
  ·cases y<;>simp only[shB,reduceCtorEq,AB.pin.injEq]at e
   obtain⟨rfl,rfl⟩:=e
   exact h2 _ _ (S2.pin p _ _ hy)
 ·intro r q es h
  rcases hget r _ h with⟨hq,hx⟩|⟨p,y,rfl,hy,e⟩
  ·exact(S.map r q es hx).mono hII hc (h1 r) (fun B o _ k=>(hbl B (Array.getElem?_eq_some_iff.1 k).1).trans k)
  ·cases y<;>simp only[shB,reduceCtorEq,AB.map.injEq]at e
   obtain⟨rfl,rfl⟩:=e
   exact(S2.map p _ _ hy).mono (fun _ h=>h) (fun _ _=>Same.refl _ _) (h2 p) (fun _ _ _ h=>h)
section
variable {P:Program} {Γ : Ctx} {N:Nat} {w:World} {st:AS} {a:Act} {o:Oper}
theorem call_sound{c:Opd}{args:List Opd}{d:Option Nat}(G:Good Γ N st a w)(hk:sopOk P N o (.call d c args)=true){Q:AS->Prop}(h:callK P (st.ev c) (args.map st.ev) (fun y=>Q (put st d y)))
  {K:Act->World->Prop} {E:Exit->Act->World->Prop} (hK:∀ a' w' st',Q st'->Good Γ N st' a' w'->K a' w'):o.wp P a w K E:=by
 simp only[sopOk,Bool.and_eq_true,beq_iff_eq]at hk
 obtain⟨⟨hd,hdN⟩,hk⟩:=hk
 split at hk
 ·rename_i cc hcc
  split at hk
  ·rename_i f hf
   simp only[Bool.and_eq_true]at hk
   obtain⟨I,θ,S0,hR⟩:=G.ex
   have S:=S0.self
   obtain⟨g,first,caps,as,y,hc,hwk,hp,⟨hent,hpc⟩,hQ⟩:=h
   have h1:=opd_rv hR hk.1
   rw[hc]at h1
   simp only[RV]at h1
   obtain⟨x1,x2,e1,h2,h3⟩:=h1
   have h4:=opds_rv (fun x x' h=>opd_rv hR h) hk.2
   have h5:=hwk I θ w _ (RVs_append (RVs_append h2 h4) h3)
   have h6:RVs I noθ w as (x1++cc.args.toList.map a.eval++x2):=RVs_pure (fun _ h=>h) (fun _ _=>Same.refl _ _) _ _ hp h5
   have hrun:(execOp a.eval o).run P w=.ok (.enter g (x1++cc.args.toList.map a.eval++x2).toArray) w:=by
    have:=hent (x1++cc.args.toList.map a.eval++x2).toArray w
    have e:x1.toArray++cc.args.map a.eval++x2.toArray=(x1++cc.args.toList.map a.eval++x2).toArray:=by
     apply Array.ext'
     simp
    simp only[execOp,hcc,resolve,hf,e1,Deferred.ofValue,Sem.run_bind,Sem.run_pure,Result.andThen_ok,invoke,e,this]
   unfold Oper.wp
   rw[hrun,Oper.upon_enter]
   refine(hpc I w _ S.ilt S.below.w h6).mono ?_
   rintro e w' ⟨v,rfl,hb,hv⟩
   obtain⟨S',hm⟩:=S.called hb
   have hv':RV (more I w w') θ w' y v:=RV_mono (fun _ h=>h) (fun _ _=>Same.refl _ _) (fun _ _ h=>by simp[noθ]at h) y v hv
   refine hK _ _ _ hQ (Good.of S0 G.defers ⟨more I w w',θ,?_,?_⟩ (by rw[(put_size ..).1];exact G.size) (put_size ..).2)
   ·cases d<;>exact S'
   ·rw[hd]
    refine Rel.put (hR.mono hm) d ?_ hv'
    intro k hk
    subst hk
    simpa [dstOk,G.size] using hdN
  ·cases hk
 ·cases hk
theorem callr_sound{c:Opd}{args:List Opd}{d:Option Nat}(G:Good Γ N st a w)(hk:sopOk P N o (.callr d c args)=true){Q:AS->Prop}(h:callR P st.H (st.ev c) (args.map st.ev) (fun Hr y=>Q (put ⟨st.T,st.H++Hr.map (shB st.H.length)⟩ d (sh st.H.length y))))
  {K:Act->World->Prop} {E:Exit->Act->World->Prop} (hK:∀ a' w' st',Q st'->Good Γ N st' a' w'->K a' w'):o.wp P a w K E:=by
 simp only[sopOk,Bool.and_eq_true,beq_iff_eq]at hk
 obtain⟨⟨hd,hdN⟩,hk⟩:=hk
 split at hk
 ·rename_i cc hcc
  split at hk
  ·rename_i f hf
   simp only[Bool.and_eq_true]at hk
   obtain⟨I,θ,S0,hR⟩:=G.ex
   have S:=S0.self
   obtain⟨g,first,caps,as,Hr,y,hc,hmode,⟨hent,hpc⟩,hQ⟩:=h
   have h1:=opd_rv hR hk.1
   rw[hc]at h1
   simp only[RV]at h1
   obtain⟨x1,x2,e1,h2,h3⟩:=h1
   have h4:=opds_rv (fun x x' h=>opd_rv hR h) hk.2
   have h5:=RVs_append (RVs_append h2 h4) h3
   have hrun:(execOp a.eval o).run P w=.ok (.enter g (x1++cc.args.toList.map a.eval++x2).toArray) w:=by
    have:=hent (x1++cc.args.toList.map a.eval++x2).toArray w
    have e:x1.toArray++cc.args.map a.eval++x2.toArray=(x1++cc.args.toList.map a.eval++x2).toArray:=by
     apply Array.ext'
     simp
    simp only[execOp,hcc,resolve,hf,e1,Deferred.ofValue,Sem.run_bind,Sem.run_pure,Result.andThen_ok,invoke,e,this]
   unfold Oper.wp
   rw[hrun,Oper.upon_enter]
   rcases hmode with⟨hwk,hp⟩|⟨hfz,hfl,rfl⟩
   rotate_left
   ·refine(hpc (Iall (selfΓ Γ I w st.H θ) I w) w _ (fun b hb=>hb.elim (S.ilt b) (·.2)) S.below.w (hfz.rvs S h5)).mono ?_
    rintro e w' ⟨v,I',θ',rfl,S2,hv⟩
    obtain⟨S',hm⟩:=S.called (w':=w') ⟨S2.below.os,S2.below.tape,S2.below.output,S2.below.size,fun k hk=>S2.below.block k hk (Nat.not_le.2 hk)⟩
    refine hK _ _ _ hQ (Good.of S0 G.defers ⟨more I w w',θ,?_,?_⟩ (by rw[(put_size ..).1];exact G.size) (put_size ..).2)
    ·cases d<;>simpa [put] using S'
    ·rw[hd]
     refine Rel.put (st:=⟨st.T,st.H++[].map (shB st.H.length)⟩) (hR.mono hm) d ?_ (RV_flat _ _ _ hfl hv)
     intro k hk
     subst hk
     simpa [dstOk,G.size] using hdN
   have h6:RVs I noθ w as (x1++cc.args.toList.map a.eval++x2):=RVs_pure (fun _ h=>h) (fun _ _=>Same.refl _ _) _ _ hp (hwk I θ w _ h5)
   refine(hpc I w _ S.ilt S.below.w h6).mono ?_
   rintro e w' ⟨v,I',θ',rfl,S2,hv⟩
   obtain⟨θ'',S',hm,hs⟩:=S.joined S2
   refine hK _ _ _ hQ (Good.of S0 G.defers ⟨I',θ'',?_,?_⟩ (by rw[(put_size ..).1];exact G.size) (put_size ..).2)
   ·cases d<;>exact S'
   ·rw[hd]
    refine Rel.put (st:=⟨st.T,st.H++Hr.map (shB st.H.length)⟩) (fun n=>hm _ _ (hR n)) d ?_ (hs _ _ hv)
    intro k hk
    subst hk
    simpa [dstOk,G.size] using hdN
  ·cases hk
 ·cases hk
theorem callg_sound{c:Opd}{args:List Opd}{d:Option Nat}(G:Good Γ N st a w)(hk:sopOk P N o (.callr d c args)=true){Q:AS->Prop}(h:callG P st (st.ev c) (args.map st.ev) (fun s y=>Q (put s d y)))
  {K:Act->World->Prop} {E:Exit->Act->World->Prop} (hK:∀ a' w' st',Q st'->Good Γ N st' a' w'->K a' w'):o.wp P a w K E:=by
 simp only[sopOk,Bool.and_eq_true,beq_iff_eq]at hk
 obtain⟨⟨hd,hdN⟩,hk⟩:=hk
 split at hk
 ·rename_i cc hcc
  split at hk
  ·rename_i f hf
   simp only[Bool.and_eq_true]at hk
   obtain⟨I,θ,S0,hR⟩:=G.ex
   have S:=S0.self
   obtain⟨g,first,caps,as,sel,pins,Hin,Hout,extra,y,hc,⟨hn,hlt,hHL,hil,hol,hpb⟩,hle,hall,hQ⟩:=h
   have h1:=opd_rv hR hk.1
   rw[hc]at h1
   simp only[RV]at h1
   obtain⟨x1,x2,e1,h2,h3⟩:=h1
   have h4:=opds_rv (fun x x' h=>opd_rv hR h) hk.2
   have h5:=RVs_append (RVs_append h2 h4) h3
   obtain⟨S1,_,hso⟩:=S.sel sel hn
   have hθ:∀ q q' v,posL sel q=some q'->θ q=some v->selθ sel θ q'=some v:=by
    intro q q' v h k
    simp only[selθ,posL_get h,Option.bind_some,k]
   have h6:=hle.rvs (RVs_rn hθ _ _ h5)
   have S2:=S1.hl hHL (by rw[hil];simp[selH])
   let B:Nat->Value:=fun k=>(selθ sel θ k).getD .nilFunc
   have hB:∀ k∈pins,selθ sel θ k=some (B k):=by
    intro k hk
    have hb:=hpb k hk
    cases hx:Hin[k]? with
    | none=>rw[hx]at hb;simp[isBoxB]at hb
    | some z =>
     rw[hx]at hb
     cases z with
     | gone=>simp[isBoxB]at hb
     | pin _ _=>simp[isBoxB]at hb
     | map q es =>
      obtain⟨b,_,_,k1,_⟩:=S2.map k q es hx
      simp only[B,k1,Option.getD_some]
     | row e sz els =>
      obtain⟨v,_,k1,_⟩:=S2.row k e sz els hx
      simp only[B,k1,Option.getD_some]
     | box t cs =>
      obtain⟨b,_,k1,_⟩:=S2.box k t cs hx
      simp only[B,k1,Option.getD_some]
   have S3:=(S2.pins B pins hB).lent
   obtain⟨hent,hpc⟩:=hall B
   have hrun:(execOp a.eval o).run P w=.ok (.enter g (x1++cc.args.toList.map a.eval++x2).toArray) w:=by
    have:=hent (x1++cc.args.toList.map a.eval++x2).toArray w
    have e:x1.toArray++cc.args.map a.eval++x2.toArray=(x1++cc.args.toList.map a.eval++x2).toArray:=by
     apply Array.ext'
     simp
    simp only[execOp,hcc,resolve,hf,e1,Deferred.ofValue,Sem.run_bind,Sem.run_pure,Result.andThen_ok,invoke,e,this]
   unfold Oper.wp
   rw[hrun,Oper.upon_enter]
   refine(hpc I _ w _ S3 h6).mono ?_
   rintro e w' ⟨v,I',θ',rfl,S4,hv⟩
   obtain⟨θ'',S',hkp,hbk⟩:=S.back sel pins hn hlt (fun r b ho=>hso r b (owns_hl hHL (owns_pins ho))) S4 hol (fun k hk q hq=>by
    have h7:θ' k=some (B k):=by
     obtain⟨i,hi⟩:=List.getElem?_of_mem hk
     refine S4.pin (Hout.length+(extra.length+i)) k (B k) ?_
     rw[List.getElem?_append_right (by omega),show Hout.length+(extra.length+i)-Hout.length=extra.length+i by omega,List.getElem?_append_right (by omega),show extra.length+i-extra.length=i by omega,pinsOf,List.getElem?_map,hi]
     rfl
    have h8:=hB k hk
    simp only[selθ,hq,Option.bind_some]at h8
    exact h7.trans h8.symm)
   refine hK _ _ _ hQ (Good.of S0 G.defers ⟨I',θ'',?_,?_⟩ (by rw[(put_size ..).1];exact G.size) (put_size ..).2)
   ·cases d<;>exact S'
   ·rw[hd]
    refine Rel.put (st:=backS sel pins Hout extra st) (fun n=>?_) d ?_ (hbk _ _ hv)
    ·simp only[backS,rnT_lk]
     exact hkp _ _ (hR n)
    ·intro k hk
     subst hk
     simpa [dstOk,G.size] using hdN
  ·cases hk
 ·cases hk
theorem wp1_sound{so:SOp}(G:Good Γ N st a w)(hk:sopOk P N o so=true){Q:AS->Prop}(h:wp1 P so st Q){K:Act->World->Prop}{E:Exit->Act->World->Prop}
  (hK:∀ a' w' st',Q st'->Good Γ N st' a' w'->K a' w'):o.wp P a w K E:=by
 induction so generalizing st with
 | wk so ih =>
  obtain⟨s,h1,h2⟩:=h
  exact ih (h1 _ _ _ _ G) hk h2
 | op d k =>
  simp only[wp1]at h
  simp only[sopOk,Bool.and_eq_true,beq_iff_eq]at hk
  obtain⟨⟨hd,hdN⟩,hk⟩:=hk
  cases hs:sv st d k with
  | none=>rw[hs]at h;exact h.elim
  | some st' =>
   rw[hs]at h
   obtain⟨I,θ,S0,hR⟩:=G.ex
   have S:=S0.self
   obtain⟨v,w',I',θ',hrun,S',hR'⟩:=sv_sound hk S hR (fun k hk=>by rw[hd]at hk;subst hk;simpa [dstOk,G.size] using hdN) (by rw[hd];exact hs)
   unfold Oper.wp
   rcases hrun with hrun|⟨hrun,rfl⟩
   ·rw[hrun,Oper.upon_value]
    exact hK _ _ _ h (Good.of S0 G.defers ⟨I',θ',S',hR'⟩ (by rw[(put_size ..).1];exact G.size) (put_size ..).2)
   ·rw[hrun,Oper.upon_skip]
    exact hK _ _ _ h (Good.of S0 G.defers ⟨I',θ',S',hR'⟩ (by rw[(put_size ..).1];exact G.size) (put_size ..).2)
 | call d c args=>exact call_sound G hk h hK
 | callr d c args=>exact h.elim (fun h=>callr_sound G hk h hK) (fun h=>callg_sound G hk h hK)
 | callo d c args=>exact callg_sound G hk (callO_G h) hK
 | gd _ _ _ _ _=>simp[sopOk]at hk
theorem good_undef{d:Option Nat}(G:Good Γ N st a w)(hd:dstOk N d=true):Good Γ N (put st d (.tup [])) (a.put d undef) w:=by
 obtain⟨I,θ,S,hR⟩:=G.ex
 refine⟨⟨I,θ,?_,?_⟩,by rw[(put_size ..).1];exact G.size,by rw[(put_size ..).2];exact G.defers⟩
 ·cases d<;>exact S
 ·refine Rel.put hR d ?_ (by simp[RV,RVs,undef])
  intro k hk
  subst hk
  simpa [dstOk,G.size] using hd
theorem guard_val{all:Array Oper}{j g:Nat}{w' q:Bool}(G:Good Γ N st a w)(hj:(all[j]?).bind (·.dst)=some g)(hx:gdW w' (lk st.T g)=some q):(yielded all a.tmps j == some w')=q:=by
 obtain⟨I,θ,S,hR⟩:=G.ex
 have:=hR g
 rw[Array.getD_eq_getD_getElem?]at this
 unfold yielded
 rw[hj]
 simp only[Option.bind_some]
 unfold gdW at hx
 split at hx
 ·rename_i x e
  rw[e]at this
  simp only[RV]at this
  cases ht:a.tmps[g]? with
  | none=>rw[ht]at this;simp[undef]at this
  | some v=>rw[ht]at this;simp only[Option.getD_some]at this;rw[this];simpa using hx
 ·rename_i e
  rw[e]at this
  simp only[RV,RVs]at this
  obtain⟨vs,h1,rfl⟩:=this
  obtain rfl:=Option.some.inj hx
  cases ht:a.tmps[g]? with
  | none=>simp
  | some v=>rw[ht]at h1;simp only[Option.getD_some]at h1;rw[h1];simp
 ·cases hx
theorem gd_sound{all:Array Oper}{so:SOp}(G:Good Γ N st a w)(hk:gdOk P N all o so=true){Q:AS->Prop}(h:wp1 P so st Q){K:Act->World->Prop}{E:Exit->Act->World->Prop}
  (hK:∀ a' w' st',Q st'->Good Γ N st' a' w'->K a' w') :
  if Region.wanted o (yielded all a.tmps)then o.wp P a w K E\/(o.asks P a w/\LetsOut E)else K (a.put o.dst undef) w:=by
 unfold gdOk at hk
 split at hk
 ·rename_i hg
  rw[if_pos (by simp[Region.wanted,hg])]
  exact .inl (wp1_sound G hk h hK)
 ·rename_i j want hg
  split at hk
  ·rename_i g w' d o'
   simp only[Bool.and_eq_true,beq_iff_eq]at hk
   obtain⟨⟨⟨⟨h1,rfl⟩,h2⟩,h3⟩,h4⟩:=hk
   simp only[wp1]at h
   rcases h with⟨hx,h⟩|⟨hx,h⟩
   ·rw[if_pos (by simp only[Region.wanted,hg];exact guard_val G h1 hx)]
    exact .inl (wp1_sound G h4 h hK)
   ·rw[if_neg (by simp only[Region.wanted,hg];rw[guard_val G h1 hx];simp)]
    rw[h2]
    exact hK _ _ _ h (good_undef G h3)
  ·cases hk
end
end Go.Ab
