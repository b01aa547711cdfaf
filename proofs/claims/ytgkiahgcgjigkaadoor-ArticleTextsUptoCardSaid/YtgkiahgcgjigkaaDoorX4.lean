/- A part of the proof: X4. -/
import Derived.Test.YtgkiahgcgjigkaaDoorX3
set_option linter.all false
set_option linter.all false
namespace Go.Ab.X
open Go.RowKit Go.Ab
section
variable {U:Uni} {R:Type} {P:Program} {Γ : Ctx} {n:Nat} {β:Nat->Value} {φ:Env U}
def PostM(β:Nat->Value)(Γ : Ctx)(n:Nat)(K:Ex->St U->Option R)(r:R):Exit->Act->World->Prop:=fun e a w=>∃ ex s',e=ex.to/\K ex s'=some r/\FOk s'/\Good Γ n (absS β s') a w
theorem loopN_some{S:Type}{step:S->(S->Option R)->Option R}{s:S}{r:R}(h:loopN step s=some r):∃ n,loopF step n s=some r:=by
 unfold loopN at h
 split at h
 ·rename_i hx
  obtain⟨m,hm⟩:=hx.choose_spec
  exact⟨m,by rw[hm m (Nat.le_refl m)];exact h⟩
 ·cases h
theorem kN_some{k:St U->Option R}{K:Ex->St U->Option R}{r:R}{e:Exit}{a:Act}{w:World}(h:PostM β Γ n (kN k K) r e a w) :
  (e=.normal/\∃ s',k s'=some r/\FOk s'/\Good Γ n (absS β s') a w)\/(e≠.normal/\PostM β Γ n K r e a w):=by
 obtain⟨ex,s',rfl,h1,h2,h3⟩:=h
 cases ex with
 | normal=>exact .inl ⟨rfl,s',h1,h2,h3⟩
 | exit i=>exact .inr ⟨by simp[Ex.to],.exit i,s',rfl,h1,h2,h3⟩
 | ret=>exact .inr ⟨by simp[Ex.to],.ret,s',rfl,h1,h2,h3⟩
theorem keepE_mem{ks:List Nat}{d:Nat}{f:Fct}:∀ {E:List (Nat×Fct)},(d,f)∈keepE ks E->(d,f)∈E/\d∈ks/\(f.isBnd || f.isPos)=true
 | [],h=>by cases h
 | (d',f')::E,h=>by
  simp only[keepE]at h
  cases hc:(memN d' ks && (f'.isBnd || f'.isPos))<;>rw[hc]at h
  ·obtain⟨h1,h2⟩:=keepE_mem (E:=E) h
   exact⟨List.mem_cons_of_mem _ h1,h2⟩
  ·rcases List.mem_cons.1 h with e|h
   ·cases e
    simp only[Bool.and_eq_true]at hc
    exact⟨List.mem_cons_self ..,subN_ok (ks:=[d]) (l:=ks) (by simp only[subN,hc.1,Bool.and_self]) d (List.mem_cons_self ..),hc.2⟩
   ·obtain⟨h1,h2⟩:=keepE_mem (E:=E) h
    exact⟨List.mem_cons_of_mem _ h1,h2⟩
theorem FOk_of(L:LSh U)(ro:Bool){s:St U}(x:Tup U L.ty)(hok:L.okE s=true)(hE:FOk s):FOk (L.of ro s x):=by
 intro d f h
 obtain⟨h1,h2,h3⟩:=keepE_mem h
 have h0:=hE d f h1
 cases f with
 | bnd=>simp only[Fct.ok]at h0 ⊢;rw[of_T hok d h2];exact h0
 | pos=>simp only[Fct.ok]at h0 ⊢;rw[of_T hok d h2];exact h0
 | lt _ _=>cases h3
 | ltc _=>cases h3
 | gt _=>cases h3
 | eq _=>cases h3
theorem keep_get{n:Nat}:∀ {hs:List (HSh U)} {H:List (HB U)} {r:Nat},kpH n hs H=true->hs[r]? = some .keep->∃ t m,H[r]? = some (.box t m)\/H[r]? = some (.ro t m)
 | [],H,r,_,h=>by simp at h
 | x::hs,H,0,hk,h=>by
  simp at h
  subst h
  simp only[kpH,Bool.and_eq_true]at hk
  have h1:=hk.1
  simp only[kp1,HSh.isKeep,cond_true]at h1
  cases H with
  | nil=>cases h1
  | cons h H =>
   simp only[hd0]at h1
   cases h with
   | box t m=>exact⟨t,m,.inl rfl⟩
   | ro t m=>exact⟨t,m,.inr rfl⟩
   | gone=>cases h1
   | pin q=>cases h1
   | row t e l=>cases h1
   | map _ _ _ _=>cases h1
 | x::hs,H,r+1,hk,h=>by
  simp only[kpH,Bool.and_eq_true]at hk
  obtain⟨t,m,h1⟩:=keep_get hk.2 (r:=r) (by simpa using h)
  cases H with
  | nil=>simp at h1
  | cons h H=>exact⟨t,m,by simpa using h1⟩
theorem kpt_refl{L:LSh U}{s:St U}(h:L.okE s=true):Kpt L s s:=by
 refine⟨fun _ _=>rfl,fun r b hr=>?_⟩
 obtain⟨t,m,h1|h1⟩:=keep_get (okE_H h) hr<;>rw[h1]<;>rfl
theorem kpt_of{L:LSh U}{s h s':St U}(hok:L.okE s=true)(hT:∀ k∈L.ks,lkN h.T k=lkN s.T k)
  (hH:∀(r:Nat) (t:TypeId) (m:N U),L.hs[r]? = some .keep->s.H[r]? = some (.box t m)\/s.H[r]? = some (.ro t m)->h.H[r]? = some (.ro t m)) (hp:Pr L.ks h s'):Kpt L s s':=by
 refine⟨fun k hk=>(hp.1 k hk).trans (hT k hk),fun r b hr=>?_⟩
 obtain⟨t,m,h1⟩:=keep_get (okE_H hok) hr
 rw[hp.2 r t m (hH r t m hr h1)]
 rcases h1 with h1|h1<;>rw[h1]<;>rfl
theorem of_keep:∀ {hs:List (HSh U)} {H:List (HB U)} {l:List U.T} {s:Tup U (hTy hs l)} {r:Nat} {t:TypeId} {m:N U},hs[r]? = some .keep->H[r]? = some (.box t m)\/H[r]? = some (.ro t m)->(hOf true hs H s).1[r]? = some (.ro t m)
 | [],H,l,s,r,t,m,h,_=>by simp at h
 | x::hs,[],l,s,r,t,m,_,h=>by simp at h
 | x::hs,h0::H,l,s,0,t,m,h,hr=>by
  simp at h
  subst h
  simp at hr
  rcases hr with rfl|rfl<;>rfl
 | x::hs,h0::H,l,s,r+1,t,m,h,hr=>by
  simp only[hOf,List.getElem?_cons_succ,List.tail_cons]
  exact of_keep (by simpa using h) (by simpa using hr)
theorem roH_keep:∀ {hs:List (HSh U)} {H:List (HB U)} {r:Nat} {t:TypeId} {m:N U},hs[r]? = some .keep->H[r]? = some (.box t m)\/H[r]? = some (.ro t m)->(roH hs H)[r]? = some (.ro t m)
 | [],H,r,t,m,h,_=>by simp at h
 | x::hs,[],r,t,m,_,h=>by simp at h
 | x::hs,h0::H,0,t,m,h,hr=>by
  simp at h
  subst h
  simp at hr
  rcases hr with rfl|rfl<;>rfl
 | x::hs,h0::H,r+1,t,m,h,hr=>by
  simp only[roH,List.getElem?_cons_succ]
  exact roH_keep (by simpa using h) (by simpa using hr)
theorem roH_abs:∀(hs:List (HSh U)) (H:List (HB U)) (k:Nat),absH β k (roH hs H)=absH β k H
 | [],H,k=>by cases H<;>rfl
 | x::hs,[],k=>rfl
 | x::hs,h::H,k=>by
  simp only[roH,absH,roH_abs hs H]
  congr 1
  cases x.isKeep
  ·rfl
  ·cases h<;>rfl
theorem rstH_abs:∀(hs:List (HSh U)) (H H':List (HB U)) (k:Nat),(∀(r:Nat) (b:Value),hs[r]? = some HSh.keep->(H'[r]?).map (absB b)=(some ((H[r]?).getD .gone)).map (absB b))->absH β k (rstH hs H H')=absH β k H'
 | [],H,H',k,_=>by cases H'<;>rfl
 | x::hs,H,[],k,_=>rfl
 | x::hs,H,h'::H',k,hk=>by
  have hk':∀(r:Nat) (b:Value),hs[r]? = some HSh.keep->(H'[r]?).map (absB b)=(some ((H.tail[r]?).getD .gone)).map (absB b):=by
   intro r b hr
   have:=hk (r+1) b (by simpa using hr)
   cases H<;>simpa using this
  simp only[rstH,absH,rstH_abs hs H.tail H' (k+1) hk']
  congr 1
  cases hx:x.isKeep
  ·rfl
  ·have:x=.keep:=by cases x<;>first|rfl|cases hx
   subst this
   have:=hk 0 (β k) rfl
   cases H<;>simpa [hd0] using this.symm
theorem rst_abs{L:LSh U}{s s':St U}(h:Kpt L s s'):absS β (rst L s s')=absS β s':=by
 simp only[absS,rst,rstH_abs L.hs s.H s'.H 0 h.2]
open Classical in
noncomputable def onlyP(ks:List Nat)(h:St U)(K:Ex->St U->Option R):Ex->St U->Option R:=fun e s'=>if Pr ks h s' then K e s' else none
theorem onlyP_ok{ks:List Nat}{h:St U}{K:Ex->St U->Option R}{e:Ex}{s':St U}{r:R}(hx:onlyP ks h K e s'=some r):Pr ks h s'/\K e s'=some r:=by
 unfold onlyP at hx
 split at hx
 ·rename_i hp;exact⟨hp,hx⟩
 ·cases hx
theorem run_only{c:TC U}{ks:List Nat}{s:St U}{K:Ex->St U->Option R}{r:R}(hk:c.kp ks=true)(hp:Pu ks s)(h:run φ c s K=some r):run φ c s (onlyP ks s K)=some r:=by
 rw[<-h]
 exact(run_pr c hk hp fun e s' hs=>by unfold onlyP;rw[if_pos hs]).symm
theorem no_out{K:Ex->St U->Option R}{r:R}:¬ LetsOut (PostM β Γ n K r):=by
 rintro⟨a,w,ex,s,h,_⟩
 cases ex<;>cases h
def ItP(P:Program)(f:Nat){ts:List U.T}(it:List (N U)->Option (List (Tup U ts))):Prop:=∀ caps L,it caps=some L->pureNs caps=true->ItC P f (absL caps) (L.map fun x=>absL (vtN ts x))
def TC.its(P:Program):TC U->Prop
 | .skip=>True
 | .ops _=>True
 | .draw _=>True
 | .draw2 _ _ _=>True
 | .seq a b=>a.its P/\b.its P
 | .cond _ a b=>a.its P/\b.its P
 | .block _ c=>c.its P
 | .loop _ c=>c.its P
 | .exit _=>True
 | .ret=>True
 | .jn _ a b=>a.its P/\b.its P
 | .th a _=>a.its P
 | .ps _ a=>a.its P
 | .range _ it f _ _ _ _ _ _ c=>ItP P f it/\c.its P
structure RO(ro:Option Nat)(I:Prop)(b:Bool):Prop where
 i:I
 n:ro=none\/b=true
theorem RO.l{ro:Option Nat}{I J:Prop}{b c:Bool}(h:RO ro (I/\J) (b && c)):RO ro I b:=⟨h.i.1,h.n.imp id fun h=>by simp at h;exact h.1⟩
theorem RO.r{ro:Option Nat}{I J:Prop}{b c:Bool}(h:RO ro (I/\J) (b && c)):RO ro J c:=⟨h.i.2,h.n.imp id fun h=>by simp at h;exact h.2⟩
theorem eqNs_ok:∀ {a b:List Nat},eqNs a b=true->a=b
 | [],[],_=>rfl
 | a::l,b::m,h=>by
  simp only[eqNs,Bool.and_eq_true]at h
  rw[Nat.eq_of_beq_eq_true h.1,eqNs_ok h.2]
 | [],_::_,h=>by simp[eqNs]at h
 | _::_,[],h=>by simp[eqNs]at h
theorem absT_setTN:∀(ps:List Nat) (xs:List (N U)) (T:List (Nat×N U)),absT (setTN ps xs T)=setT ps (absL xs) (absT T)
 | [],xs,T=>by cases xs<;>simp[setTN,setT]
 | p::ps,[],T=>by simp[setTN,setT,absL]
 | p::ps,x::xs,T=>by simp only[setTN,absL,setT];rw[absT_setTN ps xs];rfl
theorem pinHs_get{hs:List (HSh U)}:∀ {ks:List Nat} {n i k:Nat},pinHs hs n ks=true->ks[i]? = some k->hs[n+i]? = some (.pin k)
 | q::ks,n,0,k,h,hk=>by
  simp at hk;subst hk
  simp only[pinHs,Bool.and_eq_true]at h
  have h1:=h.1
  split at h1
  ·rename_i q' hq
   rw[Nat.add_zero,hq,Nat.eq_of_beq_eq_true h1]
  ·cases h1
 | q::ks,n,i+1,k,h,hk=>by
  simp only[pinHs,Bool.and_eq_true]at h
  have:=pinHs_get h.2 (i:=i) (by simpa using hk)
  rwa [show n+(i+1)=n+1+i by omega]
 | [],n,i,k,_,hk=>by simp at hk
theorem pinsAt_get{H:List (HB U)}:∀ {ks:List Nat} {n i k:Nat},pinsAt H n ks=true->ks[i]? = some k->H[n+i]? = some (.pin k)
 | q::ks,n,0,k,h,hk=>by
  simp at hk;subst hk
  simp only[pinsAt,Bool.and_eq_true]at h
  have h1:=h.1
  split at h1
  ·rename_i q' hq
   rw[Nat.add_zero,hq,Nat.eq_of_beq_eq_true h1]
  ·cases h1
 | q::ks,n,i+1,k,h,hk=>by
  simp only[pinsAt,Bool.and_eq_true]at h
  have:=pinsAt_get h.2 (i:=i) (by simpa using hk)
  rwa [show n+(i+1)=n+1+i by omega]
 | [],n,i,k,_,hk=>by simp at hk
theorem hOf_pin{ro:Bool}:∀ {hs:List (HSh U)} {H:List (HB U)} {l:List U.T} {s:Tup U (hTy hs l)} {q k:Nat},hs[q]? = some (.pin k)->(hOf ro hs H s).1[q]? = some (.pin k)
 | [],H,l,s,q,k,h=>by simp at h
 | x::hs,H,l,s,0,k,h=>by simp at h;subst h;rfl
 | x::hs,H,l,s,q+1,k,h=>by
  simp only[hOf,List.getElem?_cons_succ]
  exact hOf_pin (by simpa using h)
theorem rstH_pin:∀ {hs:List (HSh U)} {H H':List (HB U)} {q k:Nat},hs[q]? = some (.pin k)->H'[q]? = some (.pin k)->(rstH hs H H')[q]? = some (.pin k)
 | [],H,H',q,k,h,_=>by simp at h
 | x::hs,H,[],q,k,_,h=>by simp at h
 | x::hs,H,h'::H',0,k,h,hr=>by
  simp at h hr;subst h;subst hr;rfl
 | x::hs,H,h'::H',q+1,k,h,hr=>by
  simp only[rstH,List.getElem?_cons_succ]
  exact rstH_pin (by simpa using h) (by simpa using hr)
theorem Wks.sub{T:List (Nat×AV)}{H H':List AB}(hl:H'.length=H.length)(hs:∀(q:Nat) (x:AB),H'[q]? = some x->x=AB.gone\/H[q]? = some x):Wks ⟨T,H⟩ ⟨T,H'⟩:=by
 intro Γ N a w G
 obtain⟨⟨I,θ,S,hR⟩,hsz,hdf⟩:=G
 have hget:∀ {q:Nat} {x:AB},H'[q]? = some x->x≠AB.gone->H[q]? = some x:=fun h hn=>(hs _ _ h).resolve_left hn
 have howns:∀ r B,owns H' θ r B->owns H θ r B:=by
  rintro r B ⟨⟨x,hx,hlv⟩,hv⟩
  exact⟨⟨x,hget hx (by rintro rfl;cases hlv),hlv⟩,hv⟩
 exact⟨⟨I,θ,⟨S.below,S.i0,S.inew,S.ilt,fun r t cs h=>S.box r t cs (hget h (by simp)),fun r e sz els h=>S.row r e sz els (hget h (by simp)),fun q p B hne h1 h2=>S.sep q p B hne (howns _ _ h1) (howns _ _ h2),fun b q h1 h2=>S.iso b q h1 (howns _ _ h2),fun q hq=>S.dom q (by rw[<-hl];exact hq),fun q B h=>S.own q B (howns _ _ h),fun q p B h=>S.pin q p B (hget h (by simp)),fun r q es h=>S.map r q es (hget h (by simp))⟩,hR⟩,hsz,hdf⟩
theorem Good.noT{T:List (Nat×AV)}{H:List AB}{Γ : Ctx}{N:Nat}{a:Act}{w:World}(G:Good Γ N ⟨T,H⟩ a w):Good Γ N ⟨[],H⟩ a w:=by
 obtain⟨⟨I,θ,S,hR⟩,hsz,hdf⟩:=G
 exact⟨⟨I,θ,S,fun n=>by simp[lk,RV]⟩,hsz,hdf⟩
theorem unpin_abs{β β':Nat->Value}{n:Nat}(hβ:∀ q,q<n->β' q=β q):∀(H:List (HB U)) (k:Nat),absH β' k (unpin n k H)=absH β k (unpin n k H)
 | [],k=>rfl
 | h::H,k=>by
  simp only[unpin,absH]
  rw[unpin_abs hβ H (k+1)]
  congr 1
  cases hb:Nat.blt k n
  ·cases h<;>rfl
  ·have:k<n:=by simp[Nat.blt]at hb;omega
   cases h<;>simp[absB,hβ k this]
theorem unpin_wks(β:Nat->Value)(n:Nat)(T:List (Nat×AV))(H:List (HB U)):Wks ⟨T,absH β 0 H⟩ ⟨T,absH β 0 (unpin n 0 H)⟩:=by
 have hlen:∀(H:List (HB U)) (k:Nat),(unpin n k H).length=H.length:=by
  intro H
  induction H with
  | nil=>intro k;rfl
  | cons h H ih=>intro k;simp[unpin,ih]
 refine Wks.sub (by simp[absH_len,hlen]) fun q x hx=>?_
 rw[absH_get,unpin_get]at hx
 rw[absH_get]
 cases hq:H[q]? with
 | none=>rw[hq]at hx;simp at hx
 | some h =>
  rw[hq]at hx
  simp only[Option.map_some,Option.some.injEq]at hx ⊢
  cases hb:Nat.blt (0+q) n<;>rw[hb]at hx
  ·cases h<;>first|exact .inr hx|exact .inl hx.symm
  ·exact .inr hx
theorem ptOk_get{m:Nat}{s:St U}:∀ {pt:List (Nat×Nat)},ptOk m s pt=true->∀ p∈pt,lkN s.T p.1=.ptr p.2 0 []/\p.2<m
 | q::pt,h,p,hp=>by
  simp only[ptOk,Bool.and_eq_true]at h
  rcases List.mem_cons.1 hp with rfl|hp
  ·refine⟨?_,Nat.lt_of_succ_le (Nat.le_of_ble_eq_true h.1.2)⟩
   have h1:=h.1.1
   split at h1
   ·rename_i q j p' e
    simp only[Bool.and_eq_true]at h1
    rw[e,Nat.eq_of_beq_eq_true h1.1.1,Nat.eq_of_beq_eq_true h1.1.2,eqP_ok' h1.2]
   ·cases h1
  ·exact ptOk_get h.2 p hp
where eqP_ok':∀ {p:List Nat},eqP p []=true->p=[]
 | [],_=>rfl
 | _::_,h=>by cases h
theorem ptT_lk{X:List (Nat×N U)}{k:Nat}:∀(pt:List (Nat×Nat)),(∃(i:Nat) (p:Nat×Nat),pt[i]? = some p/\lkN (ptT pt++X) k=.ptr p.2 0 [])\/lkN (ptT pt++X) k=lkN X k
 | []=>.inr rfl
 | p::pt=>by
  by_cases e:k=p.1
  ·subst e
   exact .inl ⟨0,p,rfl,by simp only[ptT,List.cons_append];exact lkN_eq⟩
  ·have e1:lkN (ptT (p::pt)++X) k=lkN (ptT pt++X) k:=by simp only[ptT,List.cons_append];exact lkN_ne e
   rcases ptT_lk (X:=X) (k:=k) pt with⟨i,q,h1,h2⟩|h
   ·exact .inl ⟨i+1,q,by simpa using h1,by rw[e1];exact h2⟩
   ·exact .inr (by rw[e1];exact h)
theorem keepT_pure{T:List (Nat×N U)}{k:Nat}:∀ {ks:List Nat},purT T ks=true->pureN (lkN (keepT T ks) k)=true\/lkN (keepT T ks) k=.u
 | [],_=>.inr rfl
 | x::ks,h=>by
  simp only[purT,Bool.and_eq_true]at h
  simp only[keepT]
  by_cases e:k=x
  ·subst e;rw[lkN_eq];exact .inl h.1
  ·rw[lkN_ne e];exact keepT_pure h.2
theorem absH_congr{β β':Nat->Value}:∀(H:List (HB U)) (k:Nat),(∀ q,k<=q->q<k+H.length->β' q=β q)->absH β' k H=absH β k H
 | [],k,_=>rfl
 | h::H,k,hb=>by
  simp only[absH]
  rw[absH_congr H (k+1) fun q h1 h2=>hb q (by omega) (by simp;omega),hb k (Nat.le_refl _) (by simp)]
theorem argsOk_ok{n:Nat}:∀ {L:List (List (N U))},argsOk n L=true->∀ x∈L,x.length=n
 | y::L,h,x,hx=>by
  simp only[argsOk,Bool.and_eq_true]at h
  rcases List.mem_cons.1 hx with rfl|hx
  ·exact Nat.eq_of_beq_eq_true h.1
  ·exact argsOk_ok h.2 x hx
theorem forR_map{α β S:Type}(enc:α->β)(step:β->S->(S->Option R)->Option R)(done:S->Option R):∀(L:List α) (x:S),forR (fun a=>step (enc a)) done L x=forR step done (L.map enc) x
 | [],_=>rfl
 | a::L,x=>by
  simp only[List.map_cons,forR]
  congr 1
  exact funext fun y=>forR_map enc step done L y
theorem vtN_len:∀(ts:List U.T) (x:Tup U ts),(vtN ts x).length=ts.length
 | [],_=>rfl
 | t::l,x=>by simp[vtN,vtN_len l]
theorem argsOk_vt{ts:List U.T}{ps:List Nat}(h:lenEq ts ps=true):∀ {L:List (Tup U ts)},argsOk ps.length (L.map (vtN ts))=true
 | []=>rfl
 | x::L=>by
  simp only[List.map_cons,argsOk,Bool.and_eq_true]
  exact⟨by rw[vtN_len,lenEq_ok h];exact Nat.beq_refl _,argsOk_vt h⟩
theorem absL_len(l:List (N U)):(absL l).length=l.length:=by simp[absL_eq]
open Classical in
theorem rg_ok(hU:U.Ok)(hS:SndE P φ){psA:Array Tmp}{g:Operand}{g':Od U}{id:Nat}{ops:Array Oper}{body:Code}{c:TC U}{f:Nat}{ps:List Nat}{pt:List (Nat×Nat)}{ks:List Nat}{hs:List (HSh U)}{al:List (P1 U)}{caps:List (N U)}{L:List (List (N U))}{x0:Tup U (rgL hs).ty}{s:St U}{K:Ex->St U->Option R}{r:R}{a:Act}{w:World}
  (rb:∀ {ro:Option Nat} {Γ : Ctx} {β:Nat->Value},Γ.mkb <= Γ.w0.heap.size->∀ {s:St U} {K:Ex->St U->Option R} {r:R} {a:Act} {w:World},run φ c s K=some r->FOk s->Good Γ n (absS β s) a w->body.wpIn (Fr ro) 1 P (PostM β Γ n K r) a w)
  (hk0:opdOk g g'.er=true) (hps:psA.toList=ps) (hk2:ps.all (fun p=>Nat.blt p n)=true) (hk3:al.all (P1.kp [])=true) (hk4:c.kp []=true) (hk6:opsOk P n ops ops.toList (erL al)=true) (hit:ItC P f (absL caps) (L.map absL)) (hv:(rgS s pt ks).ev g'=.fn f [] caps) (c3:pureNs caps=true) (c4:ptOk hs.length s pt=true) (c5:purT s.T ks=true) (c6:pinHs hs s.H.length (pt.map (·.2))=true) (c7:(rgL hs).okE (rgS s pt ks)=true) (ha:argsOk ps.length L=true) (hd:(rgL hs).de (rgS s pt ks)=some x0)
  (h:forR (fun vs x next=>runO φ al ⟨setTN ps vs (rgS s pt ks).T,((rgL hs).of true (rgS s pt ks) x).H,[]⟩ (fun s2=>run φ c s2 (kN (fun s'=>bif pinsAt s'.H s.H.length (pt.map (·.2))then Option.bind ((rgL hs).de s') next else none)
      (fun e s'=>bif pinsAt s'.H s.H.length (pt.map (·.2))then K e ⟨(rgS s pt ks).T,unpin s.H.length 0 (rst (rgL hs) (rgS s pt ks) s').H,[]⟩else none))))
     (fun x=>K .normal ⟨(rgS s pt ks).T,unpin s.H.length 0 (rstH hs (rgS s pt ks).H ((rgL hs).of true (rgS s pt ks) x).H),[]⟩) L x0=some r) (hg : Γ.mkb <= Γ.w0.heap.size) (G:Good Γ n (absS β s) a w) :
  (Code.rangeFunc g psA (.region id ops false) body).wpIn (Fr none) 1 P (PostM β Γ n K r) a w:=by
 subst hps
 generalize hs1:rgS s pt ks=s1 at *
 have hs1T:s1.T=ptT pt++keepT s.T ks:=by rw[<-hs1];rfl
 have hs1H:s1.H=s.H++pt.map (fun p=>.pin p.2):=by rw[<-hs1];rfl
 obtain⟨I,θ,S,hR⟩:=G.ex
 let B:Nat->Value:=fun k=>(θ k).getD .nilFunc
 have hB:∀ k∈pt.map (·.2),θ k=some (B k):=by
  intro k hk
  obtain⟨p,hp,rfl⟩:=List.mem_map.1 hk
  have:=hR p.1
  rw[show lk (absS β s).T p.1=(lkN s.T p.1).abs from lk_abs _ _,(ptOk_get c4 p hp).1]at this
  simp only[N.abs,RV]at this
  obtain⟨b,h1,_⟩:=this
  simp only[B,h1,Option.getD_some]
 let β':Nat->Value:=fun q=>if q<s.H.length then β q else B (((pt.map (·.2))[q-s.H.length]?).getD 0)
 have hβ:∀ q,q<s.H.length->β' q=β q:=fun q hq=>if_pos hq
 have hβ2:∀ i k,(pt.map (·.2))[i]? = some k->β' (s.H.length+i)=B k:=fun i k hk=>by
  simp only[β',if_neg (show ¬ s.H.length+i<s.H.length by omega),Nat.add_sub_cancel_left,hk,Option.getD_some]
 have hpins:∀(l:List Nat) (k:Nat),(∀ i q,l[i]? = some q->β' (k+i)=B q)->absH β' k (l.map (HB.pin (U:=U)))=pinsOf B l:=by
  intro l
  induction l with
  | nil=>intro k _;rfl
  | cons q l ih =>
   intro k hq
   simp only[List.map_cons,absH,absB,pinsOf]
   rw[ih (k+1) (fun i q' h=>by have:=hq (i+1) q' (by simpa using h);rwa [show k+1+i=k+(i+1) by omega])]
   have:=hq 0 q rfl
   rw[Nat.add_zero]at this
   rw[this];rfl
 have hH1:absH β' 0 s1.H=absH β 0 s.H++pinsOf B (pt.map (·.2)):=by
  rw[hs1H,absH_app,Nat.zero_add,absH_congr s.H 0 (fun q _ h=>hβ q (by omega)),show pt.map (fun p=>(HB.pin p.2:HB U))=(pt.map (·.2)).map HB.pin by simp,hpins _ _ hβ2]
 have G1:Good Γ n ⟨absT s.T,absH β' 0 s1.H⟩ a w:=⟨⟨I,θ,by rw[hH1];exact S.pins B _ hB,hR⟩,G.size,G.defers⟩
 have hTL:TL (absT s.T) (absT s1.T):=by
  rw[hs1T]
  have k1:∀(ks:List Nat),TL (absT s.T) (absT (keepT s.T ks)):=by
   intro ks
   induction ks with
   | nil=>exact .nil
   | cons k ks ih=>simp only[keepT,absT];exact .cons _ _ _ (by rw[lk_abs];exact .refl _) ih
  have k2:∀(l:List (Nat×Nat)),(∀ p∈l,lkN s.T p.1=.ptr p.2 0 [])->TL (absT s.T) (absT (ptT l++keepT s.T ks)):=by
   intro l
   induction l with
   | nil=>intro _;exact k1 ks
   | cons p l ih =>
    intro hl
    simp only[ptT,List.cons_append,absT]
    exact .cons _ _ _ (by rw[lk_abs,hl p (List.mem_cons_self ..)];exact .refl _) (ih fun q hq=>hl q (List.mem_cons_of_mem _ hq))
  exact k2 pt fun p hp=>(ptOk_get c4 p hp).1
 have hrT:refT hs.length (absT s1.T)=true:=by
  rw[hs1T]
  have k1:∀(ks:List Nat),purT s.T ks=true->refT hs.length (absT (keepT s.T ks))=true:=by
   intro ks
   induction ks with
   | nil=>intro _;rfl
   | cons k ks ih =>
    intro hp
    simp only[purT,Bool.and_eq_true]at hp
    simp only[keepT,absT,refT,Bool.and_eq_true]
    exact⟨ref_pure _ (pureN_ok hU hp.1),ih hp.2⟩
  have k2:∀(l:List (Nat×Nat)),(∀ p∈l,p.2<hs.length)->refT hs.length (absT (ptT l++keepT s.T ks))=true:=by
   intro l
   induction l with
   | nil=>intro _;exact k1 ks c5
   | cons p l ih =>
    intro hl
    simp only[ptT,List.cons_append,absT,refT,N.abs,refB,Bool.and_eq_true]
    exact⟨by simpa using hl p (List.mem_cons_self ..),ih fun q hq=>hl q (List.mem_cons_of_mem _ hq)⟩
  exact k2 pt fun p hp=>(ptOk_get c4 p hp).2
 let Hx:Tup U (rgL hs).ty->List AB:=fun x=>absH β' 0 ((rgL hs).of true s1 x).H
 have hrf:hRf hs.length hs=true/\kpH hs.length hs s1.H=true:=by
  have:=c7
  unfold LSh.okE at this
  simp only[Bool.and_eq_true]at this
  exact⟨this.1.1.2,this.2⟩
 have wkx:∀ {T T':List (Nat×AV)} {s':St U} {x:Tup U (rgL hs).ty},Kpt (rgL hs) s1 s'->(rgL hs).de s'=some x->TL T T'->refT hs.length T'=true->Wks ⟨T,absH β' 0 s'.H⟩ ⟨T',Hx x⟩:=by
  intro T T' s' x hk hx hT hr
  obtain⟨y,h1,h2⟩:=bind_some' hU (show Option.bind (hDe lfT hs s'.H (l:=[]) ()) (fun h=>some h)=some x from hx)
  obtain rfl:=Option.some.inj h2
  obtain⟨q1,q2,q3⟩:=hDe_ok hU true β' hs s'.H s1.H 0 hk.2 h1
  have hl:(Hx y).length=hs.length:=by rw[absH_len];exact q3
  exact Wks.mk hT q1 (by rw[hl];exact hr) (by rw[hl];exact rf_ofH hU true β' hs s1.H 0 _ hrf.1 hrf.2)
 let step:List (N U)->Tup U (rgL hs).ty->(Tup U (rgL hs).ty->Option R)->Option R:=fun vs x next=>runO φ al ⟨setTN psA.toList vs s1.T,((rgL hs).of true s1 x).H,[]⟩ (fun s2=>run φ c s2 (kN (fun s'=>bif pinsAt s'.H s.H.length (pt.map (·.2))then Option.bind ((rgL hs).de s') next else none)
      (fun e s'=>bif pinsAt s'.H s.H.length (pt.map (·.2))then K e ⟨s1.T,unpin s.H.length 0 (rst (rgL hs) s1 s').H,[]⟩else none)))
 let done:Tup U (rgL hs).ty->Option R:=fun x=>K .normal ⟨s1.T,unpin s.H.length 0 (rstH hs s1.H ((rgL hs).of true s1 x).H),[]⟩
 let Z:Nat->List AB->Prop:=fun i H=>∃ x,forR step done (L.drop i) x=some r/\H=Hx x
 let Zx:Ex->List AB->Prop:=fun ex H=>∃ s',pinsAt s'.H s.H.length (pt.map (·.2))=true/\Kpt (rgL hs) s1 s'/\K ex ⟨s1.T,unpin s.H.length 0 (rst (rgL hs) s1 s').H,[]⟩=some r/\H=absH β' 0 (rst (rgL hs) s1 s').H
 let sx:List (N U)->Tup U (rgL hs).ty->St U:=fun vs x=>⟨setTN psA.toList vs s1.T,((rgL hs).of true s1 x).H,[]⟩
 let S2:Nat->List AV->List AB->AS->Prop:=fun i v H st2=>∃ vs x s2,st2=absS β' s2/\Pr [] (sx vs x) s2/\run φ c s2 (kN (fun s'=>bif pinsAt s'.H s.H.length (pt.map (·.2))then Option.bind ((rgL hs).de s') (forR step done (L.drop (i+1)))else none)
      (fun e s'=>bif pinsAt s'.H s.H.length (pt.map (·.2))then K e ⟨s1.T,unpin s.H.length 0 (rst (rgL hs) s1 s').H,[]⟩else none))=some r/\FOk s2
 have keepx:∀(x:Tup U (rgL hs).ty) (r:Nat) (t:TypeId) (m:N U),hs[r]? = some .keep->s1.H[r]? = some (.box t m)\/s1.H[r]? = some (.ro t m)->((rgL hs).of true s1 x).H[r]? = some (.ro t m):=fun x r t m h1 h2=>of_keep h1 h2
 have kpx:∀(T:List (Nat×N U)) (x:Tup U (rgL hs).ty),Kpt (rgL hs) s1 ⟨T,((rgL hs).of true s1 x).H,[]⟩:=fun T x=>kpt_of (h:=⟨T,((rgL hs).of true s1 x).H,[]⟩) c7 (fun k hk=>by cases hk) (keepx x) (.refl _ _)
 have noE:∀(T:List (Nat×N U)) (H:List (HB U)),FOk (⟨T,H,[]⟩:St U):=fun T H d f h=>by cases h
 have back:∀ {ex:Ex} {H:List (HB U)} {a':Act} {W:World},Good Γ n ⟨absT s1.T,absH β' 0 H⟩ a' W->K ex ⟨s1.T,unpin s.H.length 0 H,[]⟩=some r->PostM β Γ n K r ex.to a' W:=by
  intro ex H a' W hG hK
  refine⟨ex,_,rfl,hK,noE _ _,?_⟩
  have:=unpin_wks β' s.H.length (absT s1.T) H _ _ _ _ hG
  rw[unpin_abs hβ]at this
  exact this
 refine range_ok (T0:=absT s1.T) (H0:=Hx x0) (Z:=Z) (Zx:=Zx) (S2:=S2) (f:=f) (caps:=absL caps) (L:=L.map absL) (wkx (kpt_refl c7) hd hTL hrT _ _ _ _ G1) hg hk0 ?_ ?_ hit ?_ ?_ ?_ ⟨x0,h,rfl⟩ ?_ ?_ ?_ ?_
 ·show AS.ev (absS β' ⟨s1.T,((rgL hs).of true s1 x0).H,[]⟩) g'.er=_
  rw[ev_abs]
  have:(⟨s1.T,((rgL hs).of true s1 x0).H,[]⟩:St U).ev g'=s1.ev g':=by cases g'<;>rfl
  rw[this,hv]
  rfl
 ·exact(pureNs_ok hU c3).1
 ·intro x hx
  obtain⟨y,hy,rfl⟩:=List.mem_map.1 hx
  rw[absL_len,argsOk_ok ha y hy];simp
 ·intro p hp
  have:=List.all_eq_true.1 hk2 p hp
  simp only[Nat.blt]at this
  exact Nat.lt_of_succ_le (Nat.le_of_ble_eq_true this)
 ·intro m
  rw[lk_abs,hs1T]
  rcases ptT_lk (X:=keepT s.T ks) (k:=m) pt with⟨i,p,h1,h2⟩|h2
  ·rw[h2]
   have hi:(pt.map (·.2))[i]? = some p.2:=by simp[h1]
   have e1:=pinHs_get c6 hi
   have pinx:∀ x,(Hx x)[s.H.length+i]? = some (.pin p.2 (B p.2)):=fun x=>by
    show(absH β' 0 _)[_]? = _
    rw[absH_get,show((rgL hs).of true s1 x).H[s.H.length+i]? = some (.pin p.2)from hOf_pin e1]
    simp only[Option.map_some,absB,Nat.zero_add,hβ2 i p.2 hi]
   refine .inr (.inr ⟨p.2,0,s.H.length+i,B p.2,rfl,pinx x0,?_⟩)
   rintro H (⟨j,x,_,rfl⟩|⟨ex,s',hp,_,_,rfl⟩)
   ·exact pinx x
   ·rw[absH_get,show(rst (rgL hs) s1 s').H[s.H.length+i]? = some (.pin p.2)from rstH_pin e1 (pinsAt_get hp hi)]
    simp only[Option.map_some,absB,Nat.zero_add,hβ2 i p.2 hi]
  ·rw[h2]
   rcases keepT_pure (k:=m) c5 with h3|h3
   ·exact .inl (pureN_ok hU h3)
   ·rw[h3];exact .inr (.inl rfl)
 ·rintro ro Γ' i v H a1 W1 hΓ hv' ⟨x,hf,rfl⟩ hG
  rw[List.getElem?_map]at hv'
  obtain⟨vs,hvs,rfl⟩:=Option.map_eq_some_iff.1 hv'
  have hdr:L.drop i=vs::L.drop (i+1):=by
   obtain⟨hlt,e⟩:=List.getElem?_eq_some_iff.1 hvs
   rw[List.drop_eq_getElem_cons hlt,e]
  rw[hdr]at hf
  have hf:runO φ al (sx vs x) _=some r:=hf
  rw[runO_bind]at hf
  obtain⟨s2,h1,h2⟩:=bind_some' hU hf
  have hpr:=runO_pr (ks:=[]) hk3 (fun _ h=>by cases h) h1
  have hG':Good Γ' n (absS β' (sx vs x)) a1 W1:=by
   show Good Γ' n ⟨absT (setTN psA.toList vs s1.T),_⟩ a1 W1
   rw[absT_setTN];exact hG
  have hout:¬ LetsOut (Exit.then (fun a2 W2=>∃ st2,S2 i (absL vs) (Hx x) st2/\Good Γ' n st2 a2 W2) (fun _ _ _=>False)):=by
   rintro⟨_,_,h⟩;exact h
  refine wpIn_region_list (list_in ro hout _ (opsOk_defer hk6) (ops_ok (k:=fun s'=>if s'=s2 then some r else none) hU hS al ops.toList hk6 (r:=r) ?_ (noE _ _) hG' ?_))
  ·rw[runO_bind,h1];simp
  ·intro a' w' s' hk hE' hg'
   have:s'=s2:=by
    by_cases e:s'=s2
    ·exact e
    ·simp[e]at hk
   subst this
   exact⟨_,⟨vs,x,s',rfl,hpr,h2,hE'⟩,hg'⟩
 ·rintro ro Γ' i v H st2 a2 W2 hΓ hv' hZ ⟨vs,x,s2,rfl,hpr,hrun,hE⟩ hG
  have hrun':=run_only (ks:=[]) hk4 (fun _ h=>by cases h) hrun
  refine wpIn_mono (rb hΓ hrun' hE hG) ?_
  rintro e a3 W3 ⟨ex,s',rfl,hq,h2,h3⟩
  obtain⟨hpr2,hq⟩:=onlyP_ok hq
  have hkpt:Kpt (rgL hs) s1 s':=kpt_of (h:=sx vs x) c7 (fun k hk=>by cases hk) (keepx x) (hpr.trans hpr2)
  have leave:∀(ex:Ex),ex≠.normal->(bif pinsAt s'.H s.H.length (pt.map (·.2))then K ex ⟨s1.T,unpin s.H.length 0 (rst (rgL hs) s1 s').H,[]⟩else none)=some r ->
    ∃ ex' st3,ex.to=ex'.to/\Good Γ' n st3 a3 W3/\(ex'=.normal->Z (i+1) st3.H)/\(ex'≠.normal->Zx ex' st3.H):=by
   intro ex hne hq
   cases hp:pinsAt s'.H s.H.length (pt.map (·.2))<;>rw[hp]at hq
   ·exact(none_some hq).elim
   ·have e1:absH β' 0 (rst (rgL hs) s1 s').H=absH β' 0 s'.H:=congrArg AS.H (rst_abs (β:=β') hkpt)
    exact⟨ex,⟨[],absH β' 0 (rst (rgL hs) s1 s').H⟩,rfl,by rw[e1];exact Good.noT h3,fun h=>absurd h hne,fun _=>⟨s',hp,hkpt,hq,rfl⟩⟩
  cases ex with
  | normal =>
   simp only[kN]at hq
   cases hp:pinsAt s'.H s.H.length (pt.map (·.2))<;>rw[hp]at hq
   ·exact(none_some hq).elim
   ·obtain⟨x',h4,h5⟩:=bind_some' hU (show Option.bind ((rgL hs).de s') _=some r from hq)
    exact⟨.normal,⟨[],Hx x'⟩,rfl,wkx hkpt h4 .nil rfl _ _ _ _ h3,fun _=>⟨x',h5,rfl⟩,fun h=>absurd rfl h⟩
  | exit j=>exact leave (.exit j) (by simp) hq
  | ret=>exact leave .ret (by simp) hq
 ·rintro a' W H ⟨x,hf,rfl⟩ hG
  rw[List.length_map,List.drop_length]at hf
  refine back (ex:=.normal) (H:=rstH hs s1.H ((rgL hs).of true s1 x).H) ?_ hf
  have e1:absH β' 0 (rstH hs s1.H ((rgL hs).of true s1 x).H)=Hx x:=congrArg AS.H (rst_abs (β:=β') (kpx s1.T x))
  rw[e1];exact hG
 ·rintro ex a' W H hne ⟨s',hp,hkpt,hK,rfl⟩ hG
  exact back hG hK
theorem run_ok(hU:U.Ok)(hS:SndE P φ):∀(tc:TC U) (c:Code) {ro:Option Nat} {Γ : Ctx} {β:Nat->Value},RO ro (tc.its P) tc.noRange->Γ.mkb <= Γ.w0.heap.size->tcOk P n c tc=true->∀ {s:St U} {K:Ex->St U->Option R} {r:R} {a:Act} {w:World},run φ tc s K=some r->FOk s->Good Γ n (absS β s) a w ->
  c.wpIn (Fr ro) 1 P (PostM β Γ n K r) a w
 | .skip,c,ro,Γ,β,hx,hg,hk,s,K,r,a,w,h,hE,G=>by
  cases c<;>simp only[tcOk,Bool.false_eq_true]at hk
  exact wpIn_skip ⟨.normal,s,rfl,h,hE,G⟩
 | .ops l,c,ro,Γ,β,hx,hg,hk,s,K,r,a,w,h,hE,G=>by
  cases c<;>simp only[tcOk,Bool.false_eq_true]at hk
  rename_i id ops dr
  simp only[Bool.and_eq_true,Bool.not_eq_true']at hk
  obtain⟨rfl,hk⟩:=hk
  exact wpIn_region_list (list_in ro no_out _ (opsOk_defer hk) (ops_ok hU hS l ops.toList hk h hE G (fun a' w' s' h1 h2 h3=>⟨.normal,s',rfl,h1,h2,h3⟩)))
 | .draw l,c,ro,Γ,β,hx,hg,hk,s,K,r,a,w,h,hE,G=>by
  cases c<;>simp only[tcOk,Bool.false_eq_true]at hk
  rename_i id ops dr
  simp only[Bool.and_eq_true]at hk
  obtain⟨⟨⟨rfl,hr⟩,hk⟩,hd⟩:=hk
  refine wpIn_region_draw fun t=>ops_in ro no_out (opsOk_defer hk) _ ?_
  have hd':=hd
  simp only[drawOk,Bool.and_eq_true]at hd'
  refine draw_sound hk hd (wpo_eqv hU hS l hr hE h (.refl _)) ?_ G.drew (topo_schedule hd'.1 _ t)
  rintro a' w' t ⟨s',h1,h2,h3⟩ G'
  exact⟨.normal,s',rfl,h3,h2,Good.eqv G' h1.symm⟩
 | .draw2 l i sel,c,ro,Γ,β,hx,hg,hk,s,K,r,a,w,h,hE,G=>by
  cases c<;>simp only[tcOk,Bool.false_eq_true]at hk
  rename_i id ops dr
  simp only[Bool.and_eq_true]at hk
  obtain⟨⟨⟨⟨rfl,hr⟩,hr2⟩,hk⟩,hd⟩:=hk
  refine wpIn_region_draw fun t=>ops_in ro no_out (opsOk_defer hk) _ ?_
  have hd':=hd
  simp only[drawOk2,Bool.and_eq_true]at hd'
  obtain⟨q1,q2⟩:=agree_some h
  refine draw2_sound (Q:=fun t=>∃ s',Wks t (absS β s')/\FOk s'/\K .normal s'=some r) hk hd (wpo_mono' (wpo_eqv hU hS l hr hE q1 (.refl _)) ?_) ?_ ?_ G.drew (topo_schedule hd'.1.1 _ t)
  ·rintro t ⟨s',h1,h2,h3⟩
   exact⟨s',wks_eqv h1.symm,h2,h3⟩
  ·rw[<-erL_swap i l hr]
   refine wpo_mono' (wpo_eqv hU hS (swapAt i l) hr2 hE q2 (.refl _)) ?_
   rintro t ⟨s',h1,h2,h3⟩
   obtain⟨s2,g1,g2,g3⟩:=pseudo_ok hU β (.perm sel) rfl h2 h3
   exact⟨s2,(wks_eqv h1.symm).trans g1,g2,g3⟩
  ·rintro a' w' t ⟨s',h1,h2,h3⟩ G'
   exact⟨.normal,s',rfl,h3,h2,h1 _ _ _ _ G'⟩
 | .seq x y,c,ro,Γ,β,hx,hg,hk,s,K,r,a,w,h,hE,G=>by
  cases c<;>simp only[tcOk,Bool.false_eq_true]at hk
  rename_i c1 c2
  simp only[Bool.and_eq_true]at hk
  refine wpIn_seq (wpIn_mono (run_ok hU hS x c1 hx.l hg hk.1 h hE G) ?_)
  intro e a' w' hq
  rcases kN_some hq with⟨rfl,s',h1,h2,h3⟩|⟨hne,hq⟩
  ·exact run_ok hU hS y c2 hx.r hg hk.2 h1 h2 h3
  ·cases e with
   | normal=>exact absurd rfl hne
   | _=>exact hq
 | .th x l,c,ro,Γ,β,hx,hg,hk,s,K,r,a,w,h,hE,G=>by
  have hk:(noReal l && tcOk P n c x)=true:=by cases c<;>exact hk
  simp only[Bool.and_eq_true]at hk
  refine wpIn_mono (run_ok hU hS x c ⟨hx.i,hx.n⟩ hg hk.2 (show run φ x s _=some r from h) hE G) ?_
  intro e a' w' hq
  rcases kN_some hq with⟨rfl,s',h1,h2,h3⟩|⟨hne,hq⟩
  ·obtain⟨s2,k1,k2,k3⟩:=ps_ok (β:=β) hU l hk.1 h1 h2
   exact⟨.normal,s2,rfl,k3,k2,k1 _ _ _ _ h3⟩
  ·exact hq
 | .ps l x,c,ro,Γ,β,hx,hg,hk,s,K,r,a,w,h,hE,G=>by
  have hk:(noReal l && tcOk P n c x)=true:=by cases c<;>exact hk
  simp only[Bool.and_eq_true]at hk
  obtain⟨s2,k1,k2,k3⟩:=ps_ok (β:=β) hU l hk.1 (show runO φ l s (fun s'=>run φ x s' K)=some r from h) hE
  exact run_ok hU hS x c ⟨hx.i,hx.n⟩ hg hk.2 k3 k2 (k1 _ _ _ _ G)
 | .jn sh x y,c,ro,Γ,β,hx,hg,hk,s,K,r,a,w,h,hE,G=>by
  cases c<;>simp only[tcOk,Bool.false_eq_true]at hk
  rename_i c1 c2
  simp only[Bool.and_eq_true]at hk
  obtain⟨⟨hkp,hk1⟩,hk2⟩:=hk
  simp only[run,jn]at h
  cases hok:sh.okE s<;>rw[hok]at h
  ·exact(none_some h).elim
  ·simp only[cond_true]at h
   have hpu:Pu sh.ks (roS sh s):=fun k hk=>of_pu hok k hk
   have habs:absS β (roS sh s)=absS β s:=by simp only[absS,roS,roH_abs]
   have h':=run_only hkp hpu h
   refine wpIn_seq (wpIn_mono (run_ok hU hS x c1 hx.l hg hk1 h' (FOk_H hE) (by rw[habs];exact G)) ?_)
   rintro e a' w' ⟨ex,s',rfl,hq,h2,h3⟩
   obtain⟨hpr,hq⟩:=onlyP_ok hq
   have hkpt:Kpt sh s s':=kpt_of (h:=roS sh s) hok (fun _ _=>rfl) (fun r t m=>roH_keep) hpr
   have back:∀ ex,K ex (rst sh s s')=some r->∃ ex' s'',ex.to=ex'.to/\K ex' s''=some r/\FOk s''/\Good Γ n (absS β s'') a' w':=
    fun ex hq=>⟨ex,rst sh s s',rfl,hq,FOk_H h2,by rw[rst_abs hkpt];exact h3⟩
   cases ex with
   | normal =>
    obtain⟨v,h4,h5⟩:=bind_some' hU (show Option.bind (sh.de s') _=some r from hq)
    exact run_ok hU hS y c2 hx.r hg hk2 h5 (FOk_of sh false v hok hE) (LSh.de_ok hU false β hok hkpt h4 _ _ _ _ h3)
   | exit i=>exact back (.exit i) hq
   | ret=>exact back .ret hq
 | .cond c' x y,c,ro,Γ,β,hx,hg,hk,s,K,r,a,w,h,hE,G=>by
  cases c<;>simp only[tcOk,Bool.false_eq_true]at hk
  rename_i c0 c1 c2
  simp only[Bool.and_eq_true]at hk
  obtain⟨⟨h0,h1⟩,h2⟩:=hk
  obtain⟨I,θ,S,hR⟩:=G.ex
  have hv:=opd_rv hR h0
  simp only[run]at h
  split at h
  ·rename_i b hb
   rw[ev_abs,boolN_ok hU hb]at hv
   simp only[RV]at hv
   refine wpIn_cond hv ?_
   obtain⟨q1,q2⟩:=br_ok hU β hE G.fit hb
   have G':=Good.eqv G q1.symm
   cases b with
   | true=>simpa using run_ok hU hS x c1 hx.l hg h1 h q2 G'
   | false=>simpa using run_ok hU hS y c2 hx.r hg h2 h q2 G'
  ·cases hub:isUb (s.ev c')<;>rw[hub]at h
   ·exact(none_some h).elim
   ·have hxu:s.ev c'=.ub:=by
     revert hub
     cases s.ev c'<;>intro hub<;>first|rfl|cases hub
    rw[ev_abs,hxu]at hv
    simp only[N.abs,RV]at hv
    obtain⟨b,hv⟩:=hv
    obtain⟨q1,q2⟩:=agree_some (show agree _ _=some r from h)
    refine wpIn_cond hv ?_
    cases b with
    | true=>simpa using run_ok hU hS x c1 hx.l hg h1 q1 hE G
    | false=>simpa using run_ok hU hS y c2 hx.r hg h2 q2 hE G
 | .block id' x,c,ro,Γ,β,hx,hg,hk,s,K,r,a,w,h,hE,G=>by
  cases c<;>simp only[tcOk,Bool.false_eq_true]at hk
  rename_i id c1
  simp only[Bool.and_eq_true,beq_iff_eq]at hk
  obtain⟨rfl,hk⟩:=hk
  refine wpIn_block (wpIn_mono (run_ok hU hS x c1 ⟨hx.i,hx.n⟩ hg hk h hE G) ?_)
  rintro e a' w' ⟨ex,s',rfl,hq,h2,h3⟩
  cases ex with
  | normal=>exact⟨.normal,s',rfl,hq,h2,h3⟩
  | exit i =>
   simp only[kB]at hq
   simp only[Ex.to,Exit.inBlock]
   cases hi:Nat.beq i id<;>rw[hi]at hq
   ·rw[if_neg (fun e=>by rw[e]at hi;simp at hi)];exact⟨.exit i,s',rfl,hq,h2,h3⟩
   ·rw[if_pos (Nat.eq_of_beq_eq_true hi)];exact⟨.normal,s',rfl,hq,h2,h3⟩
  | ret=>exact⟨.ret,s',rfl,hq,h2,h3⟩
 | .loop sh x,c,ro,Γ,β,hx,hg,hk,s,K,r,a,w,h,hE,G=>by
  cases c<;>simp only[tcOk,Bool.false_eq_true]at hk
  rename_i c1
  simp only[Bool.and_eq_true]at hk
  obtain⟨hkp,hk⟩:=hk
  simp only[run]at h
  cases hok:sh.okE s<;>rw[hok]at h
  ·exact(none_some h).elim
  ·simp only[cond_true]at h
   obtain⟨x0,h1,h2⟩:=bind_some' hU h
   obtain⟨m,hm⟩:=loopN_some h2
   refine wpIn_loop_ghost (fun m a w=>∃ v,loopF (fun x' next=>run φ x (sh.of true s x') (kN (fun s'=>Option.bind (sh.de s') next) (fun e s'=>K e (rst sh s s')))) m v=some r/\Good Γ n (absS β (sh.of true s v)) a w) m ⟨x0,hm,LSh.de_ok hU true β hok (kpt_refl hok) h1 _ _ _ _ G⟩ ?_
   rintro m a w ⟨v,hv,G⟩
   cases m with
   | zero=>cases hv
   | succ m =>
    have hpu:Pu sh.ks (sh.of true s v):=fun k hk=>by rw[of_T hok k hk];exact of_pu hok k hk
    have h':=run_only hkp hpu (show run φ x (sh.of true s v) _=some r from hv)
    refine wpIn_mono (run_ok hU hS x c1 ⟨hx.i,hx.n⟩ hg hk h' (FOk_of sh true v hok hE) G) ?_
    rintro e a' w' ⟨ex,s',rfl,hq,q2,q3⟩
    obtain⟨hpr,hq⟩:=onlyP_ok hq
    have hkpt:Kpt sh s s':=kpt_of hok (of_T hok) (fun r t m=>of_keep) hpr
    cases ex with
    | normal =>
     obtain⟨v',q4,q5⟩:=bind_some' hU (show Option.bind (sh.de s') _=some r from hq)
     exact⟨m,Nat.lt_succ_self m,v',q5,LSh.de_ok hU true β hok hkpt q4 _ _ _ _ q3⟩
    | exit i=>exact⟨.exit i,rst sh s s',rfl,hq,FOk_H q2,by rw[rst_abs hkpt];exact q3⟩
    | ret=>exact⟨.ret,rst sh s s',rfl,hq,FOk_H q2,by rw[rst_abs hkpt];exact q3⟩
 | .range ts it f g' ps pt ks hs al x,c,ro,Γ,β,hx,hg,hk,s,K,r,a,w,h,hE,G=>by
  cases c<;>simp only[tcOk,Bool.false_eq_true]at hk
  rename_i g psA asg body
  obtain rfl:ro=none:=hx.n.resolve_right (by simp[TC.noRange])
  simp only[Bool.and_eq_true]at hk
  obtain⟨⟨⟨⟨⟨⟨⟨hk0,hk1⟩,hk2⟩,hk3⟩,hk4⟩,hk5⟩,hk6⟩,hk7⟩:=hk
  cases asg<;>simp only[Bool.false_eq_true]at hk6
  rename_i id ops dr
  simp only[Bool.and_eq_true,Bool.not_eq_true']at hk6
  obtain⟨rfl,hk6⟩:=hk6
  simp only[run]at h
  cases hv:(rgS s pt ks).ev g'<;>rw[hv]at h<;>try exact(none_some h).elim
  rename_i f' first caps
  simp only at h
  cases hc:(Nat.beq f' f && lenEq first ([]:List Nat) && pureNs caps && ptOk hs.length s pt && purT s.T ks && pinHs hs s.H.length (pt.map (·.2)) && (rgL hs).okE (rgS s pt ks))<;>rw[hc]at h
  ·exact(none_some h).elim
  simp only[Bool.and_eq_true]at hc
  obtain⟨⟨⟨⟨⟨⟨c1,c2⟩,c3⟩,c4⟩,c5⟩,c6⟩,c7⟩:=hc
  obtain rfl:=Nat.eq_of_beq_eq_true c1
  obtain rfl:first=[]:=List.eq_nil_of_length_eq_zero (by have:=lenEq_ok c2;simpa using this)
  simp only[cond_true]at h
  obtain⟨L,hL,h⟩:=bind_some' hU h
  cases ha:lenEq ts ps<;>rw[ha]at h
  ·exact(none_some h).elim
  simp only[cond_true]at h
  obtain⟨x0,hd,h⟩:=bind_some' hU h
  have hps:=eqNs_ok hk1
  have ha:=argsOk_vt (L:=L) ha
  exact rg_ok hU hS (fun {ro Γ β} hΓ {s K r a w}=>run_ok hU hS x body (ro:=ro) (Γ:=Γ) (β:=β) ⟨hx.i.2,.inr hk5⟩ hΓ hk7) hk0 hps hk2 hk3 hk4 hk6 (by rw[List.map_map];exact hx.i.1 caps L hL c3) hv c3 c4 c5 c6 c7 ha hd ((forR_map (vtN ts) _ _ L x0).symm.trans h) hg G
 | .exit id',c,ro,Γ,β,hx,hg,hk,s,K,r,a,w,h,hE,G=>by
  cases c<;>simp only[tcOk,Bool.false_eq_true]at hk
  rename_i id
  obtain rfl:=beq_iff_eq.1 hk
  exact wpIn_exit ⟨.exit _,s,rfl,h,hE,G⟩
 | .ret,c,ro,Γ,β,hx,hg,hk,s,K,r,a,w,h,hE,G=>by
  cases c<;>simp only[tcOk,Bool.false_eq_true]at hk
  exact wpIn_ret ⟨.ret,s,rfl,h,hE,G⟩
end
end Go.Ab.X

set_option linter.all false
namespace Go.Ab.X
open Go.RowKit Go.Ab
section
variable {U:Uni} {R:Type} {P:Program}
inductive TR(U:Uni) where
 | t (n:Nat)
 | c (a:Nat) (t:U.T)
inductive Out(U:Uni) where
 | pure (l:List (Sh U))
 | own (n:Nat) (hs:List (HSh U)) (rs:List (Sh U))
def oneSh:List (Sh U)->Sh U
 | [x]=>x
 | l=>.tup l
def Out.hs:Out U->List (HSh U)
 | .pure _=>[]
 | .own _ hs _=>hs
def Out.rs:Out U->Sh U
 | .pure l=>oneSh l
 | .own _ _ rs=>oneSh rs
def Out.dc(o:Out U)(q:Option (List (HB U)×N U)):Option (Tup U (hTy o.hs (o.rs.ty []))):=dcG o.hs o.rs q
def Out.bk(o:Out U)(r:Tup U (hTy o.hs (o.rs.ty []))):List (HB U)×N U:=((hOf false o.hs [] r).1,(o.rs.of (hOf false o.hs [] r).2).1)
theorem dcG_nil{rs:Sh U}{q:Option (List (HB U)×N U)}:dcG [] rs q=dcR rs q:=by
 cases q with
 | none=>rfl
 | some p =>
  obtain⟨H,y⟩:=p
  cases H with
  | nil =>
   show Option.bind (rs.de lfX y (l:=[]) ()) (fun a=>some a)=rs.de lfX y (l:=[]) ()
   cases rs.de lfX y (l:=[]) ()<;>rfl
  | cons=>rfl
theorem dc_bk(hU:U.Ok){o:Out U}(h1:solids o.hs=true)(h2:RowsOk o.hs)(r:Tup U (hTy o.hs (o.rs.ty []))):o.dc (some (o.bk r))=some r:=by
 obtain⟨k1,k2⟩:=hde_of hU o.hs r h1 h2
 unfold Out.dc Out.bk dcG
 simp only[Option.bind_some,h1,k2,Bool.and_self,cond_true]
 have:=de_of hU o.rs (hOf false o.hs [] r).2
 have hu:(o.rs.of (hOf false o.hs [] r).2).2=():=rfl
 rw[hu]at this
 rw[this]
 exact k1
structure XFn(U:Uni) where
 N:Nat
 res:List (TR U)
 out:Out U
 body:TC U
def TR.er:TR U->RVar
 | .t n=>.t n
 | .c a ty=>.c a (U.sz ty) (U.st ty)
def resT(s:St U):TR U->Option (N U)
 | .t n=>some (lkN s.T n)
 | .c a t=>match lkN s.T a with
  | .ip n j p=>ldN t n j p some
  | .ptr r j p=>match boxOf s.H[r]? with
   | some n=>ldN t n j p some
   | none=>none
  | _=>none
def resTs(s:St U):List (TR U)->Option (List (N U))
 | []=>some []
 | x::xs=>Option.bind (resT s x) fun v=>Option.bind (resTs s xs) fun l=>some (v::l)
def fzSh(H:List (HB U))(sh:Sh U)(n:N U):Option (N U):=match sh with
 | .p t=>match asT H t 30 n with
  | some x=>some (.v t x)
  | none=>none
 | sh=>Option.bind (sh.de lfT n (l:=[]) ()) fun s=>bif pureN n then some (sh.of s).1 else none
def fzShs(H:List (HB U)):List (Sh U)->List (N U)->Option (List (N U))
 | [],[]=>some []
 | x::xs,n::ns=>Option.bind (fzSh H x n) fun y=>Option.bind (fzShs H xs ns) fun l=>some (y::l)
 | [],_::_=>none
 | _::_,[]=>none
def one:List (N U)->N U
 | [x]=>x
 | l=>.tup l
def rowsOf:List (Sh U)->List (N U)->List Nat
 | [],_=>[]
 | x::xs,ns=>(match x,ns.head? with
  | .row _,some (.row r)=>[r]
  | .ag _ fs,some (.ag _ l)=>rowsA fs l
  | _,_=>[])++rowsOf xs ns.tail
where rowsA:List (Sh U)->List (N U)->List Nat
 | [],_=>[]
 | x::xs,ns=>(match x,ns.head? with
  | .row _,some (.row r)=>[r]
  | _,_=>[])++rowsA xs ns.tail
def geN(n:Nat):List Nat->List Nat
 | []=>[]
 | r::l=>bif Nat.blt r n then geN n l else r::geN n l
def upN:Nat->Nat->List Nat
 | _,0=>[]
 | n,m+1=>n::upN (n+1) m
def finO(ks:List Nat)(hs:List (HSh U))(rs:List (Sh U))(s:St U)(l:List (N U))(sel all:List Nat):Option (List (HB U)×N U):=
 bif nodupN all && allLt s.H.length all && lenEq hs sel then
  Option.bind (shDe lfT rs (rnNs (posL all) l) (l:=[]) ()) fun a0=>Option.bind (hDe lfT hs ((selHN all s.H).take sel.length) a0) fun a =>
   some ((hOf false hs [] a).1,one (shOf rs (hOf false hs [] a).2).1)
  else none
def fin(m:Nat)(ks:List Nat)(x:XFn U)(s:St U):Option (List (HB U)×N U):=Option.bind (resTs s x.res) fun l=>match x.out with
 | .pure sh=>bif Nat.beq m 0 then Option.bind (fzShs s.H sh l) fun ys=>some ([],one ys)else none
 | .own n hs rs=>bif Nat.beq m n && solids hs && pinsAt s.H n ks then finO ks hs rs s l (upN 0 n++geN n (rowsOf rs l)) (upN 0 n++(geN n (rowsOf rs l)++upN n ks.length))else none
def finK(m:Nat)(ks:List Nat)(x:XFn U):Ex->St U->Option (List (HB U)×N U)
 | .exit _,_=>none
 | .normal,s=>fin m ks x s
 | .ret,s=>fin m ks x s
def initN:Nat->List (N U)->List (Nat×N U)
 | _,[]=>[]
 | k,v::vs=>(k,v)::initN (k+1) vs
def fnX(P:Program)(f:Func)(x:XFn U):Bool:=
 f.ntmps == x.N && f.name != "runtime.NumGoroutine" && resOk P f.results.toList (x.res.map TR.er) && (match f.body with
  | some c=>tcOk P x.N c x.body
  | none=>false)
section
variable (hU:U.Ok)
include hU
theorem resT_ok(β:Nat->Value){s:St U}{x:TR U}{v:N U}(h:resT s x=some v):resv (absS β s) x.er=some v.abs:=by
 cases x with
 | t n=>cases h;simp only[TR.er,resv,absS,lk_abs]
 | c a t =>
  simp only[resT]at h
  simp only[TR.er,resv,absS,lk_abs]
  split at h
  ·rename_i m j p ha
   obtain⟨m',h1,h2⟩:=ldN_ok hU h
   cases h1
   rw[ha];exact h2
  ·rename_i q j p ha
   split at h
   ·rename_i m hq
    obtain⟨m',h1,h2⟩:=ldN_ok hU h
    cases h1
    rw[ha]
    obtain⟨tid,hq⟩:=boxOf_ok β hq
    simp only[N.abs,hq]
    exact h2
   ·cases h
  ·cases h
theorem resTs_ok(β:Nat->Value){s:St U}:∀ {xs:List (TR U)} {l:List (N U)},resTs s xs=some l->resvs (absS β s) (xs.map TR.er)=some (absL l)
 | [],l,h=>by
  have:[]=l:=Option.some.inj h
  subst this;rfl
 | x::xs,l,h=>by
  obtain⟨v,h1,h⟩:=bind_some' hU (show Option.bind (resT s x) (fun v=>Option.bind (resTs s xs) fun l=>some (v::l))=some l from h)
  obtain⟨l',h2,h⟩:=bind_some' hU h
  obtain rfl:=Option.some.inj h
  simp only[List.map_cons,resvs,resT_ok hU β h1,resTs_ok β h2,Option.bind_some,Option.map_some,absL]
theorem fzSh_ok(β:Nat->Value){H:List (HB U)}{sh:Sh U}{n m:N U}(h:fzSh H sh n=some m):FZ (absH β 0 H) n.abs m.abs:=by
 have gen:∀ {sh:Sh U},Option.bind (sh.de lfT n (l:=[]) ()) (fun s=>bif pureN n then some (sh.of s).1 else none)=some m->FZ (absH β 0 H) n.abs m.abs:=by
  intro sh h
  obtain⟨s,h1,h2⟩:=bind_some' hU h
  cases hp:pureN n<;>rw[hp]at h2
  ·exact(none_some h2).elim
  ·obtain rfl:=Option.some.inj h2
   exact .le _ _ (leSh_ok hU h1).1 (pureN_ok hU hp)
 cases sh with
 | p t =>
  simp only[fzSh]at h
  split at h
  ·rename_i x hx
   obtain rfl:=Option.some.inj h
   exact asT_fz hU β hx
  ·cases h
 | _=>exact gen h
theorem fzShs_ok(β:Nat->Value){H:List (HB U)}:∀ {xs:List (Sh U)} {ns ms:List (N U)},fzShs H xs ns=some ms->FZL (absH β 0 H) (absL ns) (absL ms)/\ns.length=ms.length
 | [],[],ms,h=>by
  have:[]=ms:=Option.some.inj h
  subst this;exact⟨.nil,rfl⟩
 | x::xs,n::ns,ms,h=>by
  obtain⟨v,h1,h⟩:=bind_some' hU (show Option.bind (fzSh H x n) (fun y=>Option.bind (fzShs H xs ns) fun l=>some (y::l))=some ms from h)
  obtain⟨l',h2,h⟩:=bind_some' hU h
  obtain rfl:=Option.some.inj h
  obtain⟨k1,k2⟩:=fzShs_ok β h2
  exact⟨.cons _ _ _ _ (fzSh_ok hU β h1) k1,by simp[k2]⟩
 | [],_::_,ms,h=>(none_some h).elim
 | _::_,[],ms,h=>(none_some h).elim
theorem resTs_len{s:St U}:∀ {xs:List (TR U)} {l:List (N U)},resTs s xs=some l->l.length=xs.length
 | [],l,h=>by
  have:[]=l:=Option.some.inj h
  subst this;rfl
 | x::xs,l,h=>by
  obtain⟨v,h1,h⟩:=bind_some' hU (show Option.bind (resT s x) (fun v=>Option.bind (resTs s xs) fun l=>some (v::l))=some l from h)
  obtain⟨l',h2,h⟩:=bind_some' hU h
  obtain rfl:=Option.some.inj h
  simp[resTs_len h2]
theorem res_rel(β:Nat->Value){Rl:List AV->List AV->Prop}{Re:AV->AV->Prop}(hone:∀ a b,Rl [a] [b]->Re a b)(htup:∀ a b,Rl a b->Re (.tup a) (.tup b)){x:XFn U}{s:St U}{l ys:List (N U)}(h1:resTs s x.res=some l)(k2:Rl (absL l) (absL ys))(k3:l.length=ys.length) :
  ∃ v,resOf (absS β s) (x.res.map TR.er)=some v/\Re v (one ys).abs:=by
 have k1:=resTs_ok hU β h1
 have hlen:l.length=x.res.length:=resTs_len hU h1
 match hx:x.res,hl:l,hy:ys with
 | [],[],[]=>rw[hx]at k1;exact⟨.tup [],rfl,htup _ _ k2⟩
 | [r],[v],[w] =>
  rw[hx]at k1
  refine⟨v.abs,?_,hone _ _ k2⟩
  simp only[List.map_cons,List.map_nil,resvs]at k1
  simp only[List.map_cons,List.map_nil,resOf]
  cases hr:resv (absS β s) r.er with
  | none=>rw[hr]at k1;simp at k1
  | some u=>rw[hr]at k1;simpa [absL] using k1
 | r::r2::rs,v::v2::vs,w::w2::ws =>
  rw[hx]at k1
  exact⟨.tup (absL (v::v2::vs)),by simp only[List.map_cons]at k1 ⊢;simp only[resOf];rw[k1];rfl,htup _ _ k2⟩
 | [],_::_,_=>simp[hx]at hlen
 | _::_,[],_=>simp[hx]at hlen
 | [_],_::_::_,_=>simp[hx]at hlen
 | _::_::_,[_],_=>simp[hx]at hlen
 | _,[],_::_=>simp at k3
 | _,_::_,[]=>simp at k3
 | _,[_],_::_::_=>simp at k3
 | _,_::_::_,[_]=>simp at k3
theorem absT_init:∀(l:List (N U)) (k:Nat),absT (initN k l)=initT k (absL l)
 | [],k=>rfl
 | x::l,k=>by simp only[initN,absT,absL,initT,absT_init l]
omit hU in
theorem rnNs_len{f:Nat->Option Nat}:∀(l:List (N U)),(rnNs f l).length=l.length
 | []=>rfl
 | n::l=>by simp[rnNs,rnNs_len l]
omit hU in
theorem HL_app:∀ {A A' C:List AB},HL A A'->A.length=A'.length->HL (A++C) (A'++C)
 | A,[],C,.nil _,hl=>by
  have:A=[]:=List.eq_nil_of_length_eq_zero (by simpa using hl)
  subst this
  exact HL.rfl' _
 | _,_,C,.cons x y xs ys h hs,hl=>.cons x y _ _ h (HL_app hs (by simpa using hl))
omit hU in
theorem upN_len:∀(m n:Nat),(upN n m).length=m
 | 0,n=>rfl
 | m+1,n=>by simp[upN,upN_len m]
omit hU in
theorem upN_get:∀(m n k:Nat),k<m->(upN n m)[k]? = some (n+k)
 | m+1,n,0,_=>rfl
 | m+1,n,k+1,h=>by simp only[upN,List.getElem?_cons_succ];rw[upN_get m (n+1) k (by omega)];congr 1;omega
theorem finO_ok{Γ : Ctx}{I:Addr->Prop}{θ:Nat->Option Value}{w:World}(β β0:Nat->Value)(B:Nat->Value){n:Nat}{ks:List Nat}{hs:List (HSh U)}{rs:List (Sh U)}{x:XFn U}{s:St U}{l:List (N U)}{rows:List Nat}{H':List (HB U)}{y:N U}
  (S:Sim Γ I θ (absH β 0 s.H) w) (hks:∀ k∈ks,k<n) (hso:solids hs=true) (hpin:pinsAt s.H n ks=true) (hβ:∀ i k,ks[i]? = some k->β (n+i)=B k) (h1:resTs s x.res=some l)
  (h:finO ks hs rs s l (upN 0 n++rows) (upN 0 n++(rows++upN n ks.length))=some (H',y)) :
  ∃ v,resOf (absS β s) (x.res.map TR.er)=some v/\∃ θ',Sim Γ I θ' (absH β0 0 H'++pinsOf B ks) w/\∀ u,RV I θ w v u->RV I θ' w y.abs u:=by
 unfold finO at h
 generalize hall:upN 0 n++(rows++upN n ks.length)=all at h
 generalize hsel:upN 0 n++rows=sel at h
 have hcat:all=sel++upN n ks.length:=by rw[<-hall,<-hsel,List.append_assoc]
 cases hc:(nodupN all && allLt s.H.length all && lenEq hs sel)<;>rw[hc]at h
 ·exact(none_some h).elim
 ·simp only[Bool.and_eq_true]at hc
  obtain⟨⟨c1,c2⟩,c3⟩:=hc
  simp only[cond_true]at h
  obtain⟨a0,h2,h⟩:=bind_some' hU h
  obtain⟨a,h3,h⟩:=bind_some' hU h
  cases h
  have hsl:hs.length=sel.length:=lenEq_ok c3
  obtain⟨j1,j2,j3⟩:=deL_ok hU (relLE hU) (fun t n x h=>lfT_ok hU t n x h) rs h2
  obtain⟨i1,i2,i3⟩:=hDe_ok hU false β hs ((selHN all s.H).take sel.length) [] 0 (fun r b hr=>by
   exfalso
   have hk:∀(xs:List (HSh U)) (r:Nat),solids xs=true->xs[r]?≠some HSh.keep:=by
    intro xs
    induction xs with
    | nil=>intro r _ h;simp at h
    | cons y ys ih =>
     intro r h hr
     simp only[solids,Bool.and_eq_true]at h
     cases r with
     | zero=>simp at hr;subst hr;cases h.1
     | succ r=>exact ih r h.2 (by simpa using hr)
   exact hk hs r hso hr) h3
  have hlen:((selHN all s.H).take sel.length).length=sel.length:=by
   rw[List.length_take];simp only[selHN,List.length_map,hcat,List.length_append];omega
  have hsn:noPin ((selHN all s.H).take sel.length)=true:=hDe_noPin hso (by rw[hlen,hsl]) h3
  obtain⟨S1,hrv,_⟩:=S.sel all (nodupN_ok c1)
  have hpos:∀ k,k<n->posL all k=some k:=by
   intro k hk
   refine posL_of (nodupN_ok c1) ?_
   rw[<-hall,List.getElem?_append_left (by rw[upN_len];exact hk),upN_get n 0 k hk,Nat.zero_add]
  have hA:selH all (absH β 0 s.H)=absH β 0 ((selHN all s.H).take sel.length)++pinsOf B ks:=by
   have e1:selH all (absH β 0 s.H)=(sel.map fun r=>rnB (posL all) ((absH β 0 s.H)[r]?.getD .gone))++((upN n ks.length).map fun r=>rnB (posL all) ((absH β 0 s.H)[r]?.getD .gone)):=by
    show all.map (fun r=>rnB (posL all) ((absH β 0 s.H)[r]?.getD .gone))=_
    conv=>lhs;arg 2;rw[hcat]
    rw[List.map_append]
   rw[e1]
   congr 1
   ·have e2:(selHN all s.H).take sel.length=sel.map fun r=>rnHB (posL all) (s.H[r]?.getD .gone):=by
     show(all.map fun r=>rnHB (posL all) (s.H[r]?.getD .gone)).take sel.length=_
     conv=>lhs;arg 2;arg 2;rw[hcat]
     rw[List.map_append,List.take_left' (by simp)]
    rw[e2]at hsn ⊢
    exact(abs_selL hU β β sel 0 hsn).symm
   ·apply List.ext_getElem?
    intro i
    simp only[pinsOf,List.getElem?_map]
    cases hi:ks[i]? with
    | none =>
     have:ks.length<=i:=List.getElem?_eq_none_iff.1 hi
     rw[List.getElem?_eq_none (by rw[upN_len];exact this)]
     rfl
    | some k =>
     have hlt:i<ks.length:=(List.getElem?_eq_some_iff.1 hi).1
     rw[upN_get _ _ _ hlt]
     simp only[Option.map_some]
     rw[absH_get,pinsAt_get hpin hi]
     simp only[Option.map_some,Option.getD_some,absB,rnB,hpos k (hks k (List.mem_of_getElem? hi)),Nat.zero_add,hβ i k hi]
  rw[hA]at S1
  have hHl:HL (absH β 0 ((selHN all s.H).take sel.length)++pinsOf B ks) (absH β0 0 (hOf false hs [] a).1++pinsOf B ks):=by
   refine HL_app ?_ (by rw[absH_len,absH_len,hlen,i3,hsl])
   rw[noPin_abs β0 β (hOf false hs [] a).1 0 0 (solids_noPin hs a hso)]
   exact i1
  have S2:=S1.hl hHl (by simp only[List.length_append,absH_len,hlen,i3,hsl])
  obtain⟨v,r1,r2⟩:=res_rel hU β (Rl:=fun a b=>LEL (rnL (posL all) a) b) (Re:=fun a b=>LE (rn (posL all) a) b) (fun a b h=>LEL_one hU h) (fun a b h=>.tup _ _ h) (l:=l) (ys:=(shOf rs (hOf false hs [] a).2).1) (x:=x) (s:=s) h1
   (by rw[<-absL_rn hU,i2];exact j2) (by
    have:=LEL_length j2
    rw[i2]
    simpa [absL_eq,rnNs_len] using this)
  exact⟨v,r1,_,S2,fun u hu=>r2.rv (hrv v u hu)⟩
theorem fn_ok{vf:Nat}{φ:Env U}(hS:SndE P φ){g:FuncId}{f:Func}{x:XFn U}{args:List (N U)}{Hin:List (HB U)}(hf:P.funcs[g]? = some f)(hk:fnX P f x=true)(hi:x.body.its P)(hn:args.length<=x.N)(hnp:noPin Hin=true)
  (r:Tup U (hTy x.out.hs (x.out.rs.ty []))) (h:run φ x.body ⟨initN 0 args,Hin++(boxIx vf 0 Hin).map .pin,[]⟩ (fun e s=>x.out.dc (finK Hin.length (boxIx vf 0 Hin) x e s))=some r) (B:Nat->Value) (β:Nat->Value):PG P g (absH β 0 Hin++pinsOf B (boxIx vf 0 Hin)) (absL args) (absH β 0 (x.out.bk r).1++pinsOf B (boxIx vf 0 Hin)) (x.out.bk r).2.abs:=by
 simp only[fnX,Bool.and_eq_true,beq_iff_eq,bne_iff_ne]at hk
 obtain⟨⟨⟨k1,k2⟩,k3⟩,k4⟩:=hk
 split at k4
 ·rename_i c hc
  constructor
  ·intro as w
   simp[callFunc,hf,hc,k2]
  ·intro I θ0 w vals S0 hv
   refine calls_of_good (Γ:=lentΓ I w (absH β 0 Hin++pinsOf B (boxIx vf 0 Hin)) θ0) hf hc ?_
   have hlen:=RVs_length hv
   have hal:(absL args).length=args.length:=by simp[absL_eq]
   let β1:Nat->Value:=fun q=>B (((boxIx vf 0 Hin)[q-Hin.length]?).getD 0)
   have hpins:∀(l:List Nat) (k:Nat),(∀ i q,l[i]? = some q->β1 (k+i)=B q)->absH β1 k (l.map (HB.pin (U:=U)))=pinsOf B l:=by
    intro l
    induction l with
    | nil=>intro k _;rfl
    | cons q l ih =>
     intro k hq
     simp only[List.map_cons,absH,absB,pinsOf]
     rw[ih (k+1) (fun i q' h=>by have:=hq (i+1) q' (by simpa using h);rwa [show k+1+i=k+(i+1) by omega])]
     have:=hq 0 q rfl
     rw[Nat.add_zero]at this
     rw[this];rfl
   have hβ1:∀ i k,(boxIx vf 0 Hin)[i]? = some k->β1 (Hin.length+i)=B k:=by
    intro i k hk
    simp only[β1,Nat.add_sub_cancel_left,hk,Option.getD_some]
   have hH:absH β1 0 (Hin++(boxIx vf 0 Hin).map .pin)=absH β 0 Hin++pinsOf B (boxIx vf 0 Hin):=by
    rw[absH_app,Nat.zero_add,noPin_abs β1 β Hin 0 0 hnp,hpins _ _ hβ1]
   have hst:absS β1 (⟨initN 0 args,Hin++(boxIx vf 0 Hin).map .pin,[]⟩:St U)=⟨initT 0 (absL args),absH β 0 Hin++pinsOf B (boxIx vf 0 Hin)⟩:=by simp only[absS,absT_init hU,hH]
   have G:Good (lentΓ I w (absH β 0 Hin++pinsOf B (boxIx vf 0 Hin)) θ0) x.N ⟨initT 0 (absL args),absH β 0 Hin++pinsOf B (boxIx vf 0 Hin)⟩ { tmps:=vals.toArray++Array.replicate (f.ntmps-vals.toArray.size) undef,defers:=[] } w:=by
    refine⟨⟨I,θ0,S0,fun n=>?_⟩,?_,Mk.nil _ _⟩
    ·simp only[initT_lk,Nat.zero_le,if_true,Nat.sub_zero]
     cases hx:(absL args)[n]? with
     | none=>simp[RV]
     | some x =>
      obtain⟨v,e1,e2⟩:=RVs_get hv n x hx
      have hlt:n<vals.length:=(List.getElem?_eq_some_iff.1 e1).1
      simp only[Option.getD_some]
      have:(vals.toArray++Array.replicate (f.ntmps-vals.toArray.size) undef).getD n undef=v:=by
       rw[Array.getD_eq_getD_getElem?,Array.getElem?_append_left (by simpa using hlt)]
       simp[e1]
      rw[this]
      exact e2
    ·simp
     omega
   rw[<-hst]at G
   refine wp_mono (wpIn_wide.1 (run_ok hU hS x.body c ⟨hi,.inl rfl⟩ (Nat.le_refl _) k4 h (fun d f h=>by cases h) G)) ?_
   rintro e a' w' ⟨ex,s',rfl,hq,hE,G'⟩
   let Φ : World->Prop:=fun w'=>∃ I' θ,Sim (lentΓ I w (absH β 0 Hin++pinsOf B (boxIx vf 0 Hin)) θ0) I' θ (absS β1 s').H w'/\Rel I' θ w' (absS β1 s').T a'
   have done0:∀ w',Φ w'->∀ H' y,fin Hin.length (boxIx vf 0 Hin) x s'=some (H',y)->∃ v,(results f a'.tmps).run P w'=.ok v w'/\∃ u I' θ',Ending.returned v=.returned u/\Sim (lentΓ I w (absH β 0 Hin++pinsOf B (boxIx vf 0 Hin)) θ0) I' θ' (absH β 0 H'++pinsOf B (boxIx vf 0 Hin)) w'/\RV I' θ' w' y.abs u:=by
    intro w' hex H' y hr
    obtain⟨I',θ,S,hR⟩:=hex
    obtain⟨l,r0,hz⟩:=bind_some' hU hr
    clear hr
    split at hz
    ·rename_i sh hout
     cases hm:Nat.beq Hin.length 0<;>rw[hm]at hz
     ·exact(none_some hz).elim
     ·have hnil:Hin=[]:=List.eq_nil_of_length_eq_zero (Nat.eq_of_beq_eq_true hm)
      subst hnil
      obtain⟨ys,r1,hz⟩:=bind_some' hU (show Option.bind (fzShs s'.H sh l) (fun ys=>some ([],one ys))=some (H',y)from hz)
      cases hz
      obtain⟨z1,z2⟩:=fzShs_ok hU β1 r1
      obtain⟨v0,r2,r3⟩:=res_rel hU β1 (Rl:=FZL (absH β1 0 s'.H)) (Re:=FZ (absH β1 0 s'.H)) (fun a b h=>FZL_one h) (fun a b h=>.tup _ _ h) r0 z1 z2
      obtain⟨v,r4,r5⟩:=res_of S hR k3 r2
      have hown:∀ k,(lentΓ I w (absH β 0 ([]:List (HB U))++pinsOf B (boxIx vf 0 ([]:List (HB U)))) θ0).own k->w.heap.size<=k:=by
       rintro k (h|⟨r,⟨x,hx,_⟩,_⟩)
       ·exact h
       ·simp[absH,boxIx,pinsOf]at hx
      refine⟨v,r4,v,Iall _ I' w',noθ,rfl,⟨S.below,fun b hb=>.inl (S.i0 b hb),?_,?_,?_,?_,?_,?_,fun _ _=>rfl,?_,?_,fun r q es h=>by simp[absH,boxIx,pinsOf]at h⟩,FZ.rv S r3 r5⟩
      ·rintro b (hb|⟨hb,_⟩)
       ·exact S.inew b hb
       ·exact .inr hb
      ·rintro b (hb|⟨_,hb⟩)
       ·exact S.ilt b hb
       ·exact hb
      ·intro r t cs h;simp[absH,boxIx,pinsOf]at h
      ·intro r e sz els h;simp[absH,boxIx,pinsOf]at h
      ·rintro r q B _ ⟨⟨x,hx,_⟩,_⟩ _;simp[absH,boxIx,pinsOf]at hx
      ·rintro a r _ ⟨⟨x,hx,_⟩,_⟩;simp[absH,boxIx,pinsOf]at hx
      ·rintro r B ⟨⟨x,hx,_⟩,_⟩;simp[absH,boxIx,pinsOf]at hx
      ·intro q r B h;simp[absH,boxIx,pinsOf]at h
    ·rename_i n hs rs hout
     cases hcc:(Nat.beq Hin.length n && solids hs && pinsAt s'.H n (boxIx vf 0 Hin))<;>rw[hcc]at hz
     ·exact(none_some hz).elim
     ·simp only[Bool.and_eq_true]at hcc
      obtain⟨⟨q1,q2⟩,q3⟩:=hcc
      have q1:=Nat.eq_of_beq_eq_true q1
      subst q1
      obtain⟨v0,r2,θ',S',r3⟩:=finO_ok hU β1 β B S (fun k hk=>by
       obtain⟨j,rfl,hj⟩:=boxIx_ok β _ Hin 0 k hk
       rw[Nat.zero_add]
       refine Nat.lt_of_not_le fun hle=>?_
       rw[List.getElem?_eq_none (by rw[absH_len];exact hle)]at hj
       cases hj) q2 q3 hβ1 r0 hz
      obtain⟨v,r4,r5⟩:=res_of S hR k3 r2
      exact⟨v,r4,v,I',θ',rfl,S',r3 v r5⟩
   have done:∀ w',Φ w'->x.out.dc (fin Hin.length (boxIx vf 0 Hin) x s')=some r->∃ v,(results f a'.tmps).run P w'=.ok v w'/\∃ u I' θ',Ending.returned v=.returned u/\Sim (lentΓ I w (absH β 0 Hin++pinsOf B (boxIx vf 0 Hin)) θ0) I' θ' (absH β 0 (x.out.bk r).1++pinsOf B (boxIx vf 0 Hin)) w'/\RV I' θ' w' (x.out.bk r).2.abs u:=by
    intro w' hex hr
    obtain⟨p,p1,p2⟩:=bind_some' hU (show Option.bind (fin Hin.length (boxIx vf 0 Hin) x s') _=some r from hr)
    obtain⟨H',y⟩:=p
    simp only at p2
    cases hso:(solids x.out.hs && lenEq x.out.hs H')<;>rw[hso]at p2
    ·exact(none_some p2).elim
    simp only[Bool.and_eq_true]at hso
    simp only[cond_true]at p2
    obtain⟨a1,h6,h7⟩:=bind_some' hU p2
    obtain⟨e1,e2⟩:=exSh_ok hU h6
    obtain⟨q1,q2⟩:=hX_ok hU β x.out.hs H' 0 hso.1 hso.2 h7
    have:=done0 w' hex H' y p1
    rw[q1,<-e1,<-q2]at this
    exact this
   have hΦ : ∀(w':World) (D:Nat),(lentΓ I w (absH β 0 Hin++pinsOf B (boxIx vf 0 Hin)) θ0).mkb<=D->w'.heap[D]? = some (.deferred (some []))->Φ w'->Φ (w'.putObj D (.deferred none)):=by
    rintro w' D hD hd ⟨I',θ,S,hR⟩
    obtain⟨S',h'⟩:=S.putObj hD hd rfl rfl (o':=.deferred none)
    exact⟨I',θ,S',fun n=>h' _ _ (hR n)⟩
   cases ex with
   | normal=>exact⟨.inl rfl,G'.defers,Φ,G'.ex,hΦ,fun w' h=>done w' h hq⟩
   | ret=>exact⟨.inr rfl,G'.defers,Φ,G'.ex,hΦ,fun w' h=>done w' h hq⟩
   | exit id=>cases hq
 ·cases k4
end
end
end Go.Ab.X
