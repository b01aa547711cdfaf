/- A part of the proof: AbS. -/
import Derived.Test.YtgkiahgcgjigkaaDoorAbQ
set_option linter.all false
set_option linter.unusedVariables false
namespace Go.Ab
open Go.RowKit
mutual
def refB(n:Nat):AV->Bool
 | .agg cs=>refL n cs
 | .tup cs=>refL n cs
 | .fn _ a b=>refL n a && refL n b
 | .row r=>decide (r<n)
 | .ptr r _=>decide (r<n)
 | .rptr r _ _ _=>decide (r<n)
 | .sl _ _ _=>true
 | .ip _ _=>true
 | .u=>true
 | .i _ _=>true
 | .b _=>true
 | .s _=>true
 | .nils=>true
 | .nilp=>true
 | .nilf=>true
 | .nili=>true
 | .ub=>true
 | .rv r _ _ _=>decide (r<n)
 | .mv _ _=>true
def refL(n:Nat):List AV->Bool
 | []=>true
 | c::cs=>refB n c && refL n cs
end
def refT(n:Nat):List (Nat×AV)->Bool
 | []=>true
 | (_,v)::l=>refB n v && refT n l
def refA(n:Nat):AB->Bool
 | .gone=>true
 | .pin q _=>decide (q<n)
 | .box _ cs=>refL n cs
 | .row _ _ els=>refL n els.flatten
 | .map _ _=>true
def refH(n:Nat):List AB->Bool
 | []=>true
 | x::l=>refA n x && refH n l
section
variable {I:Addr->Prop} {θ θ':Nat->Option Value} {w:World}
mutual
theorem RV_ref{n:Nat}(hθ:∀ q v,q<n->θ q=some v->θ' q=some v):∀(x:AV) (v:Value),refB n x=true->RV I θ w x v->RV I θ' w x v
 | .u,_,_,_=>by simp[RV]
 | .i _ _,_,_,h=>by simpa [RV] using h
 | .b _,_,_,h=>by simpa [RV] using h
 | .s _,_,_,h=>by simpa [RV] using h
 | .agg cs,v,hr,h=>by
  simp only[RV,refB]at h hr ⊢
  obtain⟨vs,e,h0,h⟩:=h
  exact⟨vs,e,h0,RVs_ref hθ cs vs hr h⟩
 | .tup cs,v,hr,h=>by
  simp only[RV,refB]at h hr ⊢
  obtain⟨vs,e,h⟩:=h
  exact⟨vs,e,RVs_ref hθ cs vs hr h⟩
 | .sl t sz els,v,hr,h=>by
  have hp:pureB (.sl t sz els)=true:=by simp only[RV]at h;simpa [pureB] using h.1
  exact RV_pure (fun _ h=>h) (fun _ _=>Same.refl _ _) _ v hp h
 | .nils,_,_,h=>by simpa [RV] using h
 | .row r,v,hr,h=>by
  simp only[RV,refB,decide_eq_true_eq]at h hr ⊢
  exact⟨hθ _ _ hr h.1,h.2⟩
 | .ptr r j,v,hr,h=>by
  simp only[RV,refB,decide_eq_true_eq]at h hr ⊢
  obtain⟨B,h1,h2⟩:=h
  exact⟨B,hθ _ _ hr h1,h2⟩
 | .rptr r sz i j,v,hr,h=>by
  simp only[RV,refB,decide_eq_true_eq]at h hr ⊢
  obtain⟨B,l,c,h1,h2⟩:=h
  exact⟨B,l,c,hθ _ _ hr h1,h2⟩
 | .ip p cs,v,hr,h=>by
  have hp:pureB (.ip p cs)=true:=by simp only[RV]at h;simpa [pureB] using h.1
  exact RV_pure (fun _ h=>h) (fun _ _=>Same.refl _ _) _ v hp h
 | .nilp,_,_,h=>by simpa [RV] using h
 | .fn f a b,v,hr,h=>by
  simp only[RV,refB,Bool.and_eq_true]at h hr ⊢
  obtain⟨x,y,e,h1,h2⟩:=h
  exact⟨x,y,e,RVs_ref hθ a x hr.1 h1,RVs_ref hθ b y hr.2 h2⟩
 | .nilf,_,_,h=>by simpa [RV] using h
 | .nili,_,_,h=>by simpa [RV] using h
 | .ub,_,_,h=>by simpa [RV] using h
 | .rv r sz lo n,v,hr,h=>by
  simp only[RV,refB,decide_eq_true_eq]at h hr ⊢
  obtain⟨a,l,c,h1,h2⟩:=h
  exact⟨a,l,c,hθ _ _ hr h1,h2⟩
 | .mv q es,v,hr,h=>by
  have hp:pureB (.mv q es)=true:=by simp only[RV]at h;simpa [pureB] using h.1
  exact RV_pure (fun _ h=>h) (fun _ _=>Same.refl _ _) _ v hp h
theorem RVs_ref{n:Nat}(hθ:∀ q v,q<n->θ q=some v->θ' q=some v):∀(xs:List AV) (vs:List Value),refL n xs=true->RVs I θ w xs vs->RVs I θ' w xs vs
 | [],_,_,h=>by simpa [RVs] using h
 | c::cs,vs,hr,h=>by
  simp only[RVs,refL,Bool.and_eq_true]at h hr ⊢
  obtain⟨v,r,e,h1,h2⟩:=h
  exact⟨v,r,e,RV_ref hθ c v hr.1 h1,RVs_ref hθ cs r hr.2 h2⟩
end
end
inductive TL(T:List (Nat×AV)):List (Nat×AV)->Prop
 | nil:TL T []
 | cons (k:Nat) (v:AV) (l:List (Nat×AV)) (h:LE (lk T k) v) (hs:TL T l):TL T ((k,v)::l)
theorem TL.lk{T T':List (Nat×AV)}(h:TL T T')(n:Nat):LE (lk T n) (lk T' n):=by
 induction h with
 | nil=>exact .u _
 | cons k v l h hs ih =>
  simp only[Ab.lk]
  by_cases e:n=k
  ·subst e;simpa using h
  ·simpa [beq_eq_false_iff_ne.2 e] using ih
theorem refH_get{n:Nat}:∀ {H:List AB},refH n H=true->∀(r:Nat) (x:AB),H[r]? = some x->refA n x=true
 | [],_,r,x,h=>by simp at h
 | y::l,hr,0,x,h=>by simp only[refH,Bool.and_eq_true]at hr;simp at h;subst h;exact hr.1
 | y::l,hr,r+1,x,h=>by simp only[refH,Bool.and_eq_true]at hr;exact refH_get hr.2 r x (by simpa using h)
theorem refT_lk{n:Nat}:∀ {T:List (Nat×AV)},refT n T=true->∀ k,refB n (lk T k)=true
 | [],_,k=>rfl
 | (j,v)::l,hr,k=>by
  simp only[refT,Bool.and_eq_true]at hr
  simp only[lk]
  cases k == j
  ·exact refT_lk hr.2 k
  ·exact hr.1
theorem Wks.mk{T T':List (Nat×AV)}{H H':List AB}(hT:TL T T')(hH:HL H H')(h3:refT H'.length T'=true)(h4:refH H'.length H'=true):Wks ⟨T,H⟩ ⟨T',H'⟩:=by
 intro Γ N a w G
 obtain⟨⟨I,θ,S,hR⟩,hsz,hdf⟩:=G
 refine⟨⟨I,fun q=>if q<H'.length then θ q else none,?_,?_⟩,hsz,hdf⟩
 ·have hθ:∀ q v,q<H'.length->θ q=some v->(fun q=>if q<H'.length then θ q else none) q=some v:=fun q v h1 h2=>by simp only[if_pos h1,h2]
  have hθ':∀ q v,(fun q=>if q<H'.length then θ q else none) q=some v->q<H'.length/\θ q=some v:=by
   intro q v h
   by_cases e:q<H'.length
   ·simp only[if_pos e]at h;exact⟨e,h⟩
   ·simp only[if_neg e]at h;cases h
  have howns:∀ r B,owns H' (fun q=>if q<H'.length then θ q else none) r B->owns H θ r B:=by
   rintro r B ⟨⟨x,hx,hl⟩,v,hv,hb⟩
   obtain⟨y,hy,hxy⟩:=hH.get r x hx
   refine⟨⟨y,hy,?_⟩,v,(hθ' _ _ hv).2,hb⟩
   cases hxy with
   | refl=>exact hl
   | gone=>cases hl
   | box=>rfl
   | row=>rfl
  have hlt:∀ {r:Nat} {x:AB},H'[r]? = some x->r<H'.length:=fun h=>(List.getElem?_eq_some_iff.1 h).1
  refine⟨S.below,S.i0,S.inew,S.ilt,?_,?_,fun r q B hne h1 h2=>S.sep r q B hne (howns _ _ h1) (howns _ _ h2),fun b r h1 h2=>S.iso b r h1 (howns _ _ h2),fun q hq=>(by simp only[if_neg (Nat.not_lt.2 hq)]),fun q B h=>S.own q B (howns _ _ h),fun q r B h=>(by
   obtain⟨y,hy,hxy⟩:=hH.get q _ h
   have hr:=refH_get h4 q _ h
   simp only[refA,decide_eq_true_eq]at hr
   cases hxy
   exact hθ _ _ hr (S.pin q r B hy)),fun r q es h=>(by
   obtain⟨y,hy,hxy⟩:=hH.get r _ h
   cases hxy
   exact(S.map r q es hy).mono (fun _ h=>h) (fun _ _=>Same.refl _ _) (fun v=>hθ r v (hlt h)) (fun _ _ _ h=>h))⟩
  ·intro r t cs h
   obtain⟨y,hy,hxy⟩:=hH.get r _ h
   have hr:=refH_get h4 r _ h
   simp only[refA]at hr
   cases hxy with
   | refl =>
    obtain⟨B,c,k1,k2,k3,k4,k5⟩:=S.box r t cs hy
    exact⟨B,c,hθ _ _ (hlt h) k1,k2,k3,k4,RVs_ref hθ _ _ hr k5⟩
   | box _ cs0 _ hl =>
    obtain⟨B,c,k1,k2,k3,k4,k5⟩:=S.box r t cs0 hy
    exact⟨B,c,hθ _ _ (hlt h) k1,k2,k3,k4,RVs_ref hθ _ _ hr (hl.rvs k5)⟩
  ·intro r e sz els h
   obtain⟨y,hy,hxy⟩:=hH.get r _ h
   have hr:=refH_get h4 r _ h
   simp only[refA]at hr
   cases hxy with
   | refl =>
    obtain⟨v,xs,k1,k2,k3,k4,k5⟩:=S.row r e sz els hy
    exact⟨v,xs,hθ _ _ (hlt h) k1,k2,k3,RVs_ref hθ _ _ hr k4,k5⟩
   | row _ _ els0 _ hl =>
    obtain⟨v,xs,k1,k2,k3,k4,k5,k6,k7⟩:=S.row r e sz els0 hy
    refine⟨v,xs,hθ _ _ (hlt h) k1,by rw[<-LEE_length hl];exact k2,k3,RVs_ref hθ _ _ hr ((LEE_flat hl).rvs k4),LEE_len hl k5,k6,by rw[<-LEE_length hl];exact k7⟩
 ·intro n
  exact RV_ref (fun q v h1 h2=>by simp only[if_pos h1,h2]) _ _ (refT_lk h3 n) ((hT.lk n).rv (hR n))
theorem Sim.adopt{Γ : Ctx}{I:Addr->Prop}{θ:Nat->Option Value}{H:List AB}{w:World}(S:Sim Γ I θ H w)(e:TypeId)(sz:Nat)(hs:0<sz) :
  let θ':Nat->Option Value:=fun q=>if q=H.length then some (.slice none 0 0)else θ q
  Sim Γ I θ' (H++[.row e sz []]) w/\(∀ x v,RV I θ w x v->RV I θ' w x v)/\RV I θ' w (.row H.length) (.slice none 0 0):=
 S.push_row (v:=.slice none 0 0) (e:=e) (sz:=sz) (els:=[]) (xs:=[]) (w':=w) ⟨rfl,rfl,rfl,Nat.le_refl _,fun _ _ _=>rfl⟩ (World.ownsRow_nil w _ _ _) (by simp[Value.ownBlock]) (by simp) (by simp[RVs]) (by simp) hs (by simp)
theorem Wks.adopt{T:List (Nat×AV)}{H:List AB}(k:Nat)(e:TypeId)(sz:Nat)(h:lk T k=.nils)(hs:0<sz):Wks ⟨T,H⟩ ⟨(k,.row H.length)::T,H++[.row e sz []]⟩:=by
 intro Γ N a w G
 obtain⟨⟨I,θ,S,hR⟩,hsz,hdf⟩:=G
 obtain⟨S',h1,h2⟩:=S.adopt e sz hs
 refine⟨⟨I,_,S',fun n=>?_⟩,hsz,hdf⟩
 simp only[lk]
 by_cases en:n=k
 ·subst en
  have:=hR n
  simp only[h,RV]at this
  simp only[beq_self_eq_true,cond_true,this]
  exact h2
 ·simp only[beq_eq_false_iff_ne.2 en,cond_false]
  exact h1 _ _ (hR n)
theorem RVs_set{I:Addr->Prop}{θ:Nat->Option Value}{w:World}:∀ {cs:List AV} {vs:List Value} {j:Nat} {x y:AV},RVs I θ w cs vs->cs[j]? = some x->(∀ v,RV I θ w x v->RV I θ w y v)->RVs I θ w (cs.set j y) vs
 | [],_,_,_,_,_,h,_=>by simp at h
 | c::cs,vs,0,x,y,hv,h,k=>by
  simp only[RVs]at hv
  obtain⟨v,r,rfl,h1,h2⟩:=hv
  simp at h
  subst h
  simp only[List.set_cons_zero,RVs]
  exact⟨v,r,rfl,k _ h1,h2⟩
 | c::cs,vs,j+1,x,y,hv,h,k=>by
  simp only[RVs]at hv
  obtain⟨v,r,rfl,h1,h2⟩:=hv
  simp only[List.set_cons_succ,RVs]
  exact⟨v,r,rfl,h1,RVs_set h2 (by simpa using h) k⟩
theorem Wks.adoptB{T:List (Nat×AV)}{H:List AB}(r:Nat)(t:TypeId)(cs:List AV)(j:Nat)(e:TypeId)(sz:Nat)(h:H[r]? = some (.box t cs))(hj:cs[j]? = some .nils)(hs:0<sz) :
  Wks ⟨T,H⟩ ⟨T,(H.set r (AB.box t (cs.set j (.row H.length))))++[AB.row e sz []]⟩:=by
 intro Γ N a w G
 obtain⟨⟨I,θ,S,hR⟩,hsz,hdf⟩:=G
 obtain⟨S',h1,h2⟩:=S.adopt e sz hs
 have hrl:r<H.length:=(List.getElem?_eq_some_iff.1 h).1
 refine⟨⟨I,_,?_,fun n=>h1 _ _ (hR n)⟩,hsz,hdf⟩
 have hset:(H.set r (AB.box t (cs.set j (.row H.length))))++[AB.row e sz []]=(H++[AB.row e sz []]).set r (AB.box t (cs.set j (.row H.length))):=by
  rw[List.set_append_left _ _ hrl]
 rw[hset]
 have hget:∀ q,q≠r->((H++[AB.row e sz []]).set r (AB.box t (cs.set j (.row H.length))))[q]? = (H++[AB.row e sz []])[q]?:=fun q hq=>List.getElem?_set_ne (fun e=>hq e.symm)
 have hself:((H++[AB.row e sz []]).set r (AB.box t (cs.set j (.row H.length))))[r]? = some (AB.box t (cs.set j (.row H.length))):=List.getElem?_set_self (by simp;omega)
 have howns:∀ q B,owns ((H++[AB.row e sz []]).set r (AB.box t (cs.set j (.row H.length)))) (fun q=>if q=H.length then some (.slice none 0 0)else θ q) q B->owns (H++[AB.row e sz []]) (fun q=>if q=H.length then some (.slice none 0 0)else θ q) q B:=by
  rintro q B ⟨⟨x,hx,hl⟩,hv⟩
  by_cases eq:q=r
  ·subst eq
   exact⟨⟨_,by rw[List.getElem?_append_left hrl];exact h,rfl⟩,hv⟩
  ·rw[hget q eq]at hx
   exact⟨⟨x,hx,hl⟩,hv⟩
 refine⟨S'.below,S'.i0,S'.inew,S'.ilt,?_,?_,fun q p B hne k1 k2=>S'.sep q p B hne (howns _ _ k1) (howns _ _ k2),fun b q k1 k2=>S'.iso b q k1 (howns _ _ k2),fun q hq=>S'.dom q (by simpa using hq),fun q B h=>S'.own q B (howns _ _ h),fun q p B hq=>(by
  by_cases eq:q=r
  ·subst eq
   rw[hself]at hq
   cases hq
  ·rw[hget q eq]at hq
   exact S'.pin q p B hq),fun q k es hq=>(by
  by_cases eq:q=r
  ·subst eq
   rw[hself]at hq
   cases hq
  ·rw[hget q eq]at hq
   exact S'.map q k es hq)⟩
 ·intro q t' cs' hq
  by_cases eq:q=r
  ·subst eq
   rw[hself]at hq
   cases hq
   obtain⟨B,c,k1,k2,k3,k4,k5⟩:=S'.box q t cs (by rw[List.getElem?_append_left hrl];exact h)
   refine⟨B,c,k1,k2,k3,k4,RVs_set k5 hj fun v hv=>?_⟩
   simp only[RV]at hv
   rw[hv]
   exact h2
  ·rw[hget q eq]at hq
   exact S'.box q t' cs' hq
 ·intro q e' sz' els' hq
  by_cases eq:q=r
  ·subst eq
   rw[hself]at hq
   cases hq
  ·rw[hget q eq]at hq
   exact S'.row q e' sz' els' hq
theorem Wks.pad(T:List (Nat×AV))(H:List AB):Wks ⟨T,H⟩ ⟨T,H++[.gone]⟩:=by
 intro Γ N a w G
 obtain⟨⟨I,θ,S,hR⟩,hsz,hdf⟩:=G
 have hget:∀(r:Nat) (x:AB),(H++[.gone])[r]? = some x->live x=true->H[r]? = some x:=by
  intro r x h hl
  rcases Nat.lt_trichotomy r H.length with h1|h1|h1
  ·rwa [List.getElem?_append_left h1]at h
  ·subst h1;simp at h;subst h;cases hl
  ·rw[List.getElem?_eq_none (by simp;omega)]at h;cases h
 have howns:∀ r B,owns (H++[.gone]) θ r B->owns H θ r B:=by
  rintro r B ⟨⟨x,hx,hl⟩,hv⟩
  exact⟨⟨x,hget r x hx hl,hl⟩,hv⟩
 refine⟨⟨I,θ,⟨S.below,S.i0,S.inew,S.ilt,fun r t cs h=>S.box r t cs (hget _ _ h rfl),fun r e sz els h=>S.row r e sz els (hget _ _ h rfl),fun q p B hne k1 k2=>S.sep q p B hne (howns _ _ k1) (howns _ _ k2),fun b q k1 k2=>S.iso b q k1 (howns _ _ k2),fun q hq=>S.dom q (by simp at hq;simpa using (by omega:H.length<=q)),fun q B h=>S.own q B (howns _ _ h),fun q r B h=>(by
  rcases Nat.lt_trichotomy q H.length with h1|h1|h1
  ·rw[List.getElem?_append_left h1]at h
   exact S.pin q r B h
  ·subst h1;simp at h
  ·rw[List.getElem?_eq_none (by simp;omega)]at h;cases h),fun r q es h=>S.map r q es (hget _ _ h rfl)⟩,hR⟩,hsz,hdf⟩
theorem refL_append(n:Nat):∀(a b:List AV),refL n (a++b)=(refL n a && refL n b)
 | [],b=>by simp[refL]
 | x::a,b=>by simp[refL,refL_append n a b,Bool.and_assoc]
theorem Sim.frz{Γ : Ctx}{I:Addr->Prop}{θ:Nat->Option Value}{H:List AB}{w:World}(S:Sim Γ I θ H w){r:Nat}{e:TypeId}{sz:Nat}{els:List (List AV)}(hr:H[r]? = some (.row e sz els))(hp:pureE els=true) :
  ∃ I',Sim Γ I' θ ((sbH r (.sl false sz els) H).set r .gone) w/\∀ x v,RV I θ w x v->RV I' θ w (sb r (.sl false sz els) x) v:=by
 obtain⟨v,xs,k1,k2,k3,k4,k5,k6,k7⟩:=S.row r e sz els hr
 have hob:∀ B,v.ownBlock=some B->owns H θ r B:=fun B hB=>⟨⟨_,hr,rfl⟩,v,k1,own_blk (own_slice' k2) hB⟩
 let I':Addr->Prop:=fun a=>I a\/v.ownBlock=some a.block
 have hy:∀ v',θ r=some v'->RV I' θ w (.sl false sz els) v':=by
  intro v' h
  obtain rfl:v=v':=by rw[k1]at h;exact Option.some.inj h
  exact sl_of_owns k2 (RVs_mono (fun _ h=>.inl h) (fun _ _=>Same.refl _ _) (fun _ _ h=>h) _ _ k4) k3 k5 k6 k7 hp (fun g hg j=>.inr hg)
 have hrp:∀ v0,θ r=some v0->∀ p,v0≠.pointer p:=by
  intro v0 h p e'
  rw[k1]at h
  obtain rfl:=Option.some.inj h
  obtain⟨a',l,c,h2⟩:=own_slice' k2
  rw[h2]at e'
  cases e'
 have hsb:∀ x v0,RV I θ w x v0->RV I' θ w (sb r (.sl false sz els) x) v0:=fun x v0 h=>RV_sb (fun _ h=>.inl h) (fun _ _=>Same.refl _ _) (fun _ _ _ h=>h) hrp hy x v0 h
 have hsbs:∀ x v0,RVs I θ w x v0->RVs I' θ w (sbL r (.sl false sz els) x) v0:=fun x v0 h=>RVs_sb (fun _ h=>.inl h) (fun _ _=>Same.refl _ _) (fun _ _ _ h=>h) hrp hy x v0 h
 have hrl:r<H.length:=(List.getElem?_eq_some_iff.1 hr).1
 have hself:((sbH r (.sl false sz els) H).set r .gone)[r]? = some .gone:=List.getElem?_set_self (by rw[sbH_length];exact hrl)
 have hget:∀ q,q≠r->((sbH r (.sl false sz els) H).set r .gone)[q]? = (H[q]?).map (sbB r (.sl false sz els)):=by
  intro q hq
  rw[List.getElem?_set_ne (fun e=>hq e.symm),sbH_get]
 have howns:∀ q B,owns ((sbH r (.sl false sz els) H).set r .gone) θ q B->q≠r/\owns H θ q B:=by
  rintro q B ⟨⟨x,hx,hlv⟩,v0,hv0,hb⟩
  by_cases hq:q=r
  ·subst hq
   rw[hself]at hx
   obtain rfl:=Option.some.inj hx
   cases hlv
  ·rw[hget q hq]at hx
   obtain⟨x0,hx0,rfl⟩:=Option.map_eq_some_iff.1 hx
   exact⟨hq,⟨x0,hx0,by rwa [live_sbB]at hlv⟩,v0,hv0,hb⟩
 refine⟨I',⟨S.below,fun a h=>.inl (S.i0 a h),?_,?_,?_,?_,fun q p B hne h1 h2=>S.sep q p B hne (howns _ _ h1).2 (howns _ _ h2).2,?_,fun q hq=>S.dom q (by simpa [sbH_length] using hq),fun q B h=>S.own q B (howns _ _ h).2,?_,?_⟩,hsb⟩
 ·rintro a (h|h)
  ·exact S.inew a h
  ·exact .inr (S.own r _ (hob _ h))
 ·rintro a (h|h)
  ·exact S.ilt a h
  ·exact(owns_lt S (hob _ h)).2
 ·intro q t cs h
  have hq:q≠r:=by rintro rfl;rw[hself]at h;cases h
  rw[hget q hq]at h
  obtain⟨x0,hx0,hx1⟩:=Option.map_eq_some_iff.1 h
  obtain⟨_,rfl,rfl⟩:=sbB_box hx1
  obtain⟨B,c',j1,j2,j3,j4,j5⟩:=S.box q _ _ hx0
  exact⟨B,c',j1,j2,j3,j4,hsbs _ _ j5⟩
 ·intro q e2 sz2 els2 h
  have hq:q≠r:=by rintro rfl;rw[hself]at h;cases h
  rw[hget q hq]at h
  obtain⟨x0,hx0,hx1⟩:=Option.map_eq_some_iff.1 h
  obtain⟨_,rfl,rfl⟩:=sbB_row hx1
  obtain⟨v0,xs0,j1,j2,j3,j4,j5,j6,j7⟩:=S.row q _ _ _ hx0
  exact⟨v0,xs0,j1,by rw[sbE_length];exact j2,j3,by rw[sbE_flatten];exact hsbs _ _ j4,sbE_mem j5,j6,by rw[sbE_length];exact j7⟩
 ·rintro a q (h|h) ho
  ·exact S.iso a q h (howns _ _ ho).2
  ·exact S.sep q r _ (howns _ _ ho).1 (howns _ _ ho).2 (hob _ h)
 ·intro q p B h
  have hq:q≠r:=by rintro rfl;rw[hself]at h;cases h
  rw[hget q hq]at h
  obtain⟨x0,hx0,hx1⟩:=Option.map_eq_some_iff.1 h
  obtain⟨rfl,_⟩:=sbB_pin hx1
  exact S.pin q _ _ hx0
 ·intro q k es h
  have hq:q≠r:=by rintro rfl;rw[hself]at h;cases h
  rw[hget q hq]at h
  obtain⟨x0,hx0,hx1⟩:=Option.map_eq_some_iff.1 h
  obtain rfl:=sbB_map hx1
  exact(S.map q k es hx0).mono (fun _ h=>.inl h) (fun _ _=>Same.refl _ _) (fun _ h=>h) (fun _ _ _ h=>h)
theorem Sim.frzM{Γ : Ctx}{I:Addr->Prop}{θ:Nat->Option Value}{H:List AB}{w:World}(S:Sim Γ I θ H w){r:Nat}{k:Option IntKind}{es:List (List AV)}(hr:H[r]? = some (.map k es)) :
  ∃ I',Sim Γ I' θ ((sbH r (.mv k es) H).set r .gone) w/\∀ x v,RV I θ w x v->RV I' θ w (sb r (.mv k es) x) v:=by
 obtain⟨B0,ents,c0,k1,k2,k3,k4,k5,k6⟩:=S.map r k es hr
 have hob:owns H θ r B0:=⟨⟨_,hr,rfl⟩,_,k1,rfl⟩
 let I':Addr->Prop:=fun a=>I a\/a.block=B0
 have hy:∀ v',θ r=some v'->RV I' θ w (.mv k es) v':=by
  intro v' h
  obtain rfl:Value.map (some B0)=v':=by rw[k1]at h;exact Option.some.inj h
  simp only[RV]
  exact⟨k3,k4,k5,.inr ⟨B0,ents,c0,rfl,.inr rfl,k2,RVm_mono (fun _ h=>.inl h) (fun _ _=>Same.refl _ _) (fun _ _ h=>h) _ _ k6⟩⟩
 have hrp:∀ v0,θ r=some v0->∀ p,v0≠.pointer p:=by
  intro v0 h p e'
  rw[k1]at h
  obtain rfl:=Option.some.inj h
  cases e'
 have hsb:∀ x v0,RV I θ w x v0->RV I' θ w (sb r (.mv k es) x) v0:=fun x v0 h=>RV_sb (fun _ h=>.inl h) (fun _ _=>Same.refl _ _) (fun _ _ _ h=>h) hrp hy x v0 h
 have hsbs:∀ x v0,RVs I θ w x v0->RVs I' θ w (sbL r (.mv k es) x) v0:=fun x v0 h=>RVs_sb (fun _ h=>.inl h) (fun _ _=>Same.refl _ _) (fun _ _ _ h=>h) hrp hy x v0 h
 have hrl:r<H.length:=(List.getElem?_eq_some_iff.1 hr).1
 have hself:((sbH r (.mv k es) H).set r .gone)[r]? = some .gone:=List.getElem?_set_self (by rw[sbH_length];exact hrl)
 have hget:∀ q,q≠r->((sbH r (.mv k es) H).set r .gone)[q]? = (H[q]?).map (sbB r (.mv k es)):=by
  intro q hq
  rw[List.getElem?_set_ne (fun e=>hq e.symm),sbH_get]
 have howns:∀ q B,owns ((sbH r (.mv k es) H).set r .gone) θ q B->q≠r/\owns H θ q B:=by
  rintro q B ⟨⟨x,hx,hlv⟩,v0,hv0,hb⟩
  by_cases hq:q=r
  ·subst hq
   rw[hself]at hx
   obtain rfl:=Option.some.inj hx
   cases hlv
  ·rw[hget q hq]at hx
   obtain⟨x0,hx0,rfl⟩:=Option.map_eq_some_iff.1 hx
   exact⟨hq,⟨x0,hx0,by rwa [live_sbB]at hlv⟩,v0,hv0,hb⟩
 refine⟨I',⟨S.below,fun a h=>.inl (S.i0 a h),?_,?_,?_,?_,fun q p B hne h1 h2=>S.sep q p B hne (howns _ _ h1).2 (howns _ _ h2).2,?_,fun q hq=>S.dom q (by simpa [sbH_length] using hq),fun q B h=>S.own q B (howns _ _ h).2,?_,?_⟩,hsb⟩
 ·rintro a (h|h)
  ·exact S.inew a h
  ·exact .inr (S.own r _ (h ▸ hob))
 ·rintro a (h|h)
  ·exact S.ilt a h
  ·exact h ▸ (owns_lt S hob).2
 ·intro q t cs h
  have hq:q≠r:=by rintro rfl;rw[hself]at h;cases h
  rw[hget q hq]at h
  obtain⟨x0,hx0,hx1⟩:=Option.map_eq_some_iff.1 h
  obtain⟨_,rfl,rfl⟩:=sbB_box hx1
  obtain⟨B,c',j1,j2,j3,j4,j5⟩:=S.box q _ _ hx0
  exact⟨B,c',j1,j2,j3,j4,hsbs _ _ j5⟩
 ·intro q e2 sz2 els2 h
  have hq:q≠r:=by rintro rfl;rw[hself]at h;cases h
  rw[hget q hq]at h
  obtain⟨x0,hx0,hx1⟩:=Option.map_eq_some_iff.1 h
  obtain⟨_,rfl,rfl⟩:=sbB_row hx1
  obtain⟨v0,xs0,j1,j2,j3,j4,j5,j6,j7⟩:=S.row q _ _ _ hx0
  exact⟨v0,xs0,j1,by rw[sbE_length];exact j2,j3,by rw[sbE_flatten];exact hsbs _ _ j4,sbE_mem j5,j6,by rw[sbE_length];exact j7⟩
 ·rintro a q (h|h) ho
  ·exact S.iso a q h (howns _ _ ho).2
  ·exact S.sep q r _ (howns _ _ ho).1 (howns _ _ ho).2 (h ▸ hob)
 ·intro q p B h
  have hq:q≠r:=by rintro rfl;rw[hself]at h;cases h
  rw[hget q hq]at h
  obtain⟨x0,hx0,hx1⟩:=Option.map_eq_some_iff.1 h
  obtain⟨rfl,_⟩:=sbB_pin hx1
  exact S.pin q _ _ hx0
 ·intro q kk es' h
  have hq:q≠r:=by rintro rfl;rw[hself]at h;cases h
  rw[hget q hq]at h
  obtain⟨x0,hx0,hx1⟩:=Option.map_eq_some_iff.1 h
  obtain rfl:=sbB_map hx1
  exact(S.map q kk es' hx0).mono (fun _ h=>.inl h) (fun _ _=>Same.refl _ _) (fun _ h=>h) (fun _ _ _ h=>h)
theorem Wks.frz{T:List (Nat×AV)}{H:List AB}{r:Nat}{e:TypeId}{sz:Nat}{els:List (List AV)}(hr:H[r]? = some (.row e sz els))(hp:pureE els=true) :
  Wks ⟨T,H⟩ ⟨sbT r (.sl false sz els) T,(sbH r (.sl false sz els) H).set r .gone⟩:=by
 intro Γ N a w G
 obtain⟨⟨I,θ,S,hR⟩,hsz,hdf⟩:=G
 obtain⟨I',S',h'⟩:=S.frz hr hp
 exact⟨⟨I',θ,S',fun n=>by show RV I' θ w (lk (sbT r _ T) n) _;rw[sbT_lk];exact h' _ _ (hR n)⟩,hsz,hdf⟩
theorem Wks.frzM{T:List (Nat×AV)}{H:List AB}{r:Nat}{k:Option IntKind}{es:List (List AV)}(hr:H[r]? = some (.map k es)):Wks ⟨T,H⟩ ⟨sbT r (.mv k es) T,(sbH r (.mv k es) H).set r .gone⟩:=by
 intro Γ N a w G
 obtain⟨⟨I,θ,S,hR⟩,hsz,hdf⟩:=G
 obtain⟨I',S',h'⟩:=S.frzM hr
 exact⟨⟨I',θ,S',fun n=>by show RV I' θ w (lk (sbT r _ T) n) _;rw[sbT_lk];exact h' _ _ (hR n)⟩,hsz,hdf⟩
theorem PR.pc0{P:Program}{g:FuncId}{args:List AV}{r:AV}(h:PR P g args [] r):PC P g args r:=
 ⟨h.1,fun I w vals hI hj hv=>(h.2 I w vals hI hj hv).mono (by
  rintro e w' ⟨v,I',θ',rfl,S,hr⟩
  refine⟨v,rfl,⟨S.below.os,S.below.tape,S.below.output,S.below.size,fun k hk=>S.below.block k hk (Nat.not_le.2 hk)⟩,?_⟩
  refine RV_mono (fun b hb=>?_) (fun _ _=>Same.refl _ _) (fun q v h=>by rw[S.dom q (Nat.zero_le _)]at h;cases h) _ _ hr
  rcases S.inew b hb with h|h
  ·exact .inl h
  ·exact .inr ⟨h,S.ilt b hb⟩)⟩
theorem PR.pc{P:Program}{g:FuncId}{args:List AV}{Hr:List AB}{r r':AV}(h:PR P g args Hr r)(hz:FZ Hr r r'):PC P g args r':=
 ⟨h.1,fun I w vals hI hj hv=>(h.2 I w vals hI hj hv).mono (by
  rintro e w' ⟨v,I',θ',rfl,S,hr⟩
  refine⟨v,rfl,⟨S.below.os,S.below.tape,S.below.output,S.below.size,fun k hk=>S.below.block k hk (Nat.not_le.2 hk)⟩,?_⟩
  refine RV_mono (fun b hb=>?_) (fun _ _=>Same.refl _ _) (fun _ _ h=>h) _ _ (FZ.rv S hz hr)
  rcases hb with hb|hb
  ·rcases S.inew b hb with h|h
   ·exact .inl h
   ·exact .inr ⟨h,S.ilt b hb⟩
  ·exact .inr hb)⟩
end Go.Ab
