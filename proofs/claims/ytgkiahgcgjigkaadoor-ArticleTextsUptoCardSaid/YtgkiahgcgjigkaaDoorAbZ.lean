/- A part of the proof: AbZ. -/
import Derived.Test.YtgkiahgcgjigkaaDoorAbX
set_option linter.all false
set_option linter.unusedVariables false
namespace Go.Ab
open Go.RowKit
def lentΓ (I:Addr->Prop) (w:World) (Hin:List AB) (θ:Nat->Option Value):Ctx:=⟨w,I,fun k=>w.heap.size<=k\/∃ r,owns Hin θ r k,fun _ h=>.inl h,w.heap.size⟩
theorem ownsRow_same{w w':World}{base:Nat}{e:TypeId}{size:Nat}{v:Value}{n:Nat}{xs:List Value}(h:w.ownsRow base e size v n xs)(hs:∀ B,v.ownBlock=some B->w'.heap[B]? = w.heap[B]?):w'.ownsRow base e size v n xs:=by
 refine⟨h.1,?_⟩
 rcases h.2 with hn|⟨g,cap,cur,rfl,hb,hgg,rest⟩
 ·exact .inl hn
 ·exact .inr ⟨g,cap,cur,rfl,hb,(hs g rfl).trans hgg,rest⟩
def updH(sel:List Nat)(Hout:List AB)(bk keep:Nat->Option Nat):Nat->List AB->List AB
 | _,[]=>[]
 | q,x::l=>(match posL sel q with
  | some k=>rnB bk (Hout[k]?.getD .gone)
  | none=>rnB keep x)::updH sel Hout bk keep (q+1) l
theorem updH_len{sel:List Nat}{Hout:List AB}{bk keep:Nat->Option Nat}:∀(l:List AB) (q:Nat),(updH sel Hout bk keep q l).length=l.length
 | [],_=>rfl
 | x::l,q=>by simp[updH,updH_len l (q+1)]
theorem updH_get{sel:List Nat}{Hout:List AB}{bk keep:Nat->Option Nat}:∀(l:List AB) (k q:Nat),(updH sel Hout bk keep k l)[q]? = (l[q]?).map fun x=>match posL sel (k+q)with
  | some j=>rnB bk (Hout[j]?.getD .gone)
  | none=>rnB keep x
 | [],k,q=>by simp[updH]
 | x::l,k,0=>by simp[updH]
 | x::l,k,q+1=>by
  simp only[updH,List.getElem?_cons_succ,updH_get l (k+1) q]
  rw[show k+1+q=k+(q+1) by omega]
def bkN(sel:List Nat)(n m:Nat)(k:Nat):Option Nat:=if k<sel.length then sel[k]? else if k<sel.length+m then some (n+(k-sel.length))else none
def keepN(sel pins:List Nat)(q:Nat):Option Nat:=match posL sel q with
 | some k=>if k∈pins then some q else none
 | none=>some q
theorem posL_none:∀ {l:List Nat} {r:Nat},posL l r=none->r∉l
 | [],_,_=>by simp
 | k::l,r,h=>by
  simp only[posL]at h
  by_cases e:k=r
  ·subst e;simp at h
  ·rw[beq_eq_false_iff_ne.2 e,cond_false]at h
   have:=posL_none (Option.map_eq_none_iff.1 h)
   simp only[List.mem_cons,not_or]
   exact⟨fun e'=>e e'.symm,this⟩
theorem posL_of:∀ {l:List Nat} {q r:Nat},l.Nodup->l[q]? = some r->posL l r=some q
 | [],q,r,_,h=>by simp at h
 | k::l,0,r,_,h=>by simp at h;subst h;simp[posL]
 | k::l,q+1,r,hn,h=>by
  simp only[List.getElem?_cons_succ]at h
  have hm:=List.mem_of_getElem? h
  have hne:k≠r:=by rintro rfl;exact(List.nodup_cons.1 hn).1 hm
  simp only[posL,beq_eq_false_iff_ne.2 hne,cond_false,posL_of (List.nodup_cons.1 hn).2 h,Option.map_some]
theorem Sim.back{Γ : Ctx}{I I':Addr->Prop}{θ θ1 θ':Nat->Option Value}{H Hin Hout extra pinl:List AB}{w w':World}(S:Sim Γ I θ H w)(sel pins:List Nat)(hn:sel.Nodup)(hlt:∀ s∈sel,s<H.length)
  (hown:∀ r B,owns Hin θ1 r B->∃ q,sel[r]? = some q/\owns H θ q B) (S2:Sim (lentΓ I w Hin θ1) I' θ' (Hout++(extra++pinl)) w') (hm:Hout.length=sel.length)
  (hp:∀ k∈pins,∀ q,sel[k]? = some q->θ' k=θ q) :
  ∃ θ'',Sim Γ I' θ'' (updH sel Hout (bkN sel H.length extra.length) (keepN sel pins) 0 H++extra.map (rnB (bkN sel H.length extra.length))) w' /\
   (∀ x v,RV I θ w x v->RV I' θ'' w' (rn (keepN sel pins) x) v)/\(∀ x v,RV I' θ' w' x v->RV I' θ'' w' (rn (bkN sel H.length extra.length) x) v):=by
 have hbl:∀ k,k<w.heap.size->(∀ q,q∈sel->¬ owns H θ q k)->w'.heap[k]? = w.heap[k]?:=fun k hk hno=>S2.below.block k hk (by
  rintro(h|⟨r,h⟩)
  ·exact absurd hk (Nat.not_lt.2 h)
  ·obtain⟨q,h1,h2⟩:=hown r k h
   exact hno q (List.mem_of_getElem? h1) h2)
 have hII:∀ a,I a->I' a:=S2.i0
 have hc:∀ b,I b->Same w' w b:=fun b h=>Same.of (hbl _ (S.ilt b h) fun q _ ho=>S.iso b q h ho)
 have hsz:w.heap.size<=w'.heap.size:=S2.below.size
 let θ'':Nat->Option Value:=fun q=>if q<H.length then(match posL sel q with
  | some k=>θ' k
  | none=>θ q)else if q<H.length+extra.length then θ' (sel.length+(q-H.length))else none
 have hk:∀ q q' v,keepN sel pins q=some q'->θ q=some v->θ'' q'=some v:=by
  intro q q' v h1 h2
  have hq:q<H.length:=Nat.lt_of_not_le fun hle=>by rw[S.dom q hle]at h2;cases h2
  unfold keepN at h1
  cases hps:posL sel q with
  | none =>
   rw[hps]at h1
   obtain rfl:=Option.some.inj h1
   simp only[θ'',if_pos hq,hps,h2]
  | some k =>
   rw[hps]at h1
   simp only at h1
   split at h1
   ·rename_i hkp
    obtain rfl:=Option.some.inj h1
    simp only[θ'',if_pos hq,hps,hp k hkp q (posL_get hps),h2]
   ·cases h1
 have hb:∀ k q' v,bkN sel H.length extra.length k=some q'->θ' k=some v->θ'' q'=some v:=by
  intro k q' v h1 h2
  unfold bkN at h1
  split at h1
  ·rename_i hks
   have hq:q'<H.length:=hlt q' (List.mem_of_getElem? h1)
   simp only[θ'',if_pos hq,posL_of hn h1,h2]
  ·split at h1
   ·rename_i h3 h4
    obtain rfl:=Option.some.inj h1
    have e1:¬ H.length+(k-sel.length)<H.length:=by omega
    have e2:H.length+(k-sel.length)<H.length+extra.length:=by omega
    have e3:sel.length+(H.length+(k-sel.length)-H.length)=k:=by omega
    simp only[θ'',if_neg e1,if_pos e2,e3,h2]
   ·cases h1
 have hrv:∀ x v,RV I θ w x v->RV I' θ'' w' (rn (keepN sel pins) x) v:=fun x v h=>RV_rn hk x v (RV_mono hII hc (fun _ _ h=>h) x v h)
 have hrvs:∀ x v,RVs I θ w x v->RVs I' θ'' w' (rnL (keepN sel pins) x) v:=fun x v h=>RVs_rn hk x v (RVs_mono hII hc (fun _ _ h=>h) x v h)
 have hget:∀(q:Nat) (x:AB),(updH sel Hout (bkN sel H.length extra.length) (keepN sel pins) 0 H++extra.map (rnB (bkN sel H.length extra.length)))[q]? = some x->x=.gone \/
   (q<H.length/\q∉sel/\θ'' q=θ q/\∃ y,H[q]? = some y/\x=rnB (keepN sel pins) y) \/
   ∃ p y,θ'' q=θ' p/\bkN sel H.length extra.length p=some q/\(Hout++(extra++pinl))[p]? = some y/\x=rnB (bkN sel H.length extra.length) y:=by
  intro q x h
  by_cases hq:q<H.length
  ·rw[List.getElem?_append_left (by rw[updH_len];exact hq),updH_get]at h
   obtain⟨z,hz,hx⟩:=Option.map_eq_some_iff.1 h
   rw[Nat.zero_add]at hx
   cases hps:posL sel q with
   | none =>
    rw[hps]at hx
    exact .inr (.inl ⟨hq,posL_none hps,by simp only[θ'',if_pos hq,hps],z,hz,hx.symm⟩)
   | some k =>
    rw[hps]at hx
    simp only at hx
    have hks:k<sel.length:=(List.getElem?_eq_some_iff.1 (posL_get hps)).1
    cases ho:Hout[k]? with
    | none=>rw[ho]at hx;exact .inl hx.symm
    | some y =>
     rw[ho]at hx
     refine .inr (.inr ⟨k,y,by simp only[θ'',if_pos hq,hps],?_,?_,hx.symm⟩)
     ·simp only[bkN,if_pos hks,posL_get hps]
     ·rw[List.getElem?_append_left (by omega)];exact ho
  ·rw[List.getElem?_append_right (by rw[updH_len];omega),List.getElem?_map,updH_len]at h
   obtain⟨y,hy,rfl⟩:=Option.map_eq_some_iff.1 h
   have hj:q-H.length<extra.length:=(List.getElem?_eq_some_iff.1 hy).1
   refine .inr (.inr ⟨sel.length+(q-H.length),y,?_,?_,?_,rfl⟩)
   ·simp only[θ'',if_neg hq,if_pos (show q<H.length+extra.length by omega)]
   ·have e1:¬ sel.length+(q-H.length)<sel.length:=by omega
    have e2:sel.length+(q-H.length)<sel.length+extra.length:=by omega
    have e3:H.length+(sel.length+(q-H.length)-sel.length)=q:=by omega
    simp only[bkN,if_neg e1,if_pos e2,e3]
   ·rw[List.getElem?_append_right (by omega),List.getElem?_append_left (by omega),show sel.length+(q-H.length)-Hout.length=q-H.length by omega]
    exact hy
 have howns:∀ q B,owns (updH sel Hout (bkN sel H.length extra.length) (keepN sel pins) 0 H++extra.map (rnB (bkN sel H.length extra.length))) θ'' q B->(q∉sel/\owns H θ q B) \/
   ∃ p,bkN sel H.length extra.length p=some q/\owns (Hout++(extra++pinl)) θ' p B:=by
  rintro q B ⟨⟨x,hx,hl⟩,v,hv,hbv⟩
  rcases hget q x hx with rfl|⟨h1,h2,h3,y,h4,rfl⟩|⟨p,y,h1,h2,h3,rfl⟩
  ·cases hl
  ·rw[h3]at hv
   exact .inl ⟨h2,⟨y,h4,by rwa [live_rnB]at hl⟩,v,hv,hbv⟩
  ·rw[h1]at hv
   exact .inr ⟨p,h2,⟨y,h3,by rwa [live_rnB]at hl⟩,v,hv,hbv⟩
 have hbi:∀ p p' q,bkN sel H.length extra.length p=some q->bkN sel H.length extra.length p'=some q->p=p':=by
  intro p p' q h1 h2
  unfold bkN at h1 h2
  split at h1<;>split at h2
  ·exact(List.getElem?_inj (by omega) hn).1 (h1.trans h2.symm)
  ·split at h2
   ·have:=hlt q (List.mem_of_getElem? h1)
    have:=Option.some.inj h2
    omega
   ·cases h2
  ·split at h1
   ·have:=hlt q (List.mem_of_getElem? h2)
    have:=Option.some.inj h1
    omega
   ·cases h1
  ·split at h1
   ·split at h2
    ·have:=Option.some.inj h1;have:=Option.some.inj h2;omega
    ·exact absurd h2 (by simp)
   ·exact absurd h1 (by simp)
 have hap:∀ q p B,q∉sel->owns H θ q B->owns (Hout++(extra++pinl)) θ' p B->False:=by
  intro q p B hq h1 h2
  rcases S2.own p B h2 with h|⟨r,h⟩
  ·have:=(owns_lt S h1).2
   omega
  ·obtain⟨s,h3,h4⟩:=hown r B h
   exact S.sep q s B (by rintro rfl;exact hq (List.mem_of_getElem? h3)) h1 h4
 have hold:∀ q B,q∉sel->owns H θ q B->w'.heap[B]? = w.heap[B]?:=fun q B hq h=>hbl B (owns_lt S h).2 fun s hs h'=>S.sep q s B (by rintro rfl;exact hq hs) h h'
 refine⟨θ'',⟨S.below.step S2.below.os S2.below.tape S2.below.output hsz (fun k hk hno=>hbl k hk fun q _ h=>hno (S.own q k h)),fun a h=>hII a (S.i0 a h),?_,S2.ilt,?_,?_,?_,?_,?_,?_,?_,?_⟩,hrv,fun x v h=>RV_rn hb x v h⟩
 ·intro a h
  rcases S2.inew a h with h|h
  ·exact S.inew a h
  ·rcases h with h|⟨r,h⟩
   ·exact .inr (Γ.new _ (Nat.le_trans S.below.size h))
   ·obtain⟨q,_,h2⟩:=hown r _ h
    exact .inr (S.own q _ h2)
 ·intro q t cs h
  rcases hget q _ h with h|⟨h1,h2,h3,y,h4,h5⟩|⟨p,y,h1,h2,h3,h4⟩
  ·cases h
  ·obtain⟨ds,rfl,rfl⟩:=rnB_box h5
   obtain⟨B,c,k1,k2,k3,k4,k5⟩:=S.box q t ds h4
   exact⟨B,c,h3.trans k1,k2,(hold q B h2 ⟨⟨_,h4,rfl⟩,_,k1,rfl⟩).trans k3,k4,hrvs _ _ k5⟩
  ·obtain⟨ds,rfl,rfl⟩:=rnB_box h4
   obtain⟨B,c,k1,k2,k3,k4,k5⟩:=S2.box p t ds h3
   exact⟨B,c,h1.trans k1,k2,k3,k4,RVs_rn hb _ _ k5⟩
 ·intro q e sz els h
  rcases hget q _ h with h|⟨h1,h2,h3,y,h4,h5⟩|⟨p,y,h1,h2,h3,h4⟩
  ·cases h
  ·obtain⟨ds,rfl,rfl⟩:=rnB_row h5
   obtain⟨v,xs,k1,k2,k3,k4,k5,k6,k7⟩:=S.row q e sz ds h4
   refine⟨v,xs,h3.trans k1,?_,k3,by rw[rnE_flat];exact hrvs _ _ k4,rnE_mem k5,k6,by rw[rnE_len];exact k7⟩
   rw[rnE_len]
   exact ownsRow_same k2 fun B hB=>hold q B h2 ⟨⟨_,h4,rfl⟩,v,k1,own_blk (own_slice' k2) hB⟩
  ·obtain⟨ds,rfl,rfl⟩:=rnB_row h4
   obtain⟨v,xs,k1,k2,k3,k4,k5,k6,k7⟩:=S2.row p e sz ds h3
   exact⟨v,xs,h1.trans k1,by rw[rnE_len];exact k2,k3,by rw[rnE_flat];exact RVs_rn hb _ _ k4,rnE_mem k5,k6,by rw[rnE_len];exact k7⟩
 ·intro r q B hne hr hq
  rcases howns r B hr with⟨a1,a2⟩|⟨p,a1,a2⟩<;>rcases howns q B hq with⟨b1,b2⟩|⟨p',b1,b2⟩
  ·exact S.sep r q B hne a2 b2
  ·exact hap r p' B a1 a2 b2
  ·exact hap q p B b1 b2 a2
  ·refine S2.sep p p' B ?_ a2 b2
   rintro rfl
   rw[a1]at b1
   exact hne (Option.some.inj b1)
 ·intro a r h ho
  rcases howns r _ ho with⟨a1,a2⟩|⟨p,a1,a2⟩
  ·rcases S2.inew a h with h|h
   ·exact S.iso a r h a2
   ·rcases h with h|⟨p,h⟩
    ·have:=(owns_lt S a2).2
     omega
    ·obtain⟨q,h1,h2⟩:=hown p _ h
     exact S.sep r q _ (by rintro rfl;exact a1 (List.mem_of_getElem? h1)) a2 h2
  ·exact S2.iso a p h a2
 ·intro q hq
  simp only[List.length_append,List.length_map,updH_len]at hq
  have e1:¬ q<H.length:=by omega
  have e2:¬ q<H.length+extra.length:=by omega
  simp only[θ'',if_neg e1,if_neg e2]
 ·intro r B ho
  rcases howns r B ho with⟨_,a2⟩|⟨p,_,a2⟩
  ·exact S.own r B a2
  ·rcases S2.own p B a2 with h|⟨s,h⟩
   ·exact Γ.new B (Nat.le_trans S.below.size h)
   ·obtain⟨q,_,h2⟩:=hown s B h
    exact S.own q B h2
 ·intro q r B h
  rcases hget q _ h with h|⟨h1,h2,h3,y,h4,h5⟩|⟨p,y,h1,h2,h3,h4⟩
  ·cases h
  ·obtain⟨r',rfl,hk'⟩:=rnB_pin h5
   exact hk _ _ _ hk' (S.pin q r' B h4)
  ·obtain⟨r',rfl,hk'⟩:=rnB_pin h4
   exact hb _ _ _ hk' (S2.pin p r' B h3)
 ·intro q qk es h
  rcases hget q _ h with h|⟨h1,h2,h3,y,h4,h5⟩|⟨p,y,h1,h2,h3,h4⟩
  ·cases h
  ·obtain rfl:=rnB_map h5
   exact(S.map q _ _ h4).mono hII hc (fun v hv=>h3.trans hv) (fun B o k1 k2=>(hold q B h2 ⟨⟨_,h4,rfl⟩,_,k1,rfl⟩).trans k2)
  ·obtain rfl:=rnB_map h4
   exact(S2.map p _ _ h3).mono (fun _ h=>h) (fun _ _=>Same.refl _ _) (fun v hv=>h1.trans hv) (fun _ _ _ h=>h)
theorem owns_hl{H H':List AB}(hH:HL H H'){θ:Nat->Option Value}{r B:Nat}(h:owns H' θ r B):owns H θ r B:=by
 obtain⟨⟨x,hx,hl⟩,hv⟩:=h
 obtain⟨y,hy,hxy⟩:=hH.get r x hx
 refine⟨⟨y,hy,?_⟩,hv⟩
 cases hxy with
 | refl=>exact hl
 | gone=>cases hl
 | box=>rfl
 | row=>rfl
theorem Sim.hl{Γ : Ctx}{I:Addr->Prop}{θ:Nat->Option Value}{H H':List AB}{w:World}(S:Sim Γ I θ H w)(hH:HL H H')(hlen:H'.length=H.length):Sim Γ I θ H' w:=by
 refine⟨S.below,S.i0,S.inew,S.ilt,?_,?_,fun r q B hne h1 h2=>S.sep r q B hne (owns_hl hH h1) (owns_hl hH h2),fun b r h1 h2=>S.iso b r h1 (owns_hl hH h2),fun q hq=>S.dom q (by omega),fun q B h=>S.own q B (owns_hl hH h),fun q r B h=>?_,fun q qk es h=>?_⟩
 ·intro r t cs h
  obtain⟨y,hy,hxy⟩:=hH.get r _ h
  cases hxy with
  | refl=>exact S.box r t cs hy
  | box _ cs0 _ hl =>
   obtain⟨B,c,k1,k2,k3,k4,k5⟩:=S.box r t cs0 hy
   exact⟨B,c,k1,k2,k3,k4,hl.rvs k5⟩
 ·intro r e sz els h
  obtain⟨y,hy,hxy⟩:=hH.get r _ h
  cases hxy with
  | refl=>exact S.row r e sz els hy
  | row _ _ els0 _ hl =>
   obtain⟨v,xs,k1,k2,k3,k4,k5,k6,k7⟩:=S.row r e sz els0 hy
   exact⟨v,xs,k1,by rw[<-LEE_length hl];exact k2,k3,(LEE_flat hl).rvs k4,LEE_len hl k5,k6,by rw[<-LEE_length hl];exact k7⟩
 ·obtain⟨y,hy,hxy⟩:=hH.get q _ h
  cases hxy
  exact S.pin q r B hy
 ·obtain⟨y,hy,hxy⟩:=hH.get q _ h
  cases hxy
  exact S.map q qk es hy
def pinsOf(B:Nat->Value)(ks:List Nat):List AB:=ks.map fun k=>.pin k (B k)
theorem pins_get{H:List AB}{B:Nat->Value}{ks:List Nat}{q:Nat}{x:AB}(h:(H++pinsOf B ks)[q]? = some x)(hl:live x=true):H[q]? = some x:=by
 by_cases hq:q<H.length
 ·rwa [List.getElem?_append_left hq]at h
 ·rw[List.getElem?_append_right (by omega),pinsOf,List.getElem?_map]at h
  obtain⟨k,_,rfl⟩:=Option.map_eq_some_iff.1 h
  cases hl
theorem owns_pins{H:List AB}{B:Nat->Value}{ks:List Nat}{θ:Nat->Option Value}{r b:Nat}(h:owns (H++pinsOf B ks) θ r b):owns H θ r b:=by
 obtain⟨⟨x,hx,hl⟩,hv⟩:=h
 exact⟨⟨x,pins_get hx hl,hl⟩,hv⟩
theorem Sim.pins{Γ : Ctx}{I:Addr->Prop}{θ:Nat->Option Value}{H:List AB}{w:World}(S:Sim Γ I θ H w)(B:Nat->Value)(ks:List Nat)(hk:∀ k∈ks,θ k=some (B k)):Sim Γ I θ (H++pinsOf B ks) w:=by
 refine⟨S.below,S.i0,S.inew,S.ilt,fun r t cs h=>S.box r t cs (pins_get h rfl),fun r e sz els h=>S.row r e sz els (pins_get h rfl),fun r q B hne h1 h2=>S.sep r q B hne (owns_pins h1) (owns_pins h2),fun b r h1 h2=>S.iso b r h1 (owns_pins h2),fun q hq=>S.dom q (by simp at hq;omega),fun q B h=>S.own q B (owns_pins h),fun q r b h=>?_,fun r q es h=>S.map r q es (pins_get h rfl)⟩
 by_cases hq:q<H.length
 ·rw[List.getElem?_append_left hq]at h
  exact S.pin q r b h
 ·rw[List.getElem?_append_right (by omega),pinsOf,List.getElem?_map]at h
  obtain⟨k,hk',e⟩:=Option.map_eq_some_iff.1 h
  simp only[AB.pin.injEq]at e
  obtain⟨rfl,rfl⟩:=e
  exact hk k (List.mem_of_getElem? hk')
theorem Sim.lent{Γ : Ctx}{I:Addr->Prop}{θ:Nat->Option Value}{H:List AB}{w:World}(S:Sim Γ I θ H w):Sim (lentΓ I w H θ) I θ H w:=
 ⟨⟨rfl,rfl,rfl,Nat.le_refl _,fun _ _ _=>rfl,S.below.w,fun g hg h=>h.elim (fun h=>absurd (JW_lt S.below.w g hg) (Nat.not_lt.2 h)) fun⟨r,h⟩=>S.below.jn g hg (S.own r g h)⟩,fun _ h=>h,fun _ h=>.inl h,S.ilt,S.box,S.row,S.sep,S.iso,S.dom,fun r B h=>.inr ⟨r,h⟩,S.pin,S.map⟩
end Go.Ab
