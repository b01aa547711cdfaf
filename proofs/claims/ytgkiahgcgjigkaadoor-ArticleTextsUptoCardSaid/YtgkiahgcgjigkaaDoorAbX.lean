/- A part of the proof: AbX. -/
import Derived.Test.YtgkiahgcgjigkaaDoorAbP
set_option linter.all false
set_option linter.unusedVariables false
namespace Go.Ab
open Go.RowKit
inductive BL:AB->AB->Prop
 | refl (x:AB):BL x x
 | gone (x:AB):BL x .gone
 | box (t:TypeId) (cs ds:List AV) (h:LEL cs ds):BL (.box t cs) (.box t ds)
 | row (e:TypeId) (sz:Nat) (els els':List (List AV)) (h:LEE els els'):BL (.row e sz els) (.row e sz els')
inductive HL:List AB->List AB->Prop
 | nil (H:List AB):HL H []
 | cons (x y:AB) (xs ys:List AB) (h:BL x y) (hs:HL xs ys):HL (x::xs) (y::ys)
theorem HL.get{H H':List AB}(h:HL H H'):∀(r:Nat) (y:AB),H'[r]? = some y->∃ x,H[r]? = some x/\BL x y:=by
 induction h with
 | nil H=>intro r y h;simp at h
 | cons x y xs ys h hs ih =>
  intro r z hz
  cases r with
  | zero=>simp at hz;subst hz;exact⟨x,rfl,h⟩
  | succ r=>simpa using ih r z (by simpa using hz)
theorem HL.rfl':∀(H:List AB),HL H H
 | []=>.nil _
 | x::l=>.cons _ _ _ _ (.refl _) (HL.rfl' l)
theorem LEE_flat:∀ {xs ys:List (List AV)},LEE xs ys->LEL xs.flatten ys.flatten
 | _,_,.nil=>.nil
 | _,_,.cons x y xs ys h hs=>by
  simp only[List.flatten_cons]
  have app:∀ {a b c d:List AV},LEL a b->LEL c d->LEL (a++c) (b++d):=by
   intro a
   induction a with
   | nil=>intro b c d h k;cases h;exact k
   | cons x a ih=>intro b c d h k;cases h;rename_i h hs;exact .cons _ _ _ _ h (ih hs k)
  exact app h (LEE_flat hs)
def posL:List Nat->Nat->Option Nat
 | [],_=>none
 | k::l,r=>bif k == r then some 0 else(posL l r).map (· + 1)
theorem posL_get:∀ {l:List Nat} {r q:Nat},posL l r=some q->l[q]? = some r
 | [],_,_,h=>by simp[posL]at h
 | k::l,r,q,h=>by
  simp only[posL]at h
  by_cases e:k=r
  ·subst e;simp at h;subst h;rfl
  ·rw[beq_eq_false_iff_ne.2 e,cond_false]at h
   obtain⟨p,hp,rfl⟩:=Option.map_eq_some_iff.1 h
   simpa using posL_get hp
def nuAt(f:Option Nat)(k:Nat->AV):AV:=match f with
 | some q=>k q
 | none=>.u
mutual
def rn(f:Nat->Option Nat):AV->AV
 | .agg cs=>.agg (rnL f cs)
 | .tup cs=>.tup (rnL f cs)
 | .fn g a b=>.fn g (rnL f a) (rnL f b)
 | .row r=>nuAt (f r) .row
 | .ptr r j=>nuAt (f r) (.ptr · j)
 | .rptr r sz i j=>nuAt (f r) (.rptr · sz i j)
 | .sl t sz els=>.sl t sz els
 | .ip p cs=>.ip p cs
 | .u=>.u
 | .i k m=>.i k m
 | .b x=>.b x
 | .s x=>.s x
 | .nils=>.nils
 | .nilp=>.nilp
 | .nilf=>.nilf
 | .nili=>.nili
 | .ub=>.ub
 | .rv r sz lo n=>nuAt (f r) (.rv · sz lo n)
 | .mv q es=>.mv q es
def rnL(f:Nat->Option Nat):List AV->List AV
 | []=>[]
 | c::cs=>rn f c::rnL f cs
end
def rnE(f:Nat->Option Nat):List (List AV)->List (List AV)
 | []=>[]
 | c::cs=>rnL f c::rnE f cs
def rnB(f:Nat->Option Nat):AB->AB
 | .gone=>.gone
 | .pin r B=>match f r with
  | some q=>.pin q B
  | none=>.gone
 | .box t cs=>.box t (rnL f cs)
 | .row e sz els=>.row e sz (rnE f els)
 | .map q es=>.map q es
section
variable {I:Addr->Prop} {θ θ':Nat->Option Value} {w:World} {f:Nat->Option Nat}
mutual
theorem RV_rn(hθ:∀ q q' v,f q=some q'->θ q=some v->θ' q'=some v):∀(x:AV) (v:Value),RV I θ w x v->RV I θ' w (rn f x) v
 | .u,_,_=>by simp[RV,rn]
 | .i _ _,_,h=>by simpa [RV,rn] using h
 | .b _,_,h=>by simpa [RV,rn] using h
 | .s _,_,h=>by simpa [RV,rn] using h
 | .agg cs,v,h=>by
  simp only[RV,rn]at h ⊢
  obtain⟨vs,e,h0,h⟩:=h
  exact⟨vs,e,h0,RVs_rn hθ cs vs h⟩
 | .tup cs,v,h=>by
  simp only[RV,rn]at h ⊢
  obtain⟨vs,e,h⟩:=h
  exact⟨vs,e,RVs_rn hθ cs vs h⟩
 | .sl t sz els,v,h=>by
  have hp:pureB (.sl t sz els)=true:=by simp only[RV]at h;simpa [pureB] using h.1
  exact RV_pure (fun _ h=>h) (fun _ _=>Same.refl _ _) _ v hp h
 | .nils,_,h=>by simpa [RV,rn] using h
 | .row r,v,h=>by
  simp only[RV]at h
  simp only[rn]
  cases e:f r with
  | none=>simp[nuAt,RV]
  | some q=>simp only[nuAt,RV];exact⟨hθ _ _ _ e h.1,h.2⟩
 | .ptr r j,v,h=>by
  simp only[RV]at h
  simp only[rn]
  cases e:f r with
  | none=>simp[nuAt,RV]
  | some q =>
   obtain⟨B,h1,h2⟩:=h
   simp only[nuAt,RV];exact⟨B,hθ _ _ _ e h1,h2⟩
 | .rptr r sz i j,v,h=>by
  simp only[RV]at h
  simp only[rn]
  cases e:f r with
  | none=>simp[nuAt,RV]
  | some q =>
   obtain⟨B,l,c,h1,h2⟩:=h
   simp only[nuAt,RV];exact⟨B,l,c,hθ _ _ _ e h1,h2⟩
 | .ip p cs,v,h=>by
  have hp:pureB (.ip p cs)=true:=by simp only[RV]at h;simpa [pureB] using h.1
  exact RV_pure (fun _ h=>h) (fun _ _=>Same.refl _ _) _ v hp h
 | .nilp,_,h=>by simpa [RV,rn] using h
 | .fn g a b,v,h=>by
  simp only[RV,rn]at h ⊢
  obtain⟨x,y,e,h1,h2⟩:=h
  exact⟨x,y,e,RVs_rn hθ a x h1,RVs_rn hθ b y h2⟩
 | .nilf,_,h=>by simpa [RV,rn] using h
 | .nili,_,h=>by simpa [RV,rn] using h
 | .ub,_,h=>by simpa [RV,rn] using h
 | .rv r sz lo n,v,h=>by
  simp only[RV]at h
  simp only[rn]
  cases e:f r with
  | none=>simp[nuAt,RV]
  | some q =>
   obtain⟨a,l,c,h1,h2⟩:=h
   simp only[nuAt,RV];exact⟨a,l,c,hθ _ _ _ e h1,h2⟩
 | .mv q es,v,h=>by
  have hp:pureB (.mv q es)=true:=by simp only[RV]at h;simpa [pureB] using h.1
  exact RV_pure (fun _ h=>h) (fun _ _=>Same.refl _ _) _ v hp h
theorem RVs_rn(hθ:∀ q q' v,f q=some q'->θ q=some v->θ' q'=some v):∀(xs:List AV) (vs:List Value),RVs I θ w xs vs->RVs I θ' w (rnL f xs) vs
 | [],_,h=>by simpa [RVs,rnL] using h
 | c::cs,vs,h=>by
  simp only[RVs,rnL]at h ⊢
  obtain⟨v,r,e,h1,h2⟩:=h
  exact⟨v,r,e,RV_rn hθ c v h1,RVs_rn hθ cs r h2⟩
end
theorem rnL_app:∀(a b:List AV),rnL f (a++b)=rnL f a++rnL f b
 | [],b=>rfl
 | x::a,b=>by simp[rnL,rnL_app a b]
theorem rnL_len:∀(a:List AV),(rnL f a).length=a.length
 | []=>rfl
 | x::a=>by simp[rnL,rnL_len a]
theorem rnE_flat:∀(els:List (List AV)),(rnE f els).flatten=rnL f els.flatten
 | []=>rfl
 | c::cs=>by simp[rnE,rnL_app,rnE_flat cs]
theorem rnE_len:∀(els:List (List AV)),(rnE f els).length=els.length
 | []=>rfl
 | c::cs=>by simp[rnE,rnE_len cs]
theorem rnE_mem{sz:Nat}:∀ {els:List (List AV)},(∀ el∈els,el.length=sz)->∀ el∈rnE f els,el.length=sz
 | [],_,el,h=>by simp[rnE]at h
 | c::cs,hl,el,h=>by
  simp only[rnE,List.mem_cons]at h
  rcases h with rfl|h
  ·rw[rnL_len];exact hl c (List.mem_cons_self ..)
  ·exact rnE_mem (fun e he=>hl e (List.mem_cons_of_mem _ he)) el h
theorem rnB_box{y:AB}{t:TypeId}{cs:List AV}(h:AB.box t cs=rnB f y):∃ ds,y=.box t ds/\cs=rnL f ds:=by
 cases y with
 | box t' ds=>simp only[rnB,AB.box.injEq]at h;exact⟨ds,by rw[h.1],h.2⟩
 | gone=>simp[rnB]at h
 | row _ _ _=>simp[rnB]at h
 | map _ _=>simp[rnB]at h
 | pin r B=>simp only[rnB]at h;split at h<;>cases h
theorem rnB_map{y:AB}{q:Option IntKind}{es:List (List AV)}(h:AB.map q es=rnB f y):y=.map q es:=by
 cases y with
 | map _ _=>simp only[rnB,AB.map.injEq]at h;rw[h.1,h.2]
 | gone=>simp[rnB]at h
 | row _ _ _=>simp[rnB]at h
 | box _ _=>simp[rnB]at h
 | pin r B=>simp only[rnB]at h;split at h<;>cases h
theorem rnB_row{y:AB}{e:TypeId}{sz:Nat}{els:List (List AV)}(h:AB.row e sz els=rnB f y):∃ ds,y=.row e sz ds/\els=rnE f ds:=by
 cases y with
 | row _ _ ds=>simp only[rnB,AB.row.injEq]at h;exact⟨ds,by rw[h.1,h.2.1],h.2.2⟩
 | gone=>simp[rnB]at h
 | box _ _=>simp[rnB]at h
 | map _ _=>simp[rnB]at h
 | pin r B=>simp only[rnB]at h;split at h<;>cases h
theorem rnB_pin{y:AB}{q:Nat}{B:Value}(h:AB.pin q B=rnB f y):∃ r,y=.pin r B/\f r=some q:=by
 cases y with
 | row _ _ ds=>simp[rnB]at h
 | gone=>simp[rnB]at h
 | box _ _=>simp[rnB]at h
 | map _ _=>simp[rnB]at h
 | pin r B' =>
  simp only[rnB]at h
  split at h
  ·rename_i q' hq'
   simp only[AB.pin.injEq]at h
   exact⟨r,by rw[h.2],by rw[hq',h.1]⟩
  ·cases h
theorem live_rnB(x:AB):live (rnB f x)=live x:=by
 cases x with
 | pin r B=>simp only[rnB];split<;>rfl
 | _=>rfl
end
def selH(sel:List Nat)(H:List AB):List AB:=sel.map fun r=>rnB (posL sel) (H[r]?.getD .gone)
def selθ (sel:List Nat) (θ:Nat->Option Value) (q:Nat):Option Value:=(sel[q]?).bind θ
theorem Sim.sel{Γ : Ctx}{I:Addr->Prop}{θ:Nat->Option Value}{H:List AB}{w:World}(S:Sim Γ I θ H w)(sel:List Nat)(hn:sel.Nodup) :
  Sim Γ I (selθ sel θ) (selH sel H) w/\(∀ x v,RV I θ w x v->RV I (selθ sel θ) w (rn (posL sel) x) v)/\∀ q B,owns (selH sel H) (selθ sel θ) q B->∃ r,sel[q]? = some r/\owns H θ r B:=by
 let θ':Nat->Option Value:=selθ sel θ
 have hθe:∀ q,θ' q=(sel[q]?).bind θ:=fun _=>rfl
 have hθ:∀ q q' v,posL sel q=some q'->θ q=some v->θ' q'=some v:=by
  intro q q' v h k
  simp only[hθe,posL_get h,Option.bind_some,k]
 have hget:∀(q:Nat) (x:AB),(selH sel H)[q]? = some x->live x=true->∃(r:Nat) (y:AB),sel[q]? = some r/\H[r]? = some y/\x=rnB (posL sel) y/\live y=true:=by
  intro q x h hl
  simp only[selH,List.getElem?_map]at h
  obtain⟨r,h1,rfl⟩:=Option.map_eq_some_iff.1 h
  cases hr:H[r]? with
  | none=>rw[hr]at hl;cases hl
  | some y=>exact⟨r,y,h1,hr,by simp,by rw[hr]at hl;rwa [live_rnB]at hl⟩
 have howns:∀ q B,owns (selH sel H) θ' q B->∃ r,sel[q]? = some r/\owns H θ r B:=by
  rintro q B ⟨⟨x,hx,hl⟩,v,hv,hb⟩
  obtain⟨r,y,h1,h2,rfl,h4⟩:=hget q x hx hl
  simp only[hθe,h1,Option.bind_some]at hv
  exact⟨r,h1,⟨y,h2,h4⟩,v,hv,hb⟩
 refine⟨⟨S.below,S.i0,S.inew,S.ilt,?_,?_,?_,?_,?_,?_,?_,?_⟩,fun x v h=>RV_rn hθ x v h,howns⟩
 ·intro q t cs h
  obtain⟨r,y,h1,h2,h3,_⟩:=hget q _ h rfl
  obtain⟨ds,rfl,rfl⟩:=rnB_box h3
  obtain⟨B,c,k1,k2,k3,k4,k5⟩:=S.box r _ _ h2
  exact⟨B,c,(hθe q).trans (by rw[h1,Option.bind_some,k1]),k2,k3,k4,RVs_rn hθ _ _ k5⟩
 ·intro q e sz els h
  obtain⟨r,y,h1,h2,h3,_⟩:=hget q _ h rfl
  obtain⟨ds,rfl,rfl⟩:=rnB_row h3
  obtain⟨v,xs,k1,k2,k3,k4,k5,k6,k7⟩:=S.row r _ _ _ h2
  exact⟨v,xs,(hθe q).trans (by rw[h1,Option.bind_some,k1]),by rw[rnE_len];exact k2,k3,by rw[rnE_flat];exact RVs_rn hθ _ _ k4,rnE_mem k5,k6,by rw[rnE_len];exact k7⟩
 ·intro q p B hne h1 h2
  obtain⟨r,a1,a2⟩:=howns q B h1
  obtain⟨s,b1,b2⟩:=howns p B h2
  refine S.sep r s B ?_ a2 b2
  rintro rfl
  exact hne ((List.getElem?_inj (List.getElem?_eq_some_iff.1 a1).1 hn).1 (a1.trans b1.symm))
 ·intro b q h1 h2
  obtain⟨r,a1,a2⟩:=howns q _ h2
  exact S.iso b r h1 a2
 ·intro q hq
  simp only[selH,List.length_map]at hq
  show selθ sel θ q=none
  simp[selθ,List.getElem?_eq_none hq]
 ·intro q B h
  obtain⟨r,a1,a2⟩:=howns q B h
  exact S.own r B a2
 ·intro q p B h
  simp only[selH,List.getElem?_map]at h
  obtain⟨r,h1,h2⟩:=Option.map_eq_some_iff.1 h
  cases hr:H[r]? with
  | none=>rw[hr]at h2;cases h2
  | some y =>
   rw[hr,Option.getD_some]at h2
   obtain⟨p',rfl,hq'⟩:=rnB_pin h2.symm
   exact hθ _ _ _ hq' (S.pin r _ _ hr)
 ·intro q qk es h
  obtain⟨r,y,h1,h2,h3,_⟩:=hget q _ h rfl
  obtain rfl:=rnB_map h3
  exact(S.map r _ _ h2).mono (fun _ h=>h) (fun _ _=>Same.refl _ _) (fun v hv=>(hθe q).trans (by rw[h1,Option.bind_some,hv])) (fun _ _ _ h=>h)
def Wv(H:List AB)(x:AV)(H':List AB)(r:AV):Prop:=∀(Γ : Ctx) (I:Addr->Prop) (θ:Nat->Option Value) (w:World) (v:Value),Sim Γ I θ H w->RV I θ w x v->∃ I' θ',Sim Γ I' θ' H' w/\RV I' θ' w r v
theorem Wv.trans{H H1 H':List AB}{x y r:AV}(h:Wv H x H1 y)(k:Wv H1 y H' r):Wv H x H' r:=fun Γ I θ w v S hv=>by
 obtain⟨I1,θ1,S1,h1⟩:=h Γ I θ w v S hv
 exact k Γ I1 θ1 w v S1 h1
theorem Wv.sel{H:List AB}{x:AV}(sel:List Nat)(hn:sel.Nodup):Wv H x (selH sel H) (rn (posL sel) x):=fun Γ I θ w v S hv=>by
 obtain⟨S',h,_⟩:=S.sel sel hn
 exact⟨I,_,S',h x v hv⟩
end Go.Ab
