/- A part of the proof: AbC. -/
import Derived.Test.YtgkiahgcgjigkaaDoorAbB
import Derived.Test.YtgkiahgcgjigkaaDoorAbJw
set_option linter.all false
set_option linter.unusedVariables false
namespace Go.Ab
open Go.RowKit
structure Ctx where
 w0:World
 I0:Addr->Prop
 own:Nat->Prop
 new:∀ k,w0.heap.size<=k->own k
 mkb:Nat
structure Bel(Γ : Ctx)(w:World):Prop where
 os:w.os=Γ.w0.os
 tape:w.tape=Γ.w0.tape
 output:w.output=Γ.w0.output
 size : Γ.w0.heap.size<=w.heap.size
 block:∀ k,k < Γ.w0.heap.size->¬ Γ.own k->w.heap[k]? = Γ.w0.heap[k]?
 jw:JW Γ.w0
 jn:∀ g∈JL,¬ Γ.own g
theorem Bel.w{Γ : Ctx}{w:World}(h:Bel Γ w):JW w:=JW_of h.jw fun g hg=>h.block g (JW_lt h.jw g hg) (h.jn g hg)
theorem Bel.step{Γ : Ctx}{w w':World}(h:Bel Γ w)(h1:w'.os=w.os)(h2:w'.tape=w.tape)(h3:w'.output=w.output)(h4:w.heap.size<=w'.heap.size)
  (h5:∀ k,k<w.heap.size->¬ Γ.own k->w'.heap[k]? = w.heap[k]?):Bel Γ w':=
 ⟨h1.trans h.os,h2.trans h.tape,h3.trans h.output,Nat.le_trans h.size h4,fun k hk hn=>(h5 k (Nat.lt_of_lt_of_le hk h.size) hn).trans (h.block k hk hn),h.jw,h.jn⟩
theorem Bel.alloc{Γ : Ctx}{w:World}(h:Bel Γ w)(o:Obj):Bel Γ (w.alloc o):=h.step rfl rfl rfl (by simp) fun k hk _=>Below.heap_alloc _ _ _ hk
theorem Bel.drew{Γ : Ctx}{w:World}(h:Bel Γ w):Bel Γ w.drew:=h.step rfl rfl rfl (Nat.le_refl _) fun _ _ _=>rfl
def blk:Value->Option Nat
 | .pointer (some a)=>some a.block
 | .slice (some a) _ _=>some a.block
 | .map (some B)=>some B
 | _=>none
def live:AB->Bool
 | .gone=>false
 | .pin _ _=>false
 | _=>true
def owns(H:List AB)(θ:Nat->Option Value)(r B:Nat):Prop:=
 (∃ x,H[r]? = some x/\live x=true)/\∃ v,θ r=some v/\blk v=some B
def MapAt(I:Addr->Prop)(θ:Nat->Option Value)(w:World)(r:Nat)(q:Option IntKind)(es:List (List AV)):Prop:=
 ∃ B ents c,θ r=some (.map (some B))/\w.heap[B]? = some (.map ents c)/\pureE es=true/\keysOk q es=true/\es.length<=LIM/\RVm I θ w es ents.toList
theorem MapAt.mono{I I':Addr->Prop}{θ θ':Nat->Option Value}{w w':World}{r r':Nat}{q:Option IntKind}{es:List (List AV)}(h:MapAt I θ w r q es)(hI:∀ a,I a->I' a)(hc:∀ a,I a->Same w' w a)
  (hθ:∀ v,θ r=some v->θ' r'=some v) (hB:∀ B o,θ r=some (.map (some B))->w.heap[B]? = some o->w'.heap[B]? = some o):MapAt I' θ' w' r' q es:=by
 obtain⟨B,ents,c,h1,h2,h3,h4,h5,h6⟩:=h
 exact⟨B,ents,c,hθ _ h1,hB B _ h1 h2,h3,h4,h5,RVm_pure hI hc _ _ h3 h6⟩
structure Sim(Γ : Ctx)(I:Addr->Prop)(θ:Nat->Option Value)(H:List AB)(w:World):Prop where
 below:Bel Γ w
 i0:∀ a,Γ.I0 a->I a
 inew:∀ a,I a->Γ.I0 a\/Γ.own a.block
 ilt:∀ a,I a->a.block<w.heap.size
 box:∀ r t cs,H[r]? = some (.box t cs)->∃ B c,θ r=some (.pointer (some ⟨B,0,none⟩))/\0<=B/\w.heap[B]? = some (.cells c t (0,0)) /\
  (∀ u∈c.toList,u.oneCell'=true)/\RVs I θ w cs c.toList
 row:∀ r e sz els,H[r]? = some (.row e sz els)->∃ v xs,θ r=some v/\w.ownsRow 0 e sz v els.length xs/\(∀ u∈xs,u.oneCell'=true)/\RVs I θ w els.flatten xs /\
  (∀ el∈els,el.length=sz)/\0<sz/\els.length<=LIM
 sep:∀ r q B,r≠q->owns H θ r B->owns H θ q B->False
 iso:∀ a r,I a->owns H θ r a.block->False
 dom:∀ q,H.length<=q->θ q=none
 own:∀ r B,owns H θ r B->Γ.own B
 pin:∀(q r:Nat) (B:Value),H[q]? = some (AB.pin r B)->θ r=some B
 map:∀ r q es,H[r]? = some (.map q es)->MapAt I θ w r q es
structure Mono(I:Addr->Prop)(w:World)(I':Addr->Prop)(w':World):Prop where
 sub:∀ a,I a->I' a
 same:∀ a,I a->Same w' w a
theorem Mono.cell{I I':Addr->Prop}{w w':World}(h:Mono I w I' w')(a:Addr)(ha:I a):w'.cell? a=w.cell? a:=(h.same a ha).cell
theorem Mono.refl(I:Addr->Prop)(w:World):Mono I w I w:=⟨fun _ h=>h,fun _ _=>Same.refl _ _⟩
theorem Mono.trans{I I' I'':Addr->Prop}{w w' w'':World}(h:Mono I w I' w')(k:Mono I' w' I'' w''):Mono I w I'' w'':=
 ⟨fun a h0=>k.sub a (h.sub a h0),fun a h0=>(k.same a (h.sub a h0)).trans (h.same a h0)⟩
theorem Mono.rv{I I':Addr->Prop}{w w':World}(h:Mono I w I' w'){θ:Nat->Option Value}{x:AV}{v:Value}(hx:RV I θ w x v):RV I' θ w' x v:=
 RV_mono h.sub h.same (fun _ _ h=>h) x v hx
theorem Mono.rvs{I I':Addr->Prop}{w w':World}(h:Mono I w I' w'){θ:Nat->Option Value}{x:List AV}{v:List Value}(hx:RVs I θ w x v):RVs I' θ w' x v:=
 RVs_mono h.sub h.same (fun _ _ h=>h) x v hx
theorem owns_lt{Γ : Ctx}{I:Addr->Prop}{θ:Nat->Option Value}{H:List AB}{w:World}(S:Sim Γ I θ H w){r B:Nat}(h:owns H θ r B) :
  Γ.own B/\B<w.heap.size:=by
 refine⟨S.own r B h,?_⟩
 obtain⟨⟨x,hx,hl⟩,v,hv,hb⟩:=h
 cases x with
 | gone=>simp[live]at hl
 | pin _ _=>simp[live]at hl
 | box t cs =>
  obtain⟨B',c,h1,h2,h3,_⟩:=S.box r t cs hx
  rw[hv]at h1
  obtain rfl:=Option.some.inj h1
  simp only[blk,Option.some.injEq]at hb
  subst hb
  exact(Array.getElem?_eq_some_iff.1 h3).1
 | row e sz els =>
  obtain⟨v',xs,h1,h2,_⟩:=S.row r e sz els hx
  rw[hv]at h1
  obtain rfl:=Option.some.inj h1
  have hk:v.ownBlock=some B:=by
   unfold blk at hb
   split at hb
   ·rcases h2.2 with⟨e,_⟩|⟨g,cap,cur,e,_⟩<;>cases e
   ·simpa [Value.ownBlock] using hb
   ·rcases h2.2 with⟨e,_⟩|⟨g,cap,cur,e,_⟩<;>cases e
   ·cases hb
  exact(h2.lt B hk).2
 | map q es =>
  obtain⟨B',ents,c,h1,h3,_⟩:=S.map r q es hx
  rw[hv]at h1
  obtain rfl:=Option.some.inj h1
  simp only[blk,Option.some.injEq]at hb
  subst hb
  exact(Array.getElem?_eq_some_iff.1 h3).1
theorem Sim.alloc{Γ : Ctx}{I:Addr->Prop}{θ:Nat->Option Value}{H:List AB}{w:World}(S:Sim Γ I θ H w)(o:Obj)(J:Addr->Prop)
  (hJ:∀ a,J a->a.block=w.heap.size) :
  Sim Γ (fun a=>I a\/J a) θ H (w.alloc o)/\Mono I w (fun a=>I a\/J a) (w.alloc o):=by
 have hm:Mono I w (fun a=>I a\/J a) (w.alloc o):=⟨fun _ h=>.inl h,fun a h=>Same.of (Below.heap_alloc _ _ _ (S.ilt a h))⟩
 refine⟨⟨S.below.alloc o,fun a h=>.inl (S.i0 a h),?_,?_,?_,?_,S.sep,?_,S.dom,S.own,S.pin,?_⟩,hm⟩
 ·rintro a (h|h)
  ·exact S.inew a h
  ·have:=hJ a h
   have:=S.below.size
   exact .inr (Γ.new _ (by omega))
 ·rintro a (h|h)
  ·have:=S.ilt a h
   simp
   omega
  ·have:=hJ a h
   simp
   omega
 ·intro r t cs h
  obtain⟨B,c,h1,h2,h3,h4,h5⟩:=S.box r t cs h
  exact⟨B,c,h1,h2,by rw[Below.heap_alloc _ _ _ (Array.getElem?_eq_some_iff.1 h3).1];exact h3,h4,hm.rvs h5⟩
 ·intro r e sz els h
  obtain⟨v,xs,h1,h2,h3,h4,h5⟩:=S.row r e sz els h
  exact⟨v,xs,h1,h2.alloc _,h3,hm.rvs h4,h5⟩
 ·rintro a r (h|h) ho
  ·exact S.iso a r h ho
  ·have:=(owns_lt S ho).2
   have:=hJ a h
   omega
 ·intro r q es h
  exact(S.map r q es h).mono hm.sub hm.same (fun _ h=>h) (fun B o _ k=>by rw[Below.heap_alloc _ _ _ (Array.getElem?_eq_some_iff.1 k).1];exact k)
def const1:Value->AV->Bool
 | .int k n,.i k' n'=>k == k' && n == n' && decide (k.min<=n) && decide (n<=k.max)
 | .bool b,.b b'=>b == b'
 | .string s,.s s'=>decide (s=s') && decide (s.size<=LIM)
 | .slice none 0 0,.nils=>true
 | .slice none 0 0,.sl _ _ []=>true
 | .map none,.mv _ []=>true
 | .pointer none,.nilp=>true
 | .nilFunc,.nilf=>true
 | .nilIface,.nili=>true
 | _,_=>false
def constL:List Value->List AV->Bool
 | [],[]=>true
 | v::vs,x::xs=>const1 v x && v.oneCell' && constL vs xs
 | _,_=>false
def constOk:Value->AV->Bool
 | .agg cs,.agg ds=>constL cs.toList ds
 | v,x=>const1 v x
def opdOk:Operand->Opd->Bool
 | .tmp n,.t m=>n == m
 | .const v,.c x=>constOk v x
 | .func f,.c (.fn (.func g) [] [])=>f == g
 | _,_=>false
section
variable {I:Addr->Prop} {θ:Nat->Option Value} {w:World}
theorem const1_rv:∀ {v:Value} {x:AV},const1 v x=true->RV I θ w x v:=by
 intro v x h
 unfold const1 at h
 split at h
 ·simp only[Bool.and_eq_true,beq_iff_eq,decide_eq_true_eq]at h
  obtain⟨⟨⟨rfl,rfl⟩,h1⟩,h2⟩:=h
  exact⟨rfl,h1,h2⟩
 ·simp_all [RV]
 ·simp only[Bool.and_eq_true,decide_eq_true_eq]at h
  obtain⟨rfl,h1⟩:=h
  exact⟨rfl,h1⟩
 ·simp[RV]
 ·simp only[RV]
  exact⟨by simp[pureE],none,0,by simp,by simp,by simp[maxLen],by simp,by simp,by simp⟩
 all_goals simp_all [RV,pureE,keysOk]
theorem constL_rv:∀ {vs:List Value} {xs:List AV},constL vs xs=true->RVs I θ w xs vs/\∀ u∈vs,u.oneCell'=true
 | [],[],_=>by simp[RVs]
 | v::vs,x::xs,h=>by
  simp only[constL,Bool.and_eq_true]at h
  obtain⟨h1,h2⟩:=constL_rv h.2
  refine⟨by simp only[RVs];exact⟨v,vs,rfl,const1_rv h.1.1,h1⟩,?_⟩
  intro u hu
  cases hu with
  | head=>exact h.1.2
  | tail _ hm=>exact h2 u hm
 | [],_::_,h=>by simp[constL]at h
 | _::_,[],h=>by simp[constL]at h
theorem constOk_rv{v:Value}{x:AV}(h:constOk v x=true):RV I θ w x v:=by
 unfold constOk at h
 split at h
 ·rename_i cs ds
  obtain⟨h1,h2⟩:=constL_rv (I:=I) (θ:=θ) (w:=w) h
  simp only[RV]
  exact⟨cs.toList,by simp,h2,h1⟩
 ·exact const1_rv h
end
def Rel(I:Addr->Prop)(θ:Nat->Option Value)(w:World)(T:List (Nat×AV))(a:Act):Prop:=
 ∀ n,RV I θ w (lk T n) (a.tmps.getD n undef)
theorem opd_rv{I:Addr->Prop}{θ:Nat->Option Value}{w:World}{st:AS}{a:Act}(hR:Rel I θ w st.T a){x:Operand}{y:Opd}(h:opdOk x y=true) :
  RV I θ w (st.ev y) (a.eval x):=by
 unfold opdOk at h
 split at h
 ·rename_i n m
  obtain rfl:n=m:=by simpa using h
  exact hR n
 ·exact constOk_rv h
 ·rename_i f g
  obtain rfl:f=g:=by simpa using h
  simp[AS.ev,Act.eval,RV,RVs]
 ·cases h
theorem Rel.mono{I I':Addr->Prop}{θ:Nat->Option Value}{w w':World}{T:List (Nat×AV)}{a:Act}(hR:Rel I θ w T a)(h:Mono I w I' w'):Rel I' θ w' T a:=
 fun n=>h.rv (hR n)
theorem Rel.put{I:Addr->Prop}{θ:Nat->Option Value}{w:World}{st:AS}{a:Act}(hR:Rel I θ w st.T a)(d:Option Nat)(hd:∀ k,d=some k->k<a.tmps.size){y:AV}{v:Value}(hy:RV I θ w y v) :
  Rel I θ w (Ab.put st d y).T (a.put d v):=by
 intro n
 cases d with
 | none=>exact hR n
 | some k =>
  simp only[Ab.put,lk,Act.put]
  by_cases e:n=k
  ·subst e
   simp only[beq_self_eq_true,cond_true]
   have:=hd n rfl
   simpa [Array.getD_eq_getD_getElem?,Array.getElem?_setIfInBounds,this] using hy
  ·simp only[beq_eq_false_iff_ne.2 e,cond_false]
   have:=hR n
   simpa [Array.getD_eq_getD_getElem?,Array.getElem?_setIfInBounds,if_neg (fun e':k=n=>e e'.symm)] using this
end Go.Ab
