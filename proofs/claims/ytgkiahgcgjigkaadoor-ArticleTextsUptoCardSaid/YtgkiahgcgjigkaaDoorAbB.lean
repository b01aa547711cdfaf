/- A part of the proof: AbB. -/
import Derived.Test.YtgkiahgcgjigkaaDoorAbA
set_option linter.all false
set_option linter.unusedVariables false
namespace Go.Ab
open Go.RowKit
def datB:Obj->Bool
 | .cells _ _ _=>true
 | .map _ _=>true
 | _=>false
def Same(w' w:World)(a:Addr):Prop:=∀ o,datB o=true->(w'.heap[a.block]? = some o↔w.heap[a.block]? = some o)
theorem Same.cell{w' w:World}{a:Addr}(h:Same w' w a):w'.cell? a=w.cell? a:=by
 have key:∀(w w':World),Same w' w a->∀ v,w.cell? a=some v->w'.cell? a=some v:=by
  intro w w' h v hv
  unfold World.cell? at hv ⊢
  cases hw:w.heap[a.block]? with
  | none=>rw[hw]at hv;cases hv
  | some o =>
   rw[hw]at hv
   cases o with
   | cells c t f=>rw[(h (.cells c t f) rfl).2 hw];exact hv
   | _=>cases hv
 have hs:Same w w' a:=fun o ho=>(h o ho).symm
 cases hw:w.cell? a with
 | some v=>exact key w w' h v hw
 | none =>
  cases hw':w'.cell? a with
  | none=>rfl
  | some v=>rw[key w' w hs v hw']at hw;cases hw
theorem Same.refl(w:World)(a:Addr):Same w w a:=fun _ _=>Iff.rfl
theorem Same.trans{w1 w2 w3:World}{a:Addr}(h:Same w1 w2 a)(k:Same w2 w3 a):Same w1 w3 a:=fun o ho=>(h o ho).trans (k o ho)
theorem Same.symm{w1 w2:World}{a:Addr}(h:Same w1 w2 a):Same w2 w1 a:=fun o ho=>(h o ho).symm
theorem Same.of{w' w:World}{a:Addr}(e:w'.heap[a.block]? = w.heap[a.block]?):Same w' w a:=fun _ _=>by rw[e]
theorem Same.obj{w' w:World}{a:Addr}(h:Same w' w a){o:Obj}(k:w.heap[a.block]? = some o)(ho:datB o=true:=by rfl):w'.heap[a.block]? = some o:=(h o ho).2 k
mutual
def RV(I:Addr->Prop)(θ:Nat->Option Value)(w:World):AV->Value->Prop
 | .u,_=>True
 | .i k n,v=>v=.int k n/\k.min<=n/\n<=k.max
 | .b x,v=>v=.bool x
 | .s x,v=>v=.string x/\x.size<=LIM
 | .agg cs,v=>∃ vs:List Value,v=.agg vs.toArray/\(∀ u∈vs,u.oneCell'=true)/\RVs I θ w cs vs
 | .tup cs,v=>∃ vs:List Value,v=.tuple vs.toArray/\RVs I θ w cs vs
 | .sl t sz els,v=>pureE els=true/\∃ a cap,v=.slice a els.length cap/\els.length<=cap/\cap<=maxLen/\els.length<=LIM/\(t=true->cap=els.length) /\
   (els≠[]->0<sz/\(∀ el∈els,el.length=sz)/\∃ B o,a=some ⟨B,o,none⟩/\RVe I θ w els B o)
 | .nils,v=>v=.slice none 0 0
 | .row r,v=>θ r=some v/\((∃ a l c,v=.slice a l c)\/∃ B,v=.map (some B))
 | .ptr r j,v=>∃ B,θ r=some (.pointer (some ⟨B,0,none⟩))/\v=.pointer (some ⟨B,j,none⟩)
 | .rptr r sz i j,v=>∃ B l c,θ r=some (.slice (some ⟨B,0,none⟩) l c)/\v=.pointer (some ⟨B,i * sz+j,none⟩)
 | .ip p cs,v=>pureL cs=true/\∃ B o,v=.pointer (some ⟨B,o,none⟩)/\RVc I θ w cs B o/\(p=true->o=0/\I ⟨B,0,none⟩/\∃ c t,w.heap[B]? = some (.cells c t (0,0)))
 | .nilp,v=>v=.pointer none
 | .fn f a b,v=>∃ x y:List Value,v=.func f x.toArray y.toArray/\RVs I θ w a x/\RVs I θ w b y
 | .nilf,v=>v=.nilFunc
 | .nili,v=>v=.nilIface
 | .ub,v=>∃ b:Bool,v=.bool b
 | .rv r sz lo n,v=>∃ a l cap,θ r=some (.slice a l cap)/\lo+n<=l/\l<=cap/\n<=LIM/\cap<=maxLen/\(a=none\/∃ B,a=some ⟨B,0,none⟩)/\∃ a',v=.slice a' n (cap-lo)/\(lo=0->a'=a)/\(n≠0->∃ B,a=some ⟨B,0,none⟩/\a'=some ⟨B,lo * sz,none⟩)
 | .mv q es,v=>pureE es=true/\keysOk q es=true/\es.length<=LIM/\((v=.map none/\es=[])\/∃ B ents c,v=.map (some B)/\I ⟨B,0,none⟩/\w.heap[B]? = some (.map ents c)/\RVm I θ w es ents.toList)
def RVs(I:Addr->Prop)(θ:Nat->Option Value)(w:World):List AV->List Value->Prop
 | [],vs=>vs=[]
 | c::cs,vs=>∃ v r,vs=v::r/\RV I θ w c v/\RVs I θ w cs r
def RVc(I:Addr->Prop)(θ:Nat->Option Value)(w:World):List AV->Nat->Nat->Prop
 | [],_,_=>True
 | c::cs,B,o=>(I ⟨B,o,none⟩/\∃ v,w.cell? ⟨B,o,none⟩=some v/\v.oneCell'=true/\RV I θ w c v)/\RVc I θ w cs B (o+1)
def RVe(I:Addr->Prop)(θ:Nat->Option Value)(w:World):List (List AV)->Nat->Nat->Prop
 | [],_,_=>True
 | el::els,B,o=>RVc I θ w el B o/\RVe I θ w els B (o+el.length)
def RVm(I:Addr->Prop)(θ:Nat->Option Value)(w:World):List (List AV)->List MapEntry->Prop
 | [],l=>l=[]
 | el::els,l=>∃ e r,l=e::r/\RVs I θ w el [e.key,e.val]/\e.key.oneCell'=true/\RVm I θ w els r
end
section
variable {I I':Addr->Prop} {θ θ':Nat->Option Value} {w w':World}
mutual
theorem RV_mono(hI:∀ a,I a->I' a)(hc:∀ a,I a->Same w' w a)(hθ:∀ q v,θ q=some v->θ' q=some v) :
  ∀(x:AV) (v:Value),RV I θ w x v->RV I' θ' w' x v
 | .u,_,_=>by simp[RV]
 | .i _ _,_,h=>by simpa [RV] using h
 | .b _,_,h=>by simpa [RV] using h
 | .s _,_,h=>by simpa [RV] using h
 | .agg cs,v,h=>by
  simp only[RV]at h ⊢
  obtain⟨vs,e,h0,h⟩:=h
  exact⟨vs,e,h0,RVs_mono hI hc hθ cs vs h⟩
 | .tup cs,v,h=>by
  simp only[RV]at h ⊢
  obtain⟨vs,e,h⟩:=h
  exact⟨vs,e,RVs_mono hI hc hθ cs vs h⟩
 | .sl t sz els,v,h=>by
  simp only[RV]at h ⊢
  obtain⟨h0,a,cap,e,h1,h2,h3,h4,h5⟩:=h
  refine⟨h0,a,cap,e,h1,h2,h3,h4,fun hne=>?_⟩
  obtain⟨h6,h7,B,o,ea,h8⟩:=h5 hne
  exact⟨h6,h7,B,o,ea,RVe_mono hI hc hθ els B o h8⟩
 | .nils,_,h=>by simpa [RV] using h
 | .row r,v,h=>by
  simp only[RV]at h ⊢
  exact⟨hθ _ _ h.1,h.2⟩
 | .ptr r j,v,h=>by
  simp only[RV]at h ⊢
  obtain⟨B,h1,h2⟩:=h
  exact⟨B,hθ _ _ h1,h2⟩
 | .rptr r sz i j,v,h=>by
  simp only[RV]at h ⊢
  obtain⟨B,l,c,h1,h2⟩:=h
  exact⟨B,l,c,hθ _ _ h1,h2⟩
 | .ip p cs,v,h=>by
  simp only[RV]at h ⊢
  obtain⟨h0,B,o,e,h,k⟩:=h
  exact⟨h0,B,o,e,RVc_mono hI hc hθ cs B o h,fun q=>by obtain⟨k0,k1,c,t,k2⟩:=k q;exact⟨k0,hI _ k1,c,t,(hc _ k1).obj k2⟩⟩
 | .nilp,_,h=>by simpa [RV] using h
 | .fn f a b,v,h=>by
  simp only[RV]at h ⊢
  obtain⟨x,y,e,h1,h2⟩:=h
  exact⟨x,y,e,RVs_mono hI hc hθ a x h1,RVs_mono hI hc hθ b y h2⟩
 | .nilf,_,h=>by simpa [RV] using h
 | .nili,_,h=>by simpa [RV] using h
 | .ub,_,h=>by simpa [RV] using h
 | .rv r sz lo n,v,h=>by
  simp only[RV]at h ⊢
  obtain⟨a,l,c,h1,h2⟩:=h
  exact⟨a,l,c,hθ _ _ h1,h2⟩
 | .mv q es,v,h=>by
  simp only[RV]at h ⊢
  obtain⟨h0,h1,h2,h|⟨B,ents,c,e,h3,h4,h5⟩⟩:=h
  ·exact⟨h0,h1,h2,.inl h⟩
  ·exact⟨h0,h1,h2,.inr ⟨B,ents,c,e,hI _ h3,(hc _ h3).obj h4,RVm_mono hI hc hθ es _ h5⟩⟩
theorem RVs_mono(hI:∀ a,I a->I' a)(hc:∀ a,I a->Same w' w a)(hθ:∀ q v,θ q=some v->θ' q=some v) :
  ∀(xs:List AV) (vs:List Value),RVs I θ w xs vs->RVs I' θ' w' xs vs
 | [],_,h=>by simpa [RVs] using h
 | c::cs,vs,h=>by
  simp only[RVs]at h ⊢
  obtain⟨v,r,e,h1,h2⟩:=h
  exact⟨v,r,e,RV_mono hI hc hθ c v h1,RVs_mono hI hc hθ cs r h2⟩
theorem RVc_mono(hI:∀ a,I a->I' a)(hc:∀ a,I a->Same w' w a)(hθ:∀ q v,θ q=some v->θ' q=some v) :
  ∀(xs:List AV) (B o:Nat),RVc I θ w xs B o->RVc I' θ' w' xs B o
 | [],_,_,_=>by simp[RVc]
 | c::cs,B,o,h=>by
  simp only[RVc]at h ⊢
  obtain⟨⟨h1,v,h3,h2,h4⟩,h5⟩:=h
  exact⟨⟨hI _ h1,v,(hc _ h1).cell.trans h3,h2,RV_mono hI hc hθ c v h4⟩,RVc_mono hI hc hθ cs B (o+1) h5⟩
theorem RVe_mono(hI:∀ a,I a->I' a)(hc:∀ a,I a->Same w' w a)(hθ:∀ q v,θ q=some v->θ' q=some v) :
  ∀(xs:List (List AV)) (B o:Nat),RVe I θ w xs B o->RVe I' θ' w' xs B o
 | [],_,_,_=>by simp[RVe]
 | c::cs,B,o,h=>by
  simp only[RVe]at h ⊢
  exact⟨RVc_mono hI hc hθ c B o h.1,RVe_mono hI hc hθ cs B (o+c.length) h.2⟩
theorem RVm_mono(hI:∀ a,I a->I' a)(hc:∀ a,I a->Same w' w a)(hθ:∀ q v,θ q=some v->θ' q=some v) :
  ∀(xs:List (List AV)) (l:List MapEntry),RVm I θ w xs l->RVm I' θ' w' xs l
 | [],_,h=>by simpa [RVm] using h
 | c::cs,l,h=>by
  simp only[RVm]at h ⊢
  obtain⟨e,r,e1,h1,h2,h3⟩:=h
  exact⟨e,r,e1,RVs_mono hI hc hθ c _ h1,h2,RVm_mono hI hc hθ cs r h3⟩
end
mutual
theorem RV_pure(hI:∀ a,I a->I' a)(hc:∀ a,I a->Same w' w a) :
  ∀(x:AV) (v:Value),pureB x=true->RV I θ w x v->RV I' θ' w' x v
 | .u,_,hp,_=>by simp[pureB]at hp
 | .i _ _,_,_,h=>by simpa [RV] using h
 | .b _,_,_,h=>by simpa [RV] using h
 | .s _,_,_,h=>by simpa [RV] using h
 | .agg cs,v,hp,h=>by
  simp only[RV,pureB]at h hp ⊢
  obtain⟨vs,e,h0,h⟩:=h
  exact⟨vs,e,h0,RVs_pure hI hc cs vs hp h⟩
 | .tup cs,v,hp,h=>by
  simp only[RV,pureB]at h hp ⊢
  obtain⟨vs,e,h⟩:=h
  exact⟨vs,e,RVs_pure hI hc cs vs hp h⟩
 | .sl t sz els,v,hp,h=>by
  simp only[RV,pureB]at h hp ⊢
  obtain⟨_,a,cap,e,h1,h2,h3,h4,h5⟩:=h
  refine⟨hp,a,cap,e,h1,h2,h3,h4,fun hne=>?_⟩
  obtain⟨h6,h7,B,o,ea,h8⟩:=h5 hne
  exact⟨h6,h7,B,o,ea,RVe_pure hI hc els B o hp h8⟩
 | .nils,_,_,h=>by simpa [RV] using h
 | .row r,v,hp,h=>by simp[pureB]at hp
 | .ptr r j,v,hp,h=>by simp[pureB]at hp
 | .rptr r sz i j,v,hp,h=>by simp[pureB]at hp
 | .ip p cs,v,hp,h=>by
  simp only[RV,pureB]at h hp ⊢
  obtain⟨_,B,o,e,h,k⟩:=h
  exact⟨hp,B,o,e,RVc_pure hI hc cs B o hp h,fun q=>by obtain⟨k0,k1,c,t,k2⟩:=k q;exact⟨k0,hI _ k1,c,t,(hc _ k1).obj k2⟩⟩
 | .nilp,_,_,h=>by simpa [RV] using h
 | .fn f a b,v,hp,h=>by
  simp only[RV,pureB,Bool.and_eq_true]at h hp ⊢
  obtain⟨x,y,e,h1,h2⟩:=h
  exact⟨x,y,e,RVs_pure hI hc a x hp.1 h1,RVs_pure hI hc b y hp.2 h2⟩
 | .nilf,_,_,h=>by simpa [RV] using h
 | .nili,_,_,h=>by simpa [RV] using h
 | .ub,_,hp,_=>by simp[pureB]at hp
 | .rv _ _ _ _,_,hp,_=>by simp[pureB]at hp
 | .mv q es,v,hp,h=>by
  simp only[RV,pureB]at h hp ⊢
  obtain⟨h0,h1,h2,h|⟨B,ents,c,e,h3,h4,h5⟩⟩:=h
  ·exact⟨h0,h1,h2,.inl h⟩
  ·exact⟨h0,h1,h2,.inr ⟨B,ents,c,e,hI _ h3,(hc _ h3).obj h4,RVm_pure hI hc es _ hp h5⟩⟩
theorem RVs_pure(hI:∀ a,I a->I' a)(hc:∀ a,I a->Same w' w a) :
  ∀(xs:List AV) (vs:List Value),pureL xs=true->RVs I θ w xs vs->RVs I' θ' w' xs vs
 | [],_,_,h=>by simpa [RVs] using h
 | c::cs,vs,hp,h=>by
  simp only[RVs,pureL,Bool.and_eq_true]at h hp ⊢
  obtain⟨v,r,e,h1,h2⟩:=h
  exact⟨v,r,e,RV_pure hI hc c v hp.1 h1,RVs_pure hI hc cs r hp.2 h2⟩
theorem RVc_pure(hI:∀ a,I a->I' a)(hc:∀ a,I a->Same w' w a) :
  ∀(xs:List AV) (B o:Nat),pureL xs=true->RVc I θ w xs B o->RVc I' θ' w' xs B o
 | [],_,_,_,_=>by simp[RVc]
 | c::cs,B,o,hp,h=>by
  simp only[RVc,pureL,Bool.and_eq_true]at h hp ⊢
  obtain⟨⟨h1,v,h3,h2,h4⟩,h5⟩:=h
  exact⟨⟨hI _ h1,v,(hc _ h1).cell.trans h3,h2,RV_pure hI hc c v hp.1 h4⟩,RVc_pure hI hc cs B (o+1) hp.2 h5⟩
theorem RVe_pure(hI:∀ a,I a->I' a)(hc:∀ a,I a->Same w' w a) :
  ∀(xs:List (List AV)) (B o:Nat),pureE xs=true->RVe I θ w xs B o->RVe I' θ' w' xs B o
 | [],_,_,_,_=>by simp[RVe]
 | c::cs,B,o,hp,h=>by
  simp only[RVe,pureE,Bool.and_eq_true]at h hp ⊢
  exact⟨RVc_pure hI hc c B o hp.1 h.1,RVe_pure hI hc cs B (o+c.length) hp.2 h.2⟩
theorem RVm_pure(hI:∀ a,I a->I' a)(hc:∀ a,I a->Same w' w a) :
  ∀(xs:List (List AV)) (l:List MapEntry),pureE xs=true->RVm I θ w xs l->RVm I' θ' w' xs l
 | [],_,_,h=>by simpa [RVm] using h
 | c::cs,l,hp,h=>by
  simp only[RVm,pureE,Bool.and_eq_true]at h hp ⊢
  obtain⟨e,r,e1,h1,h2,h3⟩:=h
  exact⟨e,r,e1,RVs_pure hI hc c _ hp.1 h1,h2,RVm_pure hI hc cs r hp.2 h3⟩
end
mutual
theorem RV_sb{r:Nat}(hI:∀ a,I a->I' a)(hc:∀ a,I a->Same w' w a)(hθ:∀ q v,q≠r->θ q=some v->θ' q=some v)
  (hr:∀ v,θ r=some v->∀ p,v≠.pointer p) {y:AV} (hy:∀ v,θ r=some v->RV I' θ' w' y v) :
  ∀(x:AV) (v:Value),RV I θ w x v->RV I' θ' w' (sb r y x) v
 | .u,_,_=>by simp[RV,sb]
 | .i _ _,_,h=>by simpa [RV,sb] using h
 | .b _,_,h=>by simpa [RV,sb] using h
 | .s _,_,h=>by simpa [RV,sb] using h
 | .agg cs,v,h=>by
  simp only[RV,sb]at h ⊢
  obtain⟨vs,e,h0,h⟩:=h
  exact⟨vs,e,h0,RVs_sb hI hc hθ hr hy cs vs h⟩
 | .tup cs,v,h=>by
  simp only[RV,sb]at h ⊢
  obtain⟨vs,e,h⟩:=h
  exact⟨vs,e,RVs_sb hI hc hθ hr hy cs vs h⟩
 | .sl t sz els,v,h=>by
  have hp:pureB (.sl t sz els)=true:=by simp only[RV]at h;simpa [pureB] using h.1
  simpa [sb] using RV_pure (θ:=θ) (θ':=θ') hI hc _ v hp h
 | .nils,_,h=>by simpa [RV,sb] using h
 | .row q,v,h=>by
  simp only[RV]at h
  simp only[sb]
  by_cases e:q=r
  ·subst e
   simpa using hy v h.1
  ·simp only[beq_eq_false_iff_ne.2 e,cond_false,RV]
   exact⟨hθ q v e h.1,h.2⟩
 | .ptr q j,v,h=>by
  simp only[RV,sb]at h ⊢
  obtain⟨B,h1,h2⟩:=h
  exact⟨B,hθ _ _ (fun e=>hr _ (e ▸ h1) _ rfl) h1,h2⟩
 | .rptr q sz i j,v,h=>by
  simp only[RV]at h
  simp only[sb]
  by_cases e:q=r
  ·subst e
   simp[RV]
  ·simp only[beq_eq_false_iff_ne.2 e,cond_false,RV]
   obtain⟨B,l,c,h1,h2⟩:=h
   exact⟨B,l,c,hθ _ _ e h1,h2⟩
 | .ip p cs,v,h=>by
  have hp:pureB (.ip p cs)=true:=by simp only[RV]at h;simpa [pureB] using h.1
  simpa [sb] using RV_pure (θ:=θ) (θ':=θ') hI hc _ v hp h
 | .nilp,_,h=>by simpa [RV,sb] using h
 | .fn f a b,v,h=>by
  simp only[RV,sb]at h ⊢
  obtain⟨x,y',e,h1,h2⟩:=h
  exact⟨x,y',e,RVs_sb hI hc hθ hr hy a x h1,RVs_sb hI hc hθ hr hy b y' h2⟩
 | .nilf,_,h=>by simpa [RV,sb] using h
 | .nili,_,h=>by simpa [RV,sb] using h
 | .ub,_,h=>by simpa [RV,sb] using h
 | .rv q sz lo n,v,h=>by
  simp only[RV]at h
  simp only[sb]
  by_cases e:q=r
  ·subst e
   simp[RV]
  ·simp only[beq_eq_false_iff_ne.2 e,cond_false,RV]
   obtain⟨a,l,c,h1,h2⟩:=h
   exact⟨a,l,c,hθ _ _ e h1,h2⟩
 | .mv q es,v,h=>by
  have hp:pureB (.mv q es)=true:=by simp only[RV]at h;simpa [pureB] using h.1
  simpa [sb] using RV_pure (θ:=θ) (θ':=θ') hI hc _ v hp h
theorem RVs_sb{r:Nat}(hI:∀ a,I a->I' a)(hc:∀ a,I a->Same w' w a)(hθ:∀ q v,q≠r->θ q=some v->θ' q=some v)
  (hr:∀ v,θ r=some v->∀ p,v≠.pointer p) {y:AV} (hy:∀ v,θ r=some v->RV I' θ' w' y v) :
  ∀(xs:List AV) (vs:List Value),RVs I θ w xs vs->RVs I' θ' w' (sbL r y xs) vs
 | [],_,h=>by simpa [RVs,sbL] using h
 | c::cs,vs,h=>by
  simp only[RVs,sbL]at h ⊢
  obtain⟨v,s,e,h1,h2⟩:=h
  exact⟨v,s,e,RV_sb hI hc hθ hr hy c v h1,RVs_sb hI hc hθ hr hy cs s h2⟩
end
end
end Go.Ab
