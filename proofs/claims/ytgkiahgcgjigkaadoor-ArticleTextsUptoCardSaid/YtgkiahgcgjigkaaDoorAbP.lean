/- A part of the proof: AbP. -/
import Derived.Test.YtgkiahgcgjigkaaDoorAbJ
set_option linter.all false
set_option linter.unusedVariables false
namespace Go.Ab
open Go.RowKit
def Wk(x y:AV):Prop:=∀(I:Addr->Prop) (θ:Nat->Option Value) (w:World) (v:Value),RV I θ w x v->RV I θ w y v
def WkL(x y:List AV):Prop:=∀(I:Addr->Prop) (θ:Nat->Option Value) (w:World) (v:List Value),RVs I θ w x v->RVs I θ w y v
def noθ:Nat->Option Value:=fun _=>none
mutual
inductive LE:AV->AV->Prop
 | refl (x:AV):LE x x
 | u (x:AV):LE x .u
 | nils (sz:Nat):LE .nils (.sl false sz [])
 | emp (t:Bool) (sz sz':Nat):LE (.sl t sz []) (.sl false sz' [])
 | tight (t:Bool) (sz:Nat) (els:List (List AV)):LE (.sl t sz els) (.sl false sz els)
 | els (t:Bool) (sz:Nat) (els els':List (List AV)) (h:LEE els els') (hp:pureE els'=true):LE (.sl t sz els) (.sl false sz els')
 | agg (cs ds:List AV) (h:LEL cs ds):LE (.agg cs) (.agg ds)
 | tup (cs ds:List AV) (h:LEL cs ds):LE (.tup cs) (.tup ds)
 | ip (p q:Bool) (cs ds:List AV) (h:LEL cs ds) (hp:pureL ds=true) (hq:q=true->p=true):LE (.ip p cs) (.ip q ds)
 | fn (f:Fn) (a a' b b':List AV) (ha:LEL a a') (hb:LEL b b'):LE (.fn f a b) (.fn f a' b')
inductive LEL:List AV->List AV->Prop
 | nil:LEL [] []
 | cons (x y:AV) (xs ys:List AV) (h:LE x y) (hs:LEL xs ys):LEL (x::xs) (y::ys)
inductive LEE:List (List AV)->List (List AV)->Prop
 | nil:LEE [] []
 | cons (x y:List AV) (xs ys:List (List AV)) (h:LEL x y) (hs:LEE xs ys):LEE (x::xs) (y::ys)
end
theorem LEL.rfl':∀(xs:List AV),LEL xs xs
 | []=>.nil
 | x::xs=>.cons x x xs xs (.refl x) (LEL.rfl' xs)
theorem LEL_length:∀ {xs ys:List AV},LEL xs ys->xs.length=ys.length
 | _,_,.nil=>rfl
 | _,_,.cons _ _ xs ys _ hs=>by simp[LEL_length hs]
theorem LEE_length:∀ {xs ys:List (List AV)},LEE xs ys->xs.length=ys.length
 | _,_,.nil=>rfl
 | _,_,.cons _ _ xs ys _ hs=>by simp[LEE_length hs]
theorem LEE_len{sz:Nat}:∀ {xs ys:List (List AV)},LEE xs ys->(∀ el∈xs,el.length=sz)->∀ el∈ys,el.length=sz
 | _,_,.nil,_,el,h=>by simp at h
 | _,_,.cons x y xs ys h hs,hl,el,he=>by
  rcases List.mem_cons.1 he with e|e
  ·subst e;rw[<-LEL_length h];exact hl x (List.mem_cons_self ..)
  ·exact LEE_len hs (fun e he=>hl e (List.mem_cons_of_mem _ he)) el e
section
variable {I:Addr->Prop} {θ:Nat->Option Value} {w:World}
mutual
theorem LE.rv:∀ {x y:AV},LE x y->∀ {v:Value},RV I θ w x v->RV I θ w y v
 | _,_,.refl _,v,h=>h
 | _,_,.u _,v,h=>by simp[RV]
 | _,_,.nils sz,v,h=>by
  simp only[RV]at h ⊢
  exact⟨by simp[pureE],none,0,by simpa using h,by simp,by simp,by simp,by simp,by simp⟩
 | _,_,.emp t sz sz',v,h=>by
  simp only[RV]at h ⊢
  obtain⟨h0,a,cap,h1,h2,h3,h4,h5,h6⟩:=h
  exact⟨h0,a,cap,h1,h2,h3,h4,by simp,by simp⟩
 | _,_,.tight t sz els,v,h=>by
  simp only[RV]at h ⊢
  obtain⟨h0,a,cap,h1,h2,h3,h4,h5,h6⟩:=h
  exact⟨h0,a,cap,h1,h2,h3,h4,by simp,h6⟩
 | _,_,.els t sz els els' hl hp,v,h=>by
  simp only[RV]at h ⊢
  obtain⟨h0,a,cap,h1,h2,h3,h4,h5,h6⟩:=h
  have hlen:=LEE_length hl
  refine⟨hp,a,cap,by rw[<-hlen];exact h1,by rw[<-hlen];exact h2,h3,by rw[<-hlen];exact h4,by simp,fun hne=>?_⟩
  obtain⟨k1,k2,B,o,k3,k4⟩:=h6 (by intro e;subst e;cases hl;exact hne rfl)
  exact⟨k1,LEE_len hl k2,B,o,k3,LEE.rv hl k4⟩
 | _,_,.agg cs ds hl,v,h=>by
  simp only[RV]at h ⊢
  obtain⟨vs,e,h0,h1⟩:=h
  exact⟨vs,e,h0,LEL.rvs hl h1⟩
 | _,_,.tup cs ds hl,v,h=>by
  simp only[RV]at h ⊢
  obtain⟨vs,e,h1⟩:=h
  exact⟨vs,e,LEL.rvs hl h1⟩
 | _,_,.ip p q cs ds hl hp hq,v,h=>by
  simp only[RV]at h ⊢
  obtain⟨_,B,o,e,h1,h2⟩:=h
  exact⟨hp,B,o,e,LEL.rvc hl h1,fun k=>h2 (hq k)⟩
 | _,_,.fn f a a' b b' ha hb,v,h=>by
  simp only[RV]at h ⊢
  obtain⟨x,y,e,h1,h2⟩:=h
  exact⟨x,y,e,LEL.rvs ha h1,LEL.rvs hb h2⟩
theorem LEL.rvs:∀ {xs ys:List AV},LEL xs ys->∀ {v:List Value},RVs I θ w xs v->RVs I θ w ys v
 | _,_,.nil,v,h=>h
 | _,_,.cons x y xs ys hx hs,v,h=>by
  simp only[RVs]at h ⊢
  obtain⟨u,r,e,h1,h2⟩:=h
  exact⟨u,r,e,LE.rv hx h1,LEL.rvs hs h2⟩
theorem LEL.rvc:∀ {xs ys:List AV},LEL xs ys->∀ {B o:Nat},RVc I θ w xs B o->RVc I θ w ys B o
 | _,_,.nil,B,o,h=>h
 | _,_,.cons x y xs ys hx hs,B,o,h=>by
  simp only[RVc]at h ⊢
  obtain⟨⟨h1,v,h2,h3,h4⟩,h5⟩:=h
  exact⟨⟨h1,v,h2,h3,LE.rv hx h4⟩,LEL.rvc hs h5⟩
theorem LEE.rv:∀ {xs ys:List (List AV)},LEE xs ys->∀ {B o:Nat},RVe I θ w xs B o->RVe I θ w ys B o
 | _,_,.nil,B,o,h=>h
 | _,_,.cons x y xs ys hx hs,B,o,h=>by
  simp only[RVe]at h ⊢
  exact⟨LEL.rvc hx h.1,by rw[<-LEL_length hx];exact LEE.rv hs h.2⟩
end
end
theorem LE.wk{x y:AV}(h:LE x y):Wk x y:=fun _ _ _ _ hv=>h.rv hv
theorem LEL.wk{x y:List AV}(h:LEL x y):WkL x y:=fun _ _ _ _ hv=>h.rvs hv
theorem WkL.rfl'(x:List AV):WkL x x:=fun _ _ _ _ h=>h
mutual
inductive FZ(H:List AB):AV->AV->Prop
 | le (x y:AV) (h:LE x y) (hp:pureB x=true):FZ H x y
 | agg (cs ds:List AV) (h:FZL H cs ds):FZ H (.agg cs) (.agg ds)
 | tup (cs ds:List AV) (h:FZL H cs ds):FZ H (.tup cs) (.tup ds)
 | row (r:Nat) (e:TypeId) (sz:Nat) (els els':List (List AV)) (hr:H[r]? = some (.row e sz els)) (hl:els.length=els'.length) (hz:∀ el∈els',el.length=sz) (h:FZL H els.flatten els'.flatten) (hp:pureE els'=true):FZ H (.row r) (.sl false sz els')
 | ptr (p:Bool) (r j:Nat) (t:TypeId) (cs ds:List AV) (hr:H[r]? = some (.box t cs)) (h:FZL H (cs.drop j) ds) (hp:pureL ds=true) (hj:p=true->j=0):FZ H (.ptr r j) (.ip p ds)
 | map (r:Nat) (q:Option IntKind) (es:List (List AV)) (hr:H[r]? = some (.map q es)):FZ H (.row r) (.mv q es)
inductive FZL(H:List AB):List AV->List AV->Prop
 | nil:FZL H [] []
 | cons (x y:AV) (xs ys:List AV) (h:FZ H x y) (hs:FZL H xs ys):FZL H (x::xs) (y::ys)
end
inductive FZE(H:List AB):List (List AV)->List (List AV)->Prop
 | nil:FZE H [] []
 | cons (x y:List AV) (xs ys:List (List AV)) (h:FZL H x y) (hs:FZE H xs ys):FZE H (x::xs) (y::ys)
theorem FZL.pure'{H:List AB}:∀ {xs:List AV},pureL xs=true->FZL H xs xs
 | [],_=>.nil
 | x::xs,h=>by
  simp only[pureL,Bool.and_eq_true]at h
  exact .cons x x xs xs (.le x x (.refl x) h.1) (FZL.pure' h.2)
theorem FZE.pure'{H:List AB}:∀ {xs:List (List AV)},pureE xs=true->FZE H xs xs
 | [],_=>.nil
 | x::xs,h=>by
  simp only[pureE,Bool.and_eq_true]at h
  exact .cons x x xs xs (FZL.pure' h.1) (FZE.pure' h.2)
theorem FZL_append{H:List AB}:∀ {xs ys xs' ys':List AV},FZL H xs ys->FZL H xs' ys'->FZL H (xs++xs') (ys++ys')
 | _,_,_,_,.nil,h=>h
 | _,_,_,_,.cons x y xs ys hx hs,h=>.cons x y _ _ hx (FZL_append hs h)
theorem FZ.rowp{H:List AB}{r:Nat}{e:TypeId}{sz:Nat}{els:List (List AV)}(hr:H[r]? = some (.row e sz els))(hz:∀ el∈els,el.length=sz)(hp:pureE els=true):FZ H (.row r) (.sl false sz els):=
 .row r e sz els els hr rfl hz (FZL.pure' (pureE_flatten hp)) hp
section
variable {Γ : Ctx} {I:Addr->Prop} {θ:Nat->Option Value} {H:List AB} {w:World}
def Iall(Γ : Ctx)(I:Addr->Prop)(w:World):Addr->Prop:=fun a=>I a\/(Γ.own a.block/\a.block<w.heap.size)
mutual
theorem FZ.rv(S:Sim Γ I θ H w):∀ {x y:AV},FZ H x y->∀ {v:Value},RV I θ w x v->RV (Iall Γ I w) noθ w y v
 | _,_,.le x y h hp,v,hv=>h.rv (RV_pure (fun _ h=>.inl h) (fun _ _=>Same.refl _ _) x v hp hv)
 | _,_,.agg cs ds h,v,hv=>by
  simp only[RV]at hv ⊢
  obtain⟨vs,e,h0,h1⟩:=hv
  exact⟨vs,e,h0,FZL.rvs S h h1⟩
 | _,_,.tup cs ds h,v,hv=>by
  simp only[RV]at hv ⊢
  obtain⟨vs,e,h1⟩:=hv
  exact⟨vs,e,FZL.rvs S h h1⟩
 | _,_,.row r e sz els els' hr hlen hz h hp,v,hv=>by
  simp only[RV]at hv
  obtain⟨v',xs,k1,k2,k3,k4,k5,k6,k7⟩:=S.row r e sz els hr
  obtain rfl:v'=v:=by rw[hv.1]at k1;exact(Option.some.inj k1).symm
  have k1':=k1
  refine sl_of_owns (by rw[<-hlen];exact k2) (FZL.rvs S h k4) k3 hz k6 (by rw[<-hlen];exact k7) hp (fun g hg j=>.inr ⟨?_,?_⟩)
  ·exact S.own r g ⟨⟨_,hr,rfl⟩,v',k1',own_blk (own_slice' k2) hg⟩
  ·exact(k2.lt g hg).2
 | _,_,.ptr p r j t cs ds hr h hp hj,v,hv=>by
  simp only[RV]at hv ⊢
  obtain⟨B,e1,rfl⟩:=hv
  obtain⟨B',c,h1,h2,h3,h4,h5⟩:=S.box r t cs hr
  obtain rfl:B=B':=by rw[e1]at h1;simpa using h1
  have hown : Γ.own B:=S.own r B ⟨⟨_,hr,rfl⟩,_,e1,rfl⟩
  have hlt:=(Array.getElem?_eq_some_iff.1 h3).1
  refine⟨hp,B,j,rfl,?_,fun q=>⟨hj q,.inr ⟨hown,hlt⟩,c,t,h3⟩⟩
  have hds:=FZL.rvs S h (RVs_drop h5 j)
  have one:∀(ds:List AV) (us:List Value) (o':Nat),RVs (Iall Γ I w) noθ w ds us->(∀ u∈us,u.oneCell'=true)->(∀ i u,us[i]? = some u->w.cell? ⟨B,o'+i,none⟩=some u)->RVc (Iall Γ I w) noθ w ds B o':=by
   intro ds
   induction ds with
   | nil=>intro us o' _ _ _;simp[RVc]
   | cons c cs ih =>
    intro us o' h h1 h2
    simp only[RVs]at h
    obtain⟨u,r,rfl,k1,k2⟩:=h
    simp only[RVc]
    refine⟨⟨.inr ⟨hown,hlt⟩,u,h2 0 u rfl,h1 u (List.mem_cons_self ..),k1⟩,ih r (o'+1) k2 (fun x hx=>h1 x (List.mem_cons_of_mem _ hx)) (fun i x hi=>?_)⟩
    have:=h2 (i+1) x (by simpa using hi)
    rwa [Nat.add_assoc,Nat.add_comm 1 i]
  refine one ds _ j hds (fun u hu=>h4 u (List.mem_of_mem_drop hu)) (fun i u hi=>?_)
  rw[List.getElem?_drop]at hi
  simp only[World.cell?,h3,Option.isSome_none,Bool.false_eq_true,if_false]
  simpa using hi
 | _,_,.map r q es hr,v,hv=>by
  simp only[RV]at hv ⊢
  obtain⟨B,ents,c,h1,h2,h3,h4,h5,h6⟩:=S.map r q es hr
  rw[h1]at hv
  have hown : Γ.own B:=S.own r B ⟨⟨_,hr,rfl⟩,_,h1,rfl⟩
  exact⟨h3,h4,h5,.inr ⟨B,ents,c,(Option.some.inj hv.1).symm,.inr ⟨hown,(Array.getElem?_eq_some_iff.1 h2).1⟩,h2,RVm_pure (fun _ h=>.inl h) (fun _ _=>Same.refl _ _) _ _ h3 h6⟩⟩
theorem FZL.rvs(S:Sim Γ I θ H w):∀ {xs ys:List AV},FZL H xs ys->∀ {v:List Value},RVs I θ w xs v->RVs (Iall Γ I w) noθ w ys v
 | _,_,.nil,v,h=>by simpa [RVs] using h
 | _,_,.cons x y xs ys hx hs,v,h=>by
  simp only[RVs]at h ⊢
  obtain⟨u,r,e,h1,h2⟩:=h
  exact⟨u,r,e,FZ.rv S hx h1,FZL.rvs S hs h2⟩
end
end
end Go.Ab
