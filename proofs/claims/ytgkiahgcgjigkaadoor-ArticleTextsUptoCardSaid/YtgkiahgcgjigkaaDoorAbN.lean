/- A part of the proof: AbN. -/
import Derived.Test.YtgkiahgcgjigkaaDoorAbM
set_option linter.all false
set_option linter.unusedVariables false
set_option linter.unusedSimpArgs false
namespace Go.Ab
open Go.RowKit
def Eqv(st st':AS):Prop:=st.H=st'.H/\∀ t,lk st.T t=lk st'.T t
def UpTo(Q:AS->Prop)(st:AS):Prop:=∃ st',Eqv st' st/\Q st'
theorem Eqv.refl(st:AS):Eqv st st:=⟨rfl,fun _=>rfl⟩
theorem Eqv.symm{a b:AS}(h:Eqv a b):Eqv b a:=⟨h.1.symm,fun t=>(h.2 t).symm⟩
theorem Eqv.trans{a b c:AS}(h:Eqv a b)(k:Eqv b c):Eqv a c:=⟨h.1.trans k.1,fun t=>(h.2 t).trans (k.2 t)⟩
theorem Eqv.ev{a b:AS}(h:Eqv a b):a.ev=b.ev:=by
 funext x
 cases x with
 | t n=>exact h.2 n
 | c v=>rfl
theorem Eqv.put{a b:AS}(h:Eqv a b)(d:Option Nat)(v:AV):Eqv (put a d v) (put b d v):=by
 cases d with
 | none=>exact h
 | some k =>
  refine⟨h.1,fun t=>?_⟩
  simp only[Go.Ab.put,lk,h.2 t]
theorem eqv_put{Ta Tb:List (Nat×AV)}{H:List AB}(d:Option Nat)(v:AV)(h:∀ t,lk Ta t=lk Tb t):Eqv (put ⟨Ta,H⟩ d v) (put ⟨Tb,H⟩ d v):=Eqv.put (a:=⟨Ta,H⟩) (b:=⟨Tb,H⟩) ⟨rfl,h⟩ d v
theorem lk_sbT{r:Nat}{y:AV}:∀(T:List (Nat×AV)) (n:Nat),lk (sbT r y T) n=sb r y (lk T n)
 | [],n=>rfl
 | (k,v)::l,n=>by
  simp only[sbT,lk,lk_sbT l n]
  cases n == k<;>rfl
theorem sv_congr0{a b s:AS}{d:Option Nat}{k:K}(h:Eqv a b)(hk:∀ p n x,k≠.stb p n x/\k≠.ste p n x)(hs:sv a d k=some s):∃ s',sv b d k=some s'/\Eqv s s':=by
 have he:=h.ev
 have hH:=h.1
 obtain⟨Ta,Ha⟩:=a
 obtain⟨Tb,Hb⟩:=b
 simp only at hH
 subst hH
 have putH:∀(H:List AB) (v:AV),Eqv (put ⟨Ta,H⟩ d v) (put ⟨Tb,H⟩ d v):=fun H v=>Eqv.put (a:=⟨Ta,H⟩) (b:=⟨Tb,H⟩) ⟨rfl,h.2⟩ d v
 cases k
 case bxm t x =>
  simp only[sv,<-he]at hs ⊢
  cases hb:boxB (AS.ev ⟨Ta,Ha⟩ x)<;>rw[hb]at hs
  ·simp at hs
  ·simp only[cond_true,Option.some.injEq]at hs ⊢
   subst hs
   exact⟨_,rfl,putH _ _⟩
 case alm t cs =>
  simp only[sv,Option.some.injEq]at hs ⊢
  subst hs
  exact⟨_,rfl,putH _ _⟩
 case stb p n x=>exact absurd rfl (hk p n x).1
 case ste p n x=>exact absurd rfl (hk p n x).2
 case st p n x =>
  simp only[sv,<-he]at hs ⊢
  cases hb:((cellsOf (AS.ev ⟨Ta,Ha⟩ x)).length == n && boxB (AS.ev ⟨Ta,Ha⟩ x))<;>rw[hb]at hs
  ·simp at hs
  ·simp only[cond_true]at hs ⊢
   cases hp:AS.ev ⟨Ta,Ha⟩ p<;>rw[hp]at hs<;>simp only[reduceCtorEq]at hs ⊢
   case ptr r j =>
    cases hr:Ha[r]? with
    | none=>rw[hr]at hs;simp at hs
    | some ab =>
     rw[hr]at hs
     cases ab<;>simp only[reduceCtorEq]at hs ⊢
     split at hs
     ·rename_i hc
      rw[if_pos hc]
      obtain rfl:=Option.some.inj hs
      exact⟨_,rfl,rfl,h.2⟩
     ·cases hs
   case rptr r sz i j =>
    cases hr:Ha[r]? with
    | none=>rw[hr]at hs;simp at hs
    | some ab =>
     rw[hr]at hs
     cases ab<;>simp only[reduceCtorEq]at hs ⊢
     rename_i e sz' els
     cases hz:sz == sz'<;>rw[hz]at hs<;>simp only[cond_true,cond_false,reduceCtorEq]at hs ⊢
     cases hi:els[i]? with
     | none=>rw[hi]at hs;simp at hs
     | some el =>
      rw[hi]at hs
      simp only at hs ⊢
      split at hs
      ·rename_i hc
       rw[if_pos hc]
       obtain rfl:=Option.some.inj hs
       exact⟨_,rfl,rfl,h.2⟩
      ·cases hs
 case mks e sz zero x =>
  simp only[sv,<-he]at hs ⊢
  split at hs
  ·rename_i k n hx
   split at hs
   ·rename_i hc
    simp only[hx,if_pos hc]at hs ⊢
    obtain rfl:=Option.some.inj hs
    exact⟨_,rfl,putH _ _⟩
   ·cases hs
  ·cases hs
 case apz e sz zero x y =>
  simp only[sv,<-he]at hs ⊢
  split at hs
  ·rename_i k n hx hy
   split at hs
   ·rename_i hc
    simp only[hx,hy,if_pos hc]at hs ⊢
    obtain rfl:=Option.some.inj hs
    exact⟨_,rfl,putH _ _⟩
   ·cases hs
  ·cases hs
 case mkc e sz x =>
  simp only[sv,<-he]at hs ⊢
  split at hs
  ·rename_i k n hx
   split at hs
   ·rename_i hc
    simp only[hx,if_pos hc]at hs ⊢
    obtain rfl:=Option.some.inj hs
    exact⟨_,rfl,putH _ _⟩
   ·cases hs
  ·cases hs
 case bsr e sz =>
  simp only[sv]at hs ⊢
  obtain rfl:=Option.some.inj hs
  exact⟨_,rfl,Eqv.put (a:=⟨Ta,Ha++[.row e sz []]⟩) (b:=⟨Tb,Ha++[.row e sz []]⟩) ⟨rfl,h.2⟩ d _⟩
 case mkm q =>
  simp only[sv]at hs ⊢
  obtain rfl:=Option.some.inj hs
  exact⟨_,rfl,Eqv.put (a:=⟨Ta,Ha++[.map q []]⟩) (b:=⟨Tb,Ha++[.map q []]⟩) ⟨rfl,h.2⟩ d _⟩
 case mup q m k v =>
  simp only[sv,<-he]at hs ⊢
  split at hs
  ·rename_i r hm
   split at hs
   ·rename_i q' es hr
    cases hc:(q == q' && keyOk q (AS.ev ⟨Ta,Ha⟩ k) && pureB (AS.ev ⟨Ta,Ha⟩ v) && boxB (AS.ev ⟨Ta,Ha⟩ v))<;>rw[hc]at hs
    ·cases hs
    simp only[cond_true]at hs
    split at hs
    ·rename_i hl
     simp only[hm,hr,hc,cond_true,if_pos hl]
     obtain rfl:=Option.some.inj hs
     exact⟨_,rfl,putH _ _⟩
    ·cases hs
   ·cases hs
  ·cases hs
 case clr sz zero x =>
  simp only[sv,<-he]at hs ⊢
  split at hs
  ·rename_i r sz' lo n hx
   split at hs
   ·rename_i e szr els hr
    split at hs
    ·rename_i hc
     simp only[hx,hr,if_pos hc]
     obtain rfl:=Option.some.inj hs
     exact⟨_,rfl,Eqv.put (a:=⟨Ta,Ha.set r (.row e szr (els.take lo++List.replicate n zero++els.drop (lo+n)))⟩) (b:=⟨Tb,Ha.set r (.row e szr (els.take lo++List.replicate n zero++els.drop (lo+n)))⟩) ⟨rfl,h.2⟩ d _⟩
    ·cases hs
   ·cases hs
  ·cases hs
 case apv e sz p x =>
  simp only[sv,<-he]at hs ⊢
  split at hs
  ·rename_i r sz1 i q sz2 j m hp hx
   split at hs
   ·rename_i e' szr els hr
    split at hs
    ·rename_i hc
     simp only[hp,hx,hr,if_pos hc]
     obtain rfl:=Option.some.inj hs
     exact⟨_,rfl,Eqv.put (a:=⟨Ta,Ha.set r (.row e szr (els.take i++(els.drop j).take m++els.drop (i+m)))⟩) (b:=⟨Tb,Ha.set r (.row e szr (els.take i++(els.drop j).take m++els.drop (i+m)))⟩) ⟨rfl,h.2⟩ d _⟩
    ·cases hs
   ·cases hs
  ·cases hs
 case app e sz p x =>
  simp only[sv,<-he]at hs ⊢
  split at hs
  ·rename_i t2 sz' els2 hx
   split at hs
   ·rename_i hp
    split at hs
    ·rename_i hc
     simp only[hx,hp,if_pos hc]
     obtain rfl:=Option.some.inj hs
     exact⟨_,rfl,putH _ _⟩
    ·cases hs
   ·rename_i sz'' els hp
    split at hs
    ·rename_i hc
     simp only[hx,hp,if_pos hc]
     obtain rfl:=Option.some.inj hs
     exact⟨_,rfl,putH _ _⟩
    ·cases hs
   ·rename_i r hp
    split at hs
    ·rename_i e' szr els hr
     split at hs
     ·rename_i hc
      simp only[hx,hp,hr,if_pos hc]
      obtain rfl:=Option.some.inj hs
      refine⟨_,rfl,Eqv.put (a:=⟨sbT r .u Ta,(sbH r .u Ha).set r (.row e sz (sbE r .u els++els2))⟩) (b:=⟨sbT r .u Tb,(sbH r .u Ha).set r (.row e sz (sbE r .u els++els2))⟩) ⟨rfl,fun t=>?_⟩ d _⟩
      have:=h.2 t
      simp only at this
      simp only[lk_sbT,this]
     ·cases hs
    ·cases hs
   ·cases hs
  ·cases hs
 all_goals
  simp only[sv]at hs ⊢
  rw[<-he]
  obtain⟨v,hv,rfl⟩:=Option.map_eq_some_iff.1 hs
  exact⟨put ⟨Tb,Ha⟩ d v,by rw[hv];rfl,putH Ha v⟩
theorem sv_congr{a b s:AS}{d:Option Nat}{k:K}(h:Eqv a b)(hs:sv a d k=some s):∃ s',sv b d k=some s'/\Eqv s s':=by
 cases k
 case stb p n x =>
  obtain⟨⟨r,j,e⟩,h1⟩:=stb_of hs
  rw[h.ev]at e
  rw[of_stb e]
  exact sv_congr0 h (fun _ _ _=>⟨by simp,by simp⟩) h1
 case ste p n x =>
  obtain⟨⟨r,sz,i,j,e⟩,h1⟩:=ste_of hs
  rw[h.ev]at e
  rw[of_ste e]
  exact sv_congr0 h (fun _ _ _=>⟨by simp,by simp⟩) h1
 all_goals exact sv_congr0 h (fun _ _ _=>⟨by simp,by simp⟩) hs
variable {P:Program}
theorem Good.congr{Γ : Ctx}{N:Nat}{st st':AS}{a:Act}{w:World}(G:Good Γ N st a w)(e:Eqv st st'):Good Γ N st' a w:=by
 obtain⟨I,θ,S,hR⟩:=G.ex
 exact⟨⟨I,θ,e.1 ▸ S,fun n=>by rw[<-e.2 n];exact hR n⟩,G.size,G.defers⟩
theorem wp1_congr:∀ {so:SOp} {a b:AS} {Q Q':AS->Prop},wp1 P so a Q->Eqv a b->(∀ s s',Eqv s s'->Q s->Q' s')->wp1 P so b Q'
 | .op d k,a,b,Q,Q',h,e,hq=>by
  simp only[wp1]at h ⊢
  cases hs:sv a d k with
  | none=>rw[hs]at h;exact h.elim
  | some s =>
   rw[hs]at h
   obtain⟨s',h1,h2⟩:=sv_congr e hs
   rw[h1]
   exact hq _ _ h2 h
 | .call d c args,a,b,Q,Q',h,e,hq=>by
  simp only[wp1,e.ev]at h ⊢
  obtain⟨g,first,caps,as,y,h1,h2,h3,h4,h5⟩:=h
  exact⟨g,first,caps,as,y,h1,h2,h3,h4,hq _ _ (e.put d y) h5⟩
 | .callr d c args,a,b,Q,Q',h,e,hq=>by
  simp only[wp1]at h ⊢
  rcases h with h|h
  ·left
   simp only[e.ev,e.1]at h ⊢
   obtain⟨g,first,caps,as,Hr,y,h1,h2,h3,h5⟩:=h
   exact⟨g,first,caps,as,Hr,y,h1,h2,h3,hq _ _ (eqv_put d _ e.2) h5⟩
  ·right
   simp only[e.ev]at h
   obtain⟨g,first,caps,as,sel,pins,Hin,Hout,extra,y,h1,h2,h3,h4,h5⟩:=h
   have e':Eqv (backS sel pins Hout extra a) (backS sel pins Hout extra b):=⟨by simp only[backS,e.1],fun t=>by simp only[backS,rnT_lk,e.2 t]⟩
   rw[e.1]at h2 h5
   exact⟨g,first,caps,as,sel,pins,Hin,Hout,extra,y,h1,h2,h3,h4,hq _ _ (e'.put d _) h5⟩
 | .callo d c args,a,b,Q,Q',h,e,hq=>by
  simp only[wp1]at h ⊢
  simp only[e.ev]at h
  obtain⟨g,first,caps,as,extra,y,h1,h3,h4,h5⟩:=h
  have e':Eqv (backS [] [] [] extra a) (backS [] [] [] extra b):=⟨by simp only[backS,e.1],fun t=>by simp only[backS,rnT_lk,e.2 t]⟩
  rw[e.1]at h5
  exact⟨g,first,caps,as,extra,y,h1,h3,h4,hq _ _ (e'.put d _) h5⟩
 | .gd g w d o,a,b,Q,Q',h,e,hq=>by
  simp only[wp1,<-e.2 g]at h ⊢
  rcases h with⟨hx,h⟩|⟨hx,h⟩
  ·exact .inl ⟨hx,wp1_congr h e hq⟩
  ·exact .inr ⟨hx,hq _ _ (e.put d (.tup [])) h⟩
 | .wk o,a,b,Q,Q',h,e,hq=>by
  obtain⟨s,h1,h2⟩:=h
  exact⟨s,fun Γ N x w G=>h1 Γ N x w (Good.congr G e.symm),wp1_congr h2 (.refl _) hq⟩
theorem wp1_mono{so:SOp}{a:AS}{Q Q':AS->Prop}(h:wp1 P so a Q)(hq:∀ s,Q s->Q' s):wp1 P so a Q':=by
 have:∀ {so:SOp} {a:AS} {Q Q':AS->Prop},wp1 P so a Q->(∀ s,Q s->Q' s)->wp1 P so a Q':=by
  intro so
  induction so with
  | op d k =>
   intro a Q Q' h hq
   simp only[wp1]at h ⊢
   cases hs:sv a d k with
   | none=>rw[hs]at h;exact h.elim
   | some s=>rw[hs]at h;exact hq _ h
  | call d c args =>
   intro a Q Q' h hq
   obtain⟨g,first,caps,as,y,h1,h2,h3,h4,h5⟩:=h
   exact⟨g,first,caps,as,y,h1,h2,h3,h4,hq _ h5⟩
  | callr d c args =>
   intro a Q Q' h hq
   rcases h with h|h
   ·obtain⟨g,first,caps,as,Hr,y,h1,h2,h3,h5⟩:=h
    exact .inl ⟨g,first,caps,as,Hr,y,h1,h2,h3,hq _ h5⟩
   ·obtain⟨g,first,caps,as,sel,pins,Hin,Hout,extra,y,h1,h2,h3,h4,h5⟩:=h
    exact .inr ⟨g,first,caps,as,sel,pins,Hin,Hout,extra,y,h1,h2,h3,h4,hq _ h5⟩
  | callo d c args =>
   intro a Q Q' h hq
   obtain⟨g,first,caps,as,extra,y,h1,h3,h4,h5⟩:=h
   exact⟨g,first,caps,as,extra,y,h1,h3,h4,hq _ h5⟩
  | gd g w d o ih =>
   intro a Q Q' h hq
   simp only[wp1]at h ⊢
   rcases h with⟨hx,h⟩|⟨hx,h⟩
   ·exact .inl ⟨hx,ih h hq⟩
   ·exact .inr ⟨hx,hq _ h⟩
  | wk o ih =>
   intro a Q Q' h hq
   obtain⟨s,h1,h2⟩:=h
   exact⟨s,h1,ih h2 hq⟩
 exact this h hq
def wpi(P:Program)(sos:List SOp):List Nat->AS->(AS->Prop)->Prop
 | [],st,Q=>Q st
 | i::l,st,Q=>match sos[i]? with
  | some so=>wp1 P so st (fun st'=>wpi P sos l st' Q)
  | none=>wpi P sos l st Q
theorem wpi_congr{sos:List SOp}:∀ {l:List Nat} {a b:AS} {Q Q':AS->Prop},wpi P sos l a Q->Eqv a b->(∀ s s',Eqv s s'->Q s->Q' s')->wpi P sos l b Q'
 | [],a,b,Q,Q',h,e,hq=>hq _ _ e h
 | i::l,a,b,Q,Q',h,e,hq=>by
  simp only[wpi]at h ⊢
  split at h
  ·exact wp1_congr h e (fun s s' e' h'=>wpi_congr h' e' hq)
  ·exact wpi_congr h e hq
theorem wpi_range{sos:List SOp}{Q:AS->Prop}:∀(r:List SOp) (k:Nat) {st:AS},(∀ j,r[j]? = sos[k+j]?)->wpo P r st Q->wpi P sos (List.range' k r.length) st Q
 | [],k,st,_,h=>h
 | so::r,k,st,hs,h=>by
  have h0:sos[k]? = some so:=by simpa using (hs 0).symm
  simp only[List.length_cons,List.range'_succ,wpi,h0]
  simp only[wpo]at h
  refine wp1_mono h fun s h'=>wpi_range r (k+1) (fun j=>?_) h'
  have:=hs (j+1)
  simpa [Nat.add_assoc,Nat.add_comm 1 j] using this
def disj(x y:SOp):Bool:=
 (match dstS x with
  | some t=>!((rdS y).contains t) && !(dstS y == some t)
  | none=>true) && (match dstS y with
  | some t=>!((rdS x).contains t)
  | none=>true)
def stk:K->Option (Opd×Nat×Opd)
 | .st a n z=>some (a,n,z)
 | .stb a n z=>some (a,n,z)
 | .ste a n z=>some (a,n,z)
 | _=>none
theorem stk_rd{k:K}{a z:Opd}{n:Nat}(h:stk k=some (a,n,z)):rdS (.op none k)=rdO a++rdO z:=by
 cases k<;>simp only[stk,reduceCtorEq,Option.some.injEq,Prod.mk.injEq]at h<;>obtain⟨rfl,rfl,rfl⟩:=h<;>rfl
def noLd:SOp->Bool
 | .op _ (.ld _ _ _)=>false
 | .op _ (.ldd _ _ _ _)=>false
 | .op _ _=>true
 | .call _ _ _=>true
 | .callr _ _ _=>false
 | .callo _ _ _=>false
 | .wk _=>false
 | .gd _ _ _ o=>noLd o
def noHK:K->Bool
 | .mv _ | .bx _ | .bld _ _ | .bsl _ _ | .fa _ _ | .fld _ _ _ _ | .ix _ _ | .nc _ | .bi _ _ _ | .bib _ _ _ | .un _ _ | .cvi _ _ | .cvr _ | .cvb _ | .slc _ _ _ _ _ | .slcs _ _ _ | .lens _ | .mx _ _ | .mn _ _ | .ext _ _ | .mkf _ _ _ | .ldi _ _ _=>true
 | _=>false
def inO(b:Opd)(bs:List Opd):Bool:=match b with
 | .t k=>bs.any fun
  | .t q=>q == k
  | .c _=>false
 | .c _=>false
def swB(x y:SOp):Bool:=
 disj x y && quietS x && dEq x && (quietS y && dEq y || (match y with
  | .op (some _) (.alm _ _)=>true
  | .op none k=>(stk k).isSome && noLd x
  | _=>false)) ||
 (match x,y with
  | .op (some d) (.app _ _ _ _),.op (some d') (.fa a _)=>d != d' && (match a with
   | .t n=>n != d
   | .c _=>false) && !((rdS x).contains d')
  | .op (some d) (.app _ _ _ _),.op (some d') (.ldi a _ _)=>d != d' && (match a with
   | .t n=>n != d
   | .c _=>false) && !((rdS x).contains d')
  | .callo _ _ _,.op _ k=>noHK k && quietK k && disj x y
  | .op (some d) (.bsr _ _),.op (some d') k=>noHK k && quietK k && !((rdK k).contains d) && d != d'
  | .op none (.ste _ _ _),.op none (.stb _ _ _)=>true
  | .op (some d) (.ldd a _ _ bs),.op none (.stb b _ z)=>inO b bs && !((rdO b++rdO z).contains d)
  | .op none k,_=>(stk k).isSome && (disj y x && quietS y && dEq y && noLd y)
  | _,_=>false)
theorem lk_put{st:AS}{d:Option Nat}{v:AV}{t:Nat}:lk (put st d v).T t=if d=some t then v else lk st.T t:=by
 cases d with
 | none=>simp[put]
 | some k =>
  simp only[put,lk,Option.some.injEq]
  by_cases e:t=k
  ·subst e;simp
  ·rw[beq_eq_false_iff_ne.2 e,cond_false,if_neg (fun h=>e h.symm)]
theorem put_comm{st:AS}{d d':Option Nat}{v v':AV}(h:∀ t,d=some t->d'≠some t):Eqv (put (put st d v) d' v') (put (put st d' v') d v):=by
 refine⟨by cases d<;>cases d'<;>rfl,fun t=>?_⟩
 simp only[lk_put]
 by_cases h1:d'=some t
 ·by_cases h2:d=some t
  ·exact absurd h1 (h t h2)
  ·rw[if_pos h1,if_neg h2,if_pos h1]
 ·rw[if_neg h1]
  by_cases h2:d=some t
  ·rw[if_pos h2,if_pos h2]
  ·rw[if_neg h2,if_neg h2,if_neg h1]
theorem put_H{st:AS}{d:Option Nat}{v:AV}:(put st d v).H=st.H:=by cases d<;>rfl
theorem mapOf_ext{H H':List AB}(hg:∀ {r:Nat} {b:AB},H[r]? = some b->H'[r]? = some b){x:AV}{p:Option IntKind×List (List AV)}(h:mapOf H x=some p):mapOf H' x=some p:=by
 cases x<;>simp only[mapOf,reduceCtorEq]at h ⊢
 case mv=>exact h
 case row r =>
  split at h
  ·rename_i q es hr;rw[hg hr];exact h
  ·cases h
theorem ov_ext{ρ:Opd->AV}{H X:List AB}{k:K}{y:AV}(h:ov ρ H k=some y):ov ρ (H++X) k=some y:=by
 have hg:∀ {r:Nat} {b:AB},H[r]? = some b->(H++X)[r]? = some b:=by
  intro r b hr
  rw[List.getElem?_append_left (List.getElem?_eq_some_iff.1 hr).1]
  exact hr
 cases k<;>try exact h
 case ldd a n g bs =>
  cases ha:ρ a<;>simp only[ov,ha,reduceCtorEq]at h
  rename_i r j
  simp only[ov,ha]
  revert h
  cases bs.all fun b=>othB r (ρ b)<;>intro h
  ·cases h
  ·simp only[cond_true]at h ⊢
   cases hr:H[r]? with
   | none=>rw[hr]at h;simp at h
   | some b=>rw[hg hr];rw[hr]at h;exact h
 case ld a n g =>
  cases ha:ρ a<;>simp only[ov,ha,reduceCtorEq]at h
  case ip cs=>simp only[ov,ha];exact h
  case ptr r j =>
   cases hr:H[r]? with
   | none=>rw[hr]at h;simp at h
   | some b=>simp only[ov,ha,hg hr];rw[hr]at h;exact h
  case rptr r sz i j =>
   cases hr:H[r]? with
   | none=>rw[hr]at h;simp at h
   | some b=>simp only[ov,ha,hg hr];rw[hr]at h;exact h
 case mlk q z ok m k =>
  simp only[ov]at h ⊢
  cases hm:mapOf H (ρ m)with
  | none=>rw[hm]at h;cases h
  | some p=>rw[mapOf_ext hg hm];rw[hm]at h;exact h
 case mln m =>
  simp only[ov]at h ⊢
  cases hm:mapOf H (ρ m)with
  | none=>rw[hm]at h;cases h
  | some p=>rw[mapOf_ext hg hm];rw[hm]at h;exact h
 case ia sz x ix =>
  cases hx:ρ x<;>cases hi:ρ ix<;>simp only[ov,hx,hi,reduceCtorEq]at h
  case sl.i t s els k n=>simp only[ov,hx,hi];exact h
  case rv.i=>simp only[ov,hx,hi];exact h
  case row.i r k n =>
   cases hr:H[r]? with
   | none=>rw[hr]at h;simp at h
   | some b=>simp only[ov,hx,hi,hg hr];rw[hr]at h;exact h
 case len x =>
  cases hx:ρ x<;>simp only[ov,hx,reduceCtorEq]at h
  case sl t s els=>simp only[ov,hx];exact h
  case nils=>simp only[ov,hx];exact h
  case rv=>simp only[ov,hx];exact h
  case row r =>
   cases hr:H[r]? with
   | none=>rw[hr]at h;simp at h
   | some b=>simp only[ov,hx,hg hr];rw[hr]at h;exact h
 case eqn ng x =>
  cases hx:ρ x<;>simp only[ov,hx,reduceCtorEq]at h
  case row r =>
   cases hr:H[r]? with
   | none=>rw[hr]at h;simp at h
   | some b=>simp only[ov,hx,hg hr];rw[hr]at h;exact h
  all_goals (simp only[ov,hx];exact h)
 case rsl sz x lo hi mx =>
  cases hx:ρ x<;>simp only[ov,hx,reduceCtorEq]at h
  case row r =>
   cases hr:H[r]? with
   | none=>rw[hr]at h;simp at h
   | some b=>simp only[ov,hx,hg hr];rw[hr]at h;exact h
  case rv r _ _ _ =>
   cases hr:H[r]? with
   | none=>rw[hr]at h;simp at h
   | some b=>simp only[ov,hx,hg hr];rw[hr]at h;exact h
theorem OpV_ext{X:List AB}:∀ {so:SOp} {T:List (Nat×AV)} {H:List AB} {y:AV},OpV P so ⟨T,H⟩ y->OpV P so ⟨T,H++X⟩ y
 | .op _ k,T,H,y,h=>ov_ext h
 | .call _ c args,T,H,y,h=>h
 | .callr _ _ _,T,H,y,h=>h.elim
 | .callo _ _ _,T,H,y,h=>h.elim
 | .wk _,T,H,y,h=>h.elim
 | .gd g w _ o,T,H,y,h=>by
  obtain⟨x,h1,h2,h3⟩:=h
  exact⟨x,h1,fun e=>OpV_ext (h2 e),h3⟩
theorem quiet_quiet{x y:SOp}{st:AS}{Q:AS->Prop}(hd:disj x y=true)(qx:quietS x=true)(ex:dEq x=true)(qy:quietS y=true)(ey:dEq y=true)
  (h:wp1 P x st (fun s=>wp1 P y s Q)):wp1 P y st (fun s=>wp1 P x s (UpTo Q)):=by
 obtain⟨v,h1,h2⟩:=wp1_opv qx ex h
 obtain⟨v2,h3,h4⟩:=wp1_opv qy ey h2
 simp only[disj,Bool.and_eq_true]at hd
 obtain⟨d1,d2⟩:=hd
 refine opv_wp1 qy ey (OpV_congr (by rw[put_H]) (fun t ht=>?_) h3) (opv_wp1 qx ex (OpV_congr (by rw[put_H]) (fun t ht=>?_) h1) ?_)
 ·rw[lk_put]
  split
  ·rename_i hx
   rw[hx]at d1
   simp only[Bool.and_eq_true,Bool.not_eq_true']at d1
   have:(rdS y).contains t=true:=by simpa using ht
   rw[this]at d1
   exact absurd d1.1 (by simp)
  ·rfl
 ·rw[lk_put]
  split
  ·rename_i hy
   rw[hy]at d2
   simp only[Bool.not_eq_true']at d2
   have:(rdS x).contains t=true:=by simpa using ht
   rw[this]at d2
   exact absurd d2 (by simp)
  ·rfl
 ·refine⟨_,put_comm (fun t hx hy=>?_),h4⟩
  rw[hx]at d1
  simp only[Bool.and_eq_true,Bool.not_eq_true',beq_eq_false_iff_ne]at d1
  exact d1.2 hy
theorem quiet_alm{x:SOp}{d':Nat}{t':TypeId}{cs:List AV}{st:AS}{Q:AS->Prop}(hd:disj x (.op (some d') (.alm t' cs))=true)(qx:quietS x=true)(ex:dEq x=true)
  (h:wp1 P x st (fun s=>wp1 P (.op (some d') (.alm t' cs)) s Q)):wp1 P (.op (some d') (.alm t' cs)) st (fun s=>wp1 P x s (UpTo Q)):=by
 obtain⟨v,h1,h2⟩:=wp1_opv qx ex h
 simp only[disj,Bool.and_eq_true]at hd
 obtain⟨d1,d2⟩:=hd
 simp only[wp1,sv,optK]at h2 ⊢
 obtain⟨T,H⟩:=st
 refine opv_wp1 qx ex (OpV_congr (st:=⟨T,H++[.box t' cs]⟩) (by rw[put_H]) (fun t ht=>?_) (OpV_ext h1)) ?_
 ·rw[lk_put]
  split
  ·rename_i hy
   have:dstS (.op (some d') (.alm t' cs))=some t:=hy
   rw[this]at d2
   simp only[Bool.not_eq_true']at d2
   have:(rdS x).contains t=true:=by simpa using ht
   rw[this]at d2
   exact absurd d2 (by simp)
  ·rfl
 ·refine⟨_,?_,h2⟩
  have hne:∀ t,dstS x=some t->(some d':Option Nat)≠some t:=by
   intro t hx hy
   rw[hx]at d1
   simp only[Bool.and_eq_true,Bool.not_eq_true',beq_eq_false_iff_ne]at d1
   exact d1.2 hy
  rw[put_H]
  refine Eqv.trans (b:=put (put ⟨T,H++[.box t' cs]⟩ (dstS x) v) (some d') (.ptr H.length 0)) ?_ (put_comm hne)
  refine Eqv.put (a:=⟨(put ⟨T,H⟩ (dstS x) v).T,H++[.box t' cs]⟩) (b:=put ⟨T,H++[.box t' cs]⟩ (dstS x) v) ⟨(put_H (st:=⟨T,H++[.box t' cs]⟩)).symm,fun t=>?_⟩ (some d') (.ptr H.length 0)
  simp only[lk_put]
def Shp(H H':List AB):Prop:=(∀(r:Nat) (e:TypeId) (sz:Nat) (els:List (List AV)),H[r]? = some (.row e sz els)->∃ els',H'[r]? = some (.row e sz els')/\els'.length=els.length) /\
 ∀(r:Nat) (q:Option IntKind) (es:List (List AV)),H[r]? = some (.map q es)->H'[r]? = some (.map q es)
theorem mapOf_to{H H':List AB}(hg:∀(r:Nat) (q:Option IntKind) (es:List (List AV)),H[r]? = some (.map q es)->H'[r]? = some (.map q es)){x:AV}{p:Option IntKind×List (List AV)}(h:mapOf H x=some p):mapOf H' x=some p:=by
 cases x<;>simp only[mapOf,reduceCtorEq]at h ⊢
 case mv=>exact h
 case row r =>
  split at h
  ·rename_i q es hr;rw[hg r q es hr];exact h
  ·cases h
theorem ov_shp{ρ:Opd->AV}{H H':List AB}(hS:Shp H H'){k:K}{y:AV}(hk:(∀ a n g,k≠.ld a n g)/\∀ a n g bs,k≠.ldd a n g bs)(h:ov ρ H k=some y):ov ρ H' k=some y:=by
 cases k<;>try exact h
 case ld a n g=>exact absurd rfl (hk.1 a n g)
 case ldd a n g bs=>exact absurd rfl (hk.2 a n g bs)
 case mlk q z ok m k =>
  simp only[ov]at h ⊢
  cases hm:mapOf H (ρ m)with
  | none=>rw[hm]at h;cases h
  | some p=>rw[mapOf_to hS.2 hm];rw[hm]at h;exact h
 case mln m =>
  simp only[ov]at h ⊢
  cases hm:mapOf H (ρ m)with
  | none=>rw[hm]at h;cases h
  | some p=>rw[mapOf_to hS.2 hm];rw[hm]at h;exact h
 case ia sz x ix =>
  cases hx:ρ x<;>cases hi:ρ ix<;>simp only[ov,hx,hi,reduceCtorEq]at h
  case sl.i t s els k n=>simp only[ov,hx,hi];exact h
  case rv.i=>simp only[ov,hx,hi];exact h
  case row.i r k n =>
   cases hr:H[r]? with
   | none=>rw[hr]at h;simp at h
   | some b =>
    rw[hr]at h
    cases b<;>simp only[reduceCtorEq]at h
    obtain⟨els',h1,h2⟩:=hS.1 _ _ _ _ hr
    simp only[ov,hx,hi,h1,h2]
    exact h
 case len x =>
  cases hx:ρ x<;>simp only[ov,hx,reduceCtorEq]at h
  case sl t s els=>simp only[ov,hx];exact h
  case nils=>simp only[ov,hx];exact h
  case rv=>simp only[ov,hx];exact h
  case row r =>
   cases hr:H[r]? with
   | none=>rw[hr]at h;simp at h
   | some b =>
    rw[hr]at h
    cases b<;>simp only[reduceCtorEq]at h
    obtain⟨els',h1,h2⟩:=hS.1 _ _ _ _ hr
    simp only[ov,hx,h1,h2]
    exact h
 case eqn ng x =>
  cases hx:ρ x<;>simp only[ov,hx,reduceCtorEq]at h
  case row r =>
   cases hr:H[r]? with
   | none=>rw[hr]at h;simp at h
   | some b =>
    rw[hr]at h
    cases b<;>simp only[reduceCtorEq]at h
    rename_i e sz els
    obtain⟨els',h1,h2⟩:=hS.1 _ _ _ _ hr
    have:els'.isEmpty=els.isEmpty:=by cases els<;>cases els'<;>simp_all
    simp only[ov,hx,h1,this]
    exact h
  all_goals (simp only[ov,hx];exact h)
 case rsl sz x lo hi mx =>
  cases hx:ρ x<;>simp only[ov,hx,reduceCtorEq]at h
  case row r =>
   cases hr:H[r]? with
   | none=>rw[hr]at h;simp at h
   | some b =>
    rw[hr]at h
    cases b<;>simp only[reduceCtorEq]at h
    obtain⟨els',h1,h2⟩:=hS.1 _ _ _ _ hr
    simp only[ov,hx,h1,h2]
    exact h
  case rv r _ _ _ =>
   cases hr:H[r]? with
   | none=>rw[hr]at h;simp at h
   | some b =>
    rw[hr]at h
    cases b<;>simp only[reduceCtorEq]at h
    obtain⟨els',h1,h2⟩:=hS.1 _ _ _ _ hr
    simp only[ov,hx,h1,h2]
    exact h
theorem OpV_shp{H H':List AB}(hS:Shp H H'):∀ {so:SOp} {T:List (Nat×AV)} {y:AV},noLd so=true->OpV P so ⟨T,H⟩ y->OpV P so ⟨T,H'⟩ y
 | .op _ k,T,y,hn,h=>ov_shp hS ⟨fun a n g e=>by(subst e;cases hn),fun a n g bs e=>by(subst e;cases hn)⟩ h
 | .call _ c args,T,y,_,h=>h
 | .callr _ _ _,T,y,_,h=>h.elim
 | .callo _ _ _,T,y,_,h=>h.elim
 | .wk _,T,y,_,h=>h.elim
 | .gd g w _ o,T,y,hn,h=>by
  obtain⟨x,h1,h2,h3⟩:=h
  exact⟨x,h1,fun e=>OpV_shp hS hn (h2 e),h3⟩
theorem Shp_box{H:List AB}{r:Nat}{t t':TypeId}{cs cs':List AV}(h:H[r]? = some (.box t cs)):Shp H (H.set r (.box t' cs')):=by
 refine⟨fun q e sz els hq=>?_,fun q k es hq=>?_⟩<;>by_cases e':r=q
 ·subst e';rw[h]at hq;cases hq
 ·exact⟨els,by rw[List.getElem?_set_ne e'];exact hq,rfl⟩
 ·subst e';rw[h]at hq;cases hq
 ·rw[List.getElem?_set_ne e'];exact hq
theorem Shp_row{H:List AB}{r:Nat}{e:TypeId}{sz:Nat}{els els':List (List AV)}(h:H[r]? = some (.row e sz els))(hl:els'.length=els.length):Shp H (H.set r (.row e sz els')):=by
 refine⟨fun q e1 sz1 els1 hq=>?_,fun q k es hq=>?_⟩<;>by_cases e':r=q
 ·subst e'
  rw[h]at hq
  cases hq
  exact⟨els',by rw[List.getElem?_set_self (List.getElem?_eq_some_iff.1 h).1],hl⟩
 ·exact⟨els1,by rw[List.getElem?_set_ne e'];exact hq,rfl⟩
 ·subst e';rw[h]at hq;cases hq
 ·rw[List.getElem?_set_ne e'];exact hq
theorem st_put{T:List (Nat×AV)}{H:List AB}{a z:Opd}{n:Nat}{s:AS}(h:sv ⟨T,H⟩ none (.st a n z)=some s) :
  ∃ H',s=⟨T,H'⟩/\Shp H H'/\∀ T',AS.ev ⟨T',H⟩ a=AS.ev ⟨T,H⟩ a->AS.ev ⟨T',H⟩ z=AS.ev ⟨T,H⟩ z->sv ⟨T',H⟩ none (.st a n z)=some ⟨T',H'⟩:=by
 simp only[sv]at h
 cases hb:((cellsOf (AS.ev ⟨T,H⟩ z)).length == n && boxB (AS.ev ⟨T,H⟩ z))<;>rw[hb]at h
 ·simp at h
 ·simp only[cond_true]at h
  cases hp:AS.ev ⟨T,H⟩ a<;>rw[hp]at h<;>simp only[reduceCtorEq]at h
  case ptr r j =>
   cases hr:H[r]? with
   | none=>rw[hr]at h;simp at h
   | some ab =>
    rw[hr]at h
    cases ab<;>simp only[reduceCtorEq]at h
    split at h
    ·rename_i hc
     obtain rfl:=Option.some.inj h
     refine⟨_,rfl,Shp_box hr,fun T' h1 h2=>?_⟩
     simp only[sv,h1,h2,hb,cond_true,hp,hr,if_pos hc]
    ·cases h
  case rptr r sz i j =>
   cases hr:H[r]? with
   | none=>rw[hr]at h;simp at h
   | some ab =>
    rw[hr]at h
    cases ab<;>simp only[reduceCtorEq]at h
    rename_i e sz' els
    cases hz:sz == sz'<;>rw[hz]at h<;>simp only[cond_true,cond_false,reduceCtorEq]at h
    cases hi:els[i]? with
    | none=>rw[hi]at h;simp at h
    | some el =>
     rw[hi]at h
     simp only at h
     split at h
     ·rename_i hc
      obtain rfl:=Option.some.inj h
      refine⟨_,rfl,Shp_row hr (by simp),fun T' h1 h2=>?_⟩
      simp only[sv,h1,h2,hb,cond_true,hp,hr,hz,hi,if_pos hc]
     ·cases h
theorem Shp_box'{H:List AB}{r:Nat}{t t':TypeId}{cs cs':List AV}(h:H[r]? = some (.box t cs)):Shp (H.set r (.box t' cs')) H:=by
 refine⟨fun q e sz els hq=>?_,fun q k es hq=>?_⟩<;>by_cases e':r=q
 ·subst e'
  rw[List.getElem?_set_self (List.getElem?_eq_some_iff.1 h).1]at hq
  cases hq
 ·exact⟨els,by rw[List.getElem?_set_ne e']at hq;exact hq,rfl⟩
 ·subst e'
  rw[List.getElem?_set_self (List.getElem?_eq_some_iff.1 h).1]at hq
  cases hq
 ·rw[List.getElem?_set_ne e']at hq;exact hq
theorem Shp_row'{H:List AB}{r:Nat}{e:TypeId}{sz:Nat}{els els':List (List AV)}(h:H[r]? = some (.row e sz els))(hl:els'.length=els.length):Shp (H.set r (.row e sz els')) H:=by
 refine⟨fun q e1 sz1 els1 hq=>?_,fun q k es hq=>?_⟩<;>by_cases e':r=q
 ·subst e'
  rw[List.getElem?_set_self (List.getElem?_eq_some_iff.1 h).1]at hq
  cases hq
  exact⟨els,h,hl.symm⟩
 ·exact⟨els1,by rw[List.getElem?_set_ne e']at hq;exact hq,rfl⟩
 ·subst e'
  rw[List.getElem?_set_self (List.getElem?_eq_some_iff.1 h).1]at hq
  cases hq
 ·rw[List.getElem?_set_ne e']at hq;exact hq
theorem st_shp{T:List (Nat×AV)}{H:List AB}{a z:Opd}{n:Nat}{s:AS}(h:sv ⟨T,H⟩ none (.st a n z)=some s):Shp s.H H:=by
 simp only[sv]at h
 cases hb:((cellsOf (AS.ev ⟨T,H⟩ z)).length == n && boxB (AS.ev ⟨T,H⟩ z))<;>rw[hb]at h
 ·simp at h
 ·simp only[cond_true]at h
  cases hp:AS.ev ⟨T,H⟩ a<;>rw[hp]at h<;>simp only[reduceCtorEq]at h
  case ptr r j =>
   cases hr:H[r]? with
   | none=>rw[hr]at h;simp at h
   | some ab =>
    rw[hr]at h
    cases ab<;>simp only[reduceCtorEq]at h
    split at h
    ·obtain rfl:=Option.some.inj h
     exact Shp_box' hr
    ·cases h
  case rptr r sz i j =>
   cases hr:H[r]? with
   | none=>rw[hr]at h;simp at h
   | some ab =>
    rw[hr]at h
    cases ab<;>simp only[reduceCtorEq]at h
    rename_i e sz' els
    cases hz:sz == sz'<;>rw[hz]at h<;>simp only[cond_true,cond_false,reduceCtorEq]at h
    cases hi:els[i]? with
    | none=>rw[hi]at h;simp at h
    | some el =>
     rw[hi]at h
     simp only at h
     split at h
     ·obtain rfl:=Option.some.inj h
      exact Shp_row' hr (by simp)
     ·cases h
theorem st_putK{T:List (Nat×AV)}{H:List AB}{k:K}{a z:Opd}{n:Nat}{s:AS}(hk:stk k=some (a,n,z))(h:sv ⟨T,H⟩ none k=some s) :
  ∃ H',s=⟨T,H'⟩/\Shp H H'/\Shp H' H/\∀ T',AS.ev ⟨T',H⟩ a=AS.ev ⟨T,H⟩ a->AS.ev ⟨T',H⟩ z=AS.ev ⟨T,H⟩ z->sv ⟨T',H⟩ none k=some ⟨T',H'⟩:=by
 cases k<;>simp only[stk,reduceCtorEq,Option.some.injEq,Prod.mk.injEq]at hk<;>obtain⟨rfl,rfl,rfl⟩:=hk
 ·have hS:=st_shp h
  obtain⟨H',rfl,h1,h2⟩:=st_put h
  exact⟨H',rfl,h1,hS,h2⟩
 ·obtain⟨⟨r,j,e⟩,h'⟩:=stb_of h
  have hS:=st_shp h'
  obtain⟨H',rfl,h1,h2⟩:=st_put h'
  exact⟨H',rfl,h1,hS,fun T' ha hz=>by rw[of_stb (ha.trans e)];exact h2 T' ha hz⟩
 ·obtain⟨⟨r,sz,i,j,e⟩,h'⟩:=ste_of h
  have hS:=st_shp h'
  obtain⟨H',rfl,h1,h2⟩:=st_put h'
  exact⟨H',rfl,h1,hS,fun T' ha hz=>by rw[of_ste (ha.trans e)];exact h2 T' ha hz⟩
theorem quiet_st{x:SOp}{k:K}{a z:Opd}{n:Nat}(hk:stk k=some (a,n,z)){st:AS}{Q:AS->Prop}(hd:disj x (.op none k)=true)(qx:quietS x=true)(ex:dEq x=true)(nx:noLd x=true)
  (h:wp1 P x st (fun s=>wp1 P (.op none k) s Q)):wp1 P (.op none k) st (fun s=>wp1 P x s (UpTo Q)):=by
 obtain⟨v,h1,h2⟩:=wp1_opv qx ex h
 simp only[disj,Bool.and_eq_true]at hd
 obtain⟨d1,-⟩:=hd
 obtain⟨T,H⟩:=st
 simp only[wp1]at h2 ⊢
 have hp:put ⟨T,H⟩ (dstS x) v=⟨(put ⟨T,H⟩ (dstS x) v).T,H⟩:=by cases dstS x<;>rfl
 have hrd:∀ o:Opd,(∀ t∈rdO o,t∈rdS (.op none k))->AS.ev ⟨T,H⟩ o=AS.ev ⟨(put ⟨T,H⟩ (dstS x) v).T,H⟩ o:=by
  intro o ho
  refine rdO_congr fun t ht=>?_
  simp only[lk_put]
  split
  ·rename_i hx
   rw[hx]at d1
   simp only[Bool.and_eq_true,Bool.not_eq_true']at d1
   have:(rdS (.op none k)).contains t=true:=by simpa using ho t ht
   rw[this]at d1
   exact absurd d1.1 (by simp)
  ·rfl
 cases hs:sv (put ⟨T,H⟩ (dstS x) v) none k with
 | none=>rw[hs]at h2;exact h2.elim
 | some s =>
  rw[hs]at h2
  rw[hp]at hs
  obtain⟨H',rfl,hS,_,hT⟩:=st_putK hk hs
  rw[hT T (hrd a (by intro t ht;rw[stk_rd hk];simp[ht])) (hrd z (by intro t ht;rw[stk_rd hk];simp[ht]))]
  simp only[optK]at h2 ⊢
  refine opv_wp1 qx ex (OpV_shp hS nx h1) ⟨_,?_,h2⟩
  refine⟨by cases dstS x<;>rfl,fun t=>?_⟩
  simp only[lk_put]
theorem st_quiet{x:SOp}{k:K}{a z:Opd}{n:Nat}(hk:stk k=some (a,n,z)){st:AS}{Q:AS->Prop}(hd:disj x (.op none k)=true)(qx:quietS x=true)(ex:dEq x=true)(nx:noLd x=true)
  (h:wp1 P (.op none k) st (fun s=>wp1 P x s Q)):wp1 P x st (fun s=>wp1 P (.op none k) s (UpTo Q)):=by
 obtain⟨T,H⟩:=st
 simp only[wp1]at h
 cases hs:sv ⟨T,H⟩ none k with
 | none=>rw[hs]at h;exact h.elim
 | some s =>
  rw[hs]at h
  obtain⟨H',rfl,_,hS,hT⟩:=st_putK hk hs
  obtain⟨v,h1,h2⟩:=wp1_opv qx ex h
  simp only[disj,Bool.and_eq_true]at hd
  obtain⟨d1,-⟩:=hd
  have hp:put ⟨T,H⟩ (dstS x) v=⟨(put ⟨T,H⟩ (dstS x) v).T,H⟩:=by cases dstS x<;>rfl
  have hrd:∀ o:Opd,(∀ t∈rdO o,t∈rdS (.op none k))->AS.ev ⟨(put ⟨T,H⟩ (dstS x) v).T,H⟩ o=AS.ev ⟨T,H⟩ o:=by
   intro o ho
   refine(rdO_congr fun t ht=>?_).symm
   simp only[lk_put]
   split
   ·rename_i hx
    rw[hx]at d1
    simp only[Bool.and_eq_true,Bool.not_eq_true']at d1
    have:(rdS (.op none k)).contains t=true:=by simpa using ho t ht
    rw[this]at d1
    exact absurd d1.1 (by simp)
   ·rfl
  refine opv_wp1 qx ex (OpV_shp hS nx h1) ?_
  simp only[wp1]
  rw[hp,hT _ (hrd a (by intro t ht;rw[stk_rd hk];simp[ht])) (hrd z (by intro t ht;rw[stk_rd hk];simp[ht]))]
  simp only[optK]
  refine⟨_,?_,h2⟩
  refine⟨by cases dstS x<;>rfl,fun t=>?_⟩
  simp only[lk_put]
def rowB:AB->Bool
 | .row _ _ _=>true
 | _=>false
theorem ste_form{T:List (Nat×AV)}{H:List AB}{a z:Opd}{n:Nat}{s:AS}(h:sv ⟨T,H⟩ none (.ste a n z)=some s) :
  ∃ r b b',H[r]? = some b/\rowB b'=true/\s=⟨T,H.set r b'⟩/\∀ H2:List AB,H2[r]? = some b->sv ⟨T,H2⟩ none (.ste a n z)=some ⟨T,H2.set r b'⟩:=by
 have hev:∀(H2:List AB) (o:Opd),AS.ev ⟨T,H2⟩ o=AS.ev ⟨T,H⟩ o:=fun H2 o=>by cases o<;>rfl
 obtain⟨⟨r,sz,i,j,e⟩,h⟩:=ste_of h
 have e2:∀ H2:List AB,AS.ev ⟨T,H2⟩ a=.rptr r sz i j:=fun H2=>(hev H2 a).trans e
 simp only[sv,e]at h
 cases hb:((cellsOf (AS.ev ⟨T,H⟩ z)).length == n && boxB (AS.ev ⟨T,H⟩ z))<;>rw[hb]at h
 ·simp at h
 ·simp only[cond_true]at h
  cases hr:H[r]? with
  | none=>rw[hr]at h;simp at h
  | some ab =>
   rw[hr]at h
   cases ab<;>simp only[reduceCtorEq]at h
   rename_i e' sz' els
   cases hz:sz == sz'<;>rw[hz]at h<;>simp only[cond_true,cond_false,reduceCtorEq]at h
   cases hi:els[i]? with
   | none=>rw[hi]at h;simp at h
   | some el =>
    rw[hi]at h
    simp only at h
    split at h
    ·rename_i hc
     obtain rfl:=Option.some.inj h
     refine⟨r,_,_,hr,rfl,rfl,fun H2 h2=>?_⟩
     rw[of_ste (e2 H2)]
     simp only[sv,e2 H2,hev H2 z,hb,cond_true,h2,hz,hi,if_pos hc]
    ·cases h
theorem stb_form{T:List (Nat×AV)}{H:List AB}{a z:Opd}{n:Nat}{s:AS}(h:sv ⟨T,H⟩ none (.stb a n z)=some s) :
  ∃ r b b',H[r]? = some b/\rowB b=false/\s=⟨T,H.set r b'⟩/\∀ H2:List AB,H2[r]? = some b->sv ⟨T,H2⟩ none (.stb a n z)=some ⟨T,H2.set r b'⟩:=by
 have hev:∀(H2:List AB) (o:Opd),AS.ev ⟨T,H2⟩ o=AS.ev ⟨T,H⟩ o:=fun H2 o=>by cases o<;>rfl
 obtain⟨⟨r,j,e⟩,h⟩:=stb_of h
 have e2:∀ H2:List AB,AS.ev ⟨T,H2⟩ a=.ptr r j:=fun H2=>(hev H2 a).trans e
 simp only[sv,e]at h
 cases hb:((cellsOf (AS.ev ⟨T,H⟩ z)).length == n && boxB (AS.ev ⟨T,H⟩ z))<;>rw[hb]at h
 ·simp at h
 ·simp only[cond_true]at h
  cases hr:H[r]? with
  | none=>rw[hr]at h;simp at h
  | some ab =>
   rw[hr]at h
   cases ab<;>simp only[reduceCtorEq]at h
   split at h
   ·rename_i hc
    obtain rfl:=Option.some.inj h
    refine⟨r,_,_,hr,rfl,rfl,fun H2 h2=>?_⟩
    rw[of_stb (e2 H2)]
    simp only[sv,e2 H2,hev H2 z,hb,cond_true,h2,if_pos hc]
   ·cases h
theorem ste_stb{a z a' z':Opd}{n n':Nat}{st:AS}{Q:AS->Prop}(h:wp1 P (.op none (.ste a n z)) st (fun s=>wp1 P (.op none (.stb a' n' z')) s Q)):wp1 P (.op none (.stb a' n' z')) st (fun s=>wp1 P (.op none (.ste a n z)) s (UpTo Q)):=by
 obtain⟨T,H⟩:=st
 simp only[wp1]at h ⊢
 cases h1:sv ⟨T,H⟩ none (.ste a n z)with
 | none=>rw[h1]at h;exact h.elim
 | some s1 =>
  rw[h1]at h
  obtain⟨r,b,b',hr,hb',rfl,hR⟩:=ste_form h1
  simp only[optK]at h
  cases h2:sv ⟨T,H.set r b'⟩ none (.stb a' n' z')with
  | none=>rw[h2]at h;exact h.elim
  | some s2 =>
   rw[h2]at h
   obtain⟨q,c,c',hq,hc,rfl,hB⟩:=stb_form h2
   have hne:r≠q:=by
    rintro rfl
    rw[List.getElem?_set_self (List.getElem?_eq_some_iff.1 hr).1]at hq
    obtain rfl:=Option.some.inj hq
    rw[hb']at hc;cases hc
   rw[List.getElem?_set_ne hne]at hq
   rw[hB H hq]
   simp only[optK]
   rw[hR _ (by rw[List.getElem?_set_ne (fun e=>hne e.symm)];exact hr)]
   simp only[optK]at h ⊢
   rw[List.set_comm _ _ (fun e=>hne e.symm)]
   exact⟨_,Eqv.refl _,h⟩
theorem app_fa{d d':Nat}{e:TypeId}{sz:Nat}{s z a:Opd}{off:Nat}{st:AS}{Q:AS->Prop}(hne:d≠d')(ha:∃ n,a=.t n/\n≠d)(hr:(rdS (.op (some d) (.app e sz s z))).contains d'=false)
  (h:wp1 P (.op (some d) (.app e sz s z)) st (fun s=>wp1 P (.op (some d') (.fa a off)) s Q)):wp1 P (.op (some d') (.fa a off)) st (fun s'=>wp1 P (.op (some d) (.app e sz s z)) s' (UpTo Q)):=by
 obtain⟨n,rfl,hn⟩:=ha
 obtain⟨T,H⟩:=st
 have hs:∀ v,AS.ev (put ⟨T,H⟩ (some d') v) s=AS.ev ⟨T,H⟩ s:=fun v=>rdO_congr (st:=put ⟨T,H⟩ (some d') v) (st':=⟨T,H⟩) fun t ht=>by
  rw[lk_put,if_neg]
  rintro⟨⟩
  simp[rdS,rdK,ht]at hr
 have hz:∀ v,AS.ev (put ⟨T,H⟩ (some d') v) z=AS.ev ⟨T,H⟩ z:=fun v=>rdO_congr (st:=put ⟨T,H⟩ (some d') v) (st':=⟨T,H⟩) fun t ht=>by
  rw[lk_put,if_neg]
  rintro⟨⟩
  simp[rdS,rdK,ht]at hr
 have key:∀(T':List (Nat×AV)) (H':List AB) (r:Option Nat) (v:AV),(∀ t,lk T' t=match r with
   | some r=>sb r .u (lk T t)
   | none=>lk T t)->optK (sv (put ⟨T',H'⟩ (some d) v) (some d') (.fa (.t n) off)) Q ->
   ∃ y,ov (AS.ev ⟨T,H⟩) H (.fa (.t n) off)=some y/\(match r with
   | some r=>sb r .u y
   | none=>y)=y/\Q (put (put ⟨T',H'⟩ (some d) v) (some d') y):=by
  intro T' H' r v hT hk
  have hev:AS.ev (put ⟨T',H'⟩ (some d) v) (.t n)=lk T' n:=by
   simp only[AS.ev,lk_put]
   rw[if_neg (by rintro⟨⟩;exact hn rfl)]
  simp only[sv,ov,hev,hT n]at hk
  simp only[ov,AS.ev]
  cases r with
  | none =>
   simp only at hk ⊢
   split at hk
   ·exact⟨_,rfl,trivial,hk⟩
   ·exact⟨_,rfl,trivial,hk⟩
   ·exact⟨_,rfl,trivial,hk⟩
   ·exact hk.elim
  | some r =>
   simp only at hk ⊢
   cases hq:lk T n<;>rw[hq]at hk<;>simp only[sb]at hk<;>try exact hk.elim
   case row q=>cases e:q == r<;>rw[e]at hk<;>exact False.elim hk
   case rv q _ _ _=>cases e:q == r<;>rw[e]at hk<;>exact False.elim hk
   case ptr q j=>exact⟨_,rfl,rfl,hk⟩
   case ip cs=>exact⟨_,rfl,rfl,hk⟩
   case rptr q sz i j =>
    cases e:q == r<;>rw[e]at hk
    ·exact⟨_,rfl,by simp[sb,e],hk⟩
    ·exact False.elim hk
 simp only[wp1]at h ⊢
 simp only[sv]at h
 split at h
 ·rename_i t2 sz' els2 hx
  split at h
  ·rename_i hp
   split at h
   ·rename_i hc
    obtain⟨y,k1,_,k3⟩:=key T (H++[AB.row e sz els2]) none (.row H.length) (fun _=>rfl) h
    simp only[sv,k1,Option.map_some,optK,hz,hx,hs,hp,if_pos hc]
    exact⟨_,by rw[put_H];exact Eqv.trans (put_comm (by rintro t ⟨⟩ ⟨⟩;exact hne rfl)) ⟨rfl,fun _=>rfl⟩,k3⟩
   ·exact h.elim
  ·rename_i sz'' els hp
   split at h
   ·rename_i hc
    obtain⟨y,k1,_,k3⟩:=key T (H++[AB.row e sz (els++els2)]) none (.row H.length) (fun _=>rfl) h
    simp only[sv,k1,Option.map_some,optK,hz,hx,hs,hp,if_pos hc]
    exact⟨_,by rw[put_H];exact Eqv.trans (put_comm (by rintro t ⟨⟩ ⟨⟩;exact hne rfl)) ⟨rfl,fun _=>rfl⟩,k3⟩
   ·exact h.elim
  ·rename_i r hp
   split at h
   ·rename_i e' szr els hrr
    split at h
    ·rename_i hc
     obtain⟨y,k1,k2,k3⟩:=key (sbT r .u T) _ (some r) (.row r) (fun t=>lk_sbT T t) h
     simp only at k2
     simp only[sv,k1,Option.map_some,optK,hz,hx,hs,hp,put_H,hrr,if_pos hc]
     refine⟨_,Eqv.trans (put_comm (by rintro t ⟨⟩ ⟨⟩;exact hne rfl)) (eqv_put _ _ fun t=>?_),k3⟩
     simp only[put,sbT,k2]
    ·exact h.elim
   ·exact h.elim
  ·exact h.elim
 ·exact h.elim
mutual
theorem sb_pure{r:Nat}{z:AV}:∀(x:AV),pureB x=true->sb r z x=x
 | .u,h=>by simp[pureB]at h
 | .i _ _,_=>rfl
 | .b _,_=>rfl
 | .s _,_=>rfl
 | .agg cs,h=>by simp only[sb];rw[sbL_pure cs (by simpa [pureB] using h)]
 | .tup cs,h=>by simp only[sb];rw[sbL_pure cs (by simpa [pureB] using h)]
 | .sl _ _ _,_=>rfl
 | .nils,_=>rfl
 | .row _,h=>by simp[pureB]at h
 | .ptr _ _,h=>by simp[pureB]at h
 | .rptr _ _ _ _,h=>by simp[pureB]at h
 | .ip _ _,_=>rfl
 | .nilp,_=>rfl
 | .fn f a b,h=>by
  simp only[pureB,Bool.and_eq_true]at h
  simp only[sb];rw[sbL_pure a h.1,sbL_pure b h.2]
 | .nilf,_=>rfl
 | .nili,_=>rfl
 | .ub,h=>by simp[pureB]at h
 | .rv _ _ _ _,h=>by simp[pureB]at h
 | .mv _ _,_=>rfl
theorem sbL_pure{r:Nat}{z:AV}:∀(x:List AV),pureL x=true->sbL r z x=x
 | [],_=>rfl
 | c::cs,h=>by
  simp only[pureL,Bool.and_eq_true]at h
  simp only[sbL];rw[sb_pure c h.1,sbL_pure cs h.2]
end
theorem rdCells_pure{cs:List AV}{n:Nat}{g:Bool}{y:AV}(h:pureL cs=true)(hr:rdCells cs n g=some y):pureB y=true:=by
 have ht:∀(cs:List AV) (n:Nat),pureL cs=true->pureL (cs.take n)=true:=by
  intro cs
  induction cs with
  | nil=>intro n _;simp[pureL]
  | cons c cs ih =>
   intro n h
   cases n with
   | zero=>simp[pureL]
   | succ n=>simp only[pureL,Bool.and_eq_true,List.take_succ_cons]at h ⊢;exact⟨h.1,ih n h.2⟩
 unfold rdCells at hr
 cases g
 ·simp only[cond_false]at hr
  cases cs with
  | nil=>simp at hr
  | cons c cs=>simp at hr;subst hr;simp only[pureL,Bool.and_eq_true]at h;exact h.1
 ·simp only[cond_true]at hr
  split at hr
  ·obtain rfl:=Option.some.inj hr
   simpa [pureB] using ht cs n h
  ·cases hr
mutual
theorem rn_some:∀(x:AV),rn some x=x
 | .u=>rfl
 | .i _ _=>rfl
 | .b _=>rfl
 | .s _=>rfl
 | .agg cs=>by simp only[rn];rw[rnL_some cs]
 | .tup cs=>by simp only[rn];rw[rnL_some cs]
 | .sl _ _ _=>rfl
 | .nils=>rfl
 | .row _=>rfl
 | .ptr _ _=>rfl
 | .rptr _ _ _ _=>rfl
 | .ip _ _=>rfl
 | .nilp=>rfl
 | .fn f a b=>by simp only[rn];rw[rnL_some a,rnL_some b]
 | .nilf=>rfl
 | .nili=>rfl
 | .ub=>rfl
 | .rv _ _ _ _=>rfl
 | .mv _ _=>rfl
theorem rnL_some:∀(x:List AV),rnL some x=x
 | []=>rfl
 | c::cs=>by simp only[rnL];rw[rn_some c,rnL_some cs]
end
theorem callo_quiet{d d':Option Nat}{c:Opd}{args:List Opd}{k:K}{st:AS}{Q:AS->Prop}(hk:noHK k=true)(qk:quietK k=true)(hd:disj (.callo d c args) (.op d' k)=true)
  (h:wp1 P (.callo d c args) st (fun s=>wp1 P (.op d' k) s Q)):wp1 P (.op d' k) st (fun s=>wp1 P (.callo d c args) s (UpTo Q)):=by
 simp only[disj,Bool.and_eq_true]at hd
 obtain⟨d1,d2⟩:=hd
 simp only[wp1]at h
 obtain⟨g,first,caps,as,extra,y,h1,h2,h3,h4⟩:=h
 have hkeep:keepN [] []=some:=by funext q;rfl
 have hT:∀ t,lk (backS [] [] [] extra st).T t=lk st.T t:=fun t=>by simp only[backS,rnT_lk,hkeep,rn_some]
 have hqv:∀(s:AS),sv s d' k=(ov s.ev s.H k).map (put s d'):=fun s=>by cases k<;>simp only[quietK,Bool.false_eq_true]at qk<;>rfl
 have hH:∀(ρ:Opd->AV) (H H':List AB),ov ρ H k=ov ρ H' k:=fun ρ H H'=>by cases k<;>simp only[noHK,Bool.false_eq_true]at hk<;>rfl
 have hov:ov (put (backS [] [] [] extra st) d (rn (bkN [] st.H.length extra.length) y)).ev (put (backS [] [] [] extra st) d (rn (bkN [] st.H.length extra.length) y)).H k=ov st.ev st.H k:=by
  rw[hH _ _ st.H]
  refine ov_congr (st:=⟨(put (backS [] [] [] extra st) d (rn (bkN [] st.H.length extra.length) y)).T,st.H⟩) (st':=st) rfl fun t ht=>?_
  show lk (put (backS [] [] [] extra st) d (rn (bkN [] st.H.length extra.length) y)).T t=lk st.T t
  rw[lk_put,hT]
  split
  ·rename_i he
   have:dstS (.callo d c args)=some t:=he
   rw[this]at d1
   simp only[Bool.and_eq_true,Bool.not_eq_true']at d1
   have hc:(rdS (.op d' k)).contains t=true:=by simpa [rdS] using ht
   rw[hc]at d1
   exact absurd d1.1 (by simp)
  ·rfl
 simp only[wp1,hqv,hov]at h4
 simp only[wp1,hqv]
 cases hv:ov st.ev st.H k with
 | none=>rw[hv]at h4;exact h4.elim
 | some v =>
  rw[hv]at h4
  simp only[Option.map_some,optK]at h4 ⊢
  have hpT:∀ t,(dstS (.op d' k)=some t->(rdS (.callo d c args)).contains t=false):=fun t ht=>by
   rw[ht]at d2
   simpa using d2
  have hsame:∀(x:Opd),(∀ t∈rdO x,t∈rdS (.callo d c args))->(put st d' v).ev x=st.ev x:=fun x hx=>rdO_congr (st:=put st d' v) (st':=st) fun t ht=>by
   rw[lk_put,if_neg]
   intro e
   have:=hpT t e
   have h':=hx t ht
   simp[h']at this
  have hc:(put st d' v).ev c=st.ev c:=hsame c fun t ht=>by simp[rdS,ht]
  have ha:args.map (put st d' v).ev=args.map st.ev:=List.map_congr_left fun x hx=>hsame x fun t ht=>by
   have:∀(l:List Opd),x∈l->t∈rdOs l:=by
    intro l
    induction l with
    | nil=>intro h;cases h
    | cons y l ih =>
     intro h
     rcases List.mem_cons.1 h with rfl|h
     ·simp[rdOs,ht]
     ·simp[rdOs,ih h]
   simp[rdS,this args hx]
  refine⟨g,first,caps,as,extra,y,by rw[hc];exact h1,by rw[ha];exact h2,h3,?_⟩
  have hpH:(put st d' v).H=st.H:=put_H
  rw[hpH]
  refine⟨_,?_,h4⟩
  have e1:Eqv (backS [] [] [] extra (put st d' v)) (put (backS [] [] [] extra st) d' v):=by
   refine⟨by simp only[backS,hpH,put_H],fun t=>?_⟩
   simp only[backS,rnT_lk,hkeep,rn_some]
   rw[lk_put,lk_put]
   simp only[rnT_lk,rn_some]
  refine Eqv.trans (put_comm fun t ht he=>?_) (Eqv.put e1.symm d _)
  have:dstS (.callo d c args)=some t:=ht
  rw[this]at d1
  simp only[Bool.and_eq_true,Bool.not_eq_true']at d1
  have h':=d1.2
  simp[dstS,he]at h'
theorem app_ldi{d d':Nat}{e:TypeId}{sz:Nat}{s z a:Opd}{m:Nat}{gg:Bool}{st:AS}{Q:AS->Prop}(hne:d≠d')(ha:∃ n,a=.t n/\n≠d)(hr:(rdS (.op (some d) (.app e sz s z))).contains d'=false)
  (h:wp1 P (.op (some d) (.app e sz s z)) st (fun s=>wp1 P (.op (some d') (.ldi a m gg)) s Q)):wp1 P (.op (some d') (.ldi a m gg)) st (fun s'=>wp1 P (.op (some d) (.app e sz s z)) s' (UpTo Q)):=by
 obtain⟨n,rfl,hn⟩:=ha
 obtain⟨T,H⟩:=st
 have hs:∀ v,AS.ev (put ⟨T,H⟩ (some d') v) s=AS.ev ⟨T,H⟩ s:=fun v=>rdO_congr (st:=put ⟨T,H⟩ (some d') v) (st':=⟨T,H⟩) fun t ht=>by
  rw[lk_put,if_neg]
  rintro⟨⟩
  simp[rdS,rdK,ht]at hr
 have hz:∀ v,AS.ev (put ⟨T,H⟩ (some d') v) z=AS.ev ⟨T,H⟩ z:=fun v=>rdO_congr (st:=put ⟨T,H⟩ (some d') v) (st':=⟨T,H⟩) fun t ht=>by
  rw[lk_put,if_neg]
  rintro⟨⟩
  simp[rdS,rdK,ht]at hr
 have key:∀(T':List (Nat×AV)) (H':List AB) (r:Option Nat) (v:AV),(∀ t,lk T' t=match r with
   | some r=>sb r .u (lk T t)
   | none=>lk T t)->optK (sv (put ⟨T',H'⟩ (some d) v) (some d') (.ldi (.t n) m gg)) Q ->
   ∃ y,ov (AS.ev ⟨T,H⟩) H (.ldi (.t n) m gg)=some y/\(match r with
   | some r=>sb r .u y
   | none=>y)=y/\Q (put (put ⟨T',H'⟩ (some d) v) (some d') y):=by
  intro T' H' r v hT hk
  have hev:AS.ev (put ⟨T',H'⟩ (some d) v) (.t n)=lk T' n:=by
   simp only[AS.ev,lk_put]
   rw[if_neg (by rintro⟨⟩;exact hn rfl)]
  simp only[sv,ov,hev,hT n]at hk
  simp only[ov,AS.ev]
  cases r with
  | none =>
   simp only at hk ⊢
   cases hq:lk T n<;>rw[hq]at hk<;>simp only[Option.map_none,optK]at hk
   rename_i cs
   cases hp:pureL cs<;>rw[hp]at hk
   ·exact hk.elim
   ·simp only[cond_true]at hk ⊢
    cases hr:rdCells cs m gg with
    | none=>rw[hr]at hk;exact hk.elim
    | some y=>rw[hr]at hk;exact⟨y,by simp only[hp,cond_true],trivial,hk⟩
  | some r =>
   simp only at hk ⊢
   cases hq:lk T n<;>rw[hq]at hk<;>simp only[sb]at hk<;>try exact hk.elim
   case row q=>cases e:q == r<;>rw[e]at hk<;>exact False.elim hk
   case rptr q sz i j=>cases e:q == r<;>rw[e]at hk<;>exact False.elim hk
   case rv q sz i j=>cases e:q == r<;>rw[e]at hk<;>exact False.elim hk
   case ip cs =>
    cases hp:pureL cs<;>rw[hp]at hk
    ·exact hk.elim
    ·simp only[cond_true]at hk ⊢
     cases hr:rdCells cs m gg with
     | none=>rw[hr]at hk;exact hk.elim
     | some y=>rw[hr]at hk;exact⟨y,by simp only[hp,cond_true],sb_pure _ (rdCells_pure hp hr),hk⟩
 simp only[wp1]at h ⊢
 simp only[sv]at h
 split at h
 ·rename_i t2 sz' els2 hx
  split at h
  ·rename_i hp
   split at h
   ·rename_i hc
    obtain⟨y,k1,_,k3⟩:=key T (H++[AB.row e sz els2]) none (.row H.length) (fun _=>rfl) h
    simp only[sv,k1,Option.map_some,optK,hz,hx,hs,hp,if_pos hc]
    exact⟨_,by rw[put_H];exact Eqv.trans (put_comm (by rintro t ⟨⟩ ⟨⟩;exact hne rfl)) ⟨rfl,fun _=>rfl⟩,k3⟩
   ·exact h.elim
  ·rename_i sz'' els hp
   split at h
   ·rename_i hc
    obtain⟨y,k1,_,k3⟩:=key T (H++[AB.row e sz (els++els2)]) none (.row H.length) (fun _=>rfl) h
    simp only[sv,k1,Option.map_some,optK,hz,hx,hs,hp,if_pos hc]
    exact⟨_,by rw[put_H];exact Eqv.trans (put_comm (by rintro t ⟨⟩ ⟨⟩;exact hne rfl)) ⟨rfl,fun _=>rfl⟩,k3⟩
   ·exact h.elim
  ·rename_i r hp
   split at h
   ·rename_i e' szr els hrr
    split at h
    ·rename_i hc
     obtain⟨y,k1,k2,k3⟩:=key (sbT r .u T) _ (some r) (.row r) (fun t=>lk_sbT T t) h
     simp only at k2
     simp only[sv,k1,Option.map_some,optK,hz,hx,hs,hp,put_H,hrr,if_pos hc]
     refine⟨_,Eqv.trans (put_comm (by rintro t ⟨⟩ ⟨⟩;exact hne rfl)) (eqv_put _ _ fun t=>?_),k3⟩
     simp only[put,sbT,k2]
    ·exact h.elim
   ·exact h.elim
  ·exact h.elim
 ·exact h.elim
theorem bsr_quiet{d d':Nat}{e:TypeId}{sz:Nat}{k:K}{st:AS}{Q:AS->Prop}(hk:noHK k=true)(qk:quietK k=true)(hr:(rdK k).contains d=false)(hne:d≠d')
  (h:wp1 P (.op (some d) (.bsr e sz)) st (fun s=>wp1 P (.op (some d') k) s Q)):wp1 P (.op (some d') k) st (fun s=>wp1 P (.op (some d) (.bsr e sz)) s (UpTo Q)):=by
 have hqv:∀(s:AS),sv s (some d') k=(ov s.ev s.H k).map (put s (some d')):=fun s=>by cases k<;>simp only[quietK,Bool.false_eq_true]at qk<;>rfl
 have hH:∀(ρ:Opd->AV) (H H':List AB),ov ρ H k=ov ρ H' k:=fun ρ H H'=>by cases k<;>simp only[noHK,Bool.false_eq_true]at hk<;>rfl
 obtain⟨T,H⟩:=st
 replace h:optK (sv (put ⟨T,H++[.row e sz []]⟩ (some d) (.row H.length)) (some d') k) Q:=h
 rw[hqv]at h
 have hov:ov (put ⟨T,H++[.row e sz []]⟩ (some d) (.row H.length)).ev (put ⟨T,H++[.row e sz []]⟩ (some d) (.row H.length)).H k=ov (AS.ev ⟨T,H⟩) H k:=by
  rw[hH _ _ H]
  refine ov_congr (st:=⟨(put ⟨T,H++[.row e sz []]⟩ (some d) (.row H.length)).T,H⟩) (st':=⟨T,H⟩) rfl fun t ht=>?_
  show lk (put ⟨T,H++[.row e sz []]⟩ (some d) (.row H.length)).T t=lk T t
  rw[lk_put,if_neg]
  rintro⟨⟩
  have:(rdK k).contains d=true:=by simpa using ht
  rw[hr]at this;cases this
 rw[hov]at h
 simp only[wp1]
 rw[hqv]
 cases hv:ov (AS.ev ⟨T,H⟩) H k with
 | none=>rw[hv]at h;exact h.elim
 | some y =>
  rw[hv]at h
  simp only[Option.map_some,optK,sv]at h ⊢
  refine⟨_,?_,h⟩
  exact Eqv.trans (put_comm (st:=⟨T,H++[.row e sz []]⟩) (by rintro t ⟨⟩ ⟨⟩;exact hne rfl)) ⟨rfl,fun _=>rfl⟩
theorem ldd_stb{d n m:Nat}{g:Bool}{a b z:Opd}{bs:List Opd}{st:AS}{Q:AS->Prop}(hb:inO b bs=true)(hd:(rdO b++rdO z).contains d=false)
  (h:wp1 P (.op (some d) (.ldd a n g bs)) st (fun s=>wp1 P (.op none (.stb b m z)) s Q)):wp1 P (.op none (.stb b m z)) st (fun s=>wp1 P (.op (some d) (.ldd a n g bs)) s (UpTo Q)):=by
 obtain⟨T,H⟩:=st
 simp only[wp1]at h ⊢
 have hb':b∈bs:=by
  cases b with
  | c v=>cases hb
  | t k =>
   simp only[inO,List.any_eq_true]at hb
   obtain⟨x,h1,h2⟩:=hb
   cases x with
   | c v=>cases h2
   | t q=>obtain rfl:=beq_iff_eq.1 h2;exact h1
 have hev:∀(o:Opd) (v:AV),(∀ t∈rdO o,t∈rdO b++rdO z)->AS.ev (put ⟨T,H⟩ (some d) v) o=AS.ev ⟨T,H⟩ o:=by
  intro o v ho
  refine rdO_congr fun t ht=>?_
  rw[lk_put,if_neg]
  rintro⟨⟩
  have:(rdO b++rdO z).contains d=true:=by simpa using ho d ht
  rw[hd]at this;cases this
 simp only[sv,ov]at h
 cases ha:AS.ev ⟨T,H⟩ a<;>rw[ha]at h<;>try exact h.elim
 rename_i r j
 simp only at h
 cases hall:(bs.all fun b=>othB r (AS.ev ⟨T,H⟩ b))<;>rw[hall]at h
 ·exact h.elim
 simp only[cond_true]at h
 have hob:=List.all_eq_true.1 hall b hb'
 cases hr:H[r]? with
 | none=>rw[hr]at h;exact h.elim
 | some x =>
  rw[hr]at h
  cases x with
  | gone=>exact h.elim
  | pin _ _=>exact h.elim
  | map _ _=>exact h.elim
  | row _ _ _=>exact h.elim
  | box t cs =>
   simp only at h
   cases hc:rdCells (cs.drop j) n g with
   | none=>rw[hc]at h;exact h.elim
   | some y =>
    rw[hc]at h
    simp only[Option.map_some,optK]at h
    simp only[hev b y (fun t ht=>by simp[ht])]at h
    simp only[sv]
    cases hq:AS.ev ⟨T,H⟩ b<;>rw[hq]at h hob<;>try exact h.elim
    rename_i q j'
    simp only at h ⊢
    have hne:q≠r:=by simpa [othB] using hob
    simp only[stS,hev b y (fun t ht=>by simp[ht]),hev z y (fun t ht=>by simp[ht]),put_H,hq]at h ⊢
    revert h
    cases(cellsOf (AS.ev ⟨T,H⟩ z)).length == m && boxB (AS.ev ⟨T,H⟩ z)<;>intro h
    ·exact h.elim
    simp only[cond_true]at h ⊢
    cases hq2:H[q]? with
    | none=>rw[hq2]at h;exact h.elim
    | some x =>
     rw[hq2]at h
     cases x with
     | gone=>exact h.elim
     | pin _ _=>exact h.elim
     | map _ _=>exact h.elim
     | row _ _ _=>exact h.elim
     | box t2 cs2 =>
      simp only at h ⊢
      by_cases hle:j'+m<=cs2.length
      ·rw[if_pos hle]at h ⊢
       have hT:∀ o,AS.ev ⟨T,H.set q (.box t2 (wrCells cs2 j' (cellsOf (AS.ev ⟨T,H⟩ z))))⟩ o=AS.ev ⟨T,H⟩ o:=fun o=>by cases o<;>rfl
       simp only[optK,sv,ov,hT,ha,hall,cond_true]
       rw[List.getElem?_set_ne hne,hr]
       simp only[hc,Option.map_some,optK]
       exact⟨_,Eqv.refl _,h⟩
      ·rw[if_neg hle]at h;exact h.elim
theorem swB_sound{x y:SOp}{st:AS}{Q:AS->Prop}(hb:swB x y=true)(h:wp1 P x st (fun s=>wp1 P y s Q)):wp1 P y st (fun s=>wp1 P x s (UpTo Q)):=by
 unfold swB at hb
 rw[Bool.or_eq_true]at hb
 rcases hb with hb|hb
 ·simp only[Bool.and_eq_true]at hb
  obtain⟨⟨⟨b1,b2⟩,b3⟩,b4⟩:=hb
  rw[Bool.or_eq_true]at b4
  rcases b4 with b4|b4
  ·simp only[Bool.and_eq_true]at b4
   exact quiet_quiet b1 b2 b3 b4.1 b4.2 h
  ·split at b4
   ·exact quiet_alm b1 b2 b3 h
   ·simp only[Bool.and_eq_true]at b4
    obtain⟨⟨a,n,z⟩,hk⟩:=Option.isSome_iff_exists.1 b4.1
    exact quiet_st hk b1 b2 b3 b4.2 h
   ·cases b4
 ·split at hb
  ·rename_i d e sz s z d' a off
   simp only[Bool.and_eq_true,Bool.not_eq_true',bne_iff_ne]at hb
   obtain⟨⟨b1,b2⟩,b3⟩:=hb
   refine app_fa b1 ?_ b3 h
   cases a with
   | t n=>exact⟨n,rfl,by simpa using b2⟩
   | c v=>cases b2
  ·rename_i d e sz s z d' a m gg
   simp only[Bool.and_eq_true,Bool.not_eq_true',bne_iff_ne]at hb
   obtain⟨⟨b1,b2⟩,b3⟩:=hb
   refine app_ldi b1 ?_ b3 h
   cases a with
   | t n=>exact⟨n,rfl,by simpa using b2⟩
   | c v=>cases b2
  ·simp only[Bool.and_eq_true]at hb
   exact callo_quiet hb.1.1 hb.1.2 hb.2 h
  ·simp only[Bool.and_eq_true,Bool.not_eq_true',bne_iff_ne]at hb
   exact bsr_quiet hb.1.1.1 hb.1.1.2 hb.1.2 hb.2 h
  ·exact ste_stb h
  ·simp only[Bool.and_eq_true,Bool.not_eq_true']at hb
   exact ldd_stb hb.1 hb.2 h
  ·simp only[Bool.and_eq_true]at hb
   obtain⟨⟨a,n,z⟩,hk⟩:=Option.isSome_iff_exists.1 hb.1
   exact st_quiet hk hb.2.1.1.1 hb.2.1.1.2 hb.2.1.2 hb.2.2 h
  ·cases hb
theorem UpTo.mono{Q Q':AS->Prop}(hq:∀ s,Q s->Q' s){s:AS}(h:UpTo Q s):UpTo Q' s:=let⟨s',e,h⟩:=h;⟨s',e,hq _ h⟩
theorem UpTo.join{Q:AS->Prop}{s:AS}(h:UpTo (UpTo Q) s):UpTo Q s:=let⟨_,e,s',e',h⟩:=h;⟨s',e'.trans e,h⟩
theorem wpi_mono{sos:List SOp}{l:List Nat}{a:AS}{Q Q':AS->Prop}(h:wpi P sos l a Q)(hq:∀ s,Q s->Q' s):wpi P sos l a Q':=by
 induction l generalizing a with
 | nil=>exact hq _ h
 | cons i l ih =>
  simp only[wpi]at h ⊢
  split at h
  ·exact wp1_mono h fun s=>ih
  ·exact ih h
theorem wpi_move{sos:List SOp}{x:SOp}{k:Nat}(hk:sos[k]? = some x):∀(l1 l2:List Nat) {st:AS} {Q:AS->Prop},(∀ y∈l1,∃ so,sos[y]? = some so/\swB x so=true)->wp1 P x st (fun s=>wpi P sos (l1++l2) s Q) ->
  wpi P sos (l1++k::l2) st (UpTo Q)
 | [],l2,st,Q,_,h=>by
  simp only[List.nil_append,wpi,hk]at h ⊢
  exact wp1_mono h fun s h'=>wpi_mono h' fun s h=>⟨s,Eqv.refl s,h⟩
 | y::l1,l2,st,Q,hl,h=>by
  obtain⟨so,h1,h2⟩:=hl y (List.mem_cons_self ..)
  simp only[List.cons_append,wpi,h1]at h ⊢
  refine wp1_mono (swB_sound h2 h) fun s h'=>?_
  refine wpi_mono (wpi_move hk l1 l2 (Q:=UpTo Q) (fun y hy=>hl y (List.mem_cons_of_mem _ hy)) (wp1_mono h' fun s'' h''=>?_)) fun s=>UpTo.join
  obtain⟨s0,e,h0⟩:=h''
  exact wpi_congr h0 e fun a b e' hq=>⟨a,e',hq⟩
theorem wpi_sort{sos:List SOp}:∀(m k:Nat) (l:List Nat) {st:AS} {Q:AS->Prop},k+m<=sos.length->l.Perm (List.range' k m) ->
  l.Pairwise (fun y x=>x<y->∃ sx sy,sos[x]? = some sx/\sos[y]? = some sy/\swB sx sy=true)->wpi P sos (List.range' k m) st Q->wpi P sos l st (UpTo Q)
 | 0,k,l,st,Q,_,hp,_,h=>by
  have:l=[]:=by simpa using hp
  subst this
  exact⟨st,Eqv.refl st,h⟩
 | m+1,k,l,st,Q,hm,hp,hw,h=>by
  rw[List.range'_succ]at hp h
  have hkl:k∈l:=hp.symm.subset (List.mem_cons_self ..)
  obtain⟨l1,l2,rfl⟩:=List.append_of_mem hkl
  have hp':(l1++l2).Perm (List.range' (k+1) m):=(List.perm_middle.symm.trans hp).cons_inv
  have hks:∃ x,sos[k]? = some x:=⟨sos[k],List.getElem?_eq_getElem (by omega)⟩
  obtain⟨x,hx⟩:=hks
  simp only[wpi,hx]at h
  refine wpi_mono (wpi_move hx l1 l2 (Q:=UpTo Q) (fun y hy=>?_) (wp1_mono h fun s h'=>wpi_sort m (k+1) (l1++l2) (by omega) hp' ?_ h')) fun s=>UpTo.join
  ·have hyk:k<y:=by
    have:=hp'.subset (List.mem_append_left _ hy)
    simp only[List.mem_range'_1]at this
    omega
   obtain⟨sx,sy,e1,e2,e3⟩:=(List.pairwise_append.1 hw).2.2 y hy k (List.mem_cons_self ..) hyk
   rw[hx]at e1
   obtain rfl:=Option.some.inj e1
   exact⟨sy,e2,e3⟩
  ·obtain⟨p1,p2,p3⟩:=List.pairwise_append.1 hw
   exact List.pairwise_append.2 ⟨p1,(List.pairwise_cons.1 p2).2,fun a ha b hb=>p3 a ha b (List.mem_cons_of_mem _ hb)⟩
inductive Anc(ops:List Oper):Nat->Nat->Prop
 | one {j:Nat} {o:Oper} {e:Edge}:ops[j]? = some o->e∈o.after.toList->strong e=true->Anc ops j e.on
 | more {j i:Nat} {o:Oper} {e:Edge}:ops[j]? = some o->e∈o.after.toList->strong e=true->Anc ops e.on i->Anc ops j i
def mask1(acc:List Nat)(es:List Edge):Nat:=match es with
 | []=>0
 | e::es=>bif strong e then(1 <<< e.on) ||| (acc.getD e.on 0 ||| mask1 acc es)else mask1 acc es
def masks:List Oper->List Nat->List Nat
 | [],acc=>acc
 | o::os,acc=>masks os (acc++[mask1 acc o.after.toList])
theorem mask1_anc{ops:List Oper}{acc:List Nat}{j:Nat}{o:Oper}(ho:ops[j]? = some o)(ha:∀ j i,(acc.getD j 0).testBit i=true->Anc ops j i):∀(es:List Edge),(∀ e∈es,e∈o.after.toList)->∀ i,(mask1 acc es).testBit i=true->Anc ops j i
 | [],_,i,h=>by simp[mask1]at h
 | e::es,hm,i,h=>by
  have he:=hm e (List.mem_cons_self ..)
  unfold mask1 at h
  cases hs:strong e<;>rw[hs]at h
  ·exact mask1_anc ho ha es (fun e h=>hm e (List.mem_cons_of_mem _ h)) i h
  ·simp only[cond_true,Nat.testBit_or,Bool.or_eq_true]at h
   rcases h with h|h|h
   ·rw[Nat.one_shiftLeft,Nat.testBit_two_pow]at h
    have:e.on=i:=by simpa using h
    subst this
    exact .one ho he hs
   ·exact .more ho he hs (ha _ _ h)
   ·exact mask1_anc ho ha es (fun e h=>hm e (List.mem_cons_of_mem _ h)) i h
theorem masks_anc{ops:List Oper}:∀(os:List Oper) (acc:List Nat),(∀ k,os[k]? = ops[acc.length+k]?)->(∀ j i,(acc.getD j 0).testBit i=true->Anc ops j i)->∀ j i,((masks os acc).getD j 0).testBit i=true->Anc ops j i
 | [],acc,_,ha=>ha
 | o::os,acc,hk,ha=>by
  have ho:ops[acc.length]? = some o:=by simpa using (hk 0).symm
  refine masks_anc os _ (fun k=>?_) (fun j i h=>?_)
  ·have:=hk (k+1)
   simpa [Nat.add_assoc,Nat.add_comm 1 k] using this
  ·by_cases hj:j<acc.length
   ·rw[List.getD_eq_getElem?_getD,List.getElem?_append_left hj]at h
    exact ha j i (by rw[List.getD_eq_getElem?_getD];exact h)
   ·by_cases e:j=acc.length
    ·subst e
     simp only[List.getD_eq_getElem?_getD,List.getElem?_concat_length,Option.getD_some]at h
     exact mask1_anc ho ha _ (fun _ h=>h) i h
    ·rw[List.getD_eq_getElem?_getD,List.getElem?_eq_none (by simp;omega)]at h
     simp at h
theorem topo_facts{ops:Array Oper}:∀(l:List Nat) (done:Nat->Bool),Topo ops done l->(∀ i j,done j=true->Anc ops.toList j i->done i=true) ->
  l.Nodup/\(∀ i∈l,i<ops.size/\done i=false)/\(∀ i,i<ops.size->done i=true\/i∈l)/\l.Pairwise (fun y x=>¬ Anc ops.toList y x)
 | [],done,h,_=>⟨List.nodup_nil,by simp,fun i hi=>.inl (h i hi),List.Pairwise.nil⟩
 | k::l,done,h,hc=>by
  obtain⟨h1,h2,h3,h4⟩:=h
  have hanc:∀ i,Anc ops.toList k i->done i=true:=by
   intro i ha
   cases ha with
   | one ho he hs=>exact h3 _ (by simpa using ho) _ he hs
   | more ho he hs hr=>exact hc _ _ (h3 _ (by simpa using ho) _ he hs) hr
  obtain⟨g1,g2,g3,g4⟩:=topo_facts l (fun i=>i == k || done i) h4 (fun i j hj ha=>by
   simp only[Bool.or_eq_true,beq_iff_eq]at hj ⊢
   rcases hj with rfl|hj
   ·exact .inr (hanc i ha)
   ·exact .inr (hc i j hj ha))
  have g2':∀ i∈l,i<ops.size/\i≠k/\done i=false:=fun i hi=>by
   have:=g2 i hi
   simp only[Bool.or_eq_false_iff,beq_eq_false_iff_ne]at this
   exact⟨this.1,this.2.1,this.2.2⟩
  refine⟨List.nodup_cons.2 ⟨fun hk=>(g2' k hk).2.1 rfl,g1⟩,?_,?_,List.pairwise_cons.2 ⟨fun x hx ha=>?_,g4⟩⟩
  ·intro i hi
   rcases List.mem_cons.1 hi with rfl|hi
   ·exact⟨h1,h2⟩
   ·exact⟨(g2' i hi).1,(g2' i hi).2.2⟩
  ·intro i hi
   rcases g3 i hi with h|h
   ·simp only[Bool.or_eq_true,beq_iff_eq]at h
    rcases h with rfl|h
    ·exact .inr (List.mem_cons_self ..)
    ·exact .inl h
   ·exact .inr (List.mem_cons_of_mem _ h)
  ·have:=hanc x ha
   rw[(g2' x hx).2.2]at this
   cases this
def drawOk(ops:Array Oper)(sos:List SOp):Bool:=
 backOk ops && let ms:=masks ops.toList []
  (List.range ops.size).all fun j=>(List.range j).all fun i=>(ms.getD j 0).testBit i || (match sos[i]?,sos[j]? with
   | some x,some y=>swB x y
   | _,_=>false)
section
variable {Γ : Ctx} {N:Nat}
theorem opsOk_get{all:Array Oper}:∀ {os:List Oper} {sos:List SOp},opsOk P N all os sos=true->os.length=sos.length/\∀(i:Nat) (o:Oper),os[i]? = some o->∃ so,sos[i]? = some so/\gdOk P N all o so=true
 | [],[],_=>by simp
 | o::os,so::sos,h=>by
  simp only[opsOk,Bool.and_eq_true]at h
  obtain⟨h1,h2⟩:=opsOk_get h.2
  refine⟨by simp[h1],fun i o' hi=>?_⟩
  cases i with
  | zero=>simp at hi;subst hi;exact⟨so,rfl,h.1⟩
  | succ i=>simpa using h2 i o' (by simpa using hi)
 | [],_::_,h=>by simp[opsOk]at h
 | _::_,[],h=>by simp[opsOk]at h
theorem wpi_sound{ops:Array Oper}{sos:List SOp}(hok:opsOk P N ops ops.toList sos=true){E:Exit->Act->World->Prop}:∀(l:List Nat) {st:AS} {Q:AS->Prop} {a:Act} {w:World},(∀ i∈l,i<ops.size)->wpi P sos l st Q ->
  (∀ a' w' st',Q st'->Good Γ N st' a' w'->E .normal a' w')->Good Γ N st a w->wpOps P ops E l a w
 | [],st,Q,a,w,_,h,hE,G=>hE _ _ _ h G
 | i::l,st,Q,a,w,hl,h,hE,G=>by
  have hi:=hl i (List.mem_cons_self ..)
  have ho:ops[i]? = some ops[i]:=Array.getElem?_eq_getElem hi
  obtain⟨so,hso,hgd⟩:=(opsOk_get hok).2 i ops[i] (by simp[hi])
  simp only[wpi,hso]at h
  simp only[wpOps,ho]
  exact gd_sound G hgd h (fun a' w' st' h' G'=>wpi_sound hok l (fun i hi=>hl i (List.mem_cons_of_mem _ hi)) h' hE G')
theorem draw_sound{ops:Array Oper}{sos:List SOp}(hok:opsOk P N ops ops.toList sos=true)(hdr:drawOk ops sos=true){st:AS}{Q:AS->Prop}(h:wpo P sos st Q)
  {E:Exit->Act->World->Prop} (hE:∀ a' w' st',Q st'->Good Γ N st' a' w'->E .normal a' w') {a:Act} {w:World} (G:Good Γ N st a w) {l:List Nat} (hl:Topo ops (fun _=>false) l):wpOps P ops E l a w:=by
 simp only[drawOk,Bool.and_eq_true]at hdr
 obtain⟨d1,d2⟩:=hdr
 obtain⟨t1,t2,t3,t4⟩:=topo_facts l _ hl (fun i j hj=>by cases hj)
 have hlen:=(opsOk_get hok).1
 simp only[Array.length_toList]at hlen
 have hp:l.Perm (List.range' 0 ops.size):=by
  refine(List.perm_ext_iff_of_nodup t1 (List.nodup_range')).2 fun i=>?_
  simp only[List.mem_range'_1,Nat.zero_le,true_and,Nat.zero_add]
  exact⟨fun hi=>(t2 i hi).1,fun hi=>(t3 i hi).resolve_left (by simp)⟩
 have hw:l.Pairwise (fun y x=>x<y->∃ sx sy,sos[x]? = some sx/\sos[y]? = some sy/\swB sx sy=true):=by
  refine(List.Pairwise.and_mem.1 t4).imp ?_
  rintro y x ⟨hy,hx,hn⟩ hlt
  have:=List.all_eq_true.1 (List.all_eq_true.1 d2 y (List.mem_range.2 (t2 y hy).1)) x (List.mem_range.2 hlt)
  rw[Bool.or_eq_true]at this
  rcases this with h|h
  ·exact absurd (masks_anc ops.toList [] (fun k=>by simp) (fun j i h=>by simp at h) y x h) hn
  ·split at h
   ·rename_i sx sy e1 e2
    exact⟨sx,sy,e1,e2,h⟩
   ·cases h
 refine wpi_sound (Q:=UpTo Q) hok l (fun i hi=>(t2 i hi).1) (wpi_sort ops.size 0 l (by omega) hp hw ?_) (fun a' w' st' h' G'=>?_) G
 ·rw[hlen]
  exact wpi_range sos 0 (fun j=>by simp) h
 ·obtain⟨s',e,hq⟩:=h'
  exact hE _ _ _ hq (G'.congr e.symm)
def swapAt{α:Type}:Nat->List α->List α
 | 0,x::y::l=>y::x::l
 | n+1,x::l=>x::swapAt n l
 | _,l=>l
def tau(i k:Nat):Nat:=if k=i then i+1 else if k=i+1 then i else k
theorem swapAt_len{α:Type}:∀(i:Nat) (l:List α),(swapAt i l).length=l.length
 | 0,[]=>rfl
 | 0,[_]=>rfl
 | 0,_::_::_=>rfl
 | _+1,[]=>rfl
 | i+1,x::l=>by simp[swapAt,swapAt_len i l]
theorem swapAt_get{α:Type}:∀(i:Nat) (l:List α) (k:Nat),i+1<l.length->(swapAt i l)[tau i k]? = l[k]?
 | 0,x::y::l,k,_=>by
  match k with
  | 0=>rfl
  | 1=>rfl
  | k+2=>simp[tau,swapAt]
 | i+1,x::l,k,h=>by
  match k with
  | 0=>simp[tau,swapAt]
  | k+1 =>
   have e:tau (i+1) (k+1)=tau i k+1:=by unfold tau;(repeat' split)<;>omega
   rw[e]
   simpa [swapAt] using swapAt_get i l k (by simpa using h)
theorem tau_tau(i k:Nat):tau i (tau i k)=k:=by unfold tau;(repeat' split)<;>omega
theorem wpi_tau{P:Program}{sos:List SOp}{i:Nat}(hi:i+1<sos.length):∀(l:List Nat) {st:AS} {Q:AS->Prop},wpi P (swapAt i sos) (l.map (tau i)) st Q->wpi P sos l st Q
 | [],_,_,h=>h
 | k::l,st,Q,h=>by
  simp only[List.map_cons,wpi,swapAt_get i sos k hi]at h ⊢
  cases hk:sos[k]? with
  | none=>rw[hk]at h;exact wpi_tau hi l h
  | some x=>rw[hk]at h;exact wp1_mono h fun s h'=>wpi_tau hi l h'
def drawOk2(ops:Array Oper)(sos:List SOp)(i:Nat):Bool:=
 backOk ops && decide (i+1<ops.size) && let ms:=masks ops.toList []
  (List.range ops.size).all fun j=>(List.range j).all fun i'=>(ms.getD j 0).testBit i' || (i' == i && j == i+1) || (match sos[i']?,sos[j]? with
   | some x,some y=>swB x y
   | _,_=>false)
theorem two_ways{p q:Nat}(hpq:p≠q):∀ {l:List Nat},l.Nodup->l.Pairwise (fun a b=>¬ (a=p/\b=q))\/l.Pairwise (fun a b=>¬ (a=q/\b=p))
 | [],_=>.inl List.Pairwise.nil
 | a::l,h=>by
  obtain⟨h1,h2⟩:=List.nodup_cons.1 h
  by_cases ha:a=p
  ·subst ha
   refine .inr (List.pairwise_cons.2 ⟨fun b _ e=>hpq e.1,?_⟩)
   refine List.Pairwise.imp_of_mem (R:=fun _ _=>True) (fun {x y} _ hy _ e=>h1 (e.2 ▸ hy)) ?_
   exact List.pairwise_of_forall fun _ _=>trivial
  ·by_cases hb:a=q
   ·subst hb
    refine .inl (List.pairwise_cons.2 ⟨fun b _ e=>ha e.1,?_⟩)
    refine List.Pairwise.imp_of_mem (R:=fun _ _=>True) (fun {x y} _ hy _ e=>h1 (e.2 ▸ hy)) ?_
    exact List.pairwise_of_forall fun _ _=>trivial
   ·rcases two_ways hpq h2 with h|h
    ·exact .inl (List.pairwise_cons.2 ⟨fun b _ e=>ha e.1,h⟩)
    ·exact .inr (List.pairwise_cons.2 ⟨fun b _ e=>hb e.1,h⟩)
theorem draw2_sound{ops:Array Oper}{sos:List SOp}{i:Nat}(hok:opsOk P N ops ops.toList sos=true)(hdr:drawOk2 ops sos i=true){st:AS}{Q:AS->Prop}(h:wpo P sos st Q)(h':wpo P (swapAt i sos) st Q)
  {E:Exit->Act->World->Prop} (hE:∀ a' w' st',Q st'->Good Γ N st' a' w'->E .normal a' w') {a:Act} {w:World} (G:Good Γ N st a w) {l:List Nat} (hl:Topo ops (fun _=>false) l):wpOps P ops E l a w:=by
 simp only[drawOk2,Bool.and_eq_true,decide_eq_true_eq]at hdr
 obtain⟨⟨d1,d3⟩,d2⟩:=hdr
 obtain⟨t1,t2,t3,t4⟩:=topo_facts l _ hl (fun i j hj=>by cases hj)
 have hlen:=(opsOk_get hok).1
 simp only[Array.length_toList]at hlen
 have hp:l.Perm (List.range' 0 ops.size):=by
  refine(List.perm_ext_iff_of_nodup t1 (List.nodup_range')).2 fun i=>?_
  simp only[List.mem_range'_1,Nat.zero_le,true_and,Nat.zero_add]
  exact⟨fun hi=>(t2 i hi).1,fun hi=>(t3 i hi).resolve_left (by simp)⟩
 have hw:l.Pairwise (fun y x=>x<y->(x=i/\y=i+1)\/∃ sx sy,sos[x]? = some sx/\sos[y]? = some sy/\swB sx sy=true):=by
  refine(List.Pairwise.and_mem.1 t4).imp ?_
  rintro y x ⟨hy,hx,hn⟩ hlt
  have:=List.all_eq_true.1 (List.all_eq_true.1 d2 y (List.mem_range.2 (t2 y hy).1)) x (List.mem_range.2 hlt)
  rw[Bool.or_eq_true,Bool.or_eq_true]at this
  rcases this with(h|h)|h
  ·exact absurd (masks_anc ops.toList [] (fun k=>by simp) (fun j i h=>by simp at h) y x h) hn
  ·simp only[Bool.and_eq_true,beq_iff_eq]at h;exact .inl h
  ·split at h
   ·rename_i sx sy e1 e2
    exact .inr ⟨sx,sy,e1,e2,h⟩
   ·cases h
 have fin:wpi P sos l st (UpTo Q)->wpOps P ops E l a w:=fun hq =>
  wpi_sound (Q:=UpTo Q) hok l (fun i hi=>(t2 i hi).1) hq (fun a' w' st' h' G'=>by
   obtain⟨s',e,hq⟩:=h'
   exact hE _ _ _ hq (G'.congr e.symm)) G
 rcases two_ways (p:=i+1) (q:=i) (by omega) t1 with hc|hc
 ·refine fin (wpi_sort ops.size 0 l (by omega) hp ((hw.and hc).imp fun {y x} hyx hlt=>(hyx.1 hlt).resolve_left fun e=>hyx.2 ⟨e.2,e.1⟩) ?_)
  rw[hlen]
  exact wpi_range sos 0 (fun j=>by simp) h
 ·refine fin (wpi_tau (sos:=sos) (i:=i) (by omega) l ?_)
  have hp2:(l.map (tau i)).Perm (List.range' 0 ops.size):=by
   refine(List.perm_ext_iff_of_nodup ?_ (List.nodup_range')).2 fun k=>?_
   ·refine List.Pairwise.map (tau i) (fun a b hab e=>hab ?_) t1
    rw[<-tau_tau i a,e,tau_tau]
   ·simp only[List.mem_map,List.mem_range'_1,Nat.zero_le,true_and,Nat.zero_add]
    have hb:∀ k,k<ops.size->tau i k<ops.size:=fun k hk=>by unfold tau;(repeat' split)<;>omega
    constructor
    ·rintro⟨j,hj,rfl⟩;exact hb _ (t2 j hj).1
    ·intro hk;exact⟨tau i k,(t3 _ (hb k hk)).resolve_left (by simp),tau_tau i k⟩
  refine wpi_sort ops.size 0 (l.map (tau i)) (by have:=swapAt_len i sos;omega) hp2 ?_ ?_
  ·rw[List.pairwise_map]
   refine(hw.and hc).imp fun {y x} hyx hlt=>?_
   have hlt2:x<y:=by
    by_cases e1:y=i
    ·by_cases e2:x=i+1
     ·exact absurd ⟨e1,e2⟩ hyx.2
     ·subst e1;simp only[tau]at hlt;split at hlt<;>(try split at hlt)<;>(try split at hlt)<;>omega
    ·simp only[tau]at hlt;split at hlt<;>(try split at hlt)<;>(try split at hlt)<;>(try split at hlt)<;>omega
   rcases hyx.1 hlt2 with⟨rfl,rfl⟩|⟨sx,sy,e1,e2,e3⟩
   ·simp[tau]at hlt;omega
   ·exact⟨sx,sy,by rw[swapAt_get i sos x (by omega)];exact e1,by rw[swapAt_get i sos y (by omega)];exact e2,e3⟩
  ·rw[hlen,<-swapAt_len i sos]
   exact wpi_range (swapAt i sos) 0 (fun j=>by simp) h'
end
end Go.Ab
