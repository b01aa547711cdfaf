/- A part of the proof: X2. -/
import Derived.Test.YtgkiahgcgjigkaaDoorX1
set_option linter.all false
set_option linter.all false
namespace Go.Ab.X
open Go.RowKit Go.Ab
section
variable {U:Uni} {R:Type}
def Tup(U:Uni):List U.T->Type
 | []=>Unit
 | [t]=>U.I t
 | t::u::l=>U.I t×Tup U (u::l)
def tcons{t:U.T}(x:U.I t) : {l:List U.T}->Tup U l->Tup U (t::l)
 | [],_=>x
 | _::_,s=>(x,s)
def thd{t:U.T} : {l:List U.T}->Tup U (t::l)->U.I t
 | [],s=>s
 | _::_,s=>s.1
def ttl{t:U.T} : {l:List U.T}->Tup U (t::l)->Tup U l
 | [],_=>()
 | _::_,s=>s.2
theorem thd_cons{t:U.T}(x:U.I t) : {l:List U.T}->(s:Tup U l)->thd (tcons x s)=x
 | [],_=>rfl
 | _::_,_=>rfl
theorem ttl_cons{t:U.T}(x:U.I t) : {l:List U.T}->(s:Tup U l)->ttl (tcons x s)=s
 | [],()=>rfl
 | _::_,_=>rfl
def eqP:List Nat->List Nat->Bool
 | [],[]=>true
 | a::l,b::m=>Nat.beq a b && eqP l m
 | [],_::_=>false
 | _::_,[]=>false
inductive Sh(U:Uni) where
 | p (t:U.T)
 | ip (t:U.T)
 | fn (f:Nat) (a b:List (Sh U))
 | ag (t:U.T) (fs:List (Sh U))
 | tup (l:List (Sh U))
 | row (r:Nat)
 | ptr (r j:Nat) (p:List Nat)
 | nilf
 | nilp
 | ns (e:U.T)
 | u
 | rv (r:Nat) (e:U.T)
mutual
def Sh.ty:Sh U->List U.T->List U.T
 | .p t,l=>t::l
 | .ip t,l=>t::l
 | .fn _ a b,l=>shTy a (shTy b l)
 | .ag _ fs,l=>shTy fs l
 | .tup vs,l=>shTy vs l
 | .row _,l=>l
 | .ptr _ _ _,l=>l
 | .nilf,l=>l
 | .nilp,l=>l
 | .ns _,l=>l
 | .u,l=>l
 | .rv _ _,l=>U.tn::U.tn::l
def shTy:List (Sh U)->List U.T->List U.T
 | [],l=>l
 | x::xs,l=>x.ty (shTy xs l)
end
mutual
def Sh.of:(sh:Sh U)->{l:List U.T}->Tup U (sh.ty l)->N U×Tup U l
 | .p t,_,s=>(.v t (thd s),ttl s)
 | .ip t,_,s=>(.ip (.v t (thd s)) 0 [],ttl s)
 | .fn f a b,_,s=>(.fn f (shOf a s).1 (shOf b (shOf a s).2).1,(shOf b (shOf a s).2).2)
 | .ag t fs,_,s=>(.ag t (shOf fs s).1,(shOf fs s).2)
 | .tup vs,_,s=>(.tup (shOf vs s).1,(shOf vs s).2)
 | .row r,_,s=>(.row r,s)
 | .ptr r j p,_,s=>(.ptr r j p,s)
 | .nilf,_,s=>(.nilf,s)
 | .nilp,_,s=>(.nilp,s)
 | .ns e,_,s=>(.ns e,s)
 | .u,_,s=>(.u,s)
 | .rv r e,_,s=>(.rv r e (U.vn (thd s)) (U.vn (thd (ttl s))),ttl (ttl s))
def shOf:(xs:List (Sh U))->{l:List U.T}->Tup U (shTy xs l)->List (N U)×Tup U l
 | [],_,s=>([],s)
 | x::xs,_,s=>((x.of s).1::(shOf xs (x.of s).2).1,(shOf xs (x.of s).2).2)
end
def Lf(U:Uni):=(t:U.T)->N U->Option (U.I t)
def lfX:Lf U:=fun t n=>match n with
 | .v t' x=>cast t t' x
 | _=>none
def lfT:Lf U:=fun t n=>asT [] t 30 n
mutual
def Sh.de(lf:Lf U):(sh:Sh U)->N U->{l:List U.T}->Tup U l->Option (Tup U (sh.ty l))
 | .p t,n,_,acc=>match lf t n with
  | some x=>some (tcons x acc)
  | none=>none
 | .ip t,n,_,acc=>match n with
  | .ip m 0 []=>match lf t m with
   | some x=>some (tcons x acc)
   | none=>none
  | _=>none
 | .fn f a b,n,_,acc=>match n with
  | .fn f' a' b'=>bif Nat.beq f f' then Option.bind (shDe lf b b' acc) fun s=>shDe lf a a' s
   else none
  | _=>none
 | .ag t fs,n,_,acc=>match n.fields with
  | some l=>shDe lf fs l acc
  | none=>none
 | .tup vs,n,_,acc=>match n with
  | .tup l=>shDe lf vs l acc
  | _=>none
 | .row r,n,_,acc=>match n with
  | .row q=>bif Nat.beq q r then some acc else none
  | _=>none
 | .ptr r j p,n,_,acc=>match n with
  | .ptr q j' p'=>bif Nat.beq q r && Nat.beq j' j && eqP p' p then some acc else none
  | _=>none
 | .nilf,n,_,acc=>match n with
  | .nilf=>some acc
  | _=>none
 | .nilp,n,_,acc=>match n with
  | .nilp=>some acc
  | _=>none
 | .ns _,n,_,acc=>match n with
  | .ns _=>some acc
  | _=>none
 | .u,n,_,acc=>match n with
  | .u=>some acc
  | _=>none
 | .rv r e,n,_,acc=>match n with
  | .rv q e' lo m=>bif Nat.beq q r then match U.dec e' e with
   | .isTrue _=>some (tcons (U.nv lo) (tcons (U.nv m) acc))
   | .isFalse _=>none
   else none
  | _=>none
def shDe(lf:Lf U):(xs:List (Sh U))->List (N U)->{l:List U.T}->Tup U l->Option (Tup U (shTy xs l))
 | [],[],_,acc=>some acc
 | x::xs,n::ns,_,acc=>Option.bind (shDe lf xs ns acc) fun s=>x.de lf n s
 | [],_::_,_,_=>none
 | _::_,[],_,_=>none
end
section
variable {lf:Lf U} {l:List U.T} {acc:Tup U l}
theorem de_p{t:U.T}{n:N U}:(Sh.p t).de lf n acc=match lf t n with
  | some x=>some (tcons x acc)
  | none=>none:=rfl
theorem de_ip{t:U.T}{n:N U}:(Sh.ip t).de lf n acc=match n with
  | .ip m 0 []=>match lf t m with
   | some x=>some (tcons x acc)
   | none=>none
  | _=>none:=rfl
theorem de_fn{f:Nat}{a b:List (Sh U)}{n:N U}:(Sh.fn f a b).de lf n acc=match n with
  | .fn f' a' b'=>bif Nat.beq f f' then Option.bind (shDe lf b b' acc) fun s=>shDe lf a a' s
   else none
  | _=>none:=rfl
theorem de_ag{t:U.T}{fs:List (Sh U)}{n:N U}:(Sh.ag t fs).de lf n acc=match n.fields with
  | some l=>shDe lf fs l acc
  | none=>none:=rfl
theorem none_some{α:Type}{x:α}(h:(none:Option α)=some x):False:=by cases h
theorem de_tup{vs:List (Sh U)}{n:N U}{s:Tup U (shTy vs l)}(h:(Sh.tup vs).de lf n acc=some s):∃ l',n=.tup l'/\shDe lf vs l' acc=some s:=by
 cases n<;>first|exact⟨_,rfl,h⟩|exact(none_some h).elim
theorem de_row{r:Nat}{n:N U}:(Sh.row r).de lf n acc=match n with
  | .row q=>bif Nat.beq q r then some acc else none
  | _=>none:=rfl
theorem de_ptr{r j:Nat}{p:List Nat}{n:N U}:(Sh.ptr r j p).de lf n acc=match n with
  | .ptr q j' p'=>bif Nat.beq q r && Nat.beq j' j && eqP p' p then some acc else none
  | _=>none:=rfl
theorem de_nilf{n:N U}:(Sh.nilf).de lf n acc=match n with
  | .nilf=>some acc
  | _=>none:=rfl
theorem de_ns{e:U.T}{n:N U}:(Sh.ns e).de lf n acc=match n with
  | .ns _=>some acc
  | _=>none:=rfl
theorem de_rv{r:Nat}{e:U.T}{n:N U}:(Sh.rv r e).de lf n acc=match n with
  | .rv q e' lo m=>bif Nat.beq q r then match U.dec e' e with
   | .isTrue _=>some (tcons (U.nv lo) (tcons (U.nv m) acc))
   | .isFalse _=>none
   else none
  | _=>none:=rfl
theorem de_u{n:N U}:(Sh.u).de lf n acc=match n with
  | .u=>some acc
  | _=>none:=rfl
theorem de_nilp{n:N U}:(Sh.nilp).de lf n acc=match n with
  | .nilp=>some acc
  | _=>none:=rfl
theorem deL_nil{s:Tup U l}(h:shDe lf ([]:List (Sh U)) ([]:List (N U)) acc=some s):acc=s:=Option.some.inj h
theorem deL_cons{x:Sh U}{xs:List (Sh U)}{n:N U}{ns:List (N U)}:shDe lf (x::xs) (n::ns) acc=Option.bind (shDe lf xs ns acc) fun s=>x.de lf n s:=rfl
end
structure RelOk(U:Uni)(Rl:List AV->List AV->Prop):Prop where
 nil:Rl [] []
 app:∀ a b c d,Rl a b->Rl c d->Rl (a++c) (b++d)
 ip:∀ cs (t:U.T) (x:U.I t),Rl cs (U.C t x)->Rl [.ip false cs] [.ip false (U.C t x)]
 agg:∀ cs ds,Rl cs ds->Rl [.agg cs] [.agg ds]
 tup:∀ cs ds,Rl cs ds->Rl [.tup cs] [.tup ds]
 fn:∀ f a b c d,Rl a b->Rl c d->Rl [.fn f a c] [.fn f b d]
 refl:∀ x,Rl [x] [x]
section
variable (hU:U.Ok) {Rl:List AV->List AV->Prop} (hR:RelOk U Rl) {lf:Lf U}
 (hl:∀(t:U.T) (n:N U) (x:U.I t),lf t n=some x->Rl n.cells (U.C t x)/\n.st=U.st t)
include hU hR
theorem rel_one{n m:N U}(h:Rl n.cells m.cells)(hs:n.st=m.st):Rl [n.abs] [m.abs]:=by
 cases hn:n.st
 ·rw[st_cell hU n hn,st_cell hU m (by rw[<-hs,hn])]at h;exact h
 ·rw[st_agg hU n hn,st_agg hU m (by rw[<-hs,hn])];exact hR.agg _ _ h
include hl
mutual
theorem de_ok:∀(sh:Sh U) {n:N U} {l:List U.T} {acc:Tup U l} {s:Tup U (sh.ty l)},sh.de lf n acc=some s->Rl n.cells (sh.of s).1.cells/\n.st=(sh.of s).1.st/\(sh.of s).2=acc
 | .p t,n,l,acc,s,h=>by
  rw[de_p]at h
  split at h
  ·rename_i x hx
   obtain rfl:=Option.some.inj h
   obtain⟨h1,h2⟩:=hl t n x hx
   simp only[Sh.of,thd_cons,ttl_cons,cells_v hU,N.st]
   exact⟨h1,h2,trivial⟩
  ·cases h
 | .ip t,n,l,acc,s,h=>by
  rw[de_ip]at h
  split at h
  ·split at h
   ·rename_i m _ x hx
    obtain rfl:=Option.some.inj h
    obtain⟨h1,h2⟩:=hl t m x hx
    simp only[Sh.of,thd_cons,ttl_cons,N.st,true_and]
    have:=hR.ip _ t x h1
    refine⟨?_,trivial⟩
    show Rl [.ip false (List.drop 0 m.cells)] [.ip false (List.drop 0 (cellsOf (V U t x)))]
    rw[cells_V hU];exact this
   ·cases h
  ·cases h
 | .fn f a b,n,l,acc,s,h=>by
  rw[de_fn]at h
  split at h
  ·rename_i f' a' b'
   cases hf:Nat.beq f f'<;>rw[hf]at h
   ·cases h
   ·have hf:=Nat.eq_of_beq_eq_true hf
    subst hf
    simp only[cond_true]at h
    obtain⟨s',hb,h⟩:=bind_some' hU h
    obtain⟨a1,a2⟩:=deL_ok a h
    obtain⟨b1,b2⟩:=deL_ok b hb
    simp only[Sh.of,a2.2]
    exact⟨hR.fn _ _ _ _ _ a2.1 b2.1,rfl,b2.2⟩
  ·cases h
 | .ag t fs,n,l,acc,s,h=>by
  rw[de_ag]at h
  split at h
  ·rename_i ns hf
   obtain⟨a1,a2⟩:=deL_ok fs h
   obtain⟨f1,f2,f3⟩:=fields_ok hU hf
   simp only[Sh.of]
   exact⟨by rw[f1];exact a1,f3,a2.2⟩
  ·cases h
 | .tup vs,n,l,acc,s,h=>by
  obtain⟨ns,rfl,h⟩:=de_tup h
  obtain⟨a1,a2⟩:=deL_ok vs h
  simp only[Sh.of]
  exact⟨hR.tup _ _ a2.1,rfl,a2.2⟩
 | .row r,n,l,acc,s,h=>by
  rw[de_row]at h
  split at h
  ·rename_i q
   cases hq:Nat.beq q r<;>rw[hq]at h
   ·cases h
   ·obtain rfl:=Nat.eq_of_beq_eq_true hq
    obtain rfl:=Option.some.inj h
    exact⟨hR.refl _,rfl,rfl⟩
  ·cases h
 | .rv r e,n,l,acc,s,h=>by
  rw[de_rv]at h
  split at h
  ·rename_i q e' lo m
   cases hq:Nat.beq q r<;>rw[hq]at h
   ·cases h
   ·obtain rfl:=Nat.eq_of_beq_eq_true hq
    simp only[cond_true]at h
    split at h
    ·rename_i he _
     subst he
     obtain rfl:=Option.some.inj h
     simp only[Sh.of,thd_cons,ttl_cons,hU.vn_nv]
     exact⟨hR.refl _,trivial,trivial⟩
    ·cases h
  ·cases h
 | .ptr r j p,n,l,acc,s,h=>by
  rw[de_ptr]at h
  split at h
  ·rename_i q j' p'
   cases hq:(Nat.beq q r && Nat.beq j' j && eqP p' p)<;>rw[hq]at h
   ·cases h
   ·simp only[Bool.and_eq_true]at hq
    obtain rfl:=Nat.eq_of_beq_eq_true hq.1.1
    obtain rfl:=Nat.eq_of_beq_eq_true hq.1.2
    obtain rfl:=Option.some.inj h
    exact⟨hR.refl _,rfl,rfl⟩
  ·cases h
 | .u,n,l,acc,s,h=>by
  rw[de_u]at h
  split at h
  ·obtain rfl:=Option.some.inj h
   exact⟨hR.refl _,rfl,rfl⟩
  ·cases h
 | .nilf,n,l,acc,s,h=>by
  rw[de_nilf]at h
  split at h
  ·obtain rfl:=Option.some.inj h
   exact⟨hR.refl _,rfl,rfl⟩
  ·cases h
 | .nilp,n,l,acc,s,h=>by
  rw[de_nilp]at h
  split at h
  ·obtain rfl:=Option.some.inj h
   exact⟨hR.refl _,rfl,rfl⟩
  ·cases h
 | .ns e,n,l,acc,s,h=>by
  rw[de_ns]at h
  split at h
  ·obtain rfl:=Option.some.inj h
   exact⟨hR.refl _,rfl,rfl⟩
  ·cases h
theorem deL_ok:∀(xs:List (Sh U)) {ns:List (N U)} {l:List U.T} {acc:Tup U l} {s:Tup U (shTy xs l)},shDe lf xs ns acc=some s ->
  Rl (absC ns) (absC (shOf xs s).1)/\Rl (absL ns) (absL (shOf xs s).1)/\(shOf xs s).2=acc
 | [],[],l,acc,s,h=>by
  have:=deL_nil h
  subst this
  exact⟨hR.nil,hR.nil,rfl⟩
 | x::xs,n::ns,l,acc,s,h=>by
  rw[deL_cons]at h
  obtain⟨s',hs,h⟩:=bind_some' hU h
  obtain⟨h1,h2,h3⟩:=de_ok x h
  obtain⟨k1,k2,k3⟩:=deL_ok xs hs
  simp only[shOf,absC,absL,h3]
  refine⟨hR.app _ _ _ _ h1 k1,?_,k3⟩
  exact hR.app [_] [_] _ _ (rel_one hU hR h1 h2) k2
 | [],_::_,l,acc,s,h=>by cases h
 | _::_,[],l,acc,s,h=>by cases h
end
end
theorem relEq(U:Uni):RelOk U (fun a b=>a=b):=
 ⟨rfl,fun _ _ _ _ h k=>by rw[h,k],fun _ _ _ h=>by rw[h],fun _ _ h=>by rw[h],fun _ _ h=>by rw[h],fun _ _ _ _ _ h k=>by rw[h,k],fun _=>rfl⟩
theorem LEL_app:∀ {a b c d:List AV},LEL a b->LEL c d->LEL (a++c) (b++d)
 | _,_,_,_,.nil,k=>k
 | _,_,_,_,.cons x y xs ys h hs,k=>.cons x y _ _ h (LEL_app hs k)
section
variable (hU:U.Ok)
include hU
theorem relLE:RelOk U LEL:=
 ⟨.nil,fun _ _ _ _ h k=>LEL_app h k,fun _ t x h=>.cons _ _ _ _ (.ip _ _ _ _ h (hU.pure t x) (fun q=>q)) .nil,fun _ _ h=>.cons _ _ _ _ (.agg _ _ h) .nil,fun _ _ h=>.cons _ _ _ _ (.tup _ _ h) .nil,fun _ _ _ _ _ h k=>.cons _ _ _ _ (.fn _ _ _ _ _ h k) .nil,fun x=>.cons _ _ _ _ (.refl x) .nil⟩
theorem lfX_ok(t:U.T)(n:N U)(x:U.I t)(h:lfX t n=some x):n.cells=U.C t x/\n.st=U.st t:=by
 unfold lfX at h
 split at h
 ·have:=cast_ok h
  cases this
  exact⟨cells_v hU _ _,rfl⟩
 ·cases h
theorem lfT_ok(t:U.T)(n:N U)(x:U.I t)(h:lfT t n=some x):LEL n.cells (U.C t x)/\n.st=U.st t:=by
 have:=asT_ok hU (fun _=>.nilFunc) 30 [] t n h
 exact⟨(FZL_nil this.1).1,this.2⟩
theorem LEL_one{x y:AV}(h:LEL [x] [y]):LE x y:=by cases h with|cons _ _ _ _ h _=>exact h
theorem exSh_ok{sh:Sh U}{n:N U}{l:List U.T}{acc:Tup U l}{s:Tup U (sh.ty l)}(h:sh.de lfX n acc=some s):(sh.of s).1.abs=n.abs/\(sh.of s).2=acc:=by
 obtain⟨h1,h2,h3⟩:=de_ok hU (relEq U) (fun t n x h=>lfX_ok hU t n x h) sh h
 have:=rel_one hU (relEq U) h1 h2
 exact⟨by simpa using this.symm,h3⟩
theorem leSh_ok{sh:Sh U}{n:N U}{l:List U.T}{acc:Tup U l}{s:Tup U (sh.ty l)}(h:sh.de lfT n acc=some s):LE n.abs (sh.of s).1.abs/\LEL n.cells (sh.of s).1.cells/\(sh.of s).2=acc:=by
 obtain⟨h1,h2,h3⟩:=de_ok hU (relLE hU) (fun t n x h=>lfT_ok hU t n x h) sh h
 exact⟨LEL_one hU (rel_one hU (relLE hU) h1 h2),h1,h3⟩
end
end
end Go.Ab.X

set_option linter.all false
namespace Go.Ab.X
open Go.RowKit Go.Ab
section
variable {U:Uni} {R:Type}
inductive HSh(U:Uni) where
 | gone
 | pin (r:Nat)
 | box (tid:TypeId) (sh:Sh U)
 | row (tid:TypeId) (t:U.T)
 | map (t:U.T)
 | keep
structure LSh(U:Uni) where
 ts:List (Nat×Sh U)
 hs:List (HSh U)
 ks:List Nat
def tTy:List (Nat×Sh U)->List U.T->List U.T
 | [],l=>l
 | x::xs,l=>x.2.ty (tTy xs l)
def HSh.ty:HSh U->List U.T->List U.T
 | .gone,l=>l
 | .pin _,l=>l
 | .box _ sh,l=>sh.ty l
 | .row _ t,l=>t::l
 | .map t,l=>t::l
 | .keep,l=>l
def hTy:List (HSh U)->List U.T->List U.T
 | [],l=>l
 | x::xs,l=>x.ty (hTy xs l)
def LSh.ty(L:LSh U):List U.T:=tTy L.ts (hTy L.hs [])
def tOf:(xs:List (Nat×Sh U))->{l:List U.T}->Tup U (tTy xs l)->List (Nat×N U)×Tup U l
 | [],_,s=>([],s)
 | x::xs,_,s=>((x.1,(x.2.of s).1)::(tOf xs (x.2.of s).2).1,(tOf xs (x.2.of s).2).2)
def roOf:HB U->HB U
 | .box t n=>.ro t n
 | h=>h
def hd0:List (HB U)->HB U
 | []=>.gone
 | h::_=>h
def HSh.of(ro:Bool)(h0:HB U):(x:HSh U)->{l:List U.T}->Tup U (x.ty l)->HB U×Tup U l
 | .gone,_,s=>(.gone,s)
 | .pin r,_,s=>(.pin r,s)
 | .box tid sh,_,s=>(.box tid (sh.of s).1,(sh.of s).2)
 | .row tid t,_,s=>(match U.vw t (thd s)with
  | .lst e l=>.row tid e l
  | _=>.gone,ttl s)
 | .map t,_,s=>(match U.vw t (thd s)with
  | .mp q kt vt _ l=>.map q kt vt l
  | _=>.gone,ttl s)
 | .keep,_,s=>(bif ro then roOf h0 else h0,s)
def hOf(ro:Bool):(xs:List (HSh U))->List (HB U)->{l:List U.T}->Tup U (hTy xs l)->List (HB U)×Tup U l
 | [],_,_,s=>([],s)
 | x::xs,H0,_,s=>((x.of ro (hd0 H0) s).1::(hOf ro xs H0.tail (x.of ro (hd0 H0) s).2).1,(hOf ro xs H0.tail (x.of ro (hd0 H0) s).2).2)
def keepT(T:List (Nat×N U)):List Nat->List (Nat×N U)
 | []=>[]
 | k::ks=>(k,lkN T k)::keepT T ks
def memN(k:Nat):List Nat->Bool
 | []=>false
 | x::l=>Nat.beq x k || memN k l
def keepE(ks:List Nat):List (Nat×Fct)->List (Nat×Fct)
 | []=>[]
 | (d,f)::l=>bif memN d ks && (f.isBnd || f.isPos)then(d,f)::keepE ks l else keepE ks l
def LSh.of(L:LSh U)(ro:Bool)(s0:St U)(s:Tup U L.ty):St U:=⟨(tOf L.ts s).1++keepT s0.T L.ks,(hOf ro L.hs s0.H (tOf L.ts s).2).1,keepE L.ks s0.E⟩
def HSh.isKeep:HSh U->Bool
 | .keep=>true
 | .gone=>false
 | .pin _=>false
 | .box _ _=>false
 | .row _ _=>false
 | .map _=>false
def roH:List (HSh U)->List (HB U)->List (HB U)
 | x::hs,h::H=>(bif x.isKeep then roOf h else h)::roH hs H
 | [],H=>H
 | _::_,[]=>[]
def rstH:List (HSh U)->List (HB U)->List (HB U)->List (HB U)
 | x::hs,H,h'::H'=>(bif x.isKeep then hd0 H else h')::rstH hs H.tail H'
 | [],_,H'=>H'
 | _::_,_,[]=>[]
def roS(L:LSh U)(s:St U):St U:=⟨s.T,roH L.hs s.H,s.E⟩
def rst(L:LSh U)(s0 s:St U):St U:=⟨s.T,rstH L.hs s0.H s.H,s.E⟩
def tDe(T:List (Nat×N U)):(xs:List (Nat×Sh U))->{l:List U.T}->Tup U l->Option (Tup U (tTy xs l))
 | [],_,acc=>some acc
 | x::xs,_,acc=>Option.bind (tDe T xs acc) fun s=>x.2.de lfT (lkN T x.1) s
def HSh.de(lf:Lf U):(x:HSh U)->HB U->{l:List U.T}->Tup U l->Option (Tup U (x.ty l))
 | .gone,_,_,acc=>some acc
 | .pin r,h,_,acc=>match h with
  | .pin q=>bif Nat.beq q r then some acc else none
  | _=>none
 | .box tid sh,h,_,acc=>match h with
  | .box tid' n=>bif Nat.beq tid' tid then sh.de lf n acc else none
  | _=>none
 | .row tid t,h,_,acc=>match h with
  | .row tid' e l=>bif Nat.beq tid' tid then Option.bind (U.inj t (.lst e l)) fun x=>some (tcons x acc)else none
  | _=>none
 | .map t,h,_,acc=>match h with
  | .map q kt vt l=>Option.bind (U.inj t (.mp q kt vt (U.st vt) l)) fun x=>some (tcons x acc)
  | _=>none
 | .keep,_,_,acc=>some acc
def hDe(lf:Lf U):(xs:List (HSh U))->List (HB U)->{l:List U.T}->Tup U l->Option (Tup U (hTy xs l))
 | [],_,_,acc=>some acc
 | x::xs,h::H,_,acc=>Option.bind (hDe lf xs H acc) fun s=>x.de lf h s
 | _::_,[],_,_=>none
mutual
def Sh.rf(n:Nat):Sh U->Bool
 | .p _=>true
 | .ip _=>true
 | .fn _ a b=>shRf n a && shRf n b
 | .ag _ fs=>shRf n fs
 | .tup l=>shRf n l
 | .row r=>Nat.blt r n
 | .ptr r _ _=>Nat.blt r n
 | .nilf=>true
 | .nilp=>true
 | .ns _=>true
 | .u=>true
 | .rv r _=>Nat.blt r n
def shRf(n:Nat):List (Sh U)->Bool
 | []=>true
 | x::xs=>x.rf n && shRf n xs
end
def tRf(n:Nat):List (Nat×Sh U)->Bool
 | []=>true
 | x::xs=>x.2.rf n && tRf n xs
def HSh.rf(n:Nat):HSh U->Bool
 | .gone=>true
 | .pin r=>Nat.blt r n
 | .box _ sh=>sh.rf n
 | .row _ _=>true
 | .map _=>true
 | .keep=>true
def hRf(n:Nat):List (HSh U)->Bool
 | []=>true
 | x::xs=>x.rf n && hRf n xs
mutual
def rfN(n:Nat):N U->Bool
 | .row q=>Nat.blt q n
 | .ptr q _ _=>Nat.blt q n
 | .rptr q _ _ _ _=>Nat.blt q n
 | .ag _ fs=>rfNs n fs
 | .tup vs=>rfNs n vs
 | .fn _ a b=>rfNs n a && rfNs n b
 | .v _ _=>true
 | .tl _ _=>true
 | .ns _=>true
 | .ip _ _ _=>true
 | .nilp=>true
 | .nilf=>true
 | .nili=>true
 | .u=>true
 | .ub=>true
 | .rv q _ _ _=>Nat.blt q n
def rfNs(n:Nat):List (N U)->Bool
 | []=>true
 | x::l=>rfN n x && rfNs n l
end
def kpT(T:List (Nat×N U))(ts:List (Nat×Sh U)):List Nat->Bool
 | []=>true
 | k::ks=>pureN (lkN T k) && !memN k (ts.map (·.1)) && kpT T ts ks
def kp1(n:Nat)(x:HSh U)(h:HB U):Bool:=bif x.isKeep then match h with
  | .box _ m=>rfN n m
  | .ro _ m=>rfN n m
  | .gone=>false
  | .pin _=>false
  | .row _ _ _=>false
  | .map _ _ _ _=>false
 else match h with
  | .ro _ _=>false
  | _=>true
def noRo:List (HB U)->Bool
 | []=>true
 | .ro _ _::_=>false
 | _::l=>noRo l
def kpH(n:Nat):List (HSh U)->List (HB U)->Bool
 | x::hs,H=>kp1 n x (hd0 H) && kpH n hs H.tail
 | [],H=>noRo H
def LSh.okE(L:LSh U)(s:St U):Bool:=tRf L.hs.length L.ts && hRf L.hs.length L.hs && kpT s.T L.ts L.ks && kpH L.hs.length L.hs s.H
def LSh.de(L:LSh U)(s:St U):Option (Tup U L.ty):=Option.bind (hDe lfT L.hs s.H (l:=[]) ()) fun h=>tDe s.T L.ts h
mutual
theorem ref_pure{n:Nat}:∀(x:AV),pureB x=true->refB n x=true
 | .u,h=>by simp[pureB]at h
 | .i _ _,_=>rfl
 | .b _,_=>rfl
 | .s _,_=>rfl
 | .agg cs,h=>by simp only[refB];exact refL_pure cs (by simpa [pureB] using h)
 | .tup cs,h=>by simp only[refB];exact refL_pure cs (by simpa [pureB] using h)
 | .sl _ _ _,_=>rfl
 | .nils,_=>rfl
 | .row _,h=>by simp[pureB]at h
 | .ptr _ _,h=>by simp[pureB]at h
 | .rptr _ _ _ _,h=>by simp[pureB]at h
 | .ip _ _,_=>rfl
 | .nilp,_=>rfl
 | .fn f a b,h=>by
  simp only[pureB,Bool.and_eq_true]at h
  simp only[refB,Bool.and_eq_true];exact⟨refL_pure a h.1,refL_pure b h.2⟩
 | .nilf,_=>rfl
 | .nili,_=>rfl
 | .ub,h=>by simp[pureB]at h
 | .rv _ _ _ _,h=>by simp[pureB]at h
 | .mv _ _,_=>rfl
theorem refL_pure{n:Nat}:∀(x:List AV),pureL x=true->refL n x=true
 | [],_=>rfl
 | c::cs,h=>by
  simp only[pureL,Bool.and_eq_true]at h
  simp only[refL,Bool.and_eq_true];exact⟨ref_pure c h.1,refL_pure cs h.2⟩
end
theorem refL_cells{n:Nat}{x:AV}(h:refB n x=true):refL n (cellsOf x)=true:=by
 cases x<;>simp_all [cellsOf,refL,refB]
section
variable (hU:U.Ok)
include hU
mutual
theorem rf_of{n:Nat}:∀(sh:Sh U) {l:List U.T} (s:Tup U (sh.ty l)),sh.rf n=true->refB n (sh.of s).1.abs=true
 | .p t,_,s,_=>ref_pure _ (V_pure hU t _)
 | .ip t,_,s,_=>rfl
 | .fn f a b,_,s,h=>by
  simp only[Sh.rf,Bool.and_eq_true]at h
  simp only[Sh.of,N.abs,refB,Bool.and_eq_true]
  exact⟨(rf_ofL a s h.1).1,(rf_ofL b _ h.2).1⟩
 | .ag t fs,_,s,h=>by
  simp only[Sh.rf]at h
  simp only[Sh.of,N.abs,refB]
  exact(rf_ofL fs s h).2
 | .tup vs,_,s,h=>by
  simp only[Sh.rf]at h
  simp only[Sh.of,N.abs,refB]
  exact(rf_ofL vs s h).1
 | .row r,_,s,h=>by simpa [Sh.rf,Sh.of,N.abs,refB] using h
 | .ptr r j p,_,s,h=>by simpa [Sh.rf,Sh.of,N.abs,refB] using h
 | .nilf,_,s,_=>rfl
 | .u,_,s,_=>rfl
 | .nilp,_,s,_=>rfl
 | .ns _,_,s,_=>rfl
 | .rv r _,_,s,h=>by simpa [Sh.rf,Sh.of,N.abs,refB] using h
theorem rf_ofL{n:Nat}:∀(xs:List (Sh U)) {l:List U.T} (s:Tup U (shTy xs l)),shRf n xs=true->refL n (absL (shOf xs s).1)=true/\refL n (absC (shOf xs s).1)=true
 | [],_,s,_=>⟨rfl,rfl⟩
 | x::xs,_,s,h=>by
  simp only[shRf,Bool.and_eq_true]at h
  have h1:=rf_of x s h.1
  have h2:=rf_ofL xs (x.of s).2 h.2
  simp only[shOf,absL,absC,refL,Bool.and_eq_true,refL_append]
  exact⟨⟨h1,h2.1⟩,refL_cells h1,h2.2⟩
end
theorem rf_ofT{n:Nat}:∀(xs:List (Nat×Sh U)) {l:List U.T} (s:Tup U (tTy xs l)),tRf n xs=true->refT n (absT (tOf xs s).1)=true
 | [],_,s,_=>rfl
 | x::xs,_,s,h=>by
  simp only[tRf,Bool.and_eq_true]at h
  simp only[tOf,absT,refT,Bool.and_eq_true]
  exact⟨rf_of hU x.2 s h.1,rf_ofT xs _ h.2⟩
mutual
theorem rfN_ok{n:Nat}:∀(x:N U),rfN n x=true->refB n x.abs=true
 | .row q,h=>by simpa [rfN,N.abs,refB] using h
 | .ptr q _ _,h=>by simpa [rfN,N.abs,refB] using h
 | .rptr q _ _ _ _,h=>by simpa [rfN,N.abs,refB] using h
 | .ag _ fs,h=>by simp only[rfN]at h;simp only[N.abs,refB];exact(rfNs_ok fs h).2
 | .tup vs,h=>by simp only[rfN]at h;simp only[N.abs,refB];exact(rfNs_ok vs h).1
 | .fn _ a b,h=>by simp only[rfN,Bool.and_eq_true]at h;simp only[N.abs,refB,Bool.and_eq_true];exact⟨(rfNs_ok a h.1).1,(rfNs_ok b h.2).1⟩
 | .v t x,_=>ref_pure _ (V_pure hU t x)
 | .tl _ _,_=>rfl
 | .ns _,_=>rfl
 | .ip _ _ _,_=>rfl
 | .nilp,_=>rfl
 | .nilf,_=>rfl
 | .nili,_=>rfl
 | .u,_=>rfl
 | .ub,_=>rfl
 | .rv q _ _ _,h=>by simpa [rfN,N.abs,refB] using h
theorem rfNs_ok{n:Nat}:∀(l:List (N U)),rfNs n l=true->refL n (absL l)=true/\refL n (absC l)=true
 | [],_=>⟨rfl,rfl⟩
 | x::l,h=>by
  simp only[rfNs,Bool.and_eq_true]at h
  have h1:=rfN_ok x h.1
  have h2:=rfNs_ok l h.2
  simp only[absL,absC,refL,Bool.and_eq_true,refL_append]
  exact⟨⟨h1,h2.1⟩,refL_cells h1,h2.2⟩
end
theorem rf_ofHx{n:Nat}(ro:Bool)(b:Value){x:HSh U}{h0:HB U}(hk:x=.keep->refA n (absB b h0)=true){l:List U.T}(s:Tup U (x.ty l))(h:x.rf n=true):refA n (absB b (x.of ro h0 s).1)=true:=by
 cases x with
 | gone=>rfl
 | pin r=>simpa [HSh.rf,HSh.of,absB,refA] using h
 | box tid sh =>
  simp only[HSh.rf]at h
  exact refL_cells (rf_of hU sh s h)
 | row tid t =>
  simp only[HSh.of]
  split
  ·rename_i e l' hv
   simp only[absB,refA]
   have hp:=pureE_C hU e l'
   have:∀(els:List (List AV)),pureE els=true->refL n els.flatten=true:=by
    intro els
    induction els with
    | nil=>intro _;rfl
    | cons c cs ih=>intro h;simp only[pureE,Bool.and_eq_true]at h;simp[refL_append,refL_pure _ h.1,ih h.2]
   exact this _ hp
  ·rfl
 | map t =>
  simp only[HSh.of]
  split<;>rfl
 | keep =>
  have:=hk rfl
  cases ro
  ·exact this
  ·cases h0<;>exact this
theorem kp1_ref{n:Nat}{x:HSh U}{h0:HB U}(h:kp1 n x h0=true)(b:Value):x=.keep->refA n (absB b h0)=true:=by
 rintro rfl
 simp only[kp1,HSh.isKeep,cond_true]at h
 cases h0 with
 | box t m=>exact refL_cells (rfN_ok hU m h)
 | ro t m=>exact refL_cells (rfN_ok hU m h)
 | gone=>cases h
 | pin q=>cases h
 | row t e l=>cases h
 | map _ _ _ _=>cases h
theorem rf_ofH{n:Nat}(ro:Bool)(β:Nat->Value):∀(xs:List (HSh U)) (H0:List (HB U)) (k:Nat) {l:List U.T} (s:Tup U (hTy xs l)),hRf n xs=true->kpH n xs H0=true->refH n (absH β k (hOf ro xs H0 s).1)=true
 | [],H0,k,_,s,_,_=>rfl
 | x::xs,H0,k,_,s,h,hk=>by
  simp only[hRf,Bool.and_eq_true]at h
  simp only[kpH,Bool.and_eq_true]at hk
  have ih:=rf_ofH ro β xs H0.tail (k+1) (x.of ro (hd0 H0) s).2 h.2 hk.2
  simp only[hOf,absH,refH,Bool.and_eq_true]
  exact⟨rf_ofHx hU ro (β k) (kp1_ref hU hk.1 (β k)) s h.1,ih⟩
theorem tDe_ok{T:List (Nat×N U)}:∀(xs:List (Nat×Sh U)) {l:List U.T} {acc:Tup U l} {s:Tup U (tTy xs l)},tDe T xs acc=some s->TL (absT T) (absT (tOf xs s).1)/\(tOf xs s).2=acc
 | [],l,acc,s,h=>by
  have:acc=s:=Option.some.inj h
  subst this
  exact⟨.nil,rfl⟩
 | x::xs,l,acc,s,h=>by
  obtain⟨s',h1,h2⟩:=bind_some' hU (show Option.bind (tDe T xs acc) (fun s=>x.2.de lfT (lkN T x.1) s)=some s from h)
  obtain⟨k1,k2⟩:=tDe_ok xs h1
  obtain⟨q1,q2,q3⟩:=leSh_ok hU h2
  simp only[tOf,absT,q3]
  exact⟨.cons _ _ _ (by rw[lk_abs];exact q1) k1,k2⟩
theorem hsDe_ok(ro:Bool)(b:Value){x:HSh U}{h h0:HB U}{l:List U.T}{acc:Tup U l}{s:Tup U (x.ty l)}(hk:x=.keep->absB b h=absB b h0)(hd:x.de lfT h acc=some s):BL (absB b h) (absB b (x.of ro h0 s).1)/\(x.of ro h0 s).2=acc:=by
 cases x with
 | gone=>have:acc=s:=Option.some.inj hd;subst this;exact⟨.gone _,rfl⟩
 | keep =>
  have:acc=s:=Option.some.inj hd;subst this
  refine⟨?_,rfl⟩
  have:=hk rfl
  rw[this]
  cases ro
  ·exact .refl _
  ·cases h0<;>exact .refl _
 | pin r =>
  cases h with
  | pin q =>
   have hd:(bif Nat.beq q r then some acc else none)=some s:=hd
   cases hq:Nat.beq q r<;>rw[hq]at hd
   ·exact(none_some hd).elim
   ·obtain rfl:=Nat.eq_of_beq_eq_true hq
    have:acc=s:=Option.some.inj hd
    subst this
    exact⟨.refl _,rfl⟩
  | _=>exact(none_some hd).elim
 | box tid sh =>
  cases h with
  | box tid' n =>
   have hd:(bif Nat.beq tid' tid then sh.de lfT n acc else none)=some s:=hd
   cases hq:Nat.beq tid' tid<;>rw[hq]at hd
   ·exact(none_some hd).elim
   ·obtain rfl:tid'=tid:=Nat.eq_of_beq_eq_true hq
    obtain⟨q1,q2,q3⟩:=leSh_ok hU (show sh.de lfT n acc=some s from hd)
    exact⟨.box _ _ _ q2,q3⟩
  | _=>exact(none_some hd).elim
 | row tid t =>
  cases h with
  | row tid' e l' =>
   have hd:(bif Nat.beq tid' tid then Option.bind (U.inj t (.lst e l')) fun x=>some (tcons x acc)else none)=some s:=hd
   cases hq:Nat.beq tid' tid<;>rw[hq]at hd
   ·exact(none_some hd).elim
   ·obtain rfl:tid'=tid:=Nat.eq_of_beq_eq_true hq
    obtain⟨y,h1,h2⟩:=bind_some' hU (show Option.bind (U.inj t (.lst e l')) (fun x=>some (tcons x acc))=some s from hd)
    have:tcons y acc=s:=Option.some.inj h2
    subst this
    have hv:=hU.inj_ok _ _ _ h1
    simp only[HSh.of,thd_cons,ttl_cons,hv]
    exact⟨.refl _,trivial⟩
  | _=>exact(none_some hd).elim
 | map t =>
  cases h with
  | map q kt vt l' =>
   obtain⟨y,h1,h2⟩:=bind_some' hU (show Option.bind (U.inj t (.mp q kt vt (U.st vt) l')) (fun x=>some (tcons x acc))=some s from hd)
   have:tcons y acc=s:=Option.some.inj h2
   subst this
   have hv:=hU.inj_ok _ _ _ h1
   simp only[HSh.of,thd_cons,ttl_cons,hv]
   exact⟨.refl _,trivial⟩
  | _=>exact(none_some hd).elim
theorem hDe_ok(ro:Bool)(β:Nat->Value):∀(xs:List (HSh U)) (H H0:List (HB U)) (k:Nat) {l:List U.T} {acc:Tup U l} {s:Tup U (hTy xs l)},(∀(r:Nat) (b:Value),xs[r]? = some HSh.keep->(H[r]?).map (absB b)=(some ((H0[r]?).getD .gone)).map (absB b))->hDe lfT xs H acc=some s ->
  HL (absH β k H) (absH β k (hOf ro xs H0 s).1)/\(hOf ro xs H0 s).2=acc/\(hOf ro xs H0 s).1.length=xs.length
 | [],H,H0,k,l,acc,s,hk,h=>by
  have:acc=s:=Option.some.inj h
  subst this
  exact⟨.nil _,rfl,rfl⟩
 | x::xs,h::H,H0,k,l,acc,s,hk,hd=>by
  obtain⟨s',h1,h2⟩:=bind_some' hU (show Option.bind (hDe lfT xs H acc) (fun s=>x.de lfT h s)=some s from hd)
  have hk':∀(r:Nat) (b:Value),xs[r]? = some HSh.keep->(H[r]?).map (absB b)=(some ((H0.tail[r]?).getD .gone)).map (absB b):=by
   intro r b hr
   have:=hk (r+1) b (by simpa using hr)
   cases H0<;>simpa using this
  obtain⟨k1,k2,k3⟩:=hDe_ok ro β xs H H0.tail (k+1) hk' h1
  have hx:x=.keep->absB (β k) h=absB (β k) (hd0 H0):=by
   rintro rfl
   have:=hk 0 (β k) rfl
   cases H0<;>simpa [hd0] using this
  obtain⟨q1,q2⟩:=hsDe_ok hU ro (β k) hx h2
  simp only[hOf,absH,q2,List.length_cons,k3]
  exact⟨.cons _ _ _ _ q1 k1,k2,trivial⟩
 | _::_,[],H0,k,l,acc,s,_,h=>(none_some h).elim
omit hU in
theorem absT_app(a b:List (Nat×N U)):absT (a++b)=absT a++absT b:=by
 induction a with
 | nil=>rfl
 | cons p a ih=>obtain⟨k,v⟩:=p;simp only[List.cons_append,absT,ih]
def Kpt(L:LSh U)(s0 s:St U):Prop:=(∀ k∈L.ks,lkN s.T k=lkN s0.T k)/\∀(r:Nat) (b:Value),L.hs[r]? = some HSh.keep->(s.H[r]?).map (absB b)=(some ((s0.H[r]?).getD .gone)).map (absB b)
theorem LSh.de_ok(ro:Bool)(β:Nat->Value){L:LSh U}{s0 s:St U}{x:Tup U L.ty}(hc:L.okE s0=true)(hk:Kpt L s0 s)(h:L.de s=some x):Wks (absS β s) (absS β (L.of ro s0 x)):=by
 unfold LSh.okE at hc
 simp only[Bool.and_eq_true]at hc
 obtain⟨⟨⟨c1,c2⟩,c3⟩,c4⟩:=hc
 unfold LSh.de at h
 obtain⟨a,h1,h2⟩:=bind_some' hU h
 obtain⟨k1,k2⟩:=tDe_ok hU _ h2
 subst k2
 obtain⟨q1,q2,q3⟩:=hDe_ok hU ro β L.hs s.H s0.H 0 hk.2 h1
 have e:(L.of ro s0 x).H.length=L.hs.length:=q3
 have hT:TL (absT s.T) (absT (L.of ro s0 x).T)/\refT L.hs.length (absT (L.of ro s0 x).T)=true:=by
  have hr:=rf_ofT hU L.ts x c1
  show TL (absT s.T) (absT ((tOf L.ts x).1++keepT s0.T L.ks))/\refT L.hs.length (absT ((tOf L.ts x).1++keepT s0.T L.ks))=true
  rw[absT_app]
  have kept:∀(ks:List Nat),(∀ k∈ks,lkN s.T k=lkN s0.T k)->kpT s0.T L.ts ks=true->TL (absT s.T) (absT (keepT s0.T ks))/\refT L.hs.length (absT (keepT s0.T ks))=true:=by
   intro ks
   induction ks with
   | nil=>intro _ _;exact⟨.nil,rfl⟩
   | cons k ks ih =>
    intro hl hp
    simp only[kpT,Bool.and_eq_true]at hp
    obtain⟨i1,i2⟩:=ih (fun k hk=>hl k (List.mem_cons_of_mem _ hk)) hp.2
    simp only[keepT,absT,refT,Bool.and_eq_true]
    refine⟨.cons _ _ _ ?_ i1,ref_pure _ (pureN_ok hU hp.1.1),i2⟩
    rw[lk_abs,hl k (List.mem_cons_self ..)]
    exact .refl _
  obtain⟨i1,i2⟩:=kept L.ks hk.1 c3
  have app:∀ {T A B:List (Nat×AV)},TL T A->TL T B->TL T (A++B):=by
   intro T A B hA hB
   induction hA with
   | nil=>exact hB
   | cons k v l h hs ih=>exact .cons k v _ h ih
  have app2:∀ {n:Nat} {A B:List (Nat×AV)},refT n A=true->refT n B=true->refT n (A++B)=true:=by
   intro n A B hA hB
   induction A with
   | nil=>exact hB
   | cons p A ih=>obtain⟨k,v⟩:=p;simp only[refT,List.cons_append,Bool.and_eq_true]at hA ⊢;exact⟨hA.1,ih hA.2⟩
  exact⟨app k1 i1,app2 hr i2⟩
 refine Wks.mk hT.1 q1 ?_ ?_
 ·rw[absH_len,e];exact hT.2
 ·rw[absH_len,e];exact rf_ofH hU ro β _ _ 0 _ c2 c4
theorem hsX_ok(b:Value){x:HSh U}{h:HB U}{l:List U.T}{acc:Tup U l}{s:Tup U (x.ty l)}(hk:x.isKeep=false)(hg:x≠.gone)(hd:x.de lfX h acc=some s):absB b h=absB b (x.of false .gone s).1/\(x.of false .gone s).2=acc:=by
 cases x with
 | gone=>exact absurd rfl hg
 | keep=>cases hk
 | pin r =>
  cases h with
  | pin q =>
   have hd:(bif Nat.beq q r then some acc else none)=some s:=hd
   cases hq:Nat.beq q r<;>rw[hq]at hd
   ·exact(none_some hd).elim
   ·obtain rfl:=Nat.eq_of_beq_eq_true hq
    have:acc=s:=Option.some.inj hd
    subst this
    exact⟨rfl,rfl⟩
  | _=>exact(none_some hd).elim
 | box tid sh =>
  cases h with
  | box tid' n =>
   have hd:(bif Nat.beq tid' tid then sh.de lfX n acc else none)=some s:=hd
   cases hq:Nat.beq tid' tid<;>rw[hq]at hd
   ·exact(none_some hd).elim
   ·obtain rfl:tid'=tid:=Nat.eq_of_beq_eq_true hq
    obtain⟨q1,q2⟩:=exSh_ok hU (show sh.de lfX n acc=some s from hd)
    refine⟨?_,q2⟩
    simp only[HSh.of,absB,N.cells,q1]
  | _=>exact(none_some hd).elim
 | row tid t =>
  cases h with
  | row tid' e l' =>
   have hd:(bif Nat.beq tid' tid then Option.bind (U.inj t (.lst e l')) fun x=>some (tcons x acc)else none)=some s:=hd
   cases hq:Nat.beq tid' tid<;>rw[hq]at hd
   ·exact(none_some hd).elim
   ·obtain rfl:tid'=tid:=Nat.eq_of_beq_eq_true hq
    obtain⟨y,h1,h2⟩:=bind_some' hU (show Option.bind (U.inj t (.lst e l')) (fun x=>some (tcons x acc))=some s from hd)
    have:tcons y acc=s:=Option.some.inj h2
    subst this
    have hv:=hU.inj_ok _ _ _ h1
    simp only[HSh.of,thd_cons,ttl_cons,hv]
    exact⟨trivial,trivial⟩
  | _=>exact(none_some hd).elim
 | map t =>
  cases h with
  | map q kt vt l' =>
   obtain⟨y,h1,h2⟩:=bind_some' hU (show Option.bind (U.inj t (.mp q kt vt (U.st vt) l')) (fun x=>some (tcons x acc))=some s from hd)
   have:tcons y acc=s:=Option.some.inj h2
   subst this
   have hv:=hU.inj_ok _ _ _ h1
   simp only[HSh.of,thd_cons,ttl_cons,hv]
   exact⟨trivial,trivial⟩
  | _=>exact(none_some hd).elim
end
def HSh.solid:HSh U->Bool
 | .box _ _=>true
 | .row _ _=>true
 | .map _=>true
 | _=>false
def solids:List (HSh U)->Bool
 | []=>true
 | x::xs=>x.solid && solids xs
def lenEq{α γ:Type}:List α->List γ->Bool
 | [],[]=>true
 | _::a,_::b=>lenEq a b
 | [],_::_=>false
 | _::_,[]=>false
theorem lenEq_ok{α γ:Type}:∀ {a:List α} {b:List γ},lenEq a b=true->a.length=b.length
 | [],[],_=>rfl
 | _::a,_::b,h=>by simp[lenEq_ok (show lenEq a b=true from h)]
 | [],_::_,h=>by cases h
 | _::_,[],h=>by cases h
section
variable (hU:U.Ok)
include hU
theorem hX_ok(β:Nat->Value):∀(xs:List (HSh U)) (H:List (HB U)) (k:Nat) {l:List U.T} {acc:Tup U l} {s:Tup U (hTy xs l)},solids xs=true->lenEq xs H=true->hDe lfX xs H acc=some s ->
  absH β k H=absH β k (hOf false xs [] s).1/\(hOf false xs [] s).2=acc
 | [],[],k,l,acc,s,_,_,h=>by
  have:acc=s:=Option.some.inj h
  subst this
  exact⟨rfl,rfl⟩
 | x::xs,h::H,k,l,acc,s,hs,hl,hd=>by
  simp only[solids,Bool.and_eq_true]at hs
  obtain⟨s',h1,h2⟩:=bind_some' hU (show Option.bind (hDe lfX xs H acc) (fun s=>x.de lfX h s)=some s from hd)
  obtain⟨k1,k2⟩:=hX_ok β xs H (k+1) hs.2 (show lenEq xs H=true from hl) h1
  have hx:=hs.1
  obtain⟨q1,q2⟩:=hsX_ok hU (β k) (by cases x<;>first|rfl|cases hx) (by rintro rfl;cases hx) h2
  simp only[hOf,absH,List.tail_nil,hd0,q2,q1,k1]
  exact⟨trivial,k2⟩
 | [],_::_,k,l,acc,s,_,hl,h=>by cases hl
 | _::_,[],k,l,acc,s,_,_,h=>(none_some h).elim
end
section
theorem cast_self(t:U.T)(x:U.I t):cast t t x=some x:=by
 unfold cast
 split
 ·rfl
 ·rename_i h _;exact absurd rfl h
theorem tcons_eta{t:U.T}:∀ {l:List U.T} (s:Tup U (t::l)),tcons (thd s) (ttl s)=s
 | [],_=>rfl
 | _::_,_=>rfl
theorem beq_self(n:Nat):Nat.beq n n=true:=Nat.beq_eq ▸ rfl
theorem eqP_self:∀ p:List Nat,eqP p p=true
 | []=>rfl
 | a::p=>by simp only[eqP,beq_self,eqP_self p,Bool.and_self]
mutual
theorem de_of(hU:U.Ok):∀(sh:Sh U) {l:List U.T} (s:Tup U (sh.ty l)),sh.de lfX (sh.of s).1 (sh.of s).2=some s
 | .p t,l,s=>by
  show(match cast t t (thd s)with|some x=>some (tcons x (ttl s))|none=>none)=some s
  rw[cast_self];exact congrArg some (tcons_eta s)
 | .ip t,l,s=>by
  show(match cast t t (thd s)with|some x=>some (tcons x (ttl s))|none=>none)=some s
  rw[cast_self];exact congrArg some (tcons_eta s)
 | .fn f a b,l,s=>by
  show(bif Nat.beq f f then Option.bind (shDe lfX b (shOf b (shOf a s).2).1 (shOf b (shOf a s).2).2) (fun s'=>shDe lfX a (shOf a s).1 s')else none)=some s
  rw[beq_self,cond_true,de_ofs hU b (shOf a s).2]
  exact de_ofs hU a s
 | .ag t fs,l,s=>de_ofs hU fs s
 | .tup vs,l,s=>de_ofs hU vs s
 | .row r,l,s=>by
  show(bif Nat.beq r r then some s else none)=some s
  rw[beq_self];rfl
 | .ptr r j p,l,s=>by
  show(bif Nat.beq r r && Nat.beq j j && eqP p p then some s else none)=some s
  rw[beq_self,beq_self,eqP_self];rfl
 | .nilf,l,s=>rfl
 | .u,l,s=>rfl
 | .nilp,l,s=>rfl
 | .ns _,l,s=>rfl
 | .rv r e,l,s=>by
  rw[de_rv]
  simp only[Sh.of,beq_self,cond_true,hU.nv_vn]
  split
  ·exact congrArg some ((congrArg (tcons (thd s)) (tcons_eta (ttl s))).trans (tcons_eta s))
  ·rename_i h _;exact absurd rfl h
theorem de_ofs(hU:U.Ok):∀(xs:List (Sh U)) {l:List U.T} (s:Tup U (shTy xs l)),shDe lfX xs (shOf xs s).1 (shOf xs s).2=some s
 | [],l,s=>rfl
 | x::xs,l,s=>by
  show Option.bind (shDe lfX xs (shOf xs (x.of s).2).1 (shOf xs (x.of s).2).2) (fun s'=>x.de lfX (x.of s).1 s')=some s
  rw[de_ofs hU xs (x.of s).2]
  exact de_of hU x s
end
def RowsOk:List (HSh U)->Prop
 | []=>True
 | .row _ t::l=>(∀ x:U.I t,∃ e y,U.vw t x=.lst e y)/\RowsOk l
 | .map t::l=>(∀ x:U.I t,∃ q kt vt sb y,U.vw t x=.mp q kt vt sb y)/\RowsOk l
 | .box _ _::l=>RowsOk l
 | .gone::l=>RowsOk l
 | .pin _::l=>RowsOk l
 | .keep::l=>RowsOk l
theorem hde_of(hU:U.Ok):∀(xs:List (HSh U)) {l:List U.T} (s:Tup U (hTy xs l)),solids xs=true->RowsOk xs->hDe lfX xs (hOf false xs [] s).1 (hOf false xs [] s).2=some s/\lenEq xs (hOf false xs [] s).1=true
 | [],l,s,_,_=>⟨rfl,rfl⟩
 | x::xs,l,s,hs,hr=>by
  simp only[solids,Bool.and_eq_true]at hs
  cases x with
  | box tid sh =>
   obtain⟨h1,h2⟩:=hde_of hU xs (sh.of s).2 hs.2 hr
   refine⟨?_,h2⟩
   show Option.bind (hDe lfX xs (hOf false xs [] (sh.of s).2).1 (hOf false xs [] (sh.of s).2).2) (fun s'=>bif Nat.beq tid tid then sh.de lfX (sh.of s).1 s' else none)=some s
   rw[h1,Option.bind_some,beq_self]
   exact de_of hU sh s
  | row tid t =>
   obtain⟨h1,h2⟩:=hde_of hU xs (ttl (t:=t) s) hs.2 hr.2
   refine⟨?_,h2⟩
   obtain⟨e,y,hv⟩:=hr.1 (thd s)
   show Option.bind (hDe lfX xs (hOf false xs [] (ttl (t:=t) s)).1 (hOf false xs [] (ttl (t:=t) s)).2) (fun s'=>(HSh.row tid t).de lfX (match U.vw t (thd s)with
    | .lst e l=>HB.row tid e l
    | _=>.gone) s')=some s
   rw[h1,Option.bind_some,hv]
   show(bif Nat.beq tid tid then Option.bind (U.inj t (.lst e y)) (fun x=>some (tcons x (ttl s)))else none)=some s
   rw[beq_self,<-hv,hU.inj_vw]
   exact congrArg some (tcons_eta s)
  | map t =>
   obtain⟨h1,h2⟩:=hde_of hU xs (ttl (t:=t) s) hs.2 hr.2
   refine⟨?_,h2⟩
   obtain⟨q,kt,vt,sb,y,hv⟩:=hr.1 (thd s)
   have hsb:=(hU.mps _ _ _ _ _ _ _ hv).1
   show Option.bind (hDe lfX xs (hOf false xs [] (ttl (t:=t) s)).1 (hOf false xs [] (ttl (t:=t) s)).2) (fun s'=>(HSh.map t).de lfX (match U.vw t (thd s)with
    | .mp q kt vt _ l=>HB.map q kt vt l
    | _=>.gone) s')=some s
   rw[h1,Option.bind_some,hv]
   show Option.bind (U.inj t (.mp q kt vt (U.st vt) y)) (fun x=>some (tcons x (ttl s)))=some s
   rw[<-hsb,<-hv,hU.inj_vw]
   exact congrArg some (tcons_eta s)
  | gone=>cases hs.1
  | pin _=>cases hs.1
  | keep=>cases hs.1
end
end
end Go.Ab.X

set_option linter.all false
namespace Go.Ab.X
open Go.RowKit Go.Ab
section
variable {U:Uni}
def fixQ(f:Nat->Option Nat)(r:Nat):Bool:=match f r with
 | some q=>Nat.beq q r
 | none=>false
def nuN(f:Option Nat)(k:Nat->N U):N U:=match f with
 | some q=>k q
 | none=>.u
mutual
def rnN(f:Nat->Option Nat):N U->N U
 | .row r=>nuN (f r) .row
 | .ptr r j p=>nuN (f r) fun q=>.ptr q j p
 | .rptr r e i j p=>nuN (f r) fun q=>.rptr q e i j p
 | .ag t fs=>.ag t (rnNs f fs)
 | .tup vs=>.tup (rnNs f vs)
 | .fn g a b=>.fn g (rnNs f a) (rnNs f b)
 | .v t x=>.v t x
 | .tl e l=>.tl e l
 | .ns e=>.ns e
 | .ip n j p=>.ip n j p
 | .nilp=>.nilp
 | .nilf=>.nilf
 | .nili=>.nili
 | .u=>.u
 | .ub=>.ub
 | .rv r e lo n=>nuN (f r) fun q=>.rv q e lo n
def rnNs(f:Nat->Option Nat):List (N U)->List (N U)
 | []=>[]
 | n::l=>rnN f n::rnNs f l
end
mutual
def fixN(f:Nat->Option Nat):N U->Bool
 | .row r=>fixQ f r
 | .ptr r _ _=>fixQ f r
 | .rptr r _ _ _ _=>fixQ f r
 | .ag _ fs=>fixNs f fs
 | .tup vs=>fixNs f vs
 | .fn _ a b=>fixNs f a && fixNs f b
 | .v _ _=>true
 | .tl _ _=>true
 | .ns _=>true
 | .ip _ _ _=>true
 | .nilp=>true
 | .nilf=>true
 | .nili=>true
 | .u=>true
 | .ub=>true
 | .rv r _ _ _=>fixQ f r
def fixNs(f:Nat->Option Nat):List (N U)->Bool
 | []=>true
 | n::l=>fixN f n && fixNs f l
end
theorem fixQ_ok{f:Nat->Option Nat}{r:Nat}(h:fixQ f r=true):f r=some r:=by
 unfold fixQ at h
 split at h
 ·rename_i q hq;rw[hq,Nat.eq_of_beq_eq_true h]
 ·cases h
mutual
theorem rn_fix{f:Nat->Option Nat}:∀(n:N U),fixN f n=true->rnN f n=n
 | .row r,h=>by simp only[rnN,fixQ_ok (show fixQ f r=true from h),nuN]
 | .ptr r _ _,h=>by simp only[rnN,fixQ_ok (show fixQ f r=true from h),nuN]
 | .rptr r _ _ _ _,h=>by simp only[rnN,fixQ_ok (show fixQ f r=true from h),nuN]
 | .ag _ fs,h=>by simp only[rnN];rw[rn_fixs fs h]
 | .tup vs,h=>by simp only[rnN];rw[rn_fixs vs h]
 | .fn _ a b,h=>by simp only[fixN,Bool.and_eq_true]at h;simp only[rnN];rw[rn_fixs a h.1,rn_fixs b h.2]
 | .v _ _,_=>rfl
 | .tl _ _,_=>rfl
 | .ns _,_=>rfl
 | .ip _ _ _,_=>rfl
 | .nilp,_=>rfl
 | .nilf,_=>rfl
 | .nili,_=>rfl
 | .u,_=>rfl
 | .ub,_=>rfl
 | .rv r _ _ _,h=>by simp only[rnN,fixQ_ok (show fixQ f r=true from h),nuN]
theorem rn_fixs{f:Nat->Option Nat}:∀(l:List (N U)),fixNs f l=true->rnNs f l=l
 | [],_=>rfl
 | n::l,h=>by simp only[fixNs,Bool.and_eq_true]at h;simp only[rnNs];rw[rn_fix n h.1,rn_fixs l h.2]
end
mutual
theorem fix_pure{f:Nat->Option Nat}:∀(n:N U),pureN n=true->fixN f n=true
 | .row r,h=>by cases h
 | .ptr r _ _,h=>by cases h
 | .rptr r _ _ _ _,h=>by cases h
 | .ag _ fs,h=>fix_pures fs h
 | .tup vs,h=>fix_pures vs h
 | .fn _ a b,h=>by simp only[pureN,Bool.and_eq_true]at h;simp only[fixN,fix_pures a h.1,fix_pures b h.2,Bool.and_self]
 | .v _ _,_=>rfl
 | .tl _ _,_=>rfl
 | .ns _,_=>rfl
 | .ip _ _ _,_=>rfl
 | .nilp,_=>rfl
 | .nilf,_=>rfl
 | .nili,_=>rfl
 | .u,_=>rfl
 | .ub,_=>rfl
 | .rv r _ _ _,h=>by cases h
theorem fix_pures{f:Nat->Option Nat}:∀(l:List (N U)),pureNs l=true->fixNs f l=true
 | [],_=>rfl
 | n::l,h=>by simp only[pureNs,Bool.and_eq_true]at h;simp only[fixNs,fix_pure n h.1,fix_pures l h.2,Bool.and_self]
end
def rnTN(f:Nat->Option Nat):List (Nat×N U)->List (Nat×N U)
 | []=>[]
 | (k,v)::l=>(k,rnN f v)::rnTN f l
def rnHB(f:Nat->Option Nat):HB U->HB U
 | .box t n=>.box t (rnN f n)
 | .ro t n=>.ro t (rnN f n)
 | .row t e l=>.row t e l
 | .map q kt vt l=>.map q kt vt l
 | .gone=>.gone
 | .pin r=>match f r with
  | some q=>.pin q
  | none=>.gone
def selHN(sel:List Nat)(H:List (HB U)):List (HB U):=sel.map fun r=>rnHB (posL sel) (H[r]?.getD .gone)
def updHN(sel:List Nat)(Hout:List (HB U))(bk keep:Nat->Option Nat):Nat->List (HB U)->List (HB U)
 | _,[]=>[]
 | q,x::l=>(match posL sel q with
  | some k=>rnHB bk (Hout[k]?.getD .gone)
  | none=>rnHB keep x)::updHN sel Hout bk keep (q+1) l
def boxIx(v:Nat):Nat->List (HB U)->List Nat
 | _,[]=>[]
 | k,.box _ _::l=>k::boxIx v (k+1) l
 | k,.map _ _ _ _::l=>k::boxIx v (k+1) l
 | k,.row _ _ _::l=>bif Nat.ble 10 v then k::boxIx v (k+1) l else boxIx v (k+1) l
 | k,_::l=>boxIx v (k+1) l
def noPin:List (HB U)->Bool
 | []=>true
 | .pin _::_=>false
 | _::l=>noPin l
section
variable (hU:U.Ok) {f:Nat->Option Nat}
include hU
mutual
theorem rn_pure:∀(x:AV),pureB x=true->rn f x=x
 | .u,h=>by simp[pureB]at h
 | .i _ _,_=>rfl
 | .b _,_=>rfl
 | .s _,_=>rfl
 | .agg cs,h=>by simp only[rn];rw[rnL_pure cs (by simpa [pureB] using h)]
 | .tup cs,h=>by simp only[rn];rw[rnL_pure cs (by simpa [pureB] using h)]
 | .sl _ _ _,_=>rfl
 | .nils,_=>rfl
 | .row _,h=>by simp[pureB]at h
 | .ptr _ _,h=>by simp[pureB]at h
 | .rptr _ _ _ _,h=>by simp[pureB]at h
 | .ip _ _,_=>rfl
 | .nilp,_=>rfl
 | .fn f a b,h=>by
  simp only[pureB,Bool.and_eq_true]at h
  simp only[rn];rw[rnL_pure a h.1,rnL_pure b h.2]
 | .nilf,_=>rfl
 | .nili,_=>rfl
 | .ub,h=>by simp[pureB]at h
 | .rv _ _ _ _,h=>by simp[pureB]at h
 | .mv _ _,_=>rfl
theorem rnL_pure:∀(x:List AV),pureL x=true->rnL f x=x
 | [],_=>rfl
 | c::cs,h=>by
  simp only[pureL,Bool.and_eq_true]at h
  simp only[rnL];rw[rn_pure c h.1,rnL_pure cs h.2]
end
theorem cellsOf_rn(x:AV):cellsOf (rn f x)=rnL f (cellsOf x):=by
 cases x<;>simp only[rn,cellsOf,rnL]
 case row q=>cases f q<;>rfl
 case ptr q j=>cases f q<;>rfl
 case rptr q sz i j=>cases f q<;>rfl
 case rv q sz i j=>cases f q<;>rfl
mutual
theorem abs_rn:∀(n:N U),(rnN f n).abs=rn f n.abs
 | .v t x=>(rn_pure hU _ (V_pure hU t x)).symm
 | .tl _ _=>rfl
 | .ns _=>rfl
 | .ag _ fs=>by simp only[rnN,N.abs,rn];rw[absC_rn fs]
 | .tup vs=>by simp only[rnN,N.abs,rn];rw[absL_rn vs]
 | .row q=>by simp only[rnN,N.abs,rn];cases f q<;>rfl
 | .ptr q _ _=>by simp only[rnN,N.abs,rn];cases f q<;>rfl
 | .rptr q e i j p=>by simp only[rnN,N.abs,rn];cases f q<;>rfl
 | .ip _ _ _=>rfl
 | .fn _ a b=>by simp only[rnN,N.abs,rn];rw[absL_rn a,absL_rn b]
 | .nilp=>rfl
 | .nilf=>rfl
 | .nili=>rfl
 | .u=>rfl
 | .ub=>rfl
 | .rv q e i j=>by simp only[rnN,N.abs,rn];cases f q<;>rfl
theorem absL_rn:∀(l:List (N U)),absL (rnNs f l)=rnL f (absL l)
 | []=>rfl
 | n::l=>by simp only[rnNs,absL,rnL];rw[abs_rn n,absL_rn l]
theorem absC_rn:∀(l:List (N U)),absC (rnNs f l)=rnL f (absC l)
 | []=>rfl
 | n::l=>by simp only[rnNs,absC,rnL_app];rw[abs_rn n,absC_rn l,cellsOf_rn hU]
end
theorem absT_rn:∀(T:List (Nat×N U)),absT (rnTN f T)=rnT f (absT T)
 | []=>rfl
 | (k,v)::T=>by simp only[rnTN,absT,rnT];rw[abs_rn hU,absT_rn T]
theorem rnE_C(e:U.T)(l:List (U.I e)):rnE f (l.map (U.C e))=l.map (U.C e):=by
 induction l with
 | nil=>rfl
 | cons x l ih=>simp only[List.map_cons,rnE,ih,rnL_pure hU _ (hU.pure e x)]
theorem absB_rn(b:Value)(x:HB U):absB b (rnHB f x)=rnB f (absB b x):=by
 cases x with
 | gone=>rfl
 | pin q=>simp only[rnHB,absB,rnB];cases f q<;>rfl
 | box t n=>simp only[rnHB,absB,rnB,N.cells,abs_rn hU,cellsOf_rn hU]
 | ro t n=>simp only[rnHB,absB,rnB,N.cells,abs_rn hU,cellsOf_rn hU]
 | row t e l=>simp only[rnHB,absB,rnB,rnE_C hU]
 | map _ _ _ _=>rfl
omit hU in
theorem noPin_abs(β β':Nat->Value):∀(H:List (HB U)) (k k':Nat),noPin H=true->absH β k H=absH β' k' H
 | [],_,_,_=>rfl
 | .pin _::H,_,_,h=>by cases h
 | .gone::H,k,k',h=>by simp only[absH,absB];rw[noPin_abs β β' H _ _ (show noPin H=true from h)]
 | .box _ _::H,k,k',h=>by simp only[absH,absB];rw[noPin_abs β β' H _ _ (show noPin H=true from h)]
 | .ro _ _::H,k,k',h=>by simp only[absH,absB];rw[noPin_abs β β' H _ _ (show noPin H=true from h)]
 | .row _ _ _::H,k,k',h=>by simp only[absH,absB];rw[noPin_abs β β' H _ _ (show noPin H=true from h)]
 | .map _ _ _ _::H,k,k',h=>by simp only[absH,absB];rw[noPin_abs β β' H _ _ (show noPin H=true from h)]
omit hU in
theorem noPin_get:∀ {H:List (HB U)} {r:Nat} {q:Nat},noPin H=true->H[r]?≠some (.pin q)
 | [],r,q,_,h=>by simp at h
 | x::H,0,q,hn,h=>by simp at h;subst h;cases hn
 | x::H,r+1,q,hn,h=>by
  refine noPin_get (H:=H) (r:=r) (q:=q) ?_ (by simpa using h)
  cases x<;>first|exact hn|cases hn
theorem abs_selL(β β':Nat->Value){H:List (HB U)}:∀(l:List Nat) (k:Nat),noPin (l.map fun r=>rnHB f (H[r]?.getD .gone))=true ->
  absH β' k (l.map fun r=>rnHB f (H[r]?.getD .gone))=l.map fun r=>rnB f ((absH β 0 H)[r]?.getD .gone):=by
 intro l
 induction l with
 | nil=>intro k _;rfl
 | cons r l ih =>
  intro k hn
  have hn':noPin (l.map fun r=>rnHB f (H[r]?.getD .gone))=true:=by
   rw[List.map_cons]at hn
   cases hx:rnHB f (H[r]?.getD .gone)<;>rw[hx]at hn<;>first|exact hn|cases hn
  simp only[List.map_cons,absH]
  rw[ih (k+1) hn']
  congr 1
  rw[absH_get]
  cases hr:H[r]? with
  | none=>rfl
  | some x =>
   simp only[Option.getD_some,Option.map_some]
   rw[<-absB_rn hU]
   cases x with
   | pin q =>
    simp only[List.map_cons,hr,Option.getD_some,rnHB]at hn ⊢
    cases hq:f q with
    | none=>rfl
    | some q'=>rw[hq]at hn;cases hn
   | map _ _ _ _=>rfl
   | _=>rfl
theorem abs_sel(β β':Nat->Value){sel:List Nat}{H:List (HB U)}(hp:noPin (selHN sel H)=true):absH β' 0 (selHN sel H)=selH sel (absH β 0 H):=abs_selL hU β β' sel 0 hp
theorem abs_upd(β:Nat->Value){sel:List Nat}{Hout:List (HB U)}{bk keep:Nat->Option Nat}(hp:noPin Hout=true):∀(l:List (HB U)) (q:Nat),absH β q (updHN sel Hout bk keep q l)=updH sel (absH β 0 Hout) bk keep q (absH β q l)
 | [],q=>rfl
 | x::l,q=>by
  simp only[updHN,absH,updH]
  rw[abs_upd β hp l (q+1)]
  congr 1
  cases posL sel q with
  | none=>exact absB_rn hU _ _
  | some k =>
   simp only
   rw[absB_rn hU,absH_get]
   congr 1
   cases hk:Hout[k]? with
   | none=>rfl
   | some y =>
    simp only[Option.getD_some,Option.map_some]
    cases y with
    | pin p=>exact absurd hk (noPin_get hp)
    | _=>rfl
theorem abs_extra(β:Nat->Value){f:Nat->Option Nat}{X:List (HB U)}(hp:noPin X=true)(k:Nat):absH β k (X.map (rnHB f))=(absH β 0 X).map (rnB f):=by
 have key:∀(l:List (HB U)) (k k':Nat),noPin l=true->absH β k (l.map (rnHB f))=(absH β k' l).map (rnB f):=by
  intro l
  induction l with
  | nil=>intro k k' _;rfl
  | cons x l ih =>
   intro k k' hn
   have hn':noPin l=true:=by cases x<;>first|exact hn|cases hn
   simp only[List.map_cons,absH]
   rw[ih (k+1) (k'+1) hn',absB_rn hU]
   congr 2
   cases x with
   | pin _=>cases hn
   | _=>rfl
 exact key X k 0 hp
omit hU in
theorem boxIx_ok(β:Nat->Value)(v:Nat):∀(H:List (HB U)) (k q:Nat),q∈boxIx v k H->∃ j,q=k+j/\isBoxB ((absH β 0 H)[j]?)=true:=by
 intro H
 induction H with
 | nil=>intro k q h;cases h
 | cons x H ih =>
  intro k q h
  have tl:q∈boxIx v (k+1) H->∃ j,q=k+j/\isBoxB ((absH β 0 (x::H))[j]?)=true:=by
   intro h
   obtain⟨j,rfl,hj⟩:=ih (k+1) q h
   refine⟨j+1,by omega,?_⟩
   rw[absH_get]at hj ⊢
   simp only[List.getElem?_cons_succ]
   cases hx:H[j]? with
   | none=>rw[hx]at hj;exact hj
   | some y=>rw[hx]at hj;cases y<;>first|exact hj|cases hj|rfl
  cases x with
  | box t n =>
   rcases List.mem_cons.1 h with rfl|h
   ·exact⟨0,rfl,rfl⟩
   ·exact tl h
  | map q' kt vt l =>
   rcases List.mem_cons.1 h with rfl|h
   ·exact⟨0,rfl,rfl⟩
   ·exact tl h
  | row t e l =>
   simp only[boxIx]at h
   cases hv:Nat.ble 10 v<;>rw[hv]at h
   ·exact tl h
   ·rcases List.mem_cons.1 h with rfl|h
    ·exact⟨0,rfl,rfl⟩
    ·exact tl h
  | _=>exact tl h
end
end
end Go.Ab.X
