/- A part of the proof: AbI. -/
import Derived.Test.YtgkiahgcgjigkaaDoorAbH
import Derived.Lib.AppendZeros
import Derived.Laws.MakeOwn
set_option linter.all false
set_option linter.unusedVariables false
namespace Go.Ab
open Go.RowKit
section
variable {P:Program} {Γ : Ctx} {I:Addr->Prop} {θ:Nat->Option Value} {w:World} {st st':AS} {a:Act} {o:Oper}
theorem blk_slice{v:Value}{B:Nat}(h:∃ a l c,v=.slice a l c)(hb:blk v=some B):v.ownBlock=some B:=by
 obtain⟨a,l,c,rfl⟩:=h
 cases a<;>simp_all [blk,Value.ownBlock]
theorem own_slice'{w:World}{base:Nat}{e:TypeId}{size:Nat}{v:Value}{n:Nat}{xs:List Value}(h:w.ownsRow base e size v n xs):∃ a l c,v=.slice a l c:=by
 rcases h.2 with⟨rfl,_⟩|⟨g,cap,cur,rfl,_⟩<;>exact⟨_,_,_,rfl⟩
theorem own_blk{v:Value}{B:Nat}(h:∃ a l c,v=.slice a l c)(hb:v.ownBlock=some B):blk v=some B:=by
 obtain⟨a,l,c,rfl⟩:=h
 cases a with
 | none=>simp[Value.ownBlock]at hb
 | some a=>simpa [blk,Value.ownBlock] using hb
theorem LIM_le:LIM<=maxLen:=by unfold LIM maxLen;omega
theorem Sim.push_row{H:List AB}(S:Sim Γ I θ H w){w':World}{v:Value}{e:TypeId}{sz:Nat}{els:List (List AV)}{xs:List Value}(hg:w.grownBy w' none)
  (hown:w'.ownsRow 0 e sz v els.length xs) (hfresh:∀ g,v.ownBlock=some g->w.heap.size<=g) (h1:∀ u∈xs,u.oneCell'=true)
  (hv:RVs I θ w els.flatten xs) (hl:∀ el∈els,el.length=sz) (hs:0<sz) (hm:els.length<=LIM) :
  let θ':Nat->Option Value:=fun q=>if q=H.length then some v else θ q
  Sim Γ I θ' (H++[.row e sz els]) w'/\(∀ x v,RV I θ w x v->RV I θ' w' x v)/\RV I θ' w' (.row H.length) v:=by
 intro θ'
 have hθ:∀ q v,θ q=some v->θ' q=some v:=by
  intro q v h
  by_cases e:q=H.length
  ·rw[e,S.dom _ (Nat.le_refl _)]at h;cases h
  ·simp only[θ',if_neg e,h]
 have hbl:∀ k,k<w.heap.size->w'.heap[k]? = w.heap[k]?:=fun k hk=>hg.block k hk (by simp)
 have hc:∀ b,I b->Same w' w b:=fun b h=>Same.of (hbl _ (S.ilt b h))
 have hrv:∀ x v,RV I θ w x v->RV I θ' w' x v:=fun x v h=>RV_mono (fun _ h=>h) hc hθ x v h
 have hrvs:∀ x v,RVs I θ w x v->RVs I θ' w' x v:=fun x v h=>RVs_mono (fun _ h=>h) hc hθ x v h
 have hnew:∀ r B,owns (H++[.row e sz els]) θ' r B->(r<H.length/\owns H θ r B)\/(r=H.length/\w.heap.size<=B):=by
  rintro r B ⟨⟨x,hx,hlv⟩,v',hv',hb⟩
  rcases Nat.lt_trichotomy r H.length with h|h|h
  ·rw[List.getElem?_append_left h]at hx
   simp only[θ',if_neg (Nat.ne_of_lt h)]at hv'
   exact .inl ⟨h,⟨x,hx,hlv⟩,v',hv',hb⟩
  ·subst h
   simp only[θ',if_pos]at hv'
   obtain rfl:=Option.some.inj hv'
   exact .inr ⟨rfl,hfresh B (blk_slice (own_slice' hown) hb)⟩
  ·rw[List.getElem?_eq_none (by simp;omega)]at hx
   cases hx
 refine⟨⟨S.below.step hg.os hg.tape hg.output hg.size (fun k hk _=>hbl k hk),S.i0,S.inew,fun b h=>Nat.lt_of_lt_of_le (S.ilt b h) hg.size,?_,?_,?_,?_,?_,?_,?_,?_⟩,hrv,?_⟩
 ·intro r t' cs' h
  rcases Nat.lt_trichotomy r H.length with hl|hl|hl
  ·rw[List.getElem?_append_left hl]at h
   obtain⟨B,c',k1,k2,k3,k4,k5⟩:=S.box r t' cs' h
   exact⟨B,c',hθ _ _ k1,k2,(hbl B (Array.getElem?_eq_some_iff.1 k3).1).trans k3,k4,hrvs _ _ k5⟩
  ·subst hl
   simp at h
  ·rw[List.getElem?_eq_none (by simp;omega)]at h
   cases h
 ·intro r e' sz' els' h
  rcases Nat.lt_trichotomy r H.length with hll|hll|hll
  ·rw[List.getElem?_append_left hll]at h
   obtain⟨v',xs',k1,k2,k3,k4,k5⟩:=S.row r e' sz' els' h
   refine⟨v',xs',hθ _ _ k1,k2.kept hg ?_,k3,hrvs _ _ k4,k5⟩
   cases v'.ownBlock<;>simp
  ·subst hll
   simp at h
   obtain⟨rfl,rfl,rfl⟩:=h
   exact⟨v,xs,by simp[θ'],hown,h1,hrvs _ _ hv,hl,hs,hm⟩
  ·rw[List.getElem?_eq_none (by simp;omega)]at h
   cases h
 ·intro r q B hne hr hq
  rcases hnew r B hr with⟨h1,h2⟩|⟨h1,h2⟩<;>rcases hnew q B hq with⟨h3,h4⟩|⟨h3,h4⟩
  ·exact S.sep r q B hne h2 h4
  ·have:=(owns_lt S h2).2;omega
  ·have:=(owns_lt S h4).2;omega
  ·omega
 ·intro b r h ho
  rcases hnew r _ ho with⟨h1,h2⟩|⟨h1,h2⟩
  ·exact S.iso b r h h2
  ·have:=S.ilt b h;omega
 ·intro q hq
  simp only[List.length_append,List.length_cons,List.length_nil]at hq
  simp only[θ',if_neg (show q≠H.length by omega)]
  exact S.dom q (by omega)
 ·intro r B ho
  rcases hnew r B ho with⟨_,h2⟩|⟨_,h2⟩
  ·exact S.own r B h2
  ·exact Γ.new B (by have:=S.below.size;omega)
 ·intro q r B h
  rcases Nat.lt_trichotomy q H.length with hl|hl|hl
  ·rw[List.getElem?_append_left hl]at h
   exact hθ _ _ (S.pin q r B h)
  ·subst hl
   simp at h
  ·rw[List.getElem?_eq_none (by simp;omega)]at h
   cases h
 ·intro r q es h
  rcases Nat.lt_trichotomy r H.length with hl|hl|hl
  ·rw[List.getElem?_append_left hl]at h
   exact(S.map r q es h).mono (fun _ h=>h) hc (hθ r) (fun B o _ k=>(hbl B (Array.getElem?_eq_some_iff.1 k).1).trans k)
  ·subst hl
   simp at h
  ·rw[List.getElem?_eq_none (by simp;omega)]at h
   cases h
 ·simp only[RV]
  exact⟨by simp[θ'],.inl (own_slice' hown)⟩
theorem made_rv{z:Array Value}{cs:List AV}(h:RVs I θ w cs z.toList)(h1:∀ u∈z.toList,u.oneCell'=true)(hz:0<z.size):∀ n:Nat,
  RVs I θ w (List.replicate n cs).flatten ((Array.range (n * z.size)).map (z[· % z.size]!)).toList/\∀ u∈((Array.range (n * z.size)).map (z[· % z.size]!)).toList,u.oneCell'=true:=by
 have hlist:∀ n:Nat,((Array.range (n * z.size)).map (z[· % z.size]!)).toList=(List.range (n * z.size)).map (z[· % z.size]!):=by
  intro n
  simp
 have hz1:(List.range z.size).map (fun i=>z[i % z.size]!)=z.toList:=by
  apply List.ext_getElem
  ·simp
  ·intro i h1 h2
   simp at h1
   simp[Nat.mod_eq_of_lt h1,h1]
 intro n
 rw[hlist]
 induction n with
 | zero=>simp[RVs]
 | succ n ih =>
  have e:(List.range ((n+1) * z.size)).map (z[· % z.size]!)=z.toList++(List.range (n * z.size)).map (z[· % z.size]!):=by
   rw[Nat.succ_mul,Nat.add_comm,List.range_add,List.map_append,hz1,List.map_map]
   congr 1
   apply List.map_congr_left
   intro i _
   simp
  rw[e]
  refine⟨?_,fun u hu=>?_⟩
  ·rw[List.replicate_succ,List.flatten_cons]
   exact RVs_append h ih.1
  ·simp only[List.mem_append]at hu
   rcases hu with hu|hu
   ·exact h1 u hu
   ·exact ih.2 u hu
theorem ok_mks{t e:TypeId}{x z2:Operand}{x':Opd}{sz:Nat}{zero:List AV}{ie:TypeInfo}{z:Value}(ho:o.op=.makeSlice t x z2)(hu:P.underlying t=some (.slice e))(hie:P.info? e=some ie)(hz:ie.zero=some z)
  (hsz:ie.size=sz) (hzs:z.cells.size=sz) (hs0:0<sz) (hby:ie.bytes * LIM<=281474976710656) (hzero:constL z.cells.toList zero=true) (S:Sim Γ I θ st.H w) (hR:Rel I θ w st.T a)
  (hd:∀ k,o.dst=some k->k<a.tmps.size) (hx:opdOk x x'=true) (hx2:opdOk z2 x'=true) (hy:sv st o.dst (.mks e sz zero x')=some st'):Does P Γ w a o st':=by
 simp only[sv]at hy
 split at hy
 ·rename_i k n hq
  split at hy
  ·rename_i hc
   obtain rfl:=Option.some.inj hy
   obtain⟨h0,hm⟩:=hc
   have hx':=opd_rv hR hx
   have hx2':=opd_rv hR hx2
   rw[hq]at hx' hx2'
   simp only[RV]at hx' hx2'
   obtain⟨m,rfl⟩:=Int.eq_ofNat_of_zero_le h0
   simp only[Int.toNat_natCast]at hm ⊢
   obtain⟨z1,z2⟩:=constL_rv (I:=I) (θ:=θ) (w:=w) hzero
   obtain⟨r1,r2⟩:=made_rv z1 z2 (by omega) m
   have hbm:ie.bytes * m<=281474976710656:=Nat.le_trans (Nat.mul_le_mul_left _ hm) hby
   have hrun0:=run_make (P:=P) w t e ie z hu hie hz k k (m:Int) (m:Int) (by omega) (by omega) (by have h9:((ie.bytes * m:Nat):Int)<=((281474976710656:Nat):Int):=Int.ofNat_le.2 hbm;rw[Int.natCast_mul]at h9;exact h9) (by have h5:m<=2147483647:=hm;omega)
   simp only[Int.toNat_natCast,hsz]at hrun0
   have hrun:(execOp a.eval o).run P w=.ok (.value (.slice (some ⟨w.heap.size,0,none⟩) m m)) (w.alloc (.cells (madeCells z.cells (m * sz)) e)):=by
    simp[execOp,ho,hx'.1,hx2'.1,hrun0]
   subst hzs
   have hlen:(List.replicate m zero).length=m:=by simp
   have hzl:zero.length=z.cells.size:=by have:=RVs_length z1;simpa using this.symm
   obtain⟨k1,k2,k3⟩:=S.push_row (v:=.slice (some ⟨w.heap.size,0,none⟩) m m) (e:=e) (sz:=z.cells.size) (els:=List.replicate m zero) (xs:=(madeCells z.cells (m * z.cells.size)).toList)
    (w':=w.alloc (.cells (madeCells z.cells (m * z.cells.size)) e)) ⟨rfl,rfl,rfl,by simp,fun k hk _=>Below.heap_alloc _ _ _ hk⟩
    (by
     rw[hlen]
     refine⟨by simp[madeCells],.inr ⟨w.heap.size,m,madeCells z.cells (m * z.cells.size),rfl,Nat.zero_le _,heap_alloc_new w _,Nat.le_refl _,Nat.le_trans hm LIM_le,by simp[madeCells],?_⟩⟩
     exact List.take_of_length_le (by simp[madeCells]))
    (by intro g hg;simp[Value.ownBlock]at hg;omega) r2 r1 (by intro el hel;rw[List.eq_of_mem_replicate hel,hzl]) hs0 (by rw[hlen];exact hm)
   exact does_push hrun k1 k2 k3 hR hd
  ·cases hy
 ·cases hy
theorem ok_apz{t tn e:TypeId}{kn:IntKind}{x y:Operand}{x' y':Opd}{sz:Nat}{zero:List AV}{ie:TypeInfo}{z:Value}(ho:o.op=.call { callee:=.builtin .append,args:=#[x,y],argTypes:=#[t,tn] })(hu:P.underlying t=some (.slice e))(hn:P.underlying tn=some (.int kn))(hie:P.info? e=some ie)(hz:ie.zero=some z)
  (hsz:ie.size=sz) (hzs:z.cells.size=sz) (hs0:0<sz) (hby:ie.bytes * LIM<=281474976710656) (hzero:constL z.cells.toList zero=true) (S:Sim Γ I θ st.H w) (hR:Rel I θ w st.T a)
  (hd:∀ k,o.dst=some k->k<a.tmps.size) (hx:opdOk x x'=true) (hx2:opdOk y y'=true) (hy:sv st o.dst (.apz e sz zero x' y')=some st'):Does P Γ w a o st':=by
 simp only[sv]at hy
 split at hy
 ·rename_i k n hq hq2
  split at hy
  ·rename_i hc
   obtain rfl:=Option.some.inj hy
   obtain⟨h0,hm⟩:=hc
   have hx':=opd_rv hR hx
   have hx2':=opd_rv hR hx2
   rw[hq]at hx'
   rw[hq2]at hx2'
   simp only[RV]at hx' hx2'
   obtain⟨m,rfl⟩:=Int.eq_ofNat_of_zero_le (Int.le_of_lt h0)
   simp only[Int.toNat_natCast]at hm ⊢
   have h0':0<m:=by omega
   obtain⟨z1,z2⟩:=constL_rv (I:=I) (θ:=θ) (w:=w) hzero
   obtain⟨r1,r2⟩:=made_rv z1 z2 (by omega) m
   have hbm:m * ie.bytes<=281474976710656:=by rw[Nat.mul_comm];exact Nat.le_trans (Nat.mul_le_mul_left _ hm) hby
   have hrun0:=Go.Lib.run_append_nil_zeros (P:=P) w t tn o.type e ie z k kn hu hn hie hz m h0' (by rw[hsz];exact hs0) (by have h5:m<=2147483647:=hm;omega) hbm
   have hrun:(execOp a.eval o).run P w=.ok (.value (.slice (some ⟨w.heap.size,0,none⟩) m (grownCap w m 0 e))) (w.drew.alloc (.cells (Builtin.zeroCells z.cells m++Builtin.zeroCells z.cells (grownCap w m 0 e-m)) e)):=by
    unfold execOp
    simp[ho,resolve,invoke,builtin,hx',hx2'.1,hrun0]
   subst hzs
   have hlen:(List.replicate m zero).length=m:=by simp
   have hzl:zero.length=z.cells.size:=by have:=RVs_length z1;simpa using this.symm
   have hge:=grownCap_ge w m 0 e
   have hsz2:∀ n,(Builtin.zeroCells z.cells n).size=n * z.cells.size:=fun n=>by simp[Builtin.zeroCells]
   obtain⟨k1,k2,k3⟩:=S.push_row (v:=.slice (some ⟨w.heap.size,0,none⟩) m (grownCap w m 0 e)) (e:=e) (sz:=z.cells.size) (els:=List.replicate m zero) (xs:=(Builtin.zeroCells z.cells m).toList)
    (w':=w.drew.alloc (.cells (Builtin.zeroCells z.cells m++Builtin.zeroCells z.cells (grownCap w m 0 e-m)) e)) ⟨rfl,rfl,rfl,Nat.le_trans (Nat.le_refl _) (show w.heap.size<=(w.drew.alloc _).heap.size by rw[World.size_alloc];exact Nat.le_succ _),fun k hk _=>Below.heap_alloc w.drew _ _ hk⟩
    (by
     rw[hlen]
     refine⟨by simp[hsz2],.inr ⟨w.heap.size,grownCap w m 0 e,_,rfl,Nat.zero_le _,heap_alloc_new w.drew _,hge,grownCap_le_maxLen w m 0 e (Nat.le_trans hm LIM_le),?_,?_⟩⟩
     ·rw[Array.size_append,hsz2,hsz2,<-Nat.add_mul,Nat.add_sub_cancel' hge]
     ·rw[Array.toList_append,List.take_left' (by simp[hsz2])])
    (by intro g hg;simp[Value.ownBlock]at hg;omega) r2 r1 (by intro el hel;rw[List.eq_of_mem_replicate hel,hzl]) hs0 (by rw[hlen];exact hm)
   exact does_push hrun k1 k2 k3 hR hd
  ·cases hy
 ·cases hy
theorem ok_mkc{t e:TypeId}{c x2:Operand}{x':Opd}{sz:Nat}{ie:TypeInfo}{z:Value}(ho:o.op=.makeSlice t (.const (.int .i64 0)) x2)(hu:P.underlying t=some (.slice e))(hie:P.info? e=some ie)(hz:ie.zero=some z)
  (hsz:ie.size=sz) (hs0:0<sz) (hby:ie.bytes * LIM<=281474976710656) (S:Sim Γ I θ st.H w) (hR:Rel I θ w st.T a)
  (hd:∀ k,o.dst=some k->k<a.tmps.size) (hx2:opdOk x2 x'=true) (hy:sv st o.dst (.mkc e sz x')=some st'):Does P Γ w a o st':=by
 simp only[sv]at hy
 split at hy
 ·rename_i k n hq
  split at hy
  ·rename_i hc
   obtain rfl:=Option.some.inj hy
   obtain⟨h0,hm⟩:=hc
   have hx2':=opd_rv hR hx2
   rw[hq]at hx2'
   simp only[RV]at hx2'
   obtain⟨m,rfl⟩:=Int.eq_ofNat_of_zero_le h0
   simp only[Int.toNat_natCast]at hm
   have hbm:ie.bytes * m<=281474976710656:=Nat.le_trans (Nat.mul_le_mul_left _ hm) hby
   have hrun0:=run_make (P:=P) w t e ie z hu hie hz .i64 k 0 (m:Int) (by omega) (by omega) (by have h9:((ie.bytes * m:Nat):Int)<=((281474976710656:Nat):Int):=Int.ofNat_le.2 hbm;rw[Int.natCast_mul]at h9;exact h9) (by have h5:m<=2147483647:=hm;omega)
   simp only[Int.toNat_natCast,hsz]at hrun0
   have hrun:(execOp a.eval o).run P w=.ok (.value (.slice (some ⟨w.heap.size,0,none⟩) 0 m)) (w.alloc (.cells (madeCells z.cells (m * sz)) e)):=by
    have hq0:a.eval (.const (.int .i64 0))=.int .i64 0:=rfl
    simp[execOp,ho,hx2'.1,hrun0,hq0]
   obtain⟨k1,k2,k3⟩:=S.push_row (v:=.slice (some ⟨w.heap.size,0,none⟩) 0 m) (e:=e) (sz:=sz) (els:=[]) (xs:=[])
    (w':=w.alloc (.cells (madeCells z.cells (m * sz)) e)) ⟨rfl,rfl,rfl,by simp,fun k hk _=>Below.heap_alloc _ _ _ hk⟩
    ⟨by simp,.inr ⟨w.heap.size,m,madeCells z.cells (m * sz),rfl,Nat.zero_le _,heap_alloc_new w _,Nat.zero_le _,Nat.le_trans hm LIM_le,by simp[madeCells],by simp⟩⟩
    (by intro g hg;simp[Value.ownBlock]at hg;omega) (by simp) (by simp[RVs]) (by simp) hs0 (by simp)
   exact does_push hrun k1 k2 k3 hR hd
  ·cases hy
 ·cases hy
theorem sbH_get{r:Nat}{y:AV}:∀(H:List AB) (q:Nat),(sbH r y H)[q]? = (H[q]?).map (sbB r y)
 | [],q=>by simp[sbH]
 | x::H,q=>by
  cases q with
  | zero=>simp[sbH]
  | succ q=>simpa [sbH] using sbH_get H q
theorem sbH_length{r:Nat}{y:AV}:∀(H:List AB),(sbH r y H).length=H.length
 | []=>rfl
 | x::H=>by simp[sbH,sbH_length H]
theorem sbE_flatten{r:Nat}{y:AV}:∀(els:List (List AV)),(sbE r y els).flatten=sbL r y els.flatten
 | []=>rfl
 | c::cs=>by
  have app:∀(a b:List AV),sbL r y (a++b)=sbL r y a++sbL r y b:=by
   intro a
   induction a with
   | nil=>intro b;rfl
   | cons x xs ih=>intro b;simp[sbL,ih]
  simp[sbE,app,sbE_flatten cs]
theorem sbL_length{r:Nat}{y:AV}:∀(cs:List AV),(sbL r y cs).length=cs.length
 | []=>rfl
 | c::cs=>by simp[sbL,sbL_length cs]
theorem sbE_length{r:Nat}{y:AV}:∀(els:List (List AV)),(sbE r y els).length=els.length
 | []=>rfl
 | c::cs=>by simp[sbE,sbE_length cs]
theorem sbE_mem{r:Nat}{y:AV}{sz:Nat}:∀ {els:List (List AV)},(∀ el∈els,el.length=sz)->∀ el∈sbE r y els,el.length=sz
 | [],_,el,h=>by simp[sbE]at h
 | c::cs,hl,el,h=>by
  simp only[sbE,List.mem_cons]at h
  rcases h with h|h
  ·rw[h,sbL_length];exact hl c (List.mem_cons_self ..)
  ·exact sbE_mem (fun e he=>hl e (List.mem_cons_of_mem _ he)) el h
theorem sbT_lk{r:Nat}{y:AV}:∀(T:List (Nat×AV)) (n:Nat),lk (sbT r y T) n=sb r y (lk T n)
 | [],n=>by simp[sbT,lk,sb]
 | (k,v)::T,n=>by
  simp only[sbT,lk]
  cases n == k
  ·simpa using sbT_lk T n
  ·simp
theorem live_sbB{r:Nat}{y:AV}(x:AB):live (sbB r y x)=live x:=by cases x<;>first|rfl|(simp only[sbB];cases _ == r<;>rfl)
theorem sbB_box{r:Nat}{y:AV}{x:AB}{t:TypeId}{cs:List AV}(h:sbB r y x=.box t cs):∃ ds,x=.box t ds/\sbL r y ds=cs:=by
 cases x<;>simp only[sbB,reduceCtorEq,AB.box.injEq]at h
 ·revert h;cases _ == r<;>simp
 ·obtain⟨rfl,rfl⟩:=h;exact⟨_,rfl,rfl⟩
theorem sbB_map{r:Nat}{y:AV}{x:AB}{q:Option IntKind}{es:List (List AV)}(h:sbB r y x=.map q es):x=.map q es:=by
 cases x<;>simp only[sbB,reduceCtorEq,AB.map.injEq]at h
 ·revert h;cases _ == r<;>simp
 ·obtain⟨rfl,rfl⟩:=h;rfl
theorem sbB_row{r:Nat}{y:AV}{x:AB}{e:TypeId}{sz:Nat}{els:List (List AV)}(h:sbB r y x=.row e sz els):∃ ds,x=.row e sz ds/\sbE r y ds=els:=by
 cases x<;>simp only[sbB,reduceCtorEq,AB.row.injEq]at h
 ·revert h;cases _ == r<;>simp
 ·obtain⟨rfl,rfl,rfl⟩:=h;exact⟨_,rfl,rfl⟩
theorem sbB_pin{r:Nat}{y:AV}{x:AB}{q:Nat}{B:Value}(h:sbB r y x=.pin q B):x=.pin q B/\q≠r:=by
 cases x<;>simp only[sbB,reduceCtorEq]at h
 rename_i p C
 by_cases e:p=r
 ·simp[e]at h
 ·rw[beq_eq_false_iff_ne.2 e,cond_false]at h;cases h;exact⟨rfl,e⟩
theorem Sim.regrow{H:List AB}(S:Sim Γ I θ H w){r:Nat}{e:TypeId}{sz:Nat}{els els':List (List AV)}{v v':Value}{xs':List Value}{w':World}(hr:H[r]? = some (.row e sz els))(hv:θ r=some v)
  (hg:w.grownBy w' v.ownBlock) (hown:w'.ownsRow 0 e sz v' els'.length xs') (hat:v'.ownBlock=v.ownBlock\/v'.ownBlock=some w.heap.size\/v'.ownBlock=none) (h1:∀ u∈xs',u.oneCell'=true)
  (hl:∀ el∈els',el.length=sz) (hm:els'.length<=LIM)
  (hxs:(∀ θ',(∀ q v0,q≠r->θ q=some v0->θ' q=some v0)->(∀ x v0,RVs I θ w x v0->RVs I θ' w' (sbL r .u x) v0)->(∀ x v0,pureL x=true->RVs I θ w x v0->RVs I θ' w' x v0)->RVs I θ' w' els'.flatten xs')) :
  let θ':Nat->Option Value:=fun q=>if q=r then some v' else θ q
  Sim Γ I θ' ((sbH r .u H).set r (.row e sz els')) w'/\(∀ x v0,RV I θ w x v0->RV I θ' w' (sb r .u x) v0)/\RV I θ' w' (.row r) v':=by
 intro θ'
 obtain⟨v2,xs,k1,k2,k3,k4,k5,k6,k7⟩:=S.row r e sz els hr
 obtain rfl:v2=v:=by rw[hv]at k1;exact(Option.some.inj k1).symm
 have hrl:r<H.length:=(List.getElem?_eq_some_iff.1 hr).1
 have hob:∀ B,v2.ownBlock=some B->owns H θ r B:=by
  intro B hB
  exact⟨⟨_,hr,rfl⟩,v2,hv,own_blk (own_slice' k2) hB⟩
 have hbl:∀ k,k<w.heap.size->(∀ B,v2.ownBlock=some B->k≠B)->w'.heap[k]? = w.heap[k]?:=fun k hk hne=>hg.block k hk (fun e=>hne k e.symm rfl)
 have hc:∀ b,I b->Same w' w b:=fun b h=>Same.of (hbl _ (S.ilt b h) (fun B hB e=>S.iso b r h (e ▸ hob B hB)))
 have hθ:∀ q v0,q≠r->θ q=some v0->θ' q=some v0:=fun q v0 hne h=>by simp only[θ',if_neg hne,h]
 have hrp:∀ v0,θ r=some v0->∀ p,v0≠.pointer p:=by
  intro v0 h p e'
  rw[hv]at h
  obtain rfl:=Option.some.inj h
  obtain⟨a',l,c,h2⟩:=own_slice' k2
  rw[h2]at e'
  cases e'
 have hsb:∀ x v0,RV I θ w x v0->RV I θ' w' (sb r .u x) v0:=fun x v0 h=>RV_sb (fun _ h=>h) hc hθ hrp (fun _ _=>by simp[RV]) x v0 h
 have hsbs:∀ x v0,RVs I θ w x v0->RVs I θ' w' (sbL r .u x) v0:=fun x v0 h=>RVs_sb (fun _ h=>h) hc hθ hrp (fun _ _=>by simp[RV]) x v0 h
 have hpu:∀ x v0,pureL x=true->RVs I θ w x v0->RVs I θ' w' x v0:=fun x v0 hp h=>RVs_pure (fun _ h=>h) hc x v0 hp h
 have hfresh:∀ B,v'.ownBlock=some B->owns H θ r B\/w.heap.size<=B:=by
  intro B hB
  rcases hat with h|h|h
  ·exact .inl (hob B (h ▸ hB))
  ·rw[h]at hB
   exact .inr (by simp at hB;omega)
  ·rw[h]at hB;cases hB
 have hget:∀ q,q≠r->((sbH r .u H).set r (.row e sz els'))[q]? = (H[q]?).map (sbB r .u):=by
  intro q hq
  rw[List.getElem?_set_ne (fun e=>hq e.symm),sbH_get]
 have hnew:∀ q B,owns ((sbH r .u H).set r (.row e sz els')) θ' q B->owns H θ q B\/(q=r/\w.heap.size<=B):=by
  rintro q B ⟨⟨x,hx,hlv⟩,v0,hv0,hb⟩
  by_cases hq:q=r
  ·subst hq
   simp only[θ',if_pos]at hv0
   obtain rfl:=Option.some.inj hv0
   rcases hfresh B (blk_slice (own_slice' hown) hb)with h|h
   ·exact .inl h
   ·exact .inr ⟨rfl,h⟩
  ·rw[hget q hq]at hx
   obtain⟨x0,hx0,rfl⟩:=Option.map_eq_some_iff.1 hx
   simp only[θ',if_neg hq]at hv0
   exact .inl ⟨⟨x0,hx0,by rwa [live_sbB]at hlv⟩,v0,hv0,hb⟩
 refine⟨⟨S.below.step hg.os hg.tape hg.output hg.size (fun k hk hn=>hbl k hk (fun B hB e=>hn ?_)),S.i0,S.inew,fun b h=>Nat.lt_of_lt_of_le (S.ilt b h) hg.size,?_,?_,?_,?_,?_,?_,?_,?_⟩,hsb,?_⟩
 ·exact e ▸ (owns_lt S (hob B hB)).1
 ·intro q t cs h
  have hq:q≠r:=by
   rintro rfl
   rw[List.getElem?_set_self (by rw[sbH_length];exact hrl)]at h
   cases h
  rw[hget q hq]at h
  obtain⟨x0,hx0,hx1⟩:=Option.map_eq_some_iff.1 h
  obtain⟨_,rfl,rfl⟩:=sbB_box hx1
  obtain⟨B,c',j1,j2,j3,j4,j5⟩:=S.box q _ _ hx0
  have hob':owns H θ q B:=⟨⟨_,hx0,rfl⟩,_,j1,rfl⟩
  exact⟨B,c',hθ _ _ hq j1,j2,(hbl B (Array.getElem?_eq_some_iff.1 j3).1 (fun B' hB' e=>S.sep q r B' hq (e ▸ hob') (hob B' hB'))).trans j3,j4,hsbs _ _ j5⟩
 ·intro q e2 sz2 els2 h
  by_cases hq:q=r
  ·subst hq
   rw[List.getElem?_set_self (by rw[sbH_length];exact hrl)]at h
   cases h
   exact⟨v',xs',by simp[θ'],hown,h1,hxs θ' hθ hsbs hpu,hl,k6,hm⟩
  ·rw[hget q hq]at h
   obtain⟨x0,hx0,hx1⟩:=Option.map_eq_some_iff.1 h
   obtain⟨_,rfl,rfl⟩:=sbB_row hx1
   obtain⟨v0,xs0,j1,j2,j3,j4,j5,j6,j7⟩:=S.row q _ _ _ hx0
   refine⟨v0,xs0,hθ _ _ hq j1,?_,j3,?_,sbE_mem j5,j6,by rw[sbE_length];exact j7⟩
   ·rw[sbE_length]
    refine j2.kept hg ?_
    cases hv0:v0.ownBlock with
    | none=>exact .inl rfl
    | some B =>
     refine .inr fun e=>?_
     exact S.sep q r B hq ⟨⟨_,hx0,rfl⟩,v0,j1,own_blk (own_slice' j2) hv0⟩ (hob B e.symm)
   ·rw[sbE_flatten]
    exact hsbs _ _ j4
 ·intro q p B hne hq hp
  rcases hnew q B hq with h1|⟨h1,h2⟩<;>rcases hnew p B hp with h3|⟨h3,h4⟩
  ·exact S.sep q p B hne h1 h3
  ·have:=(owns_lt S h1).2;omega
  ·have:=(owns_lt S h3).2;omega
  ·omega
 ·intro b q h ho
  rcases hnew q _ ho with h1|⟨h1,h2⟩
  ·exact S.iso b q h h1
  ·have:=S.ilt b h;omega
 ·intro q hq
  simp only[List.length_set,sbH_length]at hq
  simp only[θ',if_neg (show q≠r by omega)]
  exact S.dom q hq
 ·intro q B ho
  rcases hnew q B ho with h1|⟨_,h2⟩
  ·exact S.own q B h1
  ·exact Γ.new B (by have:=S.below.size;omega)
 ·intro q p B h
  have hq:q≠r:=by
   rintro rfl
   rw[List.getElem?_set_self (by rw[sbH_length];exact hrl)]at h
   cases h
  rw[hget q hq]at h
  obtain⟨x0,hx0,hx1⟩:=Option.map_eq_some_iff.1 h
  obtain⟨rfl,hne⟩:=sbB_pin hx1
  exact hθ _ _ hne (S.pin q _ _ hx0)
 ·intro q qk es h
  have hq:q≠r:=by
   rintro rfl
   rw[List.getElem?_set_self (by rw[sbH_length];exact hrl)]at h
   cases h
  rw[hget q hq]at h
  obtain⟨x0,hx0,hx1⟩:=Option.map_eq_some_iff.1 h
  obtain rfl:=sbB_map hx1
  refine(S.map q qk es hx0).mono (fun _ h=>h) hc (fun v h=>hθ _ _ hq h) (fun B o k1 k2=>(hbl B (Array.getElem?_eq_some_iff.1 k2).1 (fun B' hB' e=>?_)).trans k2)
  exact S.sep q r B' hq (e ▸ ⟨⟨_,hx0,rfl⟩,_,k1,rfl⟩) (hob B' hB')
 ·simp only[RV]
  exact⟨by simp[θ'],.inl (own_slice' hown)⟩
theorem RVe_vals:∀ {els:List (List AV)} {B o':Nat},RVe I θ w els B o'->∃ vs,RVs I θ w els.flatten vs/\(∀ u∈vs,u.oneCell'=true)/\∀ j v,vs[j]? = some v->w.cell? ⟨B,o'+j,none⟩=some v
 | [],_,_,_=>⟨[],by simp[RVs],by simp,by simp⟩
 | c::cs,B,o',h=>by
  simp only[RVe]at h
  obtain⟨v1,a1,a2,a3⟩:=RVc_vals h.1
  obtain⟨v2,b1,b2,b3⟩:=RVe_vals h.2
  refine⟨v1++v2,by simpa using RVs_append a1 b1,fun u hu=>?_,fun j v hj=>?_⟩
  ·simp only[List.mem_append]at hu
   rcases hu with hu|hu
   ·exact a2 u hu
   ·exact b2 u hu
  ·have hl:=RVs_length a1
   by_cases hlt:j<v1.length
   ·rw[List.getElem?_append_left hlt]at hj
    exact a3 j v hj
   ·rw[List.getElem?_append_right (by omega)]at hj
    have:=b3 _ v hj
    rwa [<-hl,Nat.add_assoc,show v1.length+(j-v1.length)=j by omega]at this
theorem run_append_zero{t ty e:TypeId}{i:TypeInfo}(ht:P.underlying t=some (.slice e))(hi:P.info? e=some i)(b a2:Option Addr)(l c c2:Nat)(hle:l<=c)(w:World) :
  (Builtin.append_ #[t,t] ty #[.slice b l c,.slice a2 0 c2]).run P w=.ok (.slice b l c) w:=by
 cases b<;>cases a2<;>simp[Builtin.append_,run_underlying ht,sizeOf,typeInfo,hi,Builtin.lenOf,hle,Builtin.firstCells,loadCells,loadCellsFrom,storeCells]
theorem news_of{x:AV}{v:Value}{tt:Bool}{sz:Nat}{els2:List (List AV)}(h:RV I θ w (.sl tt sz els2) v):pureE els2=true/\∃ a2 c2,v=.slice a2 els2.length c2 /\
  (els2≠[]->∃ ad news,a2=some ad/\news.length=els2.length * sz/\(∀ j u,news[j]? = some u->w.cell? (ad.add j)=some u)/\(∀ u∈news,u.oneCell'=true)/\RVs I θ w els2.flatten news/\(∀ el∈els2,el.length=sz)/\0<sz):=by
 simp only[RV]at h
 obtain⟨hp,a2,c2,e,h1,h2,h3,h4,h5⟩:=h
 refine⟨hp,a2,c2,e,fun hne=>?_⟩
 obtain⟨h6,h7,B,o',rfl,h8⟩:=h5 hne
 obtain⟨vs,k1,k2,k3⟩:=RVe_vals h8
 refine⟨⟨B,o',none⟩,vs,rfl,?_,fun j u hj=>by rw[addB];exact k3 j u hj,k2,k1,h7,h6⟩
 rw[RVs_length k1]
 have:∀(els:List (List AV)),(∀ el∈els,el.length=sz)->els.flatten.length=els.length * sz:=by
  intro els
  induction els with
  | nil=>intro _;simp
  | cons c cs ih =>
   intro hl
   simp only[List.flatten_cons,List.length_append,List.length_cons,Nat.succ_mul]
   rw[ih (fun e he=>hl e (List.mem_cons_of_mem _ he)),hl c (List.mem_cons_self ..),Nat.add_comm]
 exact this _ h7
theorem ok_app{t e:TypeId}{x z:Operand}{x' z':Opd}{sz:Nat}{ie:TypeInfo}{zv:Value}(ho:o.op=.call { callee:=.builtin .append,args:=#[x,z],argTypes:=#[t,t] })(hu:P.underlying t=some (.slice e))
  (hie:P.info? e=some ie) (hz:ie.zero=some zv) (hsz:ie.size=sz) (hzs:zv.cells.size=sz) (hs0:0<sz) (hby:ie.bytes * LIM<=140737488355328) (S:Sim Γ I θ st.H w) (hR:Rel I θ w st.T a)
  (hd:∀ k,o.dst=some k->k<a.tmps.size) (hx:opdOk x x'=true) (hz':opdOk z z'=true) (hy:sv st o.dst (.app e sz x' z')=some st'):Does P Γ w a o st':=by
 have hbytes:∀ n,n<=LIM->n * ie.bytes<=140737488355328:=fun n hn=>Nat.le_trans (by rw[Nat.mul_comm];exact Nat.mul_le_mul_left _ hn) hby
 have hexec:∀ v w',(Builtin.append_ #[t,t] o.type #[a.eval x,a.eval z]).run P w=.ok v w'->(execOp a.eval o).run P w=.ok (.value v) w':=by
  intro v w' h
  unfold execOp
  simp[ho,resolve,invoke,builtin,h]
 have hxv:=opd_rv hR hx
 have hzv:=opd_rv hR hz'
 simp only[sv]at hy
 cases hq2:st.ev z'<;>rw[hq2]at hy hzv<;>try simp only[reduceCtorEq]at hy
 case sl tt sz' els2 =>
  obtain⟨hp2,a2,c2,e2,hnews⟩:=news_of (x:=.u) hzv
  cases hq:st.ev x'<;>rw[hq]at hy hxv<;>try simp only[reduceCtorEq]at hy
  case nils =>
   simp only[RV]at hxv
   split at hy
   ·rename_i hc
    obtain⟨hm,hs⟩:=hc
    obtain rfl:=Option.some.inj hy
    by_cases hne:els2=[]
    ·subst hne
     have hr:=hexec _ _ (by rw[hxv,e2];exact run_append_zero (P:=P) (ty:=o.type) hu hie none a2 0 0 c2 (Nat.le_refl _) w)
     obtain⟨k1,k2,k3⟩:=S.push_row (v:=.slice none 0 0) (e:=e) (sz:=sz) (els:=[]) (xs:=[]) (w':=w) ⟨rfl,rfl,rfl,Nat.le_refl _,fun _ _ _=>rfl⟩ (World.ownsRow_nil w _ _ _) (by simp[Value.ownBlock]) (by simp) (by simp[RVs]) (by simp) hs0 (by simp)
     exact does_push hr k1 k2 k3 hR hd
    ·obtain rfl:sz'=sz:=hs.resolve_left hne
     obtain⟨ad,news,rfl,n1,n2,n3,n4,n5,n6⟩:=hnews hne
     obtain⟨v',w',r1,r2,r3,r4,r5⟩:=run_append_own_at (P:=P) w 0 t o.type e ie zv sz' ie.bytes hu hie hz hsz rfl hzs hs0 (.slice none 0 0) 0 [] (World.ownsRow_nil w _ _ _) ad els2.length c2 news n1 n2 n3
      (by rw[Nat.zero_add];exact Nat.le_trans hm LIM_le) (by rw[Nat.zero_add];exact hbytes _ hm) (Nat.zero_le _)
     rw[Nat.zero_add,List.nil_append]at r2
     have hr:=hexec _ _ (by rw[hxv,e2];exact r1)
     obtain⟨k1,k2,k3⟩:=S.push_row (els:=els2) r3 r2 (by
      intro g hg
      rcases r5 with h|h
      ·rw[h]at hg;simp[Value.ownBlock]at hg
      ·rw[h]at hg;simp at hg;omega) n3 n4 n5 hs0 hm
     exact does_push hr k1 k2 k3 hR hd
   ·cases hy
  case row r =>
   cases hh:st.H[r]? with
   | none=>rw[hh]at hy;simp at hy
   | some ab =>
    rw[hh]at hy
    cases ab with
    | gone=>simp at hy
    | pin _ _=>simp at hy
    | map _ _=>simp at hy
    | box _ _=>simp at hy
    | row e' szr els =>
     simp only at hy
     split at hy
     ·rename_i hc
      obtain⟨hm,rfl,rfl,hs⟩:=hc
      obtain rfl:=Option.some.inj hy
      simp only[RV]at hxv
      obtain⟨v,xs,k1,k2,k3,k4,k5,k6,k7⟩:=S.row r _ _ els hh
      obtain rfl:v=a.eval x:=by rw[hxv.1]at k1;exact(Option.some.inj k1).symm
      have fin:∀(v':Value) (w':World) (xs':List Value),(Builtin.append_ #[t,t] o.type #[a.eval x,a.eval z]).run P w=.ok v' w'->w.grownBy w' (a.eval x).ownBlock->w'.ownsRow 0 e szr v' (els.length+els2.length) xs' ->
        (v'.ownBlock=(a.eval x).ownBlock\/v'.ownBlock=some w.heap.size)->(∀ u∈xs',u.oneCell'=true)->(∀ el∈els2,el.length=szr) ->
        (∀ θ',(∀ q v0,q≠r->θ q=some v0->θ' q=some v0)->(∀ x v0,RVs I θ w x v0->RVs I θ' w' (sbL r .u x) v0)->(∀ x v0,pureL x=true->RVs I θ w x v0->RVs I θ' w' x v0)->RVs I θ' w' (sbE r .u els++els2).flatten xs') ->
        Does P Γ w a o (put { T:=sbT r .u st.T,H:=(sbH r .u st.H).set r (.row e szr (sbE r .u els++els2)) } o.dst (.row r)):=by
       intro v' w' xs' hrun hg hown hat hone hl2 hrel
       obtain⟨j1,j2,j3⟩:=S.regrow (els':=sbE r .u els++els2) hh hxv.1 hg (by rw[List.length_append,sbE_length];exact hown) (hat.imp (fun h=>h) .inl) hone (by
        intro el hel
        simp only[List.mem_append]at hel
        rcases hel with h|h
        ·exact sbE_mem k5 el h
        ·exact hl2 el h) (by rw[List.length_append,sbE_length];exact hm) hrel
       refine⟨v',w',I,(fun q=>if q=r then some v' else θ q),.inl (hexec _ _ hrun),?_,?_⟩
       ·cases o.dst<;>exact j1
       ·refine Rel.put (st:={ T:=sbT r .u st.T,H:=(sbH r .u st.H).set r (.row e szr (sbE r .u els++els2)) }) (fun n=>?_) o.dst hd j3
        rw[sbT_lk]
        exact j2 _ _ (hR n)
      by_cases hne:els2=[]
      ·subst hne
       obtain⟨a1,l1,c1,ev1⟩:=own_slice' k2
       have hll:l1<=c1:=by
        rcases k2.2 with⟨h,_⟩|⟨g,cap,cur,h,_,_,h2,_⟩
        ·rw[ev1]at h;cases h;exact Nat.le_refl _
        ·rw[ev1]at h;cases h;exact h2
       refine fin (a.eval x) w xs ?_ ⟨rfl,rfl,rfl,Nat.le_refl _,fun _ _ _=>rfl⟩ (by simpa using k2) (.inl rfl) k3 (by simp) (fun θ' _ h2 _=>?_)
       ·rw[ev1,e2]
        exact run_append_zero (P:=P) (ty:=o.type) hu hie a1 a2 l1 c1 c2 hll w
       ·rw[List.append_nil,sbE_flatten]
        exact h2 _ _ k4
      ·obtain rfl:sz'=szr:=hs.resolve_left hne
       obtain⟨ad,news,rfl,n1,n2,n3,n4,n5,n6⟩:=hnews hne
       obtain⟨v',w',r1,r2,r3,r4,r5⟩:=run_append_own_at (P:=P) w 0 t o.type e ie zv sz' ie.bytes hu hie hz hsz rfl hzs hs0 (a.eval x) els.length xs k2 ad els2.length c2 news n1 n2 n3
        (Nat.le_trans hm LIM_le) (hbytes _ hm) (Nat.zero_le _)
       refine fin v' w' (xs++news) (by rw[e2];exact r1) r3 r2 r5 (fun u hu=>?_) n5 (fun θ' _ h2 h3=>?_)
       ·simp only[List.mem_append]at hu
        rcases hu with h|h
        ·exact k3 u h
        ·exact n3 u h
       ·rw[List.flatten_append,sbE_flatten]
        have hpf:∀(els:List (List AV)),pureE els=true->pureL els.flatten=true:=by
         intro els
         induction els with
         | nil=>intro _;simp[pureL]
         | cons c cs ih =>
          intro h
          simp only[pureE,Bool.and_eq_true]at h
          simp only[List.flatten_cons]
          have:∀(a b:List AV),pureL a=true->pureL b=true->pureL (a++b)=true:=by
           intro a
           induction a with
           | nil=>intro b _ hb;simpa using hb
           | cons x xs ih=>intro b ha hb;simp only[pureL,Bool.and_eq_true,List.cons_append]at ha ⊢;exact⟨ha.1,ih b ha.2 hb⟩
          exact this _ _ h.1 (ih h.2)
        exact RVs_append (h2 _ _ k4) (h3 _ _ (hpf _ hp2) n4)
     ·cases hy
  case sl tt1 sz1 els =>
   cases tt1 with
   | false=>simp at hy
   | true =>
    simp only at hy
    split at hy
    ·rename_i hc
     obtain⟨hm,hne,rfl,hs1⟩:=hc
     obtain rfl:=Option.some.inj hy
     obtain⟨ad,news,rfl,n1,n2,n3,n4,n5,n6⟩:=hnews hne
     have hpos:0<els2.length:=List.length_pos_iff.2 hne
     simp only[RV]at hxv
     obtain⟨hp1,a1,cap1,ev1,c1,c3,c4,c5,c6⟩:=hxv
     have hcap:cap1=els.length:=by simpa using c5
     subst hcap
     have holds:∃ olds:List Value,olds.length=els.length * sz'/\(∀ u∈olds,u.oneCell'=true)/\RVs I θ w els.flatten olds/\(∀ el∈els,el.length=sz') /\
       (els≠[]->∃ b,a1=some b/\∀ j v,olds[j]? = some v->w.cell? (b.add j)=some v)/\(els=[]->olds=[]):=by
      by_cases he:els=[]
      ·subst he
       exact⟨[],by simp,by simp,by simp[RVs],by simp,fun h=>absurd rfl h,fun _=>rfl⟩
      ·obtain⟨d1,d2,B,o',rfl,d3⟩:=c6 he
       obtain rfl:sz1=sz':=hs1.resolve_left he
       obtain⟨vs,f1,f2,f3⟩:=RVe_vals d3
       have hlen:∀(els:List (List AV)),(∀ el∈els,el.length=sz1)->els.flatten.length=els.length * sz1:=by
        intro els
        induction els with
        | nil=>intro _;simp
        | cons c cs ih =>
         intro hl
         simp only[List.flatten_cons,List.length_append,List.length_cons,Nat.succ_mul]
         rw[ih (fun e he=>hl e (List.mem_cons_of_mem _ he)),hl c (List.mem_cons_self ..),Nat.add_comm]
       exact⟨vs,by rw[RVs_length f1,hlen _ d2],f2,f1,d2,fun _=>⟨_,rfl,fun j v hj=>by rw[addB];exact f3 j v hj⟩,fun h=>absurd h he⟩
     obtain⟨olds,o1,o2,o3,o4,o5,o6⟩:=holds
     have hnc:=grownCap_ge w (els.length+els2.length) els.length e
     have hncm:=grownCap_le_maxLen w (els.length+els2.length) els.length e (Nat.le_trans hm LIM_le)
     have hrun:(Builtin.append_ #[t,t] o.type #[a.eval x,a.eval z]).run P w=.ok (.slice (some ⟨w.heap.size,0,none⟩) (els.length+els2.length) (grownCap w (els.length+els2.length) els.length e))
       (w.drew.alloc (.cells (olds.toArray++news.toArray++Builtin.zeroCells zv.cells (grownCap w (els.length+els2.length) els.length e-(els.length+els2.length))) e)):=by
      rw[ev1,e2]
      have h63:((els.length+els2.length:Nat):Int)<=9223372036854775807:=by simp only[LIM]at hm;omega
      have hfit:=growslice_fits (need:=els.length+els2.length) (old:=els.length) (bytes:=ie.bytes) (by omega) (hbytes _ hm)
      by_cases he:els=[]
      ·have ho:=o6 he
       subst he
       subst ho
       cases a1 with
       | none =>
        have:=run_append_nil (P:=P) w t o.type e ie zv hu hie hz ad els2.length c2 news (by rw[hsz];exact n1) n2 hpos (by omega) (Nat.le_trans (hbytes _ (Nat.le_trans (Nat.le_add_left _ _) hm)) (by omega))
        simpa using this
       | some b =>
        exact run_append_grow (P:=P) w t o.type e ie zv hu hie hz b 0 0 [] (by simp) (by simp) ad els2.length c2 news (by rw[hsz];exact n1) n2 (by omega) h63 hfit
      ·obtain⟨b,rfl,hb⟩:=o5 he
       exact run_append_grow (P:=P) w t o.type e ie zv hu hie hz b els.length els.length olds (by rw[hsz];exact o1) hb ad els2.length c2 news (by rw[hsz];exact n1) n2 (by omega) h63 hfit
     have hsize:(olds++news).length=(els++els2).length * sz':=by rw[List.length_append,o1,n1,List.length_append,Nat.add_mul]
     obtain⟨k1,k2,k3⟩:=S.push_row (e:=e) (sz:=sz') (els:=els++els2) (xs:=olds++news)
      (v:=.slice (some ⟨w.heap.size,0,none⟩) (els.length+els2.length) (grownCap w (els.length+els2.length) els.length e))
      (w':=w.drew.alloc (.cells (olds.toArray++news.toArray++Builtin.zeroCells zv.cells (grownCap w (els.length+els2.length) els.length e-(els.length+els2.length))) e))
      ⟨rfl,rfl,rfl,by simp,fun k hk _=>Below.heap_alloc w.drew _ k hk⟩
      ⟨hsize,.inr ⟨w.heap.size,_,_,by rw[List.length_append],Nat.zero_le _,heap_alloc_new w.drew _,by rw[List.length_append];exact hnc,hncm,by
       simp only[Array.size_append,List.size_toArray,size_zeroCells,hzs,o1,n1,<-Nat.add_mul]
       congr 1
       omega,by
       simp only[Array.toList_append,List.append_assoc]
       rw[<-List.append_assoc,<-hsize]
       exact List.take_left⟩⟩
      (by intro g hg;simp[Value.ownBlock]at hg;omega)
      (fun u hu=>by
       simp only[List.mem_append]at hu
       rcases hu with h|h
       ·exact o2 u h
       ·exact n3 u h)
      (by rw[List.flatten_append];exact RVs_append o3 n4)
      (fun el hel=>by
       simp only[List.mem_append]at hel
       rcases hel with h|h
       ·exact o4 el h
       ·exact n5 el h) hs0 (by rw[List.length_append];exact hm)
     exact does_push (hexec _ _ hrun) k1 k2 k3 hR hd
    ·cases hy
def more(I:Addr->Prop)(w w':World):Addr->Prop:=fun a=>I a\/(w.heap.size<=a.block/\a.block<w'.heap.size)
theorem Sim.called{H:List AB}(S:Sim Γ I θ H w){w':World}(hb:Below w.heap.size w w'):Sim Γ (more I w w') θ H w'/\Mono I w (more I w w') w':=by
 have hm:Mono I w (more I w w') w':=⟨fun _ h=>.inl h,fun a h=>Same.of (hb.block _ (S.ilt a h))⟩
 refine⟨⟨S.below.step hb.os hb.tape hb.output hb.size (fun k hk _=>hb.block k hk),fun a h=>.inl (S.i0 a h),?_,?_,?_,?_,S.sep,?_,S.dom,S.own,S.pin,fun r q es h=>(S.map r q es h).mono hm.sub hm.same (fun _ h=>h) (fun B o _ k=>(hb.block B (Array.getElem?_eq_some_iff.1 k).1).trans k)⟩,hm⟩
 ·rintro a (h|h)
  ·exact S.inew a h
  ·have:=S.below.size
   exact .inr (Γ.new _ (by omega))
 ·rintro a (h|h)
  ·exact Nat.lt_of_lt_of_le (S.ilt a h) hb.size
  ·exact h.2
 ·intro r t cs h
  obtain⟨B,c,h1,h2,h3,h4,h5⟩:=S.box r t cs h
  exact⟨B,c,h1,h2,(hb.block B (Array.getElem?_eq_some_iff.1 h3).1).trans h3,h4,hm.rvs h5⟩
 ·intro r e sz els h
  obtain⟨v,xs,h1,h2,h3,h4,h5⟩:=S.row r e sz els h
  refine⟨v,xs,h1,h2.kept (row:=none) ⟨hb.os,hb.tape,hb.output,hb.size,fun k hk _=>hb.block k hk⟩ ?_,h3,hm.rvs h4,h5⟩
  cases v.ownBlock<;>simp
 ·rintro a r (h|h) ho
  ·exact S.iso a r h ho
  ·have:=(owns_lt S ho).2
   omega
theorem pureE_flatten:∀ {els:List (List AV)},pureE els=true->pureL els.flatten=true:=by
 intro els
 induction els with
 | nil=>intro _;simp[pureL]
 | cons c cs ih =>
  intro h
  simp only[pureE,Bool.and_eq_true]at h
  simp only[List.flatten_cons]
  have:∀(a b:List AV),pureL a=true->pureL b=true->pureL (a++b)=true:=by
   intro a
   induction a with
   | nil=>intro b _ hb;simpa using hb
   | cons x xs ih=>intro b ha hb;simp only[pureL,Bool.and_eq_true,List.cons_append]at ha ⊢;exact⟨ha.1,ih b ha.2 hb⟩
  exact this _ _ h.1 (ih h.2)
theorem pureE_append:∀ {a b:List (List AV)},pureE a=true->pureE b=true->pureE (a++b)=true
 | [],_,_,h=>h
 | c::cs,b,ha,hb=>by
  simp only[pureE,Bool.and_eq_true,List.cons_append]at ha ⊢
  exact⟨ha.1,pureE_append ha.2 hb⟩
theorem sl_of_owns{base:Nat}{e:TypeId}{sz:Nat}{v:Value}{els:List (List AV)}{xs:List Value}(h:w.ownsRow base e sz v els.length xs)(hv:RVs I θ w els.flatten xs)(h1:∀ u∈xs,u.oneCell'=true)
  (hl:∀ el∈els,el.length=sz) (hs:0<sz) (hm:els.length<=LIM) (hp:pureE els=true) (hI:∀ g,v.ownBlock=some g->∀ j,I ⟨g,j,none⟩):RV I θ w (.sl false sz els) v:=by
 simp only[RV]
 refine⟨hp,?_⟩
 have hcell:=fun g hg=>h.cells (g:=g) hg
 obtain⟨hlen,hor⟩:=h
 rcases hor with⟨rfl,h0⟩|⟨g,cap,cur,rfl,hbg,hg,hnc,hcm,hcs,htk⟩
 ·have:els=[]:=List.eq_nil_of_length_eq_zero h0
  subst this
  exact⟨none,0,rfl,by simp,by simp,by simp,by simp,by simp⟩
 ·refine⟨_,cap,rfl,hnc,hcm,hm,by simp,fun hne=>⟨hs,hl,g,0,rfl,?_⟩⟩
  have hc:=hcell g rfl
  have hIg:=hI g rfl
  have one:∀(cs:List AV) (us:List Value) (o':Nat),RVs I θ w cs us->(∀ u∈us,u.oneCell'=true)->(∀ j u,us[j]? = some u->w.cell? ⟨g,o'+j,none⟩=some u)->RVc I θ w cs g o':=by
   intro cs
   induction cs with
   | nil=>intro us o' _ _ _;simp[RVc]
   | cons c cs ih =>
    intro us o' h h1 h2
    simp only[RVs]at h
    obtain⟨u,r,rfl,k1,k2⟩:=h
    simp only[RVc]
    refine⟨⟨hIg o',u,h2 0 u rfl,h1 u (List.mem_cons_self ..),k1⟩,ih r (o'+1) k2 (fun x hx=>h1 x (List.mem_cons_of_mem _ hx)) (fun j x hj=>?_)⟩
    have:=h2 (j+1) x (by simpa using hj)
    rwa [Nat.add_assoc,Nat.add_comm 1 j]
  have all:∀(els:List (List AV)) (us:List Value) (o':Nat),RVs I θ w els.flatten us->(∀ u∈us,u.oneCell'=true)->(∀ j u,us[j]? = some u->w.cell? ⟨g,o'+j,none⟩=some u)->RVe I θ w els g o':=by
   intro els
   induction els with
   | nil=>intro us o' _ _ _;simp[RVe]
   | cons c cs ih =>
    intro us o' h h1 h2
    simp only[List.flatten_cons]at h
    have t:=RVs_take h c.length
    rw[List.take_append_of_le_length (Nat.le_refl _),List.take_of_length_le (Nat.le_refl _)]at t
    have d:=RVs_drop h c.length
    rw[List.drop_append_of_le_length (Nat.le_refl _),List.drop_of_length_le (Nat.le_refl _),List.nil_append]at d
    simp only[RVe]
    refine⟨one c _ o' t (fun u hu=>h1 u (List.mem_of_mem_take hu)) (fun j u hj=>?_),ih _ (o'+c.length) d (fun u hu=>h1 u (List.mem_of_mem_drop hu)) (fun j u hj=>?_)⟩
    ·rw[List.getElem?_take]at hj
     split at hj
     ·exact h2 j u hj
     ·cases hj
    ·rw[List.getElem?_drop]at hj
     rw[Nat.add_assoc]
     exact h2 _ u hj
  refine all els xs 0 hv h1 (fun j u hj=>?_)
  have:=hc j u hj
  rwa [addB]at this
theorem RVs_flat_len{sz:Nat}:∀ {els:List (List AV)},(∀ el∈els,el.length=sz)->els.flatten.length=els.length * sz
 | [],_=>by simp
 | c::cs,hl=>by
  simp only[List.flatten_cons,List.length_append,List.length_cons,Nat.succ_mul]
  rw[RVs_flat_len (fun e he=>hl e (List.mem_cons_of_mem _ he)),hl c (List.mem_cons_self ..),Nat.add_comm]
theorem ok_apt{H:List AB}{ev:Operand->Value}{ρ:Opd->AV}{y:AV}{t e:TypeId}{x z:Operand}{x' z':Opd}{sz:Nat}{ie:TypeInfo}{zv:Value}(ho:o.op=.call { callee:=.builtin .append,args:=#[x,z],argTypes:=#[t,t] })(hu:P.underlying t=some (.slice e))
  (hie:P.info? e=some ie) (hz:ie.zero=some zv) (hsz:ie.size=sz) (hzs:zv.cells.size=sz) (hs0:0<sz) (hby:ie.bytes * LIM<=140737488355328) (S:Sim Γ I θ H w) (hxv:RV I θ w (ρ x') (ev x)) (hzv:RV I θ w (ρ z') (ev z))
  (hy:ov ρ H (.apt e sz x' z')=some y):Gives P Γ I θ H w ev o y:=by
 have hbytes:∀ n,n<=LIM->n * ie.bytes<=140737488355328:=fun n hn=>Nat.le_trans (by rw[Nat.mul_comm];exact Nat.mul_le_mul_left _ hn) hby
 have hexec:∀ v w',(Builtin.append_ #[t,t] o.type #[ev x,ev z]).run P w=.ok v w'->(execOp ev o).run P w=.ok (.value v) w':=by
  intro v w' h
  unfold execOp
  simp[ho,resolve,invoke,builtin,h]
 have same:∀(a1 a2:Option Addr) (l c c2:Nat),ev x=.slice a1 l c->ev z=.slice a2 0 c2->l<=c->RV I θ w y (.slice a1 l c)->Gives P Γ I θ H w ev o y:=by
  intro a1 a2 l c c2 e1 e2 hle hr
  exact gives_same S (hexec _ _ (by rw[e1,e2];exact run_append_zero (P:=P) (ty:=o.type) hu hie a1 a2 l c c2 hle w)) hr
 have grow:∀(a1:Option Addr) (els els2:List (List AV)) (olds news:List Value) (ad:Addr) (c2:Nat),ev x=.slice a1 els.length els.length->ev z=.slice (some ad) els2.length c2->els2≠[]->els.length+els2.length<=LIM ->
   olds.length=els.length * sz->news.length=els2.length * sz->(∀ j u,news[j]? = some u->w.cell? (ad.add j)=some u)->(∀ u∈olds,u.oneCell'=true)->(∀ u∈news,u.oneCell'=true)->RVs I θ w els.flatten olds->RVs I θ w els2.flatten news ->
   (∀ el∈els,el.length=sz)->(∀ el∈els2,el.length=sz)->pureE els=true->pureE els2=true->(a1=none/\els=[]\/∃ b,a1=some b/\∀ j v,olds[j]? = some v->w.cell? (b.add j)=some v)->y=.sl false sz (els++els2)->Gives P Γ I θ H w ev o y:=by
  rintro a1 els els2 olds news ad c2 e1 e2 hne hm o1 n1 n2 o2 n3 o3 n4 o4 n5 hp1 hp2 hb rfl
  have hpos:0<els2.length:=List.length_pos_iff.2 hne
  have hnc:=grownCap_ge w (els.length+els2.length) els.length e
  have hncm:=grownCap_le_maxLen w (els.length+els2.length) els.length e (Nat.le_trans hm LIM_le)
  have hrun:(Builtin.append_ #[t,t] o.type #[ev x,ev z]).run P w=.ok (.slice (some ⟨w.heap.size,0,none⟩) (els.length+els2.length) (grownCap w (els.length+els2.length) els.length e))
    (w.drew.alloc (.cells (olds.toArray++news.toArray++Builtin.zeroCells zv.cells (grownCap w (els.length+els2.length) els.length e-(els.length+els2.length))) e)):=by
   rw[e1,e2]
   have h63:((els.length+els2.length:Nat):Int)<=9223372036854775807:=by simp only[LIM]at hm;omega
   have hfit:=growslice_fits (need:=els.length+els2.length) (old:=els.length) (bytes:=ie.bytes) (by omega) (hbytes _ hm)
   rcases hb with⟨rfl,rfl⟩|⟨b,rfl,hb⟩
   ·have:olds=[]:=List.eq_nil_of_length_eq_zero (by simpa using o1)
    subst this
    have:=run_append_nil (P:=P) w t o.type e ie zv hu hie hz ad els2.length c2 news (by rw[hsz];exact n1) n2 hpos (by omega) (Nat.le_trans (hbytes _ (Nat.le_trans (Nat.le_add_left _ _) hm)) (by omega))
    simpa using this
   ·exact run_append_grow (P:=P) w t o.type e ie zv hu hie hz b els.length els.length olds (by rw[hsz];exact o1) hb ad els2.length c2 news (by rw[hsz];exact n1) n2 (by omega) h63 hfit
  have hsize:(olds++news).length=(els++els2).length * sz:=by rw[List.length_append,o1,n1,List.length_append,Nat.add_mul]
  have hbel:Below w.heap.size w (w.drew.alloc (.cells (olds.toArray++news.toArray++Builtin.zeroCells zv.cells (grownCap w (els.length+els2.length) els.length e-(els.length+els2.length))) e)):=
   ⟨rfl,rfl,rfl,by simp,fun k hk=>Below.heap_alloc w.drew _ k hk⟩
  obtain⟨S',hm'⟩:=S.called hbel
  refine⟨_,_,_,hexec _ _ hrun,S',hm',?_⟩
  have hown:(w.drew.alloc (.cells (olds.toArray++news.toArray++Builtin.zeroCells zv.cells (grownCap w (els.length+els2.length) els.length e-(els.length+els2.length))) e)).ownsRow w.heap.size e sz
    (.slice (some ⟨w.heap.size,0,none⟩) (els.length+els2.length) (grownCap w (els.length+els2.length) els.length e)) (els++els2).length (olds++news):=
   ⟨hsize,.inr ⟨w.heap.size,_,_,by rw[List.length_append],Nat.le_refl _,heap_alloc_new w.drew _,by rw[List.length_append];exact hnc,hncm,by
    simp only[Array.size_append,List.size_toArray,size_zeroCells,hzs,o1,n1,<-Nat.add_mul]
    congr 1
    omega,by
    simp only[Array.toList_append,List.append_assoc]
    rw[<-List.append_assoc,<-hsize]
    exact List.take_left⟩⟩
  refine sl_of_owns hown (by rw[List.flatten_append];exact RVs_append (hm'.rvs o3) (hm'.rvs n4)) (fun u hu=>?_) (fun el hel=>?_) hs0 (by rw[List.length_append];exact hm) (pureE_append hp1 hp2) (fun g hg j=>?_)
  ·simp only[List.mem_append]at hu
   rcases hu with h|h
   ·exact o2 u h
   ·exact n3 u h
  ·simp only[List.mem_append]at hel
   rcases hel with h|h
   ·exact o4 el h
   ·exact n5 el h
  ·simp only[Value.ownBlock,Option.some.injEq]at hg
   subst hg
   exact .inr ⟨Nat.le_refl _,by simp⟩
 simp only[ov]at hy
 cases hq2:ρ z'<;>rw[hq2]at hy hzv<;>try simp only[reduceCtorEq]at hy
 case sl tt sz' els2 =>
  obtain⟨hp2,a2,c2,e2,hnews⟩:=news_of (x:=.u) hzv
  cases hq:ρ x'<;>rw[hq]at hy hxv<;>try simp only[reduceCtorEq]at hy
  case nils =>
   simp only[RV]at hxv
   split at hy
   ·rename_i hc
    obtain⟨hm,hs⟩:=hc
    obtain rfl:=Option.some.inj hy
    by_cases hne:els2=[]
    ·subst hne
     exact same none a2 0 0 c2 hxv e2 (Nat.le_refl _) (by simp only[RV];exact⟨by simp[pureE],none,0,rfl,by simp,by simp,by simp,by simp,by simp⟩)
    ·obtain rfl:sz'=sz:=hs.resolve_left hne
     obtain⟨ad,news,rfl,n1,n2,n3,n4,n5,n6⟩:=hnews hne
     exact grow none [] els2 [] news ad c2 hxv e2 hne (by simpa using hm) (by simp) n1 n2 (by simp) n3 (by simp[RVs]) n4 (by simp) n5 (by simp[pureE]) hp2 (.inl ⟨rfl,rfl⟩) (by simp)
   ·cases hy
  case sl tt1 sz1 els =>
   cases tt1 with
   | false=>simp at hy
   | true =>
    simp only at hy
    split at hy
    ·rename_i hc
     obtain⟨hm,hs2,hs1⟩:=hc
     obtain rfl:=Option.some.inj hy
     simp only[RV]at hxv
     obtain⟨hp1,a1,cap1,ev1,c1,c3,c4,c5,c6⟩:=hxv
     have hcap:cap1=els.length:=by simpa using c5
     subst hcap
     by_cases hne:els2=[]
     ·subst hne
      refine same a1 a2 els.length els.length c2 ev1 e2 (Nat.le_refl _) ?_
      rw[List.append_nil]
      simp only[RV]
      refine⟨hp1,a1,els.length,rfl,Nat.le_refl _,c3,c4,by simp,fun hne=>?_⟩
      obtain rfl:sz1=sz:=hs1.resolve_left hne
      exact c6 hne
     ·obtain rfl:sz'=sz:=hs2.resolve_left hne
      obtain⟨ad,news,rfl,n1,n2,n3,n4,n5,n6⟩:=hnews hne
      by_cases he:els=[]
      ·subst he
       refine grow a1 [] els2 [] news ad c2 ev1 e2 hne (by simpa using hm) (by simp) n1 n2 (by simp) n3 (by simp[RVs]) n4 (by simp) n5 (by simp[pureE]) hp2 ?_ rfl
       cases a1 with
       | none=>exact .inl ⟨rfl,rfl⟩
       | some b=>exact .inr ⟨b,rfl,by simp⟩
      ·obtain⟨d1,d2,B,o',rfl,d3⟩:=c6 he
       obtain rfl:sz1=sz':=hs1.resolve_left he
       obtain⟨vs,f1,f2,f3⟩:=RVe_vals d3
       exact grow _ els els2 vs news ad c2 ev1 e2 hne hm (by rw[RVs_length f1,RVs_flat_len d2]) n1 n2 f2 n3 f1 n4 d2 n5 hp1 hp2 (.inr ⟨_,rfl,fun j v hj=>by rw[addB];exact f3 j v hj⟩) rfl
    ·cases hy
 case nils =>
  simp only[RV]at hzv
  cases hq:ρ x'<;>rw[hq]at hy hxv<;>try simp only[reduceCtorEq]at hy
  case nils =>
   obtain rfl:=Option.some.inj hy
   simp only[RV]at hxv
   exact same none none 0 0 0 hxv hzv (Nat.le_refl _) (by simp only[RV];exact⟨by simp[pureE],none,0,rfl,by simp,by simp,by simp,by simp,by simp⟩)
  case sl tt1 sz1 els =>
   cases tt1 with
   | false=>simp at hy
   | true =>
    simp only at hy
    split at hy
    ·rename_i hs1
     obtain rfl:=Option.some.inj hy
     simp only[RV]at hxv
     obtain⟨hp1,a1,cap1,ev1,c1,c3,c4,c5,c6⟩:=hxv
     have hcap:cap1=els.length:=by simpa using c5
     subst hcap
     refine same a1 none els.length els.length 0 ev1 hzv (Nat.le_refl _) ?_
     simp only[RV]
     refine⟨hp1,a1,els.length,rfl,Nat.le_refl _,c3,c4,by simp,fun hne=>?_⟩
     obtain rfl:sz1=sz:=hs1.resolve_left hne
     exact c6 hne
    ·cases hy
theorem flat_take{sz:Nat}:∀ {els:List (List AV)} {xs:List Value},RVs I θ w els.flatten xs->(∀ el∈els,el.length=sz)->∀ i,RVs I θ w (els.take i).flatten (xs.take (i * sz))
 | [],_,h,_,i=>by
  simp only[List.flatten_nil,RVs]at h
  subst h
  simp[RVs]
 | c::cs,xs,h,hl,0=>by simp[RVs]
 | c::cs,xs,h,hl,i+1=>by
  have hc:=hl c (List.mem_cons_self ..)
  simp only[List.flatten_cons]at h
  have h1:=RVs_take h sz
  rw[List.take_append_of_le_length (by omega),List.take_of_length_le (by omega)]at h1
  have h2:=RVs_drop h sz
  rw[List.drop_append_of_le_length (by omega),List.drop_of_length_le (by omega),List.nil_append]at h2
  have:=flat_take h2 (fun e he=>hl e (List.mem_cons_of_mem _ he)) i
  simp only[List.take_succ_cons,List.flatten_cons]
  rw[Nat.succ_mul,Nat.add_comm,List.take_add]
  exact RVs_append h1 this
theorem flat_drop{sz:Nat}:∀ {els:List (List AV)} {xs:List Value},RVs I θ w els.flatten xs->(∀ el∈els,el.length=sz)->∀ i,RVs I θ w (els.drop i).flatten (xs.drop (i * sz))
 | [],_,h,_,i=>by
  simp only[List.flatten_nil,RVs]at h
  subst h
  simp[RVs]
 | c::cs,xs,h,hl,0=>by simpa using h
 | c::cs,xs,h,hl,i+1=>by
  have hc:=hl c (List.mem_cons_self ..)
  simp only[List.flatten_cons]at h
  have h2:=RVs_drop h sz
  rw[List.drop_append_of_le_length (by omega),List.drop_of_length_le (by omega),List.nil_append]at h2
  have:=flat_drop h2 (fun e he=>hl e (List.mem_cons_of_mem _ he)) i
  simp only[List.drop_succ_cons]
  rwa [List.drop_drop,show sz+i * sz=(i+1) * sz by rw[Nat.succ_mul,Nat.add_comm]]at this
theorem Sim.splice_row{H:List AB}(S:Sim Γ I θ H w){r:Nat}{e:TypeId}{sz:Nat}{els news:List (List AV)}{B l c i m:Nat}{vs:List Value}(hh:H[r]? = some (.row e sz els))(e1:θ r=some (.slice (some ⟨B,0,none⟩) l c))
  (him:i+m<=els.length) (hm:news.length=m) (hn:∀ el∈news,el.length=sz) (hv:RVs I θ w news.flatten vs) (h1v:∀ u∈vs,u.oneCell'=true) :
  ∃ w',(storeCells ⟨B,i * sz,none⟩ vs).run P w=.ok () w'/\OneBlock B w w'/\owns H θ r B/\Sim Γ I θ (H.set r (.row e sz (els.take i++news++els.drop (i+m)))) w':=by
 obtain⟨v,xs,h1,h2,h3,h4,h5,h6,h7⟩:=S.row r e sz els hh
 obtain rfl:v=.slice (some ⟨B,0,none⟩) l c:=by rw[e1]at h1;exact(Option.some.inj h1).symm
 obtain⟨hxl,hor⟩:=h2
 obtain⟨g,cap,cur,ev',hbg,hcur,hnc,hcm,hcs,htk⟩:=hor.resolve_left (by rintro⟨h,_⟩;cases h)
 obtain⟨rfl,rfl⟩:B=g/\c=cap:=by cases ev';exact⟨rfl,rfl⟩
 have hll:l=els.length:=by cases ev';rfl
 have hvl:vs.length=m * sz:=by rw[RVs_length hv,RVs_flat_len hn,hm]
 have hle:i * sz+m * sz<=els.length * sz:=by rw[<-Nat.add_mul];exact Nat.mul_le_mul_right _ him
 have hcap:els.length * sz<=c * sz:=Nat.mul_le_mul_right _ hnc
 obtain⟨cur',w',k1,k2,k3,k4⟩:=run_storeCells_at (P:=P) (j:=i * sz) vs 0 cur w hcur (by omega) h1v
 simp only[Nat.add_zero]at k3
 have how:owns H θ r B:=⟨⟨_,hh,rfl⟩,_,e1,rfl⟩
 have hrvs:∀ x v,RVs I θ w x v->RVs I θ w' x v:=fun x v h=>RVs_mono (fun _ h=>h) (oneBlock_rv S how k4).2.1 (fun _ _ h=>h) x v h
 have htake:cur'.toList.take (els.length * sz)=xs.take (i * sz)++vs++xs.drop (i * sz+vs.length):=by
  rw[k3,hvl,take_wr hvl (by omega) (by simp;omega),htk]
 have hnew:RVs I θ w (els.take i++news++els.drop (i+m)).flatten (xs.take (i * sz)++vs++xs.drop (i * sz+vs.length)):=by
  rw[List.flatten_append,List.flatten_append,hvl,<-Nat.add_mul]
  exact RVs_append (RVs_append (flat_take h4 h5 i) hv) (flat_drop h4 h5 (i+m))
 have hnl:(els.take i++news++els.drop (i+m)).length=els.length:=by simp;omega
 refine⟨w',k1,k4,how,S.put_block how k4 (ab:=.row e sz (els.take i++news++els.drop (i+m))) rfl (by intro t cs h;cases h) ?_⟩
 intro e2' sz2 els2 h
 cases h
 refine⟨_,xs.take (i * sz)++vs++xs.drop (i * sz+vs.length),e1,⟨?_,.inr ⟨B,c,cur',by rw[hll,hnl],hbg,k2,by rw[hnl];exact hnc,hcm,?_,by rw[hnl];exact htake⟩⟩,?_,hrvs _ _ hnew,?_,h6,by rw[hnl];exact h7⟩
 ·rw[hnl];simp;omega
 ·rw[<-Array.length_toList,k3]
  simp
  omega
 ·intro u hu
  simp only[List.mem_append]at hu
  rcases hu with(hu|hu)|hu
  ·exact h3 u (List.mem_of_mem_take hu)
  ·exact h1v u hu
  ·exact h3 u (List.mem_of_mem_drop hu)
 ·intro e0 he0
  simp only[List.mem_append]at he0
  rcases he0 with(h|h)|h
  ·exact h5 e0 (List.mem_of_mem_take h)
  ·exact hn e0 h
  ·exact h5 e0 (List.mem_of_mem_drop h)
theorem ok_clr{t e:TypeId}{x:Operand}{x':Opd}{sz:Nat}{zero:List AV}{ie:TypeInfo}{z:Value}(ho:o.op=.call { callee:=.builtin .clear,args:=#[x],argTypes:=#[t] })(hu:P.underlying t=some (.slice e))
  (hie:P.info? e=some ie) (hz:ie.zero=some z) (hzs:z.cells.size=sz) (hs0:0<sz) (hzero:constL z.cells.toList zero=true) (S:Sim Γ I θ st.H w) (hR:Rel I θ w st.T a)
  (hd:∀ k,o.dst=some k->k<a.tmps.size) (hx:opdOk x x'=true) (hy:sv st o.dst (.clr sz zero x')=some st'):Does P Γ w a o st':=by
 have hexec:∀ v w',(Builtin.clear_ #[t] o.type #[a.eval x]).run P w=.ok v w'->(execOp a.eval o).run P w=.ok (.value v) w':=by
  intro v w' h
  unfold execOp
  simp[ho,resolve,invoke,builtin,h]
 have hxv:=opd_rv hR hx
 simp only[sv]at hy
 cases hq:st.ev x'<;>rw[hq]at hy hxv<;>try simp only[reduceCtorEq]at hy
 case rv r sz' lo n =>
  cases hh:st.H[r]? with
  | none=>rw[hh]at hy;simp at hy
  | some ab =>
   rw[hh]at hy
   cases ab with
   | gone=>simp at hy
   | pin _ _=>simp at hy
   | map _ _=>simp at hy
   | box _ _=>simp at hy
   | row e' szr els =>
    simp only at hy
    split at hy
    ·rename_i hc
     obtain⟨hle,rfl,rfl⟩:=hc
     obtain rfl:=Option.some.inj hy
     simp only[RV]at hxv
     obtain⟨a0,l,c,e1,e2,e3,e4,e5,e6,a',ex,e7,e8⟩:=hxv
     obtain⟨z1,z2⟩:=constL_rv (I:=I) (θ:=θ) (w:=w) hzero
     have hzl:zero.length=sz':=by have:=RVs_length z1;simpa [hzs] using this.symm
     by_cases h0:n=0
     ·subst h0
      have hr:(Builtin.clear_ #[t] o.type #[a.eval x]).run P w=.ok (.tuple #[]) w:=by
       rw[ex]
       cases a'<;>simp[Builtin.clear_,run_underlying hu]
      have hset:st.H.set r (.row e' sz' (els.take lo++List.replicate 0 zero++els.drop (lo+0)))=st.H:=by
       simp only[List.replicate_zero,List.append_nil,Nat.add_zero,List.take_append_drop]
       obtain⟨hlt,hg⟩:=List.getElem?_eq_some_iff.1 hh
       rw[<-hg]
       exact List.set_getElem_self hlt
      rw[hset]
      refine⟨.tuple #[],w,I,θ,.inl (hexec _ _ hr),?_,?_⟩
      ·cases o.dst<;>exact S
      ·exact Rel.put (st:={ st with H:=st.H }) hR o.dst hd (by simp[RV,RVs])
     ·obtain⟨B,rfl,rfl⟩:=e8 h0
      obtain⟨r1,r2⟩:=made_rv z1 z2 (by omega) n
      obtain⟨w',k1,k2,k3,k4⟩:=Sim.splice_row (P:=P) S (i:=lo) (m:=n) hh e1 hle (List.length_replicate ..) (fun el hel=>by rw[List.eq_of_mem_replicate hel,hzl]) r1 r2
      have hr:(Builtin.clear_ #[t] o.type #[a.eval x]).run P w=.ok (.tuple #[]) w':=by
       rw[ex]
       have hn:n≠0:=h0
       obtain⟨k,rfl⟩:=Nat.exists_eq_succ_of_ne_zero hn
       have e0:Builtin.zeroCells z.cells (k+1)=(Array.range ((k+1) * z.cells.size)).map (z.cells[· % z.cells.size]!):=rfl
       have k1':(storeCells ⟨B,lo * sz',none⟩ (Builtin.zeroCells z.cells (k+1)).toList).run P w=.ok () w':=k1
       have hz':(zeroValue e).run P w=.ok z w:=by simp[zeroValue,typeInfo,hie,hz]
       simp only[Builtin.clear_,run_underlying hu,hz',Sem.run_bind,Result.andThen_ok,List.getElem?_toArray,List.getElem?_cons_zero,k1',Sem.run_pure,Nat.succ_eq_add_one]
      refine⟨.tuple #[],w',I,θ,.inl (hexec _ _ hr),?_,?_⟩
      ·cases o.dst<;>exact k4
      ·exact Rel.put (st:={ st with H:=st.H.set r (.row e' sz' (els.take lo++List.replicate n zero++els.drop (lo+n))) }) (fun q=>(oneBlock_rv S k3 k2).2.2 _ _ (hR q)) o.dst hd (by simp[RV,RVs])
    ·cases hy
theorem ok_apv{t e:TypeId}{x z:Operand}{x' z':Opd}{sz:Nat}{ie:TypeInfo}(ho:o.op=.call { callee:=.builtin .append,args:=#[x,z],argTypes:=#[t,t] })(hu:P.underlying t=some (.slice e))
  (hie:P.info? e=some ie) (hsz:ie.size=sz) (S:Sim Γ I θ st.H w) (hR:Rel I θ w st.T a)
  (hd:∀ k,o.dst=some k->k<a.tmps.size) (hx:opdOk x x'=true) (hz:opdOk z z'=true) (hy:sv st o.dst (.apv e sz x' z')=some st'):Does P Γ w a o st':=by
 have hexec:∀ v w',(Builtin.append_ #[t,t] o.type #[a.eval x,a.eval z]).run P w=.ok v w'->(execOp a.eval o).run P w=.ok (.value v) w':=by
  intro v w' h
  unfold execOp
  simp[ho,resolve,invoke,builtin,h]
 have hxv:=opd_rv hR hx
 have hzv:=opd_rv hR hz
 simp only[sv]at hy
 split at hy
 ·rename_i r sz1 i q sz2 j m hq hq2
  rw[hq]at hxv
  rw[hq2]at hzv
  cases hh:st.H[r]? with
  | none=>rw[hh]at hy;simp at hy
  | some ab =>
   rw[hh]at hy
   cases ab with
   | gone=>simp at hy
   | pin _ _=>simp at hy
   | map _ _=>simp at hy
   | box _ _=>simp at hy
   | row e' szr els =>
    simp only at hy
    split at hy
    ·rename_i hc
     obtain⟨rfl,him,hjm,rfl,rfl,rfl,rfl⟩:=hc
     obtain rfl:=Option.some.inj hy
     simp only[RV]at hxv hzv
     obtain⟨a0,l,c,e1,e2,e3,e4,e5,e6,a',ex,e7,e8⟩:=hxv
     obtain rfl:=e7 trivial
     obtain⟨a2,l2,c2,f1,f2,f3,f4,f5,f6,a3,fx,f7,f8⟩:=hzv
     rw[e1]at f1
     cases f1
     obtain⟨v,xs,h1,h2,h3,h4,h5,h6,h7⟩:=S.row r _ _ els hh
     obtain rfl:v=.slice a' l c:=by rw[e1]at h1;exact(Option.some.inj h1).symm
     have hll:l=els.length:=by
      rcases h2.2 with⟨h,h0⟩|⟨g,cap,cur,h,_⟩<;>cases h
      ·exact h0.symm
      ·rfl
     have hout:RV I θ w (.rv r sz2 0 (i+m)) (.slice a' (i+m) c)/\∀ w':World,RV I θ w' (.rv r sz2 0 (i+m)) (.slice a' (i+m) c):=by
      have:∀ w':World,RV I θ w' (.rv r sz2 0 (i+m)) (.slice a' (i+m) c):=by
       intro w'
       simp only[RV]
       refine⟨a',l,c,e1,by omega,e3,by omega,e5,e6,a',rfl,fun _=>rfl,fun hne=>?_⟩
       rcases e6 with rfl|⟨B,rfl⟩
       ·exfalso
        rcases h2.2 with⟨_,h0⟩|⟨g,cap,cur,h,_⟩
        ·omega
        ·cases h
       ·exact⟨B,rfl,by simp⟩
      exact⟨this w,this⟩
     by_cases h0:m=0
     ·subst h0
      have hr:(Builtin.append_ #[t,t] o.type #[a.eval x,a.eval z]).run P w=.ok (.slice a' (i+0) c) w:=by
       rw[ex,fx]
       exact run_append_zero (P:=P) (ty:=o.type) hu hie a' a3 i c _ (by omega) w
      have hset:st.H.set r (.row e sz2 (els.take i++(els.drop j).take 0++els.drop (i+0)))=st.H:=by
       simp only[List.take_zero,List.append_nil,Nat.add_zero,List.take_append_drop]
       obtain⟨hlt,hg⟩:=List.getElem?_eq_some_iff.1 hh
       rw[<-hg]
       exact List.set_getElem_self hlt
      rw[hset]
      refine⟨_,w,I,θ,.inl (hexec _ _ hr),?_,?_⟩
      ·cases o.dst<;>exact S
      ·exact Rel.put (st:={ st with H:=st.H }) hR o.dst hd hout.1
     ·obtain⟨B,rfl,rfl⟩:=f8 h0
      have hcell:=h2.cells (g:=B) rfl
      have hjl:((els.drop j).take m).length=m:=by simp;omega
      have hnews:∀ el∈(els.drop j).take m,el.length=sz2:=fun el hel=>h5 el (List.mem_of_mem_drop (List.mem_of_mem_take hel))
      have hv:=flat_take (flat_drop h4 h5 j) (fun el hel=>h5 el (List.mem_of_mem_drop hel)) m
      have hvl:((xs.drop (j * sz2)).take (m * sz2)).length=m * ie.size:=by rw[RVs_length hv,RVs_flat_len hnews,hjl,hsz]
      obtain⟨w',k1,k2,k3,k4⟩:=Sim.splice_row (P:=P) S (i:=i) (m:=m) hh e1 him hjl hnews hv (fun u hu=>h3 u (List.mem_of_mem_drop (List.mem_of_mem_take hu)))
      have hf:=run_firstCells_some (P:=P) w ie.size m ⟨B,j * sz2,none⟩ m (c-j) ((xs.drop (j * sz2)).take (m * sz2)) hvl (fun k v hk=>by
       rw[List.getElem?_take]at hk
       split at hk
       ·rw[List.getElem?_drop]at hk
        have:=hcell _ v hk
        rw[addB]at this ⊢
        simpa using this
       ·cases hk)
      have hroom:i+m<=c:=by omega
      have hr:(Builtin.append_ #[t,t] o.type #[a.eval x,a.eval z]).run P w=.ok (.slice (some ⟨B,0,none⟩) (i+m) c) w':=by
       rw[ex,fx]
       generalize (xs.drop (j * sz2)).take (m * sz2)=vs at hf k1
       rw[<-hsz]at k1
       simp[Builtin.append_,run_underlying hu,sizeOf,typeInfo,hie,Builtin.lenOf,hroom,hf,addB,k1]
      refine⟨_,w',I,θ,.inl (hexec _ _ hr),?_,?_⟩
      ·cases o.dst<;>exact k4
      ·exact Rel.put (st:={ st with H:=st.H.set r (.row e sz2 (els.take i++(els.drop j).take m++els.drop (i+m))) }) (fun q=>(oneBlock_rv S k3 k2).2.2 _ _ (hR q)) o.dst hd (hout.2 w')
    ·cases hy
 ·cases hy
theorem ok_bsr{t e:TypeId}{sz:Nat}{ie:TypeInfo}(ho:o.op=.buildSlice t 0 #[])(hu:P.underlying t=some (.slice e))(hie:P.info? e=some ie)(hs0:0<sz)(S:Sim Γ I θ st.H w)(hR:Rel I θ w st.T a)
  (hd:∀ k,o.dst=some k->k<a.tmps.size) (hy:sv st o.dst (.bsr e sz)=some st'):Does P Γ w a o st':=by
 simp only[sv,Option.some.injEq]at hy
 subst hy
 have hr:(execOp a.eval o).run P w=.ok (.value (.slice (some ⟨w.heap.size,0,none⟩) 0 0)) (w.alloc (.cells #[] e)):=by
  have h0:∀(f:Nat->Value),Array.map f (Array.range 0)=#[]:=fun f=>by apply Array.ext<;>simp
  simp[execOp,ho,Instr.buildSlice,run_underlying hu,sizeOf,typeInfo,hie,Instr.fill,newRow,h0]
 obtain⟨k1,k2,k3⟩:=S.push_row (v:=.slice (some ⟨w.heap.size,0,none⟩) 0 0) (e:=e) (sz:=sz) (els:=[]) (xs:=[]) (w':=w.alloc (.cells #[] e)) ⟨rfl,rfl,rfl,by simp,fun k hk _=>Below.heap_alloc _ _ _ hk⟩
  ⟨by simp,.inr ⟨w.heap.size,0,#[],rfl,Nat.zero_le _,heap_alloc_new w _,Nat.le_refl _,by simp[maxLen],by simp,by simp⟩⟩ (by intro g hg;simp[Value.ownBlock]at hg;omega) (by simp) (by simp[RVs]) (by simp) hs0 (by simp)
 exact does_push hr k1 k2 k3 hR hd
end
end Go.Ab
