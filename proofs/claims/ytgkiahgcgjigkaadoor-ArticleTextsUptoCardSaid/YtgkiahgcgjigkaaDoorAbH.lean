/- A part of the proof: AbH. -/
import Derived.Test.YtgkiahgcgjigkaaDoorAbG
set_option linter.all false
set_option linter.unusedVariables false
namespace Go.Ab
open Go.RowKit
def Does(P:Program)(Γ : Ctx)(w:World)(a:Act)(o:Oper)(st':AS):Prop:=
 ∃ v w' I' θ',((execOp a.eval o).run P w=.ok (.value v) w'\/((execOp a.eval o).run P w=.ok .skip w'/\v=undef))/\Sim Γ I' θ' st'.H w'/\Rel I' θ' w' st'.T (a.put o.dst v)
section
variable {P:Program} {Γ : Ctx} {I:Addr->Prop} {θ:Nat->Option Value} {w:World} {st st':AS} {a:Act} {o:Oper}
theorem does_quiet{y:AV}(h:Gives P Γ I θ st.H w a.eval o y)(hR:Rel I θ w st.T a)(hd:∀ k,o.dst=some k->k<a.tmps.size):Does P Γ w a o (put st o.dst y):=by
 obtain⟨v,w',I',h1,h2,h3,h4⟩:=h
 refine⟨v,w',I',θ,.inl h1,?_,(hR.mono h3).put (st:=st) o.dst hd h4⟩
 cases o.dst<;>exact h2
theorem Sim.push_box{H:List AB}(S:Sim Γ I θ H w){t:TypeId}{cs:List AV}{c:Array Value}(hv:RVs I θ w cs c.toList)(h1:∀ u∈c.toList,u.oneCell'=true) :
  let θ':Nat->Option Value:=fun q=>if q=H.length then some (.pointer (some ⟨w.heap.size,0,none⟩))else θ q
  let w':=w.alloc (.cells c t)
  Sim Γ I θ' (H++[.box t cs]) w'/\(∀ x v,RV I θ w x v->RV I θ' w' x v)/\RV I θ' w' (.ptr H.length 0) (.pointer (some ⟨w.heap.size,0,none⟩)):=by
 intro θ' w'
 obtain⟨S',hm⟩:=S.alloc (.cells c t) (fun _=>False) (fun _ h=>h.elim)
 have hθ:∀ q v,θ q=some v->θ' q=some v:=by
  intro q v h
  by_cases e:q=H.length
  ·rw[e,S.dom _ (Nat.le_refl _)]at h;cases h
  ·simp only[θ',if_neg e,h]
 have hc:∀ b,I b->Same w' w b:=fun b h=>Same.of (Below.heap_alloc _ _ _ (S.ilt b h))
 have hrv:∀ x v,RV I θ w x v->RV I θ' w' x v:=fun x v h=>RV_mono (fun _ h=>h) hc hθ x v h
 have hrvs:∀ x v,RVs I θ w x v->RVs I θ' w' x v:=fun x v h=>RVs_mono (fun _ h=>h) hc hθ x v h
 have hnew:w'.heap[w.heap.size]? = some (.cells c t (0,0)):=heap_alloc_new w _
 have hown:∀ r B,owns (H++[.box t cs]) θ' r B->(r<H.length/\owns H θ r B)\/(r=H.length/\B=w.heap.size):=by
  rintro r B ⟨⟨x,hx,hl⟩,v,hv,hb⟩
  rcases Nat.lt_trichotomy r H.length with h|h|h
  ·rw[List.getElem?_append_left h]at hx
   simp only[θ',if_neg (Nat.ne_of_lt h)]at hv
   exact .inl ⟨h,⟨x,hx,hl⟩,v,hv,hb⟩
  ·subst h
   simp only[θ',if_pos]at hv
   obtain rfl:=Option.some.inj hv
   simp only[blk,Option.some.injEq]at hb
   exact .inr ⟨rfl,hb.symm⟩
  ·rw[List.getElem?_eq_none (by simp;omega)]at hx
   cases hx
 refine⟨⟨S'.below,S.i0,S.inew,fun b h=>by have:=S.ilt b h;simp[w'];omega,?_,?_,?_,?_,?_,?_,?_,?_⟩,hrv,?_⟩
 ·intro r t' cs' h
  rcases Nat.lt_trichotomy r H.length with hl|hl|hl
  ·rw[List.getElem?_append_left hl]at h
   obtain⟨B,c',k1,k2,k3,k4,k5⟩:=S.box r t' cs' h
   exact⟨B,c',hθ _ _ k1,k2,by rw[Below.heap_alloc _ _ _ (Array.getElem?_eq_some_iff.1 k3).1];exact k3,k4,hrvs _ _ k5⟩
  ·subst hl
   simp at h
   obtain⟨rfl,rfl⟩:=h
   exact⟨w.heap.size,c,by simp[θ'],Nat.zero_le _,hnew,h1,hrvs _ _ hv⟩
  ·rw[List.getElem?_eq_none (by simp;omega)]at h
   cases h
 ·intro r e sz els h
  rcases Nat.lt_trichotomy r H.length with hl|hl|hl
  ·rw[List.getElem?_append_left hl]at h
   obtain⟨v,xs,k1,k2,k3,k4,k5⟩:=S.row r e sz els h
   exact⟨v,xs,hθ _ _ k1,k2.alloc _,k3,hrvs _ _ k4,k5⟩
  ·subst hl
   simp at h
  ·rw[List.getElem?_eq_none (by simp;omega)]at h
   cases h
 ·intro r q B hne hr hq
  rcases hown r B hr with⟨h1,h2⟩|⟨h1,h2⟩<;>rcases hown q B hq with⟨h3,h4⟩|⟨h3,h4⟩
  ·exact S.sep r q B hne h2 h4
  ·have:=(owns_lt S h2).2;omega
  ·have:=(owns_lt S h4).2;omega
  ·omega
 ·intro b r h ho
  rcases hown r _ ho with⟨h1,h2⟩|⟨h1,h2⟩
  ·exact S.iso b r h h2
  ·have:=S.ilt b h;omega
 ·intro q hq
  simp only[List.length_append,List.length_cons,List.length_nil]at hq
  simp only[θ',if_neg (show q≠H.length by omega)]
  exact S.dom q (by omega)
 ·intro r B ho
  rcases hown r B ho with⟨_,h2⟩|⟨_,h2⟩
  ·exact S.own r B h2
  ·exact Γ.new B (by have:=S.below.size;omega)
 ·intro q r B h
  rcases Nat.lt_trichotomy q H.length with hl|hl|hl
  ·rw[List.getElem?_append_left hl]at h
   exact hθ _ _ (S.pin q r B h)
  ·subst hl
   simp at h
  ·rw[List.getElem?_eq_none (by simp;omega)]at h
   cases h
 ·intro r q es h
  rcases Nat.lt_trichotomy r H.length with hl|hl|hl
  ·rw[List.getElem?_append_left hl]at h
   exact(S.map r q es h).mono (fun _ h=>h) hc (hθ r) (fun B o _ k=>by rw[Below.heap_alloc _ _ _ (Array.getElem?_eq_some_iff.1 k).1];exact k)
  ·subst hl
   simp at h
  ·rw[List.getElem?_eq_none (by simp;omega)]at h
   cases h
 ·simp only[RV]
  exact⟨w.heap.size,by simp[θ'],rfl⟩
theorem does_push{ab:AB}{v:Value}{w':World}{θ':Nat->Option Value}(hrun:(execOp a.eval o).run P w=.ok (.value v) w')(hS:Sim Γ I θ' (st.H++[ab]) w')(hrv:∀ x v,RV I θ w x v->RV I θ' w' x v)
  {y:AV} (hy:RV I θ' w' y v) (hR:Rel I θ w st.T a) (hd:∀ k,o.dst=some k->k<a.tmps.size):Does P Γ w a o (put { st with H:=st.H++[ab] } o.dst y):=by
 refine⟨v,w',I,θ',.inl hrun,?_,?_⟩
 ·cases o.dst<;>exact hS
 ·exact Rel.put (st:={ st with H:=st.H++[ab] }) (fun n=>hrv _ _ (hR n)) o.dst hd hy
theorem ok_bxm{t:TypeId}{x:Operand}{x':Opd}(ho:o.op=.box t x)(S:Sim Γ I θ st.H w)(hR:Rel I θ w st.T a)(hd:∀ k,o.dst=some k->k<a.tmps.size)(hx:opdOk x x'=true)
  (hy:sv st o.dst (.bxm t x')=some st'):Does P Γ w a o st':=by
 simp only[sv]at hy
 cases hb:boxB (st.ev x')with
 | false=>rw[hb]at hy;simp at hy
 | true =>
  rw[hb]at hy
  simp only[cond_true,Option.some.injEq]at hy
  subst hy
  obtain⟨h1,h2⟩:=RV_box (opd_rv hR hx) hb
  obtain⟨k1,k2,k3⟩:=S.push_box (t:=t) h1 h2
  exact does_push (by simp[execOp,ho,Instr.box,newVar,newRow]) k1 k2 k3 hR hd
theorem ok_alm{t:TypeId}{cs:List AV}(ho:o.op=.alloc t)(hz:zeroOk P t cs=true)(S:Sim Γ I θ st.H w)(hR:Rel I θ w st.T a)(hd:∀ k,o.dst=some k->k<a.tmps.size)
  (hy:sv st o.dst (.alm t cs)=some st'):Does P Γ w a o st':=by
 simp only[sv,Option.some.injEq]at hy
 subst hy
 unfold zeroOk at hz
 cases hi:P.info? t with
 | none=>simp[hi]at hz
 | some it =>
  rw[hi]at hz
  cases hz':it.zero with
  | none=>simp[hz']at hz
  | some z =>
   simp only[Option.bind_some,hz']at hz
   obtain⟨z1,z2⟩:=constL_rv (I:=I) (θ:=θ) (w:=w) hz
   obtain⟨k1,k2,k3⟩:=S.push_box (t:=t) z1 z2
   exact does_push (by simp[execOp,ho,Instr.alloc,zeroValue,typeInfo,hi,hz',newVar,newRow]) k1 k2 k3 hR hd
theorem run_storeCells_at{g j:Nat}{t:TypeId}:∀(vs:List Value) (i:Nat) (cur:Array Value) (w:World),w.heap[g]? = some (.cells cur t (0,0))->j+i+vs.length<=cur.size->(∀ u∈vs,u.oneCell'=true) ->
  ∃ cur':Array Value,∃ w',(storeCells ⟨g,j,none⟩ vs i).run P w=.ok () w'/\w'.heap[g]? = some (.cells cur' t (0,0))/\cur'.toList=cur.toList.take (j+i)++vs++cur.toList.drop (j+i+vs.length) /\
   (∀ k,k≠g->w'.heap[k]? = w.heap[k]?)/\w'.heap.size=w.heap.size/\w'.os=w.os/\w'.tape=w.tape/\w'.output=w.output
 | [],i,cur,w,hg,hl,_=>⟨cur,w,by simp[storeCells],hg,by simp,fun _ _=>rfl,rfl,rfl,rfl,rfl⟩
 | v::vs,i,cur,w,hg,hl,h1=>by
  simp only[List.length_cons]at hl
  have hlt:j+i<cur.size:=by omega
  have hcell:w.cell? ⟨g,j+i,none⟩=some cur[j+i]:=by simp[World.cell?,hg,hlt]
  have hfr:w.frozen? ⟨g,j+i,none⟩=false:=by simp[World.frozen?,hg]
  have hrun:(store ((⟨g,j,none⟩:Addr).add i) v).run P w=.ok () (w.setCell ⟨g,j+i,none⟩ v):=by
   rw[addB,run_store (hv:=h1 v (List.mem_cons_self ..)),hcell]
   simp[hfr]
  have hg':(w.setCell ⟨g,j+i,none⟩ v).heap[g]? = some (.cells (cur.setIfInBounds (j+i) v) t (0,0)):=by
   simp[World.setCell,Array.getElem?_modify,hg]
  obtain⟨cur',w',k1,k2,k3,k4,k5,k6,k7,k8⟩:=run_storeCells_at (j:=j) vs (i+1) (cur.setIfInBounds (j+i) v) (w.setCell ⟨g,j+i,none⟩ v) hg' (by simp;omega) (fun u hu=>h1 u (List.mem_cons_of_mem _ hu))
  refine⟨cur',w',?_,k2,?_,fun k hk=>(k4 k hk).trans (Below.heap_setCell _ _ _ _ (by simpa using hk)),by rw[k5];simp,k6,k7,k8⟩
  ·simp only[storeCells,Sem.run_bind,hrun,Result.andThen_ok,k1]
  ·rw[k3]
   have h2:j+i<cur.toList.length:=by simpa using hlt
   simp only[Array.toList_setIfInBounds,<-Nat.add_assoc,List.length_cons]
   rw[List.take_add_one,List.getElem?_set_self h2,List.take_set_of_le (by omega),List.drop_set_of_lt (by omega)]
   simp only[Option.toList_some,List.append_assoc,List.singleton_append]
   congr 3
   omega
def OneBlock(g:Nat)(w w':World):Prop:=(∀ k,k≠g->w'.heap[k]? = w.heap[k]?)/\w'.heap.size=w.heap.size/\w'.os=w.os/\w'.tape=w.tape/\w'.output=w.output
theorem oneBlock_rv{H:List AB}(S:Sim Γ I θ H w){r g:Nat}(ho:owns H θ r g){w':World}(hw:OneBlock g w w'):Bel Γ w'/\(∀ b,I b->Same w' w b)/\(∀ x v,RV I θ w x v->RV I θ w' x v):=by
 have hc:∀ b,I b->Same w' w b:=by
  intro b hb
  have:b.block≠g:=fun e=>S.iso b r hb (e ▸ ho)
  exact Same.of (hw.1 _ this)
 refine⟨S.below.step hw.2.2.1 hw.2.2.2.1 hw.2.2.2.2 (by rw[hw.2.1];exact Nat.le_refl _) (fun k hk hn=>hw.1 k ?_),hc,fun x v h=>RV_mono (fun _ h=>h) hc (fun _ _ h=>h) x v h⟩
 intro e
 exact hn (e ▸ (owns_lt S ho).1)
theorem Sim.put_block{H:List AB}(S:Sim Γ I θ H w){r g:Nat}(ho:owns H θ r g){w':World}(hw:OneBlock g w w'){ab:AB}(hl:live ab=true)
  (hbox:∀ t cs,ab=.box t cs->∃ B c,θ r=some (.pointer (some ⟨B,0,none⟩))/\0<=B/\w'.heap[B]? = some (.cells c t (0,0))/\(∀ u∈c.toList,u.oneCell'=true)/\RVs I θ w' cs c.toList)
  (hrow:∀ e sz els,ab=.row e sz els->∃ v xs,θ r=some v/\w'.ownsRow 0 e sz v els.length xs/\(∀ u∈xs,u.oneCell'=true)/\RVs I θ w' els.flatten xs /\
   (∀ el∈els,el.length=sz)/\0<sz/\els.length<=LIM)
  (hmap:∀ q es,ab=.map q es->MapAt I θ w' r q es:=by intro _ _ h;cases h):Sim Γ I θ (H.set r ab) w':=by
 obtain⟨hb,hc,hrv⟩:=oneBlock_rv S ho hw
 have hrvs:∀ x v,RVs I θ w x v->RVs I θ w' x v:=fun x v h=>RVs_mono (fun _ h=>h) hc (fun _ _ h=>h) x v h
 have hr:r<H.length:=by
  obtain⟨⟨x,hx,_⟩,_⟩:=ho
  exact(List.getElem?_eq_some_iff.1 hx).1
 have hown:∀ q B,owns (H.set r ab) θ q B->owns H θ q B:=by
  rintro q B ⟨⟨x,hx,hlx⟩,v,hv,hbv⟩
  by_cases e:q=r
  ·subst e
   obtain⟨h1,_⟩:=ho
   exact⟨h1,v,hv,hbv⟩
  ·rw[List.getElem?_set_ne (fun e'=>e e'.symm)]at hx
   exact⟨⟨x,hx,hlx⟩,v,hv,hbv⟩
 refine⟨hb,S.i0,S.inew,fun b h=>by rw[hw.2.1];exact S.ilt b h,?_,?_,fun q p B hne h1 h2=>S.sep q p B hne (hown _ _ h1) (hown _ _ h2),fun b q h h1=>S.iso b q h (hown _ _ h1),fun q hq=>S.dom q (by simpa using hq),fun q B h=>S.own q B (hown _ _ h),fun q p B h=>by
  by_cases e:q=r
  ·subst e
   rw[List.getElem?_set_self hr]at h
   rw[Option.some.inj h]at hl
   cases hl
  ·rw[List.getElem?_set_ne (fun e'=>e e'.symm)]at h
   exact S.pin q p B h,fun q qk es h=>by
  by_cases e:q=r
  ·subst e
   rw[List.getElem?_set_self hr]at h
   exact hmap qk es (Option.some.inj h)
  ·rw[List.getElem?_set_ne (fun e'=>e e'.symm)]at h
   refine(S.map q qk es h).mono (fun _ h=>h) hc (fun _ h=>h) (fun B o k1 k2=>?_)
   have hB:B≠g:=fun e'=>S.sep q r g e ⟨⟨_,h,rfl⟩,_,k1,by simp[blk,e']⟩ ho
   exact(hw.1 B hB).trans k2⟩
 ·intro q t cs h
  by_cases e:q=r
  ·subst e
   rw[List.getElem?_set_self hr]at h
   exact hbox t cs (Option.some.inj h)
  ·rw[List.getElem?_set_ne (fun e'=>e e'.symm)]at h
   obtain⟨B,c,k1,k2,k3,k4,k5⟩:=S.box q t cs h
   have hB:B≠g:=fun e'=>S.sep q r g e ⟨⟨_,h,rfl⟩,_,k1,by simp[blk,e']⟩ ho
   exact⟨B,c,k1,k2,(hw.1 B hB).trans k3,k4,hrvs _ _ k5⟩
 ·intro q e sz els h
  by_cases e':q=r
  ·subst e'
   rw[List.getElem?_set_self hr]at h
   exact hrow e sz els (Option.some.inj h)
  ·rw[List.getElem?_set_ne (fun e=>e' e.symm)]at h
   obtain⟨v,xs,k1,k2,k3,k4,k5⟩:=S.row q e sz els h
   refine⟨v,xs,k1,?_,k3,hrvs _ _ k4,k5⟩
   have hg:w.grownBy w' (some g):=⟨hw.2.2.1,hw.2.2.2.1,hw.2.2.2.2,by rw[hw.2.1];exact Nat.le_refl _,fun k _ hk=>hw.1 k (fun e=>hk (by rw[e]))⟩
   refine k2.kept hg ?_
   cases hv:v.ownBlock with
   | none=>exact .inl rfl
   | some B =>
    refine .inr fun e=>?_
    have hBg:B=g:=Option.some.inj e
    refine S.sep q r g e' ⟨⟨_,h,rfl⟩,_,k1,?_⟩ ho
    rw[<-hBg]
    unfold Value.ownBlock at hv
    split at hv
    ·simpa [blk] using hv
    ·cases hv
theorem take_wr{α:Type}{L v:List α}{p k N:Nat}(hv:v.length=k)(h1:p+k<=N)(h2:N<=L.length) :
  (L.take p++v++L.drop (p+k)).take N=(L.take N).take p++v++(L.take N).drop (p+k):=by
 have e1:(L.take p++v).length=p+k:=by simp;omega
 rw[List.take_append,e1,List.take_of_length_le (by omega),List.take_take,Nat.min_eq_left (by omega),List.drop_take]
theorem flat_wr{α:Type}{xs v:List α}{q sz j n:Nat}(hq:q+sz<=xs.length)(hv:v.length=n)(hj:j+n<=sz) :
  xs.take (q+j)++v++xs.drop (q+j+n)=xs.take q++(((xs.drop q).take sz).take j++v++((xs.drop q).take sz).drop (j+n))++xs.drop (q+sz):=by
 have e1:xs.take (q+j)=xs.take q++(xs.drop q).take j:=by rw[List.take_add]
 have e2:xs.drop (q+j+n)=((xs.drop q).take sz).drop (j+n)++xs.drop (q+sz):=by
  rw[List.drop_take,List.drop_drop]
  have:xs.drop (q+sz)=(xs.drop (q+(j+n))).drop (sz-(j+n)):=by rw[List.drop_drop];congr 1;omega
  rw[this,List.take_append_drop]
  congr 1
  omega
 rw[e1,e2,List.take_take,Nat.min_eq_left (by omega)]
 simp
theorem flat_set{sz:Nat}{el':List AV}{ys:List Value}(hy:RVs I θ w el' ys)(hl':el'.length=sz):∀ {els:List (List AV)} {xs:List Value},RVs I θ w els.flatten xs->(∀ el∈els,el.length=sz)->∀ i,i<els.length ->
  RVs I θ w (els.set i el').flatten (xs.take (i * sz)++ys++xs.drop (i * sz+sz))
 | [],_,_,_,i,hi=>by simp at hi
 | c::cs,xs,h,hl,i,hi=>by
  have hc:=hl c (List.mem_cons_self ..)
  simp only[List.flatten_cons]at h
  have h1:=RVs_take h sz
  rw[List.take_append_of_le_length (by omega),List.take_of_length_le (by omega)]at h1
  have h2:=RVs_drop h sz
  rw[List.drop_append_of_le_length (by omega),List.drop_of_length_le (by omega),List.nil_append]at h2
  cases i with
  | zero =>
   simp only[List.set_cons_zero,List.flatten_cons,Nat.zero_mul,List.take_zero,List.nil_append,Nat.zero_add]
   exact RVs_append hy h2
  | succ i =>
   have:=flat_set hy hl' h2 (fun e he=>hl e (List.mem_cons_of_mem _ he)) i (by simpa using hi)
   simp only[List.set_cons_succ,List.flatten_cons]
   have h3:=RVs_append h1 this
   have e:List.take sz xs++(List.take (i * sz) (List.drop sz xs)++ys++List.drop (i * sz+sz) (List.drop sz xs))=xs.take ((i+1) * sz)++ys++xs.drop ((i+1) * sz+sz):=by
    rw[List.drop_drop,show(i+1) * sz=sz+i * sz by rw[Nat.succ_mul,Nat.add_comm],List.take_add,List.append_assoc,List.append_assoc,List.append_assoc,show sz+i * sz+sz=sz+(i * sz+sz) by omega]
   rwa [e]at h3
theorem ok_st{t:TypeId}{x z:Operand}{x' z':Opd}{n:Nat}(ho:o.op=.store t x z)(hdst:o.dst=none)(hn:szOf P t=some n)(S:Sim Γ I θ st.H w)(hR:Rel I θ w st.T a)(hx:opdOk x x'=true)(hz:opdOk z z'=true)
  (hy:sv st o.dst (.st x' n z')=some st'):Does P Γ w a o st':=by
 simp only[sv]at hy
 cases hb:((cellsOf (st.ev z')).length == n) && boxB (st.ev z')with
 | false=>rw[hb]at hy;simp at hy
 | true =>
  rw[hb]at hy
  simp only[cond_true]at hy
  simp only[Bool.and_eq_true,beq_iff_eq]at hb
  obtain⟨b1,b2⟩:=RV_box (opd_rv hR hz) hb.2
  have hlen:(a.eval z).cells.size=n:=by rw[<-hb.1,<-RVs_length b1];simp
  have hx':=opd_rv hR hx
  have key:∀(g j:Nat) (ty:TypeId) (cur:Array Value),a.eval x=.pointer (some ⟨g,j,none⟩)->w.heap[g]? = some (.cells cur ty (0,0))->j+n<=cur.size ->
    ∃ cur':Array Value,∃ w',(execOp a.eval o).run P w=.ok .skip w'/\w'.heap[g]? = some (.cells cur' ty (0,0))/\cur'.toList=cur.toList.take j++(a.eval z).cells.toList++cur.toList.drop (j+n)/\OneBlock g w w':=by
   intro g j ty cur e hg hle
   obtain⟨cur',w',k1,k2,k3,k4⟩:=run_storeCells_at (P:=P) (j:=j) (a.eval z).cells.toList 0 cur w hg (by simp;omega) b2
   refine⟨cur',w',?_,k2,by simpa [hlen] using k3,k4⟩
   simp[execOp,ho,Instr.storeAt,Instr.sureAddr,e,storeVar,run_sizeOf hn,hlen,k1]
  have fin:∀(g r:Nat) (ab:AB) (w':World),(execOp a.eval o).run P w=.ok .skip w'->owns st.H θ r g->OneBlock g w w'->Sim Γ I θ (st.H.set r ab) w'->st'={ st with H:=st.H.set r ab }->Does P Γ w a o st':=by
   intro g r ab w' hrun how hob hS e
   subst e
   refine⟨undef,w',I,θ,.inr ⟨hrun,rfl⟩,hS,?_⟩
   rw[hdst]
   exact fun n=>(oneBlock_rv S how hob).2.2 _ _ (hR n)
  cases hq:st.ev x'<;>rw[hq]at hy hx'<;>try simp only[reduceCtorEq]at hy
  case ptr r j =>
   cases hh:st.H[r]? with
   | none=>rw[hh]at hy;simp at hy
   | some ab =>
    rw[hh]at hy
    cases ab with
    | gone=>simp at hy
    | pin _ _=>simp at hy
    | map _ _=>simp at hy
    | row _ _ _=>simp at hy
    | box t' cs =>
     simp only at hy
     split at hy
     ·rename_i hle
      simp only[RV]at hx'
      obtain⟨B,e1,e2⟩:=hx'
      obtain⟨B',c,h1,h2,h3,h4,h5⟩:=S.box r t' cs hh
      obtain rfl:B=B':=by rw[e1]at h1;simpa using h1
      have hlc:=RVs_length h5
      obtain⟨cur',w',k1,k2,k3,k4⟩:=key B j t' c e2 h3 (by simp at hlc;omega)
      have how:owns st.H θ r B:=⟨⟨_,hh,rfl⟩,_,e1,rfl⟩
      have hrvs:∀ x v,RVs I θ w x v->RVs I θ w' x v:=fun x v h=>RVs_mono (fun _ h=>h) (oneBlock_rv S how k4).2.1 (fun _ _ h=>h) x v h
      refine fin B r _ w' k1 how k4 (S.put_block how k4 (ab:=.box t' (wrCells cs j (cellsOf (st.ev z')))) rfl ?_ (by intro e sz els h;cases h)) (Option.some.inj hy).symm
      intro t2 cs2 h
      cases h
      refine⟨B,cur',e1,h2,k2,?_,?_⟩
      ·rw[k3]
       intro u hu
       simp only[List.mem_append]at hu
       rcases hu with(hu|hu)|hu
       ·exact h4 u (List.mem_of_mem_take hu)
       ·exact b2 u hu
       ·exact h4 u (List.mem_of_mem_drop hu)
      ·rw[k3]
       apply hrvs
       unfold wrCells
       rw[hb.1]
       exact RVs_append (RVs_append (RVs_take h5 j) b1) (RVs_drop h5 (j+n))
     ·cases hy
  case rptr r sz i j =>
   cases hh:st.H[r]? with
   | none=>rw[hh]at hy;simp at hy
   | some ab =>
    rw[hh]at hy
    cases ab with
    | gone=>simp at hy
    | pin _ _=>simp at hy
    | map _ _=>simp at hy
    | box _ _=>simp at hy
    | row e' sz' els =>
     simp only at hy
     cases hz2:sz == sz' with
     | false=>rw[hz2]at hy;simp at hy
     | true =>
      rw[hz2]at hy
      obtain rfl:sz=sz':=by simpa using hz2
      simp only[cond_true]at hy
      cases he:els[i]? with
      | none=>rw[he]at hy;simp at hy
      | some el =>
       rw[he]at hy
       simp only at hy
       split at hy
       ·rename_i hle
        simp only[RV]at hx'
        obtain⟨B,l,c,e1,e2⟩:=hx'
        obtain⟨v,xs,h1,h2,h3,h4,h5,h6,h7⟩:=S.row r e' sz els hh
        obtain rfl:v=.slice (some ⟨B,0,none⟩) l c:=by rw[e1]at h1;exact(Option.some.inj h1).symm
        have hi:i<els.length:=(List.getElem?_eq_some_iff.1 he).1
        have hel:el.length=sz:=h5 el (List.mem_of_getElem? he)
        obtain⟨hxl,hor⟩:=h2
        obtain⟨g,cap,cur,ev',hbg,hcur,hnc,hcm,hcs,htk⟩:=hor.resolve_left (by rintro⟨h,_⟩;cases h)
        obtain⟨rfl,rfl⟩:B=g/\c=cap:=by cases ev';exact⟨rfl,rfl⟩
        have hll:l=els.length:=by cases ev';rfl
        have hisz:i * sz+sz<=els.length * sz:=by rw[<-Nat.succ_mul];exact Nat.mul_le_mul_right _ hi
        have hcap:els.length * sz<=c * sz:=Nat.mul_le_mul_right _ hnc
        obtain⟨cur',w',k1,k2,k3,k4⟩:=key B (i * sz+j) e' cur e2 hcur (by omega)
        have how:owns st.H θ r B:=⟨⟨_,hh,rfl⟩,_,e1,rfl⟩
        have hrvs:∀ x v,RVs I θ w x v->RVs I θ w' x v:=fun x v h=>RVs_mono (fun _ h=>h) (oneBlock_rv S how k4).2.1 (fun _ _ h=>h) x v h
        have hvl:(a.eval z).cells.toList.length=n:=by simpa using hlen
        have htake:cur'.toList.take (els.length * sz)=xs.take (i * sz+j)++(a.eval z).cells.toList++xs.drop (i * sz+j+n):=by
         rw[k3,take_wr hvl (by omega) (by simp;omega),htk]
        have hwl:(wrCells el j (cellsOf (st.ev z'))).length=sz:=by
         unfold wrCells
         rw[hb.1]
         simp
         omega
        have hg:=flat_get h4 h5 i el he
        have hnew:=flat_set (els:=els) (xs:=xs) (el':=wrCells el j (cellsOf (st.ev z'))) (ys:=((xs.drop (i * sz)).take sz).take j++(a.eval z).cells.toList++((xs.drop (i * sz)).take sz).drop (j+n)) (by
         unfold wrCells
         rw[hb.1]
         exact RVs_append (RVs_append (RVs_take hg j) b1) (RVs_drop hg (j+n))) hwl h4 h5 i hi
        rw[<-flat_wr (by omega) hvl (by omega),<-htake]at hnew
        refine fin B r _ w' k1 how k4 (S.put_block how k4 (ab:=.row e' sz (els.set i (wrCells el j (cellsOf (st.ev z'))))) rfl (by intro t cs h;cases h) ?_) (Option.some.inj hy).symm
        intro e2' sz2 els2 h
        cases h
        refine⟨_,_,e1,⟨?_,.inr ⟨B,c,cur',by rw[hll,List.length_set],hbg,k2,by simpa using hnc,hcm,?_,by rw[List.length_set]⟩⟩,?_,hrvs _ _ hnew,?_,h6,by simpa using h7⟩
        ·rw[htake]
         simp
         omega
        ·rw[<-Array.length_toList,k3]
         simp
         omega
        ·rw[htake]
         intro u hu
         simp only[List.mem_append]at hu
         rcases hu with(hu|hu)|hu
         ·exact h3 u (List.mem_of_mem_take hu)
         ·exact b2 u hu
         ·exact h3 u (List.mem_of_mem_drop hu)
        ·intro e0 he0
         rcases List.mem_or_eq_of_mem_set he0 with h|h
         ·exact h5 e0 h
         ·rw[h];exact hwl
       ·cases hy
end
end Go.Ab
