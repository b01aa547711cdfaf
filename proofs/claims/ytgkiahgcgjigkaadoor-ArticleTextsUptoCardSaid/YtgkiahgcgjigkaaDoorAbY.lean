/- A part of the proof: AbY. -/
import Derived.Test.YtgkiahgcgjigkaaDoorAbI
import Derived.MapKept
set_option linter.all false
set_option linter.unusedVariables false
namespace Go.Ab
open Go.RowKit Go.MapKept
def keyD:TypeDesc->Option IntKind->Bool
 | .string,none=>true
 | .int k,some k'=>k == k'
 | _,_=>false
def keyT(P:Program)(t:TypeId)(q:Option IntKind):Bool:=match P.underlying t with
 | some d=>keyD d q
 | none=>false
def mapT(P:Program)(t:TypeId)(q:Option IntKind):Bool:=match P.underlying t with
 | some (.map k _)=>keyT P k q
 | _=>false
def zero1(P:Program)(t:TypeId)(z:AV):Bool:=match(P.info? t).bind (·.zero)with
 | some v=>constOk v z
 | none=>false
section
variable {P:Program} {Γ : Ctx} {I:Addr->Prop} {θ:Nat->Option Value} {w:World}
theorem str_beq(a b:ByteArray):(a == b)=decide (a=b):=by
 cases a;cases b;rename_i x y
 simp only[ByteArray.mk.injEq]
 show(x == y)=_
 by_cases h:x=y
 ·subst h;simp
 ·simp[h]
theorem key_same{q:Option IntKind}{d:TypeDesc}(hd:keyD d q=true){x y:AV}{v u:Value}(hx:keyOk q x=true)(hy:keyOk q y=true)(h:RV I θ w x v)(k:RV I θ w y u) :
  Instr.sameNow d v u=some (keyEq x y)/\(keyEq x y=true->v=u/\x=y):=by
 cases q with
 | none =>
  cases d<;>simp only[keyD,Bool.false_eq_true]at hd
  cases x<;>simp only[keyOk,Bool.false_eq_true]at hx
  cases y<;>simp only[keyOk,Bool.false_eq_true]at hy
  simp only[RV]at h k
  obtain⟨rfl,_⟩:=h;obtain⟨rfl,_⟩:=k
  rename_i a b
  refine⟨?_,fun e=>?_⟩
  ·simp only[Instr.sameNow,keyEq,str_beq]
  ·simp only[keyEq,decide_eq_true_eq]at e;subst e;exact⟨rfl,rfl⟩
 | some kk =>
  cases d<;>simp only[keyD,Bool.false_eq_true]at hd
  rename_i d
  obtain rfl:d=kk:=by simpa using hd
  cases x<;>simp only[keyOk,Bool.false_eq_true]at hx
  cases y<;>simp only[keyOk,Bool.false_eq_true]at hy
  rename_i k1 a k2 b
  obtain rfl:d=k1:=by simpa using hx
  obtain rfl:d=k2:=by simpa using hy
  simp only[RV]at h k
  obtain⟨rfl,_⟩:=h;obtain⟨rfl,_⟩:=k
  refine⟨?_,fun e=>?_⟩
  ·simp only[Instr.sameNow,if_true,keyEq];rfl
  ·simp only[keyEq,decide_eq_true_eq]at e;subst e;exact⟨rfl,rfl⟩
theorem keysOk_cons{q:Option IntKind}{el:List AV}{es:List (List AV)}(h:keysOk q (el::es)=true):(∃ k v,el=[k,v]/\keyOk q k=true)/\keysOk q es=true:=by
 simp only[keysOk,Bool.and_eq_true]at h
 refine⟨?_,h.2⟩
 have h1:=h.1
 split at h1
 ·exact⟨_,_,rfl,h1⟩
 ·cases h1
theorem find_rv{q:Option IntKind}{d:TypeDesc}(hd:keyD d q=true){x:AV}{v:Value}(hx:keyOk q x=true)(h:RV I θ w x v):∀(es:List (List AV)) (l:List MapEntry) (i:Nat),keysOk q es=true->RVm I θ w es l ->
  (lkM x es=none/\Instr.findNow d v l i=some none) \/
  ∃ j e y,lkM x es=some y/\l[j]? = some e/\Instr.findNow d v l i=some (some (i+j,e.val))/\RV I θ w y e.val/\e.key=v/\(∀ z,upM x z es=es.set j [x,z]/\j<es.length)
 | [],l,i,_,hm=>by
  simp only[RVm]at hm;subst hm
  exact .inl ⟨rfl,rfl⟩
 | el::es,l,i,hk,hm=>by
  simp only[RVm]at hm
  obtain⟨e,r,rfl,h1,h2,h3⟩:=hm
  obtain⟨⟨k,y,rfl,hkk⟩,hks⟩:=keysOk_cons hk
  simp only[RVs]at h1
  obtain⟨_,_,e1,hk1,_,_,e2,hy1,_⟩:=h1
  cases e1;cases e2
  obtain⟨s1,s2⟩:=key_same hd hx hkk h hk1
  cases hc:keyEq x k with
  | true =>
   rw[hc]at s1
   obtain⟨rfl,rfl⟩:=s2 hc
   refine .inr ⟨0,e,y,by simp[lkM,hc],rfl,by simp[Instr.findNow,s1],hy1,rfl,fun z=>⟨by simp[upM,hc],by simp⟩⟩
  | false =>
   rw[hc]at s1
   rcases find_rv hd hx h es r (i+1) hks h3 with⟨g1,g2⟩|⟨j,e',y',g1,g2,g3,g4,g5,g6⟩
   ·exact .inl ⟨by simp[lkM,hc,g1],by simp[Instr.findNow,s1,g2]⟩
   ·refine .inr ⟨j+1,e',y',by simp[lkM,hc,g1],by simpa using g2,by simp[Instr.findNow,s1,g3];omega,g4,g5,fun z=>⟨?_,?_⟩⟩
    ·simp[upM,hc,(g6 z).1]
    ·simpa using (g6 z).2
theorem upM_none{q:Option IntKind}{x z:AV}:∀(es:List (List AV)),keysOk q es=true->lkM x es=none->upM x z es=es++[[x,z]]
 | [],_,_=>rfl
 | el::es,hk,h=>by
  obtain⟨⟨k,y,rfl,hkk⟩,hks⟩:=keysOk_cons hk
  simp only[lkM]at h
  cases hc:keyEq x k<;>rw[hc]at h
  ·simp only[cond_false]at h
   simp[upM,hc,upM_none es hks h]
  ·cases h
theorem RVm_len:∀ {es:List (List AV)} {l:List MapEntry},RVm I θ w es l->l.length=es.length
 | [],l,h=>by simp only[RVm]at h;subst h;rfl
 | _::es,l,h=>by
  simp only[RVm]at h
  obtain⟨e,r,rfl,_,_,h3⟩:=h
  simp[RVm_len h3]
theorem RVm_push{el:List AV}{e:MapEntry}(h:RVs I θ w el [e.key,e.val])(h1:e.key.oneCell'=true):∀ {es:List (List AV)} {l:List MapEntry},RVm I θ w es l->RVm I θ w (es++[el]) (l++[e])
 | [],l,k=>by simp only[RVm]at k;subst k;exact⟨e,[],rfl,h,h1,rfl⟩
 | _::es,l,k=>by
  simp only[RVm]at k
  obtain⟨e',r,rfl,k1,k2,k3⟩:=k
  exact⟨e',r++[e],rfl,k1,k2,RVm_push h h1 k3⟩
theorem RVm_set{el:List AV}(f:MapEntry->MapEntry):∀ {es:List (List AV)} {l:List MapEntry} (j:Nat),(∀ e,l[j]? = some e->RVs I θ w el [(f e).key,(f e).val]/\(f e).key.oneCell'=true)->RVm I θ w es l->RVm I θ w (es.set j el) (l.modify j f)
 | [],l,j,_,k=>by simp only[RVm]at k;subst k;simp[RVm]
 | _::es,l,0,h,k=>by
  simp only[RVm]at k
  obtain⟨e',r,rfl,k1,k2,k3⟩:=k
  obtain⟨h1,h2⟩:=h e' rfl
  exact⟨f e',r,by simp,h1,h2,k3⟩
 | _::es,l,j+1,h,k=>by
  simp only[RVm]at k
  obtain⟨e',r,rfl,k1,k2,k3⟩:=k
  exact⟨e',r.modify j f,by simp,k1,k2,RVm_set f j (fun e he=>h e (by simpa using he)) k3⟩
theorem keysOk_set{q:Option IntKind}{x z:AV}(hx:keyOk q x=true):∀ {es:List (List AV)} (j:Nat),keysOk q es=true->keysOk q (es.set j [x,z])=true
 | [],_,h=>h
 | el::es,0,h=>by simp only[List.set_cons_zero,keysOk,hx,Bool.true_and];exact(keysOk_cons h).2
 | el::es,j+1,h=>by
  simp only[List.set_cons_succ,keysOk,Bool.and_eq_true]at h ⊢
  exact⟨h.1,keysOk_set hx j h.2⟩
theorem keysOk_push{q:Option IntKind}{x z:AV}(hx:keyOk q x=true):∀ {es:List (List AV)},keysOk q es=true->keysOk q (es++[[x,z]])=true
 | [],_=>by simp[keysOk,hx]
 | el::es,h=>by
  simp only[List.cons_append,keysOk,Bool.and_eq_true]at h ⊢
  exact⟨h.1,keysOk_push hx h.2⟩
theorem pureE_set'{el:List AV}(he:pureL el=true):∀ {es:List (List AV)} (j:Nat),pureE es=true->pureE (es.set j el)=true
 | [],_,h=>h
 | _::es,0,h=>by simp only[List.set_cons_zero,pureE,Bool.and_eq_true]at h ⊢;exact⟨he,h.2⟩
 | _::es,j+1,h=>by simp only[List.set_cons_succ,pureE,Bool.and_eq_true]at h ⊢;exact⟨h.1,pureE_set' he j h.2⟩
theorem key_one{q:Option IntKind}{x:AV}{v:Value}(hx:keyOk q x=true)(h:RV I θ w x v):v.oneCell'=true/\pureB x=true/\(∀ a b,Value.iface a b≠v)/\Instr.sameBits 10000 v v=true:=by
 cases q<;>cases x<;>simp only[keyOk,Bool.false_eq_true]at hx<;>simp only[RV]at h
 ·obtain⟨rfl,_⟩:=h;exact⟨rfl,rfl,fun a b=>by simp,by simp[Instr.sameBits,str_beq]⟩
 ·obtain⟨rfl,_⟩:=h;exact⟨rfl,rfl,fun a b=>by simp,by simp[Instr.sameBits]⟩
theorem run_checkKey{q:Option IntKind}{d:TypeDesc}{t:TypeId}(hu:P.underlying t=some d)(hd:keyD d q=true)(b:Bool)(v:Value):(Instr.checkKey b 10000 t v).run P w=.ok () w:=by
 cases q<;>cases d<;>simp only[keyD,Bool.false_eq_true]at hd
 all_goals (show(Instr.checkKey b (9999+1) t v).run P w=_;unfold Instr.checkKey;simp[run_underlying hu])
theorem mapOf_rv{H:List AB}(S:Sim Γ I θ H w){x:AV}{v:Value}(h:RV I θ w x v){q:Option IntKind}{es:List (List AV)}(hm:mapOf H x=some (q,es)) :
  (v=.map none/\es=[])\/∃ B ents c,v=.map (some B)/\w.heap[B]? = some (.map ents c)/\pureE es=true/\keysOk q es=true/\es.length<=LIM/\RVm I θ w es ents.toList:=by
 cases x<;>simp only[mapOf,reduceCtorEq]at hm
 case mv q' es' =>
  cases hm
  simp only[RV]at h
  obtain⟨h0,h1,h2,h|⟨B,ents,c,e,_,h4,h5⟩⟩:=h
  ·exact .inl h
  ·exact .inr ⟨B,ents,c,e,h4,h0,h1,h2,h5⟩
 case row r =>
  split at hm
  ·rename_i hh
   cases hm
   obtain⟨B,ents,c,e1,e2⟩:=S.map r _ _ hh
   simp only[RV]at h
   rw[e1]at h
   exact .inr ⟨B,ents,c,(Option.some.inj h.1).symm,e2⟩
  ·cases hm
end
section
variable {P:Program} {Γ : Ctx} {I:Addr->Prop} {θ:Nat->Option Value} {H:List AB} {w:World} {ev:Operand->Value} {ρ:Opd->AV} {o:Oper} {y:AV}
theorem ok_mln{t k e:TypeId}{x:Operand}{x':Opd}(ho:o.op=.call { callee:=.builtin .len,args:=#[x],argTypes:=#[t] })(hu:P.underlying t=some (.map k e))
  (S:Sim Γ I θ H w) (hx:RV I θ w (ρ x') (ev x)) (hy:ov ρ H (.mln x')=some y):Gives P Γ I θ H w ev o y:=by
 simp only[ov]at hy
 split at hy
 ·rename_i hm
  cases hy
  rcases mapOf_rv S hx hm with⟨e1,rfl⟩|⟨B,ents,c,e1,e2,_,_,e3,e4⟩
  ·exact gives_same S (v:=.int .i64 0) (by simp[execOp,ho,resolve,invoke,builtin,Builtin.len_,run_underlying hu,e1,goInt]) (rng_len (n:=0) (Nat.zero_le _))
  have hl:=RVm_len e4
  refine gives_same S (v:=.int .i64 ents.size) ?_ ?_
  ·simp[execOp,ho,resolve,invoke,builtin,Builtin.len_,run_underlying hu,e1,Go.MapKept.run_getObj_map e2,goInt]
  ·rw[<-Array.length_toList,hl];exact rng_len e3
 ·cases hy
theorem keyT_some{t:TypeId}{q:Option IntKind}(h:keyT P t q=true):∃ d,P.underlying t=some d/\keyD d q=true:=by
 unfold keyT at h
 split at h
 ·exact⟨_,by assumption,h⟩
 ·cases h
theorem mapT_some{t:TypeId}{q:Option IntKind}(h:mapT P t q=true):∃ k e,P.underlying t=some (.map k e)/\keyT P k q=true:=by
 unfold mapT at h
 split at h
 ·exact⟨_,_,by assumption,h⟩
 ·cases h
theorem zero1_some{t:TypeId}{z:AV}(h:zero1 P t z=true):∃ v,(P.info? t).bind (·.zero)=some v/\constOk v z=true:=by
 unfold zero1 at h
 split at h
 ·exact⟨_,by assumption,h⟩
 ·cases h
theorem ok_mlk{t k e:TypeId}{x i:Operand}{x' i':Opd}{q:Option IntKind}{z:AV}{ok:Bool}(ho:o.op=.lookup t x i ok)(hu:P.underlying t=some (.map k e))(hk:keyT P k q=true)(hz:zero1 P e z=true)
  (S:Sim Γ I θ H w) (hx:RV I θ w (ρ x') (ev x)) (hi:RV I θ w (ρ i') (ev i)) (hy:ov ρ H (.mlk q z ok x' i')=some y):Gives P Γ I θ H w ev o y:=by
 simp only[ov]at hy
 obtain⟨⟨q',es⟩,hm⟩:∃ p,mapOf H (ρ x')=some p:=by
  cases hm:mapOf H (ρ x')with
  | none=>rw[hm]at hy;cases hy
  | some p=>exact⟨p,rfl⟩
 rw[hm]at hy
 simp only at hy
 cases hq:(q == q' && keyOk q (ρ i'))<;>rw[hq]at hy
 ·cases hy
 simp only[Bool.and_eq_true,beq_iff_eq]at hq
 obtain⟨rfl,hko⟩:=hq
 obtain⟨d,hd,hk⟩:=keyT_some hk
 obtain⟨zv,hzv,hz⟩:=zero1_some hz
 obtain⟨it,hit,hiz⟩:=Option.bind_eq_some_iff.1 hzv
 have hzr:RV I θ w z zv:=constOk_rv hz
 have hfin:∀(v:Value) (b:Bool) (y0:AV),RV I θ w y0 v->RV I θ w (bif ok then .tup [y0,.b b]else y0) (if ok=true then .tuple #[v,.bool b]else v):=by
  intro v b y0 h
  cases ok
  ·exact h
  ·simp only[cond_true,if_true,RV]
   exact⟨[v,.bool b],rfl,v,_,rfl,h,.bool b,[],rfl,rfl,rfl⟩
 rcases mapOf_rv S hx hm with⟨e1,rfl⟩|⟨B,ents,c,e1,e2,_,e3,_,e4⟩
 ·simp only[lkM,cond_true,Option.some.injEq]at hy
  subst hy
  refine gives_same S (v:=if ok=true then .tuple #[zv,.bool false]else zv) ?_ (hfin zv false z hzr)
  simp[execOp,ho,Instr.lookup,run_underlying hu,e1,run_checkKey hd hk,Instr.findKey,run_underlying hd,Instr.findNow,zeroValue,typeInfo,hit,hiz]
 rcases find_rv hk hko hi es ents.toList 0 e3 e4 with⟨g1,g2⟩|⟨j,en,y',g1,_,g3,g4,_⟩
 ·rw[g1]at hy
  cases hy
  refine gives_same S (v:=if ok=true then .tuple #[zv,.bool false]else zv) ?_ (hfin zv false z hzr)
  simp[execOp,ho,Instr.lookup,run_underlying hu,e1,Go.MapKept.run_getObj_map e2,run_checkKey hd hk,Instr.findKey,run_underlying hd,g2,zeroValue,typeInfo,hit,hiz]
 ·rw[g1]at hy
  cases hy
  refine gives_same S (v:=if ok=true then .tuple #[en.val,.bool true]else en.val) ?_ (hfin en.val true y' g4)
  simp[execOp,ho,Instr.lookup,run_underlying hu,e1,Go.MapKept.run_getObj_map e2,run_checkKey hd hk,Instr.findKey,run_underlying hd,g3]
end
section
variable {P:Program} {Γ : Ctx} {I:Addr->Prop} {θ:Nat->Option Value} {w:World} {st st':AS} {a:Act} {o:Oper}
theorem Sim.push_map{H:List AB}(S:Sim Γ I θ H w)(q:Option IntKind) :
  let θ':Nat->Option Value:=fun q=>if q=H.length then some (.map (some w.heap.size))else θ q
  let w':=w.alloc (.map #[] 0)
  Sim Γ I θ' (H++[.map q []]) w'/\(∀ x v,RV I θ w x v->RV I θ' w' x v)/\RV I θ' w' (.row H.length) (.map (some w.heap.size)):=by
 intro θ' w'
 obtain⟨S',hm⟩:=S.alloc (.map #[] 0) (fun _=>False) (fun _ h=>h.elim)
 have hθ:∀ q v,θ q=some v->θ' q=some v:=by
  intro q v h
  by_cases e:q=H.length
  ·rw[e,S.dom _ (Nat.le_refl _)]at h;cases h
  ·simp only[θ',if_neg e,h]
 have hc:∀ b,I b->Same w' w b:=fun b h=>Same.of (Below.heap_alloc _ _ _ (S.ilt b h))
 have hrv:∀ x v,RV I θ w x v->RV I θ' w' x v:=fun x v h=>RV_mono (fun _ h=>h) hc hθ x v h
 have hrvs:∀ x v,RVs I θ w x v->RVs I θ' w' x v:=fun x v h=>RVs_mono (fun _ h=>h) hc hθ x v h
 have hnew:w'.heap[w.heap.size]? = some (.map #[] 0):=(MapKept.heap_alloc w _).1
 have hown:∀ r B,owns (H++[.map q []]) θ' r B->(r<H.length/\owns H θ r B)\/(r=H.length/\B=w.heap.size):=by
  rintro r B ⟨⟨x,hx,hl⟩,v,hv,hb⟩
  rcases Nat.lt_trichotomy r H.length with h|h|h
  ·rw[List.getElem?_append_left h]at hx
   simp only[θ',if_neg (Nat.ne_of_lt h)]at hv
   exact .inl ⟨h,⟨x,hx,hl⟩,v,hv,hb⟩
  ·subst h
   simp only[θ',if_pos]at hv
   obtain rfl:=Option.some.inj hv
   simp only[blk,Option.some.injEq]at hb
   exact .inr ⟨rfl,hb.symm⟩
  ·rw[List.getElem?_eq_none (by simp;omega)]at hx
   cases hx
 refine⟨⟨S'.below,S.i0,S.inew,fun b h=>by have:=S.ilt b h;simp[w'];omega,?_,?_,?_,?_,?_,?_,?_,?_⟩,hrv,?_⟩
 ·intro r t' cs' h
  rcases Nat.lt_trichotomy r H.length with hl|hl|hl
  ·rw[List.getElem?_append_left hl]at h
   obtain⟨B,c',k1,k2,k3,k4,k5⟩:=S.box r t' cs' h
   exact⟨B,c',hθ _ _ k1,k2,by rw[Below.heap_alloc _ _ _ (Array.getElem?_eq_some_iff.1 k3).1];exact k3,k4,hrvs _ _ k5⟩
  ·subst hl
   simp at h
  ·rw[List.getElem?_eq_none (by simp;omega)]at h
   cases h
 ·intro r e sz els h
  rcases Nat.lt_trichotomy r H.length with hl|hl|hl
  ·rw[List.getElem?_append_left hl]at h
   obtain⟨v,xs,k1,k2,k3,k4,k5⟩:=S.row r e sz els h
   exact⟨v,xs,hθ _ _ k1,k2.alloc _,k3,hrvs _ _ k4,k5⟩
  ·subst hl
   simp at h
  ·rw[List.getElem?_eq_none (by simp;omega)]at h
   cases h
 ·intro r q B hne hr hq
  rcases hown r B hr with⟨h1,h2⟩|⟨h1,h2⟩<;>rcases hown q B hq with⟨h3,h4⟩|⟨h3,h4⟩
  ·exact S.sep r q B hne h2 h4
  ·have:=(owns_lt S h2).2;omega
  ·have:=(owns_lt S h4).2;omega
  ·omega
 ·intro b r h ho
  rcases hown r _ ho with⟨h1,h2⟩|⟨h1,h2⟩
  ·exact S.iso b r h h2
  ·have:=S.ilt b h;omega
 ·intro q hq
  simp only[List.length_append,List.length_cons,List.length_nil]at hq
  simp only[θ',if_neg (show q≠H.length by omega)]
  exact S.dom q (by omega)
 ·intro r B ho
  rcases hown r B ho with⟨_,h2⟩|⟨_,h2⟩
  ·exact S.own r B h2
  ·exact Γ.new B (by have:=S.below.size;omega)
 ·intro q r B h
  rcases Nat.lt_trichotomy q H.length with hl|hl|hl
  ·rw[List.getElem?_append_left hl]at h
   exact hθ _ _ (S.pin q r B h)
  ·subst hl
   simp at h
  ·rw[List.getElem?_eq_none (by simp;omega)]at h
   cases h
 ·intro r q' es h
  rcases Nat.lt_trichotomy r H.length with hl|hl|hl
  ·rw[List.getElem?_append_left hl]at h
   exact(S.map r q' es h).mono (fun _ h=>h) hc (hθ r) (fun B o _ k=>by rw[Below.heap_alloc _ _ _ (Array.getElem?_eq_some_iff.1 k).1];exact k)
  ·subst hl
   simp at h
   obtain⟨rfl,rfl⟩:=h
   exact⟨w.heap.size,#[],0,by simp[θ'],hnew,rfl,rfl,Nat.zero_le _,rfl⟩
  ·rw[List.getElem?_eq_none (by simp;omega)]at h
   cases h
 ·simp only[RV]
  exact⟨by simp[θ'],.inr ⟨_,rfl⟩⟩
theorem ok_mkm{t:TypeId}{q:Option IntKind}(ho:o.op=.makeMap t none)(S:Sim Γ I θ st.H w)(hR:Rel I θ w st.T a)(hd:∀ k,o.dst=some k->k<a.tmps.size)
  (hy:sv st o.dst (.mkm q)=some st'):Does P Γ w a o st':=by
 simp only[sv,Option.some.injEq]at hy
 subst hy
 obtain⟨k1,k2,k3⟩:=S.push_map q
 exact does_push (by simp[execOp,ho,Instr.makeMap]) k1 k2 k3 hR hd
theorem ok_mup{t k e:TypeId}{x i z:Operand}{x' i' z':Opd}{q:Option IntKind}(ho:o.op=.mapUpdate t x i z)(hdst:o.dst=none)(hu:P.underlying t=some (.map k e))(hk:keyT P k q=true)
  (S:Sim Γ I θ st.H w) (hR:Rel I θ w st.T a) (hx:opdOk x x'=true) (hi:opdOk i i'=true) (hz:opdOk z z'=true)
  (hy:sv st o.dst (.mup q x' i' z')=some st'):Does P Γ w a o st':=by
 obtain⟨d,hd,hk⟩:=keyT_some hk
 simp only[sv]at hy
 split at hy
 ·rename_i r hr
  split at hy
  ·rename_i q' es hh
   cases hb:(q == q' && keyOk q (st.ev i') && pureB (st.ev z') && boxB (st.ev z'))<;>rw[hb]at hy
   ·cases hy
   simp only[Bool.and_eq_true,beq_iff_eq]at hb
   obtain⟨⟨⟨rfl,hko⟩,hpz⟩,_⟩:=hb
   simp only[cond_true]at hy
   split at hy
   ·rename_i hlt
    rw[hdst]at hy
    simp only[put,Option.some.injEq]at hy
    subst hy
    obtain⟨B,ents,c,e1,e2,e3,e4,e5,e6⟩:=S.map r q es hh
    have hxv:=opd_rv hR hx
    rw[hr]at hxv
    simp only[RV]at hxv
    have rfl':a.eval x=.map (some B):=by rw[e1]at hxv;exact(Option.some.inj hxv.1).symm
    have hiv:=opd_rv hR hi
    have hzv:=opd_rv hR hz
    obtain⟨o1,o2,o3,o4⟩:=key_one hko hiv
    have how:owns st.H θ r B:=⟨⟨_,hh,rfl⟩,_,e1,rfl⟩
    have hBlt:B<w.heap.size:=(Array.getElem?_eq_some_iff.1 e2).1
    have fin:∀(ents':Array MapEntry) (c':Nat),(execOp a.eval o).run P w=.ok .skip { w with heap:=w.heap.setIfInBounds B (.map ents' c') } ->
      RVm I θ w (upM (st.ev i') (st.ev z') es) ents'.toList->pureE (upM (st.ev i') (st.ev z') es)=true->keysOk q (upM (st.ev i') (st.ev z') es)=true->(upM (st.ev i') (st.ev z') es).length<=LIM ->
      Does P Γ w a o { st with H:=st.H.set r (.map q (upM (st.ev i') (st.ev z') es)) }:=by
     intro ents' c' hrun hm hp hks hl
     have hob:OneBlock B w { w with heap:=w.heap.setIfInBounds B (.map ents' c') }:=⟨fun k hk=>by simp[Array.getElem?_setIfInBounds,Ne.symm hk],by simp,rfl,rfl,rfl⟩
     obtain⟨_,hc,hrv⟩:=oneBlock_rv S how hob
     refine⟨undef,_,I,θ,.inr ⟨hrun,rfl⟩,S.put_block how hob (ab:=.map q (upM (st.ev i') (st.ev z') es)) rfl (by intro _ _ h;cases h) (by intro _ _ _ h;cases h) ?_,?_⟩
     ·intro q2 es2 h
      cases h
      exact⟨B,ents',c',e1,by simp[Array.getElem?_setIfInBounds,hBlt],hp,hks,hl,RVm_mono (fun _ h=>h) hc (fun _ _ h=>h) _ _ hm⟩
     ·rw[hdst]
      exact fun n=>hrv _ _ (hR n)
    rcases find_rv hk hko hiv es ents.toList 0 e4 e6 with⟨g1,g2⟩|⟨j,en,y',g1,g2,g3,g4,g5,g6⟩
    ·have hup:=upM_none (z:=st.ev z') es e4 g1
     refine fin (ents.push { key:=a.eval i,val:=a.eval z,born:=c }) (c+1) ?_ ?_ ?_ ?_ ?_
     ·simp[execOp,ho,Instr.mapUpdate,run_underlying hu,rfl',Go.MapKept.run_getObj_map e2,run_checkKey hd hk,Instr.findKey,run_underlying hd,g2,Go.MapKept.run_setObj_map _ e2]
     ·rw[hup,Array.toList_push]
      exact RVm_push (by simp only[RVs];exact⟨_,_,rfl,hiv,_,_,rfl,hzv,rfl⟩) o1 e6
     ·rw[hup];exact pureE_append e3 (by simp[pureE,pureL,o2,hpz])
     ·rw[hup];exact keysOk_push hko e4
     ·rw[hup];simp;omega
    ·have hup:=(g6 (st.ev z')).1
     refine fin (ents.modify j fun e=>{ e with key:=a.eval i,val:=a.eval z }) c ?_ ?_ ?_ ?_ ?_
     ·have gj:ents[j]? = some en:=by simpa using g2
      simp[execOp,ho,Instr.mapUpdate,run_underlying hu,rfl',Go.MapKept.run_getObj_map e2,run_checkKey hd hk,Instr.findKey,run_underlying hd,g3,gj,g5,Instr.keyThatStays,o4,Go.MapKept.run_setObj_map _ e2]
     ·rw[hup,Array.toList_modify]
      exact RVm_set _ j (fun e _=>⟨by simp only[RVs];exact⟨_,_,rfl,hiv,_,_,rfl,hzv,rfl⟩,o1⟩) e6
     ·rw[hup];exact pureE_set' (by simp[pureL,o2,hpz]) j e3
     ·rw[hup];exact keysOk_set hko j e4
     ·rw[hup];simpa using e5
   ·cases hy
  ·cases hy
 ·cases hy
end
end Go.Ab
