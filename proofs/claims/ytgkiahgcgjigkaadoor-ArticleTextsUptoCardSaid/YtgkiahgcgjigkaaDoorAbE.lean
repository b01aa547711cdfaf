/- A part of the proof: AbE. -/
import Derived.Test.YtgkiahgcgjigkaaDoorAbD
set_option linter.all false
set_option linter.unusedVariables false
namespace Go.Ab
open Go.RowKit
def Gives(P:Program)(Γ : Ctx)(I:Addr->Prop)(θ:Nat->Option Value)(H:List AB)(w:World)(ev:Operand->Value)(o:Oper)(y:AV):Prop:=
 ∃ v w' I',(execOp ev o).run P w=.ok (.value v) w'/\Sim Γ I' θ H w'/\Mono I w I' w'/\RV I' θ w' y v
section
variable {P:Program} {Γ : Ctx} {I:Addr->Prop} {θ:Nat->Option Value} {H:List AB} {w:World} {ev:Operand->Value} {ρ:Opd->AV} {o:Oper} {y:AV}
theorem gives_same(S:Sim Γ I θ H w){v:Value}(hr:(execOp ev o).run P w=.ok (.value v) w)(hy:RV I θ w y v):Gives P Γ I θ H w ev o y:=
 ⟨v,w,I,hr,S,Mono.refl I w,hy⟩
theorem RV_box{x:AV}{v:Value}(h:RV I θ w x v)(hb:boxB x=true):RVs I θ w (cellsOf x) v.cells.toList/\∀ u∈v.cells.toList,u.oneCell'=true:=by
 cases x<;>simp only[boxB,Bool.false_eq_true]at hb
 case agg cs =>
  simp only[RV]at h
  obtain⟨vs,rfl,h1,h2⟩:=h
  exact⟨by simpa [cellsOf,Value.cells] using h2,by simpa [Value.cells] using h1⟩
 all_goals
  have hc:v.cells=#[v]/\v.oneCell'=true:=by
   simp only[RV]at h
   first
    | (subst h;exact⟨rfl,rfl⟩)
    | (obtain⟨_,⟨_,_,_,rfl⟩|⟨_,rfl⟩⟩:=h<;>exact⟨rfl,rfl⟩)
    | (obtain⟨_,_,_,⟨rfl,_⟩|⟨_,_,_,rfl,_,_,_⟩⟩:=h<;>exact⟨rfl,rfl⟩)
    | (obtain⟨rfl,_⟩:=h;exact⟨rfl,rfl⟩)
    | (obtain⟨_,a,c,rfl,_⟩:=h;exact⟨rfl,rfl⟩)
    | (obtain⟨_,rfl⟩:=h;exact⟨rfl,rfl⟩)
    | (obtain⟨_,_,rfl⟩:=h;exact⟨rfl,rfl⟩)
    | (obtain⟨_,_,_,_,rfl⟩:=h;exact⟨rfl,rfl⟩)
    | (obtain⟨_,B,o,rfl,_⟩:=h;exact⟨rfl,rfl⟩)
    | (obtain⟨a,b,rfl,_⟩:=h;exact⟨rfl,rfl⟩)
    | (obtain⟨_,_,_,_,_,_,_,_,_,_,rfl,_⟩:=h;exact⟨rfl,rfl⟩)
  rw[hc.1]
  refine⟨?_,fun u hu=>?_⟩
  ·simp only[cellsOf,RVs]
   exact⟨v,[],rfl,h,rfl⟩
  ·have:u=v:=by simpa using hu
   subst this
   exact hc.2
theorem RVc_new(S:Sim Γ I θ H w){cs:List AV}{vs:List Value}{t:TypeId}(hv:RVs I θ w cs vs)(hp:pureL cs=true)(h1:∀ u∈vs,u.oneCell'=true) :
  ∃ I',Sim Γ I' θ H (w.alloc (.cells vs.toArray t))/\Mono I w I' (w.alloc (.cells vs.toArray t))/\RVc I' θ (w.alloc (.cells vs.toArray t)) cs w.heap.size 0:=by
 have hA:=S.alloc (.cells vs.toArray t) (fun a=>a.block=w.heap.size) (fun a h=>h)
 refine⟨_,hA.1,hA.2,?_⟩
 have hm:=hA.2
 have key:∀(cs:List AV) (us pre:List Value),RVs I θ w cs us->vs=pre++us->RVc (fun a=>I a\/a.block=w.heap.size) θ (w.alloc (.cells vs.toArray t)) cs w.heap.size pre.length:=by
  intro cs
  induction cs with
  | nil=>intro us pre _ _;simp[RVc]
  | cons c cs ih =>
   intro us pre h e
   simp only[RVs]at h
   obtain⟨v,r,rfl,h2,h3⟩:=h
   have hin:(fun a:Addr=>I a\/a.block=w.heap.size) ⟨w.heap.size,pre.length,none⟩:=Or.inr rfl
   unfold RVc
   refine⟨⟨hin,v,?_,h1 v (by rw[e];simp),hm.rv h2⟩,?_⟩
   ·rw[World.cell?_alloc_new]
    simp[e]
   ·have:=ih r (pre++[v]) h3 (by simp[e])
    simpa using this
 exact key cs vs [] hv rfl
theorem sl_new(S:Sim Γ I θ H w){els:List (List AV)}{vs:List Value}{t:TypeId}{sz:Nat}(hv:RVs I θ w els.flatten vs)(hp:pureE els=true)(h1:∀ u∈vs,u.oneCell'=true)
  (hl:∀ el∈els,el.length=sz) (hsz:0<sz) (hm:els.length<=LIM) :
  ∃ I',Sim Γ I' θ H (w.alloc (.cells vs.toArray t))/\Mono I w I' (w.alloc (.cells vs.toArray t)) /\
   RV I' θ (w.alloc (.cells vs.toArray t)) (.sl true sz els) (.slice (some ⟨w.heap.size,0,none⟩) els.length els.length):=by
 have hpf:∀(els:List (List AV)),pureE els=true->pureL els.flatten=true:=by
  intro els
  induction els with
  | nil=>intro _;simp[pureL]
  | cons c cs ih =>
   intro h
   simp only[pureE,Bool.and_eq_true]at h
   simp only[List.flatten_cons]
   have:∀(a b:List AV),pureL a=true->pureL b=true->pureL (a++b)=true:=by
    intro a
    induction a with
    | nil=>intro b _ hb;simpa using hb
    | cons x xs ih=>intro b ha hb;simp only[pureL,Bool.and_eq_true,List.cons_append]at ha ⊢;exact⟨ha.1,ih b ha.2 hb⟩
   exact this _ _ h.1 (ih h.2)
 obtain⟨I',k1,k2,k3⟩:=RVc_new (t:=t) S hv (hpf els hp) h1
 refine⟨I',k1,k2,?_⟩
 simp only[RV]
 refine⟨hp,some ⟨w.heap.size,0,none⟩,els.length,rfl,Nat.le_refl _,by simp only[maxLen,LIM]at *;omega,hm,fun _=>rfl,fun _=>⟨hsz,hl,w.heap.size,0,rfl,?_⟩⟩
 have split:∀(els:List (List AV)) (o:Nat),RVc I' θ (w.alloc (.cells vs.toArray t)) els.flatten w.heap.size o->RVe I' θ (w.alloc (.cells vs.toArray t)) els w.heap.size o:=by
  intro els
  induction els with
  | nil=>intro o _;simp[RVe]
  | cons c cs ih =>
   intro o h
   simp only[List.flatten_cons]at h
   have app:∀(a b:List AV) (o:Nat),RVc I' θ (w.alloc (.cells vs.toArray t)) (a++b) w.heap.size o->RVc I' θ (w.alloc (.cells vs.toArray t)) a w.heap.size o/\RVc I' θ (w.alloc (.cells vs.toArray t)) b w.heap.size (o+a.length):=by
    intro a
    induction a with
    | nil=>intro b o h;simpa [RVc] using h
    | cons x xs ih =>
     intro b o h
     simp only[List.cons_append,RVc]at h ⊢
     have:=ih b (o+1) h.2
     refine⟨⟨h.1,this.1⟩,?_⟩
     have h2:=this.2
     simp only[List.length_cons]
     rwa [Nat.add_assoc,Nat.add_comm 1]at h2
   have:=app c cs.flatten o h
   simp only[RVe]
   exact⟨this.1,ih _ this.2⟩
 exact split els 0 k3
theorem flat_get{sz:Nat}:∀ {els:List (List AV)} {xs:List Value},RVs I θ w els.flatten xs->(∀ el∈els,el.length=sz)->∀(i:Nat) (el:List AV),els[i]? = some el->RVs I θ w el ((xs.drop (i * sz)).take sz)
 | [],_,_,_,i,el,hi=>by simp at hi
 | c::cs,xs,h,hl,i,el,hi=>by
  have hc:=hl c (List.mem_cons_self ..)
  simp only[List.flatten_cons]at h
  cases i with
  | zero =>
   simp at hi
   subst hi
   have:=RVs_take h sz
   rw[List.take_append_of_le_length (by omega),List.take_of_length_le (by omega)]at this
   simpa using this
  | succ i =>
   have:=RVs_drop h sz
   rw[List.drop_append_of_le_length (by omega),List.drop_of_length_le (by omega),List.nil_append]at this
   have:=flat_get this (fun e he=>hl e (List.mem_cons_of_mem _ he)) i el (by simpa using hi)
   rwa [List.drop_drop,show sz+i * sz=(i+1) * sz by rw[Nat.succ_mul,Nat.add_comm]]at this
theorem ok_bx{t:TypeId}{x:Operand}{x':Opd}(ho:o.op=.box t x)(S:Sim Γ I θ H w)(hx:RV I θ w (ρ x') (ev x))(hy:ov ρ H (.bx x')=some y):Gives P Γ I θ H w ev o y:=by
 simp only[ov]at hy
 cases hb:pureB (ρ x') && boxB (ρ x')with
 | false=>rw[hb]at hy;simp at hy
 | true =>
  rw[hb]at hy
  simp only[cond_true,Option.some.injEq]at hy
  subst hy
  simp only[Bool.and_eq_true]at hb
  obtain⟨h1,h2⟩:=RV_box hx hb.2
  have hp:pureL (cellsOf (ρ x'))=true:=by
   have:=hb.1
   cases hq:ρ x'<;>rw[hq]at this<;>simp_all [cellsOf,pureL,pureB]
  obtain⟨I',k1,k2,k3⟩:=RVc_new (t:=t) S h1 hp h2
  refine⟨.pointer (some ⟨w.heap.size,0,none⟩),_,I',?_,k1,k2,?_⟩
  ·simp[execOp,ho,Instr.box,newVar,newRow]
  ·simp only[RV]
   exact⟨hp,w.heap.size,0,rfl,k3,by simp⟩
theorem ok_ld{t:TypeId}{x:Operand}{x':Opd}{n:Nat}{g:Bool}(ho:o.op=.load t x)(hk:ldOk P t n g=true)(S:Sim Γ I θ H w)(hx:RV I θ w (ρ x') (ev x))(hy:ov ρ H (.ld x' n g)=some y) :
  Gives P Γ I θ H w ev o y:=by
 have fin:∀(B o':Nat) (cs:List AV) (vs:List Value),ev x=.pointer (some ⟨B,o',none⟩)->RVs I θ w cs vs->(∀ u∈vs,u.oneCell'=true)->(∀ j v,vs[j]? = some v->w.cell? ⟨B,o'+j,none⟩=some v)->rdCells cs n g=some y->Gives P Γ I θ H w ev o y:=by
  intro B o' cs vs e hv h1 hc hr
  obtain⟨v,k1,k2⟩:=loadVar_rd hk hv h1 hc hr
  refine gives_same S (v:=v) ?_ k2
  simp[execOp,ho,Instr.loadAt,Instr.sureAddr,e,k1]
 simp only[ov]at hy
 cases hq:ρ x'<;>rw[hq]at hy hx<;>simp only[reduceCtorEq]at hy
 case ip p cs =>
  simp only[RV]at hx
  obtain⟨_,B,o',e,hc,_⟩:=hx
  obtain⟨vs,k1,k2,k3⟩:=RVc_vals hc
  exact fin B o' cs vs e k1 k2 k3 hy
 case ptr r j =>
  cases hh:H[r]? with
  | none=>rw[hh]at hy;simp at hy
  | some ab =>
   rw[hh]at hy
   cases ab with
   | gone=>simp at hy
   | pin _ _=>simp at hy
   | map _ _=>simp at hy
   | row _ _ _=>simp at hy
   | box t' cs =>
    simp only at hy
    simp only[RV]at hx
    obtain⟨B,e1,e2⟩:=hx
    obtain⟨B',c,h1,h2,h3,h4,h5⟩:=S.box r t' cs hh
    obtain rfl:B=B':=by rw[e1]at h1;simpa using h1
    refine fin B j (cs.drop j) (c.toList.drop j) e2 (RVs_drop h5 j) (fun u hu=>h4 u (List.mem_of_mem_drop hu)) (fun i v hi=>?_) hy
    rw[List.getElem?_drop]at hi
    simp only[World.cell?,h3,Option.isSome_none,Bool.false_eq_true,if_false]
    simpa using hi
 case rptr r sz i j =>
  cases hh:H[r]? with
  | none=>rw[hh]at hy;simp at hy
  | some ab =>
   rw[hh]at hy
   cases ab with
   | gone=>simp at hy
   | pin _ _=>simp at hy
   | map _ _=>simp at hy
   | box _ _=>simp at hy
   | row e' sz' els =>
    simp only at hy
    cases hz:sz == sz' with
    | false=>rw[hz]at hy;simp at hy
    | true =>
     rw[hz]at hy
     obtain rfl:sz=sz':=by simpa using hz
     simp only[cond_true]at hy
     cases he:els[i]? with
     | none=>rw[he]at hy;simp at hy
     | some el =>
      rw[he]at hy
      simp only at hy
      simp only[RV]at hx
      obtain⟨B,l,c,e1,e2⟩:=hx
      obtain⟨v,xs,h1,h2,h3,h4,h5,_⟩:=S.row r e' sz els hh
      obtain rfl:v=.slice (some ⟨B,0,none⟩) l c:=by rw[e1]at h1;exact(Option.some.inj h1).symm
      have hcell:=h2.cells (g:=B) rfl
      have hg:=flat_get h4 h5 i el he
      refine fin B (i * sz+j) (el.drop j) (((xs.drop (i * sz)).take sz).drop j) e2 (RVs_drop hg j) (fun u hu=>h3 u (List.mem_of_mem_drop (List.mem_of_mem_take (List.mem_of_mem_drop hu)))) (fun k v hk=>?_) hy
      rw[List.getElem?_drop,List.getElem?_take]at hk
      split at hk
      ·rw[List.getElem?_drop]at hk
       have:=hcell _ v hk
       rw[addB]at this
       rw[show i * sz+j+k=0+(i * sz+(j+k)) by omega]
       exact this
      ·cases hk
theorem ok_fa{t:TypeId}{x:Operand}{x':Opd}{f off:Nat}{fs:Array Field}{fd:Field}{n:Nat}(ho:o.op=.fieldAddr t x f)(hu:P.underlying t=some (.struct fs))(hf:fs[f]? = some fd)
  (hoff:fd.offset=off) (hn:szOf P fd.type=some n) (hn0:n≠0) (S:Sim Γ I θ H w) (hx:RV I θ w (ρ x') (ev x)) (hy:ov ρ H (.fa x' off)=some y) :
  Gives P Γ I θ H w ev o y:=by
 have fin:∀(B o':Nat),ev x=.pointer (some ⟨B,o',none⟩)->RV I θ w y (.pointer (some ⟨B,o'+off,none⟩))->Gives P Γ I θ H w ev o y:=by
  intro B o' e hr
  refine gives_same S ?_ hr
  simp[execOp,ho,Instr.fieldAt,run_underlying hu,hf,Instr.sureAddr,e,fieldPlace,run_sizeOf hn,hn0,addB,hoff]
 simp only[ov]at hy
 cases hq:ρ x'<;>rw[hq]at hy hx<;>simp only[reduceCtorEq]at hy
 case ip p cs =>
  simp only[RV]at hx
  obtain⟨hp,B,o',e,hc,_⟩:=hx
  obtain rfl:=Option.some.inj hy
  refine fin B o' e ?_
  simp only[RV]
  exact⟨pureL_drop hp off,B,_,rfl,RVc_drop hc off,by simp⟩
 case ptr r j =>
  simp only[RV]at hx
  obtain⟨B,e1,e2⟩:=hx
  obtain rfl:=Option.some.inj hy
  refine fin B j e2 ?_
  simp only[RV]
  exact⟨B,e1,rfl⟩
 case rptr r sz i j =>
  simp only[RV]at hx
  obtain⟨B,l,c,e1,e2⟩:=hx
  obtain rfl:=Option.some.inj hy
  refine fin B (i * sz+j) e2 ?_
  simp only[RV]
  exact⟨B,l,c,e1,by rw[Nat.add_assoc]⟩
end
end Go.Ab
