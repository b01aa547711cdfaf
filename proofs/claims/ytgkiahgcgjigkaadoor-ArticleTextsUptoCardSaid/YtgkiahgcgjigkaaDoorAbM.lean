/- A part of the proof: AbM. -/
import Derived.Test.YtgkiahgcgjigkaaDoorAbL
set_option linter.all false
set_option linter.unusedVariables false
namespace Go.Ab
open Go.RowKit
def strong(e:Edge):Bool:=Region.binds .any e
theorem strong_binds{e:Edge}(m:Region.Mode)(h:strong e=true):Region.binds m e=true:=by
 unfold strong Region.binds at h
 unfold Region.binds
 split at h<;>simp_all
def Topo(ops:Array Oper):(Nat->Bool)->List Nat->Prop
 | done,[]=>∀ i,i<ops.size->done i=true
 | done,i::l=>i<ops.size/\done i=false/\(∀ o,ops[i]? = some o->∀ e∈o.after.toList,strong e=true->done e.on=true)/\Topo ops (fun k=>k == i || done k) l
def rankOk(r:Nat->Nat)(m:Region.Mode)(ops:Array Oper):Bool:=(List.range ops.size).all fun i=>match ops[i]? with
 | some o=>o.after.toList.all fun e=>!Region.binds m e || (decide (e.on<ops.size) && decide (r e.on<r i))
 | none=>true
def ixOf:List Nat->Nat->Nat
 | [],_=>0
 | x::l,i=>bif x == i then 0 else ixOf l i+1
def backOk(ops:Array Oper):Bool:=
 rankOk id .any ops && rankOk id .text ops && (let gl:=bif Region.departs ops then Region.linearise .gc ops 0 else List.range ops.size;rankOk (ixOf gl) .gc ops)
theorem rankOk_get{r:Nat->Nat}{m:Region.Mode}{ops:Array Oper}(h:rankOk r m ops=true){i:Nat}{o:Oper}(ho:ops[i]? = some o){e:Edge}(he:e∈o.after.toList)(hm:Region.binds m e=true):e.on<ops.size/\r e.on<r i:=by
 have hi:=(Array.getElem?_eq_some_iff.1 ho).1
 have:=List.all_eq_true.1 h i (List.mem_range.2 hi)
 rw[ho]at this
 have:=List.all_eq_true.1 this e he
 simp only[hm,Bool.not_true,Bool.false_or,Bool.and_eq_true,decide_eq_true_eq]at this
 exact this
theorem Topo_congr{ops:Array Oper}:∀ {l:List Nat} {d d':Nat->Bool},(∀ i,i<ops.size->d i=d' i)->backOk ops=true->Topo ops d l->Topo ops d' l
 | [],d,d',h,hb,ht=>fun i hi=>by rw[<-h i hi];exact ht i hi
 | i::l,d,d',h,hb,ht=>by
  obtain⟨h1,h2,h3,h4⟩:=ht
  refine⟨h1,by rw[<-h i h1];exact h2,fun o ho e he hs=>?_,Topo_congr (fun k hk=>by rw[h k hk]) hb h4⟩
  simp only[backOk,Bool.and_eq_true]at hb
  have:e.on<ops.size:=(rankOk_get hb.1.1 ho he hs).1
  rw[<-h _ this]
  exact h3 o ho e he hs
theorem topo_go{ops:Array Oper}(m:Region.Mode){r:Nat->Nat}(hr:rankOk r m ops=true)(hb:backOk ops=true):∀(fuel t:Nat) (listed:Array Bool) (acc:List Nat),listed.size=ops.size ->
  (List.range ops.size).countP (fun i=>!listed.getD i false)<=fuel->∃ l,Region.linearise.go m ops fuel t listed acc=acc.reverse++l/\Topo ops (fun i=>listed.getD i false) l
 | 0,t,listed,acc,hs,hc=>by
  refine⟨[],by simp[Region.linearise.go],fun i hi=>?_⟩
  have:=List.countP_eq_zero.1 (Nat.le_zero.1 hc) i (List.mem_range.2 hi)
  simpa using this
 | fuel+1,t,listed,acc,hs,hc=>by
  simp only[Region.linearise.go]
  generalize hrs:(List.range ops.size).filter (fun i=>!listed.getD i true && ((ops[i]?).map (fun o:Oper=>o.after.all fun e=>!Region.binds m e || listed.getD e.on false)).getD false)=rs
  have hmem:∀ i,i∈rs->i<ops.size/\listed.getD i false=false/\∀ o,ops[i]? = some o->∀ e∈o.after.toList,strong e=true->listed.getD e.on false=true:=by
   intro i
   rw[<-hrs,List.mem_filter,List.mem_range]
   rintro⟨h1,h2⟩
   simp only[Bool.and_eq_true,Bool.not_eq_true']at h2
   refine⟨h1,?_,fun o ho e he hst=>?_⟩
   ·have:=h2.1
    rw[Array.getD_eq_getD_getElem?,Array.getElem?_eq_getElem (by omega)]at this ⊢
    simpa using this
   ·have h3:=h2.2
    rw[ho]at h3
    simp only[Option.map_some,Option.getD_some,Array.all_eq_true',Bool.or_eq_true,Bool.not_eq_true']at h3
    exact(h3 e (by simpa using he)).resolve_left (by rw[strong_binds m hst];simp)
  have hmem':∀ i,i<ops.size->listed.getD i false=false->(∀ o,ops[i]? = some o->∀ e∈o.after.toList,Region.binds m e=true->listed.getD e.on false=true)->i∈rs:=by
   intro i h1 h2 h3
   rw[<-hrs,List.mem_filter,List.mem_range]
   refine⟨h1,?_⟩
   simp only[Bool.and_eq_true,Bool.not_eq_true']
   constructor
   ·rw[Array.getD_eq_getD_getElem?,Array.getElem?_eq_getElem (by omega)]at h2 ⊢
    simpa using h2
   ·have ho:ops[i]? = some ops[i]:=Array.getElem?_eq_getElem h1
    rw[ho]
    simp only[Option.map_some,Option.getD_some,Array.all_eq_true',Bool.or_eq_true,Bool.not_eq_true']
    intro e he
    cases hbd:Region.binds m e with
    | false=>exact .inl rfl
    | true=>exact .inr (h3 _ ho e (by simpa using he) hbd)
  cases hp:rs[t % rs.length]? with
  | none =>
   refine⟨[],by simp,fun i hi=>?_⟩
   have hnil:rs=[]:=by
    rcases Nat.eq_zero_or_pos rs.length with h|h
    ·exact List.eq_nil_of_length_eq_zero h
    ·rw[List.getElem?_eq_getElem (Nat.mod_lt _ h)]at hp;cases hp
   have key:∀(n i:Nat),r i<=n->i<ops.size->listed.getD i false=true:=by
    intro n
    induction n with
    | zero =>
     intro i hn hi
     cases hd:listed.getD i false with
     | true=>rfl
     | false =>
      have:i∈rs:=hmem' i hi hd fun o ho e he hbd=>by
       have:=(rankOk_get hr ho he hbd).2
       omega
      rw[hnil]at this
      simp at this
    | succ n ih =>
     intro i hn hi
     cases hd:listed.getD i false with
     | true=>rfl
     | false =>
      have:i∈rs:=hmem' i hi hd fun o ho e he hbd=>by
       have:=rankOk_get hr ho he hbd
       exact ih e.on (by omega) this.1
      rw[hnil]at this
      simp at this
   exact key (r i) i (Nat.le_refl _) hi
  | some i =>
   have him:=hmem i (List.mem_of_getElem? hp)
   obtain⟨h1,h2,h3⟩:=him
   have hget:∀ k,k<ops.size->(listed.setIfInBounds i true).getD k false=(k == i || listed.getD k false):=by
    intro k hk
    simp only[Array.getD_eq_getD_getElem?,Array.getElem?_setIfInBounds]
    by_cases e:i=k
    ·subst e
     simp[hs,h1]
    ·rw[if_neg e,beq_eq_false_iff_ne.2 (fun h:k=i=>e h.symm),Bool.false_or]
   have hcount:(List.range ops.size).countP (fun k=>!(listed.setIfInBounds i true).getD k false)<=fuel:=by
    have key:∀(L:List Nat),L.Nodup->i∈L->(∀ k∈L,k<ops.size)->L.countP (fun k=>!(listed.setIfInBounds i true).getD k false)+1<=L.countP (fun k=>!listed.getD k false):=by
     intro L
     induction L with
     | nil=>intro _ h _;simp at h
     | cons k L ih =>
      intro hn hm hl
      rw[List.nodup_cons]at hn
      rw[List.countP_cons,List.countP_cons,hget k (hl k (List.mem_cons_self ..))]
      by_cases e:k=i
      ·subst e
       have hsame:L.countP (fun k'=>!(listed.setIfInBounds k true).getD k' false)=L.countP (fun k'=>!listed.getD k' false):=by
        apply List.countP_congr
        intro k' hk'
        rw[hget k' (hl k' (List.mem_cons_of_mem _ hk'))]
        have:k'≠k:=fun e=>hn.1 (e ▸ hk')
        simp[this]
       rw[hsame,h2]
       simp
      ·have:=ih hn.2 (by rcases List.mem_cons.1 hm with h|h;exact absurd h.symm e;exact h) (fun k' hk'=>hl k' (List.mem_cons_of_mem _ hk'))
       simp only[beq_eq_false_iff_ne.2 e,Bool.false_or]
       omega
    have:=key (List.range ops.size) List.nodup_range (List.mem_range.2 h1) (fun k hk=>List.mem_range.1 hk)
    omega
   obtain⟨l,e1,e2⟩:=topo_go m hr hb fuel (t / rs.length) (listed.setIfInBounds i true) (i::acc) (by simp[hs]) hcount
   refine⟨i::l,by simp only[e1];simp,h1,h2,h3,Topo_congr (fun k hk=>hget k hk) hb e2⟩
theorem topo_schedule{ops:Array Oper}(hb:backOk ops=true)(mixed:Bool)(t:Nat):Topo ops (fun _=>false) (Region.schedule mixed ops t):=by
 have key:∀(m:Region.Mode) (r:Nat->Nat) (t:Nat),rankOk r m ops=true->Topo ops (fun _=>false) (Region.linearise m ops t):=by
  intro m r t hr
  unfold Region.linearise
  obtain⟨l,e1,e2⟩:=topo_go m hr hb ops.size t (Array.replicate ops.size false) [] (by simp) (Nat.le_trans List.countP_le_length (by simp))
  rw[e1]
  refine Topo_congr (fun i hi=>?_) hb e2
  simp[Array.getD_eq_getD_getElem?,hi]
 have hb':=hb
 simp only[backOk,Bool.and_eq_true]at hb'
 unfold Region.schedule
 split
 ·exact key _ _ _ hb'.1.1
 ·split
  ·exact key _ _ _ hb'.1.2
  ·exact key _ _ _ hb'.2
end Go.Ab
