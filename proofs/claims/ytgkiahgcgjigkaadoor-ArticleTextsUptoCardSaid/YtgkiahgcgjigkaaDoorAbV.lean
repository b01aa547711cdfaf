/- A part of the proof: AbV. -/
import Derived.Test.YtgkiahgcgjigkaaDoorAbS
set_option linter.all false
set_option linter.unusedVariables false
namespace Go.Ab
open Go.RowKit
section
variable {Γ : Ctx} {I:Addr->Prop} {θ:Nat->Option Value} {H:List AB} {w:World}
theorem cell_putObj{w:World}{D:Nat}{o o':Obj}(h:w.heap[D]? = some o)(ho:datB o=false)(ho':datB o'=false)(b:Addr):Same (w.putObj D o') w b:=by
 by_cases e:b.block=D
 ·have hlt:=(Array.getElem?_eq_some_iff.1 h).1
  have h1:(w.putObj D o').heap[b.block]? = some o':=by rw[e];exact World.putObj_heap_same hlt
  have h2:w.heap[b.block]? = some o:=by rw[e];exact h
  intro x hx
  rw[h1,h2]
  constructor<;>(intro h;obtain rfl:=Option.some.inj h;first|(rw[ho']at hx;cases hx)|(rw[ho]at hx;cases hx))
 ·exact Same.of (World.putObj_heap_other e)
theorem Sim.putObj(S:Sim Γ I θ H w){D:Nat}{o o':Obj}(hD : Γ.w0.heap.size<=D)(h:w.heap[D]? = some o)(ho:datB o=false)(ho':datB o'=false) :
  Sim Γ I θ H (w.putObj D o')/\∀ x v,RV I θ w x v->RV I θ (w.putObj D o') x v:=by
 have hlt:=(Array.getElem?_eq_some_iff.1 h).1
 have hsz:(w.putObj D o').heap.size=w.heap.size:=by simp[World.putObj]
 have hrv:∀ x v,RV I θ w x v->RV I θ (w.putObj D o') x v:=fun x v h'=>RV_mono (fun _ h=>h) (fun b _=>cell_putObj h ho ho' b) (fun _ _ h=>h) x v h'
 have hrvs:∀ x v,RVs I θ w x v->RVs I θ (w.putObj D o') x v:=fun x v h'=>RVs_mono (fun _ h=>h) (fun b _=>cell_putObj h ho ho' b) (fun _ _ h=>h) x v h'
 have hkeep:∀(k:Nat) (x:Obj),w.heap[k]? = some x->datB x=true->(w.putObj D o').heap[k]? = some x:=by
  intro k x hx hc
  refine(World.putObj_heap_other ?_).trans hx
  rintro rfl
  rw[h]at hx
  obtain rfl:=Option.some.inj hx
  rw[ho]at hc;cases hc
 refine⟨⟨S.below.step rfl rfl rfl (Nat.le_of_eq hsz.symm) (fun k hk hn=>World.putObj_heap_other (by rintro rfl;exact hn (Γ.new _ hD))),S.i0,S.inew,fun a ha=>by rw[hsz];exact S.ilt a ha,?_,?_,S.sep,S.iso,S.dom,S.own,S.pin,fun r q es hr=>(S.map r q es hr).mono (fun _ h=>h) (fun b _=>cell_putObj h ho ho' b) (fun _ h=>h) (fun B x k1 k2=>?_)⟩,hrv⟩
 ·intro r t cs hr
  obtain⟨B,c,h1,h2,h3,h4,h5⟩:=S.box r t cs hr
  exact⟨B,c,h1,h2,hkeep _ _ h3 rfl,h4,hrvs _ _ h5⟩
 ·intro r e sz els hr
  obtain⟨v,xs,h1,h2,h3,h4,h5⟩:=S.row r e sz els hr
  refine⟨v,xs,h1,ownsRow_same h2 fun B hB=>?_,h3,hrvs _ _ h4,h5⟩
  obtain⟨x,hx,hc⟩:=owns_cells S ⟨⟨_,hr,rfl⟩,v,h1,own_blk (own_slice' h2) hB⟩
  rw[hkeep _ _ hx hc,hx]
 ·obtain⟨x',hx,hc⟩:=owns_cells S ⟨⟨_,hr,rfl⟩,_,k1,rfl⟩
  rw[k2]at hx
  obtain rfl:=Option.some.inj hx
  exact hkeep _ _ k2 hc
end
theorem leaves_marks{Γ : Ctx}{F:Fence}{n:Nat}{P:Program}{fn:Func}{tmps:Array Value}{R:Ending->World->Prop}{Φ : World->Prop}(hΦ : ∀(w:World) (D:Nat),Γ.mkb<=D->w.heap[D]? = some (.deferred (some []))->Φ w->Φ (w.putObj D (.deferred none)))
  (hend:∀ w,Φ w->∃ v,(results fn tmps).run P w=.ok v w/\R (.returned v) w):∀(ds:List Deferred) (w:World),Mk Γ ds w->Φ w->LeavesInM F n P fn tmps R ds .returning w
 | [],w,_,h=>by
  obtain⟨v,h1,h2⟩:=hend w h
  exact⟨v,h1,h2⟩
 | d::ds,w,hm,h=>by
  obtain⟨D,rfl,h1,h2⟩:=hm.at_ d (List.mem_cons_self ..)
  refine⟨by simp,.inl ⟨D,_,rfl,run_takeDeferred h2,?_⟩⟩
  refine leaves_marks hΦ hend ds _ ⟨(List.nodup_cons.1 hm.nd).2,fun d hd=>?_⟩ (hΦ w D h1 h2 h)
  obtain⟨D',rfl,h3,h4⟩:=hm.at_ d (List.mem_cons_of_mem _ hd)
  refine⟨D',rfl,h3,(World.putObj_heap_other ?_).trans h4⟩
  rintro rfl
  exact(List.nodup_cons.1 hm.nd).1 hd
theorem calls_of_good{P:Program}{Γ : Ctx}{f:FuncId}{fn:Func}{c:Code}{args:Array Value}{w:World}{R:Ending->World->Prop}(hf:P.funcs[f]? = some fn)(hb:fn.body=some c)
  (h:c.wp P (fun e a w=>(e=.normal\/e=.ret)/\Mk Γ a.defers w/\∃ Φ : World->Prop,Φ w/\(∀(w:World) (D:Nat),Γ.mkb<=D->w.heap[D]? = some (.deferred (some []))->Φ w->Φ (w.putObj D (.deferred none))) /\
   ∀ w,Φ w->∃ v,(results fn a.tmps).run P w=.ok v w/\R (.returned v) w) { tmps:=args++Array.replicate (fn.ntmps-args.size) undef,defers:=[] } w):Calls P f args w R:=by
 refine(callsIn_wide (n:=1)).1 (callsIn_of_wp_marks hf hb trivial (wpIn_wide.2 (wp_mono h ?_)))
 rintro e a w ⟨he,hm,Φ,h1,h2,h3⟩
 rcases he with rfl|rfl
 ·exact leaves_marks h2 h3 _ _ hm h1
 ·exact leaves_marks h2 h3 _ _ hm h1
def Fr(ro:Option Nat):Fence:={ Fence.wide with round:=ro }
theorem calls_in{P:Program}{f:FuncId}{args:Array Value}{w:World}{R:Ending->World->Prop}(ro:Option Nat)(n:Nat)(h:Calls P f args w R):CallsIn (Fr ro) n P f args w R:=(callsIn_wide (n:=n)).2 h
theorem oper_in{P:Program}{o:Oper}{a:Act}{w:World}{K K':Act->World->Prop}{E:Exit->Act->World->Prop}(ro:Option Nat)(hd:∀ c,o.op≠.defer c)(h:o.wp P a w K E)(hk:∀ a w,K a w->K' a w):o.wpIn (Fr ro) 1 P a w K' E:=by
 refine⟨fun _ _=>trivial,?_⟩
 rw[Oper.semAt_eq _ _ _ hd]
 unfold Oper.wp at h
 generalize (execOp a.eval o).run P w=x at h ⊢
 unfold Oper.upon at h
 unfold Oper.uponIn
 split at h
 ·exact hk _ _ h
 ·exact hk _ _ h
 ·exact hk _ _ h
 ·refine⟨fun _=>Nat.le_refl _,calls_in ro _ (h.mono fun e w' r=>?_)⟩
  cases e with
  | returned v=>exact hk _ _ r
  | panicked c=>exact r
  | outgrown=>exact r
 ·refine⟨fun _=>Nat.le_refl _,fun c cs _=>?_⟩
  obtain⟨v,w',h1,h2⟩:=h c cs
  exact⟨v,w',hk _ _ h1,stepsIn_wide.2 h2⟩
 ·exact h
 ·exact h.elim
theorem list_in{P:Program}{all:Array Oper}{E:Exit->Act->World->Prop}(ro:Option Nat)(hE:¬ LetsOut E):∀(os:List Oper) {a:Act} {w:World},(∀ o∈os,∀ c,o.op≠.defer c)->wpList P all E os a w->wpListIn (Fr ro) 1 P all E os a w
 | [],a,w,_,h=>h
 | o::os,a,w,hd,h=>by
  have ih:=fun {a w}=>list_in (P:=P) (all:=all) ro hE os (a:=a) (w:=w) fun o ho=>hd o (List.mem_cons_of_mem _ ho)
  simp only[wpList]at h
  simp only[wpListIn]
  split
  ·rename_i hw
   rw[if_pos hw]at h
   rcases h with h|h
   ·exact oper_in ro (hd o (List.mem_cons_self ..)) h fun a w h=>ih h
   ·exact absurd h.2 hE
  ·rename_i hw
   rw[if_neg hw]at h
   exact⟨fun _ _=>trivial,ih h⟩
theorem ops_in{P:Program}{ops:Array Oper}{E:Exit->Act->World->Prop}(ro:Option Nat)(hE:¬ LetsOut E)(hd:∀ o∈ops.toList,∀ c,o.op≠.defer c):∀(l:List Nat) {a:Act} {w:World},wpOps P ops E l a w->wpOpsIn (Fr ro) 1 P ops E l a w
 | [],a,w,h=>h
 | i::l,a,w,h=>by
  have ih:=fun {a w}=>ops_in (P:=P) ro hE hd l (a:=a) (w:=w)
  simp only[wpOps]at h
  simp only[wpOpsIn]
  cases ho:ops[i]? with
  | none=>rw[ho]at h;exact ih h
  | some o =>
   rw[ho]at h
   simp only at h ⊢
   split
   ·rename_i hw
    rw[if_pos hw]at h
    rcases h with h|h
    ·exact oper_in ro (hd o (by have:=Array.getElem?_eq_some_iff.1 ho;obtain⟨hi,rfl⟩:=this;simp)) h fun a w h=>ih h
    ·exact absurd h.2 hE
   ·rename_i hw
    rw[if_neg hw]at h
    exact⟨fun _ _=>trivial,ih h⟩
theorem opOk_defer{P:Program}{o:Oper}{k:K}(h:opOk P o k=true):∀ c,o.op≠.defer c:=by
 intro c hc
 cases k<;>simp[opOk,hc,callB]at h
theorem sopOk_defer{P:Program}{N:Nat}{o:Oper}{so:SOp}(h:sopOk P N o so=true):∀ c,o.op≠.defer c:=by
 induction so with
 | wk so ih=>exact ih h
 | op d k=>simp only[sopOk,Bool.and_eq_true]at h;exact opOk_defer h.2
 | gd _ _ _ _ _=>simp[sopOk]at h
 | _=>intro c hc;simp[sopOk,hc]at h
theorem opsOk_defer{P:Program}{N:Nat}{all:Array Oper}:∀ {os:List Oper} {sos:List SOp},opsOk P N all os sos=true->∀ o∈os,∀ c,o.op≠.defer c
 | [],[],_,o,h=>by cases h
 | o::os,so::sos,h,x,hx=>by
  simp only[opsOk,Bool.and_eq_true]at h
  rcases List.mem_cons.1 hx with rfl|hx
  ·have h1:=h.1
   unfold gdOk at h1
   split at h1
   ·exact sopOk_defer h1
   ·split at h1
    ·simp only[Bool.and_eq_true]at h1;exact sopOk_defer h1.2
    ·cases h1
  ·exact opsOk_defer h.2 x hx
 | [],_::_,h,x,hx=>by cases hx
 | _::_,[],h,x,hx=>by simp[opsOk]at h
theorem wpIn_loop_ghost{P:Program}{F:Fence}{n:Nat}{Q:Exit->Act->World->Prop}{a:Act}{w:World}{c:Code}(I:Nat->Act->World->Prop)(n₀ : Nat)(h₀ : I n₀ a w)
  (round:∀ m a w,I m a w->c.wpIn F n P (Exit.then (fun a' w'=>∃ n',n'<m/\I n' a' w') Q) a w):(Code.loop c).wpIn F n P Q a w:=by
 refine wpIn_loop (fun a w=>∃ n,I n a w) (fun a w=>leastOf (fun n=>I n a w)) ⟨n₀,h₀⟩ ?_
 intro a w hI
 refine wpIn_mono (round _ a w (leastOf_spec hI).1) ?_
 intro e a' w' hq
 cases e with
 | normal =>
  obtain⟨n',hlt,hI'⟩:=hq
  exact show(∃ n,I n a' w')/\leastOf (fun n=>I n a' w')<leastOf (fun n=>I n a w)from⟨⟨n',hI'⟩,Nat.lt_of_le_of_lt ((leastOf_spec ⟨n',hI'⟩).2 n' hI') hlt⟩
 | exit id=>exact hq
 | goto l=>exact hq
 | ret=>exact hq
 | panic ch=>exact hq
 | outgrown=>exact hq
end Go.Ab
