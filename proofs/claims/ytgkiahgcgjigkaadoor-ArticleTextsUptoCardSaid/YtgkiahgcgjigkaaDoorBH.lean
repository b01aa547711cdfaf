/- A part of the proof: BH. -/
import Derived.Test.YtgkiahgcgjigkaaDoorRows
import Derived.WalkKit
import Derived.ProofKit
import Derived.OpenShut
import Derived.JoinedCond
import Derived.Carry
import Derived.Test.YtgkiahgcgjigkaaDoorBE
set_option linter.all false
set_option linter.unusedVariables false
namespace Go.Ab.Rd
open Go.RowKit Go.Ab Go.Proofs.YtgkiahgcgjigkaaDoor
def Iw(w:World):Addr->Prop:=fun a=>a.block<w.heap.size
section
variable {H:Type} {enc:TypeId×Value->H} {P:Program} {w:World} {spare:Nat->Bool} {held:Bool}
theorem cell_in{a:Addr}{v:Value}(h:w.cell? a=some v):Iw w a/\a.spot=none:=by
 unfold World.cell? at h
 split at h
 ·rename_i c _ _ hb
  split at h
  ·cases h
  ·rename_i hs
   exact⟨(Array.getElem?_eq_some_iff.1 hb).1,by simpa using hs⟩
 ·cases h
theorem rvc_of{θ:Nat->Option Value}:∀(cs:List AV) (us:List Value) (B o:Nat),RVs (Iw w) θ w cs us->(∀ u∈us,u.oneCell'=true)->(∀ j u,us[j]? = some u->w.cell? ⟨B,o+j,none⟩=some u)->RVc (Iw w) θ w cs B o
 | [],_,_,_,_,_,_=>by simp[RVc]
 | c::cs,us,B,o,h,h1,h2=>by
  simp only[RVs]at h
  obtain⟨u,r,rfl,k1,k2⟩:=h
  have h0:=h2 0 u rfl
  simp only[RVc]
  refine⟨⟨(cell_in h0).1,u,h0,h1 u (List.mem_cons_self ..),k1⟩,rvc_of cs r B (o+1) k2 (fun x hx=>h1 x (List.mem_cons_of_mem _ hx)) (fun j x hj=>?_)⟩
  have:=h2 (j+1) x (by simpa using hj)
  rwa [Nat.add_assoc,Nat.add_comm 1 j]
def Reads(H:Type)(enc:TypeId×Value->H)(P:Program)(w:World)(spare:Nat->Bool)(held:Bool)(n:Nat)(t:TypeId){α:Type}(C:α->List AV)(bk:α->Nat):Prop:=
 ∀ cs (x:DataW H×List MemPlace),DataW.trod enc P w 0 spare held n t cs=some x->Rows.uptoBulk x.1<=1048576->∃ a:α,RVs (Iw w) noθ w (C a) cs/\(∀ u∈cs,u.oneCell'=true)/\bk a<=2 * Rows.uptoBulk x.1
def sumL{α:Type}(f:α->Nat):List α->Nat
 | []=>0
 | x::l=>f x+sumL f l
theorem bulk_pos(d:DataW H):1<=Rows.uptoBulk d:=by
 cases d with
 | lit l=>cases l<;>simp[Rows.uptoBulk]
 | nil=>simp[Rows.uptoBulk]
 | ptr d=>simp[Rows.uptoBulk]
 | slice elems spare=>simp[Rows.uptoBulk]
 | agg parts=>simp[Rows.uptoBulk]
 | iface t d=>simp[Rows.uptoBulk]
 | map entries=>simp[Rows.uptoBulk]
 | held h=>simp[Rows.uptoBulk]
theorem bulk_len(l:List (DataW H)):l.length<=Rows.uptoBulkAll l:=by
 induction l with
 | nil=>simp[Rows.uptoBulkAll]
 | cons x l ih=>have:=bulk_pos x;simp only[Rows.uptoBulkAll,List.length_cons];omega
theorem read_els{α:Type}{C:α->List AV}{bk:α->Nat}{n:Nat}{e:TypeId}{sz:Nat}(hc:P.cellsOf e=sz)(hl:∀ a,(C a).length=sz)(hs:0<sz)(ih:Reads H enc P w spare held n e C bk) :
  ∀(elems:List (DataW H×List MemPlace)) (k:Nat) (B o:Nat),Rows.uptoBulkAll (elems.map (·.1))<=1048576 ->
   (∀ i,i<elems.length->(w.cells? 0 ((⟨B,o,none⟩:Addr).add ((k+i) * sz)) sz).bind (DataW.trod enc P w 0 spare held n e)=elems[i]?) ->
   ∃ l:List α,l.length=elems.length/\RVe (Iw w) noθ w (l.map C) B (o+k * sz)/\sumL bk l<=2 * Rows.uptoBulkAll (elems.map (·.1))
 | [],k,B,o,_,_=>⟨[],rfl,by simp[RVe],by simp[sumL]⟩
 | x::elems,k,B,o,hb,h=>by
  simp only[List.map_cons,Rows.uptoBulkAll]at hb ⊢
  have h0:=h 0 (by simp)
  simp only[List.getElem?_cons_zero,Nat.add_zero]at h0
  obtain⟨cs,hcs,hx⟩:=Option.bind_eq_some_iff.1 h0
  obtain⟨a,r1,r2,r3⟩:=ih cs x hx (by omega)
  obtain⟨_,c2,c3⟩:=World.cells?_some hcs
  obtain⟨l,l1,l3,l4⟩:=read_els hc hl hs ih elems (k+1) B o (by omega) (fun i hi=>by
   have:=h (i+1) (by simpa using hi)
   simpa [Nat.add_assoc,Nat.add_comm 1 i] using this)
  refine⟨a::l,by simp[l1],?_,by simp only[sumL];omega⟩
  simp only[List.map_cons,RVe]
  refine⟨rvc_of _ cs B _ r1 r2 (fun j u hj=>?_),?_⟩
  ·have hjl:j<sz:=by rw[<-c2];exact(List.getElem?_eq_some_iff.1 hj).1
   have:=c3 j hjl
   rw[hj]at this
   rw[<-this,addB,addB]
  ·rw[hl a]
   have e:o+k * sz+sz=o+(k+1) * sz:=by rw[Nat.add_mul];omega
   rw[e];exact l3
theorem read_slice{α:Type}{C:α->List AV}{bk:α->Nat}{n:Nat}{t e:TypeId}{sz:Nat}(ht:P.underlying t=some (.slice e))(hc:P.cellsOf e=sz)(hl:∀ a,(C a).length=sz)(hp:∀ a,pureL (C a)=true)(hs:0<sz)
  (ih:∀ m,m<n->Reads H enc P w spare held m e C bk) {cs:List Value} {x:DataW H×List MemPlace} (h:DataW.trod enc P w 0 spare held n t cs=some x) (hb:Rows.uptoBulk x.1<=1048576) :
  ∃(l:List α) (v:Value),cs=[v]/\v.oneCell'=true/\RV (Iw w) noθ w (.sl false sz (l.map C)) v/\sumL bk l<=2 * Rows.uptoBulk x.1:=by
 rcases DataW.trod_slice ht h with⟨rfl,rfl⟩|⟨a,len,cap,elems,rest,m,rfl,rfl,rfl,h1,h2,h3,h4,h5,h6,h7⟩
 ·refine⟨[],_,rfl,rfl,?_,by simp[sumL]⟩
  simp only[RV]
  exact⟨rfl,none,0,rfl,by simp,by simp[maxLen],by simp,by simp,by simp⟩
 ·simp only[Rows.uptoBulk]at hb ⊢
  obtain⟨B,o,sp⟩:=a
  have hsp:elems≠[]->sp=none:=by
   intro hne
   have h0:=h5 0 (by have:=List.length_pos_iff.2 hne;omega)
   obtain⟨y,hy⟩:∃ y,elems[0]? = some y:=⟨_,List.getElem?_eq_getElem (List.length_pos_iff.2 hne)⟩
   rw[hy]at h0
   obtain⟨cs,hcs,_⟩:=Option.bind_eq_some_iff.1 h0
   obtain⟨_,c2,c3⟩:=World.cells?_some hcs
   rw[hc]at c2 c3
   have k1:=c3 0 hs
   rw[List.getElem?_eq_getElem (by omega)]at k1
   have:=(cell_in k1).2
   simpa [Addr.add] using this
  obtain⟨l,l1,l3,l4⟩:∃ l:List α,l.length=elems.length/\(elems≠[]->RVe (Iw w) noθ w (l.map C) B (o+0 * sz))/\sumL bk l<=2 * Rows.uptoBulkAll (elems.map (·.1)):=by
   by_cases hne:elems=[]
   ·subst hne;exact⟨[],rfl,fun h=>absurd rfl h,by simp[sumL]⟩
   ·obtain rfl:=hsp hne
    obtain⟨l,l1,l3,l4⟩:=read_els hc hl hs (ih m (Nat.lt_succ_self _)) elems 0 B o (by omega) (fun i hi=>by rw[Nat.zero_add,<-hc];exact h5 i (by omega))
    exact⟨l,l1,fun _=>l3,l4⟩
  have hlen:=bulk_len (elems.map (·.1))
  simp only[List.length_map]at hlen
  refine⟨l,_,rfl,rfl,?_,by omega⟩
  simp only[RV]
  refine⟨pureE_map hp l,some ⟨B,o,sp⟩,cap,?_,?_,h3,?_,by simp,fun hne=>⟨hs,?_,B,o,?_,?_⟩⟩
  ·simp[l1,h4]
  ·simp[l1,h4,h2]
  ·simp[l1,LIM];omega
  ·intro el hel
   obtain⟨a,_,rfl⟩:=List.mem_map.1 hel
   exact hl a
  ·rw[hsp (by intro e;subst e;simp at l1;subst l1;simp at hne)]
  ·simpa using l3 (by intro e;subst e;simp at l1;subst l1;simp at hne)
end
open Go.ChangeShapes Go.WideShapes in
theorem post_of_below{H:Type}{enc:TypeId×Value->H}{P:Program}{f:Func}{s:ChangeSpec}{apart fresh handsOn again:Bool}{W W':World}{args:Array Value}{v:Value}{ds gs:List (DataW H)}{before pa pv:List MemPlace}
  (hW:DataW.Whole enc P f.params.toList s.vars apart W args.toList ds gs before) (hb:Below W.heap.size W W')
  (hres:∀(b:Nat) (sp:Nat->Bool) (hd:Bool),DataW.TrodAll enc P W' b sp hd f.resultTypes.toList (v.resultList f.resultTypes.size) (s.fn H (ds++gs)).results [])
  (hargs:∀ sp:Nat->Bool,(∀ p∈before,sp p.block=true)->DataW.TrodAll enc P W' 0 sp true f.params.toList args.toList (s.fn H (ds++gs)).args pa)
  (hvars:∀ sp:Nat->Bool,(∀ p∈before,sp p.block=true)->DataW.TrodVars enc P W' sp s.vars (s.fn H (ds++gs)).vars pv)
  (hps:before=pa++pv)
  (hok:∀(j:Nat) (t:TypeId) (r:Value),f.resultTypes[j]? = some t->(v.resultList f.resultTypes.size)[j]? = some r->Value.okWide P W' .any 0 t r) :
  s.post enc P f apart fresh handsOn again W args v W':=by
 have hlt:=fun p hp=>hW.lt p hp
 have hold:∀ p∈before,(fun b=>decide (b<W.heap.size)) p.block=true:=fun p hp=>by simpa using hlt p hp
 refine⟨ds,gs,before,[],pa,pv,hW,hres _ _ _,hargs _ hold,hvars _ hold,World.keptBut_mono (fun p hp=>⟨hp,?_⟩) (hb.frame (·∈before)),fun _=>?_⟩
 ·rw[hps,List.mem_append]at hp
  exact Or.inr hp
 ·obtain⟨_,_,_,_,_,hz,hn⟩:=hW
  refine⟨hok,_,_,([]++pa)++pv,⟨[]++pa,pv,trodAll_append (hargs _ (fun _ _=>rfl)) (hres _ _ _),hvars _ (fun _ _=>rfl),rfl,?_,?_⟩,?_⟩
  ·intro b off hp
   have hp':MemPlace.cell b off∈before:=by rw[hps];simpa using hp
   rw[hb.frozen (hlt _ hp')]
   exact hz b off hp'
  ·intro ha
   have:=hn ha
   rw[hps]at this
   simpa using this
  ·intro p hp _
   rw[hps]
   simpa using hp
open Go.Ab.X Go.Proofs
section
variable {H:Type} {enc:TypeId×Value->H} {w:World} {spare:Nat->Bool} {held:Bool}
theorem ba_len(s:ByteArray):s.data.toList.length=s.size:=Array.length_toList
theorem wf_rng{k:IntKind}{n:Int}(h:(Lit.int k n).wf=true):k.min<=n/\n<=k.max:=by
 simpa [Lit.wf] using h
theorem cmd_eq(x:Scmd):C_cmd x=[.i .u8 x.op,.i .i64 x.n,.s x.text]:=rfl
set_option maxRecDepth 100000 in
theorem read_cmd(n:Nat):Reads H enc Tryd.prog w spare held n 37 C_cmd (fun _=>0):=by
 intro cs x h hb
 obtain⟨xs,m,rfl,rfl,hl,hlen,hf⟩:=DataW.trod_struct (show Tryd.prog.underlying 37=_ from Tryd.underlying37) h
 have k0:Tryd.prog.cellsOf 37=3:=by kernel_rfl
 have k1:Tryd.prog.cellsOf 5=1:=by kernel_rfl
 have k2:Tryd.prog.cellsOf 3=1:=by kernel_rfl
 have k3:Tryd.prog.cellsOf 9=1:=by kernel_rfl
 rw[k0]at hl
 match xs,hlen,cs,hl with
 | [y0,y1,y2],_,[c0,c1,c2],_ =>
  have h0:DataW.trod enc Tryd.prog w 0 spare held m 5 [c0]=some y0:=by simpa [k1] using hf 0 _ rfl
  have h1:DataW.trod enc Tryd.prog w 0 spare held m 3 [c1]=some y1:=by simpa [k2] using hf 1 _ rfl
  have h2:DataW.trod enc Tryd.prog w 0 spare held m 9 [c2]=some y2:=by simpa [k3] using hf 2 _ rfl
  simp only[List.map_cons,List.map_nil,Rows.uptoBulk,Rows.uptoBulkAll]at hb ⊢
  obtain⟨k,e0,d0,w0⟩:=DataW.trod_int Tryd.underlying5 h0
  obtain⟨i,e1,d1,w1⟩:=DataW.trod_int Tryd.underlying3 h1
  obtain⟨s,e2,d2,hs⟩:=DataW.trod_string Tryd.underlying9 h2
  cases e0;cases e1;cases e2
  rw[d2]at hb
  simp only[Rows.uptoBulk,ba_len]at hb
  refine⟨⟨k,i,s⟩,?_,?_,Nat.zero_le _⟩
  ·rw[cmd_eq]
   simp only[RVs,RV]
   exact⟨_,_,rfl,⟨rfl,wf_rng w0⟩,_,_,rfl,⟨rfl,wf_rng w1⟩,_,_,rfl,⟨rfl,by simp[LIM];omega⟩,rfl⟩
  ·intro u hu
   simp only[List.mem_cons,List.not_mem_nil,or_false]at hu
   rcases hu with rfl|rfl|rfl<;>rfl
theorem arg_cmds{v:Value}{d:DataW H}{ps:List MemPlace}(hv:v.cells.toList=[v])(h:DataW.Trod enc Tryd.prog w 0 spare held 22 v d ps)(hb:Rows.uptoBulk d<=1048576) :
  ∃ l:List Scmd,RV (Iw w) noθ w (.sl false 3 (l.map C_cmd)) v:=by
 obtain⟨n,h⟩:=h
 obtain⟨l,v',e,_,r,_⟩:=read_slice (C:=C_cmd) (bk:=fun _=>0) Tryd.underlying22 (by kernel_rfl:Tryd.prog.cellsOf 37=3) (fun t=>by rw[cmd_eq];rfl) pure_cmd' (by omega) (fun m _=>read_cmd m) h hb
 rw[hv]at e
 cases e
 exact⟨l,r⟩
theorem cmds_fit:∀(l:List Scmd),FitE (l.map C_cmd)->∀ c∈l,CmdR c
 | y::l,h,x,hx=>by
  simp only[List.map_cons,FitE]at h
  rcases List.mem_cons.1 hx with rfl|hx
  ·have h1:=h.1
   rw[cmd_eq]at h1
   simp only[FitL,Fit]at h1
   obtain⟨⟨a1,a2⟩,⟨b1,b2⟩,ht,_⟩:=h1
   simp[IntKind.min,IntKind.max,IntKind.signed,IntKind.bits]at a1 a2 b1 b2
   exact⟨a1,a2,b1,b2,ht⟩
  ·exact cmds_fit l h.2 x hx
end
end Go.Ab.Rd
