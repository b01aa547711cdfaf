/- A part of the proof: AbF. -/
import Derived.Test.YtgkiahgcgjigkaaDoorAbE
set_option linter.all false
set_option linter.unusedVariables false
namespace Go.Ab
open Go.RowKit
section
variable {P:Program} {Γ : Ctx} {I:Addr->Prop} {θ:Nat->Option Value} {H:List AB} {w:World} {ev:Operand->Value} {ρ:Opd->AV} {o:Oper} {y:AV}
theorem ok_mv{x:Operand}{x':Opd}(ho:o.op=.move x\/o.op=.assign x)(S:Sim Γ I θ H w)(hx:RV I θ w (ρ x') (ev x))(hy:ov ρ H (.mv x')=some y):Gives P Γ I θ H w ev o y:=by
 simp only[ov,Option.some.injEq]at hy
 subst hy
 exact gives_same S (by rcases ho with h|h<;>simp[execOp,h]) hx
theorem fillL(off:Nat):∀(l:List Value) (k:Nat) (cells:Array Value),off+k+l.length<=cells.size ->
  ((l.zipIdx k).foldl (fun cs x=>cs.setIfInBounds (off+x.2) x.1) cells).toList=cells.toList.take (off+k)++l++cells.toList.drop (off+k+l.length)
 | [],k,cells,h=>by simp
 | c::l,k,cells,h=>by
  simp only[List.length_cons]at h
  simp only[List.zipIdx_cons,List.foldl_cons]
  rw[fillL off l (k+1) _ (by simp;omega)]
  have h1:off+k<cells.toList.length:=by simp;omega
  simp only[Array.toList_setIfInBounds,<-Nat.add_assoc,List.length_cons]
  rw[List.take_add_one,List.getElem?_set_self h1,List.take_set_of_le (by omega),List.drop_set_of_lt (by omega)]
  simp only[Option.toList_some,List.append_assoc,List.singleton_append]
  congr 3
  omega
theorem fillA(off:Nat)(v cells:Array Value)(h:off+v.size<=cells.size) :
  (v.zipIdx.foldl (fun cs (x:Value×Nat)=>cs.setIfInBounds (off+x.2) x.1) cells).toList=cells.toList.take off++v.toList++cells.toList.drop (off+v.size):=by
 have:=fillL off v.toList 0 cells (by simpa using h)
 rw[<-Array.foldl_toList,Array.toList_zipIdx]
 simpa using this
theorem fill_rv{place:Nat->Option (Nat×Nat)}:∀ {ps:List (Nat×Operand)} {qs:List (Nat×Nat×Opd)} {cs cs':List AV} {cells:Array Value},
  RVs I θ w cs cells.toList->(∀ u∈cells.toList,u.oneCell'=true) ->
  (∀(i:Nat) (x:Operand) (off n:Nat) (x':Opd),((i,x),(off,n,x'))∈ps.zip qs->place i=some (off,n)/\RV I θ w (ρ x') (ev x))->ps.length=qs.length ->
  fills ρ qs cs=some cs'->∃ out,Instr.fill place cells (ps.map fun x=>(x.1,ev x.2))=some out/\RVs I θ w cs' out.toList/\∀ u∈out.toList,u.oneCell'=true
 | [],[],cs,cs',cells,h,h1,hp,hl,hf=>by
  simp only[fills,Option.some.injEq]at hf
  subst hf
  exact⟨cells,by simp[Instr.fill],h,h1⟩
 | (i,x)::ps,(off,n,x')::qs,cs,cs',cells,h,h1,hp,hl,hf=>by
  simp only[fills]at hf
  split at hf
  ·rename_i hc
   obtain⟨c1,c2,c3⟩:=hc
   obtain⟨p1,p2⟩:=hp i x off n x' (by simp)
   obtain⟨b1,b2⟩:=RV_box p2 c3
   have hlen:=RVs_length h
   have hlb:=RVs_length b1
   have hsz:(ev x).cells.size=n:=by rw[<-c1,<-hlb];simp
   have hcs:off+(ev x).cells.size<=cells.size:=by rw[hsz];simp at hlen;omega
   have hfa:=fillA off (ev x).cells cells hcs
   have hnew:RVs I θ w (cs.take off++cellsOf (ρ x')++cs.drop (off+n)) ((ev x).cells.zipIdx.foldl (fun cs (x:Value×Nat)=>cs.setIfInBounds (off+x.2) x.1) cells).toList:=by
    rw[hfa,hsz]
    exact RVs_append (RVs_append (RVs_take h off) b1) (RVs_drop h (off+n))
   have hone:∀ u∈((ev x).cells.zipIdx.foldl (fun cs (x:Value×Nat)=>cs.setIfInBounds (off+x.2) x.1) cells).toList,u.oneCell'=true:=by
    rw[hfa]
    intro u hu
    simp only[List.mem_append]at hu
    rcases hu with(hu|hu)|hu
    ·exact h1 u (List.mem_of_mem_take hu)
    ·exact b2 u hu
    ·exact h1 u (List.mem_of_mem_drop hu)
   obtain⟨out,o1,o2,o3⟩:=fill_rv (ps:=ps) (qs:=qs) hnew hone (fun i x off n x' hm=>hp i x off n x' (by simp[hm])) (by simpa using hl) hf
   refine⟨out,?_,o2,o3⟩
   simp only[List.map_cons,Instr.fill,p1,hsz]
   rw[if_neg (by simp;omega)]
   exact o1
  ·cases hf
 | [],_::_,_,_,_,_,_,_,hl,_=>by simp at hl
 | _::_,[],_,_,_,_,_,_,hl,_=>by simp at hl
def zeroOk(P:Program)(t:TypeId)(cs:List AV):Bool:=
 match(P.info? t).bind (·.zero)with
 | some z=>constL z.cells.toList cs
 | none=>false
def places(P:Program)(fs:Array Field):Option (List (Nat×Nat)):=fs.toList.mapM (fun f=>(P.info? f.type).map fun i=>(f.offset,i.size))
def partsOk(pl:List (Nat×Nat)):List (Nat×Operand)->List (Nat×Nat×Opd)->Bool
 | [],[]=>true
 | (i,x)::r,(off,n,x')::r'=>pl[i]? == some (off,n) && opdOk x x' && partsOk pl r r'
 | _,_=>false
theorem partsOk_mem{pl:List (Nat×Nat)}:∀ {ps:List (Nat×Operand)} {qs:List (Nat×Nat×Opd)},partsOk pl ps qs=true->ps.length=qs.length /\
  ∀(i:Nat) (x:Operand) (off n:Nat) (x':Opd),((i,x),(off,n,x'))∈ps.zip qs->pl[i]? = some (off,n)/\opdOk x x'=true
 | [],[],_=>by simp
 | (i,x)::r,(off,n,x')::r',h=>by
  simp only[partsOk,Bool.and_eq_true,beq_iff_eq]at h
  obtain⟨h1,h2⟩:=partsOk_mem h.2
  refine⟨by simp[h1],fun j z o m z' hm=>?_⟩
  simp only[List.zip_cons_cons,List.mem_cons]at hm
  rcases hm with hm|hm
  ·cases hm
   exact h.1
  ·exact h2 j z o m z' hm
 | [],_::_,h=>by simp[partsOk]at h
 | _::_,[],h=>by simp[partsOk]at h
theorem ok_bld{t:TypeId}{parts:Array (Nat×Operand)}{zero:List AV}{qs:List (Nat×Nat×Opd)}{fs:Array Field}{pl:List (Nat×Nat)}(ho:o.op=.build t parts)(hu:P.underlying t=some (.struct fs))
  (hz:zeroOk P t zero=true) (hpl:places P fs=some pl) (hk:partsOk pl parts.toList qs=true) (S:Sim Γ I θ H w) (hρ:∀ x x',opdOk x x'=true->RV I θ w (ρ x') (ev x)) (hy:ov ρ H (.bld zero qs)=some y) :
  Gives P Γ I θ H w ev o y:=by
 simp only[ov]at hy
 obtain⟨cs',hf,rfl⟩:=Option.map_eq_some_iff.1 hy
 unfold zeroOk at hz
 cases hi:P.info? t with
 | none=>simp[hi]at hz
 | some it =>
  rw[hi]at hz
  cases hz':it.zero with
  | none=>simp[hz']at hz
  | some z =>
   simp only[Option.bind_some,hz']at hz
   obtain⟨z1,z2⟩:=constL_rv (I:=I) (θ:=θ) (w:=w) hz
   obtain⟨p1,p2⟩:=partsOk_mem hk
   obtain⟨out,o1,o2,o3⟩:=fill_rv (ρ:=ρ) (ev:=ev) (place:=(pl.toArray[·]?)) (cells:=z.cells) (ps:=parts.toList) (qs:=qs) z1 z2
    (fun i x off n x' hm=>⟨by simpa using (p2 i x off n x' hm).1,hρ x x' (p2 i x off n x' hm).2⟩) p1 hf
   have hb:P.built t (parts.map fun x=>(x.1,ev x.2)).toList=some out:=by
    unfold places at hpl
    simp only[Program.built,hi,hu,hz',hpl]
    simpa using o1
   refine gives_same S (v:=.agg out) ?_ ?_
   ·have:=run_build (P:=P) w t _ out hb
    simp[execOp,ho,this]
   ·simp only[RV]
    exact⟨out.toList,by simp,o3,o2⟩
def litOk:Nat->List (Nat×Operand)->List Opd->Bool
 | _,[],[]=>true
 | k,(i,x)::r,x'::r'=>i == k && opdOk x x' && litOk (k+1) r r'
 | _,_,_=>false
theorem fill_lit{sz:Nat}(hρ:∀ x x',opdOk x x'=true->RV I θ w (ρ x') (ev x)):∀(ps:List (Nat×Operand)) (xs:List Opd) (k:Nat) (cells:Array Value) (cs:List AV),litOk k ps xs=true ->
  (∀ x∈xs,boxB (ρ x)=true/\(cellsOf (ρ x)).length=sz)->cells.size=(k+xs.length) * sz->RVs I θ w cs (cells.toList.take (k * sz))->(∀ u∈cells.toList.take (k * sz),u.oneCell'=true) ->
  ∃ out,Instr.fill (fun i=>some (i * sz,sz)) cells (ps.map fun x=>(x.1,ev x.2))=some out/\RVs I θ w (cs++(xs.map fun x=>cellsOf (ρ x)).flatten) out.toList/\∀ u∈out.toList,u.oneCell'=true
 | [],[],k,cells,cs,_,_,hs,hv,h1=>by
  have:cells.toList.take (k * sz)=cells.toList:=List.take_of_length_le (by simp at hs ⊢;omega)
  rw[this]at hv h1
  exact⟨cells,by simp[Instr.fill],by simpa using hv,h1⟩
 | (i,x)::r,x'::r',k,cells,cs,hk,hb,hs,hv,h1=>by
  simp only[litOk,Bool.and_eq_true,beq_iff_eq]at hk
  obtain⟨⟨rfl,hx⟩,hr⟩:=hk
  obtain⟨c1,c2⟩:=hb x' (List.mem_cons_self ..)
  obtain⟨b1,b2⟩:=RV_box (hρ x x' hx) c1
  have hsz:(ev x).cells.size=sz:=by rw[<-c2,<-RVs_length b1];simp
  have hcs:i * sz+sz<=cells.size:=by
   rw[hs,List.length_cons,<-Nat.succ_mul]
   exact Nat.mul_le_mul_right _ (by omega)
  have hfa:=fillA (i * sz) (ev x).cells cells (by omega)
  have htake:((ev x).cells.zipIdx.foldl (fun cs (x:Value×Nat)=>cs.setIfInBounds (i * sz+x.2) x.1) cells).toList.take ((i+1) * sz)=cells.toList.take (i * sz)++(ev x).cells.toList:=by
   rw[hfa,List.append_assoc,<-List.append_assoc,List.take_append_of_le_length (by simp[Nat.succ_mul];omega),List.take_of_length_le (by simp[Nat.succ_mul];omega)]
  obtain⟨out,o1,o2,o3⟩:=fill_lit hρ r r' (i+1) ((ev x).cells.zipIdx.foldl (fun cs (x:Value×Nat)=>cs.setIfInBounds (i * sz+x.2) x.1) cells) (cs++cellsOf (ρ x')) hr
   (fun y hy=>hb y (List.mem_cons_of_mem _ hy)) (by
    have:((ev x).cells.zipIdx.foldl (fun cs (x:Value×Nat)=>cs.setIfInBounds (i * sz+x.2) x.1) cells).size=cells.size:=by
     rw[<-Array.length_toList,hfa]
     simp
     omega
    rw[this,hs,List.length_cons]
    congr 1
    omega) (by rw[htake];exact RVs_append hv b1) (by
    rw[htake]
    intro u hu
    simp only[List.mem_append]at hu
    rcases hu with hu|hu
    ·exact h1 u hu
    ·exact b2 u hu)
  refine⟨out,?_,by simpa using o2,o3⟩
  simp only[List.map_cons,Instr.fill,hsz]
  rw[if_neg (by simp;omega)]
  exact o1
 | [],_::_,_,_,_,h,_,_,_,_=>by simp[litOk]at h
 | _::_,[],_,_,_,h,_,_,_,_=>by simp[litOk]at h
theorem ok_bsl{t e:TypeId}{len sz:Nat}{parts:Array (Nat×Operand)}{xs:List Opd}{ie:TypeInfo}{z:Value}(ho:o.op=.buildSlice t len parts)(hu:P.underlying t=some (.slice e))(hie:P.info? e=some ie)
  (hz:ie.zero=some z) (hsz:ie.size=sz) (hs0:0<sz) (hlen:len=xs.length) (hpos:0<xs.length) (hsm:xs.length * sz<=65536) (hk:litOk 0 parts.toList xs=true) (S:Sim Γ I θ H w)
  (hρ:∀ x x',opdOk x x'=true->RV I θ w (ρ x') (ev x)) (hy:ov ρ H (.bsl sz xs)=some y):Gives P Γ I θ H w ev o y:=by
 simp only[ov]at hy
 cases hb:pureE (xs.map fun x=>cellsOf (ρ x)) && xs.all (fun x=>boxB (ρ x)) && (xs.map fun x=>cellsOf (ρ x)).all (fun el=>el.length == sz)with
 | false=>rw[hb]at hy;simp at hy
 | true =>
  rw[hb]at hy
  simp only[cond_true,Option.some.injEq]at hy
  subst hy
  simp only[Bool.and_eq_true,List.all_eq_true,List.mem_map,beq_iff_eq]at hb
  obtain⟨⟨b1,b2⟩,b3⟩:=hb
  obtain⟨out,o1,o2,o3⟩:=fill_lit (sz:=sz) hρ parts.toList xs 0 ((Array.range (xs.length * sz)).map (z.cells[· % z.cells.size]!)) [] hk
   (fun x hx=>⟨b2 x hx,b3 _ ⟨x,hx,rfl⟩⟩) (by simp) (by simp[RVs]) (by simp)
  simp only[List.nil_append]at o2
  subst hsz
  subst hlen
  have hsmall:¬ xs.length * ie.size > 2 ^ 24:=by omega
  have hne:¬ xs.length * ie.size=0:=by have:=Nat.mul_pos hpos hs0;omega
  have hr:(Instr.buildSlice t xs.length (parts.map fun x=>(x.1,ev x.2))).run P w=.ok (.slice (some ⟨w.heap.size,0,none⟩) xs.length xs.length) (w.alloc (.cells out e)):=by
   simp[Instr.buildSlice,run_underlying hu,sizeOf,typeInfo,zeroValue,hie,hz,hsmall,hne,o1,newRow]
  obtain⟨I',k1,k2,k3⟩:=sl_new (t:=e) (sz:=ie.size) S o2 b1 o3 (fun el hel=>by
   obtain⟨x,hx,rfl⟩:=List.mem_map.1 hel
   exact b3 _ ⟨x,hx,rfl⟩) hs0 (by
    simp only[List.length_map,LIM]
    have:xs.length<=xs.length * ie.size:=Nat.le_mul_of_pos_right _ hs0
    omega)
  refine⟨_,_,I',?_,k1,k2,k3⟩
  simp only[List.length_map,Array.toArray_toList]
  simp[execOp,ho,hr]
theorem ok_fld{t:TypeId}{x:Operand}{x':Opd}{f off n:Nat}{g:Bool}{fs:Array Field}{fd:Field}(ho:o.op=.field t x f)(hu:P.underlying t=some (.struct fs))(hf:fs[f]? = some fd)
  (hoff:fd.offset=off) (hk:ldOk P fd.type n g=true) (S:Sim Γ I θ H w) (hx:RV I θ w (ρ x') (ev x)) (hy:ov ρ H (.fld x' off n g)=some y):Gives P Γ I θ H w ev o y:=by
 simp only[ov]at hy
 cases hq:ρ x'<;>rw[hq]at hy hx<;>try simp only[reduceCtorEq]at hy
 case agg cs =>
  simp only[RV]at hx
  obtain⟨vs,e,h1,h2⟩:=hx
  have hlen:=RVs_length h2
  split at hy
  ·rename_i hle
   unfold ldOk at hk
   cases hu':P.underlying fd.type with
   | none=>simp[hu']at hk
   | some d =>
    rw[hu']at hk
    by_cases hg:g=true
    ·subst hg
     have hs:∃ fs,d=.struct fs:=by cases d<;>simp_all
     obtain⟨fs',rfl⟩:=hs
     have hn:szOf P fd.type=some n:=by simpa using hk
     simp only[rdCells,cond_true]at hy
     split at hy
     ·obtain rfl:=Option.some.inj hy
      refine gives_same S (v:=.agg (vs.toArray.extract off (off+n))) ?_ ?_
      ·simp[execOp,ho,Instr.field,run_underlying hu,hf,e,asAgg,part,isAgg,run_underlying hu',run_sizeOf hn,hoff]
      ·simp only[RV]
       refine⟨(vs.drop off).take n,by apply congrArg;apply Array.ext';simp[List.extract],fun u hu=>h1 u (List.mem_of_mem_drop (List.mem_of_mem_take hu)),RVs_take (RVs_drop h2 off) n⟩
     ·cases hy
    ·have hg':g=false:=by simpa using hg
     subst hg'
     simp only[rdCells,cond_false]at hy
     have hagg:(isAgg fd.type).run P w=.ok false w:=by
      simp only[isAgg,Sem.run_bind,run_underlying hu',Result.andThen_ok]
      cases d<;>first|rfl|(simp at hk;done)
     rw[List.head?_drop]at hy
     obtain⟨v,k1,k2⟩:=RVs_get h2 off y hy
     refine gives_same S (v:=v) ?_ k2
     have k1':vs.toArray[off]? = some v:=by simpa using k1
     simp only[execOp,ho,Instr.field,Sem.run_bind,run_underlying hu,Result.andThen_ok,hf,e,asAgg,part,Sem.run_pure,hagg,hoff,k1',Bool.false_eq_true,if_false]
  ·cases hy
theorem ok_ia{t e:TypeId}{x i:Operand}{x' i':Opd}{sz:Nat}(ho:o.op=.indexAddr t x i)(hu:P.underlying t=some (.slice e))(hn:szOf P e=some sz)
  (S:Sim Γ I θ H w) (hx:RV I θ w (ρ x') (ev x)) (hi:RV I θ w (ρ i') (ev i)) (hy:ov ρ H (.ia sz x' i')=some y):Gives P Γ I θ H w ev o y:=by
 have fin:∀(B o' l c:Nat) (k:IntKind) (n:Int),ev x=.slice (some ⟨B,o',none⟩) l c->ev i=.int k n->0<=n->n<l->RV I θ w y (.pointer (some ⟨B,o'+n.toNat * sz,none⟩))->Gives P Γ I θ H w ev o y:=by
  intro B o' l c k n ex ei h0 h1 hr
  refine gives_same S ?_ hr
  have hd:¬ ((match(TypeDesc.slice e)with | .array ..=>true|_=>false)=true):=by simp
  simp[execOp,ho,Instr.indexAt,asIntOf,ei,ex,run_underlying hu,h0,h1,run_sizeOf hn,addB]
 simp only[ov]at hy
 cases hq:ρ x'<;>rw[hq]at hy hx<;>try simp only[reduceCtorEq]at hy
 case sl tt sz' els =>
  cases hj:ρ i'<;>rw[hj]at hy hi<;>try simp only[reduceCtorEq]at hy
  case i k n =>
   split at hy
   ·rename_i hc
    obtain⟨h0,rfl⟩:=hc
    cases he:els[n.toNat]? with
    | none=>rw[he]at hy;simp at hy
    | some el =>
     rw[he]at hy
     simp only[Option.map_some,Option.some.injEq]at hy
     subst hy
     simp only[RV]at hx hi
     obtain⟨hp,a,cap,ex,h1,h2,h3,h4,h5⟩:=hx
     have hlt:n.toNat<els.length:=(List.getElem?_eq_some_iff.1 he).1
     obtain⟨h6,h7,B,o',rfl,h8⟩:=h5 (by intro h;subst h;simp at hlt)
     refine fin B o' els.length cap k n ex hi.1 h0 (by omega) ?_
     simp only[RV]
     exact⟨pureE_get hp he,B,_,rfl,RVe_get h8 h7 n.toNat el he,by simp⟩
   ·cases hy
 case row r =>
  cases hj:ρ i'<;>rw[hj]at hy hi<;>try simp only[reduceCtorEq]at hy
  case i k n =>
   cases hh:H[r]? with
   | none=>rw[hh]at hy;simp at hy
   | some ab =>
    rw[hh]at hy
    cases ab with
    | gone=>simp at hy
    | pin _ _=>simp at hy
    | map _ _=>simp at hy
    | box _ _=>simp at hy
    | row e' sz' els =>
     simp only at hy
     split at hy
     ·rename_i hc
      obtain⟨h0,h1,rfl⟩:=hc
      obtain rfl:=Option.some.inj hy
      simp only[RV]at hx hi
      obtain⟨v,xs,k1,k2,k3,k4,k5,_⟩:=S.row r e' sz els hh
      have hv:v=ev x:=by rw[hx.1]at k1;exact(Option.some.inj k1).symm
      subst hv
      obtain⟨g,cap,ex⟩:∃ g cap,ev x=.slice (some ⟨g,0,none⟩) els.length cap:=by
       rcases k2.2 with⟨_,hz⟩|⟨g,cap,cur,ex,_⟩
       ·omega
       ·exact⟨g,cap,ex⟩
      refine fin g 0 els.length cap k n ex hi.1 h0 h1 ?_
      simp only[RV]
      exact⟨g,els.length,cap,by rw[hx.1,ex],by simp⟩
     ·cases hy
 case rv r sz' lo m =>
  cases hj:ρ i'<;>rw[hj]at hy hi<;>try simp only[reduceCtorEq]at hy
  case i k n =>
   split at hy
   ·rename_i hc
    obtain⟨h0,h1,rfl⟩:=hc
    obtain rfl:=Option.some.inj hy
    simp only[RV]at hx hi
    obtain⟨a,l,c,e1,e2,e3,e4,e5,e6,a',ex,e7,e8⟩:=hx
    obtain⟨B,rfl,rfl⟩:=e8 (by omega)
    refine fin B (lo * sz) m (c-lo) k n ex hi.1 h0 h1 ?_
    simp only[RV]
    exact⟨B,l,c,e1,by rw[Nat.add_mul];simp⟩
   ·cases hy
end
end Go.Ab
