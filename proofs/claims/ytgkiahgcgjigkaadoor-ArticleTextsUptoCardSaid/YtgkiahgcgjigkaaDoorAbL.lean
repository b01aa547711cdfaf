/- A part of the proof: AbL. -/
import Derived.Test.YtgkiahgcgjigkaaDoorAbK
set_option linter.all false
set_option linter.unusedVariables false
namespace Go.Ab
open Go.RowKit
def quietS:SOp->Bool
 | .op _ k=>quietK k
 | .call _ _ _=>true
 | .callr _ _ _=>false
 | .callo _ _ _=>false
 | .gd _ _ _ o=>quietS o
 | .wk _=>false
def dstS:SOp->Option Nat
 | .op d _=>d
 | .call d _ _=>d
 | .callr d _ _=>d
 | .callo d _ _=>d
 | .gd _ _ d _=>d
 | .wk o=>dstS o
def rdO:Opd->List Nat
 | .t n=>[n]
 | .c _=>[]
def rdOs:List Opd->List Nat
 | []=>[]
 | x::xs=>rdO x++rdOs xs
def rdOo:Option Opd->List Nat
 | some x=>rdO x
 | none=>[]
def rdK:K->List Nat
 | .mv x | .bx x | .bxm _ x | .fa x _ | .fld x _ _ _ | .nc x | .un _ x | .cvi _ x | .cvr x | .cvb x | .len x | .lens x | .ext x _ | .ld x _ _ | .ldi x _ _ | .mks _ _ _ x | .eqn _ x | .clr _ _ x | .shr x | .mkc _ _ x | .capn x | .mln x=>rdO x
 | .alm _ _ | .bsr _ _ | .mkm _ | .stuck=>[]
 | .bld _ ps=>rdOs (ps.map fun p=>p.2.2)
 | .bsl _ xs=>rdOs xs
 | .st a _ x | .stb a _ x | .ste a _ x | .ia _ a x | .ix a x | .bi _ a x | .bib _ a x | .mx a x | .mn a x | .app _ _ a x | .apt _ _ a x | .apv _ _ a x | .eqp _ a x | .eqs _ _ a x | .eqf _ _ a x | .sln a x | .apz _ _ _ a x | .mlk _ _ _ a x=>rdO a++rdO x
 | .slc _ x lo hi mx | .rsl _ x lo hi mx=>rdO x++(rdOo lo++(rdOo hi++rdOo mx))
 | .slcs x lo hi=>rdO x++(rdOo lo++rdOo hi)
 | .mkf _ a b=>rdOs a++rdOs b
 | .ldd a _ _ bs=>rdO a++rdOs bs
 | .pk c x y | .mup _ c x y=>rdO c++(rdO x++rdO y)
def rdS:SOp->List Nat
 | .op _ k=>rdK k
 | .call _ c args=>rdO c++rdOs args
 | .callr _ c args=>rdO c++rdOs args
 | .callo _ c args=>rdO c++rdOs args
 | .gd g _ _ o=>g::rdS o
 | .wk o=>rdS o
theorem rdO_congr{st st':AS}{x:Opd}(h:∀ t∈rdO x,lk st.T t=lk st'.T t):st.ev x=st'.ev x:=by
 cases x with
 | t n=>exact h n (by simp[rdO])
 | c v=>rfl
theorem rdOs_congr{st st':AS}:∀ {xs:List Opd},(∀ t∈rdOs xs,lk st.T t=lk st'.T t)->∀ x∈xs,st.ev x=st'.ev x
 | [],_,x,hx=>by simp at hx
 | y::ys,h,x,hx=>by
  cases hx with
  | head=>exact rdO_congr fun t ht=>h t (by simp[rdOs,ht])
  | tail _ hm=>exact rdOs_congr (fun t ht=>h t (by simp[rdOs,ht])) x hm
theorem rdOo_congr{st st':AS}{x:Option Opd}{d:Nat}(h:∀ t∈rdOo x,lk st.T t=lk st'.T t):bnd st.ev d x=bnd st'.ev d x:=by
 cases x with
 | none=>rfl
 | some x=>simp only[bnd,rdO_congr (st:=st) (st':=st') (x:=x) h]
theorem fills_congr{ρ ρ':Opd->AV}:∀ {ps:List (Nat×Nat×Opd)} {cs:List AV},(∀ p∈ps,ρ p.2.2=ρ' p.2.2)->fills ρ ps cs=fills ρ' ps cs
 | [],cs,_=>rfl
 | (off,n,x)::ps,cs,h=>by
  have h1:ρ x=ρ' x:=h _ (List.mem_cons_self ..)
  simp only[fills,h1]
  split
  ·exact fills_congr (fun p hp=>h p (List.mem_cons_of_mem _ hp))
  ·rfl
theorem ov_congr{st st':AS}{k:K}(hH:st.H=st'.H)(h:∀ t∈rdK k,lk st.T t=lk st'.T t):ov st.ev st.H k=ov st'.ev st'.H k:=by
 rw[hH]
 cases k<;>simp only[ov,rdK]at h ⊢
 case bld zero ps =>
  rw[fills_congr (ρ:=st.ev) (ρ':=st'.ev) (fun p hp=>rdOs_congr (xs:=ps.map fun p=>p.2.2) h _ (List.mem_map_of_mem hp))]
 case bsl sz xs =>
  have e:=rdOs_congr h
  have e1:(xs.map fun x=>cellsOf (st.ev x))=xs.map fun x=>cellsOf (st'.ev x):=List.map_congr_left fun x hx=>by rw[e x hx]
  have e2:(xs.all fun x=>boxB (st.ev x))=xs.all fun x=>boxB (st'.ev x):=by
   rw[Bool.eq_iff_iff]
   simp only[List.all_eq_true]
   exact⟨fun h x hx=>by rw[<-e x hx];exact h x hx,fun h x hx=>by rw[e x hx];exact h x hx⟩
  rw[e1,e2]
 case ldd a n g bs =>
  have e1:st.ev a=st'.ev a:=rdO_congr (x:=a) (fun t ht=>h t (by simp[ht]))
  have e2:=rdOs_congr (xs:=bs) (fun t ht=>h t (by simp[ht]))
  rw[e1]
  split
  ·rename_i r j _
   rw[show(bs.all fun b=>othB r (st.ev b))=bs.all fun b=>othB r (st'.ev b)from by
    rw[Bool.eq_iff_iff]
    simp only[List.all_eq_true]
    exact⟨fun h x hx=>by rw[<-e2 x hx];exact h x hx,fun h x hx=>by rw[e2 x hx];exact h x hx⟩]
  ·rfl
 case mkf f a b =>
  have e1:=rdOs_congr (xs:=a) (fun t ht=>h t (by simp[ht]))
  have e2:=rdOs_congr (xs:=b) (fun t ht=>h t (by simp[ht]))
  rw[List.map_congr_left e1,List.map_congr_left e2]
 case slc sz x lo hi mx =>
  simp only[List.mem_append]at h
  rw[rdO_congr (st:=st) (st':=st') (x:=x) fun t ht=>h t (.inl ht)]
  split
  ·rw[rdOo_congr (x:=lo) fun t ht=>h t (.inr (.inl ht)),rdOo_congr (x:=hi) fun t ht=>h t (.inr (.inr (.inl ht))),rdOo_congr (x:=mx) fun t ht=>h t (.inr (.inr (.inr ht)))]
  ·rfl
 case rsl sz x lo hi mx =>
  simp only[List.mem_append]at h
  have e1:∀ d,bnd st.ev d lo=bnd st'.ev d lo:=fun d=>rdOo_congr (x:=lo) fun t ht=>h t (.inr (.inl ht))
  have e2:∀ d,bnd st.ev d hi=bnd st'.ev d hi:=fun d=>rdOo_congr (x:=hi) fun t ht=>h t (.inr (.inr (.inl ht)))
  have e3:∀ d,bnd st.ev d mx=bnd st'.ev d mx:=fun d=>rdOo_congr (x:=mx) fun t ht=>h t (.inr (.inr (.inr ht)))
  rw[rdO_congr (st:=st) (st':=st') (x:=x) fun t ht=>h t (.inl ht)]
  simp only[e1,e2,e3]
 case slcs x lo hi =>
  simp only[List.mem_append]at h
  rw[rdO_congr (st:=st) (st':=st') (x:=x) fun t ht=>h t (.inl ht)]
  split
  ·rw[rdOo_congr (x:=lo) fun t ht=>h t (.inr (.inl ht)),rdOo_congr (x:=hi) fun t ht=>h t (.inr (.inr ht))]
  ·rfl
 case pk c x y =>
  simp only[List.mem_append]at h
  rw[rdO_congr (st:=st) (st':=st') (x:=c) fun t ht=>h t (.inl ht),rdO_congr (st:=st) (st':=st') (x:=x) fun t ht=>h t (.inr (.inl ht)),rdO_congr (st:=st) (st':=st') (x:=y) fun t ht=>h t (.inr (.inr ht))]
 case ia sz a x|ix a x|bi op a x|bib op a x|mx a x|mn a x|apt e sz a x|eqp ng a x|eqs ng n a x|eqf ng ks a x|sln a x|mlk q z ok a x =>
  simp only[List.mem_append]at h
  rw[rdO_congr (st:=st) (st':=st') (x:=a) fun t ht=>h t (.inl ht),rdO_congr (st:=st) (st':=st') (x:=x) fun t ht=>h t (.inr ht)]
 all_goals first
  | rfl
  | rw[rdO_congr (st:=st) (st':=st') h]
def OpV(P:Program):SOp->AS->AV->Prop
 | .op _ k,st,y=>ov st.ev st.H k=some y
 | .call _ c args,st,y=>∃ g first caps as,st.ev c=.fn (.func g) first caps/\WkL (first++args.map st.ev++caps) as/\pureL as=true/\PC P g as y
 | .callr _ _ _,_,_=>False
 | .callo _ _ _,_,_=>False
 | .wk _,_,_=>False
 | .gd g w _ o,st,y=>∃ q,gdW w (lk st.T g)=some q/\(q=true->OpV P o st y)/\(q=false->y=.tup [])
theorem OpV_congr{P:Program}{st st':AS}(hH:st.H=st'.H):∀ {so:SOp} {y:AV},(∀ t∈rdS so,lk st.T t=lk st'.T t)->OpV P so st y->OpV P so st' y
 | .op d k,y,h,hv=>by
  simp only[OpV,rdS]at h hv ⊢
  rw[<-ov_congr hH h];exact hv
 | .call d c args,y,h,hv=>by
  simp only[OpV,rdS,List.mem_append]at h hv ⊢
  obtain⟨g,first,caps,as,h1,h2,h3⟩:=hv
  refine⟨g,first,caps,as,?_,?_,h3⟩
  ·rw[<-rdO_congr (st:=st) (st':=st') (x:=c) fun t ht=>h t (.inl ht)];exact h1
  ·rw[<-List.map_congr_left (rdOs_congr (st:=st) (st':=st') (xs:=args) fun t ht=>h t (.inr ht))];exact h2
 | .callr _ _ _,y,h,hv=>hv.elim
 | .callo _ _ _,y,h,hv=>hv.elim
 | .wk _,y,h,hv=>hv.elim
 | .gd g w d o,y,h,hv=>by
  simp only[OpV,rdS,List.mem_cons]at h hv ⊢
  obtain⟨x,h1,h2,h3⟩:=hv
  exact⟨x,by rw[<-h g (.inl rfl)];exact h1,fun e=>OpV_congr hH (fun t ht=>h t (.inr ht)) (h2 e),h3⟩
def dEq:SOp->Bool
 | .gd _ _ d o=>d == dstS o && dEq o
 | _=>true
theorem wp1_opv{P:Program}:∀ {so:SOp} {st:AS} {Q:AS->Prop},quietS so=true->dEq so=true->wp1 P so st Q->∃ y,OpV P so st y/\Q (put st (dstS so) y)
 | .op d k,st,Q,hq,_,h=>by
  simp only[quietS]at hq
  simp only[wp1]at h
  have e:sv st d k=(ov st.ev st.H k).map (put st d):=by cases k<;>simp only[quietK,Bool.false_eq_true]at hq<;>rfl
  rw[e]at h
  cases hv:ov st.ev st.H k with
  | none=>rw[hv]at h;exact h.elim
  | some y=>rw[hv]at h;exact⟨y,hv,h⟩
 | .call d c args,st,Q,_,_,h=>by
  simp only[wp1]at h
  obtain⟨g,first,caps,as,y,h1,h2,h3,h4,h5⟩:=h
  exact⟨y,⟨g,first,caps,as,h1,h2,h3,h4⟩,h5⟩
 | .callr _ _ _,st,Q,hq,_,h=>by cases hq
 | .callo _ _ _,st,Q,hq,_,h=>by cases hq
 | .wk _,st,Q,hq,_,h=>by cases hq
 | .gd g w d o,st,Q,hq,hd,h=>by
  simp only[quietS]at hq
  simp only[dEq,Bool.and_eq_true,beq_iff_eq]at hd
  simp only[wp1]at h
  rcases h with⟨hx,h⟩|⟨hx,h⟩
  ·obtain⟨y,h1,h2⟩:=wp1_opv hq hd.2 h
   exact⟨y,⟨true,hx,⟨fun _=>h1,fun h=>(by cases h)⟩⟩,by rw[dstS,hd.1];exact h2⟩
  ·exact⟨.tup [],⟨false,hx,⟨fun h=>(by cases h),fun _=>rfl⟩⟩,h⟩
theorem opv_wp1{P:Program}:∀ {so:SOp} {st:AS} {y:AV},quietS so=true->dEq so=true->OpV P so st y->∀ {Q:AS->Prop},Q (put st (dstS so) y)->wp1 P so st Q
 | .op d k,st,y,hq,_,hv,Q,h=>by
  simp only[quietS]at hq
  simp only[OpV]at hv
  simp only[wp1]
  have e:sv st d k=(ov st.ev st.H k).map (put st d):=by cases k<;>simp only[quietK,Bool.false_eq_true]at hq<;>rfl
  rw[e,hv]
  exact h
 | .call d c args,st,y,_,_,hv,Q,h=>by
  obtain⟨g,first,caps,as,h1,h2,h3,h4⟩:=hv
  simp only[wp1]
  exact⟨g,first,caps,as,y,h1,h2,h3,h4,h⟩
 | .callr _ _ _,st,y,hq,_,hv,Q,h=>by cases hq
 | .callo _ _ _,st,y,hq,_,hv,Q,h=>by cases hq
 | .wk _,st,y,hq,_,hv,Q,h=>by cases hq
 | .gd g w d o,st,y,hq,hd,hv,Q,h=>by
  simp only[quietS]at hq
  simp only[dEq,Bool.and_eq_true,beq_iff_eq]at hd
  obtain⟨x,hx,h1,h2⟩:=hv
  simp only[wp1]
  cases x with
  | true=>exact .inl ⟨hx,opv_wp1 hq hd.2 (h1 rfl) (by rw[<-hd.1];exact h)⟩
  | false =>
   rw[h2 rfl]at h
   exact .inr ⟨hx,h⟩
end Go.Ab
