/- A part of the proof: AZ. -/
import Derived.Test.YtgkiahgcgjigkaaDoorAQ
import Derived.Test.YtgkiahgcgjigkaaDoorAY
import Derived.Test.YtgkiahgcgjigkaaDoorSpE
import Derived.Lib.FrozenHead
import Derived.Lib.Walk
import Derived.Lib.UnsafeStr
import Derived.WalkKit
import Derived.Laws.Externs
set_option linter.all false
set_option linter.all false
set_option maxRecDepth 100000
set_option maxHeartbeats 1000000
namespace Go.Ab.X
open Go.RowKit Go.Ab Go.Proofs
section
variable {U:Uni}
theorem Fn_sub{Y X:List (Nat×Nat×FnX U)}(hs:∀ v g f,lkX Y v g=some f->lkX X v g=some f):∀ n,LeE (Fn_ Y n) (Fn_ X n)
 | 0=>fun v g H a r h=>by cases h
 | n+1=>by
  intro v g H args r hr
  have ih:=Fn_sub hs n
  have h0:stepX X (Fn_ Y n) v g H args=some r:=by
   have hr:stepX Y (Fn_ Y n) v g H args=some r:=hr
   unfold stepX at hr ⊢
   cases hg:lkX Y v g with
   | none=>rw[hg]at hr;cases hr
   | some f=>rw[hg]at hr;rw[hs v g f hg];exact hr
  exact step_mono ih _ _ _ _ _ h0
theorem ans_sub{Y X:List (Nat×Nat×FnX U)}(hs:∀ v g f,lkX Y v g=some f->lkX X v g=some f){g:Nat}{rs:Sh U}{args:List (N U)}{r:Tup U (rs.ty [])}(h:ans Y g rs args=some r):ans X g rs args=some r:=by
 unfold ans dcR at h ⊢
 cases hf:Finf Y 0 g [] args with
 | none=>rw[hf]at h;cases h
 | some p =>
  obtain⟨n,hn⟩:=(Finf_lim Y).lim _ _ _ _ _ hf
  rw[(Finf_lim X).le n _ _ _ _ _ (Fn_sub hs n _ _ _ _ _ hn)]
  rw[hf]at h
  exact h
end
theorem lk_sub{U:Uni}{X:List (Nat×Nat×FnX U)}:∀(l:List (Nat×Nat×FnX U)),(∀ q∈l,lkX X q.1 q.2.1=some q.2.2)->∀ v g f,lkX l v g=some f->lkX X v g=some f
 | [],_,_,_,_,h=>by cases h
 | (w,k,x)::l,hq,v,g,f,h=>by
  simp only[lkX]at h
  cases hb:(Nat.beq g k && Nat.beq v w)<;>rw[hb]at h
  ·exact lk_sub l (fun q hm=>hq q (List.mem_cons_of_mem _ hm)) v g f h
  ·simp only[Bool.and_eq_true]at hb
   obtain rfl:=Nat.eq_of_beq_eq_true hb.1
   obtain rfl:=Nat.eq_of_beq_eq_true hb.2
   exact(hq _ List.mem_cons_self).trans h
theorem Y_sub:∀ v g (f:FnX G),lkX Y v g=some f->lkX X v g=some f:=lk_sub Y fun q hq=>by
 simp only[Y,List.mem_cons,List.not_mem_nil,or_false]at hq
 rcases hq with rfl|rfl|rfl|rfl|rfl|rfl|rfl<;>rfl
theorem Y_tab:tabB Tryd.prog Y=true:=by kernel_rfl
theorem Y_prims:primOk Tryd.prog Y:=⟨cf_pg,split_pg,itoa_pg,trivial⟩
theorem Y_its:itsOk Tryd.prog Y:=by
 unfold Y
 exact⟨trivial,trivial,trivial,trivial,trivial⟩
theorem Y_ok:TabOk Tryd.prog Y:=tab_ok Y_tab Y_prims Y_its
theorem formed_y(c:Scmd):y_formed c=some (fmB c):=by
 simp only[y_formed_eq,jn,y_formed.j1,fmB,num,Bool.cond_eq_ite]
 grind
theorem cf_y(s:ByteArray):y_CF s 23=some (oddB s):=by rw[y_CF_eq];rfl
theorem fine_y(s:ByteArray):y_fine s=some (fineB s):=by
 simp only[y_fine_eq,cf_y,fineB,Bool.cond_eq_ite,Option.bind_some]
 have:decide ((ByteArray.size s:Int)<=30)=decide (s.size<=30):=decide_eq_decide.2 (by omega)
 rw[this]
 grind
theorem itoa_y(n:Int):y_Itoa n=some (itoaB n):=by rw[y_Itoa_eq];rfl
def cutL(c:UInt8):List UInt8->List UInt8×List UInt8×Bool
 | []=>([],[],false)
 | b::l=>if b=c then([],l,true)else(b::(cutL c l).1,(cutL c l).2.1,(cutL c l).2.2)
theorem index_cut(c:UInt8):∀ l:List UInt8,Lib.index l [c]=if(cutL c l).2.2=true then((cutL c l).1.length:Int)else -1
 | []=>by simp[Lib.index,cutL]
 | b::l=>by
  unfold Lib.index cutL
  rw[index_cut c l]
  by_cases h:b=c
  ·subst h;simp[List.isPrefixOf]
  ·have h':¬ c=b:=fun e=>h e.symm
   simp only[List.isPrefixOf,Bool.and_true,beq_iff_eq,h',if_false,h]
   cases(cutL c l).2.2<;>simp<;>omega
theorem cutL_app(c:UInt8):∀ l:List UInt8,((cutL c l).2.2=true->l=(cutL c l).1++c::(cutL c l).2.1)/\((cutL c l).2.2=false->(cutL c l).1=l/\(cutL c l).2.1=[]/\l.count c=0)/\(cutL c l).1.count c=0
 | []=>by simp[cutL]
 | b::l=>by
  unfold cutL
  obtain⟨h1,h2,h3⟩:=cutL_app c l
  by_cases h:b=c
  ·simp[h]
  ·simp only[h,if_false]
   refine⟨fun e=>by rw[List.cons_append,<-h1 e],fun e=>?_,?_⟩
   ·obtain⟨e1,e2,e3⟩:=h2 e
    exact⟨by rw[e1],e2,by rw[List.count_cons_of_ne (by simpa using h)];exact e3⟩
   ·rw[List.count_cons_of_ne (by simpa using h)];exact h3
theorem app_take{c:UInt8}{A B l:List UInt8}(e:l=A++c::B):l.take A.length=A/\l.drop (A.length+1)=B:=by subst e;simp
theorem cut_cutL(c:UInt8)(l:List UInt8):Lib.cut l [c]=cutL c l:=by
 unfold Lib.cut
 rw[index_cut]
 obtain⟨h1,h2,_⟩:=cutL_app c l
 cases h:(cutL c l).2.2
 ·obtain⟨e1,e2,_⟩:=h2 h
  simp only[Bool.false_eq_true,if_false]
  rw[if_neg (by decide)]
  exact Prod.ext e1.symm (Prod.ext e2.symm h.symm)
 ·have e:=h1 h
  simp only[if_true]
  rw[if_pos (by omega)]
  refine Prod.ext ?_ (Prod.ext ?_ h.symm)
  ·rw[Int.toNat_natCast];exact(app_take e).1
  ·rw[Int.toNat_natCast];exact(app_take e).2
def splL(c:UInt8):List UInt8->List (List UInt8)
 | []=>[[]]
 | b::l=>if b=c then []::splL c l else match splL c l with
  | []=>[[b]]
  | w::ws=>(b::w)::ws
theorem splL_cut(c:UInt8):∀ l:List UInt8,splL c l=if(cutL c l).2.2=true then(cutL c l).1::splL c (cutL c l).2.1 else [l]
 | []=>by simp[splL,cutL]
 | b::l=>by
  conv=>lhs;unfold splL
  unfold cutL
  by_cases h:b=c
  ·simp[h]
  ·simp only[h,if_false]
   rw[splL_cut c l]
   cases(cutL c l).2.2<;>simp
theorem splitK_spl(c:UInt8):∀(k:Nat) (l:List UInt8),l.count c=k->Lib.splitK [c] 0 k l=splL c l:=by
 intro k
 induction k with
 | zero =>
  intro l hl
  rw[splL_cut]
  obtain⟨h1,h2,_⟩:=cutL_app c l
  cases h:(cutL c l).2.2
  ·simp[Lib.splitK]
  ·have:=h1 h;rw[this]at hl;simp at hl
 | succ k ih =>
  intro l hl
  rw[splL_cut]
  obtain⟨h1,h2,h3⟩:=cutL_app c l
  unfold Lib.splitK
  rw[index_cut]
  cases h:(cutL c l).2.2
  ·have:=(h2 h).2.2;omega
  ·have e:=h1 h
   have hc:(cutL c l).2.1.count c=k:=by
    have:=hl;rw[e,List.count_append,h3,List.count_cons_self]at this;omega
   simp only[if_true]
   rw[if_neg (by simp),Int.toNat_natCast,Nat.add_zero,List.length_cons,List.length_nil]
   congr 1
   ·exact(app_take e).1
   ·rw[<-ih _ hc];congr 1;exact(app_take e).2
theorem splB_one(c:UInt8)(s:ByteArray):(splB s ⟨#[c]⟩).map (·.data.toList)=splL c s.data.toList:=by
 unfold splB
 rw[Lib.splitB_data]
 exact splitK_spl c _ _ (Lib.count_one c _).symm
def wlit:List ByteArray:=[(⟨#[]⟩),(⟨#[110,117,109]⟩),(⟨#[110,97,109,101]⟩),(⟨#[110,105,108]⟩),(⟨#[97,112,112,101,110,100]⟩),(⟨#[116,121,112,101,118,97,114]⟩),(⟨#[116,121,112,101,111,112]⟩),(⟨#[118,97,114]⟩),(⟨#[99,111,110,115,116]⟩),(⟨#[99,111,109,98]⟩),(⟨#[108,97,109,98,100,97]⟩),(⟨#[114,101,102,108]⟩),(⟨#[98,101,116,97]⟩),(⟨#[97,115,115,117,109,101]⟩),(⟨#[116,114,97,110,115]⟩),(⟨#[109,107,99,111,109,98]⟩),(⟨#[101,113,109,112]⟩),(⟨#[100,101,100,117,99,116]⟩),(⟨#[97,98,115]⟩),(⟨#[105,110,115,116]⟩),(⟨#[105,110,115,116,116,121,112,101]⟩),(⟨#[110,101,119,116,121,112,101]⟩),(⟨#[110,101,119,99,111,110,115,116]⟩),(⟨#[97,120,105,111,109]⟩),(⟨#[100,101,102,105,110,101]⟩),(⟨#[100,101,102,116,121,112,101]⟩),(⟨#[100,101,102]⟩),(⟨#[114,101,102]⟩),(⟨#[112,111,112]⟩),(⟨#[115,97,118,101]⟩)]
theorem map_data:∀(l r:List ByteArray),l.map (·.data.toList)=r.map (·.data.toList)->l=r
 | [],[],_=>rfl
 | a::l,b::r,h=>by
  simp only[List.map_cons,List.cons.injEq]at h
  rw[map_data l r h.2,ByteArray.ext (Array.toList_inj.1 h.1)]
 | [],_::_,h=>by simp at h
 | _::_,[],h=>by simp at h
theorem words_lit:wordsL=wlit:=map_data _ _ ((splB_one 32 _).trans (by kernel_rfl))
theorem words_y:y_words=some wlit:=by
 rw[y_words_eq,y_Split_eq]
 have e:=words_lit
 unfold wordsL at e
 simp only[pSplit,e]
 rfl
theorem wlit_size:wlit.all (fun w=>Nat.ble w.size 8)=true:=by kernel_rfl
theorem ba_app_nil(a:ByteArray):a++(⟨#[]⟩:ByteArray)=a:=ByteArray.append_empty
theorem line_y(c:Scmd)(h0:0<=c.op)(h1:c.op<=29)(ht:c.text.size<=30)(n0 : -9223372036854775808<=c.n)(n1:c.n<=9223372036854775807):y_line c=some (lineB c):=by
 obtain⟨i,hi⟩:∃ i:Nat,c.op=(i:Int):=⟨c.op.toNat,by omega⟩
 have hlt:i<wlit.length:=by show i<30;omega
 have hw:=List.all_eq_true.1 wlit_size _ (List.getElem_mem hlt)
 have hw:=Nat.le_of_ble_eq_true hw
 have hlen:=Lib.itoa_length_le c.n n0 n1
 have hz:(itoaB c.n).size<=21:=by simp only[itoaB,ByteArray.size,List.size_toArray];exact hlen
 have s1:(⟨#[32]⟩:ByteArray).size=1:=rfl
 have s2:(⟨#[10]⟩:ByteArray).size=1:=rfl
 have hl:lineB c=wlit[i]++(bif num c then⟨#[32]⟩++itoaB c.n else bif decide (c.op=2)then⟨#[32]⟩++c.text else⟨#[]⟩)++⟨#[10]⟩:=by
  unfold lineB
  rw[words_lit,hi,Int.toNat_natCast,List.getD_eq_getElem?_getD,List.getElem?_eq_getElem hlt]
  rfl
 rw[y_line_eq,words_y,Option.bind_some,hi,ixL_nat,List.getElem?_eq_getElem hlt,Option.bind_some,hl]
 rw[<-hi]
 have key:∀ b:Bool,(jn (y_line.j1) fun kk1=>(jn (y_line.j2 c wlit[i] kk1) fun kk2=>kk2 b))=some (wlit[i]++(bif b then⟨#[32]⟩++itoaB c.n else bif decide (c.op=2)then⟨#[32]⟩++c.text else⟨#[]⟩)++⟨#[10]⟩):=by
  intro b
  simp only[jn,y_line.j2,y_line.j1,itoa_y,Option.bind_some]
  cases b
  ·by_cases h2:c.op=2
   ·simp only[h2,decide_true,cond_true,cond_false]
    rw[if_pos (by simp only[LIM];omega),if_pos (by simp only[ByteArray.size_append,LIM];omega),if_pos (by simp only[ByteArray.size_append,LIM];omega)]
   ·simp only[h2,decide_false,cond_false]
    rw[if_pos (by simp only[LIM];omega),ba_app_nil]
  ·simp only[cond_true]
   rw[if_pos (by simp only[LIM];omega),if_pos (by simp only[ByteArray.size_append,LIM];omega),if_pos (by simp only[ByteArray.size_append,LIM];omega)]
 unfold num
 by_cases e1:c.op=1
 ·have:=key true;simp only[e1,decide_true,cond_true,Bool.true_or]at this ⊢;exact this
 ·by_cases e2:c.op=26
  ·have:=key true;simp only[e1,e2,decide_true,decide_false,cond_true,cond_false,Bool.or_true,Bool.true_or]at this ⊢;exact this
  ·have:=key (decide (c.op=27));simp only[e1,e2,decide_false,cond_false,Bool.false_or]at this ⊢;exact this
end Go.Ab.X

set_option linter.all false
set_option maxRecDepth 100000
namespace Go.Ab.X
open Go.RowKit Go.Ab Go.Proofs
theorem szB:∃ j,Tryd.prog.info? 41=some j/\j.size=2:=by
 have h:(Tryd.prog.info? 41).map (·.size)=some 2:=by kernel_rfl
 exact Option.map_eq_some_iff.1 h
theorem liesB:liesAt Tryd.prog Tryd.prog.depth 41 (2 / Tryd.prog.cellsOf 41) 0 41 1=true:=by kernel_rfl
theorem check_used(b:Nat)(w:World)(h0:w.cell? ⟨b,0,none⟩=some (.pointer (some ⟨b,0,none⟩))) :
  Calls Tryd.prog 25 #[.pointer (some ⟨b,0,none⟩)] w fun e w'=>e=.returned (.tuple #[])/\w'=w:=by
 obtain⟨j,hj,_⟩:=szB
 go_enter Tryd.func25,Tryd.ntmps25
 go_wp2
 rw[Lib.run_neq_ptr_same w _ Tryd.underlying38 hj]
 go_wp2
 go_end0
 exact⟨rfl,rfl⟩
theorem check_fresh(b:Nat)(w:World)(h0:w.cell? ⟨b,0,none⟩=some (.pointer none))(hsh:w.shape? b=some (41,2))(hfz:w.frozen? ⟨b,0,none⟩=false) :
  Calls Tryd.prog 25 #[.pointer (some ⟨b,0,none⟩)] w fun e w'=>e=.returned (.tuple #[])/\w'=w.setCell ⟨b,0,none⟩ (.pointer (some ⟨b,0,none⟩)):=by
 obtain⟨j,hj,hjs⟩:=szB
 go_enter Tryd.func25,Tryd.ntmps25
 go_wp2
 rw[Lib.run_to_unsafe w ⟨b,0,none⟩ Tryd.underlying38 Tryd.underlying65 hj (by rw[hjs];decide) hsh (Nat.zero_lt_succ 1)]
 simp only[Result.andThen]
 rw[Oper.upon_value]
 go_wp2
 rw[run_callFunc_extern Tryd.func35 (by kernel_rfl) (by kernel_rfl) (by kernel_rfl) (e:=Extern.AbiNoEscape.same) (by kernel_rfl),Lib.run_noEscape]
 simp only[Result.andThen]
 rw[Oper.upon_value]
 go_wp2
 rw[Lib.run_from_unsafe w ⟨b,0,none⟩ Tryd.underlying65 Tryd.underlying38 hj hsh liesB]
 simp only[Result.andThen]
 rw[Oper.upon_value]
 go_wp2
 go_end0
 exact⟨rfl,rfl⟩
theorem check_w(B b:Nat)(bs:List Value)(w:World)(h:Lib.IsBuilderF 41 5 B b bs w) :
  Calls Tryd.prog 25 #[.pointer (some ⟨b,0,none⟩)] w fun e w'=>e=.returned (.tuple #[])/\(Lib.BuilderAtF 41 5 B b (.pointer (some ⟨b,0,none⟩)) bs w'/\Below B w w'):=by
 rcases h with h|h
 ·refine(check_fresh b w h.cell0 h.shape h.frozen0).mono ?_
  rintro e w' ⟨rfl,rfl⟩
  exact⟨rfl,h.used _,(Below.refl B w).setCell (p:=⟨b,0,none⟩) h.1 _⟩
 ·refine(check_used b w h.cell0).mono ?_
  rintro e w' ⟨rfl,rfl⟩
  exact⟨rfl,h,Below.refl B _⟩
theorem byteI:∃ i,Tryd.prog.info? 5=some i/\i.zero=some (.int .u8 0)/\i.size=1/\i.bytes=1:=by
 have h:(Tryd.prog.info? 5).map (fun i=>(i.zero,i.size,i.bytes))=some (some (.int .u8 0),1,1):=by kernel_rfl
 obtain⟨i,h1,h2⟩:=Option.map_eq_some_iff.1 h
 simp only[Prod.mk.injEq]at h2
 exact⟨i,h1,h2.1,h2.2.1,h2.2.2⟩
set_option maxHeartbeats 1000000 in
theorem write_w(B b:Nat)(bs:List Value)(s:ByteArray)(w:World)(h:Lib.IsBuilderF 41 5 B b bs w)(hlen:bs.length+s.size<=140737488355328)(hBw:B<=w.heap.size) :
  Calls Tryd.prog 13 #[.pointer (some ⟨b,0,none⟩),.string s] w fun e w'=>e=.returned (.tuple #[.int .i64 s.size,.nilIface])/\(Lib.BuilderAtF 41 5 B b (.pointer (some ⟨b,0,none⟩)) (bs++Lib.strCells s) w'/\Below B w w'):=by
 obtain⟨i0,hi,hz0,hz1,hz2⟩:=byteI
 have mixed:Tryd.prog.follows Departure.mixedOrders=true:=by kernel_rfl
 go_enter Tryd.func13,Tryd.ntmps13
 go_wp2_with (go_at_call 25;refine(check_w B b bs _ h).mono ?_)
 rintro e w1 ⟨rfl,h1,hb1⟩
 obtain⟨hB,v,hbk,hown,hne⟩:=h1
 have c0:w1.cell? ⟨b,0,none⟩=some (.pointer (some ⟨b,0,none⟩)):=by rw[Lib.cell_of_heap hbk];rfl
 have c1:w1.cell? ⟨b,1,none⟩=some v:=by rw[Lib.cell_of_heap hbk];rfl
 go_wp2_with (at_builtin;refine Lib.wpList_append_own_stringF _ rfl _ _ 39 9 rfl B 5 i0 Tryd.underlying39 Tryd.underlying9 hi hz0 hz1 hz2 _ _ _ rfl hown s rfl ?c3 ?c4 ?c5 ?_)
 case c3=>unfold maxLen;omega
 case c4=>omega
 case c5=>have:=hb1.size;omega
 intro v' w2 hown' hgrow _
 have hlt:b<w1.heap.size:=(Array.getElem?_eq_some_iff.1 hbk).1
 have hb2:w2.heap[b]? = some (.cells #[.pointer (some ⟨b,0,none⟩),v] 41 (0,0)):=(hgrow.block b hlt (fun e=>hne e.symm)).trans hbk
 have d0:w2.cell? ⟨b,0,none⟩=some (.pointer (some ⟨b,0,none⟩)):=by rw[Lib.cell_of_heap hb2];rfl
 have d1:w2.cell? ⟨b,1,none⟩=some v:=by rw[Lib.cell_of_heap hb2];rfl
 have f1:w2.frozen? ⟨b,1,none⟩=false:=Lib.frozen_of_heap hb2 1
 obtain⟨ao,n',cap,rfl⟩:∃ ao n' cap,v'=.slice ao n' cap:=by
  rcases hown'.2 with⟨hv,_⟩|⟨g,cap,cur,fz,hv,_⟩
  ·exact⟨_,_,_,hv⟩
  ·exact⟨_,_,_,hv⟩
 go_wp2
 go_ret2
 refine⟨rfl,?_,?_⟩
 ·exact Lib.BuilderAtF.put (T:=41) (e:=5) hB hb2 (bs':=bs++Lib.strCells s) (by simpa [Lib.strCells_length] using hown') (by decide)
 ·exact(hb1.grown hgrow (by have:=hb1.size;omega) (fun k hk=>(hown.lt k hk).1)).setCell (p:=⟨b,1,none⟩) hB _
theorem keepB{T e:TypeId}{B b:Nat}{p:Value}{bs:List Value}{w w':World}(h:Lib.BuilderAtF T e B b p bs w)(hb:Below w.heap.size w w'):Lib.BuilderAtF T e B b p bs w':=by
 have hlt:=h.lt
 obtain⟨hB,v,hbk,hown,hne⟩:=h
 refine⟨hB,v,(hb.block b hlt).trans hbk,hown.kept (row:=none) ⟨hb.os,hb.tape,hb.output,hb.size,fun k hk _=>hb.block k hk⟩ ?_,hne⟩
 cases v.ownBlock with
 | none=>exact .inl rfl
 | some _=>exact .inr (by simp)
theorem keepI{T e:TypeId}{B b:Nat}{bs:List Value}{w w':World}(h:Lib.IsBuilderF T e B b bs w)(hb:Below w.heap.size w w'):Lib.IsBuilderF T e B b bs w':=h.elim (fun h=>.inl (keepB h hb)) fun h=>.inr (keepB h hb)
end Go.Ab.X
