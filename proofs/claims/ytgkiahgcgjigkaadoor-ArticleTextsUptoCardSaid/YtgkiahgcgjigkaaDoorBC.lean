/- A part of the proof: BC. -/
import Derived.Test.YtgkiahgcgjigkaaDoorBA
import Derived.Test.YtgkiahgcgjigkaaDoorAT
import Derived.Test.YtgkiahgcgjigkaaDoorUT
import Derived.Test.YtgkiahgcgjigkaaDoorSpC
import Derived.Laws.RangeAny
set_option linter.all false
set_option linter.all false
set_option maxRecDepth 100000
set_option maxHeartbeats 1000000
namespace Go.Ab.X
open Go.RowKit Go.Ab Go.Proofs
theorem catB_size:∀(l:List Scmd) (b:ByteArray) (r:ByteArray),b.size<=65536->catB l b=some r->r.size<=65536
 | [],b,r,hb,h=>by simp only[catB,Option.some.injEq]at h;rw[<-h];exact hb
 | c::l,b,r,hb,h=>by
  unfold catB at h
  cases hd:decide (65536<(b++lineB c).size)<;>rw[hd]at h
  ·exact catB_size l _ r (by simpa using hd) h
  ·cases h
theorem textB_rng(l:List Scmd):(textB l).1.size<=LIM/\0<=(textB l).2/\(textB l).2<=4:=by
 have z:(⟨#[]⟩:ByteArray).size<=LIM:=Nat.zero_le _
 unfold textB
 cases l.any badB
 ·simp only[cond_false]
  cases h:catB l ⟨#[]⟩with
  | none=>exact⟨z,(by decide:(0:Int)<=4),(by decide:(4:Int)<=4)⟩
  | some b =>
   have:=catB_size _ _ _ (Nat.zero_le _) h
   exact⟨by simp only[LIM];omega,(by decide:(0:Int)<=0),(by decide:(0:Int)<=4)⟩
 ·exact⟨z,(by decide:(0:Int)<=2),(by decide:(2:Int)<=4)⟩
theorem text_pg:PgOk pText 6:=by
 intro H args Ho y h hnp B β
 unfold pText at h
 split at h
 ·rename_i l
  obtain⟨rfl,rfl⟩:Ho=[]/\y=.tup [.v .str (textB l).1,.v .int (textB l).2]:=by cases h;exact⟨rfl,rfl⟩
  refine⟨fun _ _=>by kernel_rfl,fun I θ w vals S hv=>?_⟩
  have hv:RVs I θ w [.sl false 3 (l.map C_cmd)] vals:=hv
  simp only[RVs]at hv
  obtain⟨v,r,rfl,hv2,rfl⟩:=hv
  refine(text_w I θ w l v S.below.w hv2).mono ?_
  rintro e w' ⟨rfl,hb⟩
  obtain⟨S',_⟩:=S.called hb
  refine⟨_,_,θ,rfl,S',?_⟩
  show RV _ θ _ (.tup [.s (textB l).1,.i .i64 (textB l).2]) _
  obtain⟨h1,h2,h3⟩:=textB_rng l
  simp only[RV,RVs]
  refine⟨[_,_],rfl,_,_,rfl,⟨rfl,h1⟩,_,_,rfl,⟨rfl,?_⟩,rfl⟩
  simp[IntKind.min,IntKind.max,IntKind.signed,IntKind.bits];omega
 ·cases h
theorem X_prims:primOk Tryd.prog X:=⟨cf_pg,split_pg,itoa_pg,text_pg,cut_pg,atoi_pg,trivial⟩
theorem X_its:itsOk Tryd.prog X:=by
 unfold X
 repeat' constructor
theorem X_ok:TabOk Tryd.prog X:=tab_ok X_tab X_prims X_its
section
variable {S R:Type} {step:S->(S->Option R)->Option R}
def LT(step:S->(S->Option R)->Option R)(s:S)(r:Option R):Prop:=∃ n,∀ m,n<=m->loopF step m s=r
theorem LT.last{s:S}{r:Option R}(h:∀ next,step s next=r):LT step s r:=⟨1,fun m hm=>by
 cases m with
 | zero=>omega
 | succ m=>exact h _⟩
theorem LT.next{s s':S}{r:Option R}(h:∀ next,step s next=next s')(h':LT step s' r):LT step s r:=by
 obtain⟨n,hn⟩:=h'
 exact⟨n+1,fun m hm=>by
  cases m with
  | zero=>omega
  | succ m=>exact(h _).trans (hn m (by omega))⟩
theorem LT.eq{s:S}{r:Option R}(h:LT step s r):loopN step s=r:=loopN_of h
theorem LT.inv{α T:Type}(l:List α)(mk:Nat->T->S)(P:Nat->T->Prop){r:Option R}
  (h1:∀ i a t,l[i]? = some a->P i t->(∃ t',(∀ next,step (mk i t) next=next (mk (i+1) t'))/\P (i+1) t')\/(∀ next,step (mk i t) next=r))
  (h2:∀ t,P l.length t->∀ next,step (mk l.length t) next=r) {t0:T} (h0:P 0 t0):loopN step (mk 0 t0)=r:=by
 refine LT.eq ?_
 have key:∀(k i:Nat) (t:T),i+k=l.length->P i t->LT step (mk i t) r:=by
  intro k
  induction k with
  | zero =>
   intro i t hi hp
   have hh:i=l.length:=by omega
   subst hh
   exact .last (h2 t hp)
  | succ k ih =>
   intro i t hi hp
   obtain⟨a,ha⟩:∃ a,l[i]? = some a:=⟨_,List.getElem?_eq_getElem (show i<l.length by omega)⟩
   rcases h1 i a t ha hp with⟨t',e,hp'⟩|e
   ·exact .next e (ih (i+1) t' (by omega) hp')
   ·exact .last e
 exact key l.length 0 t0 (by omega) h0
end
theorem dlt{α:Type}{l:List α}{i:Nat}{a:α}(h:l[i]? = some a):decide ((i:Int)<(List.length l:Int))=true:=by
 have:=(List.getElem?_eq_some_iff.1 h).1
 simp;omega
theorem dle{α:Type}{l:List α}:decide (((l.length:Nat):Int)<(List.length l:Int))=false:=by simp
theorem inc_nat(i:Nat):((i:Int)+1)=((i+1:Nat):Int):=by omega
theorem line_x(c:Scmd)(h0:0<=c.op)(h1:c.op<=29)(ht:c.text.size<=30)(n0 : -9223372036854775808<=c.n)(n1:c.n<=9223372036854775807):article_line c=some (lineB c):=ans_sub Y_sub (line_y c h0 h1 ht n0 n1)
theorem fine_x(s:ByteArray):article_fine s=some (fineB s):=ans_sub Y_sub (fine_y s)
theorem words_x:article_words=some wlit:=ans_sub Y_sub words_y
theorem text_x(l:List Scmd):article_Text l=some (textB l):=by rw[article_Text_eq];rfl
theorem cut_x(s p:ByteArray):strings_Cut s p=some (cutB s p):=by rw[strings_Cut_eq];rfl
theorem atoi_x(s:ByteArray):strconv_Atoi s=some (atoiB s):=by rw[strconv_Atoi_eq];rfl
theorem formed_r(c:Scmd):ref32_Formed c=some (fmB c):=by
 simp only[ref32_Formed_eq,jn,ref32_Formed.j1,fmB,num,Bool.cond_eq_ite]
 grind
theorem rwords_x:ref32_words=some wlit:=by rw[ref32_words_eq];rfl
def oddC(b:UInt8):Bool:=odd b.toNat
theorem idx_odd(s:ByteArray):∀(f pos:Nat),s.size<=pos+f->decide (0<=Lib.idxFuncFrom odd true s f pos)=(s.data.toList.drop pos).any oddC:=by
 intro f
 induction f with
 | zero =>
  intro pos h
  have:s.data.toList.drop pos=[]:=List.drop_eq_nil_iff.2 (by rw[Array.length_toList];exact h)
  rw[this];rfl
 | succ f ih =>
  intro pos h
  unfold Lib.idxFuncFrom
  by_cases hp:pos<s.size
  ·rw[if_pos hp]
   have hl:pos<s.data.toList.length:=by rw[Array.length_toList];exact hp
   have hd:s.data.toList.drop pos=s[pos]::s.data.toList.drop (pos+1):=by
    rw[List.drop_eq_getElem_cons hl,Array.getElem_toList];rfl
   rw[hd,List.any_cons]
   by_cases hb:(s[pos]'hp).toNat<128
   ·rw[decode_ascii s pos hp hb]
    unfold oddC at ih ⊢
    cases ho:odd (s[pos]'hp).toNat
    ·simp only[Bool.false_eq_true,if_false,Bool.false_or]
     exact ih (pos+1) (by omega)
    ·simp
   ·obtain⟨d1,_⟩:=decode_high s pos hp (by omega)
    have e1:odd (Utf8.decode s pos).1=true:=by simp[odd];omega
    have e2:oddC s[pos]=true:=by simp[oddC,odd];omega
    rw[if_pos e1,e2];simp
  ·rw[if_neg hp]
   have:s.data.toList.drop pos=[]:=List.drop_eq_nil_iff.2 (by rw[Array.length_toList];exact Nat.le_of_not_lt hp)
   rw[this];rfl
theorem oddB_any(s:ByteArray):oddB s=s.data.toList.any oddC:=by
 unfold oddB Lib.idxFunc
 rw[idx_odd s s.size 0 (by omega)];rfl
theorem ixS_at{s:ByteArray}{i:Nat}{b:UInt8}(h:s.data.toList[i]? = some b):ixS s (i:Int)=some (b.toNat:Int):=by
 rw[ixS_nat]
 rw[Array.getElem?_toList]at h
 rw[h];rfl
theorem size_len(s:ByteArray):(ByteArray.size s:Int)=(List.length s.data.toList:Int):=by rw[Array.length_toList];rfl
theorem fine_r(s:ByteArray):ref32_Fine s=some (fineB s):=by
 rw[ref32_Fine_eq]
 refine LT.inv (T:=Unit) s.data.toList (fun i _=>(i:Int)) (fun i _=>s.data.toList.any oddC=(s.data.toList.drop i).any oddC) ?_ ?_ (t0:=()) rfl
 ·intro i b _ hb hp
  have hlt:=(List.getElem?_eq_some_iff.1 hb).1
  rw[List.drop_eq_getElem_cons hlt,(List.getElem?_eq_some_iff.1 hb).2,List.any_cons]at hp
  have e1:decide ((b.toNat:Int)<33)=decide (b.toNat<33):=decide_eq_decide.2 (by omega)
  have e2:decide ((126:Int)<b.toNat)=decide (126<b.toNat):=decide_eq_decide.2 (by omega)
  simp only[ref32_Fine.s1,size_len,dlt hb,cond_true,jn,ref32_Fine.j2,ixS_at hb,Option.bind_some,e1,e2]
  cases ho:oddC b
  ·refine .inl ⟨(),fun next=>?_,?_⟩
   ·simp only[oddC,odd,Bool.or_eq_false_iff]at ho
    simp only[ho.1,ho.2,cond_false,inc_nat]
   ·rw[hp,ho,Bool.false_or]
  ·refine .inr fun next=>?_
   rw[ho,Bool.true_or]at hp
   have:fineB s=false:=by simp[fineB,oddB_any,hp]
   rw[this]
   simp only[oddC,odd,Bool.or_eq_true]at ho
   rcases ho with ho|ho
   ·simp only[ho,cond_true]
   ·simp only[ho];cases decide (b.toNat<33)<;>rfl
 ·intro _ hp next
  have hd:decide ((s.data.toList.length:Int)<(ByteArray.size s:Int))=false:=by rw[size_len];simp
  simp only[ref32_Fine.s1,hd,cond_false]
  rw[List.drop_length]at hp
  simp only[fineB,oddB_any,hp,List.any_nil,Bool.not_false,Bool.and_true]
  by_cases h0:s.size=0
  ·have:s=⟨#[]⟩:=by
    obtain⟨⟨l⟩⟩:=s
    have:l=[]:=List.eq_nil_of_length_eq_zero h0
    rw[this]
   subst this;rfl
  ·have:s≠⟨#[]⟩:=fun e=>h0 (by rw[e];rfl)
   have e1:decide ((0:Int)<(ByteArray.size s:Int))=true:=by simp;omega
   have e2:decide ((ByteArray.size s:Int)<=30)=decide (s.size<=30):=decide_eq_decide.2 (by omega)
   rw[e1,e2]
   simp[this]
end Go.Ab.X

set_option linter.all false
set_option maxRecDepth 100000
set_option maxHeartbeats 1000000
namespace Go.Ab.X
open Go.RowKit Go.Ab Go.Proofs
theorem wr64{n:Int}(h1 : -9223372036854775808<=n)(h2:n<=9223372036854775807):IntKind.i64.wrap n=n:=by
 simp[IntKind.wrap,IntKind.signed,IntKind.bits];omega
theorem wr8{n:Int}(h1:0<=n)(h2:n<=255):IntKind.u8.wrap n=n:=by
 simp[IntKind.wrap,IntKind.signed,IntKind.bits];omega
theorem bytesS_one{n:Nat}:bytesS [(n:Int)]=⟨#[UInt8.ofNat n]⟩:=by
 simp[bytesS]
theorem digit_of{u:Nat}(h:u<=9):bytesS [IntKind.u8.wrap (IntKind.i64.wrap (48+(u:Int)))]=⟨#[UInt8.ofNat (48+u)]⟩:=by
 rw[wr64 (by omega) (by omega),wr8 (by omega) (by omega),show(48+(u:Int))=((48+u:Nat):Int) by omega,bytesS_one]
theorem dec_lt:∀(k u:Nat) (a:ByteArray),u<k->u<=9223372036854775807->a.size+Lib.nDigits u<=20->LT ref32_Decimal.s1 ((u:Int),a) (some (⟨(Lib.decDigits u).toArray⟩++a)):=by
 intro k
 induction k with
 | zero=>intro u a h;omega
 | succ k ih =>
  intro u a hk hu hs
  by_cases h:u<10
  ·refine .last fun next=>?_
   have e1:decide ((10:Int)<=u)=false:=by simp;omega
   have e2:(⟨#[UInt8.ofNat (48+u)]⟩:ByteArray).size=1:=rfl
   rw[Lib.nDigits_small h]at hs
   simp only[ref32_Decimal.s1,e1,cond_false,digit_of (show u<=9 by omega),e2]
   rw[if_pos (by simp only[LIM];omega),Lib.decDigits_one h]
  ·have e1:decide ((10:Int)<=u)=true:=by simp;omega
   have e3:Int.tmod (u:Int) 10=((u % 10:Nat):Int):=by rw[Int.tmod_eq_emod_of_nonneg (by omega)];omega
   have e4:Int.tdiv (u:Int) 10=((u / 10:Nat):Int):=by rw[Int.tdiv_eq_ediv_of_nonneg (by omega)];omega
   have e2:(⟨#[UInt8.ofNat (48+u % 10)]⟩:ByteArray).size=1:=rfl
   rw[Lib.nDigits_big h]at hs
   refine .next (s':=(((u / 10:Nat):Int),(⟨#[UInt8.ofNat (48+u % 10)]⟩:ByteArray)++a)) (fun next=>?_) ?_
   ·simp only[ref32_Decimal.s1,e1,cond_true,e3,e4,digit_of (show u % 10<=9 by omega),e2]
    rw[if_neg (by decide),if_pos (by simp only[LIM];omega),if_neg (by decide),wr64 (by omega) (by omega)]
   ·have:=ih (u / 10) ((⟨#[UInt8.ofNat (48+u % 10)]⟩:ByteArray)++a) (by omega) (by omega) (by rw[ByteArray.size_append,e2];omega)
    rw[show Lib.decDigits u=Lib.decDigits (u / 10)++[UInt8.ofNat (48+u % 10)] by rw[Lib.decDigits];rw[dif_neg h]]
    have e:(⟨(Lib.decDigits (u / 10)++[UInt8.ofNat (48+u % 10)]).toArray⟩:ByteArray)++a=⟨(Lib.decDigits (u / 10)).toArray⟩++((⟨#[UInt8.ofNat (48+u % 10)]⟩:ByteArray)++a):=by
     apply ByteArray.ext;simp
    rw[e];exact this
theorem dec_pos{u:Nat}(h:u<=9223372036854775807):ref32_Decimal (u:Int)=some ⟨(Lib.decDigits u).toArray⟩:=by
 have e1:decide ((u:Int)<0)=false:=by simp
 rw[ref32_Decimal_eq,e1,cond_false]
 have:=(dec_lt (u+1) u ⟨#[]⟩ (by omega) h (by have:=Lib.nDigits_le20 u (by omega);show 0+_<=20;omega)).eq
 rw[this,ba_app_nil]
theorem dec_min:Lib.decDigits 9223372036854775808=[57,50,50,51,51,55,50,48,51,54,56,53,52,55,55,53,56,48,56]:=by
 simp[Lib.decDigits]
theorem dec_x{n:Int}(n0 : -9223372036854775808<=n)(n1:n<=9223372036854775807):ref32_Decimal n=some (itoaB n):=by
 by_cases h:n<0
 ·rw[ref32_Decimal_eq]
  simp only[h,decide_true,cond_true]
  by_cases hm:n = -9223372036854775808
  ·subst hm
   simp only[decide_true,cond_true,itoaB,Lib.itoa]
   rw[if_pos h,show Int.natAbs (-9223372036854775808)=9223372036854775808 from rfl,dec_min]
  ·simp only[hm,decide_false,cond_false]
   have e:IntKind.i64.wrap (0-n)=((n.natAbs:Nat):Int):=by rw[wr64 (by omega) (by omega)];omega
   rw[e,dec_pos (by omega),Option.bind_some]
   have s1:(⟨#[45]⟩:ByteArray).size=1:=rfl
   have s2:(⟨(Lib.decDigits n.natAbs).toArray⟩:ByteArray).size=(Lib.decDigits n.natAbs).length:=by simp[ByteArray.size]
   have s3:=Lib.nDigits_le20 n.natAbs (by omega)
   rw[<-Lib.decDigits_length]at s3
   rw[if_pos (by rw[s1,s2];simp only[LIM];omega)]
   simp only[itoaB,Lib.itoa]
   rw[if_pos h]
   congr 1
 ·obtain⟨u,rfl⟩:∃ u:Nat,n=(u:Int):=⟨n.toNat,by omega⟩
  rw[dec_pos (by omega)]
  simp only[itoaB,Lib.itoa]
  rw[if_neg h];rfl
theorem itoaB_size{n:Int}(n0 : -9223372036854775808<=n)(n1:n<=9223372036854775807):(itoaB n).size<=21:=by
 have hlen:=Lib.itoa_length_le n n0 n1
 simp only[itoaB,ByteArray.size,List.size_toArray];exact hlen
theorem word_at{c:Scmd}(h0:0<=c.op)(h1:c.op<=29):∃ w,ixL wlit c.op=some w/\w.size<=8/\lineB c=w++(bif num c then⟨#[32]⟩++itoaB c.n else bif decide (c.op=2)then⟨#[32]⟩++c.text else⟨#[]⟩)++⟨#[10]⟩:=by
 obtain⟨i,hi⟩:∃ i:Nat,c.op=(i:Int):=⟨c.op.toNat,by omega⟩
 have hlt:i<wlit.length:=by show i<30;omega
 have hw:=List.all_eq_true.1 wlit_size _ (List.getElem_mem hlt)
 refine⟨wlit[i],?_,Nat.le_of_ble_eq_true hw,?_⟩
 ·rw[hi,ixL_nat,List.getElem?_eq_getElem hlt]
 ·unfold lineB
  rw[words_lit,hi,Int.toNat_natCast,List.getD_eq_getElem?_getD,List.getElem?_eq_getElem hlt]
  rfl
theorem line_r{c:Scmd}(h:CmdR c)(hg:badB c=false):ref32_Line c=some (lineB c):=by
 obtain⟨hf,ht⟩:=good_text hg
 obtain⟨w,hw,hz,hl⟩:=word_at h.op0 (fmB_op hf)
 have hi:=itoaB_size h.n0 h.n1
 have s1:(⟨#[32]⟩:ByteArray).size=1:=rfl
 have s2:(⟨#[10]⟩:ByteArray).size=1:=rfl
 rw[ref32_Line_eq,rwords_x,Option.bind_some,hw,Option.bind_some,hl]
 have key:∀ b:Bool,(jn (ref32_Line.j1 c) fun kk1=>(jn (ref32_Line.j3 w c kk1) fun kk3=>kk3 (num c)))=some (w++(bif num c then⟨#[32]⟩++itoaB c.n else bif decide (c.op=2)then⟨#[32]⟩++c.text else⟨#[]⟩)++⟨#[10]⟩):=by
  intro _
  simp only[jn,ref32_Line.j1,ref32_Line.j2,ref32_Line.j3,dec_x h.n0 h.n1,Option.bind_some]
  cases hn:num c
  ·by_cases h2:c.op=2
   ·simp only[h2,decide_true,cond_true,cond_false]
    rw[if_pos (by simp only[LIM];omega),if_pos (by simp only[ByteArray.size_append,LIM];omega),if_pos (by simp only[ByteArray.size_append,LIM];omega)]
    simp only[ByteArray.append_assoc]
   ·simp only[h2,decide_false,cond_false]
    rw[if_pos (by simp only[LIM];omega),ba_app_nil]
  ·have h2:¬ c.op=2:=by
    intro e;simp[num,e]at hn
   simp only[cond_true,h2,decide_false,cond_false]
   rw[if_pos (by simp only[LIM];omega),if_pos (by simp only[ByteArray.size_append,LIM];omega),if_pos (by simp only[ByteArray.size_append,LIM];omega)]
   simp only[ByteArray.append_assoc]
 have key:=key true
 unfold num at key ⊢
 by_cases e1:c.op=1
 ·simp only[e1,decide_true,cond_true,Bool.true_or]at key ⊢;exact key
 ·by_cases e2:c.op=26
  ·simp only[e1,e2,decide_true,decide_false,cond_true,cond_false,Bool.or_true,Bool.true_or]at key ⊢;exact key
  ·simp only[e1,e2,decide_false,cond_false,Bool.false_or]at key ⊢;exact key
theorem lineB_size{c:Scmd}(h:CmdR c)(hg:badB c=false):(lineB c).size<=48:=by
 obtain⟨hf,ht⟩:=good_text hg
 obtain⟨w,hw,hz,hl⟩:=word_at h.op0 (fmB_op hf)
 have hi:=itoaB_size h.n0 h.n1
 have s1:(⟨#[32]⟩:ByteArray).size=1:=rfl
 have s2:(⟨#[10]⟩:ByteArray).size=1:=rfl
 have s0:(⟨#[]⟩:ByteArray).size=0:=rfl
 rw[hl]
 cases num c
 ·cases decide (c.op=2)
  ·simp only[cond_false,ByteArray.size_append];omega
  ·simp only[cond_false,cond_true,ByteArray.size_append];omega
 ·simp only[cond_true,ByteArray.size_append];omega
theorem text_r(l:List Scmd)(hR:∀ c∈l,CmdR c):ref32_Text l=some (textB l):=by
 rw[ref32_Text_eq]
 refine LT.inv (T:=Unit) l (fun i _=>(i:Int)) (fun i _=>l.any badB=(l.drop i).any badB) ?_ ?_ (t0:=()) rfl
 ·intro i c _ hc hp
  have hlt:=(List.getElem?_eq_some_iff.1 hc).1
  rw[List.drop_eq_getElem_cons hlt,(List.getElem?_eq_some_iff.1 hc).2,List.any_cons]at hp
  simp only[ref32_Text.s1,dlt hc,cond_true,jn,ref32_Text.j2,ixL_nat,hc,Option.bind_some,formed_r,fine_r,inc_nat]
  cases hb:badB c
  ·refine .inl ⟨(),fun next=>?_,by rw[hp,hb,Bool.false_or]⟩
   simp only[badB,Bool.or_eq_false_iff,Bool.not_eq_false']at hb
   simp only[hb.1,Bool.not_true,cond_false]
   by_cases h2:c.op=2
   ·simp only[h2,decide_true,Bool.true_and,Bool.not_eq_false']at hb
    simp only[h2,decide_true,cond_true,hb.2,Bool.not_true,cond_false]
   ·simp only[h2,decide_false,cond_false]
  ·refine .inr fun next=>?_
   rw[hb,Bool.true_or]at hp
   unfold textB
   rw[hp,cond_true]
   simp only[badB,Bool.or_eq_true,Bool.not_eq_true',Bool.and_eq_true,decide_eq_true_eq]at hb
   cases hf:fmB c
   ·simp only[Bool.not_false,cond_true]
   ·rcases hb with hb|⟨h2,hb⟩
    ·rw[hf]at hb;cases hb
    ·simp only[Bool.not_true,cond_false,h2,decide_true,cond_true,hb,Bool.not_false]
 ·intro _ hp next
  simp only[ref32_Text.s1,dle,cond_false]
  rw[List.drop_length,List.any_nil]at hp
  have hbad:∀ c∈l,badB c=false:=fun c hc=>by
   have:=List.any_eq_false.1 hp c hc;simpa using this
  have ht:textB l=match catB l ⟨#[]⟩with|none=>(⟨#[]⟩,4)|some b=>(b,0):=by unfold textB;rw[hp];rfl
  refine LT.inv (T:=ByteArray) l (fun i s=>(s,(i:Int))) (fun i s=>catB l ⟨#[]⟩=catB (l.drop i) s/\s.size<=65536) ?_ ?_ (t0:=⟨#[]⟩) ⟨rfl,Nat.zero_le _⟩
  ·intro i c s hc hq
   obtain⟨hq,hs⟩:=hq
   have hm:=List.mem_of_getElem? hc
   have hlt:=(List.getElem?_eq_some_iff.1 hc).1
   rw[List.drop_eq_getElem_cons hlt,(List.getElem?_eq_some_iff.1 hc).2,catB]at hq
   have hz:=lineB_size (hR c hm) (hbad c hm)
   simp only[ref32_Text.s3,dlt hc,cond_true,ixL_nat,hc,Option.bind_some,line_r (hR c hm) (hbad c hm),inc_nat]
   have hle:s.size+(lineB c).size<=LIM:=by simp only[LIM];omega
   have ez:decide ((65536:Int)<((s++lineB c).size:Int))=decide (65536<(s++lineB c).size):=decide_eq_decide.2 (by omega)
   simp only[hle,if_true,ez]
   cases hd:decide (65536<(s++lineB c).size)
   ·rw[hd]at hq
    exact .inl ⟨s++lineB c,fun next=>by simp only[cond_false],hq,by simpa using hd⟩
   ·rw[hd]at hq
    exact .inr fun next=>by rw[ht,hq];simp only[cond_true]
  ·intro s hq next
   rw[List.drop_length,catB]at hq
   simp only[ref32_Text.s3,dle,cond_false]
   rw[ht,hq.1]
end Go.Ab.X
