/- A part of the proof: BA. -/
import Derived.Test.YtgkiahgcgjigkaaDoorAZ
set_option linter.all false
set_option linter.all false
set_option maxRecDepth 100000
namespace Go.Ab.X
open Go.RowKit Go.Ab Go.Proofs
def cmdV(c:Scmd):Value:=.agg #[.int .u8 c.op,.int .i64 c.n,.string c.text]
structure CmdR(c:Scmd):Prop where
 op0:0<=c.op
 op1:c.op<=255
 n0 : -9223372036854775808<=c.n
 n1:c.n<=9223372036854775807
 t:c.text.size<=LIM
theorem cmd_rv{c:Scmd}(h:CmdR c)(I:Addr->Prop)(θ:Nat->Option Value)(w:World):RVs I θ w (absL [(.v .cmd c:N G)]) [cmdV c]:=by
 show RVs I θ w [.agg [.i .u8 c.op,.i .i64 c.n,.s c.text]] [cmdV c]
 simp only[RVs,RV]
 have h2 : -9223372036854775808<=c.n/\c.n<=9223372036854775807:=⟨h.n0,h.n1⟩
 exact⟨_,_,rfl,⟨[.int .u8 c.op,.int .i64 c.n,.string c.text],rfl,by simp[Value.oneCell'],_,_,rfl,⟨rfl,by simpa [IntKind.min,IntKind.max,IntKind.signed,IntKind.bits] using And.intro h.op0 h.op1⟩,_,_,rfl,⟨rfl,by simpa [IntKind.min,IntKind.max,IntKind.signed,IntKind.bits] using h2⟩,_,_,rfl,⟨rfl,h.t⟩,rfl⟩,rfl⟩
theorem formed_c{c:Scmd}(h:CmdR c)(w:World)(hw:JW w):Calls Tryd.prog 11 #[cmdV c] w fun e w'=>e=.returned (.bool (fmB c))/\Below w.heap.size w w':=by
 refine((ans_ok G_ok Y_ok (formed_y c) rfl).2 (fun _=>False) w [cmdV c] (fun _ h=>h.elim) hw (cmd_rv h _ _ _)).mono ?_
 rintro e w' ⟨v,rfl,hb,hv⟩
 have hv:v=.bool (fmB c):=hv
 exact⟨by rw[hv],hb⟩
theorem fine_c(s:ByteArray)(hs:s.size<=LIM)(w:World)(hw:JW w):Calls Tryd.prog 12 #[.string s] w fun e w'=>e=.returned (.bool (fineB s))/\Below w.heap.size w w':=by
 refine((ans_ok G_ok Y_ok (fine_y s) rfl).2 (fun _=>False) w [.string s] (fun _ h=>h.elim) hw ?_).mono ?_
 ·show RVs _ _ _ [.s s] _
  simp only[RVs,RV]
  exact⟨_,_,rfl,⟨rfl,hs⟩,rfl⟩
 ·rintro e w' ⟨v,rfl,hb,hv⟩
  have hv:v=.bool (fineB s):=hv
  exact⟨by rw[hv],hb⟩
theorem fmB_op{c:Scmd}(h:fmB c=true):c.op<=29:=by
 simp only[fmB,Bool.and_eq_true,decide_eq_true_eq]at h;exact h.1.1.2
theorem good_text{c:Scmd}(h:badB c=false):fmB c=true/\c.text.size<=30:=by
 simp only[badB,Bool.or_eq_false_iff,Bool.not_eq_false',Bool.and_eq_false_iff,Bool.not_eq_false',decide_eq_false_iff_not]at h
 refine⟨h.1,?_⟩
 have h1:=h.1
 simp only[fmB,Bool.and_eq_true,Bool.or_eq_true,decide_eq_true_eq]at h1
 rcases h1.2 with e|e
 ·rcases h.2 with h2|h2
  ·exact absurd e h2
  ·simp only[fineB,Bool.and_eq_true,decide_eq_true_eq]at h2;exact h2.1.2
 ·rw[e];decide
theorem line_c{c:Scmd}(h:CmdR c)(hg:badB c=false)(w:World)(hw:JW w):Calls Tryd.prog 14 #[cmdV c] w fun e w'=>e=.returned (.string (lineB c))/\(lineB c).size<=LIM/\Below w.heap.size w w':=by
 refine((ans_ok G_ok Y_ok (line_y c h.op0 (fmB_op (good_text hg).1) (good_text hg).2 h.n0 h.n1) rfl).2 (fun _=>False) w [cmdV c] (fun _ h=>h.elim) hw (cmd_rv h _ _ _)).mono ?_
 rintro e w' ⟨v,rfl,hb,hv⟩
 have hv:RV _ noθ w' (.s (lineB c)) v:=hv
 simp only[RV]at hv
 exact⟨by rw[hv.1],hv.2,hb⟩
end Go.Ab.X

set_option linter.all false
set_option maxRecDepth 100000
namespace Go.Ab.X
open Go.RowKit Go.Ab Go.Proofs
theorem pot{n k:Nat}(h:k<n):n-(RowKit.intOf (.int .i64 ((k+1:Nat):Int))).toNat<n-(RowKit.intOf (.int .i64 (k:Int))).toNat:=by
 simp only[RowKit.intOf];omega
theorem wrap_len{k:Nat}(h:k<LIM):wrap64 ((k:Int)+1)=((k+1:Nat):Int):=by
 simp only[LIM]at h
 unfold wrap64;omega
theorem JW_below{w w':World}(h:JW w)(hb:Below w.heap.size w w'):JW w':=JW_of h fun g hg=>hb.block g (JW_lt h g hg)
structure ElAt(w:World)(a:Option Addr)(k:Nat)(c:Scmd):Prop where
 r:CmdR c
 at_:∃ B o,a=some ⟨B,o,none⟩/\B<w.heap.size/\∀ wr,Below w.heap.size w wr->wr.cell? ⟨B,o+k * 3,none⟩=some (.int .u8 c.op)/\wr.cell? ⟨B,o+k * 3+1,none⟩=some (.int .i64 c.n)/\wr.cell? ⟨B,o+k * 3+2,none⟩=some (.string c.text)
theorem el_at{I:Addr->Prop}{θ:Nat->Option Value}{w:World}{l:List Scmd}{a:Option Addr}
  (q5:l.map C_cmd≠[]->0<3/\(∀ el∈l.map C_cmd,el.length=3)/\∃ B o,a=some ⟨B,o,none⟩/\RVe I θ w (l.map C_cmd) B o) {k:Nat} {c:Scmd} (hk:l[k]? = some c):ElAt w a k c:=by
 obtain⟨_,g1,B,o,rfl,g2⟩:=q5 (by intro h;rw[List.map_eq_nil_iff]at h;rw[h]at hk;cases hk)
 obtain⟨ws,gr,gs,gc⟩:=RVc_vals (RVe_get g2 g1 k (C_cmd c) (by simp[hk]))
 have gr:RVs I θ w [.i .u8 c.op,.i .i64 c.n,.s c.text] ws:=gr
 simp only[RVs,RV]at gr
 obtain⟨v1,_,rfl,⟨rfl,a1,a2⟩,v2,_,rfl,⟨rfl,b1,b2⟩,v3,_,rfl,⟨rfl,ht⟩,rfl⟩:=gr
 simp[IntKind.min,IntKind.max,IntKind.signed,IntKind.bits]at a1 a2 b1 b2
 have c0:=gc 0 _ rfl
 have c1:=gc 1 _ rfl
 have c2:=gc 2 _ rfl
 have hB:B<w.heap.size:=block_lt_of_cell c0
 exact⟨⟨a1,a2,b1,b2,ht⟩,B,o,rfl,hB,fun wr hb=>⟨(World.cell?_of_block (a:=⟨B,o+k * 3,none⟩) (hb.block B hB)).trans c0,(World.cell?_of_block (a:=⟨B,o+k * 3+1,none⟩) (hb.block B hB)).trans c1,(World.cell?_of_block (a:=⟨B,o+k * 3+2,none⟩) (hb.block B hB)).trans c2⟩⟩
theorem any_take{l:List Scmd}{k:Nat}{c:Scmd}(hk:l[k]? = some c):(l.take (k+1)).any badB=((l.take k).any badB || badB c):=by
 rw[List.take_add_one,hk];simp
theorem text_bad{l:List Scmd}{k:Nat}{c:Scmd}(hc:l[k]? = some c)(h:badB c=true):textB l=(⟨#[]⟩,2):=by
 have:l.any badB=true:=List.any_eq_true.2 ⟨c,List.mem_of_getElem? hc,h⟩
 unfold textB;rw[this];rfl
theorem heap_alloc(w:World)(o:Obj):(w.alloc o).heap[w.heap.size]? = some o:=by
 show(w.heap.push o)[w.heap.size]? = some o
 exact Array.getElem?_push_size
set_option maxHeartbeats 2000000 in
theorem text_w(I:Addr->Prop)(θ:Nat->Option Value)(w:World)(l:List Scmd)(v:Value)(hJ:JW w)(hv:RV I θ w (.sl false 3 (l.map C_cmd)) v) :
  Calls Tryd.prog 6 #[v] w fun e w'=>e=.returned (.tuple #[.string (textB l).1,.int .i64 (textB l).2])/\Below w.heap.size w w':=by
 simp only[RV,List.length_map]at hv
 obtain⟨hpe,a3,cap,rfl,q1,q2,q3,q4,q5⟩:=hv
 have hel:∀ k c,l[k]? = some c->ElAt w a3 k c:=fun k c hk=>el_at q5 hk
 clear q5 hpe
 go_enter Tryd.func6,Tryd.ntmps6
 go_wp2
 go_loopw [11] (fun i wr=>∃ k:Nat,i=.int .i64 k/\k<=l.length/\Hid ((l.take k).any badB=false)/\Below w.heap.size w wr/\wr.heap[w.heap.size]? = some (.cells #[.pointer none,.slice none 0 0] 41 (0,0))) (fun i _=>l.length-(RowKit.intOf i).toNat)
 case atStart=>exact⟨0,rfl,Nat.zero_le _,rfl,(Below.refl _ _).alloc (Nat.le_refl _) _,heap_alloc _ _⟩
 case round =>
  obtain⟨k,rfl,hk,hbad,hb,hh⟩:=hrel
  by_cases hlt:k<l.length
  ·have hkd:decide ((k:Int)<(l.length:Int))=true:=by simp;omega
   obtain⟨c,hc⟩:∃ c,l[k]? = some c:=⟨_,List.getElem?_eq_getElem hlt⟩
   obtain⟨hcr,B,o,rfl,hB,hcells⟩:=hel k c hc
   obtain⟨z0,z1,z2⟩:=hcells wr hb
   obtain⟨W3,hW3⟩:∃ W3,wr.alloc (Obj.cells #[.int .u8 c.op,.int .i64 c.n,.string c.text] 37)=W3:=⟨_,rfl⟩
   have hb3:Below w.heap.size w W3:=by rw[<-hW3];exact hb.alloc hb.size _
   have hJ3:=JW_below hJ hb3
   have k0:W3.cell? ⟨wr.heap.size,0,none⟩=some (.int .u8 c.op):=by rw[<-hW3];exact(World.cell?_alloc_new _ _ _ 0).trans rfl
   have k1:W3.cell? ⟨wr.heap.size,1,none⟩=some (.int .i64 c.n):=by rw[<-hW3];exact(World.cell?_alloc_new _ _ _ 1).trans rfl
   have k2:W3.cell? ⟨wr.heap.size,2,none⟩=some (.string c.text):=by rw[<-hW3];exact(World.cell?_alloc_new _ _ _ 2).trans rfl
   have hs3:W3.heap.size=wr.heap.size+1:=by rw[<-hW3];simp
   have hcell:∀(w':World),Below W3.heap.size W3 w'->w'.cell? ⟨wr.heap.size,0,none⟩=some (.int .u8 c.op)/\w'.cell? ⟨wr.heap.size,2,none⟩=some (.string c.text):=fun w' h =>
    ⟨(World.cell?_of_block (a:=⟨wr.heap.size,0,none⟩) (h.block _ (by simp;omega))).trans k0,(World.cell?_of_block (a:=⟨wr.heap.size,2,none⟩) (h.block _ (by simp;omega))).trans k2⟩
   have hown:∀(w':World),Below W3.heap.size W3 w'->Below w.heap.size w w'/\w'.heap[w.heap.size]? = some (.cells #[.pointer none,.slice none 0 0] 41 (0,0)):=fun w' h=>by
    have hwr:w.heap.size<wr.heap.size:=(Array.getElem?_eq_some_iff.1 hh).1
    refine⟨hb3.trans (h.mono ?_),(h.block _ (by omega)).trans ?_⟩
    ·omega
    ·rw[<-hW3];exact(Below.heap_alloc _ _ _ hwr).trans hh
   have hbk:=any_take hc
   rw[hbad.out,Bool.false_or]at hbk
   go_wp2_with (go_at_call 11;refine(formed_c hcr W3 hJ3).mono ?_)
   rintro e W4 ⟨rfl,hb4⟩
   obtain⟨m0,m2⟩:=hcell _ hb4
   obtain⟨hb4',hh4⟩:=hown _ hb4
   have hJ4:=JW_below hJ hb4'
   clear hW3 k0 k1 k2 hcells
   cases hf:fmB c
   ·have hbt:textB l=(⟨#[]⟩,2):=text_bad hc (by simp[badB,hf])
    go_wp2
    go_ret2
    rw[hbt]
    exact⟨rfl,hb4'⟩
   ·by_cases h2:c.op=2
    ·go_wp2_with (go_at_call 12;refine(fine_c c.text hcr.t W4 hJ4).mono ?_)
     rintro e W5 ⟨rfl,hb5⟩
     have hb45:=hb4.trans (hb5.mono hb4.size)
     obtain⟨m0,m2⟩:=hcell _ hb45
     obtain⟨hb4',hh4⟩:=hown _ hb45
     cases hfn:fineB c.text
     ·have hbt:textB l=(⟨#[]⟩,2):=text_bad hc (by simp[badB,hf,h2,hfn])
      go_wp2
      go_ret2
      rw[hbt]
      exact⟨rfl,hb4'⟩
     ·go_wp2
      rw[wrap_len (Nat.lt_of_lt_of_le hlt q3)]
      exact⟨⟨k+1,rfl,hlt,hbk.trans (by simp[badB,hf,h2,hfn]),hb4',hh4⟩,pot hlt⟩
    ·go_wp2
     rw[wrap_len (Nat.lt_of_lt_of_le hlt q3)]
     exact⟨⟨k+1,rfl,hlt,hbk.trans (by simp[badB,hf,h2]),hb4',hh4⟩,pot hlt⟩
  ·obtain rfl:k=l.length:=by omega
   rw[List.take_length]at hbad
   go_wp2
   go_loopw [32] (fun i wr=>∃ k:Nat,i=.int .i64 k/\k<=l.length/\Hid (∃ s,catB l ⟨#[]⟩=catB (l.drop k) s/\s.size<=65536/\Lib.IsBuilderF 41 5 w.heap.size w.heap.size (Lib.strCells s) wr)/\Below w.heap.size w wr) (fun i _=>l.length-(RowKit.intOf i).toNat)
   case atStart=>exact⟨0,rfl,Nat.zero_le _,⟨⟨#[]⟩,rfl,Nat.zero_le _,.inl ⟨Nat.le_refl _,.slice none 0 0,hh,World.ownsRowF_nil _ _ _ _,(by simp[Value.ownBlock])⟩⟩,hb⟩
   case round =>
    clear hb hh hk
    obtain⟨k,rfl,hk,hs,hb⟩:=hrel
    obtain⟨s,hcat,hsz,hbl⟩:=hs
    by_cases hlt:k<l.length
    ·have hkd:decide ((k:Int)<(l.length:Int))=true:=by simp;omega
     obtain⟨c,hc⟩:∃ c,l[k]? = some c:=⟨_,List.getElem?_eq_getElem hlt⟩
     have hg:badB c=false:=by
      cases e:badB c with
      | false=>rfl
      | true =>
       have:l.any badB=true:=List.any_eq_true.2 ⟨c,List.mem_of_getElem? hc,e⟩
       rw[hbad.out]at this;cases this
     obtain⟨hcr,B,o,rfl,hB,hcells⟩:=hel k c hc
     obtain⟨z0,z1,z2⟩:=hcells wr hb
     obtain⟨W3,hW3⟩:∃ W3,wr.alloc (Obj.cells #[.int .u8 c.op,.int .i64 c.n,.string c.text] 37)=W3:=⟨_,rfl⟩
     have hb3:Below w.heap.size w W3:=by rw[<-hW3];exact hb.alloc hb.size _
     have hJ3:=JW_below hJ hb3
     have k0:W3.cell? ⟨wr.heap.size,0,none⟩=some (.int .u8 c.op):=by rw[<-hW3];exact(World.cell?_alloc_new _ _ _ 0).trans rfl
     have k1:W3.cell? ⟨wr.heap.size,1,none⟩=some (.int .i64 c.n):=by rw[<-hW3];exact(World.cell?_alloc_new _ _ _ 1).trans rfl
     have k2:W3.cell? ⟨wr.heap.size,2,none⟩=some (.string c.text):=by rw[<-hW3];exact(World.cell?_alloc_new _ _ _ 2).trans rfl
     have hbl3:Lib.IsBuilderF 41 5 w.heap.size w.heap.size (Lib.strCells s) W3:=keepI hbl (by rw[<-hW3];exact(Below.refl _ _).alloc (Nat.le_refl _) _)
     go_wp2_with (go_at_call 14;refine(line_c hcr hg W3 hJ3).mono ?_)
     rintro e W4 ⟨rfl,hls,hb4⟩
     clear hW3 hcells hbl k0 k1 k2
     have hbl4:=keepI hbl3 hb4
     have hb4':Below w.heap.size w W4:=hb3.trans (hb4.mono hb3.size)
     go_wp2_with (go_at_call 13;refine(write_w w.heap.size w.heap.size (Lib.strCells s) (lineB c) W4 hbl4 (by rw[Lib.strCells_length];simp only[LIM]at hls;omega) hb4'.size).mono ?_)
     rintro e W5 ⟨rfl,hbl5,hb5⟩
     have hb5':Below w.heap.size w W5:=hb4'.trans hb5
     have hap:Lib.strCells s++Lib.strCells (lineB c)=Lib.strCells (s++lineB c):=by
      simp[Lib.strCells]
     rw[hap]at hbl5
     have hdr:l.drop k=c::l.drop (k+1):=by
      obtain⟨h1,rfl⟩:=List.getElem?_eq_some_iff.1 hc
      exact List.drop_eq_getElem_cons h1
     have hlen:(Lib.strCells (s++lineB c)).length=(s++lineB c).size:=Lib.strCells_length _
     go_wp2_with (go_at_call 15;refine(Tryd.Builder_Len_f w.heap.size w.heap.size _ W5 (.inr hbl5)).mono ?_)
     rintro e W6 ⟨rfl,rfl⟩
     have hz:(s++lineB c).size=s.size+(lineB c).size:=ByteArray.size_append
     by_cases hbig:65536<s.size+(lineB c).size
     ·have hbt:textB l=(⟨#[]⟩,4):=by
       unfold textB
       rw[hbad.out,hcat,hdr]
       simp only[catB,hz,hbig,decide_true,cond_true,cond_false]
      have hd:decide ((65536:Int)<(s.size:Int)+((lineB c).size:Int))=true:=by simp;omega
      go_wp2
      go_ret2
      rw[hbt]
      exact⟨rfl,hb5'⟩
     ·have hd:decide ((65536:Int)<(s.size:Int)+((lineB c).size:Int))=false:=by simp;omega
      go_wp2
      rw[wrap_len (Nat.lt_of_lt_of_le hlt q3)]
      refine⟨⟨k+1,rfl,hlt,⟨s++lineB c,?_,by omega,.inr hbl5⟩,hb5'⟩,pot hlt⟩
      rw[hcat,hdr]
      simp only[catB,hz,hbig,decide_false,cond_false]
    ·obtain rfl:k=l.length:=by omega
     rw[List.drop_length]at hcat
     have hbt:textB l=(s,0):=by
      unfold textB
      rw[hbad.out,hcat]
      rfl
     go_wp2_with (go_at_call 16;refine(Tryd.Builder_String_any_f w.heap.size w.heap.size s.data.toList _ hbl hb.size).mono ?_)
     rintro e W6 ⟨rfl,_,hb6⟩
     go_wp2
     go_ret2
     rw[hbt]
     exact⟨rfl,hb.trans hb6⟩
end Go.Ab.X
