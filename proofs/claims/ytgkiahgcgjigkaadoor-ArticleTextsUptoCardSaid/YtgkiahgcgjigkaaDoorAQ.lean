/- A part of the proof: AQ. -/
import Derived.Test.YtgkiahgcgjigkaaDoorUX
import Derived.Test.YtgkiahgcgjigkaaDoorAS
import Derived.Lib.AppendIntMem
import Derived.Lib.ItoaLen
import Derived.Lib.AtoiErrMem
import Derived.Test.YtgkiahgcgjigkaaDoorChecked
set_option linter.all false
set_option linter.all false
set_option maxRecDepth 100000
namespace Go.Ab.X
open Go.RowKit Go.Ab Go.Proofs
theorem atoi_rng{l:List UInt8}{v:Int}(h:Lib.atoiAll l=.ok v) : -9223372036854775808<=v/\v<=9223372036854775807:=by
 unfold Lib.atoiAll at h
 split at h
 ·cases h
 ·simp only at h
  split at h
  ·cases h
  ·cases h
  ·split at h
   ·cases h
   ·split at h
    ·cases h
    ·rename_i c r _ u hu h1 h2
     have:=Lib.parseMag_lt hu
     injection h with h
     split at h<;>omega
theorem cut_size(s p:List UInt8):(Lib.cut s p).1.length<=s.length/\(Lib.cut s p).2.1.length<=s.length:=by
 unfold Lib.cut
 split
 ·simp only[List.length_take,List.length_drop];omega
 ·simp
theorem fine1_walk(x:Nat)(hx:x<=1114111)(w:World):Calls Tryd.prog 23 #[.int .i32 (x:Int)] w fun e w'=>e=.returned (.bool (odd x))/\Below w.heap.size w w':=by
 go_enter Tryd.func23,Tryd.ntmps23
 go_wp2
 all_goals go_ret
 ·rename_i h
  refine⟨?_,Below.refl _ _⟩
  have e1:decide ((x:Int)<33)=decide (x<33):=decide_eq_decide.2 (by omega)
  have e2:decide ((126:Int)<x)=decide (126<x):=decide_eq_decide.2 (by omega)
  simp[odd,e1,e2]
 ·rename_i h
  exact⟨by simp[odd,show x<33 by omega],Below.refl _ _⟩
abbrev PgOk(f:List (HB G)->List (N G)->Option (List (HB G)×N G))(g:Nat):Prop:=∀(H:List (HB G)) (args:List (N G)) (Ho:List (HB G)) (y:N G),f H args=some (Ho,y)->noPin H=true->∀(B:Nat->Value) (β:Nat->Value),
  PG Tryd.prog g (absH β 0 H++pinsOf B (boxIx 0 0 H)) (absL args) (absH β 0 Ho++pinsOf B (boxIx 0 0 H)) y.abs
theorem cut_pg:PgOk pCut 20:=by
 intro H args Ho y h hnp B β
 unfold pCut at h
 split at h
 ·rename_i s p
  obtain⟨rfl,rfl⟩:Ho=[]/\y=.tup [.v .str (cutB s p).1,.v .str (cutB s p).2.1,.v .bool (cutB s p).2.2]:=by cases h;exact⟨rfl,rfl⟩
  refine⟨fun _ _=>by kernel_rfl,fun I θ w vals S hv=>?_⟩
  have hv:RVs I θ w [.s s,.s p] vals:=hv
  simp only[RVs,RV]at hv
  obtain⟨v,r,rfl,⟨rfl,hs⟩,v',r',rfl,⟨rfl,hp⟩,rfl⟩:=hv
  obtain⟨⟨m,t,f,hm⟩,-⟩:=S.below.w
  have hc:w.cell? ⟨0,0,none⟩=some (.int .i64 m):=by rw[Lib.cell_of_heap hm];rfl
  have:=cut_size s.data.toList p.data.toList
  have hl:s.data.toList.length=ByteArray.size s:=by rw[Array.length_toList];rfl
  simp only[LIM]at hs hp
  refine(Tryd.strings_Cut s p m w (by omega) hc).mono ?_
  rintro e w' ⟨rfl,n,rfl⟩
  obtain⟨S',_⟩:=S.called (w':=w.drewN n) ⟨rfl,rfl,rfl,Nat.le_refl _,fun _ _=>rfl⟩
  refine⟨_,_,θ,rfl,S',?_⟩
  show RV _ θ _ (.tup [.s (cutB s p).1,.s (cutB s p).2.1,.b (cutB s p).2.2]) _
  simp only[RV,RVs]
  refine⟨[_,_,_],rfl,_,_,rfl,⟨rfl,?_⟩,_,_,rfl,⟨rfl,?_⟩,_,_,rfl,rfl,rfl⟩
  ·simp only[cutB,ByteArray.size,List.size_toArray,LIM];omega
  ·simp only[cutB,ByteArray.size,List.size_toArray,LIM];omega
 ·cases h
theorem itoa_pg:PgOk pItoa 27:=by
 intro H args Ho y h hnp B β
 unfold pItoa at h
 split at h
 ·rename_i n
  obtain⟨rfl,rfl⟩:Ho=[]/\y=.v .str (itoaB n):=by cases h;exact⟨rfl,rfl⟩
  refine⟨fun _ _=>by kernel_rfl,fun I θ w vals S hv=>?_⟩
  have hv:RVs I θ w [.i .i64 n] vals:=hv
  simp only[RVs,RV]at hv
  obtain⟨v,r,rfl,⟨rfl,h1,h2⟩,rfl⟩:=hv
  simp[IntKind.min,IntKind.max,IntKind.signed,IntKind.bits]at h1 h2
  obtain⟨-,-,-,t,f,ht⟩:=S.below.w
  have htab : Lib.TabIs Tryd.prog w "internal/strconv.uint64pow10" .u64 Lib.pow10Tab := by
   unfold Lib.TabIs World.var?
   rw [show Tryd.prog.globalNamed "internal/strconv.uint64pow10" = some 3 by kernel_rfl]
   simp[ht]
  refine(Tryd.strconv_Itoa n h1 h2 w htab).mono ?_
  rintro e w' ⟨rfl,k,os,rfl⟩
  obtain⟨S',_⟩:=S.called (Lib.below_grow w.heap.size w (Nat.le_refl _) k os)
  refine⟨_,_,θ,rfl,S',?_⟩
  show RV _ θ _ (.s (itoaB n)) _
  simp only[RV]
  refine⟨rfl,?_⟩
  have:=Lib.itoa_length_le n h1 h2
  simp only[itoaB,ByteArray.size,List.size_toArray,LIM];omega
 ·cases h
theorem atoi_pg:PgOk pAtoi 32:=by
 intro H args Ho y h hnp B β
 unfold pAtoi at h
 split at h
 ·rename_i s
  obtain⟨rfl,rfl⟩:Ho=[]/\y=.tup [.v .int (atoiB s),.u]:=by cases h;exact⟨rfl,rfl⟩
  refine⟨fun _ _=>by kernel_rfl,fun I θ w vals S hv=>?_⟩
  have hv:RVs I θ w [.s s] vals:=hv
  simp only[RVs,RV]at hv
  obtain⟨v,r,rfl,⟨rfl,hs⟩,rfl⟩:=hv
  simp only[LIM]at hs
  obtain⟨-,⟨tp1,p1,t1,f1,e1⟩,⟨tp2,p2,t2,f2,e2⟩,-⟩:=S.below.w
  have c1:w.cell? ⟨1,0,none⟩=some (.iface tp1 p1):=by rw[Lib.cell_of_heap e1];rfl
  have c2:w.cell? ⟨2,0,none⟩=some (.iface tp2 p2):=by rw[Lib.cell_of_heap e2];rfl
  have fin:∀(n:Int) (u:Value) (w':World),Below w.heap.size w w'->n=atoiB s->(-9223372036854775808<=n/\n<=9223372036854775807)->∃ v I' θ',Ending.returned (.tuple #[.int .i64 n,u])=.returned v/\Sim (lentΓ I w (absH β 0 ([]:List (HB G))++pinsOf B (boxIx 0 0 ([]:List (HB G)))) θ) I' θ' (absH β 0 ([]:List (HB G))++pinsOf B (boxIx 0 0 ([]:List (HB G)))) w'/\RV I' θ' w' (N.tup [.v .int (atoiB s),.u]:N G).abs v:=by
   intro n u w' hb hn hr
   obtain⟨S',_⟩:=S.called hb
   refine⟨_,_,θ,rfl,S',?_⟩
   show RV _ θ _ (.tup [.i .i64 (atoiB s),.u]) _
   simp only[RV,RVs]
   exact⟨[_,_],rfl,_,_,rfl,⟨by rw[hn],by rw[<-hn];simpa [IntKind.min,IntKind.max,IntKind.signed,IntKind.bits] using hr⟩,_,_,rfl,trivial,rfl⟩
  cases ha:Lib.atoiAll s.data.toList with
  | ok v =>
   refine(Tryd.strconv_Atoi_ok s (by omega) v ha w).mono ?_
   rintro e w' ⟨rfl,hw⟩
   refine fin _ _ w' ?_ (by simp[atoiB,ha]) (atoi_rng ha)
   rcases hw with rfl|⟨t,rfl⟩
   ·exact Below.refl _ _
   ·exact Lib.bytesWorld_below _ _ _
  | range =>
   refine(Tryd.strconv_Atoi_range s (by omega) ha _ w c2 (.inr ⟨_,_,rfl⟩)).mono ?_
   rintro e w' ⟨N,rfl,-,-,hb⟩
   exact fin _ _ w' hb (by simp[atoiB,ha]) (by unfold Lib.atoiSat;split<;>decide)
  | _ =>
   refine(Tryd.strconv_Atoi_syntax s (by omega) ha _ w c1 (.inr ⟨_,_,rfl⟩)).mono ?_
   rintro e w' ⟨N,rfl,-,-,hb⟩
   exact fin _ _ w' hb (by simp[atoiB,ha]) (by decide)
 ·cases h
theorem cf_pg:PgOk pCF 24:=by
 intro H args Ho y h hnp B β
 unfold pCF at h
 split at h
 ·rename_i s f
  cases hf:Nat.beq f 23<;>rw[hf]at h
  ·cases h
  obtain rfl:=Nat.eq_of_beq_eq_true hf
  obtain⟨rfl,rfl⟩:Ho=[]/\y=.v .bool (oddB s):=by cases h;exact⟨rfl,rfl⟩
  refine⟨fun _ _=>by kernel_rfl,fun I θ w vals S hv=>?_⟩
  have hv:RVs I θ w [.s s,.fn (.func 23) [] []] vals:=hv
  simp only[RVs,RV]at hv
  obtain⟨v,r,rfl,⟨rfl,hs⟩,v',r',rfl,⟨x,y,rfl,rfl,rfl⟩,rfl⟩:=hv
  refine(Tryd.strings_ContainsFunc_grows 23 #[] (fun _ _=>by kernel_rfl) odd s w (fun W x hx _=>fine1_walk x hx W)).mono ?_
  rintro e w' ⟨rfl,hb⟩
  obtain⟨S',_⟩:=S.called hb
  refine⟨_,_,θ,rfl,S',?_⟩
  show RV _ θ _ (.b (oddB s)) _
  simp only[RV,oddB]
 ·cases h
end Go.Ab.X
namespace Go.Ab.X
open Go.RowKit Go.Ab Go.Proofs
theorem strs_rve{I:Addr->Prop}{θ:Nat->Option Value}{w:World}{b:Nat}:∀(l:List ByteArray) (o:Nat),(∀ a:Addr,a.block=b->I a)->(∀ j s,l[j]? = some s->w.cell? ⟨b,o+j,none⟩=some (.string s))->(∀ s∈l,s.size<=LIM) ->
  RVe I θ w (l.map fun s=>[AV.s s]) b o
 | [],_,_,_,_=>by simp[RVe]
 | s::l,o,hI,hc,hs=>by
  simp only[List.map_cons,RVe,RVc,RV,List.length_cons,List.length_nil,and_true]
  refine⟨⟨hI _ rfl,.string s,by have:=hc 0 s rfl;simpa using this,rfl,rfl,hs s (by simp)⟩,?_⟩
  exact strs_rve l (o+1) hI (fun j u hj=>by have:=hc (j+1) u hj;rwa [show o+1+j=o+(j+1) by omega]) (fun u hu=>hs u (by simp[hu]))
theorem split_pg:PgOk pSplit 36:=by
 intro H args Ho y h hnp B β
 unfold pSplit at h
 split at h
 ·rename_i s p
  cases hb:(Nat.blt 0 (ByteArray.size p) && (Nat.ble (splB s p).length LIM && (splB s p).all fun x=>Nat.ble x.size LIM))<;>rw[hb]at h
  ·cases h
  obtain⟨rfl,rfl⟩:Ho=[]/\y=.v .lstr (splB s p):=by cases h;exact⟨rfl,rfl⟩
  simp only[Bool.and_eq_true,List.all_eq_true]at hb
  obtain⟨b1,b2,b3⟩:=hb
  have b1:1<=ByteArray.size p:=Nat.le_of_ble_eq_true b1
  have b2:=Nat.le_of_ble_eq_true b2
  have b3:∀ x∈splB s p,x.size<=LIM:=fun x hx=>Nat.le_of_ble_eq_true (b3 x hx)
  refine⟨fun _ _=>by kernel_rfl,fun I θ w vals S hv=>?_⟩
  have hv:RVs I θ w [.s s,.s p] vals:=hv
  simp only[RVs,RV]at hv
  obtain⟨v,r,rfl,⟨rfl,hs⟩,v',r',rfl,⟨rfl,hp⟩,rfl⟩:=hv
  obtain⟨⟨m,t,f,hm⟩,-⟩:=S.below.w
  have hc:w.cell? ⟨0,0,none⟩=some (.int .i64 m):=by rw[Lib.cell_of_heap hm];rfl
  have hlen:(splB s p).length=Lib.countB s p+1:=Lib.splitB_all p b1 0 _ s rfl
  simp only[LIM]at hs hp
  refine(Tryd.strings_Split s p m w (by omega) hc b1).mono ?_
  rintro e w' ⟨rfl,rfl⟩
  obtain⟨S',_⟩:=S.called (w':=w.alloc (.cells ((Lib.splitB p 0 (Lib.countB s p) s).map Value.string).toArray 9)) ((Below.refl _ _).alloc (Nat.le_refl _) _)
  refine⟨_,_,θ,rfl,S',?_⟩
  show RV _ θ _ (.sl false 1 ((splB s p).map fun s=>[AV.s s])) _
  simp only[RV,List.length_map]
  rw[<-hlen]
  refine⟨?_,_,_,rfl,Nat.le_refl _,?_,b2,(fun h=>by cases h),fun _=>⟨by decide,?_,_,_,rfl,?_⟩⟩
  ·clear hlen b2 b3;induction splB s p with
   | nil=>rfl
   | cons x l ih=>simp only[List.map_cons,pureE,pureL,pureB,Bool.and_self];exact ih
  ·unfold maxLen;simp only[LIM]at b2;omega
  ·intro el hel
   obtain⟨x,_,rfl⟩:=List.mem_map.1 hel
   rfl
  ·refine strs_rve _ 0 (fun a ha=>.inr ⟨by omega,by simp[ha]⟩) (fun j x hx=>?_) b3
   rw[Nat.zero_add,World.cell?_alloc_new]
   have:(splB s p)=Lib.splitB p 0 (Lib.countB s p) s:=rfl
   rw[<-this]
   simp[hx]
 ·cases h
end Go.Ab.X
